-- The words' texts, cut by prune.py to what this claim's texts name. Not trusted: Lean checks it.
import Derived.Test.YtnjkdnbmpldokaaWInv
import Derived.Test.YtnjkdnbmpldokaaWFootNe
namespace Go.Proofs.YtnjkdnbmpldokaaW.PrintWords
open Go.RowKit
end Go.Proofs.YtnjkdnbmpldokaaW.PrintWords
namespace Go.Proofs.YtnjkdnbmpldokaaW.PrintLast
section
variable {ops : Array Oper} {a : Act} {o og : Oper} {g : Nat} {t : Tmp} {u : Bool}
end
end Go.Proofs.YtnjkdnbmpldokaaW.PrintLast
