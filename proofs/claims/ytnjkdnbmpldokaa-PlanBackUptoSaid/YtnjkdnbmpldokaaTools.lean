import Derived.RangeFuncIn
import Derived.RangeFuncRecord
import Derived.RangeFuncSeq
import Derived.WalkKit
import Derived.WalkMore
import Derived.Maps.Own
import Derived.Maps.OwnOps
import Derived.Maps.OwnIn
import Derived.Maps.Views
import Derived.Maps.StringElems
import Derived.OwnWalk
import Derived.Test.YtnjkdnbmpldokaaBase
import Derived.Test.YtnjkdnbmpldokaaWWords
import Derived.Test.YtnjkdnbmpldokaaLib
import Derived.Shelf.Strings.Search2
import Derived.Shelf.Strings.Cut
import Derived.Shelf.Abstract
import Derived.Lib.IndexLaws
import Derived.OwnWalkIn
import Derived.Test.YtnjkdnbmpldokaaWLast
import Derived.Test.YtnjkdnbmpldokaaWMore
import Derived.Test.YtnjkdnbmpldokaaRows
import Derived.ProofKit
import Derived.OpenShut
import Derived.JoinedCond
import Derived.Carry
import Derived.Deep.Slices
import Derived.ChangeArms
import Derived.ChangeSame
import Derived.WideShapes
/- A range over a function, told directly: the rounds' worlds are exact; and a small word for maps from texts to texts. -/
namespace Go.Proofs.YtnjkdnbmpldokaaB
open Go Go.RowKit
variable {F : Fence} {n : Nat} {P : Program}

def busy_ (r : Loop) : Loop := { r with state := .busy }
def ready_ (r : Loop) : Loop := { r with state := .ready, pending := none }
def done_ (r : Loop) (c : Code) : Loop := { r with state := .done, pending := some c }
def exh_ (r : Loop) : Loop := { r with state := .exhausted }
/-- What is asked where a round's body ends. -/
def RoundEnd (l : Nat) (r : Loop) (R : Ending → World → Prop) : Exit → World → Prop
  | .normal, w₂ => w₂.heap[l]? = some (.loop (busy_ r)) ∧ R (.returned (.bool true)) (w₂.putObj l (.loop (ready_ r)))
  | .ret, w₂ => w₂.heap[l]? = some (.loop (busy_ r)) ∧ R (.returned (.bool false)) (w₂.putObj l (.loop (done_ r .ret)))
  | .exit id, w₂ => w₂.heap[l]? = some (.loop (busy_ r)) ∧ R (.returned (.bool false)) (w₂.putObj l (.loop (done_ r (.exit id))))
  | _, _ => False
/-- What is asked where the assignments end. -/
def RoundBegun (F : Fence) (n : Nat) (P : Program) (l : Nat) (r : Loop) (R : Ending → World → Prop) (body : Code) (a₁ : Act) (w₁ : World) : Prop :=
  w₁.heap[l]? = some (.loop r) ∧ body.wpIn (F.inRound l) n P (fun e _ w₂ => RoundEnd l r R e w₂) a₁ (w₁.putObj l (.loop (busy_ r)))
/-- A round that is asked for: the assignments, then the body, each walked; the record's block l. -/
theorem yield_round {l : Nat} {r : Loop} {args : Array Value} {W : World} {R : Ending → World → Prop} {tmps : Array Value} {ps : Array Tmp} {assign body : Code} (hF : F.fn r.fn) (hl : W.heap[l]? = some (.loop r)) (hst : r.state = .ready)
    (htm : r.tmps = tmps) (hps : r.params = ps) (has : r.assign = assign) (hbo : r.body = body) (hs : args.size = ps.size)
    (h : assign.wpIn (F.inRound l) n P (Exit.then (RoundBegun F n P l r R body) (fun _ _ _ => False))
      { tmps := (ps.zip args).foldl (fun tmps (t, a) => tmps.setIfInBounds t a) tmps, defers := [] } W) :
    YieldAt F n P l args W R := by
  subst htm hps has hbo
  refine ⟨r.fn, _, r.assign, r.body, run_yield hl hs, roundIn_of_wpIn hF (wpIn_mono h ?_)⟩
  rintro e a w hq
  cases e with
  | normal =>
    obtain ⟨hl1, hb⟩ := hq
    refine ⟨_, run_beginRound hl1 hst, wpIn_mono hb ?_⟩
    rintro e a w hq
    cases e with
    | normal => exact ⟨_, _, run_endRound none hq.1, hq.2⟩
    | ret => exact ⟨_, _, run_endRound (some .ret) hq.1, hq.2⟩
    | exit id => exact ⟨_, _, run_endRound (some (.exit id)) hq.1, hq.2⟩
    | goto t => exact hq.elim
    | panic c => exact hq.elim
    | outgrown => exact hq.elim
  | exit id => exact hq.elim
  | goto t => exact hq.elim
  | ret => exact hq.elim
  | panic c => exact hq.elim
  | outgrown => exact hq.elim
theorem ready_eq {r : Loop} (h1 : r.state = .ready) (h2 : r.pending = none) : ready_ r = r := by cases r; simp_all [ready_]

/-- The statement, at a function's own frame: the iterator is called with the record in block w.heap.size + 1. -/
theorem range_direct {g : Operand} {ps : Array Tmp} {assign body : Code} {Q : Exit → Act → World → Prop} {a : Act} {w : World}
    (hro : F.round = none) (h1 : 1 ≤ n) {gf : Nat} {lb : Array Value} (hg : a.eval g = .func (.func gf) #[] lb) (hFg : F.fn gf) (eg : ∀ args w, (callFunc gf args).run P w = .ok (.enter gf args) w)
    (h : ∀ rec : Loop, F.fn rec.fn → rec.state = .ready → rec.pending = none → rec.tmps = a.tmps → rec.params = ps → rec.assign = assign → rec.body = body →
      CallsIn F (n - 1) P gf (#[.func (.yield (w.heap.size + 1)) #[] #[]] ++ lb) ((w.alloc (.deferred (some []))).alloc (.loop rec))
        fun e W2 => ∃ v, e = .returned v ∧ ∃ r, W2.heap[w.heap.size + 1]? = some (.loop r) ∧ r.state ≠ .busy ∧
          match r.pending with
          | none => Q .normal { a with defers := { target := .collected w.heap.size, args := #[] } :: a.defers } (W2.putObj (w.heap.size + 1) (.loop (exh_ r)))
          | some c => c.wpIn F n P Q { a with defers := { target := .collected w.heap.size, args := #[] } :: a.defers } (W2.putObj (w.heap.size + 1) (.loop (exh_ r)))) :
    (Code.rangeFunc g ps assign body).wpIn F n P Q a w := by
  refine wpIn_rangeFunc ?_
  intro fn hfn
  rw [hro]
  have h2 := h { state := .ready, pending := none, fn, tmps := a.tmps, params := ps, assign, body, defers := w.heap.size } hfn rfl rfl rfl rfl rfl rfl
  obtain ⟨W1, hW1⟩ : ∃ W1, (w.alloc (.deferred (some []))).alloc (.loop { state := .ready, pending := none, fn, tmps := a.tmps, params := ps, assign, body, defers := w.heap.size }) = W1 := ⟨_, rfl⟩
  rw [hW1] at h2
  refine ⟨w.heap.size + 1, [{ target := .collected w.heap.size, args := #[] }], W1, { target := .fn (.func gf) lb, args := #[.func (.yield (w.heap.size + 1)) #[] #[]] }, W1, gf,
    #[.func (.yield (w.heap.size + 1)) #[] #[]] ++ lb, W1, ?_, ?_, ?_, ?_, fun _ => h1, ?_⟩
  · rw [← hW1]; exact run_enterLoop_outer _ _ _ _ _
  · simp only [resolve, hg]
    simp [go_sem]
  · intro f' hf'; simp [Target.leads] at hf'; subst hf'; exact hFg
  · simp [invoke, go_sem, eg]
  · refine h2.mono ?_
    rintro e W2 ⟨v, rfl, r, hr, hb, hk⟩
    refine ⟨r.pending, _, run_endLoop hr hb, ?_⟩
    cases hp : r.pending with
    | none => rw [hp] at hk; simp only [exh_, hp] at hk; exact hk
    | some c => rw [hp] at hk; simp only [exh_, hp] at hk; exact hk

theorem wpIn_scope_wide {c : Code} {Q : Exit → Act → World → Prop} {a : Act} {w : World} (h : c.wpIn Fence.wide n P (Exit.noGoto Q) a w) : (Code.scope c).wpIn Fence.wide n P Q a w := wpIn_wide.2 (wp_scope_straight (wpIn_wide.1 h))
theorem putObj_other {W : World} {k r : Nat} (o : Obj) (h : k ≠ r) : (W.putObj r o).heap[k]? = W.heap[k]? := World.putObj_heap_other h
theorem putObj_same {W : World} {r : Nat} {o' : Obj} (o : Obj) (h : W.heap[r]? = some o') : (W.putObj r o).heap[r]? = some o := World.putObj_heap_same (Array.getElem?_eq_some_iff.1 h).1
theorem below_putObj {B : Nat} {w W : World} (h : Below B w W) {r : Nat} (hr : B ≤ r) (o : Obj) : Below B w (W.putObj r o) :=
  h.trans ⟨rfl, rfl, rfl, by simp, fun k hk => putObj_other o (by omega)⟩
theorem alloc_old {W : World} {k : Nat} {o' : Obj} (o : Obj) (h : W.heap[k]? = some o') : (W.alloc o).heap[k]? = some o' := (Below.heap_alloc W o k (Array.getElem?_eq_some_iff.1 h).1).trans h
theorem alloc_new (W : World) (o : Obj) : (W.alloc o).heap[W.heap.size]? = some o := World.alloc_heap_new W o
theorem cell_of {W : World} {b : Nat} {cs : Array Value} {t : TypeId} {fr : Nat × Nat} (h : W.heap[b]? = some (.cells cs t fr)) (j : Nat) : W.cell? ⟨b, j, none⟩ = cs[j]? := by simp [World.cell?, h]
theorem free_of {W : World} {b : Nat} {cs : Array Value} {t : TypeId} (h : W.heap[b]? = some (.cells cs t (0, 0))) (j : Nat) : W.frozen? ⟨b, j, none⟩ = false := by simp [World.frozen?, h]
end Go.Proofs.YtnjkdnbmpldokaaB

/- Maps from texts to texts that the call itself makes: what stands at each key. -/
namespace Go.Proofs.YtnjkdnbmpldokaaB
open Go Go.RowKit

/-- Block b of w is a map of at most n entries; f k stands at k (the empty text: nothing). -/
def StrMap (P : Program) (ks es : TypeId) (w : World) (b n : Nat) (f : List UInt8 → List UInt8) : Prop :=
  ∃ D : DataW Unit, w.ownsMap P ks (plainElem P es) b n D ∧ Maps.IsMap D ∧ ∀ k, D.atKey (.string k) (.lit (.string [])) = .lit (.string (f k))

section
variable {P : Program} {ks es t : TypeId} {w w' : World} {b n : Nat} {f : List UInt8 → List UInt8}
theorem StrMap.made (w : World) (P : Program) (ks es : TypeId) : StrMap P ks es (w.alloc (.map #[] 0)) w.heap.size 0 (fun _ => []) :=
  ⟨.map [], World.ownsMap_made w P ks _, Maps.isMap_empty, fun _ => rfl⟩
theorem StrMap.lt (h : StrMap P ks es w b n f) : b < w.heap.size := by obtain ⟨D, h, _⟩ := h; exact h.lt
theorem StrMap.kept {row : Option Nat} (h : StrMap P ks es w b n f) (hg : w.grownBy w' row) (hne : some b ≠ row) : StrMap P ks es w' b n f := by
  obtain ⟨D, h, r⟩ := h
  exact ⟨D, h.kept hg hne, r⟩
theorem StrMap.block (h : StrMap P ks es w b n f) (hb : w'.heap[b]? = w.heap[b]?) : StrMap P ks es w' b n f := by
  obtain ⟨D, ⟨es', ck, hh, r1⟩, r⟩ := h
  exact ⟨D, ⟨es', ck, hb.trans hh, r1⟩, r⟩
theorem StrMap.alloc (h : StrMap P ks es w b n f) (o : Obj) : StrMap P ks es (w.alloc o) b n f := h.kept (World.grownBy_alloc w o none) (by simp)
theorem StrMap.below (h : StrMap P ks es w b n f) (hb : Below w.heap.size w w') : StrMap P ks es w' b n f := h.block (hb.block b h.lt)
theorem StrMap.kept_ {S : Nat → Prop} (h : StrMap P ks es w b n f) (hk : w.heap.size ≤ w'.heap.size ∧ ∀ i, i < w.heap.size → ¬ S i → w'.heap[i]? = w.heap[i]?) (hne : ¬ S b) : StrMap P ks es w' b n f := h.block (hk.2 b h.lt hne)
theorem StrMap.mono (h : StrMap P ks es w b n f) {n' : Nat} (hn : n ≤ n') : StrMap P ks es w b n' f := by
  obtain ⟨D, h, r⟩ := h
  exact ⟨D, h.mono hn, r⟩
theorem StrMap.isMap (h : StrMap P ks es w b n f) : ∃ es ck, w.heap[b]? = some (.map es ck) := by
  obtain ⟨D, ⟨es, ck, h, _⟩, _⟩ := h
  exact ⟨es, ck, h⟩
theorem StrMap.look (h : StrMap P ks es w b n f) (hk : P.underlying ks = some .string) (he : P.underlying es = some .string) (ht : P.underlying t = some (.map ks es)) (hz : ∀ w, (zeroValue es).run P w = .ok (.string ⟨#[]⟩) w) (s : ByteArray) (hs : s.size ≤ maxLen) :
    (Instr.lookup t (.map (some b)) (.string s) false).run P w = .ok (.string ⟨(f s.data.toList).toArray⟩) w := by
  obtain ⟨D, h, hm, hf⟩ := h
  obtain ⟨v, ps, hrun, hv⟩ := h.lookup (Maps.string_keyed hk) ht (hz w) (plainElem_string he (by simp [ByteArray.size])) (kl := .string s.data.toList) (WideMaps.keyOf_string_mk hk hs)
  obtain ⟨s', rfl, e, _⟩ := plainElem_string_inv he hv
  have e1 := congrArg Prod.fst e
  have e2 : D.atKey (.string s.data.toList) (.lit (.string [])) = .lit (.string s'.data.toList) := e1
  rw [hf] at e2
  injection e2 with e2
  injection e2 with e2
  rw [hrun, e2]
theorem StrMap.update (h : StrMap P ks es w b n f) (hk : P.underlying ks = some .string) (he : P.underlying es = some .string) (ht : P.underlying t = some (.map ks es)) (hn : n < maxLen) (s v : ByteArray) (hs : s.size ≤ maxLen) (hv : v.size ≤ maxLen) :
    ∃ w', (Instr.mapUpdate t (.map (some b)) (.string s) (.string v)).run P w = .ok () w' ∧ StrMap P ks es w' b (n + 1) (fun k => if k = s.data.toList then v.data.toList else f k) ∧ w.grownBy w' (some b) := by
  obtain ⟨D, h, hm, hf⟩ := h
  obtain ⟨w', hrun, h', hg⟩ := h.update (Maps.string_keyed hk) ht hn (kl := .string s.data.toList) (WideMaps.keyOf_string_mk hk hs) (plainElem_string he hv)
  refine ⟨w', hrun, ⟨_, h', hm.put _ _, fun k => ?_⟩, hg⟩
  by_cases e : k = s.data.toList
  · subst e
    rw [Maps.atKey_put_same hm (by trivial)]
    simp
  · rw [Maps.atKey_put_other (by simpa using e), hf]
    simp [e]
end

theorem wpList_store_str {P : Program} {ks es t : TypeId} (w : World) {b n : Nat} {f : List UInt8 → List UInt8} {ops : Array Oper} {rest : List Oper} {o : Oper} {a : Act} {Q : Exit → Act → World → Prop}
    (hg : o.guard = none) (m x v : Operand) (hop : o.op = Op.mapUpdate t m x v) (hk : P.underlying ks = some .string) (he : P.underlying es = some .string) (ht : P.underlying t = some (.map ks es))
    (hm : a.eval m = .map (some b)) (h : StrMap P ks es w b n f) (hn : n < maxLen) (s u : ByteArray) (hx : a.eval x = .string s) (hv : a.eval v = .string u) (hs : s.size ≤ maxLen) (hu : u.size ≤ maxLen)
    (hK : ∀ w', StrMap P ks es w' b (n + 1) (fun k => if k = s.data.toList then u.data.toList else f k) → w.grownBy w' (some b) → wpList P ops Q rest (a.put o.dst undef) w') :
    wpList P ops Q (o :: rest) a w := by
  refine wpList_plain hg fun K' hK' => ?_
  obtain ⟨w', hrun, r1, r2⟩ := h.update hk he ht hn s u hs hu
  unfold Oper.wp
  simp [execOp, hop, hm, hx, hv, hrun, Result.andThen]
  exact hK' _ _ (hK w' r1 r2)

theorem wpList_look_str {P : Program} {ks es t : TypeId} (w : World) {b n : Nat} {f : List UInt8 → List UInt8} {ops : Array Oper} {rest : List Oper} {o : Oper} {a : Act} {Q : Exit → Act → World → Prop}
    (hg : o.guard = none) (m x : Operand) (hop : o.op = Op.lookup t m x false) (hk : P.underlying ks = some .string) (he : P.underlying es = some .string) (ht : P.underlying t = some (.map ks es)) (hz : ∀ w, (zeroValue es).run P w = .ok (.string ⟨#[]⟩) w)
    (hm : a.eval m = .map (some b)) (h : StrMap P ks es w b n f) (s : ByteArray) (hx : a.eval x = .string s) (hs : s.size ≤ maxLen)
    (u : ByteArray) (hu : ⟨(f s.data.toList).toArray⟩ = u) (hK : wpList P ops Q rest (a.put o.dst (.string u)) w) :
    wpList P ops Q (o :: rest) a w := by
  subst hu
  refine wpList_plain hg fun K' hK' => ?_
  have hrun := h.look hk he ht hz s hs
  unfold Oper.wp
  simp [execOp, hop, hm, hx, hrun, Result.andThen]
  exact hK' _ _ hK

theorem wpListIn_store_str {F : Fence} {nF : Nat} {P : Program} {ks es t : TypeId} (w : World) {b n : Nat} {f : List UInt8 → List UInt8} {ops : Array Oper} {rest : List Oper} {o : Oper} {a : Act} {Q : Exit → Act → World → Prop}
    (hg : o.guard = none) (m x v : Operand) (hop : o.op = Op.mapUpdate t m x v) (hk : P.underlying ks = some .string) (he : P.underlying es = some .string) (ht : P.underlying t = some (.map ks es))
    (hm : a.eval m = .map (some b)) (h : StrMap P ks es w b n f) (hn : n < maxLen) (s u : ByteArray) (hx : a.eval x = .string s) (hv : a.eval v = .string u) (hs : s.size ≤ maxLen) (hu : u.size ≤ maxLen)
    (hK : ∀ w', StrMap P ks es w' b (n + 1) (fun k => if k = s.data.toList then u.data.toList else f k) → w.grownBy w' (some b) → wpListIn F nF P ops Q rest (a.put o.dst undef) w') :
    wpListIn F nF P ops Q (o :: rest) a w := by
  refine wpListIn_plain hg fun K' hK' => ?_
  obtain ⟨w', hrun, r1, r2⟩ := h.update hk he ht hn s u hs hu
  unfold Oper.wpIn
  refine ⟨by simp [Oper.about, hop], ?_⟩
  rw [Oper.semAt_plain F _ _ (by rw [hop]; intro c hc'; cases hc')]
  simp [execOp, hop, hm, hx, hv, hrun, Result.andThen]
  exact hK' _ _ (hK w' r1 r2)
end Go.Proofs.YtnjkdnbmpldokaaB

/- '+' of two texts at the operation. -/
namespace Go.Proofs.YtnjkdnbmpldokaaB
open Go Go.RowKit
theorem wpList_add_str {P : Program} {t t' : TypeId} {w : World} {ops : Array Oper} {rest : List Oper} {o : Oper} {a : Act} {Q : Exit → Act → World → Prop}
    (hg : o.guard = none) (x y : Operand) (hop : o.op = Op.binOp .add t x y t') (s u : ByteArray) (hx : a.eval x = .string s) (hy : a.eval y = .string u) (hs : s.size + u.size ≤ maxLen)
    (hK : wpList P ops Q rest (a.put o.dst (.string (s ++ u))) w) : wpList P ops Q (o :: rest) a w := by
  have hrun : (execOp a.eval o).run P w = .ok (.value (.string (s ++ u))) w := by
    unfold execOp
    rw [hop]
    simp only [hx, hy]
    simp [go_sem, Op.stringOp]
    unfold maxLen at hs
    omega
  exact Go.Proofs.YtnjkdnbmpldokaaW.PrintWords.Kd.event_run hg hrun hK
end Go.Proofs.YtnjkdnbmpldokaaB

/- strings.Cut at a separator of one byte. -/
namespace Go.Proofs.YtnjkdnbmpldokaaB
open Go Go.RowKit Go.Shelf
set_option linter.unusedVariables false
def cutB (s : ByteArray) (c : UInt8) : ByteArray × ByteArray × Bool :=
  if Lib.indexByte s.data.toList c < 0 then (s, ⟨#[]⟩, false) else (s.extract 0 (Lib.indexByte s.data.toList c).toNat, s.extract ((Lib.indexByte s.data.toList c).toNat + 1) s.size, true)
theorem indexByte_lt (s : ByteArray) (c : UInt8) : Lib.indexByte s.data.toList c < s.size ∨ Lib.indexByte s.data.toList c = -1 := by
  have h := Lib.indexByte_ge s.data.toList c
  rcases Int.lt_or_le (Lib.indexByte s.data.toList c) 0 with h1 | h1
  · right; omega
  · left
    obtain ⟨o, ho⟩ : ∃ o : Nat, Lib.indexByte s.data.toList c = o := ⟨_, (Int.toNat_of_nonneg h1).symm⟩
    have h2 := (Lib.indexByte_some ho).1
    have h3 := (List.getElem?_eq_some_iff.1 h2).1
    rw [ho]
    have : s.data.toList.length = s.size := by rw [Array.length_toList]; rfl
    omega
set_option maxRecDepth 100000 in
set_option maxHeartbeats 1000000 in
theorem slCut_one (s : ByteArray) (c : UInt8) (w : World) (hs : s.size < 4294967281) :
    Calls Try.prog 50 #[.string s, .string ⟨#[c]⟩] w fun e w' => e = .returned (.tuple #[.string (cutB s c).1, .string (cutB s c).2.1, .bool (cutB s c).2.2]) ∧ ∃ n, w' = w.drewN n := by
  unfold cutB
  rcases indexByte_lt s c with h | h
  · rcases Int.lt_or_le (Lib.indexByte s.data.toList c) 0 with h1 | h1
    · rw [if_pos h1]
      have c5 : decide (Lib.indexByte s.data.toList c ≥ 0) = false := decide_eq_false (by omega)
      have c6 : decide (0 ≤ Lib.indexByte s.data.toList c) = false := decide_eq_false (by omega)
      clear h h1
      go_enter Try.func50, Try.ntmps50
      go_wp2_with (go_at_call 72; refine (Any.stringslite_Index_one Try.LLays_n219 s c _).mono ?_; rintro e w' ⟨rfl, rfl⟩)
      go_ret3
      exact ⟨rfl, 0, rfl⟩
    · rw [if_neg (by omega)]
      obtain ⟨i, hi⟩ : ∃ i : Nat, Lib.indexByte s.data.toList c = i := ⟨_, (Int.toNat_of_nonneg h1).symm⟩
      rw [hi] at h h1 ⊢
      have c1 : (0 : Int) ≤ ↑i := by omega
      have c2 : (↑i : Int) ≤ ↑s.size := by omega
      have c3 : (0 : Int) ≤ ↑i + 1 := by omega
      have c4 : (↑i + 1 : Int) ≤ ↑s.size := by omega
      have c7 : decide ((0 : Int) ≤ (i : Int)) = true := decide_eq_true (by omega)
      clear h h1
      go_enter Try.func50, Try.ntmps50
      go_wp2_with (go_at_call 72; refine (Any.stringslite_Index_one Try.LLays_n219 s c _).mono ?_; rintro e w' ⟨rfl, rfl⟩; rw [hi])
      go_region_o
      go_wp2
      go_ret3
      exact ⟨rfl, 1, rfl⟩
  · rw [if_pos (by omega)]
    have c5 : decide (Lib.indexByte s.data.toList c ≥ 0) = false := decide_eq_false (by omega)
    have c6 : decide (0 ≤ Lib.indexByte s.data.toList c) = false := decide_eq_false (by omega)
    go_enter Try.func50, Try.ntmps50
    go_wp2_with (go_at_call 72; refine (Any.stringslite_Index_one Try.LLays_n219 s c _).mono ?_; rintro e w' ⟨rfl, rfl⟩; rw [h])
    go_ret3
    exact ⟨rfl, 0, rfl⟩
set_option maxRecDepth 100000 in
theorem cut_one (s : ByteArray) (c : UInt8) (w : World) (hs : s.size < 4294967281) :
    Calls Try.prog 34 #[.string s, .string ⟨#[c]⟩] w fun e w' => e = .returned (.tuple #[.string (cutB s c).1, .string (cutB s c).2.1, .bool (cutB s c).2.2]) ∧ ∃ n, w' = w.drewN n := by
  have h := slCut_one s c
  generalize cutB s c = r at h
  go_enter Try.func34, Try.ntmps34
  go_wp2_with (go_at_call 50; refine (h _ hs).mono ?_; rintro e w' ⟨rfl, n, rfl⟩)
  go_ret3
  exact ⟨rfl, _, rfl⟩
end Go.Proofs.YtnjkdnbmpldokaaB

/- An append of one element to a row of one's own, inside a fence. -/
namespace Go.Proofs.YtnjkdnbmpldokaaB
open Go Go.RowKit Go.Proofs.YtnjkdnbmpldokaaW.PrintWords Go.Proofs.YtnjkdnbmpldokaaW.PrintLast Go.Proofs.YtnjkdnbmpldokaaW.PrintMore
theorem R_append_in {F : Fence} {nF : Nat} {P : Program} {ops : Array Oper} {rest : List Oper} {o : Oper} {a : Act} {Q : Exit → Act → World → Prop} {α : Type} (d : Kd α) {w0 W : World} (base : Nat) (hgd : o.guard = none) (s x : Operand) (t e : TypeId) (z : Value) (bytes : Nat)
    (ho : o.op = .call { callee := .builtin .append, args := #[s, x], argTypes := #[t, t] })
    (ht : P.underlying t = some (.slice e)) (hinfo : (P.info? e).map (fun i => (i.zero, i.size, i.bytes)) = some (some z, d.sz, bytes)) (hz : z.cells.size = d.sz) (hs0 : 0 < d.sz) (hb0 : 0 < bytes)
    (v : Value) (xs : List α) (p : α) (cs : List Value) (ok okp : Nat → Prop) (hs : a.eval s = v) (hx : a.eval x = .slice (some ⟨W.heap.size, 0, none⟩) 1 1) (hp : d.M W base okp p cs) (hokp : ∀ k, okp k → ok k ∧ some k ≠ v.ownBlock) (hfresh : ∀ k, W.heap.size ≤ k → ok k)
    (HO : d.R e W base ok v xs) (HB : Below base w0 W) (hbase : base ≤ W.heap.size) (hl : (xs.length + 1) * bytes ≤ 140737488355328)
    (h : ∀ v1 w1, d.R e w1 base ok v1 (xs ++ [p]) → Below base w0 w1 → W.grownBy w1 v.ownBlock → wpListIn F nF P ops Q rest (a.put o.dst v1) w1) :
    wpListIn F nF P ops Q (o :: rest) a (W.alloc (.cells cs.toArray e)) := by
  obtain ⟨h0, inner, hown, hr⟩ := HO
  have hys := d.K_len (d.K_of_M hp)
  have h1 := d.K_one (d.K_of_M hp)
  obtain ⟨i0, hi, hzz⟩ := Option.map_eq_some_iff.1 hinfo
  simp only [Prod.mk.injEq] at hzz
  obtain ⟨hz0, hz1, hz2⟩ := hzz
  have hlen : xs.length + 1 ≤ 140737488355328 := Nat.le_trans (Nat.le_mul_of_pos_right _ hb0) hl
  refine wpListIn_append_own_at (w := W.alloc (.cells cs.toArray e)) hgd s x t ho base e i0 z d.sz bytes ht hi hz0 hz1 hz2 hz hs0 v xs.length inner hs (World.ownsRow.alloc hown _) ⟨W.heap.size, 0, none⟩ 1 1 cs hx (by rw [hys]; simp)
    (by simpa using World.news_of_block (cs := cs.toArray) (t := e) (fr := (0, 0)) (alloc_new W (.cells cs.toArray e))) h1 (by simp only [maxLen]; omega) hl (by simp; omega) ?_
  intro v1 w1 hown1 hg _ hat
  have hg1 := World.grownBy.trans (World.grownBy_alloc W (.cells cs.toArray e) v.ownBlock) hg
  refine h v1 w1 (Kd.R_appended h0 hr hp hokp hfresh hown1 hg1 ?_) ((HB.alloc hbase _).grown hg (by simp; omega) (own_base hown)) hg1
  rcases hat with hat | hat
  · exact .inl hat
  · exact .inr ⟨_, hat, by simp⟩
end Go.Proofs.YtnjkdnbmpldokaaB

/- From the claim's reading of an argument to the print's words: what is read is a value of the type's Lean twin, no heavier than its bulk. -/
namespace Go.Proofs.YtnjkdnbmpldokaaB
open Go Go.RowKit Go.ChangeShapes Go.WideShapes Go.Proofs.YtnjkdnbmpldokaaW.PrintWords
open Go.Proofs.Ytnjkdnbmpldokaa (Rows.uptoBulk Rows.uptoBulkAll)

def bulkAll {H : Type} (l : List (DataW H)) : Nat := Rows.uptoBulkAll l
theorem bulk_one {H : Type} (d : DataW H) : 1 ≤ Rows.uptoBulk d := by
  cases d with
  | lit l => cases l <;> simp [Rows.uptoBulk]
  | _ => simp [Rows.uptoBulk]
theorem bulk_cons {H : Type} (d : DataW H) (l : List (DataW H)) : Rows.uptoBulkAll (d :: l) = Rows.uptoBulk d + Rows.uptoBulkAll l := by simp [Rows.uptoBulkAll]
theorem bulk_nil {H : Type} : Rows.uptoBulkAll ([] : List (DataW H)) = 0 := by simp [Rows.uptoBulkAll]

variable {P : Program}
/-- What is read at type e is a value of d, of weight at most its bulk. -/
def Br (P : Program) {α : Type} (d : Kd α) (e : TypeId) (wt : α → Nat) : Prop :=
  ∀ {H : Type} {enc : TypeId × Value → H} {w : World} {base : Nat} {spare : Nat → Bool} {held : Bool} {n : Nat} {cs : List Value} {x : DataW H × List MemPlace},
    DataW.trod enc P w base spare held n e cs = some x → ∃ a, d.K w a cs ∧ wt a ≤ Rows.uptoBulk x.1
/-- The same of fields in line, from the offset on. -/
def BrFs (P : Program) {α : Type} (d : Kd α) (off : Nat) (fs : List Field) (wt : α → Nat) : Prop :=
  ∀ {H : Type} {enc : TypeId × Value → H} {w : World} {base : Nat} {spare : Nat → Bool} {held : Bool} {n : Nat} {cs : List Value} {xs : List (DataW H × List MemPlace)},
    xs.length = fs.length → (∀ (i : Nat) (f : Field), fs[i]? = some f → DataW.trod enc P w base spare held n f.type ((cs.drop f.offset).take (P.cellsOf f.type)) = xs[i]?) →
    ∃ a, d.K w a ((cs.drop off).take d.sz) ∧ wt a ≤ Rows.uptoBulkAll (xs.map (·.1))
theorem br_string {e : TypeId} (ht : P.underlying e = some .string) : Br P Kd.string e (fun s => s.size + 1) := by
  intro H enc w base spare held n cs x h
  obtain ⟨s, rfl, rfl, _⟩ := DataW.trod_string ht h
  refine ⟨s, rfl, ?_⟩
  simp only [Rows.uptoBulk, Array.length_toList]
  exact Nat.le_refl _
theorem br_int {e : TypeId} {k : IntKind} (ht : P.underlying e = some (.int k)) : Br P (Kd.int k) e (fun _ => 1) := by
  intro H enc w base spare held n cs x h
  obtain ⟨s, rfl, rfl, _⟩ := DataW.trod_int ht h
  exact ⟨s, rfl, bulk_one _⟩
theorem br_bool {e : TypeId} (ht : P.underlying e = some .bool) : Br P Kd.bool e (fun _ => 1) := by
  intro H enc w base spare held n cs x h
  obtain ⟨s, rfl, rfl⟩ := DataW.trod_bool ht h
  exact ⟨s, rfl, bulk_one _⟩
theorem brFs_last {α : Type} {d : Kd α} {f : Field} {wt : α → Nat} {off : Nat} (h : Br P d f.type wt) (ho : f.offset = off) (hc : P.cellsOf f.type = d.sz) : BrFs P d off [f] wt := by
  intro H enc w base spare held n cs xs hl hx
  match xs, hl with
  | [x], _ =>
    have h0 := hx 0 f rfl
    rw [ho, hc] at h0
    obtain ⟨a, h1, h2⟩ := h h0
    refine ⟨a, h1, ?_⟩
    simp only [List.map_cons, List.map_nil, bulk_cons, bulk_nil]
    omega
theorem brFs_cons {α β : Type} {d : Kd α} {d' : Kd β} {f : Field} {fs : List Field} {wt : α → Nat} {wt' : β → Nat} {off : Nat} (h : Br P d f.type wt) (ho : f.offset = off) (hc : P.cellsOf f.type = d.sz) (hs : BrFs P d' (off + d.sz) fs wt') :
    BrFs P (Kd.pair d d') off (f :: fs) (fun p => wt p.1 + wt' p.2) := by
  intro H enc w base spare held n cs xs hl hx
  match xs, hl with
  | x :: xs, hl =>
    have h0 := hx 0 f rfl
    rw [ho, hc] at h0
    obtain ⟨a, h1, h2⟩ := h h0
    obtain ⟨b, h3, h4⟩ := hs (xs := xs) (by simpa using hl) (fun i g hg => hx (i + 1) g hg)
    refine ⟨(a, b), ⟨_, _, ?_, h1, h3⟩, ?_⟩
    · show (cs.drop off).take (d.sz + d'.sz) = _
      rw [List.take_add, List.drop_drop]
    · simp only [List.map_cons, bulk_cons]
      omega
theorem br_struct {α β : Type} {d : Kd α} {t : TypeId} {fs : Array Field} {wt : α → Nat} (f : β → α) (g : α → β) (hfg : ∀ a, f (g a) = a) (ht : P.underlying t = some (.struct fs)) (hc : P.cellsOf t = d.sz) (h : BrFs P d 0 fs.toList wt) :
    Br P (Kd.iso d f) t (fun b => wt (f b)) := by
  intro H enc w base spare held n cs x hx
  obtain ⟨xs, m, rfl, rfl, hl, hxl, hf⟩ := DataW.trod_struct ht hx
  obtain ⟨a, h1, h2⟩ := h (cs := cs) (xs := xs) (by simpa using hxl) (fun i q hq => hf i q (by simpa using hq))
  refine ⟨g a, ?_, ?_⟩
  · show d.K w (f (g a)) cs
    rw [hfg]
    rw [List.drop_zero, ← hc, ← hl, List.take_length] at h1
    exact h1
  · show wt (f (g a)) ≤ _
    rw [hfg]
    simp only [Rows.uptoBulk]
    omega
def wts {α : Type} (wt : α → Nat) : List α → Nat
  | [] => 1
  | a :: l => wt a + wts wt l
theorem wts_pos {α : Type} (wt : α → Nat) : ∀ l : List α, 1 ≤ wts wt l
  | [] => Nat.le_refl _
  | _ :: l => Nat.le_trans (wts_pos wt l) (Nat.le_add_left _ _)
theorem wts_mem {α : Type} {wt : α → Nat} : ∀ {l : List α} {a : α}, a ∈ l → wt a ≤ wts wt l
  | b :: l, _, h => by
    simp only [wts]
    rcases List.mem_cons.1 h with rfl | h
    · omega
    · have := wts_mem (wt := wt) h; omega
theorem wts_length {α : Type} {wt : α → Nat} (hp : ∀ a, 1 ≤ wt a) : ∀ l : List α, l.length + 1 ≤ wts wt l
  | [] => Nat.le_refl _
  | b :: l => by
    have := wts_length hp l
    have := hp b
    simp only [wts, List.length_cons]; omega
theorem wts_range {α : Type} {wt : α → Nat} {H : Type} {D : Nat → DataW H} {g : Nat → α} : ∀ (n k : Nat), (∀ i, k ≤ i → i < k + n → wt (g i) ≤ Rows.uptoBulk (D i)) → wts wt ((List.range' k n).map g) ≤ Rows.uptoBulkAll ((List.range' k n).map D) + 1
  | 0, k, _ => by simp [wts, bulk_nil]
  | n + 1, k, h => by
    rw [List.range'_succ]
    simp only [List.map_cons, wts, bulk_cons]
    have := wts_range (wt := wt) (D := D) (g := g) n (k + 1) (fun i h1 h2 => h i (by omega) (by omega))
    have := h k (Nat.le_refl _) (by omega)
    omega
theorem br_slice {α : Type} {d : Kd α} {t e : TypeId} {wt : α → Nat} (ht : P.underlying t = some (.slice e)) (hc : P.cellsOf e = d.sz) (h : Br P d e wt) : Br P (Kd.slice e d) t (wts wt) := by
  intro H enc w base spare held n cs x hx
  rcases Go.Deep.open_slice ht hx with ⟨rfl, rfl⟩ | ⟨a, len, cap, m, n', D, Pl, rfl, _, hl, hm, hmm, rfl, hx2⟩
  · exact ⟨[], ⟨none, 0, rfl, Nat.le_refl _, Kd.C_nil d w⟩, by simp [wts, Rows.uptoBulk]⟩
  · have hlm : len ≤ m := by rw [hmm]; split <;> omega
    have each : ∀ i, i < len → ∃ q : α × List Value, q.2.length = d.sz ∧ d.K w q.1 q.2 ∧ (∀ j u, q.2[j]? = some u → w.cell? (a.add (i * d.sz + j)) = some u) ∧ wt q.1 ≤ Rows.uptoBulk (D i) := by
      intro i hi
      obtain ⟨cs', h1, h2⟩ := hx2 i (by omega)
      obtain ⟨_, hlen, hcell⟩ := World.cells?_some h1
      obtain ⟨b, hb, hw⟩ := h h2
      refine ⟨(b, cs'), by rw [hlen, hc], hb, fun j u hj => ?_, hw⟩
      have hj' : j < cs'.length := (List.getElem?_eq_some_iff.1 hj).1
      have e1 := hcell j (by omega)
      rw [add_add, hc] at e1
      rw [e1, hj]
    by_cases h0 : len = 0
    · subst h0
      refine ⟨[], ⟨some a, cap, rfl, hl, rfl, by simp, fun h => absurd h (Nat.lt_irrefl 0)⟩, ?_⟩
      simp only [wts]
      exact bulk_one _
    · obtain ⟨q0, _⟩ := each 0 (by omega)
      have each' : ∀ i, ∃ q : α × List Value, i < len → q.2.length = d.sz ∧ d.K w q.1 q.2 ∧ (∀ j u, q.2[j]? = some u → w.cell? (a.add (i * d.sz + j)) = some u) ∧ wt q.1 ≤ Rows.uptoBulk (D i) := by
        intro i
        by_cases hi : i < len
        · obtain ⟨q, hq⟩ := each i hi
          exact ⟨q, fun _ => hq⟩
        · exact ⟨q0, fun h => absurd h hi⟩
      obtain ⟨q, hq⟩ := Classical.axiomOfChoice each'
      refine ⟨(List.range' 0 len).map (fun i => (q i).1), ⟨some a, cap, by simp, by simpa using hl, ?_⟩, ?_⟩
      · refine ⟨by simp, by simp; have := hm; unfold maxLen at this; omega, fun _ => ⟨a, rfl, fun j p hj => ?_⟩⟩
        have hjl : j < len := by simpa using (List.getElem?_eq_some_iff.1 hj).1
        simp [hjl] at hj
        subst hj
        exact ⟨(q j).2, (hq j hjl).1, (hq j hjl).2.1, (hq j hjl).2.2.1⟩
      · have := wts_range (wt := wt) (D := D) (g := fun i => (q i).1) len 0 (fun i _ h2 => (hq i (by omega)).2.2.2)
        rw [← List.range_eq_range'] at this ⊢
        simp only [Rows.uptoBulk]
        have e : (List.range len).map D = List.map D (List.range len) := rfl
        omega
end Go.Proofs.YtnjkdnbmpldokaaB
