import Derived.RangeFuncIn
import Derived.RangeFuncSeq
import Derived.WalkKit
import Derived.OwnWalkIn
import Derived.TacticsInMore
import Derived.LoopNIn
import Derived.LoopIn
import Derived.Shelf.Abstract
import Derived.Carry
import Derived.Lib.Hide
import Derived.Test.YtnjkdnbmpldokaaTools
import Derived.Test.YtnjkdnbmpldokaaPz
import Derived.Test.YtnjkdnbmpldokaaHSort
import Derived.Test.YtnjkdnbmpldokaaP23
import Derived.Test.YtnjkdnbmpldokaaP16
import Derived.Test.YtnjkdnbmpldokaaP24
/- plan.there: the map of names to versions, the first of each name. -/
namespace Go.Proofs.Ytnjkdnbmpldokaa.P
open Go.RowKit Go.Shelf Go.Proofs.YtnjkdnbmpldokaaW.PrintWords Go.Proofs.YtnjkdnbmpldokaaW.PrintLast Go.Proofs.YtnjkdnbmpldokaaW.PrintMore Go.Proofs.YtnjkdnbmpldokaaB
attribute [local go_sem] Oper.semAt_some

/-- A pick as a value. -/
def pickV (x : S61) : Value := .agg #[.string x.f0, .string x.f1]

set_option maxRecDepth 100000 in
set_option maxHeartbeats 2000000 in
/-- slices.Backward's closure, for a round that always goes on: m elements are still to come. -/
theorem back_in (n l Bs : Nat) (A : Option Addr) (c : Nat) (xs : List S61) (hlen : xs.length ≤ 4611686018427387904) (J : Nat → World → Prop)
    (hJ : ∀ m W, J m W → W.cell? ⟨Bs, 0, none⟩ = some (.slice A xs.length c) ∧ Kd.C k61 W A xs.length xs)
    (hY : ∀ m W, m < xs.length → J (m + 1) W → YieldAt Fence.wide n Try.prog l #[.int .i64 (m : Int), pickV (rd_T61 xs (m : Int))] W fun e W' => e = .returned (.bool true) ∧ J m W')
    (W : World) (h0 : J xs.length W) :
    CallsIn Fence.wide (n + 1) Try.prog 59 #[.func (.yield l) #[] #[], .pointer (some ⟨Bs, 0, none⟩)] W fun e W' => (∃ v, e = .returned v) ∧ J 0 W' := by
  have hc0 := (hJ _ _ h0).1
  refine callsIn_of_wp Try.func59 rfl trivial ?_ rfl
  simp only [Try.ntmps59, List.size_toArray, List.length_cons, List.length_nil, Nat.reduceAdd, Nat.reduceSub, Array.replicate_succ, Array.replicate_zero, List.push_toArray, List.append_toArray, List.nil_append, List.cons_append]
  gi_wp2
  gi_loopw [3] (fun i wr => ∃ m : Nat, m ≤ xs.length ∧ i = .int .i64 ((m : Int) - 1) ∧ J m wr) (fun i _ => (intOf i + 1).toNat)
  case atStart => exact ⟨xs.length, Nat.le_refl _, rfl, h0⟩
  case round =>
    obtain ⟨m, hm, rfl, hJs⟩ := hrel
    obtain ⟨hcw, hC⟩ := hJ _ _ hJs
    cases m with
    | zero =>
      gi_wp2
      go_end0
      exact ⟨⟨_, rfl⟩, hJs⟩
    | succ m =>
      have p : 0 ≤ (m : Int) := by omega
      have q : (m : Int) < (xs.length : Int) := by omega
      obtain ⟨ad, e, hx0, hx1⟩ := at_T61 hC (m : Int) p q
      cases e
      rw [Int.toNat_natCast] at hx0 hx1
      obtain ⟨fn, tmps, assign, body, hy, hR⟩ := hY m wr (by omega) hJs
      unfold pickV at hy
      have e1 : ((↑(m + 1) : Int) - 1) = (m : Int) := by omega
      rw [e1]
      clear e1
      gi_wp2
      refine hR.mono ?_
      rintro e W3 ⟨rfl, hJ3⟩
      gi_wp2
      go_roundw
      case rel => exact ⟨m, by omega, rfl, hJ3⟩
      case measure => simp [intOf]

theorem backward_in (n : Nat) (A : Option Addr) (len c : Nat) (w : World) :
    CallsIn Fence.wide n Try.prog 44 #[.slice A len c] w fun e w' => e = .returned (.func (.func 59) #[] #[.pointer (some ⟨w.heap.size, 0, none⟩)]) ∧ w' = w.alloc (.cells #[.slice A len c] 22) := by
  refine callsIn_of_wp Try.func44 rfl trivial ?_ rfl
  simp only [Try.ntmps44, List.size_toArray, List.length_cons, List.length_nil, Nat.reduceAdd, Nat.reduceSub, Array.replicate_succ, Array.replicate_zero, List.push_toArray, List.append_toArray, List.nil_append, List.cons_append]
  gi_wp2
  go_ret
  exact ⟨rfl, rfl⟩

/-- What stands at a name: the first version. -/
def look (l : List S61) (k : List UInt8) : List UInt8 := match l.find? (fun x => x.f0.data.toList == k) with | some x => x.f1.data.toList | none => []
theorem look_cons (x : S61) (l : List S61) : look (x :: l) = fun k => if k = x.f0.data.toList then x.f1.data.toList else look l k := by
  funext k
  unfold look
  rw [List.find?_cons]
  by_cases h : k = x.f0.data.toList
  · subst h; simp
  · rw [if_neg h, show (x.f0.data.toList == k) = false from beq_eq_false_iff_ne.2 (Ne.symm h)]
def small (x : S61) : Bool := decide (x.f0.size ≤ 4194304) && decide (x.f1.size ≤ 4194304)

set_option maxRecDepth 100000 in
set_option maxHeartbeats 2000000 in
theorem there_calls (A : Option Addr) (c : Nat) (xs : List S61) (w : World) (hr : Kd.C k61 w A xs.length xs) (hlen : xs.length ≤ 4194304) (hs : ∀ x ∈ xs, small x = true) :
    Calls Try.prog 22 #[.slice A xs.length c] w fun e w' => ∃ b : Nat, e = .returned (.map (some b)) ∧ w.heap.size ≤ b ∧ StrMap Try.prog 9 9 w' b xs.length (look xs) ∧ Below w.heap.size w w' := by
  refine (callsIn_wide (n := 4)).1 ?_
  have hmm := @run_makeMap Try.prog
  refine callsIn_of_wp_marks Try.func22 rfl trivial ?_ rfl
  simp only [Try.ntmps22, List.size_toArray, List.length_cons, List.length_nil, Nat.reduceAdd, Nat.reduceSub, Array.replicate_succ, Array.replicate_zero, List.push_toArray, List.append_toArray, List.nil_append, List.cons_append]
  gi_wp2_with (refine ⟨trivial, ?_⟩; gi_at_call 44; refine (backward_in _ _ _ _ _).mono ?_; rintro e w' ⟨rfl, rfl⟩)
  refine range_direct (F := Fence.wide) (n := 4) rfl (by decide) (gf := 59) (lb := #[.pointer (some ⟨w.heap.size + 1 + 1, 0, none⟩)]) rfl trivial (enters_of Try.func59 (by kernel_rfl) rfl) ?_
  intro rec hfn hst hpe htm hps has hbo
  simp only [World.size_alloc] at *
  have hb0 : Below w.heap.size w (((((w.alloc (.map #[] 0)).alloc (.cells #[.map (some w.heap.size)] 53)).alloc (.cells #[.slice A xs.length c] 22)).alloc (.deferred (some []))).alloc (.loop rec)) :=
    ((((Below.refl _ w).alloc (Nat.le_refl _) _).alloc (by simp) _).alloc (by simp; omega) _).alloc (by simp; omega) _ |>.alloc (by simp; omega) _
  refine (back_in 2 (w.heap.size + 1 + 1 + 1 + 1) (w.heap.size + 1 + 1) A c xs (by omega)
    (fun m W => W.heap[w.heap.size + 1 + 1 + 1 + 1]? = some (.loop rec) ∧ W.heap[w.heap.size + 1 + 1]? = some (.cells #[.slice A xs.length c] 22 (0, 0)) ∧ W.heap[w.heap.size + 1]? = some (.cells #[.map (some w.heap.size)] 53 (0, 0)) ∧
      W.heap[w.heap.size + 1 + 1 + 1]? = some (.deferred (some [])) ∧ m ≤ xs.length ∧ StrMap Try.prog 9 9 W w.heap.size (xs.length - m) (look (xs.drop m)) ∧ Below w.heap.size w W)
    ?hJ ?hY _ ?h0).mono ?_
  case hJ =>
    rintro m W ⟨h1, h2, h3, h4, h5, h6, h7⟩
    exact ⟨cell_of h2 0, Kd.C_below hr h7⟩
  case h0 =>
    have s0 := StrMap.made w Try.prog 9 9
    have hl1 := alloc_new (((w.alloc (.map #[] 0)).alloc (.cells #[.map (some w.heap.size)] 53)).alloc (.cells #[.slice A xs.length c] 22)) (.deferred (some []))
    have hl0 := alloc_new ((((w.alloc (.map #[] 0)).alloc (.cells #[.map (some w.heap.size)] 53)).alloc (.cells #[.slice A xs.length c] 22)).alloc (.deferred (some []))) (.loop rec)
    have hl2 := alloc_new ((w.alloc (.map #[] 0)).alloc (.cells #[.map (some w.heap.size)] 53)) (.cells #[.slice A xs.length c] 22)
    have hl3 := alloc_new (w.alloc (.map #[] 0)) (.cells #[.map (some w.heap.size)] 53)
    simp only [World.size_alloc] at hl0 hl1 hl2 hl3
    refine ⟨hl0, alloc_old _ (alloc_old _ hl2), alloc_old _ (alloc_old _ (alloc_old _ hl3)), alloc_old _ hl1, Nat.le_refl _, ?_, hb0⟩
    rw [Nat.sub_self, List.drop_length]
    exact (((s0.alloc _).alloc _).alloc _).alloc _
  case hY =>
    rintro m W hm ⟨h1, h2, h3, h4, h5, h6, h7⟩
    refine yield_round hfn h1 hst htm hps has hbo rfl ?_
    unfold pickV
    clear htm hps has hbo hr
    obtain ⟨x, hx⟩ : ∃ x, x = rd_T61 xs (m : Int) := ⟨_, rfl⟩
    rw [← hx]
    have hdrop : xs.drop m = x :: xs.drop (m + 1) := by rw [hx, List.drop_eq_getElem_cons hm]; simp [rd_T61, List.getD_eq_getElem?_getD, List.getElem?_eq_getElem hm]
    have hsm := hs x (List.mem_of_mem_drop (i := m) (by rw [hdrop]; exact List.mem_cons_self))
    simp only [small, Bool.and_eq_true, decide_eq_true_eq] at hsm
    obtain ⟨hs1, hs2⟩ := hsm
    have hlt := (Array.getElem?_eq_some_iff.1 h1).1
    have HD := Lib.hid hdrop
    clear hx hdrop hs
    gi_wp2
    refine ⟨alloc_old _ h1, ?_⟩
    have k1 := putObj_same (o := .loop (busy_ rec)) (alloc_old (.cells #[.string x.f0, .string x.f1] 61) h1)
    have k2 := (putObj_other (r := w.heap.size + 1 + 1 + 1 + 1) (.loop (busy_ rec)) (by omega)).trans (alloc_old (.cells #[.string x.f0, .string x.f1] 61) h2)
    have k3 := (putObj_other (r := w.heap.size + 1 + 1 + 1 + 1) (.loop (busy_ rec)) (by omega)).trans (alloc_old (.cells #[.string x.f0, .string x.f1] 61) h3)
    have k4 := (putObj_other (r := w.heap.size + 1 + 1 + 1 + 1) (.loop (busy_ rec)) (by omega)).trans (alloc_old (.cells #[.string x.f0, .string x.f1] 61) h4)
    have k5 := (putObj_other (r := w.heap.size + 1 + 1 + 1 + 1) (.loop (busy_ rec)) (by omega)).trans (alloc_new W (.cells #[.string x.f0, .string x.f1] 61))
    have k6 := (h6.alloc (.cells #[.string x.f0, .string x.f1] 61)).block (putObj_other (r := w.heap.size + 1 + 1 + 1 + 1) (.loop (busy_ rec)) (by omega))
    have k7 := below_putObj (h7.alloc h7.size (.cells #[.string x.f0, .string x.f1] 61)) (r := w.heap.size + 1 + 1 + 1 + 1) (by omega) (.loop (busy_ rec))
    generalize ((W.alloc (.cells #[.string x.f0, .string x.f1] 61)).putObj (w.heap.size + 1 + 1 + 1 + 1) (.loop (busy_ rec))) = W2 at k1 k2 k3 k4 k5 k6 k7 ⊢
    generalize W.heap.size = pb at k5 ⊢
    have c3 := cell_of k3 0
    have c5 := cell_of k5 0
    have c6 := cell_of k5 1
    simp only [List.getElem?_toArray, List.getElem?_cons_zero, List.getElem?_cons_succ] at c3 c5 c6
    clear h1 h2 h3 h4 h6 h7
    gi_wp2_with (gi_at_mapUpdate; refine wpListIn_store_str _ rfl _ _ _ rfl Try.underlying9 Try.underlying9 Try.underlying53 rfl k6 (by unfold maxLen; omega) _ _ rfl rfl (by unfold maxLen; omega) (by unfold maxLen; omega) ?_; intro w1 hm1 hg1)
    have hm6 := k6.isMap
    obtain ⟨es, ck, hh⟩ := hm6
    have g : ∀ k, k ≠ w.heap.size → k < W2.heap.size → w1.heap[k]? = W2.heap[k]? := fun k hk hl => hg1.block k hl (fun e => hk (by injection e))
    have e := look_cons x (xs.drop (m + 1))
    rw [← HD] at e
    have p1 := (Array.getElem?_eq_some_iff.1 k1).1
    have q1 := (g _ (by omega) p1).trans k1
    have q2 := (g (w.heap.size + 1 + 1) (by omega) (by omega)).trans k2
    have q3 := (g (w.heap.size + 1) (by omega) (by omega)).trans k3
    have q4 := (g (w.heap.size + 1 + 1 + 1) (by omega) (by omega)).trans k4
    refine ⟨q1, rfl, ?_⟩
    rw [ready_eq hst hpe]
    refine ⟨putObj_same _ q1, (putObj_other _ (by omega)).trans q2, (putObj_other _ (by omega)).trans q3, (putObj_other _ (by omega)).trans q4, by omega, ?_, ?_⟩
    · rw [e]
      exact (hm1.mono (by omega)).block (putObj_other _ (by omega))
    · exact below_putObj (k7.grown hg1 k7.size (fun k e => by cases e; exact Nat.le_refl _)) (by omega) _
  · rintro e W2 ⟨⟨v, rfl⟩, h1, h2, h3, h4, h5, h6, h7⟩
    refine ⟨v, rfl, rec, h1, by rw [hst]; decide, ?_⟩
    rw [hpe]
    clear htm hps has hbo hr hs hpe hfn hst
    have k3 := (putObj_other (W := W2) (r := w.heap.size + 1 + 1 + 1 + 1) (.loop (exh_ rec)) (by omega)).trans h3
    have k4 := (putObj_other (W := W2) (r := w.heap.size + 1 + 1 + 1 + 1) (.loop (exh_ rec)) (by omega)).trans h4
    have k6 := h6.block (putObj_other (W := W2) (k := w.heap.size) (r := w.heap.size + 1 + 1 + 1 + 1) (.loop (exh_ rec)) (by omega))
    have k7 := below_putObj h7 (r := w.heap.size + 1 + 1 + 1 + 1) (by omega) (.loop (exh_ rec))
    generalize W2.putObj (w.heap.size + 1 + 1 + 1 + 1) (.loop (exh_ rec)) = W3 at k3 k4 k6 k7 ⊢
    have c3 := cell_of k3 0
    simp only [List.getElem?_toArray, List.getElem?_cons_zero] at c3
    clear h1 h2 h3 h4 h6 h7 hb0
    have K4 := Lib.hid k4
    have K3 := Lib.hid k3
    clear k3 k4
    gi_wp2
    refine ⟨by simp, .inl ⟨_, _, rfl, run_takeDeferred K4, ?_⟩⟩
    exact ⟨_, results_tmp rfl _ _ _, _, rfl, Nat.le_refl _, k6.block (putObj_other _ (by omega)), k7.trans (below_putObj (Below.refl _ _) (by omega) _)⟩
end Go.Proofs.Ytnjkdnbmpldokaa.P

/- plan.Diff: what changes from one to another one, name by name. -/

namespace Go.Proofs.Ytnjkdnbmpldokaa.P
open Go.RowKit Go.Proofs.YtnjkdnbmpldokaaW.PrintWords Go.Proofs.YtnjkdnbmpldokaaW.PrintLast Go.Proofs.YtnjkdnbmpldokaaW.PrintMore Go.Proofs.YtnjkdnbmpldokaaB
set_option linter.unusedVariables false
set_option linter.unusedSimpArgs false

def lookB (l : List S61) (s : ByteArray) : ByteArray := ⟨(look l s.data.toList).toArray⟩
/-- The changes of names that are laid. -/
def diffs (l0 l1 : List S61) : List ByteArray → List S42
  | [] => []
  | n :: ns => if (lookB l0 n).toList = (lookB l1 n).toList then diffs l0 l1 ns else ⟨n, lookB l0 n, lookB l1 n⟩ :: diffs l0 l1 ns
theorem diffs_snoc (l0 l1 : List S61) (n : ByteArray) : ∀ ns, diffs l0 l1 (ns ++ [n]) = diffs l0 l1 ns ++ (if (lookB l0 n).toList = (lookB l1 n).toList then [] else [⟨n, lookB l0 n, lookB l1 n⟩])
  | [] => by simp only [diffs, List.nil_append]
  | m :: ns => by
    simp only [List.cons_append, diffs, diffs_snoc l0 l1 n ns]
    by_cases h : (lookB l0 m).toList = (lookB l1 m).toList <;> simp [h]
theorem diffs_length (l0 l1 : List S61) : ∀ ns, (diffs l0 l1 ns).length ≤ ns.length
  | [] => Nat.le_refl _
  | m :: ns => by
    have := diffs_length l0 l1 ns
    simp only [diffs]
    split <;> simp <;> omega
def fine (l : List S61) : Bool := decide (l.length ≤ 4194304) && l.all small
def short (ns : List ByteArray) : Bool := decide (ns.length ≤ 16777216) && ns.all (fun s => decide (s.size ≤ 4194304))
theorem rowsC {w : World} {b : Nat} {A0 A1 : Option Addr} {c0 c1 : Nat} {l0 l1 : List S61} {t : TypeId} (h : w.heap[b]? = some (.cells #[.slice A0 l0.length c0, .slice A1 l1.length c1] t)) (h0 : Kd.C k61 w A0 l0.length l0) (g0 : l0.length ≤ c0) (h1 : Kd.C k61 w A1 l1.length l1) (g1 : l1.length ≤ c1) :
    Kd.C (Kd.slice 61 k61) w (some ⟨b, 0, none⟩) [l0, l1].length [l0, l1] := by
  refine ⟨rfl, by simp, fun _ => ⟨_, rfl, fun j p hj => ?_⟩⟩
  match j, hj with
  | 0, hj => obtain rfl := Option.some.inj hj; exact ⟨[.slice A0 l0.length c0], rfl, ⟨A0, c0, rfl, g0, h0⟩, fun i u hu => by
      match i, hu with
      | 0, hu => obtain rfl := Option.some.inj hu; simp [Kd.slice, Addr.add, World.cell?, h]
      | i + 1, hu => simp at hu⟩
  | 1, hj => obtain rfl := Option.some.inj hj; exact ⟨[.slice A1 l1.length c1], rfl, ⟨A1, c1, rfl, g1, h1⟩, fun i u hu => by
      match i, hu with
      | 0, hu => obtain rfl := Option.some.inj hu; simp [Kd.slice, Addr.add, World.cell?, h]
      | i + 1, hu => simp at hu⟩
  | j + 2, hj => simp at hj
theorem rowC1 {w : World} {b : Nat} {A0 : Option Addr} {c0 : Nat} {l0 : List S61} {t : TypeId} (h : w.heap[b]? = some (.cells #[.slice A0 l0.length c0] t)) (h0 : Kd.C k61 w A0 l0.length l0) (g0 : l0.length ≤ c0) :
    Kd.C (Kd.slice 61 k61) w (some ⟨b, 0, none⟩) [l0].length [l0] := by
  refine ⟨rfl, by simp, fun _ => ⟨_, rfl, fun j p hj => ?_⟩⟩
  match j, hj with
  | 0, hj => obtain rfl := Option.some.inj hj; exact ⟨[.slice A0 l0.length c0], rfl, ⟨A0, c0, rfl, g0, h0⟩, fun i u hu => by
      match i, hu with
      | 0, hu => obtain rfl := Option.some.inj hu; simp [Kd.slice, Addr.add, World.cell?, h]
      | i + 1, hu => simp at hu⟩
  | j + 1, hj => simp at hj
def plan_Diff.f (k : Nat) (l0 l1 : List S61) : Option (List S42) :=
  if fine l0 && fine l1 then (plan_names.f k [l0, l1]).bind fun ns => if short ns then some (diffs l0 l1 ns) else none else none
theorem plan_Diff.mono : ∀ a0 a1 k, LeO (plan_Diff.f k a0 a1) (plan_Diff.f (k + 1) a0 a1) := by
  intro a0 a1 k
  unfold plan_Diff.f
  exact LeO.ite (LeO.bind (plan_names.mono _ _) (fun _ => LeO.refl _)) (LeO.refl _)

theorem zero_str (w : World) : (zeroValue 9).run Try.prog w = .ok (.string ⟨#[]⟩) w := by
  kernel_rfl

set_option maxHeartbeats 1000000 in
set_option maxRecDepth 100000 in
theorem plan_Diff.calls (k : Nat) (A0 : Option Addr) (c0 : Nat) (l0 : List S61) (A1 : Option Addr) (c1 : Nat) (l1 : List S61) (r : List S42) (w : World) (hr0 : Kd.C k61 w A0 l0.length l0) (hc0 : l0.length ≤ c0) (hr1 : Kd.C k61 w A1 l1.length l1) (hc1 : l1.length ≤ c1) (h : plan_Diff.f k l0 l1 = some r) :
    Calls Try.prog 10 #[.slice A0 l0.length c0, .slice A1 l1.length c1] w fun e w' => ∃ v0_ : Value, e = .returned (v0_) ∧ Kd.R k42 42 w' w.heap.size (fun _ => True) v0_ r ∧ Below w.heap.size w w' := by
  unfold plan_Diff.f at h
  split at h
  case isFalse => cases h
  rename_i hf
  simp only [fine, Bool.and_eq_true, decide_eq_true_eq, List.all_eq_true] at hf
  obtain ⟨⟨hf0, hs0⟩, hf1, hs1⟩ := hf
  obtain ⟨ns, hn, h⟩ := Option.bind_eq_some_iff.1 h
  split at h
  case isFalse => cases h
  rename_i hsh
  cases h
  simp only [short, Bool.and_eq_true, decide_eq_true_eq, List.all_eq_true] at hsh
  obtain ⟨hnl, hns⟩ := hsh
  have HR0 := Aside0.mk hr0
  have HC0 := Aside0.mk hc0
  have HR1 := Aside0.mk hr1
  have HC1 := Aside0.mk hc1
  have HS0 := Aside0.mk hs0
  have HS1 := Aside0.mk hs1
  have HF0 := Aside0.mk hf0
  have HF1 := Aside0.mk hf1
  have HN := Aside0.mk hn
  have HNS := Aside0.mk hns
  have HNL := Aside0.mk hnl
  clear hr0 hc0 hr1 hc1 hs0 hs1 hf0 hf1 hn hns hnl
  have hu61 := Try.underlying61
  have hu42 := Try.underlying42
  go_enter Try.func10, Try.ntmps10
  go_wp2_with (first
    | (go_at_call 22; with_reducible refine (there_calls A0 c0 l0 w HR0.out HF0.out HS0.out).mono ?_; rintro e w1 ⟨b0, rfl, hb0, hm0, hB1⟩; have M0 := Aside0.mk hm0; have B1 := Aside0.mk hB1; have G0 := Aside0.mk hb0; clear hm0 hB1 hb0)
    | (go_at_call 22; with_reducible refine (there_calls A1 c1 l1 _ (Kd.C_below HR1.out B1.out) HF1.out HS1.out).mono ?_; rintro e w2 ⟨b1, rfl, hb1, hm1, hB2⟩; have M1 := Aside0.mk hm1; have B2 := Aside0.mk hB2; have G1 := Aside0.mk hb1; clear hm1 hB2 hb1)
    | (go_at_call 23; go_loud (have BB := Aside0.mk ((B1.out.trans (B2.out.mono (below_size B1.out))).alloc (below_size (B1.out.trans (B2.out.mono (below_size B1.out)))) (.cells #[Value.slice A0 l0.length c0, Value.slice A1 l1.length c1] 22)); refine calls_of_args (args' := #[.slice (some ⟨w2.heap.size, 0, none⟩) [l0, l1].length 2]) (by rfl) ?_; with_reducible refine (plan_names.calls k (some ⟨w2.heap.size, 0, none⟩) 2 [l0, l1] ns _ (rowsC (alloc_new _ _) (Kd.C_below HR0.out BB.out) HC0.out (Kd.C_below HR1.out BB.out) HC1.out) (Nat.le_refl _) HN.out).mono ?_; rintro e w3 ⟨vn, rfl, hvn, hB3⟩; have M0' := Aside0.mk ((M0.out.below B2.out).alloc (.cells #[Value.slice A0 l0.length c0, Value.slice A1 l1.length c1] 22) |>.below hB3); have M1' := Aside0.mk (M1.out.alloc (.cells #[Value.slice A0 l0.length c0, Value.slice A1 l1.length c1] 22) |>.below hB3); clear M0 M1; have M0 := M0'; have M1 := M1'; clear M0' M1'; have B3 := Aside0.mk (BB.out.trans (hB3.mono (below_size BB.out))); clear hB3 BB B1 B2 G0 G1; obtain ⟨An, cn, rfl, hcn, hCn⟩ := Kd.R_reads hvn; have HCN := Aside0.mk hcn; have HVN := Aside0.mk hCn; clear hvn hcn hCn)))
  go_loopg [7, 19] ns.length (fun kq v7 v19 w' => ∃ (m : Nat), v19 = .int .i64 (m : Int) ∧ Aside0 (kq + m = ns.length) ∧ Aside0 (Kd.R k42 42 w' w3.heap.size (fun _ => True) v7 (diffs l0 l1 (ns.take m))) ∧ Aside0 (Below w3.heap.size w3 w'))
  case atStart => exact ⟨0, rfl, ⟨rfl⟩, ⟨Kd.R_nil _ _ _ _ _⟩, ⟨Below.refl _ _⟩⟩
  case round =>
    obtain ⟨m, rfl, HM, HO, HB⟩ := hrel
    by_cases c : m < ns.length
    · have HM1 := HM.out
      obtain ⟨k1, rfl⟩ : ∃ k1, gk = k1 + 1 := ⟨gk - 1, by omega⟩
      obtain ⟨ad, cs, e, _, hK, hc0⟩ := Kd.C_get HVN.out ByteArray.empty (m : Int) (by omega) (by omega)
      cases e
      obtain rfl : cs = [.string (ns.getD m ByteArray.empty)] := by rw [← Int.toNat_natCast m]; exact hK
      have hx : w3.cell? (ad.add m) = some (.string (ns.getD m ByteArray.empty)) := by simpa [Kd.string, Kd.scalar] using hc0 0 _ rfl
      replace hx := (HB.out.cell (World.block_lt_of_cell? w3 _ hx)).trans hx
      clear hc0 hK
      have hd : ns.take (m + 1) = ns.take m ++ [ns.getD m ByteArray.empty] := by rw [List.take_add_one, List.getElem?_eq_getElem c, List.getD_eq_getElem?_getD, List.getElem?_eq_getElem c]; rfl
      have hsz := HNS.out (ns.getD m ByteArray.empty) (by rw [List.getD_eq_getElem?_getD, List.getElem?_eq_getElem c]; exact List.getElem_mem c)
      have HSZ := Aside0.mk (show (ns.getD m ByteArray.empty).size ≤ maxLen by unfold maxLen; omega)
      clear hsz
      generalize ns.getD m ByteArray.empty = x at hd hx HSZ
      have HD := Aside0.mk hd
      have S0 := Aside0.mk (M0.out.below HB.out)
      have S1 := Aside0.mk (M1.out.below HB.out)
      clear hd HM1
      have p : (0 ≤ (m : Int)) = True := eq_true (by omega)
      have q : ((m : Int) < (ns.length : Int)) = True := eq_true (by omega)
      clear c
      by_cases hc : (lookB l0 x).toList = (lookB l1 x).toList
      · have cb : ((lookB l0 x).toList == (lookB l1 x).toList) = true := beq_iff_eq.mpr hc
        have HE := Aside0.mk hc
        clear hc
        go_wp2_with (first
          | (at_lookup; refine wpList_look_str _ rfl _ _ rfl Try.underlying9 Try.underlying9 Try.underlying53 zero_str rfl S0.out x rfl HSZ.out (lookB l0 x) rfl ?_)
          | (at_lookup; refine wpList_look_str _ rfl _ _ rfl Try.underlying9 Try.underlying9 Try.underlying53 zero_str rfl S1.out x rfl HSZ.out (lookB l1 x) rfl ?_))
        go_roundg k1
        case measure => exact Nat.lt_succ_self _
        case rel => exact ⟨m + 1, by have := HM.out; have := HNL.out; simp [wrap64]; omega, ⟨by have := HM.out; omega⟩, ⟨by rw [HD.out, diffs_snoc, if_pos HE.out, List.append_nil]; exact HO.out⟩, HB⟩
      · have cb : ((lookB l0 x).toList == (lookB l1 x).toList) = false := beq_eq_false_iff_ne.mpr hc
        have HE := Aside0.mk hc
        clear hc
        go_wp2_with (first
          | (at_lookup; refine wpList_look_str _ rfl _ _ rfl Try.underlying9 Try.underlying9 Try.underlying53 zero_str rfl S0.out x rfl HSZ.out (lookB l0 x) rfl ?_)
          | (at_lookup; refine wpList_look_str _ rfl _ _ rfl Try.underlying9 Try.underlying9 Try.underlying53 zero_str rfl S1.out x rfl HSZ.out (lookB l1 x) rfl ?_)
          | ((with_reducible refine gate_builtin (b := .append) (xs := #[.tmp 30, .tmp 39]) rfl ?_); go_loud (at_builtin; refine Kd.R_append k42 (w0 := w3) w3.heap.size rfl (.tmp 30) (.tmp 39) 23 42 (.agg #[.string ⟨#[]⟩, .string ⟨#[]⟩, .string ⟨#[]⟩]) 48 rfl Try.underlying23 info42 rfl (by decide) (by omega) u7 (diffs l0 l1 (ns.take m)) ⟨x, lookB l0 x, lookB l1 x⟩ [.string x, .string (lookB l0 x), .string (lookB l1 x)] (fun _ => True) (fun _ => False) rfl (by first | (go_simp; done) | (go_simp; rfl)) ?aP (fun _ hk => hk.elim) (fun _ _ => trivial) HO.out HB.out (below_size HB.out) ?aL ?_; (case aP => exact k42_mkM _ _ _ _); (case aL => have := HNL.out; have := HM.out; have := diffs_length l0 l1 (ns.take m); have := List.length_take_le m ns; omega); intro v1 w1 ho hb hg hat; have HO1 := Aside0.mk ho; have HB1 := Aside0.mk hb; clear ho hb hg hat)))
        go_roundg k1
        case measure => exact Nat.lt_succ_self _
        case rel => exact ⟨m + 1, by have := HM.out; have := HNL.out; simp [wrap64]; omega, ⟨by have := HM.out; omega⟩, ⟨by rw [HD.out, diffs_snoc, if_neg HE.out]; exact HO1.out⟩, HB1⟩
    · have HM1 := HM.out
      have hm : m = ns.length := by omega
      have cb : decide ((m : Int) < (ns.length : Int)) = false := decide_eq_false (by omega)
      have cb2 : (m < ns.length) = False := eq_false (by omega)
      have HE := Aside0.mk hm
      clear hm c HM1
      go_wp2
      go_ret
      exact ⟨_, rfl, Kd.R_lower (by rw [← List.take_length (l := ns), ← HE.out]; exact HO.out) (below_size B3.out), B3.out.trans (HB.out.mono (below_size B3.out))⟩
end Go.Proofs.Ytnjkdnbmpldokaa.P

/- plan.Apply: changes done, one by one, over the map of what is there. -/
namespace Go.Proofs.Ytnjkdnbmpldokaa.P
open Go.RowKit Go.Proofs.YtnjkdnbmpldokaaW.PrintWords Go.Proofs.YtnjkdnbmpldokaaW.PrintLast Go.Proofs.YtnjkdnbmpldokaaW.PrintMore Go.Proofs.YtnjkdnbmpldokaaB
set_option linter.unusedVariables false
set_option linter.unusedSimpArgs false

def atB (f : List UInt8 → List UInt8) (s : ByteArray) : ByteArray := ⟨(f s.data.toList).toArray⟩
def picksF (f : List UInt8 → List UInt8) : List ByteArray → List S61
  | [] => []
  | n :: ns => if (atB f n).toList = [] then picksF f ns else ⟨n, atB f n⟩ :: picksF f ns
theorem picksF_snoc (f : List UInt8 → List UInt8) (n : ByteArray) : ∀ ns, picksF f (ns ++ [n]) = picksF f ns ++ (if (atB f n).toList = [] then [] else [⟨n, atB f n⟩])
  | [] => by simp only [picksF, List.nil_append]
  | m :: ns => by
    simp only [List.cons_append, picksF, picksF_snoc f n ns]
    by_cases h : (atB f m).toList = [] <;> simp [h]
theorem picksF_length (f : List UInt8 → List UInt8) : ∀ ns, (picksF f ns).length ≤ ns.length
  | [] => Nat.le_refl _
  | m :: ns => by
    have := picksF_length f ns
    simp only [picksF]
    split <;> simp <;> omega
def updF (f : List UInt8 → List UInt8) (s v : ByteArray) : List UInt8 → List UInt8 := fun k => if k = s.data.toList then v.data.toList else f k
def smallC (c : S42) : Bool := decide (c.f0.size ≤ 4194304) && decide (c.f2.size ≤ 4194304)
def applyEnd (f : List UInt8 → List UInt8) (all : List ByteArray) : Option (List S61 × Int) :=
  (slices_Sort_string_string.f all).bind fun s => (slices_Compact_string_string.f s).bind fun u => if short u then some (picksF f u, 0) else none
def applyGo (k : Nat) : List S42 → (List UInt8 → List UInt8) → List ByteArray → Option (List S61 × Int)
  | [], f, all => applyEnd f all
  | c :: cs, f, all => if smallC c && decide (all.length ≤ 16777216) then
      (if (atB f c.f0).toList = c.f1.toList then
        (plan_word.f k c.f0).bind fun a => if a = false then some ([], 20) else
          if c.f2.toList = [] then applyGo k cs (updF f c.f0 c.f2) (all ++ [c.f0]) else
            (plan_word.f k c.f2).bind fun b => if b = false then some ([], 20) else applyGo k cs (updF f c.f0 c.f2) (all ++ [c.f0])
      else some ([], 35)) else none
def plan_Apply.f (k : Nat) (l0 : List S61) (l1 : List S42) : Option (List S61 × Int) :=
  (plan_Fit.f k l0).bind fun b => if b = false then some ([], 32) else
    if fine l0 && decide (l1.length ≤ 4194304) then (plan_names.f k [l0]).bind fun ns => applyGo k l1 (look l0) ns else none
theorem applyGo_mono (k : Nat) : ∀ l f all, LeO (applyGo k l f all) (applyGo (k + 1) l f all)
  | [], f, all => LeO.refl _
  | c :: cs, f, all => by
    unfold applyGo
    exact LeO.ite (LeO.ite (LeO.bind (plan_word.mono _ _) (fun _ => LeO.ite (LeO.refl _) (LeO.ite (applyGo_mono k _ _ _) (LeO.bind (plan_word.mono _ _) (fun _ => LeO.ite (LeO.refl _) (applyGo_mono k _ _ _)))))) (LeO.refl _)) (LeO.refl _)
theorem plan_Apply.mono : ∀ a0 a1 k, LeO (plan_Apply.f k a0 a1) (plan_Apply.f (k + 1) a0 a1) := by
  intro a0 a1 k
  unfold plan_Apply.f
  exact LeO.bind (plan_Fit.mono _ _) (fun _ => LeO.ite (LeO.refl _) (LeO.ite (LeO.bind (plan_names.mono _ _) (fun _ => applyGo_mono k _ _ _)) (LeO.refl _)))

/-- What stands while a change is looked at. -/
structure St (w W : World) (pb b n : Nat) (c : S42) (f : List UInt8 → List UInt8) (va : Value) (all : List ByteArray) : Prop where
  hP : W.heap[pb]? = some (.cells #[.string c.f0, .string c.f1, .string c.f2] 42)
  hM : StrMap Try.prog 9 9 W b n f
  hA : Kd.R Kd.string 9 W w.heap.size (fun _ => True) va all
  hB : Below w.heap.size w W
section
variable {w W W' : World} {pb b n : Nat} {c : S42} {f : List UInt8 → List UInt8} {va : Value} {all : List ByteArray}
theorem St.drawn (h : St w W pb b n c f va all) (hd : Drawn0 W W') : St w W' pb b n c f va all := by
  obtain ⟨m, rfl⟩ := hd.out
  exact ⟨h.hP, h.hM.block rfl, Kd.R_drewN h.hA m, pw_below_drewN h.hB m⟩
theorem St.c0 (h : St w W pb b n c f va all) : W.cell? ⟨pb, 0, none⟩ = some (.string c.f0) := cell_of h.hP 0
theorem St.c1 (h : St w W pb b n c f va all) : W.cell? ⟨pb, 1, none⟩ = some (.string c.f1) := cell_of h.hP 1
theorem St.c2 (h : St w W pb b n c f va all) : W.cell? ⟨pb, 2, none⟩ = some (.string c.f2) := cell_of h.hP 2
theorem map_ne_row {base : Nat} {ok : Nat → Prop} (hM : StrMap Try.prog 9 9 W b n f) (hA : Kd.R Kd.string 9 W base ok va all) : some b ≠ va.ownBlock := by
  intro e
  obtain ⟨cs, hcs⟩ := Kd.R_typed hA b e.symm
  obtain ⟨es, ck, hh⟩ := hM.isMap
  rw [hh] at hcs
  cases hcs
theorem St.store {f' : List UInt8 → List UInt8} (h : St w W pb b n c f va all) (hM : StrMap Try.prog 9 9 W' b (n + 1) f') (hg : W.grownBy W' (some b)) (hb : w.heap.size ≤ b) : St w W' pb b (n + 1) c f' va all := by
  have hne : pb ≠ b := by
    intro e
    obtain ⟨es, ck, hh⟩ := h.hM.isMap
    rw [← e, h.hP] at hh
    cases hh
  exact ⟨(hg.block pb (Array.getElem?_eq_some_iff.1 h.hP).1 (fun e => hne (by injection e))).trans h.hP, hM, Kd.R_grown1 h.hA rfl hg (map_ne_row h.hM h.hA), h.hB.grown hg (below_size h.hB) (fun k e => by cases e; exact hb)⟩
end
theorem kept_block {w W : World} {S : Nat → Prop} (h : Kept w W S) {i : Nat} (hi : i < w.heap.size) (hn : ¬ S i) : W.heap[i]? = w.heap[i]? := (show _ ∧ _ from h).2 i hi hn
/-- The world, named. -/
theorem gen_world {P : Program} {c : Code} {Q : Exit → Act → World → Prop} {a : Act} {W : World} (h : ∀ W', W' = W → c.wp P Q a W') : c.wp P Q a W := h W rfl
theorem St.made {w w9 W : World} {b n g : Nat} {f : List UInt8 → List UInt8} {va : Value} {all : List ByteArray} (x : S42) {z : Array Value} (hz : z = #[.string ⟨#[]⟩, .string ⟨#[]⟩, .string ⟨#[]⟩]) (hg : g = W.heap.size) (hP : w9.heap[g]? = some (.cells z 42)) (hb : Below W.heap.size W w9) (hM : StrMap Try.prog 9 9 W b n f) (hA : Kd.R Kd.string 9 W w.heap.size (fun _ => True) va all) (hB : Below w.heap.size w W) :
    St w (((w9.setCell ⟨g, 0, none⟩ (.string x.f0)).setCell ⟨g, 1, none⟩ (.string x.f1)).setCell ⟨g, 2, none⟩ (.string x.f2)) g b n x f va all := by
  subst hz
  have h1 := blk_put hP 0 (.string x.f0) (cs' := #[.string x.f0, .string ⟨#[]⟩, .string ⟨#[]⟩]) rfl
  have h2 := blk_put h1 1 (.string x.f1) (cs' := #[.string x.f0, .string x.f1, .string ⟨#[]⟩]) rfl
  have h3 := blk_put h2 2 (.string x.f2) (cs' := #[.string x.f0, .string x.f1, .string x.f2]) rfl
  have hBB : Below W.heap.size W (((w9.setCell ⟨g, 0, none⟩ (.string x.f0)).setCell ⟨g, 1, none⟩ (.string x.f1)).setCell ⟨g, 2, none⟩ (.string x.f2)) :=
    ((hb.setCell (Nat.le_of_eq hg.symm) _).setCell (Nat.le_of_eq hg.symm) _).setCell (Nat.le_of_eq hg.symm) _
  exact ⟨h3, hM.below hBB, Kd.R_below hA hBB, hB.trans (hBB.mono (below_size hB))⟩
set_option maxHeartbeats 2000000 in
set_option maxRecDepth 100000 in
theorem plan_Apply.calls_ (k : Nat) (A0 : Option Addr) (c0 : Nat) (l0 : List S61) (A1 : Option Addr) (c1 : Nat) (l1 : List S42) (r : List S61 × Int) (w : World) (hr0 : Kd.C k61 w A0 l0.length l0) (hc0 : l0.length ≤ c0) (hr1 : Kd.C k42 w A1 l1.length l1) (hc1 : l1.length ≤ c1) (h : plan_Apply.f k l0 l1 = some r) :
    Calls Try.prog 7 #[.slice A0 l0.length c0, .slice A1 l1.length c1] w fun e w' => ∃ v0_ : Value, e = .returned (.tuple #[v0_, .int .i64 r.2]) ∧ Kd.R k61 61 w' w.heap.size (fun _ => True) v0_ r.1 ∧ Below w.heap.size w w' := by
  unfold plan_Apply.f at h
  obtain ⟨bf, hfit, h⟩ := Option.bind_eq_some_iff.1 h
  have HR0 := Aside0.mk hr0
  have HC0 := Aside0.mk hc0
  have HR1 := Aside0.mk hr1
  have HC1 := Aside0.mk hc1
  have HFIT := Aside0.mk hfit
  clear hr0 hc0 hr1 hc1 hfit
  have hu61 := Try.underlying61
  have hu42 := Try.underlying42
  cases bf with
  | false =>
    rw [if_pos rfl] at h
    cases h
    go_enter Try.func7, Try.ntmps7
    go_wp2_with (go_at_call 16; with_reducible refine (plan_Fit.calls k A0 c0 l0 false w HR0.out HC0.out HFIT.out).mono ?_; rintro e w1 ⟨rfl, hB⟩; have HB := Aside0.mk hB; clear hB)
    go_ret2
    exact ⟨_, rfl, Kd.R_nil _ _ _ _ _, HB.out⟩
  | true =>
    rw [if_neg (by simp)] at h
    split at h
    case isFalse => cases h
    rename_i hf
    simp only [fine, Bool.and_eq_true, decide_eq_true_eq, List.all_eq_true] at hf
    obtain ⟨⟨hf0, hs0⟩, hl1⟩ := hf
    obtain ⟨ns, hn, h⟩ := Option.bind_eq_some_iff.1 h
    have HF0 := Aside0.mk hf0
    have HS0 := Aside0.mk hs0
    have HL1 := Aside0.mk hl1
    have HN := Aside0.mk hn
    have H := Aside0.mk h
    clear hf0 hs0 hl1 hn h
    go_enter Try.func7, Try.ntmps7
    go_wp2_with (first
      | (go_at_call 16; with_reducible refine (plan_Fit.calls k A0 c0 l0 true w HR0.out HC0.out HFIT.out).mono ?_; rintro e w1 ⟨rfl, hB⟩; have B0 := Aside0.mk hB; clear hB)
      | (go_at_call 22; with_reducible refine (there_calls A0 c0 l0 _ (Kd.C_below HR0.out B0.out) HF0.out HS0.out).mono ?_; rintro e w2 ⟨b, rfl, hb, hm, hB1⟩; have M0 := Aside0.mk hm; have G0 := Aside0.mk (Nat.le_trans (below_size B0.out) hb); have B1 := Aside0.mk (B0.out.trans (hB1.mono (below_size B0.out))); clear hm hB1 hb B0)
      | (go_at_call 23; go_loud (have BB := Aside0.mk (B1.out.alloc (below_size B1.out) (.cells #[Value.slice A0 l0.length c0] 22)); refine calls_of_args (args' := #[.slice (some ⟨w2.heap.size, 0, none⟩) [l0].length 1]) (by rfl) ?_; with_reducible refine (plan_names.calls k (some ⟨w2.heap.size, 0, none⟩) 1 [l0] ns _ (rowC1 (alloc_new _ _) (Kd.C_below HR0.out BB.out) HC0.out) (Nat.le_refl _) HN.out).mono ?_; rintro e w3 ⟨vn, rfl, hvn, hB3⟩; have M0' := Aside0.mk (M0.out.alloc (.cells #[Value.slice A0 l0.length c0] 22) |>.below hB3); clear M0; have M0 := M0'; clear M0'; have B3 := Aside0.mk (BB.out.trans (hB3.mono (below_size BB.out))); clear hB3 B1; have HVN := Aside0.mk (Kd.R_lower hvn (below_size BB.out)); clear hvn BB)))
    go_loopg [7, 23] l1.length (fun kq v7 v23 w' => ∃ (m : Nat) (f : List UInt8 → List UInt8) (all : List ByteArray), v23 = .int .i64 (m : Int) ∧ Aside0 (kq + m = l1.length) ∧ Aside0 (applyGo k (l1.drop m) f all = some r) ∧ Aside0 (Kd.R Kd.string 9 w' w.heap.size (fun _ => True) v7 all) ∧ Aside0 (StrMap Try.prog 9 9 w' b (l0.length + m) f) ∧ Aside0 (Below w.heap.size w w'))
    case atStart => exact ⟨0, look l0, ns, rfl, ⟨rfl⟩, H, HVN, M0, B3⟩
    case round =>
      clear H HVN M0 B3
      obtain ⟨m, f, all, rfl, HM, H, HO, M0, HB⟩ := hrel
      by_cases c : m < l1.length
      · have HM1 := HM.out
        obtain ⟨k1, rfl⟩ : ∃ k1, gk = k1 + 1 := ⟨gk - 1, by omega⟩
        have p : 0 ≤ (m : Int) := by omega
        have q : (m : Int) < (l1.length : Int) := by omega
        obtain ⟨ad, e, hx0, hx1, hx2⟩ := at_T42 HR1.out (m : Int) p q
        cases e
        rw [Int.toNat_natCast] at hx0 hx1 hx2
        replace hx0 := (HB.out.cell (World.block_lt_of_cell? w _ hx0)).trans hx0
        replace hx1 := (HB.out.cell (World.block_lt_of_cell? w _ hx1)).trans hx1
        replace hx2 := (HB.out.cell (World.block_lt_of_cell? w _ hx2)).trans hx2
        have hdrop : l1.drop m = rd_T42 l1 (m : Int) :: l1.drop (m + 1) := by
          rw [List.drop_eq_getElem_cons c]; simp [rd_T42, List.getD_eq_getElem?_getD, List.getElem?_eq_getElem c]
        have H1 := H.out
        rw [hdrop] at H1
        clear hdrop HM1 H
        generalize rd_T42 l1 (m : Int) = x at hx0 hx1 hx2 H1
        unfold applyGo at H1
        split at H1
        case isFalse => cases H1
        rename_i hsm
        simp only [smallC, Bool.and_eq_true, decide_eq_true_eq] at hsm
        have HSM := Aside0.mk hsm
        clear hsm
        replace p := eq_true p
        replace q := eq_true q
        have q2 : (m < l1.length) = True := eq_true c
        clear c
        split at H1
        case isFalse hc =>
          cases H1
          have cb : ((atB f x.f0).toList == x.f1.toList) = false := beq_eq_false_iff_ne.mpr hc
          clear hc
          go_wp2_with (first
            | ((with_reducible refine gate_dst (N := 9) rfl ?_); refine box_event ?hg (N := 9) ?hd (cs := #[.string (⟨#[]⟩ : ByteArray), .string (⟨#[]⟩ : ByteArray), .string (⟨#[]⟩ : ByteArray)]) (t := 42) ?hr ?_; (case hd => rfl); (case hg => rfl); (case hr => first | (go_simp; done) | (go_simp; rfl)); intro pb hpb w9 hbox hb; have ST := Aside0.mk (St.made x rfl hpb hbox hb M0.out HO.out HB.out); have hy0 := (hb.cell (World.block_lt_of_cell? wr _ hx0)).trans hx0; have hy1 := (hb.cell (World.block_lt_of_cell? wr _ hx1)).trans hx1; have hy2 := (hb.cell (World.block_lt_of_cell? wr _ hx2)).trans hx2; have hz0 : w9.cell? ⟨pb, 0, none⟩ = some (.string (⟨#[]⟩ : ByteArray)) := (blk_cell hbox 0).trans rfl; have hz1 : w9.cell? ⟨pb, 1, none⟩ = some (.string (⟨#[]⟩ : ByteArray)) := (blk_cell hbox 1).trans rfl; have hz2 : w9.cell? ⟨pb, 2, none⟩ = some (.string (⟨#[]⟩ : ByteArray)) := (blk_cell hbox 2).trans rfl; have hf0 := blk_frozen hbox 0; have hf1 := blk_frozen hbox 1; have hf2 := blk_frozen hbox 2; clear hbox hb hpb)
            | (at_lookup; refine wpList_look_str _ rfl _ _ rfl Try.underlying9 Try.underlying9 Try.underlying53 zero_str rfl ST.out.hM x.f0 rfl (by have := HSM.out.1.1; unfold maxLen; omega) (atB f x.f0) rfl ?_))
          go_ret2
          exact ⟨_, rfl, Kd.R_nil _ _ _ _ _, ST.out.hB⟩
        case isTrue hc =>
          have cb : ((atB f x.f0).toList == x.f1.toList) = true := beq_iff_eq.mpr hc
          clear hc
          obtain ⟨wa, hwa, H1⟩ := Option.bind_eq_some_iff.1 H1
          have HWA := Aside0.mk hwa
          clear hwa
          cases wa with
          | false =>
            rw [if_pos rfl] at H1
            cases H1
            go_wp2_with (first
              | ((with_reducible refine gate_dst (N := 9) rfl ?_); refine box_event ?hg (N := 9) ?hd (cs := #[.string (⟨#[]⟩ : ByteArray), .string (⟨#[]⟩ : ByteArray), .string (⟨#[]⟩ : ByteArray)]) (t := 42) ?hr ?_; (case hd => rfl); (case hg => rfl); (case hr => first | (go_simp; done) | (go_simp; rfl)); intro pb hpb w9 hbox hb; have ST := Aside0.mk (St.made x rfl hpb hbox hb M0.out HO.out HB.out); have hy0 := (hb.cell (World.block_lt_of_cell? wr _ hx0)).trans hx0; have hy1 := (hb.cell (World.block_lt_of_cell? wr _ hx1)).trans hx1; have hy2 := (hb.cell (World.block_lt_of_cell? wr _ hx2)).trans hx2; have hz0 : w9.cell? ⟨pb, 0, none⟩ = some (.string (⟨#[]⟩ : ByteArray)) := (blk_cell hbox 0).trans rfl; have hz1 : w9.cell? ⟨pb, 1, none⟩ = some (.string (⟨#[]⟩ : ByteArray)) := (blk_cell hbox 1).trans rfl; have hz2 : w9.cell? ⟨pb, 2, none⟩ = some (.string (⟨#[]⟩ : ByteArray)) := (blk_cell hbox 2).trans rfl; have hf0 := blk_frozen hbox 0; have hf1 := blk_frozen hbox 1; have hf2 := blk_frozen hbox 2; clear hbox hb hpb)
              | (at_lookup; refine wpList_look_str _ rfl _ _ rfl Try.underlying9 Try.underlying9 Try.underlying53 zero_str rfl ST.out.hM x.f0 rfl (by have := HSM.out.1.1; unfold maxLen; omega) (atB f x.f0) rfl ?_)
              | (go_at_call 24; with_reducible refine (plan_word.calls k x.f0 false _ HWA.out).mono ?_; rintro e w4 ⟨rfl, hd⟩; have ST' := Aside0.mk (ST.out.drawn hd); clear ST hd; have ST := ST'; clear ST'; have d0 := ST.out.c0; have d1 := ST.out.c1; have d2 := ST.out.c2))
            go_ret2
            exact ⟨_, rfl, Kd.R_nil _ _ _ _ _, ST.out.hB⟩
          | true =>
            rw [if_neg (by simp)] at H1
            split at H1
            case isTrue hz =>
              have cz : (x.f2.toList == ([] : List UInt8)) = true := beq_iff_eq.mpr hz
              have HNX := Aside0.mk H1
              clear hz H1
              go_wp2_with (first
                | ((with_reducible refine gate_dst (N := 9) rfl ?_); refine box_event ?hg (N := 9) ?hd (cs := #[.string (⟨#[]⟩ : ByteArray), .string (⟨#[]⟩ : ByteArray), .string (⟨#[]⟩ : ByteArray)]) (t := 42) ?hr ?_; (case hd => rfl); (case hg => rfl); (case hr => first | (go_simp; done) | (go_simp; rfl)); intro pb hpb w9 hbox hb; have ST := Aside0.mk (St.made x rfl hpb hbox hb M0.out HO.out HB.out); have hy0 := (hb.cell (World.block_lt_of_cell? wr _ hx0)).trans hx0; have hy1 := (hb.cell (World.block_lt_of_cell? wr _ hx1)).trans hx1; have hy2 := (hb.cell (World.block_lt_of_cell? wr _ hx2)).trans hx2; have hz0 : w9.cell? ⟨pb, 0, none⟩ = some (.string (⟨#[]⟩ : ByteArray)) := (blk_cell hbox 0).trans rfl; have hz1 : w9.cell? ⟨pb, 1, none⟩ = some (.string (⟨#[]⟩ : ByteArray)) := (blk_cell hbox 1).trans rfl; have hz2 : w9.cell? ⟨pb, 2, none⟩ = some (.string (⟨#[]⟩ : ByteArray)) := (blk_cell hbox 2).trans rfl; have hf0 := blk_frozen hbox 0; have hf1 := blk_frozen hbox 1; have hf2 := blk_frozen hbox 2; clear hbox hb hpb)
                | (at_lookup; refine wpList_look_str _ rfl _ _ rfl Try.underlying9 Try.underlying9 Try.underlying53 zero_str rfl ST.out.hM x.f0 rfl (by have := HSM.out.1.1; unfold maxLen; omega) (atB f x.f0) rfl ?_)
                | (go_at_call 24; with_reducible refine (plan_word.calls k x.f0 true _ HWA.out).mono ?_; rintro e w4 ⟨rfl, hd⟩; have ST' := Aside0.mk (ST.out.drawn hd); clear ST hd; have ST := ST'; clear ST'; have d0 := ST.out.c0; have d1 := ST.out.c1; have d2 := ST.out.c2)
                | (at_mapUpdate; go_loud (refine wpList_store_str _ rfl _ _ _ rfl Try.underlying9 Try.underlying9 Try.underlying53 rfl ST.out.hM (by have := HF0.out; have := HL1.out; have := HM.out; unfold maxLen; omega) x.f0 x.f2 rfl rfl (by have := HSM.out.1.1; unfold maxLen; omega) (by have := HSM.out.1.2; unfold maxLen; omega) ?_; intro w5 hm5 hg5; have ST' := Aside0.mk (ST.out.store hm5 hg5 G0.out); clear ST hm5 hg5; have ST := ST'; clear ST'; have e0 := ST.out.c0; have e1 := ST.out.c1; have e2 := ST.out.c2))
                | ((with_reducible refine gate_builtin (b := .append) (xs := #[.tmp 56, .tmp 59]) rfl ?_); at_builtin; go_loud (refine Kd.R_append Kd.string (w0 := w) w.heap.size rfl (.tmp 56) (.tmp 59) 55 9 (.string ⟨#[]⟩) 16 rfl Try.underlying55 info9 rfl (by decide) (by omega) u7 all x.f0 [.string x.f0] (fun _ => True) (fun _ => False) rfl (by first | (go_simp; done) | (go_simp; rfl)) ?aP (fun _ hk => hk.elim) (fun _ _ => trivial) ST.out.hA ST.out.hB (below_size ST.out.hB) ?aL ?_; (case aP => exact rfl); (case aL => have := HSM.out.2; omega); intro v6 w6 ho hb hg hat; have M6 := Aside0.mk (ST.out.hM.kept hg (map_ne_row ST.out.hM ST.out.hA)); have HO6 := Aside0.mk ho; have HB6 := Aside0.mk hb; clear ho hb hg hat)))
              go_roundg k1
              case measure => exact Nat.lt_succ_self _
              case rel => exact ⟨m + 1, updF f x.f0 x.f2, all ++ [x.f0], by have := HM.out; have := HL1.out; simp [wrap64]; omega, ⟨by have := HM.out; omega⟩, HNX, HO6, ⟨(M6.out.mono (by omega))⟩, HB6⟩
            case isFalse hz =>
              have cz : (x.f2.toList == ([] : List UInt8)) = false := beq_eq_false_iff_ne.mpr hz
              clear hz
              obtain ⟨wb, hwb, H1⟩ := Option.bind_eq_some_iff.1 H1
              have HWB := Aside0.mk hwb
              clear hwb
              cases wb with
              | false =>
                rw [if_pos rfl] at H1
                cases H1
                go_wp2_with (first
                  | ((with_reducible refine gate_dst (N := 9) rfl ?_); refine box_event ?hg (N := 9) ?hd (cs := #[.string (⟨#[]⟩ : ByteArray), .string (⟨#[]⟩ : ByteArray), .string (⟨#[]⟩ : ByteArray)]) (t := 42) ?hr ?_; (case hd => rfl); (case hg => rfl); (case hr => first | (go_simp; done) | (go_simp; rfl)); intro pb hpb w9 hbox hb; have ST := Aside0.mk (St.made x rfl hpb hbox hb M0.out HO.out HB.out); have hy0 := (hb.cell (World.block_lt_of_cell? wr _ hx0)).trans hx0; have hy1 := (hb.cell (World.block_lt_of_cell? wr _ hx1)).trans hx1; have hy2 := (hb.cell (World.block_lt_of_cell? wr _ hx2)).trans hx2; have hz0 : w9.cell? ⟨pb, 0, none⟩ = some (.string (⟨#[]⟩ : ByteArray)) := (blk_cell hbox 0).trans rfl; have hz1 : w9.cell? ⟨pb, 1, none⟩ = some (.string (⟨#[]⟩ : ByteArray)) := (blk_cell hbox 1).trans rfl; have hz2 : w9.cell? ⟨pb, 2, none⟩ = some (.string (⟨#[]⟩ : ByteArray)) := (blk_cell hbox 2).trans rfl; have hf0 := blk_frozen hbox 0; have hf1 := blk_frozen hbox 1; have hf2 := blk_frozen hbox 2; clear hbox hb hpb)
                  | (at_lookup; refine wpList_look_str _ rfl _ _ rfl Try.underlying9 Try.underlying9 Try.underlying53 zero_str rfl ST.out.hM x.f0 rfl (by have := HSM.out.1.1; unfold maxLen; omega) (atB f x.f0) rfl ?_)
                  | (go_at_call 24; with_reducible refine (plan_word.calls k x.f0 true _ HWA.out).mono ?_; rintro e w4 ⟨rfl, hd⟩; have ST' := Aside0.mk (ST.out.drawn hd); clear ST hd; have ST := ST'; clear ST'; have d0 := ST.out.c0; have d1 := ST.out.c1; have d2 := ST.out.c2)
                  | (go_at_call 24; with_reducible refine (plan_word.calls k x.f2 false _ HWB.out).mono ?_; rintro e w4 ⟨rfl, hd⟩; have ST' := Aside0.mk (ST.out.drawn hd); clear ST hd; have ST := ST'; clear ST'; have d0 := ST.out.c0; have d1 := ST.out.c1; have d2 := ST.out.c2))
                go_ret2
                exact ⟨_, rfl, Kd.R_nil _ _ _ _ _, ST.out.hB⟩
              | true =>
                rw [if_neg (by simp)] at H1
                have HNX := Aside0.mk H1
                clear H1
                go_wp2_with (first
                  | ((with_reducible refine gate_dst (N := 9) rfl ?_); refine box_event ?hg (N := 9) ?hd (cs := #[.string (⟨#[]⟩ : ByteArray), .string (⟨#[]⟩ : ByteArray), .string (⟨#[]⟩ : ByteArray)]) (t := 42) ?hr ?_; (case hd => rfl); (case hg => rfl); (case hr => first | (go_simp; done) | (go_simp; rfl)); intro pb hpb w9 hbox hb; have ST := Aside0.mk (St.made x rfl hpb hbox hb M0.out HO.out HB.out); have hy0 := (hb.cell (World.block_lt_of_cell? wr _ hx0)).trans hx0; have hy1 := (hb.cell (World.block_lt_of_cell? wr _ hx1)).trans hx1; have hy2 := (hb.cell (World.block_lt_of_cell? wr _ hx2)).trans hx2; have hz0 : w9.cell? ⟨pb, 0, none⟩ = some (.string (⟨#[]⟩ : ByteArray)) := (blk_cell hbox 0).trans rfl; have hz1 : w9.cell? ⟨pb, 1, none⟩ = some (.string (⟨#[]⟩ : ByteArray)) := (blk_cell hbox 1).trans rfl; have hz2 : w9.cell? ⟨pb, 2, none⟩ = some (.string (⟨#[]⟩ : ByteArray)) := (blk_cell hbox 2).trans rfl; have hf0 := blk_frozen hbox 0; have hf1 := blk_frozen hbox 1; have hf2 := blk_frozen hbox 2; clear hbox hb hpb)
                  | (at_lookup; refine wpList_look_str _ rfl _ _ rfl Try.underlying9 Try.underlying9 Try.underlying53 zero_str rfl ST.out.hM x.f0 rfl (by have := HSM.out.1.1; unfold maxLen; omega) (atB f x.f0) rfl ?_)
                  | (go_at_call 24; with_reducible refine (plan_word.calls k x.f0 true _ HWA.out).mono ?_; rintro e w4 ⟨rfl, hd⟩; have ST' := Aside0.mk (ST.out.drawn hd); clear ST hd; have ST := ST'; clear ST'; have d0 := ST.out.c0; have d1 := ST.out.c1; have d2 := ST.out.c2)
                  | (go_at_call 24; with_reducible refine (plan_word.calls k x.f2 true _ HWB.out).mono ?_; rintro e w4 ⟨rfl, hd⟩; have ST' := Aside0.mk (ST.out.drawn hd); clear ST hd; have ST := ST'; clear ST'; have d0 := ST.out.c0; have d1 := ST.out.c1; have d2 := ST.out.c2)
                  | (at_mapUpdate; go_loud (refine wpList_store_str _ rfl _ _ _ rfl Try.underlying9 Try.underlying9 Try.underlying53 rfl ST.out.hM (by have := HF0.out; have := HL1.out; have := HM.out; unfold maxLen; omega) x.f0 x.f2 rfl rfl (by have := HSM.out.1.1; unfold maxLen; omega) (by have := HSM.out.1.2; unfold maxLen; omega) ?_; intro w5 hm5 hg5; have ST' := Aside0.mk (ST.out.store hm5 hg5 G0.out); clear ST hm5 hg5; have ST := ST'; clear ST'; have e0 := ST.out.c0; have e1 := ST.out.c1; have e2 := ST.out.c2))
                  | ((with_reducible refine gate_builtin (b := .append) (xs := #[.tmp 56, .tmp 59]) rfl ?_); at_builtin; go_loud (refine Kd.R_append Kd.string (w0 := w) w.heap.size rfl (.tmp 56) (.tmp 59) 55 9 (.string ⟨#[]⟩) 16 rfl Try.underlying55 info9 rfl (by decide) (by omega) u7 all x.f0 [.string x.f0] (fun _ => True) (fun _ => False) rfl (by first | (go_simp; done) | (go_simp; rfl)) ?aP (fun _ hk => hk.elim) (fun _ _ => trivial) ST.out.hA ST.out.hB (below_size ST.out.hB) ?aL ?_; (case aP => exact rfl); (case aL => have := HSM.out.2; omega); intro v6 w6 ho hb hg hat; have M6 := Aside0.mk (ST.out.hM.kept hg (map_ne_row ST.out.hM ST.out.hA)); have HO6 := Aside0.mk ho; have HB6 := Aside0.mk hb; clear ho hb hg hat)))
                go_roundg k1
                case measure => exact Nat.lt_succ_self _
                case rel => exact ⟨m + 1, updF f x.f0 x.f2, all ++ [x.f0], by have := HM.out; have := HL1.out; simp [wrap64]; omega, ⟨by have := HM.out; omega⟩, HNX, HO6, ⟨(M6.out.mono (by omega))⟩, HB6⟩
      · have HM1 := HM.out
        have hm : m = l1.length := by omega
        have cb : decide ((m : Int) < (l1.length : Int)) = false := decide_eq_false (by omega)
        have cb2 : (m < l1.length) = False := eq_false (by omega)
        have H1 := H.out
        rw [hm, List.drop_length] at H1
        unfold applyGo applyEnd at H1
        obtain ⟨s1, hs1, H1⟩ := Option.bind_eq_some_iff.1 H1
        obtain ⟨u1, hu1, H1⟩ := Option.bind_eq_some_iff.1 H1
        split at H1
        case isFalse => cases H1
        rename_i hsh
        cases H1
        simp only [short, Bool.and_eq_true, decide_eq_true_eq, List.all_eq_true] at hsh
        have HSH := Aside0.mk hsh
        have HS1 := Aside0.mk hs1
        have HU1 := Aside0.mk hu1
        clear hm c HM1 H hsh hs1 hu1
        obtain ⟨Ao, co, eo⟩ := Kd.R_slice HO.out
        subst eo
        go_wp2_with (first
          | (go_at_call 25; go_loud (with_reducible refine (slices_Sort_string_string.calls (fun k_ => some k_ = (.slice Ao all.length co : Value).ownBlock) (.slice Ao all.length co) all s1 w _ HB.out (Kd.R_tight rfl HO.out) HS1.out).mono ?_; rintro e w4 ⟨rfl, ho, hb, hkp⟩; have M1 := Aside0.mk (M0.out.block (kept_block hkp M0.out.lt (map_ne_row M0.out HO.out))); clear M0; have M0 := M1; clear M1 HO HB; have HO := Aside0.mk ho; have HB := Aside0.mk hb; clear ho hb hkp))
          | (go_at_call 26; go_loud (with_reducible refine (slices_Compact_string_string.calls (fun k_ => some k_ = (.slice Ao all.length co : Value).ownBlock) (.slice Ao all.length co) s1 u1 w _ HB.out (Kd.R_tight rfl HO.out) HU1.out).mono ?_; rintro e w5 ⟨vu, rfl, ho, hb, hkp⟩; have M1 := Aside0.mk (M0.out.block (kept_block hkp M0.out.lt (map_ne_row M0.out HO.out))); clear M0; have M0 := M1; clear M1 HO HB; have B5 := Aside0.mk hb; clear hb hkp; obtain ⟨An, cn, rfl, hcn, hCn⟩ := Kd.R_reads ho; have HCN := Aside0.mk hcn; have HVN := Aside0.mk hCn; clear ho hcn hCn)))
        go_loopg [10, 67] u1.length (fun kq v7 v19 w' => ∃ (m : Nat), v19 = .int .i64 (m : Int) ∧ Aside0 (kq + m = u1.length) ∧ Aside0 (Kd.R k61 61 w' w5.heap.size (fun _ => True) v7 (picksF f (u1.take m))) ∧ Aside0 (Below w5.heap.size w5 w'))
        case atStart => exact ⟨0, rfl, ⟨rfl⟩, ⟨Kd.R_nil _ _ _ _ _⟩, ⟨Below.refl _ _⟩⟩
        case round =>
          clear HM
          try clear m
          obtain ⟨m, rfl, HM, HO, HB⟩ := hrel
          by_cases c : m < u1.length
          · have HM1 := HM.out
            obtain ⟨k1, rfl⟩ : ∃ k1, gk = k1 + 1 := ⟨gk - 1, by omega⟩
            obtain ⟨ad, cs, e, _, hK, hc0⟩ := Kd.C_get HVN.out ByteArray.empty (m : Int) (by omega) (by omega)
            cases e
            obtain rfl : cs = [.string (u1.getD m ByteArray.empty)] := by rw [← Int.toNat_natCast m]; exact hK
            have hx : w5.cell? (ad.add m) = some (.string (u1.getD m ByteArray.empty)) := by simpa [Kd.string, Kd.scalar] using hc0 0 _ rfl
            replace hx := (HB.out.cell (World.block_lt_of_cell? w5 _ hx)).trans hx
            clear hc0 hK
            have hd : u1.take (m + 1) = u1.take m ++ [u1.getD m ByteArray.empty] := by rw [List.take_add_one, List.getElem?_eq_getElem c, List.getD_eq_getElem?_getD, List.getElem?_eq_getElem c]; rfl
            have hsz := HSH.out.2 (u1.getD m ByteArray.empty) (by rw [List.getD_eq_getElem?_getD, List.getElem?_eq_getElem c]; exact List.getElem_mem c)
            have HSZ := Aside0.mk (show (u1.getD m ByteArray.empty).size ≤ maxLen by unfold maxLen; omega)
            clear hsz
            generalize u1.getD m ByteArray.empty = x at hd hx HSZ
            have HD := Aside0.mk hd
            have S0 := Aside0.mk (M0.out.below HB.out)
            clear hd HM1
            have p : (0 ≤ (m : Int)) = True := eq_true (by omega)
            have q : ((m : Int) < (u1.length : Int)) = True := eq_true (by omega)
            have q2 : (m < u1.length) = True := eq_true c
            clear c
            by_cases hc : (atB f x).toList = []
            · have cb2 : ((atB f x).toList == ([] : List UInt8)) = true := beq_iff_eq.mpr hc
              have HE := Aside0.mk hc
              clear hc
              go_wp2_with (at_lookup; refine wpList_look_str _ rfl _ _ rfl Try.underlying9 Try.underlying9 Try.underlying53 zero_str rfl S0.out x rfl HSZ.out (atB f x) rfl ?_)
              go_roundg k1
              case measure => exact Nat.lt_succ_self _
              case rel => exact ⟨m + 1, by have := HM.out; have := HSH.out.1; simp [wrap64]; omega, ⟨by have := HM.out; omega⟩, ⟨by rw [HD.out, picksF_snoc, if_pos HE.out, List.append_nil]; exact HO.out⟩, HB⟩
            · have cb2 : ((atB f x).toList == ([] : List UInt8)) = false := beq_eq_false_iff_ne.mpr hc
              have HE := Aside0.mk hc
              clear hc
              go_wp2_with (first
                | (at_lookup; refine wpList_look_str _ rfl _ _ rfl Try.underlying9 Try.underlying9 Try.underlying53 zero_str rfl S0.out x rfl HSZ.out (atB f x) rfl ?_)
                | ((with_reducible refine gate_builtin (b := .append) (xs := #[.tmp 75, .tmp 81]) rfl ?_); at_builtin; go_loud (refine Kd.R_append k61 (w0 := w5) w5.heap.size rfl (.tmp 75) (.tmp 81) 22 61 (.agg #[.string ⟨#[]⟩, .string ⟨#[]⟩]) 32 rfl Try.underlying22 info61 rfl (by decide) (by omega) u10 (picksF f (u1.take m)) ⟨x, atB f x⟩ [.string x, .string (atB f x)] (fun _ => True) (fun _ => False) rfl (by first | (go_simp; done) | (go_simp; rfl)) ?aP (fun _ hk => hk.elim) (fun _ _ => trivial) HO.out HB.out (below_size HB.out) ?aL ?_; (case aP => exact k61_mkM _ _ _ _); (case aL => have := HSH.out.1; have := HM.out; have := picksF_length f (u1.take m); have := List.length_take_le m u1; omega); intro v1 w1 ho hb hg hat; have HO1 := Aside0.mk ho; have HB1 := Aside0.mk hb; clear ho hb hg hat)))
              go_roundg k1
              case measure => exact Nat.lt_succ_self _
              case rel => exact ⟨m + 1, by have := HM.out; have := HSH.out.1; simp [wrap64]; omega, ⟨by have := HM.out; omega⟩, ⟨by rw [HD.out, picksF_snoc, if_neg HE.out]; exact HO1.out⟩, HB1⟩
          · have HM1 := HM.out
            have hm : m = u1.length := by omega
            have cb3 : decide ((m : Int) < (u1.length : Int)) = false := decide_eq_false (by omega)
            have cb4 : (m < u1.length) = False := eq_false (by omega)
            have HE := Aside0.mk hm
            clear hm c HM1
            go_wp2
            go_ret2
            exact ⟨_, rfl, Kd.R_lower (by rw [← List.take_length (l := u1), ← HE.out]; exact HO.out) (below_size B5.out), B5.out.trans (HB.out.mono (below_size B5.out))⟩
theorem plan_Apply.calls (k : Nat) (A0 : Option Addr) (c0 : Nat) (l0 : List S61) (A1 : Option Addr) (c1 : Nat) (l1 : List S42) (r1 : List S61) (r2 : Int) (w : World) (hr0 : Kd.C k61 w A0 l0.length l0) (hc0 : l0.length ≤ c0) (hr1 : Kd.C k42 w A1 l1.length l1) (hc1 : l1.length ≤ c1) (h : plan_Apply.f k l0 l1 = some (r1, r2)) :
    Calls Try.prog 7 #[.slice A0 l0.length c0, .slice A1 l1.length c1] w fun e w' => ∃ v0_ : Value, e = .returned (.tuple #[v0_, .int .i64 r2]) ∧ Kd.R k61 61 w' w.heap.size (fun _ => True) v0_ r1 ∧ Below w.heap.size w w' :=
  plan_Apply.calls_ k A0 c0 l0 A1 c1 l1 (r1, r2) w hr0 hc0 hr1 hc1 h
end Go.Proofs.Ytnjkdnbmpldokaa.P
