/- plan.there: the map of names to versions, the first of each name. -/
import Derived.RangeFuncIn
import Derived.RangeFuncSeq
import Derived.WalkKit
import Derived.OwnWalkIn
import Derived.TacticsInMore
import Derived.LoopNIn
import Derived.LoopIn
import Derived.Shelf.Abstract
import Derived.Carry
import Derived.Lib.Hide
import Derived.Test.YtnjkdnbmpldokaaTools
import Derived.Test.YtnjkdnbmpldokaaTools
import Derived.Test.YtnjkdnbmpldokaaPz
namespace Go.Proofs.Ytnjkdnbmpldokaa.P
open Go.RowKit Go.Shelf Go.Proofs.YtnjkdnbmpldokaaW.PrintWords Go.Proofs.YtnjkdnbmpldokaaW.PrintLast Go.Proofs.YtnjkdnbmpldokaaW.PrintMore Go.Proofs.YtnjkdnbmpldokaaB
attribute [local go_sem] Oper.semAt_some

/-- A pick as a value. -/
def pickV (x : S61) : Value := .agg #[.string x.f0, .string x.f1]

set_option maxRecDepth 100000 in
set_option maxHeartbeats 2000000 in
/-- slices.Backward's closure, for a round that always goes on: m elements are still to come. -/
theorem back_in (n l Bs : Nat) (A : Option Addr) (c : Nat) (xs : List S61) (hlen : xs.length ≤ 4611686018427387904) (J : Nat → World → Prop)
    (hJ : ∀ m W, J m W → W.cell? ⟨Bs, 0, none⟩ = some (.slice A xs.length c) ∧ Kd.C k61 W A xs.length xs)
    (hY : ∀ m W, m < xs.length → J (m + 1) W → YieldAt Fence.wide n Try.prog l #[.int .i64 (m : Int), pickV (rd_T61 xs (m : Int))] W fun e W' => e = .returned (.bool true) ∧ J m W')
    (W : World) (h0 : J xs.length W) :
    CallsIn Fence.wide (n + 1) Try.prog 59 #[.func (.yield l) #[] #[], .pointer (some ⟨Bs, 0, none⟩)] W fun e W' => (∃ v, e = .returned v) ∧ J 0 W' := by
  have hc0 := (hJ _ _ h0).1
  refine callsIn_of_wp Try.func59 rfl trivial ?_ rfl
  simp only [Try.ntmps59, List.size_toArray, List.length_cons, List.length_nil, Nat.reduceAdd, Nat.reduceSub, Array.replicate_succ, Array.replicate_zero, List.push_toArray, List.append_toArray, List.nil_append, List.cons_append]
  gi_wp2
  gi_loopw [3] (fun i wr => ∃ m : Nat, m ≤ xs.length ∧ i = .int .i64 ((m : Int) - 1) ∧ J m wr) (fun i _ => (intOf i + 1).toNat)
  case atStart => exact ⟨xs.length, Nat.le_refl _, rfl, h0⟩
  case round =>
    obtain ⟨m, hm, rfl, hJs⟩ := hrel
    obtain ⟨hcw, hC⟩ := hJ _ _ hJs
    cases m with
    | zero =>
      gi_wp2
      go_end0
      exact ⟨⟨_, rfl⟩, hJs⟩
    | succ m =>
      have p : 0 ≤ (m : Int) := by omega
      have q : (m : Int) < (xs.length : Int) := by omega
      obtain ⟨ad, e, hx0, hx1⟩ := at_T61 hC (m : Int) p q
      cases e
      rw [Int.toNat_natCast] at hx0 hx1
      obtain ⟨fn, tmps, assign, body, hy, hR⟩ := hY m wr (by omega) hJs
      unfold pickV at hy
      have e1 : ((↑(m + 1) : Int) - 1) = (m : Int) := by omega
      rw [e1]
      clear e1
      gi_wp2
      refine hR.mono ?_
      rintro e W3 ⟨rfl, hJ3⟩
      gi_wp2
      go_roundw
      case rel => exact ⟨m, by omega, rfl, hJ3⟩
      case measure => simp [intOf]

theorem backward_in (n : Nat) (A : Option Addr) (len c : Nat) (w : World) :
    CallsIn Fence.wide n Try.prog 44 #[.slice A len c] w fun e w' => e = .returned (.func (.func 59) #[] #[.pointer (some ⟨w.heap.size, 0, none⟩)]) ∧ w' = w.alloc (.cells #[.slice A len c] 22) := by
  refine callsIn_of_wp Try.func44 rfl trivial ?_ rfl
  simp only [Try.ntmps44, List.size_toArray, List.length_cons, List.length_nil, Nat.reduceAdd, Nat.reduceSub, Array.replicate_succ, Array.replicate_zero, List.push_toArray, List.append_toArray, List.nil_append, List.cons_append]
  gi_wp2
  go_ret
  exact ⟨rfl, rfl⟩

/-- What stands at a name: the first version. -/
def look (l : List S61) (k : List UInt8) : List UInt8 := match l.find? (fun x => x.f0.data.toList == k) with | some x => x.f1.data.toList | none => []
theorem look_cons (x : S61) (l : List S61) : look (x :: l) = fun k => if k = x.f0.data.toList then x.f1.data.toList else look l k := by
  funext k
  unfold look
  rw [List.find?_cons]
  by_cases h : k = x.f0.data.toList
  · subst h; simp
  · rw [if_neg h, show (x.f0.data.toList == k) = false from beq_eq_false_iff_ne.2 (Ne.symm h)]
def small (x : S61) : Bool := decide (x.f0.size ≤ 4194304) && decide (x.f1.size ≤ 4194304)

set_option maxRecDepth 100000 in
set_option maxHeartbeats 2000000 in
theorem there_calls (A : Option Addr) (c : Nat) (xs : List S61) (w : World) (hr : Kd.C k61 w A xs.length xs) (hlen : xs.length ≤ 4194304) (hs : ∀ x ∈ xs, small x = true) :
    Calls Try.prog 22 #[.slice A xs.length c] w fun e w' => ∃ b : Nat, e = .returned (.map (some b)) ∧ w.heap.size ≤ b ∧ StrMap Try.prog 9 9 w' b xs.length (look xs) ∧ Below w.heap.size w w' := by
  refine (callsIn_wide (n := 4)).1 ?_
  have hmm := @run_makeMap Try.prog
  refine callsIn_of_wp_marks Try.func22 rfl trivial ?_ rfl
  simp only [Try.ntmps22, List.size_toArray, List.length_cons, List.length_nil, Nat.reduceAdd, Nat.reduceSub, Array.replicate_succ, Array.replicate_zero, List.push_toArray, List.append_toArray, List.nil_append, List.cons_append]
  gi_wp2_with (refine ⟨trivial, ?_⟩; gi_at_call 44; refine (backward_in _ _ _ _ _).mono ?_; rintro e w' ⟨rfl, rfl⟩)
  refine range_direct (F := Fence.wide) (n := 4) rfl (by decide) (gf := 59) (lb := #[.pointer (some ⟨w.heap.size + 1 + 1, 0, none⟩)]) rfl trivial (enters_of Try.func59 (by kernel_rfl) rfl) ?_
  intro rec hfn hst hpe htm hps has hbo
  simp only [World.size_alloc] at *
  have hb0 : Below w.heap.size w (((((w.alloc (.map #[] 0)).alloc (.cells #[.map (some w.heap.size)] 53)).alloc (.cells #[.slice A xs.length c] 22)).alloc (.deferred (some []))).alloc (.loop rec)) :=
    ((((Below.refl _ w).alloc (Nat.le_refl _) _).alloc (by simp) _).alloc (by simp; omega) _).alloc (by simp; omega) _ |>.alloc (by simp; omega) _
  refine (back_in 2 (w.heap.size + 1 + 1 + 1 + 1) (w.heap.size + 1 + 1) A c xs (by omega)
    (fun m W => W.heap[w.heap.size + 1 + 1 + 1 + 1]? = some (.loop rec) ∧ W.heap[w.heap.size + 1 + 1]? = some (.cells #[.slice A xs.length c] 22 (0, 0)) ∧ W.heap[w.heap.size + 1]? = some (.cells #[.map (some w.heap.size)] 53 (0, 0)) ∧
      W.heap[w.heap.size + 1 + 1 + 1]? = some (.deferred (some [])) ∧ m ≤ xs.length ∧ StrMap Try.prog 9 9 W w.heap.size (xs.length - m) (look (xs.drop m)) ∧ Below w.heap.size w W)
    ?hJ ?hY _ ?h0).mono ?_
  case hJ =>
    rintro m W ⟨h1, h2, h3, h4, h5, h6, h7⟩
    exact ⟨cell_of h2 0, Kd.C_below hr h7⟩
  case h0 =>
    have s0 := StrMap.made w Try.prog 9 9
    have hl1 := alloc_new (((w.alloc (.map #[] 0)).alloc (.cells #[.map (some w.heap.size)] 53)).alloc (.cells #[.slice A xs.length c] 22)) (.deferred (some []))
    have hl0 := alloc_new ((((w.alloc (.map #[] 0)).alloc (.cells #[.map (some w.heap.size)] 53)).alloc (.cells #[.slice A xs.length c] 22)).alloc (.deferred (some []))) (.loop rec)
    have hl2 := alloc_new ((w.alloc (.map #[] 0)).alloc (.cells #[.map (some w.heap.size)] 53)) (.cells #[.slice A xs.length c] 22)
    have hl3 := alloc_new (w.alloc (.map #[] 0)) (.cells #[.map (some w.heap.size)] 53)
    simp only [World.size_alloc] at hl0 hl1 hl2 hl3
    refine ⟨hl0, alloc_old _ (alloc_old _ hl2), alloc_old _ (alloc_old _ (alloc_old _ hl3)), alloc_old _ hl1, Nat.le_refl _, ?_, hb0⟩
    rw [Nat.sub_self, List.drop_length]
    exact (((s0.alloc _).alloc _).alloc _).alloc _
  case hY =>
    rintro m W hm ⟨h1, h2, h3, h4, h5, h6, h7⟩
    refine yield_round hfn h1 hst htm hps has hbo rfl ?_
    unfold pickV
    clear htm hps has hbo hr
    obtain ⟨x, hx⟩ : ∃ x, x = rd_T61 xs (m : Int) := ⟨_, rfl⟩
    rw [← hx]
    have hdrop : xs.drop m = x :: xs.drop (m + 1) := by rw [hx, List.drop_eq_getElem_cons hm]; simp [rd_T61, List.getD_eq_getElem?_getD, List.getElem?_eq_getElem hm]
    have hsm := hs x (List.mem_of_mem_drop (i := m) (by rw [hdrop]; exact List.mem_cons_self))
    simp only [small, Bool.and_eq_true, decide_eq_true_eq] at hsm
    obtain ⟨hs1, hs2⟩ := hsm
    have hlt := (Array.getElem?_eq_some_iff.1 h1).1
    have HD := Lib.hid hdrop
    clear hx hdrop hs
    gi_wp2
    refine ⟨alloc_old _ h1, ?_⟩
    have k1 := putObj_same (o := .loop (busy_ rec)) (alloc_old (.cells #[.string x.f0, .string x.f1] 61) h1)
    have k2 := (putObj_other (r := w.heap.size + 1 + 1 + 1 + 1) (.loop (busy_ rec)) (by omega)).trans (alloc_old (.cells #[.string x.f0, .string x.f1] 61) h2)
    have k3 := (putObj_other (r := w.heap.size + 1 + 1 + 1 + 1) (.loop (busy_ rec)) (by omega)).trans (alloc_old (.cells #[.string x.f0, .string x.f1] 61) h3)
    have k4 := (putObj_other (r := w.heap.size + 1 + 1 + 1 + 1) (.loop (busy_ rec)) (by omega)).trans (alloc_old (.cells #[.string x.f0, .string x.f1] 61) h4)
    have k5 := (putObj_other (r := w.heap.size + 1 + 1 + 1 + 1) (.loop (busy_ rec)) (by omega)).trans (alloc_new W (.cells #[.string x.f0, .string x.f1] 61))
    have k6 := (h6.alloc (.cells #[.string x.f0, .string x.f1] 61)).block (putObj_other (r := w.heap.size + 1 + 1 + 1 + 1) (.loop (busy_ rec)) (by omega))
    have k7 := below_putObj (h7.alloc h7.size (.cells #[.string x.f0, .string x.f1] 61)) (r := w.heap.size + 1 + 1 + 1 + 1) (by omega) (.loop (busy_ rec))
    generalize ((W.alloc (.cells #[.string x.f0, .string x.f1] 61)).putObj (w.heap.size + 1 + 1 + 1 + 1) (.loop (busy_ rec))) = W2 at k1 k2 k3 k4 k5 k6 k7 ⊢
    generalize W.heap.size = pb at k5 ⊢
    have c3 := cell_of k3 0
    have c5 := cell_of k5 0
    have c6 := cell_of k5 1
    simp only [List.getElem?_toArray, List.getElem?_cons_zero, List.getElem?_cons_succ] at c3 c5 c6
    clear h1 h2 h3 h4 h6 h7
    gi_wp2_with (gi_at_mapUpdate; refine wpListIn_store_str _ rfl _ _ _ rfl Try.underlying9 Try.underlying9 Try.underlying53 rfl k6 (by unfold maxLen; omega) _ _ rfl rfl (by unfold maxLen; omega) (by unfold maxLen; omega) ?_; intro w1 hm1 hg1)
    have hm6 := k6.isMap
    obtain ⟨es, ck, hh⟩ := hm6
    have g : ∀ k, k ≠ w.heap.size → k < W2.heap.size → w1.heap[k]? = W2.heap[k]? := fun k hk hl => hg1.block k hl (fun e => hk (by injection e))
    have e := look_cons x (xs.drop (m + 1))
    rw [← HD] at e
    have p1 := (Array.getElem?_eq_some_iff.1 k1).1
    have q1 := (g _ (by omega) p1).trans k1
    have q2 := (g (w.heap.size + 1 + 1) (by omega) (by omega)).trans k2
    have q3 := (g (w.heap.size + 1) (by omega) (by omega)).trans k3
    have q4 := (g (w.heap.size + 1 + 1 + 1) (by omega) (by omega)).trans k4
    refine ⟨q1, rfl, ?_⟩
    rw [ready_eq hst hpe]
    refine ⟨putObj_same _ q1, (putObj_other _ (by omega)).trans q2, (putObj_other _ (by omega)).trans q3, (putObj_other _ (by omega)).trans q4, by omega, ?_, ?_⟩
    · rw [e]
      exact (hm1.mono (by omega)).block (putObj_other _ (by omega))
    · exact below_putObj (k7.grown hg1 k7.size (fun k e => by cases e; exact Nat.le_refl _)) (by omega) _
  · rintro e W2 ⟨⟨v, rfl⟩, h1, h2, h3, h4, h5, h6, h7⟩
    refine ⟨v, rfl, rec, h1, by rw [hst]; decide, ?_⟩
    rw [hpe]
    clear htm hps has hbo hr hs hpe hfn hst
    have k3 := (putObj_other (W := W2) (r := w.heap.size + 1 + 1 + 1 + 1) (.loop (exh_ rec)) (by omega)).trans h3
    have k4 := (putObj_other (W := W2) (r := w.heap.size + 1 + 1 + 1 + 1) (.loop (exh_ rec)) (by omega)).trans h4
    have k6 := h6.block (putObj_other (W := W2) (k := w.heap.size) (r := w.heap.size + 1 + 1 + 1 + 1) (.loop (exh_ rec)) (by omega))
    have k7 := below_putObj h7 (r := w.heap.size + 1 + 1 + 1 + 1) (by omega) (.loop (exh_ rec))
    generalize W2.putObj (w.heap.size + 1 + 1 + 1 + 1) (.loop (exh_ rec)) = W3 at k3 k4 k6 k7 ⊢
    have c3 := cell_of k3 0
    simp only [List.getElem?_toArray, List.getElem?_cons_zero] at c3
    clear h1 h2 h3 h4 h6 h7 hb0
    have K4 := Lib.hid k4
    have K3 := Lib.hid k3
    clear k3 k4
    gi_wp2
    refine ⟨by simp, .inl ⟨_, _, rfl, run_takeDeferred K4, ?_⟩⟩
    exact ⟨_, results_tmp rfl _ _ _, _, rfl, Nat.le_refl _, k6.block (putObj_other _ (by omega)), k7.trans (below_putObj (Below.refl _ _) (by omega) _)⟩
end Go.Proofs.Ytnjkdnbmpldokaa.P
