/- plan.Diff: what changes from one to another one, name by name. -/
import Derived.Test.YtnjkdnbmpldokaaHThere
import Derived.Test.YtnjkdnbmpldokaaTools
import Derived.Test.YtnjkdnbmpldokaaHSort
import Derived.Test.YtnjkdnbmpldokaaP23
import Derived.Test.YtnjkdnbmpldokaaPz

namespace Go.Proofs.Ytnjkdnbmpldokaa.P
open Go.RowKit Go.Proofs.YtnjkdnbmpldokaaW.PrintWords Go.Proofs.YtnjkdnbmpldokaaW.PrintLast Go.Proofs.YtnjkdnbmpldokaaW.PrintMore Go.Proofs.YtnjkdnbmpldokaaB
set_option linter.unusedVariables false
set_option linter.unusedSimpArgs false

def lookB (l : List S61) (s : ByteArray) : ByteArray := ⟨(look l s.data.toList).toArray⟩
/-- The changes of names that are laid. -/
def diffs (l0 l1 : List S61) : List ByteArray → List S42
  | [] => []
  | n :: ns => if (lookB l0 n).toList = (lookB l1 n).toList then diffs l0 l1 ns else ⟨n, lookB l0 n, lookB l1 n⟩ :: diffs l0 l1 ns
theorem diffs_snoc (l0 l1 : List S61) (n : ByteArray) : ∀ ns, diffs l0 l1 (ns ++ [n]) = diffs l0 l1 ns ++ (if (lookB l0 n).toList = (lookB l1 n).toList then [] else [⟨n, lookB l0 n, lookB l1 n⟩])
  | [] => by simp only [diffs, List.nil_append]
  | m :: ns => by
    simp only [List.cons_append, diffs, diffs_snoc l0 l1 n ns]
    by_cases h : (lookB l0 m).toList = (lookB l1 m).toList <;> simp [h]
theorem diffs_length (l0 l1 : List S61) : ∀ ns, (diffs l0 l1 ns).length ≤ ns.length
  | [] => Nat.le_refl _
  | m :: ns => by
    have := diffs_length l0 l1 ns
    simp only [diffs]
    split <;> simp <;> omega
def fine (l : List S61) : Bool := decide (l.length ≤ 4194304) && l.all small
def short (ns : List ByteArray) : Bool := decide (ns.length ≤ 16777216) && ns.all (fun s => decide (s.size ≤ 4194304))
theorem rowsC {w : World} {b : Nat} {A0 A1 : Option Addr} {c0 c1 : Nat} {l0 l1 : List S61} {t : TypeId} (h : w.heap[b]? = some (.cells #[.slice A0 l0.length c0, .slice A1 l1.length c1] t)) (h0 : Kd.C k61 w A0 l0.length l0) (g0 : l0.length ≤ c0) (h1 : Kd.C k61 w A1 l1.length l1) (g1 : l1.length ≤ c1) :
    Kd.C (Kd.slice 61 k61) w (some ⟨b, 0, none⟩) [l0, l1].length [l0, l1] := by
  refine ⟨rfl, by simp, fun _ => ⟨_, rfl, fun j p hj => ?_⟩⟩
  match j, hj with
  | 0, hj => obtain rfl := Option.some.inj hj; exact ⟨[.slice A0 l0.length c0], rfl, ⟨A0, c0, rfl, g0, h0⟩, fun i u hu => by
      match i, hu with
      | 0, hu => obtain rfl := Option.some.inj hu; simp [Kd.slice, Addr.add, World.cell?, h]
      | i + 1, hu => simp at hu⟩
  | 1, hj => obtain rfl := Option.some.inj hj; exact ⟨[.slice A1 l1.length c1], rfl, ⟨A1, c1, rfl, g1, h1⟩, fun i u hu => by
      match i, hu with
      | 0, hu => obtain rfl := Option.some.inj hu; simp [Kd.slice, Addr.add, World.cell?, h]
      | i + 1, hu => simp at hu⟩
  | j + 2, hj => simp at hj
theorem rowC1 {w : World} {b : Nat} {A0 : Option Addr} {c0 : Nat} {l0 : List S61} {t : TypeId} (h : w.heap[b]? = some (.cells #[.slice A0 l0.length c0] t)) (h0 : Kd.C k61 w A0 l0.length l0) (g0 : l0.length ≤ c0) :
    Kd.C (Kd.slice 61 k61) w (some ⟨b, 0, none⟩) [l0].length [l0] := by
  refine ⟨rfl, by simp, fun _ => ⟨_, rfl, fun j p hj => ?_⟩⟩
  match j, hj with
  | 0, hj => obtain rfl := Option.some.inj hj; exact ⟨[.slice A0 l0.length c0], rfl, ⟨A0, c0, rfl, g0, h0⟩, fun i u hu => by
      match i, hu with
      | 0, hu => obtain rfl := Option.some.inj hu; simp [Kd.slice, Addr.add, World.cell?, h]
      | i + 1, hu => simp at hu⟩
  | j + 1, hj => simp at hj
def plan_Diff.f (k : Nat) (l0 l1 : List S61) : Option (List S42) :=
  if fine l0 && fine l1 then (plan_names.f k [l0, l1]).bind fun ns => if short ns then some (diffs l0 l1 ns) else none else none
theorem plan_Diff.mono : ∀ a0 a1 k, LeO (plan_Diff.f k a0 a1) (plan_Diff.f (k + 1) a0 a1) := by
  intro a0 a1 k
  unfold plan_Diff.f
  exact LeO.ite (LeO.bind (plan_names.mono _ _) (fun _ => LeO.refl _)) (LeO.refl _)

theorem zero_str (w : World) : (zeroValue 9).run Try.prog w = .ok (.string ⟨#[]⟩) w := by
  kernel_rfl

set_option maxHeartbeats 1000000 in
set_option maxRecDepth 100000 in
theorem plan_Diff.calls (k : Nat) (A0 : Option Addr) (c0 : Nat) (l0 : List S61) (A1 : Option Addr) (c1 : Nat) (l1 : List S61) (r : List S42) (w : World) (hr0 : Kd.C k61 w A0 l0.length l0) (hc0 : l0.length ≤ c0) (hr1 : Kd.C k61 w A1 l1.length l1) (hc1 : l1.length ≤ c1) (h : plan_Diff.f k l0 l1 = some r) :
    Calls Try.prog 10 #[.slice A0 l0.length c0, .slice A1 l1.length c1] w fun e w' => ∃ v0_ : Value, e = .returned (v0_) ∧ Kd.R k42 42 w' w.heap.size (fun _ => True) v0_ r ∧ Below w.heap.size w w' := by
  unfold plan_Diff.f at h
  split at h
  case isFalse => cases h
  rename_i hf
  simp only [fine, Bool.and_eq_true, decide_eq_true_eq, List.all_eq_true] at hf
  obtain ⟨⟨hf0, hs0⟩, hf1, hs1⟩ := hf
  obtain ⟨ns, hn, h⟩ := Option.bind_eq_some_iff.1 h
  split at h
  case isFalse => cases h
  rename_i hsh
  cases h
  simp only [short, Bool.and_eq_true, decide_eq_true_eq, List.all_eq_true] at hsh
  obtain ⟨hnl, hns⟩ := hsh
  have HR0 := Aside0.mk hr0
  have HC0 := Aside0.mk hc0
  have HR1 := Aside0.mk hr1
  have HC1 := Aside0.mk hc1
  have HS0 := Aside0.mk hs0
  have HS1 := Aside0.mk hs1
  have HF0 := Aside0.mk hf0
  have HF1 := Aside0.mk hf1
  have HN := Aside0.mk hn
  have HNS := Aside0.mk hns
  have HNL := Aside0.mk hnl
  clear hr0 hc0 hr1 hc1 hs0 hs1 hf0 hf1 hn hns hnl
  have hu61 := Try.underlying61
  have hu42 := Try.underlying42
  go_enter Try.func10, Try.ntmps10
  go_wp2_with (first
    | (go_at_call 22; with_reducible refine (there_calls A0 c0 l0 w HR0.out HF0.out HS0.out).mono ?_; rintro e w1 ⟨b0, rfl, hb0, hm0, hB1⟩; have M0 := Aside0.mk hm0; have B1 := Aside0.mk hB1; have G0 := Aside0.mk hb0; clear hm0 hB1 hb0)
    | (go_at_call 22; with_reducible refine (there_calls A1 c1 l1 _ (Kd.C_below HR1.out B1.out) HF1.out HS1.out).mono ?_; rintro e w2 ⟨b1, rfl, hb1, hm1, hB2⟩; have M1 := Aside0.mk hm1; have B2 := Aside0.mk hB2; have G1 := Aside0.mk hb1; clear hm1 hB2 hb1)
    | (go_at_call 23; go_loud (have BB := Aside0.mk ((B1.out.trans (B2.out.mono (below_size B1.out))).alloc (below_size (B1.out.trans (B2.out.mono (below_size B1.out)))) (.cells #[Value.slice A0 l0.length c0, Value.slice A1 l1.length c1] 22)); refine calls_of_args (args' := #[.slice (some ⟨w2.heap.size, 0, none⟩) [l0, l1].length 2]) (by rfl) ?_; with_reducible refine (plan_names.calls k (some ⟨w2.heap.size, 0, none⟩) 2 [l0, l1] ns _ (rowsC (alloc_new _ _) (Kd.C_below HR0.out BB.out) HC0.out (Kd.C_below HR1.out BB.out) HC1.out) (Nat.le_refl _) HN.out).mono ?_; rintro e w3 ⟨vn, rfl, hvn, hB3⟩; have M0' := Aside0.mk ((M0.out.below B2.out).alloc (.cells #[Value.slice A0 l0.length c0, Value.slice A1 l1.length c1] 22) |>.below hB3); have M1' := Aside0.mk (M1.out.alloc (.cells #[Value.slice A0 l0.length c0, Value.slice A1 l1.length c1] 22) |>.below hB3); clear M0 M1; have M0 := M0'; have M1 := M1'; clear M0' M1'; have B3 := Aside0.mk (BB.out.trans (hB3.mono (below_size BB.out))); clear hB3 BB B1 B2 G0 G1; obtain ⟨An, cn, rfl, hcn, hCn⟩ := Kd.R_reads hvn; have HCN := Aside0.mk hcn; have HVN := Aside0.mk hCn; clear hvn hcn hCn)))
  go_loopg [7, 19] ns.length (fun kq v7 v19 w' => ∃ (m : Nat), v19 = .int .i64 (m : Int) ∧ Aside0 (kq + m = ns.length) ∧ Aside0 (Kd.R k42 42 w' w3.heap.size (fun _ => True) v7 (diffs l0 l1 (ns.take m))) ∧ Aside0 (Below w3.heap.size w3 w'))
  case atStart => exact ⟨0, rfl, ⟨rfl⟩, ⟨Kd.R_nil _ _ _ _ _⟩, ⟨Below.refl _ _⟩⟩
  case round =>
    obtain ⟨m, rfl, HM, HO, HB⟩ := hrel
    by_cases c : m < ns.length
    · have HM1 := HM.out
      obtain ⟨k1, rfl⟩ : ∃ k1, gk = k1 + 1 := ⟨gk - 1, by omega⟩
      obtain ⟨ad, cs, e, _, hK, hc0⟩ := Kd.C_get HVN.out ByteArray.empty (m : Int) (by omega) (by omega)
      cases e
      obtain rfl : cs = [.string (ns.getD m ByteArray.empty)] := by rw [← Int.toNat_natCast m]; exact hK
      have hx : w3.cell? (ad.add m) = some (.string (ns.getD m ByteArray.empty)) := by simpa [Kd.string, Kd.scalar] using hc0 0 _ rfl
      replace hx := (HB.out.cell (World.block_lt_of_cell? w3 _ hx)).trans hx
      clear hc0 hK
      have hd : ns.take (m + 1) = ns.take m ++ [ns.getD m ByteArray.empty] := by rw [List.take_add_one, List.getElem?_eq_getElem c, List.getD_eq_getElem?_getD, List.getElem?_eq_getElem c]; rfl
      have hsz := HNS.out (ns.getD m ByteArray.empty) (by rw [List.getD_eq_getElem?_getD, List.getElem?_eq_getElem c]; exact List.getElem_mem c)
      have HSZ := Aside0.mk (show (ns.getD m ByteArray.empty).size ≤ maxLen by unfold maxLen; omega)
      clear hsz
      generalize ns.getD m ByteArray.empty = x at hd hx HSZ
      have HD := Aside0.mk hd
      have S0 := Aside0.mk (M0.out.below HB.out)
      have S1 := Aside0.mk (M1.out.below HB.out)
      clear hd HM1
      have p : (0 ≤ (m : Int)) = True := eq_true (by omega)
      have q : ((m : Int) < (ns.length : Int)) = True := eq_true (by omega)
      clear c
      by_cases hc : (lookB l0 x).toList = (lookB l1 x).toList
      · have cb : ((lookB l0 x).toList == (lookB l1 x).toList) = true := beq_iff_eq.mpr hc
        have HE := Aside0.mk hc
        clear hc
        go_wp2_with (first
          | (at_lookup; refine wpList_look_str _ rfl _ _ rfl Try.underlying9 Try.underlying9 Try.underlying53 zero_str rfl S0.out x rfl HSZ.out (lookB l0 x) rfl ?_)
          | (at_lookup; refine wpList_look_str _ rfl _ _ rfl Try.underlying9 Try.underlying9 Try.underlying53 zero_str rfl S1.out x rfl HSZ.out (lookB l1 x) rfl ?_))
        go_roundg k1
        case measure => exact Nat.lt_succ_self _
        case rel => exact ⟨m + 1, by have := HM.out; have := HNL.out; simp [wrap64]; omega, ⟨by have := HM.out; omega⟩, ⟨by rw [HD.out, diffs_snoc, if_pos HE.out, List.append_nil]; exact HO.out⟩, HB⟩
      · have cb : ((lookB l0 x).toList == (lookB l1 x).toList) = false := beq_eq_false_iff_ne.mpr hc
        have HE := Aside0.mk hc
        clear hc
        go_wp2_with (first
          | (at_lookup; refine wpList_look_str _ rfl _ _ rfl Try.underlying9 Try.underlying9 Try.underlying53 zero_str rfl S0.out x rfl HSZ.out (lookB l0 x) rfl ?_)
          | (at_lookup; refine wpList_look_str _ rfl _ _ rfl Try.underlying9 Try.underlying9 Try.underlying53 zero_str rfl S1.out x rfl HSZ.out (lookB l1 x) rfl ?_)
          | ((with_reducible refine gate_builtin (b := .append) (xs := #[.tmp 30, .tmp 39]) rfl ?_); go_loud (at_builtin; refine Kd.R_append k42 (w0 := w3) w3.heap.size rfl (.tmp 30) (.tmp 39) 23 42 (.agg #[.string ⟨#[]⟩, .string ⟨#[]⟩, .string ⟨#[]⟩]) 48 rfl Try.underlying23 info42 rfl (by decide) (by omega) u7 (diffs l0 l1 (ns.take m)) ⟨x, lookB l0 x, lookB l1 x⟩ [.string x, .string (lookB l0 x), .string (lookB l1 x)] (fun _ => True) (fun _ => False) rfl (by first | (go_simp; done) | (go_simp; rfl)) ?aP (fun _ hk => hk.elim) (fun _ _ => trivial) HO.out HB.out (below_size HB.out) ?aL ?_; (case aP => exact k42_mkM _ _ _ _); (case aL => have := HNL.out; have := HM.out; have := diffs_length l0 l1 (ns.take m); have := List.length_take_le m ns; omega); intro v1 w1 ho hb hg hat; have HO1 := Aside0.mk ho; have HB1 := Aside0.mk hb; clear ho hb hg hat)))
        go_roundg k1
        case measure => exact Nat.lt_succ_self _
        case rel => exact ⟨m + 1, by have := HM.out; have := HNL.out; simp [wrap64]; omega, ⟨by have := HM.out; omega⟩, ⟨by rw [HD.out, diffs_snoc, if_neg HE.out]; exact HO1.out⟩, HB1⟩
    · have HM1 := HM.out
      have hm : m = ns.length := by omega
      have cb : decide ((m : Int) < (ns.length : Int)) = false := decide_eq_false (by omega)
      have cb2 : (m < ns.length) = False := eq_false (by omega)
      have HE := Aside0.mk hm
      clear hm c HM1
      go_wp2
      go_ret
      exact ⟨_, rfl, Kd.R_lower (by rw [← List.take_length (l := ns), ← HE.out]; exact HO.out) (below_size B3.out), B3.out.trans (HB.out.mono (below_size B3.out))⟩
end Go.Proofs.Ytnjkdnbmpldokaa.P
