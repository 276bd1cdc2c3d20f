/- plan.Format: a plan's text, through a builder. -/
import Derived.Test.YtnjkdnbmpldokaaLib
import Derived.Shelf.Strings.Builder1
import Derived.Lib.UnsafeStr
import Derived.Test.YtnjkdnbmpldokaaHThere
import Derived.Test.YtnjkdnbmpldokaaHDiff
import Derived.Test.YtnjkdnbmpldokaaTools
import Derived.Test.YtnjkdnbmpldokaaTools
import Derived.Test.YtnjkdnbmpldokaaP16
import Derived.Test.YtnjkdnbmpldokaaP31
import Derived.Test.YtnjkdnbmpldokaaPz
namespace Go.Proofs.Ytnjkdnbmpldokaa.P
open Go.RowKit Go.Proofs.YtnjkdnbmpldokaaW.PrintWords Go.Proofs.YtnjkdnbmpldokaaW.PrintLast Go.Proofs.YtnjkdnbmpldokaaW.PrintMore Go.Proofs.YtnjkdnbmpldokaaB
set_option linter.unusedVariables false
set_option linter.unusedSimpArgs false

/-- A builder of the call's own that holds the bytes. -/
def Bld (w : World) (B b : Nat) (bs : List UInt8) : Prop := Lib.IsBuilder (Try.renNm.t 72) (Try.renNm.t 5) B b (Lib.byteCells bs) w
theorem bld_below {w w' : World} {B b : Nat} {bs : List UInt8} (h : Bld w B b bs) (hb : Below w.heap.size w w') : Bld w' B b bs := by
  have go : ∀ p, Lib.BuilderAt (Try.renNm.t 72) (Try.renNm.t 5) B b p (Lib.byteCells bs) w → Lib.BuilderAt (Try.renNm.t 72) (Try.renNm.t 5) B b p (Lib.byteCells bs) w' := by
    rintro p ⟨hB, v, hh, ho, hn⟩
    exact ⟨hB, v, (hb.block b (Array.getElem?_eq_some_iff.1 hh).1).trans hh, pw_own_below ho hb, hn⟩
  exact h.elim (fun x => .inl (go _ x)) (fun x => .inr (go _ x))
theorem bld_new {w : World} {B b : Nat} (hB : B ≤ b) (h : w.heap[b]? = some (.cells #[.pointer none, .slice none 0 0] (Try.renNm.t 72))) : Bld w B b [] :=
  .inl ⟨hB, _, h, own_nil _ _ _ _, by simp [Value.ownBlock]⟩
theorem bld_write {B b : Nat} {bs : List UInt8} {s : ByteArray} {w : World} (h : Bld w B b bs) (hlen : bs.length + s.size ≤ 140737488355328) (hBw : B ≤ w.heap.size) :
    Calls Try.prog 32 #[.pointer (some ⟨b, 0, none⟩), .string s] w fun e w' => e = .returned (.tuple #[.int .i64 s.size, .nilIface]) ∧ Bld w' B b (bs ++ s.data.toList) ∧ Below B w w' := by
  have h0 := Any.Builder_WriteString Try.LLays_n166 Try.LBuilder_Extra B b (Lib.byteCells bs) s w h (by rw [Lib.byteCells_length]; exact hlen) hBw
  refine Calls.mono h0 ?_
  rintro e w' ⟨rfl, h1, h2⟩
  refine ⟨rfl, .inr ?_, h2⟩
  rw [Lib.byteCells_append, ← Lib.strCells_eq]
  exact h1
theorem bld_text {B b : Nat} {bs : List UInt8} {w : World} (h : Bld w B b bs) (hBw : B ≤ w.heap.size) :
    Calls Try.prog 33 #[.pointer (some ⟨b, 0, none⟩)] w fun e w' => e = .returned (.string ⟨bs.toArray⟩) ∧ Below B w w' :=
  Any.Builder_String_any Try.LLays_n169 Try.LBuilder_Extra B b bs w h hBw

theorem str_at {w : World} {A : Option Addr} {n : Nat} {xs : List ByteArray} (h : Kd.string.C w A n xs) (m : Nat) (hm : m < n) : ∃ ad, A = some ad ∧ w.cell? (ad.add m) = some (.string (xs.getD m ByteArray.empty)) := by
  obtain ⟨ad, cs, e, _, hK, hc0⟩ := Kd.C_get h ByteArray.empty (m : Int) (by omega) (by omega)
  rw [Int.toNat_natCast] at hK hc0
  obtain rfl : cs = [.string (xs.getD m ByteArray.empty)] := hK
  exact ⟨ad, e, by simpa [Kd.string, Kd.scalar] using hc0 0 _ rfl⟩
/-- A struct of two texts in a block of its own, the builder and what lies below as they were. -/
theorem box_two {w0 W w9 : World} {g B b : Nat} {bs : List UInt8} (x : S61) (hg : g = W.heap.size) (hP : w9.heap[g]? = some (.cells #[.string ⟨#[]⟩, .string ⟨#[]⟩] 61)) (hb : Below W.heap.size W w9) (h : Bld W B b bs) (hB : Below w0.heap.size w0 W) :
    ((w9.setCell ⟨g, 0, none⟩ (.string x.f0)).setCell ⟨g, 1, none⟩ (.string x.f1)).heap[g]? = some (.cells #[.string x.f0, .string x.f1] 61) ∧ Bld ((w9.setCell ⟨g, 0, none⟩ (.string x.f0)).setCell ⟨g, 1, none⟩ (.string x.f1)) B b bs ∧ Below w0.heap.size w0 ((w9.setCell ⟨g, 0, none⟩ (.string x.f0)).setCell ⟨g, 1, none⟩ (.string x.f1)) := by
  have h1 := blk_put hP 0 (.string x.f0) (cs' := #[.string x.f0, .string ⟨#[]⟩]) rfl
  have h2 := blk_put h1 1 (.string x.f1) (cs' := #[.string x.f0, .string x.f1]) rfl
  have hBB : Below W.heap.size W ((w9.setCell ⟨g, 0, none⟩ (.string x.f0)).setCell ⟨g, 1, none⟩ (.string x.f1)) := (hb.setCell (Nat.le_of_eq hg.symm) _).setCell (Nat.le_of_eq hg.symm) _
  exact ⟨h2, bld_below h hBB, hB.trans (hBB.mono (below_size hB))⟩
def dias : List ByteArray := [(⟨#[]⟩ : ByteArray), (⟨#[110, 112, 109]⟩ : ByteArray), (⟨#[112, 121, 116, 104, 111, 110]⟩ : ByteArray), (⟨#[109, 97, 118, 101, 110]⟩ : ByteArray), (⟨#[100, 101, 98, 105, 97, 110]⟩ : ByteArray), (⟨#[114, 112, 109]⟩ : ByteArray)]
theorem dias_eq : plan_dialects.f = some dias := rfl
def rowOf (x : S61) : List UInt8 := x.f0.data.toList ++ [32] ++ x.f1.data.toList ++ [10]
def headOf (d : Int) : List UInt8 := (dias.getD d.toNat ByteArray.empty).data.toList ++ [32, 112, 108, 97, 110, 10]
def fmtL (d : Int) (l : List S61) : List UInt8 := headOf d ++ l.flatMap rowOf
def plan_Format.f (k : Nat) (a0 : Int) (l1 : List S61) : Option ByteArray :=
  if a0 < 1 then some ⟨#[]⟩ else if (dias.length : Int) ≤ a0 then some ⟨#[]⟩ else (plan_Fit.f k l1).bind fun b => if b = false then some ⟨#[]⟩ else if fine l1 then some ⟨(fmtL a0 l1).toArray⟩ else none
theorem plan_Format.mono : ∀ a0 a1 k, LeO (plan_Format.f k a0 a1) (plan_Format.f (k + 1) a0 a1) := by
  intro a0 a1 k
  unfold plan_Format.f
  exact LeO.ite (LeO.refl _) (LeO.ite (LeO.refl _) (LeO.bind (plan_Fit.mono _ _) (fun _ => LeO.refl _)))
theorem fmtL_bound (d : Int) (hd : d < 6) (l : List S61) (hs : ∀ x ∈ l, small x = true) : (fmtL d l).length ≤ 12 + l.length * 8388610 := by
  have h1 : (headOf d).length ≤ 12 := by
    have h0 : ∀ i : Nat, (dias.getD i ByteArray.empty).data.toList.length ≤ 6
      | 0 | 1 | 2 | 3 | 4 | 5 => by decide
      | n + 6 => by simp [dias]
    have := h0 d.toNat
    simp only [headOf, List.length_append, List.length_cons, List.length_nil]; omega
  have h2 : ∀ l : List S61, (∀ x ∈ l, small x = true) → (l.flatMap rowOf).length ≤ l.length * 8388610 := by
    intro l
    induction l with
    | nil => simp
    | cons x l ih =>
      intro hs
      have hx := hs x List.mem_cons_self
      simp only [small, Bool.and_eq_true, decide_eq_true_eq, ByteArray.size] at hx
      have hx0 : x.f0.data.size ≤ 4194304 := hx.1
      have hx1 : x.f1.data.size ≤ 4194304 := hx.2
      clear hx
      have := ih (fun y hy => hs y (List.mem_cons_of_mem _ hy))
      simp only [List.flatMap_cons, List.length_append, rowOf, List.length_cons, List.length_nil, Array.length_toList]
      omega
  have := h2 l hs
  simp only [fmtL, List.length_append]
  omega
set_option maxHeartbeats 2000000 in
set_option maxRecDepth 100000 in
theorem plan_Format.calls (k : Nat) (a0 : Int) (A1 : Option Addr) (c1 : Nat) (l1 : List S61) (r : ByteArray) (w : World) (hr1 : Kd.C k61 w A1 l1.length l1) (hc1 : l1.length ≤ c1) (h : plan_Format.f k a0 l1 = some r) :
    Calls Try.prog 14 #[.int .i64 a0, .slice A1 l1.length c1] w fun e w' => e = .returned (.string r) ∧ Below w.heap.size w w' := by
  have HR1 := Aside0.mk hr1
  have HC1 := Aside0.mk hc1
  clear hr1 hc1
  have hu61 := Try.underlying61
  unfold plan_Format.f at h
  split at h
  case isTrue hd =>
    cases h
    have cb : decide (a0 < 1) = true := decide_eq_true hd
    clear hd
    go_enter Try.func14, Try.ntmps14
    go_wp2
    go_ret
    exact ⟨rfl, Below.refl _ _⟩
  case isFalse hd =>
  have cb : decide (a0 < 1) = false := decide_eq_false hd
  split at h
  case isTrue hd6 =>
    cases h
    have cb2 : decide ((dias.length : Int) ≤ a0) = true := decide_eq_true hd6
    have cb3 : ((dias.length : Int) ≤ a0) = True := eq_true hd6
    clear hd hd6
    go_enter Try.func14, Try.ntmps14
    go_wp2_with (go_at_call 31; with_reducible refine (plan_dialects.calls dias w dias_eq).mono ?_; rintro e w1 ⟨vd, rfl, ho, hb⟩; obtain ⟨Ad, cd, rfl, _, _⟩ := Kd.R_reads ho; have HB := Aside0.mk hb; clear ho hb)
    go_ret
    exact ⟨rfl, HB.out⟩
  case isFalse hd6 =>
  obtain ⟨bf, hfit, h⟩ := Option.bind_eq_some_iff.1 h
  have HFIT := Aside0.mk hfit
  clear hfit
  have cb2 : decide ((dias.length : Int) ≤ a0) = false := decide_eq_false hd6
  have cb3 : ((dias.length : Int) ≤ a0) = False := eq_false hd6
  cases bf with
  | false =>
    rw [if_pos rfl] at h
    cases h
    clear hd hd6
    go_enter Try.func14, Try.ntmps14
    go_wp2_with (first | (go_at_call 31; with_reducible refine (plan_dialects.calls dias w dias_eq).mono ?_; rintro e w1 ⟨vd, rfl, ho, hb⟩; obtain ⟨Ad, cd, rfl, _, _⟩ := Kd.R_reads ho; have HB := Aside0.mk hb; clear ho hb) | (go_at_call 16; with_reducible refine (plan_Fit.calls k A1 c1 l1 false _ (Kd.C_below HR1.out HB.out) HC1.out HFIT.out).mono ?_; rintro e w2 ⟨rfl, hB⟩; have HB1 := Aside0.mk (HB.out.trans (hB.mono (below_size HB.out))); clear hB HB; have HB := HB1; clear HB1))
    go_ret
    exact ⟨rfl, HB.out⟩
  | true =>
    rw [if_neg (by simp)] at h
    split at h
    case isFalse => cases h
    rename_i hf
    cases h
    simp only [fine, Bool.and_eq_true, decide_eq_true_eq, List.all_eq_true] at hf
    have HF := Aside0.mk hf
    clear hf
    obtain ⟨n, rfl⟩ : ∃ n : Nat, a0 = n := ⟨a0.toNat, by omega⟩
    have hn : n < dias.length := by omega
    have hns : (dias.getD n ByteArray.empty).size ≤ 6 := (fun (i : Nat) => by match i with | 0 | 1 | 2 | 3 | 4 | 5 => decide | i + 6 => simp [dias] : ∀ i : Nat, (dias.getD i ByteArray.empty).size ≤ 6) n
    obtain ⟨nm, hname⟩ : ∃ nm, dias.getD n ByteArray.empty = nm := ⟨_, rfl⟩
    rw [hname] at hns
    have HNS := Aside0.mk hns
    have HH : Aside0 (headOf (n : Int) = (nm ++ ⟨#[32, 112, 108, 97, 110, 10]⟩ : ByteArray).data.toList) := ⟨by rw [← hname]; simp [headOf]⟩
    clear hns
    have hn6 : n < 6 := hn
    have HNL := Aside0.mk hn
    have p : (0 ≤ (n : Int)) = True := eq_true (by omega)
    have q : ((n : Int) < (dias.length : Int)) = True := eq_true (by omega)
    have q2 : (n < dias.length) = True := eq_true hn
    clear hd hd6 hn
    go_enter Try.func14, Try.ntmps14
    go_wp2_with (first
      | (go_at_call 31; with_reducible refine (plan_dialects.calls dias w dias_eq).mono ?_; rintro e w1 ⟨vd, rfl, ho, hb⟩; obtain ⟨Ad, cd, rfl, _, _⟩ := Kd.R_reads ho; have HB := Aside0.mk hb; clear ho hb)
      | (go_at_call 31; go_loud (with_reducible refine (plan_dialects.calls dias _ dias_eq).mono ?_; rintro e w4 ⟨vd, rfl, ho, hb⟩; obtain ⟨Ad2, cd2, rfl, _, hC⟩ := Kd.R_reads ho; have HB1 := Aside0.mk (HB.out.trans (hb.mono (below_size HB.out))); have BL1 := Aside0.mk (bld_below BL.out hb); clear HB BL; have HB := HB1; have BL := BL1; clear HB1 BL1 ho hb; obtain ⟨ad, rfl, hx⟩ := str_at hC n HNL.out; rw [hname] at hx; clear hC))
      | (go_at_call 16; with_reducible refine (plan_Fit.calls k A1 c1 l1 true _ (Kd.C_below HR1.out HB.out) HC1.out HFIT.out).mono ?_; rintro e w2 ⟨rfl, hB⟩; have HB1 := Aside0.mk (HB.out.trans (hB.mono (below_size HB.out))); clear hB HB; have HB := HB1; clear HB1)
      | ((with_reducible refine gate_dst (N := 5) rfl ?_); refine box_event ?hg (N := 5) ?hd (cs := #[.pointer none, .slice none 0 0]) (t := 70) ?hr ?_; (case hd => rfl); (case hg => rfl); (case hr => first | (go_simp; done) | (go_simp; rfl)); intro pb hpb w3 hbox hb; have BL := Aside0.mk (bld_new (B := w.heap.size) (by rw [hpb]; exact below_size HB.out) hbox); have HB1 := Aside0.mk (HB.out.trans (hb.mono (below_size HB.out))); clear HB hbox hb; have HB := HB1; clear HB1; have GPB := Aside0.mk hpb; clear hpb)
      | ((with_reducible refine gate_dst (N := 25) rfl ?_); refine wpList_add_str rfl _ _ rfl nm ⟨#[32, 112, 108, 97, 110, 10]⟩ rfl rfl (by have := HNS.out; have : (⟨#[32, 112, 108, 97, 110, 10]⟩ : ByteArray).size = 6 := rfl; unfold maxLen; omega) ?_)
      | (go_at_call 32; go_loud (refine (bld_write BL.out (by have := HNS.out; simp [ByteArray.size_append]; have : (⟨#[32, 112, 108, 97, 110, 10]⟩ : ByteArray).size = 6 := rfl; omega) (below_size HB.out)).mono ?_; rintro e w5 ⟨rfl, hbl, hb⟩; have HB1 := Aside0.mk (HB.out.trans hb); have BL1 := Aside0.mk hbl; clear HB BL; have HB := HB1; have BL := BL1; clear HB1 BL1 hbl hb hx)))
    go_loopg [29] l1.length (fun kq v29 w' => ∃ (m : Nat), v29 = .int .i64 (m : Int) ∧ Aside0 (kq + m = l1.length) ∧ Aside0 (Bld w' w.heap.size pb (headOf (n : Int) ++ (l1.take m).flatMap rowOf)) ∧ Aside0 (Below w.heap.size w w'))
    case atStart => exact ⟨0, rfl, ⟨rfl⟩, ⟨by rw [HH.out]; simpa using BL.out⟩, HB⟩
    case round =>
      clear BL HB
      obtain ⟨m, rfl, HM, BL, HB⟩ := hrel
      by_cases c : m < l1.length
      · have HM1 := HM.out
        obtain ⟨k1, rfl⟩ : ∃ k1, gk = k1 + 1 := ⟨gk - 1, by omega⟩
        have p : 0 ≤ (m : Int) := by omega
        have q : (m : Int) < (l1.length : Int) := by omega
        obtain ⟨ad, e, hx0, hx1⟩ := at_T61 HR1.out (m : Int) p q
        cases e
        rw [Int.toNat_natCast] at hx0 hx1
        replace hx0 := (HB.out.cell (World.block_lt_of_cell? w _ hx0)).trans hx0
        replace hx1 := (HB.out.cell (World.block_lt_of_cell? w _ hx1)).trans hx1
        have hd : l1.take (m + 1) = l1.take m ++ [rd_T61 l1 (m : Int)] := by rw [List.take_add_one, List.getElem?_eq_getElem c]; simp [rd_T61, List.getD_eq_getElem?_getD, List.getElem?_eq_getElem c]
        have hsm := HF.out.2 (rd_T61 l1 (m : Int)) (by simp [rd_T61, List.getD_eq_getElem?_getD, List.getElem?_eq_getElem c])
        have hbd := fmtL_bound (n : Int) (by omega) (l1.take m) (fun x hx => HF.out.2 x (List.mem_of_mem_take hx))
        have hlt := List.length_take_le m l1
        generalize rd_T61 l1 (m : Int) = x at hx0 hx1 hd hsm
        simp only [small, Bool.and_eq_true, decide_eq_true_eq] at hsm
        have HSM := Aside0.mk hsm
        have HD := Aside0.mk hd
        have HBD := Aside0.mk (show (headOf (n : Int) ++ (l1.take m).flatMap rowOf).length ≤ 12 + 4194304 * 8388610 from Nat.le_trans hbd (by have := HF.out.1; omega))
        clear hsm hd HM1 hbd hlt
        replace p := eq_true p
        replace q := eq_true q
        have q2 : (m < l1.length) = True := eq_true c
        clear c
        go_wp2_with (first
          | ((with_reducible refine gate_dst (N := 7) rfl ?_); refine box_event ?hg (N := 7) ?hd (cs := #[.string (⟨#[]⟩ : ByteArray), .string (⟨#[]⟩ : ByteArray)]) (t := 61) ?hr ?_; (case hd => rfl); (case hg => rfl); (case hr => first | (go_simp; done) | (go_simp; rfl)); intro g hgb w9 hbox hb; have BX := Aside0.mk (box_two x hgb hbox hb BL.out HB.out); have hy0 := (hb.cell (World.block_lt_of_cell? wr _ hx0)).trans hx0; have hy1 := (hb.cell (World.block_lt_of_cell? wr _ hx1)).trans hx1; have hf0 := blk_frozen hbox 0; have hf1 := blk_frozen hbox 1; have hz0 : w9.cell? ⟨g, 0, none⟩ = some (.string (⟨#[]⟩ : ByteArray)) := (blk_cell hbox 0).trans rfl; have hz1 : w9.cell? ⟨g, 1, none⟩ = some (.string (⟨#[]⟩ : ByteArray)) := (blk_cell hbox 1).trans rfl; clear hbox hb hgb)
          | ((with_reducible refine gate_dst (N := 35) rfl ?_); refine wpList_add_str rfl _ _ rfl x.f0 ⟨#[32]⟩ rfl rfl (by have := HSM.out; have : (⟨#[32]⟩ : ByteArray).size = 1 := rfl; unfold maxLen; omega) ?_)
          | ((with_reducible refine gate_dst (N := 38) rfl ?_); refine wpList_add_str rfl _ _ rfl (x.f0 ++ ⟨#[32]⟩) x.f1 rfl rfl (by have := HSM.out; have : (⟨#[32]⟩ : ByteArray).size = 1 := rfl; rw [ByteArray.size_append]; unfold maxLen; omega) ?_)
          | ((with_reducible refine gate_dst (N := 39) rfl ?_); refine wpList_add_str rfl _ _ rfl (x.f0 ++ ⟨#[32]⟩ ++ x.f1) ⟨#[10]⟩ rfl rfl (by have := HSM.out; have : (⟨#[32]⟩ : ByteArray).size = 1 := rfl; have : (⟨#[10]⟩ : ByteArray).size = 1 := rfl; rw [ByteArray.size_append, ByteArray.size_append]; unfold maxLen; omega) ?_)
          | (go_at_call 32; go_loud (refine (bld_write BX.out.2.1 (by have := HSM.out; have := HBD.out; have : (⟨#[32]⟩ : ByteArray).size = 1 := rfl; have : (⟨#[10]⟩ : ByteArray).size = 1 := rfl; rw [ByteArray.size_append, ByteArray.size_append, ByteArray.size_append]; omega) (below_size BX.out.2.2)).mono ?_; rintro e w5 ⟨rfl, hbl, hb⟩; have HB1 := Aside0.mk (BX.out.2.2.trans hb); have BL1 := Aside0.mk hbl; clear hbl hb)))
        go_roundg k1
        case measure => exact Nat.lt_succ_self _
        case rel => exact ⟨m + 1, by have := HM.out; have := HF.out.1; simp [wrap64]; omega, ⟨by have := HM.out; omega⟩, ⟨by rw [HD.out]; simpa [rowOf, ByteArray.toList_data_append] using BL1.out⟩, HB1⟩
      · have HM1 := HM.out
        have hm : m = l1.length := by omega
        have cb3 : decide ((m : Int) < (l1.length : Int)) = false := decide_eq_false (by omega)
        have cb4 : (m < l1.length) = False := eq_false (by omega)
        have HE := Aside0.mk hm
        clear hm c HM1
        go_wp2_with (go_at_call 33; refine (bld_text BL.out (below_size HB.out)).mono ?_; rintro e w5 ⟨rfl, hb⟩; have HB1 := Aside0.mk (HB.out.trans hb); clear hb)
        go_ret
        exact ⟨by rw [HE.out, List.take_length]; rfl, HB1.out⟩
end Go.Proofs.Ytnjkdnbmpldokaa.P
