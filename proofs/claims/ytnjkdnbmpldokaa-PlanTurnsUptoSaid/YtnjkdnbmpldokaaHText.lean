import Derived.Test.YtnjkdnbmpldokaaLib
import Derived.Shelf.Strings.Builder1
import Derived.Lib.UnsafeStr
import Derived.Test.YtnjkdnbmpldokaaHMap
import Derived.Test.YtnjkdnbmpldokaaTools
import Derived.Test.YtnjkdnbmpldokaaP16
import Derived.Test.YtnjkdnbmpldokaaP31
import Derived.Test.YtnjkdnbmpldokaaPz
import Derived.RangeFuncIn
import Derived.RangeFuncSeq
import Derived.WalkKit
import Derived.OwnWalkIn
import Derived.TacticsInMore
import Derived.LoopNIn
import Derived.LoopIn
import Derived.Sort.LoopGhostIn
import Derived.RegionIn
import Derived.Shelf.RegionOpen
import Derived.Shelf.Abstract
import Derived.Carry
import Derived.Lib.Hide
import Derived.WalkMore
import Derived.Test.YtnjkdnbmpldokaaP52
import Derived.Test.YtnjkdnbmpldokaaP53
import Derived.Test.YtnjkdnbmpldokaaP35
/- plan.Format: a plan's text, through a builder. -/
namespace Go.Proofs.Ytnjkdnbmpldokaa.P
open Go.RowKit Go.Proofs.YtnjkdnbmpldokaaW.PrintWords Go.Proofs.YtnjkdnbmpldokaaW.PrintLast Go.Proofs.YtnjkdnbmpldokaaW.PrintMore Go.Proofs.YtnjkdnbmpldokaaB
set_option linter.unusedVariables false
set_option linter.unusedSimpArgs false

/-- A builder of the call's own that holds the bytes. -/
def Bld (w : World) (B b : Nat) (bs : List UInt8) : Prop := Lib.IsBuilder (Try.renNm.t 72) (Try.renNm.t 5) B b (Lib.byteCells bs) w
theorem bld_below {w w' : World} {B b : Nat} {bs : List UInt8} (h : Bld w B b bs) (hb : Below w.heap.size w w') : Bld w' B b bs := by
  have go : ∀ p, Lib.BuilderAt (Try.renNm.t 72) (Try.renNm.t 5) B b p (Lib.byteCells bs) w → Lib.BuilderAt (Try.renNm.t 72) (Try.renNm.t 5) B b p (Lib.byteCells bs) w' := by
    rintro p ⟨hB, v, hh, ho, hn⟩
    exact ⟨hB, v, (hb.block b (Array.getElem?_eq_some_iff.1 hh).1).trans hh, pw_own_below ho hb, hn⟩
  exact h.elim (fun x => .inl (go _ x)) (fun x => .inr (go _ x))
theorem bld_new {w : World} {B b : Nat} (hB : B ≤ b) (h : w.heap[b]? = some (.cells #[.pointer none, .slice none 0 0] (Try.renNm.t 72))) : Bld w B b [] :=
  .inl ⟨hB, _, h, own_nil _ _ _ _, by simp [Value.ownBlock]⟩
theorem bld_write {B b : Nat} {bs : List UInt8} {s : ByteArray} {w : World} (h : Bld w B b bs) (hlen : bs.length + s.size ≤ 140737488355328) (hBw : B ≤ w.heap.size) :
    Calls Try.prog 32 #[.pointer (some ⟨b, 0, none⟩), .string s] w fun e w' => e = .returned (.tuple #[.int .i64 s.size, .nilIface]) ∧ Bld w' B b (bs ++ s.data.toList) ∧ Below B w w' := by
  have h0 := Any.Builder_WriteString Try.LLays_n166 Try.LBuilder_Extra B b (Lib.byteCells bs) s w h (by rw [Lib.byteCells_length]; exact hlen) hBw
  refine Calls.mono h0 ?_
  rintro e w' ⟨rfl, h1, h2⟩
  refine ⟨rfl, .inr ?_, h2⟩
  rw [Lib.byteCells_append, ← Lib.strCells_eq]
  exact h1
theorem bld_text {B b : Nat} {bs : List UInt8} {w : World} (h : Bld w B b bs) (hBw : B ≤ w.heap.size) :
    Calls Try.prog 33 #[.pointer (some ⟨b, 0, none⟩)] w fun e w' => e = .returned (.string ⟨bs.toArray⟩) ∧ Below B w w' :=
  Any.Builder_String_any Try.LLays_n169 Try.LBuilder_Extra B b bs w h hBw

theorem str_at {w : World} {A : Option Addr} {n : Nat} {xs : List ByteArray} (h : Kd.string.C w A n xs) (m : Nat) (hm : m < n) : ∃ ad, A = some ad ∧ w.cell? (ad.add m) = some (.string (xs.getD m ByteArray.empty)) := by
  obtain ⟨ad, cs, e, _, hK, hc0⟩ := Kd.C_get h ByteArray.empty (m : Int) (by omega) (by omega)
  rw [Int.toNat_natCast] at hK hc0
  obtain rfl : cs = [.string (xs.getD m ByteArray.empty)] := hK
  exact ⟨ad, e, by simpa [Kd.string, Kd.scalar] using hc0 0 _ rfl⟩
/-- A struct of two texts in a block of its own, the builder and what lies below as they were. -/
theorem box_two {w0 W w9 : World} {g B b : Nat} {bs : List UInt8} (x : S61) (hg : g = W.heap.size) (hP : w9.heap[g]? = some (.cells #[.string ⟨#[]⟩, .string ⟨#[]⟩] 61)) (hb : Below W.heap.size W w9) (h : Bld W B b bs) (hB : Below w0.heap.size w0 W) :
    ((w9.setCell ⟨g, 0, none⟩ (.string x.f0)).setCell ⟨g, 1, none⟩ (.string x.f1)).heap[g]? = some (.cells #[.string x.f0, .string x.f1] 61) ∧ Bld ((w9.setCell ⟨g, 0, none⟩ (.string x.f0)).setCell ⟨g, 1, none⟩ (.string x.f1)) B b bs ∧ Below w0.heap.size w0 ((w9.setCell ⟨g, 0, none⟩ (.string x.f0)).setCell ⟨g, 1, none⟩ (.string x.f1)) := by
  have h1 := blk_put hP 0 (.string x.f0) (cs' := #[.string x.f0, .string ⟨#[]⟩]) rfl
  have h2 := blk_put h1 1 (.string x.f1) (cs' := #[.string x.f0, .string x.f1]) rfl
  have hBB : Below W.heap.size W ((w9.setCell ⟨g, 0, none⟩ (.string x.f0)).setCell ⟨g, 1, none⟩ (.string x.f1)) := (hb.setCell (Nat.le_of_eq hg.symm) _).setCell (Nat.le_of_eq hg.symm) _
  exact ⟨h2, bld_below h hBB, hB.trans (hBB.mono (below_size hB))⟩
def dias : List ByteArray := [(⟨#[]⟩ : ByteArray), (⟨#[110, 112, 109]⟩ : ByteArray), (⟨#[112, 121, 116, 104, 111, 110]⟩ : ByteArray), (⟨#[109, 97, 118, 101, 110]⟩ : ByteArray), (⟨#[100, 101, 98, 105, 97, 110]⟩ : ByteArray), (⟨#[114, 112, 109]⟩ : ByteArray)]
theorem dias_eq : plan_dialects.f = some dias := rfl
def rowOf (x : S61) : List UInt8 := x.f0.data.toList ++ [32] ++ x.f1.data.toList ++ [10]
def headOf (d : Int) : List UInt8 := (dias.getD d.toNat ByteArray.empty).data.toList ++ [32, 112, 108, 97, 110, 10]
def fmtL (d : Int) (l : List S61) : List UInt8 := headOf d ++ l.flatMap rowOf
def plan_Format.f (k : Nat) (a0 : Int) (l1 : List S61) : Option ByteArray :=
  if a0 < 1 then some ⟨#[]⟩ else if (dias.length : Int) ≤ a0 then some ⟨#[]⟩ else (plan_Fit.f k l1).bind fun b => if b = false then some ⟨#[]⟩ else if fine l1 then some ⟨(fmtL a0 l1).toArray⟩ else none
theorem plan_Format.mono : ∀ a0 a1 k, LeO (plan_Format.f k a0 a1) (plan_Format.f (k + 1) a0 a1) := by
  intro a0 a1 k
  unfold plan_Format.f
  exact LeO.ite (LeO.refl _) (LeO.ite (LeO.refl _) (LeO.bind (plan_Fit.mono _ _) (fun _ => LeO.refl _)))
theorem fmtL_bound (d : Int) (hd : d < 6) (l : List S61) (hs : ∀ x ∈ l, small x = true) : (fmtL d l).length ≤ 12 + l.length * 8388610 := by
  have h1 : (headOf d).length ≤ 12 := by
    have h0 : ∀ i : Nat, (dias.getD i ByteArray.empty).data.toList.length ≤ 6
      | 0 | 1 | 2 | 3 | 4 | 5 => by decide
      | n + 6 => by simp [dias]
    have := h0 d.toNat
    simp only [headOf, List.length_append, List.length_cons, List.length_nil]; omega
  have h2 : ∀ l : List S61, (∀ x ∈ l, small x = true) → (l.flatMap rowOf).length ≤ l.length * 8388610 := by
    intro l
    induction l with
    | nil => simp
    | cons x l ih =>
      intro hs
      have hx := hs x List.mem_cons_self
      simp only [small, Bool.and_eq_true, decide_eq_true_eq, ByteArray.size] at hx
      have hx0 : x.f0.data.size ≤ 4194304 := hx.1
      have hx1 : x.f1.data.size ≤ 4194304 := hx.2
      clear hx
      have := ih (fun y hy => hs y (List.mem_cons_of_mem _ hy))
      simp only [List.flatMap_cons, List.length_append, rowOf, List.length_cons, List.length_nil, Array.length_toList]
      omega
  have := h2 l hs
  simp only [fmtL, List.length_append]
  omega
set_option maxHeartbeats 2000000 in
set_option maxRecDepth 100000 in
theorem plan_Format.calls (k : Nat) (a0 : Int) (A1 : Option Addr) (c1 : Nat) (l1 : List S61) (r : ByteArray) (w : World) (hr1 : Kd.C k61 w A1 l1.length l1) (hc1 : l1.length ≤ c1) (h : plan_Format.f k a0 l1 = some r) :
    Calls Try.prog 14 #[.int .i64 a0, .slice A1 l1.length c1] w fun e w' => e = .returned (.string r) ∧ Below w.heap.size w w' := by
  have HR1 := Aside0.mk hr1
  have HC1 := Aside0.mk hc1
  clear hr1 hc1
  have hu61 := Try.underlying61
  unfold plan_Format.f at h
  split at h
  case isTrue hd =>
    cases h
    have cb : decide (a0 < 1) = true := decide_eq_true hd
    clear hd
    go_enter Try.func14, Try.ntmps14
    go_wp2
    go_ret
    exact ⟨rfl, Below.refl _ _⟩
  case isFalse hd =>
  have cb : decide (a0 < 1) = false := decide_eq_false hd
  split at h
  case isTrue hd6 =>
    cases h
    have cb2 : decide ((dias.length : Int) ≤ a0) = true := decide_eq_true hd6
    have cb3 : ((dias.length : Int) ≤ a0) = True := eq_true hd6
    clear hd hd6
    go_enter Try.func14, Try.ntmps14
    go_wp2_with (go_at_call 31; with_reducible refine (plan_dialects.calls dias w dias_eq).mono ?_; rintro e w1 ⟨vd, rfl, ho, hb⟩; obtain ⟨Ad, cd, rfl, _, _⟩ := Kd.R_reads ho; have HB := Aside0.mk hb; clear ho hb)
    go_ret
    exact ⟨rfl, HB.out⟩
  case isFalse hd6 =>
  obtain ⟨bf, hfit, h⟩ := Option.bind_eq_some_iff.1 h
  have HFIT := Aside0.mk hfit
  clear hfit
  have cb2 : decide ((dias.length : Int) ≤ a0) = false := decide_eq_false hd6
  have cb3 : ((dias.length : Int) ≤ a0) = False := eq_false hd6
  cases bf with
  | false =>
    rw [if_pos rfl] at h
    cases h
    clear hd hd6
    go_enter Try.func14, Try.ntmps14
    go_wp2_with (first | (go_at_call 31; with_reducible refine (plan_dialects.calls dias w dias_eq).mono ?_; rintro e w1 ⟨vd, rfl, ho, hb⟩; obtain ⟨Ad, cd, rfl, _, _⟩ := Kd.R_reads ho; have HB := Aside0.mk hb; clear ho hb) | (go_at_call 16; with_reducible refine (plan_Fit.calls k A1 c1 l1 false _ (Kd.C_below HR1.out HB.out) HC1.out HFIT.out).mono ?_; rintro e w2 ⟨rfl, hB⟩; have HB1 := Aside0.mk (HB.out.trans (hB.mono (below_size HB.out))); clear hB HB; have HB := HB1; clear HB1))
    go_ret
    exact ⟨rfl, HB.out⟩
  | true =>
    rw [if_neg (by simp)] at h
    split at h
    case isFalse => cases h
    rename_i hf
    cases h
    simp only [fine, Bool.and_eq_true, decide_eq_true_eq, List.all_eq_true] at hf
    have HF := Aside0.mk hf
    clear hf
    obtain ⟨n, rfl⟩ : ∃ n : Nat, a0 = n := ⟨a0.toNat, by omega⟩
    have hn : n < dias.length := by omega
    have hns : (dias.getD n ByteArray.empty).size ≤ 6 := (fun (i : Nat) => by match i with | 0 | 1 | 2 | 3 | 4 | 5 => decide | i + 6 => simp [dias] : ∀ i : Nat, (dias.getD i ByteArray.empty).size ≤ 6) n
    obtain ⟨nm, hname⟩ : ∃ nm, dias.getD n ByteArray.empty = nm := ⟨_, rfl⟩
    rw [hname] at hns
    have HNS := Aside0.mk hns
    have HH : Aside0 (headOf (n : Int) = (nm ++ ⟨#[32, 112, 108, 97, 110, 10]⟩ : ByteArray).data.toList) := ⟨by rw [← hname]; simp [headOf]⟩
    clear hns
    have hn6 : n < 6 := hn
    have HNL := Aside0.mk hn
    have p : (0 ≤ (n : Int)) = True := eq_true (by omega)
    have q : ((n : Int) < (dias.length : Int)) = True := eq_true (by omega)
    have q2 : (n < dias.length) = True := eq_true hn
    clear hd hd6 hn
    go_enter Try.func14, Try.ntmps14
    go_wp2_with (first
      | (go_at_call 31; with_reducible refine (plan_dialects.calls dias w dias_eq).mono ?_; rintro e w1 ⟨vd, rfl, ho, hb⟩; obtain ⟨Ad, cd, rfl, _, _⟩ := Kd.R_reads ho; have HB := Aside0.mk hb; clear ho hb)
      | (go_at_call 31; go_loud (with_reducible refine (plan_dialects.calls dias _ dias_eq).mono ?_; rintro e w4 ⟨vd, rfl, ho, hb⟩; obtain ⟨Ad2, cd2, rfl, _, hC⟩ := Kd.R_reads ho; have HB1 := Aside0.mk (HB.out.trans (hb.mono (below_size HB.out))); have BL1 := Aside0.mk (bld_below BL.out hb); clear HB BL; have HB := HB1; have BL := BL1; clear HB1 BL1 ho hb; obtain ⟨ad, rfl, hx⟩ := str_at hC n HNL.out; rw [hname] at hx; clear hC))
      | (go_at_call 16; with_reducible refine (plan_Fit.calls k A1 c1 l1 true _ (Kd.C_below HR1.out HB.out) HC1.out HFIT.out).mono ?_; rintro e w2 ⟨rfl, hB⟩; have HB1 := Aside0.mk (HB.out.trans (hB.mono (below_size HB.out))); clear hB HB; have HB := HB1; clear HB1)
      | ((with_reducible refine gate_dst (N := 5) rfl ?_); refine box_event ?hg (N := 5) ?hd (cs := #[.pointer none, .slice none 0 0]) (t := 70) ?hr ?_; (case hd => rfl); (case hg => rfl); (case hr => first | (go_simp; done) | (go_simp; rfl)); intro pb hpb w3 hbox hb; have BL := Aside0.mk (bld_new (B := w.heap.size) (by rw [hpb]; exact below_size HB.out) hbox); have HB1 := Aside0.mk (HB.out.trans (hb.mono (below_size HB.out))); clear HB hbox hb; have HB := HB1; clear HB1; have GPB := Aside0.mk hpb; clear hpb)
      | ((with_reducible refine gate_dst (N := 25) rfl ?_); refine wpList_add_str rfl _ _ rfl nm ⟨#[32, 112, 108, 97, 110, 10]⟩ rfl rfl (by have := HNS.out; have : (⟨#[32, 112, 108, 97, 110, 10]⟩ : ByteArray).size = 6 := rfl; unfold maxLen; omega) ?_)
      | (go_at_call 32; go_loud (refine (bld_write BL.out (by have := HNS.out; simp [ByteArray.size_append]; have : (⟨#[32, 112, 108, 97, 110, 10]⟩ : ByteArray).size = 6 := rfl; omega) (below_size HB.out)).mono ?_; rintro e w5 ⟨rfl, hbl, hb⟩; have HB1 := Aside0.mk (HB.out.trans hb); have BL1 := Aside0.mk hbl; clear HB BL; have HB := HB1; have BL := BL1; clear HB1 BL1 hbl hb hx)))
    go_loopg [29] l1.length (fun kq v29 w' => ∃ (m : Nat), v29 = .int .i64 (m : Int) ∧ Aside0 (kq + m = l1.length) ∧ Aside0 (Bld w' w.heap.size pb (headOf (n : Int) ++ (l1.take m).flatMap rowOf)) ∧ Aside0 (Below w.heap.size w w'))
    case atStart => exact ⟨0, rfl, ⟨rfl⟩, ⟨by rw [HH.out]; simpa using BL.out⟩, HB⟩
    case round =>
      clear BL HB
      obtain ⟨m, rfl, HM, BL, HB⟩ := hrel
      by_cases c : m < l1.length
      · have HM1 := HM.out
        obtain ⟨k1, rfl⟩ : ∃ k1, gk = k1 + 1 := ⟨gk - 1, by omega⟩
        have p : 0 ≤ (m : Int) := by omega
        have q : (m : Int) < (l1.length : Int) := by omega
        obtain ⟨ad, e, hx0, hx1⟩ := at_T61 HR1.out (m : Int) p q
        cases e
        rw [Int.toNat_natCast] at hx0 hx1
        replace hx0 := (HB.out.cell (World.block_lt_of_cell? w _ hx0)).trans hx0
        replace hx1 := (HB.out.cell (World.block_lt_of_cell? w _ hx1)).trans hx1
        have hd : l1.take (m + 1) = l1.take m ++ [rd_T61 l1 (m : Int)] := by rw [List.take_add_one, List.getElem?_eq_getElem c]; simp [rd_T61, List.getD_eq_getElem?_getD, List.getElem?_eq_getElem c]
        have hsm := HF.out.2 (rd_T61 l1 (m : Int)) (by simp [rd_T61, List.getD_eq_getElem?_getD, List.getElem?_eq_getElem c])
        have hbd := fmtL_bound (n : Int) (by omega) (l1.take m) (fun x hx => HF.out.2 x (List.mem_of_mem_take hx))
        have hlt := List.length_take_le m l1
        generalize rd_T61 l1 (m : Int) = x at hx0 hx1 hd hsm
        simp only [small, Bool.and_eq_true, decide_eq_true_eq] at hsm
        have HSM := Aside0.mk hsm
        have HD := Aside0.mk hd
        have HBD := Aside0.mk (show (headOf (n : Int) ++ (l1.take m).flatMap rowOf).length ≤ 12 + 4194304 * 8388610 from Nat.le_trans hbd (by have := HF.out.1; omega))
        clear hsm hd HM1 hbd hlt
        replace p := eq_true p
        replace q := eq_true q
        have q2 : (m < l1.length) = True := eq_true c
        clear c
        go_wp2_with (first
          | ((with_reducible refine gate_dst (N := 7) rfl ?_); refine box_event ?hg (N := 7) ?hd (cs := #[.string (⟨#[]⟩ : ByteArray), .string (⟨#[]⟩ : ByteArray)]) (t := 61) ?hr ?_; (case hd => rfl); (case hg => rfl); (case hr => first | (go_simp; done) | (go_simp; rfl)); intro g hgb w9 hbox hb; have BX := Aside0.mk (box_two x hgb hbox hb BL.out HB.out); have hy0 := (hb.cell (World.block_lt_of_cell? wr _ hx0)).trans hx0; have hy1 := (hb.cell (World.block_lt_of_cell? wr _ hx1)).trans hx1; have hf0 := blk_frozen hbox 0; have hf1 := blk_frozen hbox 1; have hz0 : w9.cell? ⟨g, 0, none⟩ = some (.string (⟨#[]⟩ : ByteArray)) := (blk_cell hbox 0).trans rfl; have hz1 : w9.cell? ⟨g, 1, none⟩ = some (.string (⟨#[]⟩ : ByteArray)) := (blk_cell hbox 1).trans rfl; clear hbox hb hgb)
          | ((with_reducible refine gate_dst (N := 35) rfl ?_); refine wpList_add_str rfl _ _ rfl x.f0 ⟨#[32]⟩ rfl rfl (by have := HSM.out; have : (⟨#[32]⟩ : ByteArray).size = 1 := rfl; unfold maxLen; omega) ?_)
          | ((with_reducible refine gate_dst (N := 38) rfl ?_); refine wpList_add_str rfl _ _ rfl (x.f0 ++ ⟨#[32]⟩) x.f1 rfl rfl (by have := HSM.out; have : (⟨#[32]⟩ : ByteArray).size = 1 := rfl; rw [ByteArray.size_append]; unfold maxLen; omega) ?_)
          | ((with_reducible refine gate_dst (N := 39) rfl ?_); refine wpList_add_str rfl _ _ rfl (x.f0 ++ ⟨#[32]⟩ ++ x.f1) ⟨#[10]⟩ rfl rfl (by have := HSM.out; have : (⟨#[32]⟩ : ByteArray).size = 1 := rfl; have : (⟨#[10]⟩ : ByteArray).size = 1 := rfl; rw [ByteArray.size_append, ByteArray.size_append]; unfold maxLen; omega) ?_)
          | (go_at_call 32; go_loud (refine (bld_write BX.out.2.1 (by have := HSM.out; have := HBD.out; have : (⟨#[32]⟩ : ByteArray).size = 1 := rfl; have : (⟨#[10]⟩ : ByteArray).size = 1 := rfl; rw [ByteArray.size_append, ByteArray.size_append, ByteArray.size_append]; omega) (below_size BX.out.2.2)).mono ?_; rintro e w5 ⟨rfl, hbl, hb⟩; have HB1 := Aside0.mk (BX.out.2.2.trans hb); have BL1 := Aside0.mk hbl; clear hbl hb)))
        go_roundg k1
        case measure => exact Nat.lt_succ_self _
        case rel => exact ⟨m + 1, by have := HM.out; have := HF.out.1; simp [wrap64]; omega, ⟨by have := HM.out; omega⟩, ⟨by rw [HD.out]; simpa [rowOf, ByteArray.toList_data_append] using BL1.out⟩, HB1⟩
      · have HM1 := HM.out
        have hm : m = l1.length := by omega
        have cb3 : decide ((m : Int) < (l1.length : Int)) = false := decide_eq_false (by omega)
        have cb4 : (m < l1.length) = False := eq_false (by omega)
        have HE := Aside0.mk hm
        clear hm c HM1
        go_wp2_with (go_at_call 33; refine (bld_text BL.out (below_size HB.out)).mono ?_; rintro e w5 ⟨rfl, hb⟩; have HB1 := Aside0.mk (HB.out.trans hb); clear hb)
        go_ret
        exact ⟨by rw [HE.out, List.take_length]; rfl, HB1.out⟩
end Go.Proofs.Ytnjkdnbmpldokaa.P

/- plan.reader.picks: the iterator. -/
namespace Go.Proofs.Ytnjkdnbmpldokaa.P
open Go.RowKit Go.Shelf Go.Proofs.YtnjkdnbmpldokaaW.PrintWords Go.Proofs.YtnjkdnbmpldokaaW.PrintLast Go.Proofs.YtnjkdnbmpldokaaW.PrintMore Go.Proofs.YtnjkdnbmpldokaaB
attribute [local go_sem] Oper.semAt_some
set_option linter.unusedVariables false
set_option linter.unusedSimpArgs false

/-- The reader's four cells. -/
structure Rd where
  s : ByteArray
  at_ : Int
  e : Int
  ea : Int
def leS (x y : ByteArray) : Bool := !(Op.bytesLess y.toList x.toList)
/-- A round of the reader: a pick, or none. -/
def pickRound (k : Nat) (q : Rd) (last : ByteArray) : Option (Option S61 × Rd) :=
  (plan_reader_word.f k q.s q.at_ q.e q.ea 32).bind fun b =>
    ((if b.2.2.2.1 = 0 then (if leS b.1 last = true then plan_reader_fail.f b.2.1 b.2.2.1 b.2.2.2.1 b.2.2.2.2 16 q.at_ else some (b.2.1, b.2.2.1, b.2.2.2.1, b.2.2.2.2)) else some (b.2.1, b.2.2.1, b.2.2.2.1, b.2.2.2.2)) : Option (ByteArray × Int × Int × Int)).bind fun t =>
      if t.2.2.1 = 0 then
        (plan_reader_word.f k t.1 (wrap64 (t.2.1 + 1)) t.2.2.1 t.2.2.2 10).bind fun c =>
          if c.2.2.2.1 = 0 then some (some ⟨b.1, c.1⟩, ⟨c.2.1, wrap64 (c.2.2.1 + 1), c.2.2.2.1, c.2.2.2.2⟩) else some (none, ⟨c.2.1, wrap64 (c.2.2.1 + 1), c.2.2.2.1, c.2.2.2.2⟩)
      else some (none, ⟨t.1, t.2.1, t.2.2.1, t.2.2.2⟩)
def optM {α β : Type} (o : Option α) (d : Option β) (f : α → Option β) : Option β := o.elim d f
def readGo (k : Nat) : Nat → Rd → ByteArray → List S61 → Option (List S61 × Rd)
  | 0, _, _, _ => none
  | n + 1, q, last, acc => if q.at_ < (q.s.size : Int) then (pickRound k q last).bind fun z => optM z.1 (some (acc, z.2)) (fun x => if acc.length < 4194304 then readGo k n z.2 x.f0 (acc ++ [x]) else none) else some (acc, q)
theorem optM_mono {α β : Type} {o : Option α} {f f' : α → Option β} {d : Option β} (h : ∀ x, LeO (f x) (f' x)) : LeO (optM o d f) (optM o d f') := by
  cases o with
  | none => exact LeO.refl _
  | some x => exact h x
theorem pickRound_mono (k : Nat) (q : Rd) (last : ByteArray) : LeO (pickRound k q last) (pickRound (k + 1) q last) := by
  unfold pickRound
  exact LeO.bind (plan_reader_word.mono _ _ _ _ _ _) (fun _ => LeO.bind (LeO.refl _) (fun _ => LeO.ite (LeO.bind (plan_reader_word.mono _ _ _ _ _ _) (fun _ => LeO.refl _)) (LeO.refl _)))
theorem readGo_mono (k : Nat) : ∀ n q last acc, LeO (readGo k n q last acc) (readGo (k + 1) (n + 1) q last acc)
  | 0, _, _, _ => LeO.none _
  | n + 1, q, last, acc => by
    rw [readGo, readGo]
    exact LeO.ite (LeO.bind (pickRound_mono _ _ _) (fun z => optM_mono (fun x => LeO.ite (readGo_mono k n _ _ _) (LeO.refl _)))) (LeO.refl _)

/-- What stands inside a round of the reader. -/
structure Sr (w0 wr W : World) (g pb : Nat) (s : ByteArray) (at_ e ea : Int) (b v : ByteArray) : Prop where
  kb : KeepBut wr W g none
  hi : IsS81 w0 W g s at_ e ea
  hp : W.heap[pb]? = some (.cells #[.string b, .string v] 61)
  hb : Below w0.heap.size w0 W
  hn : wr.heap.size ≤ pb
section
variable {w0 wr W W' : World} {g pb : Nat} {s s' : ByteArray} {at_ e ea at' e' ea' : Int} {b v : ByteArray}
theorem Sr.ne (h : Sr w0 wr W g pb s at_ e ea b v) : pb ≠ g := blk_ne h.hp h.hi.1 (by decide)
theorem Sr.call (h : Sr w0 wr W g pb s at_ e ea b v) (hi : IsS81 w0 W' g s' at' e' ea') (hB : Below w0.heap.size w0 W') (hk : KeepBut W W' g none) : Sr w0 wr W' g pb s' at' e' ea' b v :=
  ⟨h.kb.trans hk (.inl rfl), hi, (hk.2 pb (blk_lt h.hp) h.ne (by simp)).trans h.hp, hB, h.hn⟩
theorem Sr.made (hk : KeepBut wr W g none) (hi : IsS81 w0 W g s at_ e ea) (hB : Below w0.heap.size w0 W) : Sr w0 wr (W.alloc (.cells #[.string b, .string v] 61)) g W.heap.size s at_ e ea b v :=
  ⟨⟨Nat.le_trans hk.1 (by simp), fun i h1 h2 h3 => (Below.heap_alloc W _ i (Nat.lt_of_lt_of_le h1 hk.1)).trans (hk.2 i h1 h2 h3)⟩, hi.alloc _, alloc_new W _, below_alloc hB _, hk.1⟩
theorem Sr.setAt (h : Sr w0 wr W g pb s at_ e ea b v) (x : Int) : Sr w0 wr (W.setCell ⟨g, 1, none⟩ (.int .i64 x)) g pb s x e ea b v :=
  ⟨⟨by simpa [World.setCell] using h.kb.1, fun i h1 h2 h3 => (Below.heap_setCell W ⟨g, 1, none⟩ _ i h2).trans (h.kb.2 i h1 h2 h3)⟩, ⟨blk_put h.hi.1 1 _ rfl, h.hi.2⟩, (Below.heap_setCell W ⟨g, 1, none⟩ _ pb h.ne).trans h.hp, h.hb.setCell (p := ⟨g, 1, none⟩) h.hi.2 _, h.hn⟩
theorem Sr.setV (h : Sr w0 wr W g pb s at_ e ea b v) (hle : w0.heap.size ≤ pb) (x : ByteArray) : Sr w0 wr (W.setCell ⟨pb, 1, none⟩ (.string x)) g pb s at_ e ea b x :=
  ⟨⟨by simpa [World.setCell] using h.kb.1, fun i h1 h2 h3 => (Below.heap_setCell W ⟨pb, 1, none⟩ _ i (by have := h.hn; simp; omega)).trans (h.kb.2 i h1 h2 h3)⟩, ⟨(Below.heap_setCell W ⟨pb, 1, none⟩ _ g (Ne.symm h.ne)).trans h.hi.1, h.hi.2⟩, blk_put h.hp 1 _ rfl, h.hb.setCell (p := ⟨pb, 1, none⟩) hle _, h.hn⟩
theorem Sr.s0 (h : Sr w0 wr W g pb s at_ e ea b v) : W.cell? ⟨g, 0, none⟩ = some (.string s) := (blk_cell h.hi.1 0).trans rfl
theorem Sr.s1 (h : Sr w0 wr W g pb s at_ e ea b v) : W.cell? ⟨g, 1, none⟩ = some (.int .i64 at_) := (blk_cell h.hi.1 1).trans rfl
theorem Sr.s2 (h : Sr w0 wr W g pb s at_ e ea b v) : W.cell? ⟨g, 2, none⟩ = some (.int .i64 e) := (blk_cell h.hi.1 2).trans rfl
theorem Sr.sf (h : Sr w0 wr W g pb s at_ e ea b v) : W.frozen? ⟨g, 1, none⟩ = false := blk_frozen h.hi.1 1
theorem Sr.p0 (h : Sr w0 wr W g pb s at_ e ea b v) : W.cell? ⟨pb, 0, none⟩ = some (.string b) := (blk_cell h.hp 0).trans rfl
theorem Sr.p1 (h : Sr w0 wr W g pb s at_ e ea b v) : W.cell? ⟨pb, 1, none⟩ = some (.string v) := (blk_cell h.hp 1).trans rfl
theorem Sr.pf (h : Sr w0 wr W g pb s at_ e ea b v) : W.frozen? ⟨pb, 1, none⟩ = false := blk_frozen h.hp 1
end
theorem keep_drew {w W : World} {g : Nat} (h : KeepBut w W g none) : KeepBut w W.drew g none := h
set_option maxRecDepth 100000 in
set_option maxHeartbeats 4000000 in
/-- The iterator's closure, for a round that always goes on. -/
theorem picks_in (n l Bs g k : Nat) (w0 : World) (J : List S61 → World → Prop) (r : List S61 × Rd)
    (hJ : ∀ acc W, J acc W → W.cell? ⟨Bs, 0, none⟩ = some (.pointer (some ⟨g, 0, none⟩)))
    (hK : ∀ acc W W', J acc W → KeepBut W W' g none → J acc W')
    (hY : ∀ (acc : List S61) (x : S61) (q : Rd) (W : World), acc.length < 4194304 → J acc W → IsS81 w0 W g q.s q.at_ 0 q.ea → Below w0.heap.size w0 W → YieldAt Fence.wide n Try.prog l #[pickV x] W fun e W' => e = .returned (.bool true) ∧ J (acc ++ [x]) W' ∧ IsS81 w0 W' g q.s q.at_ 0 q.ea ∧ Below w0.heap.size w0 W')
    (q : Rd) (acc : List S61) (W : World) (h0 : J acc W) (hI : IsS81 w0 W g q.s q.at_ q.e q.ea) (hB : Below w0.heap.size w0 W) (h : readGo k k q ⟨#[]⟩ acc = some r) :
    CallsIn Fence.wide (n + 1) Try.prog 51 #[.func (.yield l) #[] #[], .pointer (some ⟨Bs, 0, none⟩)] W fun e W' => (∃ v, e = .returned v) ∧ J r.1 W' ∧ IsS81 w0 W' g r.2.s r.2.at_ r.2.e r.2.ea ∧ Below w0.heap.size w0 W' := by
  have HJ := Aside0.mk hJ
  have HK := Aside0.mk hK
  have HY := Aside0.mk hY
  have H0 := Aside0.mk h0
  have HI := Aside0.mk hI
  have HB := Aside0.mk hB
  have H := Aside0.mk h
  clear hJ hK hY h0 hI hB h
  have hu61 := Try.underlying61
  refine callsIn_of_wp Try.func51 rfl trivial ?_ rfl
  simp only [Try.ntmps51, List.size_toArray, List.length_cons, List.length_nil, Nat.reduceAdd, Nat.reduceSub, Array.replicate_succ, Array.replicate_zero, List.push_toArray, List.append_toArray, List.nil_append, List.cons_append]
  gi_wp2
  gi_loopg [3] k (fun kq v3 wr => ∃ (q : Rd) (last : ByteArray) (acc : List S61), v3 = .string last ∧ Aside0 (readGo k kq q last acc = some r) ∧ Aside0 (J acc wr) ∧ Aside0 (IsS81 w0 wr g q.s q.at_ q.e q.ea) ∧ Aside0 (Below w0.heap.size w0 wr))
  case atStart => exact ⟨q, ⟨#[]⟩, acc, rfl, H, H0, HI, HB⟩
  case round =>
    clear H H0 HI HB
    try clear q
    obtain ⟨q, last, acc, rfl, H, H0, HI, HB⟩ := hrel
    cases gk with
    | zero => exact absurd H.out (by simp [readGo])
    | succ k1 =>
      have H1 := H.out
      clear H
      rw [readGo] at H1
      have cr := HJ.out _ _ H0.out
      have ci0 : wr.cell? ⟨g, 0, none⟩ = some (.string q.s) := (blk_cell HI.out.1 0).trans rfl
      have ci1 : wr.cell? ⟨g, 1, none⟩ = some (.int .i64 q.at_) := (blk_cell HI.out.1 1).trans rfl
      split at H1
      case isFalse hc =>
        cases H1
        have cb : decide (q.at_ < (q.s.size : Int)) = false := decide_eq_false hc
        clear hc
        gi_wp2
        gi_region
        gi_wp2
        go_end0
        exact ⟨⟨_, rfl⟩, HK.out _ _ _ H0.out (keep_drew (KeepBut.refl _ _ _)), HI.out.drew, below_drew HB.out⟩
      case isTrue hc =>
        have cb : decide (q.at_ < (q.s.size : Int)) = true := decide_eq_true hc
        clear hc
        obtain ⟨z, hz, H1⟩ := Option.bind_eq_some_iff.1 H1
        unfold pickRound at hz
        obtain ⟨⟨b1, b2, b3, b4, b5⟩, hb, hz⟩ := Option.bind_eq_some_iff.1 hz
        have HW1 := Aside0.mk hb
        clear hb
        have CR : Aside0 (∀ W, KeepBut wr W g none → W.cell? ⟨Bs, 0, none⟩ = some (.pointer (some ⟨g, 0, none⟩))) := ⟨fun W hk => HJ.out _ _ (HK.out _ _ _ H0.out hk)⟩
        have HZ := Aside0.mk hz
        have HN := Aside0.mk H1
        clear hz H1
        gi_wp2
        gi_region
        gi_upto_region 4 with (refine ⟨trivial, ?_⟩; gi_at_call 52; go_loud (refine (callsIn_wide (n := n)).2 ((plan_reader_word.calls k g q.s q.at_ q.e q.ea 32 b1 b2 b3 b4 b5 w0 _ HI.out.drew (below_drew HB.out) HW1.out).mono ?_); rintro e w1 ⟨rfl, hi, hb, hk⟩; have SR := Aside0.mk (Sr.made (b := b1) (v := ⟨#[]⟩) ((keep_drew (KeepBut.refl wr g none)).trans hk (.inl rfl)) hi hb); have hlt := hk.1; clear hi hb hk))
        generalize w1.alloc (.cells #[.string b1, .string ⟨#[]⟩] 61) = W2 at SR ⊢
        generalize w1.heap.size = pb at SR hlt ⊢
        clear hlt
        have acr := CR.out _ SR.out.kb; have as0 := SR.out.s0; have as1 := SR.out.s1; have as2 := SR.out.s2; have asf := SR.out.sf; have ap0 := SR.out.p0; have ap1 := SR.out.p1; have apf := SR.out.pf
        have HZ1 := HZ.out
        clear HZ

        by_cases c4 : b4 = 0
        · subst c4
          rw [if_pos rfl] at HZ1
          by_cases cl : leS b1 last = true
          · have cl2 : Op.bytesLess last.toList b1.toList = false := by simpa [leS] using cl
            rw [if_pos cl] at HZ1
            obtain ⟨t, ht, HZ1⟩ := Option.bind_eq_some_iff.1 HZ1
            rw [plan_reader_fail.f, if_pos rfl] at ht
            cases ht
            rw [if_neg (by simp)] at HZ1
            cases HZ1
            have HN1 := HN.out
            cases HN1
            clear cl HN
            gi_wp2_with (refine ⟨trivial, ?_⟩; gi_at_call 53; go_loud (refine (callsIn_wide (n := n)).2 ((plan_reader_fail.calls g b2 b3 0 b5 16 q.at_ b2 b3 16 q.at_ w0 _ SR.out.hi SR.out.hb rfl).mono ?_); rintro e w3 ⟨rfl, hi, hb, hk⟩; have SR' := Aside0.mk (SR.out.call hi hb hk); clear SR hi hb hk; have SR := SR'; clear SR'; have bcr := CR.out _ SR.out.kb; have bs0 := SR.out.s0; have bs1 := SR.out.s1; have bs2 := SR.out.s2; have bsf := SR.out.sf))
            (try simp only [Exit.inBlock, Exit.then])
            refine bodyPost_ret (results_none rfl _ _ _) rfl ?_
            exact ⟨⟨_, rfl⟩, HK.out _ _ _ H0.out SR.out.kb, SR.out.hi, SR.out.hb⟩
          · have cl2 : Op.bytesLess last.toList b1.toList = true := by simpa [leS] using cl
            rw [if_neg cl] at HZ1
            obtain ⟨t, ht, HZ1⟩ := Option.bind_eq_some_iff.1 HZ1
            cases ht
            rw [if_pos rfl] at HZ1
            obtain ⟨⟨c1, c2, c3, c4, c5⟩, hw2, HZ1⟩ := Option.bind_eq_some_iff.1 HZ1
            have HW2 := Aside0.mk hw2
            have HZ2 := Aside0.mk HZ1
            clear hw2 HZ1 cl
            gi_upto_region 9 with fail
            have SR1 := Aside0.mk (SR.out.setAt (wrap64 (b3 + 1)))
            clear SR acr as0 as1 as2 asf ap0 ap1 apf
            have SR := SR1
            clear SR1
            generalize W2.setCell ⟨g, 1, none⟩ (.int .i64 (wrap64 (b3 + 1))) = W3 at SR ⊢
            have acr := CR.out _ SR.out.kb; have as0 := SR.out.s0; have as1 := SR.out.s1; have as2 := SR.out.s2; have asf := SR.out.sf; have ap0 := SR.out.p0; have ap1 := SR.out.p1; have apf := SR.out.pf
            gi_upto_region 10 with (refine ⟨trivial, ?_⟩; gi_at_call 52; go_loud (refine (callsIn_wide (n := n)).2 ((plan_reader_word.calls k g b2 (wrap64 (b3 + 1)) 0 b5 10 c1 c2 c3 c4 c5 w0 _ SR.out.hi SR.out.hb HW2.out).mono ?_); rintro e w4 ⟨rfl, hi, hb, hk⟩; have SR' := Aside0.mk (SR.out.call hi hb hk); clear SR hi hb hk; have SR := SR'; clear SR'; have bcr := CR.out _ SR.out.kb; have bs0 := SR.out.s0; have bs1 := SR.out.s1; have bs2 := SR.out.s2; have bsf := SR.out.sf; have bp0 := SR.out.p0; have bp1 := SR.out.p1; have bpf := SR.out.pf))
            have SR1 := Aside0.mk (SR.out.setV (Nat.le_trans (below_size HB.out) SR.out.hn) c1)
            clear SR acr as0 as1 as2 asf ap0 ap1 apf bcr bs0 bs1 bs2 bsf bp0 bp1 bpf
            have SR := SR1
            clear SR1
            generalize w4.setCell ⟨pb, 1, none⟩ (.string c1) = W5 at SR ⊢
            have acr := CR.out _ SR.out.kb; have as0 := SR.out.s0; have as1 := SR.out.s1; have as2 := SR.out.s2; have asf := SR.out.sf; have ap0 := SR.out.p0; have ap1 := SR.out.p1; have apf := SR.out.pf
            gi_upto_region 11 with fail
            have SR1 := Aside0.mk (SR.out.setAt (wrap64 (c3 + 1)))
            clear SR acr as0 as1 as2 asf ap0 ap1 apf
            have SR := SR1
            clear SR1
            generalize W5.setCell ⟨g, 1, none⟩ (.int .i64 (wrap64 (c3 + 1))) = W6 at SR ⊢
            have acr := CR.out _ SR.out.kb; have as0 := SR.out.s0; have as1 := SR.out.s1; have as2 := SR.out.s2; have asf := SR.out.sf; have ap0 := SR.out.p0; have ap1 := SR.out.p1; have apf := SR.out.pf
            have HZ1 := HZ2.out
            clear HZ2
            by_cases c0 : c4 = 0
            · subst c0
              rw [if_pos rfl] at HZ1
              cases HZ1
              have hn0 : (if acc.length < 4194304 then readGo k k1 ⟨c2, wrap64 (c3 + 1), 0, c5⟩ b1 (acc ++ [⟨b1, c1⟩]) else none) = some r := HN.out
              split at hn0
              case isFalse => cases hn0
              rename_i hlen
              have HN1 := Aside0.mk hn0
              clear HN hn0
              obtain ⟨fn, tmps, assign, body, hy, hR⟩ := HY.out acc ⟨b1, c1⟩ ⟨c2, wrap64 (c3 + 1), 0, c5⟩ W6 hlen (HK.out _ _ _ H0.out SR.out.kb) SR.out.hi SR.out.hb
              unfold pickV at hy
              gi_wp2
              refine hR.mono ?_
              rintro e W7 ⟨rfl, hJ7, hI7, hB7⟩
              have J7 := Aside0.mk hJ7
              have I7 := Aside0.mk hI7
              have B7 := Aside0.mk hB7
              clear hJ7 hI7 hB7 hR hy
              gi_wp2
              gi_roundg k1
              case measure => exact Nat.lt_succ_self _
              case rel => exact ⟨_, b1, _, rfl, HN1, J7, I7, B7⟩
            · rw [if_neg c0] at HZ1
              cases HZ1
              have HN1 := HN.out
              cases HN1
              have cd : decide (c4 = 0) = false := decide_eq_false c0
              have cd2 : decide (¬ c4 = 0) = true := decide_eq_true c0
              gi_wp2
              refine ⟨fun f hf => (by cases hf), ?_⟩
              gi_wp2
              (try simp only [Exit.inBlock, Exit.then])
              refine bodyPost_ret (results_none rfl _ _ _) rfl ?_
              exact ⟨⟨_, rfl⟩, HK.out _ _ _ H0.out SR.out.kb, SR.out.hi, SR.out.hb⟩
        · rw [if_neg c4] at HZ1
          obtain ⟨t, ht, HZ1⟩ := Option.bind_eq_some_iff.1 HZ1
          cases ht
          rw [if_neg c4] at HZ1
          cases HZ1
          have HN1 := HN.out
          cases HN1
          have cd : decide (b4 = 0) = false := decide_eq_false c4
          have cd2 : decide (¬ b4 = 0) = true := decide_eq_true c4
          clear HN
          gi_wp2
          (try simp only [Exit.inBlock, Exit.then])
          refine bodyPost_ret (results_none rfl _ _ _) rfl ?_
          exact ⟨⟨_, rfl⟩, HK.out _ _ _ H0.out SR.out.kb, SR.out.hi, SR.out.hb⟩

theorem picks_calls (g : Nat) (W : World) (n : Nat) : CallsIn Fence.wide n Try.prog 36 #[.pointer (some ⟨g, 0, none⟩)] W fun e W' => e = .returned (.func (.func 51) #[] #[.pointer (some ⟨W.heap.size, 0, none⟩)]) ∧ W' = W.alloc (.cells #[.pointer (some ⟨g, 0, none⟩)] 79) := by
  refine callsIn_of_wp Try.func36 rfl trivial ?_ rfl
  simp only [Try.ntmps36, List.size_toArray, List.length_cons, List.length_nil, Nat.reduceAdd, Nat.reduceSub, Array.replicate_succ, Array.replicate_zero, List.push_toArray, List.append_toArray, List.nil_append, List.cons_append]
  gi_wp2
  go_ret
  exact ⟨rfl, rfl⟩
end Go.Proofs.Ytnjkdnbmpldokaa.P

/- plan.Parse: a text read, its picks handed out by an iterator. -/
namespace Go.Proofs.Ytnjkdnbmpldokaa.P
open Go.RowKit Go.Shelf Go.Proofs.YtnjkdnbmpldokaaW.PrintWords Go.Proofs.YtnjkdnbmpldokaaW.PrintLast Go.Proofs.YtnjkdnbmpldokaaW.PrintMore Go.Proofs.YtnjkdnbmpldokaaB
attribute [local go_sem] Oper.semAt_some
set_option linter.unusedVariables false
set_option linter.unusedSimpArgs false

def planW : ByteArray := ⟨#[112, 108, 97, 110]⟩
def planT : ByteArray := ⟨#[32, 112, 108, 97, 110]⟩
def isHead (line : ByteArray) (c : ByteArray × ByteArray × Bool) (d : Int) : Bool := !(decide (d < 1) || !(c.2.1.toList == [112, 108, 97, 110]) || !(line.toList == (c.1 ++ planT).toList))
def plan_Parse.f (k : Nat) (s : ByteArray) : Option (Int × List S61 × Int × Int) :=
  if (65536 : Int) < (s.size : Int) then some (0, [], 12, 65536) else
    (slices_Index_string_string.f k dias (cutB (cutB s 10).1 32).1).bind fun d =>
      if isHead (cutB s 10).1 (cutB (cutB s 10).1 32) d = true then
        if (cutB s 10).2.2 = true then
          (readGo k k ⟨s, wrap64 (((cutB s 10).1.size : Int) + 1), 0, 0⟩ ⟨#[]⟩ []).bind fun q =>
            if q.2.e = 0 then some (d, q.1, 0, 0) else some (0, [], q.2.e, q.2.ea)
        else some (0, [], 11, (s.size : Int))
      else some (0, [], 15, 0)
theorem readGo_mono2 (k : Nat) (q last acc) : LeO (readGo k k q last acc) (readGo (k + 1) (k + 1) q last acc) := readGo_mono k k q last acc
theorem plan_Parse.mono : ∀ a0 k, LeO (plan_Parse.f k a0) (plan_Parse.f (k + 1) a0) := by
  intro a0 k
  unfold plan_Parse.f
  exact LeO.ite (LeO.refl _) (LeO.bind (slices_Index_string_string.mono _ _ _) (fun _ => LeO.ite (LeO.ite (LeO.bind (readGo_mono2 _ _ _ _) (fun _ => LeO.refl _)) (LeO.refl _)) (LeO.refl _)))

/-- The result's cell, and what lies below. -/
structure Pr (w W : World) (rb : Nat) : Prop where
  hr : W.heap[rb]? = some (.cells #[.int .i64 0, .int .i64 0] 36)
  hb : Below w.heap.size w W
  hn : w.heap.size ≤ rb
section
variable {w W W' : World} {rb : Nat}
theorem Pr.drewN (h : Pr w W rb) (n : Nat) (e : W' = W.drewN n) : Pr w W' rb := by subst e; exact ⟨h.hr, pw_below_drewN h.hb n, h.hn⟩
theorem Pr.drawn (h : Pr w W rb) (hd : Drawn0 W W') : Pr w W' rb := by obtain ⟨n, e⟩ := hd.out; exact h.drewN n e
theorem Pr.below (h : Pr w W rb) (hb : Below W.heap.size W W') : Pr w W' rb := ⟨(hb.block rb (blk_lt h.hr)).trans h.hr, h.hb.trans (hb.mono (below_size h.hb)), h.hn⟩
theorem Pr.made (w : World) : Pr w (w.alloc (.cells #[.int .i64 0, .int .i64 0] 36)) w.heap.size := ⟨alloc_new _ _, (Below.refl _ w).alloc (Nat.le_refl _) _, Nat.le_refl _⟩
theorem Pr.c0 (h : Pr w W rb) : W.cell? ⟨rb, 0, none⟩ = some (.int .i64 0) := (blk_cell h.hr 0).trans rfl
theorem Pr.c1 (h : Pr w W rb) : W.cell? ⟨rb, 1, none⟩ = some (.int .i64 0) := (blk_cell h.hr 1).trans rfl
theorem Pr.f0 (h : Pr w W rb) (j : Nat) : W.frozen? ⟨rb, j, none⟩ = false := blk_frozen h.hr j
end
theorem cutB_size (s : ByteArray) (c : UInt8) : (cutB s c).1.size ≤ s.size := by
  unfold cutB
  split
  · exact Nat.le_refl _
  · simp [ByteArray.size_extract]; omega
theorem sizeF : (Try.prog.info? 36).map (·.size) = some 2 := by kernel_rfl
theorem Pr.set {w W : World} {rb : Nat} (h : Pr w W rb) (x y : Int) : ((W.setCell ⟨rb, 0, none⟩ (.int .i64 x)).setCell ⟨rb, 1, none⟩ (.int .i64 y)).heap[rb]? = some (.cells #[.int .i64 x, .int .i64 y] 36) ∧ Below w.heap.size w ((W.setCell ⟨rb, 0, none⟩ (.int .i64 x)).setCell ⟨rb, 1, none⟩ (.int .i64 y)) :=
  ⟨blk_put (blk_put h.hr 0 _ rfl) 1 _ rfl, (h.hb.setCell (p := ⟨rb, 0, none⟩) h.hn _).setCell (p := ⟨rb, 1, none⟩) h.hn _⟩
/-- What stands while the picks are handed out: the blocks of the frame, the row. -/
structure Jr (w W : World) (g rb : Nat) (rec : Loop) (acc : List S61) : Prop where
  hl : W.heap[g + 1 + 1 + 1 + 1 + 1]? = some (.loop rec)
  hd : W.heap[g + 1 + 1 + 1 + 1]? = some (.deferred (some []))
  hs : W.heap[g + 1 + 1 + 1]? = some (.cells #[.pointer (some ⟨g, 0, none⟩)] 79)
  hp : W.heap[g + 1]? = some (.cells #[.pointer (some ⟨g, 0, none⟩)] 79)
  hr : W.heap[rb]? = some (.cells #[.int .i64 0, .int .i64 0] 36)
  ha : ∃ vl, W.heap[g + 1 + 1]? = some (.cells #[vl] 22) ∧ Kd.R k61 61 W w.heap.size (fun k => g + 6 ≤ k) vl acc
  hn : rb < g
theorem Jr.size {w W : World} {g rb : Nat} {rec : Loop} {acc : List S61} (h : Jr w W g rb rec acc) : g + 6 ≤ W.heap.size := by
  have := (Array.getElem?_eq_some_iff.1 h.hl).1
  omega
theorem Jr.keep {w W W' : World} {g rb : Nat} {rec : Loop} {acc : List S61} (h : Jr w W g rb rec acc) (hk : KeepBut W W' g none) : Jr w W' g rb rec acc := by
  have sz := h.size
  have go : ∀ i, i < W.heap.size → i ≠ g → W'.heap[i]? = W.heap[i]? := fun i h1 h2 => hk.2 i h1 h2 (by simp)
  have hn := h.hn
  obtain ⟨vl, hv, hR⟩ := h.ha
  exact ⟨(go _ (by omega) (by omega)).trans h.hl, (go _ (by omega) (by omega)).trans h.hd, (go _ (by omega) (by omega)).trans h.hs, (go _ (by omega) (by omega)).trans h.hp, (go _ (by omega) (by omega)).trans h.hr,
    ⟨vl, (go _ (by omega) (by omega)).trans hv, Kd.R_keep hR hk (fun k hk => by omega)⟩, hn⟩
theorem Jr.put {w W : World} {g rb : Nat} {rec : Loop} {acc : List S61} (h : Jr w W g rb rec acc) (rec' : Loop) : Jr w (W.putObj (g + 1 + 1 + 1 + 1 + 1) (.loop rec')) g rb rec' acc := by
  have hn := h.hn
  obtain ⟨vl, hv, hR⟩ := h.ha
  exact ⟨putObj_same _ h.hl, (putObj_other _ (by omega)).trans h.hd, (putObj_other _ (by omega)).trans h.hs, (putObj_other _ (by omega)).trans h.hp, (putObj_other _ (by omega)).trans h.hr,
    ⟨vl, (putObj_other _ (by omega)).trans hv, Kd.R_step hR (fun k hk _ => putObj_other _ (by omega))⟩, hn⟩
theorem Jr.app {w W W3 : World} {g rb : Nat} {rec : Loop} {acc acc' : List S61} {vl v1 : Value} (h : Jr w W g rb rec acc) (hv : W.heap[g + 1 + 1]? = some (.cells #[vl] 22)) (ho : ∀ k, vl.ownBlock = some k → g + 6 ≤ k) (hg : W.grownBy W3 vl.ownBlock) (hR : Kd.R k61 61 W3 w.heap.size (fun k => g + 6 ≤ k) v1 acc') : Jr w (W3.setCell ⟨g + 1 + 1, 0, none⟩ v1) g rb rec acc' := by
  have sz := h.size
  have hn := h.hn
  have go : ∀ i, i < g + 6 → W3.heap[i]? = W.heap[i]? := fun i h1 => hg.block i (by omega) (fun e => by have := ho i e.symm; omega)
  have gs : ∀ i, i < g + 6 → i ≠ g + 1 + 1 → (W3.setCell ⟨g + 1 + 1, 0, none⟩ v1).heap[i]? = W.heap[i]? := fun i h1 h2 => (Below.heap_setCell W3 ⟨g + 1 + 1, 0, none⟩ v1 i h2).trans (go i h1)
  exact ⟨(gs _ (by omega) (by omega)).trans h.hl, (gs _ (by omega) (by omega)).trans h.hd, (gs _ (by omega) (by omega)).trans h.hs, (gs _ (by omega) (by omega)).trans h.hp, (gs _ (by omega) (by omega)).trans h.hr,
    ⟨v1, blk_put ((go _ (by omega)).trans hv) 0 v1 rfl, Kd.R_far hR (fun k hk => by simp; omega) v1⟩, hn⟩
theorem Jr.fin {w W : World} {g rb : Nat} {rec : Loop} {acc : List S61} {vl : Value} (h : Jr w W g rb rec acc) (hR : Kd.R k61 61 W w.heap.size (fun k => g + 6 ≤ k) vl acc) (hB : Below w.heap.size w W) (hrb : w.heap.size = rb) (x y : Int) :
    (((W.setCell ⟨rb, 0, none⟩ (.int .i64 x)).setCell ⟨rb, 1, none⟩ (.int .i64 y)).drew).heap[g + 1 + 1 + 1 + 1]? = some (.deferred (some [])) ∧
    ((((W.setCell ⟨rb, 0, none⟩ (.int .i64 x)).setCell ⟨rb, 1, none⟩ (.int .i64 y)).drew).putObj (g + 1 + 1 + 1 + 1) (.deferred none)).heap[rb]? = some (.cells #[.int .i64 x, .int .i64 y] 36) ∧
    Kd.R k61 61 ((((W.setCell ⟨rb, 0, none⟩ (.int .i64 x)).setCell ⟨rb, 1, none⟩ (.int .i64 y)).drew).putObj (g + 1 + 1 + 1 + 1) (.deferred none)) w.heap.size (fun _ => True) vl acc ∧
    Below w.heap.size w ((((W.setCell ⟨rb, 0, none⟩ (.int .i64 x)).setCell ⟨rb, 1, none⟩ (.int .i64 y)).drew).putObj (g + 1 + 1 + 1 + 1) (.deferred none)) := by
  have hn := h.hn
  have gs : ∀ i, i ≠ rb → (((W.setCell ⟨rb, 0, none⟩ (.int .i64 x)).setCell ⟨rb, 1, none⟩ (.int .i64 y)).drew).heap[i]? = W.heap[i]? := fun i h1 => (Below.heap_setCell _ ⟨rb, 1, none⟩ _ i h1).trans (Below.heap_setCell W ⟨rb, 0, none⟩ _ i h1)
  refine ⟨(gs _ (by omega)).trans h.hd, (putObj_other _ (by omega)).trans (blk_put (blk_put h.hr 0 _ rfl) 1 _ rfl), Kd.R_mono (Kd.R_step hR (fun k hk _ => (putObj_other _ (by omega)).trans (gs _ (by omega)))) (fun _ _ => trivial), below_putObj (below_drew ((hB.setCell (p := ⟨rb, 0, none⟩) (Nat.le_of_eq hrb) _).setCell (p := ⟨rb, 1, none⟩) (Nat.le_of_eq hrb) _)) (by omega) _⟩
set_option maxRecDepth 100000 in
set_option maxHeartbeats 1000000 in
theorem plan_Parse.calls (k : Nat) (a0 : ByteArray) (r1 : Int) (r2 : List S61) (r3 r4 : Int) (w : World) (h : plan_Parse.f k a0 = some (r1, r2, r3, r4)) :
    Calls Try.prog 15 #[.string a0] w fun e w' => ∃ v0_ : Value, e = .returned (.tuple #[.int .i64 r1, v0_, .agg #[.int .i64 r3, .int .i64 r4]]) ∧ Kd.R k61 61 w' w.heap.size (fun _ => True) v0_ r2 ∧ Below w.heap.size w w' := by
  have hu61 := Try.underlying61
  refine (callsIn_wide (n := 4)).1 ?_
  refine callsIn_of_wp_marks Try.func15 rfl trivial ?_ rfl
  simp only [Try.ntmps15, List.size_toArray, List.length_cons, List.length_nil, Nat.reduceAdd, Nat.reduceSub, Array.replicate_succ, Array.replicate_zero, List.push_toArray, List.append_toArray, List.nil_append, List.cons_append]
  gi_upto_region 1 with fail
  refine wpIn_scope_wide ?_
  have PR := Aside0.mk (Pr.made w)
  generalize w.alloc (.cells #[.int .i64 0, .int .i64 0] 36) = W0 at PR ⊢
  generalize hrb : w.heap.size = rb at PR ⊢
  have ac0 := PR.out.c0
  have ac1 := PR.out.c1
  have af0 := PR.out.f0 0
  have af1 := PR.out.f0 1
  unfold plan_Parse.f at h
  split at h
  case isTrue hc =>
    cases h
    have cb : decide ((65536 : Int) < (a0.size : Int)) = true := decide_eq_true hc
    have cb2 : (65536 < a0.size) = True := eq_true (by omega)
    clear hc
    gi_wp2
    rw [Exit.noGoto_ret]
    exact ⟨_, results_list (rs := [.tmp 2, .tmp 3, .cell 4 36]) rfl (by simp) (.tmp (.tmp (.cell rb 36 _ (0, 0) _ rfl (PR.out.set _ _).1 Try.underlying36 rfl sizeF .nil))), _, rfl, Kd.R_nil _ _ _ _ _, (PR.out.set _ _).2⟩
  case isFalse hc =>
    have HSZ := Aside0.mk (show a0.size ≤ 65536 by omega)
    have cb : decide ((65536 : Int) < (a0.size : Int)) = false := decide_eq_false hc
    have cb2 : (65536 < a0.size) = False := eq_false (by omega)
    clear hc
    obtain ⟨d, hix, h⟩ := Option.bind_eq_some_iff.1 h
    have HIX := Aside0.mk hix
    have H := Aside0.mk h
    clear hix h
    have hl1 : (cutB a0 10).1.size ≤ 65536 := Nat.le_trans (cutB_size _ _) HSZ.out
    have hl2 : (cutB (cutB a0 10).1 32).1.size ≤ 65536 := Nat.le_trans (cutB_size _ _) hl1
    have K1 := fun W => cut_one a0 10 W (by have := HSZ.out; omega)
    have K2 := fun W => cut_one (cutB a0 10).1 32 W (by omega)
    generalize cutB (cutB a0 10).1 32 = q2 at H HIX K2 hl2
    generalize cutB a0 10 = q1 at H HIX K1 K2 hl1
    obtain ⟨line, more, ended⟩ := q1
    obtain ⟨name, rest, spaced⟩ := q2
    dsimp only at HIX H hl1 hl2 K1 K2
    have HK1 := Aside0.mk K1
    have HK2 := Aside0.mk K2
    have HL1 := Aside0.mk hl1
    have HL2 := Aside0.mk hl2
    clear hl1 hl2 K1 K2
    gi_upto_region 4 with ((with_reducible refine And.intro ?fn ?_); (case fn => exact trivial); gi_at_call 34; go_loud (refine callsIn_wide.2 ((HK1.out _).mono ?_); rintro e w1 ⟨rfl, nD, hw⟩; have PR1 := Aside0.mk (PR.out.drewN nD hw); clear PR hw; have PR := PR1; clear PR1))
    gi_upto_region 5 with ((with_reducible refine And.intro ?fn ?_); (case fn => exact trivial); gi_at_call 34; go_loud (refine callsIn_wide.2 ((HK2.out _).mono ?_); rintro e w2 ⟨rfl, nD, hw⟩; have PR1 := Aside0.mk (PR.out.drewN nD hw); clear PR hw; have PR := PR1; clear PR1))
    gi_upto_region 6 with (first | ((with_reducible refine And.intro ?fn ?_); (case fn => exact trivial); gi_at_call 31; go_loud (refine callsIn_wide.2 ((plan_dialects.calls dias _ dias_eq).mono ?_); rintro e w3 ⟨vd, rfl, ho, hb⟩; obtain ⟨Ad, cd, rfl, hcd, hC⟩ := Kd.R_reads ho; have PR1 := Aside0.mk (PR.out.below hb); have DC := Aside0.mk hC; have DL := Aside0.mk hcd; clear PR ho hb hC hcd; have PR := PR1; clear PR1)) | ((with_reducible refine And.intro ?fn ?_); (case fn => exact trivial); gi_at_call 35; go_loud (refine callsIn_wide.2 ((slices_Index_string_string.calls k Ad cd dias _ d _ DC.out DL.out HIX.out).mono ?_); rintro e w4 ⟨rfl, hd⟩; have PR1 := Aside0.mk (PR.out.drawn hd); clear PR hd; have PR := PR1; clear PR1)))
    clear ac0 ac1 af0 af1
    have ac0 := PR.out.c0
    have ac1 := PR.out.c1
    have af0 := PR.out.f0 0
    have af1 := PR.out.f0 1
    have h := H.out
    clear H
    have h5 : (⟨#[32, 112, 108, 97, 110]⟩ : ByteArray).size = 5 := rfl
    split at h
    case isFalse hh =>
      cases h
      have hh2 : decide (d < 1) = true ∨ (decide (d < 1) = false ∧ ((rest.toList == [112, 108, 97, 110]) = false ∨ ((rest.toList == [112, 108, 97, 110]) = true ∧ (line.toList == (name ++ (⟨#[32, 112, 108, 97, 110]⟩ : ByteArray)).toList) = false))) := by
        unfold isHead planT at hh
        generalize decide (d < 1) = x at hh ⊢
        generalize (rest.toList == [112, 108, 97, 110]) = y at hh ⊢
        generalize (line.toList == (name ++ (⟨#[32, 112, 108, 97, 110]⟩ : ByteArray)).toList) = z at hh ⊢
        cases x <;> cases y <;> cases z <;> simp_all
      clear hh
      rcases hh2 with c1 | ⟨c1, c2 | ⟨c2, c3⟩⟩
      · gi_wp2
        all_goals first | (exfalso; have := HL2.out; omega) | skip
        rw [Exit.noGoto_ret]
        exact ⟨_, results_list (rs := [.tmp 2, .tmp 3, .cell 4 36]) rfl (by simp) (.tmp (.tmp (.cell rb 36 _ (0, 0) _ rfl (PR.out.set _ _).1 Try.underlying36 rfl sizeF .nil))), _, rfl, Kd.R_nil _ _ _ _ _, (PR.out.set _ _).2⟩
      · gi_wp2
        all_goals first | (exfalso; have := HL2.out; omega) | skip
        rw [Exit.noGoto_ret]
        exact ⟨_, results_list (rs := [.tmp 2, .tmp 3, .cell 4 36]) rfl (by simp) (.tmp (.tmp (.cell rb 36 _ (0, 0) _ rfl (PR.out.set _ _).1 Try.underlying36 rfl sizeF .nil))), _, rfl, Kd.R_nil _ _ _ _ _, (PR.out.set _ _).2⟩
      · gi_wp2
        all_goals first | (exfalso; have := HL2.out; omega) | skip
        rw [Exit.noGoto_ret]
        exact ⟨_, results_list (rs := [.tmp 2, .tmp 3, .cell 4 36]) rfl (by simp) (.tmp (.tmp (.cell rb 36 _ (0, 0) _ rfl (PR.out.set _ _).1 Try.underlying36 rfl sizeF .nil))), _, rfl, Kd.R_nil _ _ _ _ _, (PR.out.set _ _).2⟩
    case isTrue hh =>
      have hh2 : decide (d < 1) = false ∧ (rest.toList == [112, 108, 97, 110]) = true ∧ (line.toList == (name ++ (⟨#[32, 112, 108, 97, 110]⟩ : ByteArray)).toList) = true := by
        unfold isHead planT at hh
        generalize decide (d < 1) = x at hh ⊢
        generalize (rest.toList == [112, 108, 97, 110]) = y at hh ⊢
        generalize (line.toList == (name ++ (⟨#[32, 112, 108, 97, 110]⟩ : ByteArray)).toList) = z at hh ⊢
        cases x <;> cases y <;> cases z <;> simp_all
      clear hh
      obtain ⟨c1, c2, c3⟩ := hh2
      split at h
      case isFalse he =>
        cases h
        have he2 : ended = false := by simpa using he
        subst he2
        gi_wp2
        all_goals first | (exfalso; have := HL2.out; omega) | skip
        rw [Exit.noGoto_ret]
        exact ⟨_, results_list (rs := [.tmp 2, .tmp 3, .cell 4 36]) rfl (by simp) (.tmp (.tmp (.cell rb 36 _ (0, 0) _ rfl (PR.out.set _ _).1 Try.underlying36 rfl sizeF .nil))), _, rfl, Kd.R_nil _ _ _ _ _, (PR.out.set _ _).2⟩
      case isTrue he =>
        subst he
        obtain ⟨z, hz, h⟩ := Option.bind_eq_some_iff.1 h
        have HZ := Aside0.mk hz
        have H := Aside0.mk h
        clear hz h
        gi_upto_region 12 with (with_reducible refine wpIn_label ?_)
        all_goals first | (exfalso; have := HL2.out; omega) | skip
        have hI0 : IsS81 w (((w4.alloc (.cells #[.string a0, .int .i64 (wrap64 (↑line.size + 1)), .int .i64 0, .int .i64 0] 81)).alloc (.cells #[.pointer (some ⟨w4.heap.size, 0, none⟩)] 79)).alloc (.cells #[.slice none 0 0] 22)) w4.heap.size a0 (wrap64 (↑line.size + 1)) 0 0 :=
          ⟨alloc_old _ (alloc_old _ (alloc_new _ _)), below_size PR.out.hb⟩
        have hp0 := alloc_old (.cells #[.slice none 0 0] 22) (alloc_new (w4.alloc (.cells #[.string a0, .int .i64 (wrap64 (↑line.size + 1)), .int .i64 0, .int .i64 0] 81)) (.cells #[.pointer (some ⟨w4.heap.size, 0, none⟩)] 79))
        have hl0 := alloc_new ((w4.alloc (.cells #[.string a0, .int .i64 (wrap64 (↑line.size + 1)), .int .i64 0, .int .i64 0] 81)).alloc (.cells #[.pointer (some ⟨w4.heap.size, 0, none⟩)] 79)) (.cells #[.slice none 0 0] 22)
        have hs0 : (((w4.alloc (.cells #[.string a0, .int .i64 (wrap64 (↑line.size + 1)), .int .i64 0, .int .i64 0] 81)).alloc (.cells #[.pointer (some ⟨w4.heap.size, 0, none⟩)] 79)).alloc (.cells #[.slice none 0 0] 22)).heap.size = w4.heap.size + 1 + 1 + 1 := by simp
        have PR0 := Aside0.mk (PR.out.below (((Below.refl _ w4).alloc (Nat.le_refl _) (.cells #[.string a0, .int .i64 (wrap64 (↑line.size + 1)), .int .i64 0, .int .i64 0] 81)).alloc (by simp) (.cells #[.pointer (some ⟨w4.heap.size, 0, none⟩)] 79) |>.alloc (by simp; omega) (.cells #[.slice none 0 0] 22)))
        have hrg : rb < w4.heap.size := blk_lt PR.out.hr
        simp only [World.size_alloc] at hp0 hl0
        clear PR ac0 ac1 af0 af1
        have PR := PR0
        clear PR0
        generalize ((w4.alloc (.cells #[.string a0, .int .i64 (wrap64 (↑line.size + 1)), .int .i64 0, .int .i64 0] 81)).alloc (.cells #[.pointer (some ⟨w4.heap.size, 0, none⟩)] 79)).alloc (.cells #[.slice none 0 0] 22) = WA at hI0 hp0 hl0 hs0 PR ⊢
        generalize w4.heap.size = g at hI0 hp0 hl0 hs0 hrg ⊢
        have HI := Aside0.mk hI0
        have HP := Aside0.mk hp0
        have HL := Aside0.mk hl0
        have HS := Aside0.mk hs0
        have HRG := Aside0.mk hrg
        have cp := cell_of hp0 0
        simp only [List.getElem?_toArray, List.getElem?_cons_zero] at cp
        clear hI0 hp0 hl0 hs0 hrg
        clear DC DL HIX HK1 HK2 c1 c2 c3 h5
        gi_wp2_with ((with_reducible refine And.intro ?fn ?_); (case fn => exact trivial); gi_at_call 36; go_loud (refine (picks_calls g _ _).mono ?_; rintro e w5 ⟨rfl, hw5⟩))
        subst hw5
        refine range_direct (F := Fence.wide) (n := 4) rfl (by decide) (gf := 51) (lb := #[.pointer (some ⟨WA.heap.size, 0, none⟩)]) rfl trivial (enters_of Try.func51 (by kernel_rfl) rfl) ?_
        intro rec hfn hst hpe htm hps has hbo
        have J0 : Jr w (((WA.alloc (.cells #[.pointer (some ⟨g, 0, none⟩)] 79)).alloc (.deferred (some []))).alloc (.loop rec)) g rb rec [] := by
          have e0 := HS.out
          have a1 := alloc_new WA (.cells #[.pointer (some ⟨g, 0, none⟩)] 79)
          have a2 := alloc_new (WA.alloc (.cells #[.pointer (some ⟨g, 0, none⟩)] 79)) (.deferred (some []))
          have a3 := alloc_new ((WA.alloc (.cells #[.pointer (some ⟨g, 0, none⟩)] 79)).alloc (.deferred (some []))) (.loop rec)
          simp only [World.size_alloc, e0] at a1 a2 a3
          exact ⟨a3, alloc_old _ a2, alloc_old _ (alloc_old _ a1), alloc_old _ (alloc_old _ (alloc_old _ HP.out)), alloc_old _ (alloc_old _ (alloc_old _ PR.out.hr)), ⟨_, alloc_old _ (alloc_old _ (alloc_old _ HL.out)), Kd.R_nil _ _ _ _ _⟩, HRG.out⟩
        have hBr : Below w.heap.size w (((WA.alloc (.cells #[.pointer (some ⟨g, 0, none⟩)] 79)).alloc (.deferred (some []))).alloc (.loop rec)) := below_alloc (below_alloc (below_alloc PR.out.hb _) _) _
        have hIr := ((HI.out.alloc (.cells #[.pointer (some ⟨g, 0, none⟩)] 79)).alloc (.deferred (some []))).alloc (.loop rec)
        have hlr : (WA.alloc (.cells #[.pointer (some ⟨g, 0, none⟩)] 79)).heap.size + 1 = g + 1 + 1 + 1 + 1 + 1 := by simp only [World.size_alloc, HS.out]
        have hls : WA.heap.size = g + 1 + 1 + 1 := HS.out
        have hld : (WA.alloc (.cells #[.pointer (some ⟨g, 0, none⟩)] 79)).heap.size = g + 1 + 1 + 1 + 1 := by simp only [World.size_alloc, HS.out]
        rw [hlr, hls] at *
        refine (picks_in 2 (g + 1 + 1 + 1 + 1 + 1) (g + 1 + 1 + 1) g k w (fun acc W => Jr w W g rb rec acc) z (fun acc W h => cell_of h.hs 0) (fun acc W W' h hk => h.keep hk) ?hY ⟨a0, wrap64 (↑line.size + 1), 0, 0⟩ [] _ J0 hIr hBr HZ.out).mono ?_
        case hY =>
          intro acc x q W hlen hJ hI hB
          have hsz := hJ.size
          refine yield_round hfn hJ.hl hst htm hps has hbo rfl ?_
          unfold pickV
          have J1 := Aside0.mk (((hJ.keep (W' := W.alloc (.cells #[.string x.f0, .string x.f1] 61)) ⟨by simp, fun i h1 h2 h3 => Below.heap_alloc W _ i h1⟩).put (busy_ rec)))
          have I1 := Aside0.mk (show IsS81 w ((W.alloc (.cells #[.string x.f0, .string x.f1] 61)).putObj (g + 1 + 1 + 1 + 1 + 1) (.loop (busy_ rec))) g q.s q.at_ 0 q.ea from ⟨(putObj_other _ (by omega)).trans (hI.alloc _).1, hI.2⟩)
          have B1 := Aside0.mk (below_putObj (below_alloc hB (.cells #[.string x.f0, .string x.f1] 61)) (r := g + 1 + 1 + 1 + 1 + 1) (by have := hI.2; omega) (.loop (busy_ rec)))
          have X1 := Aside0.mk ((putObj_other (W := W.alloc (.cells #[.string x.f0, .string x.f1] 61)) (k := W.heap.size) (r := g + 1 + 1 + 1 + 1 + 1) (.loop (busy_ rec)) (by omega)).trans (alloc_new W _))
          have hl1 := alloc_old (.cells #[.string x.f0, .string x.f1] 61) hJ.hl
          have HL1 := Aside0.mk hl1
          have HGW := Aside0.mk hI.2
          have HREC := Aside0.mk (ready_eq hst hpe)
          have HLEN := Aside0.mk hlen
          clear htm hps has hbo hJ hI hB hl1 hst hpe hlen J0 hBr hIr hlr hls hld cp PR HI HP HL HS HRG HZ H
          gi_wp2
          refine ⟨HL1.out, ?_⟩
          clear HL1
          generalize ((W.alloc (.cells #[.string x.f0, .string x.f1] 61)).putObj (g + 1 + 1 + 1 + 1 + 1) (.loop (busy_ rec))) = W2 at J1 I1 B1 X1 ⊢
          generalize W.heap.size = n0 at X1 hsz ⊢
          obtain ⟨vl, hv, hR⟩ := J1.out.ha
          have HV := Aside0.mk hv
          have HR := Aside0.mk hR
          have cl := cell_of hv 0
          have cx0 := cell_of X1.out 0
          have cx1 := cell_of X1.out 1
          simp only [List.getElem?_toArray, List.getElem?_cons_zero, List.getElem?_cons_succ] at cl cx0 cx1
          clear hv hR
          gi_upto_region 15 with (gi_at_builtin; go_loud (refine R_append_in k61 (w0 := w) w.heap.size rfl (.tmp 63) (.tmp 65) 22 61 (.agg #[.string ⟨#[]⟩, .string ⟨#[]⟩]) 32 rfl Try.underlying22 info61 rfl (by decide) (by omega) vl acc x [.string x.f0, .string x.f1] (fun k => g + 6 ≤ k) (fun _ => False) rfl ?aX ?aP (fun _ hk => hk.elim) (fun k hk => Nat.le_trans J1.out.size hk) HR.out B1.out (below_size B1.out) ?aL ?_; (case aX => first | (go_simp; done) | (go_simp; rfl)); (case aP => exact k61_mkM _ _ _ _); (case aL => have := HLEN.out; omega); intro v1 w3 ho hb hg; obtain ⟨A3, c3, e3⟩ := Kd.R_slice ho; obtain ⟨n3, hn3⟩ : ∃ n3, n3 = (acc ++ [x]).length := ⟨_, rfl⟩; rw [← hn3] at e3; subst e3; have J3 := Aside0.mk (J1.out.app HV.out HR.out.1 hg ho); have I3 := Aside0.mk (show IsS81 w (w3.setCell ⟨g + 1 + 1, 0, none⟩ (.slice A3 n3 c3)) g q.s q.at_ 0 q.ea from ⟨(Below.heap_setCell w3 ⟨g + 1 + 1, 0, none⟩ (.slice A3 n3 c3) g (by simp; omega)).trans (I1.out.grown hg (fun e => by have := HR.out.1 g e.symm; omega)).1, HGW.out⟩); have B3 := Aside0.mk (hb.setCell (p := ⟨g + 1 + 1, 0, none⟩) (Nat.le_trans HGW.out (by simp; omega)) (.slice A3 n3 c3)); have hc3 : w3.cell? ⟨g + 1 + 1, 0, none⟩ = some vl := (cell_of ((hg.block (g + 1 + 1) (by have := J1.out.size; omega) (fun e => by have := HR.out.1 _ e.symm; omega)).trans HV.out) 0); have hf3 : w3.frozen? ⟨g + 1 + 1, 0, none⟩ = false := free_of ((hg.block (g + 1 + 1) (by have := J1.out.size; omega) (fun e => by have := HR.out.1 _ e.symm; omega)).trans HV.out) 0; clear ho hb hg hn3))
          generalize w3.setCell ⟨g + 1 + 1, 0, none⟩ (.slice A3 n3 c3) = W4 at J3 I3 B3 ⊢
          have cg := cell_of J3.out.hp 0
          have ce : W4.cell? ⟨g, 2, none⟩ = some (.int .i64 0) := (blk_cell I3.out.1 2).trans rfl
          simp only [List.getElem?_toArray, List.getElem?_cons_zero] at cg
          clear cl cx0 cx1 hc3 hf3
          gi_wp2
          refine ⟨J3.out.hl, rfl, ?_⟩
          rw [HREC.out]
          refine ⟨?_, ⟨(putObj_other _ (by omega)).trans I3.out.1, HGW.out⟩, below_putObj B3.out (by have := HGW.out; omega) _⟩
          have h9 := J3.out.put rec
          exact h9
        rintro e W2 ⟨⟨v, rfl⟩, hJ, hI, hB⟩
        refine ⟨v, rfl, rec, hJ.hl, by rw [hst]; decide, ?_⟩
        rw [hpe]
        have J1 := Aside0.mk (hJ.put (exh_ rec))
        have I1 := Aside0.mk (show IsS81 w (W2.putObj (g + 1 + 1 + 1 + 1 + 1) (.loop (exh_ rec))) g z.2.s z.2.at_ z.2.e z.2.ea from ⟨(putObj_other _ (by omega)).trans hI.1, hI.2⟩)
        have B1 := Aside0.mk (below_putObj hB (r := g + 1 + 1 + 1 + 1 + 1) (by have := hI.2; omega) (.loop (exh_ rec)))
        have HDL := Aside0.mk (show WA.heap.size + 1 = g + 1 + 1 + 1 + 1 from by rw [HS.out])
        have HH := H.out
        clear htm hps has hbo hJ hI hB hst hpe J0 hBr hIr hlr hls hld cp PR HI HP HL HS HRG HZ H
        generalize W2.putObj (g + 1 + 1 + 1 + 1 + 1) (.loop (exh_ rec)) = W3 at J1 I1 B1 ⊢
        have cg := cell_of J1.out.hp 0
        have ce2 : W3.cell? ⟨g, 2, none⟩ = some (.int .i64 z.2.e) := (blk_cell I1.out.1 2).trans rfl
        have ce3 : W3.cell? ⟨g, 3, none⟩ = some (.int .i64 z.2.ea) := (blk_cell I1.out.1 3).trans rfl
        simp only [List.getElem?_toArray, List.getElem?_cons_zero] at cg
        have cr0 : W3.cell? ⟨rb, 0, none⟩ = some (.int .i64 0) := (blk_cell J1.out.hr 0).trans rfl
        have cr1 : W3.cell? ⟨rb, 1, none⟩ = some (.int .i64 0) := (blk_cell J1.out.hr 1).trans rfl
        have cf0 := blk_frozen J1.out.hr 0
        have cf1 := blk_frozen J1.out.hr 1
        obtain ⟨vl, hv, hR⟩ := J1.out.ha
        obtain ⟨Av, cv, ev⟩ := Kd.R_slice hR
        obtain ⟨nv, hnv⟩ : ∃ nv, nv = z.1.length := ⟨_, rfl⟩
        rw [← hnv] at ev
        subst ev
        have HR := Aside0.mk hR
        have cl := cell_of hv 0
        simp only [List.getElem?_toArray, List.getElem?_cons_zero] at cl
        clear hv hR hnv
        split at HH
        case isTrue hz =>
          cases HH
          have c0 : decide (z.2.e = 0) = true := decide_eq_true hz
          rw [hz] at ce2
          gi_wp2
          gi_region
          gi_wp2
          rw [Exit.noGoto_ret, HDL.out]
          obtain ⟨f1, f2, f3, f4⟩ := J1.out.fin HR.out B1.out hrb 0 0
          exact ⟨by simp, .inl ⟨_, _, rfl, run_takeDeferred f1, _, results_list (rs := [.tmp 2, .tmp 3, .cell 4 36]) rfl (by simp) (.tmp (.tmp (.cell rb 36 _ (0, 0) _ rfl f2 Try.underlying36 rfl sizeF .nil))), _, rfl, f3, f4⟩⟩
        case isFalse hz =>
          cases HH
          have c0 : decide (z.2.e = 0) = false := decide_eq_false hz
          gi_wp2
          gi_region
          gi_wp2
          rw [Exit.noGoto_ret, HDL.out]
          obtain ⟨f1, f2, f3, f4⟩ := J1.out.fin HR.out B1.out hrb z.2.e z.2.ea
          exact ⟨by simp, .inl ⟨_, _, rfl, run_takeDeferred f1, _, results_list (rs := [.tmp 2, .tmp 3, .cell 4 36]) rfl (by simp) (.tmp (.tmp (.cell rb 36 _ (0, 0) _ rfl f2 Try.underlying36 rfl sizeF .nil))), _, rfl, Kd.R_nil _ _ _ _ _, f4⟩⟩
end Go.Proofs.Ytnjkdnbmpldokaa.P
