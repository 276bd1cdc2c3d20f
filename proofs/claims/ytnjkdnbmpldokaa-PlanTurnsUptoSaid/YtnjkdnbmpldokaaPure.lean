import Derived.Test.YtnjkdnbmpldokaaTools
import Derived.Test.YtnjkdnbmpldokaaPz
import Derived.Test.YtnjkdnbmpldokaaHSort
import Derived.Lib.SlicesCompact
import Derived.Test.YtnjkdnbmpldokaaHMap
import Derived.Lib.Bytealg
import Derived.Test.YtnjkdnbmpldokaaP12
import Derived.Test.YtnjkdnbmpldokaaP16
import Derived.Test.YtnjkdnbmpldokaaP17
import Derived.Test.YtnjkdnbmpldokaaP23
import Derived.Test.YtnjkdnbmpldokaaP24
import Derived.Test.YtnjkdnbmpldokaaP28
import Derived.Test.YtnjkdnbmpldokaaP45
import Derived.Test.YtnjkdnbmpldokaaP48
import Derived.Test.YtnjkdnbmpldokaaHText
import Derived.KernelRfl
import Derived.Test.YtnjkdnbmpldokaaP13
/- The types' readings. -/
namespace Go.Proofs.Ytnjkdnbmpldokaa.P
open Go.RowKit Go.Proofs.YtnjkdnbmpldokaaW.PrintWords Go.Proofs.YtnjkdnbmpldokaaB
theorem cells_str : Try.prog.cellsOf 9 = 1 := by kernel_rfl
theorem cells_pick : Try.prog.cellsOf 61 = 2 := by kernel_rfl
theorem cells_change : Try.prog.cellsOf 42 = 3 := by kernel_rfl
def wt61 (x : S61) : Nat := (x.f0.size + 1) + (x.f1.size + 1)
def wt42 (x : S42) : Nat := (x.f0.size + 1) + ((x.f1.size + 1) + (x.f2.size + 1))
set_option maxRecDepth 100000 in
theorem br61 : Br Try.prog k61 61 wt61 :=
  br_struct (fun x : S61 => (x.f0, x.f1)) (fun p => ⟨p.1, p.2⟩) (fun _ => rfl) Try.underlying61 cells_pick
    (brFs_cons (br_string Try.underlying9) rfl cells_str (brFs_last (br_string Try.underlying9) rfl cells_str))
set_option maxRecDepth 100000 in
theorem br42 : Br Try.prog k42 42 wt42 :=
  br_struct (fun x : S42 => (x.f0, x.f1, x.f2)) (fun p => ⟨p.1, p.2.1, p.2.2⟩) (fun _ => rfl) Try.underlying42 cells_change
    (brFs_cons (br_string Try.underlying9) rfl cells_str (brFs_cons (br_string Try.underlying9) rfl cells_str (brFs_last (br_string Try.underlying9) rfl cells_str)))
end Go.Proofs.Ytnjkdnbmpldokaa.P

/- Names sorted and compacted: members and order; and rounds. -/
namespace Go.Proofs.Ytnjkdnbmpldokaa.P
open Go.RowKit Go.Proofs.YtnjkdnbmpldokaaW.PrintWords
/-- The order of texts. -/
def BLt (x y : ByteArray) : Prop := x.data.toList < y.data.toList
theorem key_inj {x y : ByteArray} (h : x.data.toList = y.data.toList) : x = y := by
  cases x; cases y; simp at h; simp [h]
theorem BLt.irrefl (x : ByteArray) : ¬ BLt x x := List.lt_irrefl _
theorem BLt.trans {x y z : ByteArray} (h : BLt x y) (k : BLt y z) : BLt x z := List.lt_trans h k
theorem BLt.asymm {x y : ByteArray} (h : BLt x y) : ¬ BLt y x := fun k => BLt.irrefl _ (h.trans k)
theorem BLt.total (x y : ByteArray) : BLt x y ∨ x = y ∨ BLt y x := by
  by_cases h : BLt x y
  · exact .inl h
  · by_cases k : BLt y x
    · exact .inr (.inr k)
    · exact .inr (.inl (key_inj (List.le_antisymm (List.not_lt.1 k) (List.not_lt.1 h))))
theorem sortS_perm (l : List ByteArray) : (sortS l).Perm l := by
  have h := (List.mergeSort_perm (l.map (·.data.toList)) (fun x y => decide (x ≤ y))).map txt
  rw [map_txt] at h
  exact h
theorem sortS_keys (l : List ByteArray) : (sortS l).map (·.data.toList) = (l.map (·.data.toList)).mergeSort fun x y => decide (x ≤ y) := by
  unfold sortS
  rw [List.map_map]
  conv => rhs; rw [← List.map_id ((l.map (·.data.toList)).mergeSort fun x y => decide (x ≤ y))]
  apply List.map_congr_left
  intro x _
  simp [txt]
theorem sortS_sorted (l : List ByteArray) : ((sortS l).map (·.data.toList)).Pairwise (· ≤ ·) := by
  rw [sortS_keys]
  have h := List.pairwise_mergeSort (le := fun x y : List UInt8 => decide (x ≤ y)) (fun a b c h k => by simp only [decide_eq_true_eq] at *; exact List.le_trans h k) (fun a b => by simp only [Bool.or_eq_true, decide_eq_true_eq]; exact List.le_total a b) (l.map (·.data.toList))
  exact h.imp (fun h => by simpa using h)
section
variable {ks : List (List UInt8)}
theorem compact_mem (x : List UInt8) : x ∈ Lib.compact ks ↔ x ∈ ks := by
  have key : ∀ m, m ≤ ks.length → ∀ x, x ∈ Lib.compactUpTo ks.toArray m ↔ x ∈ ks.take m := by
    intro m
    induction m with
    | zero => intro _ x; simp [Lib.compactUpTo]
    | succ m ih =>
      intro hm x
      rw [Lib.compactUpTo_succ, List.mem_append, ih (by omega), List.take_add_one, List.mem_append, List.getElem?_eq_getElem (by omega)]
      have e : (ks.toArray[m]! : List UInt8) = ks[m] := by simp [getElem!_pos, show m < ks.length by omega]
      rw [e]
      by_cases hk : Lib.keeps ks.toArray m = true
      · rw [if_pos hk]; simp
      · rw [if_neg hk]
        have h2 : m ≠ 0 ∧ ks.toArray[m]! = ks.toArray[m - 1]! := by
          simpa [Lib.keeps] using hk
        obtain ⟨h0, h1⟩ := h2
        rw [e] at h1
        have e2 : (ks.toArray[m - 1]! : List UInt8) = ks[m - 1] := by simp [getElem!_pos, show m - 1 < ks.length by omega]
        rw [e2] at h1
        constructor
        · rintro (h | h)
          · exact .inl h
          · cases h
        · rintro (h | h)
          · exact .inl h
          · left
            have : x = ks[m] := by simpa using h
            subst this
            rw [h1]
            exact List.mem_take_iff_getElem.2 ⟨m - 1, by omega, by simp⟩
  have := key ks.length (Nat.le_refl _) x
  rw [List.take_length] at this
  exact this
theorem compact_sorted (h : ks.Pairwise (· ≤ ·)) : (Lib.compact ks).Pairwise (· < ·) := by
  have hle : ∀ i j (hi : i < ks.length) (hj : j < ks.length), i ≤ j → ks[i] ≤ ks[j] := by
    intro i j hi hj hij
    rcases Nat.lt_or_ge i j with h1 | h1
    · exact List.pairwise_iff_getElem.1 h i j hi hj h1
    · have : i = j := by omega
      subst this
      exact List.le_refl _
  have key : ∀ m, m ≤ ks.length → (Lib.compactUpTo ks.toArray m).Pairwise (· < ·) := by
    intro m
    induction m with
    | zero => intro _; simp [Lib.compactUpTo]
    | succ m ih =>
      intro hm
      rw [Lib.compactUpTo_succ]
      by_cases hk : Lib.keeps ks.toArray m = true
      · rw [if_pos hk, List.pairwise_append]
        refine ⟨ih (by omega), List.pairwise_singleton _ _, ?_⟩
        intro a ha b hb
        have e : (ks.toArray[m]! : List UInt8) = ks[m] := by simp [getElem!_pos, show m < ks.length by omega]
        have hb' : b = ks[m] := by rw [← e]; simpa using hb
        subst hb'
        have hk2 : m = 0 ∨ ks.toArray[m]! ≠ ks.toArray[m - 1]! := by simpa [Lib.keeps] using hk
        unfold Lib.compactUpTo at ha
        obtain ⟨i, hi, rfl⟩ := List.mem_map.1 ha
        have hi' : i < m := List.mem_range.1 (List.mem_filter.1 hi).1
        have e3 : (ks.toArray[i]! : List UInt8) = ks[i] := by simp [getElem!_pos, show i < ks.length by omega]
        have e2 : (ks.toArray[m - 1]! : List UInt8) = ks[m - 1] := by simp [getElem!_pos, show m - 1 < ks.length by omega]
        rw [e3]
        rw [e, e2] at hk2
        have h1 := hle i (m - 1) (by omega) (by omega) (by omega)
        have h2 := hle (m - 1) m (by omega) (by omega) (by omega)
        have hne : ks[m] ≠ ks[m - 1] := by
          rcases hk2 with h0 | h0
          · omega
          · exact h0
        have h3 : ks[m - 1] < ks[m] := by
          rcases List.le_iff_lt_or_eq.1 h2 with h | h
          · exact h
          · exact absurd h.symm hne
        exact List.lt_of_le_of_lt h1 h3
      · rw [if_neg hk, List.append_nil]
        exact ih (by omega)
  exact key ks.length (Nat.le_refl _)
end
/-- The unlike ones, rising. -/
def uniq (l : List ByteArray) : List ByteArray := compactS (sortS l)
theorem uniq_mem (l : List ByteArray) (x : ByteArray) : x ∈ uniq l ↔ x ∈ l := by
  unfold uniq compactS
  rw [← (sortS_perm l).mem_iff]
  constructor
  · intro h
    obtain ⟨k, hk, rfl⟩ := List.mem_map.1 h
    rw [compact_mem] at hk
    obtain ⟨y, hy, rfl⟩ := List.mem_map.1 hk
    rw [txt_toList]
    exact hy
  · intro h
    refine List.mem_map.2 ⟨x.data.toList, ?_, txt_toList x⟩
    rw [compact_mem]
    exact List.mem_map.2 ⟨x, h, rfl⟩
theorem uniq_sorted (l : List ByteArray) : (uniq l).Pairwise BLt := by
  unfold uniq compactS
  rw [List.pairwise_map]
  refine (compact_sorted (sortS_sorted l)).imp ?_
  intro a b h
  simpa [BLt, txt] using h
/-- Two rising lists of the same members are one. -/
theorem rising_ext : ∀ {l m : List ByteArray}, l.Pairwise BLt → m.Pairwise BLt → (∀ x, x ∈ l ↔ x ∈ m) → l = m
  | [], [], _, _, _ => rfl
  | [], b :: m, _, _, h => by have := (h b).2 List.mem_cons_self; cases this
  | a :: l, [], _, _, h => by have := (h a).1 List.mem_cons_self; cases this
  | a :: l, b :: m, hl, hm, h => by
    obtain ⟨hl1, hl2⟩ := List.pairwise_cons.1 hl
    obtain ⟨hm1, hm2⟩ := List.pairwise_cons.1 hm
    have hab : a = b := by
      rcases List.mem_cons.1 ((h a).1 List.mem_cons_self) with e | e
      · exact e
      · rcases List.mem_cons.1 ((h b).2 List.mem_cons_self) with e' | e'
        · exact e'.symm
        · exact absurd (hl1 b e') (BLt.asymm (hm1 a e))
    subst hab
    rw [rising_ext hl2 hm2 (fun x => ?_)]
    constructor
    · intro hx
      rcases List.mem_cons.1 ((h x).1 (List.mem_cons_of_mem _ hx)) with e | e
      · subst e; exact absurd (hl1 x hx) (BLt.irrefl _)
      · exact e
    · intro hx
      rcases List.mem_cons.1 ((h x).2 (List.mem_cons_of_mem _ hx)) with e | e
      · subst e; exact absurd (hm1 x hx) (BLt.irrefl _)
      · exact e
theorem uniq_ext {l m : List ByteArray} (h : ∀ x, x ∈ l ↔ x ∈ m) : uniq l = uniq m :=
  rising_ext (uniq_sorted l) (uniq_sorted m) (fun x => by rw [uniq_mem, uniq_mem]; exact h x)
theorem uniq_rising {l : List ByteArray} (h : l.Pairwise BLt) : uniq l = l := rising_ext (uniq_sorted l) h (uniq_mem l)
theorem uniq_length (l : List ByteArray) : (uniq l).length ≤ l.length := by
  unfold uniq
  rw [compactS_length]
  refine Nat.le_trans (Lib.compact_length_le _) ?_
  simp [sortS_length]
theorem ev_some {α : Type} (r : α) : Ev (fun _ => some r) r := Ev.now r
end Go.Proofs.Ytnjkdnbmpldokaa.P

/- What the printed functions come to: words, fitness, names, rows. -/
namespace Go.Proofs.Ytnjkdnbmpldokaa.P
open Go.RowKit Go.Proofs.YtnjkdnbmpldokaaW.PrintWords
set_option linter.unusedSimpArgs false
theorem wrap_nat {n : Nat} (h : n < 9223372036854775808) : wrap64 (n : Int) = (n : Int) := by unfold wrap64; omega
theorem wrap_succ {n : Nat} (h : n < 9223372036854775807) : wrap64 ((n : Int) + 1) = ((n + 1 : Nat) : Int) := by unfold wrap64; omega
theorem wrap_pred {n : Nat} (h0 : 0 < n) (h : n < 9223372036854775807) : wrap64 ((n : Int) - 1) = ((n - 1 : Nat) : Int) := by unfold wrap64; omega
def okI (a : Int) : Bool := decide (33 ≤ a ∧ a ≤ 126)
theorem wordByte_eq (a : Int) : plan_wordByte.f a = some (okI a) := by
  unfold plan_wordByte.f okI
  by_cases h : a ≥ 33
  · rw [if_pos h]; simp [h]
  · rw [if_neg h]; simp; omega
theorem byteOf_eq (a : Int) : dovetailref32_byteOf.f a = some (okI a) := by
  unfold dovetailref32_byteOf.f okI
  by_cases h : a ≥ 33
  · rw [if_pos h]; simp [h]
  · rw [if_neg h]; simp; omega
def tailW (s : ByteArray) : Bool := if s.toList = [] then false else decide ((s.size : Int) ≤ 128)
def wordB (s : ByteArray) : Bool := (bytesOf s).all okI && tailW s
theorem bt_drop (s : ByteArray) (i : Nat) (h : i < s.size) : (bytesOf s).drop i = bt s i :: (bytesOf s).drop (i + 1) := by
  rw [List.drop_eq_getElem_cons (by rw [bytesOf_length]; exact h)]
  congr 1
  have := rd_bytesOf s (i : Int)
  rw [← this]
  simp [rd, List.getD_eq_getElem?_getD, List.getElem?_eq_getElem (show i < (bytesOf s).length by rw [bytesOf_length]; exact h)]
theorem word_l0 (s : ByteArray) (hs : s.size < 4611686018427387904) : ∀ d i, i + d = s.size → Ev (fun k => plan_word.l0 k s (s.size : Int) (i : Int)) (((bytesOf s).drop i).all okI && tailW s)
  | 0, i, h => by
    have h1 : (bytesOf s).drop i = [] := List.drop_eq_nil_of_le (by rw [bytesOf_length]; omega)
    rw [h1, List.all_nil, Bool.true_and]
    refine Ev.step (f := fun _ => some (tailW s)) (fun k => ?_) (Ev.now _)
    rw [plan_word.l0, if_neg (by omega)]
    unfold tailW
    split <;> rfl
  | d + 1, i, h => by
    rw [bt_drop s i (by omega), List.all_cons]
    by_cases hb : okI (bt s i) = true
    · rw [hb, Bool.true_and]
      refine Ev.step (fun k => ?_) (word_l0 s hs d (i + 1) (by omega))
      rw [plan_word.l0, if_pos (by omega), if_pos (by omega), if_pos (by omega), wordByte_eq, Option.bind_some, if_pos hb, wrap_succ (by omega)]
    · rw [show okI (bt s i) = false by simpa using hb, Bool.false_and, Bool.false_and]
      refine Ev.step (f := fun _ => some false) (fun k => ?_) (Ev.now _)
      rw [plan_word.l0, if_pos (by omega), if_pos (by omega), if_pos (by omega), wordByte_eq, Option.bind_some, if_neg hb]
theorem ev_word (s : ByteArray) (hs : s.size < 4611686018427387904) : Ev (fun k => plan_word.f k s) (wordB s) := by
  have := word_l0 s hs s.size 0 (by omega)
  rw [List.drop_zero] at this
  exact this
theorem rword_l0 (s : ByteArray) (hs : s.size < 4611686018427387904) : ∀ d i, i + d = s.size → Ev (fun k => dovetailref32_Word.l0 k s (i : Int)) (((bytesOf s).drop i).all okI && tailW s)
  | 0, i, h => by
    have h1 : (bytesOf s).drop i = [] := List.drop_eq_nil_of_le (by rw [bytesOf_length]; omega)
    rw [h1, List.all_nil, Bool.true_and]
    refine Ev.step (f := fun _ => some (tailW s)) (fun k => ?_) (Ev.now _)
    rw [dovetailref32_Word.l0, if_neg (by omega)]
    unfold tailW
    split <;> rfl
  | d + 1, i, h => by
    rw [bt_drop s i (by omega), List.all_cons]
    by_cases hb : okI (bt s i) = true
    · rw [hb, Bool.true_and]
      refine Ev.step (fun k => ?_) (rword_l0 s hs d (i + 1) (by omega))
      rw [dovetailref32_Word.l0, if_pos (by omega), if_pos (by omega), byteOf_eq, Option.bind_some, if_pos hb, wrap_succ (by omega)]
    · rw [show okI (bt s i) = false by simpa using hb, Bool.false_and, Bool.false_and]
      refine Ev.step (f := fun _ => some false) (fun k => ?_) (Ev.now _)
      rw [dovetailref32_Word.l0, if_pos (by omega), if_pos (by omega), byteOf_eq, Option.bind_some, if_neg hb]
theorem ev_rword (s : ByteArray) (hs : s.size < 4611686018427387904) : Ev (fun k => dovetailref32_Word.f k s) (wordB s) := by
  have := rword_l0 s hs s.size 0 (by omega)
  rw [List.drop_zero] at this
  exact this
/-- A plan: words, the names rising. -/
def lessB (x y : ByteArray) : Bool := Op.bytesLess x.toList y.toList
def fitGo : Option ByteArray → List S61 → Bool
  | _, [] => true
  | p, x :: l => wordB x.f0 && (wordB x.f1 && ((match p with | none => true | some q => lessB q x.f0) && fitGo (some x.f0) l))
def prevOf (l : List S61) (i : Nat) : Option ByteArray := if i = 0 then none else some (rd_T61 l ((i - 1 : Nat) : Int)).f0
theorem rd_drop (l : List S61) (i : Nat) (h : i < l.length) : l.drop i = rd_T61 l (i : Int) :: l.drop (i + 1) := by
  rw [List.drop_eq_getElem_cons h]
  simp [rd_T61, List.getD_eq_getElem?_getD, List.getElem?_eq_getElem h]
theorem rd_mem (l : List S61) (i : Nat) (h : i < l.length) : rd_T61 l (i : Int) ∈ l := by
  simp [rd_T61, List.getD_eq_getElem?_getD, List.getElem?_eq_getElem h]
theorem fit_l0 (l : List S61) (hl : l.length < 4611686018427387904) (hs : ∀ x ∈ l, small x = true) : ∀ d i, i + d = l.length → Ev (fun k => plan_Fit.l0 k l l (l.length : Int) (i : Int)) (fitGo (prevOf l i) (l.drop i))
  | 0, i, h => by
    have h1 : l.drop i = [] := List.drop_eq_nil_of_le (by omega)
    rw [h1]
    refine Ev.step (f := fun _ => some true) (fun k => ?_) (Ev.now _)
    rw [plan_Fit.l0, if_neg (by omega)]
  | d + 1, i, h => by
    have hm := hs _ (rd_mem l i (by omega))
    simp only [small, Bool.and_eq_true, decide_eq_true_eq] at hm
    rw [rd_drop l i (by omega)]
    refine Ev.step (f := fun k => (plan_word.f k ((rd_T61 l (i : Int)).f0)).bind fun t => if t = true then (plan_word.f k ((rd_T61 l (i : Int)).f1)).bind fun u => if u = true then (if (i : Int) > 0 then (if lessB ((rd_T61 l ((i - 1 : Nat) : Int)).f0) ((rd_T61 l (i : Int)).f0) = true then plan_Fit.l0 k l l (l.length : Int) ((i + 1 : Nat) : Int) else some false) else plan_Fit.l0 k l l (l.length : Int) ((i + 1 : Nat) : Int)) else some false else some false) (fun k => ?_) ?_
    · rw [plan_Fit.l0, if_pos (by omega), if_pos (by omega), if_pos (by omega), wrap_succ (by omega)]
      by_cases h0 : (i : Int) > 0
      · simp only [if_pos h0, wrap_pred (show 0 < i by omega) (show i < 9223372036854775807 by omega), lessB]
        rw [if_pos (by omega : (0 : Int) ≤ ((i - 1 : Nat) : Int)), if_pos (by omega : ((i - 1 : Nat) : Int) < (l.length : Int))]
        first | done | rfl
      · simp only [if_neg h0]
    · have ih := fit_l0 l hl hs d (i + 1) (by omega)
      have hp : prevOf l (i + 1) = some (rd_T61 l (i : Int)).f0 := by simp [prevOf]
      rw [hp] at ih
      simp only [fitGo]
      refine Ev.bind (ev_word _ (by omega)) ?_
      cases wordB (rd_T61 l (i : Int)).f0 with
      | false => exact Ev.now _
      | true =>
        simp only [if_true, Bool.true_and]
        refine Ev.bind (ev_word _ (by omega)) ?_
        cases wordB (rd_T61 l (i : Int)).f1 with
        | false => exact Ev.now _
        | true =>
          simp only [if_true, Bool.true_and]
          by_cases h0 : (i : Int) > 0
          · simp only [if_pos h0]
            have : prevOf l i = some (rd_T61 l ((i - 1 : Nat) : Int)).f0 := by simp [prevOf]; omega
            rw [this]
            by_cases hq : lessB ((rd_T61 l ((i - 1 : Nat) : Int)).f0) ((rd_T61 l (i : Int)).f0) = true
            · simp only [if_pos hq, hq, Bool.true_and]
              exact ih
            · simp only [if_neg hq, show lessB ((rd_T61 l ((i - 1 : Nat) : Int)).f0) ((rd_T61 l (i : Int)).f0) = false by simpa using hq, Bool.false_and]
              exact Ev.now _
          · simp only [if_neg h0]
            have : prevOf l i = none := by simp [prevOf]; omega
            rw [this]
            simp only [Bool.true_and]
            exact ih
theorem ev_fit (l : List S61) (hl : l.length < 4611686018427387904) (hs : ∀ x ∈ l, small x = true) : Ev (fun k => plan_Fit.f k l) (fitGo none l) := fit_l0 l hl hs l.length 0 (by omega)
theorem rfit_l0 (l : List S61) (hl : l.length < 4611686018427387904) (hs : ∀ x ∈ l, small x = true) : ∀ d i, i + d = l.length → Ev (fun k => dovetailref32_Fit.l0 k l (i : Int)) (fitGo (prevOf l i) (l.drop i))
  | 0, i, h => by
    have h1 : l.drop i = [] := List.drop_eq_nil_of_le (by omega)
    rw [h1]
    refine Ev.step (f := fun _ => some true) (fun k => ?_) (Ev.now _)
    rw [dovetailref32_Fit.l0, if_neg (by omega)]
  | d + 1, i, h => by
    have hm := hs _ (rd_mem l i (by omega))
    simp only [small, Bool.and_eq_true, decide_eq_true_eq] at hm
    rw [rd_drop l i (by omega)]
    refine Ev.step (f := fun k => (dovetailref32_Word.f k ((rd_T61 l (i : Int)).f0)).bind fun t => if t = true then (dovetailref32_Word.f k ((rd_T61 l (i : Int)).f1)).bind fun u => if u = true then (if (i : Int) > 0 then (if lessB ((rd_T61 l ((i - 1 : Nat) : Int)).f0) ((rd_T61 l (i : Int)).f0) = true then dovetailref32_Fit.l0 k l ((i + 1 : Nat) : Int) else some false) else dovetailref32_Fit.l0 k l ((i + 1 : Nat) : Int)) else some false else some false) (fun k => ?_) ?_
    · rw [dovetailref32_Fit.l0, if_pos (by omega), if_pos (by omega), wrap_succ (by omega)]
      by_cases h0 : (i : Int) > 0
      · simp only [if_pos h0, wrap_pred (show 0 < i by omega) (show i < 9223372036854775807 by omega), lessB]
        rw [if_pos (by omega : (0 : Int) ≤ ((i - 1 : Nat) : Int)), if_pos (by omega : ((i - 1 : Nat) : Int) < (l.length : Int))]
        first | done | rfl
      · simp only [if_neg h0]
    · have ih := rfit_l0 l hl hs d (i + 1) (by omega)
      have hp : prevOf l (i + 1) = some (rd_T61 l (i : Int)).f0 := by simp [prevOf]
      rw [hp] at ih
      simp only [fitGo]
      refine Ev.bind (ev_rword _ (by omega)) ?_
      cases wordB (rd_T61 l (i : Int)).f0 with
      | false => exact Ev.now _
      | true =>
        simp only [if_true, Bool.true_and]
        refine Ev.bind (ev_rword _ (by omega)) ?_
        cases wordB (rd_T61 l (i : Int)).f1 with
        | false => exact Ev.now _
        | true =>
          simp only [if_true, Bool.true_and]
          by_cases h0 : (i : Int) > 0
          · simp only [if_pos h0]
            have : prevOf l i = some (rd_T61 l ((i - 1 : Nat) : Int)).f0 := by simp [prevOf]; omega
            rw [this]
            by_cases hq : lessB ((rd_T61 l ((i - 1 : Nat) : Int)).f0) ((rd_T61 l (i : Int)).f0) = true
            · simp only [if_pos hq, hq, Bool.true_and]
              exact ih
            · simp only [if_neg hq, show lessB ((rd_T61 l ((i - 1 : Nat) : Int)).f0) ((rd_T61 l (i : Int)).f0) = false by simpa using hq, Bool.false_and]
              exact Ev.now _
          · simp only [if_neg h0]
            have : prevOf l i = none := by simp [prevOf]; omega
            rw [this]
            simp only [Bool.true_and]
            exact ih
theorem ev_rfit (l : List S61) (hl : l.length < 4611686018427387904) (hs : ∀ x ∈ l, small x = true) : Ev (fun k => dovetailref32_Fit.f k l) (fitGo none l) := rfit_l0 l hl hs l.length 0 (by omega)
/-- Names of rows. -/
def namesOf (l : List S61) : List ByteArray := l.map (·.f0)
theorem names_l1 (rows : List (List S61)) (n : Int) (j : Int) (l : List S61) (out : List ByteArray) (r : List ByteArray) (hl : out.length + l.length < 4398046511104) : ∀ d i, i + d = l.length → out.length = out.length →
    ∀ acc : List ByteArray, acc = out ++ (namesOf l).take i → Ev (fun k => plan_names.l0 k (out ++ namesOf l) rows n (wrap64 (j + 1))) r → Ev (fun k => plan_names.l1 k acc rows n j l (l.length : Int) (i : Int)) r
  | 0, i, h, _, acc, ha, hk => by
    have h1 : acc = out ++ namesOf l := by rw [ha, List.take_of_length_le (by simp [namesOf]; omega)]
    rw [h1]
    refine Ev.step (fun k => ?_) hk
    rw [plan_names.l1, if_neg (by omega)]
  | d + 1, i, h, hh, acc, ha, hk => by
    have hlen : acc.length ≤ out.length + l.length := by rw [ha]; simp [namesOf]; omega
    refine Ev.step (fun k => ?_) (names_l1 rows n j l out r hl d (i + 1) (by omega) rfl (acc ++ [(rd_T61 l (i : Int)).f0]) ?_ hk)
    · rw [plan_names.l1, if_pos (by omega), if_pos (by omega), if_pos (by omega), if_pos (by omega), wrap_succ (by omega)]
    · rw [ha, List.append_assoc]
      congr 1
      rw [List.take_add_one]
      congr 1
      simp [namesOf, rd_T61, List.getD_eq_getElem?_getD, List.getElem?_eq_getElem (show i < l.length by omega)]
theorem ev_sortcompact (l : List ByteArray) (hl : l.length < 4611686018427387904) : ((slices_Sort_string_string.f l).bind fun t => (slices_Compact_string_string.f t).bind fun u => some u) = some (uniq l) := by
  unfold slices_Sort_string_string.f
  rw [if_pos hl, Option.bind_some]
  unfold slices_Compact_string_string.f
  rw [if_pos (by rw [sortS_length]; exact hl), Option.bind_some]
  rfl
theorem ev_names2 (a b : List S61) (ha : a.length + b.length < 4398046511104) : Ev (fun k => plan_names.f k [a, b]) (uniq (namesOf a ++ namesOf b)) := by
  show Ev (fun k => plan_names.l0 k [] [a, b] 2 0) _
  refine Ev.step (f := fun k => plan_names.l1 k [] [a, b] 2 0 a (a.length : Int) 0) (fun k => rfl) ?_
  refine names_l1 [a, b] 2 0 a [] _ (by simp; omega) a.length 0 (by omega) rfl [] (by simp) ?_
  rw [show wrap64 ((0 : Int) + 1) = 1 from by simp [wrap64]]
  refine Ev.step (f := fun k => plan_names.l1 k ([] ++ namesOf a) [a, b] 2 1 b (b.length : Int) 0) (fun k => rfl) ?_
  refine names_l1 [a, b] 2 1 b ([] ++ namesOf a) _ (by simp [namesOf]; omega) b.length 0 (by omega) rfl _ (by simp) ?_
  rw [show wrap64 ((1 : Int) + 1) = 2 from by simp [wrap64]]
  refine Ev.step (f := fun _ => some (uniq (namesOf a ++ namesOf b))) (fun k => ?_) (Ev.now _)
  have := ev_sortcompact ([] ++ namesOf a ++ namesOf b) (by simp [namesOf]; omega)
  simpa [plan_names.l0] using this
theorem ev_names1 (a : List S61) (ha : a.length < 4398046511104) : Ev (fun k => plan_names.f k [a]) (uniq (namesOf a)) := by
  show Ev (fun k => plan_names.l0 k [] [a] 1 0) _
  refine Ev.step (f := fun k => plan_names.l1 k [] [a] 1 0 a (a.length : Int) 0) (fun k => rfl) ?_
  refine names_l1 [a] 1 0 a [] _ (by simp; omega) a.length 0 (by omega) rfl [] (by simp) ?_
  rw [show wrap64 ((0 : Int) + 1) = 1 from by simp [wrap64]]
  refine Ev.step (f := fun _ => some (uniq (namesOf a))) (fun k => ?_) (Ev.now _)
  have := ev_sortcompact ([] ++ namesOf a) (by simp [namesOf]; omega)
  simpa [plan_names.l0] using this
/-- Two rows that are the same. -/
theorem ev_same (l : List S61) (hl : l.length < 4611686018427387904) : Ev (fun k => dovetailref23_PickRow.f k l l) true := by
  have key : ∀ d i, i + d = l.length → Ev (fun k => dovetailref23_PickRow.l0 k l l (i : Int)) true := by
    intro d
    induction d with
    | zero =>
      intro i h
      refine Ev.step (f := fun _ => some true) (fun k => ?_) (Ev.now _)
      rw [dovetailref23_PickRow.l0, if_neg (by omega)]
    | succ d ih =>
      intro i h
      refine Ev.step (fun k => ?_) (ih (i + 1) (by omega))
      rw [dovetailref23_PickRow.l0, if_pos (by omega), if_pos (by omega), if_pos (by omega), if_neg (by simp), wrap_succ (by omega)]
  refine Ev.congr (fun k => ?_) (key l.length 0 (by omega))
  rw [dovetailref23_PickRow.f, if_pos rfl]
  rfl
end Go.Proofs.Ytnjkdnbmpldokaa.P

/- Changes: told, and done. -/
namespace Go.Proofs.Ytnjkdnbmpldokaa.P
open Go.RowKit Go.Proofs.YtnjkdnbmpldokaaW.PrintWords
set_option linter.unusedSimpArgs false
theorem tl (s : ByteArray) : s.toList = s.data.toList := ByteArray.toList_eq s
theorem tl_look (l : List S61) (s : ByteArray) : (lookB l s).toList = look l s.data.toList := by rw [tl]; simp [lookB]
theorem tl_at (f : List UInt8 → List UInt8) (s : ByteArray) : (atB f s).toList = f s.data.toList := by rw [tl]; simp [atB]
theorem fine_mem {l : List S61} (h : fine l = true) : l.length ≤ 4194304 ∧ ∀ x ∈ l, x.f0.size ≤ 4194304 ∧ x.f1.size ≤ 4194304 := by
  simp only [fine, small, Bool.and_eq_true, decide_eq_true_eq, List.all_eq_true] at h
  exact h
theorem fine_small {l : List S61} (h : fine l = true) : ∀ x ∈ l, small x = true := by
  simp only [fine, Bool.and_eq_true, List.all_eq_true] at h
  exact h.2
theorem names_short {l : List S61} (h : fine l = true) : ∀ n ∈ namesOf l, n.size ≤ 4194304 := by
  intro n hn
  obtain ⟨x, hx, rfl⟩ := List.mem_map.1 hn
  exact ((fine_mem h).2 x hx).1
theorem short_of {ns : List ByteArray} (h1 : ns.length ≤ 16777216) (h2 : ∀ n ∈ ns, n.size ≤ 4194304) : short ns = true := by
  simp only [short, Bool.and_eq_true, decide_eq_true_eq, List.all_eq_true]
  exact ⟨h1, h2⟩
def both (a b : List S61) : List ByteArray := uniq (namesOf a ++ namesOf b)
theorem both_comm (a b : List S61) : both a b = both b a := uniq_ext (fun x => by simp [or_comm])
theorem ev_diff (a b : List S61) (ha : fine a = true) (hb : fine b = true) : Ev (fun k => plan_Diff.f k a b) (diffs a b (both a b)) := by
  have h1 := fine_mem ha
  have h2 := fine_mem hb
  unfold plan_Diff.f
  refine Ev.congr (f := fun k => (plan_names.f k [a, b]).bind fun ns => if short ns then some (diffs a b ns) else none) (fun k => by rw [if_pos (by rw [ha, hb]; rfl)]) ?_
  refine Ev.bind (ev_names2 a b (by omega)) ?_
  refine Ev.congr (f := fun _ => some (diffs a b (both a b))) (fun k => ?_) (Ev.now _)
  refine if_pos (short_of ?_ ?_)
  · have := uniq_length (namesOf a ++ namesOf b)
    simp [namesOf] at this
    simp [namesOf]
    omega
  · intro n hn
    rw [uniq_mem, List.mem_append] at hn
    exact hn.elim (names_short ha n) (names_short hb n)
def flipC (c : S42) : S42 := ⟨c.f0, c.f2, c.f1⟩
theorem diffs_flip (a b : List S61) : ∀ ns, diffs b a ns = (diffs a b ns).map flipC
  | [] => rfl
  | n :: ns => by
    simp only [diffs]
    by_cases h : (lookB a n).toList = (lookB b n).toList
    · rw [if_pos h, if_pos h.symm, diffs_flip a b ns]
    · rw [if_neg h, if_neg (Ne.symm h), diffs_flip a b ns]; rfl
theorem diffs_self (a : List S61) : ∀ ns, diffs a a ns = []
  | [] => rfl
  | n :: ns => by simp only [diffs, if_true]; exact diffs_self a ns
theorem diffs_mem {a b : List S61} : ∀ {ns : List ByteArray} {c : S42}, c ∈ diffs a b ns → c.f0 ∈ ns ∧ c = ⟨c.f0, lookB a c.f0, lookB b c.f0⟩
  | n :: ns, c, h => by
    simp only [diffs] at h
    split at h
    · obtain ⟨h1, h2⟩ := diffs_mem h
      exact ⟨List.mem_cons_of_mem _ h1, h2⟩
    · rcases List.mem_cons.1 h with rfl | h
      · exact ⟨List.mem_cons_self, rfl⟩
      · obtain ⟨h1, h2⟩ := diffs_mem h
        exact ⟨List.mem_cons_of_mem _ h1, h2⟩
theorem diffs_of {a b : List S61} : ∀ {ns : List ByteArray} {n : ByteArray}, n ∈ ns → (lookB a n).toList ≠ (lookB b n).toList → n ∈ (diffs a b ns).map (·.f0)
  | m :: ns, n, h, hd => by
    simp only [diffs]
    rcases List.mem_cons.1 h with rfl | h
    · rw [if_neg hd]; simp
    · have := diffs_of (a := a) (b := b) h hd
      split
      · exact this
      · simp only [List.map_cons]; exact List.mem_cons_of_mem _ this
theorem diffs_names_sub {a b : List S61} : ∀ ns : List ByteArray, ((diffs a b ns).map (·.f0)).Sublist ns
  | [] => List.Sublist.refl _
  | n :: ns => by
    simp only [diffs]
    split
    · exact (diffs_names_sub ns).cons _
    · simp only [List.map_cons]; exact (diffs_names_sub ns).cons_cons _
def foldU (f : List UInt8 → List UInt8) (cs : List S42) : List UInt8 → List UInt8 := cs.foldl (fun f c => updF f c.f0 c.f2) f
theorem ev_applyEnd (F : List UInt8 → List UInt8) (all : List ByteArray) (h1 : all.length ≤ 16777216) (h2 : ∀ n ∈ all, n.size ≤ 4194304) : applyEnd F all = some (picksF F (uniq all), 0) := by
  unfold applyEnd slices_Sort_string_string.f
  rw [if_pos (by omega), Option.bind_some]
  unfold slices_Compact_string_string.f
  rw [if_pos (by rw [sortS_length]; omega), Option.bind_some]
  rw [if_pos]
  · rfl
  · refine short_of (Nat.le_trans (uniq_length all) h1) (fun n hn => ?_)
    exact h2 n ((uniq_mem all n).1 hn)
theorem ev_applyGo (r : List S61 × Int) : ∀ (cs : List S42) (f : List UInt8 → List UInt8) (all : List ByteArray),
    (∀ c ∈ cs, smallC c = true) → all.length + cs.length ≤ 16777216 → (cs.map (·.f0)).Nodup → (∀ c ∈ cs, (atB f c.f0).toList = c.f1.toList) → (∀ c ∈ cs, wordB c.f0 = true) → (∀ c ∈ cs, c.f2.toList = [] ∨ wordB c.f2 = true) →
    applyEnd (foldU f cs) (all ++ cs.map (·.f0)) = some r → Ev (fun k => applyGo k cs f all) r
  | [], f, all, _, _, _, _, _, _, h => by
    refine Ev.congr (f := fun _ => some r) (fun k => ?_) (Ev.now _)
    simpa [applyGo, foldU] using h
  | c :: cs, f, all, hs, hl, hn, hf, hw, ht, h => by
    obtain ⟨hn1, hn2⟩ := List.nodup_cons.1 hn
    have hsc := hs c List.mem_cons_self
    have hsc2 := hsc
    simp only [smallC, Bool.and_eq_true, decide_eq_true_eq] at hsc2
    simp only [List.length_cons] at hl
    have ih := ev_applyGo r cs (updF f c.f0 c.f2) (all ++ [c.f0]) (fun d hd => hs d (List.mem_cons_of_mem _ hd)) (by simp; omega) hn2 (fun d hd => ?_) (fun d hd => hw d (List.mem_cons_of_mem _ hd)) (fun d hd => ht d (List.mem_cons_of_mem _ hd)) (by rw [List.append_assoc]; exact h)
    · refine Ev.congr (f := fun k => (plan_word.f k c.f0).bind fun a => if a = false then some ([], 20) else if c.f2.toList = [] then applyGo k cs (updF f c.f0 c.f2) (all ++ [c.f0]) else (plan_word.f k c.f2).bind fun b => if b = false then some ([], 20) else applyGo k cs (updF f c.f0 c.f2) (all ++ [c.f0])) (fun k => ?_) ?_
      · rw [applyGo, if_pos (by rw [hsc]; simp; omega), if_pos (hf c List.mem_cons_self)]
      · refine Ev.bind (ev_word _ (by omega)) ?_
        rw [hw c List.mem_cons_self]
        simp only [Bool.true_eq_false, if_false]
        rcases ht c List.mem_cons_self with h0 | h0
        · simp only [if_pos h0]
          exact ih
        · by_cases h1 : c.f2.toList = []
          · simp only [if_pos h1]
            exact ih
          · simp only [if_neg h1]
            refine Ev.bind (ev_word _ (by omega)) ?_
            rw [h0]
            simp only [Bool.true_eq_false, if_false]
            exact ih
    · rw [← hf d (List.mem_cons_of_mem _ hd), tl_at, tl_at]
      unfold updF
      rw [if_neg]
      intro e
      exact hn1 (List.mem_map.2 ⟨d, hd, key_inj e⟩)
theorem foldU_diffs (a b : List S61) : ∀ (ns : List ByteArray) (f : List UInt8 → List UInt8) (k : List UInt8),
    foldU f (diffs a b ns) k = if (∃ n ∈ ns, n.data.toList = k) ∧ look a k ≠ look b k then look b k else f k
  | [], f, k => by simp [diffs, foldU]
  | n :: ns, f, k => by
    simp only [diffs]
    by_cases h : (lookB a n).toList = (lookB b n).toList
    · rw [if_pos h, foldU_diffs a b ns f k]
      rw [tl_look, tl_look] at h
      by_cases hk : n.data.toList = k
      · subst hk
        simp [h]
      · simp [hk]
    · rw [if_neg h]
      show foldU (updF f n (lookB b n)) (diffs a b ns) k = _
      rw [foldU_diffs a b ns _ k]
      rw [tl_look, tl_look] at h
      by_cases hk : n.data.toList = k
      · subst hk
        have : (lookB b n).data.toList = look b n.data.toList := by rw [← tl, tl_look]
        have hp : (∃ m ∈ n :: ns, m.data.toList = n.data.toList) ∧ look a n.data.toList ≠ look b n.data.toList := ⟨⟨n, List.mem_cons_self, rfl⟩, h⟩
        rw [if_pos hp]
        by_cases h2 : ∃ m ∈ ns, m.data.toList = n.data.toList
        · rw [if_pos ⟨h2, h⟩]
        · rw [if_neg (fun h' => h2 h'.1)]
          unfold updF
          rw [if_pos rfl, this]
      · have : ¬ k = n.data.toList := fun e => hk e.symm
        simp [hk, updF, this]
theorem look_none {l : List S61} {k : List UInt8} (h : ∀ n ∈ namesOf l, n.data.toList ≠ k) : look l k = [] := by
  unfold look
  rw [List.find?_eq_none.2]
  intro x hx
  have := h x.f0 (List.mem_map.2 ⟨x, hx, rfl⟩)
  simpa using this
theorem foldU_look (a b : List S61) : foldU (look a) (diffs a b (both a b)) = look b := by
  funext k
  rw [foldU_diffs]
  by_cases h : ∃ n ∈ both a b, n.data.toList = k
  · by_cases h2 : look a k = look b k
    · rw [if_neg (by simp [h2]), h2]
    · rw [if_pos ⟨h, h2⟩]
  · rw [if_neg (fun h' => h h'.1)]
    have h0 : ∀ n, n ∈ namesOf a ++ namesOf b → n.data.toList ≠ k := fun n hn e => h ⟨n, (uniq_mem _ _).2 hn, e⟩
    rw [look_none (fun n hn => h0 n (List.mem_append_left _ hn)), look_none (fun n hn => h0 n (List.mem_append_right _ hn))]
/-- What fitness gives. -/
theorem lessB_iff (x y : ByteArray) : lessB x y = true ↔ BLt x y := by
  unfold lessB BLt
  rw [tl, tl, bytesLess_eq, decide_eq_true_iff]
theorem fitGo_all : ∀ {p : Option ByteArray} {l : List S61}, fitGo p l = true → (∀ x ∈ l, wordB x.f0 = true ∧ wordB x.f1 = true) ∧ (namesOf l).Pairwise BLt ∧ ∀ q, p = some q → ∀ n ∈ namesOf l, BLt q n
  | p, [], _ => ⟨by simp, by simp [namesOf], by simp [namesOf]⟩
  | p, x :: l, h => by
    simp only [fitGo, Bool.and_eq_true] at h
    obtain ⟨h1, h2, h3, h4⟩ := h
    obtain ⟨i1, i2, i3⟩ := fitGo_all h4
    refine ⟨?_, ?_, ?_⟩
    · intro y hy
      rcases List.mem_cons.1 hy with rfl | hy
      · exact ⟨h1, h2⟩
      · exact i1 y hy
    · exact List.pairwise_cons.2 ⟨fun n hn => i3 _ rfl n hn, i2⟩
    · rintro q rfl n hn
      have hq : BLt q x.f0 := (lessB_iff _ _).1 h3
      rcases List.mem_cons.1 hn with rfl | hn
      · exact hq
      · exact hq.trans (i3 _ rfl n hn)
theorem word_ne {s : ByteArray} (h : wordB s = true) : s.toList ≠ [] ∧ s.size ≤ 128 := by
  simp only [wordB, tailW, Bool.and_eq_true] at h
  obtain ⟨_, h⟩ := h
  split at h
  · cases h
  · rename_i h0
    simp at h
    exact ⟨h0, by omega⟩
theorem look_at {l : List S61} (hp : (namesOf l).Pairwise BLt) {x : S61} (hx : x ∈ l) : look l x.f0.data.toList = x.f1.data.toList := by
  induction l with
  | nil => cases hx
  | cons y l ih =>
    obtain ⟨h1, h2⟩ := List.pairwise_cons.1 (show (y.f0 :: namesOf l).Pairwise BLt from hp)
    rw [look_cons]
    rcases List.mem_cons.1 hx with rfl | hx
    · simp
    · have hne : ¬ x.f0.data.toList = y.f0.data.toList := fun e => by
        have := h1 x.f0 (List.mem_map.2 ⟨x, hx, rfl⟩)
        rw [key_inj e] at this
        exact BLt.irrefl _ this
      simp only [if_neg hne]
      exact ih h2 hx
theorem lookB_at {l : List S61} (hp : (namesOf l).Pairwise BLt) {x : S61} (hx : x ∈ l) : lookB l x.f0 = x.f1 := by
  apply key_inj
  rw [← tl, tl_look, look_at hp hx]
theorem lookB_cases (l : List S61) (n : ByteArray) : (lookB l n).toList = [] ∨ ∃ x ∈ l, lookB l n = x.f1 := by
  by_cases h : ∃ x ∈ l, x.f0.data.toList = n.data.toList
  · right
    cases hf : l.find? (fun x => x.f0.data.toList == n.data.toList) with
    | none =>
      obtain ⟨x, hx, e⟩ := h
      have := List.find?_eq_none.1 hf x hx
      simp [e] at this
    | some x =>
      refine ⟨x, List.mem_of_find?_eq_some hf, ?_⟩
      have e : look l n.data.toList = x.f1.data.toList := by unfold look; rw [hf]
      apply key_inj
      rw [← tl, tl_look, e]
  · left
    rw [tl_look]
    refine look_none (fun m hm e => h ?_)
    obtain ⟨x, hx, rfl⟩ := List.mem_map.1 hm
    exact ⟨x, hx, e⟩
theorem picksF_eq (f : List UInt8 → List UInt8) : ∀ ns, picksF f ns = (ns.filter (fun n => !((atB f n).toList == []))).map (fun n => ⟨n, atB f n⟩)
  | [] => rfl
  | n :: ns => by
    simp only [picksF]
    rw [picksF_eq f ns]
    by_cases h : (atB f n).toList = []
    · rw [if_pos h, List.filter_cons_of_neg (by simp [h])]
    · rw [if_neg h, List.filter_cons_of_pos (by simpa using h)]
      rfl
theorem picks_back {b : List S61} (hb : fitGo none b = true) (U : List ByteArray) (hU : U.Pairwise BLt) (hin : ∀ n ∈ namesOf b, n ∈ U) : picksF (look b) U = b := by
  obtain ⟨hw, hp, _⟩ := fitGo_all hb
  rw [picksF_eq]
  have e : U.filter (fun n => !((atB (look b) n).toList == [])) = namesOf b := by
    refine rising_ext (hU.filter _) hp (fun n => ?_)
    rw [List.mem_filter]
    constructor
    · rintro ⟨_, h2⟩
      have h3 : look b n.data.toList ≠ [] := by simpa [tl_at] using h2
      refine Classical.byContradiction (fun h4 => h3 (look_none (fun m hm e => h4 ?_)))
      rw [← key_inj e]
      exact hm
    · intro hn
      refine ⟨hin n hn, ?_⟩
      obtain ⟨x, hx, rfl⟩ := List.mem_map.1 hn
      rw [tl_at, look_at hp hx, ← tl]
      simpa using (word_ne (hw x hx).2).1
  rw [e]
  unfold namesOf
  rw [List.map_map]
  conv => rhs; rw [← List.map_id b]
  apply List.map_congr_left
  intro x hx
  have := lookB_at hp hx
  show (⟨x.f0, atB (look b) x.f0⟩ : S61) = x
  rw [show atB (look b) x.f0 = x.f1 from this]
theorem ev_turned {a b : List S61} (fa : fine a = true) (fb : fine b = true) (hab : a.length + b.length ≤ 4194304) (ha : fitGo none a = true) (hb : fitGo none b = true) : Ev (fun k => plan_Apply.f k a (diffs a b (both a b))) (b, 0) := by
  obtain ⟨wa, pa, _⟩ := fitGo_all ha
  obtain ⟨wb, pb, _⟩ := fitGo_all hb
  have la := fine_mem fa
  have lb := fine_mem fb
  have hbl : (both a b).length ≤ a.length + b.length := by
    have := uniq_length (namesOf a ++ namesOf b)
    simpa [namesOf, both] using this
  have hdl := diffs_length a b (both a b)
  have hin : ∀ n ∈ both a b, wordB n = true := by
    intro n hn
    rw [both, uniq_mem, List.mem_append] at hn
    rcases hn with hn | hn
    · obtain ⟨x, hx, rfl⟩ := List.mem_map.1 hn; exact (wa x hx).1
    · obtain ⟨x, hx, rfl⟩ := List.mem_map.1 hn; exact (wb x hx).1
  have hto : ∀ n, (lookB b n).toList = [] ∨ wordB (lookB b n) = true := by
    intro n
    rcases lookB_cases b n with h | ⟨x, hx, h⟩
    · exact .inl h
    · rw [h]; exact .inr (wb x hx).2
  have hsz : ∀ n, (lookB b n).size ≤ 4194304 := by
    intro n
    rcases hto n with h | h
    · have : (lookB b n).size = 0 := by
        rw [tl] at h
        have := data_length (lookB b n)
        rw [h] at this
        simpa using this.symm
      omega
    · have := (word_ne h).2; omega
  unfold plan_Apply.f
  refine Ev.bind (ev_fit a (by omega) (fine_small fa)) ?_
  rw [ha]
  refine Ev.congr (f := fun k => (plan_names.f k [a]).bind fun ns => applyGo k (diffs a b (both a b)) (look a) ns) (fun k => by rw [if_neg (by simp), if_pos (by rw [fa]; simp; omega)]) ?_
  refine Ev.bind (ev_names1 a (by omega)) ?_
  rw [uniq_rising pa]
  refine ev_applyGo (b, 0) _ _ _ ?_ ?_ ?_ ?_ ?_ ?_ ?_
  · intro c hc
    obtain ⟨h1, h2⟩ := diffs_mem hc
    have e2 : c.f2 = lookB b c.f0 := congrArg S42.f2 h2
    simp only [smallC, Bool.and_eq_true, decide_eq_true_eq]
    have := (word_ne (hin _ h1)).2
    exact ⟨by omega, by rw [e2]; exact hsz _⟩
  · simp [namesOf]; omega
  · refine List.Pairwise.imp (fun {x y} h => ?_) ((uniq_sorted _).sublist (diffs_names_sub (both a b)))
    intro e
    subst e
    exact BLt.irrefl _ h
  · intro c hc
    obtain ⟨_, h2⟩ := diffs_mem hc
    have e1 : c.f1 = lookB a c.f0 := congrArg S42.f1 h2
    rw [e1]
    rfl
  · intro c hc
    exact hin _ (diffs_mem hc).1
  · intro c hc
    have e2 : c.f2 = lookB b c.f0 := congrArg S42.f2 (diffs_mem hc).2
    rw [e2]
    exact hto _
  · rw [foldU_look]
    have hlen : (namesOf a ++ (diffs a b (both a b)).map (·.f0)).length ≤ 16777216 := by simp [namesOf]; omega
    rw [ev_applyEnd _ _ hlen]
    · rw [picks_back hb _ (uniq_sorted _)]
      intro n hn
      rw [uniq_mem, List.mem_append]
      by_cases h : n ∈ namesOf a
      · exact .inl h
      · right
        refine diffs_of ((uniq_mem _ _).2 (List.mem_append_right _ hn)) ?_
        rw [tl_look, tl_look, look_none (fun m hm e => h (by rw [← key_inj e]; exact hm))]
        obtain ⟨x, hx, rfl⟩ := List.mem_map.1 hn
        rw [look_at pb hx, ← tl]
        exact (word_ne (wb x hx).2).1.symm
    · intro n hn
      rcases List.mem_append.1 hn with hn | hn
      · exact names_short fa n hn
      · obtain ⟨c, hc, rfl⟩ := List.mem_map.1 hn
        have := (word_ne (hin _ (diffs_mem hc).1)).2
        omega
end Go.Proofs.Ytnjkdnbmpldokaa.P

/- The waking words. -/
namespace Go.Proofs.Ytnjkdnbmpldokaa.P
open Go.RowKit Go.Proofs.YtnjkdnbmpldokaaW.PrintWords
def y1 : S61 := ⟨⟨#[97]⟩, ⟨#[49]⟩⟩
def y2 : S61 := ⟨⟨#[98]⟩, ⟨#[50]⟩⟩
def y3 : S61 := ⟨⟨#[99]⟩, ⟨#[51]⟩⟩
def chg : List S42 := [⟨⟨#[97]⟩, ⟨#[49]⟩, ⟨#[]⟩⟩, ⟨⟨#[99]⟩, ⟨#[]⟩, ⟨#[51]⟩⟩]
theorem abc : ([⟨#[97]⟩, ⟨#[98]⟩, ⟨#[99]⟩] : List ByteArray).Pairwise BLt := by
  simp only [List.pairwise_cons, List.mem_cons, List.not_mem_nil, or_false]
  refine ⟨?_, ?_, by simp, by simp⟩
  · rintro x (rfl | rfl) <;> (rw [← lessB_iff]; kernel_rfl)
  · rintro x rfl; rw [← lessB_iff]; kernel_rfl
theorem uniq_abc (l : List ByteArray) (h : ∀ x, x ∈ l ↔ x ∈ ([⟨#[97]⟩, ⟨#[98]⟩, ⟨#[99]⟩] : List ByteArray)) : uniq l = [⟨#[97]⟩, ⟨#[98]⟩, ⟨#[99]⟩] :=
  rising_ext (uniq_sorted l) abc (fun x => by rw [uniq_mem]; exact h x)
theorem ev_apply1 : Ev (fun k => plan_Apply.f k [y1, y2] chg) ([y2, y3], 0) := by
  unfold plan_Apply.f
  refine Ev.bind (Ev.of (k := 9) (plan_Fit.mono _) (show plan_Fit.f 9 [y1, y2] = some true by kernel_rfl)) ?_
  refine Ev.congr (f := fun k => (plan_names.f k [[y1, y2]]).bind fun ns => applyGo k chg (look [y1, y2]) ns) (fun k => by rw [if_neg (by simp), if_pos (by kernel_rfl)]) ?_
  refine Ev.bind (ev_names1 [y1, y2] (by decide)) ?_
  have hp : ([⟨#[97]⟩, ⟨#[98]⟩] : List ByteArray).Pairwise BLt := abc.sublist (List.sublist_append_left [⟨#[97]⟩, ⟨#[98]⟩] ([⟨#[99]⟩] : List ByteArray))
  have hu : uniq (namesOf [y1, y2]) = [⟨#[97]⟩, ⟨#[98]⟩] := uniq_rising hp
  rw [hu]
  refine ev_applyGo ([y2, y3], 0) chg (look [y1, y2]) [⟨#[97]⟩, ⟨#[98]⟩] ?_ (by decide) ?_ ?_ ?_ ?_ ?_
  · intro c hc
    simp only [chg, List.mem_cons, List.not_mem_nil, or_false] at hc
    rcases hc with rfl | rfl <;> kernel_rfl
  · decide
  · intro c hc
    simp only [chg, List.mem_cons, List.not_mem_nil, or_false] at hc
    rcases hc with rfl | rfl <;> kernel_rfl
  · intro c hc
    simp only [chg, List.mem_cons, List.not_mem_nil, or_false] at hc
    rcases hc with rfl | rfl <;> kernel_rfl
  · intro c hc
    simp only [chg, List.mem_cons, List.not_mem_nil, or_false] at hc
    rcases hc with rfl | rfl
    · left; kernel_rfl
    · right; kernel_rfl
  · rw [ev_applyEnd _ _ (by decide) (by intro n hn; simp [chg] at hn; rcases hn with rfl | rfl | rfl | rfl <;> decide)]
    rw [uniq_abc _ (fun x => by simp [chg]; grind)]
    kernel_rfl
theorem ev_diff1 : Ev (fun k => plan_Diff.f k [y1, y2] [y2, y3]) (diffs [y1, y2] [y2, y3] (both [y1, y2] [y2, y3])) := ev_diff _ _ (by kernel_rfl) (by kernel_rfl)
theorem both1 : both [y1, y2] [y2, y3] = [⟨#[97]⟩, ⟨#[98]⟩, ⟨#[99]⟩] := uniq_abc _ (fun x => by simp [namesOf, y1, y2, y3])
theorem ev_awake : Ev (fun k => dovetaillaw32_awake.f k) true := by
  unfold dovetaillaw32_awake.f
  simp only [Option.bind_some]
  refine Ev.bind (Ev.of (k := 30) (plan_Parse.mono _) (show plan_Parse.f 30 ⟨#[110, 112, 109, 32, 112, 108, 97, 110, 10, 97, 32, 49, 10, 98, 32, 50, 10]⟩ = some (1, [y1, y2], 0, 0) by kernel_rfl)) ?_
  refine Ev.bind (Ev.of (k := 30) (plan_Parse.mono _) (show plan_Parse.f 30 ⟨#[110, 112, 109, 32, 112, 108, 97, 110, 10, 98, 32, 49, 10, 97, 32, 50, 10]⟩ = some (0, [], 16, 13) by kernel_rfl)) ?_
  refine Ev.bind ev_apply1 ?_
  refine Ev.bind (Ev.of (k := 30) (plan_Format.mono _ _) (show plan_Format.f 30 1 [y1, y2] = some ⟨#[110, 112, 109, 32, 112, 108, 97, 110, 10, 97, 32, 49, 10, 98, 32, 50, 10]⟩ by kernel_rfl)) ?_
  refine Ev.congr (f := fun k => (dovetailref23_PickRow.f k [y1, y2] [y1, y2]).bind fun t => if t = true then (plan_Diff.f k [y1, y2] [y2, y3]).bind fun u => some ((u.length : Int) == 2) else some false) (fun k => ?_) ?_
  · rw [if_pos (by rw [tl]), if_pos rfl]
    refine congrArg (Option.bind _) (funext fun t => ?_)
    cases t with
    | false => rfl
    | true =>
      exact (if_pos rfl).trans ((if_pos rfl).trans ((if_pos rfl).trans ((if_pos rfl).trans ((if_pos rfl).trans ((if_pos (by decide)).trans ((if_pos (by rw [tl]; rfl)).trans rfl))))))
  · refine Ev.bind (ev_same _ (by decide)) ?_
    refine Ev.bind ev_diff1 ?_
    rw [both1]
    exact Ev.congr (f := fun _ => some true) (fun k => by kernel_rfl) (Ev.now _)
end Go.Proofs.Ytnjkdnbmpldokaa.P
