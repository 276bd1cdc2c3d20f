/- PlanBack, in plain Lean: a plan written and read is the same; what is read, written, is the text. -/
import Derived.Test.YtnjkdnbmpldokaaPure
import Derived.Test.YtnjkdnbmpldokaaHText
import Derived.Test.YtnjkdnbmpldokaaP35
import Derived.Test.YtnjkdnbmpldokaaP4
import Derived.Test.YtnjkdnbmpldokaaP52
import Derived.Test.YtnjkdnbmpldokaaP53
import Derived.Test.YtnjkdnbmpldokaaPz
namespace Go.Proofs.Ytnjkdnbmpldokaa.planBack
open Go.RowKit Go.Proofs.YtnjkdnbmpldokaaW.PrintWords Go.Proofs.YtnjkdnbmpldokaaB Go.Proofs.Ytnjkdnbmpldokaa.P
set_option linter.unusedSimpArgs false
set_option linter.unusedVariables false
abbrev bl (s : ByteArray) : List UInt8 := s.data.toList
theorem bl_len (s : ByteArray) : (bl s).length = s.size := by rw [Array.length_toList]; rfl
theorem bl_extract (s : ByteArray) (i j : Nat) : bl (s.extract i j) = ((bl s).drop i).take (j - i) := by
  simp [bl, ByteArray.data_extract, Array.toList_extract]
theorem bt_at (s : ByteArray) (i : Nat) (h : i < s.size) : bt s (i : Int) = (((bl s)[i]'(by rw [bl_len]; exact h)).toNat : Int) := by
  have h2 : (i : Int).toNat < s.size := by omega
  unfold bt
  rw [dif_pos h2]
  simp [bl, ByteArray.getElem_eq_getElem_data]
def okU (b : UInt8) : Bool := okI (b.toNat : Int)
/-- A word's run ends well. -/
theorem word_good (s : ByteArray) (e : UInt8) (he : okU e = false) (ea : Int) (fr : Nat) (hs : s.size < 4611686018427387904) : ∀ (w : List UInt8) (p : Nat) (rest : List UInt8), (bl s).drop p = w ++ e :: rest → (∀ b ∈ w, okU b = true) → fr ≤ p → fr < p + w.length → p + w.length ≤ fr + 128 →
    Ev (fun k => plan_reader_word.l0 k (e.toNat : Int) (fr : Int) s (p : Int) 0 ea) (s.extract fr (p + w.length), s, ((p + w.length : Nat) : Int), 0, ea)
  | [], p, rest, hd, hw, h1, h2, h3 => by
    have hp : p < s.size := by
      have := congrArg List.length hd
      simp at this
      have := bl_len s
      simp [bl] at this
      omega
    have hb : bt s (p : Int) = (e.toNat : Int) := by
      rw [bt_at s p hp]
      have := List.drop_eq_getElem_cons (l := bl s) (i := p) (by rw [bl_len]; exact hp)
      rw [this] at hd
      rw [(List.cons.inj hd).1]
    simp only [List.length_nil, Nat.add_zero] at h2 h3 ⊢
    have hne : (s.extract fr p).toList ≠ [] := by
      rw [tl, show (s.extract fr p).data.toList = ((bl s).drop fr).take (p - fr) from bl_extract s fr p]
      intro h
      have := congrArg List.length h
      have hl := bl_len s
      simp only [List.length_take, List.length_drop, List.length_nil, hl] at this
      omega
    refine Ev.step (f := fun k => plan_reader_word.j1 k (e.toNat : Int) (fr : Int) false s (p : Int) 0 ea) (fun k => ?_) (Ev.step (f := fun _ => some (s.extract fr p, s, (p : Int), 0, ea)) (fun k => ?_) (Ev.now _))
    · rw [plan_reader_word.l0, if_pos (by omega), if_pos (by omega), wordByte_eq, Option.bind_some, hb]
      rw [show okI (e.toNat : Int) = false from he]
    · rw [plan_reader_word.j1, if_neg (by simp), if_pos (by omega), if_pos (by omega), if_pos (by omega), if_neg (by omega)]
      simp only [Int.toNat_natCast]
      rw [if_neg hne, if_pos (by omega), if_pos (by omega), if_pos hb]
  | b :: w, p, rest, hd, hw, h1, h2, h3 => by
    have hp : p < s.size := by
      have := congrArg List.length hd
      simp at this
      have := bl_len s
      simp [bl] at this
      omega
    have hc := List.drop_eq_getElem_cons (l := bl s) (i := p) (by rw [bl_len]; exact hp)
    rw [hc] at hd
    obtain ⟨hb0, hd2⟩ := List.cons.inj hd
    have hb : bt s (p : Int) = (b.toNat : Int) := by rw [bt_at s p hp, hb0]
    simp only [List.length_cons] at h2 h3 ⊢
    have ih := word_good s e he ea fr hs w (p + 1) rest hd2 (fun c hc => hw c (List.mem_cons_of_mem _ hc)) (by omega) (by omega) (by omega)
    rw [show p + (w.length + 1) = p + 1 + w.length by omega]
    refine Ev.step (f := fun k => plan_reader_word.j1 k (e.toNat : Int) (fr : Int) true s (p : Int) 0 ea) (fun k => ?_) (Ev.step (fun k => ?_) ih)
    · rw [plan_reader_word.l0, if_pos (by omega), if_pos (by omega), wordByte_eq, Option.bind_some, hb]
      rw [show okI (b.toNat : Int) = true from hw b List.mem_cons_self]
    · rw [plan_reader_word.j1, if_pos rfl, if_neg, wrap_succ (by omega)]
      have : wrap64 ((p : Int) - (fr : Int)) = ((p - fr : Nat) : Int) := by unfold wrap64; omega
      rw [this]
      omega
/-- What a word's run comes to. -/
def WordEnd (s : ByteArray) (e : UInt8) (fr : Nat) (ea : Int) (r : ByteArray × ByteArray × Int × Int × Int) : Prop :=
  r.2.1 = s ∧ (r.2.2.2.1 = 0 → ∃ (w rest : List UInt8), (bl s).drop fr = w ++ e :: rest ∧ (∀ b ∈ w, okU b = true) ∧ w ≠ [] ∧ w.length ≤ 128 ∧ r = (⟨w.toArray⟩, s, ((fr + w.length : Nat) : Int), 0, ea)) ∧ ∃ q : Nat, r.2.2.1 = q ∧ q ≤ s.size
theorem fail_ev (s : ByteArray) (at_ ea e a : Int) : plan_reader_fail.f s at_ 0 ea e a = some (s, at_, e, a) := by rw [plan_reader_fail.f, if_pos rfl]
theorem word_any (s : ByteArray) (e : UInt8) (ea : Int) (fr : Nat) (hs : s.size < 4611686018427387904) : ∀ (d p : Nat), p + d = s.size → fr ≤ p → p ≤ fr + 128 → (∀ b ∈ ((bl s).drop fr).take (p - fr), okU b = true) →
    ∃ r, Ev (fun k => plan_reader_word.l0 k (e.toNat : Int) (fr : Int) s (p : Int) 0 ea) r ∧ WordEnd s e fr ea r
  | 0, p, hp, h1, h2, hw => by
    refine ⟨(s.extract fr p, s, (p : Int), 11, (p : Int)), Ev.step (f := fun k => plan_reader_word.j1 k (e.toNat : Int) (fr : Int) false s (p : Int) 0 ea) (fun k => ?_) (Ev.step (f := fun _ => some (s.extract fr p, s, (p : Int), 11, (p : Int))) (fun k => ?_) (Ev.now _)), rfl, fun h => ?_, p, rfl, by omega⟩
    · rw [plan_reader_word.l0, if_neg (by omega)]
    · rw [plan_reader_word.j1, if_neg (by simp), if_pos (by omega), if_pos (by omega), if_pos (by omega), if_pos (by omega), fail_ev]
      simp
    · simp at h
  | d + 1, p, hp, h1, h2, hw => by
    by_cases hb : okI (bt s (p : Int)) = true
    · by_cases hl : p = fr + 128
      · refine ⟨(⟨#[]⟩, s, (p : Int), 12, (p : Int)), Ev.step (f := fun k => plan_reader_word.j1 k (e.toNat : Int) (fr : Int) true s (p : Int) 0 ea) (fun k => ?_) (Ev.step (f := fun _ => some (⟨#[]⟩, s, (p : Int), 12, (p : Int))) (fun k => ?_) (Ev.now _)), rfl, fun h => ?_, p, rfl, by omega⟩
        · rw [plan_reader_word.l0, if_pos (by omega), if_pos (by omega), wordByte_eq, Option.bind_some, hb]
        · have : wrap64 ((p : Int) - (fr : Int)) = 128 := by unfold wrap64; omega
          rw [plan_reader_word.j1, if_pos rfl, if_pos this, fail_ev]
          simp
        · simp at h
      · obtain ⟨r, hr, hE⟩ := word_any s e ea fr hs d (p + 1) (by omega) (by omega) (by omega) (by
          intro c hc
          rw [show p + 1 - fr = (p - fr) + 1 by omega, List.take_add_one, List.mem_append] at hc
          rcases hc with hc | hc
          · exact hw c hc
          · rw [List.getElem?_drop, show fr + (p - fr) = p by omega, List.getElem?_eq_getElem (by rw [bl_len]; omega)] at hc
            have : c = (bl s)[p]'(by rw [bl_len]; omega) := by simpa using hc
            rw [this]
            rw [bt_at s p (by omega)] at hb
            exact hb)
        refine ⟨r, Ev.step (f := fun k => plan_reader_word.j1 k (e.toNat : Int) (fr : Int) true s (p : Int) 0 ea) (fun k => ?_) (Ev.step (fun k => ?_) hr), hE⟩
        · rw [plan_reader_word.l0, if_pos (by omega), if_pos (by omega), wordByte_eq, Option.bind_some, hb]
        · have : wrap64 ((p : Int) - (fr : Int)) = ((p - fr : Nat) : Int) := by unfold wrap64; omega
          rw [plan_reader_word.j1, if_pos rfl, if_neg (by rw [this]; omega), wrap_succ (by omega)]
    · have hb' : okI (bt s (p : Int)) = false := by simpa using hb
      have hx : bl (s.extract fr p) = ((bl s).drop fr).take (p - fr) := bl_extract s fr p
      have base : ∀ k, plan_reader_word.l0 (k + 1) (e.toNat : Int) (fr : Int) s (p : Int) 0 ea = plan_reader_word.j1 k (e.toNat : Int) (fr : Int) false s (p : Int) 0 ea := by
        intro k
        rw [plan_reader_word.l0, if_pos (by omega), if_pos (by omega), wordByte_eq, Option.bind_some, hb']
      by_cases hne : (s.extract fr p).toList = []
      · refine ⟨(s.extract fr p, s, (p : Int), 10, (p : Int)), Ev.step base (Ev.step (f := fun _ => some (s.extract fr p, s, (p : Int), 10, (p : Int))) (fun k => ?_) (Ev.now _)), rfl, fun h => ?_, p, rfl, by omega⟩
        · rw [plan_reader_word.j1, if_neg (by simp), if_pos (by omega), if_pos (by omega), if_pos (by omega), if_neg (by omega)]
          simp only [Int.toNat_natCast]
          rw [if_pos hne, fail_ev]
          simp
        · simp at h
      · by_cases hend : bt s (p : Int) = (e.toNat : Int)
        · refine ⟨(s.extract fr p, s, (p : Int), 0, ea), Ev.step base (Ev.step (f := fun _ => some (s.extract fr p, s, (p : Int), 0, ea)) (fun k => ?_) (Ev.now _)), rfl, fun _ => ?_, p, rfl, by omega⟩
          · rw [plan_reader_word.j1, if_neg (by simp), if_pos (by omega), if_pos (by omega), if_pos (by omega), if_neg (by omega)]
            simp only [Int.toNat_natCast]
            rw [if_neg hne, if_pos (by omega), if_pos (by omega), if_pos hend]
          · have hlen : (((bl s).drop fr).take (p - fr)).length = p - fr := by
              have := bl_len s
              simp only [List.length_take, List.length_drop, this]
              omega
            refine ⟨((bl s).drop fr).take (p - fr), (bl s).drop (p + 1), ?_, hw, ?_, by rw [hlen]; omega, ?_⟩
            · have h3 := List.take_append_drop (p - fr) ((bl s).drop fr)
              rw [List.drop_drop, show fr + (p - fr) = p by omega, List.drop_eq_getElem_cons (by rw [bl_len]; omega : p < (bl s).length)] at h3
              rw [← h3]
              congr 2
              · rw [h3]
              · rw [bt_at s p (by omega)] at hend
                have : ((bl s)[p]'(by rw [bl_len]; omega)).toNat = e.toNat := by omega
                exact UInt8.toNat_inj.1 this
            · intro h
              apply hne
              rw [tl, ← h]
              exact hx
            · rw [hlen]
              have : (⟨(((bl s).drop fr).take (p - fr)).toArray⟩ : ByteArray) = s.extract fr p := by
                apply key_inj
                rw [show (s.extract fr p).data.toList = _ from hx]
              rw [this, show fr + (p - fr) = p by omega]
        · refine ⟨(s.extract fr p, s, (p : Int), 10, (p : Int)), Ev.step base (Ev.step (f := fun _ => some (s.extract fr p, s, (p : Int), 10, (p : Int))) (fun k => ?_) (Ev.now _)), rfl, fun h => ?_, p, rfl, by omega⟩
          · rw [plan_reader_word.j1, if_neg (by simp), if_pos (by omega), if_pos (by omega), if_pos (by omega), if_neg (by omega)]
            simp only [Int.toNat_natCast]
            rw [if_neg hne, if_pos (by omega), if_pos (by omega), if_neg hend, fail_ev]
            simp
          · simp at h
theorem ev_word_any (s : ByteArray) (e : UInt8) (ea : Int) (fr : Nat) (hs : s.size < 4611686018427387904) (h : fr ≤ s.size) : ∃ r, Ev (fun k => plan_reader_word.f k s (fr : Int) 0 ea (e.toNat : Int)) r ∧ WordEnd s e fr ea r :=
  word_any s e ea fr hs (s.size - fr) fr (by omega) (Nat.le_refl _) (by omega) (by simp)
/-- From some number of rounds on, in both counters. -/
def G (q : Rd) (last : ByteArray) (acc : List S61) (r : List S61 × Rd) : Prop := ∃ K, ∀ k n, K ≤ k → K ≤ n → readGo k n q last acc = some r
theorem G.stop {q : Rd} {last : ByteArray} {acc : List S61} (h : ¬ q.at_ < (q.s.size : Int)) : G q last acc (acc, q) := by
  refine ⟨1, fun k n _ hn => ?_⟩
  obtain ⟨m, rfl⟩ : ∃ m, n = m + 1 := ⟨n - 1, by omega⟩
  rw [readGo, if_neg h]
theorem G.none {q q' : Rd} {last : ByteArray} {acc : List S61} (h : q.at_ < (q.s.size : Int)) (hz : Ev (fun k => pickRound k q last) (Option.none, q')) : G q last acc (acc, q') := by
  obtain ⟨K, hz⟩ := hz
  refine ⟨K + 1, fun k n hk hn => ?_⟩
  obtain ⟨m, rfl⟩ : ∃ m, n = m + 1 := ⟨n - 1, by omega⟩
  have hzk : pickRound k q last = some (Option.none, q') := hz k (by omega)
  rw [readGo, if_pos h, hzk]
  rfl
theorem G.more {q q' : Rd} {last : ByteArray} {acc : List S61} {x : S61} {r : List S61 × Rd} (h : q.at_ < (q.s.size : Int)) (hl : acc.length < 4194304) (hz : Ev (fun k => pickRound k q last) (some x, q')) (hr : G q' x.f0 (acc ++ [x]) r) : G q last acc r := by
  obtain ⟨K, hz⟩ := hz
  obtain ⟨K', hr⟩ := hr
  refine ⟨K + K' + 1, fun k n hk hn => ?_⟩
  obtain ⟨m, rfl⟩ : ∃ m, n = m + 1 := ⟨n - 1, by omega⟩
  have hzk : pickRound k q last = some (some x, q') := hz k (by omega)
  rw [readGo, if_pos h, hzk]
  show (if acc.length < 4194304 then readGo k m q' x.f0 (acc ++ [x]) else Option.none) = some r
  rw [if_pos hl]
  exact hr k m (by omega) (by omega)
theorem G.ev {q : Rd} {last : ByteArray} {acc : List S61} {r : List S61 × Rd} (h : G q last acc r) : Ev (fun k => readGo k k q last acc) r := by
  obtain ⟨K, h⟩ := h
  exact ⟨K, fun k hk => h k k hk hk⟩
theorem word_of {w : List UInt8} (h1 : ∀ b ∈ w, okU b = true) (h2 : w ≠ []) (h3 : w.length ≤ 128) : wordB ⟨w.toArray⟩ = true := by
  simp only [wordB, tailW, Bool.and_eq_true]
  refine ⟨?_, ?_⟩
  · simp only [bytesOf, List.all_eq_true]
    intro x hx
    obtain ⟨b, hb, rfl⟩ := List.mem_map.1 hx
    exact h1 b (by simpa using hb)
  · rw [tl, if_neg (by simpa using h2)]
    simp only [decide_eq_true_eq]
    show ((w.toArray.size : Nat) : Int) ≤ 128
    simp; omega
theorem of_word {s : ByteArray} (h : wordB s = true) : (∀ b ∈ bl s, okU b = true) ∧ bl s ≠ [] ∧ (bl s).length ≤ 128 := by
  have h1 := word_ne h
  simp only [wordB, Bool.and_eq_true, bytesOf, List.all_eq_true] at h
  refine ⟨fun b hb => h.1 _ (List.mem_map.2 ⟨b, hb, rfl⟩), ?_, by rw [bl_len]; exact h1.2⟩
  rw [tl] at h1
  exact h1.1
theorem drop_more {l w rest : List UInt8} {p : Nat} {e : UInt8} (h : l.drop p = w ++ e :: rest) : l.drop (p + w.length + 1) = rest := by
  have := congrArg (List.drop (w.length + 1)) h
  rw [List.drop_drop] at this
  rw [show p + w.length + 1 = p + (w.length + 1) by omega, this]
  rw [show w.length + 1 = (w ++ [e]).length by simp, show w ++ e :: rest = (w ++ [e]) ++ rest by simp, List.drop_left]
theorem drop_lt {l w rest : List UInt8} {p : Nat} {e : UInt8} (h : l.drop p = w ++ e :: rest) : p + w.length < l.length := by
  have := congrArg List.length h
  simp at this
  omega
def U32 : UInt8 := 32
def U10 : UInt8 := 10
/-- A pick that is well formed. -/
theorem pick_good (s : ByteArray) (hs : s.size ≤ 65536) (p : Nat) (ea : Int) (last : ByteArray) (x : S61) (rest : List UInt8) (hd : (bl s).drop p = rowOf x ++ rest) (h0 : wordB x.f0 = true) (h1 : wordB x.f1 = true) (hl : lessB last x.f0 = true) :
    Ev (fun k => pickRound k ⟨s, (p : Int), 0, ea⟩ last) (some x, ⟨s, ((p + (rowOf x).length : Nat) : Int), 0, ea⟩) ∧ (bl s).drop (p + (rowOf x).length) = rest ∧ p + (rowOf x).length ≤ s.size := by
  obtain ⟨a1, a2, a3⟩ := of_word h0
  obtain ⟨b1, b2, b3⟩ := of_word h1
  have hd1 : (bl s).drop p = bl x.f0 ++ (32 : UInt8) :: (bl x.f1 ++ (10 : UInt8) :: rest) := by rw [hd]; simp [rowOf, bl]
  have hd2 := drop_more hd1
  have l1 := drop_lt hd1
  have l2 := drop_lt hd2
  have hd3 := drop_more hd2
  rw [bl_len s] at l1 l2
  have p1 : 0 < (bl x.f0).length := List.length_pos_iff.2 a2
  have p2 : 0 < (bl x.f1).length := List.length_pos_iff.2 b2
  have g1 := word_good s 32 (by decide +kernel) ea p (by omega) (bl x.f0) p _ hd1 a1 (Nat.le_refl _) (by omega) (by omega)
  have g2 := word_good s 10 (by decide +kernel) ea (p + (bl x.f0).length + 1) (by omega) (bl x.f1) (p + (bl x.f0).length + 1) rest hd2 b1 (Nat.le_refl _) (by omega) (by omega)
  have e1 : s.extract p (p + (bl x.f0).length) = x.f0 := by
    apply key_inj
    rw [show (s.extract p (p + (bl x.f0).length)).data.toList = _ from bl_extract s _ _, hd1, show p + (bl x.f0).length - p = (bl x.f0).length by omega, List.take_left]
  have e2 : s.extract (p + (bl x.f0).length + 1) (p + (bl x.f0).length + 1 + (bl x.f1).length) = x.f1 := by
    apply key_inj
    rw [show (s.extract (p + (bl x.f0).length + 1) (p + (bl x.f0).length + 1 + (bl x.f1).length)).data.toList = _ from bl_extract s _ _, hd2, show p + (bl x.f0).length + 1 + (bl x.f1).length - (p + (bl x.f0).length + 1) = (bl x.f1).length by omega, List.take_left]
  rw [e1] at g1
  rw [e2] at g2
  have hlen : (rowOf x).length = (bl x.f0).length + 1 + (bl x.f1).length + 1 := by simp [rowOf, bl]; omega
  refine ⟨?_, ?_, by rw [hlen]; omega⟩
  · unfold pickRound
    refine Ev.bind (a := (x.f0, s, ((p + (bl x.f0).length : Nat) : Int), 0, ea)) g1 ?_
    have hle : leS x.f0 last = false := by
      unfold leS
      rw [show Op.bytesLess last.toList x.f0.toList = true from hl]
      rfl
    simp only [if_true, hle, Bool.false_eq_true, if_false, Option.bind_some]
    refine Ev.bind (a := (x.f1, s, ((p + (bl x.f0).length + 1 + (bl x.f1).length : Nat) : Int), 0, ea)) ?_ ?_
    · rw [wrap_succ (by omega)]
      exact g2
    · simp only [if_true]
      rw [wrap_succ (by omega), hlen, show p + (bl x.f0).length + 1 + (bl x.f1).length + 1 = p + ((bl x.f0).length + 1 + (bl x.f1).length + 1) by omega]
      exact Ev.now _
  · rw [hlen, show p + ((bl x.f0).length + 1 + (bl x.f1).length + 1) = p + (bl x.f0).length + 1 + (bl x.f1).length + 1 by omega]
    exact hd3
/-- Any pick. -/
theorem pick_any (s : ByteArray) (hs : s.size ≤ 65536) (p : Nat) (hp : p ≤ s.size) (ea : Int) (last : ByteArray) : ∃ z : Option S61 × Rd, Ev (fun k => pickRound k ⟨s, (p : Int), 0, ea⟩ last) z ∧
    ((z.1 = none ∧ z.2.e ≠ 0) ∨ ∃ x, z = (some x, ⟨s, ((p + (rowOf x).length : Nat) : Int), 0, ea⟩) ∧ (bl s).drop p = rowOf x ++ (bl s).drop (p + (rowOf x).length) ∧ p + (rowOf x).length ≤ s.size ∧ wordB x.f0 = true ∧ wordB x.f1 = true ∧ lessB last x.f0 = true) := by
  obtain ⟨r, hr, hE1, hE2, _⟩ := ev_word_any s 32 ea p (by omega) hp
  obtain ⟨r1, r2, r3, r4, r5⟩ := r
  by_cases h4 : r4 = 0
  · subst h4
    obtain ⟨w, rest, hd, hw, hn, hl, hreq⟩ := hE2 rfl
    cases hreq
    have l1 := drop_lt hd
    rw [bl_len s] at l1
    by_cases hle : leS ⟨w.toArray⟩ last = true
    · refine ⟨(none, ⟨s, ((p + w.length : Nat) : Int), 16, (p : Int)⟩), ?_, .inl ⟨rfl, by simp⟩⟩
      unfold pickRound
      refine Ev.bind hr ?_
      simp only [if_true, hle, fail_ev, Option.bind_some]
      exact Ev.now _
    · have hd2 := drop_more hd
      obtain ⟨r', hr', hE1', hE2', _⟩ := ev_word_any s 10 ea (p + w.length + 1) (by omega) (by omega)
      obtain ⟨c1, c2, c3, c4, c5⟩ := r'
      have hb : ∀ z, Ev (fun n => if c4 = 0 then some (some (⟨⟨w.toArray⟩, c1⟩ : S61), (⟨c2, wrap64 (c3 + 1), c4, c5⟩ : Rd)) else some (none, ⟨c2, wrap64 (c3 + 1), c4, c5⟩)) z → Ev (fun k => pickRound k ⟨s, (p : Int), 0, ea⟩ last) z := by
        intro z hz
        unfold pickRound
        refine Ev.bind hr ?_
        simp only [if_true, if_neg hle, Option.bind_some]
        refine Ev.bind (a := (c1, c2, c3, c4, c5)) ?_ hz
        rw [wrap_succ (by omega)]
        exact hr'
      by_cases h4' : c4 = 0
      · subst h4'
        obtain ⟨w2, rest2, hd3, hw2, hn2, hl2, hreq2⟩ := hE2' rfl
        cases hreq2
        have l2 := drop_lt hd3
        rw [bl_len s] at l2
        have hd4 := drop_more hd3
        have hx : (rowOf (⟨⟨w.toArray⟩, ⟨w2.toArray⟩⟩ : S61)) = w ++ (32 : UInt8) :: (w2 ++ [(10 : UInt8)]) := by simp [rowOf]
        have hxl : (rowOf (⟨⟨w.toArray⟩, ⟨w2.toArray⟩⟩ : S61)).length = w.length + 1 + w2.length + 1 := by rw [hx]; simp; omega
        refine ⟨_, hb _ (Ev.congr (f := fun _ => some (some ⟨⟨w.toArray⟩, ⟨w2.toArray⟩⟩, ⟨s, ((p + (w.length + 1 + w2.length + 1) : Nat) : Int), 0, ea⟩)) (fun k => ?_) (Ev.now _)), .inr ⟨⟨⟨w.toArray⟩, ⟨w2.toArray⟩⟩, by rw [hxl], ?_, by rw [hxl]; omega, word_of hw hn hl, word_of hw2 hn2 hl2, ?_⟩⟩
        · rw [if_pos rfl, wrap_succ (by omega), show p + w.length + 1 + w2.length + 1 = p + (w.length + 1 + w2.length + 1) by omega]
        · rw [hxl, show p + (w.length + 1 + w2.length + 1) = p + w.length + 1 + w2.length + 1 by omega, hd4, hx, hd, ← hd2, hd3]
          simp
        · unfold leS at hle
          simpa [lessB] using hle
      · refine ⟨(none, ⟨c2, wrap64 (c3 + 1), c4, c5⟩), hb _ (Ev.congr (f := fun _ => some (none, ⟨c2, wrap64 (c3 + 1), c4, c5⟩)) (fun k => if_neg h4') (Ev.now _)), .inl ⟨rfl, h4'⟩⟩
  · refine ⟨(none, ⟨r2, r3, r4, r5⟩), ?_, .inl ⟨rfl, h4⟩⟩
    unfold pickRound
    refine Ev.bind hr ?_
    simp only [if_neg h4, Option.bind_some]
    exact Ev.now _
/-- Rows that are well formed. -/
theorem read_good (s : ByteArray) (hs : s.size ≤ 65536) (ea : Int) : ∀ (l : List S61) (p : Nat) (last : ByteArray) (acc : List S61), p ≤ s.size → acc.length ≤ p → (bl s).drop p = l.flatMap rowOf → fitGo (some last) l = true →
    G ⟨s, (p : Int), 0, ea⟩ last acc (acc ++ l, ⟨s, (s.size : Int), 0, ea⟩)
  | [], p, last, acc, hp, ha, hd, hf => by
    have : p = s.size := by
      have h1 := congrArg List.length hd
      have h2 := bl_len s
      simp only [List.length_drop, List.flatMap_nil, List.length_nil, h2] at h1
      omega
    subst this
    rw [List.append_nil]
    exact G.stop (by simp)
  | x :: l, p, last, acc, hp, ha, hd, hf => by
    simp only [fitGo, Bool.and_eq_true] at hf
    obtain ⟨f1, f2, f3, f4⟩ := hf
    rw [List.flatMap_cons] at hd
    obtain ⟨g1, g2, g3⟩ := pick_good s hs p ea last x _ hd f1 f2 f3
    have hrow : 2 ≤ (rowOf x).length := by simp [rowOf]; omega
    have ih := read_good s hs ea l (p + (rowOf x).length) x.f0 (acc ++ [x]) g3 (by simp; omega) g2 f4
    rw [List.append_assoc] at ih
    exact G.more (by show (p : Int) < (s.size : Int); omega) (by omega) g1 ih
theorem fit_snoc : ∀ {o : Option ByteArray} {l : List S61} {x : S61}, fitGo o l = true → wordB x.f0 = true → wordB x.f1 = true → (∀ n ∈ namesOf l, BLt n x.f0) → (∀ q, o = some q → BLt q x.f0) → fitGo o (l ++ [x]) = true
  | o, [], x, _, h0, h1, _, hq => by
    cases o with
    | none => simp [fitGo, h0, h1]
    | some q => simp [fitGo, h0, h1, (lessB_iff q x.f0).2 (hq q rfl)]
  | o, y :: l, x, h, h0, h1, hn, hq => by
    simp only [fitGo, Bool.and_eq_true] at h
    obtain ⟨f1, f2, f3, f4⟩ := h
    simp only [List.cons_append, fitGo, Bool.and_eq_true]
    refine ⟨f1, f2, f3, fit_snoc f4 h0 h1 (fun n hn' => hn n (List.mem_cons_of_mem _ hn')) (fun q hq' => ?_)⟩
    cases hq'
    exact hn _ List.mem_cons_self
/-- Whatever is read. -/
theorem read_any (s : ByteArray) (hs : s.size ≤ 65536) (ea : Int) (h0 : Nat) : ∀ (d p : Nat) (last : ByteArray) (acc : List S61), p + d = s.size → acc.length ≤ p → (bl s).drop h0 = acc.flatMap rowOf ++ (bl s).drop p → fitGo none acc = true → (∀ n ∈ namesOf acc, BLt n last ∨ n = last) →
    ∃ r, G ⟨s, (p : Int), 0, ea⟩ last acc r ∧ (r.2.e = 0 → r.2.ea = ea ∧ (bl s).drop h0 = r.1.flatMap rowOf ∧ fitGo none r.1 = true ∧ r.1.length ≤ s.size) := by
  intro d
  induction d using Nat.strongRecOn with
  | ind d ih =>
    intro p last acc hp ha hd hf hl
    by_cases h : p = s.size
    · subst h
      refine ⟨(acc, ⟨s, (s.size : Int), 0, ea⟩), G.stop (by simp), fun _ => ⟨rfl, ?_, hf, ha⟩⟩
      rw [hd, List.drop_eq_nil_of_le (by rw [bl_len]; exact Nat.le_refl _), List.append_nil]
    · obtain ⟨z, hz, hcase⟩ := pick_any s hs p (by omega) ea last
      have hlt : (p : Int) < (s.size : Int) := by omega
      rcases hcase with ⟨h1, h2⟩ | ⟨x, rfl, hd2, hle, w0, w1, hls⟩
      · obtain ⟨z1, z2⟩ := z
        simp only at h1 h2
        subst h1
        exact ⟨(acc, z2), G.none hlt hz, fun h3 => absurd h3 h2⟩
      · have hrow : 2 ≤ (rowOf x).length := by simp [rowOf]; omega
        have hls' := (lessB_iff _ _).1 hls
        have hall : ∀ n ∈ namesOf acc, BLt n x.f0 := fun n hn => (hl n hn).elim (fun h => h.trans hls') (fun h => h ▸ hls')
        obtain ⟨r, hr, hE⟩ := ih (d - (rowOf x).length) (by omega) (p + (rowOf x).length) x.f0 (acc ++ [x]) (by omega) (by simp; omega) (by rw [hd, hd2]; simp) (fit_snoc hf w0 w1 hall (fun q hq => by cases hq)) (fun n hn => by
          simp only [namesOf, List.map_append, List.mem_append, List.map_cons, List.map_nil, List.mem_singleton] at hn
          exact hn.elim (fun h => .inl (hall n h)) .inr)
        exact ⟨r, G.more hlt (by omega) hz hr, hE⟩
/-- A dialect's number. -/
theorem idx_l0 (l : List ByteArray) (n : ByteArray) (hl : l.length < 4611686018427387904) : ∀ d i, i + d = l.length → ∃ r, Ev (fun k => slices_Index_string_string.l0 k l n (l.length : Int) (i : Int)) r ∧ ((r = -1 ∧ n ∉ l.drop i) ∨ ∃ j : Nat, r = j ∧ i ≤ j ∧ j < l.length ∧ rdOf ByteArray.empty l (j : Int) = n)
  | 0, i, h => by
    refine ⟨-1, Ev.step (f := fun _ => some (-1)) (fun k => ?_) (Ev.now _), .inl ⟨rfl, ?_⟩⟩
    · rw [slices_Index_string_string.l0, if_neg (by omega)]
    · rw [List.drop_eq_nil_of_le (by omega)]; simp
  | d + 1, i, h => by
    have hdr : l.drop i = rdOf ByteArray.empty l (i : Int) :: l.drop (i + 1) := by
      rw [List.drop_eq_getElem_cons (by omega : i < l.length)]
      simp [rdOf, List.getD_eq_getElem?_getD, List.getElem?_eq_getElem (show i < l.length by omega)]
    by_cases e : n.toList = (rdOf ByteArray.empty l (i : Int)).toList
    · have e2 : rdOf ByteArray.empty l (i : Int) = n := by rw [tl, tl] at e; exact (key_inj e).symm
      refine ⟨i, Ev.step (f := fun _ => some (i : Int)) (fun k => ?_) (Ev.now _), .inr ⟨i, rfl, Nat.le_refl _, by omega, e2⟩⟩
      rw [slices_Index_string_string.l0, if_pos (by omega), if_pos (by omega), if_pos (by omega), if_pos e]
    · obtain ⟨r, hr, hc⟩ := idx_l0 l n hl d (i + 1) (by omega)
      refine ⟨r, Ev.step (fun k => ?_) hr, ?_⟩
      · rw [slices_Index_string_string.l0, if_pos (by omega), if_pos (by omega), if_pos (by omega), if_neg e, wrap_succ (by omega)]
      · rcases hc with ⟨h1, h2⟩ | ⟨j, h1, h2, h3, h4⟩
        · refine .inl ⟨h1, ?_⟩
          rw [hdr, List.mem_cons]
          rintro (h | h)
          · exact e (by rw [h])
          · exact h2 h
        · exact .inr ⟨j, h1, by omega, h3, h4⟩
theorem ev_idx (n : ByteArray) : ∃ r, Ev (fun k => slices_Index_string_string.f k dias n) r ∧ ((r = -1 ∧ n ∉ dias) ∨ ∃ j : Nat, r = j ∧ j < 6 ∧ dias.getD j ByteArray.empty = n) := by
  obtain ⟨r, hr, hc⟩ := idx_l0 dias n (by decide) 6 0 (by decide)
  refine ⟨r, hr, ?_⟩
  rcases hc with ⟨h1, h2⟩ | ⟨j, h1, _, h3, h4⟩
  · exact .inl ⟨h1, h2⟩
  · exact .inr ⟨j, h1, h3, by simpa [rdOf] using h4⟩
theorem indexByte_of : ∀ (a r : List UInt8) (c : UInt8), c ∉ a → Lib.indexByte (a ++ c :: r) c = (a.length : Int)
  | [], r, c, _ => by simp [Lib.indexByte]
  | b :: a, r, c, h => by
    have h1 := indexByte_of a r c (fun h' => h (List.mem_cons_of_mem _ h'))
    have hb : (b == c) = false := by
      rw [beq_eq_false_iff_ne]
      intro e
      exact h (e ▸ List.mem_cons_self)
    have hn : ((a.length : Int) == -1) = false := by rw [beq_eq_false_iff_ne]; omega
    simp only [List.cons_append, Lib.indexByte, hb, h1, hn, Bool.false_eq_true, if_false, List.length_cons]
    omega
theorem cut_of (s : ByteArray) (a r : List UInt8) (c : UInt8) (h : bl s = a ++ c :: r) (hc : c ∉ a) : cutB s c = (⟨a.toArray⟩, ⟨r.toArray⟩, true) := by
  have hi : Lib.indexByte s.data.toList c = (a.length : Int) := by rw [show s.data.toList = a ++ c :: r from h]; exact indexByte_of a r c hc
  have hl := bl_len s
  unfold cutB
  rw [hi, if_neg (by omega), Int.toNat_natCast]
  have e1 : s.extract 0 a.length = ⟨a.toArray⟩ := by
    apply key_inj
    rw [show (s.extract 0 a.length).data.toList = _ from bl_extract s _ _, h]
    simp
  have e2 : s.extract (a.length + 1) s.size = ⟨r.toArray⟩ := by
    apply key_inj
    rw [show (s.extract (a.length + 1) s.size).data.toList = _ from bl_extract s _ _, h, ← hl, h]
    simp
    exact List.take_of_length_le (by omega)
  rw [e1, e2]
theorem cut_true (s : ByteArray) (c : UInt8) (h : (cutB s c).2.2 = true) : bl s = bl (cutB s c).1 ++ c :: bl (cutB s c).2.1 ∧ (cutB s c).1.size < s.size := by
  rcases indexByte_lt s c with hlt | hlt
  · rcases Int.lt_or_le (Lib.indexByte s.data.toList c) 0 with h1 | h1
    · unfold cutB at h; rw [if_pos h1] at h; cases h
    · obtain ⟨i, hi⟩ : ∃ i : Nat, Lib.indexByte s.data.toList c = i := ⟨_, (Int.toNat_of_nonneg h1).symm⟩
      have hg := (Lib.indexByte_some hi).1
      have hl := bl_len s
      have hil : i < (bl s).length := (List.getElem?_eq_some_iff.1 hg).1
      have hgi : (bl s)[i] = c := (List.getElem?_eq_some_iff.1 hg).2
      have e : cutB s c = (s.extract 0 i, s.extract (i + 1) s.size, true) := by unfold cutB; rw [hi, if_neg (by omega), Int.toNat_natCast]
      rw [e]
      refine ⟨?_, ?_⟩
      · rw [show bl (s.extract 0 i) = _ from bl_extract s _ _, show bl (s.extract (i + 1) s.size) = _ from bl_extract s _ _, List.drop_zero, Nat.sub_zero]
        rw [List.take_of_length_le (l := (bl s).drop (i + 1)) (by simp only [List.length_drop, hl]; omega)]
        conv => lhs; rw [← List.take_append_drop i (bl s), List.drop_eq_getElem_cons hil, hgi]
      · simp only [ByteArray.size_extract]; omega
  · unfold cutB at h; rw [if_pos (by omega)] at h; cases h
theorem dias_fresh : ∀ j, j < 6 → (10 : UInt8) ∉ (dias.getD j ByteArray.empty).data.toList ∧ (32 : UInt8) ∉ (dias.getD j ByteArray.empty).data.toList ∧ ∀ i, i < 6 → dias.getD i ByteArray.empty = dias.getD j ByteArray.empty → i = j := by
  decide +kernel
def tailP : List UInt8 := [32, 112, 108, 97, 110]
/-- What Parse comes to: where it is no fault, the text is the format's. -/
theorem parse_any (s : ByteArray) : ∃ r : Int × List S61 × Int × Int, Ev (fun k => plan_Parse.f k s) r ∧ (r.2.2.1 = 0 → s.size ≤ 65536 ∧ 1 ≤ r.1 ∧ r.1 < 6 ∧ fitGo none r.2.1 = true ∧ r.2.1.length ≤ 65536 ∧ bl s = fmtL r.1 r.2.1) := by
  by_cases hs : (65536 : Int) < (s.size : Int)
  · refine ⟨(0, [], 12, 65536), ?_, fun h => by simp at h⟩
    unfold plan_Parse.f
    exact Ev.congr (f := fun _ => some (0, [], 12, 65536)) (fun k => if_pos hs) (Ev.now _)
  · obtain ⟨d, hd, hdc⟩ := ev_idx (cutB (cutB s 10).1 32).1
    have hle : (cutB s 10).1.size ≤ 65536 := Nat.le_trans (cutB_size s 10) (by omega)
    have key : ∀ r, Ev (fun k => if isHead (cutB s 10).1 (cutB (cutB s 10).1 32) d = true then
        if (cutB s 10).2.2 = true then
          (readGo k k ⟨s, wrap64 (((cutB s 10).1.size : Int) + 1), 0, 0⟩ ⟨#[]⟩ []).bind fun q =>
            if q.2.e = 0 then some (d, q.1, 0, 0) else some (0, [], q.2.e, q.2.ea)
        else some (0, [], 11, (s.size : Int))
      else some (0, [], 15, 0)) r → Ev (fun k => plan_Parse.f k s) r := by
      intro r hr
      unfold plan_Parse.f
      exact Ev.congr (f := fun k => (slices_Index_string_string.f k dias (cutB (cutB s 10).1 32).1).bind fun d => if isHead (cutB s 10).1 (cutB (cutB s 10).1 32) d = true then
        if (cutB s 10).2.2 = true then
          (readGo k k ⟨s, wrap64 (((cutB s 10).1.size : Int) + 1), 0, 0⟩ ⟨#[]⟩ []).bind fun q =>
            if q.2.e = 0 then some (d, q.1, 0, 0) else some (0, [], q.2.e, q.2.ea)
        else some (0, [], 11, (s.size : Int))
      else some (0, [], 15, 0)) (fun k => if_neg hs) (Ev.bind hd hr)
    by_cases hh : isHead (cutB s 10).1 (cutB (cutB s 10).1 32) d = true
    · by_cases he : (cutB s 10).2.2 = true
      · obtain ⟨c1, c2⟩ := cut_true s 10 he
        have hlen : (bl (cutB s 10).1).length = (cutB s 10).1.size := bl_len _
        have hdrop : (bl s).drop ((cutB s 10).1.size + 1) = bl (cutB s 10).2.1 := by
          rw [c1, ← hlen, show (bl (cutB s 10).1).length + 1 = (bl (cutB s 10).1 ++ [10]).length by simp, show bl (cutB s 10).1 ++ 10 :: bl (cutB s 10).2.1 = (bl (cutB s 10).1 ++ [10]) ++ bl (cutB s 10).2.1 by simp, List.drop_left]
        obtain ⟨r, hr, hE⟩ := read_any s (by omega) 0 ((cutB s 10).1.size + 1) (s.size - ((cutB s 10).1.size + 1)) ((cutB s 10).1.size + 1) ⟨#[]⟩ [] (by omega) (by simp) (by simp) rfl (by simp [namesOf])
        have hev := hr.ev
        rw [← wrap_succ (by omega)] at hev
        by_cases h0 : r.2.e = 0
        · refine ⟨(d, r.1, 0, 0), key _ ?_, fun _ => ?_⟩
          · simp only [if_pos hh, if_pos he]
            exact Ev.bind hev (Ev.congr (f := fun _ => some (d, r.1, 0, 0)) (fun k => if_pos h0) (Ev.now _))
          · obtain ⟨_, e2, e3, e4⟩ := hE h0
            simp only [isHead, Bool.not_eq_true', Bool.or_eq_false_iff, decide_eq_false_iff_not, Bool.not_eq_false'] at hh
            obtain ⟨⟨hd1, hd2⟩, hd3⟩ := hh
            rcases hdc with ⟨hm, _⟩ | ⟨j, rfl, hj, hname⟩
            · omega
            · refine ⟨by omega, by omega, by show (j : Int) < 6; omega, e3, by show r.1.length ≤ 65536; omega, ?_⟩
              have hline : bl (cutB s 10).1 = bl (cutB (cutB s 10).1 32).1 ++ tailP := by
                have h5 := eq_of_beq hd3
                rw [tl, tl] at h5
                rw [show bl (cutB s 10).1 = _ from h5]
                simp [planT, tailP, bl]
              show bl s = headOf (j : Int) ++ r.1.flatMap rowOf
              rw [← e2, hdrop]
              conv => lhs; rw [c1]
              rw [hline, headOf, Int.toNat_natCast, hname]
              simp [tailP, bl]
        · refine ⟨(0, [], r.2.e, r.2.ea), key _ ?_, fun h => absurd h h0⟩
          simp only [if_pos hh, if_pos he]
          exact Ev.bind hev (Ev.congr (f := fun _ => some (0, [], r.2.e, r.2.ea)) (fun k => if_neg h0) (Ev.now _))
      · refine ⟨(0, [], 11, (s.size : Int)), key _ ?_, fun h => by simp at h⟩
        simp only [if_pos hh, if_neg he]
        exact Ev.now _
    · refine ⟨(0, [], 15, 0), key _ ?_, fun h => by simp at h⟩
      simp only [if_neg hh]
      exact Ev.now _
theorem fit_first {l : List S61} (h : fitGo none l = true) : fitGo (some ⟨#[]⟩) l = true := by
  cases l with
  | nil => rfl
  | cons x l =>
    simp only [fitGo, Bool.and_eq_true, Bool.true_and] at h ⊢
    refine ⟨h.1, h.2.1, ?_, h.2.2⟩
    have hn := (word_ne h.1).1
    unfold lessB
    rw [show (⟨#[]⟩ : ByteArray).toList = [] by rw [tl]]
    cases hx : x.f0.toList with
    | nil => exact absurd hx hn
    | cons b r => rfl
/-- A plan's text, read. -/
theorem parse_good (n : Nat) (h1 : 1 ≤ n) (h6 : n < 6) (l : List S61) (hf : fitGo none l = true) (s : ByteArray) (hs : s.size ≤ 65536) (hb : bl s = fmtL (n : Int) l) : Ev (fun k => plan_Parse.f k s) ((n : Int), l, 0, 0) := by
  obtain ⟨f1, f2, f3⟩ := dias_fresh n h6
  have e0 : bl s = ((dias.getD n ByteArray.empty).data.toList ++ tailP) ++ 10 :: l.flatMap rowOf := by rw [hb]; simp [fmtL, headOf, tailP]
  have c1 : cutB s 10 = (⟨((dias.getD n ByteArray.empty).data.toList ++ tailP).toArray⟩, ⟨(l.flatMap rowOf).toArray⟩, true) := cut_of s _ _ 10 e0 (by
    rw [List.mem_append]
    rintro (h | h)
    · exact f1 h
    · revert h; decide)
  have c2 : cutB ⟨((dias.getD n ByteArray.empty).data.toList ++ tailP).toArray⟩ 32 = (⟨(dias.getD n ByteArray.empty).data.toList.toArray⟩, ⟨#[112, 108, 97, 110]⟩, true) := cut_of _ _ [112, 108, 97, 110] 32 (by simp [bl, tailP]) f2
  have e3 : (⟨(dias.getD n ByteArray.empty).data.toList.toArray⟩ : ByteArray) = dias.getD n ByteArray.empty := by simp
  rw [e3] at c2
  obtain ⟨d, hd, hdc⟩ := ev_idx (dias.getD n ByteArray.empty)
  have hdn : d = (n : Int) := by
    rcases hdc with ⟨_, h⟩ | ⟨j, rfl, hj, hjn⟩
    · exact absurd (by rw [List.getD_eq_getElem?_getD, List.getElem?_eq_getElem (show n < dias.length from h6)]; exact List.getElem_mem _) h
    · rw [f3 j hj hjn]
  subst hdn
  have hsz : (⟨((dias.getD n ByteArray.empty).data.toList ++ tailP).toArray⟩ : ByteArray).size = ((dias.getD n ByteArray.empty).data.toList ++ tailP).length := by
    show (((dias.getD n ByteArray.empty).data.toList ++ tailP).toArray).size = _
    rw [List.size_toArray]
  have hl := bl_len s
  have hlen : ((dias.getD n ByteArray.empty).data.toList ++ tailP).length + 1 ≤ s.size := by
    rw [← hl, e0]
    simp only [List.length_append, List.length_cons]
    omega
  have hG := read_good s hs 0 l (((dias.getD n ByteArray.empty).data.toList ++ tailP).length + 1) ⟨#[]⟩ [] hlen (by simp) (by
    rw [e0, show ((dias.getD n ByteArray.empty).data.toList ++ tailP).length + 1 = (((dias.getD n ByteArray.empty).data.toList ++ tailP) ++ [10]).length from (List.length_append (bs := [10])).symm, show ((dias.getD n ByteArray.empty).data.toList ++ tailP) ++ 10 :: l.flatMap rowOf = (((dias.getD n ByteArray.empty).data.toList ++ tailP) ++ [10]) ++ l.flatMap rowOf by simp, List.drop_left]) (fit_first hf)
  have hev := hG.ev
  rw [← wrap_succ (by omega)] at hev
  have hhead : isHead (⟨((dias.getD n ByteArray.empty).data.toList ++ tailP).toArray⟩ : ByteArray) (dias.getD n ByteArray.empty, ⟨#[112, 108, 97, 110]⟩, true) (n : Int) = true := by
    unfold isHead
    have a1 : decide ((n : Int) < 1) = false := decide_eq_false (by omega)
    have a2 : ((⟨#[112, 108, 97, 110]⟩ : ByteArray).toList == [112, 108, 97, 110]) = true := by rw [tl]; rfl
    have a3 : ((⟨((dias.getD n ByteArray.empty).data.toList ++ tailP).toArray⟩ : ByteArray).toList == (dias.getD n ByteArray.empty ++ planT).toList) = true := by
      rw [tl, tl, beq_iff_eq]
      simp [planT, tailP]
    rw [a1, a2, a3]
    rfl
  unfold plan_Parse.f
  refine Ev.congr (f := fun k => (slices_Index_string_string.f k dias (dias.getD n ByteArray.empty)).bind fun d => if isHead (⟨((dias.getD n ByteArray.empty).data.toList ++ tailP).toArray⟩ : ByteArray) (dias.getD n ByteArray.empty, ⟨#[112, 108, 97, 110]⟩, true) d = true then
        (readGo k k ⟨s, wrap64 (((((dias.getD n ByteArray.empty).data.toList ++ tailP).length : Nat) : Int) + 1), 0, 0⟩ ⟨#[]⟩ []).bind fun q =>
            if q.2.e = 0 then some (d, q.1, 0, 0) else some (0, [], q.2.e, q.2.ea)
      else some (0, [], 15, 0)) (fun k => ?_) (Ev.bind hd ?_)
  · rw [if_neg (by omega), c1]
    dsimp only
    rw [c2]
    dsimp only
    rw [hsz]
    first | done | simp only [if_true]
  · simp only [if_pos hhead]
    exact Ev.bind hev (Ev.congr (f := fun _ => some ((n : Int), [] ++ l, 0, 0)) (fun k => if_pos rfl) (Ev.now _))
def fmtA (d : Int) (l : List S61) : ByteArray := if d < 1 then ⟨#[]⟩ else if 6 ≤ d then ⟨#[]⟩ else if fitGo none l = true then ⟨(fmtL d l).toArray⟩ else ⟨#[]⟩
theorem ev_format (d : Int) (l : List S61) (fl : fine l = true) : Ev (fun k => plan_Format.f k d l) (fmtA d l) := by
  have hl := fine_mem fl
  unfold plan_Format.f fmtA
  by_cases h1 : d < 1
  · simp only [if_pos h1]; exact Ev.now _
  · simp only [if_neg h1]
    have h6 : ((dias.length : Int) ≤ d) ↔ 6 ≤ d := by show ((6 : Nat) : Int) ≤ d ↔ 6 ≤ d; omega
    by_cases h2 : 6 ≤ d
    · simp only [if_pos h2, if_pos (h6.2 h2)]; exact Ev.now _
    · simp only [if_neg h2, if_neg (fun h => h2 (h6.1 h))]
      refine Ev.bind (ev_fit l (by omega) (fine_small fl)) ?_
      cases fitGo none l with
      | false => simp only [if_true, Bool.false_eq_true, if_false]; exact Ev.now _
      | true => simp only [Bool.true_eq_false, if_false, if_true, fl]; exact Ev.now _
theorem fit_fine {l : List S61} (h : fitGo none l = true) (hl : l.length ≤ 65536) : fine l = true := by
  obtain ⟨hw, _, _⟩ := fitGo_all h
  simp only [fine, small, Bool.and_eq_true, decide_eq_true_eq, List.all_eq_true]
  refine ⟨by omega, fun x hx => ?_⟩
  have h1 := (word_ne (hw x hx).1).2
  have h2 := (word_ne (hw x hx).2).2
  omega
theorem back_part (s : ByteArray) : Ev (fun k => (plan_Parse.f k s).bind fun bt => (if bt.2.2.1 = 0 then ((plan_Format.f k bt.1 bt.2.1).bind fun t => (if t.toList = s.toList then ((dovetaillaw32_awake.f k).bind fun u => (some u)) else (some false))) else ((dovetaillaw32_awake.f k).bind fun u => (some u)))) true := by
  obtain ⟨r, hr, hE⟩ := parse_any s
  refine Ev.bind hr ?_
  by_cases h : r.2.2.1 = 0
  · simp only [if_pos h]
    obtain ⟨h1, h2, h3, h4, h5, h6⟩ := hE h
    refine Ev.bind (ev_format r.1 r.2.1 (fit_fine h4 h5)) ?_
    have e : fmtA r.1 r.2.1 = s := by
      unfold fmtA
      rw [if_neg (by omega), if_neg (by omega), if_pos h4, ← h6]
    rw [e]
    simp only [if_true]
    exact Ev.bind ev_awake (Ev.now _)
  · simp only [if_neg h]
    exact Ev.bind ev_awake (Ev.now _)
theorem Pure.PlanBack (a0 : Int) (l1 : List S61) (a2 : ByteArray) (_w : (Lit.int .i64 a0).wf = true) (hb : wts wt61 l1 + (a2.size + 1) ≤ 1048576) : ∃ k, dovetaillaw32_PlanBack.f k a0 l1 a2 = some true := by
  refine Ev.rounds ?_
  have h1 := wts_length (wt := wt61) (fun a => by simp only [wt61]; omega) l1
  have f1 : fine l1 = true := by
    simp only [fine, small, Bool.and_eq_true, decide_eq_true_eq, List.all_eq_true]
    refine ⟨by omega, fun x hx => ?_⟩
    have := wts_mem (wt := wt61) hx
    simp only [wt61] at this
    omega
  have hj1 : Ev (fun k => dovetaillaw32_PlanBack.j1 k a2 false) true := Ev.step (fun k => by rw [dovetaillaw32_PlanBack.j1, if_neg (by simp)]) (back_part a2)
  have hj0 : ∀ t, Ev (fun k => dovetaillaw32_PlanBack.j0 k a0 l1 a2 t false) true := fun t => Ev.step (fun k => by rw [dovetaillaw32_PlanBack.j0, if_neg (by simp)]) (back_part a2)
  unfold dovetaillaw32_PlanBack.f
  refine Ev.bind (ev_format a0 l1 f1) ?_
  by_cases ht : (fmtA a0 l1).toList = []
  · simp only [if_pos ht]
    exact hj0 _
  · simp only [if_neg ht]
    by_cases hsz : ((fmtA a0 l1).size : Int) ≤ 65536
    · rw [decide_eq_true hsz]
      have hd1 : ¬ a0 < 1 := fun h => ht (by unfold fmtA; rw [if_pos h, tl])
      have hd2 : ¬ 6 ≤ a0 := fun h => ht (by unfold fmtA; rw [if_neg hd1, if_pos h, tl])
      have hft : fitGo none l1 = true := by
        cases hx : fitGo none l1 with
        | true => rfl
        | false => exact absurd (by unfold fmtA; rw [if_neg hd1, if_neg hd2, hx, if_neg (by simp), tl]) ht
      obtain ⟨n, rfl⟩ : ∃ n : Nat, a0 = n := ⟨a0.toNat, by omega⟩
      have hbl : bl (fmtA (n : Int) l1) = fmtL (n : Int) l1 := by
        unfold fmtA
        rw [if_neg hd1, if_neg hd2, if_pos hft]
      refine Ev.step (f := fun k => (plan_Parse.f k (fmtA (n : Int) l1)).bind fun bt306 => (if bt306.1 = (n : Int) then ((dovetailref23_PickRow.f k bt306.2.1 l1).bind fun t313 => (if t313 = true then (dovetaillaw32_PlanBack.j1 k a2 (!(bt306.2.2.1 == 0) || (!(bt306.2.2.2 == 0)))) else (dovetaillaw32_PlanBack.j1 k a2 true))) else (dovetaillaw32_PlanBack.j1 k a2 true))) (fun k => by rw [dovetaillaw32_PlanBack.j0, if_pos rfl]) ?_
      refine Ev.bind (parse_good n (by omega) (by omega) l1 hft _ (by omega) hbl) ?_
      simp only [if_true]
      refine Ev.bind (ev_same l1 (by omega)) ?_
      simp only [if_true]
      exact hj1
    · rw [decide_eq_false hsz]
      exact hj0 _
end Go.Proofs.Ytnjkdnbmpldokaa.planBack
