/- PlanChanges, in plain Lean: what changes, and changes done, are the document's. -/
import Derived.Test.YtnjkdnbmpldokaaPure
import Derived.Test.YtnjkdnbmpldokaaHMap
import Derived.Test.YtnjkdnbmpldokaaHMap
import Derived.Test.YtnjkdnbmpldokaaP11
import Derived.Test.YtnjkdnbmpldokaaP27
import Derived.Test.YtnjkdnbmpldokaaP29
import Derived.Test.YtnjkdnbmpldokaaP3
import Derived.Test.YtnjkdnbmpldokaaP30
import Derived.Test.YtnjkdnbmpldokaaP8
import Derived.Test.YtnjkdnbmpldokaaP9
import Derived.Test.YtnjkdnbmpldokaaPz
namespace Go.Proofs.Ytnjkdnbmpldokaa.planChanges
open Go.RowKit Go.Proofs.YtnjkdnbmpldokaaW.PrintWords Go.Proofs.YtnjkdnbmpldokaaB Go.Proofs.Ytnjkdnbmpldokaa.P
set_option linter.unusedSimpArgs false
theorem rdo_drop (l : List ByteArray) (i : Nat) (h : i < l.length) : l.drop i = rdOf ByteArray.empty l (i : Int) :: l.drop (i + 1) := by
  rw [List.drop_eq_getElem_cons h]
  simp [rdOf, List.getD_eq_getElem?_getD, List.getElem?_eq_getElem h]
theorem rdc_drop (l : List S42) (i : Nat) (h : i < l.length) : l.drop i = rd_T42 l (i : Int) :: l.drop (i + 1) := by
  rw [List.drop_eq_getElem_cons h]
  simp [rd_T42, List.getD_eq_getElem?_getD, List.getElem?_eq_getElem h]
theorem look_at_cons (x : S61) (l : List S61) (k : List UInt8) : P.look (x :: l) k = if k = x.f0.data.toList then x.f1.data.toList else P.look l k := by rw [look_cons]
theorem tl_inj {x y : ByteArray} : x.toList = y.toList ↔ x = y := by
  constructor
  · intro h; rw [tl, tl] at h; exact key_inj h
  · rintro rfl; rfl
/-- Find. -/
theorem find_l0 (l : List S61) (n : ByteArray) (hl : l.length < 4611686018427387904) : ∀ d i, i + d = l.length → ∃ b, Ev (fun k => dovetailref32_Find.l0 k l n (i : Int)) (lookB (l.drop i) n, b)
  | 0, i, h => by
    have h1 : l.drop i = [] := List.drop_eq_nil_of_le (by omega)
    refine ⟨false, Ev.step (f := fun _ => some (⟨#[]⟩, false)) (fun k => by rw [dovetailref32_Find.l0, if_neg (by omega)]) ?_⟩
    rw [h1]
    exact Ev.now _
  | d + 1, i, h => by
    rw [rd_drop l i (by omega)]
    by_cases e : ((rd_T61 l (i : Int)).f0).toList = n.toList
    · refine ⟨true, Ev.step (f := fun _ => some ((rd_T61 l (i : Int)).f1, true)) (fun k => by rw [dovetailref32_Find.l0, if_pos (by omega), if_pos (by omega), if_pos e]) ?_⟩
      have e2 : lookB (rd_T61 l (i : Int) :: l.drop (i + 1)) n = (rd_T61 l (i : Int)).f1 := by
        apply key_inj
        rw [← tl, tl_look, look_at_cons, if_pos (by rw [← tl, ← tl, e])]
      rw [e2]
      exact Ev.now _
    · obtain ⟨b, hb⟩ := find_l0 l n hl d (i + 1) (by omega)
      refine ⟨b, Ev.step (fun k => by rw [dovetailref32_Find.l0, if_pos (by omega), if_pos (by omega), if_neg e, wrap_succ (by omega)]) ?_⟩
      have e2 : lookB (rd_T61 l (i : Int) :: l.drop (i + 1)) n = lookB (l.drop (i + 1)) n := by
        apply key_inj
        rw [← tl, ← tl, tl_look, tl_look, look_at_cons, if_neg (by rw [← tl, ← tl]; exact fun h => e h.symm)]
      rw [e2]
      exact hb
theorem ev_find (l : List S61) (n : ByteArray) (hl : l.length < 4611686018427387904) : ∃ b, Ev (fun k => dovetailref32_Find.f k l n) (lookB l n, b) := find_l0 l n hl l.length 0 (by omega)
/-- put: a name into names that rise. -/
def putP (s : ByteArray) : Bool → List ByteArray → List ByteArray
  | done, [] => if done then [] else [s]
  | done, x :: l => if done then x :: putP s true l else if lessB s x then s :: x :: putP s true l else x :: putP s false l
theorem putP_true (s : ByteArray) : ∀ l, putP s true l = l
  | [] => rfl
  | x :: l => by simp [putP, putP_true s l]
theorem putP_length (s : ByteArray) : ∀ b l, (putP s b l).length ≤ l.length + 1
  | b, [] => by cases b <;> simp [putP]
  | b, x :: l => by
    have h1 := putP_length s true l
    have h2 := putP_length s false l
    have h3 := putP_true s l
    cases b with
    | true => simp [putP, h3]
    | false =>
      simp only [putP, Bool.false_eq_true, if_false]
      split
      · simp [h3]
      · simp; omega
theorem put_l0 (l : List ByteArray) (s : ByteArray) (hl : l.length < 4398046511104) : ∀ d i (out : List ByteArray) (b : Bool), i + d = l.length → out.length ≤ i + 1 →
    ∀ r, (s ∈ l.drop i → r = l) → (s ∉ l.drop i → r = out ++ putP s b (l.drop i)) → Ev (fun k => dovetailref32_put.l0 k l s out b (i : Int)) r
  | 0, i, out, b, h, ho, r, hr1, hr2 => by
    have h1 : l.drop i = [] := List.drop_eq_nil_of_le (by omega)
    rw [h1] at hr2
    rw [hr2 (by simp)]
    refine Ev.step (f := fun _ => some (out ++ putP s b [])) (fun k => ?_) (Ev.now _)
    rw [dovetailref32_put.l0, if_neg (by omega)]
    cases b with
    | true => simp [putP]
    | false => rw [if_neg (by simp), if_pos (by omega)]; simp [putP]
  | d + 1, i, out, b, h, ho, r, hr1, hr2 => by
    rw [rdo_drop l i (by omega)] at hr1 hr2
    by_cases e : (rdOf ByteArray.empty l (i : Int)).toList = s.toList
    · rw [hr1 (by rw [tl_inj.1 e]; exact List.mem_cons_self)]
      refine Ev.step (f := fun _ => some l) (fun k => ?_) (Ev.now _)
      rw [dovetailref32_put.l0, if_pos (by omega), if_pos (by omega), if_pos e]
    · have hmem : (s ∈ rdOf ByteArray.empty l (i : Int) :: l.drop (i + 1)) ↔ s ∈ l.drop (i + 1) := by
        rw [List.mem_cons]
        constructor
        · rintro (h | h)
          · exact absurd (tl_inj.2 h.symm) e
          · exact h
        · exact .inr
      simp only [hmem] at hr1 hr2
      cases b with
      | true =>
        have ih := put_l0 l s hl d (i + 1) (out ++ [rdOf ByteArray.empty l (i : Int)]) true (by omega) (by simp; omega) r hr1 (fun h => by rw [hr2 h]; simp [putP])
        refine Ev.step (fun k => ?_) ih
        rw [dovetailref32_put.l0, if_pos (by omega), if_pos (by omega), if_neg e, if_pos rfl, if_pos (by omega), wrap_succ (by omega)]
      | false =>
        by_cases hb : lessB s (rdOf ByteArray.empty l (i : Int)) = true
        · have hln : out.length ≤ l.length := by omega
          have ih := put_l0' l s hl d (i + 1) (out ++ [s] ++ [rdOf ByteArray.empty l (i : Int)]) (by omega) (by simp; omega) r hr1 (fun h => by rw [hr2 h]; simp [putP, hb])
          refine Ev.step (fun k => ?_) ih
          rw [dovetailref32_put.l0, if_pos (by omega), if_pos (by omega), if_neg e, if_neg (by simp), if_pos (show Op.bytesLess _ _ = true from hb), if_pos (by omega), Option.bind_some, if_pos (by simp; omega), wrap_succ (by omega)]
        · have ih := put_l0 l s hl d (i + 1) (out ++ [rdOf ByteArray.empty l (i : Int)]) false (by omega) (by simp; omega) r hr1 (fun h => by rw [hr2 h]; simp [putP, hb])
          refine Ev.step (fun k => ?_) ih
          rw [dovetailref32_put.l0, if_pos (by omega), if_pos (by omega), if_neg e, if_neg (by simp), if_neg (show ¬ Op.bytesLess _ _ = true from hb), if_pos (by omega), wrap_succ (by omega)]
where
  put_l0' (l : List ByteArray) (s : ByteArray) (hl : l.length < 4398046511104) : ∀ d i (out : List ByteArray), i + d = l.length → out.length ≤ i + 2 →
    ∀ r, (s ∈ l.drop i → r = l) → (s ∉ l.drop i → r = out ++ putP s true (l.drop i)) → Ev (fun k => dovetailref32_put.l0 k l s out true (i : Int)) r
  | 0, i, out, h, ho, r, hr1, hr2 => by
    have h1 : l.drop i = [] := List.drop_eq_nil_of_le (by omega)
    rw [h1] at hr2
    rw [hr2 (by simp)]
    refine Ev.step (f := fun _ => some (out ++ putP s true [])) (fun k => ?_) (Ev.now _)
    rw [dovetailref32_put.l0, if_neg (by omega)]
    simp [putP]
  | d + 1, i, out, h, ho, r, hr1, hr2 => by
    rw [rdo_drop l i (by omega)] at hr1 hr2
    by_cases e : (rdOf ByteArray.empty l (i : Int)).toList = s.toList
    · rw [hr1 (by rw [tl_inj.1 e]; exact List.mem_cons_self)]
      refine Ev.step (f := fun _ => some l) (fun k => ?_) (Ev.now _)
      rw [dovetailref32_put.l0, if_pos (by omega), if_pos (by omega), if_pos e]
    · have hmem : (s ∈ rdOf ByteArray.empty l (i : Int) :: l.drop (i + 1)) ↔ s ∈ l.drop (i + 1) := by
        rw [List.mem_cons]
        constructor
        · rintro (h | h)
          · exact absurd (tl_inj.2 h.symm) e
          · exact h
        · exact .inr
      simp only [hmem] at hr1 hr2
      have ih := put_l0' l s hl d (i + 1) (out ++ [rdOf ByteArray.empty l (i : Int)]) (by omega) (by simp; omega) r hr1 (fun h => by rw [hr2 h]; simp [putP])
      refine Ev.step (fun k => ?_) ih
      rw [dovetailref32_put.l0, if_pos (by omega), if_pos (by omega), if_neg e, if_pos rfl, if_pos (by omega), wrap_succ (by omega)]
theorem putP_mem (s : ByteArray) : ∀ (l : List ByteArray) (x : ByteArray), x ∈ putP s false l ↔ x ∈ l ∨ x = s
  | [], x => by simp [putP]
  | y :: l, x => by
    simp only [putP, Bool.false_eq_true, if_false]
    split
    · rw [putP_true]; simp only [List.mem_cons]; grind
    · rw [List.mem_cons, putP_mem s l x, List.mem_cons]; grind
theorem putP_rising (s : ByteArray) : ∀ (l : List ByteArray), l.Pairwise BLt → s ∉ l → (putP s false l).Pairwise BLt
  | [], _, _ => by simp [putP]
  | y :: l, hp, hs => by
    obtain ⟨h1, h2⟩ := List.pairwise_cons.1 hp
    simp only [putP, Bool.false_eq_true, if_false]
    split
    · rename_i hb
      rw [putP_true]
      have hb' := (lessB_iff _ _).1 hb
      refine List.pairwise_cons.2 ⟨fun z hz => ?_, hp⟩
      rcases List.mem_cons.1 hz with rfl | hz
      · exact hb'
      · exact hb'.trans (h1 z hz)
    · rename_i hb
      refine List.pairwise_cons.2 ⟨fun z hz => ?_, putP_rising s l h2 (fun h => hs (List.mem_cons_of_mem _ h))⟩
      rw [putP_mem] at hz
      rcases hz with hz | rfl
      · exact h1 z hz
      · rcases BLt.total y z with h | h | h
        · exact h
        · exact absurd (by rw [h]; exact List.mem_cons_self) hs
        · exact absurd ((lessB_iff _ _).2 h) hb
theorem ev_put (l : List ByteArray) (s : ByteArray) (hl : l.length < 4398046511104) (hp : l.Pairwise BLt) : ∃ r, Ev (fun k => dovetailref32_put.f k l s) r ∧ r.Pairwise BLt ∧ (∀ x, x ∈ r ↔ x ∈ l ∨ x = s) ∧ r.length ≤ l.length + 1 := by
  have h := fun r => put_l0 l s hl l.length 0 [] false (by omega) (by simp) r
  simp only [List.drop_zero, List.nil_append] at h
  by_cases hm : s ∈ l
  · exact ⟨l, h l (fun _ => rfl) (fun e => absurd hm e), hp, fun x => ⟨.inl, fun h => h.elim id (fun e => e ▸ hm)⟩, by omega⟩
  · exact ⟨_, h _ (fun e => absurd e hm) (fun _ => rfl), putP_rising s l hp hm, putP_mem s l, putP_length s false l⟩
/-- The document's names. -/
theorem diff_l2 (a b : List S61) (ha : a.length < 4611686018427387904) (hb : b.length < 4611686018427387904) (ns : List ByteArray) (hn : ns.length < 2000000000000) : ∀ d i (out : List S42), i + d = ns.length → out.length ≤ i →
    Ev (fun k => dovetailref32_Diff.l2 k a b ns out (i : Int)) (out ++ diffs a b (ns.drop i))
  | 0, i, out, h, ho => by
    have h1 : ns.drop i = [] := List.drop_eq_nil_of_le (by omega)
    rw [h1]
    refine Ev.step (f := fun _ => some (out ++ diffs a b [])) (fun k => ?_) (Ev.now _)
    rw [dovetailref32_Diff.l2, if_neg (by omega)]
    simp [diffs]
  | d + 1, i, out, h, ho => by
    rw [rdo_drop ns i (by omega)]
    obtain ⟨b1, e1⟩ := ev_find a (rdOf ByteArray.empty ns (i : Int)) ha
    obtain ⟨b2, e2⟩ := ev_find b (rdOf ByteArray.empty ns (i : Int)) hb
    refine Ev.step (f := fun k => (dovetailref32_Find.f k a (rdOf ByteArray.empty ns (i : Int))).bind fun u => (dovetailref32_Find.f k b (rdOf ByteArray.empty ns (i : Int))).bind fun v => if u.1.toList = v.1.toList then dovetailref32_Diff.l2 k a b ns out ((i + 1 : Nat) : Int) else dovetailref32_Diff.l2 k a b ns (out ++ [⟨rdOf ByteArray.empty ns (i : Int), u.1, v.1⟩]) ((i + 1 : Nat) : Int)) (fun k => ?_) ?_
    · rw [dovetailref32_Diff.l2, if_pos (by omega), if_pos (by omega), wrap_succ (by omega)]
      simp only [if_pos (show out.length < 2932031007402 by omega)]
    · refine Ev.bind e1 (Ev.bind e2 ?_)
      simp only [diffs]
      by_cases hd : (lookB a (rdOf ByteArray.empty ns (i : Int))).toList = (lookB b (rdOf ByteArray.empty ns (i : Int))).toList
      · simp only [if_pos hd]
        exact diff_l2 a b ha hb ns hn d (i + 1) out (by omega) (by omega)
      · simp only [if_neg hd]
        have := diff_l2 a b ha hb ns hn d (i + 1) (out ++ [⟨rdOf ByteArray.empty ns (i : Int), lookB a (rdOf ByteArray.empty ns (i : Int)), lookB b (rdOf ByteArray.empty ns (i : Int))⟩]) (by omega) (by simp; omega)
        simpa using this
theorem diff_l1 (a b : List S61) (ha : a.length ≤ 4194304) (hb : b.length ≤ 4194304) : ∀ d i (ns : List ByteArray), i + d = b.length → ns.length ≤ a.length + i → ns.Pairwise BLt → (∀ x, x ∈ ns ↔ x ∈ namesOf a ∨ x ∈ (namesOf b).take i) →
    Ev (fun k => dovetailref32_Diff.l1 k a b ns (i : Int)) (diffs a b (both a b))
  | 0, i, ns, h, hl, hp, hm => by
    have e : ns = both a b := rising_ext hp (uniq_sorted _) (fun x => by rw [hm, both, uniq_mem, List.mem_append, List.take_of_length_le (by simp [namesOf]; omega)])
    subst e
    refine Ev.step (fun k => ?_) (diff_l2 a b (by omega) (by omega) (both a b) (by omega) (both a b).length 0 [] (by omega) (by simp))
    rw [dovetailref32_Diff.l1, if_neg (by omega)]
    rfl
  | d + 1, i, ns, h, hl, hp, hm => by
    obtain ⟨r, h1, h2, h3, h4⟩ := ev_put ns ((rd_T61 b (i : Int)).f0) (by omega) hp
    refine Ev.step (f := fun k => (dovetailref32_put.f k ns ((rd_T61 b (i : Int)).f0)).bind fun t => dovetailref32_Diff.l1 k a b t ((i + 1 : Nat) : Int)) (fun k => ?_) (Ev.bind h1 (diff_l1 a b ha hb d (i + 1) r (by omega) (by omega) h2 (fun x => ?_)))
    · rw [dovetailref32_Diff.l1, if_pos (by omega), if_pos (by omega), wrap_succ (by omega)]
    · rw [h3, hm, List.take_add_one]
      have : (namesOf b)[i]? = some (rd_T61 b (i : Int)).f0 := by simp [namesOf, rd_T61, List.getD_eq_getElem?_getD, List.getElem?_eq_getElem (show i < b.length by omega)]
      rw [this]
      simp only [List.mem_append, Option.toList_some, List.mem_singleton]
      grind
theorem diff_l0 (a b : List S61) (ha : a.length ≤ 4194304) (hb : b.length ≤ 4194304) : ∀ d i (ns : List ByteArray), i + d = a.length → ns.length ≤ i → ns.Pairwise BLt → (∀ x, x ∈ ns ↔ x ∈ (namesOf a).take i) →
    Ev (fun k => dovetailref32_Diff.l0 k a b ns (i : Int)) (diffs a b (both a b))
  | 0, i, ns, h, hl, hp, hm => by
    refine Ev.step (fun k => ?_) (diff_l1 a b ha hb b.length 0 ns (by omega) (by omega) hp (fun x => ?_))
    · rw [dovetailref32_Diff.l0, if_neg (by omega)]; rfl
    · rw [hm, List.take_of_length_le (by simp [namesOf]; omega)]; simp
  | d + 1, i, ns, h, hl, hp, hm => by
    obtain ⟨r, h1, h2, h3, h4⟩ := ev_put ns ((rd_T61 a (i : Int)).f0) (by omega) hp
    refine Ev.step (f := fun k => (dovetailref32_put.f k ns ((rd_T61 a (i : Int)).f0)).bind fun t => dovetailref32_Diff.l0 k a b t ((i + 1 : Nat) : Int)) (fun k => ?_) (Ev.bind h1 (diff_l0 a b ha hb d (i + 1) r (by omega) (by omega) h2 (fun x => ?_)))
    · rw [dovetailref32_Diff.l0, if_pos (by omega), if_pos (by omega), wrap_succ (by omega)]
    · rw [h3, hm, List.take_add_one]
      have : (namesOf a)[i]? = some (rd_T61 a (i : Int)).f0 := by simp [namesOf, rd_T61, List.getD_eq_getElem?_getD, List.getElem?_eq_getElem (show i < a.length by omega)]
      rw [this]
      simp only [List.mem_append, Option.toList_some, List.mem_singleton]
theorem ev_rdiff (a b : List S61) (ha : a.length ≤ 4194304) (hb : b.length ≤ 4194304) : Ev (fun k => dovetailref32_Diff.f k a b) (diffs a b (both a b)) := diff_l0 a b ha hb a.length 0 [] (by omega) (by simp) (by simp) (by simp)
theorem ev_changes (l : List S42) (hl : l.length < 4611686018427387904) : Ev (fun k => dovetailref32_Changes.f k l l) true := by
  have key : ∀ d i, i + d = l.length → Ev (fun k => dovetailref32_Changes.l0 k l l (i : Int)) true := by
    intro d
    induction d with
    | zero =>
      intro i h
      refine Ev.step (f := fun _ => some true) (fun k => ?_) (Ev.now _)
      rw [dovetailref32_Changes.l0, if_neg (by omega)]
    | succ d ih =>
      intro i h
      refine Ev.step (fun k => ?_) (ih (i + 1) (by omega))
      rw [dovetailref32_Changes.l0, if_pos (by omega), if_pos (by omega), if_pos (by omega), if_neg (by simp), wrap_succ (by omega)]
  refine Ev.congr (fun k => ?_) (key l.length 0 (by omega))
  rw [dovetailref32_Changes.f, if_pos rfl]
  rfl
/-- set: a version put, or taken away. -/
def setP (n v : ByteArray) : Bool → List S61 → List S61
  | done, [] => if done then [] else [⟨n, v⟩]
  | done, x :: l => if x.f0.toList = n.toList then setP n v done l else if done then x :: setP n v true l else if lessB n x.f0 then ⟨n, v⟩ :: x :: setP n v true l else x :: setP n v false l
theorem setP_length (n v : ByteArray) : ∀ b l, (setP n v b l).length ≤ l.length + (if b then 0 else 1)
  | b, [] => by cases b <;> simp [setP]
  | b, x :: l => by
    have h1 := setP_length n v true l
    have h2 := setP_length n v false l
    simp only [if_true, Bool.false_eq_true, if_false] at h1 h2
    cases b with
    | true =>
      simp only [setP, if_true]
      split
      · simp; omega
      · simp; omega
    | false =>
      simp only [setP, Bool.false_eq_true, if_false]
      split
      · simp; omega
      · split <;> simp <;> omega
theorem set_l0 (l : List S61) (n v : ByteArray) (hl : l.length < 4000000000) : ∀ d i (out : List S61) (b : Bool), i + d = l.length → out.length ≤ i + 1 →
    Ev (fun k => dovetailref32_set.l0 k l n v out b (i : Int)) (out ++ setP n v b (l.drop i))
  | 0, i, out, b, h, ho => by
    have h1 : l.drop i = [] := List.drop_eq_nil_of_le (by omega)
    rw [h1]
    refine Ev.step (f := fun _ => some (out ++ setP n v b [])) (fun k => ?_) (Ev.now _)
    rw [dovetailref32_set.l0, if_neg (by omega)]
    cases b with
    | true => simp [setP]
    | false => rw [if_neg (by simp), if_pos (by omega)]; simp [setP]
  | d + 1, i, out, b, h, ho => by
    rw [rd_drop l i (by omega)]
    by_cases e : (rd_T61 l (i : Int)).f0.toList = n.toList
    · have ih := set_l0 l n v hl d (i + 1) out b (by omega) (by omega)
      refine Ev.step (fun k => ?_) (by rw [setP, if_pos e]; exact ih)
      rw [dovetailref32_set.l0, if_pos (by omega), if_pos (by omega), if_pos e, wrap_succ (by omega)]
    · cases b with
      | true =>
        have ih := set_l0 l n v hl d (i + 1) (out ++ [rd_T61 l (i : Int)]) true (by omega) (by simp; omega)
        refine Ev.step (fun k => ?_) (by rw [setP, if_neg e, if_pos rfl]; simpa only [List.append_assoc, List.cons_append, List.nil_append] using ih)
        rw [dovetailref32_set.l0, if_pos (by omega), if_pos (by omega), if_neg e, if_pos rfl, if_pos (by omega), wrap_succ (by omega)]
      | false =>
        by_cases hb : lessB n (rd_T61 l (i : Int)).f0 = true
        · have ih := set_l0' l n v hl d (i + 1) (out ++ [⟨n, v⟩] ++ [rd_T61 l (i : Int)]) (by omega) (by simp; omega)
          refine Ev.step (fun k => ?_) (by rw [setP, if_neg e, if_neg (by simp), if_pos hb]; simpa only [List.append_assoc, List.cons_append, List.nil_append] using ih)
          rw [dovetailref32_set.l0, if_pos (by omega), if_pos (by omega), if_neg e, if_neg (by simp), if_pos (show Op.bytesLess _ _ = true from hb), if_pos (by omega), Option.bind_some, if_pos (by simp; omega), wrap_succ (by omega)]
          simp
        · have ih := set_l0 l n v hl d (i + 1) (out ++ [rd_T61 l (i : Int)]) false (by omega) (by simp; omega)
          refine Ev.step (fun k => ?_) (by rw [setP, if_neg e, if_neg (by simp), if_neg hb]; simpa only [List.append_assoc, List.cons_append, List.nil_append] using ih)
          rw [dovetailref32_set.l0, if_pos (by omega), if_pos (by omega), if_neg e, if_neg (by simp), if_neg (show ¬ Op.bytesLess _ _ = true from hb), if_pos (by omega), wrap_succ (by omega)]
where
  set_l0' (l : List S61) (n v : ByteArray) (hl : l.length < 4000000000) : ∀ d i (out : List S61), i + d = l.length → out.length ≤ i + 2 →
    Ev (fun k => dovetailref32_set.l0 k l n v out true (i : Int)) (out ++ setP n v true (l.drop i))
  | 0, i, out, h, ho => by
    have h1 : l.drop i = [] := List.drop_eq_nil_of_le (by omega)
    rw [h1]
    refine Ev.step (f := fun _ => some (out ++ setP n v true [])) (fun k => ?_) (Ev.now _)
    rw [dovetailref32_set.l0, if_neg (by omega)]
    simp [setP]
  | d + 1, i, out, h, ho => by
    rw [rd_drop l i (by omega)]
    by_cases e : (rd_T61 l (i : Int)).f0.toList = n.toList
    · have ih := set_l0' l n v hl d (i + 1) out (by omega) (by omega)
      refine Ev.step (fun k => ?_) (by rw [setP, if_pos e]; exact ih)
      rw [dovetailref32_set.l0, if_pos (by omega), if_pos (by omega), if_pos e, wrap_succ (by omega)]
    · have ih := set_l0' l n v hl d (i + 1) (out ++ [rd_T61 l (i : Int)]) (by omega) (by simp; omega)
      refine Ev.step (fun k => ?_) (by rw [setP, if_neg e, if_pos rfl]; simpa only [List.append_assoc, List.cons_append, List.nil_append] using ih)
      rw [dovetailref32_set.l0, if_pos (by omega), if_pos (by omega), if_neg e, if_pos rfl, if_pos (by omega), wrap_succ (by omega)]
def setV (l : List S61) (n v : ByteArray) : List S61 := setP n v (v.toList == []) l
theorem ev_set (l : List S61) (n v : ByteArray) (hl : l.length < 4000000000) : Ev (fun k => dovetailref32_set.f k l n v) (setV l n v) := by
  have := set_l0 l n v hl l.length 0 [] (v.toList == []) (by omega) (by simp)
  rw [List.drop_zero, List.nil_append] at this
  exact this
/-- What lies in a row that a set leaves. -/
theorem setP_mem {n v : ByteArray} : ∀ {b : Bool} {l : List S61} {x : S61}, x ∈ setP n v b l → (x ∈ l ∧ x.f0 ≠ n) ∨ (b = false ∧ x = ⟨n, v⟩)
  | b, [], x, h => by cases b <;> simp_all [setP]
  | b, y :: l, x, h => by
    simp only [setP] at h
    split at h
    · rcases setP_mem h with h | h
      · exact .inl ⟨List.mem_cons_of_mem _ h.1, h.2⟩
      · exact .inr h
    · rename_i e
      have hy : y.f0 ≠ n := fun e' => e (by rw [e'])
      split at h
      · rcases List.mem_cons.1 h with rfl | h
        · exact .inl ⟨List.mem_cons_self, hy⟩
        · rcases setP_mem h with h | h
          · exact .inl ⟨List.mem_cons_of_mem _ h.1, h.2⟩
          · cases h.1
      · rename_i hbf
        have hb0 : b = false := by simpa using hbf
        split at h
        · rcases List.mem_cons.1 h with rfl | h
          · exact .inr ⟨hb0, rfl⟩
          · rcases List.mem_cons.1 h with rfl | h
            · exact .inl ⟨List.mem_cons_self, hy⟩
            · rcases setP_mem h with h | h
              · exact .inl ⟨List.mem_cons_of_mem _ h.1, h.2⟩
              · cases h.1
        · rcases List.mem_cons.1 h with rfl | h
          · exact .inl ⟨List.mem_cons_self, hy⟩
          · rcases setP_mem h with h | h
            · exact .inl ⟨List.mem_cons_of_mem _ h.1, h.2⟩
            · exact .inr ⟨hb0, h.2⟩
theorem setP_look {n v : ByteArray} : ∀ {b : Bool} {l : List S61} (k : List UInt8), P.look (setP n v b l) k = if k = n.data.toList then (if b then [] else v.data.toList) else P.look l k
  | b, [], k => by
    cases b with
    | true => simp [setP, P.look]
    | false =>
      simp only [setP, Bool.false_eq_true, if_false]
      rw [look_at_cons]
  | b, y :: l, k => by
    simp only [setP]
    split
    · rename_i e
      rw [setP_look k, look_at_cons]
      have e2 : y.f0.data.toList = n.data.toList := by rw [← tl, ← tl, e]
      rw [e2]
      by_cases hk : k = n.data.toList <;> simp [hk]
    · rename_i e
      have e2 : y.f0.data.toList ≠ n.data.toList := by rw [← tl, ← tl]; exact e
      split
      · rename_i hb
        rw [look_at_cons, look_at_cons, setP_look k]
        by_cases hk : k = n.data.toList
        · subst hk; rw [if_neg (fun h => e2 h.symm), if_pos rfl, if_pos rfl]; simp [hb]
        · rw [if_neg hk, if_neg hk]
      · rename_i hb
        have hb0 : b = false := by simpa using hb
        subst hb0
        split
        · rw [look_at_cons, look_at_cons, look_at_cons, setP_look k]
          by_cases hk : k = n.data.toList
          · rw [if_pos hk, if_pos hk]
          · rw [if_neg hk, if_neg hk, if_neg hk]
        · rw [look_at_cons, look_at_cons, setP_look k]
          by_cases hk : k = n.data.toList
          · subst hk; rw [if_neg (fun h => e2 h.symm), if_pos rfl, if_pos rfl]; simp
          · rw [if_neg hk, if_neg hk]
theorem names_cons (x : S61) (l : List S61) : namesOf (x :: l) = x.f0 :: namesOf l := rfl
theorem setP_rising {n v : ByteArray} : ∀ {b : Bool} {l : List S61}, (namesOf l).Pairwise BLt → (namesOf (setP n v b l)).Pairwise BLt
  | b, [], _ => by cases b <;> simp [setP, namesOf]
  | b, y :: l, hp => by
    obtain ⟨h1, h2⟩ := List.pairwise_cons.1 (show (y.f0 :: namesOf l).Pairwise BLt from hp)
    have hin : ∀ {b'} {z}, z ∈ namesOf (setP n v b' l) → z ∈ namesOf l ∨ (b' = false ∧ z = n) := by
      intro b' z hz
      obtain ⟨x, hx, rfl⟩ := List.mem_map.1 hz
      rcases setP_mem hx with h | h
      · exact .inl (List.mem_map.2 ⟨x, h.1, rfl⟩)
      · exact .inr ⟨h.1, by rw [h.2]⟩
    simp only [setP]
    split
    · exact setP_rising h2
    · rename_i e
      split
      · rw [names_cons]
        refine List.pairwise_cons.2 ⟨fun z hz => ?_, setP_rising h2⟩
        rcases hin hz with h | h
        · exact h1 z h
        · cases h.1
      · split
        · rename_i hb
          have hb' := (lessB_iff _ _).1 hb
          rw [names_cons, names_cons]
          refine List.pairwise_cons.2 ⟨fun z hz => ?_, List.pairwise_cons.2 ⟨fun z hz => ?_, setP_rising h2⟩⟩
          · rcases List.mem_cons.1 hz with rfl | hz
            · exact hb'
            · rcases hin hz with h | h
              · exact hb'.trans (h1 z h)
              · cases h.1
          · rcases hin hz with h | h
            · exact h1 z h
            · cases h.1
        · rename_i hb
          rw [names_cons]
          refine List.pairwise_cons.2 ⟨fun z hz => ?_, setP_rising h2⟩
          rcases hin hz with h | h
          · exact h1 z h
          · rw [h.2]
            rcases BLt.total y.f0 n with h | h | h
            · exact h
            · exact absurd (by rw [h]) e
            · exact absurd ((lessB_iff _ _).2 h) hb
/-- Changes done on a row. -/
def applyR : List S42 → List S61 → List S61 × Int
  | [], cur => (cur, 0)
  | c :: cs, cur => if (lookB cur c.f0).toList = c.f1.toList then
      if wordB c.f0 = true then (if c.f2.toList = [] then applyR cs (setV cur c.f0 c.f2) else if wordB c.f2 = true then applyR cs (setV cur c.f0 c.f2) else ([], 20)) else ([], 20)
    else ([], 35)
def smallCs (l : List S42) : Prop := ∀ c ∈ l, c.f0.size ≤ 4194304 ∧ c.f2.size ≤ 4194304
theorem setV_length (l : List S61) (n v : ByteArray) : (setV l n v).length ≤ l.length + 1 := by
  have := setP_length n v (v.toList == []) l
  unfold setV
  split at this <;> omega
theorem rapply_l0 (l : List S42) (hs : smallCs l) (hl : l.length ≤ 4194304) : ∀ d i (cur : List S61), i + d = l.length → cur.length ≤ 4194304 + i →
    Ev (fun k => dovetailref32_Apply.l0 k l cur (i : Int)) (applyR (l.drop i) cur)
  | 0, i, cur, h, hc => by
    have h1 : l.drop i = [] := List.drop_eq_nil_of_le (by omega)
    rw [h1]
    refine Ev.step (f := fun _ => some (cur, 0)) (fun k => ?_) (Ev.now _)
    rw [dovetailref32_Apply.l0, if_neg (by omega)]
  | d + 1, i, cur, h, hc => by
    rw [rdc_drop l i (by omega)]
    have hm : rd_T42 l (i : Int) ∈ l := by simp [rd_T42, List.getD_eq_getElem?_getD, List.getElem?_eq_getElem (show i < l.length by omega)]
    have hsc := hs _ hm
    have hlen := setV_length cur (rd_T42 l (i : Int)).f0 (rd_T42 l (i : Int)).f2
    have ih := rapply_l0 l hs hl d (i + 1) (setV cur (rd_T42 l (i : Int)).f0 (rd_T42 l (i : Int)).f2) (by omega) (by omega)
    obtain ⟨bb, hf⟩ := ev_find cur (rd_T42 l (i : Int)).f0 (by omega)
    refine Ev.step (f := fun k => (dovetailref32_Find.f k cur ((rd_T42 l (i : Int)).f0)).bind fun u => (if u.1.toList = ((rd_T42 l (i : Int)).f1).toList then ((dovetailref32_Word.f k ((rd_T42 l (i : Int)).f0)).bind fun t => (if t = true then (if ((rd_T42 l (i : Int)).f2).toList = ([] : List UInt8) then ((dovetailref32_set.f k cur ((rd_T42 l (i : Int)).f0) ((rd_T42 l (i : Int)).f2)).bind fun t238 => (dovetailref32_Apply.l0 k l t238 ((i + 1 : Nat) : Int))) else ((dovetailref32_Word.f k ((rd_T42 l (i : Int)).f2)).bind fun t242 => (if t242 = true then ((dovetailref32_set.f k cur ((rd_T42 l (i : Int)).f0) ((rd_T42 l (i : Int)).f2)).bind fun t245 => (dovetailref32_Apply.l0 k l t245 ((i + 1 : Nat) : Int))) else (some (([] : List S61), 20))))) else (some (([] : List S61), 20)))) else (some (([] : List S61), 35)))) (fun k => ?_) ?_
    · rw [dovetailref32_Apply.l0, if_pos (by omega), if_pos (by omega), wrap_succ (by omega)]
    · refine Ev.bind hf ?_
      simp only [applyR]
      by_cases h1 : (lookB cur (rd_T42 l (i : Int)).f0).toList = (rd_T42 l (i : Int)).f1.toList
      · simp only [if_pos h1]
        refine Ev.bind (ev_rword _ (by omega)) ?_
        by_cases h2 : wordB (rd_T42 l (i : Int)).f0 = true
        · simp only [if_pos h2]
          by_cases h3 : (rd_T42 l (i : Int)).f2.toList = []
          · simp only [if_pos h3]
            exact Ev.bind (ev_set _ _ _ (by omega)) ih
          · simp only [if_neg h3]
            refine Ev.bind (ev_rword _ (by omega)) ?_
            by_cases h4 : wordB (rd_T42 l (i : Int)).f2 = true
            · simp only [if_pos h4]
              exact Ev.bind (ev_set _ _ _ (by omega)) ih
            · simp only [if_neg h4]
              exact Ev.now _
        · simp only [if_neg h2]
          exact Ev.now _
      · simp only [if_neg h1]
        exact Ev.now _
theorem picks_back' {b : List S61} (hp : (namesOf b).Pairwise BLt) (hv : ∀ x ∈ b, x.f1.toList ≠ []) (U : List ByteArray) (hU : U.Pairwise BLt) (hin : ∀ n ∈ namesOf b, n ∈ U) : picksF (P.look b) U = b := by
  rw [picksF_eq]
  have e : U.filter (fun n => !((atB (P.look b) n).toList == [])) = namesOf b := by
    refine rising_ext (hU.filter _) hp (fun n => ?_)
    rw [List.mem_filter]
    constructor
    · rintro ⟨_, h2⟩
      have h3 : P.look b n.data.toList ≠ [] := by simpa [tl_at] using h2
      refine Classical.byContradiction (fun h4 => h3 (look_none (fun m hm e => h4 ?_)))
      rw [← key_inj e]
      exact hm
    · intro hn
      refine ⟨hin n hn, ?_⟩
      obtain ⟨x, hx, rfl⟩ := List.mem_map.1 hn
      rw [tl_at, P.look_at hp hx, ← tl]
      simpa using hv x hx
  rw [e]
  unfold namesOf
  rw [List.map_map]
  conv => rhs; rw [← List.map_id b]
  apply List.map_congr_left
  intro x hx
  have := lookB_at hp hx
  show (⟨x.f0, atB (P.look b) x.f0⟩ : S61) = x
  rw [show atB (P.look b) x.f0 = x.f1 from this]
theorem papply (hlim : 16777216 ≤ 16777216) : ∀ (cs : List S42) (cur : List S61) (all : List ByteArray), smallCs cs → all.length + cs.length ≤ 16777216 → (∀ n ∈ all, n.size ≤ 4194304) →
    (namesOf cur).Pairwise BLt → (∀ x ∈ cur, x.f1.toList ≠ []) → (∀ n ∈ namesOf cur, n ∈ all) → Ev (fun k => applyGo k cs (P.look cur) all) (applyR cs cur)
  | [], cur, all, _, hl, hz, hp, hv, hin => by
    refine Ev.congr (f := fun _ => some (cur, 0)) (fun k => ?_) (Ev.now _)
    rw [applyGo, ev_applyEnd _ _ (by simpa using hl) hz, picks_back' hp hv _ (uniq_sorted _) (fun n hn => (uniq_mem _ _).2 (hin n hn))]
  | c :: cs, cur, all, hs, hl, hz, hp, hv, hin => by
    have hsc := hs c List.mem_cons_self
    simp only [List.length_cons] at hl
    have hnext : ∀ (hw : c.f2.toList = [] ∨ wordB c.f2 = true), Ev (fun k => applyGo k cs (updF (P.look cur) c.f0 c.f2) (all ++ [c.f0])) (applyR cs (setV cur c.f0 c.f2)) := by
      intro _
      have e : updF (P.look cur) c.f0 c.f2 = P.look (setV cur c.f0 c.f2) := by
        funext k
        unfold setV updF
        rw [setP_look]
        by_cases hk : k = c.f0.data.toList
        · rw [if_pos hk, if_pos hk]
          by_cases h0 : c.f2.toList = []
          · rw [tl] at h0; simp [tl, h0]
          · simp [h0]
        · rw [if_neg hk, if_neg hk]
      rw [e]
      refine papply hlim cs _ _ (fun d hd => hs d (List.mem_cons_of_mem _ hd)) (by simp; omega) ?_ (setP_rising hp) ?_ ?_
      · intro n hn
        rcases List.mem_append.1 hn with hn | hn
        · exact hz n hn
        · have : n = c.f0 := by simpa using hn
          rw [this]; exact hsc.1
      · intro x hx
        rcases setP_mem hx with h | h
        · exact hv x h.1
        · have h0 : (c.f2.toList == []) = false := h.1
          rw [h.2]
          simpa using h0
      · intro n hn
        obtain ⟨x, hx, rfl⟩ := List.mem_map.1 hn
        rcases setP_mem hx with h | h
        · exact List.mem_append_left _ (hin _ (List.mem_map.2 ⟨x, h.1, rfl⟩))
        · rw [h.2]; simp
    refine Ev.congr (f := fun k => if (atB (P.look cur) c.f0).toList = c.f1.toList then (plan_word.f k c.f0).bind fun a => if a = false then some ([], 20) else if c.f2.toList = [] then applyGo k cs (updF (P.look cur) c.f0 c.f2) (all ++ [c.f0]) else (plan_word.f k c.f2).bind fun b => if b = false then some ([], 20) else applyGo k cs (updF (P.look cur) c.f0 c.f2) (all ++ [c.f0]) else some ([], 35)) (fun k => ?_) ?_
    · rw [applyGo, if_pos (by simp only [smallC, Bool.and_eq_true, decide_eq_true_eq]; omega)]
    · simp only [applyR]
      by_cases h1 : (lookB cur c.f0).toList = c.f1.toList
      · simp only [if_pos h1, if_pos (show (atB (P.look cur) c.f0).toList = c.f1.toList from h1)]
        refine Ev.bind (ev_word _ (by omega)) ?_
        cases h2 : wordB c.f0 with
        | false => simp only [if_true, Bool.false_eq_true, if_false]; exact Ev.now _
        | true =>
          simp only [Bool.true_eq_false, if_false, if_true]
          by_cases h3 : c.f2.toList = []
          · simp only [if_pos h3]
            exact hnext (.inl h3)
          · simp only [if_neg h3]
            refine Ev.bind (ev_word _ (by omega)) ?_
            cases h4 : wordB c.f2 with
            | false => simp only [if_true, Bool.false_eq_true, if_false]; exact Ev.now _
            | true => simp only [Bool.true_eq_false, if_false, if_true]; exact hnext (.inr h4)
      · simp only [if_neg h1, if_neg (show ¬ (atB (P.look cur) c.f0).toList = c.f1.toList from h1)]
        exact Ev.now _
theorem applyR_length : ∀ (cs : List S42) (cur : List S61), (applyR cs cur).1.length ≤ cur.length + cs.length
  | [], cur => by simp [applyR]
  | c :: cs, cur => by
    have h1 := applyR_length cs (setV cur c.f0 c.f2)
    have h2 := setV_length cur c.f0 c.f2
    simp only [applyR, List.length_cons]
    split
    · split
      · split
        · omega
        · split
          · omega
          · simp
      · simp
    · simp
theorem lens {l : List S61} (h : wts wt61 l ≤ 1048576) : fine l = true ∧ l.length ≤ 1048576 := by
  have h1 := wts_length (wt := wt61) (fun a => by simp only [wt61]; omega) l
  refine ⟨?_, by omega⟩
  simp only [fine, small, Bool.and_eq_true, decide_eq_true_eq, List.all_eq_true]
  refine ⟨by omega, fun x hx => ?_⟩
  have := wts_mem (wt := wt61) hx
  simp only [wt61] at this
  omega
theorem lensC {l : List S42} (h : wts wt42 l ≤ 1048576) : smallCs l ∧ l.length ≤ 1048576 := by
  have h1 := wts_length (wt := wt42) (fun a => by simp only [wt42]; omega) l
  refine ⟨fun x hx => ?_, by omega⟩
  have := wts_mem (wt := wt42) hx
  simp only [wt42] at this
  omega
def applyA (a : List S61) (l : List S42) : List S61 × Int := if fitGo none a = true then applyR l a else ([], 32)
theorem ev_papply (a : List S61) (l : List S42) (fa : fine a = true) (hs : smallCs l) (hl : l.length ≤ 4194304) : Ev (fun k => plan_Apply.f k a l) (applyA a l) := by
  have la := fine_mem fa
  unfold plan_Apply.f applyA
  refine Ev.bind (ev_fit a (by omega) (fine_small fa)) ?_
  cases ha : fitGo none a with
  | false => simp only [if_true, Bool.false_eq_true, if_false]; exact Ev.now _
  | true =>
    obtain ⟨wa, pa, _⟩ := fitGo_all ha
    refine Ev.congr (f := fun k => (plan_names.f k [a]).bind fun ns => applyGo k l (P.look a) ns) (fun k => by rw [if_neg (by simp), if_pos (by rw [fa]; simp; omega)]) ?_
    refine Ev.bind (ev_names1 a (by omega)) ?_
    rw [uniq_rising pa, if_pos rfl]
    exact papply (Nat.le_refl _) l a (namesOf a) hs (by simp [namesOf]; omega) (names_short fa) pa (fun x hx => (word_ne (wa x hx).2).1) (fun n hn => hn)
theorem ev_rapply (a : List S61) (l : List S42) (fa : fine a = true) (hs : smallCs l) (hl : l.length ≤ 4194304) : Ev (fun k => dovetailref32_Apply.f k a l) (applyA a l) := by
  have la := fine_mem fa
  unfold dovetailref32_Apply.f applyA
  refine Ev.bind (ev_rfit a (by omega) (fine_small fa)) ?_
  cases ha : fitGo none a with
  | false => simp only [Bool.false_eq_true, if_false]; exact Ev.now _
  | true =>
    refine Ev.congr (f := fun k => dovetailref32_Apply.l0 k l a 0) (fun k => by rw [if_pos rfl, if_pos (by simp; omega)]; rfl) ?_
    rw [if_pos rfl]
    exact rapply_l0 l hs hl l.length 0 a (by omega) (by omega)
theorem Pure.PlanChanges (l0 l1 : List S61) (l2 : List S42) (hb : wts wt61 l0 + wts wt61 l1 + wts wt42 l2 ≤ 1048576) : ∃ k, dovetaillaw32_PlanChanges.f k l0 l1 l2 = some true := by
  refine Ev.rounds ?_
  obtain ⟨f0, n0⟩ := lens (l := l0) (by omega)
  obtain ⟨f1, n1⟩ := lens (l := l1) (by omega)
  obtain ⟨s2, n2⟩ := lensC (l := l2) (by omega)
  have hd := diffs_length l0 l1 (both l0 l1)
  have hbl : (both l0 l1).length ≤ l0.length + l1.length := by
    have := uniq_length (namesOf l0 ++ namesOf l1)
    simpa [namesOf, both] using this
  have hal : (applyA l0 l2).1.length ≤ l0.length + l2.length := by
    unfold applyA
    split
    · exact applyR_length l2 l0
    · simp
  unfold dovetaillaw32_PlanChanges.f
  refine Ev.bind (ev_papply l0 l2 f0 s2 (by omega)) (Ev.bind (ev_rapply l0 l2 f0 s2 (by omega)) (Ev.bind (ev_diff l0 l1 f0 f1) (Ev.bind (ev_rdiff l0 l1 (by omega) (by omega)) (Ev.bind (ev_changes _ (by omega)) ?_))))
  simp only [if_true]
  refine Ev.bind (ev_same _ (by omega)) ?_
  simp only [if_true]
  exact Ev.bind ev_awake (Ev.now _)
end Go.Proofs.Ytnjkdnbmpldokaa.planChanges
