/- plan.Parse: a text read, its picks handed out by an iterator. -/
import Derived.RangeFuncIn
import Derived.RangeFuncSeq
import Derived.WalkKit
import Derived.OwnWalkIn
import Derived.TacticsInMore
import Derived.LoopNIn
import Derived.LoopIn
import Derived.Sort.LoopGhostIn
import Derived.RegionIn
import Derived.Shelf.RegionOpen
import Derived.Shelf.Abstract
import Derived.Carry
import Derived.Lib.Hide
import Derived.WalkMore
import Derived.Test.YtnjkdnbmpldokaaHPicks
import Derived.Test.YtnjkdnbmpldokaaHThere
import Derived.Test.YtnjkdnbmpldokaaHDiff
import Derived.Test.YtnjkdnbmpldokaaHFormat
import Derived.Test.YtnjkdnbmpldokaaTools
import Derived.Test.YtnjkdnbmpldokaaTools
import Derived.Test.YtnjkdnbmpldokaaTools
import Derived.Test.YtnjkdnbmpldokaaTools
import Derived.Test.YtnjkdnbmpldokaaP31
import Derived.Test.YtnjkdnbmpldokaaP35
import Derived.Test.YtnjkdnbmpldokaaP52
import Derived.Test.YtnjkdnbmpldokaaPz
namespace Go.Proofs.Ytnjkdnbmpldokaa.P
open Go.RowKit Go.Shelf Go.Proofs.YtnjkdnbmpldokaaW.PrintWords Go.Proofs.YtnjkdnbmpldokaaW.PrintLast Go.Proofs.YtnjkdnbmpldokaaW.PrintMore Go.Proofs.YtnjkdnbmpldokaaB
attribute [local go_sem] Oper.semAt_some
set_option linter.unusedVariables false
set_option linter.unusedSimpArgs false

def planW : ByteArray := ⟨#[112, 108, 97, 110]⟩
def planT : ByteArray := ⟨#[32, 112, 108, 97, 110]⟩
def isHead (line : ByteArray) (c : ByteArray × ByteArray × Bool) (d : Int) : Bool := !(decide (d < 1) || !(c.2.1.toList == [112, 108, 97, 110]) || !(line.toList == (c.1 ++ planT).toList))
def plan_Parse.f (k : Nat) (s : ByteArray) : Option (Int × List S61 × Int × Int) :=
  if (65536 : Int) < (s.size : Int) then some (0, [], 12, 65536) else
    (slices_Index_string_string.f k dias (cutB (cutB s 10).1 32).1).bind fun d =>
      if isHead (cutB s 10).1 (cutB (cutB s 10).1 32) d = true then
        if (cutB s 10).2.2 = true then
          (readGo k k ⟨s, wrap64 (((cutB s 10).1.size : Int) + 1), 0, 0⟩ ⟨#[]⟩ []).bind fun q =>
            if q.2.e = 0 then some (d, q.1, 0, 0) else some (0, [], q.2.e, q.2.ea)
        else some (0, [], 11, (s.size : Int))
      else some (0, [], 15, 0)
theorem readGo_mono2 (k : Nat) (q last acc) : LeO (readGo k k q last acc) (readGo (k + 1) (k + 1) q last acc) := readGo_mono k k q last acc
theorem plan_Parse.mono : ∀ a0 k, LeO (plan_Parse.f k a0) (plan_Parse.f (k + 1) a0) := by
  intro a0 k
  unfold plan_Parse.f
  exact LeO.ite (LeO.refl _) (LeO.bind (slices_Index_string_string.mono _ _ _) (fun _ => LeO.ite (LeO.ite (LeO.bind (readGo_mono2 _ _ _ _) (fun _ => LeO.refl _)) (LeO.refl _)) (LeO.refl _)))

/-- The result's cell, and what lies below. -/
structure Pr (w W : World) (rb : Nat) : Prop where
  hr : W.heap[rb]? = some (.cells #[.int .i64 0, .int .i64 0] 36)
  hb : Below w.heap.size w W
  hn : w.heap.size ≤ rb
section
variable {w W W' : World} {rb : Nat}
theorem Pr.drewN (h : Pr w W rb) (n : Nat) (e : W' = W.drewN n) : Pr w W' rb := by subst e; exact ⟨h.hr, pw_below_drewN h.hb n, h.hn⟩
theorem Pr.drawn (h : Pr w W rb) (hd : Drawn0 W W') : Pr w W' rb := by obtain ⟨n, e⟩ := hd.out; exact h.drewN n e
theorem Pr.below (h : Pr w W rb) (hb : Below W.heap.size W W') : Pr w W' rb := ⟨(hb.block rb (blk_lt h.hr)).trans h.hr, h.hb.trans (hb.mono (below_size h.hb)), h.hn⟩
theorem Pr.made (w : World) : Pr w (w.alloc (.cells #[.int .i64 0, .int .i64 0] 36)) w.heap.size := ⟨alloc_new _ _, (Below.refl _ w).alloc (Nat.le_refl _) _, Nat.le_refl _⟩
theorem Pr.c0 (h : Pr w W rb) : W.cell? ⟨rb, 0, none⟩ = some (.int .i64 0) := (blk_cell h.hr 0).trans rfl
theorem Pr.c1 (h : Pr w W rb) : W.cell? ⟨rb, 1, none⟩ = some (.int .i64 0) := (blk_cell h.hr 1).trans rfl
theorem Pr.f0 (h : Pr w W rb) (j : Nat) : W.frozen? ⟨rb, j, none⟩ = false := blk_frozen h.hr j
end
theorem cutB_size (s : ByteArray) (c : UInt8) : (cutB s c).1.size ≤ s.size := by
  unfold cutB
  split
  · exact Nat.le_refl _
  · simp [ByteArray.size_extract]; omega
theorem sizeF : (Try.prog.info? 36).map (·.size) = some 2 := by kernel_rfl
theorem Pr.set {w W : World} {rb : Nat} (h : Pr w W rb) (x y : Int) : ((W.setCell ⟨rb, 0, none⟩ (.int .i64 x)).setCell ⟨rb, 1, none⟩ (.int .i64 y)).heap[rb]? = some (.cells #[.int .i64 x, .int .i64 y] 36) ∧ Below w.heap.size w ((W.setCell ⟨rb, 0, none⟩ (.int .i64 x)).setCell ⟨rb, 1, none⟩ (.int .i64 y)) :=
  ⟨blk_put (blk_put h.hr 0 _ rfl) 1 _ rfl, (h.hb.setCell (p := ⟨rb, 0, none⟩) h.hn _).setCell (p := ⟨rb, 1, none⟩) h.hn _⟩
/-- What stands while the picks are handed out: the blocks of the frame, the row. -/
structure Jr (w W : World) (g rb : Nat) (rec : Loop) (acc : List S61) : Prop where
  hl : W.heap[g + 1 + 1 + 1 + 1 + 1]? = some (.loop rec)
  hd : W.heap[g + 1 + 1 + 1 + 1]? = some (.deferred (some []))
  hs : W.heap[g + 1 + 1 + 1]? = some (.cells #[.pointer (some ⟨g, 0, none⟩)] 79)
  hp : W.heap[g + 1]? = some (.cells #[.pointer (some ⟨g, 0, none⟩)] 79)
  hr : W.heap[rb]? = some (.cells #[.int .i64 0, .int .i64 0] 36)
  ha : ∃ vl, W.heap[g + 1 + 1]? = some (.cells #[vl] 22) ∧ Kd.R k61 61 W w.heap.size (fun k => g + 6 ≤ k) vl acc
  hn : rb < g
theorem Jr.size {w W : World} {g rb : Nat} {rec : Loop} {acc : List S61} (h : Jr w W g rb rec acc) : g + 6 ≤ W.heap.size := by
  have := (Array.getElem?_eq_some_iff.1 h.hl).1
  omega
theorem Jr.keep {w W W' : World} {g rb : Nat} {rec : Loop} {acc : List S61} (h : Jr w W g rb rec acc) (hk : KeepBut W W' g none) : Jr w W' g rb rec acc := by
  have sz := h.size
  have go : ∀ i, i < W.heap.size → i ≠ g → W'.heap[i]? = W.heap[i]? := fun i h1 h2 => hk.2 i h1 h2 (by simp)
  have hn := h.hn
  obtain ⟨vl, hv, hR⟩ := h.ha
  exact ⟨(go _ (by omega) (by omega)).trans h.hl, (go _ (by omega) (by omega)).trans h.hd, (go _ (by omega) (by omega)).trans h.hs, (go _ (by omega) (by omega)).trans h.hp, (go _ (by omega) (by omega)).trans h.hr,
    ⟨vl, (go _ (by omega) (by omega)).trans hv, Kd.R_keep hR hk (fun k hk => by omega)⟩, hn⟩
theorem Jr.put {w W : World} {g rb : Nat} {rec : Loop} {acc : List S61} (h : Jr w W g rb rec acc) (rec' : Loop) : Jr w (W.putObj (g + 1 + 1 + 1 + 1 + 1) (.loop rec')) g rb rec' acc := by
  have hn := h.hn
  obtain ⟨vl, hv, hR⟩ := h.ha
  exact ⟨putObj_same _ h.hl, (putObj_other _ (by omega)).trans h.hd, (putObj_other _ (by omega)).trans h.hs, (putObj_other _ (by omega)).trans h.hp, (putObj_other _ (by omega)).trans h.hr,
    ⟨vl, (putObj_other _ (by omega)).trans hv, Kd.R_step hR (fun k hk _ => putObj_other _ (by omega))⟩, hn⟩
theorem Jr.app {w W W3 : World} {g rb : Nat} {rec : Loop} {acc acc' : List S61} {vl v1 : Value} (h : Jr w W g rb rec acc) (hv : W.heap[g + 1 + 1]? = some (.cells #[vl] 22)) (ho : ∀ k, vl.ownBlock = some k → g + 6 ≤ k) (hg : W.grownBy W3 vl.ownBlock) (hR : Kd.R k61 61 W3 w.heap.size (fun k => g + 6 ≤ k) v1 acc') : Jr w (W3.setCell ⟨g + 1 + 1, 0, none⟩ v1) g rb rec acc' := by
  have sz := h.size
  have hn := h.hn
  have go : ∀ i, i < g + 6 → W3.heap[i]? = W.heap[i]? := fun i h1 => hg.block i (by omega) (fun e => by have := ho i e.symm; omega)
  have gs : ∀ i, i < g + 6 → i ≠ g + 1 + 1 → (W3.setCell ⟨g + 1 + 1, 0, none⟩ v1).heap[i]? = W.heap[i]? := fun i h1 h2 => (Below.heap_setCell W3 ⟨g + 1 + 1, 0, none⟩ v1 i h2).trans (go i h1)
  exact ⟨(gs _ (by omega) (by omega)).trans h.hl, (gs _ (by omega) (by omega)).trans h.hd, (gs _ (by omega) (by omega)).trans h.hs, (gs _ (by omega) (by omega)).trans h.hp, (gs _ (by omega) (by omega)).trans h.hr,
    ⟨v1, blk_put ((go _ (by omega)).trans hv) 0 v1 rfl, Kd.R_far hR (fun k hk => by simp; omega) v1⟩, hn⟩
theorem Jr.fin {w W : World} {g rb : Nat} {rec : Loop} {acc : List S61} {vl : Value} (h : Jr w W g rb rec acc) (hR : Kd.R k61 61 W w.heap.size (fun k => g + 6 ≤ k) vl acc) (hB : Below w.heap.size w W) (hrb : w.heap.size = rb) (x y : Int) :
    (((W.setCell ⟨rb, 0, none⟩ (.int .i64 x)).setCell ⟨rb, 1, none⟩ (.int .i64 y)).drew).heap[g + 1 + 1 + 1 + 1]? = some (.deferred (some [])) ∧
    ((((W.setCell ⟨rb, 0, none⟩ (.int .i64 x)).setCell ⟨rb, 1, none⟩ (.int .i64 y)).drew).putObj (g + 1 + 1 + 1 + 1) (.deferred none)).heap[rb]? = some (.cells #[.int .i64 x, .int .i64 y] 36) ∧
    Kd.R k61 61 ((((W.setCell ⟨rb, 0, none⟩ (.int .i64 x)).setCell ⟨rb, 1, none⟩ (.int .i64 y)).drew).putObj (g + 1 + 1 + 1 + 1) (.deferred none)) w.heap.size (fun _ => True) vl acc ∧
    Below w.heap.size w ((((W.setCell ⟨rb, 0, none⟩ (.int .i64 x)).setCell ⟨rb, 1, none⟩ (.int .i64 y)).drew).putObj (g + 1 + 1 + 1 + 1) (.deferred none)) := by
  have hn := h.hn
  have gs : ∀ i, i ≠ rb → (((W.setCell ⟨rb, 0, none⟩ (.int .i64 x)).setCell ⟨rb, 1, none⟩ (.int .i64 y)).drew).heap[i]? = W.heap[i]? := fun i h1 => (Below.heap_setCell _ ⟨rb, 1, none⟩ _ i h1).trans (Below.heap_setCell W ⟨rb, 0, none⟩ _ i h1)
  refine ⟨(gs _ (by omega)).trans h.hd, (putObj_other _ (by omega)).trans (blk_put (blk_put h.hr 0 _ rfl) 1 _ rfl), Kd.R_mono (Kd.R_step hR (fun k hk _ => (putObj_other _ (by omega)).trans (gs _ (by omega)))) (fun _ _ => trivial), below_putObj (below_drew ((hB.setCell (p := ⟨rb, 0, none⟩) (Nat.le_of_eq hrb) _).setCell (p := ⟨rb, 1, none⟩) (Nat.le_of_eq hrb) _)) (by omega) _⟩
set_option maxRecDepth 100000 in
set_option maxHeartbeats 1000000 in
theorem plan_Parse.calls (k : Nat) (a0 : ByteArray) (r1 : Int) (r2 : List S61) (r3 r4 : Int) (w : World) (h : plan_Parse.f k a0 = some (r1, r2, r3, r4)) :
    Calls Try.prog 15 #[.string a0] w fun e w' => ∃ v0_ : Value, e = .returned (.tuple #[.int .i64 r1, v0_, .agg #[.int .i64 r3, .int .i64 r4]]) ∧ Kd.R k61 61 w' w.heap.size (fun _ => True) v0_ r2 ∧ Below w.heap.size w w' := by
  have hu61 := Try.underlying61
  refine (callsIn_wide (n := 4)).1 ?_
  refine callsIn_of_wp_marks Try.func15 rfl trivial ?_ rfl
  simp only [Try.ntmps15, List.size_toArray, List.length_cons, List.length_nil, Nat.reduceAdd, Nat.reduceSub, Array.replicate_succ, Array.replicate_zero, List.push_toArray, List.append_toArray, List.nil_append, List.cons_append]
  gi_upto_region 1 with fail
  refine wpIn_scope_wide ?_
  have PR := Aside0.mk (Pr.made w)
  generalize w.alloc (.cells #[.int .i64 0, .int .i64 0] 36) = W0 at PR ⊢
  generalize hrb : w.heap.size = rb at PR ⊢
  have ac0 := PR.out.c0
  have ac1 := PR.out.c1
  have af0 := PR.out.f0 0
  have af1 := PR.out.f0 1
  unfold plan_Parse.f at h
  split at h
  case isTrue hc =>
    cases h
    have cb : decide ((65536 : Int) < (a0.size : Int)) = true := decide_eq_true hc
    have cb2 : (65536 < a0.size) = True := eq_true (by omega)
    clear hc
    gi_wp2
    rw [Exit.noGoto_ret]
    exact ⟨_, results_list (rs := [.tmp 2, .tmp 3, .cell 4 36]) rfl (by simp) (.tmp (.tmp (.cell rb 36 _ (0, 0) _ rfl (PR.out.set _ _).1 Try.underlying36 rfl sizeF .nil))), _, rfl, Kd.R_nil _ _ _ _ _, (PR.out.set _ _).2⟩
  case isFalse hc =>
    have HSZ := Aside0.mk (show a0.size ≤ 65536 by omega)
    have cb : decide ((65536 : Int) < (a0.size : Int)) = false := decide_eq_false hc
    have cb2 : (65536 < a0.size) = False := eq_false (by omega)
    clear hc
    obtain ⟨d, hix, h⟩ := Option.bind_eq_some_iff.1 h
    have HIX := Aside0.mk hix
    have H := Aside0.mk h
    clear hix h
    have hl1 : (cutB a0 10).1.size ≤ 65536 := Nat.le_trans (cutB_size _ _) HSZ.out
    have hl2 : (cutB (cutB a0 10).1 32).1.size ≤ 65536 := Nat.le_trans (cutB_size _ _) hl1
    have K1 := fun W => cut_one a0 10 W (by have := HSZ.out; omega)
    have K2 := fun W => cut_one (cutB a0 10).1 32 W (by omega)
    generalize cutB (cutB a0 10).1 32 = q2 at H HIX K2 hl2
    generalize cutB a0 10 = q1 at H HIX K1 K2 hl1
    obtain ⟨line, more, ended⟩ := q1
    obtain ⟨name, rest, spaced⟩ := q2
    dsimp only at HIX H hl1 hl2 K1 K2
    have HK1 := Aside0.mk K1
    have HK2 := Aside0.mk K2
    have HL1 := Aside0.mk hl1
    have HL2 := Aside0.mk hl2
    clear hl1 hl2 K1 K2
    gi_upto_region 4 with ((with_reducible refine And.intro ?fn ?_); (case fn => exact trivial); gi_at_call 34; go_loud (refine callsIn_wide.2 ((HK1.out _).mono ?_); rintro e w1 ⟨rfl, nD, hw⟩; have PR1 := Aside0.mk (PR.out.drewN nD hw); clear PR hw; have PR := PR1; clear PR1))
    gi_upto_region 5 with ((with_reducible refine And.intro ?fn ?_); (case fn => exact trivial); gi_at_call 34; go_loud (refine callsIn_wide.2 ((HK2.out _).mono ?_); rintro e w2 ⟨rfl, nD, hw⟩; have PR1 := Aside0.mk (PR.out.drewN nD hw); clear PR hw; have PR := PR1; clear PR1))
    gi_upto_region 6 with (first | ((with_reducible refine And.intro ?fn ?_); (case fn => exact trivial); gi_at_call 31; go_loud (refine callsIn_wide.2 ((plan_dialects.calls dias _ dias_eq).mono ?_); rintro e w3 ⟨vd, rfl, ho, hb⟩; obtain ⟨Ad, cd, rfl, hcd, hC⟩ := Kd.R_reads ho; have PR1 := Aside0.mk (PR.out.below hb); have DC := Aside0.mk hC; have DL := Aside0.mk hcd; clear PR ho hb hC hcd; have PR := PR1; clear PR1)) | ((with_reducible refine And.intro ?fn ?_); (case fn => exact trivial); gi_at_call 35; go_loud (refine callsIn_wide.2 ((slices_Index_string_string.calls k Ad cd dias _ d _ DC.out DL.out HIX.out).mono ?_); rintro e w4 ⟨rfl, hd⟩; have PR1 := Aside0.mk (PR.out.drawn hd); clear PR hd; have PR := PR1; clear PR1)))
    clear ac0 ac1 af0 af1
    have ac0 := PR.out.c0
    have ac1 := PR.out.c1
    have af0 := PR.out.f0 0
    have af1 := PR.out.f0 1
    have h := H.out
    clear H
    have h5 : (⟨#[32, 112, 108, 97, 110]⟩ : ByteArray).size = 5 := rfl
    split at h
    case isFalse hh =>
      cases h
      have hh2 : decide (d < 1) = true ∨ (decide (d < 1) = false ∧ ((rest.toList == [112, 108, 97, 110]) = false ∨ ((rest.toList == [112, 108, 97, 110]) = true ∧ (line.toList == (name ++ (⟨#[32, 112, 108, 97, 110]⟩ : ByteArray)).toList) = false))) := by
        unfold isHead planT at hh
        generalize decide (d < 1) = x at hh ⊢
        generalize (rest.toList == [112, 108, 97, 110]) = y at hh ⊢
        generalize (line.toList == (name ++ (⟨#[32, 112, 108, 97, 110]⟩ : ByteArray)).toList) = z at hh ⊢
        cases x <;> cases y <;> cases z <;> simp_all
      clear hh
      rcases hh2 with c1 | ⟨c1, c2 | ⟨c2, c3⟩⟩
      · gi_wp2
        all_goals first | (exfalso; have := HL2.out; omega) | skip
        rw [Exit.noGoto_ret]
        exact ⟨_, results_list (rs := [.tmp 2, .tmp 3, .cell 4 36]) rfl (by simp) (.tmp (.tmp (.cell rb 36 _ (0, 0) _ rfl (PR.out.set _ _).1 Try.underlying36 rfl sizeF .nil))), _, rfl, Kd.R_nil _ _ _ _ _, (PR.out.set _ _).2⟩
      · gi_wp2
        all_goals first | (exfalso; have := HL2.out; omega) | skip
        rw [Exit.noGoto_ret]
        exact ⟨_, results_list (rs := [.tmp 2, .tmp 3, .cell 4 36]) rfl (by simp) (.tmp (.tmp (.cell rb 36 _ (0, 0) _ rfl (PR.out.set _ _).1 Try.underlying36 rfl sizeF .nil))), _, rfl, Kd.R_nil _ _ _ _ _, (PR.out.set _ _).2⟩
      · gi_wp2
        all_goals first | (exfalso; have := HL2.out; omega) | skip
        rw [Exit.noGoto_ret]
        exact ⟨_, results_list (rs := [.tmp 2, .tmp 3, .cell 4 36]) rfl (by simp) (.tmp (.tmp (.cell rb 36 _ (0, 0) _ rfl (PR.out.set _ _).1 Try.underlying36 rfl sizeF .nil))), _, rfl, Kd.R_nil _ _ _ _ _, (PR.out.set _ _).2⟩
    case isTrue hh =>
      have hh2 : decide (d < 1) = false ∧ (rest.toList == [112, 108, 97, 110]) = true ∧ (line.toList == (name ++ (⟨#[32, 112, 108, 97, 110]⟩ : ByteArray)).toList) = true := by
        unfold isHead planT at hh
        generalize decide (d < 1) = x at hh ⊢
        generalize (rest.toList == [112, 108, 97, 110]) = y at hh ⊢
        generalize (line.toList == (name ++ (⟨#[32, 112, 108, 97, 110]⟩ : ByteArray)).toList) = z at hh ⊢
        cases x <;> cases y <;> cases z <;> simp_all
      clear hh
      obtain ⟨c1, c2, c3⟩ := hh2
      split at h
      case isFalse he =>
        cases h
        have he2 : ended = false := by simpa using he
        subst he2
        gi_wp2
        all_goals first | (exfalso; have := HL2.out; omega) | skip
        rw [Exit.noGoto_ret]
        exact ⟨_, results_list (rs := [.tmp 2, .tmp 3, .cell 4 36]) rfl (by simp) (.tmp (.tmp (.cell rb 36 _ (0, 0) _ rfl (PR.out.set _ _).1 Try.underlying36 rfl sizeF .nil))), _, rfl, Kd.R_nil _ _ _ _ _, (PR.out.set _ _).2⟩
      case isTrue he =>
        subst he
        obtain ⟨z, hz, h⟩ := Option.bind_eq_some_iff.1 h
        have HZ := Aside0.mk hz
        have H := Aside0.mk h
        clear hz h
        gi_upto_region 12 with (with_reducible refine wpIn_label ?_)
        all_goals first | (exfalso; have := HL2.out; omega) | skip
        have hI0 : IsS81 w (((w4.alloc (.cells #[.string a0, .int .i64 (wrap64 (↑line.size + 1)), .int .i64 0, .int .i64 0] 81)).alloc (.cells #[.pointer (some ⟨w4.heap.size, 0, none⟩)] 79)).alloc (.cells #[.slice none 0 0] 22)) w4.heap.size a0 (wrap64 (↑line.size + 1)) 0 0 :=
          ⟨alloc_old _ (alloc_old _ (alloc_new _ _)), below_size PR.out.hb⟩
        have hp0 := alloc_old (.cells #[.slice none 0 0] 22) (alloc_new (w4.alloc (.cells #[.string a0, .int .i64 (wrap64 (↑line.size + 1)), .int .i64 0, .int .i64 0] 81)) (.cells #[.pointer (some ⟨w4.heap.size, 0, none⟩)] 79))
        have hl0 := alloc_new ((w4.alloc (.cells #[.string a0, .int .i64 (wrap64 (↑line.size + 1)), .int .i64 0, .int .i64 0] 81)).alloc (.cells #[.pointer (some ⟨w4.heap.size, 0, none⟩)] 79)) (.cells #[.slice none 0 0] 22)
        have hs0 : (((w4.alloc (.cells #[.string a0, .int .i64 (wrap64 (↑line.size + 1)), .int .i64 0, .int .i64 0] 81)).alloc (.cells #[.pointer (some ⟨w4.heap.size, 0, none⟩)] 79)).alloc (.cells #[.slice none 0 0] 22)).heap.size = w4.heap.size + 1 + 1 + 1 := by simp
        have PR0 := Aside0.mk (PR.out.below (((Below.refl _ w4).alloc (Nat.le_refl _) (.cells #[.string a0, .int .i64 (wrap64 (↑line.size + 1)), .int .i64 0, .int .i64 0] 81)).alloc (by simp) (.cells #[.pointer (some ⟨w4.heap.size, 0, none⟩)] 79) |>.alloc (by simp; omega) (.cells #[.slice none 0 0] 22)))
        have hrg : rb < w4.heap.size := blk_lt PR.out.hr
        simp only [World.size_alloc] at hp0 hl0
        clear PR ac0 ac1 af0 af1
        have PR := PR0
        clear PR0
        generalize ((w4.alloc (.cells #[.string a0, .int .i64 (wrap64 (↑line.size + 1)), .int .i64 0, .int .i64 0] 81)).alloc (.cells #[.pointer (some ⟨w4.heap.size, 0, none⟩)] 79)).alloc (.cells #[.slice none 0 0] 22) = WA at hI0 hp0 hl0 hs0 PR ⊢
        generalize w4.heap.size = g at hI0 hp0 hl0 hs0 hrg ⊢
        have HI := Aside0.mk hI0
        have HP := Aside0.mk hp0
        have HL := Aside0.mk hl0
        have HS := Aside0.mk hs0
        have HRG := Aside0.mk hrg
        have cp := cell_of hp0 0
        simp only [List.getElem?_toArray, List.getElem?_cons_zero] at cp
        clear hI0 hp0 hl0 hs0 hrg
        clear DC DL HIX HK1 HK2 c1 c2 c3 h5
        gi_wp2_with ((with_reducible refine And.intro ?fn ?_); (case fn => exact trivial); gi_at_call 36; go_loud (refine (picks_calls g _ _).mono ?_; rintro e w5 ⟨rfl, hw5⟩))
        subst hw5
        refine range_direct (F := Fence.wide) (n := 4) rfl (by decide) (gf := 51) (lb := #[.pointer (some ⟨WA.heap.size, 0, none⟩)]) rfl trivial (enters_of Try.func51 (by kernel_rfl) rfl) ?_
        intro rec hfn hst hpe htm hps has hbo
        have J0 : Jr w (((WA.alloc (.cells #[.pointer (some ⟨g, 0, none⟩)] 79)).alloc (.deferred (some []))).alloc (.loop rec)) g rb rec [] := by
          have e0 := HS.out
          have a1 := alloc_new WA (.cells #[.pointer (some ⟨g, 0, none⟩)] 79)
          have a2 := alloc_new (WA.alloc (.cells #[.pointer (some ⟨g, 0, none⟩)] 79)) (.deferred (some []))
          have a3 := alloc_new ((WA.alloc (.cells #[.pointer (some ⟨g, 0, none⟩)] 79)).alloc (.deferred (some []))) (.loop rec)
          simp only [World.size_alloc, e0] at a1 a2 a3
          exact ⟨a3, alloc_old _ a2, alloc_old _ (alloc_old _ a1), alloc_old _ (alloc_old _ (alloc_old _ HP.out)), alloc_old _ (alloc_old _ (alloc_old _ PR.out.hr)), ⟨_, alloc_old _ (alloc_old _ (alloc_old _ HL.out)), Kd.R_nil _ _ _ _ _⟩, HRG.out⟩
        have hBr : Below w.heap.size w (((WA.alloc (.cells #[.pointer (some ⟨g, 0, none⟩)] 79)).alloc (.deferred (some []))).alloc (.loop rec)) := below_alloc (below_alloc (below_alloc PR.out.hb _) _) _
        have hIr := ((HI.out.alloc (.cells #[.pointer (some ⟨g, 0, none⟩)] 79)).alloc (.deferred (some []))).alloc (.loop rec)
        have hlr : (WA.alloc (.cells #[.pointer (some ⟨g, 0, none⟩)] 79)).heap.size + 1 = g + 1 + 1 + 1 + 1 + 1 := by simp only [World.size_alloc, HS.out]
        have hls : WA.heap.size = g + 1 + 1 + 1 := HS.out
        have hld : (WA.alloc (.cells #[.pointer (some ⟨g, 0, none⟩)] 79)).heap.size = g + 1 + 1 + 1 + 1 := by simp only [World.size_alloc, HS.out]
        rw [hlr, hls] at *
        refine (picks_in 2 (g + 1 + 1 + 1 + 1 + 1) (g + 1 + 1 + 1) g k w (fun acc W => Jr w W g rb rec acc) z (fun acc W h => cell_of h.hs 0) (fun acc W W' h hk => h.keep hk) ?hY ⟨a0, wrap64 (↑line.size + 1), 0, 0⟩ [] _ J0 hIr hBr HZ.out).mono ?_
        case hY =>
          intro acc x q W hlen hJ hI hB
          have hsz := hJ.size
          refine yield_round hfn hJ.hl hst htm hps has hbo rfl ?_
          unfold pickV
          have J1 := Aside0.mk (((hJ.keep (W' := W.alloc (.cells #[.string x.f0, .string x.f1] 61)) ⟨by simp, fun i h1 h2 h3 => Below.heap_alloc W _ i h1⟩).put (busy_ rec)))
          have I1 := Aside0.mk (show IsS81 w ((W.alloc (.cells #[.string x.f0, .string x.f1] 61)).putObj (g + 1 + 1 + 1 + 1 + 1) (.loop (busy_ rec))) g q.s q.at_ 0 q.ea from ⟨(putObj_other _ (by omega)).trans (hI.alloc _).1, hI.2⟩)
          have B1 := Aside0.mk (below_putObj (below_alloc hB (.cells #[.string x.f0, .string x.f1] 61)) (r := g + 1 + 1 + 1 + 1 + 1) (by have := hI.2; omega) (.loop (busy_ rec)))
          have X1 := Aside0.mk ((putObj_other (W := W.alloc (.cells #[.string x.f0, .string x.f1] 61)) (k := W.heap.size) (r := g + 1 + 1 + 1 + 1 + 1) (.loop (busy_ rec)) (by omega)).trans (alloc_new W _))
          have hl1 := alloc_old (.cells #[.string x.f0, .string x.f1] 61) hJ.hl
          have HL1 := Aside0.mk hl1
          have HGW := Aside0.mk hI.2
          have HREC := Aside0.mk (ready_eq hst hpe)
          have HLEN := Aside0.mk hlen
          clear htm hps has hbo hJ hI hB hl1 hst hpe hlen J0 hBr hIr hlr hls hld cp PR HI HP HL HS HRG HZ H
          gi_wp2
          refine ⟨HL1.out, ?_⟩
          clear HL1
          generalize ((W.alloc (.cells #[.string x.f0, .string x.f1] 61)).putObj (g + 1 + 1 + 1 + 1 + 1) (.loop (busy_ rec))) = W2 at J1 I1 B1 X1 ⊢
          generalize W.heap.size = n0 at X1 hsz ⊢
          obtain ⟨vl, hv, hR⟩ := J1.out.ha
          have HV := Aside0.mk hv
          have HR := Aside0.mk hR
          have cl := cell_of hv 0
          have cx0 := cell_of X1.out 0
          have cx1 := cell_of X1.out 1
          simp only [List.getElem?_toArray, List.getElem?_cons_zero, List.getElem?_cons_succ] at cl cx0 cx1
          clear hv hR
          gi_upto_region 15 with (gi_at_builtin; go_loud (refine R_append_in k61 (w0 := w) w.heap.size rfl (.tmp 63) (.tmp 65) 22 61 (.agg #[.string ⟨#[]⟩, .string ⟨#[]⟩]) 32 rfl Try.underlying22 info61 rfl (by decide) (by omega) vl acc x [.string x.f0, .string x.f1] (fun k => g + 6 ≤ k) (fun _ => False) rfl ?aX ?aP (fun _ hk => hk.elim) (fun k hk => Nat.le_trans J1.out.size hk) HR.out B1.out (below_size B1.out) ?aL ?_; (case aX => first | (go_simp; done) | (go_simp; rfl)); (case aP => exact k61_mkM _ _ _ _); (case aL => have := HLEN.out; omega); intro v1 w3 ho hb hg; obtain ⟨A3, c3, e3⟩ := Kd.R_slice ho; obtain ⟨n3, hn3⟩ : ∃ n3, n3 = (acc ++ [x]).length := ⟨_, rfl⟩; rw [← hn3] at e3; subst e3; have J3 := Aside0.mk (J1.out.app HV.out HR.out.1 hg ho); have I3 := Aside0.mk (show IsS81 w (w3.setCell ⟨g + 1 + 1, 0, none⟩ (.slice A3 n3 c3)) g q.s q.at_ 0 q.ea from ⟨(Below.heap_setCell w3 ⟨g + 1 + 1, 0, none⟩ (.slice A3 n3 c3) g (by simp; omega)).trans (I1.out.grown hg (fun e => by have := HR.out.1 g e.symm; omega)).1, HGW.out⟩); have B3 := Aside0.mk (hb.setCell (p := ⟨g + 1 + 1, 0, none⟩) (Nat.le_trans HGW.out (by simp; omega)) (.slice A3 n3 c3)); have hc3 : w3.cell? ⟨g + 1 + 1, 0, none⟩ = some vl := (cell_of ((hg.block (g + 1 + 1) (by have := J1.out.size; omega) (fun e => by have := HR.out.1 _ e.symm; omega)).trans HV.out) 0); have hf3 : w3.frozen? ⟨g + 1 + 1, 0, none⟩ = false := free_of ((hg.block (g + 1 + 1) (by have := J1.out.size; omega) (fun e => by have := HR.out.1 _ e.symm; omega)).trans HV.out) 0; clear ho hb hg hn3))
          generalize w3.setCell ⟨g + 1 + 1, 0, none⟩ (.slice A3 n3 c3) = W4 at J3 I3 B3 ⊢
          have cg := cell_of J3.out.hp 0
          have ce : W4.cell? ⟨g, 2, none⟩ = some (.int .i64 0) := (blk_cell I3.out.1 2).trans rfl
          simp only [List.getElem?_toArray, List.getElem?_cons_zero] at cg
          clear cl cx0 cx1 hc3 hf3
          gi_wp2
          refine ⟨J3.out.hl, rfl, ?_⟩
          rw [HREC.out]
          refine ⟨?_, ⟨(putObj_other _ (by omega)).trans I3.out.1, HGW.out⟩, below_putObj B3.out (by have := HGW.out; omega) _⟩
          have h9 := J3.out.put rec
          exact h9
        rintro e W2 ⟨⟨v, rfl⟩, hJ, hI, hB⟩
        refine ⟨v, rfl, rec, hJ.hl, by rw [hst]; decide, ?_⟩
        rw [hpe]
        have J1 := Aside0.mk (hJ.put (exh_ rec))
        have I1 := Aside0.mk (show IsS81 w (W2.putObj (g + 1 + 1 + 1 + 1 + 1) (.loop (exh_ rec))) g z.2.s z.2.at_ z.2.e z.2.ea from ⟨(putObj_other _ (by omega)).trans hI.1, hI.2⟩)
        have B1 := Aside0.mk (below_putObj hB (r := g + 1 + 1 + 1 + 1 + 1) (by have := hI.2; omega) (.loop (exh_ rec)))
        have HDL := Aside0.mk (show WA.heap.size + 1 = g + 1 + 1 + 1 + 1 from by rw [HS.out])
        have HH := H.out
        clear htm hps has hbo hJ hI hB hst hpe J0 hBr hIr hlr hls hld cp PR HI HP HL HS HRG HZ H
        generalize W2.putObj (g + 1 + 1 + 1 + 1 + 1) (.loop (exh_ rec)) = W3 at J1 I1 B1 ⊢
        have cg := cell_of J1.out.hp 0
        have ce2 : W3.cell? ⟨g, 2, none⟩ = some (.int .i64 z.2.e) := (blk_cell I1.out.1 2).trans rfl
        have ce3 : W3.cell? ⟨g, 3, none⟩ = some (.int .i64 z.2.ea) := (blk_cell I1.out.1 3).trans rfl
        simp only [List.getElem?_toArray, List.getElem?_cons_zero] at cg
        have cr0 : W3.cell? ⟨rb, 0, none⟩ = some (.int .i64 0) := (blk_cell J1.out.hr 0).trans rfl
        have cr1 : W3.cell? ⟨rb, 1, none⟩ = some (.int .i64 0) := (blk_cell J1.out.hr 1).trans rfl
        have cf0 := blk_frozen J1.out.hr 0
        have cf1 := blk_frozen J1.out.hr 1
        obtain ⟨vl, hv, hR⟩ := J1.out.ha
        obtain ⟨Av, cv, ev⟩ := Kd.R_slice hR
        obtain ⟨nv, hnv⟩ : ∃ nv, nv = z.1.length := ⟨_, rfl⟩
        rw [← hnv] at ev
        subst ev
        have HR := Aside0.mk hR
        have cl := cell_of hv 0
        simp only [List.getElem?_toArray, List.getElem?_cons_zero] at cl
        clear hv hR hnv
        split at HH
        case isTrue hz =>
          cases HH
          have c0 : decide (z.2.e = 0) = true := decide_eq_true hz
          rw [hz] at ce2
          gi_wp2
          gi_region
          gi_wp2
          rw [Exit.noGoto_ret, HDL.out]
          obtain ⟨f1, f2, f3, f4⟩ := J1.out.fin HR.out B1.out hrb 0 0
          exact ⟨by simp, .inl ⟨_, _, rfl, run_takeDeferred f1, _, results_list (rs := [.tmp 2, .tmp 3, .cell 4 36]) rfl (by simp) (.tmp (.tmp (.cell rb 36 _ (0, 0) _ rfl f2 Try.underlying36 rfl sizeF .nil))), _, rfl, f3, f4⟩⟩
        case isFalse hz =>
          cases HH
          have c0 : decide (z.2.e = 0) = false := decide_eq_false hz
          gi_wp2
          gi_region
          gi_wp2
          rw [Exit.noGoto_ret, HDL.out]
          obtain ⟨f1, f2, f3, f4⟩ := J1.out.fin HR.out B1.out hrb z.2.e z.2.ea
          exact ⟨by simp, .inl ⟨_, _, rfl, run_takeDeferred f1, _, results_list (rs := [.tmp 2, .tmp 3, .cell 4 36]) rfl (by simp) (.tmp (.tmp (.cell rb 36 _ (0, 0) _ rfl f2 Try.underlying36 rfl sizeF .nil))), _, rfl, Kd.R_nil _ _ _ _ _, f4⟩⟩
end Go.Proofs.Ytnjkdnbmpldokaa.P
