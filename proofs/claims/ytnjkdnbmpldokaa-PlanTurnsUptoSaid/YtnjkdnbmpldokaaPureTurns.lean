/- PlanTurns, in plain Lean. -/
import Derived.Test.YtnjkdnbmpldokaaPure
import Derived.Test.YtnjkdnbmpldokaaPure
import Derived.Test.YtnjkdnbmpldokaaPure
import Derived.Test.YtnjkdnbmpldokaaHMap
import Derived.Test.YtnjkdnbmpldokaaHMap
import Derived.Test.YtnjkdnbmpldokaaHText
import Derived.Test.YtnjkdnbmpldokaaHText
import Derived.Test.YtnjkdnbmpldokaaP5
import Derived.Test.YtnjkdnbmpldokaaPz
namespace Go.Proofs.Ytnjkdnbmpldokaa.planTurns
open Go.RowKit Go.Proofs.YtnjkdnbmpldokaaW.PrintWords Go.Proofs.YtnjkdnbmpldokaaB Go.Proofs.Ytnjkdnbmpldokaa.P
theorem ev_loop (l : List S42) (hl : l.length < 4611686018427387904) : ∀ d i, i + d = l.length → Ev (fun k => dovetaillaw32_PlanTurns.l0 k l (l.map flipC) (l.length : Int) (i : Int)) true
  | 0, i, h => by
    refine Ev.step (f := fun k => (dovetaillaw32_awake.f k).bind fun t => some t) (fun k => ?_) (Ev.bind ev_awake (Ev.now _))
    rw [dovetaillaw32_PlanTurns.l0, if_neg (by omega)]
  | d + 1, i, h => by
    refine Ev.step (fun k => ?_) (ev_loop l hl d (i + 1) (by omega))
    have e1 : rd_T42 l (i : Int) = l[i] := by simp [rd_T42, List.getD_eq_getElem?_getD, List.getElem?_eq_getElem (show i < l.length by omega)]
    have e2 : rd_T42 (l.map flipC) (i : Int) = flipC l[i] := by simp [rd_T42, List.getD_eq_getElem?_getD, List.getElem?_eq_getElem (show i < l.length by omega)]
    rw [dovetaillaw32_PlanTurns.l0, if_pos (by omega), if_pos (by omega), if_pos (by omega), if_pos (by rw [List.length_map]; omega), e1, e2, if_neg (by simp [flipC]), wrap_succ (by omega)]
theorem lens {l : List S61} (h : wts wt61 l ≤ 1048576) : fine l = true ∧ l.length ≤ 1048576 := by
  have h1 := wts_length (wt := wt61) (fun a => by simp only [wt61]; omega) l
  refine ⟨?_, by omega⟩
  simp only [fine, small, Bool.and_eq_true, decide_eq_true_eq, List.all_eq_true]
  refine ⟨by omega, fun x hx => ?_⟩
  have := wts_mem (wt := wt61) hx
  simp only [wt61] at this
  omega
theorem unfit (l0 l1 : List S61) (f0 : fine l0 = true) (f1 : fine l1 = true) : Ev (fun k => dovetaillaw32_PlanTurns.j0 k l0 l1 true) true := by
  have m0 := fine_mem f0
  have m1 := fine_mem f1
  refine Ev.step (f := fun k => (dovetailref32_Fit.f k l0).bind fun t179 => ((plan_Fit.f k l0).bind fun t180 => (if (t179 == t180) = true then ((dovetailref32_Fit.f k l1).bind fun t181 => ((plan_Fit.f k l1).bind fun t182 => (if (t181 == t182) = true then ((dovetaillaw32_awake.f k).bind fun t183 => (some t183)) else (some false)))) else (some false)))) (fun k => ?_) ?_
  · rw [dovetaillaw32_PlanTurns.j0, if_pos rfl]
  · refine Ev.bind (ev_rfit l0 (by omega) (fine_small f0)) (Ev.bind (ev_fit l0 (by omega) (fine_small f0)) ?_)
    simp only [beq_self_eq_true, if_true]
    refine Ev.bind (ev_rfit l1 (by omega) (fine_small f1)) (Ev.bind (ev_fit l1 (by omega) (fine_small f1)) ?_)
    simp only [beq_self_eq_true, if_true]
    exact Ev.bind ev_awake (Ev.now _)
theorem Pure.PlanTurns (l0 l1 : List S61) (hb : wts wt61 l0 + wts wt61 l1 ≤ 1048576) : ∃ k, dovetaillaw32_PlanTurns.f k l0 l1 = some true := by
  refine Ev.rounds ?_
  obtain ⟨f0, n0⟩ := lens (l := l0) (by omega)
  obtain ⟨f1, n1⟩ := lens (l := l1) (by omega)
  have u0 := wts_length (wt := wt61) (fun a => by simp only [wt61]; omega) l0
  have u1 := wts_length (wt := wt61) (fun a => by simp only [wt61]; omega) l1
  unfold dovetaillaw32_PlanTurns.f
  refine Ev.bind (ev_fit l0 (by omega) (fine_small f0)) ?_
  cases g0 : fitGo none l0 with
  | false => simp only [Bool.false_eq_true, if_false]; exact unfit l0 l1 f0 f1
  | true =>
    simp only [if_true]
    refine Ev.bind (ev_fit l1 (by omega) (fine_small f1)) ?_
    cases g1 : fitGo none l1 with
    | false => exact unfit l0 l1 f0 f1
    | true =>
      refine Ev.step (f := fun k => ((plan_Diff.f k l0 l1).bind fun t184 => ((plan_Diff.f k l1 l0).bind fun t187 => ((plan_Apply.f k l0 t184).bind fun bt190 => (if bt190.2 = 0 then ((dovetailref23_PickRow.f k bt190.1 l1).bind fun t194 => (if t194 = true then (if (t184.length : Int) = (t187.length : Int) then ((plan_Diff.f k l0 l0).bind fun t195 => (dovetaillaw32_PlanTurns.j1 k t184 t187 ((t195.length : Int) != 0))) else (dovetaillaw32_PlanTurns.j1 k t184 t187 true)) else (dovetaillaw32_PlanTurns.j1 k t184 t187 true))) else (dovetaillaw32_PlanTurns.j1 k t184 t187 true)))))) (fun k => ?_) ?_
      · rw [dovetaillaw32_PlanTurns.j0, if_neg (by simp)]
      · refine Ev.bind (ev_diff l0 l1 f0 f1) (Ev.bind (ev_diff l1 l0 f1 f0) ?_)
        rw [both_comm l1 l0, diffs_flip l0 l1]
        refine Ev.bind (ev_turned f0 f1 (by omega) g0 g1) ?_
        simp only [if_true]
        refine Ev.bind (ev_same l1 (by omega)) ?_
        simp only [if_true, List.length_map]
        refine Ev.bind (ev_diff l0 l0 f0 f0) ?_
        rw [diffs_self]
        have hd := diffs_length l0 l1 (both l0 l1)
        have hbl : (both l0 l1).length ≤ l0.length + l1.length := by
          have := uniq_length (namesOf l0 ++ namesOf l1)
          simpa [namesOf, both] using this
        refine Ev.step (fun k => ?_) (ev_loop (diffs l0 l1 (both l0 l1)) (by omega) (diffs l0 l1 (both l0 l1)).length 0 (by omega))
        rw [dovetaillaw32_PlanTurns.j1, if_neg (by simp)]
        rfl
end Go.Proofs.Ytnjkdnbmpldokaa.planTurns
