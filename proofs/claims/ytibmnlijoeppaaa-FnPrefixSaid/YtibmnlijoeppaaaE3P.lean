/-
 What both sides of RunPlan answer.
-/
import Derived.Test.YtibmnlijoeppaaaE3
import Derived.Test.YtibmnlijoeppaaaBoth
import Derived.Test.YtibmnlijoeppaaaXW8P
namespace Go.Proofs.Ytibmnlijoeppaaa
open Nat renaming reduceEqDiff → zA, reduceAdd → zB, reduceLeDiff → zJ, reduceMul → zK
open Int renaming reduceLT → zC, reduceLE → zD, reduceNeg → zE, reduceBEq → zF, reduceBNe → zG
open AV renaming isTup → zH, cells → zI
set_option linter.unusedSimpArgs false
set_option linter.unusedVariables false

/-- For each plan and number of ticks one report, that both sides answer. -/
theorem reports' (p : PPlan) (ticks : Int) (hl : Lens p) : ∃ r : PReport, r.recs.length ≤ 600000 ∧ r.states.length ≤ 60 ∧
  (∀ {μ : Mem} {hi : Nat} {c : Cell}, PlanR hi μ c p → hi ≤ μ.next → Ret 26 [.agg [c], .c (.int .i64 ticks)] μ fun v μ' => (∃ L C, RepH μ.next μ' L C v r) ∧ Same μ.next μ μ') ∧
  (∀ {μ : Mem} {hi : Nat} {c : Cell}, PlanR hi μ c p → hi ≤ μ.next → Ret 37 [.agg [c], .c (.int .i64 ticks)] μ fun v μ' => RepV μ'.next μ' v r ∧ Same μ.next μ μ') ∧
  ((r = ⟨3, [], 0, 0, []⟩ ∧ X.runnable p ticks = false) ∨ ∃ S T m, X.runnable p ticks = true ∧ ((PM.fresh p ticks none).bind fun S => PM.runs p m S) = some S ∧ Fin2 S T ∧ r = S.report) := by
 by_cases hr : X.runnable p ticks = true
 ·have hr' := hr
  unfold X.runnable at hr'
  simp only [Bool.and_eq_true, decide_eq_true_eq] at hr'
  obtain ⟨⟨hok, ht0⟩, ht1⟩ := hr'
  obtain ⟨S, T, ⟨m, hm⟩, ⟨m', hm'⟩, hf⟩ := both_end hok ⟨ht0, ht1⟩
  have hv := hf.views
  have hlen : T.tasks.length = S.tasks.length := by have := congrArg List.length hv; simpa using this
  have hg : Goes p ticks none S := ⟨⟨m, hm⟩, ⟨ht0, ht1⟩, hok, by have := hf.few; unfold roomy; omega, hf.statesS⟩
  have hgX : X.Goes p ticks (-1) T := ⟨⟨m', hm'⟩, by have := hf.few; rw [hlen]; unfold roomy; omega, hf.statesT⟩
  have hst : T.tasks.map (·.state) = S.tasks.map (·.state) := by
   have := congrArg (List.map PView.state) hv
   simpa [List.map_map, Function.comp_def, X.PTk.view, PTk.view] using this
  have hrep : X.PM.report T = S.report := by simp only [X.PM.report, PM.report, hf.code, hf.recs, hf.num, hf.ticks, hst]
  refine ⟨S.report, hf.room.1, by simpa [PM.report] using hf.few, fun hR hh => runPlan_h hR hh hl hg, fun hR hh => ?_, .inr ⟨S, T, m, hr, hm, hf, rfl⟩⟩
  rw [← hrep]
  exact X.runPlan_ok hR hh hl hr hgX
 ·have hr' : X.runnable p ticks = false := by simpa using hr
  have hn : noRun p ticks := by
   unfold X.runnable at hr
   simp only [Bool.and_eq_true, decide_eq_true_eq] at hr
   unfold noRun
   by_cases h1 : (okP p).1 = 0
   ·omega
   ·exact .inr (.inr h1)
  exact ⟨⟨3, [], 0, 0, []⟩, by simp, by simp, fun hR hh => runPlan_no hR hh hl hn, fun hR hh => X.runPlan_no hR hh hl hr', .inl ⟨rfl, hr'⟩⟩

theorem reports (p : PPlan) (ticks : Int) (hl : Lens p) : ∃ r : PReport, r.recs.length ≤ 600000 ∧ r.states.length ≤ 60 ∧
  (∀ {μ : Mem} {hi : Nat} {c : Cell}, PlanR hi μ c p → hi ≤ μ.next → Ret 26 [.agg [c], .c (.int .i64 ticks)] μ fun v μ' => (∃ L C, RepH μ.next μ' L C v r) ∧ Same μ.next μ μ') ∧
  (∀ {μ : Mem} {hi : Nat} {c : Cell}, PlanR hi μ c p → hi ≤ μ.next → Ret 37 [.agg [c], .c (.int .i64 ticks)] μ fun v μ' => RepV μ'.next μ' v r ∧ Same μ.next μ μ') := by
 obtain ⟨r, a, b, c, d, _⟩ := reports' p ticks hl
 exact ⟨r, a, b, c, d⟩
end Go.Proofs.Ytibmnlijoeppaaa
