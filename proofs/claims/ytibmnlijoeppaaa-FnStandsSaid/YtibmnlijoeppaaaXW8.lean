/-
 The reference's runs: where they go.
-/
import Derived.Test.YtibmnlijoeppaaaXW7
namespace Go.Proofs.Ytibmnlijoeppaaa.X
open Nat renaming reduceEqDiff → zA, reduceAdd → zB, reduceLeDiff → zJ, reduceMul → zK
open Int renaming reduceLT → zC, reduceLE → zD, reduceNeg → zE, reduceBEq → zF, reduceBNe → zG
open AV renaming isTup → zH, cells → zI
set_option linter.unusedSimpArgs false
set_option linter.unusedVariables false

section
variable {E : IEnv} {L L' : Lay IR} {S S' : PM} {μ μ' : Mem}

def runnable (p : PPlan) (ticks : Int) : Bool := decide ((okP p).1 = 0) && decide (ticks ≥ 0) && decide (ticks ≤ 5000)

theorem sok_ok {hi : Nat} {c : Cell} {p : PPlan} {ticks : Int} (hR : PlanR hi μ c p) (hh : hi ≤ μ.next) (hl : Lens p) :
  Ret 69 [.agg [c], .c (.int .i64 ticks)] μ fun v μ' => v = .c (.bool (runnable p ticks)) ∧ Same μ.next μ μ' := by
 have hA : Same μ.next μ (μ.new [c] 0) := Same.tmp (Nat.le_refl _)
 have lA : (μ.new [c] 0).ld (some 1) μ.next 0 = some (.agg [c]) := by rw [Mem.new_ld, if_pos rfl]; rfl
 refine Ret_of p69 (by simp [r69]) ?_
 simp only [rI, r69, frOf_2]
 simp only [w1, w2, zH, zI, ↓reduceIte, zA, lA]
 refine R_calls (l := [.agg [c]]) (by simp only [w1, w2, ↓reduceIte]) (sPlanOk_ok (hR.same hA hh) (Nat.le_succ_of_le hh) hl) ?_
 rintro v μ1 ⟨rfl, h1⟩
 have es : (μ1.new [.int .i64 0, .int .i64 0, .int .i64 0] 0).st μ1.next 0 (flt3 (okP p)) = some (μ1.new (flt3 (okP p)) 0) := new_st0 rfl
 have l1 : (μ1.new (flt3 (okP p)) 0).ld none μ1.next 0 = some (.c (.int .i64 (okP p).1)) := new_ld0 rfl
 have h2 : Same μ.next μ (μ1.new (flt3 (okP p)) 0) := (hA.trans (h1.mono (Nat.le_succ _))).new (by have := h1.2; simp only [Mem.new_next] at this; omega)
 have hlen : (flt3 (okP p)).length = 3 := rfl
 simp only [w1, w2, zH, zI, ↓reduceIte, zA, hlen, es, l1]
 unfold runnable
 by_cases h : (okP p).1 = 0
 ·have hb : ((okP p).1 == 0) = true := beq_tt h
  simp only [hb, w1, w2, ↓reduceIte, zA, decide_eq_true h, Bool.true_and]
  by_cases h3 : ticks ≥ 0
  ·simp only [w1, w2, ↓reduceIte, zA, decide_eq_true h3, Bool.true_and, aRet, aRes, aRes1]
   exact ⟨_, rfl, rfl, h2⟩
  ·simp only [w1, ↓reduceIte, zA, decide_eq_false h3, Bool.false_and, aRet, aRes, aRes1]
   exact ⟨_, rfl, rfl, h2⟩
 ·have hb : ((okP p).1 == 0) = false := beq_ff h
  simp only [hb, w1, ↓reduceIte, zA, decide_eq_false h, Bool.false_and, aRet, aRes, aRes1]
  exact ⟨_, rfl, rfl, h2⟩

/-- What a run asks of a plan. -/
structure Goes (p : PPlan) (ticks stop : Int) (S : PM) : Prop where
 ex : ∃ fuel, ((PM.fresh p ticks stop).bind fun S => PM.runs p fuel S) = some S
 room : S.tasks.length < roomy
 states : S.states = []

theorem goes_run {hi : Nat} {c : Cell} {p : PPlan} {ticks stop : Int} (hR : PlanR hi μ c p) (hh : hi ≤ μ.next) (hg : Goes p ticks stop S) :
  Ret 70 [.agg [c], .c (.int .i64 ticks), .c (.int .i64 stop)] μ fun v μ' => ∃ E L', E.lo = μ.next ∧ v = pt E.m 0 ∧ Rep E L' S.done μ' ∧ Same μ.next μ μ' := by
 obtain ⟨⟨fuel, he⟩, hr, hst⟩ := hg
 obtain ⟨S0, h0, h1⟩ := Option.bind_eq_some_iff.1 he
 exact run_ok (hR.mono hh) h0 h1 hr hst

def PM.report (S : PM) : PReport := ⟨S.code, S.recs, S.num, S.ticks, S.tasks.map (·.state)⟩

end
end Go.Proofs.Ytibmnlijoeppaaa.X
