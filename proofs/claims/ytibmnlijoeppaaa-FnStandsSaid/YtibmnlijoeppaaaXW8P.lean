/-
 The reference's RunPlan: what it answers.
-/
import Derived.Test.YtibmnlijoeppaaaXW8
namespace Go.Proofs.Ytibmnlijoeppaaa.X
open Nat renaming reduceEqDiff → zA, reduceAdd → zB, reduceLeDiff → zJ, reduceMul → zK
open Int renaming reduceLT → zC, reduceLE → zD, reduceNeg → zE, reduceBEq → zF, reduceBNe → zG
open AV renaming isTup → zH, cells → zI
set_option linter.unusedSimpArgs false
set_option linter.unusedVariables false

/-! 37: spec.RunPlan -/
def r37 : RFun := ⟨18, [.cell 4 (some 5)], (.seq (.reg [rI 0 (.box (.t 0) 1) 2, rI 1 (.alc [.int .i64 0, .slc none 0 0, .int .i64 0, .int .i64 0, .slc none 0 0]) 4]) (.seq (.seq (.reg [rI 0 (.ld (some 1) (.t 2)) 6, rI 1 (.mv (.t 1)) 7, rI 2 (.call 69 [.t 6, .t 7]) 8, rI 3 (.nt (.t 8)) 9]) (.ite (.t 9) (.seq (.reg [rI 0 (.bld [.int .i64 0, .slc none 0 0, .int .i64 0, .int .i64 0, .slc none 0 0] [(0, 1, .k (.int .i64 3))]) 10, ⟨1, .st (.t 4) (.t 10) 5, none, none, []⟩]) .ret) .skip)) (.seq (.reg [rI 0 (.ld (some 1) (.t 2)) 11, rI 1 (.mv (.t 1)) 12, rI 2 (.call 70 [.t 11, .t 12, .k (.int .i64 (-1))]) 13, rI 3 (.mv (.t 13)) 5]) (.seq (.reg [rI 0 (.mv (.t 5)) 14, rI 1 (.nc (.t 14)) 15, rI 2 (.fa (.t 15) 5) 16, rI 3 (.ld (some 5) (.t 16)) 17, ⟨4, .st (.t 4) (.t 17) 5, none, none, []⟩]) .ret))))⟩
theorem p37 : prog 37 = some r37 := by kernel_rfl



section
variable {E : IEnv} {L L' : Lay IR} {S S' : PM} {μ μ' : Mem}

theorem runPlan_no {hi : Nat} {c : Cell} {p : PPlan} {ticks : Int} (hR : PlanR hi μ c p) (hh : hi ≤ μ.next) (hl : Lens p) (hg : runnable p ticks = false) :
  Ret 37 [.agg [c], .c (.int .i64 ticks)] μ fun v μ' => RepV μ'.next μ' v ⟨3, [], 0, 0, []⟩ ∧ Same μ.next μ μ' := by
 have hA : Same μ.next μ ((μ.new [c] 0).new [.int .i64 0, .slc none 0 0, .int .i64 0, .int .i64 0, .slc none 0 0] 0) := (Same.tmp (Nat.le_refl _)).new (Nat.le_succ _)
 have lA : ((μ.new [c] 0).new [.int .i64 0, .slc none 0 0, .int .i64 0, .int .i64 0, .slc none 0 0] 0).ld (some 1) μ.next 0 = some (.agg [c]) := by
  rw [Mem.new_ld, if_neg (by simp [Mem.new_next]), Mem.new_ld, if_pos rfl]; rfl
 refine Ret_of p37 (by simp [r37]) ?_
 simp only [rI, r37, frOf_2]
 simp only [w1, w2, zH, zI, ↓reduceIte, zA, zE, lA]
 refine R_calls (l := [.agg [c], .c (.int .i64 ticks)]) (by simp only [w1, w2, ↓reduceIte, zA]) (sok_ok (hR.same hA hh) (by simp only [Mem.new_next]; omega) hl) ?_
 rintro v μ1 ⟨rfl, hs⟩
 simp only [Mem.new_next] at hs
 obtain ⟨μ2, e2, hs2, hn2, ho2⟩ := hs.st (i := μ.next + 1) (o := 0) (x := [.int .i64 3, .slc none 0 0, .int .i64 0, .int .i64 0, .slc none 0 0])
  (μ1 := (μ.new [c] 0).new [.int .i64 3, .slc none 0 0, .int .i64 0, .int .i64 0, .slc none 0 0] 0) (by omega) (new_st0 (μ := μ.new [c] 0) rfl)
 have l2 : μ2.ld (some 5) (μ.next + 1) 0 = some (.agg [.int .i64 3, .slc none 0 0, .int .i64 0, .int .i64 0, .slc none 0 0]) := by
  rw [hs2.ld (by omega), Mem.new_ld, Mem.new_next, if_pos rfl]; rfl
 simp only [w1, w2, zH, zI, ↓reduceIte, zA, zB, zE, hg, m2, fillc, wr, zJ, zB, Mem.new_next, e2, aRet, aRes, aRes1, l2]
 exact ⟨_, rfl, ⟨_, _, rfl, Rd.nil, Rd.nil⟩, ((Same.tmp (Nat.le_refl _)).new (Nat.le_succ _)).trans (hs2.mono (Nat.le_trans (Nat.le_succ _) (Nat.le_succ _)))⟩

theorem runPlan_ok {hi : Nat} {c : Cell} {p : PPlan} {ticks : Int} (hR : PlanR hi μ c p) (hh : hi ≤ μ.next) (hl : Lens p) (hn : runnable p ticks = true) (hg : Goes p ticks (-1) S) :
  Ret 37 [.agg [c], .c (.int .i64 ticks)] μ fun v μ' => RepV μ'.next μ' v S.report ∧ Same μ.next μ μ' := by
 have hA : Same μ.next μ ((μ.new [c] 0).new [.int .i64 0, .slc none 0 0, .int .i64 0, .int .i64 0, .slc none 0 0] 0) := (Same.tmp (Nat.le_refl _)).new (Nat.le_succ _)
 have lA : ((μ.new [c] 0).new [.int .i64 0, .slc none 0 0, .int .i64 0, .int .i64 0, .slc none 0 0] 0).ld (some 1) μ.next 0 = some (.agg [c]) := by
  rw [Mem.new_ld, if_neg (by simp [Mem.new_next]), Mem.new_ld, if_pos rfl]; rfl
 refine Ret_of p37 (by simp [r37]) ?_
 simp only [rI, r37, frOf_2]
 simp only [w1, w2, zH, zI, ↓reduceIte, zA, zE, lA]
 refine R_calls (l := [.agg [c], .c (.int .i64 ticks)]) (by simp only [w1, w2, ↓reduceIte, zA]) (sok_ok (hR.same hA hh) (by simp only [Mem.new_next]; omega) hl) ?_
 rintro v μ0 ⟨rfl, hs0⟩
 simp only [Mem.new_next] at hs0
 have lB : μ0.ld (some 1) μ.next 0 = some (.agg [c]) := (hs0.ld (by omega)).trans lA
 have hR0 : PlanR hi μ0 c p := (hR.same hA hh).same hs0 (by omega)
 have hnx : μ.next + 1 + 1 ≤ μ0.next := hs0.2
 simp only [w1, w2, ↓reduceIte, zA, zE, hn, lB]
 refine R_calls (l := [.agg [c], .c (.int .i64 ticks), .c (.int .i64 (-1))]) (by simp only [w1, w2, ↓reduceIte, zA, zE]) (goes_run hR0 (by omega) hg) ?_
 rintro v μ1 ⟨E, L, hlo, rfl, h, hs1⟩
 have hs := hs0.trans (hs1.mono hnx)
 have hm : μ1.ld (some 5) E.m 5 = some (.agg [.int .i64 S.code, L.sc .recs S.recs.length, .int .i64 S.num, .int .i64 S.ticks, L.sc .states (S.states ++ S.tasks.map (·.state)).length]) := by
  rw [← h.m]
  exact h.has.ldn (r := .mach) rfl (by simp only [mcells, PM.done]; rfl) (.inl rfl)
 obtain ⟨μ2, e2, hs2, hn2, ho2⟩ := hs.st (i := μ.next + 1) (o := 0) (x := [.int .i64 S.code, L.sc .recs S.recs.length, .int .i64 S.num, .int .i64 S.ticks, L.sc .states (S.states ++ S.tasks.map (·.state)).length])
  (μ1 := (μ.new [c] 0).new [.int .i64 S.code, L.sc .recs S.recs.length, .int .i64 S.num, .int .i64 S.ticks, L.sc .states (S.states ++ S.tasks.map (·.state)).length] 0) (by omega) (new_st0 (μ := μ.new [c] 0) rfl)
 have l2 : μ2.ld (some 5) (μ.next + 1) 0 = some (.agg [.int .i64 S.code, L.sc .recs S.recs.length, .int .i64 S.num, .int .i64 S.ticks, L.sc .states (S.states ++ S.tasks.map (·.state)).length]) := by
  rw [hs2.ld (by omega), Mem.new_ld, Mem.new_next, if_pos rfl]; rfl
 have h2 : Has L (icon E L S.done) E.lo μ2 := h.has.frame (by rw [hn2]; exact Nat.le_refl _) fun r hr => ho2 _ (by have := h.has.ge r hr; omega)
 simp only [w1, w2, zH, zI, ↓reduceIte, zA, zB, hm, Mem.new_next, e2, aRet, aRes, aRes1, l2]
 refine ⟨_, rfl, ⟨L.sc .recs S.recs.length, L.sc .states (S.states ++ S.tasks.map (·.state)).length, rfl, ?_, ?_⟩, ?_⟩
 ·exact h2.rd (r := .recs) rfl (by rw [cat_length recrow_len]; rfl) (by omega)
 ·have := h2.rd (r := .states) (sz := 1) (n := S.done.states.length) (cs := cat irow 0 S.done.states) rfl (by simp [cat_length irow_len]) (by omega)
  simpa [PM.done, PM.report, hg.states] using this
 ·exact ((Same.tmp (Nat.le_refl _)).new (Nat.le_succ _)).trans (hs2.mono (Nat.le_trans (Nat.le_succ _) (Nat.le_succ _)))

end
end Go.Proofs.Ytibmnlijoeppaaa.X
