/-
 The reference's StandAt: what it answers.
-/
import Derived.Test.YtibmnlijoeppaaaXW8
namespace Go.Proofs.Ytibmnlijoeppaaa.X
open Nat renaming reduceEqDiff → zA, reduceAdd → zB, reduceLeDiff → zJ, reduceMul → zK
open Int renaming reduceLT → zC, reduceLE → zD, reduceNeg → zE, reduceBEq → zF, reduceBNe → zG
open AV renaming isTup → zH, cells → zI
set_option linter.unusedSimpArgs false
set_option linter.unusedVariables false

/-! 41: spec.StandAt -/
def r41 : RFun := ⟨25, [.cell 6 (some 3)], (.seq (.reg [rI 0 (.box (.t 0) 1) 3, rI 1 (.alc [.bool false, .int .i64 0, .slc none 0 0]) 6]) (.seq (.seq (.reg [rI 0 (.ld (some 1) (.t 3)) 8, rI 1 (.mv (.t 1)) 9, rI 2 (.call 69 [.t 8, .t 9]) 10, rI 3 (.nt (.t 10)) 11, rI 4 (.mv (.t 11)) 12, ⟨5, .mv (.t 2), some 13, some (12, false), []⟩, ⟨6, .bin .lss (.t 13) (.k (.int .i64 0)), some 14, some (12, false), []⟩, rI 7 (.pick (.t 12) (.k (.bool true)) (.t 14)) 15]) (.ite (.t 15) (.seq (.reg [rI 0 (.bld [.bool false, .int .i64 0, .slc none 0 0] []) 16, ⟨1, .st (.t 6) (.t 16) 3, none, none, []⟩]) .ret) .skip)) (.seq (.reg [rI 0 (.ld (some 1) (.t 3)) 17, rI 1 (.mv (.t 1)) 18, rI 2 (.mv (.t 2)) 19, rI 3 (.call 70 [.t 17, .t 18, .t 19]) 20, rI 4 (.mv (.t 20)) 7]) (.seq (.reg [rI 0 (.mv (.t 7)) 21, rI 1 (.nc (.t 21)) 22, rI 2 (.fa (.t 22) 12) 23, rI 3 (.ld (some 3) (.t 23)) 24, ⟨4, .st (.t 6) (.t 24) 3, none, none, []⟩]) .ret))))⟩
theorem p41 : prog 41 = some r41 := by kernel_rfl



section
variable {E : IEnv} {L L' : Lay IR} {S S' : PM} {μ μ' : Mem}

theorem standAt_no {hi : Nat} {c : Cell} {p : PPlan} {ticks k : Int} (hR : PlanR hi μ c p) (hh : hi ≤ μ.next) (hl : Lens p) (hg : runnable p ticks = false ∨ k < 0) :
  Ret 41 [.agg [c], .c (.int .i64 ticks), .c (.int .i64 k)] μ fun v μ' => StandV μ'.next μ' v ⟨false, 0, []⟩ ∧ Same μ.next μ μ' := by
 have hA : Same μ.next μ ((μ.new [c] 0).new [.bool false, .int .i64 0, .slc none 0 0] 0) := (Same.tmp (Nat.le_refl _)).new (Nat.le_succ _)
 have lA : ((μ.new [c] 0).new [.bool false, .int .i64 0, .slc none 0 0] 0).ld (some 1) μ.next 0 = some (.agg [c]) := by
  rw [Mem.new_ld, if_neg (by simp [Mem.new_next]), Mem.new_ld, if_pos rfl]; rfl
 refine Ret_of p41 (by simp [r41]) ?_
 simp only [rI, r41, frOf_3]
 simp only [w1, w2, zH, zI, ↓reduceIte, zA, lA]
 refine R_calls (l := [.agg [c], .c (.int .i64 ticks)]) (by simp only [w1, w2, ↓reduceIte, zA]) (sok_ok (hR.same hA hh) (by simp only [Mem.new_next]; omega) hl) ?_
 rintro v μ1 ⟨rfl, hs⟩
 simp only [Mem.new_next] at hs
 obtain ⟨μ2, e2, hs2, hn2, ho2⟩ := hs.st (i := μ.next + 1) (o := 0) (x := [.bool false, .int .i64 0, .slc none 0 0])
  (μ1 := (μ.new [c] 0).new [.bool false, .int .i64 0, .slc none 0 0] 0) (by omega) (new_st0 (μ := μ.new [c] 0) rfl)
 have l2 : μ2.ld (some 3) (μ.next + 1) 0 = some (.agg [.bool false, .int .i64 0, .slc none 0 0]) := by
  rw [hs2.ld (by omega), Mem.new_ld, Mem.new_next, if_pos rfl]; rfl
 have hs' := ((Same.tmp (μ := μ) (cs := [c]) (sz := 0) (Nat.le_refl _)).new (Nat.le_succ _)).trans (hs2.mono (Nat.le_trans (Nat.le_succ _) (Nat.le_succ _)))
 by_cases hr : runnable p ticks = true
 ·have hk : k < 0 := by rcases hg with hg | hg; rw [hr] at hg; cases hg; exact hg
  simp only [w1, w2, zH, zI, ↓reduceIte, zA, zB, hr, decide_eq_true hk, m2, fillc, zB, Mem.new_next, e2, aRet, aRes, aRes1, l2]
  exact ⟨_, rfl, ⟨_, fun _ => .slc none 0 0, rfl, Rd.nil, fun i v hv => by simp at hv⟩, hs'⟩
 ·have hr' : runnable p ticks = false := by simpa using hr
  simp only [w1, w2, zH, zI, ↓reduceIte, zA, zB, hr', m2, fillc, zB, Mem.new_next, e2, aRet, aRes, aRes1, l2]
  exact ⟨_, rfl, ⟨_, fun _ => .slc none 0 0, rfl, Rd.nil, fun i v hv => by simp at hv⟩, hs'⟩

theorem standAt_ok {hi : Nat} {c : Cell} {p : PPlan} {ticks k : Int} (hR : PlanR hi μ c p) (hh : hi ≤ μ.next) (hl : Lens p) (hn : runnable p ticks = true) (hk : 0 ≤ k) (hg : Goes p ticks k S) (hr4 : ∀ v ∈ S.stand.tasks, v.regs.length = 4) :
  Ret 41 [.agg [c], .c (.int .i64 ticks), .c (.int .i64 k)] μ fun v μ' => StandV μ'.next μ' v S.stand ∧ Same μ.next μ μ' := by
 have hA : Same μ.next μ ((μ.new [c] 0).new [.bool false, .int .i64 0, .slc none 0 0] 0) := (Same.tmp (Nat.le_refl _)).new (Nat.le_succ _)
 have lA : ((μ.new [c] 0).new [.bool false, .int .i64 0, .slc none 0 0] 0).ld (some 1) μ.next 0 = some (.agg [c]) := by
  rw [Mem.new_ld, if_neg (by simp [Mem.new_next]), Mem.new_ld, if_pos rfl]; rfl
 refine Ret_of p41 (by simp [r41]) ?_
 simp only [rI, r41, frOf_3]
 simp only [w1, w2, zH, zI, ↓reduceIte, zA, lA]
 refine R_calls (l := [.agg [c], .c (.int .i64 ticks)]) (by simp only [w1, w2, ↓reduceIte, zA]) (sok_ok (hR.same hA hh) (by simp only [Mem.new_next]; omega) hl) ?_
 rintro v μ0 ⟨rfl, hs0⟩
 simp only [Mem.new_next] at hs0
 have lB : μ0.ld (some 1) μ.next 0 = some (.agg [c]) := (hs0.ld (by omega)).trans lA
 have hR0 : PlanR hi μ0 c p := (hR.same hA hh).same hs0 (by omega)
 have hnx : μ.next + 1 + 1 ≤ μ0.next := hs0.2
 simp only [w1, w2, ↓reduceIte, zA, hn, decide_eq_false (show ¬ k < 0 by omega), lB]
 refine R_calls (l := [.agg [c], .c (.int .i64 ticks), .c (.int .i64 k)]) (by simp only [w1, w2, ↓reduceIte, zA]) (goes_run hR0 (by omega) hg) ?_
 rintro v μ1 ⟨E, L, hlo, rfl, h, hs1⟩
 have hs := hs0.trans (hs1.mono hnx)
 have hm : μ1.ld (some 3) E.m 12 = some (.agg [.bool S.stand.ok, .int .i64 S.stand.running, L.sc .std S.stand.tasks.length]) := by
  rw [← h.m]
  exact h.has.ldn (r := .mach) rfl (by simp only [mcells, PM.done]; rfl) (.inl rfl)
 obtain ⟨μ2, e2, hs2, hn2, ho2⟩ := hs.st (i := μ.next + 1) (o := 0) (x := [.bool S.stand.ok, .int .i64 S.stand.running, L.sc .std S.stand.tasks.length])
  (μ1 := (μ.new [c] 0).new [.bool S.stand.ok, .int .i64 S.stand.running, L.sc .std S.stand.tasks.length] 0) (by omega) (new_st0 (μ := μ.new [c] 0) rfl)
 have l2 : μ2.ld (some 3) (μ.next + 1) 0 = some (.agg [.bool S.stand.ok, .int .i64 S.stand.running, L.sc .std S.stand.tasks.length]) := by
  rw [hs2.ld (by omega), Mem.new_ld, Mem.new_next, if_pos rfl]; rfl
 have h2 : Has L (icon E L S.done) E.lo μ2 := h.has.frame (by rw [hn2]; exact Nat.le_refl _) fun r hr => ho2 _ (by have := h.has.ge r hr; omega)
 simp only [w1, w2, zH, zI, ↓reduceIte, zA, zB, hm, Mem.new_next, e2, aRet, aRes, aRes1, l2]
 refine ⟨_, rfl, ⟨_, fun i => L.sc (.stdr i) 4, rfl, ?_, ?_⟩, ((Same.tmp (Nat.le_refl _)).new (Nat.le_succ _)).trans (hs2.mono (Nat.le_trans (Nat.le_succ _) (Nat.le_succ _)))⟩
 ·have := h2.rd (r := .std) (sz := 7) (n := S.stand.tasks.length) (cs := cat (viewrow L) 0 S.stand.tasks) rfl (by rw [cat_length (viewrow_len L)]) (by omega)
  rw [cat_congr (g' := viewrow L) fun j g hj => by simp only [viewrow, hr4 g (List.mem_of_getElem? hj)]]
  exact this
 ·intro i v hv
  have hr := hr4 v (List.mem_of_getElem? hv)
  have := h2.rd (r := .stdr i) (sz := 1) (n := v.regs.length) (cs := cat irow 0 v.regs) (by
   show (S.stand.tasks[i]?).map _ = _
   rw [hv]; rfl) (by simp [cat_length irow_len]) (by omega)
  rw [hr] at this ⊢
  exact this
end
end Go.Proofs.Ytibmnlijoeppaaa.X
