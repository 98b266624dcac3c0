/-
 The law FnExactPlanOk returns true.
-/
import Derived.Test.YtibmnlijoeppaaaOkAll
import Derived.Test.YtibmnlijoeppaaaPlanL
namespace Go.Proofs.Ytibmnlijoeppaaa
open Nat renaming reduceEqDiff → zA, reduceAdd → zB, reduceLeDiff → zJ, reduceMul → zK
open Int renaming reduceLT → zC, reduceLE → zD, reduceNeg → zE, reduceBEq → zF, reduceBNe → zG
open AV renaming isTup → zH, cells → zI
set_option linter.unusedSimpArgs false
set_option linter.unusedVariables false

theorem szRows_le : ∀ {p : PPlan} {left : Int}, 0 ≤ szRows p left → ∀ b ∈ p, (b.length : Int) ≤ left
 | [], left, h, b, hb => by cases hb
 | a :: p, left, h, b, hb => by
  simp only [szRows] at h
  split at h
  ·omega
  ·rcases List.mem_cons.1 hb with rfl | hb
   ·omega
   ·have := szRows_le h b hb; omega

theorem szP_le {p : PPlan} (h : 0 ≤ szP p 1048576) : p.length ≤ 1048576 ∧ ∀ b ∈ p, b.length ≤ 1048576 := by
 unfold szP at h
 split at h
 ·omega
 ·refine ⟨by omega, fun b hb => ?_⟩
  have := szRows_le h b hb
  omega

theorem st_new {μ : Mem} {cs x : List Cell} {e : Nat} (h : x.length = cs.length) : (μ.new cs e).st μ.next 0 x = some (μ.new x e) := by
 rw [Mem.new_st, if_pos rfl, stl, if_pos (by omega), wr_all h]

theorem ld_new {μ : Mem} {cs : List Cell} {e n : Nat} (h : n = cs.length) : (μ.new cs e).ld (some n) μ.next 0 = some (.agg cs) := by
 rw [Mem.new_ld, if_pos rfl, ldl_some, h, rd_all]; rfl

theorem flt3_len (x : Int × Int × Int) : (flt3 x).length = 3 := rfl

/-! 4: laws.FnExactPlanOk -/
def r4 : RFun := ⟨28, [.tmp 2], (.seq (.reg [rI 0 (.box (.t 0) 1) 1, rI 1 (.mv (.k (.bool false))) 2]) (.seq (.reg [rI 0 (.mv (.k (.int .i64 1048576))) 3]) (.seq (.reg [rI 0 (.ld (some 1) (.t 1)) 7, rI 1 (.mv (.t 3)) 8, rI 2 (.call 18 [.t 7, .t 8]) 9, rI 3 (.mv (.t 9)) 3]) (.seq (.seq (.reg [rI 0 (.mv (.t 3)) 10, rI 1 (.bin .lss (.t 10) (.k (.int .i64 0))) 11]) (.ite (.t 11) (.seq (.reg [rI 0 (.mv (.k (.bool true))) 2]) .ret) .skip)) (.seq (.reg [rI 0 (.ld (some 1) (.t 1)) 12, rI 1 (.call 20 [.t 12]) 13, rI 2 (.call 19 [.t 13]) 14, rI 3 (.alc [.int .i64 0, .int .i64 0, .int .i64 0]) 4, ⟨4, .st (.t 4) (.t 14) 3, none, none, []⟩]) (.seq (.reg [rI 0 (.ld (some 1) (.t 1)) 15, rI 1 (.call 20 [.t 15]) 16, rI 2 (.alc [.slc none 0 0]) 5, ⟨3, .st (.t 5) (.t 16) 1, none, none, []⟩]) (.seq (.reg [rI 0 (.ld (some 1) (.t 5)) 17, rI 1 (.call 21 [.t 17]) 18, rI 2 (.alc [.int .i64 0, .int .i64 0, .int .i64 0]) 6, ⟨3, .st (.t 6) (.t 18) 3, none, none, []⟩]) (.seq (.seq (.reg [rI 0 (.ld (some 3) (.t 6)) 19, rI 1 (.ld (some 3) (.t 4)) 20, rI 2 (.call 22 [.t 19, .t 20]) 21, rI 3 (.nt (.t 21)) 22]) (.ite (.t 22) (.seq (.reg [rI 0 (.mv (.k (.bool false))) 2]) .ret) .skip)) (.seq (.seq (.reg [rI 0 (.ld (some 1) (.t 5)) 23, rI 1 (.ld (some 1) (.t 1)) 24, ⟨2, .call 20 [.t 24], some 25, none, [.ld 23 (some 1) (.t 5)]⟩, rI 3 (.call 23 [.t 23, .t 25]) 26, rI 4 (.nt (.t 26)) 27]) (.ite (.t 27) (.seq (.reg [rI 0 (.mv (.k (.bool false))) 2]) .ret) .skip)) (.seq (.reg [rI 0 (.mv (.k (.bool true))) 2]) .ret))))))))))⟩
theorem p4 : prog 4 = some r4 := by kernel_rfl



theorem law4 {hi : Nat} {μ : Mem} {c : Cell} {p : PPlan} (hR : PlanR hi μ c p) (hh : hi ≤ μ.next) (hl : Lens p) : Ret 4 [.agg [c]] μ fun v μ' => v = .c (.bool true) := by
 refine Ret_of p4 (by simp [r4]) ?_
 simp only [rI, r4, frOf_1]
 have hA : Same μ.next μ (μ.new [c] 0) := Same.tmp (Nat.le_refl _)
 have hRA := hR.same hA hh
 have lA : (μ.new [c] 0).ld (some 1) μ.next 0 = some (.agg [c]) := ld_new rfl
 simp only [w1, w2, zH, zI, ↓reduceIte, zA, lA]
 refine R_calls rfl (by simp only [w1, w2, ↓reduceIte, zA]; exact szPlan_ok hRA (Nat.le_succ_of_le hh) hl (by omega)) ?_
 rintro v μb ⟨rfl, hb⟩
 simp only [Mem.new_next] at hb
 simp only [w1, w2, ↓reduceIte]
 by_cases hsz : szP p 1048576 < 0
 ·rw [decide_eq_true hsz]
  simp only [w1, w2, ↓reduceIte, m1, m2, aRet, aRes, aRes1]
 rw [decide_eq_false hsz]
 have hl2 := szP_le (p := p) (by omega)
 have hRb := hRA.same hb (by omega)
 have nb := hb.2
 simp only [Mem.new_next] at nb
 have lb := (hb.ld (n := some 1) (i := μ.next) (o := 0) (by omega)).trans lA
 simp only [w1, w2, ↓reduceIte, zA, lb]
 refine R_calls rfl (by simp only [w1, w2, ↓reduceIte]; exact toPlan_ok hRb (by omega) hl2) ?_
 rintro v μc ⟨L1, rfl, hL1, hc⟩
 simp only [w1]
 have hP1 := hL1.planR
 have nc := hc.2
 refine R_calls rfl (by simp only [w1, w2, ↓reduceIte]; exact sPlanOk_ok hP1 (Nat.le_refl _) hl) ?_
 rintro v μd ⟨rfl, hd⟩
 have nd := hd.2
 have hbd := hc.trans (hd.mono nc)
 have hAd := hb.trans (hbd.mono nb)
 have lD := (hAd.ld (n := some 1) (i := μ.next) (o := 0) (by omega)).trans lA
 have hRd := hRA.same hAd (by omega)
 simp only [w1, w2, zH, zI, ↓reduceIte, zA, flt3_len, st_new (μ := μd) (cs := [.int .i64 0, .int .i64 0, .int .i64 0]) (x := flt3 (okP p)) (e := 0) rfl]
 have hd1 : Same μd.next μd (μd.new (flt3 (okP p)) 0) := Same.tmp (Nat.le_refl _)
 have lE := (hd1.ld (n := some 1) (i := μ.next) (o := 0) (by omega)).trans lD
 have hRe := hRd.same hd1 (by omega)
 simp only [w2, lE]
 refine R_calls rfl (by simp only [w1, w2, ↓reduceIte]; exact toPlan_ok hRe (by simp only [Mem.new_next]; omega) hl2) ?_
 rintro v μe ⟨L2, rfl, hL2, he⟩
 simp only [Mem.new_next] at he hL2
 have ne := he.2
 simp only [Mem.new_next] at ne
 have hP2 := hL2.planR
 simp only [w1, w2, zH, zI, ↓reduceIte, zA, st_new (μ := μe) (cs := [.slc none 0 0]) (x := [L2.sc .bodies p.length]) (e := 0) rfl]
 have he1 : Same μe.next μe (μe.new [L2.sc .bodies p.length] 0) := Same.tmp (Nat.le_refl _)
 have lX : (μe.new [L2.sc .bodies p.length] 0).ld (some 1) μe.next 0 = some (.agg [L2.sc .bodies p.length]) := ld_new rfl
 simp only [w2, lX]
 refine R_calls rfl (by simp only [w1, w2, ↓reduceIte]; exact iPlanOk_ok (hP2.same he1 (Nat.le_refl _)) (by simp only [Mem.new_next]; omega) hl) ?_
 rintro v μf ⟨rfl, hf⟩
 simp only [Mem.new_next] at hf
 have nf := hf.2
 simp only [Mem.new_next] at nf
 simp only [w1, w2, zH, zI, ↓reduceIte, zA, flt3_len, st_new (μ := μf) (cs := [.int .i64 0, .int .i64 0, .int .i64 0]) (x := flt3 (okP p)) (e := 0) rfl]
 have hf1 : Same μf.next μf (μf.new (flt3 (okP p)) 0) := Same.tmp (Nat.le_refl _)
 have lF : (μf.new (flt3 (okP p)) 0).ld (some 3) μf.next 0 = some (.agg (flt3 (okP p))) := ld_new rfl
 have hdf : Same (μd.next + 1) (μd.new (flt3 (okP p)) 0) (μf.new (flt3 (okP p)) 0) := he.trans ((he1.mono (by omega)).trans ((hf.mono (by omega)).trans (hf1.mono (by omega))))
 have lG := (hdf.ld (n := some 3) (i := μd.next) (o := 0) (by omega)).trans (ld_new rfl)
 simp only [w2, lF, lG]
 refine R_calls rfl (by simp only [w1, w2, ↓reduceIte, zA]; exact eqFault_ok _ _ _ _) ?_
 rintro v μg ⟨rfl, hg⟩
 simp only [Mem.new_next] at hg
 have ng := hg.2
 simp only [Mem.new_next] at ng
 have heg : Same (μe.next + 1) (μe.new [L2.sc .bodies p.length] 0) μg := hf.trans ((hf1.mono (by omega)).trans (hg.mono (by omega)))
 have lH := (heg.ld (n := some 1) (i := μe.next) (o := 0) (by omega)).trans lX
 have hAg : Same (μ.next + 1) (μ.new [c] 0) μg := hAd.trans ((hd1.mono (by omega)).trans ((he.mono (by omega)).trans ((he1.mono (by omega)).trans (heg.mono (by omega)))))
 have lI := (hAg.ld (n := some 1) (i := μ.next) (o := 0) (by omega)).trans lA
 have hRg := hRA.same hAg (by omega)
 simp only [w1, w2, ↓reduceIte, zA, lH, lI]
 refine R_callre rfl (by simp only [w1, w2, ↓reduceIte]; exact toPlan_ok hRg (by omega) hl2) ?_
 rintro v μh ⟨L3, rfl, hL3, hh'⟩
 have nh := hh'.2
 have lJ := (hh'.ld (n := some 1) (i := μe.next) (o := 0) (by omega)).trans lH
 refine ⟨?_, ?_⟩
 ·simp only [List.all_cons, List.all_nil, Bool.and_true, Re.holds, w1, ↓reduceIte, zA, lJ, beq_self_eq_true]
 simp only [w1]
 refine R_calls rfl (by
  simp only [w1, w2, ↓reduceIte, zA]
  exact eqPlan_ok (hi := μh.next) (p := p) ((((hP2.same he1 (Nat.le_refl _)).same heg (by omega)).same hh' (by omega)).mono (by omega)) hL3.planR (Nat.le_refl _) hl) ?_
 rintro v μi ⟨rfl, hi'⟩
 simp only [w1, w2, ↓reduceIte, m1, m2, aRet, aRes, aRes1]
end Go.Proofs.Ytibmnlijoeppaaa
