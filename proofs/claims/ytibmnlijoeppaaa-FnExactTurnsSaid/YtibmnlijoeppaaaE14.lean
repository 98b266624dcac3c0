/-
 The law FnExactTurns returns true.
-/
import Derived.Test.YtibmnlijoeppaaaTU
import Derived.Test.YtibmnlijoeppaaaE4
namespace Go.Proofs.Ytibmnlijoeppaaa
open Nat renaming reduceEqDiff → zA, reduceAdd → zB, reduceLeDiff → zJ, reduceMul → zK
open Int renaming reduceLT → zC, reduceLE → zD, reduceNeg → zE, reduceBEq → zF, reduceBNe → zG
open AV renaming isTup → zH, cells → zI
set_option linter.unusedSimpArgs false
set_option linter.unusedVariables false

/-! 13: laws.FnExactTurns -/
def r13 : RFun := ⟨74, [.tmp 4], (.seq (.reg [rI 0 (.box (.t 0) 1) 2, rI 1 (.mv (.k (.bool false))) 4]) (.seq (.reg [rI 0 (.mv (.k (.int .i64 1048576))) 5]) (.seq (.reg [rI 0 (.ld (some 1) (.t 2)) 13, rI 1 (.mv (.t 5)) 14, rI 2 (.call 18 [.t 13, .t 14]) 15, rI 3 (.mv (.t 15)) 5]) (.seq (.seq (.reg [rI 0 (.mv (.t 5)) 16, rI 1 (.bin .lss (.t 16) (.k (.int .i64 0))) 17]) (.ite (.t 17) (.seq (.reg [rI 0 (.mv (.k (.bool true))) 4]) .ret) .skip)) (.seq (.reg [rI 0 (.ld (some 1) (.t 2)) 18, rI 1 (.call 20 [.t 18]) 19, rI 2 (.mv (.t 1)) 20, rI 3 (.call 35 [.t 19, .t 20]) 21, rI 4 (.mv (.t 21)) 6]) (.seq (.reg [rI 0 (.ld (some 1) (.t 2)) 22, rI 1 (.call 20 [.t 22]) 23, rI 2 (.alc [.slc none 0 0]) 7, ⟨3, .st (.t 7) (.t 23) 1, none, none, []⟩]) (.seq (.reg [rI 0 (.ld (some 1) (.t 7)) 24, rI 1 (.mv (.t 1)) 25, rI 2 (.call 34 [.t 24, .t 25]) 26, rI 3 (.mv (.t 26)) 8]) (.seq (.seq (.reg [rI 0 (.mv (.t 8)) 27, rI 1 (.mv (.t 6)) 28, rI 2 (.call 48 [.t 27, .t 28]) 29, rI 3 (.nt (.t 29)) 30]) (.ite (.t 30) (.seq (.reg [rI 0 (.mv (.k (.bool false))) 4]) .ret) .skip)) (.seq (.seq (.reg [rI 0 (.ld (some 1) (.t 7)) 31, rI 1 (.ld (some 1) (.t 2)) 32, ⟨2, .call 20 [.t 32], some 33, none, [.ld 31 (some 1) (.t 7)]⟩, rI 3 (.call 23 [.t 31, .t 33]) 34, rI 4 (.nt (.t 34)) 35]) (.ite (.t 35) (.seq (.reg [rI 0 (.mv (.k (.bool false))) 4]) .ret) .skip)) (.seq (.reg [rI 0 (.mv (.k (.int .i64 1))) 9]) (.seq (.reg [rI 0 (.ld (some 1) (.t 7)) 36, rI 1 (.mv (.t 9)) 37, rI 2 (.call 45 [.t 36, .t 37]) 38, rI 3 (.mv (.t 38)) 9]) (.seq (.seq (.reg [rI 0 (.mv (.t 9)) 39, rI 1 (.bin .lss (.t 39) (.k (.int .i64 0))) 40, rI 2 (.mv (.t 40)) 41, ⟨3, .mv (.t 8), some 42, some (41, false), []⟩, ⟨4, .mv (.t 6), some 43, some (41, false), []⟩, ⟨5, .call 48 [.t 42, .t 43], some 44, some (41, false), []⟩, ⟨6, .nt (.t 44), some 45, some (41, false), []⟩, rI 7 (.pick (.t 41) (.k (.bool true)) (.t 45)) 46]) (.ite (.t 46) (.seq (.reg [rI 0 (.mv (.k (.bool false))) 4]) .ret) .skip)) (.seq (.reg [rI 0 (.mv (.k (.int .i64 1))) 10]) (.seq (.reg [rI 0 (.mv (.t 8)) 47, rI 1 (.mv (.t 10)) 48, rI 2 (.call 49 [.t 47, .t 48]) 49, rI 3 (.mv (.t 49)) 10]) (.seq (.reg [rI 0 (.mv (.k (.int .i64 1))) 11]) (.seq (.reg [rI 0 (.mv (.t 8)) 50, rI 1 (.mv (.t 11)) 51, rI 2 (.call 50 [.t 50, .t 51]) 52, rI 3 (.mv (.t 52)) 11]) (.seq (.seq (.reg [rI 0 (.mv (.t 11)) 53, rI 1 (.bin .lss (.t 53) (.k (.int .i64 0))) 54]) (.ite (.t 54) (.seq (.reg [rI 0 (.mv (.k (.bool false))) 4]) .ret) .skip)) (.seq (.seq (.reg [rI 0 (.mv (.t 11)) 55, rI 1 (.mv (.t 10)) 56, rI 2 (.bin .neq (.t 55) (.t 56)) 57]) (.ite (.t 57) (.seq (.reg [rI 0 (.mv (.k (.bool false))) 4]) .ret) .skip)) (.seq (.reg [rI 0 (.ld (some 1) (.t 2)) 58, rI 1 (.call 20 [.t 58]) 59, rI 2 (.mv (.t 1)) 60, rI 3 (.call 34 [.t 59, .t 60]) 61, rI 4 (.mv (.t 61)) 12]) (.seq (.seq (.reg [rI 0 (.mv (.t 12)) 62, rI 1 (.mv (.t 6)) 63, rI 2 (.call 48 [.t 62, .t 63]) 64, rI 3 (.nt (.t 64)) 65]) (.ite (.t 65) (.seq (.reg [rI 0 (.mv (.k (.bool false))) 4]) .ret) .skip)) (.seq (.reg [rI 0 (.mv (.k (.int .i64 1))) 11]) (.seq (.reg [rI 0 (.mv (.t 8)) 66, rI 1 (.mv (.t 11)) 67, rI 2 (.call 50 [.t 66, .t 67]) 68, rI 3 (.mv (.t 68)) 11]) (.seq (.seq (.reg [rI 0 (.mv (.t 11)) 69, rI 1 (.bin .lss (.t 69) (.k (.int .i64 0))) 70]) (.ite (.t 70) (.seq (.reg [rI 0 (.mv (.k (.bool false))) 4]) .ret) .skip)) (.seq (.seq (.reg [rI 0 (.mv (.t 11)) 71, rI 1 (.mv (.t 10)) 72, rI 2 (.bin .neq (.t 71) (.t 72)) 73]) (.ite (.t 73) (.seq (.reg [rI 0 (.mv (.k (.bool false))) 4]) .ret) .skip)) (.seq (.reg [rI 0 (.mv (.k (.bool true))) 4]) .ret)))))))))))))))))))))))))⟩
theorem p13 : prog 13 = some r13 := by kernel_rfl


theorem p48 : prog 48 = some (r78 77) := by kernel_rfl
theorem p77 : prog 77 = some r104 := by kernel_rfl
theorem p49 : prog 49 = some r80 := by kernel_rfl
theorem p50 : prog 50 = some r81 := by kernel_rfl

theorem TurnsH.v {lo : Nat} {μ : Mem} {L : Lay TRo} {C : Con TRo} {l : List PRec} (h : Has L C lo μ) (e : C TRo.out = some (4, cat recrow 0 l)) : Rd μ.next μ 4 (L.sc TRo.out l.length) l.length (cat recrow 0 l) := h.rd e (by rw [cat_length recrow_len]) (by omega)

theorem law13 {hi : Nat} {μ : Mem} {c : Cell} {p : PPlan} {ticks : Int} (hR : PlanR hi μ c p) (hh : hi ≤ μ.next) (hl : Lens p) : Ret 13 [.agg [c], .c (.int .i64 ticks)] μ fun v μ' => v = .c (.bool true) := by
 obtain ⟨l, hll, himpl, hspec⟩ := turnsAll p ticks hl
 refine Ret_of p13 (by simp [r13]) ?_
 simp only [rI, r13, frOf_2]
 have hA : Same μ.next μ (μ.new [c] 0) := Same.tmp (Nat.le_refl _)
 have hRA := hR.same hA hh
 have lA : (μ.new [c] 0).ld (some 1) μ.next 0 = some (.agg [c]) := ld_new rfl
 simp only [w1, w2, zH, zI, ↓reduceIte, zA, lA]
 refine R_calls rfl (by simp only [w1, w2, ↓reduceIte, zA]; exact szPlan_ok hRA (Nat.le_succ_of_le hh) hl (by omega)) ?_
 rintro v μb ⟨rfl, hb⟩
 simp only [Mem.new_next] at hb
 simp only [w1, w2, ↓reduceIte]
 by_cases hsz : szP p 1048576 < 0
 ·rw [decide_eq_true hsz]
  simp only [w1, w2, ↓reduceIte, m1, m2, aRet, aRes, aRes1]
 rw [decide_eq_false hsz]
 have hl2 := szP_le (p := p) (by omega)
 have htot := szP_tot (p := p) (by omega)
 have hRb := hRA.same hb (by omega)
 have nb := hb.2
 simp only [Mem.new_next] at nb
 have lb := (hb.ld (n := some 1) (i := μ.next) (o := 0) (by omega)).trans lA
 simp only [w1, w2, ↓reduceIte, zA, lb]
 -- the reference
 refine R_calls rfl (by simp only [w1, w2, ↓reduceIte]; exact toPlan_ok hRb (by omega) hl2) ?_
 rintro v μc ⟨L1, rfl, hL1, hc⟩
 simp only [w1, ↓reduceIte, zA]
 have hP1 := hL1.planR
 have nc := hc.2
 refine R_calls rfl (by simp only [w1, w2, ↓reduceIte, zA]; exact hspec hP1 (Nat.le_refl _)) ?_
 rintro _ μd ⟨⟨Ls, Cs, hLs, hCs, rfl⟩, hd⟩
 have hVs := TurnsH.v hLs hCs
 have nd := hd.2
 have hbd := hc.trans (hd.mono nc)
 have hAd := hb.trans (hbd.mono nb)
 have lD := (hAd.ld (n := some 1) (i := μ.next) (o := 0) (by omega)).trans lA
 have hRd := hRA.same hAd (by omega)
 simp only [w1, w2, ↓reduceIte, zA, lD]
 -- the plan for the program
 refine R_calls rfl (by simp only [w1, w2, ↓reduceIte]; exact toPlan_ok hRd (by omega) hl2) ?_
 rintro v μe ⟨L2, rfl, hL2, he⟩
 have ne := he.2
 have hP2 := hL2.planR
 simp only [w1, w2, zH, zI, ↓reduceIte, zA, st_new (μ := μe) (cs := [.slc none 0 0]) (x := [L2.sc .bodies p.length]) (e := 0) rfl]
 have he1 : Same μe.next μe (μe.new [L2.sc .bodies p.length] 0) := Same.tmp (Nat.le_refl _)
 have lX : (μe.new [L2.sc .bodies p.length] 0).ld (some 1) μe.next 0 = some (.agg [L2.sc .bodies p.length]) := ld_new rfl
 have ne1 : (μe.new [L2.sc .bodies p.length] 0).next = μe.next + 1 := by simp only [Mem.new_next]
 generalize μe.new [L2.sc .bodies p.length] 0 = μe1 at *
 simp only [w2, lX]
 -- the program
 refine R_calls rfl (by simp only [w1, w2, ↓reduceIte, zA]; exact himpl (hP2.same he1 (Nat.le_refl _)) (by omega)) ?_
 rintro _ μf ⟨⟨Lg, Cg, hG, hC, rfl⟩, hf⟩
 have nf := hf.2
 have hdf : Same μd.next μd μf := he.trans ((he1.mono (by omega)).trans (hf.mono (by omega)))
 have hVs1 := (hVs.same hdf (by omega)).mono (hi' := μf.next) (by omega)
 simp only [w1, w2, ↓reduceIte, zA]
 refine R_calls rfl (by simp only [w1, w2, ↓reduceIte, zA]; exact eqRecS_ok p48 p77 (TurnsH.v hG hC) hVs1 (by omega) (by omega)) ?_
 rintro v μg ⟨rfl, hg⟩
 have ng := hg.2
 -- the plan is as it was
 have hef : Same μe1.next μe1 μg := hf.trans (hg.mono (by omega))
 have hAg : Same (μ.next + 1) (μ.new [c] 0) μg := hAd.trans ((hdf.mono (by omega)).trans (hg.mono (by omega)))
 have lXg := (hef.ld (n := some 1) (i := μe.next) (o := 0) (by omega)).trans lX
 have lAg := (hAg.ld (n := some 1) (i := μ.next) (o := 0) (by omega)).trans lA
 have hRg := hRA.same hAg (by omega)
 simp only [w1, w2, ↓reduceIte, zA, lXg, lAg]
 refine R_callre rfl (by simp only [w1, w2, ↓reduceIte]; exact toPlan_ok hRg (by omega) hl2) ?_
 rintro v μh ⟨L3, rfl, hL3, hh'⟩
 have nh := hh'.2
 have lXh := (hh'.ld (n := some 1) (i := μe.next) (o := 0) (by omega)).trans lXg
 refine ⟨?_, ?_⟩
 ·simp only [List.all_cons, List.all_nil, Bool.and_true, Re.holds, w1, ↓reduceIte, zA, lXh, beq_self_eq_true]
 simp only [w1]
 refine R_calls rfl (by
  simp only [w1, w2, ↓reduceIte, zA]
  exact eqPlan_ok (hi := μh.next) (p := p) ((((hP2.same he1 (Nat.le_refl _)).same hef (by omega)).same hh' (by omega)).mono (by omega)) hL3.planR (Nat.le_refl _) hl) ?_
 rintro v μi ⟨rfl, hi'⟩
 have ni := hi'.2
 have hgi : Same μg.next μg μi := hh'.trans (hi'.mono (by omega))
 have hfi : Same μf.next μf μi := hg.trans (hgi.mono (by omega))
 have hei : Same μe1.next μe1 μi := hef.trans (hgi.mono (by omega))
 have lXi := (hgi.ld (n := some 1) (i := μe.next) (o := 0) (by omega)).trans lXg
 simp only [w1, w2, ↓reduceIte, zA, lXi]
 -- the plan is marked
 have hL2i : Has L2 (pcon L2 p) μd.next μi := (hL2.same he1 (Nat.le_refl _)).same hei (by omega)
 refine R_calls rfl (by simp only [w1, w2, ↓reduceIte, zA]; exact markPlan_ok (n := 1) (by omega) hl2.1 hL2i PShape.of) ?_
 rintro v μj ⟨rfl, nj, oj⟩
 have hSij : Same μd.next μi μj := ⟨fun b hb => oj b (by omega) fun x hx e => by have := hL2.ge x hx; omega, by omega⟩
 have hGij : ∀ b, μe.next ≤ b → b < μi.next → μj.obj b = μi.obj b := fun b h1 h2 => oj b h2 fun x hx e => by have := hL2.lt x hx; omega
 have hdi : Same μd.next μd μi := hdf.trans (hfi.mono (by omega))
 have hdj : Same μd.next μd μj := hdi.trans hSij
 have hGi : Has Lg Cg μe1.next μi := hG.same hfi (Nat.le_refl _)
 have hGj : Has Lg Cg μe1.next μj := hGi.frame (by omega) fun x hx => hGij _ (by have := hGi.ge x hx; omega) (hGi.lt x hx)
 have d1 : decide (((1 + 5 * tot p : Nat) : Int) < 0) = false := decide_eq_false (by omega)
 simp only [w1, w2, ↓reduceIte, zA, d1]
 refine R_calls rfl (by simp only [w1, w2, ↓reduceIte, zA]; exact eqRecS_ok p48 p77 (TurnsH.v hGj hC) ((hVs.same hdj (by omega)).mono (hi' := μj.next) (by omega)) (Nat.le_refl _) (by omega)) ?_
 rintro v μk ⟨rfl, hk⟩
 have nk := hk.2
 simp only [w1, w2, ↓reduceIte, zA]
 -- the answer is marked
 have hGk := hGj.same hk (Nat.le_refl _)
 refine R_calls rfl (by simp only [w1, w2, ↓reduceIte, zA]; exact markRec_ok p49 (n := 1) (by omega) hGk hC) ?_
 rintro v μl ⟨rfl, hHl, nl, ol⟩
 have hSkl : Same μe1.next μk μl := ⟨fun b hb => ol b fun hx e => by have := hG.ge _ hx; omega, by omega⟩
 have hvl : Rd μl.next μl 4 (Lg.sc TRo.out l.length) l.length (cat recrow 0 ((List.range l.length).map (rmark 1))) := hHl.rd (r := TRo.out) (by simp only [Con.upd, if_true]) (by rw [cat_length recrow_len]; simp) (by omega)
 simp only [w1, w2, ↓reduceIte, zA]
 refine R_calls rfl (by simp only [w1, w2, ↓reduceIte, zA]; exact heldRec_ok p50 (n := 1) (by omega) hvl) ?_
 rintro v μm ⟨rfl, rfl⟩
 have d2 : decide (((1 + 4 * l.length : Nat) : Int) < 0) = false := decide_eq_false (by omega)
 have hdm : Same μd.next μd μm := hdj.trans ((hk.mono (by omega)).trans (hSkl.mono (by omega)))
 have hAm : Same (μ.next + 1) (μ.new [c] 0) μm := hAd.trans (hdm.mono (by omega))
 have lAm := (hAm.ld (n := some 1) (i := μ.next) (o := 0) (by omega)).trans lA
 have hRm := hRA.same hAm (by omega)
 simp only [w1, w2, ↓reduceIte, zA, d2, bneq rfl, lAm]
 -- once more
 refine R_calls rfl (by simp only [w1, w2, ↓reduceIte]; exact toPlan_ok hRm (by omega) hl2) ?_
 rintro v μn ⟨L4, rfl, hL4, hn⟩
 have nn := hn.2
 simp only [w1, ↓reduceIte, zA]
 refine R_calls rfl (by simp only [w1, w2, ↓reduceIte, zA]; exact himpl hL4.planR (Nat.le_refl _)) ?_
 rintro _ μo ⟨⟨Lo, Co, hO, hOC, rfl⟩, ho⟩
 have no := ho.2
 have hmo : Same μm.next μm μo := hn.trans (ho.mono (by omega))
 have hdo : Same μd.next μd μo := hdm.trans (hmo.mono (by omega))
 simp only [w1, w2, ↓reduceIte, zA]
 refine R_calls rfl (by simp only [w1, w2, ↓reduceIte, zA]; exact eqRecS_ok p48 p77 (TurnsH.v hO hOC) ((hVs.same hdo (by omega)).mono (hi' := μo.next) (by omega)) (by omega) (by omega)) ?_
 rintro v μp ⟨rfl, hp⟩
 have np := hp.2
 have hlp : Same μm.next μm μp := hmo.trans (hp.mono (by omega))
 simp only [w1, w2, ↓reduceIte, zA]
 refine R_calls rfl (by simp only [w1, w2, ↓reduceIte, zA]; exact heldRec_ok p50 (n := 1) (by omega) (hvl.same hlp (Nat.le_refl _))) ?_
 rintro v μq ⟨rfl, hq⟩
 simp only [w1, w2, ↓reduceIte, zA, d2, bneq rfl, aRet, aRes, aRes1]
 first | exact ⟨_, rfl, rfl⟩ | trivial | rfl
end Go.Proofs.Ytibmnlijoeppaaa
