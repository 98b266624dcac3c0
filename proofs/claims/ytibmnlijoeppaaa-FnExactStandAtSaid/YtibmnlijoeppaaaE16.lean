/-
  The law FnExactStandAt returns true.
-/
import Derived.Test.YtibmnlijoeppaaaE15
import Derived.Test.YtibmnlijoeppaaaE9
namespace Go.Proofs.Ytibmnlijoeppaaa
open Nat renaming reduceEqDiff → zA, reduceAdd → zB, reduceLeDiff → zJ, reduceMul → zK
open Int renaming reduceLT → zC, reduceLE → zD, reduceNeg → zE, reduceBEq → zF, reduceBNe → zG
open AV renaming isTup → zH, cells → zI
set_option linter.unusedSimpArgs false
set_option linter.unusedVariables false

/-! 17: laws.FnExactStandAt -/
def r17 : RFun := ⟨79, [.tmp 6], (.seq (.reg [rI 0 (.box (.t 0) 1) 3, rI 1 (.mv (.k (.bool false))) 6]) (.seq (.reg [rI 0 (.mv (.k (.int .i64 1048576))) 7]) (.seq (.reg [rI 0 (.ld (some 1) (.t 3)) 15, rI 1 (.mv (.t 7)) 16, rI 2 (.call 18 [.t 15, .t 16]) 17, rI 3 (.mv (.t 17)) 7]) (.seq (.seq (.reg [rI 0 (.mv (.t 7)) 18, rI 1 (.bin .lss (.t 18) (.k (.int .i64 0))) 19]) (.ite (.t 19) (.seq (.reg [rI 0 (.mv (.k (.bool true))) 6]) .ret) .skip)) (.seq (.reg [rI 0 (.ld (some 1) (.t 3)) 20, rI 1 (.call 20 [.t 20]) 21, rI 2 (.mv (.t 1)) 22, rI 3 (.mv (.t 2)) 23, rI 4 (.call 41 [.t 21, .t 22, .t 23]) 24, rI 5 (.alc [.bool false, .int .i64 0, .slc none 0 0]) 8, ⟨6, .st (.t 8) (.t 24) 3, none, none, []⟩]) (.seq (.reg [rI 0 (.ld (some 1) (.t 3)) 25, rI 1 (.call 20 [.t 25]) 26, rI 2 (.alc [.slc none 0 0]) 9, ⟨3, .st (.t 9) (.t 26) 1, none, none, []⟩]) (.seq (.reg [rI 0 (.ld (some 1) (.t 9)) 27, rI 1 (.mv (.t 1)) 28, rI 2 (.mv (.t 2)) 29, rI 3 (.call 39 [.t 27, .t 28, .t 29]) 30, rI 4 (.alc [.bool false, .int .i64 0, .slc none 0 0]) 10, ⟨5, .st (.t 10) (.t 30) 3, none, none, []⟩]) (.seq (.seq (.reg [rI 0 (.ld (some 3) (.t 10)) 31, rI 1 (.ld (some 3) (.t 8)) 32, rI 2 (.call 55 [.t 31, .t 32]) 33, rI 3 (.nt (.t 33)) 34]) (.ite (.t 34) (.seq (.reg [rI 0 (.mv (.k (.bool false))) 6]) .ret) .skip)) (.seq (.seq (.reg [rI 0 (.ld (some 1) (.t 9)) 35, rI 1 (.ld (some 1) (.t 3)) 36, ⟨2, .call 20 [.t 36], some 37, none, [.ld 35 (some 1) (.t 9)]⟩, rI 3 (.call 23 [.t 35, .t 37]) 38, rI 4 (.nt (.t 38)) 39]) (.ite (.t 39) (.seq (.reg [rI 0 (.mv (.k (.bool false))) 6]) .ret) .skip)) (.seq (.reg [rI 0 (.mv (.k (.int .i64 1))) 11]) (.seq (.reg [rI 0 (.ld (some 1) (.t 9)) 40, rI 1 (.mv (.t 11)) 41, rI 2 (.call 45 [.t 40, .t 41]) 42, rI 3 (.mv (.t 42)) 11]) (.seq (.seq (.reg [rI 0 (.mv (.t 11)) 43, rI 1 (.bin .lss (.t 43) (.k (.int .i64 0))) 44, rI 2 (.mv (.t 44)) 45, ⟨3, .ld (some 3) (.t 10), some 46, some (45, false), []⟩, ⟨4, .ld (some 3) (.t 8), some 47, some (45, false), []⟩, ⟨5, .call 55 [.t 46, .t 47], some 48, some (45, false), []⟩, ⟨6, .nt (.t 48), some 49, some (45, false), []⟩, rI 7 (.pick (.t 45) (.k (.bool true)) (.t 49)) 50]) (.ite (.t 50) (.seq (.reg [rI 0 (.mv (.k (.bool false))) 6]) .ret) .skip)) (.seq (.reg [rI 0 (.mv (.k (.int .i64 1))) 12]) (.seq (.reg [rI 0 (.ld (some 3) (.t 10)) 51, rI 1 (.mv (.t 12)) 52, rI 2 (.call 56 [.t 51, .t 52]) 53, rI 3 (.mv (.t 53)) 12]) (.seq (.reg [rI 0 (.mv (.k (.int .i64 1))) 13]) (.seq (.reg [rI 0 (.ld (some 3) (.t 10)) 54, rI 1 (.mv (.t 13)) 55, rI 2 (.call 57 [.t 54, .t 55]) 56, rI 3 (.mv (.t 56)) 13]) (.seq (.seq (.reg [rI 0 (.mv (.t 13)) 57, rI 1 (.bin .lss (.t 57) (.k (.int .i64 0))) 58]) (.ite (.t 58) (.seq (.reg [rI 0 (.mv (.k (.bool false))) 6]) .ret) .skip)) (.seq (.seq (.reg [rI 0 (.mv (.t 13)) 59, rI 1 (.mv (.t 12)) 60, rI 2 (.bin .neq (.t 59) (.t 60)) 61]) (.ite (.t 61) (.seq (.reg [rI 0 (.mv (.k (.bool false))) 6]) .ret) .skip)) (.seq (.reg [rI 0 (.ld (some 1) (.t 3)) 62, rI 1 (.call 20 [.t 62]) 63, rI 2 (.mv (.t 1)) 64, rI 3 (.mv (.t 2)) 65, rI 4 (.call 39 [.t 63, .t 64, .t 65]) 66, rI 5 (.alc [.bool false, .int .i64 0, .slc none 0 0]) 14, ⟨6, .st (.t 14) (.t 66) 3, none, none, []⟩]) (.seq (.seq (.reg [rI 0 (.ld (some 3) (.t 14)) 67, rI 1 (.ld (some 3) (.t 8)) 68, rI 2 (.call 55 [.t 67, .t 68]) 69, rI 3 (.nt (.t 69)) 70]) (.ite (.t 70) (.seq (.reg [rI 0 (.mv (.k (.bool false))) 6]) .ret) .skip)) (.seq (.reg [rI 0 (.mv (.k (.int .i64 1))) 13]) (.seq (.reg [rI 0 (.ld (some 3) (.t 10)) 71, rI 1 (.mv (.t 13)) 72, rI 2 (.call 57 [.t 71, .t 72]) 73, rI 3 (.mv (.t 73)) 13]) (.seq (.seq (.reg [rI 0 (.mv (.t 13)) 74, rI 1 (.bin .lss (.t 74) (.k (.int .i64 0))) 75]) (.ite (.t 75) (.seq (.reg [rI 0 (.mv (.k (.bool false))) 6]) .ret) .skip)) (.seq (.seq (.reg [rI 0 (.mv (.t 13)) 76, rI 1 (.mv (.t 12)) 77, rI 2 (.bin .neq (.t 76) (.t 77)) 78]) (.ite (.t 78) (.seq (.reg [rI 0 (.mv (.k (.bool false))) 6]) .ret) .skip)) (.seq (.reg [rI 0 (.mv (.k (.bool true))) 6]) .ret)))))))))))))))))))))))))⟩
theorem p17 : prog 17 = some r17 := by kernel_rfl



theorem StandV.same {hi hi' : Nat} {μ μ' : Mem} {v : AV} {s : PStand} (h : StandV hi μ v s) (hs : Same hi' μ μ') (hh : hi ≤ hi') : StandV hi μ' v s := by
  obtain ⟨sc, g, e, h1, h2⟩ := h
  exact ⟨sc, g, e, h1.same hs hh, fun i r hr => (h2 i r hr).same hs hh⟩
theorem StandV.mono' {hi hi' : Nat} {μ : Mem} {v : AV} {s : PStand} (h : StandV hi μ v s) (hh : hi ≤ hi') : StandV hi' μ v s := by
  obtain ⟨sc, g, e, h1, h2⟩ := h
  exact ⟨sc, g, e, h1.mono hh, fun i r hr => (h2 i r hr).mono hh⟩

theorem law17 {hi : Nat} {μ : Mem} {c : Cell} {p : PPlan} {ticks k : Int} (hR : PlanR hi μ c p) (hh : hi ≤ μ.next) (hl : Lens p) : Ret 17 [.agg [c], .c (.int .i64 ticks), .c (.int .i64 k)] μ fun v μ' => v = .c (.bool true) := by
  obtain ⟨s, hsl, himpl, hspec⟩ := standsAll p ticks k hl
  have hsl' : s.tasks.length ≤ 1000000000 := by omega
  refine Ret_of p17 (by simp [r17]) ?_
  simp only [rI, r17, frOf_3]
  have hA : Same μ.next μ (μ.new [c] 0) := Same.tmp (Nat.le_refl _)
  have hRA := hR.same hA hh
  have lA : (μ.new [c] 0).ld (some 1) μ.next 0 = some (.agg [c]) := ld_new rfl
  simp only [w1, w2, zH, zI, ↓reduceIte, zA, zB, zC, zD, zE, zF, zG, lA]
  refine R_calls rfl (by simp only [w1, w2, zH, zI, ↓reduceIte, zA, zB, zC, zD, zE, zF, zG]; exact szPlan_ok hRA (Nat.le_succ_of_le hh) hl (by omega)) ?_
  rintro v μb ⟨rfl, hb⟩
  simp only [Mem.new_next] at hb
  simp only [w1, w2, zH, zI, ↓reduceIte, zA, zB, zC, zD, zE, zF, zG]
  by_cases hsz : szP p 1048576 < 0
  · rw [decide_eq_true hsz]
    simp only [w1, w2, zH, zI, ↓reduceIte, zA, zB, zC, zD, zE, zF, zG, m1, m2, stl, wr, rd, aRet, aRes, aRes1, toCells, zJ, zK]
  rw [decide_eq_false hsz]
  have hl2 := szP_le (p := p) (by omega)
  have htot := szP_tot (p := p) (by omega)
  have hRb := hRA.same hb (by omega)
  have nb := hb.2
  simp only [Mem.new_next] at nb
  have lb := (hb.ld (n := some 1) (i := μ.next) (o := 0) (by omega)).trans lA
  simp only [w1, w2, zH, zI, ↓reduceIte, zA, zB, zC, zD, zE, zF, zG, lb]
  -- the reference
  refine R_calls rfl (by simp only [w1, w2, zH, zI, ↓reduceIte, zA, zB, zC, zD, zE, zF, zG]; exact toPlan_ok hRb (by omega) hl2) ?_
  rintro v μc ⟨L1, rfl, hL1, hc⟩
  simp only [w1, w2, zH, zI, ↓reduceIte, zA, zB, zC, zD, zE, zF, zG]
  have hP1 := hL1.planR
  have nc := hc.2
  refine R_calls rfl (by simp only [w1, w2, zH, zI, ↓reduceIte, zA, zB, zC, zD, zE, zF, zG]; exact hspec hP1 (Nat.le_refl _)) ?_
  rintro vs μd ⟨hV, hd⟩
  have nd := hd.2
  obtain ⟨sc, gsc, hvs, _, _⟩ := id hV
  have hbd := hc.trans (hd.mono nc)
  have hAd := hb.trans (hbd.mono nb)
  have lD := (hAd.ld (n := some 1) (i := μ.next) (o := 0) (by omega)).trans lA
  have hRd := hRA.same hAd (by omega)
  subst hvs
  have e3 : ∀ x, ([.bool s.ok, .int .i64 s.running, x] : List Cell).length = 3 := fun _ => rfl
  simp only [w1, w2, zH, zI, ↓reduceIte, zA, zB, zC, zD, zE, zF, zG, e3, st_new (μ := μd) (cs := [.bool false, .int .i64 0, .slc none 0 0]) (x := [.bool s.ok, .int .i64 s.running, sc]) (e := 0) rfl]
  have lS : (μd.new [.bool s.ok, .int .i64 s.running, sc] 0).ld (some 3) μd.next 0 = some (.agg [.bool s.ok, .int .i64 s.running, sc]) := ld_new rfl
  have hd1 : Same μd.next μd (μd.new [.bool s.ok, .int .i64 s.running, sc] 0) := Same.tmp (Nat.le_refl _)
  have hVs := hV.same hd1 (Nat.le_refl _)
  have nd1 : (μd.new [.bool s.ok, .int .i64 s.running, sc] 0).next = μd.next + 1 := by simp only [Mem.new_next]
  generalize μd.new [.bool s.ok, .int .i64 s.running, sc] 0 = μd1 at *
  have lE := (hd1.ld (n := some 1) (i := μ.next) (o := 0) (by omega)).trans lD
  have hRe := hRd.same hd1 (by omega)
  simp only [w1, w2, zH, zI, ↓reduceIte, zA, zB, zC, zD, zE, zF, zG, lE]
  -- the plan for the program
  refine R_calls rfl (by simp only [w1, w2, zH, zI, ↓reduceIte, zA, zB, zC, zD, zE, zF, zG]; exact toPlan_ok hRe (by omega) hl2) ?_
  rintro v μe ⟨L2, rfl, hL2, he⟩
  have ne := he.2
  have hP2 := hL2.planR
  simp only [w1, w2, zH, zI, ↓reduceIte, zA, zB, zC, zD, zE, zF, zG, st_new (μ := μe) (cs := [.slc none 0 0]) (x := [L2.sc .bodies p.length]) (e := 0) rfl]
  have he1 : Same μe.next μe (μe.new [L2.sc .bodies p.length] 0) := Same.tmp (Nat.le_refl _)
  have lX : (μe.new [L2.sc .bodies p.length] 0).ld (some 1) μe.next 0 = some (.agg [L2.sc .bodies p.length]) := ld_new rfl
  have ne1 : (μe.new [L2.sc .bodies p.length] 0).next = μe.next + 1 := by simp only [Mem.new_next]
  generalize μe.new [L2.sc .bodies p.length] 0 = μe1 at *
  simp only [w1, w2, zH, zI, ↓reduceIte, zA, zB, zC, zD, zE, zF, zG, lX]
  -- the program
  refine R_calls rfl (by simp only [w1, w2, zH, zI, ↓reduceIte, zA, zB, zC, zD, zE, zF, zG]; exact himpl (hP2.same he1 (Nat.le_refl _)) (by omega)) ?_
  rintro _ μf ⟨⟨Lg, Cg, hG, rfl⟩, hf⟩
  have nf := hf.2
  have hrl : ∀ v ∈ s.tasks, v.regs.length ≤ 1000000000 := fun v hv => by
    obtain ⟨i, hi⟩ := List.getElem?_of_mem hv
    have := (hG.each i v hi).1
    omega
  simp only [w1, w2, zH, zI, ↓reduceIte, zA, zB, zC, zD, zE, zF, zG, e3, st_new (μ := μf) (cs := [.bool false, .int .i64 0, .slc none 0 0]) (x := [.bool s.ok, .int .i64 s.running, Lg.sc IR.std s.tasks.length]) (e := 0) rfl]
  have lG : (μf.new [.bool s.ok, .int .i64 s.running, Lg.sc IR.std s.tasks.length] 0).ld (some 3) μf.next 0 = some (.agg [.bool s.ok, .int .i64 s.running, Lg.sc IR.std s.tasks.length]) := ld_new rfl
  have hf1 : Same μf.next μf (μf.new [.bool s.ok, .int .i64 s.running, Lg.sc IR.std s.tasks.length] 0) := Same.tmp (Nat.le_refl _)
  have nf1 : (μf.new [.bool s.ok, .int .i64 s.running, Lg.sc IR.std s.tasks.length] 0).next = μf.next + 1 := by simp only [Mem.new_next]
  generalize μf.new [.bool s.ok, .int .i64 s.running, Lg.sc IR.std s.tasks.length] 0 = μf1 at *
  -- from the reference's answer on nothing below has changed
  have hdf : Same μd1.next μd1 μf1 := he.trans ((he1.mono (by omega)).trans ((hf.mono (by omega)).trans (hf1.mono (by omega))))
  have lS1 := (hdf.ld (n := some 3) (i := μd.next) (o := 0) (by omega)).trans lS
  have hVg := (hG.v (ok := s.ok) (run := s.running)).same hf1 (Nat.le_refl _)
  have hVs1 := (hVs.same hdf (by omega)).mono' (hi' := μf.next) (by omega)
  simp only [w1, w2, zH, zI, ↓reduceIte, zA, zB, zC, zD, zE, zF, zG, lG, lS1]
  refine R_calls rfl (by simp only [w1, w2, zH, zI, ↓reduceIte, zA, zB, zC, zD, zE, zF, zG]; exact eqStand_ok hVg hVs1 (by omega) hsl' hrl) ?_
  rintro v μg ⟨rfl, hg⟩
  have ng := hg.2
  -- the plan is as it was
  have hef : Same μe1.next μe1 μg := hf.trans ((hf1.mono (by omega)).trans (hg.mono (by omega)))
  have hAg : Same (μ.next + 1) (μ.new [c] 0) μg := hAd.trans ((hd1.mono (by omega)).trans ((hdf.mono (by omega)).trans (hg.mono (by omega))))
  have lXg := (hef.ld (n := some 1) (i := μe.next) (o := 0) (by omega)).trans lX
  have lAg := (hAg.ld (n := some 1) (i := μ.next) (o := 0) (by omega)).trans lA
  have hRg := hRA.same hAg (by omega)
  simp only [w1, w2, zH, zI, ↓reduceIte, zA, zB, zC, zD, zE, zF, zG, lXg, lAg]
  refine R_callre rfl (by simp only [w1, w2, zH, zI, ↓reduceIte, zA, zB, zC, zD, zE, zF, zG]; exact toPlan_ok hRg (by omega) hl2) ?_
  rintro v μh ⟨L3, rfl, hL3, hh'⟩
  have nh := hh'.2
  have lXh := (hh'.ld (n := some 1) (i := μe.next) (o := 0) (by omega)).trans lXg
  refine ⟨?_, ?_⟩
  · simp only [List.all_cons, List.all_nil, Bool.and_true, Re.holds, w1, w2, zH, zI, ↓reduceIte, zA, zB, zC, zD, zE, zF, zG, lXh, beq_self_eq_true]
  simp only [w1, w2, zH, zI, ↓reduceIte, zA, zB, zC, zD, zE, zF, zG]
  refine R_calls rfl (by
    simp only [w1, w2, zH, zI, ↓reduceIte, zA, zB, zC, zD, zE, zF, zG]
    exact eqPlan_ok (hi := μh.next) (p := p) ((((hP2.same he1 (Nat.le_refl _)).same hef (by omega)).same hh' (by omega)).mono (by omega)) hL3.planR (Nat.le_refl _) hl) ?_
  rintro v μi ⟨rfl, hi'⟩
  have ni := hi'.2
  have hgi : Same μg.next μg μi := hh'.trans (hi'.mono (by omega))
  have hfi : Same μf1.next μf1 μi := hg.trans (hgi.mono (by omega))
  have hei : Same μe1.next μe1 μi := hef.trans (hgi.mono (by omega))
  have lXi := (hgi.ld (n := some 1) (i := μe.next) (o := 0) (by omega)).trans lXg
  simp only [w1, w2, zH, zI, ↓reduceIte, zA, zB, zC, zD, zE, zF, zG, lXi]
  -- the plan is marked
  have hL2i : Has L2 (pcon L2 p) μd1.next μi := (hL2.same he1 (Nat.le_refl _)).same hei (by omega)
  refine R_calls rfl (by simp only [w1, w2, zH, zI, ↓reduceIte, zA, zB, zC, zD, zE, zF, zG]; exact markPlan_ok (n := 1) (by omega) hl2.1 hL2i PShape.of) ?_
  rintro v μj ⟨rfl, nj, oj⟩
  have hSij : Same μd1.next μi μj := ⟨fun b hb => oj b (by omega) fun x hx e => by have := hL2.ge x hx; omega, by omega⟩
  have hGij : ∀ b, μe.next ≤ b → b < μi.next → μj.obj b = μi.obj b := fun b h1 h2 => oj b h2 fun x hx e => by have := hL2.lt x hx; omega
  have lGi := (hfi.ld (n := some 3) (i := μf.next) (o := 0) (by omega)).trans lG
  have lGj : μj.ld (some 3) μf.next 0 = some (.agg [.bool s.ok, .int .i64 s.running, Lg.sc IR.std s.tasks.length]) := by
    rw [← lGi]; simp only [Mem.ld, hGij μf.next (by omega) (by omega)]
  have hdi : Same μd1.next μd1 μi := hdf.trans (hfi.mono (by omega))
  have hdj : Same μd1.next μd1 μj := hdi.trans hSij
  have lSj := (hdj.ld (n := some 3) (i := μd.next) (o := 0) (by omega)).trans lS
  have hGi : Has Lg Cg μe1.next μi := (hG.has.same hf1 (Nat.le_refl _)).same hfi (by omega)
  have hGj : Has Lg Cg μe1.next μj := hGi.frame (by omega) fun x hx => hGij _ (by have := hGi.ge x hx; omega) (hGi.lt x hx)
  have hHj : StandH IR.std IR.stdr μe1.next μj Lg Cg s.tasks := ⟨hGj, hG.rows, hG.each⟩
  have d1 : decide (((1 + 5 * tot p : Nat) : Int) < 0) = false := decide_eq_false (by omega)
  simp only [w1, w2, zH, zI, ↓reduceIte, zA, zB, zC, zD, zE, zF, zG, d1, lGj, lSj]
  refine R_calls rfl (by simp only [w1, w2, zH, zI, ↓reduceIte, zA, zB, zC, zD, zE, zF, zG]; exact eqStand_ok (hHj.v (ok := s.ok) (run := s.running)) ((hVs.same hdj (by omega)).mono' (hi' := μj.next) (by omega)) (Nat.le_refl _) hsl' hrl) ?_
  rintro v μk ⟨rfl, hk⟩
  have nk := hk.2
  have lGk := (hk.ld (n := some 3) (i := μf.next) (o := 0) (by omega)).trans lGj
  simp only [w1, w2, zH, zI, ↓reduceIte, zA, zB, zC, zD, zE, zF, zG, lGk]
  -- the answer is marked
  have hHk : StandH IR.std IR.stdr μe1.next μk Lg Cg s.tasks := ⟨hGj.same hk (Nat.le_refl _), hG.rows, hG.each⟩
  refine R_calls rfl (by simp only [w1, w2, zH, zI, ↓reduceIte, zA, zB, zC, zD, zE, zF, zG]; exact markStand_ok (n := 1) (fun i e => by cases e) (fun i j e => by injection e) hHk (by omega)) ?_
  rintro v μl ⟨rfl, ⟨Cl, hHl⟩, nl, ol⟩
  have hSkl : Same μe1.next μk μl := ⟨fun b hb => ol b (by omega) fun x hx e => by have := hG.has.ge x hx; omega, by omega⟩
  have lGl : μl.ld (some 3) μf.next 0 = some (.agg [.bool s.ok, .int .i64 s.running, Lg.sc IR.std s.tasks.length]) := by
    rw [← lGk]; simp only [Mem.ld]; rw [ol μf.next (by omega) fun x hx e => by have := hG.has.lt x hx; omega]
  have hvl := hHl.v (ok := s.ok) (run := s.running)
  rw [List.length_map, List.length_range] at hvl
  simp only [w1, w2, zH, zI, ↓reduceIte, zA, zB, zC, zD, zE, zF, zG, lGl]
  refine R_calls rfl (by simp only [w1, w2, zH, zI, ↓reduceIte, zA, zB, zC, zD, zE, zF, zG]; exact heldStand_ok (n := 1) hvl (Nat.le_refl _) (by omega)) ?_
  rintro v μm ⟨rfl, hm⟩
  have nm := hm.2
  have d2 : decide (((1 + 10 * s.tasks.length : Nat) : Int) < 0) = false := decide_eq_false (by omega)
  have hdm : Same μd1.next μd1 μm := hdj.trans ((hk.mono (by omega)).trans ((hSkl.mono (by omega)).trans (hm.mono (by omega))))
  have hAm : Same (μ.next + 1) (μ.new [c] 0) μm := hAd.trans ((hd1.mono (by omega)).trans (hdm.mono (by omega)))
  have lAm := (hAm.ld (n := some 1) (i := μ.next) (o := 0) (by omega)).trans lA
  have hRm := hRA.same hAm (by omega)
  simp only [w1, w2, zH, zI, ↓reduceIte, zA, zB, zC, zD, zE, zF, zG, d2, bneq rfl, lAm]
  -- once more
  refine R_calls rfl (by simp only [w1, w2, zH, zI, ↓reduceIte, zA, zB, zC, zD, zE, zF, zG]; exact toPlan_ok hRm (by omega) hl2) ?_
  rintro v μn ⟨L4, rfl, hL4, hn⟩
  have nn := hn.2
  simp only [w1, w2, zH, zI, ↓reduceIte, zA, zB, zC, zD, zE, zF, zG]
  refine R_calls rfl (by simp only [w1, w2, zH, zI, ↓reduceIte, zA, zB, zC, zD, zE, zF, zG]; exact himpl hL4.planR (Nat.le_refl _)) ?_
  rintro _ μo ⟨⟨Lo, Co, hO, rfl⟩, ho⟩
  have no := ho.2
  simp only [w1, w2, zH, zI, ↓reduceIte, zA, zB, zC, zD, zE, zF, zG, e3, st_new (μ := μo) (cs := [.bool false, .int .i64 0, .slc none 0 0]) (x := [.bool s.ok, .int .i64 s.running, Lo.sc IR.std s.tasks.length]) (e := 0) rfl]
  have lO : (μo.new [.bool s.ok, .int .i64 s.running, Lo.sc IR.std s.tasks.length] 0).ld (some 3) μo.next 0 = some (.agg [.bool s.ok, .int .i64 s.running, Lo.sc IR.std s.tasks.length]) := ld_new rfl
  have ho1 : Same μo.next μo (μo.new [.bool s.ok, .int .i64 s.running, Lo.sc IR.std s.tasks.length] 0) := Same.tmp (Nat.le_refl _)
  have no1 : (μo.new [.bool s.ok, .int .i64 s.running, Lo.sc IR.std s.tasks.length] 0).next = μo.next + 1 := by simp only [Mem.new_next]
  generalize μo.new [.bool s.ok, .int .i64 s.running, Lo.sc IR.std s.tasks.length] 0 = μo1 at *
  have hmo : Same μm.next μm μo1 := hn.trans ((ho.mono (by omega)).trans (ho1.mono (by omega)))
  have hdo : Same μd1.next μd1 μo1 := hdm.trans (hmo.mono (by omega))
  have lSo := (hdo.ld (n := some 3) (i := μd.next) (o := 0) (by omega)).trans lS
  simp only [w1, w2, zH, zI, ↓reduceIte, zA, zB, zC, zD, zE, zF, zG, lO, lSo]
  refine R_calls rfl (by simp only [w1, w2, zH, zI, ↓reduceIte, zA, zB, zC, zD, zE, zF, zG]; exact eqStand_ok ((hO.v (ok := s.ok) (run := s.running)).same ho1 (Nat.le_refl _)) ((hVs.same hdo (by omega)).mono' (hi' := μo.next) (by omega)) (by omega) hsl' hrl) ?_
  rintro v μp ⟨rfl, hp⟩
  have np := hp.2
  have hlp : Same μl.next μl μp := hm.trans ((hmo.mono (by omega)).trans (hp.mono (by omega)))
  have lGp := (hlp.ld (n := some 3) (i := μf.next) (o := 0) (by omega)).trans lGl
  simp only [w1, w2, zH, zI, ↓reduceIte, zA, zB, zC, zD, zE, zF, zG, lGp]
  refine R_calls rfl (by simp only [w1, w2, zH, zI, ↓reduceIte, zA, zB, zC, zD, zE, zF, zG]; exact heldStand_ok (n := 1) (hvl.same hlp (Nat.le_refl _)) (by omega) (by omega)) ?_
  rintro v μq ⟨rfl, hq⟩
  simp only [w1, w2, zH, zI, ↓reduceIte, zA, zB, zC, zD, zE, zF, zG, d2, bneq rfl, aRet, aRes, aRes1]
  first | exact ⟨_, rfl, rfl⟩ | trivial | rfl
end Go.Proofs.Ytibmnlijoeppaaa
