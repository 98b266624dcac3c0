/-
 The exact laws: stands are compared, marked, looked at again.
-/
import Derived.Test.YtibmnlijoeppaaaE9H
import Derived.Test.YtibmnlijoeppaaaE2
namespace Go.Proofs.Ytibmnlijoeppaaa
open Nat renaming reduceEqDiff → zA, reduceAdd → zB, reduceLeDiff → zJ, reduceMul → zK
open Int renaming reduceLT → zC, reduceLE → zD, reduceNeg → zE, reduceBEq → zF, reduceBNe → zG
open AV renaming isTup → zH, cells → zI
set_option linter.unusedSimpArgs false
set_option linter.unusedVariables false

/-! 105: laws.eqTaskView -/
def r105 : RFun := ⟨41, [.tmp 4], (.seq (.reg [rI 0 (.box (.t 0) 7) 2, rI 1 (.box (.t 1) 7) 3, rI 2 (.mv (.k (.bool false))) 4]) (.seq (.seq (.reg [rI 0 (.fa (.t 2) 0) 5, rI 1 (.ld none (.t 5)) 6, rI 2 (.fa (.t 3) 0) 7, rI 3 (.ld none (.t 7)) 8, rI 4 (.bin .neq (.t 6) (.t 8)) 9]) (.ite (.t 9) (.seq (.reg [rI 0 (.mv (.k (.bool false))) 4]) .ret) .skip)) (.seq (.seq (.reg [rI 0 (.fa (.t 2) 1) 10, rI 1 (.ld none (.t 10)) 11, rI 2 (.fa (.t 3) 1) 12, rI 3 (.ld none (.t 12)) 13, rI 4 (.bin .neq (.t 11) (.t 13)) 14]) (.ite (.t 14) (.seq (.reg [rI 0 (.mv (.k (.bool false))) 4]) .ret) .skip)) (.seq (.seq (.reg [rI 0 (.fa (.t 2) 2) 15, rI 1 (.ld none (.t 15)) 16, rI 2 (.fa (.t 3) 2) 17, rI 3 (.ld none (.t 17)) 18, rI 4 (.call 138 [.t 16, .t 18]) 19, rI 5 (.nt (.t 19)) 20]) (.ite (.t 20) (.seq (.reg [rI 0 (.mv (.k (.bool false))) 4]) .ret) .skip)) (.seq (.seq (.reg [rI 0 (.fa (.t 2) 3) 21, rI 1 (.ld none (.t 21)) 22, rI 2 (.fa (.t 3) 3) 23, rI 3 (.ld none (.t 23)) 24, rI 4 (.bin .neq (.t 22) (.t 24)) 25]) (.ite (.t 25) (.seq (.reg [rI 0 (.mv (.k (.bool false))) 4]) .ret) .skip)) (.seq (.seq (.reg [rI 0 (.fa (.t 2) 4) 26, rI 1 (.ld none (.t 26)) 27, rI 2 (.fa (.t 3) 4) 28, rI 3 (.ld none (.t 28)) 29, rI 4 (.bin .neq (.t 27) (.t 29)) 30]) (.ite (.t 30) (.seq (.reg [rI 0 (.mv (.k (.bool false))) 4]) .ret) .skip)) (.seq (.seq (.reg [rI 0 (.fa (.t 2) 5) 31, rI 1 (.ld none (.t 31)) 32, rI 2 (.fa (.t 3) 5) 33, rI 3 (.ld none (.t 33)) 34, rI 4 (.bin .neq (.t 32) (.t 34)) 35]) (.ite (.t 35) (.seq (.reg [rI 0 (.mv (.k (.bool false))) 4]) .ret) .skip)) (.seq (.seq (.reg [rI 0 (.fa (.t 2) 6) 36, rI 1 (.ld none (.t 36)) 37, rI 2 (.fa (.t 3) 6) 38, rI 3 (.ld none (.t 38)) 39, rI 4 (.bin .neq (.t 37) (.t 39)) 40]) (.ite (.t 40) (.seq (.reg [rI 0 (.mv (.k (.bool false))) 4]) .ret) .skip)) (.seq (.reg [rI 0 (.mv (.k (.bool true))) 4]) .ret)))))))))⟩

theorem p105 : prog 105 = some r105 := by kernel_rfl

/-! 82: laws.eqTaskViewS -/
def b82_0 : RCode := (.seq (.seq (.reg [rI 0 (.mv (.t 5)) 11, rI 1 (.mv (.t 0)) 12, rI 2 (.len (.t 12)) 13, rI 3 (.bin .lss (.t 11) (.t 13)) 14]) (.ite (.t 14) .skip (.exit 0))) (.seq (.blk 1 (.seq (.reg [rI 0 (.mv (.t 0)) 17, rI 1 (.mv (.t 5)) 18, rI 2 (.ias (.t 17) (.t 18) 7) 19, rI 4 (.mv (.t 1)) 21, rI 5 (.mv (.t 5)) 22, rI 6 (.ias (.t 21) (.t 22) 7) 23, rI 3 (.ld (some 7) (.t 19)) 20, rI 7 (.ld (some 7) (.t 23)) 24, rI 8 (.call 105 [.t 20, .t 24]) 25, rI 9 (.nt (.t 25)) 26]) (.ite (.t 26) (.seq (.reg [rI 0 (.mv (.k (.bool false))) 4]) .ret) .skip))) (.reg [rI 0 (.mv (.t 5)) 15, rI 1 (.bin .add (.t 15) (.k (.int .i64 1))) 16, rI 2 (.mv (.t 16)) 5])))

def r82 : RFun := ⟨27, [.tmp 4], (.seq (.reg [rI 0 (.mv (.k (.bool false))) 4]) (.seq (.seq (.reg [rI 0 (.mv (.t 0)) 6, rI 1 (.len (.t 6)) 7, rI 2 (.mv (.t 1)) 8, rI 3 (.len (.t 8)) 9, rI 4 (.bin .neq (.t 7) (.t 9)) 10]) (.ite (.t 10) (.seq (.reg [rI 0 (.mv (.k (.bool false))) 4]) .ret) .skip)) (.seq (.seq (.reg [rI 0 (.mv (.k (.int .i64 0))) 5]) (.blk 0 (.loop b82_0))) (.seq (.reg [rI 0 (.mv (.k (.bool true))) 4]) .ret))))⟩

theorem p82 : prog 82 = some r82 := by kernel_rfl

/-! 55: laws.eqStand -/
def r55 : RFun := ⟨21, [.tmp 4], (.seq (.reg [rI 0 (.box (.t 0) 3) 2, rI 1 (.box (.t 1) 3) 3, rI 2 (.mv (.k (.bool false))) 4]) (.seq (.seq (.reg [rI 0 (.fa (.t 2) 0) 5, rI 1 (.ld none (.t 5)) 6, rI 2 (.fa (.t 3) 0) 7, rI 3 (.ld none (.t 7)) 8, rI 4 (.eq true .bool (.t 6) (.t 8)) 9]) (.ite (.t 9) (.seq (.reg [rI 0 (.mv (.k (.bool false))) 4]) .ret) .skip)) (.seq (.seq (.reg [rI 0 (.fa (.t 2) 1) 10, rI 1 (.ld none (.t 10)) 11, rI 2 (.fa (.t 3) 1) 12, rI 3 (.ld none (.t 12)) 13, rI 4 (.bin .neq (.t 11) (.t 13)) 14]) (.ite (.t 14) (.seq (.reg [rI 0 (.mv (.k (.bool false))) 4]) .ret) .skip)) (.seq (.seq (.reg [rI 0 (.fa (.t 2) 2) 15, rI 1 (.ld none (.t 15)) 16, rI 2 (.fa (.t 3) 2) 17, rI 3 (.ld none (.t 17)) 18, rI 4 (.call 82 [.t 16, .t 18]) 19, rI 5 (.nt (.t 19)) 20]) (.ite (.t 20) (.seq (.reg [rI 0 (.mv (.k (.bool false))) 4]) .ret) .skip)) (.seq (.reg [rI 0 (.mv (.k (.bool true))) 4]) .ret)))))⟩

theorem p55 : prog 55 = some r55 := by kernel_rfl

/-! 83: laws.markTaskViewS -/
def b83_0 : RCode := (.seq (.seq (.reg [rI 0 (.mv (.t 5)) 6, rI 1 (.mv (.t 0)) 7, rI 2 (.len (.t 7)) 8, rI 3 (.bin .lss (.t 6) (.t 8)) 9]) (.ite (.t 9) .skip (.exit 0))) (.seq (.blk 1 (.seq (.reg [rI 0 (.mv (.t 0)) 12, rI 1 (.mv (.t 5)) 13, rI 2 (.mv (.t 1)) 14, rI 3 (.ias (.t 12) (.t 13) 7) 15, rI 4 (.fa (.t 15) 0) 16, ⟨5, .st (.t 16) (.t 14) 1, none, none, []⟩]) (.seq (.reg [rI 0 (.mv (.t 1)) 17, rI 1 (.bin .add (.t 17) (.k (.int .i64 1))) 18, rI 2 (.mv (.t 18)) 1]) (.seq (.reg [rI 0 (.mv (.t 0)) 19, rI 1 (.mv (.t 5)) 20, rI 2 (.mv (.t 1)) 21, rI 3 (.ias (.t 19) (.t 20) 7) 22, rI 4 (.fa (.t 22) 1) 23, ⟨5, .st (.t 23) (.t 21) 1, none, none, []⟩]) (.seq (.reg [rI 0 (.mv (.t 1)) 24, rI 1 (.bin .add (.t 24) (.k (.int .i64 1))) 25, rI 2 (.mv (.t 25)) 1]) (.seq (.reg [rI 0 (.mv (.t 0)) 26, rI 1 (.mv (.t 5)) 27, rI 2 (.ias (.t 26) (.t 27) 7) 28, rI 3 (.fa (.t 28) 2) 29, rI 4 (.ld none (.t 29)) 30, rI 5 (.mv (.t 1)) 31, rI 6 (.call 106 [.t 30, .t 31]) 32, rI 7 (.mv (.t 32)) 1]) (.seq (.reg [rI 0 (.mv (.t 0)) 33, rI 1 (.mv (.t 5)) 34, rI 2 (.mv (.t 1)) 35, rI 3 (.ias (.t 33) (.t 34) 7) 36, rI 4 (.fa (.t 36) 3) 37, ⟨5, .st (.t 37) (.t 35) 1, none, none, []⟩]) (.seq (.reg [rI 0 (.mv (.t 1)) 38, rI 1 (.bin .add (.t 38) (.k (.int .i64 1))) 39, rI 2 (.mv (.t 39)) 1]) (.seq (.reg [rI 0 (.mv (.t 0)) 40, rI 1 (.mv (.t 5)) 41, rI 2 (.mv (.t 1)) 42, rI 3 (.ias (.t 40) (.t 41) 7) 43, rI 4 (.fa (.t 43) 4) 44, ⟨5, .st (.t 44) (.t 42) 1, none, none, []⟩]) (.seq (.reg [rI 0 (.mv (.t 1)) 45, rI 1 (.bin .add (.t 45) (.k (.int .i64 1))) 46, rI 2 (.mv (.t 46)) 1]) (.seq (.reg [rI 0 (.mv (.t 0)) 47, rI 1 (.mv (.t 5)) 48, rI 2 (.mv (.t 1)) 49, rI 3 (.ias (.t 47) (.t 48) 7) 50, rI 4 (.fa (.t 50) 5) 51, ⟨5, .st (.t 51) (.t 49) 1, none, none, []⟩]) (.seq (.reg [rI 0 (.mv (.t 1)) 52, rI 1 (.bin .add (.t 52) (.k (.int .i64 1))) 53, rI 2 (.mv (.t 53)) 1]) (.seq (.reg [rI 0 (.mv (.t 0)) 54, rI 1 (.mv (.t 5)) 55, rI 2 (.mv (.t 1)) 56, rI 3 (.ias (.t 54) (.t 55) 7) 57, rI 4 (.fa (.t 57) 6) 58, ⟨5, .st (.t 58) (.t 56) 1, none, none, []⟩]) (.reg [rI 0 (.mv (.t 1)) 59, rI 1 (.bin .add (.t 59) (.k (.int .i64 1))) 60, rI 2 (.mv (.t 60)) 1])))))))))))))) (.reg [rI 0 (.mv (.t 5)) 10, rI 1 (.bin .add (.t 10) (.k (.int .i64 1))) 11, rI 2 (.mv (.t 11)) 5])))

def r83 : RFun := ⟨62, [.tmp 4], (.seq (.reg [rI 0 (.mv (.k (.int .i64 0))) 4]) (.seq (.seq (.reg [rI 0 (.mv (.k (.int .i64 0))) 5]) (.blk 0 (.loop b83_0))) (.seq (.reg [rI 0 (.mv (.t 1)) 61, rI 1 (.mv (.t 61)) 4]) .ret)))⟩

theorem p83 : prog 83 = some r83 := by kernel_rfl

/-! 56: laws.markStand -/
def r56 : RFun := ⟨10, [.tmp 4], (.seq (.reg [rI 0 (.box (.t 0) 3) 2, rI 1 (.mv (.k (.int .i64 0))) 4]) (.seq (.reg [rI 0 (.fa (.t 2) 2) 5, rI 1 (.ld none (.t 5)) 6, rI 2 (.mv (.t 1)) 7, rI 3 (.call 83 [.t 6, .t 7]) 8, rI 4 (.mv (.t 8)) 1]) (.seq (.reg [rI 0 (.mv (.t 1)) 9, rI 1 (.mv (.t 9)) 4]) .ret)))⟩

theorem p56 : prog 56 = some r56 := by kernel_rfl

/-! 84: laws.heldTaskViewS -/
def b84_0 : RCode := (.seq (.seq (.reg [rI 0 (.mv (.t 5)) 6, rI 1 (.mv (.t 0)) 7, rI 2 (.len (.t 7)) 8, rI 3 (.bin .lss (.t 6) (.t 8)) 9]) (.ite (.t 9) .skip (.exit 0))) (.seq (.blk 1 (.seq (.seq (.reg [rI 0 (.mv (.t 0)) 12, rI 1 (.mv (.t 5)) 13, rI 2 (.ias (.t 12) (.t 13) 7) 14, rI 3 (.fa (.t 14) 0) 15, rI 4 (.ld none (.t 15)) 16, rI 5 (.mv (.t 1)) 17, rI 6 (.bin .neq (.t 16) (.t 17)) 18]) (.ite (.t 18) (.seq (.reg [rI 0 (.mv (.k (.int .i64 (-1)))) 4]) .ret) .skip)) (.seq (.reg [rI 0 (.mv (.t 1)) 19, rI 1 (.bin .add (.t 19) (.k (.int .i64 1))) 20, rI 2 (.mv (.t 20)) 1]) (.seq (.seq (.reg [rI 0 (.mv (.t 0)) 21, rI 1 (.mv (.t 5)) 22, rI 2 (.ias (.t 21) (.t 22) 7) 23, rI 3 (.fa (.t 23) 1) 24, rI 4 (.ld none (.t 24)) 25, rI 5 (.mv (.t 1)) 26, rI 6 (.bin .neq (.t 25) (.t 26)) 27]) (.ite (.t 27) (.seq (.reg [rI 0 (.mv (.k (.int .i64 (-1)))) 4]) .ret) .skip)) (.seq (.reg [rI 0 (.mv (.t 1)) 28, rI 1 (.bin .add (.t 28) (.k (.int .i64 1))) 29, rI 2 (.mv (.t 29)) 1]) (.seq (.reg [rI 0 (.mv (.t 0)) 30, rI 1 (.mv (.t 5)) 31, rI 2 (.ias (.t 30) (.t 31) 7) 32, rI 3 (.fa (.t 32) 2) 33, rI 4 (.ld none (.t 33)) 34, rI 5 (.mv (.t 1)) 35, rI 6 (.call 107 [.t 34, .t 35]) 36, rI 7 (.mv (.t 36)) 1]) (.seq (.seq (.reg [rI 0 (.mv (.t 1)) 37, rI 1 (.bin .lss (.t 37) (.k (.int .i64 0))) 38]) (.ite (.t 38) (.seq (.reg [rI 0 (.mv (.k (.int .i64 (-1)))) 4]) .ret) .skip)) (.seq (.seq (.reg [rI 0 (.mv (.t 0)) 39, rI 1 (.mv (.t 5)) 40, rI 2 (.ias (.t 39) (.t 40) 7) 41, rI 3 (.fa (.t 41) 3) 42, rI 4 (.ld none (.t 42)) 43, rI 5 (.mv (.t 1)) 44, rI 6 (.bin .neq (.t 43) (.t 44)) 45]) (.ite (.t 45) (.seq (.reg [rI 0 (.mv (.k (.int .i64 (-1)))) 4]) .ret) .skip)) (.seq (.reg [rI 0 (.mv (.t 1)) 46, rI 1 (.bin .add (.t 46) (.k (.int .i64 1))) 47, rI 2 (.mv (.t 47)) 1]) (.seq (.seq (.reg [rI 0 (.mv (.t 0)) 48, rI 1 (.mv (.t 5)) 49, rI 2 (.ias (.t 48) (.t 49) 7) 50, rI 3 (.fa (.t 50) 4) 51, rI 4 (.ld none (.t 51)) 52, rI 5 (.mv (.t 1)) 53, rI 6 (.bin .neq (.t 52) (.t 53)) 54]) (.ite (.t 54) (.seq (.reg [rI 0 (.mv (.k (.int .i64 (-1)))) 4]) .ret) .skip)) (.seq (.reg [rI 0 (.mv (.t 1)) 55, rI 1 (.bin .add (.t 55) (.k (.int .i64 1))) 56, rI 2 (.mv (.t 56)) 1]) (.seq (.seq (.reg [rI 0 (.mv (.t 0)) 57, rI 1 (.mv (.t 5)) 58, rI 2 (.ias (.t 57) (.t 58) 7) 59, rI 3 (.fa (.t 59) 5) 60, rI 4 (.ld none (.t 60)) 61, rI 5 (.mv (.t 1)) 62, rI 6 (.bin .neq (.t 61) (.t 62)) 63]) (.ite (.t 63) (.seq (.reg [rI 0 (.mv (.k (.int .i64 (-1)))) 4]) .ret) .skip)) (.seq (.reg [rI 0 (.mv (.t 1)) 64, rI 1 (.bin .add (.t 64) (.k (.int .i64 1))) 65, rI 2 (.mv (.t 65)) 1]) (.seq (.seq (.reg [rI 0 (.mv (.t 0)) 66, rI 1 (.mv (.t 5)) 67, rI 2 (.ias (.t 66) (.t 67) 7) 68, rI 3 (.fa (.t 68) 6) 69, rI 4 (.ld none (.t 69)) 70, rI 5 (.mv (.t 1)) 71, rI 6 (.bin .neq (.t 70) (.t 71)) 72]) (.ite (.t 72) (.seq (.reg [rI 0 (.mv (.k (.int .i64 (-1)))) 4]) .ret) .skip)) (.reg [rI 0 (.mv (.t 1)) 73, rI 1 (.bin .add (.t 73) (.k (.int .i64 1))) 74, rI 2 (.mv (.t 74)) 1]))))))))))))))) (.reg [rI 0 (.mv (.t 5)) 10, rI 1 (.bin .add (.t 10) (.k (.int .i64 1))) 11, rI 2 (.mv (.t 11)) 5])))

def r84 : RFun := ⟨76, [.tmp 4], (.seq (.reg [rI 0 (.mv (.k (.int .i64 0))) 4]) (.seq (.seq (.reg [rI 0 (.mv (.k (.int .i64 0))) 5]) (.blk 0 (.loop b84_0))) (.seq (.reg [rI 0 (.mv (.t 1)) 75, rI 1 (.mv (.t 75)) 4]) .ret)))⟩

theorem p84 : prog 84 = some r84 := by kernel_rfl

/-! 57: laws.heldStand -/
def r57 : RFun := ⟨12, [.tmp 4], (.seq (.reg [rI 0 (.box (.t 0) 3) 2, rI 1 (.mv (.k (.int .i64 0))) 4]) (.seq (.reg [rI 0 (.fa (.t 2) 2) 5, rI 1 (.ld none (.t 5)) 6, rI 2 (.mv (.t 1)) 7, rI 3 (.call 84 [.t 6, .t 7]) 8, rI 4 (.mv (.t 8)) 1]) (.seq (.seq (.reg [rI 0 (.mv (.t 1)) 9, rI 1 (.bin .lss (.t 9) (.k (.int .i64 0))) 10]) (.ite (.t 10) (.seq (.reg [rI 0 (.mv (.k (.int .i64 (-1)))) 4]) .ret) .skip)) (.seq (.reg [rI 0 (.mv (.t 1)) 11, rI 1 (.mv (.t 11)) 4]) .ret))))⟩

theorem p57 : prog 57 = some r57 := by kernel_rfl

theorem p106 : prog 106 = some r75 := by kernel_rfl

theorem p107 : prog 107 = some r76 := by kernel_rfl

theorem p138 : prog 138 = some r79 := by kernel_rfl

theorem eqView_ok {hi : Nat} {μ : Mem} {g g' : Nat → Cell} {i : Nat} {v : PView} (h : Rd hi μ 1 (g i) v.regs.length (cat irow 0 v.regs)) (h' : Rd hi μ 1 (g' i) v.regs.length (cat irow 0 v.regs)) (hh : hi ≤ μ.next) (hl : v.regs.length ≤ 1000000000) :
  Ret 105 [.agg (vrow g i v), .agg (vrow g' i v)] μ fun z μ' => z = .c (.bool true) ∧ Same μ.next μ μ' := by
 have hs : Same μ.next μ ((μ.new (vrow g i v) 0).new (vrow g' i v) 0) := (Same.tmp (Nat.le_refl _)).new (Nat.le_succ _)
 simp only [vrow] at hs ⊢
 refine Ret_of p105 (by simp [r105]) ?_
 simp only [rI, r105, frOf_2]
 simp only [w1, w2, zH, zI, ↓reduceIte, zA, zB, m1, m2, aRet, aRes, aRes1]
 refine R_calls (l := [.c (g i), .c (g' i)]) (by simp only [w1, w2, ↓reduceIte, zA]) (eqInt_ok p138 (h.same hs hh) (h'.same hs hh) hl) ?_
 rintro z μ' ⟨rfl, rfl⟩
 simp only [w1, w2, ↓reduceIte, zA, m1, m2]
 first | exact ⟨_, rfl, rfl, hs⟩ | exact hs

theorem eqViewLoop {hi : Nat} {μ0 : Mem} {c c' : Cell} {g g' : Nat → Cell} {l : List PView} (h : Rd hi μ0 7 c l.length (cat (vrow g) 0 l)) (h' : Rd hi μ0 7 c' l.length (cat (vrow g') 0 l))
  (k1 : ∀ (i : Nat) (v : PView), l[i]? = some v → Rd hi μ0 1 (g i) v.regs.length (cat irow 0 v.regs)) (k2 : ∀ (i : Nat) (v : PView), l[i]? = some v → Rd hi μ0 1 (g' i) v.regs.length (cat irow 0 v.regs)) (hh : hi ≤ μ0.next) (hl : l.length ≤ 1000000000)
  (hlr : ∀ v ∈ l, v.regs.length ≤ 1000000000) {Q : Fr → Mem → Prop} {s : List It} :
  ∀ (k i : Nat) (fr : Fr) (μ : Mem), i + k = l.length → Same μ0.next μ0 μ → fr 0 = .c c → fr 1 = .c c' → fr 5 = .c (.int .i64 i) → (∀ fr' μ', Same μ0.next μ0 μ' → R s fr' μ' Q) → R (.c (.loop b82_0) :: .blk 0 :: s) fr μ Q := by
 intro k
 induction k with
 | zero =>
  intro i fr μ hk hs h0 h1 h5 hgood
  obtain ⟨a, cap, hc⟩ := h.slc
  rw [R_loop]
  simp only [rI, b82_0]
  simp only [w1, w2, ↓reduceIte, zA, h0, h5, hc]
  rw [decide_eq_false (by omega)]
  simp only [w1]
  rw [R_exit rfl]
  exact hgood _ _ hs
 | succ k ih =>
  intro i fr μ hk hs h0 h1 h5 hgood
  have hi1 : i < l.length := by omega
  have hi' : l[i]? = some l[i] := List.getElem?_eq_getElem hi1
  obtain ⟨bi, bo, e1, e2, e3, e4⟩ := (h.same hs hh).row (vrow_len g) (by omega) hi'
  obtain ⟨bi', bo', e1', e2', e3', e4'⟩ := (h'.same hs hh).row (vrow_len g') (by omega) hi'
  obtain ⟨a, cap, hc⟩ := h.slc
  obtain ⟨a', cap', hc'⟩ := h'.slc
  rw [hc] at e1
  rw [hc'] at e1'
  rw [R_loop]
  simp only [rI, b82_0]
  simp only [w1, w2, ↓reduceIte, zA, h0, h5, hc]
  rw [decide_eq_true (by omega)]
  simp only [w1, w2, ↓reduceIte, zA, h0, h1, h5, hc, hc', e1, e3, e1', e3']
  refine R_calls rfl (by simp only [w1, w2, ↓reduceIte, zA]; exact eqView_ok ((k1 i _ hi').same hs hh) ((k2 i _ hi').same hs hh) (Nat.le_trans hh hs.2) (hlr _ (List.mem_of_getElem? hi'))) ?_
  rintro v μ' ⟨rfl, hs1⟩
  simp only [w1, w2, ↓reduceIte, zA, h5]
  rw [small (by omega), R_lp]
  refine ih (i + 1) _ _ (by omega) (hs.trans (hs1.mono hs.2)) ?_ ?_ ?_ hgood
  ·simp only [w1, ↓reduceIte, zA, h0]
  ·simp only [w1, ↓reduceIte, zA, h1]
  ·simp only [w1, ↓reduceIte]; rfl

theorem eqStand_ok {hi : Nat} {μ : Mem} {v w : AV} {s : PStand} (h : StandV hi μ v s) (h' : StandV hi μ w s) (hh : hi ≤ μ.next) (hl : s.tasks.length ≤ 1000000000) (hlr : ∀ v ∈ s.tasks, v.regs.length ≤ 1000000000) :
  Ret 55 [v, w] μ fun z μ' => z = .c (.bool true) ∧ Same μ.next μ μ' := by
 obtain ⟨sc, g, rfl, h1, k1⟩ := h
 obtain ⟨sc', g', rfl, h2, k2⟩ := h'
 have hs : Same μ.next μ ((μ.new [.bool s.ok, .int .i64 s.running, sc] 0).new [.bool s.ok, .int .i64 s.running, sc'] 0) := (Same.tmp (Nat.le_refl _)).new (Nat.le_succ _)
 refine Ret_of p55 (by simp [r55]) ?_
 simp only [rI, r55, frOf_2]
 simp only [w1, w2, zH, zI, ↓reduceIte, zA, zB, m1, m2, aRet, aRes, aRes1, aeq, beq_self_eq_true]
 have hk : Ret 82 [.c sc, .c sc'] ((μ.new [.bool s.ok, .int .i64 s.running, sc] 0).new [.bool s.ok, .int .i64 s.running, sc'] 0) fun z μ' => z = .c (.bool true) ∧ Same (μ.next + 2) ((μ.new [.bool s.ok, .int .i64 s.running, sc] 0).new [.bool s.ok, .int .i64 s.running, sc'] 0) μ' := by
  have hnx : ((μ.new [.bool s.ok, .int .i64 s.running, sc] 0).new [.bool s.ok, .int .i64 s.running, sc'] 0).next = μ.next + 2 := by simp only [Mem.new_next]
  rw [← hnx]
  have hh' : hi ≤ ((μ.new [.bool s.ok, .int .i64 s.running, sc] 0).new [.bool s.ok, .int .i64 s.running, sc'] 0).next := by omega
  have i1 := fun i v hv => (k1 i v hv).same hs hh
  have i2 := fun i v hv => (k2 i v hv).same hs hh
  have a1 := h1.same hs hh
  have a2 := h2.same hs hh
  generalize (μ.new [.bool s.ok, .int .i64 s.running, sc] 0).new [.bool s.ok, .int .i64 s.running, sc'] 0 = μ1 at *
  obtain ⟨a, cap, hc⟩ := h1.slc
  obtain ⟨a', cap', hc'⟩ := h2.slc
  refine Ret_of p82 (by simp [r82]) ?_
  simp only [rI, r82, frOf_2]
  simp only [w1, w2, ↓reduceIte, zA, hc, hc', bneq rfl]
  refine eqViewLoop (g := g) (g' := g') a1 a2 i1 i2 hh' hl hlr s.tasks.length 0 _ _ (by omega) Same.refl ?_ ?_ ?_ ?_
  ·simp only [w1, ↓reduceIte, zA, hc]
  ·simp only [w1, ↓reduceIte, zA, hc']
  ·simp only [w1, ↓reduceIte]; rfl
  ·intro fr' μ' hs
   simp only [w1, w2, ↓reduceIte, aRet, aRes, aRes1]
   first | exact ⟨_, rfl, rfl, hs⟩ | exact hs
 refine R_calls (l := [.c sc, .c sc']) (by first | rfl | simp only [w1, w2, zH, zI, ↓reduceIte, zA, zB, zC, zD, zE, zF, zG]) hk ?_
 rintro z μ' ⟨rfl, h3⟩
 simp only [w1, w2, ↓reduceIte]
 first | exact ⟨_, rfl, rfl, hs.trans (h3.mono (by omega))⟩ | exact hs.trans (h3.mono (by omega))

def vmark (n : Nat) (j : Nat) : PView :=
 ⟨((n + 10 * j : Nat) : Int), ((n + 10 * j + 1 : Nat) : Int), (List.range 4).map (imark (n + 10 * j + 2)), ((n + 10 * j + 6 : Nat) : Int), ((n + 10 * j + 7 : Nat) : Int), ((n + 10 * j + 8 : Nat) : Int), ((n + 10 * j + 9 : Nat) : Int)⟩

section
variable {ι : Type} [DecidableEq ι] {L : Lay ι} {C : Con ι} {lo : Nat} {μ μ0 : Mem} {std : ι} {stdr : Nat → ι}

theorem markViewLoop {n : Nat} {l : List PView} (hne : ∀ i, stdr i ≠ std) (hinj : ∀ i j, stdr i = stdr j → i = j) (hb : n + 10 * l.length ≤ 1000000000) {s : List It} {Q : Fr → Mem → Prop} :
  ∀ (k j : Nat) (C : Con ι) (fr : Fr) (μ : Mem), j + k = l.length → StandH std stdr lo μ L C (marked (vmark n) j l) → OnlyIn L lo μ0 μ → fr 0 = .c (L.sc std l.length) → fr 1 = .c (.int .i64 ((n + 10 * j : Nat) : Int)) → fr 5 = .c (.int .i64 j) →
   (∀ fr' μ' C', StandH std stdr lo μ' L C' ((List.range l.length).map (vmark n)) → OnlyIn L lo μ0 μ' → fr' 1 = .c (.int .i64 ((n + 10 * l.length : Nat) : Int)) → R s fr' μ' Q) → R (.c (.loop b83_0) :: .blk 0 :: s) fr μ Q := by
 intro k
 induction k with
 | zero =>
  intro j C fr μ hj h ho f0 f1 f5 hend
  obtain rfl : j = l.length := by omega
  obtain ⟨a, c, hs⟩ := h.has.scf h.rows (n := l.length) (by rw [cat_length (vrow_len _), marked_len (Nat.le_refl _)]) (by omega)
  rw [R_loop]
  simp only [rI, b83_0]
  simp only [w1, w2, ↓reduceIte, zA, f0, f5, hs]
  rw [decide_eq_false (by omega)]
  simp only [w1]
  rw [R_exit rfl]
  rw [marked_all] at h
  exact hend _ μ C h ho (by simp only [w1, ↓reduceIte, zA, f1])
 | succ k ih =>
  intro j C fr μ hj h ho f0 f1 f5 hend
  have hlt : j < l.length := by omega
  have hlenm : (marked (vmark n) j l).length = l.length := marked_len (by omega)
  have hlen : (cat (vrow fun i => L.sc (stdr i) 4) 0 (marked (vmark n) j l)).length = l.length * 7 := by rw [cat_length (vrow_len _), hlenm]
  have hidx := h.has.slot h.rows hlen (by omega) hlt
  obtain ⟨a, c, hs⟩ := h.has.scf h.rows hlen (by omega)
  have hg := marked_get (mk := vmark n) (l := l) hlt
  have hgs : ∀ (X : PView), ((marked (vmark n) j l).set j X)[j]? = some X := fun X => by rw [List.getElem?_set_self (by rw [hlenm]; exact hlt)]
  have hup : ∀ (C : Con ι) (x : Nat × List Cell), (C.upd std x) std = some x := fun C x => by simp only [Con.upd, if_true]
  have hup' : ∀ (C : Con ι) (x : Nat × List Cell) i, (C.upd std x) (stdr i) = C (stdr i) := fun C x i => by simp only [Con.upd]; rw [if_neg (hne i)]
  have hup2 : ∀ (C : Con ι) (x : Nat × List Cell) i, (C.upd (stdr i) x) std = C std := fun C x i => by simp only [Con.upd]; rw [if_neg (fun e => hne i e.symm)]
  obtain ⟨ev, ec⟩ := h.each j _ hg
  obtain ⟨μ1, e1, h1, o1⟩ := h.has.put1 (vrow_len _) h.rows (k := 0) (x := .int .i64 ((n + 10 * j : Nat) : Int)) (a' := { l[j] with body := ((n + 10 * j : Nat) : Int) }) hg (by omega) rfl
  obtain ⟨μ2, e2, h2, o2⟩ := h1.put1 (vrow_len _) (hup _ _) (k := 1) (x := .int .i64 ((n + 10 * j + 1 : Nat) : Int)) (a' := { l[j] with body := ((n + 10 * j : Nat) : Int), state := ((n + 10 * j + 1 : Nat) : Int) }) (hgs _) (by omega) rfl
  rw [List.set_set, Con.upd_upd] at h2
  have l2 : μ2.ld none (L.id std) (j * 7 + 2) = some (.c (L.sc (stdr j) l[j].regs.length)) := by
   refine h2.ldc (hup _ _) ?_
   rw [cat_get (vrow_len _) (hgs _) (by omega), ev, Nat.zero_add]
   rfl
  have hms := markInt_ok p106 (n := n + 10 * j + 2) (r := stdr j) (l := l[j].regs) (by omega) h2 (by rw [hup']; exact ec)
  rw [hs] at hidx f0
  have q1 : IntKind.i64.wrap (((n + 10 * j : Nat) : Int) + 1) = ((n + 10 * j + 1 : Nat) : Int) := by rw [small (by omega)]; omega
  have q2 : IntKind.i64.wrap (((n + 10 * j + 1 : Nat) : Int) + 1) = ((n + 10 * j + 2 : Nat) : Int) := by rw [small (by omega)]; omega
  have q3 : IntKind.i64.wrap (((n + 10 * j + 6 : Nat) : Int) + 1) = ((n + 10 * j + 7 : Nat) : Int) := by rw [small (by omega)]; omega
  have q4 : IntKind.i64.wrap (((n + 10 * j + 7 : Nat) : Int) + 1) = ((n + 10 * j + 8 : Nat) : Int) := by rw [small (by omega)]; omega
  have q5 : IntKind.i64.wrap (((n + 10 * j + 8 : Nat) : Int) + 1) = ((n + 10 * j + 9 : Nat) : Int) := by rw [small (by omega)]; omega
  have q6 : IntKind.i64.wrap (((n + 10 * j + 9 : Nat) : Int) + 1) = ((n + 10 * (j + 1) : Nat) : Int) := by rw [small (by omega)]; omega
  rw [R_loop]
  simp only [rI, b83_0]
  simp only [w1, w2, ↓reduceIte, zA, f0, f5]
  rw [decide_eq_true (by omega)]
  simp only [w1, w2, zH, zI, ↓reduceIte, zA, f0, f1, f5, hidx, e1, q1, e2, q2, l2]
  refine R_calls (l := [.c (L.sc (stdr j) l[j].regs.length), .c (.int .i64 ((n + 10 * j + 2 : Nat) : Int))]) (by first | rfl | simp only [w1, w2, zH, zI, ↓reduceIte, zA, zB, zC, zD, zE, zF, zG]) hms ?_
  rintro v μ3 ⟨rfl, h3, o3⟩
  rw [ev] at h3 ⊢
  obtain ⟨μ4, e4, h4, o4⟩ := h3.put1 (vrow_len _) ((hup2 _ _ j).trans (hup _ _)) (k := 3) (x := .int .i64 ((n + 10 * j + 6 : Nat) : Int)) (a' := { l[j] with body := ((n + 10 * j : Nat) : Int), state := ((n + 10 * j + 1 : Nat) : Int), waiter := ((n + 10 * j + 6 : Nat) : Int) }) (hgs _) (by omega) rfl
  rw [List.set_set] at h4
  obtain ⟨μ5, e5, h5, o5⟩ := h4.put1 (vrow_len _) (hup _ _) (k := 4) (x := .int .i64 ((n + 10 * j + 7 : Nat) : Int)) (a' := { l[j] with body := ((n + 10 * j : Nat) : Int), state := ((n + 10 * j + 1 : Nat) : Int), waiter := ((n + 10 * j + 6 : Nat) : Int), blocks := ((n + 10 * j + 7 : Nat) : Int) }) (hgs _) (by omega) rfl
  rw [List.set_set, Con.upd_upd] at h5
  obtain ⟨μ6, e6, h6, o6⟩ := h5.put1 (vrow_len _) (hup _ _) (k := 5) (x := .int .i64 ((n + 10 * j + 8 : Nat) : Int)) (a' := { l[j] with body := ((n + 10 * j : Nat) : Int), state := ((n + 10 * j + 1 : Nat) : Int), waiter := ((n + 10 * j + 6 : Nat) : Int), blocks := ((n + 10 * j + 7 : Nat) : Int), kept := ((n + 10 * j + 8 : Nat) : Int) }) (hgs _) (by omega) rfl
  rw [List.set_set, Con.upd_upd] at h6
  obtain ⟨μ7, e7, h7, o7⟩ := h6.put1 (vrow_len _) (hup _ _) (k := 6) (x := .int .i64 ((n + 10 * j + 9 : Nat) : Int)) (a' := vmark n j) (hgs _) (by omega) rfl
  rw [List.set_set, Con.upd_upd, marked_next hlt] at h7
  have e9 : n + 10 * j + 2 + 4 = n + 10 * j + 6 := by omega
  rw [e9]
  simp only [w1, w2, zH, zI, ↓reduceIte, zA, f0, f5, hidx, e4, q3, e5, q4, e6, q5, e7, q6]
  rw [small (by omega), R_lp]
  refine ih (j + 1) _ _ μ7 (by omega) ⟨h7, hup _ _, fun i v hv => ?_⟩ (o7.in (o6.in (o5.in (o4.in (o3.in (o2.in (o1.in ho))))))) ?_ ?_ ?_ hend
  ·rw [hup']
   by_cases hi : i = j
   ·subst hi
    rw [← marked_next hlt, hgs] at hv
    simp only [Option.some.injEq] at hv
    subst hv
    exact ⟨rfl, by simp only [Con.upd, if_true]; rfl⟩
   ·have e8 : ∀ (x : Nat × List Cell) (C : Con ι), (C.upd (stdr j) x) (stdr i) = C (stdr i) := fun x C => by simp only [Con.upd]; rw [if_neg (fun e => hi (hinj _ _ e))]
    rw [e8, hup']
    refine h.each i v ?_
    rw [← marked_next hlt, List.getElem?_set_ne (fun e => hi e.symm)] at hv
    exact hv
  ·simp only [w1, ↓reduceIte, zA, f0, hs]
  ·simp only [w1, ↓reduceIte, zA]
  ·simp only [w1, ↓reduceIte]; rfl

theorem markStand_ok {n : Nat} {l : List PView} {ok : Bool} {run : Int} (hne : ∀ i, stdr i ≠ std) (hinj : ∀ i j, stdr i = stdr j → i = j) (h : StandH std stdr lo μ L C l) (hb : n + 10 * l.length ≤ 1000000000) :
  Ret 56 [.agg [.bool ok, .int .i64 run, L.sc std l.length], .c (.int .i64 n)] μ fun z μ' => z = .c (.int .i64 ((n + 10 * l.length : Nat) : Int)) ∧ (∃ C', StandH std stdr lo μ' L C' ((List.range l.length).map (vmark n))) ∧ μ'.next = μ.next + 1 ∧ ∀ b, b < μ.next → (∀ x, L.on x = true → L.id x ≠ b) → μ'.obj b = μ.obj b := by
 have c2 : (μ.new [.bool ok, .int .i64 run, L.sc std l.length] 0).ld none μ.next 2 = some (.c (L.sc std l.length)) := new_ld0 rfl
 have ht : Has L C lo (μ.new [.bool ok, .int .i64 run, L.sc std l.length] 0) := h.has.tmp
 have hnx : (μ.new [.bool ok, .int .i64 run, L.sc std l.length] 0).next = μ.next + 1 := by simp only [Mem.new_next]
 have hob : ∀ b, b < μ.next → (μ.new [.bool ok, .int .i64 run, L.sc std l.length] 0).obj b = μ.obj b := fun b hb => by simp only [Mem.new]; rw [if_neg (by omega)]
 refine Ret_of p56 (by simp [r56]) ?_
 simp only [rI, r56, frOf_2]
 simp only [w1, w2, zH, zI, ↓reduceIte, zA, zB, c2]
 generalize μ.new [.bool ok, .int .i64 run, L.sc std l.length] 0 = μ1 at *
 have hk : Ret 83 [.c (L.sc std l.length), .c (.int .i64 n)] μ1 fun v μ' => v = .c (.int .i64 ((n + 10 * l.length : Nat) : Int)) ∧ (∃ C', StandH std stdr lo μ' L C' ((List.range l.length).map (vmark n))) ∧ OnlyIn L lo μ1 μ' := by
  refine Ret_of p83 (by simp [r83]) ?_
  simp only [rI, r83, frOf_2]
  simp only [w1, w2]
  refine markViewLoop (n := n) (l := l) hne hinj hb l.length 0 C _ _ (by omega) (by rw [marked_zero]; exact ⟨ht, h.rows, h.each⟩) ⟨rfl, fun _ _ => rfl⟩ ?_ ?_ ?_ ?_
  ·simp only [w1, ↓reduceIte, zA]
  ·simp only [w1, ↓reduceIte, zA]; rfl
  ·simp only [w1, ↓reduceIte]; rfl
  ·intro fr' μ' C' a1 a2 a3
   simp only [w1, w2, ↓reduceIte, a3, aRet, aRes, aRes1]
   exact ⟨_, rfl, rfl, ⟨C', a1⟩, a2⟩
 refine R_calls (l := [.c (L.sc std l.length), .c (.int .i64 n)]) (by simp only [w1, w2, ↓reduceIte, zA]) hk ?_
 rintro z μ2 ⟨rfl, h2, n2, o2⟩
 simp only [w1, w2, ↓reduceIte, aRet, aRes, aRes1]
 exact ⟨_, rfl, rfl, h2, by rw [n2, hnx], fun b hb hf => (o2 b hf).trans (hob b hb)⟩

end

theorem heldViewLoop {hi : Nat} {μ0 : Mem} {c : Cell} {g : Nat → Cell} {m n : Nat} (hb : n + 10 * m ≤ 1000000000) (hR : Rd hi μ0 7 c m (cat (vrow g) 0 ((List.range m).map (vmark n)))) (hk : ∀ i, i < m → Rd hi μ0 1 (g i) 4 (cat irow 0 ((List.range 4).map (imark (n + 10 * i + 2))))) {s : List It} {Q : Fr → Mem → Prop} :
  ∀ (k j : Nat) (fr : Fr), j + k = m → fr 0 = .c c → fr 1 = .c (.int .i64 ((n + 10 * j : Nat) : Int)) → fr 5 = .c (.int .i64 j) →
   (∀ fr', fr' 1 = .c (.int .i64 ((n + 10 * m : Nat) : Int)) → R s fr' μ0 Q) → R (.c (.loop b84_0) :: .blk 0 :: s) fr μ0 Q := by
 obtain ⟨a, cap, hc⟩ := hR.slc
 intro k
 induction k with
 | zero =>
  intro j fr hj f0 f1 f5 hend
  obtain rfl : j = m := by omega
  rw [R_loop]
  simp only [rI, b84_0]
  simp only [w1, w2, ↓reduceIte, zA, zE, f0, f5, hc]
  rw [decide_eq_false (by omega)]
  simp only [w1, zE]
  rw [R_exit rfl]
  exact hend _ (by simp only [w1, ↓reduceIte, zA, f1])
 | succ k ih =>
  intro j fr hj f0 f1 f5 hend
  have hlt : j < m := by omega
  have hR' : Rd hi μ0 7 c ((List.range m).map (vmark n)).length (cat (vrow g) 0 ((List.range m).map (vmark n))) := by simpa using hR
  obtain ⟨b, o, e1, _, _, e4⟩ := hR'.row (vrow_len g) (by omega) (j := j) (x := vmark n j) (by simp [hlt])
  have d0 := e4 0 (by omega)
  have d1 := e4 1 (by omega)
  have d2 := e4 2 (by omega)
  have d3 := e4 3 (by omega)
  have d4 := e4 4 (by omega)
  have d5 := e4 5 (by omega)
  have d6 := e4 6 (by omega)
  simp only [vrow, List.getElem?_cons_zero, List.getElem?_cons_succ, Option.map_some, vmark] at d0 d1 d2 d3 d4 d5 d6
  have hh := heldInt_ok p107 (n := n + 10 * j + 2) (m := 4) (by omega) (hk j hlt)
  have q1 : IntKind.i64.wrap (((n + 10 * j : Nat) : Int) + 1) = ((n + 10 * j + 1 : Nat) : Int) := by rw [small (by omega)]; omega
  have q2 : IntKind.i64.wrap (((n + 10 * j + 1 : Nat) : Int) + 1) = ((n + 10 * j + 2 : Nat) : Int) := by rw [small (by omega)]; omega
  have q3 : IntKind.i64.wrap (((n + 10 * j + 6 : Nat) : Int) + 1) = ((n + 10 * j + 7 : Nat) : Int) := by rw [small (by omega)]; omega
  have q4 : IntKind.i64.wrap (((n + 10 * j + 7 : Nat) : Int) + 1) = ((n + 10 * j + 8 : Nat) : Int) := by rw [small (by omega)]; omega
  have q5 : IntKind.i64.wrap (((n + 10 * j + 8 : Nat) : Int) + 1) = ((n + 10 * j + 9 : Nat) : Int) := by rw [small (by omega)]; omega
  have q6 : IntKind.i64.wrap (((n + 10 * j + 9 : Nat) : Int) + 1) = ((n + 10 * (j + 1) : Nat) : Int) := by rw [small (by omega)]; omega
  rw [hc] at e1
  rw [R_loop]
  simp only [rI, b84_0]
  simp only [w1, w2, ↓reduceIte, zA, zE, f0, f5, hc]
  rw [decide_eq_true (by omega)]
  simp only [w1, w2, ↓reduceIte, zA, zE, f0, f1, f5, hc, e1, d0, d1, d2, bneq rfl, q1, q2]
  refine R_calls (l := [.c (g j), .c (.int .i64 ((n + 10 * j + 2 : Nat) : Int))]) (by first | rfl | simp only [w1, w2, zH, zI, ↓reduceIte, zA, zB, zC, zD, zE, zF, zG]) hh ?_
  rintro v μ' ⟨rfl, rfl⟩
  have e9 : n + 10 * j + 2 + 4 = n + 10 * j + 6 := by omega
  rw [e9]
  simp only [w1, w2, ↓reduceIte, zE]
  rw [decide_eq_false (by omega)]
  simp only [w1, w2, ↓reduceIte, zA, zE, f0, f5, hc, e1, d3, d4, d5, d6, bneq rfl, q3, q4, q5, q6]
  rw [small (by omega), R_lp]
  refine ih (j + 1) _ (by omega) ?_ ?_ ?_ hend
  ·simp only [w1, ↓reduceIte, zA, f0]
  ·simp only [w1, ↓reduceIte, zA]
  ·simp only [w1, ↓reduceIte]; rfl

theorem heldStand_ok {hi : Nat} {μ : Mem} {v : AV} {ok : Bool} {run : Int} {m n : Nat} (h : StandV hi μ v ⟨ok, run, (List.range m).map (vmark n)⟩) (hh : hi ≤ μ.next) (hb : n + 10 * m ≤ 1000000000) :
  Ret 57 [v, .c (.int .i64 n)] μ fun z μ' => z = .c (.int .i64 ((n + 10 * m : Nat) : Int)) ∧ Same μ.next μ μ' := by
 obtain ⟨sc, g, rfl, h1, k1⟩ := h
 have hs : Same μ.next μ (μ.new [.bool ok, .int .i64 run, sc] 0) := Same.tmp (Nat.le_refl _)
 have c2 : (μ.new [.bool ok, .int .i64 run, sc] 0).ld none μ.next 2 = some (.c sc) := new_ld0 rfl
 have a1 := h1.same hs hh
 have b1 : ∀ i, i < m → Rd hi (μ.new [.bool ok, .int .i64 run, sc] 0) 1 (g i) 4 (cat irow 0 ((List.range 4).map (imark (n + 10 * i + 2)))) := fun i hi' => by
  have := (k1 i (vmark n i) (by simp [hi'])).same hs hh
  exact this
 simp only [List.length_map, List.length_range] at a1
 refine Ret_of p57 (by simp [r57]) ?_
 simp only [rI, r57, frOf_2]
 simp only [w1, w2, zH, zI, ↓reduceIte, zA, zB, zE, c2]
 generalize μ.new [.bool ok, .int .i64 run, sc] 0 = μ1 at *
 have hk : Ret 84 [.c sc, .c (.int .i64 n)] μ1 fun v μ' => v = .c (.int .i64 ((n + 10 * m : Nat) : Int)) ∧ μ' = μ1 := by
  refine Ret_of p84 (by simp [r84]) ?_
  simp only [rI, r84, frOf_2]
  simp only [w1, w2]
  refine heldViewLoop (n := n) (g := g) hb a1 b1 m 0 _ (by omega) ?_ ?_ ?_ ?_
  ·simp only [w1, ↓reduceIte, zA]
  ·simp only [w1, ↓reduceIte, zA]; rfl
  ·simp only [w1, ↓reduceIte]; rfl
  ·intro fr' a3
   simp only [w1, w2, ↓reduceIte, a3, aRet, aRes, aRes1]
   exact ⟨_, rfl, rfl⟩
 refine R_calls (l := [.c sc, .c (.int .i64 n)]) (by simp only [w1, w2, ↓reduceIte, zA]) hk ?_
 rintro z μ2 ⟨rfl, rfl⟩
 simp only [w1, w2, ↓reduceIte, zE]
 rw [decide_eq_false (by omega)]
 simp only [w1, w2, ↓reduceIte, zA, zE, aRet, aRes, aRes1]
 exact ⟨_, rfl, rfl, hs⟩
end Go.Proofs.Ytibmnlijoeppaaa
