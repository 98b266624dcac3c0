/-
 The drawn laws: a byte is read; reports are compared.
-/
import Derived.Test.YtibmnlijoeppaaaWB
namespace Go.Proofs.Ytibmnlijoeppaaa
open Nat renaming reduceEqDiff → zA, reduceAdd → zB, reduceLeDiff → zJ, reduceMul → zK
open Int renaming reduceLT → zC, reduceLE → zD, reduceNeg → zE, reduceBEq → zF, reduceBNe → zG
open AV renaming isTup → zH, cells → zI
set_option linter.unusedSimpArgs false
set_option linter.unusedVariables false

/-! 38: laws.wRecs -/
def b38_0 : RCode := (.seq (.reg [rI 0 (.bin .lss (.t 13) (.t 12)) 14]) (.seq (.ite (.t 14) .skip (.exit 0)) (.seq (.blk 1 (.seq (.reg [rI 0 (.mv (.t 13)) 15, rI 1 (.mv (.t 15)) 5]) (.seq (.reg [rI 0 (.mv (.t 0)) 16, rI 1 (.mv (.t 5)) 17, rI 2 (.ias (.t 16) (.t 17) 4) 18, rI 4 (.mv (.t 1)) 20, rI 5 (.mv (.t 5)) 21, rI 6 (.ias (.t 20) (.t 21) 4) 22, rI 3 (.ld (some 4) (.t 18)) 19, rI 7 (.ld (some 4) (.t 22)) 23, rI 8 (.eq true (.ints 4) (.t 19) (.t 23)) 24]) (.ite (.t 24) (.seq (.reg [rI 0 (.mv (.k (.bool false))) 4]) .ret) .skip)))) (.reg [rI 0 (.bin .add (.t 13) (.k (.int .i64 1))) 25, rI 1 (.mv (.t 25)) 13]))))

def r38 : RFun := ⟨26, [.tmp 4], (.seq (.reg [rI 0 (.mv (.k (.bool false))) 4]) (.seq (.seq (.reg [rI 0 (.mv (.t 0)) 6, rI 1 (.len (.t 6)) 7, rI 2 (.mv (.t 1)) 8, rI 3 (.len (.t 8)) 9, rI 4 (.bin .neq (.t 7) (.t 9)) 10]) (.ite (.t 10) (.seq (.reg [rI 0 (.mv (.k (.bool false))) 4]) .ret) .skip)) (.seq (.seq (.reg [rI 0 (.mv (.t 0)) 11, rI 1 (.len (.t 11)) 12, rI 2 (.mv (.k (.int .i64 0))) 13]) (.blk 0 (.loop b38_0))) (.seq (.reg [rI 0 (.mv (.k (.bool true))) 4]) .ret))))⟩

theorem p38 : prog 38 = some r38 := by kernel_rfl

/-! 51: laws.wInts -/
def b51_0 : RCode := (.seq (.reg [rI 0 (.bin .lss (.t 13) (.t 12)) 14]) (.seq (.ite (.t 14) .skip (.exit 0)) (.seq (.blk 1 (.seq (.reg [rI 0 (.mv (.t 13)) 15, rI 1 (.mv (.t 15)) 5]) (.seq (.reg [rI 0 (.mv (.t 0)) 16, rI 1 (.mv (.t 5)) 17, rI 2 (.ias (.t 16) (.t 17) 1) 18, rI 4 (.mv (.t 1)) 20, rI 5 (.mv (.t 5)) 21, rI 6 (.ias (.t 20) (.t 21) 1) 22, rI 3 (.ld none (.t 18)) 19, rI 7 (.ld none (.t 22)) 23, rI 8 (.bin .neq (.t 19) (.t 23)) 24]) (.ite (.t 24) (.seq (.reg [rI 0 (.mv (.k (.bool false))) 4]) .ret) .skip)))) (.reg [rI 0 (.bin .add (.t 13) (.k (.int .i64 1))) 25, rI 1 (.mv (.t 25)) 13]))))

def r51 : RFun := ⟨26, [.tmp 4], (.seq (.reg [rI 0 (.mv (.k (.bool false))) 4]) (.seq (.seq (.reg [rI 0 (.mv (.t 0)) 6, rI 1 (.len (.t 6)) 7, rI 2 (.mv (.t 1)) 8, rI 3 (.len (.t 8)) 9, rI 4 (.bin .neq (.t 7) (.t 9)) 10]) (.ite (.t 10) (.seq (.reg [rI 0 (.mv (.k (.bool false))) 4]) .ret) .skip)) (.seq (.seq (.reg [rI 0 (.mv (.t 0)) 11, rI 1 (.len (.t 11)) 12, rI 2 (.mv (.k (.int .i64 0))) 13]) (.blk 0 (.loop b51_0))) (.seq (.reg [rI 0 (.mv (.k (.bool true))) 4]) .ret))))⟩

theorem p51 : prog 51 = some r51 := by kernel_rfl

/-! 36: laws.wReport -/
def r36 : RFun := ⟨38, [.tmp 4], (.seq (.reg [rI 0 (.box (.t 0) 5) 2, rI 1 (.box (.t 1) 5) 3, rI 2 (.mv (.k (.bool false))) 4]) (.seq (.reg [rI 0 (.fa (.t 2) 0) 5, rI 1 (.ld none (.t 5)) 6, rI 2 (.fa (.t 3) 0) 7, rI 3 (.ld none (.t 7)) 8, rI 4 (.bin .eql (.t 6) (.t 8)) 9, rI 5 (.mv (.t 9)) 10, ⟨6, .fa (.t 2) 1, some 11, some (10, true), []⟩, ⟨7, .ld none (.t 11), some 12, some (10, true), []⟩, ⟨8, .fa (.t 3) 1, some 13, some (10, true), []⟩, ⟨9, .ld none (.t 13), some 14, some (10, true), []⟩, ⟨10, .call 38 [.t 12, .t 14], some 15, some (10, true), []⟩, rI 11 (.pick (.t 10) (.t 15) (.k (.bool false))) 16, rI 12 (.mv (.t 16)) 17, ⟨13, .fa (.t 2) 2, some 18, some (17, true), []⟩, ⟨14, .ld none (.t 18), some 19, some (17, true), []⟩, ⟨15, .fa (.t 3) 2, some 20, some (17, true), []⟩, ⟨16, .ld none (.t 20), some 21, some (17, true), []⟩, ⟨17, .bin .eql (.t 19) (.t 21), some 22, some (17, true), []⟩, rI 18 (.pick (.t 17) (.t 22) (.k (.bool false))) 23, rI 19 (.mv (.t 23)) 24, ⟨20, .fa (.t 2) 3, some 25, some (24, true), []⟩, ⟨21, .ld none (.t 25), some 26, some (24, true), []⟩, ⟨22, .fa (.t 3) 3, some 27, some (24, true), []⟩, ⟨23, .ld none (.t 27), some 28, some (24, true), []⟩, ⟨24, .bin .eql (.t 26) (.t 28), some 29, some (24, true), []⟩, rI 25 (.pick (.t 24) (.t 29) (.k (.bool false))) 30, rI 26 (.mv (.t 30)) 31, ⟨27, .fa (.t 2) 4, some 32, some (31, true), []⟩, ⟨28, .ld none (.t 32), some 33, some (31, true), []⟩, ⟨29, .fa (.t 3) 4, some 34, some (31, true), []⟩, ⟨30, .ld none (.t 34), some 35, some (31, true), []⟩, ⟨31, .call 51 [.t 33, .t 35], some 36, some (31, true), []⟩, rI 32 (.pick (.t 31) (.t 36) (.k (.bool false))) 37, rI 33 (.mv (.t 37)) 4]) .ret))⟩

theorem p36 : prog 36 = some r36 := by kernel_rfl

theorem wRecLoop {hi : Nat} {μ : Mem} {c c' : Cell} {l : List PRec} (h : Rd hi μ 4 c l.length (cat recrow 0 l)) (h' : Rd hi μ 4 c' l.length (cat recrow 0 l)) (hl : l.length ≤ 1000000000) {Q : Fr → Mem → Prop} {s : List It} :
  ∀ (k i : Nat) (fr : Fr), i + k = l.length → fr 0 = .c c → fr 1 = .c c' → fr 12 = .c (.int .i64 l.length) → fr 13 = .c (.int .i64 i) → (∀ fr', R s fr' μ Q) → R (.c (.loop b38_0) :: .blk 0 :: s) fr μ Q := by
 obtain ⟨a, cap, hc⟩ := h.slc
 obtain ⟨a', cap', hc'⟩ := h'.slc
 intro k
 induction k with
 | zero =>
  intro i fr hk h0 h1 h12 h13 hend
  rw [R_loop]
  simp only [rI, b38_0]
  simp only [w1, w2, ↓reduceIte, h12, h13]
  rw [decide_eq_false (by omega)]
  simp only [w1]
  rw [R_exit rfl]
  exact hend _
 | succ k ih =>
  intro i fr hk h0 h1 h12 h13 hend
  have hi' : l[i]? = some l[i] := List.getElem?_eq_getElem (by omega)
  obtain ⟨b, o, e1, _, e3, _⟩ := h.row recrow_len (by omega) hi'
  obtain ⟨b', o', e1', _, e3', _⟩ := h'.row recrow_len (by omega) hi'
  simp only [recrow] at e3 e3'
  rw [hc] at e1
  rw [hc'] at e1'
  rw [R_loop]
  simp only [rI, b38_0]
  simp only [w1, w2, ↓reduceIte, h12, h13]
  rw [decide_eq_true (by omega)]
  simp only [w1, w2, ↓reduceIte, zA, zB, h0, h1, h13, hc, hc', e1, e1', e3, e3', aeq, eqInts]
  rw [small (by omega), R_lp]
  refine ih (i + 1) _ (by omega) ?_ ?_ ?_ ?_ hend
  ·simp only [w1, ↓reduceIte, zA, h0, hc]
  ·simp only [w1, ↓reduceIte, zA, h1, hc']
  ·simp only [w1, ↓reduceIte, zA, h12]
  ·simp only [w1, ↓reduceIte]; rfl

theorem wRecs_ok {hi : Nat} {μ : Mem} {c c' : Cell} {l : List PRec} (h : Rd hi μ 4 c l.length (cat recrow 0 l)) (h' : Rd hi μ 4 c' l.length (cat recrow 0 l)) (hl : l.length ≤ 1000000000) : Ret 38 [.c c, .c c'] μ fun v μ' => v = .c (.bool true) ∧ μ' = μ := by
 obtain ⟨a, cap, hc⟩ := h.slc
 obtain ⟨a', cap', hc'⟩ := h'.slc
 refine Ret_of p38 (by simp [r38]) ?_
 simp only [rI, r38, frOf_2]
 simp only [w1, w2, ↓reduceIte, zA, hc, hc', bneq rfl]
 refine wRecLoop h h' hl l.length 0 _ (by omega) ?_ ?_ ?_ ?_ ?_
 ·simp only [w1, ↓reduceIte, zA, hc]
 ·simp only [w1, ↓reduceIte, zA, hc']
 ·simp only [w1, ↓reduceIte, zA]
 ·simp only [w1, ↓reduceIte]; rfl
 ·intro fr'
  simp only [w1, w2, ↓reduceIte, aRet, aRes, aRes1]
  exact ⟨_, rfl, rfl⟩

theorem wIntLoop {hi : Nat} {μ : Mem} {c c' : Cell} {l : List Int} (h : Rd hi μ 1 c l.length (cat irow 0 l)) (h' : Rd hi μ 1 c' l.length (cat irow 0 l)) (hl : l.length ≤ 1000000000) {Q : Fr → Mem → Prop} {s : List It} :
  ∀ (k i : Nat) (fr : Fr), i + k = l.length → fr 0 = .c c → fr 1 = .c c' → fr 12 = .c (.int .i64 l.length) → fr 13 = .c (.int .i64 i) → (∀ fr', R s fr' μ Q) → R (.c (.loop b51_0) :: .blk 0 :: s) fr μ Q := by
 obtain ⟨a, cap, hc⟩ := h.slc
 obtain ⟨a', cap', hc'⟩ := h'.slc
 intro k
 induction k with
 | zero =>
  intro i fr hk h0 h1 h12 h13 hend
  rw [R_loop]
  simp only [rI, b51_0]
  simp only [w1, w2, ↓reduceIte, h12, h13]
  rw [decide_eq_false (by omega)]
  simp only [w1]
  rw [R_exit rfl]
  exact hend _
 | succ k ih =>
  intro i fr hk h0 h1 h12 h13 hend
  have hi' : l[i]? = some l[i] := List.getElem?_eq_getElem (by omega)
  obtain ⟨b, o, e1, _, _, e4⟩ := h.row irow_len (by omega) hi'
  obtain ⟨b', o', e1', _, _, e4'⟩ := h'.row irow_len (by omega) hi'
  have q := e4 0 (by omega)
  have q' := e4' 0 (by omega)
  simp only [irow, List.getElem?_cons_zero, Option.map_some, Nat.add_zero] at q q'
  rw [hc] at e1
  rw [hc'] at e1'
  rw [R_loop]
  simp only [rI, b51_0]
  simp only [w1, w2, ↓reduceIte, h12, h13]
  rw [decide_eq_true (by omega)]
  simp only [w1, w2, ↓reduceIte, zA, h0, h1, h13, hc, hc', e1, e1', q, q', bneq rfl]
  rw [small (by omega), R_lp]
  refine ih (i + 1) _ (by omega) ?_ ?_ ?_ ?_ hend
  ·simp only [w1, ↓reduceIte, zA, h0, hc]
  ·simp only [w1, ↓reduceIte, zA, h1, hc']
  ·simp only [w1, ↓reduceIte, zA, h12]
  ·simp only [w1, ↓reduceIte]; rfl

theorem wInts_ok {hi : Nat} {μ : Mem} {c c' : Cell} {l : List Int} (h : Rd hi μ 1 c l.length (cat irow 0 l)) (h' : Rd hi μ 1 c' l.length (cat irow 0 l)) (hl : l.length ≤ 1000000000) : Ret 51 [.c c, .c c'] μ fun v μ' => v = .c (.bool true) ∧ μ' = μ := by
 obtain ⟨a, cap, hc⟩ := h.slc
 obtain ⟨a', cap', hc'⟩ := h'.slc
 refine Ret_of p51 (by simp [r51]) ?_
 simp only [rI, r51, frOf_2]
 simp only [w1, w2, ↓reduceIte, zA, hc, hc', bneq rfl]
 refine wIntLoop h h' hl l.length 0 _ (by omega) ?_ ?_ ?_ ?_ ?_
 ·simp only [w1, ↓reduceIte, zA, hc]
 ·simp only [w1, ↓reduceIte, zA, hc']
 ·simp only [w1, ↓reduceIte, zA]
 ·simp only [w1, ↓reduceIte]; rfl
 ·intro fr'
  simp only [w1, w2, ↓reduceIte, aRet, aRes, aRes1]
  exact ⟨_, rfl, rfl⟩

theorem wReport_ok {hi : Nat} {μ : Mem} {v w : AV} {r : PReport} (h : RepV hi μ v r) (h' : RepV hi μ w r) (hh : hi ≤ μ.next) (h1 : r.recs.length ≤ 1000000000) (h2 : r.states.length ≤ 1000000000) :
  Ret 36 [v, w] μ fun z μ' => z = .c (.bool true) ∧ Same μ.next μ μ' := by
 obtain ⟨rc, sc, rfl, a1, a2⟩ := h
 obtain ⟨rc', sc', rfl, b1, b2⟩ := h'
 have hs : Same μ.next μ ((μ.new [.int .i64 r.code, rc, .int .i64 r.num, .int .i64 r.ticks, sc] 0).new [.int .i64 r.code, rc', .int .i64 r.num, .int .i64 r.ticks, sc'] 0) := (Same.tmp (Nat.le_refl _)).new (Nat.le_succ _)
 refine Ret_of p36 (by simp [r36]) ?_
 simp only [rI, r36, frOf_2]
 simp only [w1, w2, zH, zI, ↓reduceIte, zA, zB, m1, m2, aRet, aRes, aRes1, beq_self_eq_true]
 refine R_calls (l := [.c rc, .c rc']) (by first | rfl | simp only [w1, w2, zH, zI, ↓reduceIte, zA, zB, zC, zD, zE, zF, zG]) (wRecs_ok (a1.same hs hh) (b1.same hs hh) h1) ?_
 rintro z μ2 ⟨rfl, rfl⟩
 simp only [w1, w2, ↓reduceIte, zA, m1, m2, beq_self_eq_true]
 refine R_calls (l := [.c sc, .c sc']) (by first | rfl | simp only [w1, w2, zH, zI, ↓reduceIte, zA, zB, zC, zD, zE, zF, zG]) (wInts_ok (a2.same hs hh) (b2.same hs hh) h2) ?_
 rintro z μ3 ⟨rfl, rfl⟩
 simp only [w1, ↓reduceIte, zA]
 first | exact ⟨_, rfl, rfl, hs⟩ | exact hs
end Go.Proofs.Ytibmnlijoeppaaa
