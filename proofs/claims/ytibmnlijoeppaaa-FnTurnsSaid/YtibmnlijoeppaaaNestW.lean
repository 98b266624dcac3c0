/-
 How the two tests of nesting are walked.
-/
import Derived.Test.YtibmnlijoeppaaaNest
namespace Go.Proofs.Ytibmnlijoeppaaa
open Nat renaming reduceEqDiff → zA, reduceAdd → zB, reduceLeDiff → zJ, reduceMul → zK
open Int renaming reduceLT → zC, reduceLE → zD, reduceNeg → zE, reduceBEq → zF, reduceBNe → zG
open AV renaming isTup → zH, cells → zI
set_option linter.unusedSimpArgs false
set_option linter.unusedVariables false

/-! 60: spec.l1inside -/
def b60_0 : RCode := (.seq (.seq (.reg [rI 0 (.mv (.t 12)) 17, rI 1 (.mv (.t 2)) 18, rI 2 (.bin .lss (.t 17) (.t 18)) 19]) (.ite (.t 19) .skip (.exit 0))) (.seq (.blk 1 (.seq (.reg [rI 0 (.fa (.t 5) 0) 22, rI 1 (.ld none (.t 22)) 23, rI 2 (.mv (.t 12)) 24, rI 3 (.ias (.t 23) (.t 24) 5) 25, rI 4 (.ld (some 5) (.t 25)) 26, rI 5 (.alc [.int .i64 0, .int .i64 0, .int .i64 0, .int .i64 0, .int .i64 0]) 13, ⟨6, .st (.t 13) (.t 26) 5, none, none, []⟩]) (.seq (.seq (.reg [rI 0 (.fa (.t 13) 0) 27, rI 1 (.ld none (.t 27)) 28, rI 2 (.call 87 [.t 28]) 29, rI 3 (.nt (.t 29)) 30]) (.ite (.t 30) (.seq (.seq (.reg [rI 0 (.fa (.t 13) 0) 31, rI 1 (.ld none (.t 31)) 32, rI 2 (.bin .eql (.t 32) (.k (.int .i64 10))) 33, rI 3 (.mv (.t 33)) 34, ⟨4, .mv (.t 4), some 35, some (34, true), []⟩, rI 5 (.pick (.t 34) (.t 35) (.k (.bool false))) 36]) (.ite (.t 36) (.seq (.reg [rI 0 (.mv (.t 12)) 37, rI 1 (.mv (.k (.int .i64 6))) 10, rI 2 (.mv (.t 37)) 11]) .ret) .skip)) (.exit 1)) .skip)) (.seq (.seq (.reg [rI 0 (.fa (.t 13) 4) 38, rI 1 (.ld none (.t 38)) 39, rI 2 (.mv (.t 2)) 40, rI 3 (.mv (.t 12)) 41, rI 4 (.bin .sub (.t 40) (.t 41)) 42, rI 5 (.bin .sub (.t 42) (.k (.int .i64 1))) 43, rI 6 (.bin .gtr (.t 39) (.t 43)) 44]) (.ite (.t 44) (.seq (.reg [rI 0 (.mv (.t 12)) 45, rI 1 (.mv (.k (.int .i64 4))) 10, rI 2 (.mv (.t 45)) 11]) .ret) .skip)) (.seq (.seq (.reg [rI 0 (.mv (.t 3)) 46, rI 1 (.bin .eql (.t 46) (.k (.int .i64 12))) 47]) (.ite (.t 47) (.seq (.reg [rI 0 (.mv (.t 12)) 48, rI 1 (.mv (.k (.int .i64 5))) 10, rI 2 (.mv (.t 48)) 11]) .ret) .skip)) (.seq (.reg [rI 0 (.ld (some 1) (.t 5)) 50, rI 1 (.mv (.t 12)) 51, rI 2 (.bin .add (.t 51) (.k (.int .i64 1))) 52, rI 3 (.mv (.t 12)) 53, rI 4 (.bin .add (.t 53) (.k (.int .i64 1))) 54, rI 5 (.fa (.t 13) 4) 55, rI 6 (.ld none (.t 55)) 56, rI 7 (.bin .add (.t 54) (.t 56)) 57, rI 8 (.mv (.t 3)) 58, rI 9 (.bin .add (.t 58) (.k (.int .i64 1))) 59, rI 10 (.mv (.t 4)) 60, rI 11 (.mv (.t 60)) 61, ⟨12, .fa (.t 13) 0, some 62, some (61, false), []⟩, ⟨13, .ld none (.t 62), some 63, some (61, false), []⟩, ⟨14, .bin .eql (.t 63) (.k (.int .i64 13)), some 64, some (61, false), []⟩, rI 15 (.pick (.t 61) (.k (.bool true)) (.t 64)) 65, rI 16 (.call 60 [.t 50, .t 52, .t 57, .t 59, .t 65]) 66, rI 17 (.mv (.t 66)) 49, rI 18 (.ext (.t 49) 0) 67, rI 19 (.ext (.t 49) 1) 68, rI 20 (.mv (.t 67)) 14, rI 21 (.mv (.t 68)) 15]) (.seq (.seq (.reg [rI 0 (.mv (.t 14)) 69, rI 1 (.bin .neq (.t 69) (.k (.int .i64 0))) 70]) (.ite (.t 70) (.seq (.reg [rI 0 (.mv (.t 14)) 71, rI 1 (.mv (.t 15)) 72, rI 2 (.mv (.t 71)) 10, rI 3 (.mv (.t 72)) 11]) .ret) .skip)) (.reg [rI 0 (.mv (.t 12)) 73, rI 1 (.fa (.t 13) 4) 74, rI 2 (.ld none (.t 74)) 75, rI 3 (.bin .add (.t 73) (.t 75)) 76, rI 4 (.mv (.t 76)) 12])))))))) (.reg [rI 0 (.mv (.t 12)) 20, rI 1 (.bin .add (.t 20) (.k (.int .i64 1))) 21, rI 2 (.mv (.t 21)) 12])))
def r60 : RFun := ⟨77, [.tmp 10, .tmp 11], (.seq (.reg [rI 0 (.box (.t 0) 1) 5, rI 1 (.mv (.k (.int .i64 0))) 10, rI 2 (.mv (.k (.int .i64 0))) 11]) (.seq (.seq (.reg [rI 0 (.mv (.t 1)) 16, rI 1 (.mv (.t 16)) 12]) (.blk 0 (.loop b60_0))) (.seq (.reg [rI 0 (.mv (.k (.int .i64 0))) 10, rI 1 (.mv (.k (.int .i64 0))) 11]) .ret)))⟩
theorem p60 : prog 60 = some r60 := by kernel_rfl

/-! 64: impl.nest -/
def b64_0 : RCode := (.seq (.seq (.reg [rI 0 (.mv (.t 5)) 20, rI 1 (.len (.t 20)) 21, rI 2 (.bin .gtr (.t 21) (.k (.int .i64 1))) 22, rI 3 (.mv (.t 22)) 23, ⟨4, .mv (.t 6), some 24, some (23, true), []⟩, ⟨5, .mv (.t 5), some 25, some (23, true), []⟩, ⟨6, .mv (.t 5), some 26, some (23, true), []⟩, ⟨7, .len (.t 26), some 27, some (23, true), []⟩, ⟨8, .bin .sub (.t 27) (.k (.int .i64 1)), some 28, some (23, true), []⟩, ⟨9, .ias (.t 25) (.t 28) 2, some 29, some (23, true), []⟩, ⟨10, .fa (.t 29) 0, some 30, some (23, true), []⟩, ⟨11, .ld none (.t 30), some 31, some (23, true), []⟩, ⟨12, .bin .geq (.t 24) (.t 31), some 32, some (23, true), []⟩, rI 13 (.pick (.t 23) (.t 32) (.k (.bool false))) 33]) (.ite (.t 33) .skip (.exit 2))) (.blk 3 (.reg [rI 0 (.mv (.t 5)) 34, rI 1 (.mv (.t 5)) 35, rI 2 (.len (.t 35)) 36, rI 3 (.bin .sub (.t 36) (.k (.int .i64 1))) 37, rI 4 (.slc 2 (.t 34) none (some (.t 37))) 38, rI 5 (.mv (.t 38)) 5])))
def b64_1 : RCode := (.seq (.reg [rI 0 (.bin .lss (.t 15) (.t 14)) 16]) (.seq (.ite (.t 16) .skip (.exit 0)) (.seq (.blk 1 (.seq (.reg [rI 0 (.mv (.t 15)) 17, rI 1 (.ias (.t 13) (.t 15) 5) 18, rI 2 (.ld (some 5) (.t 18)) 19, rI 3 (.alc [.int .i64 0, .int .i64 0, .int .i64 0, .int .i64 0, .int .i64 0]) 7, rI 4 (.mv (.t 17)) 6, ⟨5, .st (.t 7) (.t 19) 5, none, none, []⟩]) (.seq (.blk 2 (.loop b64_0)) (.seq (.reg [rI 0 (.mv (.t 5)) 39, rI 1 (.mv (.t 5)) 40, rI 2 (.len (.t 40)) 41, rI 3 (.bin .sub (.t 41) (.k (.int .i64 1))) 42, rI 4 (.ias (.t 39) (.t 42) 2) 43, rI 5 (.ld (some 2) (.t 43)) 44, rI 6 (.alc [.int .i64 0, .bool false]) 8, ⟨7, .st (.t 8) (.t 44) 2, none, none, []⟩]) (.seq (.seq (.reg [rI 0 (.fa (.t 7) 0) 45, rI 1 (.ld none (.t 45)) 46, rI 2 (.call 89 [.t 46]) 47]) (.ite (.t 47) (.seq (.seq (.reg [rI 0 (.fa (.t 7) 4) 48, rI 1 (.ld none (.t 48)) 49, rI 2 (.fa (.t 8) 0) 50, rI 3 (.ld none (.t 50)) 51, rI 4 (.mv (.t 6)) 52, rI 5 (.bin .sub (.t 51) (.t 52)) 53, rI 6 (.bin .sub (.t 53) (.k (.int .i64 1))) 54, rI 7 (.bin .gtr (.t 49) (.t 54)) 55]) (.ite (.t 55) (.seq (.reg [rI 0 (.mv (.t 1)) 56, rI 1 (.mv (.t 6)) 57, rI 2 (.bld [.int .i64 0, .int .i64 0, .int .i64 0] [(0, 1, .k (.int .i64 4)), (1, 1, .t 56), (2, 1, .t 57)]) 58, ⟨3, .st (.t 4) (.t 58) 3, none, none, []⟩]) .ret) .skip)) (.seq (.seq (.reg [rI 0 (.mv (.t 5)) 59, rI 1 (.len (.t 59)) 60, rI 2 (.bin .sub (.t 60) (.k (.int .i64 1))) 61, rI 3 (.bin .geq (.t 61) (.k (.int .i64 12))) 62]) (.ite (.t 62) (.seq (.reg [rI 0 (.mv (.t 1)) 63, rI 1 (.mv (.t 6)) 64, rI 2 (.bld [.int .i64 0, .int .i64 0, .int .i64 0] [(0, 1, .k (.int .i64 5)), (1, 1, .t 63), (2, 1, .t 64)]) 65, ⟨3, .st (.t 4) (.t 65) 3, none, none, []⟩]) .ret) .skip)) (.reg [rI 0 (.mv (.t 5)) 66, rI 1 (.mv (.t 6)) 67, rI 2 (.bin .add (.t 67) (.k (.int .i64 1))) 68, rI 3 (.fa (.t 7) 4) 69, rI 4 (.ld none (.t 69)) 70, rI 5 (.bin .add (.t 68) (.t 70)) 71, rI 6 (.fa (.t 8) 1) 72, rI 7 (.ld none (.t 72)) 73, rI 8 (.mv (.t 73)) 74, ⟨9, .fa (.t 7) 0, some 75, some (74, false), []⟩, ⟨10, .ld none (.t 75), some 76, some (74, false), []⟩, ⟨11, .bin .eql (.t 76) (.k (.int .i64 13)), some 77, some (74, false), []⟩, rI 12 (.pick (.t 74) (.k (.bool true)) (.t 77)) 78, rI 13 (.bld [.int .i64 0, .bool false] [(0, 1, .t 71), (1, 1, .t 78)]) 79, rI 14 (.bsl [.int .i64 0, .bool false] 1 [(0, .t 79)]) 80, rI 15 (.app 2 16 (.t 66) (.t 80)) 81, rI 16 (.mv (.t 81)) 5]))) .skip)) (.seq (.reg [rI 0 (.fa (.t 7) 0) 82, rI 1 (.ld none (.t 82)) 83, rI 2 (.bin .eql (.t 83) (.k (.int .i64 10))) 84, rI 3 (.mv (.t 84)) 85, ⟨4, .fa (.t 8) 1, some 86, some (85, true), []⟩, ⟨5, .ld none (.t 86), some 87, some (85, true), []⟩, rI 6 (.pick (.t 85) (.t 87) (.k (.bool false))) 88]) (.ite (.t 88) (.seq (.reg [rI 0 (.mv (.t 1)) 89, rI 1 (.mv (.t 6)) 90, rI 2 (.bld [.int .i64 0, .int .i64 0, .int .i64 0] [(0, 1, .k (.int .i64 6)), (1, 1, .t 89), (2, 1, .t 90)]) 91, ⟨3, .st (.t 4) (.t 91) 3, none, none, []⟩]) .ret) .skip))))))) (.reg [rI 0 (.bin .add (.t 15) (.k (.int .i64 1))) 92, rI 1 (.mv (.t 92)) 15]))))
def r64 : RFun := ⟨94, [.cell 4 (some 3)], (.seq (.reg [rI 0 (.alc [.int .i64 0, .int .i64 0, .int .i64 0]) 4]) (.seq (.reg [rI 0 (.mv (.t 0)) 9, rI 1 (.len (.t 9)) 10, rI 2 (.bld [.int .i64 0, .bool false] [(0, 1, .t 10), (1, 1, .k (.bool false))]) 11, rI 3 (.bsl [.int .i64 0, .bool false] 1 [(0, .t 11)]) 12, rI 4 (.mv (.t 12)) 5]) (.seq (.seq (.reg [rI 0 (.mv (.t 0)) 13, rI 1 (.len (.t 13)) 14, rI 2 (.mv (.k (.int .i64 0))) 15]) (.blk 0 (.loop b64_1))) (.seq (.reg [rI 0 (.bld [.int .i64 0, .int .i64 0, .int .i64 0] []) 93, ⟨1, .st (.t 4) (.t 93) 3, none, none, []⟩]) .ret))))⟩
theorem p64 : prog 64 = some r64 := by kernel_rfl



theorem not_gt_int {a b : Int} (h : ¬ a > b) : decide (a > b) = false := decide_eq_false h

theorem l1inside_ok {hi : Nat} {l : List PStep} (hsz : ∀ s ∈ l, 0 ≤ s.size) (hl : l.length ≤ 300) : ∀ (n i0 to deep : Nat) (d : Bool) (μ : Mem) (x : Cell), to - i0 ≤ n → Rd hi μ 5 x l.length (cat scells 0 l) → hi ≤ μ.next →
  to ≤ l.length → i0 ≤ to → deep ≤ 12 →
  Ret 60 [.agg [x], .c (.int .i64 i0), .c (.int .i64 to), .c (.int .i64 deep), .c (.bool d)] μ fun v μ' =>
   v = .tup [.int .i64 (insideP l (to - i0) i0 to deep d).1, .int .i64 (insideP l (to - i0) i0 to deep d).2] ∧ Same μ.next μ μ' := by
 intro n
 induction n with
 | zero =>
  intro i0 to deep d μ x h1 h2 h3 h4 h5 h6
  have : i0 = to := by omega
  subst this
  refine Ret_of p60 (by simp [r60]) ?_
  simp only [rI, r60, frOf_5]
  simp only [w1, w2, zH, zI, ↓reduceIte, zA, m1, aRet, aRes, aRes1]
  rw [R_loop]
  simp only [rI, b60_0]
  simp only [w1, w2, ↓reduceIte, zA]
  rw [decide_eq_false (by omega)]
  simp only [w1]
  rw [R_exit rfl]
  simp only [w1, w2, ↓reduceIte, zA, m1, m2, toCells]
  simp only [Nat.sub_self, insideP]
  exact ⟨trivial, Same.tmp (Nat.le_refl _)⟩
 | succ n ihn =>
  intro i0 to deep d μ0 x hn hR hh hto hi0 hdeep
  -- the loop
  have loop : ∀ (k i : Nat) (fr : Fr) (μ : Mem) (s : List It) (Q : Fr → Mem → Prop), to - i ≤ k → i ≤ to → i0 ≤ i → Same (μ0.next + 1) (μ0.new [x] 0) μ →
    fr 2 = .c (.int .i64 to) → fr 3 = .c (.int .i64 deep) → fr 4 = .c (.bool d) → fr 5 = .c (.ptr (some (μ0.next, 0))) → fr 12 = .c (.int .i64 i) →
    (∀ fr' μ', Same (μ0.next + 1) (μ0.new [x] 0) μ' → fr' 10 = .c (.int .i64 (insideP l (to - i) i to deep d).1) → fr' 11 = .c (.int .i64 (insideP l (to - i) i to deep d).2) → Q fr' μ') →
    (∀ fr' μ', Same (μ0.next + 1) (μ0.new [x] 0) μ' → insideP l (to - i) i to deep d = (0, 0) → R s fr' μ' Q) →
    R (.c (.loop b60_0) :: .blk 0 :: s) fr μ Q := by
   intro k
   induction k with
   | zero =>
    intro i fr μ s Q hk hito hii hs h2 h3 h4 h5 h12 hret hend
    rw [R_loop]
    simp only [rI, b60_0]
    simp only [w1, w2, ↓reduceIte, zA, h2, h12]
    rw [decide_eq_false (by omega)]
    simp only [w1]
    rw [R_exit rfl]
    refine hend _ _ hs ?_
    rw [show to - i = 0 by omega]
    rfl
   | succ k ih =>
    intro i fr μ s Q hk hito hii hs h2 h3 h4 h5 h12 hret hend
    rcases Nat.lt_or_ge i to with hilt | hige
    case inr =>
     rw [R_loop]
     simp only [rI, b60_0]
     simp only [w1, w2, ↓reduceIte, zA, h2, h12]
     rw [decide_eq_false (by omega)]
     simp only [w1]
     rw [R_exit rfl]
     refine hend _ _ hs ?_
     rw [show to - i = 0 by omega]
     rfl
    have hlt : i < l.length := by omega
    have hget : l[i]? = some l[i] := List.getElem?_eq_getElem hlt
    have hz := hsz l[i] (List.getElem_mem hlt)
    have hR0 : Rd hi (μ0.new [x] 0) 5 x l.length (cat scells 0 l) := hR.same (Same.tmp (Nat.le_refl _)) hh
    have hR1 : Rd hi μ 5 x l.length (cat scells 0 l) := hR0.same hs (by omega)
    obtain ⟨bi, bo, e1, e2, e3, e4⟩ := hR1.row scells_len (by omega) hget
    have hx : μ.ld none μ0.next 0 = some (.c x) := by
     rw [hs.ld (by omega)]
     simp only [m1, m2, w2, ↓reduceIte]
    have hnx : μ0.next + 1 ≤ μ.next := hs.2
    have hto1 : to - i = (to - i - 1) + 1 := by omega
    rw [hto1] at hret hend
    simp only [insideP, if_pos (show i < to by omega), hget] at hret hend
    rw [R_loop]
    simp only [rI, b60_0]
    simp only [w1, w2, ↓reduceIte, zA, h2, h12]
    rw [decide_eq_true (by omega)]
    simp only [w1, w2, zH, zI, ↓reduceIte, zA, zB, m1, m2, stl, wr, zJ, h5, h12, hx, e1, e3, scells]
    refine R_calls rfl (by simp only [w1, w2, ↓reduceIte]; exact l1block_ok _ _) ?_
    rintro v μ1 ⟨rfl, rfl⟩
    simp only [w1, ↓reduceIte]
    have hs1 : Same (μ0.next + 1) (μ0.new [x] 0) (μ.new [.int .i64 l[i].op, .int .i64 l[i].a, .int .i64 l[i].b, .int .i64 l[i].n, .int .i64 l[i].size] 0) := hs.new hnx
    cases hh' : headP l[i].op with
    | false =>
     rw [hh'] at hret hend
     simp only [Bool.false_eq_true, if_false] at hret hend
     simp only [w1, w2, ↓reduceIte, zA, m1, m2]
     by_cases h10 : l[i].op = 10
     ·have h10' : (l[i].op == 10) = true := by simpa using h10
      simp only [w1, ↓reduceIte, zA, h10', h4]
      cases d with
      | true =>
       simp only [h10, and_self, if_true] at hret
       simp only [w1, w2, ↓reduceIte, zA, h12]
       refine hret _ _ (hs.new hnx) ?_ ?_
       ·simp only [w1, ↓reduceIte, zA]
       ·simp only [w1, ↓reduceIte]
      | false =>
       simp only [h10, Bool.false_eq_true, and_false, if_false] at hret hend
       simp only [w1]
       rw [R_exit rfl]
       simp only [w1, w2, ↓reduceIte, zA, h12]
       rw [R_lp]
       rw [show to - i - 1 = to - (i + 1) by omega] at hret hend
       rw [small (by omega)]
       refine ih (i + 1) _ _ s Q (by omega) (by omega) (by omega) (hs.new hnx) ?_ ?_ ?_ ?_ ?_ hret hend
       ·simp only [w1, ↓reduceIte, zA, h2]
       ·simp only [w1, ↓reduceIte, zA, h3]
       ·simp only [w1, ↓reduceIte, zA, h4]
       ·simp only [w1, ↓reduceIte, zA, h5]
       ·simp only [w1, ↓reduceIte]; rfl
     ·simp only [w1, ↓reduceIte, zA, beq_ff h10]
      simp only [h10, false_and, if_false] at hret hend
      rw [R_exit rfl]
      simp only [w1, w2, ↓reduceIte, zA, h12]
      rw [R_lp]
      rw [show to - i - 1 = to - (i + 1) by omega] at hret hend
      rw [small (by omega)]
      refine ih (i + 1) _ _ s Q (by omega) (by omega) (by omega) (hs.new hnx) ?_ ?_ ?_ ?_ ?_ hret hend
      ·simp only [w1, ↓reduceIte, zA, h2]
      ·simp only [w1, ↓reduceIte, zA, h3]
      ·simp only [w1, ↓reduceIte, zA, h4]
      ·simp only [w1, ↓reduceIte, zA, h5]
      ·simp only [w1, ↓reduceIte]; rfl
    | true =>
     rw [hh'] at hret hend
     simp only [if_true] at hret hend
     simp only [w1, w2, ↓reduceIte, zA, m1, m2, h2, h12]
     rw [small (n := (to : Int) - i) (by omega), small (n := (to : Int) - i - 1) (by omega)]
     by_cases h6 : l[i].size > (to : Int) - i - 1
     ·rw [if_pos h6] at hret hend
      rw [decide_eq_true h6]
      simp only [w1, w2, ↓reduceIte, zA, h12]
      refine hret _ _ (hs.new hnx) ?_ ?_
      ·simp only [w1, ↓reduceIte, zA]
      ·simp only [w1, ↓reduceIte]
     ·rw [if_neg h6] at hret hend
      rw [decide_eq_false h6]
      simp only [w1, w2, ↓reduceIte, zA, h3]
      have h7' : ((deep : Int) == 12) = decide (deep = 12) := by
       by_cases h7 : deep = 12
       ·simp [h7]
       ·have : (deep : Int) ≠ 12 := by omega
        simp [h7, this]
      by_cases h7 : deep = 12
      ·rw [if_pos h7] at hret hend
       rw [h7', decide_eq_true h7]
       simp only [w1, w2, ↓reduceIte, zA, h12]
       refine hret _ _ (hs.new hnx) ?_ ?_
       ·simp only [w1, ↓reduceIte, zA]
       ·simp only [w1, ↓reduceIte]
      ·rw [if_neg h7] at hret hend
       rw [h7', decide_eq_false h7]
       simp only [w1, w2, ↓reduceIte, zA, m1, m2, rd, h3, h4, h5, h12]
       obtain ⟨e, hE⟩ : ∃ e, e = i + 1 + l[i].size.toNat := ⟨_, rfl⟩
       rw [← hE] at hret hend
       have hbx : μ.ld (some 1) μ0.next 0 = some (.agg [x]) := by
        rw [hs.ld (by omega)]
        simp only [m1, m2, rd, w2, ↓reduceIte]
       have hne : ¬ μ0.next = μ.next := by omega
       have hc1 : IntKind.i64.wrap ((i : Int) + 1) = ((i + 1 : Nat) : Int) := by rw [small (by omega)]; rfl
       have hc2 : IntKind.i64.wrap (((i + 1 : Nat) : Int) + l[i].size) = (e : Int) := by rw [small (by omega)]; omega
       have hc3 : IntKind.i64.wrap ((deep : Int) + 1) = ((deep + 1 : Nat) : Int) := by rw [small (by omega)]; rfl
       simp only [hne, hbx, w2, ↓reduceIte, hc1, hc2, hc3]
       have hzn : (e : Int) = i + 1 + l[i].size := by omega
       cases d
       all_goals
        simp only [w1, w2, ↓reduceIte, zA, m1, m2]
        simp only [Bool.true_or, Bool.false_or] at hret hend
        refine R_calls rfl (by simp only [w1, w2, ↓reduceIte, zA]; exact ihn (i + 1) (e) (deep + 1) _ _ x (by omega) (hR1.same (Same.tmp (Nat.le_refl _)) (by omega)) (by simp only [Mem.new_next]; omega) (by omega) (by omega) (by omega)) ?_
        rintro v μ2 ⟨rfl, hs2⟩
        have hs3 := hs1.trans (hs2.mono (by simp only [Mem.new_next]; omega))
        simp only [w1, w2, ↓reduceIte, zA]
        rw [insideP_fuel (f' := to - i - 1) (by omega) (by omega) hsz]
        split at hret
        ·rename_i hc
         rw [if_pos hc] at hend
         simp only [bne, beq_ff hc, w1, w2, ↓reduceIte, zA]
         refine hret _ _ hs3 ?_ ?_
         ·simp only [w1, ↓reduceIte, zA]
         ·simp only [w1, ↓reduceIte]
        ·rename_i hc
         rw [if_neg hc] at hend
         have hc0 := Decidable.not_not.1 hc
         simp only [hc0, w1, w2, ↓reduceIte, zA, h12]
         rw [hs2.ld (by simp only [Mem.new_next]; omega)]
         simp only [w1, w2, ↓reduceIte, m1, m2]
         rw [small (n := (i : Int) + l[i].size) (by omega), small (by omega), R_lp]
         rw [insideP_fuel (f' := to - (e)) (by omega) (by omega) hsz] at hret hend
         refine ih (e) _ _ s Q (by omega) (by omega) (by omega) hs3 ?_ ?_ ?_ ?_ ?_ hret hend
         ·simp only [w1, ↓reduceIte, zA, h2]
         ·simp only [w1, ↓reduceIte, zA, h3]
         ·simp only [w1, ↓reduceIte, zA, h4]
         ·simp only [w1, ↓reduceIte, zA, h5]
         ·simp only [w1, ↓reduceIte]; rw [show (i : Int) + l[i].size + 1 = (e : Int) by omega]
  refine Ret_of p60 (by simp [r60]) ?_
  simp only [rI, r60, frOf_5]
  simp only [w1, w2, zH, zI, ↓reduceIte, zA, m1, aRet, aRes, aRes1]
  refine loop (to - i0) i0 _ _ _ _ (Nat.le_refl _) hi0 (Nat.le_refl _) Same.refl ?_ ?_ ?_ ?_ ?_ ?_ ?_
  ·simp only [w1, ↓reduceIte, zA]
  ·simp only [w1, ↓reduceIte, zA]
  ·simp only [w1, ↓reduceIte, zA]
  ·simp only [w1, ↓reduceIte, zA]
  ·simp only [w1, ↓reduceIte]
  ·intro fr' μ' hs h10 h11
   simp only [w1, w2, m1, m2, toCells, h10, h11]
   exact (Same.tmp (Nat.le_refl _)).trans (hs.mono (Nat.le_succ _))
  ·intro fr' μ' hs he
   simp only [w1, w2, ↓reduceIte, zA, m1, m2, toCells, he]
   exact (Same.tmp (Nat.le_refl _)).trans (hs.mono (Nat.le_succ _))

def ocells (_ : Nat) (p : Int × Bool) : List Cell := [.int .i64 p.1, .bool p.2]
theorem ocells_len (i : Nat) (p : Int × Bool) : (ocells i p).length = 2 := rfl
def stcon (stk : List (Int × Bool)) : Con Unit := fun _ => some (2, cat ocells 0 stk.reverse)

theorem popR_ne {s : Int} : ∀ {l : List (Int × Bool)}, l ≠ [] → popR s l ≠ []
 | [x], _ => by simp [popR]
 | x :: y :: r, _ => by
  simp only [popR]
  split
  ·exact popR_ne (by simp)
  ·simp

theorem popR_mem {s : Int} : ∀ {l : List (Int × Bool)} {p : Int × Bool}, p ∈ popR s l → p ∈ l
 | [x], p, h => h
 | x :: y :: r, p, h => by
  simp only [popR] at h
  split at h
  ·exact List.mem_cons_of_mem _ (popR_mem h)
  ·exact h

theorem popR_length {s : Int} : ∀ {l : List (Int × Bool)}, (popR s l).length ≤ l.length
 | [] => by simp [popR]
 | [x] => by simp [popR]
 | x :: y :: r => by
  simp only [popR]
  split
  ·exact Nat.le_trans popR_length (by simp)
  ·exact Nat.le_refl _

theorem rev_top {p : Int × Bool} {r : List (Int × Bool)} : (p :: r).reverse[r.length]? = some p := by simp

/-- The loop that closes blocks. -/
theorem popLoop {L : Lay Unit} {lo : Nat} {μ : Mem} {i : Nat} (hi : i ≤ 300) : ∀ (stk : List (Int × Bool)) (fr : Fr) (s : List It) (Q : Fr → Mem → Prop), stk ≠ [] → stk.length ≤ 13 → Has L (stcon stk) lo μ →
  fr 5 = .c (L.sc () stk.length) → fr 6 = .c (.int .i64 i) →
  (∀ fr', Has L (stcon (popR i stk)) lo μ → (∀ t, t < 20 → t ≠ 5 → fr' t = fr t) → fr' 5 = .c (L.sc () (popR i stk).length) → R s fr' μ Q) →
  R (.c (.loop b64_0) :: .blk 2 :: s) fr μ Q
 | [], _, _, _, hne, _, _, _, _, _ => absurd rfl hne
 | [x], fr, s, Q, _, h13, hL, h5, h6, hend => by
  have hon : L.on () = true := hL.on (r := ()) rfl (.inr (by simp [cat, ocells]))
  rw [R_loop]
  simp only [rI, b64_0]
  rw [Lay.sc_slc hon] at h5
  simp only [List.length_cons, List.length_nil, Nat.zero_add] at h5
  have e1 : decide (((1 : Nat) : Int) > 1) = false := rfl
  simp only [w1, w2, ↓reduceIte, zA, h5, e1]
  rw [R_exit rfl]
  refine hend _ hL ?_ ?_
  ·intro t ht ht5
   simp only [w1]
   rw [if_neg (by omega), if_neg (by omega), if_neg (by omega), if_neg (by omega), if_neg (by omega), if_neg (by omega), if_neg (by omega), if_neg (by omega), if_neg (by omega), if_neg (by omega), if_neg (by omega), if_neg (by omega), if_neg (by omega), if_neg (by omega)]
  ·simp only [w1, w2, ↓reduceIte, zA, h5, popR, Lay.sc_slc hon]
 | x :: y :: r, fr, s, Q, _, h13, hL, h5, h6, hend => by
  have hon : L.on () = true := hL.on (r := ()) rfl (.inr (by simp [cat_append, cat, ocells]))
  have hlen : (cat ocells 0 (x :: y :: r).reverse).length = (x :: y :: r).length * 2 := by rw [cat_length ocells_len]; simp
  have hrd := hL.rd (r := ()) rfl hlen (by omega)
  rw [show (x :: y :: r).length = (x :: y :: r).reverse.length by simp] at hrd
  obtain ⟨bi, bo, e1, e2, e3, e4⟩ := hrd.row ocells_len (by omega) (rev_top (p := x) (r := y :: r))
  rw [List.length_reverse] at e1
  have hup := hL.upto (r := ()) rfl hlen (by omega) (m := (y :: r).length) (by simp) (kd := .i64)
  have hc : IntKind.i64.wrap (((x :: y :: r).length : Int) - 1) = (((y :: r).length : Nat) : Int) := by
   simp only [List.length_cons] at h13 ⊢
   rw [small (by omega)]; omega
  have hld := e4 0 (by omega)
  simp only [ocells, List.getElem?_cons_zero, Option.map_some, Nat.add_zero] at hld
  have hgt : decide (((x :: y :: r).length : Int) > 1) = true := by simp only [List.length_cons]; exact decide_eq_true (by omega)
  rw [R_loop]
  simp only [rI, b64_0]
  rw [Lay.sc_slc hon] at h5 e1 hup
  generalize hn : (x :: y :: r).length = n at *
  simp only [List.length_cons] at hc e1 hup
  simp only [w1, w2, ↓reduceIte, zA, hgt, hc, h5, h6, e1, hld, Nat.add_zero]
  simp only [popR] at hend
  by_cases hx : (i : Int) ≥ x.1
  ·rw [if_pos hx] at hend
   rw [decide_eq_true hx]
   simp only [w1, w2, ↓reduceIte, zA, hc, h5, hup]
   rw [R_lp]
   refine popLoop (L := L) (lo := lo) hi (y :: r) _ s Q (by simp) (by simp only [List.length_cons] at hn ⊢; omega) ?_ ?_ ?_ ?_
   ·have := hL.cut (r := ()) (sz := 2) (cs := cat ocells 0 (y :: r).reverse) (cs' := cat ocells (0 + (y :: r).reverse.length) [x]) (by
     simp only [stcon]
     rw [← cat_append]; simp) (by omega)
    exact this.weaken fun u z hz => by simpa [Con.upd, stcon] using hz
   ·simp only [w1, w2, ↓reduceIte]
   ·simp only [w1, ↓reduceIte, zA, h6]
   ·intro fr' hL' hp h5'
    refine hend fr' hL' (fun t ht ht5 => ?_) h5'
    rw [hp t ht ht5]
    simp only [w1]
    repeat rw [if_neg (by omega)]
  ·rw [if_neg hx] at hend
   rw [decide_eq_false hx]
   simp only [w1]
   rw [R_exit rfl]
   refine hend _ hL ?_ ?_
   ·intro t ht ht5
    simp only [w1]
    repeat rw [if_neg (by omega)]
   ·simp only [w1, ↓reduceIte, zA, h5, Lay.sc_slc hon, hn]

theorem ld_obj {μ μ' : Mem} {i o : Nat} {n : Option Nat} (h : μ'.obj i = μ.obj i) : μ'.ld n i o = μ.ld n i o := by simp only [Mem.ld, h]

theorem stF {μ0 μ : Mem} {a b c a' b' c' : Int} (h : Same (μ0.next + 1) (μ0.new (fltc a' b' c') 0) μ) : ∃ μ2, μ.st μ0.next 0 (fltc a b c) = some μ2 ∧ Same (μ0.next + 1) (μ0.new (fltc a b c) 0) μ2 ∧ μ2.next = μ.next ∧
  (∀ j, j ≠ μ0.next → μ2.obj j = μ.obj j) := h.st (i := μ0.next) (by omega) (by simp only [m1, m2, stl, wr, zJ, w1, w2, ↓reduceIte, zB, fltc])

theorem ldF {μ0 μ : Mem} {a b c : Int} (h : Same (μ0.next + 1) (μ0.new (fltc a b c) 0) μ) : μ.ld (some 3) μ0.next 0 = some (.agg (fltc a b c)) := by
 rw [h.ld (by omega)]
 simp only [m1, m2, rd, w1, w2, ↓reduceIte, zB, fltc]

theorem sameF {μ0 μ : Mem} {l : List Cell} (h : Same (μ0.next + 1) (μ0.new l 0) μ) : Same μ0.next μ0 μ := (Same.tmp (Nat.le_refl _)).trans (h.mono (Nat.le_succ _))

theorem nestLoop {hi : Nat} {l : List PStep} (hsz : ∀ s ∈ l, 0 ≤ s.size) (hl : l.length ≤ 300) {μ0 : Mem} {c : Cell} {b : Int} (hR : Rd hi μ0 5 c l.length (cat scells 0 l)) (hh : hi ≤ μ0.next) :
  ∀ (k i : Nat) (stk : List (Int × Bool)) (L : Lay Unit) (fr : Fr) (μ : Mem) (s : List It) (Q : Fr → Mem → Prop), i + k = l.length → Same (μ0.next + 1) (μ0.new (fltc 0 0 0) 0) μ → Has L (stcon stk) (μ0.next + 1) μ →
  stk ≠ [] → stk.length ≤ 13 → (∀ p ∈ stk, 0 ≤ p.1 ∧ p.1 ≤ 300) →
  fr 1 = .c (.int .i64 b) → fr 4 = .c (.ptr (some (μ0.next, 0))) → fr 5 = .c (L.sc () stk.length) → fr 13 = .c c → fr 14 = .c (.int .i64 l.length) → fr 15 = .c (.int .i64 i) →
  ((nestGo (l.drop i) i stk).1 ≠ 0 → ∀ fr' μ', Same μ0.next μ0 μ' → fr' 4 = .c (.ptr (some (μ0.next, 0))) → μ'.ld (some 3) μ0.next 0 = some (.agg (fltc (nestGo (l.drop i) i stk).1 b (nestGo (l.drop i) i stk).2)) → Q fr' μ') →
  (nestGo (l.drop i) i stk = (0, 0) → ∀ fr' μ', Same (μ0.next + 1) (μ0.new (fltc 0 0 0) 0) μ' → fr' 4 = .c (.ptr (some (μ0.next, 0))) → R s fr' μ' Q) →
  R (.c (.loop b64_1) :: .blk 0 :: s) fr μ Q := by
 intro k
 induction k with
 | zero =>
  intro i stk L fr μ s Q hk hs hL hne h13 hb h1 h4 h5 hc h14 h15 hret hend
  rw [R_loop]
  simp only [rI, b64_1]
  simp only [w1, w2, ↓reduceIte, h14, h15]
  rw [decide_eq_false (by omega)]
  simp only [w1]
  rw [R_exit rfl]
  refine hend ?_ _ _ hs ?_
  ·rw [List.drop_eq_nil_of_le (by omega)]; rfl
  ·simp only [w1, ↓reduceIte, zA, h4]
 | succ k ih =>
  intro i stk L fr μ s Q hk hs hL hne h13 hb h1 h4 h5 hc h14 h15 hret hend
  have hlt : i < l.length := by omega
  have hget : l[i]? = some l[i] := List.getElem?_eq_getElem hlt
  have hz := hsz l[i] (List.getElem_mem hlt)
  have hdrop : l.drop i = l[i] :: l.drop (i + 1) := List.drop_eq_getElem_cons hlt
  have hnx : μ0.next + 1 ≤ μ.next := hs.2
  have hR0 : Rd hi (μ0.new (fltc 0 0 0) 0) 5 c l.length (cat scells 0 l) := hR.same (Same.tmp (Nat.le_refl _)) hh
  have hR1 : Rd hi μ 5 c l.length (cat scells 0 l) := hR0.same hs (by omega)
  obtain ⟨bi, bo, e1, e2, e3, e4⟩ := hR1.row scells_len (by omega) hget
  obtain ⟨top, r, hpop⟩ : ∃ top r, popR (i : Int) stk = top :: r := by
   cases h : popR (i : Int) stk with
   | nil => exact absurd h (popR_ne hne)
   | cons top r => exact ⟨top, r, rfl⟩
  have hr13 : (top :: r).length ≤ 13 := by rw [← hpop]; exact Nat.le_trans popR_length h13
  have htb : ∀ p ∈ top :: r, 0 ≤ p.1 ∧ p.1 ≤ 300 := fun p hp => hb p (popR_mem (by rw [hpop]; exact hp))
  have htop := htb top (List.mem_cons_self ..)
  rw [hdrop] at hret hend
  simp only [nestGo, hpop] at hret hend
  rw [R_loop]
  simp only [rI, b64_1]
  simp only [w1, w2, ↓reduceIte, h14, h15]
  rw [decide_eq_true (by omega)]
  simp only [w1, w2, zH, zI, ↓reduceIte, zA, zB, m1, m2, stl, wr, zJ, hc, h15, e1, e3, scells]
  have hs1 : Same (μ0.next + 1) (μ0.new (fltc 0 0 0) 0) (μ.new (scells 0 l[i]) 0) := hs.new hnx
  simp only [scells] at hs1
  refine popLoop (L := L) (lo := μ0.next + 1) (i := i) (by omega) stk _ _ Q hne h13 hL.tmp ?_ ?_ ?_
  ·simp only [w1, ↓reduceIte, zA, h5]
  ·simp only [w1, ↓reduceIte]
  intro fr1 hL1 hp h5'
  rw [hpop] at hL1 h5'
  have p1 := hp 1 (by omega) (by omega)
  have p4 := hp 4 (by omega) (by omega)
  have p6 := hp 6 (by omega) (by omega)
  have p7 := hp 7 (by omega) (by omega)
  have p13 := hp 13 (by omega) (by omega)
  have p14 := hp 14 (by omega) (by omega)
  have p15 := hp 15 (by omega) (by omega)
  simp only [w1, ↓reduceIte, zA, h1, h4, hc, h14, h15] at p1 p4 p6 p7 p13 p14 p15
  have hon : L.on () = true := hL1.on (r := ()) rfl (.inr (by simp [cat_append, cat, ocells]))
  have hlen : (cat ocells 0 (top :: r).reverse).length = (top :: r).length * 2 := by rw [cat_length ocells_len]; simp
  have hrd := hL1.rd (r := ()) rfl hlen (by omega)
  rw [show (top :: r).length = (top :: r).reverse.length by simp] at hrd
  obtain ⟨ti, to, f1, f2, f3, f4⟩ := hrd.row ocells_len (by omega) (rev_top (p := top) (r := r))
  rw [List.length_reverse] at f1
  simp only [ocells] at f3
  have hcw : IntKind.i64.wrap (((top :: r).length : Int) - 1) = ((r.length : Nat) : Int) := by
   simp only [List.length_cons] at hr13 ⊢
   rw [small (by omega)]; omega
  rw [Lay.sc_slc hon] at h5' f1
  generalize hn : (top :: r).length = n at *
  simp only [w1, w2, zH, zI, ↓reduceIte, zA, zB, h5', hcw, f1, f3, p7]
  simp only [w1, w2, ↓reduceIte, zB, m1, m2, stl, wr, zJ]
  have hne1 : ¬ μ.next = μ.next + 1 := by omega
  refine R_calls rfl (by simp only [w1, w2, ↓reduceIte]; exact head_ok _ _) ?_
  rintro v μ1 ⟨rfl, rfl⟩
  simp only [w1, ↓reduceIte]
  have hs2 : Same (μ0.next + 1) (μ0.new (fltc 0 0 0) 0) ((μ.new (scells 0 l[i]) 0).new (ocells 0 top) 0) := hs1.new (Nat.le_succ_of_le hnx)
  have hL2 : Has L (stcon (top :: r)) (μ0.next + 1) ((μ.new (scells 0 l[i]) 0).new (ocells 0 top) 0) := hL1.tmp
  simp only [scells, ocells] at hs2 hL2
  cases hh' : headP l[i].op with
  | false =>
   rw [hh'] at hret hend
   simp only [Bool.false_eq_true, if_false] at hret hend
   simp only [w1, w2, ↓reduceIte, zA, m1, m2, p7]
   by_cases h10 : l[i].op = 10
   ·have h10' : (l[i].op == 10) = true := by simpa using h10
    simp only [w1, w2, ↓reduceIte, zA, m1, m2, h10']
    cases ht : top.2 with
    | true =>
     simp only [h10, ht, and_self, if_true] at hret
     simp only [ht] at hs2
     simp only [w1, w2, zH, zI, ↓reduceIte, zA, zB, m2, fillc, wr, zJ, zB, p1, p4, p6]
     obtain ⟨μ2, est, hs3, hn3, ho3⟩ := stF (a := 6) (b := b) (c := i) hs2
     simp only [fltc] at est
     simp only [est, w2]
     refine hret (by simp) _ _ (sameF hs3) ?_ (ldF hs3)
     simp only [w1, ↓reduceIte, zA, p4]
    | false =>
     simp only [ht, Bool.false_eq_true, and_false, if_false] at hret hend
     simp only [ht] at hs2 hL2
     simp only [w1, w2, ↓reduceIte, zA, p15]
     rw [small (by omega), R_lp]
     refine ih (i + 1) (top :: r) L _ _ s Q (by omega) hs2 hL2 (by simp) (by omega) htb ?_ ?_ ?_ ?_ ?_ ?_ hret hend
     ·simp only [w1, ↓reduceIte, zA, p1]
     ·simp only [w1, ↓reduceIte, zA, p4]
     ·simp only [w1, ↓reduceIte, zA, h5', hn, Lay.sc_slc hon]
     ·simp only [w1, ↓reduceIte, zA, p13]
     ·simp only [w1, ↓reduceIte, zA, p14]
     ·simp only [w1, ↓reduceIte]; rfl
   ·simp only [h10, false_and, if_false] at hret hend
    simp only [w1, w2, ↓reduceIte, zA, beq_ff h10, p15]
    rw [small (by omega), R_lp]
    refine ih (i + 1) (top :: r) L _ _ s Q (by omega) hs2 hL2 (by simp) (by omega) htb ?_ ?_ ?_ ?_ ?_ ?_ hret hend
    ·simp only [w1, ↓reduceIte, zA, p1]
    ·simp only [w1, ↓reduceIte, zA, p4]
    ·simp only [w1, ↓reduceIte, zA, h5', hn, Lay.sc_slc hon]
    ·simp only [w1, ↓reduceIte, zA, p13]
    ·simp only [w1, ↓reduceIte, zA, p14]
    ·simp only [w1, ↓reduceIte]; rfl
  | true =>
   rw [hh'] at hret hend
   simp only [if_true] at hret hend
   simp only [w1, w2, ↓reduceIte, zA, m1, m2, p6, p7]
   rw [small (n := top.1 - (i : Int)) (by omega), small (n := top.1 - (i : Int) - 1) (by omega)]
   by_cases h6 : l[i].size > top.1 - (i : Int) - 1
   ·rw [if_pos h6] at hret hend
    rw [decide_eq_true h6]
    simp only [w1, w2, zH, zI, ↓reduceIte, zA, zB, m2, fillc, wr, zJ, zB, p1, p4, p6]
    obtain ⟨μ2, est, hs3, hn3, ho3⟩ := stF (a := 4) (b := b) (c := i) hs2
    simp only [fltc] at est
    simp only [est, w2]
    refine hret (by simp) _ _ (sameF hs3) ?_ (ldF hs3)
    simp only [w1, ↓reduceIte, zA, p4]
   ·rw [if_neg h6] at hret hend
    rw [decide_eq_false h6]
    simp only [w1, w2, ↓reduceIte, zA, h5', hcw]
    by_cases h7 : (r.length : Int) ≥ 12
    ·rw [if_pos h7] at hret hend
     rw [decide_eq_true h7]
     simp only [w1, w2, zH, zI, ↓reduceIte, zA, zB, m2, fillc, wr, zJ, zB, p1, p4, p6]
     obtain ⟨μ2, est, hs3, hn3, ho3⟩ := stF (a := 5) (b := b) (c := i) hs2
     simp only [fltc] at est
     simp only [est, w2]
     refine hret (by simp) _ _ (sameF hs3) ?_ (ldF hs3)
     simp only [w1, ↓reduceIte, zA, p4]
    ·rw [if_neg h7] at hret hend
     rw [decide_eq_false h7]
     have hc1 : IntKind.i64.wrap ((i : Int) + 1) = ((i + 1 : Nat) : Int) := by rw [small (by omega)]; rfl
     have hc2 : IntKind.i64.wrap (((i + 1 : Nat) : Int) + l[i].size) = (i : Int) + 1 + l[i].size := by rw [small (by omega)]; omega
     have hne10 : (l[i].op == 10) = false := by
      apply beq_ff
      intro h10
      rw [h10] at hh'
      exact absurd hh' (by decide)
     have hltL := hL.lt () (hL.on (r := ()) rfl (by
      refine .inr ?_
      cases stk with
      | nil => exact absurd rfl hne
      | cons a t => simp [cat_append, cat, ocells]))
     have hltL1 := hL1.lt () hon
     have hidL : L.id () < μ.next := hltL
     obtain ⟨E, hE⟩ : ∃ E : Int, E = (i : Int) + 1 + l[i].size := ⟨_, rfl⟩
     rw [← hE] at hret hend hc2
     have step : ∀ (e2 : Bool), (top.2 || l[i].op == 13) = e2 → ∃ L' μ4, aapp 2 16 (.c (.slc (some (L.id (), 0)) n (L.cap ()))) (.c (.slc (some (μ.next + 2, 0)) 1 1))
       (((μ.new [.int .i64 l[i].op, .int .i64 l[i].a, .int .i64 l[i].b, .int .i64 l[i].n, .int .i64 l[i].size] 0).new [.int .i64 top.1, .bool top.2] 0).new [.int .i64 E, .bool e2] 2) =
       some (.c (L'.sc () (n + 1)), μ4) ∧ Has L' (stcon ((E, e2) :: top :: r)) (μ0.next + 1) μ4 ∧ Same (μ0.next + 1) (μ0.new (fltc 0 0 0) 0) μ4 ∧ μ4.ld none μ.next 0 = some (.c (.int .i64 l[i].op)) := by
      intro e2 he2
      have hn3 : μ0.next + 1 ≤ (((μ.new [.int .i64 l[i].op, .int .i64 l[i].a, .int .i64 l[i].b, .int .i64 l[i].n, .int .i64 l[i].size] 0).new [.int .i64 top.1, .bool top.2] 0)).next := by simp only [Mem.new_next]; omega
      obtain ⟨L', μ4, ea, hL4, hsa, hoth, hob, hon4, _⟩ := (hL2.tmp (cs := [.int .i64 E, .bool e2]) (sz := 2)).app (Nat.le_succ_of_le hn3) (r := ()) (bytes := 16) (n := n) (k := 1) (c := 1)
       (new := [.int .i64 E, .bool e2]) rfl (by omega) hlen (SlcVal.fresh rfl) ⟨by unfold most; omega, by unfold most; omega⟩ (.inl (by omega))
      refine ⟨L', μ4, ?_, ?_, ?_, ?_⟩
      ·rw [Lay.sc_slc hon] at ea
       exact ea
      ·refine hL4.weaken fun u z hz => ?_
       simp only [stcon, Con.upd, if_true, Option.some.injEq, List.reverse_cons, List.append_assoc] at hz ⊢
       rw [← hz, ← List.append_assoc, cat_append (l' := [(E, e2)])]
       rfl
      ·exact (hs2.new hn3).trans hsa
      ·have h9 : μ4.ld none μ.next 0 = _ := ld_obj (hob μ.next (fun _ => by omega) (by simp only [Mem.new_next]; omega))
       rw [h9]
       simp only [m1, m2, w2, ↓reduceIte, zA, zB]
     simp only [w1, w2, ↓reduceIte, zA, m1, m2, p6, p7, hc1, hc2, h5']
     cases ht : top.2
     all_goals
      rw [ht] at hret hend step
      simp only [w1, w2, zH, zI, ↓reduceIte, zA, zB, m1, m2, wr, zJ, zK, m2, fillc, wr, rep, zJ, zB, zK, List.append_nil, p7]
      obtain ⟨L', μ4, ea, hL4, hsa, hld⟩ := step _ rfl
      simp only [Bool.true_or, Bool.false_or] at ea hL4 hret hend
      simp only [w1, w2, ↓reduceIte, zA, ea, hld, hne10, p15]
      rw [hc1, R_lp]
      refine ih (i + 1) ((E, _) :: top :: r) L' _ _ s Q (by omega) hsa hL4 (by simp) (by simp only [List.length_cons] at hn ⊢; omega) ?_ ?_ ?_ ?_ ?_ ?_ ?_ hret hend
      ·intro p hp
       rcases List.mem_cons.1 hp with rfl | hp
       ·constructor <;> (dsimp only; omega)
       ·exact htb p hp
      ·simp only [w1, ↓reduceIte, zA, p1]
      ·simp only [w1, ↓reduceIte, zA, p4]
      ·simp only [w1, w2, ↓reduceIte, zA, ← hn]
      ·simp only [w1, ↓reduceIte, zA, p13]
      ·simp only [w1, ↓reduceIte, zA, p14]
      ·simp only [w1, ↓reduceIte]

theorem nest_ok {hi : Nat} {l : List PStep} (hsz : ∀ s ∈ l, 0 ≤ s.size) (hl : l.length ≤ 300) {μ0 : Mem} {c : Cell} {b : Int} (hR : Rd hi μ0 5 c l.length (cat scells 0 l)) (hh : hi ≤ μ0.next) :
  Ret 64 [.c c, .c (.int .i64 b)] μ0 fun v μ' => v = .agg (if (nestP l).1 = 0 then fltc 0 0 0 else fltc (nestP l).1 b (nestP l).2) ∧ Same μ0.next μ0 μ' := by
 obtain ⟨a, cap, hc, _⟩ := id hR
 subst hc
 refine Ret_of p64 (by simp [r64]) ?_
 simp only [rI, r64, frOf_2]
 simp only [w1, w2, zH, zI, ↓reduceIte, zA, zB, m1, m2, wr, aRet, aRes, aRes1, zJ, zK, m2, fillc, wr, rep, zJ, zB, zK, List.append_nil]
 have L0 : Has (⟨fun _ => 0, fun _ => false, fun _ => 0⟩ : Lay Unit) (fun _ => none) (μ0.next + 1) (μ0.new (fltc 0 0 0) 0) := Has.start fun _ => rfl
 have L1 := L0.new (Nat.le_refl _) (r := ()) (sz := 2) (cs := [.int .i64 l.length, .bool false]) (cap := 1) (by simp)
 refine nestLoop (b := b) hsz hl hR hh l.length 0 [((l.length : Int), false)] _ _ _ _ _ (by omega) (Same.tmp (Nat.le_refl _)) (L1.weaken ?_) (by simp) (by simp) ?_ ?_ ?_ ?_ ?_ ?_ ?_ ?_ ?_
 ·intro u z hz
  simpa [stcon, Con.upd, cat, ocells] using hz
 ·intro p hp
  simp only [List.mem_singleton] at hp
  subst hp
  constructor <;> (dsimp only; omega)
 ·simp only [w1, ↓reduceIte, zA]
 ·simp only [w1, ↓reduceIte, zA]
 ·simp only [w1, w2, ↓reduceIte, zA]
  rw [Lay.sc_slc (by simp [Lay.put])]
  simp [Lay.put, Mem.new_next]
 ·simp only [w1, ↓reduceIte, zA]
 ·simp only [w1, ↓reduceIte, zA]
 ·simp only [w1, ↓reduceIte]; rfl
 ·intro hc fr' μ' hs h4 hld
  rw [List.drop_zero] at hld hc
  simp only [m1, m2, h4, hld]
  rw [if_neg (show ¬ (nestP l).1 = 0 from hc)]
  exact ⟨rfl, hs⟩
 ·intro h0 fr' μ' hs h4
  rw [List.drop_zero] at h0
  simp only [w1, w2, zH, zI, ↓reduceIte, zA, zB, fillc, zB, h4]
  obtain ⟨μ2, est, hs3, hn3, ho3⟩ := stF (a := 0) (b := 0) (c := 0) hs
  simp only [fltc] at est
  simp only [est, w2, ldF hs3, Option.some.injEq, exists_eq_left']
  unfold nestP
  rw [h0]
  exact ⟨rfl, sameF hs3⟩
end Go.Proofs.Ytibmnlijoeppaaa
