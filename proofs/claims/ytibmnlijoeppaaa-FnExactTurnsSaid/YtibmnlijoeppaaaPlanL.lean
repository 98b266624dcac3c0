/-
 Plans: their size, their copies and comparisons.
-/
import Derived.Test.YtibmnlijoeppaaaPlan
namespace Go.Proofs.Ytibmnlijoeppaaa
open Nat renaming reduceEqDiff → zA, reduceAdd → zB, reduceLeDiff → zJ, reduceMul → zK
open Int renaming reduceLT → zC, reduceLE → zD, reduceNeg → zE, reduceBEq → zF, reduceBNe → zG
open AV renaming isTup → zH, cells → zI
set_option linter.unusedSimpArgs false
set_option linter.unusedVariables false

/-! ### Sizes -/

def szRows : PPlan → Int → Int
 | [], left => left
 | b :: p, left => if left - b.length < 0 then -1 else szRows p (left - b.length)

def szP (p : PPlan) (left : Int) : Int := if left - p.length < 0 then -1 else szRows p (left - p.length)

/-! 108: laws.szStepS -/
def r108 : RFun := ⟨12, [.tmp 4], (.seq (.reg [rI 0 (.mv (.k (.int .i64 0))) 4]) (.seq (.reg [rI 0 (.mv (.t 1)) 5, rI 1 (.mv (.t 0)) 6, rI 2 (.len (.t 6)) 7, rI 3 (.bin .sub (.t 5) (.t 7)) 8, rI 4 (.mv (.t 8)) 1]) (.seq (.seq (.reg [rI 0 (.mv (.t 1)) 9, rI 1 (.bin .lss (.t 9) (.k (.int .i64 0))) 10]) (.ite (.t 10) (.seq (.reg [rI 0 (.mv (.k (.int .i64 (-1)))) 4]) .ret) .skip)) (.seq (.reg [rI 0 (.mv (.t 1)) 11, rI 1 (.mv (.t 11)) 4]) .ret))))⟩

theorem p108 : prog 108 = some r108 := by kernel_rfl

/-! 85: laws.szBody -/
def r85 : RFun := ⟨12, [.tmp 4], (.seq (.reg [rI 0 (.box (.t 0) 1) 2, rI 1 (.mv (.k (.int .i64 0))) 4]) (.seq (.reg [rI 0 (.fa (.t 2) 0) 5, rI 1 (.ld none (.t 5)) 6, rI 2 (.mv (.t 1)) 7, rI 3 (.call 108 [.t 6, .t 7]) 8, rI 4 (.mv (.t 8)) 1]) (.seq (.seq (.reg [rI 0 (.mv (.t 1)) 9, rI 1 (.bin .lss (.t 9) (.k (.int .i64 0))) 10]) (.ite (.t 10) (.seq (.reg [rI 0 (.mv (.k (.int .i64 (-1)))) 4]) .ret) .skip)) (.seq (.reg [rI 0 (.mv (.t 1)) 11, rI 1 (.mv (.t 11)) 4]) .ret))))⟩

theorem p85 : prog 85 = some r85 := by kernel_rfl

/-! 58: laws.szBodyS -/
def b58_0 : RCode := (.seq (.seq (.reg [rI 0 (.mv (.t 5)) 12, rI 1 (.mv (.t 0)) 13, rI 2 (.len (.t 13)) 14, rI 3 (.bin .lss (.t 12) (.t 14)) 15]) (.ite (.t 15) .skip (.exit 0))) (.seq (.blk 1 (.seq (.reg [rI 0 (.mv (.t 0)) 18, rI 1 (.mv (.t 5)) 19, rI 2 (.ias (.t 18) (.t 19) 1) 20, rI 3 (.ld (some 1) (.t 20)) 21, rI 4 (.mv (.t 1)) 22, rI 5 (.call 85 [.t 21, .t 22]) 23, rI 6 (.mv (.t 23)) 1]) (.seq (.reg [rI 0 (.mv (.t 1)) 24, rI 1 (.bin .lss (.t 24) (.k (.int .i64 0))) 25]) (.ite (.t 25) (.seq (.reg [rI 0 (.mv (.k (.int .i64 (-1)))) 4]) .ret) .skip)))) (.reg [rI 0 (.mv (.t 5)) 16, rI 1 (.bin .add (.t 16) (.k (.int .i64 1))) 17, rI 2 (.mv (.t 17)) 5])))

def r58 : RFun := ⟨27, [.tmp 4], (.seq (.reg [rI 0 (.mv (.k (.int .i64 0))) 4]) (.seq (.reg [rI 0 (.mv (.t 1)) 6, rI 1 (.mv (.t 0)) 7, rI 2 (.len (.t 7)) 8, rI 3 (.bin .sub (.t 6) (.t 8)) 9, rI 4 (.mv (.t 9)) 1]) (.seq (.seq (.reg [rI 0 (.mv (.t 1)) 10, rI 1 (.bin .lss (.t 10) (.k (.int .i64 0))) 11]) (.ite (.t 11) (.seq (.reg [rI 0 (.mv (.k (.int .i64 (-1)))) 4]) .ret) .skip)) (.seq (.seq (.reg [rI 0 (.mv (.k (.int .i64 0))) 5]) (.blk 0 (.loop b58_0))) (.seq (.reg [rI 0 (.mv (.t 1)) 26, rI 1 (.mv (.t 26)) 4]) .ret)))))⟩

theorem p58 : prog 58 = some r58 := by kernel_rfl

/-! 18: laws.szPlan -/
def r18 : RFun := ⟨12, [.tmp 4], (.seq (.reg [rI 0 (.box (.t 0) 1) 2, rI 1 (.mv (.k (.int .i64 0))) 4]) (.seq (.reg [rI 0 (.fa (.t 2) 0) 5, rI 1 (.ld none (.t 5)) 6, rI 2 (.mv (.t 1)) 7, rI 3 (.call 58 [.t 6, .t 7]) 8, rI 4 (.mv (.t 8)) 1]) (.seq (.seq (.reg [rI 0 (.mv (.t 1)) 9, rI 1 (.bin .lss (.t 9) (.k (.int .i64 0))) 10]) (.ite (.t 10) (.seq (.reg [rI 0 (.mv (.k (.int .i64 (-1)))) 4]) .ret) .skip)) (.seq (.reg [rI 0 (.mv (.t 1)) 11, rI 1 (.mv (.t 11)) 4]) .ret))))⟩

theorem p18 : prog 18 = some r18 := by kernel_rfl

theorem szStepS_ok {hi : Nat} {μ : Mem} {c : Cell} {b : List PStep} {left : Int} (h : Rd hi μ 5 c b.length (cat scells 0 b)) (hb : b.length ≤ 9223372036854775807) (hl : -1 ≤ left ∧ left ≤ 1048576) :
  Ret 108 [.c c, .c (.int .i64 left)] μ fun v μ' => v = .c (.int .i64 (if left - b.length < 0 then -1 else left - b.length)) ∧ Same μ.next μ μ' := by
 obtain ⟨a, cap, rfl, _⟩ := h
 refine Ret_of p108 (by simp [r108]) ?_
 simp only [rI, r108, frOf_2]
 simp only [w1, w2, ↓reduceIte, zA, zE, m1, m2, aRet, aRes, aRes1]
 rw [small (by omega)]
 refine IteK_of (fun ht => ?_) (fun ht => ?_)
 ·simp only [w1, w2, ↓reduceIte, zE]
  have ht := of_decide_eq_true ht
  rw [if_pos ht]
  exact ⟨rfl, Same.refl⟩
 ·simp only [w1, w2, ↓reduceIte, zA, zE]
  have ht := of_decide_eq_false ht
  rw [if_neg ht]
  exact ⟨rfl, Same.refl⟩

theorem szBody_ok {hi : Nat} {μ : Mem} {c : Cell} {b : List PStep} {left : Int} (h : Rd hi μ 5 c b.length (cat scells 0 b)) (hh : hi ≤ μ.next) (hb : b.length ≤ 9223372036854775807) (hl : -1 ≤ left ∧ left ≤ 1048576) :
  Ret 85 [.agg [c], .c (.int .i64 left)] μ fun v μ' => v = .c (.int .i64 (if left - b.length < 0 then -1 else left - b.length)) ∧ Same μ.next μ μ' := by
 refine Ret_of p85 (by simp [r85]) ?_
 simp only [rI, r85, frOf_2]
 simp only [w1, w2, zH, zI, ↓reduceIte, zA, zE, m1, m2, aRet, aRes, aRes1]
 refine R_calls rfl (by simp only [w1, w2, ↓reduceIte, zA]; exact szStepS_ok (h.same (Same.tmp (Nat.le_refl _)) hh) hb hl) ?_
 rintro v μ' ⟨rfl, hs⟩
 have hs' := (Same.tmp (cs := [c]) (sz := 0) (Nat.le_refl _)).trans (hs.mono (Nat.le_succ _))
 simp only [w1, w2, ↓reduceIte, zE]
 by_cases ht : left - b.length < 0
 ·rw [if_pos ht]
  simp only [w1, w2, ↓reduceIte, zC, zE]
  exact hs'
 ·rw [if_neg ht, decide_eq_false ht]
  simp only [w1, w2, ↓reduceIte, zA, zE]
  exact hs'

theorem szLoop {hi : Nat} {μ0 : Mem} {c : Cell} {p : PPlan} (h : PlanR hi μ0 c p) (hl : Lens p) {Q : Fr → Mem → Prop} {s : List It}  :
  ∀ (k i : Nat) (left : Int) (fr : Fr) (μ : Mem), i + k = p.length → Same μ0.next μ0 μ → hi ≤ μ0.next → fr 0 = .c c → fr 1 = .c (.int .i64 left) → fr 5 = .c (.int .i64 i) → 0 ≤ left ∧ left ≤ 1048576 →
  (∀ fr' μ', Same μ0.next μ0 μ' → szRows (p.drop i) left < 0 → fr' 4 = .c (.int .i64 (-1)) → szRows (p.drop i) left = -1 → Q fr' μ') →
  (∀ fr' μ', Same μ0.next μ0 μ' → 0 ≤ szRows (p.drop i) left → fr' 1 = .c (.int .i64 (szRows (p.drop i) left)) → R s fr' μ' Q) →
  R (.c (.loop b58_0) :: .blk 0 :: s) fr μ Q := by
 intro k
 induction k with
 | zero =>
  intro i left fr μ hk hs hh h0 h1 h5 hleft hbad hgood
  obtain ⟨a, cap, rfl⟩ := h.slc
  rw [R_loop]
  simp only [rI, b58_0]
  simp only [w1, w2, ↓reduceIte, zA, zE, h0, h5]
  rw [decide_eq_false (by omega)]
  simp only [w1, zE]
  rw [R_exit rfl]
  have hd : p.drop i = [] := List.drop_eq_nil_of_le (by omega)
  rw [hd] at hgood
  refine hgood _ _ hs hleft.1 ?_
  simp only [w1, ↓reduceIte, zA, h1, szRows]
 | succ k ih =>
  intro i left fr μ hk hs hh h0 h1 h5 hleft hbad hgood
  have hi : i < p.length := by omega
  have hi' : p[i]? = some p[i] := List.getElem?_eq_getElem hi
  obtain ⟨bi, bo, x, e1, e2, e3, e4, e5⟩ := h.at hi'
  obtain ⟨a, cap, rfl⟩ := h.slc
  rw [R_loop]
  simp only [rI, b58_0]
  simp only [w1, w2, ↓reduceIte, zA, zE, h0, h5]
  rw [decide_eq_true (by omega)]
  simp only [w1, w2, ↓reduceIte, zA, zE, h0, h1, h5, e1, hs.ld (Nat.lt_of_lt_of_le e2 hh), e3]
  refine R_calls rfl (by simp only [w1, w2, ↓reduceIte, zA]; exact szBody_ok (e5.same hs hh) (Nat.le_trans hh hs.2) (hl.2 _ (List.getElem_mem hi)) (by omega)) ?_
  rintro v μ' ⟨rfl, hs1⟩
  have hs2 := hs.trans (hs1.mono hs.2)
  have hd : p.drop i = p[i] :: p.drop (i + 1) := List.drop_eq_getElem_cons hi
  rw [hd] at hbad hgood
  simp only [w1, w2, ↓reduceIte, zE]
  simp only [szRows] at hbad hgood
  by_cases ht : left - (p[i].length : Int) < 0
  ·rw [if_pos ht] at hbad ⊢
   simp only [w1, w2, zC, zE]
   refine hbad _ _ hs2 (by omega) ?_ rfl
   simp only [w1, ↓reduceIte, zE]
  ·rw [if_neg ht] at hbad hgood ⊢
   rw [decide_eq_false ht]
   simp only [w1, w2, ↓reduceIte, zA, zE, h5]
   rw [R_lp]
   refine ih (i + 1) (left - p[i].length) _ _ (by omega) hs2 hh ?_ ?_ ?_ (by omega) hbad hgood
   ·simp only [w1, ↓reduceIte, zA, h0]
   ·simp only [w1, ↓reduceIte, zA]
   ·simp only [w1, ↓reduceIte]; rw [small (by have := hl.1; omega)]; rfl

theorem szRows_range : ∀ {p : PPlan} {left : Int}, 0 ≤ left ∧ left ≤ 1048576 → -1 ≤ szRows p left ∧ szRows p left ≤ 1048576
 | [], left, h => by simp only [szRows]; omega
 | b :: p, left, h => by
  simp only [szRows]
  split
  ·omega
  ·exact szRows_range (by omega)

theorem szBodyS_ok {hi : Nat} {μ : Mem} {c : Cell} {p : PPlan} {left : Int} (h : PlanR hi μ c p) (hh : hi ≤ μ.next) (hl : Lens p) (hleft : 0 ≤ left ∧ left ≤ 1048576) :
  Ret 58 [.c c, .c (.int .i64 left)] μ fun v μ' => v = .c (.int .i64 (szP p left)) ∧ Same μ.next μ μ' := by
 obtain ⟨a, cap, rfl⟩ := h.slc
 have hl1 := hl.1
 refine Ret_of p58 (by simp [r58]) ?_
 simp only [rI, r58, frOf_2]
 simp only [w1, w2, ↓reduceIte, zA, zE, m1, m2, aRet, aRes, aRes1]
 rw [small (by omega)]
 unfold szP
 by_cases ht : left - (p.length : Int) < 0
 ·rw [decide_eq_true ht, if_pos ht]
  simp only [w1, w2, ↓reduceIte, zE]
  exact Same.refl
 ·rw [decide_eq_false ht, if_neg ht]
  simp only [w1, w2, zE]
  refine szLoop h hl p.length 0 (left - p.length) _ _ (by omega) Same.refl hh ?_ ?_ ?_ (by omega) ?_ ?_
  ·simp only [w1, ↓reduceIte, zA]
  ·simp only [w1, ↓reduceIte, zA]
  ·simp only [w1, ↓reduceIte]; rfl
  ·intro fr' μ' hs hlt h4 he
   rw [List.drop_zero] at he
   rw [h4, he]
   exact ⟨rfl, hs⟩
  ·intro fr' μ' hs hge h1
   rw [List.drop_zero] at h1
   simp only [w1, w2, ↓reduceIte, h1]
   exact hs

theorem szPlan_ok {hi : Nat} {μ : Mem} {c : Cell} {p : PPlan} {left : Int} (h : PlanR hi μ c p) (hh : hi ≤ μ.next) (hl : Lens p) (hleft : 0 ≤ left ∧ left ≤ 1048576) :
  Ret 18 [.agg [c], .c (.int .i64 left)] μ fun v μ' => v = .c (.int .i64 (szP p left)) ∧ Same μ.next μ μ' := by
 have hr : -1 ≤ szP p left := by
  unfold szP
  split
  ·omega
  ·exact (szRows_range (by omega)).1
 refine Ret_of p18 (by simp [r18]) ?_
 simp only [rI, r18, frOf_2]
 simp only [w1, w2, zH, zI, ↓reduceIte, zA, zE, m1, m2, aRet, aRes, aRes1]
 refine R_calls rfl (by simp only [w1, w2, ↓reduceIte, zA]; exact szBodyS_ok (h.same (Same.tmp (Nat.le_refl _)) hh) (Nat.le_succ_of_le hh) hl hleft) ?_
 rintro v μ' ⟨rfl, hs⟩
 have hs' := (Same.tmp (cs := [c]) (sz := 0) (Nat.le_refl _)).trans (hs.mono (Nat.le_succ _))
 simp only [w1, w2, ↓reduceIte, zE]
 by_cases ht : szP p left < 0
 ·rw [decide_eq_true ht]
  simp only [w1, w2, ↓reduceIte, zE]
  exact ⟨by rw [show szP p left = -1 by omega], hs'⟩
 ·rw [decide_eq_false ht]
  simp only [w1, w2, ↓reduceIte, zA, zE]
  exact hs'

/-! ### Copies -/

/-! 139: laws.toStep -/
def r139 : RFun := ⟨20, [.cell 2 (some 5)], (.seq (.reg [rI 0 (.box (.t 0) 5) 1, rI 1 (.alc [.int .i64 0, .int .i64 0, .int .i64 0, .int .i64 0, .int .i64 0]) 2]) (.seq (.reg [rI 0 (.alc [.int .i64 0, .int .i64 0, .int .i64 0, .int .i64 0, .int .i64 0]) 3]) (.seq (.reg [rI 0 (.fa (.t 1) 0) 4, rI 1 (.ld none (.t 4)) 5, rI 2 (.fa (.t 3) 0) 6, ⟨3, .st (.t 6) (.t 5) 1, none, none, []⟩]) (.seq (.reg [rI 0 (.fa (.t 1) 1) 7, rI 1 (.ld none (.t 7)) 8, rI 2 (.fa (.t 3) 1) 9, ⟨3, .st (.t 9) (.t 8) 1, none, none, []⟩]) (.seq (.reg [rI 0 (.fa (.t 1) 2) 10, rI 1 (.ld none (.t 10)) 11, rI 2 (.fa (.t 3) 2) 12, ⟨3, .st (.t 12) (.t 11) 1, none, none, []⟩]) (.seq (.reg [rI 0 (.fa (.t 1) 3) 13, rI 1 (.ld none (.t 13)) 14, rI 2 (.fa (.t 3) 3) 15, ⟨3, .st (.t 15) (.t 14) 1, none, none, []⟩]) (.seq (.reg [rI 0 (.fa (.t 1) 4) 16, rI 1 (.ld none (.t 16)) 17, rI 2 (.fa (.t 3) 4) 18, ⟨3, .st (.t 18) (.t 17) 1, none, none, []⟩]) (.seq (.reg [rI 0 (.ld (some 5) (.t 3)) 19, ⟨1, .st (.t 2) (.t 19) 5, none, none, []⟩]) .ret))))))))⟩

theorem p139 : prog 139 = some r139 := by kernel_rfl

/-! 109: laws.toStepS -/
def b109_0 : RCode := (.seq (.seq (.reg [rI 0 (.mv (.t 4)) 8, rI 1 (.mv (.t 0)) 9, rI 2 (.len (.t 9)) 10, rI 3 (.bin .lss (.t 8) (.t 10)) 11]) (.ite (.t 11) .skip (.exit 0))) (.seq (.blk 1 (.reg [rI 0 (.mv (.t 3)) 14, rI 1 (.mv (.t 4)) 15, rI 2 (.mv (.t 0)) 16, rI 3 (.mv (.t 4)) 17, rI 4 (.ias (.t 16) (.t 17) 5) 18, rI 5 (.ld (some 5) (.t 18)) 19, rI 6 (.call 139 [.t 19]) 20, rI 7 (.ias (.t 14) (.t 15) 5) 21, ⟨8, .st (.t 21) (.t 20) 5, none, none, []⟩])) (.reg [rI 0 (.mv (.t 4)) 12, rI 1 (.bin .add (.t 12) (.k (.int .i64 1))) 13, rI 2 (.mv (.t 13)) 4])))

def r109 : RFun := ⟨23, [.tmp 2], (.seq (.reg [rI 0 (.mv (.k (.slc none 0 0))) 2]) (.seq (.reg [rI 0 (.mv (.t 0)) 5, rI 1 (.len (.t 5)) 6, rI 2 (.mks [.int .i64 0, .int .i64 0, .int .i64 0, .int .i64 0, .int .i64 0] 40 (.t 6) (.t 6)) 7, rI 3 (.mv (.t 7)) 3]) (.seq (.seq (.reg [rI 0 (.mv (.k (.int .i64 0))) 4]) (.blk 0 (.loop b109_0))) (.seq (.reg [rI 0 (.mv (.t 3)) 22, rI 1 (.mv (.t 22)) 2]) .ret))))⟩

theorem p109 : prog 109 = some r109 := by kernel_rfl

/-! 88: laws.toBody -/
def r88 : RFun := ⟨9, [.cell 2 (some 1)], (.seq (.reg [rI 0 (.box (.t 0) 1) 1, rI 1 (.alc [.slc none 0 0]) 2]) (.seq (.reg [rI 0 (.alc [.slc none 0 0]) 3]) (.seq (.reg [rI 0 (.fa (.t 1) 0) 4, rI 1 (.ld none (.t 4)) 5, rI 2 (.call 109 [.t 5]) 6, rI 3 (.fa (.t 3) 0) 7, ⟨4, .st (.t 7) (.t 6) 1, none, none, []⟩]) (.seq (.reg [rI 0 (.ld (some 1) (.t 3)) 8, ⟨1, .st (.t 2) (.t 8) 1, none, none, []⟩]) .ret))))⟩

theorem p88 : prog 88 = some r88 := by kernel_rfl

/-! 61: laws.toBodyS -/
def b61_0 : RCode := (.seq (.seq (.reg [rI 0 (.mv (.t 4)) 8, rI 1 (.mv (.t 0)) 9, rI 2 (.len (.t 9)) 10, rI 3 (.bin .lss (.t 8) (.t 10)) 11]) (.ite (.t 11) .skip (.exit 0))) (.seq (.blk 1 (.reg [rI 0 (.mv (.t 3)) 14, rI 1 (.mv (.t 4)) 15, rI 2 (.mv (.t 0)) 16, rI 3 (.mv (.t 4)) 17, rI 4 (.ias (.t 16) (.t 17) 1) 18, rI 5 (.ld (some 1) (.t 18)) 19, rI 6 (.call 88 [.t 19]) 20, rI 7 (.ias (.t 14) (.t 15) 1) 21, ⟨8, .st (.t 21) (.t 20) 1, none, none, []⟩])) (.reg [rI 0 (.mv (.t 4)) 12, rI 1 (.bin .add (.t 12) (.k (.int .i64 1))) 13, rI 2 (.mv (.t 13)) 4])))

def r61 : RFun := ⟨23, [.tmp 2], (.seq (.reg [rI 0 (.mv (.k (.slc none 0 0))) 2]) (.seq (.reg [rI 0 (.mv (.t 0)) 5, rI 1 (.len (.t 5)) 6, rI 2 (.mks [.slc none 0 0] 24 (.t 6) (.t 6)) 7, rI 3 (.mv (.t 7)) 3]) (.seq (.seq (.reg [rI 0 (.mv (.k (.int .i64 0))) 4]) (.blk 0 (.loop b61_0))) (.seq (.reg [rI 0 (.mv (.t 3)) 22, rI 1 (.mv (.t 22)) 2]) .ret))))⟩

theorem p61 : prog 61 = some r61 := by kernel_rfl

/-! 20: laws.toPlan -/
def r20 : RFun := ⟨9, [.cell 2 (some 1)], (.seq (.reg [rI 0 (.box (.t 0) 1) 1, rI 1 (.alc [.slc none 0 0]) 2]) (.seq (.reg [rI 0 (.alc [.slc none 0 0]) 3]) (.seq (.reg [rI 0 (.fa (.t 1) 0) 4, rI 1 (.ld none (.t 4)) 5, rI 2 (.call 61 [.t 5]) 6, rI 3 (.fa (.t 3) 0) 7, ⟨4, .st (.t 7) (.t 6) 1, none, none, []⟩]) (.seq (.reg [rI 0 (.ld (some 1) (.t 3)) 8, ⟨1, .st (.t 2) (.t 8) 1, none, none, []⟩]) .ret))))⟩

theorem p20 : prog 20 = some r20 := by kernel_rfl

theorem toStep_ok (μ : Mem) (s : PStep) (j : Nat) : Ret 139 [.agg (scells j s)] μ fun v μ' => v = .agg (scells j s) ∧ Same μ.next μ μ' := by
 refine Ret_of p139 (by simp [r139]) ?_
 simp only [rI, r139, frOf_1, scells]
 simp only [w1, w2, zH, zI, ↓reduceIte, zA, zB, m1, m2, stl, wr, rd, aRet, aRes, aRes1, zJ]
 exact ((Same.tmp (Nat.le_refl _)).new (Nat.le_succ _)).new (Nat.le_trans (Nat.le_succ _) (Nat.le_succ _))

theorem cat_rep {α : Type} {g : Nat → α → List Cell} {z : α} {zc : List Cell} (hz : ∀ i, g i z = zc) : ∀ (n i : Nat), cat g i (List.replicate n z) = rep zc n
 | 0, i => rfl
 | n + 1, i => by simp only [List.replicate_succ, cat, rep, hz, cat_rep hz n]

theorem toLoop {hi : Nat} {μ0 : Mem} {c : Cell} {l : List PStep} (h : Rd hi μ0 5 c l.length (cat scells 0 l)) (hh : hi ≤ μ0.next) {b lo : Nat} (hb : lo ≤ b ∧ hi ≤ lo) (hl : l.length ≤ 9223372036854775807) {Q : Fr → Mem → Prop} {s : List It}  :
  ∀ (k i : Nat) (fr : Fr) (μ : Mem), i + k = l.length → Same lo μ0 μ → b < μ.next → fr 0 = .c c → fr 3 = .c (.slc (some (b, 0)) l.length l.length) → fr 4 = .c (.int .i64 i) →
  μ.obj b = some ⟨cat scells 0 (l.take i ++ List.replicate (l.length - i) PStep.zero), 5, false⟩ →
  (∀ fr' μ', Same lo μ0 μ' → b < μ'.next → fr' 3 = .c (.slc (some (b, 0)) l.length l.length) → μ'.obj b = some ⟨cat scells 0 l, 5, false⟩ → R s fr' μ' Q) →
  R (.c (.loop b109_0) :: .blk 0 :: s) fr μ Q := by
 intro k
 induction k with
 | zero =>
  intro i fr μ hk hs hbn h0 h3 h4 hob hgood
  obtain ⟨a, cap, rfl, _⟩ := h
  rw [R_loop]
  simp only [rI, b109_0]
  simp only [w1, w2, ↓reduceIte, zA, h0, h4]
  rw [decide_eq_false (by omega)]
  simp only [w1]
  rw [R_exit rfl]
  refine hgood _ _ hs hbn ?_ ?_
  ·simp only [w1, ↓reduceIte, zA, h3]
  ·rw [hob, show l.length - i = 0 by omega, List.take_of_length_le (by omega)]
   simp
 | succ k ih =>
  intro i fr μ hk hs hbn h0 h3 h4 hob hgood
  have hi1 : i < l.length := by omega
  have hi' : l[i]? = some l[i] := List.getElem?_eq_getElem hi1
  obtain ⟨bi, bo, e1, e2, e3, e4⟩ := (h.same hs hb.2).row scells_len (by omega) hi'
  obtain ⟨a, cap, rfl, _⟩ := h
  rw [R_loop]
  simp only [rI, b109_0]
  simp only [w1, w2, ↓reduceIte, zA, h0, h4]
  rw [decide_eq_true (by omega)]
  simp only [w1, w2, ↓reduceIte, zA, h0, h3, h4, e1, e3]
  refine R_calls rfl (by simp only [w1, w2, ↓reduceIte]; exact toStep_ok _ _ _) ?_
  rintro v μ' ⟨rfl, hs1⟩
  have hob1 : μ'.obj b = some ⟨cat scells 0 (l.take i ++ List.replicate (l.length - i) PStep.zero), 5, false⟩ := (hs1.1 b hbn).trans hob
  have hlen : (l.take i ++ List.replicate (l.length - i) PStep.zero).length = l.length := by simp; omega
  have hst : μ'.st b (i * 5) (scells i l[i]) = some (μ'.setObj b (some ⟨cat scells 0 (l.take (i + 1) ++ List.replicate (l.length - (i + 1)) PStep.zero), 5, false⟩)) := by
   simp only [Mem.st, hob1]
   rw [if_pos ⟨trivial, by rw [cat_length scells_len, hlen, scells_len]; omega⟩]
   have := cat_wr scells_len (i := 0) (k := 0) (new := scells i l[i]) (a' := l[i]) (fill_get (z := PStep.zero) hi1) (by rw [scells_len]; omega) (by rw [Nat.zero_add]; exact wr_all rfl)
   rw [Nat.add_zero] at this
   rw [this, fill_set hi1]
  simp only [w1, w2, zH, zI, ↓reduceIte, zA]
  rw [aidx_in (by omega)]
  simp only [w1, w2, scells_len, Int.toNat_natCast, hst, h4]
  rw [R_lp]
  refine ih (i + 1) _ _ (by omega) ?_ ?_ ?_ ?_ ?_ ?_ hgood
  ·refine (hs.trans (hs1.mono ?_)).trans ⟨fun x hx => ?_, Nat.le_refl _⟩
   ·omega
   ·simp only [Mem.setObj]; rw [if_neg (by omega)]
  ·exact Nat.lt_of_lt_of_le hbn hs1.2
  ·simp only [w1, ↓reduceIte, zA, h0]
  ·simp only [w1, ↓reduceIte, zA, h3]
  ·simp only [w1, ↓reduceIte]; rw [small (by omega)]; rfl
  ·simp only [Mem.setObj, if_true]

theorem toStepS_ok {hi : Nat} {μ : Mem} {c : Cell} {l : List PStep} (h : Rd hi μ 5 c l.length (cat scells 0 l)) (hh : hi ≤ μ.next) (hl : l.length ≤ 1048576) :
  Ret 109 [.c c] μ fun v μ' => ∃ b, v = .c (.slc (some (b, 0)) l.length l.length) ∧ μ.next ≤ b ∧ b < μ'.next ∧ μ'.obj b = some ⟨cat scells 0 l, 5, false⟩ ∧ Same μ.next μ μ' := by
 obtain ⟨a, cap, hc, _⟩ := id h
 subst hc
 refine Ret_of p109 (by simp [r109]) ?_
 simp only [rI, r109, frOf_1]
 simp only [w1, w2, ↓reduceIte, zA, zB, m1, m2, aRet, aRes, aRes1, amks]
 rw [if_pos (by unfold most; omega)]
 simp only [w2, Int.toNat_natCast]
 refine toLoop (h.same (Same.tmp (Nat.le_refl _)) hh) (Nat.le_succ_of_le hh) (lo := μ.next) (b := μ.next) ⟨Nat.le_refl _, hh⟩ (by omega) l.length 0 _ _ (by omega) Same.refl (Nat.lt_succ_self _) ?_ ?_ ?_ ?_ ?_
 ·simp only [w1, ↓reduceIte, zA]
 ·simp only [w1, ↓reduceIte, zA]
 ·simp only [w1, ↓reduceIte]; rfl
 ·simp only [Mem.new, if_true, List.take_zero, List.nil_append, Nat.sub_zero]
  rw [cat_rep (g := scells) (z := PStep.zero) (zc := [.int .i64 0, .int .i64 0, .int .i64 0, .int .i64 0, .int .i64 0]) (fun i => rfl)]
 ·intro fr' μ' hs hb h3 hob
  simp only [w1, w2, ↓reduceIte, h3]
  exact ⟨μ.next, rfl, Nat.le_refl _, hb, hob, (Same.tmp (Nat.le_refl _)).trans hs⟩

theorem toBody_ok {hi : Nat} {μ : Mem} {c : Cell} {l : List PStep} (h : Rd hi μ 5 c l.length (cat scells 0 l)) (hh : hi ≤ μ.next) (hl : l.length ≤ 1048576) :
  Ret 88 [.agg [c]] μ fun v μ' => ∃ b, v = .agg [.slc (some (b, 0)) l.length l.length] ∧ μ.next ≤ b ∧ b < μ'.next ∧ μ'.obj b = some ⟨cat scells 0 l, 5, false⟩ ∧ Same μ.next μ μ' := by
 refine Ret_of p88 (by simp [r88]) ?_
 simp only [rI, r88, frOf_1]
 simp only [w1, w2, zH, zI, ↓reduceIte, zA, zB, m1, m2, aRet, aRes, aRes1]
 have hs0 : Same μ.next μ (((μ.new [c] 0).new [.slc none 0 0] 0).new [.slc none 0 0] 0) := ((Same.tmp (Nat.le_refl _)).new (Nat.le_succ _)).new (Nat.le_trans (Nat.le_succ _) (Nat.le_succ _))
 refine R_calls rfl (by simp only [w1, w2, ↓reduceIte]; exact toStepS_ok (h.same hs0 hh) (Nat.le_trans hh hs0.2) hl) ?_
 rintro v μ' ⟨b, rfl, hb1, hb2, hob, hs⟩
 simp only [w1, w2, zH, zI, ↓reduceIte, zA, m1]
 obtain ⟨μ2, e2, hs2, hn2, ho2⟩ := hs.st (i := μ.next + 2) (o := 0) (x := [.slc (some (b, 0)) l.length l.length]) (by simp only [Mem.new_next]; omega) (by simp only [m1, m2, stl, wr, zJ, w1, w2, ↓reduceIte, zB]; rfl)
 simp only [m1] at hb1
 rw [e2]
 simp only [w2]
 rw [hs2.ld (by simp only [Mem.new_next]; omega)]
 simp only [w1, w2, ↓reduceIte, zB, m1, m2, rd]
 obtain ⟨μ3, e3, hs3, hn3, ho3⟩ := hs2.st (i := μ.next + 1) (o := 0) (x := [.slc (some (b, 0)) l.length l.length]) (by simp only [Mem.new_next]; omega) (by simp only [m1, m2, stl, wr, zJ, w1, w2, ↓reduceIte, zA, zB]; rfl)
 rw [e3]
 simp only [w2]
 rw [hs3.ld (by simp only [Mem.new_next]; omega)]
 simp only [w2, ↓reduceIte, zA, zB, m1, m2, rd]
 refine ⟨b, rfl, by omega, by omega, ?_, ?_⟩
 ·rw [ho3 _ (by omega), ho2 _ (by omega), hob]
 ·refine Same.trans ?_ (hs3.mono (by simp only [Mem.new_next]; omega))
  exact ((Same.tmp (Nat.le_refl _)).new (Nat.le_succ _)).new (Nat.le_trans (Nat.le_succ _) (Nat.le_succ _))

theorem toBLoop {hi : Nat} {μ0 : Mem} {c : Cell} {p : PPlan} (h : PlanR hi μ0 c p) {lo : Nat} (hlo : hi ≤ lo) (hl : p.length ≤ 1048576 ∧ ∀ b ∈ p, b.length ≤ 1048576) {b : Nat} {Q : Fr → Mem → Prop} {s : List It}  :
  ∀ (k i : Nat) (fr : Fr) (μ : Mem) (L : Lay PR), i + k = p.length → Same lo μ0 μ → lo ≤ μ.next → Has L (pcon L (part p i)) lo μ → (∀ j, i ≤ j → L.on (.steps j) = false) →
  L.on .bodies = true → L.id .bodies = b → L.cap .bodies = p.length → fr 0 = .c c → fr 3 = .c (.slc (some (b, 0)) p.length p.length) → fr 4 = .c (.int .i64 i) →
  (∀ fr' μ' L', Same lo μ0 μ' → lo ≤ μ'.next → Has L' (pcon L' p) lo μ' → fr' 3 = .c (L'.sc .bodies p.length) → R s fr' μ' Q) →
  R (.c (.loop b61_0) :: .blk 0 :: s) fr μ Q := by
 intro k
 induction k with
 | zero =>
  intro i fr μ L hk hs hn hL hoff hon hid hcap h0 h3 h4 hgood
  obtain ⟨a, cap, rfl⟩ := h.slc
  rw [R_loop]
  simp only [rI, b61_0]
  simp only [w1, w2, ↓reduceIte, zA, h0, h4]
  rw [decide_eq_false (by omega)]
  simp only [w1]
  rw [R_exit rfl]
  have hip : i = p.length := by omega
  subst hip
  rw [part_all] at hL
  refine hgood _ _ L hs hn hL ?_
  simp only [w1, ↓reduceIte, zA, h3]
  simp only [Lay.sc, hon, hid, hcap, if_true]
 | succ k ih =>
  intro i fr μ L hk hs hn hL hoff hon hid hcap h0 h3 h4 hgood
  have hi1 : i < p.length := by omega
  have hi' : p[i]? = some p[i] := List.getElem?_eq_getElem hi1
  obtain ⟨bi, bo, x, e1, e2, e3, e4, e5⟩ := h.at hi'
  obtain ⟨a, cap, rfl⟩ := h.slc
  rw [R_loop]
  simp only [rI, b61_0]
  simp only [w1, w2, ↓reduceIte, zA, h0, h4]
  rw [decide_eq_true (by omega)]
  simp only [w1, w2, ↓reduceIte, zA, h0, h3, h4, e1, hs.ld (Nat.lt_of_lt_of_le e2 hlo), e3]
  refine R_calls rfl (by simp only [w1, w2, ↓reduceIte]; exact toBody_ok (e5.same hs hlo) (Nat.le_trans hlo hn) (hl.2 _ (List.getElem_mem hi1))) ?_
  rintro v μ1 ⟨b', rfl, hb1, hb2, hob, hs1⟩
  have hL1 := hL.same hs1 (Nat.le_refl _)
  have eb : pcon L (part p i) .bodies = some (1, cat (prow L) 0 (part p i)) := rfl
  have hlen : (cat (prow L) 0 (part p i)).length = p.length := by rw [cat_length (prow_len L), part_length (by omega), Nat.mul_one]
  obtain ⟨μ2, est, hL2, hs2, hn2, ho2⟩ := hL1.st eb (o := i) (new := [.slc (some (b', 0)) p[i].length p[i].length]) (.inr (by intro hh; rw [hh] at hlen; simp at hlen; omega)) (by rw [hlen]; simp; omega)
  have hbb : b' ≠ L.id .bodies := by have := hL.lt _ hon; omega
  have hL3 := hL2.adopt (r := .steps i) (sz := 5) (cs := cat scells 0 p[i]) (b := b') (cap := p[i].length) (by omega) (by rw [hn2]; exact hb2)
   (fun y hy => by have := hL.lt y hy; omega) (by rw [ho2 _ hbb, hob]) (by rw [if_neg (by omega), cat_length scells_len])
  have hput : ∀ y, y ≠ .steps i → (L.put (.steps i) b' p[i].length).id y = L.id y ∧ (L.put (.steps i) b' p[i].length).on y = L.on y ∧ (L.put (.steps i) b' p[i].length).cap y = L.cap y := by
   intro y hy; simp only [Lay.put, if_neg hy, and_self]
  have hrow : ∀ (m : Nat) (y : List PStep), m ≠ i → prow L m y = prow (L.put (.steps i) b' p[i].length) m y := by
   intro m y hm
   have := hput (.steps m) (by intro hh; exact hm (by injection hh))
   simp only [prow, Lay.sc, this]
  have hcat : wr (cat (prow L) 0 (part p i)) i [.slc (some (b', 0)) p[i].length p[i].length] = cat (prow (L.put (.steps i) b' p[i].length)) 0 (part p (i + 1)) := by
   have := cat_wr' (prow_len L) (g' := prow (L.put (.steps i) b' p[i].length)) (new := [.slc (some (b', 0)) p[i].length p[i].length]) (i := 0) (j := i) (k := 0) (a' := p[i]) (part_get hi1) (by simp)
    (by simp [wr, prow, Lay.sc, Lay.put]) (fun m y hm _ => by rw [Nat.zero_add]; exact hrow m y hm)
   rw [Nat.mul_one, Nat.add_zero, part_set hi1] at this
   exact this
  have hL4 : Has (L.put (.steps i) b' p[i].length) (pcon (L.put (.steps i) b' p[i].length) (part p (i + 1))) lo μ2 := by
   refine hL3.weaken fun y z hz => ?_
   cases y with
   | bodies =>
    simp only [pcon, Con.upd] at hz ⊢
    rw [← hcat] at hz
    simpa using hz
   | steps j =>
    simp only [pcon, Con.upd] at hz ⊢
    by_cases hj : j = i
    ·subst hj
     rw [part_at hi1] at hz
     simpa using hz
    ·rw [part_ne hi1 hj] at hz
     simpa [hj] using hz
  simp only [w1, w2, zH, zI, ↓reduceIte, zA]
  rw [aidx_in (by omega)]
  simp only [w1, w2, Int.toNat_natCast, Nat.mul_one]
  rw [← hid, est]
  simp only [w1, w2, h4]
  rw [R_lp]
  refine ih (i + 1) _ _ _ (by omega) ((hs.trans (hs1.mono hn)).trans hs2) ?_ hL4 ?_ ?_ ?_ ?_ ?_ ?_ ?_ hgood
  ·rw [hn2]; exact Nat.le_trans hn hs1.2
  ·intro j hj
   rw [(hput (.steps j) (by intro hh; injection hh; omega)).2.1]
   exact hoff j (by omega)
  ·rw [(hput .bodies (by intro hh; cases hh)).2.1]; exact hon
  ·rw [(hput .bodies (by intro hh; cases hh)).1]; exact hid
  ·rw [(hput .bodies (by intro hh; cases hh)).2.2]; exact hcap
  ·simp only [w1, ↓reduceIte, zA, h0]
  ·simp only [w1, ↓reduceIte, zA, h3]
  ·simp only [w1, ↓reduceIte]; rw [small (by have := hl.1; omega)]; rfl

theorem toBodyS_ok {hi : Nat} {μ : Mem} {c : Cell} {p : PPlan} (h : PlanR hi μ c p) (hh : hi ≤ μ.next) (hl : p.length ≤ 1048576 ∧ ∀ b ∈ p, b.length ≤ 1048576) :
  Ret 61 [.c c] μ fun v μ' => ∃ L, v = .c (L.sc .bodies p.length) ∧ Has L (pcon L p) μ.next μ' ∧ Same μ.next μ μ' := by
 obtain ⟨a, cap, hc⟩ := h.slc
 subst hc
 refine Ret_of p61 (by simp [r61]) ?_
 simp only [rI, r61, frOf_1]
 have hl1 := hl.1
 simp only [w1, w2, ↓reduceIte, zA, m1, m2, aRet, aRes, aRes1, amks]
 rw [if_pos (by unfold most; omega)]
 simp only [w2, Int.toNat_natCast]
 have L0 : Has (⟨fun _ => 0, fun _ => false, fun _ => 0⟩ : Lay PR) (fun _ => none) μ.next μ := Has.start fun _ => rfl
 have L1 := L0.new (Nat.le_refl _) (r := .bodies) (sz := 1) (cs := rep [.slc none 0 0] p.length) (cap := p.length) (by
  rw [if_neg (by omega), ← cat_rep (g := crow) (z := .slc none 0 0) (zc := [.slc none 0 0]) (fun _ => rfl) p.length 0, cat_length crow_len, List.length_replicate])
 refine toBLoop (h.same (Same.tmp (Nat.le_refl _)) hh) (lo := μ.next) hh hl (b := μ.next) p.length 0 _ _ _ (by omega) Same.refl (Nat.le_succ _) (L1.weaken' ?_) ?_ ?_ ?_ ?_ ?_ ?_ ?_ ?_
 ·intro y sz cs hz
  cases y with
  | bodies =>
   refine .inl ?_
   simp only [pcon, Con.upd, part, List.take_zero, List.nil_append, Nat.sub_zero] at hz ⊢
   rw [cat_rep (zc := [.slc none 0 0])] at hz
   ·simpa using hz
   ·intro i; simp [prow, Lay.sc, Lay.put]
  | steps j =>
   refine .inr ?_
   simp only [pcon, part, List.take_zero, List.nil_append, Nat.sub_zero, List.getElem?_replicate] at hz
   split at hz
   ·simp only [Option.map_some, cat, Option.some.injEq, Prod.mk.injEq] at hz
    exact ⟨by simp [Lay.put], by omega, hz.2.symm⟩
   ·cases hz
 ·intro j _; simp [Lay.put]
 ·simp [Lay.put]
 ·simp [Lay.put]
 ·simp [Lay.put]
 ·simp only [w1, ↓reduceIte, zA]
 ·simp only [w1, ↓reduceIte, zA]
 ·simp only [w1, ↓reduceIte]; rfl
 ·intro fr' μ' L' hs hn hL h3
  simp only [w1, w2, ↓reduceIte, h3]
  exact ⟨L', rfl, hL, (Same.tmp (Nat.le_refl _)).trans hs⟩

theorem toPlan_ok {hi : Nat} {μ : Mem} {c : Cell} {p : PPlan} (h : PlanR hi μ c p) (hh : hi ≤ μ.next) (hl : p.length ≤ 1048576 ∧ ∀ b ∈ p, b.length ≤ 1048576) :
  Ret 20 [.agg [c]] μ fun v μ' => ∃ L, v = .agg [L.sc .bodies p.length] ∧ Has L (pcon L p) μ.next μ' ∧ Same μ.next μ μ' := by
 refine Ret_of p20 (by simp [r20]) ?_
 simp only [rI, r20, frOf_1]
 simp only [w1, w2, zH, zI, ↓reduceIte, zA, zB, m1, m2, aRet, aRes, aRes1]
 have hs0 : Same μ.next μ (((μ.new [c] 0).new [.slc none 0 0] 0).new [.slc none 0 0] 0) := ((Same.tmp (Nat.le_refl _)).new (Nat.le_succ _)).new (Nat.le_trans (Nat.le_succ _) (Nat.le_succ _))
 refine R_calls rfl (by simp only [w1, w2, ↓reduceIte]; exact toBodyS_ok (h.same hs0 hh) (Nat.le_trans hh hs0.2) hl) ?_
 rintro v μ' ⟨L, rfl, hL, hs⟩
 simp only [w1, w2, zH, zI, ↓reduceIte, zA, m1]
 obtain ⟨μ2, e2, hs2, hn2, ho2⟩ := hs.st (i := μ.next + 2) (o := 0) (x := [L.sc .bodies p.length]) (by simp only [Mem.new_next]; omega) (by simp only [m1, m2, stl, wr, zJ, w1, w2, ↓reduceIte, zB]; rfl)
 simp only [m1] at hL
 rw [e2]
 simp only [w2]
 rw [hs2.ld (by simp only [Mem.new_next]; omega)]
 simp only [w1, w2, ↓reduceIte, zB, m1, m2, rd]
 obtain ⟨μ3, e3, hs3, hn3, ho3⟩ := hs2.st (i := μ.next + 1) (o := 0) (x := [L.sc .bodies p.length]) (by simp only [Mem.new_next]; omega) (by simp only [m1, m2, stl, wr, zJ, w1, w2, ↓reduceIte, zA, zB]; rfl)
 rw [e3]
 simp only [w2]
 rw [hs3.ld (by simp only [Mem.new_next]; omega)]
 simp only [w2, ↓reduceIte, zA, zB, m1, m2, rd]
 refine ⟨L, rfl, ?_, ?_⟩
 ·have h2 : Has L (pcon L p) (μ.next + 3) μ3 := hL.frame (by omega) fun r hr => by
   have := hL.ge r hr
   rw [ho3 _ (by omega), ho2 _ (by omega)]
  exact ⟨h2.inj, h2.lt, fun r hr => by have := h2.ge r hr; omega, h2.obj⟩
 ·refine Same.trans ?_ (hs3.mono (by simp only [Mem.new_next]; omega))
  exact ((Same.tmp (Nat.le_refl _)).new (Nat.le_succ _)).new (Nat.le_trans (Nat.le_succ _) (Nat.le_succ _))

/-! ### Comparisons of what is alike -/

/-! 140: laws.eqStep -/
def r140 : RFun := ⟨30, [.tmp 4], (.seq (.reg [rI 0 (.box (.t 0) 5) 2, rI 1 (.box (.t 1) 5) 3, rI 2 (.mv (.k (.bool false))) 4]) (.seq (.seq (.reg [rI 0 (.fa (.t 2) 0) 5, rI 1 (.ld none (.t 5)) 6, rI 2 (.fa (.t 3) 0) 7, rI 3 (.ld none (.t 7)) 8, rI 4 (.bin .neq (.t 6) (.t 8)) 9]) (.ite (.t 9) (.seq (.reg [rI 0 (.mv (.k (.bool false))) 4]) .ret) .skip)) (.seq (.seq (.reg [rI 0 (.fa (.t 2) 1) 10, rI 1 (.ld none (.t 10)) 11, rI 2 (.fa (.t 3) 1) 12, rI 3 (.ld none (.t 12)) 13, rI 4 (.bin .neq (.t 11) (.t 13)) 14]) (.ite (.t 14) (.seq (.reg [rI 0 (.mv (.k (.bool false))) 4]) .ret) .skip)) (.seq (.seq (.reg [rI 0 (.fa (.t 2) 2) 15, rI 1 (.ld none (.t 15)) 16, rI 2 (.fa (.t 3) 2) 17, rI 3 (.ld none (.t 17)) 18, rI 4 (.bin .neq (.t 16) (.t 18)) 19]) (.ite (.t 19) (.seq (.reg [rI 0 (.mv (.k (.bool false))) 4]) .ret) .skip)) (.seq (.seq (.reg [rI 0 (.fa (.t 2) 3) 20, rI 1 (.ld none (.t 20)) 21, rI 2 (.fa (.t 3) 3) 22, rI 3 (.ld none (.t 22)) 23, rI 4 (.bin .neq (.t 21) (.t 23)) 24]) (.ite (.t 24) (.seq (.reg [rI 0 (.mv (.k (.bool false))) 4]) .ret) .skip)) (.seq (.seq (.reg [rI 0 (.fa (.t 2) 4) 25, rI 1 (.ld none (.t 25)) 26, rI 2 (.fa (.t 3) 4) 27, rI 3 (.ld none (.t 27)) 28, rI 4 (.bin .neq (.t 26) (.t 28)) 29]) (.ite (.t 29) (.seq (.reg [rI 0 (.mv (.k (.bool false))) 4]) .ret) .skip)) (.seq (.reg [rI 0 (.mv (.k (.bool true))) 4]) .ret)))))))⟩

theorem p140 : prog 140 = some r140 := by kernel_rfl

/-! 110: laws.eqStepS -/
def b110_0 : RCode := (.seq (.seq (.reg [rI 0 (.mv (.t 5)) 11, rI 1 (.mv (.t 0)) 12, rI 2 (.len (.t 12)) 13, rI 3 (.bin .lss (.t 11) (.t 13)) 14]) (.ite (.t 14) .skip (.exit 0))) (.seq (.blk 1 (.seq (.reg [rI 0 (.mv (.t 0)) 17, rI 1 (.mv (.t 5)) 18, rI 2 (.ias (.t 17) (.t 18) 5) 19, rI 4 (.mv (.t 1)) 21, rI 5 (.mv (.t 5)) 22, rI 6 (.ias (.t 21) (.t 22) 5) 23, rI 3 (.ld (some 5) (.t 19)) 20, rI 7 (.ld (some 5) (.t 23)) 24, rI 8 (.call 140 [.t 20, .t 24]) 25, rI 9 (.nt (.t 25)) 26]) (.ite (.t 26) (.seq (.reg [rI 0 (.mv (.k (.bool false))) 4]) .ret) .skip))) (.reg [rI 0 (.mv (.t 5)) 15, rI 1 (.bin .add (.t 15) (.k (.int .i64 1))) 16, rI 2 (.mv (.t 16)) 5])))

def r110 : RFun := ⟨27, [.tmp 4], (.seq (.reg [rI 0 (.mv (.k (.bool false))) 4]) (.seq (.seq (.reg [rI 0 (.mv (.t 0)) 6, rI 1 (.len (.t 6)) 7, rI 2 (.mv (.t 1)) 8, rI 3 (.len (.t 8)) 9, rI 4 (.bin .neq (.t 7) (.t 9)) 10]) (.ite (.t 10) (.seq (.reg [rI 0 (.mv (.k (.bool false))) 4]) .ret) .skip)) (.seq (.seq (.reg [rI 0 (.mv (.k (.int .i64 0))) 5]) (.blk 0 (.loop b110_0))) (.seq (.reg [rI 0 (.mv (.k (.bool true))) 4]) .ret))))⟩

theorem p110 : prog 110 = some r110 := by kernel_rfl

/-! 90: laws.eqBody -/
def r90 : RFun := ⟨11, [.tmp 4], (.seq (.reg [rI 0 (.box (.t 0) 1) 2, rI 1 (.box (.t 1) 1) 3, rI 2 (.mv (.k (.bool false))) 4]) (.seq (.seq (.reg [rI 0 (.fa (.t 2) 0) 5, rI 1 (.ld none (.t 5)) 6, rI 2 (.fa (.t 3) 0) 7, rI 3 (.ld none (.t 7)) 8, rI 4 (.call 110 [.t 6, .t 8]) 9, rI 5 (.nt (.t 9)) 10]) (.ite (.t 10) (.seq (.reg [rI 0 (.mv (.k (.bool false))) 4]) .ret) .skip)) (.seq (.reg [rI 0 (.mv (.k (.bool true))) 4]) .ret)))⟩

theorem p90 : prog 90 = some r90 := by kernel_rfl

/-! 65: laws.eqBodyS -/
def b65_0 : RCode := (.seq (.seq (.reg [rI 0 (.mv (.t 5)) 11, rI 1 (.mv (.t 0)) 12, rI 2 (.len (.t 12)) 13, rI 3 (.bin .lss (.t 11) (.t 13)) 14]) (.ite (.t 14) .skip (.exit 0))) (.seq (.blk 1 (.seq (.reg [rI 0 (.mv (.t 0)) 17, rI 1 (.mv (.t 5)) 18, rI 2 (.ias (.t 17) (.t 18) 1) 19, rI 4 (.mv (.t 1)) 21, rI 5 (.mv (.t 5)) 22, rI 6 (.ias (.t 21) (.t 22) 1) 23, rI 3 (.ld (some 1) (.t 19)) 20, rI 7 (.ld (some 1) (.t 23)) 24, rI 8 (.call 90 [.t 20, .t 24]) 25, rI 9 (.nt (.t 25)) 26]) (.ite (.t 26) (.seq (.reg [rI 0 (.mv (.k (.bool false))) 4]) .ret) .skip))) (.reg [rI 0 (.mv (.t 5)) 15, rI 1 (.bin .add (.t 15) (.k (.int .i64 1))) 16, rI 2 (.mv (.t 16)) 5])))

def r65 : RFun := ⟨27, [.tmp 4], (.seq (.reg [rI 0 (.mv (.k (.bool false))) 4]) (.seq (.seq (.reg [rI 0 (.mv (.t 0)) 6, rI 1 (.len (.t 6)) 7, rI 2 (.mv (.t 1)) 8, rI 3 (.len (.t 8)) 9, rI 4 (.bin .neq (.t 7) (.t 9)) 10]) (.ite (.t 10) (.seq (.reg [rI 0 (.mv (.k (.bool false))) 4]) .ret) .skip)) (.seq (.seq (.reg [rI 0 (.mv (.k (.int .i64 0))) 5]) (.blk 0 (.loop b65_0))) (.seq (.reg [rI 0 (.mv (.k (.bool true))) 4]) .ret))))⟩

theorem p65 : prog 65 = some r65 := by kernel_rfl

/-! 23: laws.eqPlan -/
def r23 : RFun := ⟨11, [.tmp 4], (.seq (.reg [rI 0 (.box (.t 0) 1) 2, rI 1 (.box (.t 1) 1) 3, rI 2 (.mv (.k (.bool false))) 4]) (.seq (.seq (.reg [rI 0 (.fa (.t 2) 0) 5, rI 1 (.ld none (.t 5)) 6, rI 2 (.fa (.t 3) 0) 7, rI 3 (.ld none (.t 7)) 8, rI 4 (.call 65 [.t 6, .t 8]) 9, rI 5 (.nt (.t 9)) 10]) (.ite (.t 10) (.seq (.reg [rI 0 (.mv (.k (.bool false))) 4]) .ret) .skip)) (.seq (.reg [rI 0 (.mv (.k (.bool true))) 4]) .ret)))⟩

theorem p23 : prog 23 = some r23 := by kernel_rfl

/-! 22: laws.eqFault -/
def r22 : RFun := ⟨20, [.tmp 4], (.seq (.reg [rI 0 (.box (.t 0) 3) 2, rI 1 (.box (.t 1) 3) 3, rI 2 (.mv (.k (.bool false))) 4]) (.seq (.seq (.reg [rI 0 (.fa (.t 2) 0) 5, rI 1 (.ld none (.t 5)) 6, rI 2 (.fa (.t 3) 0) 7, rI 3 (.ld none (.t 7)) 8, rI 4 (.bin .neq (.t 6) (.t 8)) 9]) (.ite (.t 9) (.seq (.reg [rI 0 (.mv (.k (.bool false))) 4]) .ret) .skip)) (.seq (.seq (.reg [rI 0 (.fa (.t 2) 1) 10, rI 1 (.ld none (.t 10)) 11, rI 2 (.fa (.t 3) 1) 12, rI 3 (.ld none (.t 12)) 13, rI 4 (.bin .neq (.t 11) (.t 13)) 14]) (.ite (.t 14) (.seq (.reg [rI 0 (.mv (.k (.bool false))) 4]) .ret) .skip)) (.seq (.seq (.reg [rI 0 (.fa (.t 2) 2) 15, rI 1 (.ld none (.t 15)) 16, rI 2 (.fa (.t 3) 2) 17, rI 3 (.ld none (.t 17)) 18, rI 4 (.bin .neq (.t 16) (.t 18)) 19]) (.ite (.t 19) (.seq (.reg [rI 0 (.mv (.k (.bool false))) 4]) .ret) .skip)) (.seq (.reg [rI 0 (.mv (.k (.bool true))) 4]) .ret)))))⟩

theorem p22 : prog 22 = some r22 := by kernel_rfl

theorem eqStep_ok (μ : Mem) (s : PStep) (j : Nat) : Ret 140 [.agg (scells j s), .agg (scells j s)] μ fun v μ' => v = .c (.bool true) ∧ Same μ.next μ μ' := by
 refine Ret_of p140 (by simp [r140]) ?_
 simp only [rI, r140, frOf_2, scells]
 simp only [w1, w2, zH, zI, ↓reduceIte, zA, zB, m1, m2, aRet, aRes, aRes1]
 exact (Same.tmp (Nat.le_refl _)).new (Nat.le_succ _)

theorem eqLoop {hi : Nat} {μ0 : Mem} {c c' : Cell} {l : List PStep} (h : Rd hi μ0 5 c l.length (cat scells 0 l)) (h' : Rd hi μ0 5 c' l.length (cat scells 0 l)) (hh : hi ≤ μ0.next) (hl : l.length ≤ 9223372036854775807)
  {Q : Fr → Mem → Prop} {s : List It}  :
  ∀ (k i : Nat) (fr : Fr) (μ : Mem), i + k = l.length → Same μ0.next μ0 μ → fr 0 = .c c → fr 1 = .c c' → fr 5 = .c (.int .i64 i) →
  (∀ fr' μ', Same μ0.next μ0 μ' → R s fr' μ' Q) → R (.c (.loop b110_0) :: .blk 0 :: s) fr μ Q := by
 intro k
 induction k with
 | zero =>
  intro i fr μ hk hs h0 h1 h5 hgood
  obtain ⟨a, cap, rfl, _⟩ := h
  rw [R_loop]
  simp only [rI, b110_0]
  simp only [w1, w2, ↓reduceIte, zA, h0, h5]
  rw [decide_eq_false (by omega)]
  simp only [w1]
  rw [R_exit rfl]
  exact hgood _ _ hs
 | succ k ih =>
  intro i fr μ hk hs h0 h1 h5 hgood
  have hi1 : i < l.length := by omega
  have hi' : l[i]? = some l[i] := List.getElem?_eq_getElem hi1
  obtain ⟨bi, bo, e1, e2, e3, e4⟩ := (h.same hs hh).row scells_len (by omega) hi'
  obtain ⟨bi', bo', e1', e2', e3', e4'⟩ := (h'.same hs hh).row scells_len (by omega) hi'
  obtain ⟨a, cap, rfl, _⟩ := h
  obtain ⟨a', cap', rfl, _⟩ := h'
  rw [R_loop]
  simp only [rI, b110_0]
  simp only [w1, w2, ↓reduceIte, zA, h0, h5]
  rw [decide_eq_true (by omega)]
  simp only [w1, w2, ↓reduceIte, zA, h0, h1, h5, e1, e3, e1', e3']
  refine R_calls rfl (by simp only [w1, w2, ↓reduceIte, zA]; exact eqStep_ok _ _ _) ?_
  rintro v μ' ⟨rfl, hs1⟩
  simp only [w1, w2, ↓reduceIte, zA, h5]
  rw [R_lp]
  refine ih (i + 1) _ _ (by omega) (hs.trans (hs1.mono hs.2)) ?_ ?_ ?_ hgood
  ·simp only [w1, ↓reduceIte, zA, h0]
  ·simp only [w1, ↓reduceIte, zA, h1]
  ·simp only [w1, ↓reduceIte]; rw [small (by omega)]; rfl

theorem eqStepS_ok {hi : Nat} {μ : Mem} {c c' : Cell} {l : List PStep} (h : Rd hi μ 5 c l.length (cat scells 0 l)) (h' : Rd hi μ 5 c' l.length (cat scells 0 l)) (hh : hi ≤ μ.next) (hl : l.length ≤ 9223372036854775807) :
  Ret 110 [.c c, .c c'] μ fun v μ' => v = .c (.bool true) ∧ Same μ.next μ μ' := by
 obtain ⟨a, cap, hc, _⟩ := id h
 obtain ⟨a', cap', hc', _⟩ := id h'
 subst hc hc'
 refine Ret_of p110 (by simp [r110]) ?_
 simp only [rI, r110, frOf_2]
 simp only [w1, w2, ↓reduceIte, zA, m1, m2, aRet, aRes, aRes1]
 refine eqLoop h h' hh hl l.length 0 _ _ (by omega) Same.refl ?_ ?_ ?_ ?_
 ·simp only [w1, ↓reduceIte, zA]
 ·simp only [w1, ↓reduceIte, zA]
 ·simp only [w1, ↓reduceIte]; rfl
 ·intro fr' μ' hs
  simp only [w1, w2, ↓reduceIte]
  exact hs

theorem eqBody_ok {hi : Nat} {μ : Mem} {c c' : Cell} {l : List PStep} (h : Rd hi μ 5 c l.length (cat scells 0 l)) (h' : Rd hi μ 5 c' l.length (cat scells 0 l)) (hh : hi ≤ μ.next) (hl : l.length ≤ 9223372036854775807) :
  Ret 90 [.agg [c], .agg [c']] μ fun v μ' => v = .c (.bool true) ∧ Same μ.next μ μ' := by
 refine Ret_of p90 (by simp [r90]) ?_
 simp only [rI, r90, frOf_2]
 simp only [w1, w2, zH, zI, ↓reduceIte, zA, m1, m2, aRet, aRes, aRes1]
 have hs0 : Same μ.next μ ((μ.new [c] 0).new [c'] 0) := (Same.tmp (Nat.le_refl _)).new (Nat.le_succ _)
 refine R_calls rfl (by simp only [w1, w2, ↓reduceIte, zA]; exact eqStepS_ok (h.same hs0 hh) (h'.same hs0 hh) (Nat.le_trans hh hs0.2) hl) ?_
 rintro v μ' ⟨rfl, hs1⟩
 simp only [w1, w2, ↓reduceIte]
 exact hs0.trans (hs1.mono hs0.2)

theorem eqBLoop {hi : Nat} {μ0 : Mem} {c c' : Cell} {p : PPlan} (h : PlanR hi μ0 c p) (h' : PlanR hi μ0 c' p) (hh : hi ≤ μ0.next) (hl : Lens p)
  {Q : Fr → Mem → Prop} {s : List It}  :
  ∀ (k i : Nat) (fr : Fr) (μ : Mem), i + k = p.length → Same μ0.next μ0 μ → fr 0 = .c c → fr 1 = .c c' → fr 5 = .c (.int .i64 i) →
  (∀ fr' μ', Same μ0.next μ0 μ' → R s fr' μ' Q) → R (.c (.loop b65_0) :: .blk 0 :: s) fr μ Q := by
 intro k
 induction k with
 | zero =>
  intro i fr μ hk hs h0 h1 h5 hgood
  obtain ⟨a, cap, rfl⟩ := h.slc
  rw [R_loop]
  simp only [rI, b65_0]
  simp only [w1, w2, ↓reduceIte, zA, h0, h5]
  rw [decide_eq_false (by omega)]
  simp only [w1]
  rw [R_exit rfl]
  exact hgood _ _ hs
 | succ k ih =>
  intro i fr μ hk hs h0 h1 h5 hgood
  have hi1 : i < p.length := by omega
  have hi' : p[i]? = some p[i] := List.getElem?_eq_getElem hi1
  obtain ⟨bi, bo, x, e1, e2, e3, e4, e5⟩ := (h.same hs hh).at hi'
  obtain ⟨bi', bo', x', e1', e2', e3', e4', e5'⟩ := (h'.same hs hh).at hi'
  obtain ⟨a, cap, rfl⟩ := h.slc
  obtain ⟨a', cap', rfl⟩ := h'.slc
  rw [R_loop]
  simp only [rI, b65_0]
  simp only [w1, w2, ↓reduceIte, zA, h0, h5]
  rw [decide_eq_true (by omega)]
  simp only [w1, w2, ↓reduceIte, zA, h0, h1, h5, e1, e3, e1', e3']
  refine R_calls rfl (by simp only [w1, w2, ↓reduceIte, zA]; exact eqBody_ok e5 e5' (Nat.le_trans hh hs.2) (hl.2 _ (List.getElem_mem hi1))) ?_
  rintro v μ' ⟨rfl, hs1⟩
  simp only [w1, w2, ↓reduceIte, zA, h5]
  rw [R_lp]
  refine ih (i + 1) _ _ (by omega) (hs.trans (hs1.mono hs.2)) ?_ ?_ ?_ hgood
  ·simp only [w1, ↓reduceIte, zA, h0]
  ·simp only [w1, ↓reduceIte, zA, h1]
  ·simp only [w1, ↓reduceIte]; rw [small (by have := hl.1; omega)]; rfl

theorem eqBodyS_ok {hi : Nat} {μ : Mem} {c c' : Cell} {p : PPlan} (h : PlanR hi μ c p) (h' : PlanR hi μ c' p) (hh : hi ≤ μ.next) (hl : Lens p) :
  Ret 65 [.c c, .c c'] μ fun v μ' => v = .c (.bool true) ∧ Same μ.next μ μ' := by
 obtain ⟨a, cap, hc⟩ := h.slc
 obtain ⟨a', cap', hc'⟩ := h'.slc
 subst hc hc'
 refine Ret_of p65 (by simp [r65]) ?_
 simp only [rI, r65, frOf_2]
 simp only [w1, w2, ↓reduceIte, zA, m1, m2, aRet, aRes, aRes1]
 refine eqBLoop h h' hh hl p.length 0 _ _ (by omega) Same.refl ?_ ?_ ?_ ?_
 ·simp only [w1, ↓reduceIte, zA]
 ·simp only [w1, ↓reduceIte, zA]
 ·simp only [w1, ↓reduceIte]; rfl
 ·intro fr' μ' hs
  simp only [w1, w2, ↓reduceIte]
  exact hs

theorem eqPlan_ok {hi : Nat} {μ : Mem} {c c' : Cell} {p : PPlan} (h : PlanR hi μ c p) (h' : PlanR hi μ c' p) (hh : hi ≤ μ.next) (hl : Lens p) :
  Ret 23 [.agg [c], .agg [c']] μ fun v μ' => v = .c (.bool true) ∧ Same μ.next μ μ' := by
 refine Ret_of p23 (by simp [r23]) ?_
 simp only [rI, r23, frOf_2]
 simp only [w1, w2, zH, zI, ↓reduceIte, zA, m1, m2, aRet, aRes, aRes1]
 have hs0 : Same μ.next μ ((μ.new [c] 0).new [c'] 0) := (Same.tmp (Nat.le_refl _)).new (Nat.le_succ _)
 refine R_calls rfl (by simp only [w1, w2, ↓reduceIte, zA]; exact eqBodyS_ok (h.same hs0 hh) (h'.same hs0 hh) (Nat.le_trans hh hs0.2) hl) ?_
 rintro v μ' ⟨rfl, hs1⟩
 simp only [w1, w2, ↓reduceIte]
 exact hs0.trans (hs1.mono hs0.2)

theorem eqFault_ok (μ : Mem) (a b c : Int) : Ret 22 [.agg (fltc a b c), .agg (fltc a b c)] μ fun v μ' => v = .c (.bool true) ∧ Same μ.next μ μ' := by
 refine Ret_of p22 (by simp [r22]) ?_
 simp only [rI, r22, frOf_2, fltc]
 simp only [w1, w2, zH, zI, ↓reduceIte, zA, zB, m1, m2, aRet, aRes, aRes1]
 exact (Same.tmp (Nat.le_refl _)).new (Nat.le_succ _)
end Go.Proofs.Ytibmnlijoeppaaa
