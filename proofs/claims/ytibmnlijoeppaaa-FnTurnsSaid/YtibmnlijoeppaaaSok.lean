/-
 The specification's PlanOk answers as the program's.
-/
import Derived.Test.YtibmnlijoeppaaaOk
namespace Go.Proofs.Ytibmnlijoeppaaa
open Nat renaming reduceEqDiff → zA, reduceAdd → zB, reduceLeDiff → zJ, reduceMul → zK
open Int renaming reduceLT → zC, reduceLE → zD, reduceNeg → zE, reduceBEq → zF, reduceBNe → zG
open AV renaming isTup → zH, cells → zI
set_option linter.unusedSimpArgs false
set_option linter.unusedVariables false

/-! 19: spec.PlanOk -/
def b19_0 : RCode := (.seq (.reg [rI 0 (.bin .lss (.t 27) (.t 26)) 28]) (.seq (.ite (.t 28) .skip (.exit 0)) (.seq (.blk 1 (.seq (.reg [rI 0 (.mv (.t 27)) 29, rI 1 (.ias (.t 25) (.t 27) 1) 30, rI 2 (.ld (some 1) (.t 30)) 31, rI 3 (.alc [.slc none 0 0]) 4, rI 4 (.mv (.t 29)) 3, ⟨5, .st (.t 4) (.t 31) 1, none, none, []⟩]) (.seq (.reg [rI 0 (.fa (.t 4) 0) 32, rI 1 (.ld none (.t 32)) 33, rI 2 (.len (.t 33)) 34, rI 3 (.bin .gtr (.t 34) (.k (.int .i64 300))) 35]) (.ite (.t 35) (.seq (.reg [rI 0 (.mv (.t 3)) 36, rI 1 (.bld [.int .i64 0, .int .i64 0, .int .i64 0] [(0, 1, .k (.int .i64 2)), (1, 1, .t 36)]) 37, ⟨2, .st (.t 2) (.t 37) 3, none, none, []⟩]) .ret) .skip)))) (.reg [rI 0 (.bin .add (.t 27) (.k (.int .i64 1))) 38, rI 1 (.mv (.t 38)) 27]))))
def b19_1 : RCode := (.seq (.reg [rI 0 (.bin .lss (.t 50) (.t 49)) 51]) (.seq (.ite (.t 51) .skip (.exit 4)) (.seq (.blk 5 (.seq (.reg [rI 0 (.mv (.t 50)) 52, rI 1 (.ias (.t 48) (.t 50) 5) 53, rI 2 (.ld (some 5) (.t 53)) 54, rI 3 (.alc [.int .i64 0, .int .i64 0, .int .i64 0, .int .i64 0, .int .i64 0]) 8, rI 4 (.mv (.t 52)) 7, ⟨5, .st (.t 8) (.t 54) 5, none, none, []⟩]) (.seq (.reg [rI 0 (.ld (some 1) (.t 1)) 55, rI 1 (.ld (some 5) (.t 8)) 56, rI 2 (.call 59 [.t 55, .t 56]) 57, rI 3 (.nt (.t 57)) 58]) (.ite (.t 58) (.seq (.reg [rI 0 (.mv (.t 5)) 59, rI 1 (.mv (.t 7)) 60, rI 2 (.bld [.int .i64 0, .int .i64 0, .int .i64 0] [(0, 1, .k (.int .i64 3)), (1, 1, .t 59), (2, 1, .t 60)]) 61, ⟨3, .st (.t 2) (.t 61) 3, none, none, []⟩]) .ret) .skip)))) (.reg [rI 0 (.bin .add (.t 50) (.k (.int .i64 1))) 62, rI 1 (.mv (.t 62)) 50]))))
def b19_2 : RCode := (.seq (.reg [rI 0 (.bin .lss (.t 42) (.t 41)) 43]) (.seq (.ite (.t 43) .skip (.exit 2)) (.seq (.blk 3 (.seq (.reg [rI 0 (.mv (.t 42)) 44, rI 1 (.ias (.t 40) (.t 42) 1) 45, rI 2 (.ld (some 1) (.t 45)) 46, rI 3 (.alc [.slc none 0 0]) 6, rI 4 (.mv (.t 44)) 5, ⟨5, .st (.t 6) (.t 46) 1, none, none, []⟩]) (.seq (.reg [rI 0 (.fa (.t 6) 0) 47, rI 1 (.ld none (.t 47)) 48, rI 2 (.len (.t 48)) 49, rI 3 (.mv (.k (.int .i64 0))) 50]) (.blk 4 (.loop b19_1))))) (.reg [rI 0 (.bin .add (.t 42) (.k (.int .i64 1))) 63, rI 1 (.mv (.t 63)) 42]))))
def b19_3 : RCode := (.seq (.reg [rI 0 (.bin .lss (.t 67) (.t 66)) 68]) (.seq (.ite (.t 68) .skip (.exit 6)) (.seq (.blk 7 (.seq (.reg [rI 0 (.mv (.t 67)) 69, rI 1 (.ias (.t 65) (.t 67) 1) 70, rI 2 (.ld (some 1) (.t 70)) 71, rI 3 (.alc [.slc none 0 0]) 10, rI 4 (.mv (.t 69)) 9, ⟨5, .st (.t 10) (.t 71) 1, none, none, []⟩]) (.seq (.reg [rI 0 (.ld (some 1) (.t 10)) 73, rI 1 (.fa (.t 10) 0) 74, rI 2 (.ld none (.t 74)) 75, rI 3 (.len (.t 75)) 76, rI 4 (.call 60 [.t 73, .k (.int .i64 0), .t 76, .k (.int .i64 0), .k (.bool false)]) 77, rI 5 (.mv (.t 77)) 72, rI 6 (.ext (.t 72) 0) 78, rI 7 (.ext (.t 72) 1) 79, rI 8 (.mv (.t 78)) 11, rI 9 (.mv (.t 79)) 12]) (.seq (.reg [rI 0 (.mv (.t 11)) 80, rI 1 (.bin .neq (.t 80) (.k (.int .i64 0))) 81]) (.ite (.t 81) (.seq (.reg [rI 0 (.mv (.t 11)) 82, rI 1 (.mv (.t 9)) 83, rI 2 (.mv (.t 12)) 84, rI 3 (.bld [.int .i64 0, .int .i64 0, .int .i64 0] [(0, 1, .t 82), (1, 1, .t 83), (2, 1, .t 84)]) 85, ⟨4, .st (.t 2) (.t 85) 3, none, none, []⟩]) .ret) .skip))))) (.reg [rI 0 (.bin .add (.t 67) (.k (.int .i64 1))) 86, rI 1 (.mv (.t 86)) 67]))))
def r19 : RFun := ⟨88, [.cell 2 (some 3)], (.seq (.reg [rI 0 (.box (.t 0) 1) 1, rI 1 (.alc [.int .i64 0, .int .i64 0, .int .i64 0]) 2]) (.seq (.seq (.reg [rI 0 (.fa (.t 1) 0) 13, rI 1 (.ld none (.t 13)) 14, rI 2 (.len (.t 14)) 15, rI 3 (.bin .eql (.t 15) (.k (.int .i64 0))) 16, rI 4 (.mv (.t 16)) 17, ⟨5, .fa (.t 1) 0, some 18, some (17, false), []⟩, ⟨6, .ld none (.t 18), some 19, some (17, false), []⟩, ⟨7, .len (.t 19), some 20, some (17, false), []⟩, ⟨8, .bin .gtr (.t 20) (.k (.int .i64 30)), some 21, some (17, false), []⟩, rI 9 (.pick (.t 17) (.k (.bool true)) (.t 21)) 22]) (.ite (.t 22) (.seq (.reg [rI 0 (.bld [.int .i64 0, .int .i64 0, .int .i64 0] [(0, 1, .k (.int .i64 1))]) 23, ⟨1, .st (.t 2) (.t 23) 3, none, none, []⟩]) .ret) .skip)) (.seq (.seq (.reg [rI 0 (.fa (.t 1) 0) 24, rI 1 (.ld none (.t 24)) 25, rI 2 (.len (.t 25)) 26, rI 3 (.mv (.k (.int .i64 0))) 27]) (.blk 0 (.loop b19_0))) (.seq (.seq (.reg [rI 0 (.fa (.t 1) 0) 39, rI 1 (.ld none (.t 39)) 40, rI 2 (.len (.t 40)) 41, rI 3 (.mv (.k (.int .i64 0))) 42]) (.blk 2 (.loop b19_2))) (.seq (.seq (.reg [rI 0 (.fa (.t 1) 0) 64, rI 1 (.ld none (.t 64)) 65, rI 2 (.len (.t 65)) 66, rI 3 (.mv (.k (.int .i64 0))) 67]) (.blk 6 (.loop b19_3))) (.seq (.reg [rI 0 (.bld [.int .i64 0, .int .i64 0, .int .i64 0] []) 87, ⟨1, .st (.t 2) (.t 87) 3, none, none, []⟩]) .ret))))))⟩
theorem p19 : prog 19 = some r19 := by kernel_rfl



/-! ### The specification's -/

section
variable {hi : Nat} {μ0 : Mem} {c : Cell} {p : PPlan}

theorem sok_loop0 (hR : PlanR hi μ0 c p) (hh : hi ≤ μ0.next) (hp : p.length ≤ 30) :
  ∀ (k i : Nat) (fr : Fr) (μ : Mem) (s : List It) (Q : Fr → Mem → Prop), i + k = p.length → Same (μ0.next + 2) (base2 μ0 c 0 0 0) μ →
  fr 1 = .c (.ptr (some (μ0.next, 0))) → fr 2 = .c (.ptr (some (μ0.next + 1, 0))) → fr 25 = .c c → fr 26 = .c (.int .i64 p.length) → fr 27 = .c (.int .i64 i) →
  (∀ b, longP (p.drop i) i = some b → RetF μ0 Q (2, b, 0)) →
  (longP (p.drop i) i = none → ∀ fr' μ', Same (μ0.next + 2) (base2 μ0 c 0 0 0) μ' → fr' 1 = fr 1 → fr' 2 = fr 2 → R s fr' μ' Q) →
  R (.c (.loop b19_0) :: .blk 0 :: s) fr μ Q := by
 intro k
 induction k with
 | zero =>
  intro i fr μ s Q hk hs h1 h2 h25 h26 h27 hret hend
  rw [R_loop]
  simp only [rI, b19_0]
  simp only [w1, w2, ↓reduceIte, h26, h27]
  rw [decide_eq_false (by omega)]
  simp only [w1]
  rw [R_exit rfl]
  rw [List.drop_eq_nil_of_le (by omega)] at hend
  refine hend rfl _ _ hs ?_ ?_ <;> simp only [w1, ↓reduceIte, zA]
 | succ k ih =>
  intro i fr μ s Q hk hs h1 h2 h25 h26 h27 hret hend
  have hlt : i < p.length := by omega
  have hget : p[i]? = some p[i] := List.getElem?_eq_getElem hlt
  have hdrop : p.drop i = p[i] :: p.drop (i + 1) := List.drop_eq_getElem_cons hlt
  have hnx : μ0.next + 2 ≤ μ.next := hs.2
  obtain ⟨bi, bo, x, e1, e2, e3, e4, e5⟩ := ((hR.same same2 hh).same hs (by omega)).at hget
  obtain ⟨a, cap, rfl, _⟩ := e5
  have hs1 : Same (μ0.next + 2) (base2 μ0 c 0 0 0) (μ.new [.slc a p[i].length cap] 0) := hs.new hnx
  rw [hdrop] at hret hend
  simp only [longP] at hret hend
  rw [R_loop]
  simp only [rI, b19_0]
  simp only [w1, w2, ↓reduceIte, h26, h27]
  rw [decide_eq_true (by omega)]
  simp only [w1, w2, zH, zI, ↓reduceIte, zA, h25, h27, e1, e3]
  simp only [w1, w2, ↓reduceIte, m1, m2, stl, wr, zJ]
  by_cases hx : (p[i].length : Int) > 300
  ·rw [if_pos hx] at hret
   rw [decide_eq_true hx]
   simp only [w1, w2, zH, zI, ↓reduceIte, zA, zB, m2, fillc, wr, zJ, zB, h2]
   obtain ⟨μ2, est, hs2, hld⟩ := st2 hs1 2 i 0
   simp only [fltc] at est
   simp only [est, w2]
   refine hret i rfl _ _ hs2 ?_ hld
   simp only [w1, ↓reduceIte, zA, h2]
  ·rw [if_neg hx] at hret hend
   rw [decide_eq_false hx]
   simp only [w1, w2, ↓reduceIte, zA, h27]
   rw [small (by omega), R_lp]
   refine ih (i + 1) _ _ s Q (by omega) hs1 ?_ ?_ ?_ ?_ ?_ hret (fun hn fr' μ' f0 f1 f2 => hend hn fr' μ' f0 ?_ ?_)
   ·simp only [w1, ↓reduceIte, zA, h1]
   ·simp only [w1, ↓reduceIte, zA, h2]
   ·simp only [w1, ↓reduceIte, zA, h25]
   ·simp only [w1, ↓reduceIte, zA, h26]
   ·simp only [w1, ↓reduceIte]; rfl
   ·rw [f1]; simp only [w1, ↓reduceIte, zA]
   ·rw [f2]; simp only [w1, ↓reduceIte, zA]

theorem sok_loop1 (hcs : ∃ a cap, c = .slc a p.length cap) {l : List PStep} {x : Cell} {b : Nat} (hX : ∀ μ, Same (μ0.next + 2) (base2 μ0 c 0 0 0) μ → Rd hi μ 5 x l.length (cat scells 0 l)) (hl : l.length ≤ 300) :
  ∀ (k i : Nat) (fr : Fr) (μ : Mem) (s : List It) (Q : Fr → Mem → Prop), i + k = l.length → Same (μ0.next + 2) (base2 μ0 c 0 0 0) μ →
  fr 1 = .c (.ptr (some (μ0.next, 0))) → fr 2 = .c (.ptr (some (μ0.next + 1, 0))) → fr 5 = .c (.int .i64 b) →
  fr 48 = .c x → fr 49 = .c (.int .i64 l.length) → fr 50 = .c (.int .i64 i) →
  (∀ j, badP p.length (l.drop i) i = some j → RetF μ0 Q (3, b, j)) →
  (badP p.length (l.drop i) i = none → ∀ fr' μ', Same (μ0.next + 2) (base2 μ0 c 0 0 0) μ' → fr' 1 = fr 1 → fr' 2 = fr 2 → fr' 40 = fr 40 → fr' 41 = fr 41 → fr' 42 = fr 42 → R s fr' μ' Q) →
  R (.c (.loop b19_1) :: .blk 4 :: s) fr μ Q := by
 intro k
 induction k with
 | zero =>
  intro i fr μ s Q hk hs h1 h2 h5 h48 h49 h50 hret hend
  rw [R_loop]
  simp only [rI, b19_1]
  simp only [w1, w2, ↓reduceIte, h49, h50]
  rw [decide_eq_false (by omega)]
  simp only [w1]
  rw [R_exit rfl]
  rw [List.drop_eq_nil_of_le (by omega)] at hend
  refine hend rfl _ _ hs ?_ ?_ ?_ ?_ ?_ <;> simp only [w1, ↓reduceIte, zA]
 | succ k ih =>
  intro i fr μ s Q hk hs h1 h2 h5 h48 h49 h50 hret hend
  have hlt : i < l.length := by omega
  have hget : l[i]? = some l[i] := List.getElem?_eq_getElem hlt
  have hdrop : l.drop i = l[i] :: l.drop (i + 1) := List.drop_eq_getElem_cons hlt
  have hnx : μ0.next + 2 ≤ μ.next := hs.2
  have hne : ¬ μ0.next = μ.next := by omega
  have hb1 := (box2 hs).2
  obtain ⟨a, cap, rfl⟩ := hcs
  obtain ⟨bi, bo, e1, e2, e3, e4⟩ := (hX μ hs).row scells_len (by omega) hget
  have hs1 : Same (μ0.next + 2) (base2 μ0 (.slc a p.length cap) 0 0 0) (μ.new (scells 0 l[i]) 0) := hs.new hnx
  simp only [scells] at hs1
  rw [hdrop] at hret hend
  simp only [badP] at hret hend
  rw [R_loop]
  simp only [rI, b19_1]
  simp only [w1, w2, ↓reduceIte, h49, h50]
  rw [decide_eq_true (by omega)]
  simp only [w1, w2, zH, zI, ↓reduceIte, zA, zB, h48, h50, e1, e3, scells]
  simp only [w1, w2, ↓reduceIte, zB, m1, m2, stl, wr, rd, zJ, h1, hne, hb1]
  refine R_calls rfl (by simp only [w1, w2, ↓reduceIte, zA]; exact l1shape_ok _ _ _ _ _) ?_
  rintro v μ1 ⟨rfl, hs2⟩
  have hs3 := hs1.trans (hs2.mono (Nat.le_succ_of_le hnx))
  cases hsh : shapeP p.length l[i] with
  | false =>
   rw [hsh] at hret
   simp only [w1, w2, zH, zI, ↓reduceIte, zA, zB, m2, fillc, wr, zJ, zB, h2, h5]
   obtain ⟨μ2, est, hs4, hld⟩ := st2 hs3 3 b i
   simp only [fltc] at est
   simp only [est, w2]
   refine hret i rfl _ _ hs4 ?_ hld
   simp only [w1, ↓reduceIte, zA, h2]
  | true =>
   rw [hsh] at hret hend
   simp only [w1, w2, ↓reduceIte, zA, h50]
   rw [small (by omega), R_lp]
   refine ih (i + 1) _ _ s Q (by omega) hs3 ?_ ?_ ?_ ?_ ?_ ?_ hret (fun hn fr' μ' g0 g1 g2 g3 g4 g5 => hend hn fr' μ' g0 ?_ ?_ ?_ ?_ ?_)
   ·simp only [w1, ↓reduceIte, zA, h1]
   ·simp only [w1, ↓reduceIte, zA, h2]
   ·simp only [w1, ↓reduceIte, zA, h5]
   ·simp only [w1, ↓reduceIte, zA, h48]
   ·simp only [w1, ↓reduceIte, zA, h49]
   ·simp only [w1, ↓reduceIte]; rfl
   ·rw [g1]; simp only [w1, ↓reduceIte, zA]
   ·rw [g2]; simp only [w1, ↓reduceIte, zA]
   ·rw [g3]; simp only [w1, ↓reduceIte, zA]
   ·rw [g4]; simp only [w1, ↓reduceIte, zA]
   ·rw [g5]; simp only [w1, ↓reduceIte, zA]

theorem sok_loop2 (hR : PlanR hi μ0 c p) (hh : hi ≤ μ0.next) (hp : p.length ≤ 30) (h300 : ∀ b ∈ p, b.length ≤ 300) :
  ∀ (k i : Nat) (fr : Fr) (μ : Mem) (s : List It) (Q : Fr → Mem → Prop), i + k = p.length → Same (μ0.next + 2) (base2 μ0 c 0 0 0) μ →
  fr 1 = .c (.ptr (some (μ0.next, 0))) → fr 2 = .c (.ptr (some (μ0.next + 1, 0))) → fr 40 = .c c → fr 41 = .c (.int .i64 p.length) → fr 42 = .c (.int .i64 i) →
  (∀ b j, badsP p.length (p.drop i) i = some (b, j) → RetF μ0 Q (3, b, j)) →
  (badsP p.length (p.drop i) i = none → ∀ fr' μ', Same (μ0.next + 2) (base2 μ0 c 0 0 0) μ' → fr' 1 = fr 1 → fr' 2 = fr 2 → R s fr' μ' Q) →
  R (.c (.loop b19_2) :: .blk 2 :: s) fr μ Q := by
 intro k
 induction k with
 | zero =>
  intro i fr μ s Q hk hs h1 h2 h3 h44 h45 hret hend
  rw [R_loop]
  simp only [rI, b19_2]
  simp only [w1, w2, ↓reduceIte, h44, h45]
  rw [decide_eq_false (by omega)]
  simp only [w1]
  rw [R_exit rfl]
  rw [List.drop_eq_nil_of_le (by omega)] at hend
  refine hend rfl _ _ hs ?_ ?_ <;> simp only [w1, ↓reduceIte, zA]
 | succ k ih =>
  intro i fr μ s Q hk hs h1 h2 h3 h44 h45 hret hend
  have hlt : i < p.length := by omega
  have hget : p[i]? = some p[i] := List.getElem?_eq_getElem hlt
  have hdrop : p.drop i = p[i] :: p.drop (i + 1) := List.drop_eq_getElem_cons hlt
  have hnx : μ0.next + 2 ≤ μ.next := hs.2
  have hlen := h300 p[i] (List.getElem_mem hlt)
  obtain ⟨bi, bo, x, e1, e2, e3, e4, e5⟩ := (hR.same same2 hh).at hget
  have e5' : ∀ μ, Same (μ0.next + 2) (base2 μ0 c 0 0 0) μ → Rd hi μ 5 x p[i].length (cat scells 0 p[i]) := fun μ h => e5.same h (by omega)
  rw [← hs.ld (by omega)] at e3
  obtain ⟨a, cap, rfl, _⟩ := e5
  have hs1 : Same (μ0.next + 2) (base2 μ0 c 0 0 0) (μ.new [.slc a p[i].length cap] 0) := hs.new hnx
  rw [hdrop] at hret hend
  simp only [badsP] at hret hend
  rw [R_loop]
  simp only [rI, b19_2]
  simp only [w1, w2, ↓reduceIte, h44, h45]
  rw [decide_eq_true (by omega)]
  simp only [w1, w2, zH, zI, ↓reduceIte, zA, h3, h45, e1, e3]
  simp only [w1, w2, ↓reduceIte, m1, m2, stl, wr, zJ]
  refine sok_loop1 (p := p) (b := i) hR.slc e5' hlen p[i].length 0 _ _ _ Q (by omega) hs1 ?_ ?_ ?_ ?_ ?_ ?_ ?_ ?_
  ·simp only [w1, ↓reduceIte, zA, h1]
  ·simp only [w1, ↓reduceIte, zA, h2]
  ·simp only [w1, ↓reduceIte, zA]
  ·simp only [w1, ↓reduceIte, zA]
  ·simp only [w1, ↓reduceIte, zA]
  ·simp only [w1, ↓reduceIte]; rfl
  ·intro j hj
   rw [List.drop_zero] at hj
   rw [hj] at hret
   exact hret i j rfl
  ·intro hn fr' μ' hs' g1 g2 g3 g44 g45
   rw [List.drop_zero] at hn
   rw [hn] at hret hend
   simp only [w1, ↓reduceIte, zA, h1, h2, h3, h44, h45] at g1 g2 g3 g44 g45
   simp only [w1, w2, ↓reduceIte, g45]
   rw [small (by omega), R_lp]
   refine ih (i + 1) _ μ' s Q (by omega) hs' ?_ ?_ ?_ ?_ ?_ hret (fun hn fr' μ' f0 f1 f2 => hend hn fr' μ' f0 ?_ ?_)
   ·simp only [w1, ↓reduceIte, zA, g1]
   ·simp only [w1, ↓reduceIte, zA, g2]
   ·simp only [w1, ↓reduceIte, zA, g3]
   ·simp only [w1, ↓reduceIte, zA, g44]
   ·simp only [w1, ↓reduceIte]; rfl
   ·rw [f1]; simp only [w1, ↓reduceIte, zA, g1, h1]
   ·rw [f2]; simp only [w1, ↓reduceIte, zA, g2, h2]

theorem sok_loop3 (hR : PlanR hi μ0 c p) (hh : hi ≤ μ0.next) (hp : p.length ≤ 30) (h300 : ∀ b ∈ p, b.length ≤ 300) (hsz : ∀ b ∈ p, ∀ s ∈ b, 0 ≤ s.size) :
  ∀ (k i : Nat) (fr : Fr) (μ : Mem) (s : List It) (Q : Fr → Mem → Prop), i + k = p.length → Same (μ0.next + 2) (base2 μ0 c 0 0 0) μ →
  fr 2 = .c (.ptr (some (μ0.next + 1, 0))) → fr 65 = .c c → fr 66 = .c (.int .i64 p.length) → fr 67 = .c (.int .i64 i) →
  (∀ b r, nestsP (p.drop i) i = some (b, r) → RetF μ0 Q (r.1, b, r.2)) →
  (nestsP (p.drop i) i = none → ∀ fr' μ', Same (μ0.next + 2) (base2 μ0 c 0 0 0) μ' → fr' 2 = fr 2 → R s fr' μ' Q) →
  R (.c (.loop b19_3) :: .blk 6 :: s) fr μ Q := by
 intro k
 induction k with
 | zero =>
  intro i fr μ s Q hk hs h2 h3 h44 h45 hret hend
  rw [R_loop]
  simp only [rI, b19_3]
  simp only [w1, w2, ↓reduceIte, h44, h45]
  rw [decide_eq_false (by omega)]
  simp only [w1]
  rw [R_exit rfl]
  rw [List.drop_eq_nil_of_le (by omega)] at hend
  refine hend rfl _ _ hs ?_ <;> simp only [w1, ↓reduceIte, zA]
 | succ k ih =>
  intro i fr μ s Q hk hs h2 h3 h44 h45 hret hend
  have hlt : i < p.length := by omega
  have hget : p[i]? = some p[i] := List.getElem?_eq_getElem hlt
  have hdrop : p.drop i = p[i] :: p.drop (i + 1) := List.drop_eq_getElem_cons hlt
  have hlen := h300 p[i] (List.getElem_mem hlt)
  have hnx : μ0.next + 2 ≤ μ.next := hs.2
  obtain ⟨bi, bo, x, e1, e2, e3, e4, e5⟩ := ((hR.same same2 hh).same hs (by omega)).at hget
  have e5' : Rd hi (μ.new [x] 0) 5 x p[i].length (cat scells 0 p[i]) := e5.same (Same.tmp (Nat.le_refl _)) (by omega)
  have hin := l1inside_ok (hsz p[i] (List.getElem_mem hlt)) hlen p[i].length 0 p[i].length 0 false (μ.new [x] 0) x (by omega) e5' (by simp only [Mem.new_next]; omega) (Nat.le_refl _) (by omega) (by omega)
  rw [Nat.sub_zero, show insideP p[i] p[i].length 0 p[i].length 0 false = insideAll p[i] from rfl, ← nest_eq (hsz p[i] (List.getElem_mem hlt))] at hin
  have hs1 : Same (μ0.next + 2) (base2 μ0 c 0 0 0) (μ.new [x] 0) := hs.new hnx
  obtain ⟨a, cap, rfl, _⟩ := e5
  rw [hdrop] at hret hend
  simp only [nestsP] at hret hend
  rw [R_loop]
  simp only [rI, b19_3]
  simp only [w1, w2, ↓reduceIte, h44, h45]
  rw [decide_eq_true (by omega)]
  simp only [w1, w2, zH, zI, ↓reduceIte, zA, h3, h45, e1, e3]
  simp only [w1, w2, ↓reduceIte, m1, m2, stl, wr, rd, zJ]
  refine R_calls rfl (by simp only [w1, w2, ↓reduceIte, zA]; exact hin) ?_
  rintro v μ1 ⟨rfl, hs2⟩
  have hs3 := hs1.trans (hs2.mono (Nat.le_succ_of_le hnx))
  by_cases hc : (nestP p[i]).1 = 0
  ·rw [if_pos hc] at hret hend
   simp only [w1, w2, ↓reduceIte, zA, hc, h45]
   rw [small (by omega), R_lp]
   refine ih (i + 1) _ _ s Q (by omega) hs3 ?_ ?_ ?_ ?_ hret (fun hn fr' μ' f0 f2 => hend hn fr' μ' f0 ?_)
   ·simp only [w1, ↓reduceIte, zA, h2]
   ·simp only [w1, ↓reduceIte, zA, h3]
   ·simp only [w1, ↓reduceIte, zA, h44]
   ·simp only [w1, ↓reduceIte]; rfl
   ·rw [f2]; simp only [w1, ↓reduceIte, zA, h2]
  ·rw [if_neg hc] at hret hend
   obtain ⟨μ2, est, hs4, hld⟩ := st2 hs3 (nestP p[i]).1 i (nestP p[i]).2
   simp only [fltc] at est
   simp only [w1, w2, zH, zI, ↓reduceIte, zA, zB, m2, fillc, wr, zJ, zB, bne, beq_ff hc, h2]
   simp only [est, w2]
   refine hret i (nestP p[i]) rfl _ _ hs4 ?_ hld
   simp only [w1, ↓reduceIte, zA, h2]

theorem sPlanOk_ok (hR : PlanR hi μ0 c p) (hh : hi ≤ μ0.next) (hl : Lens p) :
  Ret 19 [.agg [c]] μ0 fun v μ' => v = .agg (flt3 (okP p)) ∧ Same μ0.next μ0 μ' := by
 obtain ⟨a, cap, hc⟩ := hR.slc
 subst hc
 have hl1 := hl.1
 have hfin : ∀ (x : Int × Int × Int), okP p = x → RetF μ0 (QF μ0 p) x := by
  intro x hx fr' μ' hs h2 hld
  unfold QF
  simp only [m1, m2, aRet, aRes, aRes1, h2, hld]
  rw [hx]
  exact ⟨rfl, hs⟩
 refine Ret_of p19 (by simp [r19]) (show R [.c r19.body] _ _ (QF μ0 p) from ?_)
 simp only [rI, r19, frOf_1]
 simp only [w1, w2, zH, zI, ↓reduceIte, zA, m1, m2]
 have hs : Same (μ0.next + 2) (base2 μ0 (.slc a p.length cap) 0 0 0) ((μ0.new [.slc a p.length cap] 0).new [.int .i64 0, .int .i64 0, .int .i64 0] 0) := Same.refl
 by_cases h0 : p.length = 0
 ·have hok : okP p = (1, 0, 0) := by unfold okP; rw [if_pos (.inl h0)]
  have e0 : ((p.length : Int) == 0) = true := by rw [h0]; rfl
  simp only [e0, w1, w2, zH, zI, ↓reduceIte, zA, zB, m2, fillc, wr, zJ, zB]
  obtain ⟨μ2, est, hs2, hld⟩ := st2 hs 1 0 0
  simp only [fltc] at est
  simp only [est, w2]
  refine hfin _ hok _ _ hs2 ?_ hld
  simp only [w1, ↓reduceIte, zA]
 ·have e0 : ((p.length : Int) == 0) = false := by apply beq_ff; omega
  simp only [e0, w1, w2, ↓reduceIte, zA, m1, m2]
  by_cases h1 : p.length > 30
  ·have hok : okP p = (1, 0, 0) := by unfold okP; rw [if_pos (.inr h1)]
   have e1 : decide ((p.length : Int) > 30) = true := decide_eq_true (by omega)
   simp only [e1, w1, w2, zH, zI, ↓reduceIte, zA, zB, m2, fillc, wr, zJ, zB]
   obtain ⟨μ2, est, hs2, hld⟩ := st2 hs 1 0 0
   simp only [fltc] at est
   simp only [est, w2]
   refine hfin _ hok _ _ hs2 ?_ hld
   simp only [w1, ↓reduceIte, zA]
  ·have e1 : decide ((p.length : Int) > 30) = false := decide_eq_false (by omega)
   simp only [e1, w1, w2, ↓reduceIte, zA, m1, m2]
   refine sok_loop0 hR hh (by omega) p.length 0 _ _ _ _ (by omega) hs ?_ ?_ ?_ ?_ ?_ ?_ ?_
   ·simp only [w1, ↓reduceIte, zA]
   ·simp only [w1, ↓reduceIte, zA]
   ·simp only [w1, ↓reduceIte, zA]
   ·simp only [w1, ↓reduceIte, zA]
   ·simp only [w1, ↓reduceIte]; rfl
   ·intro b hb
    rw [List.drop_zero] at hb
    refine hfin _ ?_
    unfold okP; rw [if_neg (by omega), hb]
   ·intro hn fr' μ1 hs1 f1 f2
    rw [List.drop_zero] at hn
    have h300 := longP_none hn
    have hb0 := (box2 hs1).1
    simp only [w1, ↓reduceIte, zA] at f1 f2
    simp only [w1, w2, ↓reduceIte, f1, hb0]
    refine sok_loop2 hR hh (by omega) h300 p.length 0 _ _ _ _ (by omega) hs1 ?_ ?_ ?_ ?_ ?_ ?_ ?_
    ·simp only [w1, ↓reduceIte, zA, f1]
    ·simp only [w1, ↓reduceIte, zA, f2]
    ·simp only [w1, ↓reduceIte, zA]
    ·simp only [w1, ↓reduceIte, zA]
    ·simp only [w1, ↓reduceIte]; rfl
    ·intro b j hb
     rw [List.drop_zero] at hb
     refine hfin _ ?_
     unfold okP; rw [if_neg (by omega), hn]; dsimp only; rw [hb]
    ·intro hn2 fr2 μ2 hs2 g1 g2
     rw [List.drop_zero] at hn2
     have hsh := badsP_none hn2
     simp only [w1, ↓reduceIte, zA, f1, f2] at g1 g2
     have hb1 := (box2 hs2).1
     simp only [w1, w2, ↓reduceIte, g1, hb1]
     refine sok_loop3 hR hh (by omega) h300 (fun b hb s hs => shapeP_size (hsh b hb s hs)) p.length 0 _ _ _ _ (by omega) hs2 ?_ ?_ ?_ ?_ ?_ ?_
     ·simp only [w1, ↓reduceIte, zA, g2]
     ·simp only [w1, ↓reduceIte, zA]
     ·simp only [w1, ↓reduceIte, zA]
     ·simp only [w1, ↓reduceIte]; rfl
     ·intro b r hb
      rw [List.drop_zero] at hb
      refine hfin _ ?_
      unfold okP; rw [if_neg (by omega), hn]; dsimp only; rw [hn2]; dsimp only; rw [hb]
     ·intro hn3 fr3 μ3 hs3 k2
      rw [List.drop_zero] at hn3
      simp only [w1, ↓reduceIte, zA, g2] at k2
      simp only [w1, w2, zH, zI, ↓reduceIte, zA, zB, fillc, zB, k2]
      obtain ⟨μ4, est, hs4, hld⟩ := st2 hs3 0 0 0
      simp only [fltc] at est
      simp only [est, w2]
      refine hfin (0, 0, 0) ?_ _ _ hs4 ?_ hld
      ·unfold okP; rw [if_neg (by omega), hn]; dsimp only; rw [hn2]; dsimp only; rw [hn3]
      ·simp only [w1, ↓reduceIte, zA, k2]
end
end Go.Proofs.Ytibmnlijoeppaaa
