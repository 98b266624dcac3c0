/-
 Both packages' PlanOk: what they answer, and that it is the same.
-/
import Derived.Test.YtibmnlijoeppaaaNestW
namespace Go.Proofs.Ytibmnlijoeppaaa
open Nat renaming reduceEqDiff → zA, reduceAdd → zB, reduceLeDiff → zJ, reduceMul → zK
open Int renaming reduceLT → zC, reduceLE → zD, reduceNeg → zE, reduceBEq → zF, reduceBNe → zG
open AV renaming isTup → zH, cells → zI
set_option linter.unusedSimpArgs false
set_option linter.unusedVariables false

def longP : PPlan → Nat → Option Nat
 | [], _ => none
 | b :: p, i => if (b.length : Int) > 300 then some i else longP p (i + 1)

def badP (n : Int) : List PStep → Nat → Option Nat
 | [], _ => none
 | s :: l, k => if shapeP n s = true then badP n l (k + 1) else some k

def badsP (n : Int) : PPlan → Nat → Option (Nat × Nat)
 | [], _ => none
 | b :: p, i => match badP n b 0 with | some k => some (i, k) | none => badsP n p (i + 1)

def nestsP : PPlan → Nat → Option (Nat × Int × Int)
 | [], _ => none
 | b :: p, i => if (nestP b).1 = 0 then nestsP p (i + 1) else some (i, nestP b)

def okP (p : PPlan) : Int × Int × Int :=
 if p.length = 0 ∨ p.length > 30 then (1, 0, 0) else
 match longP p 0 with
 | some b => (2, b, 0)
 | none => match badsP p.length p 0 with
  | some (b, s) => (3, b, s)
  | none => match nestsP p 0 with
   | some (b, c, a) => (c, b, a)
   | none => (0, 0, 0)

def flt3 (x : Int × Int × Int) : List Cell := fltc x.1 x.2.1 x.2.2

theorem longP_none : ∀ {p : PPlan} {i : Nat}, longP p i = none → ∀ b ∈ p, b.length ≤ 300
 | [], i, h, b, hb => by cases hb
 | a :: p, i, h, b, hb => by
  simp only [longP] at h
  split at h
  ·cases h
  ·rcases List.mem_cons.1 hb with rfl | hb
   ·omega
   ·exact longP_none h b hb

theorem badP_none {n : Int} : ∀ {l : List PStep} {k : Nat}, badP n l k = none → ∀ s ∈ l, shapeP n s = true
 | [], k, h, s, hs => by cases hs
 | a :: l, k, h, s, hs => by
  simp only [badP] at h
  split at h
  ·rename_i ha
   rcases List.mem_cons.1 hs with rfl | hs
   ·exact ha
   ·exact badP_none h s hs
  ·cases h

theorem badsP_none {n : Int} : ∀ {p : PPlan} {i : Nat}, badsP n p i = none → ∀ b ∈ p, ∀ s ∈ b, shapeP n s = true
 | [], i, h, b, hb, s, hs => by cases hb
 | a :: p, i, h, b, hb, s, hs => by
  simp only [badsP] at h
  cases ha : badP n a 0 with
  | some k => rw [ha] at h; cases h
  | none =>
   rw [ha] at h
   rcases List.mem_cons.1 hb with rfl | hb
   ·exact badP_none ha s hs
   ·exact badsP_none h b hb s hs

theorem shapeP_size {n : Int} {s : PStep} (h : shapeP n s = true) : 0 ≤ s.size := by
 simp only [shapeP, Bool.and_eq_true] at h
 exact of_decide_eq_true h.2

/-! ### Two variables below -/

def base2 (μ0 : Mem) (c : Cell) (a b d : Int) : Mem := (μ0.new [c] 0).new (fltc a b d) 0

theorem base2_next {μ0 : Mem} {c : Cell} {a b d : Int} : (base2 μ0 c a b d).next = μ0.next + 2 := rfl

theorem box2 {μ0 μ : Mem} {c : Cell} {a b d : Int} (h : Same (μ0.next + 2) (base2 μ0 c a b d) μ) : μ.ld none μ0.next 0 = some (.c c) ∧ μ.ld (some 1) μ0.next 0 = some (.agg [c]) := by
 rw [h.ld (by omega), h.ld (by omega), base2]
 simp only [m1, m2, rd, w1, w2, ↓reduceIte]

theorem st2 {μ0 μ : Mem} {c : Cell} {a b d : Int} (h : Same (μ0.next + 2) (base2 μ0 c a b d) μ) (a' b' d' : Int) :
  ∃ μ2, μ.st (μ0.next + 1) 0 (fltc a' b' d') = some μ2 ∧ Same μ0.next μ0 μ2 ∧ μ2.ld (some 3) (μ0.next + 1) 0 = some (.agg (fltc a' b' d')) := by
 obtain ⟨μ2, e, hs, _, _⟩ := h.st (i := μ0.next + 1) (o := 0) (x := fltc a' b' d') (μ1 := base2 μ0 c a' b' d') (by omega) (by simp only [base2, m1, m2, stl, wr, zJ, w1, w2, ↓reduceIte, zB, fltc])
 refine ⟨μ2, e, ?_, ?_⟩
 ·exact ((Same.tmp (Nat.le_refl _)).new (Nat.le_succ _)).trans (hs.mono (by omega))
 ·rw [hs.ld (by omega), base2]
  simp only [m1, m2, rd, w1, w2, ↓reduceIte, zB, fltc]

theorem same2 {μ0 : Mem} {c : Cell} {a b d : Int} : Same μ0.next μ0 (base2 μ0 c a b d) := (Same.tmp (Nat.le_refl _)).new (Nat.le_succ _)

/-! 21: impl.PlanOk -/
def b21_0 : RCode := (.seq (.reg [rI 0 (.bin .lss (.t 28) (.t 27)) 29]) (.seq (.ite (.t 29) .skip (.exit 0)) (.seq (.blk 1 (.seq (.reg [rI 0 (.mv (.t 28)) 30, rI 1 (.mv (.t 30)) 4]) (.seq (.reg [rI 0 (.fa (.t 1) 0) 31, rI 1 (.ld none (.t 31)) 32, rI 2 (.mv (.t 4)) 33, rI 3 (.ias (.t 32) (.t 33) 1) 34, rI 4 (.fa (.t 34) 0) 35, rI 5 (.ld none (.t 35)) 36, rI 6 (.len (.t 36)) 37, rI 7 (.bin .gtr (.t 37) (.k (.int .i64 300))) 38]) (.ite (.t 38) (.seq (.reg [rI 0 (.mv (.t 4)) 39, rI 1 (.bld [.int .i64 0, .int .i64 0, .int .i64 0] [(0, 1, .k (.int .i64 2)), (1, 1, .t 39), (2, 1, .k (.int .i64 0))]) 40, ⟨2, .st (.t 2) (.t 40) 3, none, none, []⟩]) .ret) .skip)))) (.reg [rI 0 (.bin .add (.t 28) (.k (.int .i64 1))) 41, rI 1 (.mv (.t 41)) 28]))))
def b21_1 : RCode := (.seq (.reg [rI 0 (.bin .lss (.t 55) (.t 54)) 56]) (.seq (.ite (.t 56) .skip (.exit 4)) (.seq (.blk 5 (.seq (.reg [rI 0 (.mv (.t 55)) 57, rI 1 (.ias (.t 53) (.t 55) 5) 58, rI 2 (.ld (some 5) (.t 58)) 59, rI 3 (.alc [.int .i64 0, .int .i64 0, .int .i64 0, .int .i64 0, .int .i64 0]) 7, rI 4 (.mv (.t 57)) 6, ⟨5, .st (.t 7) (.t 59) 5, none, none, []⟩]) (.seq (.reg [rI 0 (.fa (.t 7) 0) 61, rI 1 (.ld none (.t 61)) 62, rI 2 (.call 62 [.t 62]) 63, rI 3 (.mv (.t 63)) 60, rI 4 (.ext (.t 60) 0) 64, rI 5 (.ext (.t 60) 1) 65, rI 6 (.ext (.t 60) 2) 66, rI 7 (.ext (.t 60) 3) 67, rI 8 (.ext (.t 60) 4) 68, rI 9 (.mv (.t 64)) 8, rI 10 (.mv (.t 65)) 9, rI 11 (.mv (.t 66)) 10, rI 12 (.mv (.t 67)) 11, rI 13 (.mv (.t 68)) 12]) (.seq (.reg [rI 0 (.mv (.t 12)) 69, rI 1 (.nt (.t 69)) 70, rI 2 (.mv (.t 70)) 71, ⟨3, .mv (.t 8), some 72, some (71, false), []⟩, ⟨4, .fa (.t 7) 1, some 73, some (71, false), []⟩, ⟨5, .ld none (.t 73), some 74, some (71, false), []⟩, ⟨6, .mv (.t 3), some 75, some (71, false), []⟩, ⟨7, .call 63 [.t 72, .t 74, .t 75], some 76, some (71, false), []⟩, ⟨8, .nt (.t 76), some 77, some (71, false), []⟩, rI 9 (.pick (.t 71) (.k (.bool true)) (.t 77)) 78, rI 10 (.mv (.t 78)) 79, ⟨11, .mv (.t 9), some 80, some (79, false), []⟩, ⟨12, .fa (.t 7) 2, some 81, some (79, false), []⟩, ⟨13, .ld none (.t 81), some 82, some (79, false), []⟩, ⟨14, .mv (.t 3), some 83, some (79, false), []⟩, ⟨15, .call 63 [.t 80, .t 82, .t 83], some 84, some (79, false), []⟩, ⟨16, .nt (.t 84), some 85, some (79, false), []⟩, rI 17 (.pick (.t 79) (.k (.bool true)) (.t 85)) 86, rI 18 (.mv (.t 86)) 87, ⟨19, .mv (.t 10), some 88, some (87, false), []⟩, ⟨20, .nt (.t 88), some 89, some (87, false), []⟩, ⟨21, .mv (.t 89), some 90, some (87, false), []⟩, ⟨22, .fa (.t 7) 3, some 91, some (90, true), []⟩, ⟨23, .ld none (.t 91), some 92, some (90, true), []⟩, ⟨24, .bin .neq (.t 92) (.k (.int .i64 0)), some 93, some (90, true), []⟩, ⟨25, .pick (.t 90) (.t 93) (.k (.bool false)), some 94, some (87, false), []⟩, rI 26 (.pick (.t 87) (.k (.bool true)) (.t 94)) 95, rI 27 (.mv (.t 95)) 96, ⟨28, .mv (.t 11), some 97, some (96, false), []⟩, ⟨29, .nt (.t 97), some 98, some (96, false), []⟩, ⟨30, .mv (.t 98), some 99, some (96, false), []⟩, ⟨31, .fa (.t 7) 4, some 100, some (99, true), []⟩, ⟨32, .ld none (.t 100), some 101, some (99, true), []⟩, ⟨33, .bin .neq (.t 101) (.k (.int .i64 0)), some 102, some (99, true), []⟩, ⟨34, .pick (.t 99) (.t 102) (.k (.bool false)), some 103, some (96, false), []⟩, rI 35 (.pick (.t 96) (.k (.bool true)) (.t 103)) 104, rI 36 (.mv (.t 104)) 105, ⟨37, .fa (.t 7) 4, some 106, some (105, false), []⟩, ⟨38, .ld none (.t 106), some 107, some (105, false), []⟩, ⟨39, .bin .lss (.t 107) (.k (.int .i64 0)), some 108, some (105, false), []⟩, rI 40 (.pick (.t 105) (.k (.bool true)) (.t 108)) 109]) (.ite (.t 109) (.seq (.reg [rI 0 (.mv (.t 5)) 110, rI 1 (.mv (.t 6)) 111, rI 2 (.bld [.int .i64 0, .int .i64 0, .int .i64 0] [(0, 1, .k (.int .i64 3)), (1, 1, .t 110), (2, 1, .t 111)]) 112, ⟨3, .st (.t 2) (.t 112) 3, none, none, []⟩]) .ret) .skip))))) (.reg [rI 0 (.bin .add (.t 55) (.k (.int .i64 1))) 113, rI 1 (.mv (.t 113)) 55]))))
def b21_2 : RCode := (.seq (.reg [rI 0 (.bin .lss (.t 45) (.t 44)) 46]) (.seq (.ite (.t 46) .skip (.exit 2)) (.seq (.blk 3 (.seq (.reg [rI 0 (.mv (.t 45)) 47, rI 1 (.mv (.t 47)) 5]) (.seq (.reg [rI 0 (.fa (.t 1) 0) 48, rI 1 (.ld none (.t 48)) 49, rI 2 (.mv (.t 5)) 50, rI 3 (.ias (.t 49) (.t 50) 1) 51, rI 4 (.fa (.t 51) 0) 52, rI 5 (.ld none (.t 52)) 53, rI 6 (.len (.t 53)) 54, rI 7 (.mv (.k (.int .i64 0))) 55]) (.blk 4 (.loop b21_1))))) (.reg [rI 0 (.bin .add (.t 45) (.k (.int .i64 1))) 114, rI 1 (.mv (.t 114)) 45]))))
def b21_3 : RCode := (.seq (.reg [rI 0 (.bin .lss (.t 118) (.t 117)) 119]) (.seq (.ite (.t 119) .skip (.exit 6)) (.seq (.blk 7 (.seq (.reg [rI 0 (.mv (.t 118)) 120, rI 1 (.mv (.t 120)) 13]) (.seq (.reg [rI 0 (.fa (.t 1) 0) 121, rI 1 (.ld none (.t 121)) 122, rI 2 (.mv (.t 13)) 123, rI 3 (.ias (.t 122) (.t 123) 1) 124, rI 4 (.fa (.t 124) 0) 125, rI 5 (.ld none (.t 125)) 126, rI 6 (.mv (.t 13)) 127, rI 7 (.call 64 [.t 126, .t 127]) 128, rI 8 (.alc [.int .i64 0, .int .i64 0, .int .i64 0]) 14, ⟨9, .st (.t 14) (.t 128) 3, none, none, []⟩]) (.seq (.reg [rI 0 (.fa (.t 14) 0) 129, rI 1 (.ld none (.t 129)) 130, rI 2 (.bin .neq (.t 130) (.k (.int .i64 0))) 131]) (.ite (.t 131) (.seq (.reg [rI 0 (.ld (some 3) (.t 14)) 132, ⟨1, .st (.t 2) (.t 132) 3, none, none, []⟩]) .ret) .skip))))) (.reg [rI 0 (.bin .add (.t 118) (.k (.int .i64 1))) 133, rI 1 (.mv (.t 133)) 118]))))
def r21 : RFun := ⟨135, [.cell 2 (some 3)], (.seq (.reg [rI 0 (.box (.t 0) 1) 1, rI 1 (.alc [.int .i64 0, .int .i64 0, .int .i64 0]) 2]) (.seq (.reg [rI 0 (.fa (.t 1) 0) 15, rI 1 (.ld none (.t 15)) 16, rI 2 (.len (.t 16)) 17, rI 3 (.mv (.t 17)) 3]) (.seq (.seq (.reg [rI 0 (.mv (.t 3)) 18, rI 1 (.bin .eql (.t 18) (.k (.int .i64 0))) 19, rI 2 (.mv (.t 19)) 20, ⟨3, .mv (.t 3), some 21, some (20, false), []⟩, ⟨4, .bin .gtr (.t 21) (.k (.int .i64 30)), some 22, some (20, false), []⟩, rI 5 (.pick (.t 20) (.k (.bool true)) (.t 22)) 23]) (.ite (.t 23) (.seq (.reg [rI 0 (.bld [.int .i64 0, .int .i64 0, .int .i64 0] [(0, 1, .k (.int .i64 1))]) 24, ⟨1, .st (.t 2) (.t 24) 3, none, none, []⟩]) .ret) .skip)) (.seq (.seq (.reg [rI 0 (.fa (.t 1) 0) 25, rI 1 (.ld none (.t 25)) 26, rI 2 (.len (.t 26)) 27, rI 3 (.mv (.k (.int .i64 0))) 28]) (.blk 0 (.loop b21_0))) (.seq (.seq (.reg [rI 0 (.fa (.t 1) 0) 42, rI 1 (.ld none (.t 42)) 43, rI 2 (.len (.t 43)) 44, rI 3 (.mv (.k (.int .i64 0))) 45]) (.blk 2 (.loop b21_2))) (.seq (.seq (.reg [rI 0 (.fa (.t 1) 0) 115, rI 1 (.ld none (.t 115)) 116, rI 2 (.len (.t 116)) 117, rI 3 (.mv (.k (.int .i64 0))) 118]) (.blk 6 (.loop b21_3))) (.seq (.reg [rI 0 (.bld [.int .i64 0, .int .i64 0, .int .i64 0] []) 134, ⟨1, .st (.t 2) (.t 134) 3, none, none, []⟩]) .ret)))))))⟩
theorem p21 : prog 21 = some r21 := by kernel_rfl



/-- What a return comes to. -/
def RetF (μ0 : Mem) (Q : Fr → Mem → Prop) (x : Int × Int × Int) : Prop :=
 ∀ fr' μ', Same μ0.next μ0 μ' → fr' 2 = .c (.ptr (some (μ0.next + 1, 0))) → μ'.ld (some 3) (μ0.next + 1) 0 = some (.agg (flt3 x)) → Q fr' μ'

section
variable {hi : Nat} {μ0 : Mem} {c : Cell} {p : PPlan}

theorem ok_loop0 (hR : PlanR hi μ0 c p) (hh : hi ≤ μ0.next) (hl : Lens p) (hp : p.length ≤ 30) :
  ∀ (k i : Nat) (fr : Fr) (μ : Mem) (s : List It) (Q : Fr → Mem → Prop), i + k = p.length → Same (μ0.next + 2) (base2 μ0 c 0 0 0) μ →
  fr 1 = .c (.ptr (some (μ0.next, 0))) → fr 2 = .c (.ptr (some (μ0.next + 1, 0))) → fr 3 = .c (.int .i64 p.length) → fr 27 = .c (.int .i64 p.length) → fr 28 = .c (.int .i64 i) →
  (∀ b, longP (p.drop i) i = some b → RetF μ0 Q (2, b, 0)) →
  (longP (p.drop i) i = none → ∀ fr', fr' 1 = fr 1 → fr' 2 = fr 2 → fr' 3 = fr 3 → R s fr' μ Q) →
  R (.c (.loop b21_0) :: .blk 0 :: s) fr μ Q := by
 intro k
 induction k with
 | zero =>
  intro i fr μ s Q hk hs h1 h2 h3 h27 h28 hret hend
  rw [R_loop]
  simp only [rI, b21_0]
  simp only [w1, w2, ↓reduceIte, h27, h28]
  rw [decide_eq_false (by omega)]
  simp only [w1]
  rw [R_exit rfl]
  rw [List.drop_eq_nil_of_le (by omega)] at hend
  refine hend rfl _ ?_ ?_ ?_ <;> simp only [w1, ↓reduceIte, zA]
 | succ k ih =>
  intro i fr μ s Q hk hs h1 h2 h3 h27 h28 hret hend
  have hlt : i < p.length := by omega
  have hget : p[i]? = some p[i] := List.getElem?_eq_getElem hlt
  have hdrop : p.drop i = p[i] :: p.drop (i + 1) := List.drop_eq_getElem_cons hlt
  have hb1 := (box2 hs).1
  obtain ⟨bi, bo, x, e1, e2, e3, e4, e5⟩ := ((hR.same same2 hh).same hs (by omega)).at hget
  obtain ⟨a, cap, rfl, _⟩ := e5
  rw [hdrop] at hret hend
  simp only [longP] at hret hend
  rw [R_loop]
  simp only [rI, b21_0]
  simp only [w1, w2, ↓reduceIte, h27, h28]
  rw [decide_eq_true (by omega)]
  simp only [w1, w2, ↓reduceIte, zA, h1, h28, hb1, e1, e4, Nat.add_zero]
  by_cases hx : (p[i].length : Int) > 300
  ·rw [if_pos hx] at hret
   rw [decide_eq_true hx]
   simp only [w1, w2, zH, zI, ↓reduceIte, zA, zB, m2, fillc, wr, zJ, zB, h2]
   obtain ⟨μ2, est, hs2, hld⟩ := st2 hs 2 i 0
   simp only [fltc] at est
   simp only [est, w2]
   refine hret i rfl _ _ hs2 ?_ hld
   simp only [w1, ↓reduceIte, zA, h2]
  ·rw [if_neg hx] at hret hend
   rw [decide_eq_false hx]
   simp only [w1, w2, ↓reduceIte, zA, h28]
   rw [small (by omega), R_lp]
   refine ih (i + 1) _ μ s Q (by omega) hs ?_ ?_ ?_ ?_ ?_ hret (fun hn fr' f1 f2 f3 => hend hn fr' ?_ ?_ ?_)
   ·simp only [w1, ↓reduceIte, zA, h1]
   ·simp only [w1, ↓reduceIte, zA, h2]
   ·simp only [w1, ↓reduceIte, zA, h3]
   ·simp only [w1, ↓reduceIte, zA, h27]
   ·simp only [w1, ↓reduceIte]; rfl
   ·rw [f1]; simp only [w1, ↓reduceIte, zA]
   ·rw [f2]; simp only [w1, ↓reduceIte, zA]
   ·rw [f3]; simp only [w1, ↓reduceIte, zA]

theorem ok_loop1 {l : List PStep} {x : Cell} {b : Nat} (hX : ∀ μ, Same (μ0.next + 2) (base2 μ0 c 0 0 0) μ → Rd hi μ 5 x l.length (cat scells 0 l)) (hl : l.length ≤ 300) :
  ∀ (k i : Nat) (fr : Fr) (μ : Mem) (s : List It) (Q : Fr → Mem → Prop), i + k = l.length → Same (μ0.next + 2) (base2 μ0 c 0 0 0) μ →
  fr 1 = .c (.ptr (some (μ0.next, 0))) → fr 2 = .c (.ptr (some (μ0.next + 1, 0))) → fr 3 = .c (.int .i64 p.length) → fr 5 = .c (.int .i64 b) → fr 44 = .c (.int .i64 p.length) → fr 45 = .c (.int .i64 b) →
  fr 53 = .c x → fr 54 = .c (.int .i64 l.length) → fr 55 = .c (.int .i64 i) →
  (∀ j, badP p.length (l.drop i) i = some j → RetF μ0 Q (3, b, j)) →
  (badP p.length (l.drop i) i = none → ∀ fr' μ', Same (μ0.next + 2) (base2 μ0 c 0 0 0) μ' → fr' 1 = fr 1 → fr' 2 = fr 2 → fr' 3 = fr 3 → fr' 44 = fr 44 → fr' 45 = fr 45 → R s fr' μ' Q) →
  R (.c (.loop b21_1) :: .blk 4 :: s) fr μ Q := by
 intro k
 induction k with
 | zero =>
  intro i fr μ s Q hk hs h1 h2 h3 h5 h44 h45 h53 h54 h55 hret hend
  rw [R_loop]
  simp only [rI, b21_1]
  simp only [w1, w2, ↓reduceIte, h54, h55]
  rw [decide_eq_false (by omega)]
  simp only [w1]
  rw [R_exit rfl]
  rw [List.drop_eq_nil_of_le (by omega)] at hend
  refine hend rfl _ _ hs ?_ ?_ ?_ ?_ ?_ <;> simp only [w1, ↓reduceIte, zA]
 | succ k ih =>
  intro i fr μ s Q hk hs h1 h2 h3 h5 h44 h45 h53 h54 h55 hret hend
  have hlt : i < l.length := by omega
  have hget : l[i]? = some l[i] := List.getElem?_eq_getElem hlt
  have hdrop : l.drop i = l[i] :: l.drop (i + 1) := List.drop_eq_getElem_cons hlt
  have hnx : μ0.next + 2 ≤ μ.next := hs.2
  obtain ⟨bi, bo, e1, e2, e3, e4⟩ := (hX μ hs).row scells_len (by omega) hget
  have hs1 : Same (μ0.next + 2) (base2 μ0 c 0 0 0) (μ.new (scells 0 l[i]) 0) := hs.new hnx
  simp only [scells] at hs1
  rw [hdrop] at hret hend
  simp only [badP] at hret hend
  rw [R_loop]
  simp only [rI, b21_1]
  simp only [w1, w2, ↓reduceIte, h54, h55]
  rw [decide_eq_true (by omega)]
  simp only [w1, w2, zH, zI, ↓reduceIte, zA, zB, h53, h55, e1, e3, scells]
  simp only [w1, w2, ↓reduceIte, zB, m1, m2, stl, wr, zJ]
  refine R_calls rfl (by simp only [w1, w2, ↓reduceIte]; exact fieldsOf_ok _ _) ?_
  rintro v μ1 ⟨rfl, rfl⟩
  simp only [w1, w2, ↓reduceIte, zA, tupF]
  cases hok : (fieldsP l[i].op).2.2.2.2
  case false =>
   have hsh : shapeP p.length l[i] = false := by simp [shapeP, hok]
   rw [hsh] at hret
   simp only [w1, w2, zH, zI, ↓reduceIte, zA, zB, m2, fillc, wr, zJ, zB, h2, h5]
   obtain ⟨μ2, est, hs2, hld⟩ := st2 hs1 3 b i
   simp only [fltc] at est
   simp only [est, w2]
   refine hret i rfl _ _ hs2 ?_ hld
   simp only [w1, ↓reduceIte, zA, h2]
  case true =>
   simp only [w1, w2, ↓reduceIte, zA, m1, m2, h3]
   refine R_calls rfl (by simp only [w1, w2, ↓reduceIte, zA]; exact fits_ok _ _ _ _) ?_
   rintro v μ1 ⟨rfl, rfl⟩
   cases hA : fitsP (fieldsP l[i].op).1 l[i].a p.length
   case false =>
    have hsh : shapeP p.length l[i] = false := by simp [shapeP, hok, hA]
    rw [hsh] at hret
    simp only [w1, w2, zH, zI, ↓reduceIte, zA, zB, m2, fillc, wr, zJ, zB, h2, h5]
    obtain ⟨μ2, est, hs2, hld⟩ := st2 hs1 3 b i
    simp only [fltc] at est
    simp only [est, w2]
    refine hret i rfl _ _ hs2 ?_ hld
    simp only [w1, ↓reduceIte, zA, h2]
   case true =>
    simp only [w1, w2, ↓reduceIte, zA, m1, m2, h3]
    refine R_calls rfl (by simp only [w1, w2, ↓reduceIte, zA]; exact fits_ok _ _ _ _) ?_
    rintro v μ1 ⟨rfl, rfl⟩
    cases hB : fitsP (fieldsP l[i].op).2.1 l[i].b p.length
    case false =>
     have hsh : shapeP p.length l[i] = false := by simp [shapeP, hok, hA, hB]
     rw [hsh] at hret
     simp only [w1, w2, zH, zI, ↓reduceIte, zA, zB, m2, fillc, wr, zJ, zB, h2, h5]
     obtain ⟨μ2, est, hs2, hld⟩ := st2 hs1 3 b i
     simp only [fltc] at est
     simp only [est, w2]
     refine hret i rfl _ _ hs2 ?_ hld
     simp only [w1, ↓reduceIte, zA, h2]
    case true =>
     simp only [w1, ↓reduceIte, zA]
     cases hN : (fieldsP l[i].op).2.2.1
     case true =>
      simp only [w1, ↓reduceIte, zA]
      cases hH : (fieldsP l[i].op).2.2.2.1
      case true =>
       simp only [w1, w2, ↓reduceIte, zA, m1, m2]
       by_cases hS : l[i].size < 0
       ·rw [decide_eq_true hS]
        have hsh : shapeP p.length l[i] = false := by simp [shapeP, hok, hA, hB, hN, hH, hS]
        rw [hsh] at hret
        simp only [w1, w2, zH, zI, ↓reduceIte, zA, zB, m2, fillc, wr, zJ, zB, h2, h5]
        obtain ⟨μ2, est, hs2, hld⟩ := st2 hs1 3 b i
        simp only [fltc] at est
        simp only [est, w2]
        refine hret i rfl _ _ hs2 ?_ hld
        simp only [w1, ↓reduceIte, zA, h2]
       ·rw [decide_eq_false hS]
        have hS' : 0 ≤ l[i].size := by omega
        have hsh : shapeP p.length l[i] = true := by simp [shapeP, hok, hA, hB, hN, hH, hS']
        rw [hsh] at hret hend
        simp only [w1, w2, ↓reduceIte, zA, h55]
        rw [small (by omega), R_lp]
        refine ih (i + 1) _ _ s Q (by omega) hs1 ?_ ?_ ?_ ?_ ?_ ?_ ?_ ?_ ?_ hret (fun hn fr' μ' g0 g1 g2 g3 g4 g5 => hend hn fr' μ' g0 ?_ ?_ ?_ ?_ ?_)
        ·simp only [w1, ↓reduceIte, zA, h1]
        ·simp only [w1, ↓reduceIte, zA, h2]
        ·simp only [w1, ↓reduceIte, zA, h3]
        ·simp only [w1, ↓reduceIte, zA, h5]
        ·simp only [w1, ↓reduceIte, zA, h44]
        ·simp only [w1, ↓reduceIte, zA, h45]
        ·simp only [w1, ↓reduceIte, zA, h53]
        ·simp only [w1, ↓reduceIte, zA, h54]
        ·simp only [w1, ↓reduceIte]; rfl
        ·rw [g1]; simp only [w1, ↓reduceIte, zA]
        ·rw [g2]; simp only [w1, ↓reduceIte, zA]
        ·rw [g3]; simp only [w1, ↓reduceIte, zA]
        ·rw [g4]; simp only [w1, ↓reduceIte, zA]
        ·rw [g5]; simp only [w1, ↓reduceIte, zA]
      case false =>
       simp only [w1, w2, ↓reduceIte, zA, m1, m2]
       cases hZ : (l[i].size == 0)
       case false =>
        have hsh : shapeP p.length l[i] = false := by simp [shapeP, hok, hA, hB, hN, hH, hZ]
        rw [hsh] at hret
        simp only [bne, hZ, w1, w2, zH, zI, ↓reduceIte, zA, zB, m2, fillc, wr, zJ, zB, h2, h5]
        obtain ⟨μ2, est, hs2, hld⟩ := st2 hs1 3 b i
        simp only [fltc] at est
        simp only [est, w2]
        refine hret i rfl _ _ hs2 ?_ hld
        simp only [w1, ↓reduceIte, zA, h2]
       case true =>
        simp only [bne, hZ, w1, w2, ↓reduceIte, zA, m1, m2]
        by_cases hS : l[i].size < 0
        ·rw [decide_eq_true hS]
         have hsh : shapeP p.length l[i] = false := by simp [shapeP, hok, hA, hB, hN, hH, hZ, hS]
         rw [hsh] at hret
         simp only [w1, w2, zH, zI, ↓reduceIte, zA, zB, m2, fillc, wr, zJ, zB, h2, h5]
         obtain ⟨μ2, est, hs2, hld⟩ := st2 hs1 3 b i
         simp only [fltc] at est
         simp only [est, w2]
         refine hret i rfl _ _ hs2 ?_ hld
         simp only [w1, ↓reduceIte, zA, h2]
        ·rw [decide_eq_false hS]
         have hS' : 0 ≤ l[i].size := by omega
         have hsh : shapeP p.length l[i] = true := by simp [shapeP, hok, hA, hB, hN, hH, hZ, hS']
         rw [hsh] at hret hend
         simp only [w1, w2, ↓reduceIte, zA, h55]
         rw [small (by omega), R_lp]
         refine ih (i + 1) _ _ s Q (by omega) hs1 ?_ ?_ ?_ ?_ ?_ ?_ ?_ ?_ ?_ hret (fun hn fr' μ' g0 g1 g2 g3 g4 g5 => hend hn fr' μ' g0 ?_ ?_ ?_ ?_ ?_)
         ·simp only [w1, ↓reduceIte, zA, h1]
         ·simp only [w1, ↓reduceIte, zA, h2]
         ·simp only [w1, ↓reduceIte, zA, h3]
         ·simp only [w1, ↓reduceIte, zA, h5]
         ·simp only [w1, ↓reduceIte, zA, h44]
         ·simp only [w1, ↓reduceIte, zA, h45]
         ·simp only [w1, ↓reduceIte, zA, h53]
         ·simp only [w1, ↓reduceIte, zA, h54]
         ·simp only [w1, ↓reduceIte]; rfl
         ·rw [g1]; simp only [w1, ↓reduceIte, zA]
         ·rw [g2]; simp only [w1, ↓reduceIte, zA]
         ·rw [g3]; simp only [w1, ↓reduceIte, zA]
         ·rw [g4]; simp only [w1, ↓reduceIte, zA]
         ·rw [g5]; simp only [w1, ↓reduceIte, zA]
     case false =>
      simp only [w1, w2, ↓reduceIte, zA, m1, m2]
      cases hn0 : (l[i].n == 0)
      case false =>
       have hsh : shapeP p.length l[i] = false := by simp [shapeP, hok, hA, hB, hN, hn0]
       rw [hsh] at hret
       simp only [bne, hn0, w1, w2, zH, zI, ↓reduceIte, zA, zB, m2, fillc, wr, zJ, zB, h2, h5]
       obtain ⟨μ2, est, hs2, hld⟩ := st2 hs1 3 b i
       simp only [fltc] at est
       simp only [est, w2]
       refine hret i rfl _ _ hs2 ?_ hld
       simp only [w1, ↓reduceIte, zA, h2]
      case true =>
       simp only [bne, hn0, w1, ↓reduceIte, zA]
       cases hH : (fieldsP l[i].op).2.2.2.1
       case true =>
        simp only [w1, w2, ↓reduceIte, zA, m1, m2]
        by_cases hS : l[i].size < 0
        ·rw [decide_eq_true hS]
         have hsh : shapeP p.length l[i] = false := by simp [shapeP, hok, hA, hB, hN, hn0, hH, hS]
         rw [hsh] at hret
         simp only [w1, w2, zH, zI, ↓reduceIte, zA, zB, m2, fillc, wr, zJ, zB, h2, h5]
         obtain ⟨μ2, est, hs2, hld⟩ := st2 hs1 3 b i
         simp only [fltc] at est
         simp only [est, w2]
         refine hret i rfl _ _ hs2 ?_ hld
         simp only [w1, ↓reduceIte, zA, h2]
        ·rw [decide_eq_false hS]
         have hS' : 0 ≤ l[i].size := by omega
         have hsh : shapeP p.length l[i] = true := by simp [shapeP, hok, hA, hB, hN, hn0, hH, hS']
         rw [hsh] at hret hend
         simp only [w1, w2, ↓reduceIte, zA, h55]
         rw [small (by omega), R_lp]
         refine ih (i + 1) _ _ s Q (by omega) hs1 ?_ ?_ ?_ ?_ ?_ ?_ ?_ ?_ ?_ hret (fun hn fr' μ' g0 g1 g2 g3 g4 g5 => hend hn fr' μ' g0 ?_ ?_ ?_ ?_ ?_)
         ·simp only [w1, ↓reduceIte, zA, h1]
         ·simp only [w1, ↓reduceIte, zA, h2]
         ·simp only [w1, ↓reduceIte, zA, h3]
         ·simp only [w1, ↓reduceIte, zA, h5]
         ·simp only [w1, ↓reduceIte, zA, h44]
         ·simp only [w1, ↓reduceIte, zA, h45]
         ·simp only [w1, ↓reduceIte, zA, h53]
         ·simp only [w1, ↓reduceIte, zA, h54]
         ·simp only [w1, ↓reduceIte]; rfl
         ·rw [g1]; simp only [w1, ↓reduceIte, zA]
         ·rw [g2]; simp only [w1, ↓reduceIte, zA]
         ·rw [g3]; simp only [w1, ↓reduceIte, zA]
         ·rw [g4]; simp only [w1, ↓reduceIte, zA]
         ·rw [g5]; simp only [w1, ↓reduceIte, zA]
       case false =>
        simp only [w1, w2, ↓reduceIte, zA, m1, m2]
        cases hZ : (l[i].size == 0)
        case false =>
         have hsh : shapeP p.length l[i] = false := by simp [shapeP, hok, hA, hB, hN, hn0, hH, hZ]
         rw [hsh] at hret
         simp only [bne, hZ, w1, w2, zH, zI, ↓reduceIte, zA, zB, m2, fillc, wr, zJ, zB, h2, h5]
         obtain ⟨μ2, est, hs2, hld⟩ := st2 hs1 3 b i
         simp only [fltc] at est
         simp only [est, w2]
         refine hret i rfl _ _ hs2 ?_ hld
         simp only [w1, ↓reduceIte, zA, h2]
        case true =>
         simp only [bne, hZ, w1, w2, ↓reduceIte, zA, m1, m2]
         by_cases hS : l[i].size < 0
         ·rw [decide_eq_true hS]
          have hsh : shapeP p.length l[i] = false := by simp [shapeP, hok, hA, hB, hN, hn0, hH, hZ, hS]
          rw [hsh] at hret
          simp only [w1, w2, zH, zI, ↓reduceIte, zA, zB, m2, fillc, wr, zJ, zB, h2, h5]
          obtain ⟨μ2, est, hs2, hld⟩ := st2 hs1 3 b i
          simp only [fltc] at est
          simp only [est, w2]
          refine hret i rfl _ _ hs2 ?_ hld
          simp only [w1, ↓reduceIte, zA, h2]
         ·rw [decide_eq_false hS]
          have hS' : 0 ≤ l[i].size := by omega
          have hsh : shapeP p.length l[i] = true := by simp [shapeP, hok, hA, hB, hN, hn0, hH, hZ, hS']
          rw [hsh] at hret hend
          simp only [w1, w2, ↓reduceIte, zA, h55]
          rw [small (by omega), R_lp]
          refine ih (i + 1) _ _ s Q (by omega) hs1 ?_ ?_ ?_ ?_ ?_ ?_ ?_ ?_ ?_ hret (fun hn fr' μ' g0 g1 g2 g3 g4 g5 => hend hn fr' μ' g0 ?_ ?_ ?_ ?_ ?_)
          ·simp only [w1, ↓reduceIte, zA, h1]
          ·simp only [w1, ↓reduceIte, zA, h2]
          ·simp only [w1, ↓reduceIte, zA, h3]
          ·simp only [w1, ↓reduceIte, zA, h5]
          ·simp only [w1, ↓reduceIte, zA, h44]
          ·simp only [w1, ↓reduceIte, zA, h45]
          ·simp only [w1, ↓reduceIte, zA, h53]
          ·simp only [w1, ↓reduceIte, zA, h54]
          ·simp only [w1, ↓reduceIte]; rfl
          ·rw [g1]; simp only [w1, ↓reduceIte, zA]
          ·rw [g2]; simp only [w1, ↓reduceIte, zA]
          ·rw [g3]; simp only [w1, ↓reduceIte, zA]
          ·rw [g4]; simp only [w1, ↓reduceIte, zA]
          ·rw [g5]; simp only [w1, ↓reduceIte, zA]

theorem ok_loop2 (hR : PlanR hi μ0 c p) (hh : hi ≤ μ0.next) (hp : p.length ≤ 30) (h300 : ∀ b ∈ p, b.length ≤ 300) :
  ∀ (k i : Nat) (fr : Fr) (μ : Mem) (s : List It) (Q : Fr → Mem → Prop), i + k = p.length → Same (μ0.next + 2) (base2 μ0 c 0 0 0) μ →
  fr 1 = .c (.ptr (some (μ0.next, 0))) → fr 2 = .c (.ptr (some (μ0.next + 1, 0))) → fr 3 = .c (.int .i64 p.length) → fr 44 = .c (.int .i64 p.length) → fr 45 = .c (.int .i64 i) →
  (∀ b j, badsP p.length (p.drop i) i = some (b, j) → RetF μ0 Q (3, b, j)) →
  (badsP p.length (p.drop i) i = none → ∀ fr' μ', Same (μ0.next + 2) (base2 μ0 c 0 0 0) μ' → fr' 1 = fr 1 → fr' 2 = fr 2 → R s fr' μ' Q) →
  R (.c (.loop b21_2) :: .blk 2 :: s) fr μ Q := by
 intro k
 induction k with
 | zero =>
  intro i fr μ s Q hk hs h1 h2 h3 h44 h45 hret hend
  rw [R_loop]
  simp only [rI, b21_2]
  simp only [w1, w2, ↓reduceIte, h44, h45]
  rw [decide_eq_false (by omega)]
  simp only [w1]
  rw [R_exit rfl]
  rw [List.drop_eq_nil_of_le (by omega)] at hend
  refine hend rfl _ _ hs ?_ ?_ <;> simp only [w1, ↓reduceIte, zA]
 | succ k ih =>
  intro i fr μ s Q hk hs h1 h2 h3 h44 h45 hret hend
  have hlt : i < p.length := by omega
  have hget : p[i]? = some p[i] := List.getElem?_eq_getElem hlt
  have hdrop : p.drop i = p[i] :: p.drop (i + 1) := List.drop_eq_getElem_cons hlt
  have hb1 := (box2 hs).1
  have hlen := h300 p[i] (List.getElem_mem hlt)
  obtain ⟨bi, bo, x, e1, e2, e3, e4, e5⟩ := (hR.same same2 hh).at hget
  have e5' : ∀ μ, Same (μ0.next + 2) (base2 μ0 c 0 0 0) μ → Rd hi μ 5 x p[i].length (cat scells 0 p[i]) := fun μ h => e5.same h (by omega)
  rw [← hs.ld (by omega)] at e4
  obtain ⟨a, cap, rfl, _⟩ := e5
  rw [hdrop] at hret hend
  simp only [badsP] at hret hend
  rw [R_loop]
  simp only [rI, b21_2]
  simp only [w1, w2, ↓reduceIte, h44, h45]
  rw [decide_eq_true (by omega)]
  simp only [w1, w2, ↓reduceIte, zA, h1, h45, hb1, e1, e4, Nat.add_zero]
  refine ok_loop1 (p := p) (b := i) e5' hlen p[i].length 0 _ _ _ Q (by omega) hs ?_ ?_ ?_ ?_ ?_ ?_ ?_ ?_ ?_ ?_ ?_
  ·simp only [w1, ↓reduceIte, zA, h1]
  ·simp only [w1, ↓reduceIte, zA, h2]
  ·simp only [w1, ↓reduceIte, zA, h3]
  ·simp only [w1, ↓reduceIte, zA]
  ·simp only [w1, ↓reduceIte, zA, h44]
  ·simp only [w1, ↓reduceIte, zA, h45]
  ·simp only [w1, ↓reduceIte, zA]
  ·simp only [w1, ↓reduceIte, zA]
  ·simp only [w1, ↓reduceIte]; rfl
  ·intro j hj
   rw [List.drop_zero] at hj
   rw [hj] at hret
   exact hret i j rfl
  ·intro hn fr' μ' hs' g1 g2 g3 g44 g45
   rw [List.drop_zero] at hn
   rw [hn] at hret hend
   simp only [w1, ↓reduceIte, zA, h1, h2, h3, h44, h45] at g1 g2 g3 g44 g45
   simp only [w1, w2, ↓reduceIte, g45]
   rw [small (by omega), R_lp]
   refine ih (i + 1) _ μ' s Q (by omega) hs' ?_ ?_ ?_ ?_ ?_ hret (fun hn fr' μ' f0 f1 f2 => hend hn fr' μ' f0 ?_ ?_)
   ·simp only [w1, ↓reduceIte, zA, g1]
   ·simp only [w1, ↓reduceIte, zA, g2]
   ·simp only [w1, ↓reduceIte, zA, g3]
   ·simp only [w1, ↓reduceIte, zA, g44]
   ·simp only [w1, ↓reduceIte]; rfl
   ·rw [f1]; simp only [w1, ↓reduceIte, zA, g1, h1]
   ·rw [f2]; simp only [w1, ↓reduceIte, zA, g2, h2]

theorem ok_loop3 (hR : PlanR hi μ0 c p) (hh : hi ≤ μ0.next) (hp : p.length ≤ 30) (h300 : ∀ b ∈ p, b.length ≤ 300) (hsz : ∀ b ∈ p, ∀ s ∈ b, 0 ≤ s.size) :
  ∀ (k i : Nat) (fr : Fr) (μ : Mem) (s : List It) (Q : Fr → Mem → Prop), i + k = p.length → Same (μ0.next + 2) (base2 μ0 c 0 0 0) μ →
  fr 1 = .c (.ptr (some (μ0.next, 0))) → fr 2 = .c (.ptr (some (μ0.next + 1, 0))) → fr 117 = .c (.int .i64 p.length) → fr 118 = .c (.int .i64 i) →
  (∀ b r, nestsP (p.drop i) i = some (b, r) → RetF μ0 Q (r.1, b, r.2)) →
  (nestsP (p.drop i) i = none → ∀ fr' μ', Same (μ0.next + 2) (base2 μ0 c 0 0 0) μ' → fr' 2 = fr 2 → R s fr' μ' Q) →
  R (.c (.loop b21_3) :: .blk 6 :: s) fr μ Q := by
 intro k
 induction k with
 | zero =>
  intro i fr μ s Q hk hs h1 h2 h44 h45 hret hend
  rw [R_loop]
  simp only [rI, b21_3]
  simp only [w1, w2, ↓reduceIte, h44, h45]
  rw [decide_eq_false (by omega)]
  simp only [w1]
  rw [R_exit rfl]
  rw [List.drop_eq_nil_of_le (by omega)] at hend
  refine hend rfl _ _ hs ?_ <;> simp only [w1, ↓reduceIte, zA]
 | succ k ih =>
  intro i fr μ s Q hk hs h1 h2 h44 h45 hret hend
  have hlt : i < p.length := by omega
  have hget : p[i]? = some p[i] := List.getElem?_eq_getElem hlt
  have hdrop : p.drop i = p[i] :: p.drop (i + 1) := List.drop_eq_getElem_cons hlt
  have hb1 := (box2 hs).1
  have hlen := h300 p[i] (List.getElem_mem hlt)
  obtain ⟨bi, bo, x, e1, e2, e3, e4, e5⟩ := ((hR.same same2 hh).same hs (by omega)).at hget
  have hnx : μ0.next + 2 ≤ μ.next := hs.2
  rw [hdrop] at hret hend
  simp only [nestsP] at hret hend
  rw [R_loop]
  simp only [rI, b21_3]
  simp only [w1, w2, ↓reduceIte, h44, h45]
  rw [decide_eq_true (by omega)]
  simp only [w1, w2, ↓reduceIte, zA, h1, h45, hb1, e1, e4, Nat.add_zero]
  refine R_calls rfl (by simp only [w1, w2, ↓reduceIte, zA]; exact nest_ok (hsz p[i] (List.getElem_mem hlt)) hlen e5 (by omega)) ?_
  rintro v μ1 ⟨rfl, hs1⟩
  have hs2 := hs.trans (hs1.mono hnx)
  have hnx1 : μ0.next + 2 ≤ μ1.next := hs2.2
  by_cases hc : (nestP p[i]).1 = 0
  ·rw [if_pos hc] at hret hend ⊢
   have hs3 : Same (μ0.next + 2) (base2 μ0 c 0 0 0) (μ1.new (fltc 0 0 0) 0) := hs2.new hnx1
   simp only [fltc] at hs3
   simp only [w1, w2, zH, zI, ↓reduceIte, zA, zB, m1, m2, stl, wr, zJ, fltc, h45]
   rw [small (by omega), R_lp]
   refine ih (i + 1) _ _ s Q (by omega) hs3 ?_ ?_ ?_ ?_ hret (fun hn fr' μ' f0 f2 => hend hn fr' μ' f0 ?_)
   ·simp only [w1, ↓reduceIte, zA, h1]
   ·simp only [w1, ↓reduceIte, zA, h2]
   ·simp only [w1, ↓reduceIte, zA, h44]
   ·simp only [w1, ↓reduceIte]; rfl
   ·rw [f2]; simp only [w1, ↓reduceIte, zA, h2]
  ·rw [if_neg hc] at hret hend ⊢
   have hs3 : Same (μ0.next + 2) (base2 μ0 c 0 0 0) (μ1.new (fltc (nestP p[i]).1 i (nestP p[i]).2) 0) := hs2.new hnx1
   obtain ⟨μ2, est, hs4, hld⟩ := st2 hs3 (nestP p[i]).1 i (nestP p[i]).2
   simp only [fltc] at est
   simp only [w1, w2, zH, zI, ↓reduceIte, zA, zB, m1, m2, stl, wr, rd, zJ, fltc, bne, beq_ff hc, h2]
   simp only [m1, m2, stl, wr, zJ, w1, w2, ↓reduceIte, zB] at est
   simp only [est, w2]
   refine hret i (nestP p[i]) rfl _ _ hs4 ?_ hld
   simp only [w1, ↓reduceIte, zA, h2]

/-- What the end comes to. -/
def QF (μ0 : Mem) (p : PPlan) : Fr → Mem → Prop := fun fr' μ1 => ∃ v, aRet fr' μ1 [.cell 2 (some 3)] = some v ∧ v = .agg (flt3 (okP p)) ∧ Same μ0.next μ0 μ1

theorem iPlanOk_ok (hR : PlanR hi μ0 c p) (hh : hi ≤ μ0.next) (hl : Lens p) :
  Ret 21 [.agg [c]] μ0 fun v μ' => v = .agg (flt3 (okP p)) ∧ Same μ0.next μ0 μ' := by
 obtain ⟨a, cap, hc⟩ := hR.slc
 subst hc
 have hl1 := hl.1
 have hfin : ∀ (x : Int × Int × Int), okP p = x → RetF μ0 (QF μ0 p) x := by
  intro x hx fr' μ' hs h2 hld
  unfold QF
  simp only [m1, m2, aRet, aRes, aRes1, h2, hld]
  rw [hx]
  exact ⟨rfl, hs⟩
 refine Ret_of p21 (by simp [r21]) (show R [.c r21.body] _ _ (QF μ0 p) from ?_)
 simp only [rI, r21, frOf_1]
 simp only [w1, w2, zH, zI, ↓reduceIte, zA, m1, m2]
 have hs : Same (μ0.next + 2) (base2 μ0 (.slc a p.length cap) 0 0 0) ((μ0.new [.slc a p.length cap] 0).new [.int .i64 0, .int .i64 0, .int .i64 0] 0) := Same.refl
 by_cases h0 : p.length = 0
 ·have hok : okP p = (1, 0, 0) := by unfold okP; rw [if_pos (.inl h0)]
  have e0 : ((p.length : Int) == 0) = true := by rw [h0]; rfl
  simp only [e0, w1, w2, zH, zI, ↓reduceIte, zA, zB, m2, fillc, wr, zJ, zB]
  obtain ⟨μ2, est, hs2, hld⟩ := st2 hs 1 0 0
  simp only [fltc] at est
  simp only [est, w2]
  refine hfin _ hok _ _ hs2 ?_ hld
  simp only [w1, ↓reduceIte, zA]
 ·have e0 : ((p.length : Int) == 0) = false := by apply beq_ff; omega
  simp only [e0, w1, w2, ↓reduceIte, zA]
  by_cases h1 : p.length > 30
  ·have hok : okP p = (1, 0, 0) := by unfold okP; rw [if_pos (.inr h1)]
   have e1 : decide ((p.length : Int) > 30) = true := decide_eq_true (by omega)
   simp only [e1, w1, w2, zH, zI, ↓reduceIte, zA, zB, m2, fillc, wr, zJ, zB]
   obtain ⟨μ2, est, hs2, hld⟩ := st2 hs 1 0 0
   simp only [fltc] at est
   simp only [est, w2]
   refine hfin _ hok _ _ hs2 ?_ hld
   simp only [w1, ↓reduceIte, zA]
  ·have e1 : decide ((p.length : Int) > 30) = false := decide_eq_false (by omega)
   simp only [e1, w1, w2, ↓reduceIte, zA, m1, m2]
   refine ok_loop0 hR hh hl (by omega) p.length 0 _ _ _ _ (by omega) hs ?_ ?_ ?_ ?_ ?_ ?_ ?_
   ·simp only [w1, ↓reduceIte, zA]
   ·simp only [w1, ↓reduceIte, zA]
   ·simp only [w1, ↓reduceIte, zA]
   ·simp only [w1, ↓reduceIte, zA]
   ·simp only [w1, ↓reduceIte]; rfl
   ·intro b hb
    rw [List.drop_zero] at hb
    refine hfin _ ?_
    unfold okP; rw [if_neg (by omega), hb]
   ·intro hn fr' f1 f2 f3
    rw [List.drop_zero] at hn
    have h300 := longP_none hn
    simp only [w1, ↓reduceIte, zA] at f1 f2 f3
    simp only [w1, w2, ↓reduceIte, m1, m2, f1]
    refine ok_loop2 hR hh (by omega) h300 p.length 0 _ _ _ _ (by omega) hs ?_ ?_ ?_ ?_ ?_ ?_ ?_
    ·simp only [w1, ↓reduceIte, zA, f1]
    ·simp only [w1, ↓reduceIte, zA, f2]
    ·simp only [w1, ↓reduceIte, zA, f3]
    ·simp only [w1, ↓reduceIte, zA]
    ·simp only [w1, ↓reduceIte]; rfl
    ·intro b j hb
     rw [List.drop_zero] at hb
     refine hfin _ ?_
     unfold okP; rw [if_neg (by omega), hn]; dsimp only; rw [hb]
    ·intro hn2 fr2 μ2 hs2 g1 g2
     rw [List.drop_zero] at hn2
     have hsh := badsP_none hn2
     simp only [w1, ↓reduceIte, zA, f1, f2] at g1 g2
     have hb1 := (box2 hs2).1
     simp only [w1, w2, ↓reduceIte, g1, hb1]
     refine ok_loop3 hR hh (by omega) h300 (fun b hb s hs => shapeP_size (hsh b hb s hs)) p.length 0 _ _ _ _ (by omega) hs2 ?_ ?_ ?_ ?_ ?_ ?_
     ·simp only [w1, ↓reduceIte, zA, g1]
     ·simp only [w1, ↓reduceIte, zA, g2]
     ·simp only [w1, ↓reduceIte, zA]
     ·simp only [w1, ↓reduceIte]; rfl
     ·intro b r hb
      rw [List.drop_zero] at hb
      refine hfin _ ?_
      unfold okP; rw [if_neg (by omega), hn]; dsimp only; rw [hn2]; dsimp only; rw [hb]
     ·intro hn3 fr3 μ3 hs3 k2
      rw [List.drop_zero] at hn3
      simp only [w1, ↓reduceIte, zA, g2] at k2
      simp only [w1, w2, zH, zI, ↓reduceIte, zA, zB, fillc, zB, k2]
      obtain ⟨μ4, est, hs4, hld⟩ := st2 hs3 0 0 0
      simp only [fltc] at est
      simp only [est, w2]
      refine hfin (0, 0, 0) ?_ _ _ hs4 ?_ hld
      ·unfold okP; rw [if_neg (by omega), hn]; dsimp only; rw [hn2]; dsimp only; rw [hn3]
      ·simp only [w1, ↓reduceIte, zA, k2]
end
end Go.Proofs.Ytibmnlijoeppaaa
