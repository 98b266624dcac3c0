/-
 The drawn laws: stands are compared.
-/
import Derived.Test.YtibmnlijoeppaaaE9H
namespace Go.Proofs.Ytibmnlijoeppaaa
open Nat renaming reduceEqDiff → zA, reduceAdd → zB, reduceLeDiff → zJ, reduceMul → zK
open Int renaming reduceLT → zC, reduceLE → zD, reduceNeg → zE, reduceBEq → zF, reduceBNe → zG
open AV renaming isTup → zH, cells → zI
set_option linter.unusedSimpArgs false
set_option linter.unusedVariables false

/-! 40: laws.wStand -/
def b40_0 : RCode := (.seq (.reg [rI 0 (.bin .lss (.t 98) (.t 97)) 99]) (.seq (.ite (.t 99) .skip (.exit 2)) (.seq (.blk 3 (.seq (.reg [rI 0 (.mv (.t 98)) 100, rI 1 (.mv (.t 100)) 8]) (.seq (.reg [rI 0 (.fa (.t 6) 2) 101, rI 2 (.mv (.t 8)) 103, rI 5 (.fa (.t 7) 2) 106, rI 7 (.mv (.t 8)) 108, rI 1 (.ld none (.t 101)) 102, rI 3 (.ias (.t 102) (.t 103) 1) 104, rI 4 (.ld none (.t 104)) 105, rI 6 (.ld none (.t 106)) 107, rI 8 (.ias (.t 107) (.t 108) 1) 109, rI 9 (.ld none (.t 109)) 110, rI 10 (.bin .neq (.t 105) (.t 110)) 111]) (.ite (.t 111) (.seq (.reg [rI 0 (.mv (.k (.bool false))) 4]) .ret) .skip)))) (.reg [rI 0 (.bin .add (.t 98) (.k (.int .i64 1))) 112, rI 1 (.mv (.t 112)) 98]))))
def b40_1 : RCode := (.seq (.reg [rI 0 (.bin .lss (.t 33) (.t 32)) 34]) (.seq (.ite (.t 34) .skip (.exit 0)) (.seq (.blk 1 (.seq (.reg [rI 0 (.mv (.t 33)) 35, rI 1 (.mv (.t 35)) 5]) (.seq (.reg [rI 0 (.fa (.t 2) 2) 36, rI 1 (.ld none (.t 36)) 37, rI 2 (.mv (.t 5)) 38, rI 3 (.ias (.t 37) (.t 38) 7) 39, rI 4 (.ld (some 7) (.t 39)) 40, rI 5 (.alc [.int .i64 0, .int .i64 0, .slc none 0 0, .int .i64 0, .int .i64 0, .int .i64 0, .int .i64 0]) 6, ⟨6, .st (.t 6) (.t 40) 7, none, none, []⟩]) (.seq (.reg [rI 0 (.fa (.t 3) 2) 41, rI 1 (.ld none (.t 41)) 42, rI 2 (.mv (.t 5)) 43, rI 3 (.ias (.t 42) (.t 43) 7) 44, rI 4 (.ld (some 7) (.t 44)) 45, rI 5 (.alc [.int .i64 0, .int .i64 0, .slc none 0 0, .int .i64 0, .int .i64 0, .int .i64 0, .int .i64 0]) 7, ⟨6, .st (.t 7) (.t 45) 7, none, none, []⟩]) (.seq (.seq (.reg [rI 0 (.fa (.t 6) 0) 46, rI 1 (.ld none (.t 46)) 47, rI 2 (.fa (.t 7) 0) 48, rI 3 (.ld none (.t 48)) 49, rI 4 (.bin .neq (.t 47) (.t 49)) 50, rI 5 (.mv (.t 50)) 51, ⟨6, .fa (.t 6) 1, some 52, some (51, false), []⟩, ⟨7, .ld none (.t 52), some 53, some (51, false), []⟩, ⟨8, .fa (.t 7) 1, some 54, some (51, false), []⟩, ⟨9, .ld none (.t 54), some 55, some (51, false), []⟩, ⟨10, .bin .neq (.t 53) (.t 55), some 56, some (51, false), []⟩, rI 11 (.pick (.t 51) (.k (.bool true)) (.t 56)) 57, rI 12 (.mv (.t 57)) 58, ⟨13, .fa (.t 6) 3, some 59, some (58, false), []⟩, ⟨14, .ld none (.t 59), some 60, some (58, false), []⟩, ⟨15, .fa (.t 7) 3, some 61, some (58, false), []⟩, ⟨16, .ld none (.t 61), some 62, some (58, false), []⟩, ⟨17, .bin .neq (.t 60) (.t 62), some 63, some (58, false), []⟩, rI 18 (.pick (.t 58) (.k (.bool true)) (.t 63)) 64, rI 19 (.mv (.t 64)) 65, ⟨20, .fa (.t 6) 4, some 66, some (65, false), []⟩, ⟨21, .ld none (.t 66), some 67, some (65, false), []⟩, ⟨22, .fa (.t 7) 4, some 68, some (65, false), []⟩, ⟨23, .ld none (.t 68), some 69, some (65, false), []⟩, ⟨24, .bin .neq (.t 67) (.t 69), some 70, some (65, false), []⟩, rI 25 (.pick (.t 65) (.k (.bool true)) (.t 70)) 71, rI 26 (.mv (.t 71)) 72, ⟨27, .fa (.t 6) 5, some 73, some (72, false), []⟩, ⟨28, .ld none (.t 73), some 74, some (72, false), []⟩, ⟨29, .fa (.t 7) 5, some 75, some (72, false), []⟩, ⟨30, .ld none (.t 75), some 76, some (72, false), []⟩, ⟨31, .bin .neq (.t 74) (.t 76), some 77, some (72, false), []⟩, rI 32 (.pick (.t 72) (.k (.bool true)) (.t 77)) 78, rI 33 (.mv (.t 78)) 79, ⟨34, .fa (.t 6) 6, some 80, some (79, false), []⟩, ⟨35, .ld none (.t 80), some 81, some (79, false), []⟩, ⟨36, .fa (.t 7) 6, some 82, some (79, false), []⟩, ⟨37, .ld none (.t 82), some 83, some (79, false), []⟩, ⟨38, .bin .neq (.t 81) (.t 83), some 84, some (79, false), []⟩, rI 39 (.pick (.t 79) (.k (.bool true)) (.t 84)) 85, rI 40 (.mv (.t 85)) 86, ⟨41, .fa (.t 6) 2, some 87, some (86, false), []⟩, ⟨42, .ld none (.t 87), some 88, some (86, false), []⟩, ⟨43, .len (.t 88), some 89, some (86, false), []⟩, ⟨44, .fa (.t 7) 2, some 90, some (86, false), []⟩, ⟨45, .ld none (.t 90), some 91, some (86, false), []⟩, ⟨46, .len (.t 91), some 92, some (86, false), []⟩, ⟨47, .bin .neq (.t 89) (.t 92), some 93, some (86, false), []⟩, rI 48 (.pick (.t 86) (.k (.bool true)) (.t 93)) 94]) (.ite (.t 94) (.seq (.reg [rI 0 (.mv (.k (.bool false))) 4]) .ret) .skip)) (.seq (.reg [rI 0 (.fa (.t 6) 2) 95, rI 1 (.ld none (.t 95)) 96, rI 2 (.len (.t 96)) 97, rI 3 (.mv (.k (.int .i64 0))) 98]) (.blk 2 (.loop b40_0)))))))) (.reg [rI 0 (.bin .add (.t 33) (.k (.int .i64 1))) 113, rI 1 (.mv (.t 113)) 33]))))
def r40 : RFun := ⟨114, [.tmp 4], (.seq (.reg [rI 0 (.box (.t 0) 3) 2, rI 1 (.box (.t 1) 3) 3, rI 2 (.mv (.k (.bool false))) 4]) (.seq (.seq (.reg [rI 0 (.fa (.t 2) 0) 9, rI 1 (.ld none (.t 9)) 10, rI 2 (.fa (.t 3) 0) 11, rI 3 (.ld none (.t 11)) 12, rI 4 (.eq true .bool (.t 10) (.t 12)) 13, rI 5 (.mv (.t 13)) 14, ⟨6, .fa (.t 2) 1, some 15, some (14, false), []⟩, ⟨7, .ld none (.t 15), some 16, some (14, false), []⟩, ⟨8, .fa (.t 3) 1, some 17, some (14, false), []⟩, ⟨9, .ld none (.t 17), some 18, some (14, false), []⟩, ⟨10, .bin .neq (.t 16) (.t 18), some 19, some (14, false), []⟩, rI 11 (.pick (.t 14) (.k (.bool true)) (.t 19)) 20, rI 12 (.mv (.t 20)) 21, ⟨13, .fa (.t 2) 2, some 22, some (21, false), []⟩, ⟨14, .ld none (.t 22), some 23, some (21, false), []⟩, ⟨15, .len (.t 23), some 24, some (21, false), []⟩, ⟨16, .fa (.t 3) 2, some 25, some (21, false), []⟩, ⟨17, .ld none (.t 25), some 26, some (21, false), []⟩, ⟨18, .len (.t 26), some 27, some (21, false), []⟩, ⟨19, .bin .neq (.t 24) (.t 27), some 28, some (21, false), []⟩, rI 20 (.pick (.t 21) (.k (.bool true)) (.t 28)) 29]) (.ite (.t 29) (.seq (.reg [rI 0 (.mv (.k (.bool false))) 4]) .ret) .skip)) (.seq (.seq (.reg [rI 0 (.fa (.t 2) 2) 30, rI 1 (.ld none (.t 30)) 31, rI 2 (.len (.t 31)) 32, rI 3 (.mv (.k (.int .i64 0))) 33]) (.blk 0 (.loop b40_1))) (.seq (.reg [rI 0 (.mv (.k (.bool true))) 4]) .ret))))⟩
theorem p40 : prog 40 = some r40 := by kernel_rfl



theorem ldo {μ μ' : Mem} {i o : Nat} {n : Option Nat} {v : AV} (h : μ.ld n i o = some v) {lo : Nat} (hs : Same lo μ μ') (hl : i < lo) : μ'.ld n i o = some v := (hs.ld hl).trans h

theorem wRegLoop {hi : Nat} {μ : Mem} {c c' : Cell} {l : List Int} {n6 n7 : Nat} (h : Rd hi μ 1 c l.length (cat irow 0 l)) (h' : Rd hi μ 1 c' l.length (cat irow 0 l)) (hl : l.length ≤ 1000000000) (l6 : μ.ld none n6 2 = some (.c c)) (l7 : μ.ld none n7 2 = some (.c c')) {Q : Fr → Mem → Prop} {s : List It} {v2 v3 v32 v33 : AV} :
 ∀ (k i : Nat) (fr : Fr), i + k = l.length → fr 6 = pt n6 0 → fr 7 = pt n7 0 → fr 97 = .c (.int .i64 l.length) → fr 98 = .c (.int .i64 i) → fr 2 = v2 → fr 3 = v3 → fr 32 = v32 → fr 33 = v33 →
  (∀ fr', fr' 2 = v2 → fr' 3 = v3 → fr' 32 = v32 → fr' 33 = v33 → R s fr' μ Q) → R (.c (.loop b40_0) :: .blk 2 :: s) fr μ Q := by
 obtain ⟨a, cap, hc⟩ := h.slc
 obtain ⟨a', cap', hc'⟩ := h'.slc
 intro k
 induction k with
 | zero =>
  intro i fr hk h6 h7 h97 h98 h2 h3 h32 h33 hend
  rw [R_loop]
  simp only [rI, b40_0]
  simp only [w1, w2, ↓reduceIte, h97, h98]
  rw [decide_eq_false (by omega)]
  simp only [w1]
  rw [R_exit rfl]
  refine hend _ ?_ ?_ ?_ ?_
  ·simp only [w1, ↓reduceIte, zA, h2]
  ·simp only [w1, ↓reduceIte, zA, h3]
  ·simp only [w1, ↓reduceIte, zA, h32]
  ·simp only [w1, ↓reduceIte, zA, h33]
 | succ k ih =>
  intro i fr hk h6 h7 h97 h98 h2 h3 h32 h33 hend
  have hi' : l[i]? = some l[i] := List.getElem?_eq_getElem (by omega)
  obtain ⟨b, o, e1, _, _, e4⟩ := h.row irow_len (by omega) hi'
  obtain ⟨b', o', e1', _, _, e4'⟩ := h'.row irow_len (by omega) hi'
  have q := e4 0 (by omega)
  have q' := e4' 0 (by omega)
  simp only [irow, List.getElem?_cons_zero, Option.map_some, Nat.add_zero] at q q'
  rw [hc] at e1
  rw [hc'] at e1'
  rw [hc] at l6
  rw [hc'] at l7
  rw [R_loop]
  simp only [rI, b40_0]
  simp only [w1, w2, ↓reduceIte, h97, h98]
  rw [decide_eq_true (by omega)]
  simp only [w1, w2, ↓reduceIte, zA, h6, h7, h98, l6, l7, e1, e1', q, q', bneq rfl]
  rw [small (by omega), R_lp]
  refine ih (i + 1) _ (by omega) ?_ ?_ ?_ ?_ ?_ ?_ ?_ ?_ hend
  ·simp only [w1, ↓reduceIte, zA, h6]
  ·simp only [w1, ↓reduceIte, zA, h7]
  ·simp only [w1, ↓reduceIte, zA, h97]
  ·simp only [w1, ↓reduceIte]; rfl
  ·simp only [w1, ↓reduceIte, zA, h2]
  ·simp only [w1, ↓reduceIte, zA, h3]
  ·simp only [w1, ↓reduceIte, zA, h32]
  ·simp only [w1, ↓reduceIte, zA, h33]

theorem wViewLoop {hi : Nat} {μ0 : Mem} {c c' : Cell} {g g' : Nat → Cell} {l : List PView} {n2 n3 : Nat} (h : Rd hi μ0 7 c l.length (cat (vrow g) 0 l)) (h' : Rd hi μ0 7 c' l.length (cat (vrow g') 0 l))
  (k1 : ∀ (i : Nat) (v : PView), l[i]? = some v → Rd hi μ0 1 (g i) v.regs.length (cat irow 0 v.regs)) (k2 : ∀ (i : Nat) (v : PView), l[i]? = some v → Rd hi μ0 1 (g' i) v.regs.length (cat irow 0 v.regs)) (hh : hi ≤ μ0.next) (hl : l.length ≤ 1000000000)
  (hlr : ∀ v ∈ l, v.regs.length ≤ 1000000000) (hn2 : n2 < μ0.next) (hn3 : n3 < μ0.next) (l2 : μ0.ld none n2 2 = some (.c c)) (l3 : μ0.ld none n3 2 = some (.c c')) {Q : Fr → Mem → Prop} {s : List It} :
 ∀ (k i : Nat) (fr : Fr) (μ : Mem), i + k = l.length → Same μ0.next μ0 μ → fr 2 = pt n2 0 → fr 3 = pt n3 0 → fr 32 = .c (.int .i64 l.length) → fr 33 = .c (.int .i64 i) → (∀ fr' μ', Same μ0.next μ0 μ' → R s fr' μ' Q) → R (.c (.loop b40_1) :: .blk 0 :: s) fr μ Q := by
 obtain ⟨a, cap, hc⟩ := h.slc
 obtain ⟨a', cap', hc'⟩ := h'.slc
 intro k
 induction k with
 | zero =>
  intro i fr μ hk hs h2 h3 h32 h33 hend
  rw [R_loop]
  simp only [rI, b40_1]
  simp only [w1, w2, ↓reduceIte, h32, h33]
  rw [decide_eq_false (by omega)]
  simp only [w1]
  rw [R_exit rfl]
  exact hend _ _ hs
 | succ k ih =>
  intro i fr μ hk hs h2 h3 h32 h33 hend
  have hi1 : i < l.length := by omega
  have hi' : l[i]? = some l[i] := List.getElem?_eq_getElem hi1
  obtain ⟨bi, bo, e1, e2, e3, e4⟩ := (h.same hs hh).row (vrow_len g) (by omega) hi'
  obtain ⟨bi', bo', e1', e2', e3', e4'⟩ := (h'.same hs hh).row (vrow_len g') (by omega) hi'
  have lc := ldo l2 hs hn2
  have lc' := ldo l3 hs hn3
  have m1' := (k1 i _ hi').same hs hh
  have m2' := (k2 i _ hi').same hs hh
  have hrl := hlr _ (List.mem_of_getElem? hi')
  generalize l[i] = v at *
  rw [hc] at e1 lc
  rw [hc'] at e1' lc'
  have hA : Same μ.next μ (μ.new (vrow g i v) 0) := Same.tmp (Nat.le_refl _)
  have nA : (μ.new (vrow g i v) 0).next = μ.next + 1 := rfl
  have lA : ∀ o y, (vrow g i v)[o]? = some y → (μ.new (vrow g i v) 0).ld none μ.next o = some (.c y) := fun o y e => new_ld0 e
  have e3w := ldo e3' hA (Nat.lt_of_lt_of_le e2' (Nat.le_trans hh hs.2))
  have lcw := ldo lc' hA (Nat.lt_of_lt_of_le hn3 hs.2)
  rw [R_loop]
  simp only [rI, b40_1]
  simp only [w1, w2, ↓reduceIte, h32, h33]
  rw [decide_eq_true (by omega)]
  have s1 := new_st0 (μ := μ) (cs := [.int .i64 0, .int .i64 0, .slc none 0 0, .int .i64 0, .int .i64 0, .int .i64 0, .int .i64 0]) (x := vrow g i v) (e := 0) rfl
  have e7 : ∀ f : Nat → Cell, (vrow f i v).length = 7 := fun f => rfl
  simp only [w1, w2, zH, zI, ↓reduceIte, zA, h2, h33, lc, e1, e3, e7, s1, h3, lcw, e1', e3w]
  generalize μ.new (vrow g i v) 0 = A at *
  have hB : Same A.next A (A.new (vrow g' i v) 0) := Same.tmp (Nat.le_refl _)
  have lA' : ∀ o y, (vrow g i v)[o]? = some y → (A.new (vrow g' i v) 0).ld none μ.next o = some (.c y) := fun o y e => ldo (lA o y e) hB (by omega)
  have lB : ∀ o y, (vrow g' i v)[o]? = some y → (A.new (vrow g' i v) 0).ld none A.next o = some (.c y) := fun o y e => new_ld0 e
  have s2 := new_st0 (μ := A) (cs := [.int .i64 0, .int .i64 0, .slc none 0 0, .int .i64 0, .int .i64 0, .int .i64 0, .int .i64 0]) (x := vrow g' i v) (e := 0) rfl
  have hAB := hA.trans (hB.mono hA.2)
  have m1'' := m1'.same hAB (Nat.le_trans hh hs.2)
  have m2'' := m2'.same hAB (Nat.le_trans hh hs.2)
  simp only [w2, s2]
  generalize A.new (vrow g' i v) 0 = B at *
  obtain ⟨x, xc, hx⟩ := m1''.slc
  obtain ⟨y, yc, hy⟩ := m2''.slc
  have x2 := lA' 2 _ rfl
  have y2 := lB 2 _ rfl
  have x2' := x2
  have y2' := y2
  rw [hx] at x2
  rw [hy] at y2
  simp only [w1, w2, ↓reduceIte, zA, lA' 0 _ rfl, lA' 1 _ rfl, lA' 3 _ rfl, lA' 4 _ rfl, lA' 5 _ rfl, lA' 6 _ rfl, lB 0 _ rfl, lB 1 _ rfl, lB 3 _ rfl, lB 4 _ rfl, lB 5 _ rfl, lB 6 _ rfl, x2, y2, bneq rfl]
  refine wRegLoop (n6 := μ.next) (n7 := A.next) (v2 := pt n2 0) (v3 := pt n3 0) (v32 := .c (.int .i64 l.length)) (v33 := .c (.int .i64 i)) m1'' m2'' hrl x2' y2' v.regs.length 0 _ (by omega) ?_ ?_ ?_ ?_ ?_ ?_ ?_ ?_ ?_
  ·simp only [w1, ↓reduceIte, zA]
  ·simp only [w1, ↓reduceIte, zA]
  ·simp only [w1, ↓reduceIte, zA]
  ·simp only [w1, ↓reduceIte]; rfl
  ·simp only [w1, ↓reduceIte, zA, h2]
  ·simp only [w1, ↓reduceIte, zA, h3]
  ·simp only [w1, ↓reduceIte, zA, h32]
  ·simp only [w1, ↓reduceIte, zA, h33]
  ·intro fr' g2 g3 g32 g33
   simp only [w1, w2, ↓reduceIte, g33]
   rw [small (by omega), R_lp]
   refine ih (i + 1) _ _ (by omega) (hs.trans (hAB.mono hs.2)) ?_ ?_ ?_ ?_ hend
   ·simp only [w1, ↓reduceIte, zA, g2]
   ·simp only [w1, ↓reduceIte, zA, g3]
   ·simp only [w1, ↓reduceIte, zA, g32]
   ·simp only [w1, ↓reduceIte]; rfl

theorem wStand_ok {hi : Nat} {μ : Mem} {v w : AV} {s : PStand} (h : StandV hi μ v s) (h' : StandV hi μ w s) (hh : hi ≤ μ.next) (hl : s.tasks.length ≤ 1000000000) (hlr : ∀ v ∈ s.tasks, v.regs.length ≤ 1000000000) :
 Ret 40 [v, w] μ fun z μ' => z = .c (.bool true) ∧ Same μ.next μ μ' := by
 obtain ⟨sc, g, rfl, h1, k1⟩ := h
 obtain ⟨sc', g', rfl, h2, k2⟩ := h'
 have hs : Same μ.next μ ((μ.new [.bool s.ok, .int .i64 s.running, sc] 0).new [.bool s.ok, .int .i64 s.running, sc'] 0) := (Same.tmp (Nat.le_refl _)).new (Nat.le_succ _)
 have hnx : ((μ.new [.bool s.ok, .int .i64 s.running, sc] 0).new [.bool s.ok, .int .i64 s.running, sc'] 0).next = μ.next + 2 := by simp only [Mem.new_next]
 have lx : ∀ o y, [Cell.bool s.ok, .int .i64 s.running, sc][o]? = some y → ((μ.new [.bool s.ok, .int .i64 s.running, sc] 0).new [.bool s.ok, .int .i64 s.running, sc'] 0).ld none μ.next o = some (.c y) := fun o y e => ldo (new_ld0 e) (Same.tmp (Nat.le_refl _)) (by simp only [Mem.new_next]; omega)
 have ly : ∀ o y, [Cell.bool s.ok, .int .i64 s.running, sc'][o]? = some y → ((μ.new [.bool s.ok, .int .i64 s.running, sc] 0).new [.bool s.ok, .int .i64 s.running, sc'] 0).ld none (μ.next + 1) o = some (.c y) := fun o y e => new_ld0 e
 refine Ret_of p40 (by simp [r40]) ?_
 simp only [rI, r40, frOf_2]
 simp only [w1, w2, zH, zI, ↓reduceIte, zA, zB, Mem.new_next]
 have i1 := fun i v hv => (k1 i v hv).same hs hh
 have i2 := fun i v hv => (k2 i v hv).same hs hh
 have a1 := h1.same hs hh
 have a2 := h2.same hs hh
 generalize (μ.new [.bool s.ok, .int .i64 s.running, sc] 0).new [.bool s.ok, .int .i64 s.running, sc'] 0 = μ1 at *
 obtain ⟨a, cap, hc⟩ := h1.slc
 obtain ⟨a', cap', hc'⟩ := h2.slc
 have x0 := lx 0 _ rfl
 have x1 := lx 1 _ rfl
 have x2 := lx 2 _ rfl
 have y0 := ly 0 _ rfl
 have y1 := ly 1 _ rfl
 have y2 := ly 2 _ rfl
 have x2' := x2
 have y2' := y2
 rw [hc] at x2
 rw [hc'] at y2
 simp only [w1, w2, ↓reduceIte, zA, x0, x1, x2, y0, y1, y2, bneq rfl, aeq, beq_self_eq_true]
 refine wViewLoop (hi := hi) (n2 := μ.next) (n3 := μ.next + 1) a1 a2 i1 i2 (by omega) hl hlr (by omega) (by omega) x2' y2' s.tasks.length 0 _ μ1 (by omega) Same.refl ?_ ?_ ?_ ?_ ?_
 ·simp only [w1, ↓reduceIte, zA]
 ·simp only [w1, ↓reduceIte, zA]
 ·simp only [w1, ↓reduceIte, zA]
 ·simp only [w1, ↓reduceIte]; rfl
 ·intro fr' μ2 hs2
  simp only [w1, w2, ↓reduceIte, aRet, aRes, aRes1]
  exact ⟨_, rfl, rfl, hs.trans (hs2.mono (by omega))⟩
end Go.Proofs.Ytibmnlijoeppaaa
