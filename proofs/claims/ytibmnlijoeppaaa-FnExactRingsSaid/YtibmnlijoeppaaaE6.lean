/-
  The exact law of Rings: rings are compared, marked, looked at again.
-/
import Derived.Test.YtibmnlijoeppaaaE2
namespace Go.Proofs.Ytibmnlijoeppaaa
open Nat renaming reduceEqDiff → zA, reduceAdd → zB, reduceLeDiff → zJ, reduceMul → zK
open Int renaming reduceLT → zC, reduceLE → zD, reduceNeg → zE, reduceBEq → zF, reduceBNe → zG
open AV renaming isTup → zH, cells → zI
set_option linter.unusedSimpArgs false
set_option linter.unusedVariables false

/-! 73: laws.eqRing -/
def r73 : RFun := ⟨16, [.tmp 4], (.seq (.reg [rI 0 (.box (.t 0) 2) 2, rI 1 (.box (.t 1) 2) 3, rI 2 (.mv (.k (.bool false))) 4]) (.seq (.seq (.reg [rI 0 (.fa (.t 2) 0) 5, rI 1 (.ld none (.t 5)) 6, rI 2 (.fa (.t 3) 0) 7, rI 3 (.ld none (.t 7)) 8, rI 4 (.bin .neq (.t 6) (.t 8)) 9]) (.ite (.t 9) (.seq (.reg [rI 0 (.mv (.k (.bool false))) 4]) .ret) .skip)) (.seq (.seq (.reg [rI 0 (.fa (.t 2) 1) 10, rI 1 (.ld none (.t 10)) 11, rI 2 (.fa (.t 3) 1) 12, rI 3 (.ld none (.t 12)) 13, rI 4 (.call 79 [.t 11, .t 13]) 14, rI 5 (.nt (.t 14)) 15]) (.ite (.t 15) (.seq (.reg [rI 0 (.mv (.k (.bool false))) 4]) .ret) .skip)) (.seq (.reg [rI 0 (.mv (.k (.bool true))) 4]) .ret))))⟩
theorem p73 : prog 73 = some r73 := by kernel_rfl

/-! 44: laws.eqRingS -/
def b44_0 : RCode := (.seq (.seq (.reg [rI 0 (.mv (.t 5)) 11, rI 1 (.mv (.t 0)) 12, rI 2 (.len (.t 12)) 13, rI 3 (.bin .lss (.t 11) (.t 13)) 14]) (.ite (.t 14) .skip (.exit 0))) (.seq (.blk 1 (.seq (.reg [rI 0 (.mv (.t 0)) 17, rI 1 (.mv (.t 5)) 18, rI 2 (.ias (.t 17) (.t 18) 2) 19, rI 4 (.mv (.t 1)) 21, rI 5 (.mv (.t 5)) 22, rI 6 (.ias (.t 21) (.t 22) 2) 23, rI 3 (.ld (some 2) (.t 19)) 20, rI 7 (.ld (some 2) (.t 23)) 24, rI 8 (.call 73 [.t 20, .t 24]) 25, rI 9 (.nt (.t 25)) 26]) (.ite (.t 26) (.seq (.reg [rI 0 (.mv (.k (.bool false))) 4]) .ret) .skip))) (.reg [rI 0 (.mv (.t 5)) 15, rI 1 (.bin .add (.t 15) (.k (.int .i64 1))) 16, rI 2 (.mv (.t 16)) 5])))
def r44 : RFun := ⟨27, [.tmp 4], (.seq (.reg [rI 0 (.mv (.k (.bool false))) 4]) (.seq (.seq (.reg [rI 0 (.mv (.t 0)) 6, rI 1 (.len (.t 6)) 7, rI 2 (.mv (.t 1)) 8, rI 3 (.len (.t 8)) 9, rI 4 (.bin .neq (.t 7) (.t 9)) 10]) (.ite (.t 10) (.seq (.reg [rI 0 (.mv (.k (.bool false))) 4]) .ret) .skip)) (.seq (.seq (.reg [rI 0 (.mv (.k (.int .i64 0))) 5]) (.blk 0 (.loop b44_0))) (.seq (.reg [rI 0 (.mv (.k (.bool true))) 4]) .ret))))⟩
theorem p44 : prog 44 = some r44 := by kernel_rfl

/-! 46: laws.markRingS -/
def b46_0 : RCode := (.seq (.seq (.reg [rI 0 (.mv (.t 5)) 6, rI 1 (.mv (.t 0)) 7, rI 2 (.len (.t 7)) 8, rI 3 (.bin .lss (.t 6) (.t 8)) 9]) (.ite (.t 9) .skip (.exit 0))) (.seq (.blk 1 (.seq (.reg [rI 0 (.mv (.t 0)) 12, rI 1 (.mv (.t 5)) 13, rI 2 (.mv (.t 1)) 14, rI 3 (.ias (.t 12) (.t 13) 2) 15, rI 4 (.fa (.t 15) 0) 16, ⟨5, .st (.t 16) (.t 14) 1, none, none, []⟩]) (.seq (.reg [rI 0 (.mv (.t 1)) 17, rI 1 (.bin .add (.t 17) (.k (.int .i64 1))) 18, rI 2 (.mv (.t 18)) 1]) (.reg [rI 0 (.mv (.t 0)) 19, rI 1 (.mv (.t 5)) 20, rI 2 (.ias (.t 19) (.t 20) 2) 21, rI 3 (.fa (.t 21) 1) 22, rI 4 (.ld none (.t 22)) 23, rI 5 (.mv (.t 1)) 24, rI 6 (.call 75 [.t 23, .t 24]) 25, rI 7 (.mv (.t 25)) 1])))) (.reg [rI 0 (.mv (.t 5)) 10, rI 1 (.bin .add (.t 10) (.k (.int .i64 1))) 11, rI 2 (.mv (.t 11)) 5])))
def r46 : RFun := ⟨27, [.tmp 4], (.seq (.reg [rI 0 (.mv (.k (.int .i64 0))) 4]) (.seq (.seq (.reg [rI 0 (.mv (.k (.int .i64 0))) 5]) (.blk 0 (.loop b46_0))) (.seq (.reg [rI 0 (.mv (.t 1)) 26, rI 1 (.mv (.t 26)) 4]) .ret)))⟩
theorem p46 : prog 46 = some r46 := by kernel_rfl

/-! 47: laws.heldRingS -/
def b47_0 : RCode := (.seq (.seq (.reg [rI 0 (.mv (.t 5)) 6, rI 1 (.mv (.t 0)) 7, rI 2 (.len (.t 7)) 8, rI 3 (.bin .lss (.t 6) (.t 8)) 9]) (.ite (.t 9) .skip (.exit 0))) (.seq (.blk 1 (.seq (.seq (.reg [rI 0 (.mv (.t 0)) 12, rI 1 (.mv (.t 5)) 13, rI 2 (.ias (.t 12) (.t 13) 2) 14, rI 3 (.fa (.t 14) 0) 15, rI 4 (.ld none (.t 15)) 16, rI 5 (.mv (.t 1)) 17, rI 6 (.bin .neq (.t 16) (.t 17)) 18]) (.ite (.t 18) (.seq (.reg [rI 0 (.mv (.k (.int .i64 (-1)))) 4]) .ret) .skip)) (.seq (.reg [rI 0 (.mv (.t 1)) 19, rI 1 (.bin .add (.t 19) (.k (.int .i64 1))) 20, rI 2 (.mv (.t 20)) 1]) (.seq (.reg [rI 0 (.mv (.t 0)) 21, rI 1 (.mv (.t 5)) 22, rI 2 (.ias (.t 21) (.t 22) 2) 23, rI 3 (.fa (.t 23) 1) 24, rI 4 (.ld none (.t 24)) 25, rI 5 (.mv (.t 1)) 26, rI 6 (.call 76 [.t 25, .t 26]) 27, rI 7 (.mv (.t 27)) 1]) (.seq (.reg [rI 0 (.mv (.t 1)) 28, rI 1 (.bin .lss (.t 28) (.k (.int .i64 0))) 29]) (.ite (.t 29) (.seq (.reg [rI 0 (.mv (.k (.int .i64 (-1)))) 4]) .ret) .skip)))))) (.reg [rI 0 (.mv (.t 5)) 10, rI 1 (.bin .add (.t 10) (.k (.int .i64 1))) 11, rI 2 (.mv (.t 11)) 5])))
def r47 : RFun := ⟨31, [.tmp 4], (.seq (.reg [rI 0 (.mv (.k (.int .i64 0))) 4]) (.seq (.seq (.reg [rI 0 (.mv (.k (.int .i64 0))) 5]) (.blk 0 (.loop b47_0))) (.seq (.reg [rI 0 (.mv (.t 1)) 30, rI 1 (.mv (.t 30)) 4]) .ret)))⟩
theorem p47 : prog 47 = some r47 := by kernel_rfl



def grow (g : Nat → Cell) (i : Nat) (r : PRing) : List Cell := [.int .i64 r.pos, g i]
theorem grow_len (g : Nat → Cell) (i : Nat) (r : PRing) : (grow g i r).length = 2 := rfl

theorem eqRing_ok {hi : Nat} {μ : Mem} {c c' : Cell} {r : PRing} (h : Rd hi μ 1 c r.tasks.length (cat irow 0 r.tasks)) (h' : Rd hi μ 1 c' r.tasks.length (cat irow 0 r.tasks)) (hh : hi ≤ μ.next) (hl : r.tasks.length ≤ 1000000000) :
    Ret 73 [.agg [.int .i64 r.pos, c], .agg [.int .i64 r.pos, c']] μ fun v μ' => v = .c (.bool true) ∧ Same μ.next μ μ' := by
  have hs : Same μ.next μ ((μ.new [.int .i64 r.pos, c] 0).new [.int .i64 r.pos, c'] 0) := (Same.tmp (Nat.le_refl _)).new (Nat.le_succ _)
  refine Ret_of p73 (by simp [r73]) ?_
  simp only [rI, r73, frOf_2]
  simp only [w1, w2, zH, zI, ↓reduceIte, zA, zB, zC, zD, zE, zF, zG, m1, m2, stl, wr, rd, aRet, aRes, aRes1, toCells, zJ, zK]
  refine R_calls (l := [.c c, .c c']) (by simp only [w1, w2, zH, zI, ↓reduceIte, zA, zB, zC, zD, zE, zF, zG]) (eqInt_ok p79 (h.same hs hh) (h'.same hs hh) hl) ?_
  rintro v μ' ⟨rfl, rfl⟩
  simp only [w1, w2, zH, zI, ↓reduceIte, zA, zB, zC, zD, zE, zF, zG, aRet, aRes, aRes1]
  first | exact ⟨_, rfl, rfl, hs⟩ | exact hs

theorem eqRingLoop {hi : Nat} {μ0 : Mem} {c c' : Cell} {g g' : Nat → Cell} {l : List PRing} (h : Rd hi μ0 2 c l.length (cat (grow g) 0 l)) (h' : Rd hi μ0 2 c' l.length (cat (grow g') 0 l))
    (k1 : ∀ (i : Nat) (r : PRing), l[i]? = some r → Rd hi μ0 1 (g i) r.tasks.length (cat irow 0 r.tasks)) (k2 : ∀ (i : Nat) (r : PRing), l[i]? = some r → Rd hi μ0 1 (g' i) r.tasks.length (cat irow 0 r.tasks)) (hh : hi ≤ μ0.next) (hl : l.length ≤ 1000000000)
    (hlr : ∀ r ∈ l, r.tasks.length ≤ 1000000000) {Q : Fr → Mem → Prop} {s : List It} :
    ∀ (k i : Nat) (fr : Fr) (μ : Mem), i + k = l.length → Same μ0.next μ0 μ → fr 0 = .c c → fr 1 = .c c' → fr 5 = .c (.int .i64 i) → (∀ fr' μ', Same μ0.next μ0 μ' → R s fr' μ' Q) → R (.c (.loop b44_0) :: .blk 0 :: s) fr μ Q := by
  intro k
  induction k with
  | zero =>
    intro i fr μ hk hs h0 h1 h5 hgood
    obtain ⟨a, cap, hc⟩ := h.slc
    rw [R_loop]
    simp only [rI, b44_0]
    simp only [w1, w2, zH, zI, ↓reduceIte, zA, zB, zC, zD, zE, zF, zG, h0, h5, hc]
    rw [decide_eq_false (by omega)]
    simp only [w1, w2, zH, zI, ↓reduceIte, zA, zB, zC, zD, zE, zF, zG]
    rw [R_exit rfl]
    exact hgood _ _ hs
  | succ k ih =>
    intro i fr μ hk hs h0 h1 h5 hgood
    have hi1 : i < l.length := by omega
    have hi' : l[i]? = some l[i] := List.getElem?_eq_getElem hi1
    obtain ⟨bi, bo, e1, e2, e3, e4⟩ := (h.same hs hh).row (grow_len g) (by omega) hi'
    obtain ⟨bi', bo', e1', e2', e3', e4'⟩ := (h'.same hs hh).row (grow_len g') (by omega) hi'
    simp only [grow] at e3 e3'
    obtain ⟨a, cap, hc⟩ := h.slc
    obtain ⟨a', cap', hc'⟩ := h'.slc
    rw [hc] at e1
    rw [hc'] at e1'
    rw [R_loop]
    simp only [rI, b44_0]
    simp only [w1, w2, zH, zI, ↓reduceIte, zA, zB, zC, zD, zE, zF, zG, h0, h5, hc]
    rw [decide_eq_true (by omega)]
    simp only [w1, w2, zH, zI, ↓reduceIte, zA, zB, zC, zD, zE, zF, zG, h0, h1, h5, hc, hc', e1, e3, e1', e3']
    refine R_calls rfl (by simp only [w1, w2, zH, zI, ↓reduceIte, zA, zB, zC, zD, zE, zF, zG]; exact eqRing_ok ((k1 i _ hi').same hs hh) ((k2 i _ hi').same hs hh) (Nat.le_trans hh hs.2) (hlr _ (List.mem_of_getElem? hi'))) ?_
    rintro v μ' ⟨rfl, hs1⟩
    simp only [w1, w2, zH, zI, ↓reduceIte, zA, zB, zC, zD, zE, zF, zG, h5]
    rw [small (by omega), R_lp]
    refine ih (i + 1) _ _ (by omega) (hs.trans (hs1.mono hs.2)) ?_ ?_ ?_ hgood
    · simp only [w1, w2, zH, zI, ↓reduceIte, zA, zB, zC, zD, zE, zF, zG, h0]
    · simp only [w1, w2, zH, zI, ↓reduceIte, zA, zB, zC, zD, zE, zF, zG, h1]
    · simp only [w1, w2, zH, zI, ↓reduceIte, zA, zB, zC, zD, zE, zF, zG]; rfl

theorem eqRings_ok {hi : Nat} {μ : Mem} {c c' : Cell} {l : List PRing} (h : RingsV hi μ c l) (h' : RingsV hi μ c' l) (hh : hi ≤ μ.next) (hl : l.length ≤ 1000000000) (hlr : ∀ r ∈ l, r.tasks.length ≤ 1000000000) :
    Ret 44 [.c c, .c c'] μ fun v μ' => v = .c (.bool true) ∧ Same μ.next μ μ' := by
  obtain ⟨g, h1, k1⟩ := h
  obtain ⟨g', h2, k2⟩ := h'
  obtain ⟨a, cap, hc⟩ := h1.slc
  obtain ⟨a', cap', hc'⟩ := h2.slc
  refine Ret_of p44 (by simp [r44]) ?_
  simp only [rI, r44, frOf_2]
  simp only [w1, w2, zH, zI, ↓reduceIte, zA, zB, zC, zD, zE, zF, zG, hc, hc', bneq rfl]
  refine eqRingLoop h1 h2 k1 k2 hh hl hlr l.length 0 _ _ (by omega) Same.refl ?_ ?_ ?_ ?_
  · simp only [w1, w2, zH, zI, ↓reduceIte, zA, zB, zC, zD, zE, zF, zG, hc]
  · simp only [w1, w2, zH, zI, ↓reduceIte, zA, zB, zC, zD, zE, zF, zG, hc']
  · simp only [w1, w2, zH, zI, ↓reduceIte, zA, zB, zC, zD, zE, zF, zG]; rfl
  · intro fr' μ' hs
    simp only [w1, w2, zH, zI, ↓reduceIte, zA, zB, zC, zD, zE, zF, zG, aRet, aRes, aRes1]
    first | exact ⟨_, rfl, rfl, hs⟩ | exact hs

/-- Rings marked from n on. -/
def rgMarked : Nat → List PRing → List PRing
  | _, [] => []
  | n, r :: l => ⟨(n : Nat), (List.range r.tasks.length).map (imark (n + 1))⟩ :: rgMarked (n + 1 + r.tasks.length) l
def rgTot : List PRing → Nat
  | [] => 0
  | r :: l => 1 + r.tasks.length + rgTot l
theorem rgMarked_len : ∀ {l : List PRing} {n : Nat}, (rgMarked n l).length = l.length
  | [], _ => rfl
  | r :: l, n => by simp only [rgMarked, List.length_cons, rgMarked_len]
theorem rgTot_app : ∀ {a b : List PRing}, rgTot (a ++ b) = rgTot a + rgTot b
  | [], b => by simp [rgTot]
  | r :: a, b => by simp only [List.cons_append, rgTot, rgTot_app]; omega
theorem rgMarked_app : ∀ {a b : List PRing} {n : Nat}, rgMarked n (a ++ b) = rgMarked n a ++ rgMarked (n + rgTot a) b
  | [], b, n => rfl
  | r :: a, b, n => by
    simp only [List.cons_append, rgMarked, rgMarked_app, rgTot]
    congr 3; omega
theorem rgMarked_get {l : List PRing} {n j : Nat} (h : j < l.length) : (rgMarked n l)[j]? = some ⟨((n + rgTot (l.take j) : Nat) : Int), (List.range l[j].tasks.length).map (imark (n + rgTot (l.take j) + 1))⟩ := by
  have e : l = l.take j ++ l[j] :: l.drop (j + 1) := by rw [← List.drop_eq_getElem_cons h, List.take_append_drop]
  have hl : (rgMarked n (l.take j)).length = j := by rw [rgMarked_len, List.length_take]; omega
  have e2 : rgMarked n l = rgMarked n (l.take j) ++ rgMarked (n + rgTot (l.take j)) (l[j] :: l.drop (j + 1)) := by rw [← rgMarked_app, ← e]
  rw [e2, List.getElem?_append_right (by omega), hl, Nat.sub_self]
  rfl
theorem rgTot_take {l : List PRing} {j : Nat} (h : j < l.length) : rgTot (l.take (j + 1)) = rgTot (l.take j) + 1 + l[j].tasks.length ∧ rgTot (l.take (j + 1)) ≤ rgTot l := by
  have h1 : l.take (j + 1) = l.take j ++ [l[j]] := List.take_succ_eq_append_getElem h
  refine ⟨by rw [h1, rgTot_app]; simp [rgTot]; omega, ?_⟩
  have : rgTot l = rgTot (l.take (j + 1)) + rgTot (l.drop (j + 1)) := by rw [← rgTot_app, List.take_append_drop]
  omega

/-- Rings whose parts lie above 'lo' and apart. -/
structure RingsH (lo : Nat) (μ : Mem) (L : Lay IR) (C : Con IR) (l : List PRing) : Prop where
  has : Has L C lo μ
  rows : C .rings = some (2, cat (ringrow L) 0 l)
  each : ∀ (i : Nat) (r : PRing), l[i]? = some r → C (.ring i) = some (1, cat irow 0 r.tasks)

theorem RingsH.v {lo : Nat} {μ : Mem} {L : Lay IR} {C : Con IR} {l : List PRing} (h : RingsH lo μ L C l) : RingsV μ.next μ (L.sc .rings l.length) l := by
  refine ⟨fun i => match l[i]? with | some r => L.sc (.ring i) r.tasks.length | none => .slc none 0 0, ?_, fun i r hr => ?_⟩
  · have := h.has.rd h.rows (n := l.length) (by rw [cat_length (ringrow_len L)]) (by omega)
    rw [cat_congr (g := fun i (r : PRing) => [Cell.int .i64 r.pos, match l[i]? with | some r => L.sc (.ring i) r.tasks.length | none => .slc none 0 0]) (g' := ringrow L) fun j g hj => by
      simp only [Nat.zero_add, hj, ringrow]]
    exact this
  · simp only [hr]
    exact h.has.rd (h.each i r hr) (by rw [cat_length irow_len]) (by omega)

theorem markRingLoop {L : Lay IR} {lo n : Nat} {μ0 : Mem} {l : List PRing} (hb : n + rgTot l ≤ 1000000000) (hl : l.length ≤ 1000000) {s : List It} {Q : Fr → Mem → Prop} :
    ∀ (k j : Nat) (C : Con IR) (fr : Fr) (μ : Mem), j + k = l.length → RingsH lo μ L C (rgMarked n (l.take j) ++ l.drop j) → OnlyIn L lo μ0 μ → fr 0 = .c (L.sc .rings l.length) → fr 1 = .c (.int .i64 ((n + rgTot (l.take j) : Nat) : Int)) → fr 5 = .c (.int .i64 j) →
      (∀ fr' μ' C', RingsH lo μ' L C' (rgMarked n l) → OnlyIn L lo μ0 μ' → fr' 1 = .c (.int .i64 ((n + rgTot l : Nat) : Int)) → R s fr' μ' Q) → R (.c (.loop b46_0) :: .blk 0 :: s) fr μ Q := by
  intro k
  induction k with
  | zero =>
    intro j C fr μ hj h ho f0 f1 f5 hend
    obtain rfl : j = l.length := by omega
    rw [List.take_length, List.drop_length, List.append_nil] at h
    rw [List.take_length] at f1
    obtain ⟨a, c, hs⟩ := h.has.scf h.rows (n := l.length) (by rw [cat_length (ringrow_len L), rgMarked_len]) (by omega)
    rw [R_loop]
    simp only [rI, b46_0]
    simp only [w1, w2, zH, zI, ↓reduceIte, zA, zB, zC, zD, zE, zF, zG, f0, f5, hs]
    rw [decide_eq_false (by omega)]
    simp only [w1, w2, zH, zI, ↓reduceIte, zA, zB, zC, zD, zE, zF, zG]
    rw [R_exit rfl]
    exact hend _ μ C h ho (by simp only [w1, w2, zH, zI, ↓reduceIte, zA, zB, zC, zD, zE, zF, zG, f1])
  | succ k ih =>
    intro j C fr μ hj h ho f0 f1 f5 hend
    have hlt : j < l.length := by omega
    have hml : (rgMarked n (l.take j)).length = j := by rw [rgMarked_len, List.length_take]; omega
    have hcl : (rgMarked n (l.take j) ++ l.drop j).length = l.length := by rw [List.length_append, hml, List.length_drop]; omega
    have hdrop : l.drop j = l[j] :: l.drop (j + 1) := List.drop_eq_getElem_cons hlt
    have hget : (rgMarked n (l.take j) ++ l.drop j)[j]? = some l[j] := by
      rw [List.getElem?_append_right (by omega), hml, Nat.sub_self, hdrop]; rfl
    have hlen : (cat (ringrow L) 0 (rgMarked n (l.take j) ++ l.drop j)).length = l.length * 2 := by rw [cat_length (ringrow_len L), hcl]
    have hidx := h.has.slot h.rows hlen (by omega) hlt
    obtain ⟨a, c, hs⟩ := h.has.scf h.rows hlen (by omega)
    have hne : cat (ringrow L) 0 (rgMarked n (l.take j) ++ l.drop j) ≠ [] := by intro hh; rw [hh] at hlen; simp at hlen; omega
    have hon : L.on .rings = true := h.has.on h.rows (.inr hne)
    obtain ⟨ht1, ht2⟩ := rgTot_take hlt
    obtain ⟨μ1, e1, h1, _, n1, o1⟩ := h.has.st h.rows (o := j * 2 + 0) (new := [.int .i64 ((n + rgTot (l.take j) : Nat) : Int)]) (.inr hne) (by rw [hlen]; simp; omega)
    rw [cat_wr (ringrow_len L) (a' := ⟨((n + rgTot (l.take j) : Nat) : Int), (List.range l[j].tasks.length).map (imark (n + rgTot (l.take j) + 1))⟩) hget (by simp) (by simp only [ringrow, wr, List.set_cons_zero, List.length_map, List.length_range])] at h1
    have hset : (rgMarked n (l.take j) ++ l.drop j).set j ⟨((n + rgTot (l.take j) : Nat) : Int), (List.range l[j].tasks.length).map (imark (n + rgTot (l.take j) + 1))⟩ = rgMarked n (l.take (j + 1)) ++ l.drop (j + 1) := by
      have h2 : l.take (j + 1) = l.take j ++ [l[j]] := List.take_succ_eq_append_getElem hlt
      rw [h2, rgMarked_app, hdrop, List.set_append_right _ _ (by omega), hml, Nat.sub_self, List.set_cons_zero, List.append_assoc]
      rfl
    rw [hset] at h1
    have hC1 : (C.upd .rings (2, cat (ringrow L) 0 (rgMarked n (l.take (j + 1)) ++ l.drop (j + 1)))) .rings = some (2, cat (ringrow L) 0 (rgMarked n (l.take (j + 1)) ++ l.drop (j + 1))) := by simp only [Con.upd, if_true]
    have hml' : (rgMarked n (l.take (j + 1))).length = j + 1 := by rw [rgMarked_len, List.length_take]; omega
    have hcl' : (rgMarked n (l.take (j + 1)) ++ l.drop (j + 1)).length = l.length := by rw [List.length_append, hml', List.length_drop]; omega
    have hget' : (rgMarked n (l.take (j + 1)) ++ l.drop (j + 1))[j]? = some ⟨((n + rgTot (l.take j) : Nat) : Int), (List.range l[j].tasks.length).map (imark (n + rgTot (l.take j) + 1))⟩ := by
      rw [← hset, List.getElem?_set_self (by rw [hcl]; exact hlt)]
    have l1 : μ1.ld none (L.id .rings) (j * 2 + 1) = some (.c (L.sc (.ring j) l[j].tasks.length)) := by
      refine h1.ldc hC1 ?_
      rw [cat_get (ringrow_len L) hget' (by omega)]
      simp only [ringrow, List.getElem?_cons_succ, List.getElem?_cons_zero, List.length_map, List.length_range, Nat.zero_add]
    have hms := markInt_ok p75 (n := n + rgTot (l.take j) + 1) (r := IR.ring j) (l := l[j].tasks) (by omega) h1 (by simp only [Con.upd]; rw [if_neg (by intro hh; cases hh)]; exact h.each j _ hget)
    rw [hs] at hidx f0
    have q1 : IntKind.i64.wrap (((n + rgTot (l.take j) : Nat) : Int) + 1) = ((n + rgTot (l.take j) + 1 : Nat) : Int) := by rw [small (by omega)]; omega
    rw [R_loop]
    simp only [rI, b46_0]
    simp only [w1, w2, zH, zI, ↓reduceIte, zA, zB, zC, zD, zE, zF, zG, f0, f5]
    rw [decide_eq_true (by omega)]
    simp only [w1, w2, zH, zI, ↓reduceIte, zA, zB, zC, zD, zE, zF, zG, f0, f1, f5, hidx, e1, q1, l1]
    refine R_calls (l := [.c (L.sc (.ring j) l[j].tasks.length), .c (.int .i64 ((n + rgTot (l.take j) + 1 : Nat) : Int))]) (by simp only [w1, w2, zH, zI, ↓reduceIte, zA, zB, zC, zD, zE, zF, zG]) hms ?_
    rintro v μ2 ⟨rfl, h2, n2, o2⟩
    simp only [w1, w2, zH, zI, ↓reduceIte, zA, zB, zC, zD, zE, zF, zG, f5]
    rw [small (by omega), R_lp]
    refine ih (j + 1) _ _ μ2 (by omega) ⟨h2, ?_, fun i r hr => ?_⟩ ⟨n2.trans (n1.trans ho.1), fun b hb => ?_⟩ ?_ ?_ ?_ hend
    · simp only [Con.upd]; rw [if_neg (by intro hh; cases hh)]; rfl
    · by_cases hi : i = j
      · subst hi
        rw [hget'] at hr
        simp only [Option.some.injEq] at hr
        subst hr
        simp only [Con.upd]; rw [if_pos trivial]
      · simp only [Con.upd]
        rw [if_neg (by intro hh; injection hh with hh; exact hi hh), if_neg (by intro hh; cases hh)]
        refine h.each i r ?_
        rw [← hset, List.getElem?_set_ne (fun e => hi e.symm)] at hr
        exact hr
    · exact (o2 b fun hn e => hb _ hn e.symm).trans ((o1 b fun e => hb _ hon e.symm).trans (ho.2 b hb))
    · simp only [w1, w2, zH, zI, ↓reduceIte, zA, zB, zC, zD, zE, zF, zG, f0, hs]
    · simp only [w1, w2, zH, zI, ↓reduceIte, zA, zB, zC, zD, zE, zF, zG]; congr 2; omega
    · simp only [w1, w2, zH, zI, ↓reduceIte, zA, zB, zC, zD, zE, zF, zG]; rfl

theorem markRings_ok {L : Lay IR} {lo n : Nat} {μ : Mem} {C : Con IR} {l : List PRing} (hb : n + rgTot l ≤ 1000000000) (hl : l.length ≤ 1000000) (h : RingsH lo μ L C l) :
    Ret 46 [.c (L.sc .rings l.length), .c (.int .i64 n)] μ fun v μ' => v = .c (.int .i64 ((n + rgTot l : Nat) : Int)) ∧ (∃ C', RingsH lo μ' L C' (rgMarked n l)) ∧ OnlyIn L lo μ μ' := by
  refine Ret_of p46 (by simp [r46]) ?_
  simp only [rI, r46, frOf_2]
  simp only [w1, w2, zH, zI, ↓reduceIte, zA, zB, zC, zD, zE, zF, zG]
  refine markRingLoop (n := n) hb hl l.length 0 C _ _ (by omega) (by rw [List.take_zero, List.drop_zero]; exact h) ⟨rfl, fun _ _ => rfl⟩ ?_ ?_ ?_ ?_
  · simp only [w1, w2, zH, zI, ↓reduceIte, zA, zB, zC, zD, zE, zF, zG]
  · simp only [w1, w2, zH, zI, ↓reduceIte, zA, zB, zC, zD, zE, zF, zG]; rfl
  · simp only [w1, w2, zH, zI, ↓reduceIte, zA, zB, zC, zD, zE, zF, zG]; rfl
  · intro fr' μ' C' a1 a2 a3
    simp only [w1, w2, zH, zI, ↓reduceIte, zA, zB, zC, zD, zE, zF, zG, a3, aRet, aRes, aRes1]
    exact ⟨_, rfl, rfl, ⟨C', a1⟩, a2⟩

theorem heldRingLoop {hi : Nat} {μ0 : Mem} {c : Cell} {n : Nat} {l : List PRing} (hb : n + rgTot l ≤ 1000000000) (hl : l.length ≤ 1000000) (h : RingsV hi μ0 c (rgMarked n l)) {s : List It} {Q : Fr → Mem → Prop} :
    ∀ (k j : Nat) (fr : Fr), j + k = l.length → fr 0 = .c c → fr 1 = .c (.int .i64 ((n + rgTot (l.take j) : Nat) : Int)) → fr 5 = .c (.int .i64 j) →
      (∀ fr', fr' 1 = .c (.int .i64 ((n + rgTot l : Nat) : Int)) → R s fr' μ0 Q) → R (.c (.loop b47_0) :: .blk 0 :: s) fr μ0 Q := by
  obtain ⟨g, h1, k1⟩ := h
  obtain ⟨a, cap, hc⟩ := h1.slc
  rw [rgMarked_len] at hc
  intro k
  induction k with
  | zero =>
    intro j fr hj f0 f1 f5 hend
    obtain rfl : j = l.length := by omega
    rw [List.take_length] at f1
    rw [R_loop]
    simp only [rI, b47_0]
    simp only [w1, w2, zH, zI, ↓reduceIte, zA, zB, zC, zD, zE, zF, zG, f0, f5, hc]
    rw [decide_eq_false (by omega)]
    simp only [w1, w2, zH, zI, ↓reduceIte, zA, zB, zC, zD, zE, zF, zG]
    rw [R_exit rfl]
    exact hend _ (by simp only [w1, w2, zH, zI, ↓reduceIte, zA, zB, zC, zD, zE, zF, zG, f1])
  | succ k ih =>
    intro j fr hj f0 f1 f5 hend
    have hlt : j < l.length := by omega
    have hget := rgMarked_get (n := n) hlt
    obtain ⟨ht1, ht2⟩ := rgTot_take hlt
    obtain ⟨b, o, e1, _, _, e4⟩ := h1.row (grow_len g) (by omega) hget
    have d0 := e4 0 (by omega)
    have d1 := e4 1 (by omega)
    simp only [grow, List.getElem?_cons_zero, List.getElem?_cons_succ, Option.map_some] at d0 d1
    have hk := k1 j _ hget
    simp only [List.length_map, List.length_range] at hk
    have hh := heldInt_ok p76 (n := n + rgTot (l.take j) + 1) (m := l[j].tasks.length) (by omega) hk
    rw [hc] at e1
    have q1 : IntKind.i64.wrap (((n + rgTot (l.take j) : Nat) : Int) + 1) = ((n + rgTot (l.take j) + 1 : Nat) : Int) := by rw [small (by omega)]; omega
    rw [R_loop]
    simp only [rI, b47_0]
    simp only [w1, w2, zH, zI, ↓reduceIte, zA, zB, zC, zD, zE, zF, zG, f0, f5, hc]
    rw [decide_eq_true (by omega)]
    simp only [w1, w2, zH, zI, ↓reduceIte, zA, zB, zC, zD, zE, zF, zG, f0, f1, f5, hc, e1, d0, bneq rfl, q1, d1]
    refine R_calls (l := [.c (g j), .c (.int .i64 ((n + rgTot (l.take j) + 1 : Nat) : Int))]) (by simp only [w1, w2, zH, zI, ↓reduceIte, zA, zB, zC, zD, zE, zF, zG]) hh ?_
    rintro v μ' ⟨rfl, rfl⟩
    simp only [w1, w2, zH, zI, ↓reduceIte, zA, zB, zC, zD, zE, zF, zG]
    rw [decide_eq_false (by omega)]
    simp only [w1, w2, zH, zI, ↓reduceIte, zA, zB, zC, zD, zE, zF, zG, f5]
    rw [small (by omega), R_lp]
    refine ih (j + 1) _ (by omega) ?_ ?_ ?_ hend
    · simp only [w1, w2, zH, zI, ↓reduceIte, zA, zB, zC, zD, zE, zF, zG, f0]
    · simp only [w1, w2, zH, zI, ↓reduceIte, zA, zB, zC, zD, zE, zF, zG]; congr 2; omega
    · simp only [w1, w2, zH, zI, ↓reduceIte, zA, zB, zC, zD, zE, zF, zG]; rfl

theorem heldRings_ok {hi : Nat} {μ : Mem} {c : Cell} {n : Nat} {l : List PRing} (hb : n + rgTot l ≤ 1000000000) (hl : l.length ≤ 1000000) (h : RingsV hi μ c (rgMarked n l)) :
    Ret 47 [.c c, .c (.int .i64 n)] μ fun v μ' => v = .c (.int .i64 ((n + rgTot l : Nat) : Int)) ∧ μ' = μ := by
  refine Ret_of p47 (by simp [r47]) ?_
  simp only [rI, r47, frOf_2]
  simp only [w1, w2, zH, zI, ↓reduceIte, zA, zB, zC, zD, zE, zF, zG]
  refine heldRingLoop (n := n) hb hl h l.length 0 _ (by omega) ?_ ?_ ?_ ?_
  · simp only [w1, w2, zH, zI, ↓reduceIte, zA, zB, zC, zD, zE, zF, zG]
  · simp only [w1, w2, zH, zI, ↓reduceIte, zA, zB, zC, zD, zE, zF, zG]; rfl
  · simp only [w1, w2, zH, zI, ↓reduceIte, zA, zB, zC, zD, zE, zF, zG]; rfl
  · intro fr' a3
    simp only [w1, w2, zH, zI, ↓reduceIte, zA, zB, zC, zD, zE, zF, zG, a3, aRet, aRes, aRes1]
    exact ⟨_, rfl, rfl⟩
end Go.Proofs.Ytibmnlijoeppaaa
