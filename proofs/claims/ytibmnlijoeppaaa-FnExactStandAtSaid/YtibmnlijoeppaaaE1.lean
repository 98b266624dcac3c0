/-
 The exact laws: numbers are compared, marked, looked at again.
-/
import Derived.Test.YtibmnlijoeppaaaH2
namespace Go.Proofs.Ytibmnlijoeppaaa
open Nat renaming reduceEqDiff → zA, reduceAdd → zB, reduceLeDiff → zJ, reduceMul → zK
open Int renaming reduceLT → zC, reduceLE → zD, reduceNeg → zE, reduceBEq → zF, reduceBNe → zG
open AV renaming isTup → zH, cells → zI
set_option linter.unusedSimpArgs false
set_option linter.unusedVariables false

/-! 75: laws.markIntS -/
def b75_0 : RCode := (.seq (.seq (.reg [rI 0 (.mv (.t 5)) 6, rI 1 (.mv (.t 0)) 7, rI 2 (.len (.t 7)) 8, rI 3 (.bin .lss (.t 6) (.t 8)) 9]) (.ite (.t 9) .skip (.exit 0))) (.seq (.blk 1 (.seq (.reg [rI 0 (.mv (.t 0)) 12, rI 1 (.mv (.t 5)) 13, rI 2 (.mv (.t 1)) 14, rI 3 (.ias (.t 12) (.t 13) 1) 15, ⟨4, .st (.t 15) (.t 14) 1, none, none, []⟩]) (.reg [rI 0 (.mv (.t 1)) 16, rI 1 (.bin .add (.t 16) (.k (.int .i64 1))) 17, rI 2 (.mv (.t 17)) 1]))) (.reg [rI 0 (.mv (.t 5)) 10, rI 1 (.bin .add (.t 10) (.k (.int .i64 1))) 11, rI 2 (.mv (.t 11)) 5])))
def r75 : RFun := ⟨19, [.tmp 4], (.seq (.reg [rI 0 (.mv (.k (.int .i64 0))) 4]) (.seq (.seq (.reg [rI 0 (.mv (.k (.int .i64 0))) 5]) (.blk 0 (.loop b75_0))) (.seq (.reg [rI 0 (.mv (.t 1)) 18, rI 1 (.mv (.t 18)) 4]) .ret)))⟩
theorem p75 : prog 75 = some r75 := by kernel_rfl

/-! 76: laws.heldIntS -/
def b76_0 : RCode := (.seq (.seq (.reg [rI 0 (.mv (.t 5)) 6, rI 1 (.mv (.t 0)) 7, rI 2 (.len (.t 7)) 8, rI 3 (.bin .lss (.t 6) (.t 8)) 9]) (.ite (.t 9) .skip (.exit 0))) (.seq (.blk 1 (.seq (.seq (.reg [rI 0 (.mv (.t 0)) 12, rI 1 (.mv (.t 5)) 13, rI 2 (.ias (.t 12) (.t 13) 1) 14, rI 3 (.ld none (.t 14)) 15, rI 4 (.mv (.t 1)) 16, rI 5 (.bin .neq (.t 15) (.t 16)) 17]) (.ite (.t 17) (.seq (.reg [rI 0 (.mv (.k (.int .i64 (-1)))) 4]) .ret) .skip)) (.reg [rI 0 (.mv (.t 1)) 18, rI 1 (.bin .add (.t 18) (.k (.int .i64 1))) 19, rI 2 (.mv (.t 19)) 1]))) (.reg [rI 0 (.mv (.t 5)) 10, rI 1 (.bin .add (.t 10) (.k (.int .i64 1))) 11, rI 2 (.mv (.t 11)) 5])))
def r76 : RFun := ⟨21, [.tmp 4], (.seq (.reg [rI 0 (.mv (.k (.int .i64 0))) 4]) (.seq (.seq (.reg [rI 0 (.mv (.k (.int .i64 0))) 5]) (.blk 0 (.loop b76_0))) (.seq (.reg [rI 0 (.mv (.t 1)) 20, rI 1 (.mv (.t 20)) 4]) .ret)))⟩
theorem p76 : prog 76 = some r76 := by kernel_rfl

/-! 79: laws.eqIntS -/
def b79_0 : RCode := (.seq (.seq (.reg [rI 0 (.mv (.t 5)) 11, rI 1 (.mv (.t 0)) 12, rI 2 (.len (.t 12)) 13, rI 3 (.bin .lss (.t 11) (.t 13)) 14]) (.ite (.t 14) .skip (.exit 0))) (.seq (.blk 1 (.seq (.reg [rI 0 (.mv (.t 0)) 17, rI 1 (.mv (.t 5)) 18, rI 2 (.ias (.t 17) (.t 18) 1) 19, rI 4 (.mv (.t 1)) 21, rI 5 (.mv (.t 5)) 22, rI 6 (.ias (.t 21) (.t 22) 1) 23, rI 3 (.ld none (.t 19)) 20, rI 7 (.ld none (.t 23)) 24, rI 8 (.bin .neq (.t 20) (.t 24)) 25]) (.ite (.t 25) (.seq (.reg [rI 0 (.mv (.k (.bool false))) 4]) .ret) .skip))) (.reg [rI 0 (.mv (.t 5)) 15, rI 1 (.bin .add (.t 15) (.k (.int .i64 1))) 16, rI 2 (.mv (.t 16)) 5])))
def r79 : RFun := ⟨26, [.tmp 4], (.seq (.reg [rI 0 (.mv (.k (.bool false))) 4]) (.seq (.seq (.reg [rI 0 (.mv (.t 0)) 6, rI 1 (.len (.t 6)) 7, rI 2 (.mv (.t 1)) 8, rI 3 (.len (.t 8)) 9, rI 4 (.bin .neq (.t 7) (.t 9)) 10]) (.ite (.t 10) (.seq (.reg [rI 0 (.mv (.k (.bool false))) 4]) .ret) .skip)) (.seq (.seq (.reg [rI 0 (.mv (.k (.int .i64 0))) 5]) (.blk 0 (.loop b79_0))) (.seq (.reg [rI 0 (.mv (.k (.bool true))) 4]) .ret))))⟩
theorem p79 : prog 79 = some r79 := by kernel_rfl



/-- Marks so far: the first j are marked, the rest is as it was. -/
def marked {α : Type} (mk : Nat → α) (j : Nat) (l : List α) : List α := (List.range j).map mk ++ l.drop j
theorem marked_len {α : Type} {mk : Nat → α} {j : Nat} {l : List α} (h : j ≤ l.length) : (marked mk j l).length = l.length := by simp [marked]; omega
theorem marked_get {α : Type} {mk : Nat → α} {j : Nat} {l : List α} (h : j < l.length) : (marked mk j l)[j]? = some l[j] := by
 unfold marked
 rw [List.getElem?_append_right (by simp), List.length_map, List.length_range, Nat.sub_self, List.getElem?_drop, Nat.add_zero]
 exact List.getElem?_eq_getElem h
theorem marked_next {α : Type} {mk : Nat → α} {j : Nat} {l : List α} (h : j < l.length) : (marked mk j l).set j (mk j) = marked mk (j + 1) l := by
 unfold marked
 have e : l.drop j = l[j] :: l.drop (j + 1) := List.drop_eq_getElem_cons h
 rw [e, List.set_append_right _ _ (by simp), List.length_map, List.length_range, Nat.sub_self, List.set_cons_zero, List.range_succ, List.map_append]
 simp
theorem marked_all {α : Type} {mk : Nat → α} {l : List α} : marked mk l.length l = (List.range l.length).map mk := by simp [marked]
theorem marked_zero {α : Type} {mk : Nat → α} {l : List α} : marked mk 0 l = l := by simp [marked]

def imark (n : Nat) (j : Nat) : Int := ((n + j : Nat) : Int)

section
variable {ι : Type} [DecidableEq ι] {L : Lay ι} {lo : Nat} {μ0 : Mem}

theorem markIntLoop {r : ι} {l : List Int} {n : Nat} (hb : n + l.length ≤ 1000000000) {s : List It} {Q : Fr → Mem → Prop} :
  ∀ (k j : Nat) (C : Con ι) (fr : Fr) (μ : Mem), j + k = l.length → Has L C lo μ → C r = some (1, cat irow 0 (marked (imark n) j l)) → Only L r μ0 μ → fr 0 = .c (L.sc r l.length) → fr 1 = .c (.int .i64 ((n + j : Nat) : Int)) → fr 5 = .c (.int .i64 j) →
   (∀ fr' μ', Has L (C.upd r (1, cat irow 0 ((List.range l.length).map (imark n)))) lo μ' → Only L r μ0 μ' → fr' 1 = .c (.int .i64 ((n + l.length : Nat) : Int)) → R s fr' μ' Q) → R (.c (.loop b75_0) :: .blk 0 :: s) fr μ Q := by
 intro k
 induction k with
 | zero =>
  intro j C fr μ hj h hC ho f0 f1 f5 hend
  obtain rfl : j = l.length := by omega
  have hlen : (cat irow 0 (marked (imark n) l.length l)).length = l.length * 1 := by rw [cat_length irow_len, marked_len (Nat.le_refl _)]
  obtain ⟨a, c, hs⟩ := h.scf hC hlen (by omega)
  rw [R_loop]
  simp only [rI, b75_0]
  simp only [w1, w2, ↓reduceIte, zA, f0, f5, hs]
  rw [decide_eq_false (by omega)]
  simp only [w1]
  rw [R_exit rfl]
  rw [marked_all] at hC
  refine hend _ μ (by rw [Con.upd_self hC]; exact h) ho ?_
  simp only [w1, ↓reduceIte, zA, f1]
 | succ k ih =>
  intro j C fr μ hj h hC ho f0 f1 f5 hend
  have hlt : j < l.length := by omega
  have hlen : (cat irow 0 (marked (imark n) j l)).length = l.length * 1 := by rw [cat_length irow_len, marked_len (by omega)]
  have hidx := h.slot hC hlen (by omega) hlt
  obtain ⟨a, c, hs⟩ := h.scf hC hlen (by omega)
  have hon : L.on r = true := h.on hC (.inr (by intro hh; rw [hh] at hlen; simp at hlen; omega))
  obtain ⟨μ1, e1, h1, _, n1, o1⟩ := h.st hC (o := j * 1 + 0) (new := [.int .i64 (imark n j)]) (.inr (by intro hh; rw [hh] at hlen; simp at hlen; omega)) (by rw [hlen]; simp; omega)
  rw [cat_wr irow_len (a' := imark n j) (marked_get hlt) (by simp) rfl, marked_next hlt] at h1
  simp only [Nat.add_zero, imark] at e1
  rw [hs] at hidx f0
  rw [R_loop]
  simp only [rI, b75_0]
  simp only [w1, w2, ↓reduceIte, zA, f0, f5]
  rw [decide_eq_true (by omega)]
  simp only [w1, w2, zH, zI, ↓reduceIte, zA, f0, f1, f5, hidx, e1]
  rw [small (by omega), small (by omega), R_lp]
  refine ih (j + 1) (C.upd r (1, cat irow 0 (marked (imark n) (j + 1) l))) _ μ1 (by omega) h1 (by simp only [Con.upd, if_true]) ⟨n1.trans ho.1, fun b hb => (o1 b (hb hon)).trans (ho.2 b hb)⟩ ?_ ?_ ?_ ?_
  ·simp only [w1, ↓reduceIte, zA, f0, hs]
  ·simp only [w1, ↓reduceIte, zA]; congr 2
  ·simp only [w1, ↓reduceIte]; rfl
  ·intro fr' μ' a1 a2 a3
   rw [Con.upd_upd] at a1
   exact hend fr' μ' a1 a2 a3

theorem markInt_ok {f : Nat} (hf : prog f = some r75) {C : Con ι} {r : ι} {l : List Int} {n : Nat} (hb : n + l.length ≤ 1000000000) (h : Has L C lo μ0) (hC : C r = some (1, cat irow 0 l)) :
  Ret f [.c (L.sc r l.length), .c (.int .i64 n)] μ0 fun v μ' => v = .c (.int .i64 ((n + l.length : Nat) : Int)) ∧ Has L (C.upd r (1, cat irow 0 ((List.range l.length).map (imark n)))) lo μ' ∧ Only L r μ0 μ' := by
 refine Ret_of hf (by simp [r75]) ?_
 simp only [rI, r75, frOf_2]
 simp only [w1, w2]
 refine markIntLoop (n := n) hb l.length 0 C _ _ (by omega) h (by rw [marked_zero]; exact hC) ⟨rfl, fun _ _ => rfl⟩ ?_ ?_ ?_ ?_
 ·simp only [w1, ↓reduceIte, zA]
 ·simp only [w1, ↓reduceIte, zA]; rfl
 ·simp only [w1, ↓reduceIte]; rfl
 ·intro fr' μ' a1 a2 a3
  simp only [w1, w2, ↓reduceIte, a3, aRet, aRes, aRes1]
  exact ⟨_, rfl, rfl, a1, a2⟩

theorem heldIntLoop {hi : Nat} {c : Cell} {m : Nat} {n : Nat} (hb : n + m ≤ 1000000000) (hR : Rd hi μ0 1 c m (cat irow 0 ((List.range m).map (imark n)))) {s : List It} {Q : Fr → Mem → Prop} :
  ∀ (k j : Nat) (fr : Fr), j + k = m → fr 0 = .c c → fr 1 = .c (.int .i64 ((n + j : Nat) : Int)) → fr 5 = .c (.int .i64 j) →
   (∀ fr', fr' 1 = .c (.int .i64 ((n + m : Nat) : Int)) → R s fr' μ0 Q) → R (.c (.loop b76_0) :: .blk 0 :: s) fr μ0 Q := by
 obtain ⟨a, cap, hc⟩ := hR.slc
 intro k
 induction k with
 | zero =>
  intro j fr hj f0 f1 f5 hend
  obtain rfl : j = m := by omega
  rw [R_loop]
  simp only [rI, b76_0]
  simp only [w1, w2, ↓reduceIte, zA, zE, f0, f5, hc]
  rw [decide_eq_false (by omega)]
  simp only [w1, zE]
  rw [R_exit rfl]
  exact hend _ (by simp only [w1, ↓reduceIte, zA, f1])
 | succ k ih =>
  intro j fr hj f0 f1 f5 hend
  have hlt : j < m := by omega
  have hR' : Rd hi μ0 1 c ((List.range m).map (imark n)).length (cat irow 0 ((List.range m).map (imark n))) := by simpa using hR
  obtain ⟨b, o, e1, _, _, e4⟩ := hR'.row irow_len (by omega) (j := j) (x := imark n j) (by simp [hlt])
  have e4' := e4 0 (by omega)
  simp only [irow, List.getElem?_cons_zero, Option.map_some, Nat.add_zero, imark] at e4'
  rw [hc] at e1
  rw [R_loop]
  simp only [rI, b76_0]
  simp only [w1, w2, ↓reduceIte, zA, zE, f0, f5, hc]
  rw [decide_eq_true (by omega)]
  simp only [w1, w2, ↓reduceIte, zA, zE, f0, f1, f5, hc, e1, e4', bneq rfl]
  rw [small (by omega), small (by omega), R_lp]
  refine ih (j + 1) _ (by omega) ?_ ?_ ?_ hend
  ·simp only [w1, ↓reduceIte, zA, f0]
  ·simp only [w1, ↓reduceIte, zA]; congr 2
  ·simp only [w1, ↓reduceIte]; rfl

theorem heldInt_ok {f : Nat} (hf : prog f = some r76) {hi : Nat} {c : Cell} {m : Nat} {n : Nat} (hb : n + m ≤ 1000000000) (hR : Rd hi μ0 1 c m (cat irow 0 ((List.range m).map (imark n)))) :
  Ret f [.c c, .c (.int .i64 n)] μ0 fun v μ' => v = .c (.int .i64 ((n + m : Nat) : Int)) ∧ μ' = μ0 := by
 refine Ret_of hf (by simp [r76]) ?_
 simp only [rI, r76, frOf_2]
 simp only [w1, w2]
 refine heldIntLoop (n := n) hb hR m 0 _ (by omega) ?_ ?_ ?_ ?_
 ·simp only [w1, ↓reduceIte, zA]
 ·simp only [w1, ↓reduceIte, zA]; rfl
 ·simp only [w1, ↓reduceIte]; rfl
 ·intro fr' a3
  simp only [w1, w2, ↓reduceIte, a3, aRet, aRes, aRes1]
  exact ⟨_, rfl, rfl⟩
end

/-! ### Comparisons -/

theorem eqIntLoop {hi : Nat} {μ : Mem} {c c' : Cell} {l : List Int} (h : Rd hi μ 1 c l.length (cat irow 0 l)) (h' : Rd hi μ 1 c' l.length (cat irow 0 l)) (hl : l.length ≤ 1000000000) {Q : Fr → Mem → Prop} {s : List It} :
  ∀ (k i : Nat) (fr : Fr), i + k = l.length → fr 0 = .c c → fr 1 = .c c' → fr 5 = .c (.int .i64 i) → (∀ fr', R s fr' μ Q) → R (.c (.loop b79_0) :: .blk 0 :: s) fr μ Q := by
 obtain ⟨a, cap, hc⟩ := h.slc
 obtain ⟨a', cap', hc'⟩ := h'.slc
 intro k
 induction k with
 | zero =>
  intro i fr hk h0 h1 h5 hend
  rw [R_loop]
  simp only [rI, b79_0]
  simp only [w1, w2, ↓reduceIte, zA, h0, h5, hc]
  rw [decide_eq_false (by omega)]
  simp only [w1]
  rw [R_exit rfl]
  exact hend _
 | succ k ih =>
  intro i fr hk h0 h1 h5 hend
  have hi' : l[i]? = some l[i] := List.getElem?_eq_getElem (by omega)
  obtain ⟨b, o, e1, _, _, e4⟩ := h.row irow_len (by omega) hi'
  obtain ⟨b', o', e1', _, _, e4'⟩ := h'.row irow_len (by omega) hi'
  have q := e4 0 (by omega)
  have q' := e4' 0 (by omega)
  simp only [irow, List.getElem?_cons_zero, Option.map_some, Nat.add_zero] at q q'
  rw [hc] at e1
  rw [hc'] at e1'
  rw [R_loop]
  simp only [rI, b79_0]
  simp only [w1, w2, ↓reduceIte, zA, h0, h5, hc]
  rw [decide_eq_true (by omega)]
  simp only [w1, w2, ↓reduceIte, zA, h0, h1, h5, hc, hc', e1, e1', q, q', bneq rfl]
  rw [small (by omega), R_lp]
  refine ih (i + 1) _ (by omega) ?_ ?_ ?_ hend
  ·simp only [w1, ↓reduceIte, zA, h0]
  ·simp only [w1, ↓reduceIte, zA, h1]
  ·simp only [w1, ↓reduceIte]; rfl

theorem eqInt_ok {f : Nat} (hf : prog f = some r79) {hi : Nat} {μ : Mem} {c c' : Cell} {l : List Int} (h : Rd hi μ 1 c l.length (cat irow 0 l)) (h' : Rd hi μ 1 c' l.length (cat irow 0 l)) (hl : l.length ≤ 1000000000) : Ret f [.c c, .c c'] μ fun v μ' => v = .c (.bool true) ∧ μ' = μ := by
 obtain ⟨a, cap, hc⟩ := h.slc
 obtain ⟨a', cap', hc'⟩ := h'.slc
 refine Ret_of hf (by simp [r79]) ?_
 simp only [rI, r79, frOf_2]
 simp only [w1, w2, ↓reduceIte, zA, hc, hc', bneq rfl]
 refine eqIntLoop h h' hl l.length 0 _ (by omega) ?_ ?_ ?_ ?_
 ·simp only [w1, ↓reduceIte, zA, hc]
 ·simp only [w1, ↓reduceIte, zA, hc']
 ·simp only [w1, ↓reduceIte]; rfl
 ·intro fr'
  simp only [w1, w2, ↓reduceIte, aRet, aRes, aRes1]
  exact ⟨_, rfl, rfl⟩
end Go.Proofs.Ytibmnlijoeppaaa
