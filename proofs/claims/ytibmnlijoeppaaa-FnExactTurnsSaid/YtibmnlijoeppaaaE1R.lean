/-
 The exact laws: records are compared, marked, looked at again.
-/
import Derived.Test.YtibmnlijoeppaaaE1
namespace Go.Proofs.Ytibmnlijoeppaaa
open Nat renaming reduceEqDiff → zA, reduceAdd → zB, reduceLeDiff → zJ, reduceMul → zK
open Int renaming reduceLT → zC, reduceLE → zD, reduceNeg → zE, reduceBEq → zF, reduceBNe → zG
open AV renaming isTup → zH, cells → zI
set_option linter.unusedSimpArgs false
set_option linter.unusedVariables false

/-! 104: laws.eqRec -/
def r104 : RFun := ⟨25, [.tmp 4], (.seq (.reg [rI 0 (.box (.t 0) 4) 2, rI 1 (.box (.t 1) 4) 3, rI 2 (.mv (.k (.bool false))) 4]) (.seq (.seq (.reg [rI 0 (.fa (.t 2) 0) 5, rI 1 (.ld none (.t 5)) 6, rI 2 (.fa (.t 3) 0) 7, rI 3 (.ld none (.t 7)) 8, rI 4 (.bin .neq (.t 6) (.t 8)) 9]) (.ite (.t 9) (.seq (.reg [rI 0 (.mv (.k (.bool false))) 4]) .ret) .skip)) (.seq (.seq (.reg [rI 0 (.fa (.t 2) 1) 10, rI 1 (.ld none (.t 10)) 11, rI 2 (.fa (.t 3) 1) 12, rI 3 (.ld none (.t 12)) 13, rI 4 (.bin .neq (.t 11) (.t 13)) 14]) (.ite (.t 14) (.seq (.reg [rI 0 (.mv (.k (.bool false))) 4]) .ret) .skip)) (.seq (.seq (.reg [rI 0 (.fa (.t 2) 2) 15, rI 1 (.ld none (.t 15)) 16, rI 2 (.fa (.t 3) 2) 17, rI 3 (.ld none (.t 17)) 18, rI 4 (.bin .neq (.t 16) (.t 18)) 19]) (.ite (.t 19) (.seq (.reg [rI 0 (.mv (.k (.bool false))) 4]) .ret) .skip)) (.seq (.seq (.reg [rI 0 (.fa (.t 2) 3) 20, rI 1 (.ld none (.t 20)) 21, rI 2 (.fa (.t 3) 3) 22, rI 3 (.ld none (.t 22)) 23, rI 4 (.bin .neq (.t 21) (.t 23)) 24]) (.ite (.t 24) (.seq (.reg [rI 0 (.mv (.k (.bool false))) 4]) .ret) .skip)) (.seq (.reg [rI 0 (.mv (.k (.bool true))) 4]) .ret))))))⟩
theorem p104 : prog 104 = some r104 := by kernel_rfl

/-! 80: laws.markRecS -/
def b80_0 : RCode := (.seq (.seq (.reg [rI 0 (.mv (.t 5)) 6, rI 1 (.mv (.t 0)) 7, rI 2 (.len (.t 7)) 8, rI 3 (.bin .lss (.t 6) (.t 8)) 9]) (.ite (.t 9) .skip (.exit 0))) (.seq (.blk 1 (.seq (.reg [rI 0 (.mv (.t 0)) 12, rI 1 (.mv (.t 5)) 13, rI 2 (.mv (.t 1)) 14, rI 3 (.ias (.t 12) (.t 13) 4) 15, rI 4 (.fa (.t 15) 0) 16, ⟨5, .st (.t 16) (.t 14) 1, none, none, []⟩]) (.seq (.reg [rI 0 (.mv (.t 1)) 17, rI 1 (.bin .add (.t 17) (.k (.int .i64 1))) 18, rI 2 (.mv (.t 18)) 1]) (.seq (.reg [rI 0 (.mv (.t 0)) 19, rI 1 (.mv (.t 5)) 20, rI 2 (.mv (.t 1)) 21, rI 3 (.ias (.t 19) (.t 20) 4) 22, rI 4 (.fa (.t 22) 1) 23, ⟨5, .st (.t 23) (.t 21) 1, none, none, []⟩]) (.seq (.reg [rI 0 (.mv (.t 1)) 24, rI 1 (.bin .add (.t 24) (.k (.int .i64 1))) 25, rI 2 (.mv (.t 25)) 1]) (.seq (.reg [rI 0 (.mv (.t 0)) 26, rI 1 (.mv (.t 5)) 27, rI 2 (.mv (.t 1)) 28, rI 3 (.ias (.t 26) (.t 27) 4) 29, rI 4 (.fa (.t 29) 2) 30, ⟨5, .st (.t 30) (.t 28) 1, none, none, []⟩]) (.seq (.reg [rI 0 (.mv (.t 1)) 31, rI 1 (.bin .add (.t 31) (.k (.int .i64 1))) 32, rI 2 (.mv (.t 32)) 1]) (.seq (.reg [rI 0 (.mv (.t 0)) 33, rI 1 (.mv (.t 5)) 34, rI 2 (.mv (.t 1)) 35, rI 3 (.ias (.t 33) (.t 34) 4) 36, rI 4 (.fa (.t 36) 3) 37, ⟨5, .st (.t 37) (.t 35) 1, none, none, []⟩]) (.reg [rI 0 (.mv (.t 1)) 38, rI 1 (.bin .add (.t 38) (.k (.int .i64 1))) 39, rI 2 (.mv (.t 39)) 1]))))))))) (.reg [rI 0 (.mv (.t 5)) 10, rI 1 (.bin .add (.t 10) (.k (.int .i64 1))) 11, rI 2 (.mv (.t 11)) 5])))
def r80 : RFun := ⟨41, [.tmp 4], (.seq (.reg [rI 0 (.mv (.k (.int .i64 0))) 4]) (.seq (.seq (.reg [rI 0 (.mv (.k (.int .i64 0))) 5]) (.blk 0 (.loop b80_0))) (.seq (.reg [rI 0 (.mv (.t 1)) 40, rI 1 (.mv (.t 40)) 4]) .ret)))⟩
theorem p80 : prog 80 = some r80 := by kernel_rfl

/-! 81: laws.heldRecS -/
def b81_0 : RCode := (.seq (.seq (.reg [rI 0 (.mv (.t 5)) 6, rI 1 (.mv (.t 0)) 7, rI 2 (.len (.t 7)) 8, rI 3 (.bin .lss (.t 6) (.t 8)) 9]) (.ite (.t 9) .skip (.exit 0))) (.seq (.blk 1 (.seq (.seq (.reg [rI 0 (.mv (.t 0)) 12, rI 1 (.mv (.t 5)) 13, rI 2 (.ias (.t 12) (.t 13) 4) 14, rI 3 (.fa (.t 14) 0) 15, rI 4 (.ld none (.t 15)) 16, rI 5 (.mv (.t 1)) 17, rI 6 (.bin .neq (.t 16) (.t 17)) 18]) (.ite (.t 18) (.seq (.reg [rI 0 (.mv (.k (.int .i64 (-1)))) 4]) .ret) .skip)) (.seq (.reg [rI 0 (.mv (.t 1)) 19, rI 1 (.bin .add (.t 19) (.k (.int .i64 1))) 20, rI 2 (.mv (.t 20)) 1]) (.seq (.seq (.reg [rI 0 (.mv (.t 0)) 21, rI 1 (.mv (.t 5)) 22, rI 2 (.ias (.t 21) (.t 22) 4) 23, rI 3 (.fa (.t 23) 1) 24, rI 4 (.ld none (.t 24)) 25, rI 5 (.mv (.t 1)) 26, rI 6 (.bin .neq (.t 25) (.t 26)) 27]) (.ite (.t 27) (.seq (.reg [rI 0 (.mv (.k (.int .i64 (-1)))) 4]) .ret) .skip)) (.seq (.reg [rI 0 (.mv (.t 1)) 28, rI 1 (.bin .add (.t 28) (.k (.int .i64 1))) 29, rI 2 (.mv (.t 29)) 1]) (.seq (.seq (.reg [rI 0 (.mv (.t 0)) 30, rI 1 (.mv (.t 5)) 31, rI 2 (.ias (.t 30) (.t 31) 4) 32, rI 3 (.fa (.t 32) 2) 33, rI 4 (.ld none (.t 33)) 34, rI 5 (.mv (.t 1)) 35, rI 6 (.bin .neq (.t 34) (.t 35)) 36]) (.ite (.t 36) (.seq (.reg [rI 0 (.mv (.k (.int .i64 (-1)))) 4]) .ret) .skip)) (.seq (.reg [rI 0 (.mv (.t 1)) 37, rI 1 (.bin .add (.t 37) (.k (.int .i64 1))) 38, rI 2 (.mv (.t 38)) 1]) (.seq (.seq (.reg [rI 0 (.mv (.t 0)) 39, rI 1 (.mv (.t 5)) 40, rI 2 (.ias (.t 39) (.t 40) 4) 41, rI 3 (.fa (.t 41) 3) 42, rI 4 (.ld none (.t 42)) 43, rI 5 (.mv (.t 1)) 44, rI 6 (.bin .neq (.t 43) (.t 44)) 45]) (.ite (.t 45) (.seq (.reg [rI 0 (.mv (.k (.int .i64 (-1)))) 4]) .ret) .skip)) (.reg [rI 0 (.mv (.t 1)) 46, rI 1 (.bin .add (.t 46) (.k (.int .i64 1))) 47, rI 2 (.mv (.t 47)) 1]))))))))) (.reg [rI 0 (.mv (.t 5)) 10, rI 1 (.bin .add (.t 10) (.k (.int .i64 1))) 11, rI 2 (.mv (.t 11)) 5])))
def r81 : RFun := ⟨49, [.tmp 4], (.seq (.reg [rI 0 (.mv (.k (.int .i64 0))) 4]) (.seq (.seq (.reg [rI 0 (.mv (.k (.int .i64 0))) 5]) (.blk 0 (.loop b81_0))) (.seq (.reg [rI 0 (.mv (.t 1)) 48, rI 1 (.mv (.t 48)) 4]) .ret)))⟩
theorem p81 : prog 81 = some r81 := by kernel_rfl


/-! 78: laws.eqRecS -/
def b78_0 (f : Nat) : RCode := (.seq (.seq (.reg [rI 0 (.mv (.t 5)) 11, rI 1 (.mv (.t 0)) 12, rI 2 (.len (.t 12)) 13, rI 3 (.bin .lss (.t 11) (.t 13)) 14]) (.ite (.t 14) .skip (.exit 0))) (.seq (.blk 1 (.seq (.reg [rI 0 (.mv (.t 0)) 17, rI 1 (.mv (.t 5)) 18, rI 2 (.ias (.t 17) (.t 18) 4) 19, rI 4 (.mv (.t 1)) 21, rI 5 (.mv (.t 5)) 22, rI 6 (.ias (.t 21) (.t 22) 4) 23, rI 3 (.ld (some 4) (.t 19)) 20, rI 7 (.ld (some 4) (.t 23)) 24, rI 8 (.call f [.t 20, .t 24]) 25, rI 9 (.nt (.t 25)) 26]) (.ite (.t 26) (.seq (.reg [rI 0 (.mv (.k (.bool false))) 4]) .ret) .skip))) (.reg [rI 0 (.mv (.t 5)) 15, rI 1 (.bin .add (.t 15) (.k (.int .i64 1))) 16, rI 2 (.mv (.t 16)) 5])))
def r78 (f : Nat) : RFun := ⟨27, [.tmp 4], (.seq (.reg [rI 0 (.mv (.k (.bool false))) 4]) (.seq (.seq (.reg [rI 0 (.mv (.t 0)) 6, rI 1 (.len (.t 6)) 7, rI 2 (.mv (.t 1)) 8, rI 3 (.len (.t 8)) 9, rI 4 (.bin .neq (.t 7) (.t 9)) 10]) (.ite (.t 10) (.seq (.reg [rI 0 (.mv (.k (.bool false))) 4]) .ret) .skip)) (.seq (.seq (.reg [rI 0 (.mv (.k (.int .i64 0))) 5]) (.blk 0 (.loop (b78_0 f)))) (.seq (.reg [rI 0 (.mv (.k (.bool true))) 4]) .ret))))⟩
theorem p78 : prog 78 = some (r78 104) := by kernel_rfl



def rmark (n : Nat) (j : Nat) : PRec := ⟨((n + 4 * j : Nat) : Int), ((n + 4 * j + 1 : Nat) : Int), ((n + 4 * j + 2 : Nat) : Int), ((n + 4 * j + 3 : Nat) : Int)⟩

theorem eqRec_ok {f : Nat} (hf : prog f = some r104) (μ : Mem) (x : PRec) : Ret f [.agg (recrow 0 x), .agg (recrow 0 x)] μ fun v μ' => v = .c (.bool true) ∧ Same μ.next μ μ' := by
 refine Ret_of hf (by simp [r104]) ?_
 simp only [rI, r104, frOf_2, recrow]
 simp only [w1, w2, zH, zI, ↓reduceIte, zA, zB, m1, m2, aRet, aRes, aRes1]
 exact (Same.tmp (Nat.le_refl _)).new (Nat.le_succ _)

theorem eqRecLoop {f : Nat} (hf : prog f = some r104) {hi : Nat} {μ0 : Mem} {c c' : Cell} {l : List PRec} (h : Rd hi μ0 4 c l.length (cat recrow 0 l)) (h' : Rd hi μ0 4 c' l.length (cat recrow 0 l)) (hh : hi ≤ μ0.next) (hl : l.length ≤ 1000000000) {Q : Fr → Mem → Prop} {s : List It} :
  ∀ (k i : Nat) (fr : Fr) (μ : Mem), i + k = l.length → Same μ0.next μ0 μ → fr 0 = .c c → fr 1 = .c c' → fr 5 = .c (.int .i64 i) → (∀ fr' μ', Same μ0.next μ0 μ' → R s fr' μ' Q) → R (.c (.loop (b78_0 f)) :: .blk 0 :: s) fr μ Q := by
 intro k
 induction k with
 | zero =>
  intro i fr μ hk hs h0 h1 h5 hgood
  obtain ⟨a, cap, hc⟩ := h.slc
  rw [R_loop]
  simp only [rI, b78_0]
  simp only [w1, w2, ↓reduceIte, zA, h0, h5, hc]
  rw [decide_eq_false (by omega)]
  simp only [w1]
  rw [R_exit rfl]
  exact hgood _ _ hs
 | succ k ih =>
  intro i fr μ hk hs h0 h1 h5 hgood
  have hi1 : i < l.length := by omega
  have hi' : l[i]? = some l[i] := List.getElem?_eq_getElem hi1
  obtain ⟨bi, bo, e1, e2, e3, e4⟩ := (h.same hs hh).row recrow_len (by omega) hi'
  obtain ⟨bi', bo', e1', e2', e3', e4'⟩ := (h'.same hs hh).row recrow_len (by omega) hi'
  obtain ⟨a, cap, hc⟩ := h.slc
  obtain ⟨a', cap', hc'⟩ := h'.slc
  rw [hc] at e1
  rw [hc'] at e1'
  rw [R_loop]
  simp only [rI, b78_0]
  simp only [w1, w2, ↓reduceIte, zA, h0, h5, hc]
  rw [decide_eq_true (by omega)]
  simp only [w1, w2, ↓reduceIte, zA, h0, h1, h5, hc, hc', e1, e3, e1', e3']
  refine R_calls rfl (by simp only [w1, w2, ↓reduceIte, zA]; exact eqRec_ok hf _ _) ?_
  rintro v μ' ⟨rfl, hs1⟩
  simp only [w1, w2, ↓reduceIte, zA, h5]
  rw [small (by omega), R_lp]
  refine ih (i + 1) _ _ (by omega) (hs.trans (hs1.mono hs.2)) ?_ ?_ ?_ hgood
  ·simp only [w1, ↓reduceIte, zA, h0]
  ·simp only [w1, ↓reduceIte, zA, h1]
  ·simp only [w1, ↓reduceIte]; rfl

theorem eqRecS_ok {e f : Nat} (he : prog e = some (r78 f)) (hf : prog f = some r104) {hi : Nat} {μ : Mem} {c c' : Cell} {l : List PRec} (h : Rd hi μ 4 c l.length (cat recrow 0 l)) (h' : Rd hi μ 4 c' l.length (cat recrow 0 l)) (hh : hi ≤ μ.next) (hl : l.length ≤ 1000000000) :
  Ret e [.c c, .c c'] μ fun v μ' => v = .c (.bool true) ∧ Same μ.next μ μ' := by
 obtain ⟨a, cap, hc⟩ := h.slc
 obtain ⟨a', cap', hc'⟩ := h'.slc
 refine Ret_of he (by simp [r78]) ?_
 simp only [rI, r78, frOf_2]
 simp only [w1, w2, ↓reduceIte, zA, hc, hc', bneq rfl]
 refine eqRecLoop hf h h' hh hl l.length 0 _ _ (by omega) Same.refl ?_ ?_ ?_ ?_
 ·simp only [w1, ↓reduceIte, zA, hc]
 ·simp only [w1, ↓reduceIte, zA, hc']
 ·simp only [w1, ↓reduceIte]; rfl
 ·intro fr' μ' hs
  simp only [w1, w2, ↓reduceIte, aRet, aRes, aRes1]
  first | exact ⟨_, rfl, rfl, hs⟩ | exact hs

section
variable {ι : Type} [DecidableEq ι] {L : Lay ι} {lo : Nat} {μ0 : Mem}

theorem markRecLoop {r : ι} {l : List PRec} {n : Nat} (hb : n + 4 * l.length ≤ 1000000000) {s : List It} {Q : Fr → Mem → Prop} :
  ∀ (k j : Nat) (C : Con ι) (fr : Fr) (μ : Mem), j + k = l.length → Has L C lo μ → C r = some (4, cat recrow 0 (marked (rmark n) j l)) → Only L r μ0 μ → fr 0 = .c (L.sc r l.length) → fr 1 = .c (.int .i64 ((n + 4 * j : Nat) : Int)) → fr 5 = .c (.int .i64 j) →
   (∀ fr' μ', Has L (C.upd r (4, cat recrow 0 ((List.range l.length).map (rmark n)))) lo μ' → Only L r μ0 μ' → fr' 1 = .c (.int .i64 ((n + 4 * l.length : Nat) : Int)) → R s fr' μ' Q) → R (.c (.loop b80_0) :: .blk 0 :: s) fr μ Q := by
 intro k
 induction k with
 | zero =>
  intro j C fr μ hj h hC ho f0 f1 f5 hend
  obtain rfl : j = l.length := by omega
  have hlen : (cat recrow 0 (marked (rmark n) l.length l)).length = l.length * 4 := by rw [cat_length recrow_len, marked_len (Nat.le_refl _)]
  obtain ⟨a, c, hs⟩ := h.scf hC hlen (by omega)
  rw [R_loop]
  simp only [rI, b80_0]
  simp only [w1, w2, ↓reduceIte, zA, f0, f5, hs]
  rw [decide_eq_false (by omega)]
  simp only [w1]
  rw [R_exit rfl]
  rw [marked_all] at hC
  refine hend _ μ (by rw [Con.upd_self hC]; exact h) ho ?_
  simp only [w1, ↓reduceIte, zA, f1]
 | succ k ih =>
  intro j C fr μ hj h hC ho f0 f1 f5 hend
  have hlt : j < l.length := by omega
  have hlenm : (marked (rmark n) j l).length = l.length := marked_len (by omega)
  have hlen : (cat recrow 0 (marked (rmark n) j l)).length = l.length * 4 := by rw [cat_length recrow_len, hlenm]
  have hidx := h.slot hC hlen (by omega) hlt
  obtain ⟨a, c, hs⟩ := h.scf hC hlen (by omega)
  have hset : ∀ (X : PRec), (cat recrow 0 ((marked (rmark n) j l).set j X)).length = l.length * 4 := fun X => by rw [cat_length recrow_len, List.length_set, hlenm]
  have hne : ∀ (X : List Cell), X.length = l.length * 4 → X ≠ [] := fun X e hh => by rw [hh] at e; simp at e; omega
  have hg := marked_get (mk := rmark n) (l := l) hlt
  have hgs : ∀ (X : PRec), ((marked (rmark n) j l).set j X)[j]? = some X := fun X => by rw [List.getElem?_set_self (by rw [hlenm]; exact hlt)]
  have hon : L.on r = true := h.on hC (.inr (hne _ hlen))
  obtain ⟨μ1, e1, h1, _, n1, o1⟩ := h.st hC (o := j * 4 + 0) (new := [.int .i64 ((n + 4 * j : Nat) : Int)]) (.inr (hne _ hlen)) (by rw [hlen]; simp; omega)
  rw [cat_wr recrow_len (a' := { l[j] with kind := ((n + 4 * j : Nat) : Int) }) hg (by simp) rfl] at h1
  obtain ⟨μ2, e2, h2, _, n2, o2⟩ := h1.st (r := r) (by simp only [Con.upd, if_true]; rfl) (o := j * 4 + 1) (new := [.int .i64 ((n + 4 * j + 1 : Nat) : Int)]) (.inr (hne _ (hset _))) (by rw [hset]; simp; omega)
  rw [cat_wr recrow_len (a' := { l[j] with kind := ((n + 4 * j : Nat) : Int), task := ((n + 4 * j + 1 : Nat) : Int) }) (hgs _) (by simp) rfl, List.set_set, Con.upd_upd] at h2
  obtain ⟨μ3, e3, h3, _, n3, o3⟩ := h2.st (r := r) (by simp only [Con.upd, if_true]; rfl) (o := j * 4 + 2) (new := [.int .i64 ((n + 4 * j + 2 : Nat) : Int)]) (.inr (hne _ (hset _))) (by rw [hset]; simp; omega)
  rw [cat_wr recrow_len (a' := { l[j] with kind := ((n + 4 * j : Nat) : Int), task := ((n + 4 * j + 1 : Nat) : Int), how := ((n + 4 * j + 2 : Nat) : Int) }) (hgs _) (by simp) rfl, List.set_set, Con.upd_upd] at h3
  obtain ⟨μ4, e4, h4, _, n4, o4⟩ := h3.st (r := r) (by simp only [Con.upd, if_true]; rfl) (o := j * 4 + 3) (new := [.int .i64 ((n + 4 * j + 3 : Nat) : Int)]) (.inr (hne _ (hset _))) (by rw [hset]; simp; omega)
  rw [cat_wr recrow_len (a' := rmark n j) (hgs _) (by simp) rfl, List.set_set, Con.upd_upd, marked_next hlt] at h4
  rw [hs] at hidx f0
  have q1 : IntKind.i64.wrap (((n + 4 * j : Nat) : Int) + 1) = ((n + 4 * j + 1 : Nat) : Int) := by rw [small (by omega)]; omega
  have q2 : IntKind.i64.wrap (((n + 4 * j + 1 : Nat) : Int) + 1) = ((n + 4 * j + 2 : Nat) : Int) := by rw [small (by omega)]; omega
  have q3 : IntKind.i64.wrap (((n + 4 * j + 2 : Nat) : Int) + 1) = ((n + 4 * j + 3 : Nat) : Int) := by rw [small (by omega)]; omega
  have q4 : IntKind.i64.wrap (((n + 4 * j + 3 : Nat) : Int) + 1) = ((n + 4 * (j + 1) : Nat) : Int) := by rw [small (by omega)]; omega
  rw [R_loop]
  simp only [rI, b80_0]
  simp only [w1, w2, ↓reduceIte, zA, f0, f5]
  rw [decide_eq_true (by omega)]
  simp only [w1, w2, zH, zI, ↓reduceIte, zA, f0, f1, f5, hidx, e1, q1, e2, q2, e3, q3, e4, q4]
  rw [small (by omega), R_lp]
  refine ih (j + 1) (C.upd r (4, cat recrow 0 (marked (rmark n) (j + 1) l))) _ μ4 (by omega) h4 (by simp only [Con.upd, if_true]) ⟨n4.trans (n3.trans (n2.trans (n1.trans ho.1))), fun b hb => (o4 b (hb hon)).trans ((o3 b (hb hon)).trans ((o2 b (hb hon)).trans ((o1 b (hb hon)).trans (ho.2 b hb))))⟩ ?_ ?_ ?_ ?_
  ·simp only [w1, ↓reduceIte, zA, f0, hs]
  ·simp only [w1, ↓reduceIte, zA]
  ·simp only [w1, ↓reduceIte]; rfl
  ·intro fr' μ' a1 a2 a3
   rw [Con.upd_upd] at a1
   exact hend fr' μ' a1 a2 a3

theorem markRec_ok {f : Nat} (hf : prog f = some r80) {C : Con ι} {r : ι} {l : List PRec} {n : Nat} (hb : n + 4 * l.length ≤ 1000000000) (h : Has L C lo μ0) (hC : C r = some (4, cat recrow 0 l)) :
  Ret f [.c (L.sc r l.length), .c (.int .i64 n)] μ0 fun v μ' => v = .c (.int .i64 ((n + 4 * l.length : Nat) : Int)) ∧ Has L (C.upd r (4, cat recrow 0 ((List.range l.length).map (rmark n)))) lo μ' ∧ Only L r μ0 μ' := by
 refine Ret_of hf (by simp [r80]) ?_
 simp only [rI, r80, frOf_2]
 simp only [w1, w2]
 refine markRecLoop (n := n) hb l.length 0 C _ _ (by omega) h (by rw [marked_zero]; exact hC) ⟨rfl, fun _ _ => rfl⟩ ?_ ?_ ?_ ?_
 ·simp only [w1, ↓reduceIte, zA]
 ·simp only [w1, ↓reduceIte, zA]; rfl
 ·simp only [w1, ↓reduceIte]; rfl
 ·intro fr' μ' a1 a2 a3
  simp only [w1, w2, ↓reduceIte, a3, aRet, aRes, aRes1]
  exact ⟨_, rfl, rfl, a1, a2⟩

theorem heldRecLoop {hi : Nat} {c : Cell} {m : Nat} {n : Nat} (hb : n + 4 * m ≤ 1000000000) (hR : Rd hi μ0 4 c m (cat recrow 0 ((List.range m).map (rmark n)))) {s : List It} {Q : Fr → Mem → Prop} :
  ∀ (k j : Nat) (fr : Fr), j + k = m → fr 0 = .c c → fr 1 = .c (.int .i64 ((n + 4 * j : Nat) : Int)) → fr 5 = .c (.int .i64 j) →
   (∀ fr', fr' 1 = .c (.int .i64 ((n + 4 * m : Nat) : Int)) → R s fr' μ0 Q) → R (.c (.loop b81_0) :: .blk 0 :: s) fr μ0 Q := by
 obtain ⟨a, cap, hc⟩ := hR.slc
 intro k
 induction k with
 | zero =>
  intro j fr hj f0 f1 f5 hend
  obtain rfl : j = m := by omega
  rw [R_loop]
  simp only [rI, b81_0]
  simp only [w1, w2, ↓reduceIte, zA, zE, f0, f5, hc]
  rw [decide_eq_false (by omega)]
  simp only [w1, zE]
  rw [R_exit rfl]
  exact hend _ (by simp only [w1, ↓reduceIte, zA, f1])
 | succ k ih =>
  intro j fr hj f0 f1 f5 hend
  have hlt : j < m := by omega
  have hR' : Rd hi μ0 4 c ((List.range m).map (rmark n)).length (cat recrow 0 ((List.range m).map (rmark n))) := by simpa using hR
  obtain ⟨b, o, e1, _, _, e4⟩ := hR'.row recrow_len (by omega) (j := j) (x := rmark n j) (by simp [hlt])
  have d0 := e4 0 (by omega)
  have d1 := e4 1 (by omega)
  have d2 := e4 2 (by omega)
  have d3 := e4 3 (by omega)
  simp only [recrow, List.getElem?_cons_zero, List.getElem?_cons_succ, Option.map_some, rmark] at d0 d1 d2 d3
  have q1 : IntKind.i64.wrap (((n + 4 * j : Nat) : Int) + 1) = ((n + 4 * j + 1 : Nat) : Int) := by rw [small (by omega)]; omega
  have q2 : IntKind.i64.wrap (((n + 4 * j + 1 : Nat) : Int) + 1) = ((n + 4 * j + 2 : Nat) : Int) := by rw [small (by omega)]; omega
  have q3 : IntKind.i64.wrap (((n + 4 * j + 2 : Nat) : Int) + 1) = ((n + 4 * j + 3 : Nat) : Int) := by rw [small (by omega)]; omega
  have q4 : IntKind.i64.wrap (((n + 4 * j + 3 : Nat) : Int) + 1) = ((n + 4 * (j + 1) : Nat) : Int) := by rw [small (by omega)]; omega
  rw [hc] at e1
  rw [R_loop]
  simp only [rI, b81_0]
  simp only [w1, w2, ↓reduceIte, zA, zE, f0, f5, hc]
  rw [decide_eq_true (by omega)]
  simp only [w1, w2, ↓reduceIte, zA, zE, f0, f1, f5, hc, e1, d0, d1, d2, d3, bneq rfl, q1, q2, q3, q4]
  rw [small (by omega), R_lp]
  refine ih (j + 1) _ (by omega) ?_ ?_ ?_ hend
  ·simp only [w1, ↓reduceIte, zA, f0]
  ·simp only [w1, ↓reduceIte, zA]
  ·simp only [w1, ↓reduceIte]; rfl

theorem heldRec_ok {f : Nat} (hf : prog f = some r81) {hi : Nat} {c : Cell} {m : Nat} {n : Nat} (hb : n + 4 * m ≤ 1000000000) (hR : Rd hi μ0 4 c m (cat recrow 0 ((List.range m).map (rmark n)))) :
  Ret f [.c c, .c (.int .i64 n)] μ0 fun v μ' => v = .c (.int .i64 ((n + 4 * m : Nat) : Int)) ∧ μ' = μ0 := by
 refine Ret_of hf (by simp [r81]) ?_
 simp only [rI, r81, frOf_2]
 simp only [w1, w2]
 refine heldRecLoop (n := n) hb hR m 0 _ (by omega) ?_ ?_ ?_ ?_
 ·simp only [w1, ↓reduceIte, zA]
 ·simp only [w1, ↓reduceIte, zA]; rfl
 ·simp only [w1, ↓reduceIte]; rfl
 ·intro fr' a3
  simp only [w1, w2, ↓reduceIte, a3, aRet, aRes, aRes1]
  exact ⟨_, rfl, rfl⟩
end
end Go.Proofs.Ytibmnlijoeppaaa
