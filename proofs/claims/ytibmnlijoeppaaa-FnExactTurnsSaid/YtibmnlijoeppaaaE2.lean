/-
 The exact laws: a plan is marked; reports are compared, marked, looked at again.
-/
import Derived.Test.YtibmnlijoeppaaaE1
import Derived.Test.YtibmnlijoeppaaaL4
namespace Go.Proofs.Ytibmnlijoeppaaa
open Nat renaming reduceEqDiff → zA, reduceAdd → zB, reduceLeDiff → zJ, reduceMul → zK
open Int renaming reduceLT → zC, reduceLE → zD, reduceNeg → zE, reduceBEq → zF, reduceBNe → zG
open AV renaming isTup → zH, cells → zI
set_option linter.unusedSimpArgs false
set_option linter.unusedVariables false

/-! 103: laws.markStepS -/
def b103_0 : RCode := (.seq (.seq (.reg [rI 0 (.mv (.t 5)) 6, rI 1 (.mv (.t 0)) 7, rI 2 (.len (.t 7)) 8, rI 3 (.bin .lss (.t 6) (.t 8)) 9]) (.ite (.t 9) .skip (.exit 0))) (.seq (.blk 1 (.seq (.reg [rI 0 (.mv (.t 0)) 12, rI 1 (.mv (.t 5)) 13, rI 2 (.mv (.t 1)) 14, rI 3 (.ias (.t 12) (.t 13) 5) 15, rI 4 (.fa (.t 15) 0) 16, ⟨5, .st (.t 16) (.t 14) 1, none, none, []⟩]) (.seq (.reg [rI 0 (.mv (.t 1)) 17, rI 1 (.bin .add (.t 17) (.k (.int .i64 1))) 18, rI 2 (.mv (.t 18)) 1]) (.seq (.reg [rI 0 (.mv (.t 0)) 19, rI 1 (.mv (.t 5)) 20, rI 2 (.mv (.t 1)) 21, rI 3 (.ias (.t 19) (.t 20) 5) 22, rI 4 (.fa (.t 22) 1) 23, ⟨5, .st (.t 23) (.t 21) 1, none, none, []⟩]) (.seq (.reg [rI 0 (.mv (.t 1)) 24, rI 1 (.bin .add (.t 24) (.k (.int .i64 1))) 25, rI 2 (.mv (.t 25)) 1]) (.seq (.reg [rI 0 (.mv (.t 0)) 26, rI 1 (.mv (.t 5)) 27, rI 2 (.mv (.t 1)) 28, rI 3 (.ias (.t 26) (.t 27) 5) 29, rI 4 (.fa (.t 29) 2) 30, ⟨5, .st (.t 30) (.t 28) 1, none, none, []⟩]) (.seq (.reg [rI 0 (.mv (.t 1)) 31, rI 1 (.bin .add (.t 31) (.k (.int .i64 1))) 32, rI 2 (.mv (.t 32)) 1]) (.seq (.reg [rI 0 (.mv (.t 0)) 33, rI 1 (.mv (.t 5)) 34, rI 2 (.mv (.t 1)) 35, rI 3 (.ias (.t 33) (.t 34) 5) 36, rI 4 (.fa (.t 36) 3) 37, ⟨5, .st (.t 37) (.t 35) 1, none, none, []⟩]) (.seq (.reg [rI 0 (.mv (.t 1)) 38, rI 1 (.bin .add (.t 38) (.k (.int .i64 1))) 39, rI 2 (.mv (.t 39)) 1]) (.seq (.reg [rI 0 (.mv (.t 0)) 40, rI 1 (.mv (.t 5)) 41, rI 2 (.mv (.t 1)) 42, rI 3 (.ias (.t 40) (.t 41) 5) 43, rI 4 (.fa (.t 43) 4) 44, ⟨5, .st (.t 44) (.t 42) 1, none, none, []⟩]) (.reg [rI 0 (.mv (.t 1)) 45, rI 1 (.bin .add (.t 45) (.k (.int .i64 1))) 46, rI 2 (.mv (.t 46)) 1]))))))))))) (.reg [rI 0 (.mv (.t 5)) 10, rI 1 (.bin .add (.t 10) (.k (.int .i64 1))) 11, rI 2 (.mv (.t 11)) 5])))
def r103 : RFun := ⟨48, [.tmp 4], (.seq (.reg [rI 0 (.mv (.k (.int .i64 0))) 4]) (.seq (.seq (.reg [rI 0 (.mv (.k (.int .i64 0))) 5]) (.blk 0 (.loop b103_0))) (.seq (.reg [rI 0 (.mv (.t 1)) 47, rI 1 (.mv (.t 47)) 4]) .ret)))⟩
theorem p103 : prog 103 = some r103 := by kernel_rfl

/-! 74: laws.markBodyS -/
def b74_0 : RCode := (.seq (.seq (.reg [rI 0 (.mv (.t 5)) 6, rI 1 (.mv (.t 0)) 7, rI 2 (.len (.t 7)) 8, rI 3 (.bin .lss (.t 6) (.t 8)) 9]) (.ite (.t 9) .skip (.exit 0))) (.seq (.blk 1 (.reg [rI 0 (.mv (.t 0)) 12, rI 1 (.mv (.t 5)) 13, rI 2 (.ias (.t 12) (.t 13) 1) 14, rI 3 (.fa (.t 14) 0) 15, rI 4 (.ld none (.t 15)) 16, rI 5 (.mv (.t 1)) 17, rI 6 (.call 103 [.t 16, .t 17]) 18, rI 7 (.mv (.t 18)) 1])) (.reg [rI 0 (.mv (.t 5)) 10, rI 1 (.bin .add (.t 10) (.k (.int .i64 1))) 11, rI 2 (.mv (.t 11)) 5])))
def r74 : RFun := ⟨20, [.tmp 4], (.seq (.reg [rI 0 (.mv (.k (.int .i64 0))) 4]) (.seq (.seq (.reg [rI 0 (.mv (.k (.int .i64 0))) 5]) (.blk 0 (.loop b74_0))) (.seq (.reg [rI 0 (.mv (.t 1)) 19, rI 1 (.mv (.t 19)) 4]) .ret)))⟩
theorem p74 : prog 74 = some r74 := by kernel_rfl

/-! 45: laws.markPlan -/
def r45 : RFun := ⟨10, [.tmp 4], (.seq (.reg [rI 0 (.box (.t 0) 1) 2, rI 1 (.mv (.k (.int .i64 0))) 4]) (.seq (.reg [rI 0 (.fa (.t 2) 0) 5, rI 1 (.ld none (.t 5)) 6, rI 2 (.mv (.t 1)) 7, rI 3 (.call 74 [.t 6, .t 7]) 8, rI 4 (.mv (.t 8)) 1]) (.seq (.reg [rI 0 (.mv (.t 1)) 9, rI 1 (.mv (.t 9)) 4]) .ret)))⟩
theorem p45 : prog 45 = some r45 := by kernel_rfl



section
variable {ι : Type} [DecidableEq ι] {L : Lay ι} {lo : Nat} {μ0 : Mem}

theorem markStepLoop {r : ι} {m n : Nat} (hb : n + 5 * m ≤ 1000000000) {s : List It} {Q : Fr → Mem → Prop} :
  ∀ (k j : Nat) (C : Con ι) (fr : Fr) (μ : Mem) (cs : List Cell), j + k = m → Has L C lo μ → C r = some (5, cs) → cs.length = m * 5 → Only L r μ0 μ → fr 0 = .c (L.sc r m) → fr 1 = .c (.int .i64 ((n + 5 * j : Nat) : Int)) → fr 5 = .c (.int .i64 j) →
   (∀ fr' μ' cs', Has L (C.upd r (5, cs')) lo μ' → cs'.length = m * 5 → Only L r μ0 μ' → fr' 1 = .c (.int .i64 ((n + 5 * m : Nat) : Int)) → R s fr' μ' Q) → R (.c (.loop b103_0) :: .blk 0 :: s) fr μ Q := by
 intro k
 induction k with
 | zero =>
  intro j C fr μ cs hj h hC hlen ho f0 f1 f5 hend
  obtain rfl : j = m := by omega
  obtain ⟨a, c, hs⟩ := h.scf hC hlen (by omega)
  rw [R_loop]
  simp only [rI, b103_0]
  simp only [w1, w2, ↓reduceIte, zA, f0, f5, hs]
  rw [decide_eq_false (by omega)]
  simp only [w1]
  rw [R_exit rfl]
  refine hend _ μ cs (by rw [Con.upd_self hC]; exact h) hlen ho ?_
  simp only [w1, ↓reduceIte, zA, f1]
 | succ k ih =>
  intro j C fr μ cs hj h hC hlen ho f0 f1 f5 hend
  have hlt : j < m := by omega
  have hidx := h.slot hC hlen (by omega) hlt
  obtain ⟨a, c, hs⟩ := h.scf hC hlen (by omega)
  have hne : ∀ (X : List Cell), X.length = m * 5 → X ≠ [] := fun X e hh => by rw [hh] at e; simp at e; omega
  have hlw : ∀ (X : List Cell) o v, X.length = m * 5 → (wr X o v).length = m * 5 := fun X o v e => by rw [wr_length]; exact e
  have hon : L.on r = true := h.on hC (.inr (hne _ hlen))
  obtain ⟨μ1, e1, h1, _, n1, o1⟩ := h.st hC (o := j * 5 + 0) (new := [.int .i64 ((n + 5 * j : Nat) : Int)]) (.inr (hne _ hlen)) (by rw [hlen]; simp; omega)
  have l1 := hlw cs (j * 5 + 0) [.int .i64 ((n + 5 * j : Nat) : Int)] hlen
  obtain ⟨μ2, e2, h2, _, n2, o2⟩ := h1.st (r := r) (by simp only [Con.upd, if_true]; rfl) (o := j * 5 + 1) (new := [.int .i64 ((n + 5 * j + 1 : Nat) : Int)]) (.inr (hne _ l1)) (by rw [l1]; simp; omega)
  rw [Con.upd_upd] at h2
  have l2 := hlw _ (j * 5 + 1) [.int .i64 ((n + 5 * j + 1 : Nat) : Int)] l1
  obtain ⟨μ3, e3, h3, _, n3, o3⟩ := h2.st (r := r) (by simp only [Con.upd, if_true]; rfl) (o := j * 5 + 2) (new := [.int .i64 ((n + 5 * j + 2 : Nat) : Int)]) (.inr (hne _ l2)) (by rw [l2]; simp; omega)
  rw [Con.upd_upd] at h3
  have l3 := hlw _ (j * 5 + 2) [.int .i64 ((n + 5 * j + 2 : Nat) : Int)] l2
  obtain ⟨μ4, e4, h4, _, n4, o4⟩ := h3.st (r := r) (by simp only [Con.upd, if_true]; rfl) (o := j * 5 + 3) (new := [.int .i64 ((n + 5 * j + 3 : Nat) : Int)]) (.inr (hne _ l3)) (by rw [l3]; simp; omega)
  rw [Con.upd_upd] at h4
  have l4 := hlw _ (j * 5 + 3) [.int .i64 ((n + 5 * j + 3 : Nat) : Int)] l3
  obtain ⟨μ5, e5, h5, _, n5, o5⟩ := h4.st (r := r) (by simp only [Con.upd, if_true]; rfl) (o := j * 5 + 4) (new := [.int .i64 ((n + 5 * j + 4 : Nat) : Int)]) (.inr (hne _ l4)) (by rw [l4]; simp; omega)
  rw [Con.upd_upd] at h5
  have l5 := hlw _ (j * 5 + 4) [.int .i64 ((n + 5 * j + 4 : Nat) : Int)] l4
  rw [hs] at hidx f0
  have q1 : IntKind.i64.wrap (((n + 5 * j : Nat) : Int) + 1) = ((n + 5 * j + 1 : Nat) : Int) := by rw [small (by omega)]; omega
  have q2 : IntKind.i64.wrap (((n + 5 * j + 1 : Nat) : Int) + 1) = ((n + 5 * j + 2 : Nat) : Int) := by rw [small (by omega)]; omega
  have q3 : IntKind.i64.wrap (((n + 5 * j + 2 : Nat) : Int) + 1) = ((n + 5 * j + 3 : Nat) : Int) := by rw [small (by omega)]; omega
  have q4 : IntKind.i64.wrap (((n + 5 * j + 3 : Nat) : Int) + 1) = ((n + 5 * j + 4 : Nat) : Int) := by rw [small (by omega)]; omega
  have q5 : IntKind.i64.wrap (((n + 5 * j + 4 : Nat) : Int) + 1) = ((n + 5 * (j + 1) : Nat) : Int) := by rw [small (by omega)]; omega
  rw [R_loop]
  simp only [rI, b103_0]
  simp only [w1, w2, ↓reduceIte, zA, f0, f5]
  rw [decide_eq_true (by omega)]
  simp only [w1, w2, zH, zI, ↓reduceIte, zA, f0, f1, f5, hidx, e1, q1, e2, q2, e3, q3, e4, q4, e5, q5]
  rw [small (by omega), R_lp]
  refine ih (j + 1) _ _ μ5 _ (by omega) h5 (by simp only [Con.upd, if_true]) l5 ⟨n5.trans (n4.trans (n3.trans (n2.trans (n1.trans ho.1)))), fun b hb => (o5 b (hb hon)).trans ((o4 b (hb hon)).trans ((o3 b (hb hon)).trans ((o2 b (hb hon)).trans ((o1 b (hb hon)).trans (ho.2 b hb)))))⟩ ?_ ?_ ?_ ?_
  ·simp only [w1, ↓reduceIte, zA, f0, hs]
  ·simp only [w1, ↓reduceIte, zA]
  ·simp only [w1, ↓reduceIte]; rfl
  ·intro fr' μ' cs' a1 a2 a3 a4
   rw [Con.upd_upd] at a1
   exact hend fr' μ' cs' a1 a2 a3 a4

theorem markStep_ok {C : Con ι} {r : ι} {m n : Nat} {cs : List Cell} (hb : n + 5 * m ≤ 1000000000) (h : Has L C lo μ0) (hC : C r = some (5, cs)) (hlen : cs.length = m * 5) :
  Ret 103 [.c (L.sc r m), .c (.int .i64 n)] μ0 fun v μ' => v = .c (.int .i64 ((n + 5 * m : Nat) : Int)) ∧ (∃ cs', Has L (C.upd r (5, cs')) lo μ' ∧ cs'.length = m * 5) ∧ Only L r μ0 μ' := by
 refine Ret_of p103 (by simp [r103]) ?_
 simp only [rI, r103, frOf_2]
 simp only [w1, w2]
 refine markStepLoop (n := n) hb m 0 C _ _ cs (by omega) h hC hlen ⟨rfl, fun _ _ => rfl⟩ ?_ ?_ ?_ ?_
 ·simp only [w1, ↓reduceIte, zA]
 ·simp only [w1, ↓reduceIte, zA]; rfl
 ·simp only [w1, ↓reduceIte]; rfl
 ·intro fr' μ' cs' a1 a2 a3 a4
  simp only [w1, w2, ↓reduceIte, a4, aRet, aRes, aRes1]
  exact ⟨_, rfl, rfl, ⟨cs', a1, a2⟩, a3⟩
end

/-! ### A plan -/

def tot : PPlan → Nat
 | [] => 0
 | b :: p => b.length + tot p

theorem szRows_tot : ∀ {p : PPlan} {left : Int}, 0 ≤ szRows p left → (tot p : Int) ≤ left
 | [], left, h => by simp only [szRows] at h; simp only [tot]; omega
 | b :: p, left, h => by
  simp only [szRows] at h
  split at h
  ·omega
  ·have := szRows_tot h
   simp only [tot]; omega

theorem szP_tot {p : PPlan} (h : 0 ≤ szP p 1048576) : tot p ≤ 1048576 := by
 unfold szP at h
 split at h
 ·omega
 ·have := szRows_tot h; omega

/-- What a marked plan's parts are: bodies where they were, steps of the same number. -/
structure PShape (p : PPlan) (L : Lay PR) (C : Con PR) : Prop where
 bodies : C .bodies = some (1, cat (prow L) 0 p)
 steps : ∀ (i : Nat) (b : List PStep), p[i]? = some b → ∃ cs, C (.steps i) = some (5, cs) ∧ cs.length = b.length * 5

theorem PShape.of {p : PPlan} {L : Lay PR} : PShape p L (pcon L p) := ⟨rfl, fun i b hb => ⟨cat scells 0 b, by simp only [pcon, hb, Option.map_some], by rw [cat_length scells_len]⟩⟩

theorem markBodyLoop {p : PPlan} {L : Lay PR} {lo n : Nat} {μ0 : Mem} (hb : n + 5 * tot p ≤ 1000000000) (hp : p.length ≤ 1048576) {s : List It} {Q : Fr → Mem → Prop} :
  ∀ (k j : Nat) (C : Con PR) (fr : Fr) (μ : Mem), j + k = p.length → Has L C lo μ → PShape p L C → OnlyIn L lo μ0 μ → fr 0 = .c (L.sc .bodies p.length) → fr 1 = .c (.int .i64 ((n + 5 * tot (p.take j) : Nat) : Int)) → fr 5 = .c (.int .i64 j) →
   (∀ fr' μ' C', Has L C' lo μ' → OnlyIn L lo μ0 μ' → fr' 1 = .c (.int .i64 ((n + 5 * tot p : Nat) : Int)) → R s fr' μ' Q) → R (.c (.loop b74_0) :: .blk 0 :: s) fr μ Q := by
 have tapp : ∀ (a b : PPlan), tot (a ++ b) = tot a + tot b := by
  intro a b
  induction a with
  | nil => simp [tot]
  | cons x a ih => simp only [List.cons_append, tot, ih]; omega
 intro k
 induction k with
 | zero =>
  intro j C fr μ hj h hS ho f0 f1 f5 hend
  obtain rfl : j = p.length := by omega
  obtain ⟨a, c, hs⟩ := h.scf hS.bodies (n := p.length) (by rw [cat_length (prow_len L)]) (by omega)
  rw [List.take_length] at f1
  rw [R_loop]
  simp only [rI, b74_0]
  simp only [w1, w2, ↓reduceIte, zA, f0, f5, hs]
  rw [decide_eq_false (by omega)]
  simp only [w1]
  rw [R_exit rfl]
  exact hend _ μ C h ho (by simp only [w1, ↓reduceIte, zA, f1])
 | succ k ih =>
  intro j C fr μ hj h hS ho f0 f1 f5 hend
  have hlt : j < p.length := by omega
  have hget : p[j]? = some p[j] := List.getElem?_eq_getElem hlt
  have hlen : (cat (prow L) 0 p).length = p.length * 1 := by rw [cat_length (prow_len L)]
  have hrd := h.rd hS.bodies hlen (by omega)
  obtain ⟨b, o, e1, _, _, e4⟩ := hrd.row (prow_len L) (by omega) hget
  have e4' := e4 0 (by omega)
  simp only [prow, List.getElem?_cons_zero, Option.map_some] at e4'
  obtain ⟨a, c, hs⟩ := h.scf hS.bodies hlen (by omega)
  obtain ⟨cs, hC, hcl⟩ := hS.steps j _ hget
  have htk : p.take (j + 1) = p.take j ++ [p[j]] := List.take_succ_eq_append_getElem hlt
  have ht1 : tot (p.take (j + 1)) = tot (p.take j) + p[j].length := by rw [htk, tapp]; simp [tot]
  have ht2 : tot (p.take (j + 1)) ≤ tot p := by
   have : tot p = tot (p.take (j + 1)) + tot (p.drop (j + 1)) := by rw [← tapp, List.take_append_drop]
   omega
  have hms := markStep_ok (n := n + 5 * tot (p.take j)) (by omega) h hC hcl
  rw [hs] at e1
  rw [R_loop]
  simp only [rI, b74_0]
  simp only [w1, w2, ↓reduceIte, zA, f0, f5, hs]
  rw [decide_eq_true (by omega)]
  simp only [w1, w2, ↓reduceIte, zA, f0, f1, f5, hs, e1, e4']
  refine R_calls rfl (by simp only [w1, w2, ↓reduceIte, zA]; exact hms) ?_
  rintro v μ1 ⟨rfl, ⟨cs', h1, hl1⟩, n1, o1⟩
  simp only [w1, w2, ↓reduceIte, zA, f5]
  rw [small (by omega), R_lp]
  refine ih (j + 1) _ _ μ1 (by omega) h1 ⟨?_, fun i b hb => ?_⟩ ⟨n1.trans ho.1, fun b hb => ?_⟩ ?_ ?_ ?_ hend
  ·simp only [Con.upd]; rw [if_neg (by intro hh; cases hh)]; exact hS.bodies
  ·by_cases hi : i = j
   ·subst hi
    rw [hget] at hb
    simp only [Option.some.injEq] at hb
    subst hb
    exact ⟨cs', by simp only [Con.upd, if_true], hl1⟩
   ·simp only [Con.upd]
    rw [if_neg (by intro hh; injection hh with hh; exact hi hh)]
    exact hS.steps i b hb
  ·exact (o1 b fun hn e => hb _ hn e.symm).trans (ho.2 b hb)
  ·simp only [w1, ↓reduceIte, zA, f0, hs]
  ·simp only [w1, ↓reduceIte, zA]; congr 2; omega
  ·simp only [w1, ↓reduceIte]; rfl

theorem markPlan_ok {p : PPlan} {L : Lay PR} {lo n : Nat} {μ : Mem} {C : Con PR} (hb : n + 5 * tot p ≤ 1000000000) (hp : p.length ≤ 1048576) (h : Has L C lo μ) (hS : PShape p L C) :
  Ret 45 [.agg [L.sc .bodies p.length], .c (.int .i64 n)] μ fun v μ' => v = .c (.int .i64 ((n + 5 * tot p : Nat) : Int)) ∧ μ'.next = μ.next + 1 ∧ ∀ b, b < μ.next → (∀ r, L.on r = true → L.id r ≠ b) → μ'.obj b = μ.obj b := by
 refine Ret_of p45 (by simp [r45]) ?_
 simp only [rI, r45, frOf_2]
 have lA : (μ.new [L.sc .bodies p.length] 0).ld none μ.next 0 = some (.c (L.sc .bodies p.length)) := new_ld0 rfl
 simp only [w1, w2, zH, zI, ↓reduceIte, zA, lA]
 have h1 : Has L C lo (μ.new [L.sc .bodies p.length] 0) := h.tmp
 have hk : Ret 74 [.c (L.sc .bodies p.length), .c (.int .i64 n)] (μ.new [L.sc .bodies p.length] 0) fun v μ' => v = .c (.int .i64 ((n + 5 * tot p : Nat) : Int)) ∧ OnlyIn L lo (μ.new [L.sc .bodies p.length] 0) μ' := by
  refine Ret_of p74 (by simp [r74]) ?_
  simp only [rI, r74, frOf_2]
  simp only [w1, w2]
  refine markBodyLoop (p := p) (n := n) hb hp p.length 0 C _ _ (by omega) h1 hS ⟨rfl, fun _ _ => rfl⟩ ?_ ?_ ?_ ?_
  ·simp only [w1, ↓reduceIte, zA]
  ·simp only [w1, ↓reduceIte, zA]; rfl
  ·simp only [w1, ↓reduceIte]; rfl
  ·intro fr' μ' C' a1 a2 a3
   simp only [w1, w2, ↓reduceIte, a3, aRet, aRes, aRes1]
   exact ⟨_, rfl, rfl, a2⟩
 refine R_calls (l := [.c (L.sc .bodies p.length), .c (.int .i64 n)]) (by simp only [w1, w2, ↓reduceIte, zA]) hk ?_
 rintro v μ' ⟨rfl, n1, o1⟩
 simp only [w1, w2, ↓reduceIte, aRet, aRes, aRes1]
 refine ⟨_, rfl, rfl, n1.trans (by simp only [Mem.new_next]), fun b hb hf => (o1 b hf).trans ?_⟩
 simp only [Mem.new]; rw [if_neg (by omega)]
end Go.Proofs.Ytibmnlijoeppaaa
