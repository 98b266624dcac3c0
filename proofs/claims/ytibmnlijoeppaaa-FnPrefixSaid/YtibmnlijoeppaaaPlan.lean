/-
 Plans: how they are read, how big they are, how they are copied and compared.
-/
import Derived.Test.YtibmnlijoeppaaaMems
namespace Go.Proofs.Ytibmnlijoeppaaa
open Nat renaming reduceEqDiff → zA, reduceAdd → zB, reduceLeDiff → zJ, reduceMul → zK
open Int renaming reduceLT → zC, reduceLE → zD, reduceNeg → zE, reduceBEq → zF, reduceBNe → zG
open AV renaming isTup → zH, cells → zI
set_option linter.unusedSimpArgs false
set_option linter.unusedVariables false

structure PStep where
 op : Int
 a : Int
 b : Int
 n : Int
 size : Int
 deriving DecidableEq, Repr, Inhabited

def scells (_ : Nat) (s : PStep) : List Cell := [.int .i64 s.op, .int .i64 s.a, .int .i64 s.b, .int .i64 s.n, .int .i64 s.size]

theorem scells_len (i : Nat) (s : PStep) : (scells i s).length = 5 := rfl

def crow (_ : Nat) (c : Cell) : List Cell := [c]

theorem crow_len (i : Nat) (c : Cell) : (crow i c).length = 1 := rfl

abbrev PPlan := List (List PStep)

/-- A value is a plan's list of bodies. -/
structure PlanR (hi : Nat) (μ : Mem) (c : Cell) (p : PPlan) : Prop where
 ex : ∃ bc : List Cell, bc.length = p.length ∧ Rd hi μ 1 c bc.length (cat crow 0 bc) ∧ ∀ (i : Nat) (b : List PStep), p[i]? = some b → ∃ x, bc[i]? = some x ∧ Rd hi μ 5 x b.length (cat scells 0 b)

theorem PlanR.same {hi hi' : Nat} {μ μ' : Mem} {c : Cell} {p : PPlan} (h : PlanR hi μ c p) (hs : Same hi' μ μ') (hh : hi ≤ hi') : PlanR hi μ' c p := by
 obtain ⟨bc, h1, h2, h3⟩ := h
 refine ⟨bc, h1, h2.same hs hh, fun i b hb => ?_⟩
 obtain ⟨x, hx, hr⟩ := h3 i b hb
 exact ⟨x, hx, hr.same hs hh⟩

theorem PlanR.mono {hi hi' : Nat} {μ : Mem} {c : Cell} {p : PPlan} (h : PlanR hi μ c p) (hh : hi ≤ hi') : PlanR hi' μ c p := by
 obtain ⟨bc, h1, h2, h3⟩ := h
 refine ⟨bc, h1, h2.mono hh, fun i b hb => ?_⟩
 obtain ⟨x, hx, hr⟩ := h3 i b hb
 exact ⟨x, hx, hr.mono hh⟩

theorem PlanR.slc {hi : Nat} {μ : Mem} {c : Cell} {p : PPlan} (h : PlanR hi μ c p) : ∃ a cap, c = .slc a p.length cap := by
 obtain ⟨bc, h1, ⟨a, cap, h2, _⟩, _⟩ := h
 exact ⟨a, cap, by rw [h2, h1]⟩

theorem PlanR.at {hi : Nat} {μ : Mem} {c : Cell} {p : PPlan} (h : PlanR hi μ c p) {j : Nat} {b : List PStep} (hj : p[j]? = some b) :
  ∃ i o x, (∀ kd, aidx (.c c) (.c (.int kd (j : Int))) 1 = some (.c (.ptr (some (i, o))))) ∧ i < hi ∧ μ.ld (some 1) i o = some (.agg [x]) ∧ μ.ld none i o = some (.c x) ∧ Rd hi μ 5 x b.length (cat scells 0 b) := by
 obtain ⟨bc, h1, h2, h3⟩ := h
 obtain ⟨x, hx, hr⟩ := h3 j b hj
 obtain ⟨i, o, e1, e2, e3, e4⟩ := h2.row crow_len (by omega) hx
 exact ⟨i, o, x, e1, e2, e3, by have := e4 0 (by omega); simpa [crow] using this, hr⟩

/-- Lengths that can be. -/
def Lens (p : PPlan) : Prop := p.length ≤ 9223372036854775807 ∧ ∀ b ∈ p, b.length ≤ 9223372036854775807

theorem fill_set {α : Type} {l : List α} {z : α} {i : Nat} (h : i < l.length) : (l.take i ++ List.replicate (l.length - i) z).set i l[i] = l.take (i + 1) ++ List.replicate (l.length - (i + 1)) z := by
 have h1 : (l.take i).length = i := by rw [List.length_take]; omega
 rw [List.set_append_right _ _ (by omega), h1, Nat.sub_self, show l.length - i = (l.length - (i + 1)) + 1 by omega, List.replicate_succ, List.set_cons_zero, List.take_succ_eq_append_getElem h, List.append_assoc]
 rfl

theorem fill_get {α : Type} {l : List α} {z : α} {i : Nat} (h : i < l.length) : (l.take i ++ List.replicate (l.length - i) z)[i]? = some z := by
 have h1 : (l.take i).length = i := by rw [List.length_take]; omega
 rw [List.getElem?_append_right (by omega), h1, Nat.sub_self]
 simp [show 0 < l.length - i by omega]

theorem wr_all : ∀ {new l : List Cell}, new.length = l.length → wr l 0 new = new := by
 have key : ∀ {new l p : List Cell}, new.length = l.length → wr (p ++ l) p.length new = p ++ new := by
  intro new
  induction new with
  | nil =>
   intro l p h
   have : l = [] := List.eq_nil_of_length_eq_zero h.symm
   rw [this]; rfl
  | cons c new ih =>
   intro l p h
   cases l with
   | nil => simp at h
   | cons d l =>
    simp only [List.length_cons, Nat.add_right_cancel_iff] at h
    simp only [wr]
    rw [List.set_append_right _ _ (Nat.le_refl _), Nat.sub_self, List.set_cons_zero]
    have := ih (p := p ++ [c]) h
    simpa using this
 intro new l h
 simpa using key (p := []) h

def PStep.zero : PStep := ⟨0, 0, 0, 0, 0⟩

inductive PR where
 | bodies
 | steps (i : Nat)
 deriving DecidableEq

def prow (L : Lay PR) (i : Nat) (b : List PStep) : List Cell := [L.sc (.steps i) b.length]

theorem prow_len (L : Lay PR) (i : Nat) (b : List PStep) : (prow L i b).length = 1 := rfl

/-- A plan that is owned. -/
def pcon (L : Lay PR) (p : PPlan) : Con PR
 | .bodies => some (1, cat (prow L) 0 p)
 | .steps i => (p[i]?).map fun b => (5, cat scells 0 b)

def part (p : PPlan) (i : Nat) : PPlan := p.take i ++ List.replicate (p.length - i) []

theorem part_length {p : PPlan} {i : Nat} (h : i ≤ p.length) : (part p i).length = p.length := by simp [part]; omega

theorem part_all {p : PPlan} : part p p.length = p := by simp [part]

theorem part_get {p : PPlan} {i : Nat} (h : i < p.length) : (part p i)[i]? = some [] := fill_get h

theorem part_set {p : PPlan} {i : Nat} (h : i < p.length) : (part p i).set i p[i] = part p (i + 1) := fill_set h

theorem part_ne {p : PPlan} {i j : Nat} (h : i < p.length) (hj : j ≠ i) : (part p (i + 1))[j]? = (part p i)[j]? := by
 rw [← part_set h, List.getElem?_set_ne (Ne.symm hj)]

theorem part_at {p : PPlan} {i : Nat} (h : i < p.length) : (part p (i + 1))[i]? = some p[i] := by
 rw [← part_set h, List.getElem?_set_self (by rw [part_length (by omega)]; exact h)]

/-- An owned plan is read as a plan. -/
theorem Has.planR {L : Lay PR} {p : PPlan} {lo : Nat} {μ : Mem} (h : Has L (pcon L p) lo μ) : PlanR μ.next μ (L.sc .bodies p.length) p := by
 have hcat : cat (prow L) 0 p = cat crow 0 (p.mapIdx fun i b => L.sc (.steps i) b.length) := by
  have key : ∀ (q : PPlan) (k : Nat), cat (prow L) k q = cat crow 0 (q.mapIdx fun i b => L.sc (.steps (k + i)) b.length) := by
   intro q
   induction q with
   | nil => intro k; rfl
   | cons b q ih =>
    intro k
    rw [List.mapIdx_cons]
    simp only [cat, prow, crow, Nat.add_zero]
    rw [ih (k + 1)]
    have e : ∀ (l : List Cell) (m n : Nat), cat crow m l = cat crow n l := by
     intro l
     induction l with
     | nil => intro m n; rfl
     | cons c l ih => intro m n; simp only [cat, crow]; rw [ih (m + 1) (n + 1)]
    rw [e _ 0 1]
    congr 3
    funext i b
    rw [show k + 1 + i = k + (i + 1) by omega]
  have := key p 0
  simpa using this
 refine ⟨p.mapIdx fun i b => L.sc (.steps i) b.length, by simp, ?_, fun i b hb => ⟨L.sc (.steps i) b.length, ?_, ?_⟩⟩
 ·have := h.rd (r := .bodies) (sz := 1) (n := p.length) (cs := cat (prow L) 0 p) rfl (by rw [cat_length (prow_len L)]) (by omega)
  rw [hcat] at this
  simpa using this
 ·simp [hb]
 ·exact h.rd (r := .steps i) (sz := 5) (n := b.length) (cs := cat scells 0 b) (by simp [pcon, hb]) (by rw [cat_length scells_len]) (by omega)

def fltc (a b c : Int) : List Cell := [.int .i64 a, .int .i64 b, .int .i64 c]
end Go.Proofs.Ytibmnlijoeppaaa
