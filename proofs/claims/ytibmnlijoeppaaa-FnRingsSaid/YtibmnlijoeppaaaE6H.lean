/-
 Rings whose parts lie apart.
-/
import Derived.Test.YtibmnlijoeppaaaH2
namespace Go.Proofs.Ytibmnlijoeppaaa
open Nat renaming reduceEqDiff → zA, reduceAdd → zB, reduceLeDiff → zJ, reduceMul → zK
open Int renaming reduceLT → zC, reduceLE → zD, reduceNeg → zE, reduceBEq → zF, reduceBNe → zG
open AV renaming isTup → zH, cells → zI
set_option linter.unusedSimpArgs false
set_option linter.unusedVariables false

def grow (g : Nat → Cell) (i : Nat) (r : PRing) : List Cell := [.int .i64 r.pos, g i]

theorem grow_len (g : Nat → Cell) (i : Nat) (r : PRing) : (grow g i r).length = 2 := rfl

def rgTot : List PRing → Nat
 | [] => 0
 | r :: l => 1 + r.tasks.length + rgTot l

/-- Rings whose parts lie above 'lo' and apart. -/
structure RingsH (lo : Nat) (μ : Mem) (L : Lay IR) (C : Con IR) (l : List PRing) : Prop where
 has : Has L C lo μ
 rows : C .rings = some (2, cat (ringrow L) 0 l)
 each : ∀ (i : Nat) (r : PRing), l[i]? = some r → C (.ring i) = some (1, cat irow 0 r.tasks)

theorem RingsH.v {lo : Nat} {μ : Mem} {L : Lay IR} {C : Con IR} {l : List PRing} (h : RingsH lo μ L C l) : RingsV μ.next μ (L.sc .rings l.length) l := by
 refine ⟨fun i => match l[i]? with | some r => L.sc (.ring i) r.tasks.length | none => .slc none 0 0, ?_, fun i r hr => ?_⟩
 ·have := h.has.rd h.rows (n := l.length) (by rw [cat_length (ringrow_len L)]) (by omega)
  rw [cat_congr (g := fun i (r : PRing) => [Cell.int .i64 r.pos, match l[i]? with | some r => L.sc (.ring i) r.tasks.length | none => .slc none 0 0]) (g' := ringrow L) fun j g hj => by
   simp only [Nat.zero_add, hj, ringrow]]
  exact this
 ·simp only [hr]
  exact h.has.rd (h.each i r hr) (by rw [cat_length irow_len]) (by omega)
end Go.Proofs.Ytibmnlijoeppaaa
