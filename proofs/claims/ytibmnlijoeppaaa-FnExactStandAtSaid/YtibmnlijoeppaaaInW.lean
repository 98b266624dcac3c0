/-
 Values in a row in the world, and an abstract object that reads them.
-/
import Derived.Test.YtibmnlijoeppaaaPlan
import Derived.ProofKit
import Derived.OpenShut
namespace Go.Proofs.Ytibmnlijoeppaaa
open Go.ChangeShapes Go.WideShapes Go.ChangeAt Go.RowKit
set_option linter.unusedSimpArgs false
set_option linter.unusedVariables false

theorem five_of {cs : List Value} (h : cs.length = 5) : ∃ a b c d e, cs = [a, b, c, d, e] := by
 rcases cs with _ | ⟨a, _ | ⟨b, _ | ⟨c, _ | ⟨d, _ | ⟨e, _ | ⟨f, t⟩⟩⟩⟩⟩⟩ <;> simp_all

theorem one_of {cs : List Value} (h : cs.length = 1) : ∃ a, cs = [a] := by
 rcases cs with _ | ⟨a, _ | ⟨b, t⟩⟩ <;> simp_all

/-- Values in a row in the world. -/
def Win (W : World) (a : Addr) (vs : List Value) : Prop :=
 a.spot = none ∧ ∃ c T fz, W.heap[a.block]? = some (.cells c T fz) ∧ a.off + vs.length ≤ c.size ∧ ∀ (k : Nat) (v : Value), vs[k]? = some v → c[a.off + k]? = some v

theorem Win.of {W : World} {a : Addr} {vs : List Value} (hne : vs ≠ []) (h : ∀ (k : Nat) (v : Value), vs[k]? = some v → W.cell? (a.add k) = some v) : Win W a vs := by
 have hcell : ∀ (k : Nat) (v : Value), vs[k]? = some v → a.spot = none → ∃ c T fz, W.heap[a.block]? = some (.cells c T fz) ∧ c[a.off + k]? = some v := by
  intro k v hv hsp
  have h1 := h k v hv
  have e : a.add k = ⟨a.block, a.off + k, none⟩ := by
   unfold Addr.add
   split
   ·rename_i h0; subst h0; cases a; simp_all
   ·rfl
  rw [e] at h1
  unfold World.cell? at h1
  split at h1
  ·rename_i c T fz hc
   exact ⟨c, T, fz, hc, by simpa using h1⟩
  ·cases h1
 have hsp : a.spot = none := by
  obtain ⟨v, hv⟩ : ∃ v, vs[0]? = some v := by
   cases vs with
   | nil => exact absurd rfl hne
   | cons v vs => exact ⟨v, rfl⟩
  have h1 := h 0 v hv
  have e : a.add 0 = a := by simp [Addr.add]
  rw [e] at h1
  unfold World.cell? at h1
  split at h1
  ·split at h1
   ·cases h1
   ·rename_i hs; simpa using hs
  ·cases h1
 obtain ⟨v, hv⟩ : ∃ v, vs[vs.length - 1]? = some v := by
  cases vs with
  | nil => exact absurd rfl hne
  | cons v vs => exact ⟨_, List.getElem?_eq_getElem (by simp)⟩
 obtain ⟨c, T, fz, hc, hl⟩ := hcell _ v hv hsp
 refine ⟨hsp, c, T, fz, hc, ?_, ?_⟩
 ·have h1 : a.off + (vs.length - 1) < c.size := (Array.getElem?_eq_some_iff.1 hl).1
  have : 0 < vs.length := List.length_pos_iff.2 hne
  omega
 ·intro k v hv
  obtain ⟨c', T', fz', hc', hl'⟩ := hcell k v hv hsp
  rw [hc] at hc'
  simp only [Option.some.injEq, Obj.cells.injEq] at hc'
  rw [hc'.1]; exact hl'

theorem exists_list {α : Type} {Q : Nat → α → Prop} : ∀ (n : Nat), (∀ i, i < n → ∃ x, Q i x) → ∃ l : List α, l.length = n ∧ ∀ (i : Nat) (x : α), l[i]? = some x → Q i x
 | 0, _ => ⟨[], rfl, fun i x h => (by simp at h)⟩
 | n + 1, h => by
  obtain ⟨l, h1, h2⟩ := exists_list n (fun i hi => h i (by omega))
  obtain ⟨x, hx⟩ := h n (by omega)
  refine ⟨l ++ [x], by simp [h1], fun i y hy => ?_⟩
  by_cases hi : i < l.length
  ·rw [List.getElem?_append_left hi] at hy; exact h2 i y hy
  ·rw [List.getElem?_append_right (by omega)] at hy
   have : i - l.length = 0 := by
    have := (List.getElem?_eq_some_iff.1 hy).1
    simp at this; omega
   rw [this] at hy
   simp only [List.getElem?_cons_zero, Option.some.injEq] at hy
   subst hy
   have : i = n := by omega
   rw [this]; exact hx

def winObj (off size : Nat) (cs : List Cell) : AObj := ⟨List.replicate off hole ++ (cs ++ List.replicate (size - off - cs.length) hole), 0, true⟩

theorem win_len {off size : Nat} {cs : List Cell} (h : off + cs.length ≤ size) : (winObj off size cs).cells.length = size := by
 simp [winObj]; omega

theorem rd_skip : ∀ {n : Nat} {p l : List Cell} {o : Nat}, rd (p ++ l) (p.length + o) n = rd l o n := by
 intro n
 induction n with
 | zero => intro p l o; rfl
 | succ n ih =>
  intro p l o
  simp only [rd]
  rw [List.getElem?_append_right (by omega), show p.length + o - p.length = o by omega, Nat.add_assoc, ih]

theorem win_rd {off size : Nat} {cs : List Cell} : rd (winObj off size cs).cells off cs.length = some cs := by
 have := rd_skip (n := cs.length) (p := List.replicate off hole) (l := cs ++ List.replicate (size - off - cs.length) hole) (o := 0)
 rw [List.length_replicate, Nat.add_zero] at this
 unfold winObj
 rw [this]
 exact rd_append (rd_all cs)

theorem win_get {off size k : Nat} {cs : List Cell} {y : Cell} (h : (winObj off size cs).cells[k]? = some y) : y = hole ∨ ∃ j, k = off + j ∧ cs[j]? = some y := by
 unfold winObj at h
 dsimp only at h
 by_cases h1 : k < off
 ·rw [List.getElem?_append_left (by simpa using h1), List.getElem?_replicate, if_pos h1] at h
  simp only [Option.some.injEq] at h; exact .inl h.symm
 ·rw [List.getElem?_append_right (by simpa using Nat.not_lt.1 h1), List.length_replicate] at h
  by_cases h2 : k - off < cs.length
  ·rw [List.getElem?_append_left h2] at h
   exact .inr ⟨k - off, by omega, h⟩
  ·rw [List.getElem?_append_right (Nat.not_lt.1 h2), List.getElem?_replicate] at h
   split at h
   ·simp only [Option.some.injEq] at h; exact .inl h.symm
   ·cases h
end Go.Proofs.Ytibmnlijoeppaaa
