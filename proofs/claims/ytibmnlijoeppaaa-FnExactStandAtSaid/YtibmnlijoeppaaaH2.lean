/-
 Parts of memory: what lies at an index, one cell of a row written.
-/
import Derived.Test.YtibmnlijoeppaaaIW8
namespace Go.Proofs.Ytibmnlijoeppaaa
set_option linter.unusedSimpArgs false
set_option linter.unusedVariables false

theorem bneq {a b : Int} (h : a = b) : (a != b) = false := by simpa using h

/-- What lies at an index of a part. -/
theorem Has.slot {ι : Type} [DecidableEq ι] {L : Lay ι} {C : Con ι} {lo : Nat} {μ : Mem} (h : Has L C lo μ) {r : ι} {sz n : Nat} {cs : List Cell} (e : C r = some (sz, cs)) (hl : cs.length = n * sz) (hz : 0 < sz) {j : Nat} (hj : j < n) :
  ∀ kd : IntKind, aidx (.c (L.sc r n)) (.c (.int kd (j : Int))) sz = some (pt (L.id r) (j * sz)) := by
 intro kd
 have hne : cs ≠ [] := by
  intro hh; subst hh
  have : 0 < n * sz := Nat.mul_pos (by omega) hz
  simp at hl; omega
 rw [Lay.sc_slc (h.on e (.inr hne)), aidx_in (by omega)]
 simp

theorem Con.upd_upd {ι : Type} [DecidableEq ι] {C : Con ι} {r : ι} {x y : Nat × List Cell} : (C.upd r x).upd r y = C.upd r y := by funext z; simp only [Con.upd]; split <;> rfl
theorem Con.upd_self {ι : Type} [DecidableEq ι] {C : Con ι} {r : ι} {x : Nat × List Cell} (h : C r = some x) : C.upd r x = C := by funext z; simp only [Con.upd]; split; rename_i e; rw [e, h]; rfl

section
variable {ι : Type} [DecidableEq ι] {L : Lay ι} {lo : Nat} {μ0 : Mem}

/-- Only one part has changed. -/
def Only (L : Lay ι) (r : ι) (μ μ' : Mem) : Prop := μ'.next = μ.next ∧ ∀ b, (L.on r = true → b ≠ L.id r) → μ'.obj b = μ.obj b

end

/-- Only the plan's own parts have changed. -/
def OnlyIn {ι : Type} (L : Lay ι) (lo : Nat) (μ μ' : Mem) : Prop := μ'.next = μ.next ∧ ∀ b, (∀ r, L.on r = true → L.id r ≠ b) → μ'.obj b = μ.obj b

section
variable {ι : Type} [DecidableEq ι] {L : Lay ι} {C : Con ι} {lo : Nat} {μ μ0 : Mem}
/-- One cell of a row is written. -/
theorem Has.put1 {α : Type} {g : Nat → α → List Cell} {sz : Nat} (hg : ∀ i a, (g i a).length = sz) (h : Has L C lo μ) {r : ι} {l : List α} (e : C r = some (sz, cat g 0 l)) {j k : Nat} {a a' : α} (hj : l[j]? = some a) (hk : k < sz) {x : Cell} (hw : wr (g j a) k [x] = g j a') :
  ∃ μ', μ.st (L.id r) (j * sz + k) [x] = some μ' ∧ Has L (C.upd r (sz, cat g 0 (l.set j a'))) lo μ' ∧ Only L r μ μ' := by
 have hlt : j < l.length := (List.getElem?_eq_some_iff.1 hj).1
 have hlen : (cat g 0 l).length = l.length * sz := cat_length hg
 have hmul : (j + 1) * sz ≤ l.length * sz := Nat.mul_le_mul_right sz hlt
 rw [Nat.add_mul, Nat.one_mul] at hmul
 have hne : cat g 0 l ≠ [] := by intro hh; rw [hh] at hlen; simp only [List.length_nil] at hlen; omega
 obtain ⟨μ1, e1, h1, _, n1, o1⟩ := h.st e (o := j * sz + k) (new := [x]) (.inr hne) (by rw [hlen]; simp only [List.length_cons, List.length_nil]; omega)
 rw [cat_wr hg (a' := a') hj (by simp only [List.length_cons, List.length_nil]; omega) (by rw [Nat.zero_add]; exact hw)] at h1
 exact ⟨μ1, e1, h1, n1, fun b hb => o1 b (hb (h.on e (.inr hne)))⟩

omit [DecidableEq ι] in
theorem Only.in {r : ι} {μ' : Mem} (h : Only L r μ μ') (h0 : OnlyIn L lo μ0 μ) : OnlyIn L lo μ0 μ' := ⟨h.1.trans h0.1, fun b hb => (h.2 b fun hr e => hb r hr e.symm).trans (h0.2 b hb)⟩

end
end Go.Proofs.Ytibmnlijoeppaaa
