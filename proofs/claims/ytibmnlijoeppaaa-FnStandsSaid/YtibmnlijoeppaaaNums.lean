/-
 A list of numbers that is being built by appends.
-/
import Derived.Test.YtibmnlijoeppaaaIRep2
namespace Go.Proofs.Ytibmnlijoeppaaa
set_option linter.unusedSimpArgs false
set_option linter.unusedVariables false

/-- A list of numbers that is being built. -/
def Nums (lo : Nat) (μ : Mem) (c : Cell) (l : List Int) : Prop := ∃ L : Lay Unit, Has L (fun _ => some (1, cat irow 0 l)) lo μ ∧ lo ≤ μ.next ∧ c = L.sc () l.length ∧ (L.on () = true → L.cap () = l.length)

theorem Nums.nil {lo : Nat} {μ : Mem} (h : lo ≤ μ.next) : Nums lo μ (.slc none 0 0) [] := by
 refine ⟨⟨fun _ => 0, fun _ => false, fun _ => 0⟩, (Has.start (fun _ => rfl)).weaken' fun r sz cs e => .inr ?_, h, rfl, fun hh => by cases hh⟩
 simp only [cat, Option.some.injEq, Prod.mk.injEq] at e
 exact ⟨rfl, by omega, e.2.symm⟩

theorem Nums.rd {lo : Nat} {μ : Mem} {c : Cell} {l : List Int} (h : Nums lo μ c l) : Rd μ.next μ 1 c l.length (cat irow 0 l) := by
 obtain ⟨L, h1, h2, rfl, _⟩ := h
 exact h1.rd (r := ()) (sz := 1) rfl (by rw [cat_length irow_len]) (by omega)

theorem Nums.app {lo : Nat} {μ : Mem} {c : Cell} {l : List Int} (h : Nums lo μ c l) (new : List Int) (hlen : l.length + new.length < roomy) :
  ∃ c' μ', aapp 1 8 (.c c) (.c (.slc (some (μ.next, 0)) new.length new.length)) (μ.new (cat irow 0 new) 1) = some (.c c', μ') ∧ Nums lo μ' c' (l ++ new) ∧ Same lo μ μ' := by
 unfold roomy at hlen
 obtain ⟨L, h1, h2, rfl, hcap⟩ := h
 have hn : (cat irow 0 new).length = new.length * 1 := by rw [cat_length irow_len]
 obtain ⟨L1, μ1, ea, hL1, hs1, hoth, hob, hon, hc1, hidr⟩ := (h1.tmp (cs := cat irow 0 new) (sz := 1)).app (Nat.le_succ_of_le h2) (r := ()) (bytes := 8) (n := l.length) (k := new.length) (c := new.length)
  (b := some (μ.next, 0)) (new := cat irow 0 new) rfl (by omega) (by rw [cat_length irow_len]) (SlcVal.fresh hn) ⟨by unfold most; omega, by unfold most; omega⟩ (.inr hcap)
 refine ⟨_, μ1, ea, ⟨L1, hL1.weaken fun r x hx => ?_, Nat.le_trans (Nat.le_succ_of_le h2) hs1.2, by rw [List.length_append], fun hh => by rw [List.length_append]; exact hc1 hcap hh⟩, (Same.tmp h2).trans hs1⟩
 simp only [Con.upd, if_true]
 rw [cat_append] at hx
 rw [← hx]
 congr 2
 rw [Nat.zero_add]
 congr 1
 have : ∀ (m : List Int) (i j : Nat), cat irow i m = cat irow j m := by
  intro m
  induction m with
  | nil => intro i j; rfl
  | cons a m ih => intro i j; simp only [cat, irow, ih (i + 1) (j + 1)]
 exact this new 0 l.length
end Go.Proofs.Ytibmnlijoeppaaa
