/-
 How blocks are nested: both packages' tests of it, and that they agree.
-/
import Derived.Test.YtibmnlijoeppaaaShape
namespace Go.Proofs.Ytibmnlijoeppaaa
set_option linter.unusedSimpArgs false
set_option linter.unusedVariables false

/-- The specification's test: the steps from i up to 'to'. -/
def insideP (l : List PStep) : Nat → Nat → Nat → Nat → Bool → Int × Int
 | 0, _, _, _, _ => (0, 0)
 | f + 1, i, to, deep, d =>
  if i < to then
   match l[i]? with
   | none => (0, 0)
   | some s =>
    if headP s.op = true then
     if s.size > (to : Int) - i - 1 then (4, i)
     else if deep = 12 then (5, i)
     else
      let r := insideP l f (i + 1) (i + 1 + s.size.toNat) (deep + 1) (d || s.op == 13)
      if r.1 ≠ 0 then r else insideP l f (i + 1 + s.size.toNat) to deep d
    else if s.op = 10 ∧ d = true then (6, i)
    else insideP l f (i + 1) to deep d
  else (0, 0)

/-- More fuel changes nothing. -/
theorem insideP_fuel {l : List PStep} : ∀ {f f' i to deep : Nat} {d : Bool}, to - i ≤ f → to - i ≤ f' → (∀ s ∈ l, 0 ≤ s.size) → insideP l f i to deep d = insideP l f' i to deep d := by
 intro f
 induction f with
 | zero =>
  intro f' i to deep d h h' hs
  cases f' with
  | zero => rfl
  | succ f' => simp only [insideP]; rw [if_neg (by omega)]
 | succ f ih =>
  intro f' i to deep d h h' hs
  cases f' with
  | zero => simp only [insideP]; rw [if_neg (by omega)]
  | succ f' =>
   simp only [insideP]
   by_cases hi : i < to
   ·rw [if_pos hi, if_pos hi]
    cases hl : l[i]? with
    | none => rfl
    | some s =>
     dsimp only
     have hsz := hs s (List.mem_of_getElem? hl)
     by_cases hh : headP s.op = true
     ·rw [if_pos hh, if_pos hh]
      by_cases h4 : s.size > (to : Int) - i - 1
      ·rw [if_pos h4, if_pos h4]
      ·rw [if_neg h4, if_neg h4]
       by_cases h5 : deep = 12
       ·rw [if_pos h5, if_pos h5]
       ·rw [if_neg h5, if_neg h5]
        rw [ih (f' := f') (by omega) (by omega) hs, ih (f' := f') (i := i + 1 + s.size.toNat) (by omega) (by omega) hs]
     ·rw [if_neg hh, if_neg hh]
      by_cases h6 : s.op = 10 ∧ d = true
      ·rw [if_pos h6, if_pos h6]
      ·rw [if_neg h6, if_neg h6, ih (f' := f') (by omega) (by omega) hs]
   ·rw [if_neg hi, if_neg hi]

/-- The program's test keeps open blocks on a stack, the innermost one first. -/
def popR (s : Int) : List (Int × Bool) → List (Int × Bool)
 | [] => []
 | [x] => [x]
 | x :: y :: r => if s ≥ x.1 then popR s (y :: r) else x :: y :: r

def nestGo : List PStep → Nat → List (Int × Bool) → Int × Int
 | [], _, _ => (0, 0)
 | x :: l, s, stk =>
  match popR s stk with
  | [] => (0, 0)
  | top :: r =>
   if headP x.op = true then
    if x.size > top.1 - s - 1 then (4, s)
    else if (r.length : Int) ≥ 12 then (5, s)
    else nestGo l (s + 1) ((s + 1 + x.size, top.2 || x.op == 13) :: top :: r)
   else if x.op = 10 ∧ top.2 = true then (6, s)
   else nestGo l (s + 1) (top :: r)

theorem popR_popR {s : Int} : ∀ {l : List (Int × Bool)}, popR s (popR s l) = popR s l
 | [] => rfl
 | [x] => rfl
 | x :: y :: r => by
  simp only [popR]
  by_cases h : s ≥ x.1
  ·rw [if_pos h]; exact popR_popR
  ·rw [if_neg h]; simp only [popR]; rw [if_neg h]

theorem nestGo_pop {l : List PStep} {s : Nat} {x y : Int × Bool} {r : List (Int × Bool)} (h : (s : Int) ≥ x.1) : nestGo l s (x :: y :: r) = nestGo l s (y :: r) := by
 cases l with
 | nil => rfl
 | cons a l => simp only [nestGo, popR]; rw [if_pos h]

theorem nest_inside {l : List PStep} (hs : ∀ s ∈ l, 0 ≤ s.size) : ∀ (f i to deep : Nat) (d : Bool) (r : List (Int × Bool)), to - i ≤ f → i ≤ to → to ≤ l.length → r.length = deep → deep ≤ 12 →
  (insideP l f i to deep d).1 ≠ 0 ∧ nestGo (l.drop i) i (((to : Int), d) :: r) = insideP l f i to deep d ∨
  (insideP l f i to deep d).1 = 0 ∧ nestGo (l.drop i) i (((to : Int), d) :: r) = nestGo (l.drop to) to (((to : Int), d) :: r) := by
 intro f
 induction f with
 | zero =>
  intro i to deep d r h1 h2 h3 h4 h5
  have : i = to := by omega
  subst this
  exact .inr ⟨rfl, rfl⟩
 | succ f ih =>
  intro i to deep d r h1 h2 h3 h4 h5
  by_cases hi : i < to
  ·have hlt : i < l.length := by omega
   have hget : l[i]? = some l[i] := List.getElem?_eq_getElem hlt
   have hdrop : l.drop i = l[i] :: l.drop (i + 1) := List.drop_eq_getElem_cons hlt
   have hsz := hs l[i] (List.getElem_mem hlt)
   have hpop : popR (i : Int) (((to : Int), d) :: r) = ((to : Int), d) :: r := by
    cases r with
    | nil => rfl
    | cons y r => simp only [popR]; rw [if_neg (by omega)]
   simp only [insideP, if_pos hi, hget]
   rw [hdrop]
   simp only [nestGo, hpop]
   by_cases hh : headP l[i].op = true
   ·rw [if_pos hh, if_pos hh]
    by_cases h6 : l[i].size > (to : Int) - i - 1
    ·rw [if_pos h6, if_pos h6]; exact .inl ⟨by simp, rfl⟩
    ·rw [if_neg h6, if_neg h6]
     by_cases h7 : deep = 12
     ·rw [if_pos h7, if_pos (by omega)]; exact .inl ⟨by simp, rfl⟩
     ·have h8 : ¬ ((r.length : Int) ≥ 12) := by omega
      rw [if_neg h7, if_neg h8]
      have hc : ((i : Int) + 1 + l[i].size) = ((i + 1 + l[i].size.toNat : Nat) : Int) := by omega
      rw [hc]
      rcases ih (i + 1) (i + 1 + l[i].size.toNat) (deep + 1) (d || l[i].op == 13) (((to : Int), d) :: r) (by omega) (by omega) (by omega) (by simp [h4]) (by omega) with ⟨e1, e2⟩ | ⟨e1, e2⟩
      ·rw [if_pos e1]; exact .inl ⟨e1, e2⟩
      ·rw [if_neg (by simpa using e1), e2, nestGo_pop (by simp)]
       rcases ih (i + 1 + l[i].size.toNat) to deep d r (by omega) (by omega) h3 h4 h5 with ⟨e3, e4⟩ | ⟨e3, e4⟩
       ·exact .inl ⟨e3, e4⟩
       ·exact .inr ⟨e3, e4⟩
   ·rw [if_neg hh, if_neg hh]
    by_cases h6 : l[i].op = 10 ∧ d = true
    ·rw [if_pos h6, if_pos h6]; exact .inl ⟨by simp, rfl⟩
    ·rw [if_neg h6, if_neg h6]
     exact ih (i + 1) to deep d r (by omega) (by omega) h3 h4 h5
  ·have : i = to := by omega
   subst this
   refine .inr ⟨?_, rfl⟩
   simp [insideP]

def nestP (l : List PStep) : Int × Int := nestGo l 0 [((l.length : Int), false)]
def insideAll (l : List PStep) : Int × Int := insideP l l.length 0 l.length 0 false

/-- What is told when there is no fault: (0, 0). -/
theorem insideP_zero {l : List PStep} : ∀ {f i to deep : Nat} {d : Bool}, (insideP l f i to deep d).1 = 0 → insideP l f i to deep d = (0, 0) := by
 intro f
 induction f with
 | zero => intro i to deep d _; rfl
 | succ f ih =>
  intro i to deep d h
  simp only [insideP] at h ⊢
  split
  ·rename_i hi
   rw [if_pos hi] at h
   cases hl : l[i]? with
   | none => rfl
   | some s =>
    rw [hl] at h
    dsimp only at h ⊢
    split
    ·rename_i hh
     rw [if_pos hh] at h
     split
     ·rename_i h4; rw [if_pos h4] at h; simp at h
     ·rename_i h4
      rw [if_neg h4] at h
      split
      ·rename_i h5; rw [if_pos h5] at h; simp at h
      ·rename_i h5
       rw [if_neg h5] at h
       split
       ·rename_i h6; rw [if_pos h6] at h; exact absurd h h6
       ·rename_i h6; rw [if_neg h6] at h; exact ih h
    ·rename_i hh
     rw [if_neg hh] at h
     split
     ·rename_i h6; rw [if_pos h6] at h; simp at h
     ·rename_i h6; rw [if_neg h6] at h; exact ih h
  ·rfl

theorem nest_eq {l : List PStep} (hs : ∀ s ∈ l, 0 ≤ s.size) : nestP l = insideAll l := by
 rcases nest_inside hs l.length 0 l.length 0 false [] (by omega) (by omega) (Nat.le_refl _) rfl (by omega) with ⟨e1, e2⟩ | ⟨e1, e2⟩
 ·exact e2
 ·unfold nestP insideAll
  rw [insideP_zero e1, List.drop_zero] at *
  rw [e2, List.drop_length]
  rfl
end Go.Proofs.Ytibmnlijoeppaaa
