/-
 Owned memory: a layout tells where each part of a structure lies, a content tells its cells; how loads, stores, appends and new variables act on it.
-/
import Derived.Test.YtibmnlijoeppaaaWalk
namespace Go.Proofs.Ytibmnlijoeppaaa
set_option linter.unusedSimpArgs false
set_option linter.unusedVariables false
set_option linter.unusedSectionVars false

structure Lay (ι : Type) where
 id : ι → Nat
 on : ι → Bool
 cap : ι → Nat

variable {ι : Type} [DecidableEq ι]

def Lay.sc (L : Lay ι) (r : ι) (n : Nat) : Cell := if L.on r then .slc (some (L.id r, 0)) n (L.cap r) else .slc none 0 0

def Lay.put (L : Lay ι) (r : ι) (i c : Nat) : Lay ι := ⟨fun x => if x = r then i else L.id x, fun x => if x = r then true else L.on x, fun x => if x = r then c else L.cap x⟩
def Lay.off (L : Lay ι) (p : ι → Bool) : Lay ι := ⟨L.id, fun x => if p x then false else L.on x, L.cap⟩

abbrev Con (ι : Type) := ι → Option (Nat × List Cell)
def Con.upd (C : Con ι) (r : ι) (x : Nat × List Cell) : Con ι := fun y => if y = r then some x else C y

def There (L : Lay ι) (μ : Mem) (r : ι) (sz : Nat) (cs : List Cell) : Prop :=
 if L.on r = true then ∃ junk, μ.obj (L.id r) = some ⟨cs ++ junk, sz, false⟩ ∧ (if sz = 0 then junk = [] else (cs ++ junk).length = L.cap r * sz) else 0 < sz ∧ cs = []

structure Has (L : Lay ι) (C : Con ι) (lo : Nat) (μ : Mem) : Prop where
 inj : ∀ r r', L.on r = true → L.on r' = true → L.id r = L.id r' → r = r'
 lt : ∀ r, L.on r = true → L.id r < μ.next
 ge : ∀ r, L.on r = true → lo ≤ L.id r
 obj : ∀ r sz cs, C r = some (sz, cs) → There L μ r sz cs

/-- Memory below is as it was. -/
def Same (lo : Nat) (μ μ' : Mem) : Prop := (∀ b < lo, μ'.obj b = μ.obj b) ∧ μ.next ≤ μ'.next
theorem Same.refl {lo : Nat} {μ : Mem} : Same lo μ μ := ⟨fun _ _ => rfl, Nat.le_refl _⟩
theorem Same.trans {lo : Nat} {μ μ' μ'' : Mem} (h : Same lo μ μ') (h' : Same lo μ' μ'') : Same lo μ μ'' := ⟨fun b hb => (h'.1 b hb).trans (h.1 b hb), Nat.le_trans h.2 h'.2⟩
theorem Same.mono {lo lo' : Nat} {μ μ' : Mem} (h : Same lo μ μ') (hl : lo' ≤ lo) : Same lo' μ μ' := ⟨fun b hb => h.1 b (by omega), h.2⟩

section
variable {L : Lay ι} {C : Con ι} {lo : Nat} {μ : Mem}

theorem Has.weaken (h : Has L C lo μ) {C' : Con ι} (hc : ∀ r x, C' r = some x → C r = some x) : Has L C' lo μ := ⟨h.inj, h.lt, h.ge, fun r sz cs e => h.obj r sz cs (hc _ _ e)⟩

theorem Has.weaken' (h : Has L C lo μ) {C' : Con ι} (hc : ∀ r sz cs, C' r = some (sz, cs) → C r = some (sz, cs) ∨ (L.on r = false ∧ 0 < sz ∧ cs = [])) : Has L C' lo μ := by
 refine ⟨h.inj, h.lt, h.ge, fun r sz cs e => ?_⟩
 rcases hc r sz cs e with h1 | ⟨h1, h2, h3⟩
 ·exact h.obj r sz cs h1
 ·unfold There
  rw [if_neg (by rw [h1]; simp)]
  exact ⟨h2, h3⟩

theorem Has.frame (h : Has L C lo μ) {μ' : Mem} (hn : μ.next ≤ μ'.next) (ho : ∀ r, L.on r = true → μ'.obj (L.id r) = μ.obj (L.id r)) : Has L C lo μ' := by
 refine ⟨h.inj, fun r hr => Nat.lt_of_lt_of_le (h.lt r hr) hn, h.ge, fun r sz cs e => ?_⟩
 have := h.obj r sz cs e
 unfold There at this ⊢
 by_cases hr : L.on r = true
 ·rw [if_pos hr] at this ⊢; rw [ho r hr]; exact this
 ·rw [if_neg hr] at this ⊢; exact this

theorem Has.same (h : Has L C lo μ) {hi : Nat} {μ' : Mem} (hs : Same hi μ μ') (hh : μ.next ≤ hi) : Has L C lo μ' :=
 h.frame hs.2 fun r hr => hs.1 _ (Nat.lt_of_lt_of_le (h.lt r hr) hh)

theorem Has.tmp (h : Has L C lo μ) {cs : List Cell} {sz : Nat} : Has L C lo (μ.new cs sz) := by
 refine h.frame (Nat.le_succ _) fun r hr => ?_
 have := h.lt r hr
 simp only [Mem.new]
 rw [if_neg (by omega)]

theorem Same.tmp {cs : List Cell} {sz : Nat} (h : lo ≤ μ.next) : Same lo μ (μ.new cs sz) := by
 refine ⟨fun b hb => ?_, Nat.le_succ _⟩
 simp only [Mem.new]
 rw [if_neg (by omega)]

theorem There.on {r : ι} {sz : Nat} {cs : List Cell} (h : There L μ r sz cs) (hc : sz = 0 ∨ cs ≠ []) : L.on r = true := by
 unfold There at h
 by_cases hr : L.on r = true
 ·exact hr
 ·rw [if_neg hr] at h
  rcases hc with hc | hc
  ·omega
  ·exact absurd h.2 hc

theorem Has.on (h : Has L C lo μ) {r : ι} {sz : Nat} {cs : List Cell} (e : C r = some (sz, cs)) (hc : sz = 0 ∨ cs ≠ []) : L.on r = true := (h.obj r sz cs e).on hc

theorem Has.get (h : Has L C lo μ) {r : ι} {sz : Nat} {cs : List Cell} (e : C r = some (sz, cs)) (hc : sz = 0 ∨ cs ≠ []) :
  ∃ junk, μ.obj (L.id r) = some ⟨cs ++ junk, sz, false⟩ ∧ (if sz = 0 then junk = [] else (cs ++ junk).length = L.cap r * sz) := by
 have := h.obj r sz cs e
 unfold There at this
 rw [if_pos (h.on e hc)] at this
 exact this

theorem Has.ldc (h : Has L C lo μ) {r : ι} {sz : Nat} {cs : List Cell} (e : C r = some (sz, cs)) {o : Nat} {c : Cell} (hc : cs[o]? = some c) : μ.ld none (L.id r) o = some (.c c) := by
 obtain ⟨j, hj, _⟩ := h.get e (.inr (by rintro rfl; simp at hc))
 simp only [Mem.ld, hj]
 rw [List.getElem?_append_left (List.getElem?_eq_some_iff.1 hc).1, hc]
 rfl

theorem rd_append {l j : List Cell} : ∀ {n o : Nat} {x : List Cell}, rd l o n = some x → rd (l ++ j) o n = some x
 | 0, o, x, h => h
 | n + 1, o, x, h => by
  simp only [rd] at h ⊢
  cases hc : l[o]? with
  | none => rw [hc] at h; cases h
  | some c =>
   rw [hc] at h
   rw [List.getElem?_append_left (List.getElem?_eq_some_iff.1 hc).1, hc]
   simp only [Option.map_eq_some_iff] at h ⊢
   obtain ⟨y, h1, h2⟩ := h
   exact ⟨y, rd_append h1, h2⟩

theorem Has.ldn (h : Has L C lo μ) {r : ι} {sz : Nat} {cs : List Cell} (e : C r = some (sz, cs)) {o n : Nat} {l : List Cell} (hc : rd cs o n = some l) (hn : sz = 0 ∨ cs ≠ []) :
  μ.ld (some n) (L.id r) o = some (.agg l) := by
 obtain ⟨j, hj, _⟩ := h.get e hn
 simp only [Mem.ld, hj, rd_append hc]
 rfl

theorem wr_append {j : List Cell} : ∀ {new l : List Cell} {o : Nat}, o + new.length ≤ l.length → wr (l ++ j) o new = wr l o new ++ j
 | [], l, o, h => rfl
 | c :: cs, l, o, h => by
  simp only [List.length_cons] at h
  simp only [wr]
  rw [List.set_append_left _ _ (by omega), wr_append (by rw [List.length_set]; omega)]

theorem wr_at_end : ∀ {new l j : List Cell}, new.length ≤ j.length → wr (l ++ j) l.length new = l ++ new ++ j.drop new.length
 | [], l, j, h => by simp [wr]
 | c :: cs, l, [], h => by simp at h
 | c :: cs, l, d :: j, h => by
  simp only [List.length_cons] at h
  simp only [wr]
  rw [List.set_append_right _ _ (Nat.le_refl _)]
  simp only [Nat.sub_self, List.set_cons_zero]
  have : l ++ c :: j = (l ++ [c]) ++ j := by simp
  rw [this]
  have hl : l.length + 1 = (l ++ [c]).length := by simp
  rw [hl, wr_at_end (by omega)]
  simp

/-- One part has other cells. -/
theorem Has.setCells (h : Has L C lo μ) {r : ι} {sz : Nat} {cs cs' : List Cell} {μ' : Mem} (hr : L.on r = true) (hn : μ.next ≤ μ'.next) {junk : List Cell}
  (ho : μ'.obj (L.id r) = some ⟨cs' ++ junk, sz, false⟩) (hj : if sz = 0 then junk = [] else (cs' ++ junk).length = L.cap r * sz)
  (hb : ∀ b, b ≠ L.id r → b < μ.next → μ'.obj b = μ.obj b) : Has L (C.upd r (sz, cs')) lo μ' := by
 refine ⟨h.inj, fun x hx => Nat.lt_of_lt_of_le (h.lt x hx) hn, h.ge, fun x sz1 cs1 e1 => ?_⟩
 by_cases hx : x = r
 ·subst hx
  simp only [Con.upd, if_true, Option.some.injEq, Prod.mk.injEq] at e1
  obtain ⟨rfl, rfl⟩ := e1
  unfold There
  rw [if_pos hr]
  exact ⟨junk, ho, hj⟩
 ·simp only [Con.upd, if_neg hx] at e1
  have := h.obj x sz1 cs1 e1
  unfold There at this ⊢
  by_cases hx' : L.on x = true
  ·rw [if_pos hx'] at this ⊢
   rw [hb _ (fun hh => hx (h.inj _ _ hx' hr hh)) (h.lt x hx')]
   exact this
  ·rw [if_neg hx'] at this ⊢; exact this

theorem Has.st (h : Has L C lo μ) {r : ι} {sz : Nat} {cs : List Cell} (e : C r = some (sz, cs)) {o : Nat} {new : List Cell} (hn : sz = 0 ∨ cs ≠ []) (hl : o + new.length ≤ cs.length) :
  ∃ μ', μ.st (L.id r) o new = some μ' ∧ Has L (C.upd r (sz, wr cs o new)) lo μ' ∧ Same lo μ μ' ∧ μ'.next = μ.next ∧ (∀ b, b ≠ L.id r → μ'.obj b = μ.obj b) := by
 obtain ⟨j, hj, hjl⟩ := h.get e hn
 have hr := h.on e hn
 have hs : μ.st (L.id r) o new = some (μ.setObj (L.id r) (some ⟨wr (cs ++ j) o new, sz, false⟩)) := by
  simp only [Mem.st, hj]
  rw [if_pos ⟨trivial, by rw [List.length_append]; omega⟩]
 have hb : ∀ b, b ≠ L.id r → (μ.setObj (L.id r) (some ⟨wr (cs ++ j) o new, sz, false⟩)).obj b = μ.obj b := by
  intro b hb
  simp only [Mem.setObj]
  rw [if_neg hb]
 have hnx : (μ.setObj (L.id r) (some ⟨wr (cs ++ j) o new, sz, false⟩)).next = μ.next := rfl
 refine ⟨_, hs, ?_, ?_, rfl, hb⟩
 ·refine h.setCells (cs := cs) hr (Nat.le_refl _) (junk := j) ?_ ?_ (fun b h1 _ => hb b h1)
  ·simp only [Mem.setObj, if_true]
   rw [wr_append hl]
  ·by_cases hz : sz = 0
   ·rw [if_pos hz] at hjl ⊢; exact hjl
   ·rw [if_neg hz] at hjl ⊢
    rw [List.length_append, wr_length, ← List.length_append]; exact hjl
 ·exact ⟨fun b hb' => hb b (by have := h.ge r hr; omega), Nat.le_refl _⟩

/-- A new part. -/
theorem Has.new (h : Has L C lo μ) (hlo : lo ≤ μ.next) {r : ι} {sz : Nat} {cs : List Cell} {cap : Nat} (hc : if sz = 0 then True else cs.length = cap * sz) :
  Has (L.put r μ.next cap) (C.upd r (sz, cs)) lo (μ.new cs sz) := by
 have hid : ∀ x, x ≠ r → (L.put r μ.next cap).id x = L.id x := fun x hx => by simp only [Lay.put, if_neg hx]
 have hon : ∀ x, x ≠ r → (L.put r μ.next cap).on x = L.on x := fun x hx => by simp only [Lay.put, if_neg hx]
 have hcap : ∀ x, x ≠ r → (L.put r μ.next cap).cap x = L.cap x := fun x hx => by simp only [Lay.put, if_neg hx]
 have hid' : (L.put r μ.next cap).id r = μ.next := by simp only [Lay.put, if_true]
 have hon' : (L.put r μ.next cap).on r = true := by simp only [Lay.put, if_true]
 have hcap' : (L.put r μ.next cap).cap r = cap := by simp only [Lay.put, if_true]
 refine ⟨fun x y hx hy e => ?_, fun x hx => ?_, fun x hx => ?_, fun x sz1 cs1 e1 => ?_⟩
 ·by_cases h1 : x = r
  ·by_cases h2 : y = r
   ·rw [h1, h2]
   ·rw [h1, hid', hid y h2] at e
    rw [hon y h2] at hy
    have := h.lt y hy
    omega
  ·by_cases h2 : y = r
   ·rw [h2, hid', hid x h1] at e
    rw [hon x h1] at hx
    have := h.lt x hx
    omega
   ·rw [hid x h1, hid y h2] at e
    exact h.inj _ _ (by rw [← hon x h1]; exact hx) (by rw [← hon y h2]; exact hy) e
 ·by_cases h1 : x = r
  ·rw [h1, hid']; exact Nat.lt_succ_self _
  ·rw [hid x h1]; exact Nat.lt_succ_of_lt (h.lt x (by rw [← hon x h1]; exact hx))
 ·by_cases h1 : x = r
  ·rw [h1, hid']; exact hlo
  ·rw [hid x h1]; exact h.ge x (by rw [← hon x h1]; exact hx)
 ·by_cases h1 : x = r
  ·subst h1
   simp only [Con.upd, if_true, Option.some.injEq, Prod.mk.injEq] at e1
   obtain ⟨rfl, rfl⟩ := e1
   unfold There
   rw [if_pos hon', hid', hcap']
   refine ⟨[], ?_, ?_⟩
   ·simp only [Mem.new, if_true, List.append_nil]
   ·by_cases hz : sz = 0
    ·rw [if_pos hz]
    ·rw [if_neg hz] at hc ⊢; rw [List.append_nil]; exact hc
  ·simp only [Con.upd, if_neg h1] at e1
   have := h.obj x sz1 cs1 e1
   unfold There at this ⊢
   rw [hid x h1, hon x h1, hcap x h1]
   by_cases hx' : L.on x = true
   ·rw [if_pos hx'] at this ⊢
    have hlt := h.lt x hx'
    have : (μ.new cs sz).obj (L.id x) = μ.obj (L.id x) := by simp only [Mem.new]; rw [if_neg (by omega)]
    rw [this]; assumption
   ·rw [if_neg hx'] at this ⊢; exact this

/-- What was made elsewhere becomes a part. -/
theorem Has.adopt (h : Has L C lo μ) {r : ι} {sz : Nat} {cs : List Cell} {b cap : Nat} (hlo : lo ≤ b) (hlt : b < μ.next) (hfresh : ∀ x, L.on x = true → L.id x ≠ b) (hob : μ.obj b = some ⟨cs, sz, false⟩)
  (hc : if sz = 0 then True else cs.length = cap * sz) : Has (L.put r b cap) (C.upd r (sz, cs)) lo μ := by
 have hid : ∀ x, x ≠ r → (L.put r b cap).id x = L.id x := fun x hx => by simp only [Lay.put, if_neg hx]
 have hon : ∀ x, x ≠ r → (L.put r b cap).on x = L.on x := fun x hx => by simp only [Lay.put, if_neg hx]
 have hcap : ∀ x, x ≠ r → (L.put r b cap).cap x = L.cap x := fun x hx => by simp only [Lay.put, if_neg hx]
 have hid' : (L.put r b cap).id r = b := by simp only [Lay.put, if_true]
 have hon' : (L.put r b cap).on r = true := by simp only [Lay.put, if_true]
 have hcap' : (L.put r b cap).cap r = cap := by simp only [Lay.put, if_true]
 refine ⟨fun x y hx hy e => ?_, fun x hx => ?_, fun x hx => ?_, fun x sz1 cs1 e1 => ?_⟩
 ·by_cases h1 : x = r
  ·by_cases h2 : y = r
   ·rw [h1, h2]
   ·rw [h1, hid', hid y h2] at e
    rw [hon y h2] at hy
    exact absurd e.symm (hfresh y hy)
  ·by_cases h2 : y = r
   ·rw [h2, hid', hid x h1] at e
    rw [hon x h1] at hx
    exact absurd e (hfresh x hx)
   ·rw [hid x h1, hid y h2] at e
    exact h.inj _ _ (by rw [← hon x h1]; exact hx) (by rw [← hon y h2]; exact hy) e
 ·by_cases h1 : x = r
  ·rw [h1, hid']; exact hlt
  ·rw [hid x h1]; exact h.lt x (by rw [← hon x h1]; exact hx)
 ·by_cases h1 : x = r
  ·rw [h1, hid']; exact hlo
  ·rw [hid x h1]; exact h.ge x (by rw [← hon x h1]; exact hx)
 ·by_cases h1 : x = r
  ·subst h1
   simp only [Con.upd, if_true, Option.some.injEq, Prod.mk.injEq] at e1
   obtain ⟨rfl, rfl⟩ := e1
   unfold There
   rw [if_pos hon', hid', hcap']
   refine ⟨[], by rw [List.append_nil]; exact hob, ?_⟩
   by_cases hz : sz = 0
   ·rw [if_pos hz]
   ·rw [if_neg hz] at hc ⊢; rw [List.append_nil]; exact hc
  ·simp only [Con.upd, if_neg h1] at e1
   have := h.obj x sz1 cs1 e1
   unfold There at this ⊢
   rw [hid x h1, hon x h1, hcap x h1]
   exact this

theorem Has.start {L : Lay ι} (hL : ∀ x, L.on x = false) : Has L (fun _ => none) lo μ :=
 ⟨fun x y hx => (by rw [hL] at hx; cases hx), fun x hx => (by rw [hL] at hx; cases hx), fun x hx => (by rw [hL] at hx; cases hx), fun x sz cs e => (by cases e)⟩

/-- A store below. -/
theorem Same.st {hi : Nat} {μ μ' μ1 : Mem} (h : Same hi μ μ') {i o : Nat} {x : List Cell} (hl : i < hi) (hs : μ.st i o x = some μ1) :
  ∃ μ2, μ'.st i o x = some μ2 ∧ Same hi μ1 μ2 ∧ μ2.next = μ'.next ∧ (∀ j, j ≠ i → μ2.obj j = μ'.obj j) := by
 unfold Mem.st at hs ⊢
 rw [h.1 i hl]
 cases ho : μ.obj i with
 | none => rw [ho] at hs; cases hs
 | some ob =>
  rw [ho] at hs
  simp only at hs ⊢
  split at hs
  ·rename_i hc
   simp only [Option.some.injEq] at hs
   subst hs
   rw [if_pos hc]
   refine ⟨_, rfl, ⟨fun b hb => ?_, h.2⟩, rfl, fun j hj => by simp only [Mem.setObj, if_neg hj]⟩
   simp only [Mem.setObj]
   rw [h.1 b hb]
  ·cases hs

/-- Parts that are there no more. -/
theorem Has.off (h : Has L C lo μ) {p : ι → Bool} {C' : Con ι} (hc : ∀ r sz cs, C' r = some (sz, cs) → (p r = true → 0 < sz ∧ cs = []) ∧ (p r = false → C r = some (sz, cs))) : Has (L.off p) C' lo μ := by
 have hon : ∀ x, (L.off p).on x = true → p x = false ∧ L.on x = true := by
  intro x hx
  simp only [Lay.off] at hx
  split at hx
  ·cases hx
  ·rename_i hp; exact ⟨by simpa using hp, hx⟩
 refine ⟨fun x y hx hy e => h.inj _ _ (hon x hx).2 (hon y hy).2 e, fun x hx => h.lt x (hon x hx).2, fun x hx => h.ge x (hon x hx).2, fun x sz cs e => ?_⟩
 obtain ⟨h1, h2⟩ := hc x sz cs e
 cases hp : p x with
 | true =>
  have : (L.off p).on x = false := by simp only [Lay.off, hp, if_true]
  unfold There
  rw [if_neg (by rw [this]; simp)]
  exact h1 hp
 | false =>
  have := h.obj x sz cs (h2 hp)
  have ho : (L.off p).on x = L.on x := by simp [Lay.off, hp]
  unfold There at this ⊢
  rw [ho]
  exact this

/-- Fewer cells count. -/
theorem Has.cut (h : Has L C lo μ) {r : ι} {sz : Nat} {cs cs' : List Cell} (e : C r = some (sz, cs ++ cs')) (hz : 0 < sz) : Has L (C.upd r (sz, cs)) lo μ := by
 refine ⟨h.inj, h.lt, h.ge, fun x sz1 cs1 e1 => ?_⟩
 by_cases hx : x = r
 ·subst hx
  simp only [Con.upd, if_true, Option.some.injEq, Prod.mk.injEq] at e1
  obtain ⟨rfl, rfl⟩ := e1
  have := h.obj x sz _ e
  unfold There at this ⊢
  by_cases hr : L.on x = true
  ·rw [if_pos hr] at this ⊢
   obtain ⟨j, h1, h2⟩ := this
   refine ⟨cs' ++ j, by rw [← List.append_assoc]; exact h1, ?_⟩
   rw [if_neg (by omega)] at h2 ⊢
   rw [← List.append_assoc]; exact h2
  ·rw [if_neg hr] at this ⊢
   exact ⟨hz, (List.append_eq_nil_iff.1 this.2).1⟩
 ·simp only [Con.upd, if_neg hx] at e1
  exact h.obj x sz1 cs1 e1

/-- What a slice value reads as. -/
def SlcVal (μ : Mem) (sz : Nat) (b : Option (Nat × Nat)) (k c : Nat) (new : List Cell) : Prop :=
 new.length = k * sz ∧ match b with | none => new = [] ∧ c = 0 | some (i, o) => ∃ ob, μ.obj i = some ob ∧ rd ob.cells o (k * sz) = some new ∧ clean ob.ro new = true

theorem SlcVal.fresh {cs : List Cell} {sz k c : Nat} (h : cs.length = k * sz) : SlcVal (μ.new cs sz) sz (some (μ.next, 0)) k c cs :=
 ⟨h, ⟨cs, sz, false⟩, by simp [Mem.new], by rw [← h]; exact rd_all _, rfl⟩

theorem aapp_eq {sz bytes n k c cap : Nat} {a b : Option (Nat × Nat)} {new : List Cell} (hx : SlcVal μ sz b k c new) : aapp sz bytes (.c (.slc a n cap)) (.c (.slc b k c)) μ =
  if new.length = k * sz ∧ 0 < sz ∧ (n + k) * bytes ≤ most ∧ n + k ≤ most then
    match a with
    | none => if n = 0 ∧ cap = 0 then (if k = 0 then some (.c (.slc none 0 0), μ) else some (.c (.slc (some (μ.next, 0)) k k), μ.new new sz)) else none
    | some (i, o) =>
     if n + k ≤ cap then (μ.st i (o + n * sz) new).map fun μ' => (.c (.slc (some (i, o)) (n + k) cap), μ')
     else match μ.obj i with
      | none => none
      | some ob => if ob.ro = false ∧ o = 0 ∧ n = cap ∧ ob.cells.length = n * sz ∧ ob.esz = sz then
        some (.c (.slc (some (μ.next, 0)) (n + k) (n + k)), (μ.setObj i none).new (ob.cells ++ new) sz)
       else none
   else none := by
 obtain ⟨h1, h2⟩ := hx
 cases b with
 | none =>
  obtain ⟨h2, rfl⟩ := h2
  subst h2; rfl
 | some p =>
  obtain ⟨i, o⟩ := p
  obtain ⟨ob, h3, h4, h5⟩ := h2
  simp only [aapp, h3, h4, Option.bind_some, h5, cond_true]
  rfl

/-- append. -/
theorem Has.app (h : Has L C lo μ) (hlo : lo ≤ μ.next) {r : ι} {sz bytes n k c : Nat} {cs new : List Cell} {b : Option (Nat × Nat)} (e : C r = some (sz, cs)) (hz : 0 < sz) (hn : cs.length = n * sz)
  (hx : SlcVal μ sz b k c new) (hm : (n + k) * bytes ≤ most ∧ n + k ≤ most) (hk : k ≤ 1 ∨ (L.on r = true → L.cap r = n)) :
  ∃ L' μ', aapp sz bytes (.c (L.sc r n)) (.c (.slc b k c)) μ = some (.c (L'.sc r (n + k)), μ') ∧ Has L' (C.upd r (sz, cs ++ new)) lo μ' ∧ Same lo μ μ' ∧
   (∀ x, x ≠ r → L'.id x = L.id x ∧ L'.on x = L.on x ∧ L'.cap x = L.cap x) ∧ (∀ b, (L.on r = true → b ≠ L.id r) → b < μ.next → μ'.obj b = μ.obj b) ∧ (0 < k → L'.on r = true) ∧
   ((L.on r = true → L.cap r = n) → L'.on r = true → L'.cap r = n + k) ∧ (L'.on r = true → (L.on r = true ∧ L'.id r = L.id r) ∨ L'.id r = μ.next) := by
 have hcond : new.length = k * sz ∧ 0 < sz ∧ (n + k) * bytes ≤ most ∧ n + k ≤ most := ⟨hx.1, hz, hm.1, hm.2⟩
 have ht := h.obj r sz cs e
 unfold There at ht
 have hput : ∀ x, x ≠ r → (L.put r μ.next (n + k)).id x = L.id x ∧ (L.put r μ.next (n + k)).on x = L.on x ∧ (L.put r μ.next (n + k)).cap x = L.cap x := by
  intro x hx; simp only [Lay.put, if_neg hx, and_self]
 by_cases hr : L.on r = true
 ·rw [if_pos hr] at ht
  obtain ⟨j, hj, hjl⟩ := ht
  rw [if_neg (by omega)] at hjl
  rw [List.length_append] at hjl
  have hsc : L.sc r n = .slc (some (L.id r, 0)) n (L.cap r) := by unfold Lay.sc; rw [if_pos hr]
  by_cases hfit : n + k ≤ L.cap r
  ·have hroom : new.length ≤ j.length := by
    have h1 : (n + k) * sz ≤ L.cap r * sz := Nat.mul_le_mul_right sz hfit
    rw [Nat.add_mul] at h1
    rw [hx.1]; omega
   have hst : μ.st (L.id r) (0 + n * sz) new = some (μ.setObj (L.id r) (some ⟨cs ++ new ++ j.drop new.length, sz, false⟩)) := by
    simp only [Mem.st, hj]
    rw [if_pos ⟨trivial, by rw [List.length_append]; omega⟩]
    have : wr (cs ++ j) (0 + n * sz) new = cs ++ new ++ j.drop new.length := by
     rw [Nat.zero_add, ← hn]; exact wr_at_end hroom
    rw [this]
   refine ⟨L, μ.setObj (L.id r) (some ⟨cs ++ new ++ j.drop new.length, sz, false⟩), ?_, ?_, ?_, fun x _ => ⟨rfl, rfl, rfl⟩, ?_, fun _ => hr, ?_, fun _ => .inl ⟨hr, rfl⟩⟩
   ·rw [hsc]
    rw [aapp_eq hx, if_pos hcond]
    dsimp only
    rw [if_pos hfit, hst]
    simp only [Option.map_some]
    unfold Lay.sc; rw [if_pos hr]
   ·refine h.setCells (cs := cs) hr (Nat.le_refl _) (junk := j.drop new.length) ?_ ?_ ?_
    ·simp only [Mem.setObj, if_true]
    ·rw [if_neg (by omega)]
     simp only [List.length_append, List.length_drop]
     omega
    ·intro b hb _; simp only [Mem.setObj]; rw [if_neg hb]
   ·refine ⟨fun b hb => ?_, Nat.le_refl _⟩
    have := h.ge r hr
    simp only [Mem.setObj]; rw [if_neg (by omega)]
   ·intro b hb _; simp only [Mem.setObj]; rw [if_neg (hb hr)]
   ·intro hc _
    have := hc hr
    omega
  ·have hcap : L.cap r = n := by
    rcases hk with hk | hk
    ·have h1 : n * sz ≤ L.cap r * sz := by omega
     have h2 := Nat.le_of_mul_le_mul_right h1 hz
     omega
    ·exact hk hr
   rw [hcap] at hjl hsc hfit
   have hj0 : j = [] := by
    cases j with
    | nil => rfl
    | cons a j => simp only [List.length_cons] at hjl; omega
   subst hj0
   rw [List.append_nil] at hj
   have hlt := h.lt r hr
   have hge := h.ge r hr
   have hne : ∀ b, b ≠ L.id r → b < μ.next → ((μ.setObj (L.id r) none).new (cs ++ new) sz).obj b = μ.obj b := by
    intro b h1 h2
    have : (μ.setObj (L.id r) none).next = μ.next := rfl
    simp only [Mem.new, this]
    rw [if_neg (by omega)]
    simp only [Mem.setObj]
    rw [if_neg h1]
   refine ⟨L.put r μ.next (n + k), (μ.setObj (L.id r) none).new (cs ++ new) sz, ?_, ?_, ?_, hput, ?_, fun _ => by simp [Lay.put], fun _ _ => by simp [Lay.put], fun _ => .inr (by simp [Lay.put])⟩
   ·rw [hsc]
    rw [aapp_eq hx, if_pos hcond]
    dsimp only
    rw [if_neg hfit, hj]
    simp only
    rw [if_pos ⟨trivial, trivial, trivial, hn, trivial⟩]
    unfold Lay.sc
    simp [Lay.put]
   ·have h0 : Has (L.off fun x => decide (x = r)) (fun x => if x = r then none else C x) lo (μ.setObj (L.id r) none) := by
     have h1 : Has (L.off fun x => decide (x = r)) (fun x => if x = r then none else C x) lo μ := by
      refine h.off fun x sz1 cs1 e1 => ?_
      by_cases hx : x = r
      ·simp [hx] at e1
      ·rw [if_neg hx] at e1
       exact ⟨fun hh => absurd (of_decide_eq_true hh) hx, fun _ => e1⟩
     refine h1.frame (Nat.le_refl _) fun x hx => ?_
     simp only [Lay.off] at hx ⊢
     by_cases hxr : x = r
     ·simp [hxr] at hx
     ·have hx' : L.on x = true := by simpa [hxr] using hx
      simp only [Mem.setObj]
      rw [if_neg (fun hh => hxr (h.inj _ _ hx' hr hh))]
    have h2 := h0.new (r := r) (sz := sz) (cs := cs ++ new) (cap := n + k) hlo (by rw [if_neg (by omega), List.length_append, hn, hx.1, Nat.add_mul])
    have e1 : (L.off fun x => decide (x = r)).put r (μ.setObj (L.id r) none).next (n + k) = L.put r μ.next (n + k) := by
     have : (μ.setObj (L.id r) none).next = μ.next := rfl
     rw [this]
     simp only [Lay.put, Lay.off, Lay.mk.injEq, true_and, and_true]
     funext x
     by_cases hx : x = r
     ·simp [hx]
     ·simp [hx]
    rw [e1] at h2
    refine h2.weaken fun x y e2 => ?_
    simp only [Con.upd] at e2 ⊢
    by_cases hx : x = r
    ·simpa [hx] using e2
    ·simpa [hx] using e2
   ·exact ⟨fun b hb => hne b (by omega) (by omega), Nat.le_succ _⟩
   ·intro b hb h2; exact hne b (hb hr) h2
 ·rw [if_neg hr] at ht
  obtain ⟨_, rfl⟩ := ht
  have hn0 : n = 0 := by
   simp only [List.length_nil] at hn
   rcases Nat.eq_zero_or_pos n with h0 | h0
   ·exact h0
   ·have := Nat.mul_pos h0 hz; omega
  subst hn0
  have hsc : L.sc r 0 = .slc none 0 0 := by unfold Lay.sc; rw [if_neg hr]
  by_cases hk0 : k = 0
  ·subst hk0
   have hnew : new = [] := List.eq_nil_of_length_eq_zero (by rw [hx.1]; omega)
   subst hnew
   refine ⟨L, μ, ?_, ?_, Same.refl, fun x _ => ⟨rfl, rfl, rfl⟩, fun b _ _ => rfl, fun hh => by omega, fun _ hh => absurd hh hr, fun hh => absurd hh hr⟩
   ·rw [hsc]
    rw [aapp_eq hx, if_pos hcond]
    simp only [and_self, if_true]
   ·refine h.weaken fun x y e1 => ?_
    simp only [Con.upd] at e1
    by_cases hx : x = r
    ·simp only [if_pos hx, Option.some.injEq] at e1
     rw [hx, e, ← e1]; rfl
    ·rw [if_neg hx] at e1; exact e1
  ·refine ⟨L.put r μ.next (0 + k), μ.new new sz, ?_, ?_, Same.tmp hlo, hput, ?_, fun _ => by simp [Lay.put], fun _ _ => by simp [Lay.put], fun _ => .inr (by simp [Lay.put])⟩
   ·rw [hsc]
    rw [aapp_eq hx, if_pos hcond]
    simp only [and_self, if_true, if_neg hk0]
    unfold Lay.sc
    simp [Lay.put]
   ·have := h.new (r := r) (sz := sz) (cs := new) (cap := 0 + k) hlo (by rw [if_neg (by omega), hx.1, Nat.zero_add])
    rw [List.nil_append]
    exact this
   ·intro b _ h2
    simp only [Mem.new]
    rw [if_neg (by omega)]

/-! ### Lists of rows of cells -/

def cat {α : Type} (g : Nat → α → List Cell) : Nat → List α → List Cell
 | _, [] => []
 | i, a :: l => g i a ++ cat g (i + 1) l

variable {α : Type} {g : Nat → α → List Cell} {sz : Nat}

theorem cat_length (hg : ∀ i a, (g i a).length = sz) : ∀ {l : List α} {i : Nat}, (cat g i l).length = l.length * sz
 | [], i => by simp [cat]
 | a :: l, i => by simp only [cat, List.length_append, hg, List.length_cons, Nat.succ_mul, cat_length hg (l := l)]; omega

theorem cat_get (hg : ∀ i a, (g i a).length = sz) : ∀ {l : List α} {i j k : Nat} {a : α}, l[j]? = some a → k < sz → (cat g i l)[j * sz + k]? = (g (i + j) a)[k]?
 | [], i, j, k, a, h, hk => by simp at h
 | b :: l, i, 0, k, a, h, hk => by
  simp only [List.getElem?_cons_zero, Option.some.injEq] at h
  subst h
  simp only [cat, Nat.zero_mul, Nat.zero_add, Nat.add_zero]
  rw [List.getElem?_append_left (by rw [hg]; exact hk)]
 | b :: l, i, j + 1, k, a, h, hk => by
  simp only [List.getElem?_cons_succ] at h
  simp only [cat]
  rw [List.getElem?_append_right (by rw [hg, Nat.add_mul]; omega), hg]
  have : (j + 1) * sz + k - sz = j * sz + k := by rw [Nat.add_mul]; omega
  rw [this, cat_get hg h hk]
  congr 2
  omega

theorem cat_append : ∀ {l l' : List α} {i : Nat}, cat g i (l ++ l') = cat g i l ++ cat g (i + l.length) l'
 | [], l', i => by simp [cat]
 | a :: l, l', i => by
  simp only [List.cons_append, cat, cat_append (l := l), List.append_assoc, List.length_cons]
  congr 3
  omega

theorem wr_right : ∀ {new p l : List Cell} {o : Nat}, wr (p ++ l) (p.length + o) new = p ++ wr l o new
 | [], p, l, o => rfl
 | c :: cs, p, l, o => by
  simp only [wr]
  rw [List.set_append_right _ _ (by omega)]
  have : p.length + o - p.length = o := by omega
  rw [this, Nat.add_assoc, wr_right]

theorem cat_wr (hg : ∀ i a, (g i a).length = sz) {new : List Cell} : ∀ {l : List α} {i j k : Nat} {a a' : α}, l[j]? = some a → k + new.length ≤ sz → wr (g (i + j) a) k new = g (i + j) a' →
  wr (cat g i l) (j * sz + k) new = cat g i (l.set j a')
 | [], i, j, k, a, a', h, hk, hw => by simp at h
 | b :: l, i, 0, k, a, a', h, hk, hw => by
  simp only [List.getElem?_cons_zero, Option.some.injEq] at h
  subst h
  simp only [cat, Nat.zero_mul, Nat.zero_add, Nat.add_zero, List.set_cons_zero] at hw ⊢
  rw [wr_append (by rw [hg]; exact hk), hw]
 | b :: l, i, j + 1, k, a, a', h, hk, hw => by
  simp only [List.getElem?_cons_succ] at h
  simp only [cat, List.set_cons_succ]
  have : (j + 1) * sz + k = (g i b).length + (j * sz + k) := by rw [hg, Nat.add_mul]; omega
  rw [this, wr_right, cat_wr hg h hk (by rw [show i + 1 + j = i + (j + 1) by omega]; exact hw)]

theorem cat_congr {g' : Nat → α → List Cell} : ∀ {l : List α} {i : Nat}, (∀ j a, l[j]? = some a → g (i + j) a = g' (i + j) a) → cat g i l = cat g' i l
 | [], i, h => rfl
 | a :: l, i, h => by
  simp only [cat]
  have h1 : cat g (i + 1) l = cat g' (i + 1) l := cat_congr (l := l) fun j b hb => by
   have := h (j + 1) b (by simpa using hb)
   rw [show i + 1 + j = i + (j + 1) by omega]; exact this
  rw [show g i a = g' i a from h 0 a (by simp), h1]

theorem cat_wr' (hg : ∀ i a, (g i a).length = sz) {g' : Nat → α → List Cell} {new : List Cell} : ∀ {l : List α} {i j k : Nat} {a a' : α}, l[j]? = some a → k + new.length ≤ sz → wr (g (i + j) a) k new = g' (i + j) a' →
  (∀ m b, m ≠ j → l[m]? = some b → g (i + m) b = g' (i + m) b) → wr (cat g i l) (j * sz + k) new = cat g' i (l.set j a')
 | [], i, j, k, a, a', h, hk, hw, ho => by simp at h
 | b :: l, i, 0, k, a, a', h, hk, hw, ho => by
  simp only [List.getElem?_cons_zero, Option.some.injEq] at h
  subst h
  simp only [cat, Nat.zero_mul, Nat.zero_add, Nat.add_zero, List.set_cons_zero] at hw ⊢
  rw [wr_append (by rw [hg]; exact hk), hw]
  have : cat g (i + 1) l = cat g' (i + 1) l := cat_congr fun m c hc => by
   have := ho (m + 1) c (by omega) (by simpa using hc)
   rw [show i + 1 + m = i + (m + 1) by omega]; exact this
  rw [this]
 | b :: l, i, j + 1, k, a, a', h, hk, hw, ho => by
  simp only [List.getElem?_cons_succ] at h
  simp only [cat, List.set_cons_succ]
  have : (j + 1) * sz + k = (g i b).length + (j * sz + k) := by rw [hg, Nat.add_mul]; omega
  rw [this, wr_right, cat_wr' hg h hk (by rw [show i + 1 + j = i + (j + 1) by omega]; exact hw) (fun m c hm hc => by
   have := ho (m + 1) c (by omega) (by simpa using hc)
   rw [show i + 1 + m = i + (m + 1) by omega]; exact this)]
  have := ho 0 b (by omega) (by simp)
  rw [Nat.add_zero] at this
  rw [this]

theorem cat_row (hg : ∀ i a, (g i a).length = sz) : ∀ {l : List α} {i j : Nat} {a : α}, l[j]? = some a → rd (cat g i l) (j * sz) sz = some (g (i + j) a) := by
 have rd_skip : ∀ {n : Nat} {p l : List Cell} {o : Nat}, rd (p ++ l) (p.length + o) n = rd l o n := by
  intro n
  induction n with
  | zero => intro p l o; rfl
  | succ n ih =>
   intro p l o
   simp only [rd]
   rw [List.getElem?_append_right (by omega), show p.length + o - p.length = o by omega, Nat.add_assoc, ih]
 intro l
 induction l with
 | nil => intro i j a h; simp at h
 | cons b l ih =>
  intro i j a h
  cases j with
  | zero =>
   simp only [List.getElem?_cons_zero, Option.some.injEq] at h
   subst h
   simp only [cat, Nat.zero_mul, Nat.add_zero]
   have h1 := rd_all (g i b)
   rw [hg] at h1
   exact rd_append h1
  | succ j =>
   simp only [List.getElem?_cons_succ] at h
   simp only [cat]
   have : (j + 1) * sz = (g i b).length + j * sz := by rw [hg, Nat.add_mul]; omega
   rw [this, rd_skip, ih h]
   congr 2
   omega

end
end Go.Proofs.Ytibmnlijoeppaaa
