/-
 The abstract memory and a world that holds it: the relation, and what reading, writing and making memory do to it.
-/
import Derived.Test.YtibmnlijoeppaaaAbs
import Derived.WalkKit
import Derived.Deep.AppendSrc
namespace Go.Proofs.Ytibmnlijoeppaaa

abbrev Emb := Nat → Option (Nat × Nat)
def Emb.Le (ρ ρ' : Emb) : Prop := ∀ i p, ρ i = some p → ρ' i = some p
theorem Emb.Le.refl (ρ : Emb) : ρ.Le ρ := fun _ _ h => h
theorem Emb.Le.trans {a b c : Emb} (h : a.Le b) (h' : b.Le c) : a.Le c := fun i p hp => h' i p (h i p hp)

def LRel {α β : Type} (R : α → β → Prop) : List α → List β → Prop
 | [], [] => True
 | a :: l, b :: m => R a b ∧ LRel R l m
 | _, _ => False

theorem LRel.mono {α β : Type} {R R' : α → β → Prop} (h : ∀ a b, R a b → R' a b) : ∀ {l : List α} {m : List β}, LRel R l m → LRel R' l m
 | [], [], _ => trivial
 | _ :: _, _ :: _, ⟨h1, h2⟩ => ⟨h _ _ h1, LRel.mono h h2⟩
 | [], _ :: _, hh => hh.elim
 | _ :: _, [], hh => hh.elim

theorem LRel.length {α β : Type} {R : α → β → Prop} : ∀ {l : List α} {m : List β}, LRel R l m → l.length = m.length
 | [], [], _ => rfl
 | _ :: l, _ :: m, ⟨_, h2⟩ => by simp [LRel.length h2]
 | [], _ :: _, hh => hh.elim
 | _ :: _, [], hh => hh.elim

theorem LRel.get {α β : Type} {R : α → β → Prop} : ∀ {l : List α} {m : List β}, LRel R l m → ∀ {k : Nat} {a : α}, l[k]? = some a → ∃ b, m[k]? = some b ∧ R a b
 | [], [], _, k, a, h => by simp at h
 | x :: l, y :: m, ⟨h1, h2⟩, 0, a, h => by simp at h; subst h; exact ⟨y, by simp, h1⟩
 | x :: l, y :: m, ⟨h1, h2⟩, k + 1, a, h => by simp at h; simpa using LRel.get h2 h
 | [], _ :: _, hh, _, _, _ => hh.elim
 | _ :: _, [], hh, _, _, _ => hh.elim

theorem LRel.of_get {α β : Type} {R : α → β → Prop} : ∀ {l : List α} {m : List β}, l.length = m.length → (∀ (k : Nat) (a : α) (b : β), l[k]? = some a → m[k]? = some b → R a b) → LRel R l m
 | [], [], _, _ => trivial
 | x :: l, y :: m, hl, h => ⟨h 0 x y (by simp) (by simp), LRel.of_get (by simpa using hl) fun k a b ha hb => h (k + 1) a b (by simpa using ha) (by simpa using hb)⟩
 | [], _ :: _, hl, _ => by simp at hl
 | _ :: _, [], hl, _ => by simp at hl

theorem LRel.append {α β : Type} {R : α → β → Prop} : ∀ {l l' : List α} {m m' : List β}, LRel R l m → LRel R l' m' → LRel R (l ++ l') (m ++ m')
 | [], _, [], _, _, h => h
 | _ :: _, _, _ :: _, _, ⟨h1, h2⟩, h => ⟨h1, LRel.append h2 h⟩
 | [], _, _ :: _, _, hh, _ => hh.elim
 | _ :: _, _, [], _, hh, _ => hh.elim

def PRel (ρ : Emb) (a : Nat × Nat) (v : Value) : Prop := ∃ b x, ρ a.1 = some (b, x) ∧ v = .pointer (some ⟨b, a.2, none⟩)

def CRel (ρ : Emb) : Cell → Value → Prop
 | .bool b, v => v = .bool b
 | .int k n, v => v = .int k n
 | .ptr none, v => v = .pointer none
 | .ptr (some a), v => PRel ρ a v
 | .slc none l c, v => v = .slice none l c ∨ (l = 0 ∧ c = 1 ∧ ∃ a k, v = .slice (some a) 0 k)
 | .slc (some a) l c, v => ∃ b x, ρ a.1 = some (b, x) ∧ v = .slice (some ⟨b, a.2, none⟩) l (c + x)
 | .fn f caps, v => ∃ vs : List Value, v = .func (.func f) #[] vs.toArray ∧ LRel (PRel ρ) caps vs
 | .nilfn, v => v = .nilFunc

theorem PRel.mono {ρ ρ' : Emb} (h : ρ.Le ρ') {a : Nat × Nat} {v : Value} (hh : PRel ρ a v) : PRel ρ' a v := by
 obtain ⟨b, x, h1, h2⟩ := hh; exact ⟨b, x, h _ _ h1, h2⟩

theorem CRel.mono {ρ ρ' : Emb} (h : ρ.Le ρ') {c : Cell} {v : Value} (hh : CRel ρ c v) : CRel ρ' c v := by
 match c, hh with
 | .bool _, hh => exact hh
 | .int _ _, hh => exact hh
 | .ptr none, hh => exact hh
 | .ptr (some a), hh => exact PRel.mono h hh
 | .slc none _ _, hh => exact hh
 | .slc (some a) _ _, ⟨b, x, h1, h2⟩ => exact ⟨b, x, h _ _ h1, h2⟩
 | .fn _ _, ⟨vs, h1, h2⟩ => exact ⟨vs, h1, h2.mono fun _ _ => PRel.mono h⟩
 | .nilfn, hh => exact hh

theorem CRel.one {ρ : Emb} {c : Cell} {v : Value} (h : CRel ρ c v) : v.oneCell' = true := by
 match c, h with
 | .bool _, h => cases h; rfl
 | .int _ _, h => cases h; rfl
 | .ptr none, h => cases h; rfl
 | .ptr (some a), ⟨_, _, _, h⟩ => cases h; rfl
 | .slc none _ _, .inl h => cases h; rfl
 | .slc none _ _, .inr ⟨_, _, _, _, h⟩ => cases h; rfl
 | .slc (some a) _ _, ⟨_, _, _, h⟩ => cases h; rfl
 | .fn _ _, ⟨_, h, _⟩ => cases h; rfl
 | .nilfn, h => cases h; rfl

theorem CRel.cells {ρ : Emb} {c : Cell} {v : Value} (h : CRel ρ c v) : v.cells = #[v] := by
 have := h.one
 cases v <;> simp_all [Value.cells, Value.oneCell']

def AVRel (ρ : Emb) : AV → Value → Prop
 | .c x, v => CRel ρ x v
 | .agg l, v => ∃ vs : List Value, v = .agg vs.toArray ∧ LRel (CRel ρ) l vs
 | .tup l, v => ∃ vs : List Value, v = .tuple vs.toArray ∧ LRel (CRel ρ) l vs

theorem AVRel.mono {ρ ρ' : Emb} (h : ρ.Le ρ') {c : AV} {v : Value} (hh : AVRel ρ c v) : AVRel ρ' c v := by
 match c, hh with
 | .c _, hh => exact CRel.mono h hh
 | .agg _, ⟨vs, h1, h2⟩ => exact ⟨vs, h1, h2.mono fun _ _ => CRel.mono h⟩
 | .tup _, ⟨vs, h1, h2⟩ => exact ⟨vs, h1, h2.mono fun _ _ => CRel.mono h⟩

theorem AVRel.undef (ρ : Emb) : AVRel ρ .undef undef := ⟨[], rfl, trivial⟩

theorem AVRel.cells {ρ : Emb} {c : AV} {v : Value} (h : AVRel ρ c v) (ht : c.isTup = false) : LRel (CRel ρ) c.cells v.cells.toList := by
 match c, h with
 | .c x, h => simp only [AV.cells, CRel.cells h]; exact ⟨h, trivial⟩
 | .agg l, ⟨vs, h1, h2⟩ => subst h1; simpa [AV.cells, Value.cells] using h2

/-! ### The relation -/

structure Sim (F : Nat → Prop) (ρ : Emb) (μ : Mem) (w : World) : Prop where
 dom : ∀ i b x, ρ i = some (b, x) → i < μ.next ∧ b < w.heap.size
 obj : ∀ i o b x, μ.obj i = some o → ρ i = some (b, x) → ∃ c T fz, w.heap[b]? = some (.cells c T fz) ∧ c.size = o.cells.length + x * o.esz ∧ (o.esz = 0 → x = 0) ∧
  (∀ (k : Nat) (y : Cell), o.cells[k]? = some y → (o.ro = true ∧ y = hole) ∨ ∃ v, c[k]? = some v ∧ CRel ρ y v) ∧ (o.ro = false → ¬ F b ∧ fz = (0, 0))
 inj : ∀ i j oi oj b x y, μ.obj i = some oi → μ.obj j = some oj → oi.ro = false → ρ i = some (b, x) → ρ j = some (b, y) → i = j
 lt : ∀ i o, μ.obj i = some o → i < μ.next
 fb : ∀ b, F b → b < w.heap.size

structure Keeps (F : Nat → Prop) (w w' : World) : Prop where
 os : w'.os = w.os
 tape : w'.tape = w.tape
 output : w'.output = w.output
 size : w.heap.size ≤ w'.heap.size
 block : ∀ b, F b → w'.heap[b]? = w.heap[b]?

theorem Keeps.refl (F : Nat → Prop) (w : World) : Keeps F w w := ⟨rfl, rfl, rfl, Nat.le_refl _, fun _ _ => rfl⟩
theorem Keeps.trans {F : Nat → Prop} {a b c : World} (h : Keeps F a b) (k : Keeps F b c) : Keeps F a c :=
 ⟨k.os.trans h.os, k.tape.trans h.tape, k.output.trans h.output, Nat.le_trans h.size k.size, fun i hi => (k.block i hi).trans (h.block i hi)⟩
theorem Keeps.drew {F : Nat → Prop} (w : World) : Keeps F w w.drew := ⟨rfl, rfl, rfl, Nat.le_refl _, fun _ _ => rfl⟩

theorem Sim.drew {F : Nat → Prop} {ρ : Emb} {μ : Mem} {w : World} (h : Sim F ρ μ w) : Sim F ρ μ w.drew :=
 ⟨h.dom, h.obj, h.inj, h.lt, h.fb⟩

/-- What one step hands on. -/
structure Steps' (F : Nat → Prop) (ρ : Emb) (μ : Mem) (w : World) (ρ' : Emb) (μ' : Mem) (w' : World) : Prop where
 sim : Sim F ρ' μ' w'
 old : ∀ i, i < μ.next → ρ' i = ρ i
 next : μ.next ≤ μ'.next
 keeps : Keeps F w w'

theorem Steps'.refl {F : Nat → Prop} {ρ : Emb} {μ : Mem} {w : World} (h : Sim F ρ μ w) : Steps' F ρ μ w ρ μ w := ⟨h, fun _ _ => rfl, Nat.le_refl _, Keeps.refl _ _⟩
theorem Steps'.trans {F : Nat → Prop} {ρ ρ' ρ'' : Emb} {μ μ' μ'' : Mem} {w w' w'' : World} (h : Steps' F ρ μ w ρ' μ' w') (k : Steps' F ρ' μ' w' ρ'' μ'' w'') :
  Steps' F ρ μ w ρ'' μ'' w'' :=
 ⟨k.sim, fun i hi => (k.old i (Nat.lt_of_lt_of_le hi h.next)).trans (h.old i hi), Nat.le_trans h.next k.next, h.keeps.trans k.keeps⟩
theorem Steps'.le {F : Nat → Prop} {ρ ρ' : Emb} {μ μ' : Mem} {w w' : World} (h : Steps' F ρ μ w ρ' μ' w') (hs : Sim F ρ μ w) : ρ.Le ρ' := by
 intro i p hp
 rw [h.old i (hs.dom i p.1 p.2 hp).1]; exact hp

/-! ### Reading -/

theorem rd_length : ∀ {n o : Nat} {l r : List Cell}, rd l o n = some r → r.length = n
 | 0, _, _, _, h => by simp [rd] at h; subst h; rfl
 | n + 1, o, l, r, h => by
  unfold rd at h
  split at h
  ·cases hr : rd l (o + 1) n with
   | none => rw [hr] at h; cases h
   | some r' => rw [hr] at h; simp at h; subst h; simp [rd_length hr]
  ·cases h

theorem rd_get : ∀ {n o : Nat} {l r : List Cell}, rd l o n = some r → ∀ k, k < n → r[k]? = l[o + k]?
 | 0, _, _, _, _, k, hk => by omega
 | n + 1, o, l, r, h, k, hk => by
  unfold rd at h
  split at h
  ·rename_i c hc
   cases hr : rd l (o + 1) n with
   | none => rw [hr] at h; cases h
   | some r' =>
    rw [hr] at h; simp at h; subst h
    cases k with
    | zero => simp [hc]
    | succ k => simp only [List.getElem?_cons_succ]; rw [rd_get hr k (by omega)]; congr 1; omega
  ·cases h

theorem cell_of {w : World} {b o : Nat} {c : Array Value} {T : TypeId} {fz : Nat × Nat} (h : w.heap[b]? = some (.cells c T fz)) : w.cell? ⟨b, o, none⟩ = c[o]? := by
 simp [World.cell?, h]

theorem frozen_of {w : World} {b o : Nat} {c : Array Value} {T : TypeId} (h : w.heap[b]? = some (.cells c T (0, 0))) : w.frozen? ⟨b, o, none⟩ = false := by
 simp [World.frozen?, h]

theorem clean_mem {ro : Bool} {l : List Cell} (h : clean ro l = true) (hr : ro = true) : ∀ y ∈ l, y ≠ hole := by
 intro y hy e
 subst e hr
 simp [clean] at h
 exact h hy

/-- The values of a run of cells. -/
theorem Sim.cells {F : Nat → Prop} {ρ : Emb} {μ : Mem} {w : World} (h : Sim F ρ μ w) {i b x o n : Nat} {ob : AObj} (ho : μ.obj i = some ob) (hb : ρ i = some (b, x)) {r : List Cell}
  (hr : rd ob.cells o n = some r) (hcl : clean ob.ro r = true) : ∃ vs : List Value, LRel (CRel ρ) r vs ∧ vs.length = n ∧ ∀ (j : Nat) (v : Value), vs[j]? = some v → w.cell? ((⟨b, o, none⟩ : Addr).add j) = some v := by
 obtain ⟨c, T, fz, h1, h2, -, h3, -⟩ := h.obj i ob b x ho hb
 have hl := rd_length hr
 have hg := rd_get hr
 refine ⟨(List.range n).map fun k => c.getD (o + k) undef, LRel.of_get (by simp [hl]) ?_, by simp, ?_⟩
 ·intro k a v ha hv
  have hk : k < n := by
   rcases Nat.lt_or_ge k n with h | h
   ·exact h
   ·rw [List.getElem?_eq_none (by omega)] at ha; cases ha
  have hm := List.mem_of_getElem? ha
  rw [hg k hk] at ha
  obtain ⟨v', hv', hc⟩ := (h3 _ _ ha).resolve_left fun e => clean_mem hcl e.1 _ hm e.2
  simp [hk] at hv
  rw [hv'] at hv
  simp at hv
  subst hv
  exact hc
 ·intro j v hv
  have hk : j < n := by
   rcases Nat.lt_or_ge j n with h | h
   ·exact h
   ·rw [List.getElem?_eq_none (by simpa using h)] at hv; cases hv
  rw [Addr.add_lit, cell_of h1]
  have ha : ∃ a, r[j]? = some a := ⟨r[j]'(by omega), List.getElem?_eq_getElem _⟩
  obtain ⟨a, ha⟩ := ha
  have hm := List.mem_of_getElem? ha
  rw [hg j hk] at ha
  obtain ⟨v', hv', -⟩ := (h3 _ _ ha).resolve_left fun e => clean_mem hcl e.1 _ hm e.2
  simp [hk] at hv
  rw [hv'] at hv ⊢
  simp at hv
  rw [hv]

theorem Sim.ld1 {F : Nat → Prop} {ρ : Emb} {μ : Mem} {w : World} (h : Sim F ρ μ w) {i b x o : Nat} {ob : AObj} (ho : μ.obj i = some ob) (hb : ρ i = some (b, x)) {c : Cell}
  (hr : ob.cells[o]? = some c) (hcl : clean ob.ro [c] = true) : ∃ v, CRel ρ c v ∧ w.cell? ⟨b, o, none⟩ = some v := by
 obtain ⟨c', T, fz, h1, h2, -, h3, -⟩ := h.obj i ob b x ho hb
 obtain ⟨v, hv, hc⟩ := (h3 _ _ hr).resolve_left fun e => clean_mem hcl e.1 c (by simp) e.2
 exact ⟨v, hc, by rw [cell_of h1]; exact hv⟩

/-- How a variable of a type is loaded. -/
theorem run_loadVar_of {P : Program} {t : TypeId} {n : Option Nat} (hn : ldN P t = some n) {F : Nat → Prop} {ρ : Emb} {μ : Mem} {w : World} (h : Sim F ρ μ w) {i b x o : Nat}
  (hb : ρ i = some (b, x)) {v : AV} (hv : μ.ld n i o = some v) : ∃ v', AVRel ρ v v' ∧ (loadVar t ⟨b, o, none⟩).run P w = .ok v' w := by
 unfold Mem.ld at hv
 cases ho : μ.obj i with
 | none => simp [ho] at hv
 | some ob =>
  simp only [ho] at hv
  unfold ldN at hn
  cases hu : P.underlying t with
  | none => rw [hu] at hn; cases hn
  | some d =>
   cases hi : P.info? t with
   | none => rw [hu, hi] at hn; cases d <;> cases hn
   | some inf =>
    have one : n = none → ((isAgg t).run P w = .ok false w) → ∃ v', AVRel ρ v v' ∧ (loadVar t ⟨b, o, none⟩).run P w = .ok v' w := by
     intro h1 h2
     subst h1
     simp only [Option.bind_eq_some_iff] at hv
     obtain ⟨c, hc, hv⟩ := hv
     cases hcl : clean ob.ro [c] with
     | false => rw [hcl] at hv; cases hv
     | true =>
     rw [hcl] at hv
     simp only [cond_true, Option.some.injEq] at hv
     subst hv
     obtain ⟨v', h3, h4⟩ := h.ld1 ho hb hc hcl
     exact ⟨v', h3, by simp [loadVar, h2, h4]⟩
    have many : n = some inf.size → ((isAgg t).run P w = .ok true w) → ∃ v', AVRel ρ v v' ∧ (loadVar t ⟨b, o, none⟩).run P w = .ok v' w := by
     intro h1 h2
     subst h1
     simp only [Option.bind_eq_some_iff] at hv
     obtain ⟨c, hc, hv⟩ := hv
     cases hcl : clean ob.ro c with
     | false => rw [hcl] at hv; cases hv
     | true =>
     rw [hcl] at hv
     simp only [cond_true, Option.some.injEq] at hv
     subst hv
     obtain ⟨vs, h3, h4, h5⟩ := h.cells ho hb hc hcl
     have := run_loadCells_list (P := P) w ⟨b, o, none⟩ vs h5
     rw [h4] at this
     exact ⟨.agg vs.toArray, ⟨vs, rfl, h3⟩, by simp [loadVar, h2, sizeOf, typeInfo, hi, this]⟩
    have hagg : (isAgg t).run P w = .ok (match d with | .struct _ => true | .array _ _ => true | _ => false) w := by
     simp [isAgg, run_underlying hu]
     cases d <;> rfl
    rw [hu, hi] at hn
    cases d <;> first
     | exact one (by simpa using hn.symm) hagg
     | exact many (by simpa using hn.symm) hagg

/-! ### Writing -/

theorem wr_length : ∀ (cs l : List Cell) (o : Nat), (wr l o cs).length = l.length
 | [], _, _ => rfl
 | c :: cs, l, o => by unfold wr; rw [wr_length]; simp

theorem wr_get : ∀ (cs l : List Cell) (o k : Nat), o + cs.length ≤ l.length → (wr l o cs)[k]? = if o ≤ k ∧ k < o + cs.length then cs[k - o]? else l[k]?
 | [], l, o, k, _ => by simp only [wr, List.length_nil, Nat.add_zero]; rw [if_neg (by omega)]
 | c :: cs, l, o, k, h => by
  simp only [List.length_cons] at h
  unfold wr
  rw [wr_get cs _ _ _ (by simp; omega)]
  by_cases h1 : o + 1 ≤ k ∧ k < o + 1 + cs.length
  ·rw [if_pos h1, if_pos (by simp; omega)]
   rw [show k - o = (k - (o + 1)) + 1 by omega]
   simp
  ·rw [if_neg h1]
   by_cases h2 : o = k
   ·subst h2
    rw [if_pos (by simp)]
    simp [show o < l.length by omega]
   ·rw [if_neg (by simp; omega), List.getElem?_set_ne h2]

theorem setCells_facts : ∀ (vs : List Value) (w : World) (b o : Nat) (c : Array Value) (T : TypeId) (fz : Nat × Nat), w.heap[b]? = some (.cells c T fz) → o + vs.length ≤ c.size →
  ∃ c' : Array Value, (w.setCells b o vs).heap[b]? = some (.cells c' T fz) ∧ c'.size = c.size ∧ (∀ k : Nat, c'[k]? = if o ≤ k ∧ k < o + vs.length then vs[k - o]? else c[k]?) ∧
   (∀ b', b' ≠ b → (w.setCells b o vs).heap[b']? = w.heap[b']?) ∧ (w.setCells b o vs).heap.size = w.heap.size ∧ (w.setCells b o vs).os = w.os ∧
   (w.setCells b o vs).tape = w.tape ∧ (w.setCells b o vs).output = w.output
 | [], w, b, o, c, T, fz, h, _ => ⟨c, h, rfl, fun k => by rw [if_neg (by simp only [List.length_nil]; omega)], fun _ _ => rfl, rfl, rfl, rfl, rfl⟩
 | v :: vs, w, b, o, c, T, fz, h, hl => by
  simp only [List.length_cons] at hl
  have h1 : (w.setCell ⟨b, o, none⟩ v).heap[b]? = some (.cells (c.setIfInBounds o v) T fz) := by
   simp [World.setCell, Array.getElem?_modify, h]
  obtain ⟨c', k1, k2, k3, k4, k5, k6, k7, k8⟩ := setCells_facts vs (w.setCell ⟨b, o, none⟩ v) b (o + 1) _ T fz h1 (by simp; omega)
  refine ⟨c', k1, by simpa using k2, fun k => ?_, fun b' hb' => ?_, ?_, k6, k7, k8⟩
  ·rw [k3]
   by_cases e1 : o + 1 ≤ k ∧ k < o + 1 + vs.length
   ·rw [if_pos e1, if_pos (by simp; omega), show k - o = (k - (o + 1)) + 1 by omega]
    simp
   ·rw [if_neg e1]
    by_cases e2 : o = k
    ·subst e2
     rw [if_pos (by simp)]
     simp [show o < c.size by omega]
    ·rw [if_neg (by simp; omega), Array.getElem?_setIfInBounds_ne e2]
  ·show (World.setCells _ b (o + 1) vs).heap[b']? = _
   rw [k4 b' hb']
   simp only [World.setCell, Array.getElem?_modify]
   rw [if_neg (by omega)]
  ·show (World.setCells _ b (o + 1) vs).heap.size = _
   rw [k5]; simp

/-- Cells of one of the call's own objects are written. -/
theorem Sim.st {F : Nat → Prop} {ρ : Emb} {μ μ' : Mem} {w : World} (h : Sim F ρ μ w) {i b x o : Nat} (hb : ρ i = some (b, x)) {cs : List Cell} {vs : List Value} (hv : LRel (CRel ρ) cs vs)
  (hs : μ.st i o cs = some μ') : Steps' F ρ μ w ρ μ' (w.setCells b o vs) ∧ (∀ j, j < vs.length → (w.cell? ⟨b, o + j, none⟩).isSome = true) ∧ (∀ j, w.frozen? ⟨b, o + j, none⟩ = false) := by
 unfold Mem.st at hs
 cases ho : μ.obj i with
 | none => simp [ho] at hs
 | some ob =>
  simp only [ho] at hs
  split at hs
  ·rename_i hc
   obtain ⟨hro, hlen⟩ := hc
   simp only [Option.some.injEq] at hs
   subst hs
   obtain ⟨c, T, fz, h1, h2, h2b, h3, h4⟩ := h.obj i ob b x ho hb
   obtain ⟨hF, rfl⟩ := h4 hro
   have hvl := hv.length
   have hfit : o + vs.length ≤ c.size := by omega
   obtain ⟨c', k1, k2, k3, k4, k5, k6, k7, k8⟩ := setCells_facts vs w b o c T (0, 0) h1 hfit
   refine ⟨⟨⟨fun j b' x' hj => ?_, ?_, ?_, ?_, ?_⟩, fun _ _ => rfl, Nat.le_refl _, ⟨k6, k7, k8, by rw [k5]; exact Nat.le_refl _, fun b' hb' => k4 b' (fun e => hF (e ▸ hb'))⟩⟩, ?_, ?_⟩
   ·rw [k5]; exact h.dom j b' x' hj
   ·intro j oj b' x' hj hρ
    simp only [Mem.setObj] at hj
    by_cases e : j = i
    ·subst e
     simp only [if_true, Option.some.injEq] at hj
     subst hj
     rw [hb] at hρ
     simp only [Option.some.injEq, Prod.mk.injEq] at hρ
     obtain ⟨rfl, rfl⟩ := hρ
     refine ⟨c', T, (0, 0), k1, by rw [k2, wr_length]; exact h2, h2b, fun k y hy => ?_, fun _ => ⟨hF, rfl⟩⟩
     rw [wr_get _ _ _ _ hlen] at hy
     rw [k3, ← hvl]
     split at hy
     ·rename_i e1
      rw [if_pos e1]
      exact .inr (hv.get hy)
     ·rename_i e1
      rw [if_neg e1]
      exact h3 k y hy
    ·rw [if_neg e] at hj
     have hne : b' ≠ b := fun e' => e (h.inj i j ob oj b x x' ho hj hro hb (e' ▸ hρ)).symm
     rw [k4 b' hne]
     exact h.obj j oj b' x' hj hρ
   ·intro i' j' oi oj b' x' y' hi hj hr hρi hρj
    simp only [Mem.setObj] at hi hj
    by_cases e : i' = i
    ·subst e
     by_cases e' : j' = i'
     ·exact e'.symm
     ·rw [if_neg e'] at hj
      exact h.inj i' j' ob oj b' x' y' ho hj hro hρi hρj
    ·rw [if_neg e] at hi
     by_cases e' : j' = i
     ·subst e'
      exact h.inj i' j' oi ob b' x' y' hi ho hr hρi hρj
     ·rw [if_neg e'] at hj
      exact h.inj i' j' oi oj b' x' y' hi hj hr hρi hρj
   ·intro j oj hj
    simp only [Mem.setObj] at hj ⊢
    by_cases e : j = i
    ·subst e; exact h.lt j ob ho
    ·rw [if_neg e] at hj; exact h.lt j oj hj
   ·intro b' hb'; rw [k5]; exact h.fb b' hb'
   ·intro j hj
    rw [cell_of h1]
    simp [show o + j < c.size by omega]
   ·intro j; exact frozen_of h1
  ·cases hs

/-! ### Making -/

/-- An object that is not there yet. -/
theorem Sim.newObj {F : Nat → Prop} {ρ : Emb} {μ : Mem} {w : World} (h : Sim F ρ μ w) (cs : List Cell) (esz : Nat) : Sim F ρ (μ.new cs esz) w := by
 have hne : ∀ i b x, ρ i = some (b, x) → i ≠ μ.next := fun i b x hi => Nat.ne_of_lt (h.dom i b x hi).1
 refine ⟨fun i b x hi => ⟨Nat.lt_succ_of_lt (h.dom i b x hi).1, (h.dom i b x hi).2⟩, ?_, ?_, ?_, h.fb⟩
 ·intro i o b x ho hi
  simp only [Mem.new, if_neg (hne i b x hi)] at ho
  exact h.obj i o b x ho hi
 ·intro i j oi oj b x y hi hj hr hρi hρj
  simp only [Mem.new, if_neg (hne i b x hρi)] at hi
  simp only [Mem.new, if_neg (hne j b y hρj)] at hj
  exact h.inj i j oi oj b x y hi hj hr hρi hρj
 ·intro i o hi
  simp only [Mem.new] at hi ⊢
  split at hi
  ·omega
  ·have := h.lt i o hi; omega

def Emb.set (ρ : Emb) (i b x : Nat) : Emb := fun j => if j = i then some (b, x) else ρ j
theorem Emb.le_set {ρ : Emb} {i b x : Nat} (h : ρ i = none) : ρ.Le (ρ.set i b x) := by
 intro j p hj
 unfold Emb.set
 split
 ·rename_i e; subst e; rw [h] at hj; cases hj
 ·exact hj

/-- An object gets its block, a new one. -/
theorem Sim.real {F : Nat → Prop} {ρ : Emb} {μ : Mem} {w : World} (h : Sim F ρ μ w) {i x : Nat} {ob : AObj} (ho : μ.obj i = some ob) (hi : ρ i = none) (hx : ob.esz = 0 → x = 0)
  {c : Array Value} {T : TypeId} (hs : c.size = ob.cells.length + x * ob.esz) (hc : ∀ (k : Nat) (y : Cell), ob.cells[k]? = some y → ∃ v, c[k]? = some v ∧ CRel ρ y v) :
  Sim F (ρ.set i w.heap.size x) μ (w.alloc (.cells c T)) := by
 have hle : ρ.Le (ρ.set i w.heap.size x) := Emb.le_set hi
 refine ⟨?_, ?_, ?_, h.lt, ?_⟩
 ·intro j b y hj
  unfold Emb.set at hj
  simp only [World.size_alloc]
  split at hj
  ·rename_i e; subst e
   simp only [Option.some.injEq, Prod.mk.injEq] at hj
   exact ⟨h.lt j ob ho, by omega⟩
  ·have := h.dom j b y hj; omega
 ·intro j o b y hj hρ
  unfold Emb.set at hρ
  split at hρ
  ·rename_i e; subst e
   simp only [Option.some.injEq, Prod.mk.injEq] at hρ
   obtain ⟨rfl, rfl⟩ := hρ
   rw [ho] at hj
   simp only [Option.some.injEq] at hj
   subst hj
   refine ⟨c, T, (0, 0), heap_alloc_new w _, hs, hx, fun k y hy => ?_, fun _ => ⟨fun hF => Nat.lt_irrefl _ (h.fb _ hF), rfl⟩⟩
   obtain ⟨v, h1, h2⟩ := hc k y hy
   exact .inr ⟨v, h1, h2.mono hle⟩
  ·obtain ⟨c', T', fz, h1, h2, h2b, h3, h4⟩ := h.obj j o b y hj hρ
   refine ⟨c', T', fz, by rw [heap_alloc_old w _ (h.dom j b y hρ).2]; exact h1, h2, h2b, fun k z hz => ?_, h4⟩
   rcases h3 k z hz with e | ⟨v, k1, k2⟩
   ·exact .inl e
   ·exact .inr ⟨v, k1, k2.mono hle⟩
 ·intro j k oj ok b y z hj hk hr hρj hρk
  unfold Emb.set at hρj hρk
  split at hρj
  ·rename_i e; subst e
   simp only [Option.some.injEq, Prod.mk.injEq] at hρj
   obtain ⟨rfl, rfl⟩ := hρj
   split at hρk
   ·rename_i e; exact e.symm
   ·exact absurd (h.dom k _ z hρk).2 (Nat.lt_irrefl _)
  ·split at hρk
   ·rename_i e
    simp only [Option.some.injEq, Prod.mk.injEq] at hρk
    obtain ⟨rfl, rfl⟩ := hρk
    exact absurd (h.dom j _ y hρj).2 (Nat.lt_irrefl _)
   ·exact h.inj j k oj ok b y z hj hk hr hρj hρk
 ·intro b hb; simp only [World.size_alloc]; exact Nat.lt_succ_of_lt (h.fb b hb)

theorem Keeps.alloc {F : Nat → Prop} {w : World} (h : ∀ b, F b → b < w.heap.size) (o : Obj) : Keeps F w (w.alloc o) :=
 ⟨rfl, rfl, rfl, by simp, fun b hb => heap_alloc_old w o (h b hb)⟩

/-- A new object, in a new block. -/
theorem Sim.new {F : Nat → Prop} {ρ : Emb} {μ : Mem} {w : World} (h : Sim F ρ μ w) {cs : List Cell} {esz x : Nat} (hx : esz = 0 → x = 0) {c : Array Value} {T : TypeId}
  (hs : c.size = cs.length + x * esz) (hc : ∀ (k : Nat) (y : Cell), cs[k]? = some y → ∃ v, c[k]? = some v ∧ CRel ρ y v) :
  Steps' F ρ μ w (ρ.set μ.next w.heap.size x) (μ.new cs esz) (w.alloc (.cells c T)) := by
 have hnone : ρ μ.next = none := by
  cases e : ρ μ.next with
  | none => rfl
  | some p => exact absurd (h.dom _ p.1 p.2 e).1 (Nat.lt_irrefl _)
 refine ⟨(h.newObj cs esz).real (i := μ.next) (ob := ⟨cs, esz, false⟩) (by simp [Mem.new]) hnone hx hs hc, ?_, ?_, Keeps.alloc h.fb _⟩
 ·intro i hi
  unfold Emb.set
  rw [if_neg (Nat.ne_of_lt hi)]
 ·simp [Mem.new]

end Go.Proofs.Ytibmnlijoeppaaa
