/-
 Both machines side by side, in pure Lean: for each valid plan they run in step.
-/
import Derived.Test.YtibmnlijoeppaaaOkAll
import Derived.Test.YtibmnlijoeppaaaXM
namespace Go.Proofs.Ytibmnlijoeppaaa
set_option linter.unusedSimpArgs false
set_option linter.unusedVariables false

/-! ### What a valid plan's bodies are: well nested regions, steps of known shapes. -/

/-- A region of a body: its steps lie one in another; 'd' says that it lies in a defer. -/
inductive Inn (l : List PStep) : Bool → Nat → Nat → Prop
 | nil {d : Bool} {i : Nat} : Inn l d i i
 | head {d : Bool} {i to : Nat} {s : PStep} : l[i]? = some s → headP s.op = true → i + 1 + s.size.toNat ≤ to → Inn l (d || s.op == 13) (i + 1) (i + 1 + s.size.toNat) → Inn l d (i + 1 + s.size.toNat) to → Inn l d i to
 | step {d : Bool} {i to : Nat} {s : PStep} : l[i]? = some s → headP s.op = false → ¬ (s.op = 10 ∧ d = true) → i + 1 ≤ to → Inn l d (i + 1) to → Inn l d i to

theorem Inn.of {l : List PStep} (hs : ∀ s ∈ l, 0 ≤ s.size) : ∀ (f i to deep : Nat) (d : Bool), to - i ≤ f → i ≤ to → to ≤ l.length → (insideP l f i to deep d).1 = 0 → Inn l d i to := by
 intro f
 induction f with
 | zero =>
  intro i to deep d h1 h2 h3 _
  obtain rfl : i = to := by omega
  exact .nil
 | succ f ih =>
  intro i to deep d h1 h2 h3 h
  simp only [insideP] at h
  by_cases hi : i < to
  ·rw [if_pos hi] at h
   have hl : l[i]? = some l[i] := List.getElem?_eq_getElem (by omega)
   rw [hl] at h
   dsimp only at h
   have hsz := hs l[i] (List.getElem_mem _)
   by_cases hh : headP l[i].op = true
   ·rw [if_pos hh] at h
    by_cases h4 : l[i].size > (to : Int) - i - 1
    ·rw [if_pos h4] at h; simp at h
    ·rw [if_neg h4] at h
     by_cases h5 : deep = 12
     ·rw [if_pos h5] at h; simp at h
     ·rw [if_neg h5] at h
      by_cases h6 : (insideP l f (i + 1) (i + 1 + l[i].size.toNat) (deep + 1) (d || l[i].op == 13)).1 ≠ 0
      ·rw [if_pos h6] at h; exact absurd h h6
      ·rw [if_neg h6] at h
       simp only [ne_eq, Classical.not_not] at h6
       exact .head hl hh (by omega) (ih _ _ _ _ (by omega) (by omega) (by omega) h6) (ih _ _ _ _ (by omega) (by omega) h3 h)
   ·rw [if_neg hh] at h
    by_cases h6 : l[i].op = 10 ∧ d = true
    ·rw [if_pos h6] at h; simp at h
    ·rw [if_neg h6] at h
     exact .step hl (by simpa using hh) h6 (by omega) (ih _ _ _ _ (by omega) (by omega) h3 h)
  ·obtain rfl : i = to := by omega
   exact .nil

/-- A step of a valid plan of n bodies. -/
structure Shp (n : Int) (s : PStep) : Prop where
 ops : 1 ≤ s.op ∧ s.op ≤ 15
 a : s.op ≠ 12 → s.op ≠ 13 → 0 ≤ s.a ∧ s.a < 4
 b : s.op = 2 ∨ s.op = 5 ∨ s.op = 7 ∨ s.op = 8 → 0 ≤ s.b ∧ s.b < 4
 body : s.op = 4 → 0 ≤ s.b ∧ s.b < n
 size : 0 ≤ s.size
 flat : headP s.op = false → s.size = 0

theorem Shp.of {n : Int} {s : PStep} (h : shapeP n s = true) : Shp n s := by
 have hsz := shapeP_size h
 simp only [shapeP, Bool.and_eq_true] at h
 obtain ⟨⟨⟨⟨⟨h1, h2⟩, h3⟩, _⟩, h5⟩, _⟩ := h
 rcases ops_or s.op with e | e | e | e | e | e | e | e | e | e | e | e | e | e | e | ⟨g1, g2, g3, g4, g5, g6, g7, g8, g9, g10, g11, g12, g13, g14, g15⟩
 case inr.inr.inr.inr.inr.inr.inr.inr.inr.inr.inr.inr.inr.inr.inr =>
  simp only [fieldsP, g1, g2, g3, g4, g5, g6, g7, g8, g9, g10, g11, g12, g13, g14, g15, if_false, or_self] at h1
  cases h1
 all_goals
  simp [fieldsP, fitsP, regP, e] at h2 h3 h5
  refine ⟨by omega, fun q1 q2 => by omega, fun q => by omega, fun q => by omega, hsz, fun q => ?_⟩
  first | exact h5 | (rw [e] at q; exact absurd q (by decide))

structure Good (p : PPlan) : Prop where
 some : 0 < p.length ∧ p.length ≤ 30
 len : ∀ b ∈ p, b.length ≤ 300
 inn : ∀ b ∈ p, Inn b false 0 b.length
 shp : ∀ b ∈ p, ∀ s ∈ b, Shp p.length s

theorem nestsP_none : ∀ {p : PPlan} {i : Nat}, nestsP p i = none → ∀ b ∈ p, (nestP b).1 = 0
 | [], i, h, b, hb => by cases hb
 | a :: p, i, h, b, hb => by
  simp only [nestsP] at h
  split at h
  ·rename_i ha
   rcases List.mem_cons.1 hb with rfl | hb
   ·exact ha
   ·exact nestsP_none h b hb
  ·cases h

theorem nestsP_some : ∀ {p : PPlan} {i : Nat} {b : Nat} {c a : Int}, nestsP p i = some (b, c, a) → c ≠ 0
 | [], i, b, c, a, h => by cases h
 | x :: p, i, b, c, a, h => by
  simp only [nestsP] at h
  split at h
  ·exact nestsP_some h
  ·rename_i hx
   simp only [Option.some.injEq, Prod.mk.injEq] at h
   obtain ⟨_, h⟩ := h
   rw [h] at hx
   exact hx

theorem Good.of {p : PPlan} (h : (okP p).1 = 0) : Good p := by
 unfold okP at h
 by_cases h1 : p.length = 0 ∨ p.length > 30
 ·rw [if_pos h1] at h; simp at h
 rw [if_neg h1] at h
 cases h2 : longP p 0 with
 | some b => rw [h2] at h; simp at h
 | none =>
  rw [h2] at h
  cases h3 : badsP p.length p 0 with
  | some b => rw [h3] at h; simp at h
  | none =>
   rw [h3] at h
   cases h4 : nestsP p 0 with
   | some b =>
    obtain ⟨b, c, a⟩ := b
    rw [h4] at h
    exact absurd h (nestsP_some h4)
   | none =>
    have hshp : ∀ b ∈ p, ∀ s ∈ b, Shp p.length s := fun b hb s hs => Shp.of (badsP_none h3 b hb s hs)
    refine ⟨by omega, longP_none h2, fun b hb => ?_, hshp⟩
    have hs : ∀ s ∈ b, 0 ≤ s.size := fun s hs => (hshp b hb s hs).size
    have hn := nestsP_none h4 b hb
    rw [nest_eq hs] at hn
    exact Inn.of hs b.length 0 b.length 0 false (by omega) (by omega) (Nat.le_refl _) hn

/-! ### How the program's machine and the reference's stand to one another. -/

def dfl (F : List PFr) : Bool := F.any fun f => f.op == 13

/-- Where the reference's block goes on: at the loop's head, while the loop's block is open. -/
def Pc (l : List PStep) (d : Bool) (ab : Option Int) (i : Nat) (pc : Int) : Prop :=
 match ab with
 | none => pc = i
 | some h => ∃ (h' : Nat) (x : PStep), h = h' ∧ pc = h ∧ l[h']? = some x ∧ x.op = 14 ∧ i = h' + 1 + x.size.toNat ∧ Inn l d (h' + 1) i

def MetOk (l : List PStep) (h : Int) : Prop := ∃ (h' : Nat) (x : PStep), h = h' ∧ l[h']? = some x ∧ x.op = 13 ∧ h' + 1 + x.size.toNat ≤ l.length ∧ Inn l true (h' + 1) (h' + 1 + x.size.toNat)
def Hd (l : List PStep) (f : PFr) : Prop := headP f.op = true ∧ ∃ (h : Nat) (x : PStep), f.hd = h ∧ l[h]? = some x ∧ x.op = f.op

structure FOne (l : List PStep) (ab : Option Int) (d : Bool) (f : PFr) (g : X.PFr) : Prop where
 op : g.op = f.op
 fin : g.fin = f.fin
 met : g.met = f.met
 leaving : g.leaving = f.leaving
 way : g.way = f.way
 num : f.way ≠ 3 → g.num = f.num
 ways : f.way = 0 ∨ f.way = 1 ∨ f.way = 2 ∨ f.way = 3
 noret : d = true → f.way ≠ 1
 live : f.leaving = false → f.way = 0 ∧ f.num = 0 ∧ ∃ i to : Nat, f.pc = i ∧ f.fin = to ∧ i ≤ to ∧ to ≤ l.length ∧ Inn l d i to ∧ Pc l d ab i g.pc
 mets : ∀ h ∈ f.met, MetOk l h

/-- What the block above means for the block below. -/
def abv (f : PFr) : Option Int := if f.op = 14 then some f.hd else none

def FS (l : List PStep) : Option Int → List PFr → List X.PFr → Prop
 | _, [], _ => False
 | ab, [f], G => ∃ g, G = [g] ∧ FOne l ab (dfl [f]) f g ∧ f.op = 0
 | ab, f :: up :: r, G => ∃ g s, G = g :: s ∧ FOne l ab (dfl (f :: up :: r)) f g ∧ g.hd = f.hd ∧ Hd l f ∧ (up.leaving = true ↔ f.op = 13) ∧ FS l (abv f) (up :: r) s

section
variable {l : List PStep} {ab ab' : Option Int} {d : Bool} {F : List PFr} {f f' up : PFr} {g g' : X.PFr} {r : List PFr} {s G : List X.PFr}

theorem FS.cons (h : FS l ab (f :: r) G) : ∃ g s, G = g :: s ∧ FOne l ab (dfl (f :: r)) f g := by
 cases r with
 | nil => obtain ⟨g, rfl, h1, _⟩ := h; exact ⟨g, [], rfl, h1⟩
 | cons up r => obtain ⟨g, s, rfl, h1, _⟩ := h; exact ⟨g, s, rfl, h1⟩

theorem FS.ne (h : FS l ab F G) : F ≠ [] := by intro hh; subst hh; exact h

theorem FS.len : ∀ {r : List PFr} {ab : Option Int} {G : List X.PFr}, FS l ab r G → G.length = r.length
 | [], _, _, h => h.elim
 | [f], _, _, ⟨g, e, _⟩ => by subst e; rfl
 | f :: up :: r, _, _, ⟨g, s, e, _, _, _, _, h⟩ => by subst e; simp only [List.length_cons]; rw [FS.len h]; rfl

theorem dfl_cons (f : PFr) (r : List PFr) : dfl (f :: r) = ((f.op == 13) || dfl r) := rfl

/-- The innermost block changes. -/
theorem FS.top (h : FS l ab (f :: r) (g :: s)) (ho : f'.op = f.op) (hh : f'.hd = f.hd) (hg : g'.hd = g.hd) (h1 : FOne l ab' (dfl (f :: r)) f' g') : FS l ab' (f' :: r) (g' :: s) := by
 have hd : dfl (f' :: r) = dfl (f :: r) := by rw [dfl_cons, dfl_cons, ho]
 cases r with
 | nil =>
  obtain ⟨g0, e, _, e2⟩ := h
  simp only [List.cons.injEq] at e
  obtain ⟨rfl, rfl⟩ := e
  exact ⟨g', rfl, by rw [hd]; exact h1, by rw [ho]; exact e2⟩
 | cons up r =>
  obtain ⟨g0, s0, e, _, e2, e3, e4, e5⟩ := h
  simp only [List.cons.injEq] at e
  obtain ⟨rfl, rfl⟩ := e
  refine ⟨g', s, rfl, by rw [hd]; exact h1, by rw [hg, hh]; exact e2, ?_, by rw [ho]; exact e4, ?_⟩
  ·unfold Hd at e3 ⊢; rw [ho, hh]; exact e3
  ·unfold abv at e5 ⊢; rw [ho, hh]; exact e5

/-- One more block. -/
theorem FS.push (h : FS l (abv f') (f :: r) (g :: s)) (h1 : FOne l ab (dfl (f' :: f :: r)) f' g') (hh : g'.hd = f'.hd) (hd : Hd l f') (hl : f.leaving = true ↔ f'.op = 13) : FS l ab (f' :: f :: r) (g' :: g :: s) :=
 ⟨g', g :: s, rfl, h1, hh, hd, hl, h⟩

theorem FOne.pc (h : FOne l none d f g) (hl : f.leaving = false) : g.pc = f.pc := by
 obtain ⟨_, _, i, to, e1, _, _, _, _, e2⟩ := h.live hl
 rw [e1]; exact e2
end

def n3 (F : List PFr) : Nat := F.countP fun f => f.way == 3
theorem n3_cons (f : PFr) (r : List PFr) : n3 (f :: r) = n3 r + if f.way = 3 then 1 else 0 := by
 unfold n3; rw [List.countP_cons]
 by_cases h : f.way = 3
 ·simp [h]
 ·simp [h]

/-- The bound that a task adds: its blocks and the defers that they have met. -/
def wts : List PFr → Nat
 | [] => 0
 | f :: r => 1 + f.met.length + wts r

structure TR (p : PPlan) (t : PTk) (u : X.PTk) : Prop where
 body : u.body = t.body
 state : u.state = t.state
 regs : u.regs = t.regs
 waiter : u.waiter = t.waiter
 kept : u.kept = t.kept
 begun : u.begun = t.begun
 drops : u.drops = t.drops
 drop : u.drop = t.drop
 into : u.into = t.ask.a
 given : t.state ≠ 4 → u.given = t.given
 len : t.regs.length = 4
 ask : 0 ≤ t.ask.a ∧ t.ask.a < 4
 drop0 : t.drops = false → t.drop = 0
 st : (t.state = 0 ∧ t.frames = [] ∧ u.frames = [] ∧ t.given = false ∧ t.drops = false) ∨ (t.state = 4 ∧ t.frames = [] ∧ u.frames = []) ∨
  ((t.state = 1 ∨ t.state = 2 ∨ t.state = 3) ∧ ∃ l, idx p t.body = some l ∧ FS l none t.frames u.frames ∧ n3 t.frames = if t.given = true then 1 else 0)
 bodyok : ∃ l, idx p t.body = some l
 sus : t.state = 1 → t.given = false
 gw : t.given = true → t.state = 4 ∨ t.waiter ≠ -1

theorem TR.done {p : PPlan} {t : PTk} {u : X.PTk} (h : TR p t u) (e : t.state = 4) : t.frames = [] := by
 rcases h.st with ⟨e', _⟩ | ⟨_, e', _⟩ | ⟨e', _⟩
 ·omega
 ·exact e'
 ·omega

theorem TR.frames {p : PPlan} {t : PTk} {u : X.PTk} (h : TR p t u) : u.frames.length = t.frames.length := by
 rcases h.st with ⟨_, e1, e2, _⟩ | ⟨_, e1, e2⟩ | ⟨_, l, _, h1, _⟩
 ·rw [e1, e2]; rfl
 ·rw [e1, e2]; rfl
 ·exact h1.len

theorem TR.view {p : PPlan} {t : PTk} {u : X.PTk} (h : TR p t u) : u.view = t.view := by
 simp only [X.PTk.view, PTk.view, h.body, h.state, h.regs, h.waiter, h.kept, h.begun, h.frames]

/-- A task that has blocks: which they are. -/
theorem TR.run {p : PPlan} {t : PTk} {u : X.PTk} (h : TR p t u) (hs : t.state = 1 ∨ t.state = 2 ∨ t.state = 3) :
  ∃ l f r g s, idx p t.body = some l ∧ t.frames = f :: r ∧ u.frames = g :: s ∧ FS l none (f :: r) (g :: s) ∧ n3 (f :: r) = if t.given = true then 1 else 0 := by
 rcases h.st with ⟨e, _⟩ | ⟨e, _⟩ | ⟨_, l, hl, h1, h2⟩
 ·omega
 ·omega
 ·cases hf : t.frames with
  | nil => rw [hf] at h1; exact h1.elim
  | cons f r =>
   rw [hf] at h1 h2
   obtain ⟨g, s, e, _⟩ := h1.cons
   rw [e] at h1
   exact ⟨l, f, r, g, s, hl, rfl, e, h1, h2⟩

/-- The list of those who wait, from the running one on. -/
def Ch (sw : List (Int × Int)) : List Nat → Prop
 | [] => False
 | [k] => k = 0 ∧ ∃ s, sw[k]? = some (s, -1)
 | k :: j :: c => (∃ s, sw[k]? = some (s, (j : Int))) ∧ Ch sw (j :: c)

structure Chn (sw : List (Int × Int)) (k : Nat) (c : List Nat) : Prop where
 nodup : (k :: c).Nodup
 ch : Ch sw (k :: c)
 st : ∀ i s w, sw[i]? = some (s, w) → (i = k → s = 2) ∧ (i ∈ c → s = 3) ∧ (i ∉ k :: c → (s = 0 ∨ s = 1 ∨ s = 4) ∧ w = -1)

def PM.sw (S : PM) : List (Int × Int) := S.tasks.map fun t => (t.state, t.waiter)
def PM.wt (S : PM) : Nat := (S.tasks.map fun t => wts t.frames).sum
def PM.phi (S : PM) : Nat := S.recs.length + S.rings.length + S.wt

/-- Both machines' tasks. -/
structure Core (p : PPlan) (S : PM) (T : X.PM) : Prop where
 run : T.run = S.run
 len : T.tasks.length = S.tasks.length
 tk : ∀ (i : Nat) (t : PTk), S.tasks[i]? = some t → ∃ u, T.tasks[i]? = some u ∧ TR p t u
 chain : ∃ (k : Nat) (c : List Nat), S.run = k ∧ Chn S.sw k c
 few : S.tasks.length ≤ 60

theorem views {S : PM} {T : X.PM} (hl : T.tasks.length = S.tasks.length) (h : ∀ (i : Nat) (t : PTk), S.tasks[i]? = some t → ∃ u, T.tasks[i]? = some u ∧ u.view = t.view) : T.tasks.map X.PTk.view = S.tasks.map PTk.view := by
 refine List.ext_getElem (by simp [hl]) fun i h1 h2 => ?_
 simp only [List.length_map] at h1 h2
 obtain ⟨u, e1, e2⟩ := h i S.tasks[i] (List.getElem?_eq_getElem h2)
 have e3 := List.getElem?_eq_getElem h1
 rw [e1] at e3
 simp only [Option.some.injEq] at e3
 simp only [List.getElem_map]
 rw [← e3, e2]

theorem Core.views {p : PPlan} {S : PM} {T : X.PM} (h : Core p S T) : T.tasks.map X.PTk.view = S.tasks.map PTk.view :=
 Ytibmnlijoeppaaa.views h.len fun i t ht => by obtain ⟨u, e, hu⟩ := h.tk i t ht; exact ⟨u, e, hu.view⟩

def ints (l : List Nat) : List Int := l.map fun (n : Nat) => (n : Int)

/-- How tasks stand while a run goes on. -/
structure Std (s : PStand) : Prop where
 ok : s.ok = true
 few : s.tasks.length ≤ 60
 regs : ∀ v ∈ s.tasks, v.regs.length = 4
 done : ∀ v ∈ s.tasks, v.state = 4 → v.blocks = 0
 chain : ∃ (k : Nat) (c : List Nat), s.running = k ∧ Chn (s.tasks.map fun v => (v.state, v.waiter)) k c

/-- A ring as it stands: from the task named back to the one that runs. -/
def RingOk (r : PRing) (s : PStand) : Prop := ∃ (k m : Nat) (a b c : List Nat), s.running = k ∧ r.tasks = ints (m :: a.reverse) ∧ k :: c = a ++ m :: b ∧ Chn (s.tasks.map fun v => (v.state, v.waiter)) k c

theorem stand_sw {S : PM} : (S.stand.tasks.map fun v => (v.state, v.waiter)) = S.sw := by simp [PM.stand, PM.sw, List.map_map, Function.comp_def, PTk.view]

theorem Core.std {p : PPlan} {S : PM} {T : X.PM} (h : Core p S T) : Std S.stand := by
 refine ⟨rfl, by simpa [PM.stand] using h.few, fun v hv => ?_, fun v hv e => ?_, by rw [stand_sw]; exact h.chain⟩
 ·obtain ⟨t, ht, rfl⟩ := List.mem_map.1 hv
  obtain ⟨i, hi⟩ := List.getElem?_of_mem ht
  obtain ⟨u, _, hu⟩ := h.tk i t hi
  exact hu.len
 ·obtain ⟨t, ht, rfl⟩ := List.mem_map.1 hv
  obtain ⟨i, hi⟩ := List.getElem?_of_mem ht
  obtain ⟨u, _, hu⟩ := h.tk i t hi
  simp only [PTk.view] at e ⊢
  rw [hu.done e]; rfl

theorem Std.put {S : PM} (h : Std S.stand) {k : Nat} {t : PTk} (ht : S.tasks[k]? = some t) (hst : t.state = 2) {F : List PFr} : Std (S.put k { t with frames := F }).stand := by
 have hm : ∀ v, v ∈ (S.put k { t with frames := F }).stand.tasks → v = PTk.view { t with frames := F } ∨ v ∈ S.stand.tasks := fun v hv => by
  obtain ⟨u, hu, rfl⟩ := List.mem_map.1 hv
  rcases List.mem_or_eq_of_mem_set hu with h1 | h1
  ·exact .inr (List.mem_map.2 ⟨u, h1, rfl⟩)
  ·exact .inl (by rw [h1])
 have hv0 : t.view ∈ S.stand.tasks := List.mem_map.2 ⟨t, List.mem_of_getElem? ht, rfl⟩
 refine ⟨rfl, ?_, fun v hv => ?_, fun v hv e => ?_, ?_⟩
 ·have := h.few
  simpa [PM.stand, PM.put] using this
 ·rcases hm v hv with rfl | h1
  ·have := h.regs _ hv0; exact this
  ·exact h.regs v h1
 ·rcases hm v hv with rfl | h1
  ·simp only [PTk.view] at e; omega
  ·exact h.done v h1 e
 ·have hr : (S.put k { t with frames := F }).stand.running = S.stand.running := rfl
  have he : ((S.put k { t with frames := F }).stand.tasks.map fun v => (v.state, v.waiter)) = S.stand.tasks.map fun v => (v.state, v.waiter) := by
   simp only [PM.stand, PM.put, Int.toNat_natCast, List.map_map, List.map_set]
   refine List.ext_getElem? fun i => ?_
   rw [List.getElem?_set]
   split
   ·rename_i e
    subst e
    rw [if_pos (by rw [List.length_map]; exact (List.getElem?_eq_some_iff.1 ht).1), List.getElem?_map, ht]; rfl
   ·rfl
  rw [hr, he]; exact h.chain

/-- What the hook does from one state to the next. -/
def Hk (S S' : PM) : Prop :=
 (S.hook = none → S'.hook = none) ∧ ∀ n k st, S.hook = some ⟨n, k, st⟩ → n = S.recs.length → ∃ st', S'.hook = some ⟨S'.recs.length, k, st'⟩ ∧ (k < n → st' = st) ∧ S.recs.length ≤ S'.recs.length ∧
  (n ≤ k → k < S'.recs.length → Std st') ∧ (S'.recs.length ≤ k → st' = st) ∧ ∀ r ∈ S'.rings, r ∈ S.rings ∨ (n ≤ r.pos ∧ r.pos < S'.recs.length ∧ (r.pos = k → RingOk r st'))
theorem Hk.refl {S S' : PM} (h1 : S'.hook = S.hook) (h2 : S'.recs = S.recs) (h3 : S'.rings = S.rings) : Hk S S' :=
 ⟨fun e => h1.trans e, fun n k st e hn => ⟨st, by rw [h1, h2, e, hn], fun _ => rfl, by rw [h2]; exact Nat.le_refl _, fun a b => by rw [h2] at b; omega, fun _ => rfl, fun r hr => .inl (h3 ▸ hr)⟩⟩
theorem Hk.trans {S S' S'' : PM} (h : Hk S S') (h' : Hk S' S'') : Hk S S'' := by
 refine ⟨fun e => h'.1 (h.1 e), fun n k st e hn => ?_⟩
 obtain ⟨st', e1, e2, e3, e31, e32, e33⟩ := h.2 n k st e hn
 obtain ⟨st'', e4, e5, e6, e61, e62, e63⟩ := h'.2 _ k st' e1 rfl
 refine ⟨st'', e4, fun hk => (e5 (by omega)).trans (e2 hk), Nat.le_trans e3 e6, fun a b => ?_, fun a => (e62 a).trans (e32 (by omega)), fun r hr => ?_⟩
 ·by_cases hk : k < S'.recs.length
  ·rw [e5 hk]; exact e31 a hk
  ·exact e61 (by omega) b
 ·rcases e63 r hr with h1 | ⟨h1, h2, h3⟩
  ·rcases e33 r h1 with h4 | ⟨h4, h5, h6⟩
   ·exact .inl h4
   ·exact .inr ⟨h4, by omega, fun hk => by rw [e5 (by omega)]; exact h6 hk⟩
  ·exact .inr ⟨by omega, h2, h3⟩

/-- What is not a task's: both run on, or the reference has stopped where it was told to. -/
inductive Acc (S : PM) (T : X.PM) : Prop
 | live : T.over = false → S.over = false → T.code = S.code ∧ S.code = 0 → T.num = S.num → T.recs = S.recs → T.rings = S.rings → T.ticks = S.used → T.left = S.left - S.used → T.stand = ⟨false, 0, []⟩ → T.states = [] → S.states = [] →
   (T.stop = -1 ∨ ∃ k : Nat, T.stop = k ∧ S.hook = some ⟨S.recs.length, k, ⟨false, 0, []⟩⟩ ∧ S.recs.length ≤ k) → Acc S T
 | dead : T.over = true → T.states = [] → (∃ n k, S.hook = some ⟨n, k, T.stand⟩ ∧ k < n ∧ n = S.recs.length) → S.states = [] → T.stop ≠ -1 ∧ S.code = 0 → Acc S T

/-- Only tasks (and who runs) differ. -/
def SameRest (S S' : PM) : Prop := S'.left = S.left ∧ S'.used = S.used ∧ S'.code = S.code ∧ S'.recs = S.recs ∧ S'.num = S.num ∧ S'.states = S.states ∧ S'.over = S.over ∧ S'.hook = S.hook ∧ S'.rings = S.rings
def SameRestX (T T' : X.PM) : Prop := T'.left = T.left ∧ T'.over = T.over ∧ T'.code = T.code ∧ T'.recs = T.recs ∧ T'.num = T.num ∧ T'.ticks = T.ticks ∧ T'.states = T.states ∧ T'.rings = T.rings ∧ T'.stop = T.stop ∧ T'.stand = T.stand

theorem Acc.same {S S' : PM} {T T' : X.PM} (h : Acc S T) (hs : SameRest S S') (ht : SameRestX T T') : Acc S' T' := by
 obtain ⟨a1, a2, a3, a4, a5, a6, a7, a8, a9⟩ := hs
 obtain ⟨b1, b2, b3, b4, b5, b6, b7, b8, b9, b10⟩ := ht
 cases h with
 | live c1 c2 c3 c4 c5 c6 c7 c8 c9 c10 c11 c12 =>
  exact .live (b2.trans c1) (a7.trans c2) ⟨by rw [b3, a3, c3.1], a3.trans c3.2⟩ (by rw [b5, a5, c4]) (by rw [b4, a4, c5]) (by rw [b8, a9, c6]) (by rw [b6, a2, c7]) (by rw [b1, a1, a2, c8]) (by rw [b10, c9]) (b7.trans c10) (a6.trans c11)
   (by rw [b9, a8, a4]; exact c12)
 | dead c1 c2 c3 c4 c5 => exact .dead (b2.trans c1) (b7.trans c2) (by rw [a8, b10, a4]; exact c3) (a6.trans c4) ⟨by rw [b9]; exact c5.1, a3.trans c5.2⟩

theorem wr_small {n : Int} (h : 0 ≤ n ∧ n ≤ 1000000000) : wr64 n = n := by unfold wr64; exact small (by omega)

/-- A record, told by both. -/
theorem tell_both {S : PM} {T : X.PM} (ha : Acc S T) (hr : T.run = S.run) (hv : T.tasks.map X.PTk.view = S.tasks.map PTk.view) (hstd : Std S.stand) (hl : S.tasks.length ≤ 60) (hn : S.recs.length ≤ 1000000) (kind how num : Int) :
  ∃ S' T', S.tell kind how num = some S' ∧ T.tell kind how num = some T' ∧ Acc S' T' ∧ Hk S S' ∧ S'.tasks = S.tasks ∧ S'.run = S.run ∧ T'.tasks = T.tasks ∧ T'.run = T.run ∧ S'.recs = S.recs ++ [⟨kind, S.run, how, num⟩] ∧
   S'.rings = S.rings ∧ S'.used = S.used ∧ S'.left = S.left ∧ T'.rings = T.rings ∧ S'.over = S.over ∧ S'.num = S.num ∧ S'.code = S.code ∧ ∀ n k st, S.hook = some ⟨n, k, st⟩ → n = S.recs.length → n = k → S'.hook = some ⟨S'.recs.length, k, S.stand⟩ := by
 have hlt : T.tasks.length = S.tasks.length := by have := congrArg List.length hv; simpa using this
 have htell : S.tell kind how num = some { S.hooked with recs := S.recs ++ [⟨kind, S.run, how, num⟩] } := by
  unfold PM.tell; rw [if_pos ⟨by unfold roomy; omega, by unfold roomy; omega⟩]
 have hsee : T.see = S.stand := by simp only [X.PM.see, PM.stand, hv, hr]
 have hhook : ∀ n k st, S.hook = some ⟨n, k, st⟩ → n = S.recs.length → ({ S.hooked with recs := S.recs ++ [⟨kind, S.run, how, num⟩] } : PM).hook = some ⟨(({ S.hooked with recs := S.recs ++ [⟨kind, S.run, how, num⟩] } : PM).recs.length : Nat), k, if n = k then S.stand else st⟩ := fun n k st e hn' => by
  simp only [PM.hooked, e, List.length_append, List.length_cons, List.length_nil]
  rw [wr_small (by omega), hn']; simp
 have hhk : Hk S { S.hooked with recs := S.recs ++ [⟨kind, S.run, how, num⟩] } := by
  refine ⟨fun e => by simp only [PM.hooked, e], fun n k st e hn' => ⟨_, hhook n k st e hn', fun hk => by rw [if_neg (by omega)], by simp, fun a b => ?_, fun a => ?_, fun r hr => ?_⟩⟩
  ·simp only [List.length_append, List.length_cons, List.length_nil] at b
   rw [if_pos (by omega)]; exact hstd
  ·simp only [List.length_append, List.length_cons, List.length_nil] at a
   rw [if_neg (by omega)]
  ·left
   simp only [PM.hooked, e] at hr
   exact hr
 have hex : ∀ n k st, S.hook = some ⟨n, k, st⟩ → n = S.recs.length → n = k → ({ S.hooked with recs := S.recs ++ [⟨kind, S.run, how, num⟩] } : PM).hook = some ⟨(({ S.hooked with recs := S.recs ++ [⟨kind, S.run, how, num⟩] } : PM).recs.length : Nat), k, S.stand⟩ := fun n k st e hn' hk => by
  rw [hhook n k st e hn', if_pos hk]
 have hS : ∀ X : PM, X = { S.hooked with recs := S.recs ++ [⟨kind, S.run, how, num⟩] } → X.tasks = S.tasks ∧ X.run = S.run ∧ X.rings = S.rings ∧ X.used = S.used ∧ X.left = S.left ∧ X.over = S.over ∧ X.num = S.num ∧ X.code = S.code ∧ X.states = S.states := by
  rintro X rfl; unfold PM.hooked; split <;> exact ⟨rfl, rfl, rfl, rfl, rfl, rfl, rfl, rfl, rfl⟩
 obtain ⟨q1, q2, q3, q4, q5, q6, q7, q8, q9⟩ := hS _ rfl
 cases ha with
 | live c1 c2 c3 c4 c5 c6 c7 c8 c9 c10 c11 c12 =>
  by_cases hst : T.stop = T.recs.length
  ·have hT : T.tell kind how num = some { T with stand := T.see, over := true, recs := T.recs ++ [⟨kind, T.run, how, num⟩] } := by
    unfold X.PM.tell; rw [if_neg (by rw [c1]; simp), if_pos ⟨by rw [c5]; unfold roomy; omega, by unfold roomy; omega⟩, if_pos hst]
   refine ⟨_, _, htell, hT, .dead rfl c10 ?_ (q9.trans c11) ⟨by show T.stop ≠ -1; omega, q8.trans c3.2⟩, hhk, q1, q2, rfl, rfl, rfl, q3, q4, q5, rfl, q6, q7, q8, hex⟩
   rcases c12 with c12 | ⟨k, k1, k2, k3⟩
   ·omega
   ·refine ⟨_, k, ?_, ?_, rfl⟩
    ·simp only [PM.hooked, k2]
     rw [c5] at hst
     have hk : ((S.recs.length : Nat) : Int) = k := by omega
     rw [if_pos hk, hsee, wr_small (by omega)]; simp
    ·rw [c5] at hst; simp; omega
  ·have hT : T.tell kind how num = some { T with recs := T.recs ++ [⟨kind, T.run, how, num⟩] } := by
    unfold X.PM.tell; rw [if_neg (by rw [c1]; simp), if_pos ⟨by rw [c5]; unfold roomy; omega, by unfold roomy; omega⟩, if_neg hst]
   refine ⟨_, _, htell, hT, .live c1 (q6.trans c2) ⟨by rw [q8, c3.1], q8.trans c3.2⟩ (by rw [q7, c4]) (by simp only [c5, hr]) (by rw [q3, c6]) (by rw [q4, c7]) (by rw [q4, q5, c8]) c9 c10 (q9.trans c11) ?_, hhk, q1, q2, rfl, rfl, rfl, q3, q4, q5, rfl, q6, q7, q8, hex⟩
   rcases c12 with c12 | ⟨k, k1, k2, k3⟩
   ·exact .inl c12
   ·refine .inr ⟨k, k1, ?_, ?_⟩
    ·simp only [PM.hooked, k2, List.length_append, List.length_cons, List.length_nil]
     rw [c5] at hst
     rw [if_neg (by omega), wr_small (by omega)]; simp
    ·rw [c5] at hst; simp; omega
 | dead c1 c2 c3 c4 c5 =>
  have hT : T.tell kind how num = some T := by unfold X.PM.tell; rw [if_pos c1]
  refine ⟨_, _, htell, hT, .dead c1 c2 ?_ (q9.trans c4) ⟨c5.1, q8.trans c5.2⟩, hhk, q1, q2, rfl, rfl, rfl, q3, q4, q5, rfl, q6, q7, q8, hex⟩
  obtain ⟨n, k, e1, e2, e3⟩ := c3
  obtain ⟨st', f1, f2, f3, _⟩ := hhk.2 n k _ e1 e3
  exact ⟨_, k, by rw [f1, f2 e2], by simp at *; omega, rfl⟩

/-! ### Who waits for whom, and how a change of one task bears on both machines. -/

theorem Ch.frame {sw sw' : List (Int × Int)} : ∀ {c : List Nat}, Ch sw c → (∀ i ∈ c, ∀ s w, sw[i]? = some (s, w) → ∃ s', sw'[i]? = some (s', w)) → Ch sw' c
 | [], h, _ => h
 | [k], ⟨h1, s, h2⟩, h => ⟨h1, h k (by simp) s _ h2⟩
 | k :: j :: c, ⟨⟨s, h1⟩, h2⟩, h => ⟨h k (by simp) s _ h1, Ch.frame h2 fun i hi => h i (by simp at hi ⊢; exact .inr hi)⟩

theorem Chn.get {sw : List (Int × Int)} {k : Nat} {c : List Nat} (h : Chn sw k c) : ∃ w, sw[k]? = some (2, w) := by
 have : ∃ s w, sw[k]? = some (s, w) := by
  cases c with
  | nil => obtain ⟨_, s, e⟩ := h.ch; exact ⟨s, _, e⟩
  | cons j c => obtain ⟨⟨s, e⟩, _⟩ := h.ch; exact ⟨s, _, e⟩
 obtain ⟨s, w, e⟩ := this
 obtain rfl := (h.st k s w e).1 rfl
 exact ⟨w, e⟩

theorem Chn.next {sw : List (Int × Int)} {k : Nat} {c : List Nat} (h : Chn sw k c) (hk : k ≠ 0) : ∃ j c' w, c = j :: c' ∧ sw[k]? = some (2, (j : Int)) ∧ sw[j]? = some (3, w) := by
 cases c with
 | nil => exact absurd h.ch.1 hk
 | cons j c =>
  obtain ⟨⟨s, e⟩, h2⟩ := h.ch
  obtain rfl := (h.st k s _ e).1 rfl
  have : ∃ s w, sw[j]? = some (s, w) := by
   cases c with
   | nil => obtain ⟨_, s, e⟩ := h2; exact ⟨s, _, e⟩
   | cons j' c => obtain ⟨⟨s, e⟩, _⟩ := h2; exact ⟨s, _, e⟩
  obtain ⟨s, w, e'⟩ := this
  obtain rfl := (h.st j s w e').2.1 (by simp)
  exact ⟨j, c, w, rfl, e, e'⟩

theorem set_get {α : Type} {l : List α} {k i : Nat} {x : α} (hk : k < l.length) : (l.set k x)[i]? = if i = k then some x else l[i]? := by
 by_cases h : i = k
 ·subst h; rw [if_pos rfl, List.getElem?_set_self hk]
 ·rw [if_neg h, List.getElem?_set_ne (fun e => h e.symm)]

theorem Chn.lend {sw : List (Int × Int)} {k n : Nat} {c : List Nat} {w wk s : Int} (h : Chn sw k c) (hn : sw[n]? = some (s, w)) (hs : s = 0 ∨ s = 1) (hk : sw[k]? = some (2, wk)) :
  Chn ((sw.set k (3, wk)).set n (2, (k : Int))) n (k :: c) := by
 have hnk : n ∉ k :: c := by
  intro hh
  rcases List.mem_cons.1 hh with hh | hh
  ·subst hh; rw [hk] at hn; simp only [Option.some.injEq, Prod.mk.injEq] at hn; omega
  ·have := (h.st n s w hn).2.1 hh; omega
 have hlk : k < sw.length := (List.getElem?_eq_some_iff.1 hk).1
 have hln : n < sw.length := (List.getElem?_eq_some_iff.1 hn).1
 have hne : n ≠ k := fun e => hnk (by simp [e])
 have hg : ∀ i, ((sw.set k (3, wk)).set n (2, (k : Int)))[i]? = if i = n then some (2, (k : Int)) else if i = k then some (3, wk) else sw[i]? := by
  intro i
  rw [set_get (by rw [List.length_set]; exact hln), set_get hlk]
 refine ⟨List.nodup_cons.2 ⟨hnk, h.nodup⟩, ⟨⟨2, by rw [hg, if_pos rfl]⟩, h.ch.frame fun i hi s' w' e => ?_⟩, fun i s' w' e => ?_⟩
 ·have hin : i ≠ n := fun e => hnk (e ▸ hi)
  rw [hg, if_neg hin]
  by_cases hik : i = k
  ·subst hik
   rw [hk] at e
   simp only [Option.some.injEq, Prod.mk.injEq] at e
   rw [if_pos rfl, e.2]; exact ⟨_, rfl⟩
  ·rw [if_neg hik]; exact ⟨_, e⟩
 ·rw [hg] at e
  by_cases hin : i = n
  ·subst hin
   rw [if_pos rfl] at e
   simp only [Option.some.injEq, Prod.mk.injEq] at e
   exact ⟨fun _ => e.1.symm, fun hh => absurd hh hnk, fun hh => absurd (by simp) hh⟩
  ·rw [if_neg hin] at e
   by_cases hik : i = k
   ·subst hik
    rw [if_pos rfl] at e
    simp only [Option.some.injEq, Prod.mk.injEq] at e
    exact ⟨fun hh => absurd hh hin, fun _ => e.1.symm, fun hh => absurd (by simp) hh⟩
   ·rw [if_neg hik] at e
    obtain ⟨a1, a2, a3⟩ := h.st i s' w' e
    refine ⟨fun hh => absurd hh hin, fun hh => ?_, fun hh => a3 ?_⟩
    ·rcases List.mem_cons.1 hh with hh | hh
     ·exact absurd hh hik
     ·exact a2 hh
    ·intro hm; exact hh (by simp at hm ⊢; exact .inr hm)

theorem Chn.hand {sw : List (Int × Int)} {k j : Nat} {c : List Nat} {wj st : Int} (h : Chn sw k (j :: c)) (hj : sw[j]? = some (3, wj)) (hk : k < sw.length) (hs : st = 0 ∨ st = 1 ∨ st = 4) :
  Chn ((sw.set k (st, -1)).set j (2, wj)) j c := by
 have hlj : j < sw.length := (List.getElem?_eq_some_iff.1 hj).1
 have hnd := List.nodup_cons.1 h.nodup
 have hkj : k ≠ j := fun e => hnd.1 (by simp [e])
 have hg : ∀ i, ((sw.set k (st, -1)).set j (2, wj))[i]? = if i = j then some (2, wj) else if i = k then some (st, -1) else sw[i]? := by
  intro i
  rw [set_get (by rw [List.length_set]; exact hlj), set_get hk]
 refine ⟨hnd.2, h.ch.2.frame fun i hi s' w' e => ?_, fun i s' w' e => ?_⟩
 ·have hik : i ≠ k := fun e => hnd.1 (e ▸ hi)
  rw [hg]
  by_cases hij : i = j
  ·subst hij
   rw [hj] at e
   simp only [Option.some.injEq, Prod.mk.injEq] at e
   rw [if_pos rfl, e.2]; exact ⟨_, rfl⟩
  ·rw [if_neg hij, if_neg hik]; exact ⟨_, e⟩
 ·rw [hg] at e
  by_cases hij : i = j
  ·subst hij
   rw [if_pos rfl] at e
   simp only [Option.some.injEq, Prod.mk.injEq] at e
   exact ⟨fun _ => e.1.symm, fun hh => absurd hh (List.nodup_cons.1 hnd.2).1, fun hh => absurd (by simp) hh⟩
  ·rw [if_neg hij] at e
   by_cases hik : i = k
   ·subst hik
    rw [if_pos rfl] at e
    simp only [Option.some.injEq, Prod.mk.injEq] at e
    exact ⟨fun hh => absurd hh hij, fun hh => absurd (List.mem_cons_of_mem _ hh) hnd.1, fun hh => ⟨by rw [← e.1]; exact hs, e.2.symm⟩⟩
   ·rw [if_neg hik] at e
    obtain ⟨a1, a2, a3⟩ := h.st i s' w' e
    exact ⟨fun hh => absurd hh hij, fun hh => a2 (List.mem_cons_of_mem _ hh), fun hh => a3 (by
     intro hm
     rcases List.mem_cons.1 hm with hm | hm
     ·exact hik hm
     ·exact hh hm)⟩

theorem Chn.mem {sw : List (Int × Int)} {k n : Nat} {c : List Nat} {s w : Int} (h : Chn sw k c) (hn : sw[n]? = some (s, w)) (h0 : s ≠ 0) (h1 : s ≠ 1) (h4 : s ≠ 4) : n ∈ k :: c := by
 refine Decidable.byContradiction fun hh => ?_
 have := ((h.st n s w hn).2.2 hh).1
 omega

/-! ### Weights -/

theorem sum_set : ∀ {l : List Nat} {i x y : Nat}, l[i]? = some y → (l.set i x).sum + y = l.sum + x
 | [], i, x, y, h => by simp at h
 | a :: l, 0, x, y, h => by simp at h; subst h; simp; omega
 | a :: l, i + 1, x, y, h => by
  simp only [List.getElem?_cons_succ] at h
  have := sum_set (x := x) h
  simp only [List.set_cons_succ, List.sum_cons]; omega

theorem PM.put_wt {S : PM} {k : Nat} {t t' : PTk} (ht : S.tasks[k]? = some t) : (S.put k t').wt + wts t.frames = S.wt + wts t'.frames := by
 unfold PM.wt PM.put
 simp only [Int.toNat_natCast, List.map_set]
 exact sum_set (by rw [List.getElem?_map, ht]; rfl)

theorem wts_le {S : PM} {k : Nat} {t : PTk} (ht : S.tasks[k]? = some t) : wts t.frames ≤ S.wt := by
 have := PM.put_wt (t' := { t with frames := [] }) ht
 simp only [wts] at this
 omega

theorem wts_len : ∀ {F : List PFr}, F.length ≤ wts F
 | [] => Nat.le_refl _
 | f :: r => by have := wts_len (F := r); simp only [List.length_cons, wts]; omega

theorem wts_met {f : PFr} {r : List PFr} : f.met.length ≤ wts (f :: r) := by simp only [wts]; omega

theorem put_get' {S : PM} {k i : Nat} {t t' : PTk} (ht : S.tasks[k]? = some t) : (S.put k t').tasks[i]? = if i = k then some t' else S.tasks[i]? := by
 unfold PM.put
 simp only [Int.toNat_natCast]
 exact set_get (List.getElem?_eq_some_iff.1 ht).1
theorem putX_get {T : X.PM} {k i : Nat} {u u' : X.PTk} (hu : T.tasks[k]? = some u) : (T.put k u').tasks[i]? = if i = k then some u' else T.tasks[i]? := by
 unfold X.PM.put
 simp only [Int.toNat_natCast]
 exact set_get (List.getElem?_eq_some_iff.1 hu).1

theorem put_sw {S : PM} {k : Nat} {t' : PTk} : (S.put k t').sw = S.sw.set k (t'.state, t'.waiter) := by
 unfold PM.sw PM.put
 simp only [Int.toNat_natCast, List.map_set]

theorem sw_get {S : PM} {k : Nat} {t : PTk} (ht : S.tasks[k]? = some t) : S.sw[k]? = some (t.state, t.waiter) := by
 unfold PM.sw; rw [List.getElem?_map, ht]; rfl

theorem put_sw_same {S : PM} {k : Nat} {t t' : PTk} (ht : S.tasks[k]? = some t) (hs : t'.state = t.state) (hw : t'.waiter = t.waiter) : (S.put k t').sw = S.sw := by
 rw [put_sw, hs, hw]
 have := sw_get ht
 refine List.ext_getElem? fun i => ?_
 rw [set_get (List.getElem?_eq_some_iff.1 this).1]
 split
 ·rename_i h; rw [h, this]
 ·rfl

/-- One task changes on both sides; who waits for whom stays. -/
theorem Core.put {p : PPlan} {S : PM} {T : X.PM} (h : Core p S T) {k : Nat} {t t' : PTk} {u' : X.PTk} (ht : S.tasks[k]? = some t) (hu : TR p t' u') (hs : t'.state = t.state) (hw : t'.waiter = t.waiter) :
  Core p (S.put k t') (T.put k u') := by
 obtain ⟨u, hku, _⟩ := h.tk k t ht
 refine ⟨h.run, by simp only [X.PM.put, PM.put, List.length_set, h.len], fun i t2 h2 => ?_, ?_, by simp only [PM.put, List.length_set]; exact h.few⟩
 ·rw [put_get' ht] at h2
  rw [putX_get hku]
  by_cases hi : i = k
  ·rw [if_pos hi] at h2 ⊢
   simp only [Option.some.injEq] at h2
   subst h2
   exact ⟨u', rfl, hu⟩
  ·rw [if_neg hi] at h2 ⊢
   exact h.tk i t2 h2
 ·rw [put_sw_same ht hs hw]; exact h.chain

/-- What is left and used, and how much lies in the machine. -/
structure Bnd (S : PM) : Prop where
 used : 0 ≤ S.used ∧ S.used ≤ S.left ∧ S.left ≤ 5000
 phi : (S.phi : Int) ≤ 1 + 100 * S.used

theorem Bnd.room {S : PM} (h : Bnd S) : S.recs.length ≤ 500001 ∧ S.rings.length ≤ 500001 ∧ S.wt ≤ 500001 := by
 have h1 := h.phi
 have h2 := h.used
 unfold PM.phi at h1
 omega

theorem Core.now {p : PPlan} {S : PM} {T : X.PM} (h : Core p S T) (hb : S.wt ≤ 500001) :
  ∃ (k : Nat) (c : List Nat) (t : PTk) (u : X.PTk), S.run = k ∧ Chn S.sw k c ∧ S.tasks[k]? = some t ∧ T.tasks[k]? = some u ∧ TR p t u ∧ t.state = 2 ∧ t.frames.length ≤ 500001 ∧ S.now = some t ∧ T.now = some u ∧ idx S.tasks S.run = some t ∧ idx T.tasks T.run = some u := by
 obtain ⟨k, c, hk, hc⟩ := h.chain
 obtain ⟨w, hw⟩ := hc.get
 unfold PM.sw at hw
 rw [List.getElem?_map] at hw
 obtain ⟨t, ht, e⟩ := Option.map_eq_some_iff.1 hw
 simp only [Prod.mk.injEq] at e
 obtain ⟨u, hu, htu⟩ := h.tk k t ht
 have h1 : t.frames.length ≤ 500001 := Nat.le_trans wts_len (Nat.le_trans (wts_le ht) hb)
 have i1 : idx S.tasks S.run = some t := by unfold idx; rw [hk, if_pos (by omega), Int.toNat_natCast]; exact ht
 have i2 : idx T.tasks T.run = some u := by unfold idx; rw [h.run, hk, if_pos (by omega), Int.toNat_natCast]; exact hu
 refine ⟨k, c, t, u, hk, hc, ht, hu, htu, e.1, h1, ?_, ?_, i1, i2⟩
 ·unfold PM.now; rw [i1, Option.bind_some, if_pos (by unfold roomy; omega)]
 ·unfold X.PM.now; rw [i2, Option.bind_some, if_pos (by rw [htu.frames]; unfold roomy; omega)]

/-! ### Both machines: an error, a ring. -/

/-- What both machines come to. -/
structure Two (p : PPlan) (S S' : PM) (T' : X.PM) (w c : Nat) : Prop where
 core : Core p S' T'
 acc : Acc S' T'
 hk : Hk S S'
 used : S'.used = S.used
 left : S'.left = S.left
 over : S'.over = S.over
 wt : S'.wt ≤ S.wt + w
 phi : S'.phi ≤ S.phi + c

theorem Two.mono {p : PPlan} {S S' : PM} {T' : X.PM} {w c w' c' : Nat} (h : Two p S S' T' w c) (hw : w ≤ w') (hc : c ≤ c') : Two p S S' T' w' c' :=
 ⟨h.core, h.acc, h.hk, h.used, h.left, h.over, Nat.le_trans h.wt (by omega), Nat.le_trans h.phi (by omega)⟩
theorem Two.trans {p : PPlan} {S S' S'' : PM} {T' T'' : X.PM} {w c w' c' : Nat} (h : Two p S S' T' w c) (h' : Two p S' S'' T'' w' c') : Two p S S'' T'' (w + w') (c + c') :=
 ⟨h'.core, h'.acc, h.hk.trans h'.hk, h'.used.trans h.used, h'.left.trans h.left, h'.over.trans h.over, by have := h.wt; have := h'.wt; omega, by have := h.phi; have := h'.phi; omega⟩

/-- The innermost block is left. -/
theorem TR.mark {p : PPlan} {t : PTk} {u : X.PTk} {f : PFr} {r : List PFr} {g : X.PFr} {s : List X.PFr} (h : TR p t u) (hs : t.state = 1 ∨ t.state = 2 ∨ t.state = 3) (hf : t.frames = f :: r) (hg : u.frames = g :: s) (hl : f.leaving = false) {v num : Int}
  (hv : v = 0 ∨ (v = 1 ∧ dfl (f :: r) = false) ∨ v = 2) :
  TR p { t with frames := { f with leaving := true, way := v, num := num } :: r } { u with frames := { g with leaving := true, way := v, num := num } :: s } := by
 refine ⟨h.body, h.state, h.regs, h.waiter, h.kept, h.begun, h.drops, h.drop, h.into, h.given, h.len, h.ask, h.drop0, .inr (.inr ⟨hs, ?_⟩), h.bodyok, h.sus, h.gw⟩
 obtain ⟨l, f0, r0, g0, s0, hl0, e1, e2, h1, h2⟩ := h.run hs
 rw [hf] at e1; rw [hg] at e2
 simp only [List.cons.injEq] at e1 e2
 obtain ⟨rfl, rfl⟩ := e1
 obtain ⟨rfl, rfl⟩ := e2
 obtain ⟨g1, s1, e, ho⟩ := h1.cons
 simp only [List.cons.injEq] at e
 obtain ⟨rfl, rfl⟩ := e
 refine ⟨l, hl0, h1.top rfl rfl rfl ⟨ho.op, ho.fin, ho.met, rfl, rfl, fun _ => rfl, by simp only; omega, fun hd => ?_, fun hh => by simp at hh, ho.mets⟩, ?_⟩
 ·simp only; rcases hv with e | ⟨e, e'⟩ | e
  ·omega
  ·rw [hd] at e'; cases e'
  ·omega
 ·rw [n3_cons] at h2 ⊢
  rw [if_neg (by have := (ho.live hl).1; omega)] at h2
  rw [if_neg (by simp only; omega), h2]

theorem wts_mark {f : PFr} {r : List PFr} {v num : Int} : wts ({ f with leaving := true, way := v, num := num } :: r) = wts (f :: r) := rfl

/-- A record is told; then both go on with the same tasks. -/
theorem tell_out {p : PPlan} {S : PM} {T : X.PM} (h : Core p S T) (ha : Acc S T) (hn : S.recs.length ≤ 1000000) (kind how num : Int) :
  ∃ S' T', S.tell kind how num = some S' ∧ T.tell kind how num = some T' ∧ Two p S S' T' 0 1 ∧ S'.tasks = S.tasks ∧ S'.run = S.run ∧ T'.tasks = T.tasks ∧ T'.run = T.run := by
 obtain ⟨S', T', e1, e2, a1, a2, a3, a4, a5, a6, a7, a8, a9, a10, a11, a12, a13, a14⟩ := tell_both ha h.run h.views h.std h.few hn kind how num
 refine ⟨S', T', e1, e2, ⟨⟨by rw [a6, a4, h.run], by rw [a5, a3, h.len], by rw [a3, a5]; exact h.tk, ?_, by rw [a3]; exact h.few⟩, a1, a2, a9, a10, a12, ?_, ?_⟩, a3, a4, a5, a6⟩
 ·obtain ⟨k, c, hk, hc⟩ := h.chain
  exact ⟨k, c, a4.trans hk, by unfold PM.sw; rw [a3]; exact hc⟩
 ·unfold PM.wt; rw [a3]; exact Nat.le_refl _
 ·unfold PM.phi PM.wt; rw [a3, a7, a8]; simp; omega

theorem put_rest {S : PM} {k : Int} {t : PTk} : SameRest S (S.put k t) := ⟨rfl, rfl, rfl, rfl, rfl, rfl, rfl, rfl, rfl⟩
theorem put_restX {T : X.PM} {k : Int} {u : X.PTk} : SameRestX T (T.put k u) := ⟨rfl, rfl, rfl, rfl, rfl, rfl, rfl, rfl, rfl, rfl⟩

/-- One task changes on both sides. -/
theorem put_out {p : PPlan} {S : PM} {T : X.PM} (h : Core p S T) (ha : Acc S T) {k : Nat} {t t' : PTk} {u' : X.PTk} (ht : S.tasks[k]? = some t) (hu : TR p t' u') (hs : t'.state = t.state) (hw : t'.waiter = t.waiter) {d : Nat} (hd : wts t'.frames ≤ wts t.frames + d) :
  Two p S (S.put k t') (T.put k u') d d := by
 have hwt := PM.put_wt (t' := t') ht
 refine ⟨h.put ht hu hs hw, ha.same put_rest put_restX, Hk.refl rfl rfl rfl, rfl, rfl, rfl, by omega, ?_⟩
 unfold PM.phi
 have e1 : (S.put k t').recs = S.recs := rfl
 have e2 : (S.put k t').rings = S.rings := rfl
 rw [e1, e2]; omega

/-- An error on its way. -/
theorem fail_out {p : PPlan} {S : PM} {T : X.PM} (h : Core p S T) (ha : Acc S T) (hn : S.recs.length ≤ 1000000) (hwt : S.wt ≤ 500001) (hl : ∀ t f r, S.now = some t → t.frames = f :: r → f.leaving = false) (num : Int) :
  ∃ S' T', S.fail num = some S' ∧ T.throw num = some T' ∧ Two p S S' T' 0 1 := by
 obtain ⟨S1, T1, e1, e2, o1, b1, b2, b3, b4⟩ := tell_out h ha hn 3 0 num
 obtain ⟨k, c, t, u, hk, hc, ht, hu, htu, hst, hfl, n1, n2, i1, i2⟩ := h.now hwt
 have w1 := o1.wt
 obtain ⟨k', c', t', u', hk', hc', ht', hu', htu', hst', hfl', n1', n2', i1', i2'⟩ := o1.core.now (by omega)
 obtain rfl : t' = t := by rw [b1, b2, i1] at i1'; exact (Option.some.inj i1').symm
 obtain rfl : u' = u := by rw [b3, b4, i2] at i2'; exact (Option.some.inj i2').symm
 obtain ⟨l, f, r, g, s, hlp, hf, hg, hfs, _⟩ := htu.run (.inr (.inl hst))
 have hlf := hl t' f r n1 hf
 have hm := htu.mark (.inr (.inl hst)) hf hg hlf (v := 2) (num := num) (.inr (.inr rfl))
 have hlen : u'.frames.length < roomy := by rw [htu.frames]; unfold roomy; omega
 have o2 := put_out o1.core o1.acc ht' hm rfl rfl (d := 0) (by rw [wts_mark, ← hf]; exact Nat.le_refl _)
 refine ⟨_, _, ?_, ?_, o1.trans o2⟩
 ·unfold PM.fail
  rw [e1, Option.bind_some, n1', Option.bind_some]
  unfold PTk.onTop
  rw [hf]
  simp only
  rw [← hf, if_pos (by unfold roomy; omega), Option.map_some, hk']
 ·unfold X.PM.throw
  rw [e2, Option.bind_some]
  unfold X.PM.mark
  rw [n2', Option.bind_some]
  unfold X.PTk.onTop
  rw [hg]
  simp only
  rw [← hg, if_pos hlen, Option.map_some, o1.core.run, hk']

/-! ### A ring -/

theorem waits_first {q : Int} : ∀ {l : List PTk} {j0 i : Nat} {t : PTk}, l[i]? = some t → t.waiter = q → t.state ≠ 4 → (∀ i' t', l[i']? = some t' → t'.waiter = q → i' = i) → waits q l j0 = some (j0 + i)
 | [], j0, i, t, h, _, _, _ => by simp at h
 | a :: l, j0, 0, t, h, hw, hs, hu => by
  simp at h; subst h
  unfold waits; rw [if_pos ⟨hw, hs⟩]; rfl
 | a :: l, j0, i + 1, t, h, hw, hs, hu => by
  unfold waits
  rw [if_neg (fun hh => by have := hu 0 a rfl hh.1; omega)]
  simp only [List.getElem?_cons_succ] at h
  rw [waits_first h hw hs fun i' t' h' hw' => by have := hu (i' + 1) t' (by simpa using h') hw'; omega]
  congr 1; omega

theorem Ch.succ {sw : List (Int × Int)} : ∀ {n : Nat} {b : List Nat} {i : Nat} {s : Int} {q : Nat}, Ch sw (n :: b) → i ∈ n :: b → sw[i]? = some (s, (q : Int)) → q ∈ b
 | n, [], i, s, q, h, hi, e => by
  simp only [List.mem_singleton] at hi
  subst hi
  obtain ⟨_, s', e'⟩ := h
  rw [e] at e'
  simp only [Option.some.injEq, Prod.mk.injEq] at e'
  omega
 | n, j :: b, i, s, q, h, hi, e => by
  rcases List.mem_cons.1 hi with hi | hi
  ·subst hi
   obtain ⟨⟨s', e'⟩, _⟩ := h
   rw [e] at e'
   simp only [Option.some.injEq, Prod.mk.injEq] at e'
   have : q = j := by omega
   subst this; simp
  ·exact List.mem_cons_of_mem _ (Ch.succ h.2 hi e)

theorem Ch.pred {sw : List (Int × Int)} : ∀ {a : List Nat} {j n : Nat} {b : List Nat} {i : Nat} {s : Int}, Ch sw (a ++ j :: n :: b) → (a ++ j :: n :: b).Nodup → i ∈ a ++ j :: n :: b → sw[i]? = some (s, (n : Int)) → i = j
 | [], j, n, b, i, s, h, hn, hi, e => by
  rw [List.nil_append] at *
  rcases List.mem_cons.1 hi with hi | hi
  ·exact hi
  ·have := h.2.succ hi e
   have hnd := List.nodup_cons.1 hn
   exact absurd this (List.nodup_cons.1 hnd.2).1
 | x :: a, j, n, b, i, s, h, hn, hi, e => by
  rw [List.cons_append] at *
  have hnd := List.nodup_cons.1 hn
  rcases List.mem_cons.1 hi with hi | hi
  ·subst hi
   exfalso
   cases a with
   | nil =>
    rw [List.nil_append] at *
    obtain ⟨⟨s', e'⟩, _⟩ := h
    rw [e] at e'
    simp only [Option.some.injEq, Prod.mk.injEq] at e'
    have : n = j := by omega
    subst this
    exact (List.nodup_cons.1 hnd.2).1 (by simp)
   | cons y a =>
    rw [List.cons_append] at *
    obtain ⟨⟨s', e'⟩, _⟩ := h
    rw [e] at e'
    simp only [Option.some.injEq, Prod.mk.injEq] at e'
    have : n = y := by omega
    subst this
    exact (List.nodup_cons.1 hnd.2).1 (by simp)
  ·cases a with
   | nil => exact Ch.pred (a := []) h.2 hnd.2 hi e
   | cons y a => exact Ch.pred (a := y :: a) h.2 hnd.2 hi e

/-- From a task on to the running one, over those who wait. -/
def Path (tasks : List PTk) (k : Nat) : List Nat → Prop
 | [] => False
 | [q] => q = k
 | q :: j :: c => q ≠ k ∧ waits q tasks 0 = some j ∧ Path tasks k (j :: c)

theorem Chn.path {S : PM} {k : Nat} {c : List Nat} (h : Chn S.sw k c) : ∀ (m : Nat) (a : List Nat) (n : Nat) (b : List Nat), a.length = m → k :: c = a ++ n :: b → Path S.tasks k (n :: a.reverse) := by
 intro m
 induction m with
 | zero =>
  intro a n b ha he
  rw [List.length_eq_zero_iff] at ha
  subst ha
  rw [List.nil_append] at he
  simp only [List.cons.injEq] at he
  exact he.1.symm
 | succ m ih =>
  intro a n b ha he
  obtain ⟨a', j, rfl⟩ : ∃ a' j, a = a' ++ [j] := by
   rcases List.eq_nil_or_concat a with e | ⟨a', j, e⟩
   ·subst e; simp at ha
   ·exact ⟨a', j, by simpa using e⟩
  have he' : k :: c = a' ++ j :: n :: b := by rw [he]; simp
  have hp := ih a' j (n :: b) (by simpa using ha) he'
  rw [List.reverse_append]
  simp only [List.reverse_cons, List.reverse_nil, List.nil_append, List.singleton_append]
  have hch := h.ch
  have hnd := h.nodup
  rw [he'] at hch hnd
  refine ⟨?_, ?_, hp⟩
  ·intro e
   subst e
   cases a' with
   | nil =>
    rw [List.nil_append] at he' hnd
    simp only [List.cons.injEq] at he'
    rw [← he'.1] at hnd
    exact (List.nodup_cons.1 hnd).1 (by simp)
   | cons x a' =>
    rw [List.cons_append] at he' hnd
    simp only [List.cons.injEq] at he'
    rw [← he'.1] at hnd
    exact (List.nodup_cons.1 hnd).1 (by simp)
  ·have hj : ∃ s, S.sw[j]? = some (s, (n : Int)) := by
    have : ∀ (a : List Nat), Ch S.sw (a ++ j :: n :: b) → ∃ s, S.sw[j]? = some (s, (n : Int)) := by
     intro a
     induction a with
     | nil => intro hh; exact hh.1
     | cons x a iha =>
      intro hh
      cases a with
      | nil => exact hh.2.1
      | cons y a => exact iha hh.2
    exact this a' hch
   obtain ⟨s, hj⟩ := hj
   have hjt : ∃ t, S.tasks[j]? = some t ∧ t.waiter = n ∧ t.state = s := by
    unfold PM.sw at hj
    rw [List.getElem?_map] at hj
    obtain ⟨t, ht, e⟩ := Option.map_eq_some_iff.1 hj
    simp only [Prod.mk.injEq] at e
    exact ⟨t, ht, e.2, e.1⟩
   obtain ⟨t, ht, htw, hts⟩ := hjt
   have hm : j ∈ k :: c := by rw [he']; simp
   have hs4 : s ≠ 4 := by
    have := h.st j s _ hj
    rcases List.mem_cons.1 hm with e | e
    ·have := this.1 e; omega
    ·have := this.2.1 e; omega
   have := waits_first (j0 := 0) ht htw (by rw [hts]; exact hs4) (fun i' t' h' hw' => by
    have hsw : S.sw[i']? = some (t'.state, (n : Int)) := by rw [← hw']; exact sw_get h'
    refine Ch.pred hch hnd ?_ hsw
    rw [← he']
    refine Decidable.byContradiction fun hh => ?_
    have := ((h.st i' _ _ hsw).2.2 hh).2
    omega)
   rw [Nat.zero_add] at this
   exact this

theorem ringing_out {p : PPlan} : ∀ (P : List Nat) (fuel : Nat) (S : PM) (T : X.PM) (k q : Nat) (l : List Int), Path S.tasks k (q :: P) → S.run = k → Core p S T → Acc S T → S.recs.length + P.length ≤ 1000000 → P.length < fuel → l.length + P.length ≤ 100000 →
  ∃ S' T', PM.ringing fuel S q l = some (S', l ++ ints (q :: P)) ∧ T.tells (ints (q :: P)) = some T' ∧ Two p S S' T' 0 (P.length + 1) ∧ S'.tasks = S.tasks ∧ S'.run = S.run ∧ T'.tasks = T.tasks ∧ T'.run = T.run ∧ S'.rings = S.rings ∧ S'.recs.length = S.recs.length + P.length + 1 ∧
   ∀ n k st, S.hook = some ⟨n, k, st⟩ → n = S.recs.length → n = k → S'.hook = some ⟨S'.recs.length, k, S.stand⟩ := by
 intro P
 induction P with
 | nil =>
  intro fuel S T k q l hp hk h ha hn hf hl
  obtain ⟨fuel, rfl⟩ : ∃ f, fuel = f + 1 := ⟨fuel - 1, by simp at hf; omega⟩
  obtain ⟨S1, T1, e1, e2, a1, a2, a3, a4, a5, a6, a7, a8, a9, a10, a11, a12, a13, a14⟩ := tell_both ha h.run h.views h.std h.few (by simp at hn; omega) 5 0 q
  obtain ⟨S1', T1', e1', e2', o1, b1, b2, b3, b4⟩ := tell_out h ha (by simp at hn; omega) 5 0 q
  rw [e1] at e1'; rw [e2] at e2'
  simp only [Option.some.injEq] at e1' e2'
  subst e1' e2'
  have hq : q = k := hp
  refine ⟨S1, T1, ?_, ?_, o1, b1, b2, b3, b4, a8, by rw [a7]; simp, a14.2⟩
  ·unfold PM.ringing
   rw [if_pos (by unfold roomy; simp at hl; omega), e1, Option.bind_some, if_pos (by rw [b2, hk, hq])]
   rfl
  ·simp only [ints, List.map_cons, List.map_nil, X.PM.tells, e2, Option.bind_some]
 | cons j P ih =>
  intro fuel S T k q l hp hk h ha hn hf hl
  obtain ⟨fuel, rfl⟩ : ∃ f, fuel = f + 1 := ⟨fuel - 1, by omega⟩
  simp only [List.length_cons] at hn hf hl
  obtain ⟨S1, T1, e1, e2, a1, a2, a3, a4, a5, a6, a7, a8, a9, a10, a11, a12, a13, a14⟩ := tell_both ha h.run h.views h.std h.few (by omega) 5 0 q
  obtain ⟨S1', T1', e1', e2', o1, b1, b2, b3, b4⟩ := tell_out h ha (by omega) 5 0 q
  rw [e1] at e1'; rw [e2] at e2'
  simp only [Option.some.injEq] at e1' e2'
  subst e1' e2'
  obtain ⟨hqk, hw, hp'⟩ := hp
  obtain ⟨S', T', r1, r2, r3, r4, r5, r6, r7, r8, r9, _⟩ := ih fuel S1 T1 k j (l ++ [(q : Int)]) (by rw [b1]; exact hp') (b2.trans hk) o1.core o1.acc (by rw [a7]; simp; omega) (by omega) (by simp; omega)
  refine ⟨S', T', ?_, ?_, (o1.trans r3).mono (Nat.le_refl _) (by simp; omega), r4.trans b1, r5.trans b2, r6.trans b3, r7.trans b4, r8.trans a8, by rw [r9, a7]; simp; omega, fun n kk st e en ek => ?_⟩
  ·unfold PM.ringing
   rw [if_pos (by unfold roomy; omega), e1, Option.bind_some, if_neg (by rw [b2, hk]; omega), b1, hw]
   simp only
   rw [r1]
   simp [ints]
  ·have e : ints (q :: j :: P) = (q : Int) :: ints (j :: P) := rfl
   rw [e]
   simp only [X.PM.tells, e2, Option.bind_some]
   exact r2
  ·obtain ⟨st', f1, f2, _⟩ := r3.hk.2 _ kk _ (a14.2 n kk st e en ek) rfl
   rw [f1, f2 (by rw [a7]; simp; omega)]

theorem ringBack_chain {tasks : List X.PTk} {n : Nat} : ∀ (a : List Nat) (b : List Nat) (fuel k : Nat) (c : List Nat), k :: c = a ++ n :: b → n ∉ a → a.length < fuel → (∀ (i j : Nat), (∃ x y : List Nat, a ++ n :: b = x ++ i :: j :: y) → ∃ u, tasks[i]? = some u ∧ u.waiter = (j : Int)) →
  X.ringBack tasks n fuel k = some (ints a) := by
 intro a
 induction a with
 | nil =>
  intro b fuel k c he hn hf hw
  obtain ⟨fuel, rfl⟩ : ∃ f, fuel = f + 1 := ⟨fuel - 1, by omega⟩
  rw [List.nil_append] at he
  simp only [List.cons.injEq] at he
  unfold X.ringBack
  rw [if_pos (by rw [he.1])]; rfl
 | cons x a ih =>
  intro b fuel k c he hn hf hw
  obtain ⟨fuel, rfl⟩ : ∃ f, fuel = f + 1 := ⟨fuel - 1, by omega⟩
  rw [List.cons_append] at he
  simp only [List.cons.injEq] at he
  obtain ⟨rfl, he⟩ := he
  simp only [List.mem_cons, not_or] at hn
  simp only [List.length_cons] at hf
  obtain ⟨j, d, hjd⟩ : ∃ j d, a ++ n :: b = j :: d := by
   cases a with
   | nil => exact ⟨n, b, rfl⟩
   | cons y a => exact ⟨y, a ++ n :: b, rfl⟩
  obtain ⟨u, hu, huw⟩ := hw k j ⟨[], d, by rw [List.cons_append, hjd]; rfl⟩
  unfold X.ringBack
  rw [if_neg (by omega)]
  have hi : idx tasks (k : Int) = some u := by unfold idx; rw [if_pos (by omega), Int.toNat_natCast]; exact hu
  rw [hi, Option.bind_some, huw, ih b fuel j d hjd.symm hn.2 (by omega) fun i j' ⟨x, y, e⟩ => hw i j' ⟨k :: x, y, by rw [List.cons_append, e]; rfl⟩]
  rfl

/-! ### Both machines: the task that a register names. -/

theorem nodup_len : ∀ (N : Nat) (l : List Nat), l.Nodup → (∀ i ∈ l, i < N) → l.length ≤ N := by
 intro N
 induction N with
 | zero =>
  intro l _ h
  cases l with
  | nil => exact Nat.le_refl _
  | cons a l => exact absurd (h a (by simp)) (by omega)
 | succ N ih =>
  intro l hn h
  by_cases hm : N ∈ l
  ·have h1 := ih (l.erase N) (hn.erase N) fun i hi => by
    have := (hn.mem_erase_iff).1 hi
    have := h i this.2
    omega
   rw [List.length_erase, if_pos hm] at h1
   have : 0 < l.length := List.length_pos_of_mem hm
   omega
  ·exact Nat.le_succ_of_le (ih l hn fun i hi => by
    have := h i hi
    have : i ≠ N := fun e => hm (e ▸ hi)
    omega)

theorem Ch.lt {sw : List (Int × Int)} : ∀ {c : List Nat}, Ch sw c → ∀ i ∈ c, i < sw.length
 | [], h, i, hi => by cases hi
 | [k], ⟨_, s, e⟩, i, hi => by
  simp only [List.mem_singleton] at hi
  subst hi
  exact (List.getElem?_eq_some_iff.1 e).1
 | k :: j :: c, ⟨⟨s, e⟩, h⟩, i, hi => by
  rcases List.mem_cons.1 hi with hi | hi
  ·subst hi; exact (List.getElem?_eq_some_iff.1 e).1
  ·exact Ch.lt h i hi

theorem Ch.mid {sw : List (Int × Int)} {j n : Nat} {b : List Nat} : ∀ {a : List Nat}, Ch sw (a ++ j :: n :: b) → ∃ s, sw[j]? = some (s, (n : Int))
 | [], h => h.1
 | [x], h => h.2.1
 | x :: y :: a, h => Ch.mid (a := y :: a) h.2

theorem tell_withR {S : PM} {R : List PRing} {kind how num : Int} : PM.tell { S with rings := R } kind how num = (S.tell kind how num).map fun S => { S with rings := R } := by
 rcases S with ⟨a1, a2, a3, a4, a5, a6, a7, a8, a9, a10, hook, a12⟩
 unfold PM.tell PM.hooked
 simp only
 split
 ·cases hook <;> rfl
 ·rfl

theorem ringing_rings : ∀ (fuel : Nat) (S : PM) (q : Int) (l : List Int) (R : List PRing), PM.ringing fuel { S with rings := R } q l = (PM.ringing fuel S q l).map fun x => ({ x.1 with rings := R }, x.2) := by
 intro fuel
 induction fuel with
 | zero => intro S q l R; rfl
 | succ fuel ih =>
  intro S q l R
  unfold PM.ringing
  split
  ·rw [tell_withR]
   cases S.tell 5 0 q with
   | none => rfl
   | some S1 =>
    simp only [Option.map_some, Option.bind_some]
    split
    ·rfl
    ·exact ih S1 _ _ R
  ·rfl

theorem idx_nat {α : Type} {l : List α} {n : Nat} {x : α} (h : l[n]? = some x) : idx l (n : Int) = some x := by unfold idx; rw [if_pos (by omega), Int.toNat_natCast]; exact h

theorem reg_some {t : PTk} {a : Int} (hl : t.regs.length = 4) (ha : 0 ≤ a ∧ a < 4) : ∃ v, t.reg a = some v := by
 refine ⟨t.regs[a.toNat]'(by omega), ?_⟩
 unfold PTk.reg; rw [if_pos ha]; exact List.getElem?_eq_getElem _
theorem reg_eq {t : PTk} {u : X.PTk} (h : u.regs = t.regs) (a : Int) : u.reg a = t.reg a := by unfold X.PTk.reg PTk.reg; rw [h]

/-- The task that a register names: it can go on, or there is an error. -/
theorem may_out {p : PPlan} {S : PM} {T : X.PM} (h : Core p S T) (ha : Acc S T) (hlive : T.over = false) (hb : S.recs.length ≤ 600000 ∧ S.rings.length ≤ 600000 ∧ S.wt ≤ 500001) (hl : ∀ t f r, S.now = some t → t.frames = f :: r → f.leaving = false)
  {t : PTk} (hn : S.now = some t) {r n : Int} (hr : t.reg r = some n) :
  (∃ (m : Nat) (t2 : PTk), n = m ∧ S.tasks[m]? = some t2 ∧ (t2.state = 0 ∨ t2.state = 1) ∧ S.may n = some (true, S) ∧ T.other r = some (n, T)) ∨
  (∃ S' T', S.may n = some (false, S') ∧ T.other r = some (-1, T') ∧ Two p S S' T' 0 70) := by
 obtain ⟨k, c, t', u, hk, hc, ht, hu, htu, hst, hfl, n1, n2, i1, i2⟩ := h.now hb.2.2
 rw [hn] at n1
 obtain rfl := Option.some.inj n1
 have hru : u.reg r = some n := by rw [reg_eq htu.regs]; exact hr
 unfold X.PM.other PM.may
 rw [i2, Option.bind_some, hru, Option.bind_some]
 by_cases hout : n < 0 ∨ n ≥ (T.tasks.length : Int)
 ·obtain ⟨S', T', e1, e2, o⟩ := fail_out h ha (by omega) hb.2.2 hl (-12)
  have ho : S.other n = false := by
   unfold PM.other
   rw [h.len] at hout
   rcases hout with hh | hh
   ·rw [decide_eq_false (by omega)]; rfl
   ·rw [decide_eq_false (show ¬ n < (S.tasks.length : Int) by omega), Bool.and_false]
  rw [if_pos hout, if_pos ho, e1, e2]
  exact .inr ⟨S', T', rfl, rfl, o.mono (Nat.le_refl _) (by omega)⟩
 ·rw [if_neg hout]
  rw [h.len] at hout
  obtain ⟨m, rfl⟩ : ∃ m : Nat, n = m := ⟨n.toNat, by omega⟩
  have ho : S.other (m : Int) = true := by
   unfold PM.other
   rw [decide_eq_true (by omega), decide_eq_true (show (m : Int) < (S.tasks.length : Int) by omega)]; rfl
  have hm : S.tasks[m]? = some S.tasks[m] := List.getElem?_eq_getElem (by omega)
  obtain ⟨u2, hu2, htu2⟩ := h.tk m _ hm
  generalize S.tasks[m] = t2 at hm htu2
  rw [if_neg (by rw [ho]; simp), idx_nat hm, Option.bind_some, idx_nat hu2, Option.bind_some, htu2.state]
  by_cases h01 : t2.state = 0 ∨ t2.state = 1
  ·rw [if_pos h01, if_pos h01]
   exact .inl ⟨m, t2, rfl, hm, h01, rfl, rfl⟩
  rw [if_neg h01, if_neg h01]
  by_cases h4 : t2.state = 4
  ·obtain ⟨S', T', e1, e2, o⟩ := fail_out h ha (by omega) hb.2.2 hl (-10)
   rw [if_neg (by simpa using h4), if_neg (by simpa using h4), e1, e2]
   exact .inr ⟨S', T', rfl, rfl, o.mono (Nat.le_refl _) (by omega)⟩
  ·rw [if_pos h4, if_pos h4]
   have hmem := hc.mem (sw_get hm) (fun e => h01 (.inl e)) (fun e => h01 (.inr e)) h4
   obtain ⟨a, b, hab⟩ := List.append_of_mem hmem
   have hnd := hc.nodup
   rw [hab] at hnd
   have hna : m ∉ a := by
    intro hh
    have := (List.nodup_append.1 hnd).2.2 m hh m (by simp)
    exact this rfl
   have hlt := hc.ch.lt
   have hlen : (k :: c).length ≤ S.tasks.length := by
    have := nodup_len S.sw.length _ hc.nodup hlt
    unfold PM.sw at this
    simpa using this
   have hal : a.length < S.tasks.length := by
    rw [hab] at hlen; simp at hlen; omega
   have hpath := hc.path a.length a m b rfl hab
   have hch := hc.ch
   rw [hab] at hch
   have hback : X.ringBack T.tasks m (T.tasks.length + 1) k = some (ints a) :=
    ringBack_chain a b (T.tasks.length + 1) k c hab hna (by rw [h.len]; omega) fun i j ⟨x, y, e⟩ => by
     rw [e] at hch
     obtain ⟨s, hs⟩ := hch.mid
     unfold PM.sw at hs
     rw [List.getElem?_map] at hs
     obtain ⟨ti, hti, e⟩ := Option.map_eq_some_iff.1 hs
     simp only [Prod.mk.injEq] at e
     obtain ⟨ui, hui, htui⟩ := h.tk i ti hti
     exact ⟨ui, hui, htui.waiter.trans e.2⟩
   have hring : T.ring m = some (ints (m :: a.reverse)) := by
    unfold X.PM.ring
    rw [h.run, hk, hback, Option.map_some]
    simp only [ints, List.map_cons, List.map_reverse]
   cases ha with
   | dead d1 _ _ => rw [hlive] at d1; cases d1
   | live c1 c2 c3 c4 c5 c6 c7 c8 c9 c10 c11 c12 =>
    have hfew := h.few
    have hR : ∃ R, R = S.rings ++ [(⟨S.recs.length, ints (m :: a.reverse)⟩ : PRing)] := ⟨_, rfl⟩
    obtain ⟨R, hR⟩ := hR
    have hS0 : Core p { S with rings := R } { T with rings := R } := ⟨h.run, h.len, h.tk, h.chain, h.few⟩
    have hA0 : Acc { S with rings := R } { T with rings := R } := .live c1 c2 c3 c4 c5 rfl c7 c8 c9 c10 c11 c12
    obtain ⟨S', T', r1, r2, r3, r4, r5, r6, r7, r8, r9, r10⟩ := ringing_out (p := p) a.reverse (S.tasks.length + 1) { S with rings := R } { T with rings := R } k m [] hpath hk hS0 hA0 (by simp; omega) (by simp; omega) (by simp; omega)
    rw [ringing_rings] at r1
    obtain ⟨⟨x1, x2⟩, q1, q2⟩ := Option.map_eq_some_iff.1 r1
    simp only [Prod.mk.injEq, List.nil_append] at q2
    obtain ⟨q2, rfl⟩ := q2
    have hxr : x1.rings = S.rings := by
     have e := ringing_rings (S.tasks.length + 1) S m [] S.rings
     have e' : ({ S with rings := S.rings } : PM) = S := rfl
     rw [e', q1, Option.map_some] at e
     have := congrArg (fun (o : Option (PM × List Int)) => o.map fun z => z.1.rings) e
     simpa using this
    have hsame : ∀ (z : PTk), S'.now = some z → S.now = some z := by
     intro z hz
     unfold PM.now at hz ⊢
     rw [r4, r5] at hz
     exact hz
    have hw3 := r3.wt
    obtain ⟨S'', T'', e1, e2, o⟩ := fail_out r3.core r3.acc (by rw [r9]; simp; omega) (by have : ({ S with rings := R } : PM).wt = S.wt := rfl; omega) (fun z f r hz hf => hl z f r (hsame z hz) hf) (-10)
    refine .inr ⟨S'', T'', ?_, ?_, ?_⟩
    ·rw [q1, Option.bind_some]
     simp only
     rw [if_pos (by rw [hxr]; unfold roomy; omega), hxr, ← hR, q2, e1]
     rfl
    ·have hTR : T.rings ++ [(⟨T.recs.length, ints (m :: a.reverse)⟩ : PRing)] = R := by rw [c5, c6, hR]
     rw [hring, Option.bind_some, if_pos ⟨by simp [ints]; unfold roomy; omega, by rw [c6]; unfold roomy; omega⟩, hTR, r2, Option.bind_some, e2]
     rfl
    ·have ot := r3.trans o
     refine ⟨ot.core, ot.acc, ⟨ot.hk.1, fun n kk st e en => ?_⟩, ot.used, ot.left, ot.over, ?_, ?_⟩
     ·obtain ⟨st', f1, f2, f3, f4, f5, f6⟩ := ot.hk.2 n kk st e en
      refine ⟨st', f1, f2, f3, f4, f5, fun r hr => ?_⟩
      rcases f6 r hr with h1 | h1
      ·have h1' : r ∈ R := h1
       rw [hR] at h1'
       simp only [List.mem_append, List.mem_singleton] at h1'
       rcases h1' with h2 | rfl
       ·exact .inl h2
       ·refine .inr ⟨by simp only; omega, ?_, fun hk2 => ?_⟩
        ·obtain ⟨st1, g1, _⟩ := r3.hk.2 n kk st e en
         obtain ⟨_, _, _, g3, _⟩ := o.hk.2 _ kk st1 g1 rfl
         simp only at r9 ⊢
         omega
        ·have g1 := r10 n kk st e en (by simp only at hk2; omega)
         obtain ⟨st2, g2, g3, _⟩ := o.hk.2 _ kk _ g1 rfl
         have g4 := g3 (by simp only at r9 hk2; omega)
         rw [f1] at g2
         have g5 : st' = st2 := by simpa using g2
         rw [g5, g4]
         exact ⟨k, m, a, b, c, hk, rfl, hab, by rw [show ({ S with rings := R } : PM).stand = S.stand from rfl, stand_sw]; exact hc⟩
      ·exact .inr h1
     ·have := ot.wt
      have e : ({ S with rings := R } : PM).wt = S.wt := rfl
      omega
     ·have := ot.phi
      have e : ({ S with rings := R } : PM).phi = S.phi + 1 := by unfold PM.phi PM.wt; simp only [hR]; simp; omega
      simp only [List.length_reverse] at this
      have := h.few
      omega

/-- Two tasks change on both sides. -/
theorem Core.two {p : PPlan} {S S' : PM} {T T' : X.PM} (h : Core p S T) {k n : Nat} (hkn : k ≠ n) {t' t2' : PTk} {u' u2' : X.PTk} (hk : k < S.tasks.length) (hn : n < S.tasks.length)
  (hS : S'.tasks = (S.tasks.set k t').set n t2') (hT : T'.tasks = (T.tasks.set k u').set n u2') (hu : TR p t' u') (hu2 : TR p t2' u2') (hrun : T'.run = S'.run) (hc : ∃ (k : Nat) (c : List Nat), S'.run = k ∧ Chn S'.sw k c) : Core p S' T' := by
 refine ⟨hrun, by rw [hS, hT]; simp only [List.length_set, h.len], fun i t ht => ?_, hc, by rw [hS]; simp only [List.length_set]; exact h.few⟩
 rw [hS, set_get (by rw [List.length_set]; exact hn), set_get hk] at ht
 rw [hT, set_get (by rw [List.length_set, h.len]; exact hn), set_get (by rw [h.len]; exact hk)]
 by_cases hin : i = n
 ·rw [if_pos hin] at ht ⊢
  simp only [Option.some.injEq] at ht
  subst ht
  exact ⟨u2', rfl, hu2⟩
 ·rw [if_neg hin] at ht ⊢
  by_cases hik : i = k
  ·rw [if_pos hik] at ht ⊢
   simp only [Option.some.injEq] at ht
   subst ht
   exact ⟨u', rfl, hu⟩
  ·rw [if_neg hik] at ht ⊢
   exact h.tk i t ht

theorem views_two {S S' : PM} {T T' : X.PM} (hl : T.tasks.length = S.tasks.length) (h : T.tasks.map X.PTk.view = S.tasks.map PTk.view) {k n : Nat} {t' t2' : PTk} {u' u2' : X.PTk}
  (hS : S'.tasks = (S.tasks.set k t').set n t2') (hT : T'.tasks = (T.tasks.set k u').set n u2') (hu : u'.view = t'.view) (hu2 : u2'.view = t2'.view) : T'.tasks.map X.PTk.view = S'.tasks.map PTk.view := by
 rw [hS, hT, List.map_set, List.map_set, List.map_set, List.map_set, h, hu, hu2]

/-! ### Both machines: a task goes on, gives way, is given up. -/

theorem wt_two {S S' : PM} {k n : Nat} (hkn : k ≠ n) {t t2 t1 t3 : PTk} (ht : S.tasks[k]? = some t) (ht2 : S.tasks[n]? = some t2) (hS : S'.tasks = (S.tasks.set k t1).set n t3) :
  S'.wt + wts t.frames + wts t2.frames = S.wt + wts t1.frames + wts t3.frames := by
 unfold PM.wt
 rw [hS, List.map_set, List.map_set]
 have e1 : (S.tasks.map fun t => wts t.frames)[k]? = some (wts t.frames) := by rw [List.getElem?_map, ht]; rfl
 have e2 : ((S.tasks.map fun t => wts t.frames).set k (wts t1.frames))[n]? = some (wts t2.frames) := by
  rw [List.getElem?_set_ne hkn, List.getElem?_map, ht2]; rfl
 have s1 := sum_set (x := wts t1.frames) e1
 have s2 := sum_set (x := wts t3.frames) e2
 omega

/-- The turn goes from one task to another: both machines tell it. -/
theorem two_tell {p : PPlan} {S : PM} {T : X.PM} (h : Core p S T) (ha : Acc S T) (hn : S.recs.length ≤ 1000000) {k n : Nat} {t1 t2x : PTk} {u1 u2x : X.PTk} (hv1 : u1.view = t1.view) (hv2 : u2x.view = t2x.view) (run' : Int) (how : Int) {Sx : PM} {Tx : X.PM}
  (hS : Sx.tasks = (S.tasks.set k t1).set n t2x) (hT : Tx.tasks = (T.tasks.set k u1).set n u2x) (hrS : Sx.run = run') (hrT : Tx.run = run') (hsS : SameRest S Sx) (hsT : SameRestX T Tx)
  (hch : ∃ (q : Nat) (c : List Nat), run' = q ∧ Chn ((S.sw.set k (t1.state, t1.waiter)).set n (t2x.state, t2x.waiter)) q c) (hd1 : t1.regs.length = 4 ∧ (t1.state = 4 → t1.frames = [])) (hd2 : t2x.regs.length = 4 ∧ (t2x.state = 4 → t2x.frames = [])) :
  ∃ S2 T2, Sx.tell 2 how 0 = some S2 ∧ Tx.tell 2 how 0 = some T2 ∧ S2.tasks = Sx.tasks ∧ T2.tasks = Tx.tasks ∧ S2.run = run' ∧ T2.run = run' ∧ Acc S2 T2 ∧ Hk S S2 ∧ S2.used = S.used ∧ S2.left = S.left ∧ S2.over = S.over ∧
   S2.recs.length = S.recs.length + 1 ∧ S2.rings = S.rings := by
 obtain ⟨b1, b2, b3, b4, b5, b6, b7, b8, b9⟩ := hsS
 have hall : ∀ t ∈ Sx.tasks, t.regs.length = 4 ∧ (t.state = 4 → t.frames = []) := fun t ht => by
  rw [hS] at ht
  rcases List.mem_or_eq_of_mem_set ht with ht | rfl
  ·rcases List.mem_or_eq_of_mem_set ht with ht | rfl
   ·obtain ⟨i, hi⟩ := List.getElem?_of_mem ht
    obtain ⟨u, _, hu⟩ := h.tk i t hi
    exact ⟨hu.len, hu.done⟩
   ·exact hd1
  ·exact hd2
 have hstd : Std Sx.stand := by
  refine ⟨rfl, by simp only [PM.stand, List.length_map, hS, List.length_set]; exact h.few, fun v hv => ?_, fun v hv e => ?_, ?_⟩
  ·obtain ⟨t, ht, rfl⟩ := List.mem_map.1 hv
   exact (hall t ht).1
  ·obtain ⟨t, ht, rfl⟩ := List.mem_map.1 hv
   simp only [PTk.view] at e ⊢
   rw [(hall t ht).2 e]; rfl
  ·obtain ⟨q, c, hq, hc⟩ := hch
   refine ⟨q, c, hrS.trans hq, ?_⟩
   rw [stand_sw]
   unfold PM.sw at hc ⊢
   rw [hS, List.map_set, List.map_set]; exact hc
 obtain ⟨S2, T2, e1, e2, a1, a2, a3, a4, a5, a6, a7, a8, a9, a10, a11, a12, a13, a14⟩ := tell_both (ha.same ⟨b1, b2, b3, b4, b5, b6, b7, b8, b9⟩ hsT) (hrT.trans hrS.symm) (views_two h.len h.views hS hT hv1 hv2) hstd
  (by rw [hS]; simp only [List.length_set]; exact h.few) (by rw [b4]; exact hn) 2 how 0
 exact ⟨S2, T2, e1, e2, a3, a5, a4.trans hrS, a6.trans hrT, a1, (Hk.refl b8 b4 b9).trans a2, a9.trans b2, a10.trans b1, a12.trans b7, by rw [a7, b4]; simp, a8.trans b9⟩

theorem two_fin {p : PPlan} {S : PM} {T : X.PM} (h : Core p S T) {k n : Nat} (hkn : k ≠ n) {t t2 t1 t3 : PTk} {u1 u3 : X.PTk} (ht : S.tasks[k]? = some t) (ht2 : S.tasks[n]? = some t2) (hu1 : TR p t1 u1) (hu3 : TR p t3 u3) {S2 S' : PM} {T2 T' : X.PM}
  (acc2 : Acc S2 T2) (hk2 : Hk S S2) (q1 : S2.used = S.used) (q2 : S2.left = S.left) (q3 : S2.over = S.over) (q4 : S2.recs.length = S.recs.length + 1) (q5 : S2.rings = S.rings) (hS : S'.tasks = (S.tasks.set k t1).set n t3) (hT : T'.tasks = (T.tasks.set k u1).set n u3)
  (hs : SameRest S2 S') (hx : SameRestX T2 T') {run' : Nat} {c : List Nat} (hrun : S'.run = run') (hrunT : T'.run = run') (hch : Chn ((S.sw.set k (t1.state, t1.waiter)).set n (t3.state, t3.waiter)) run' c)
  {w : Nat} (hw : wts t1.frames + wts t3.frames ≤ wts t.frames + wts t2.frames + w) : Two p S S' T' w (w + 1) := by
 obtain ⟨b1, b2, b3, b4, b5, b6, b7, b8, b9⟩ := hs
 have hwt := wt_two hkn ht ht2 hS
 refine ⟨h.two hkn (List.getElem?_eq_some_iff.1 ht).1 (List.getElem?_eq_some_iff.1 ht2).1 hS hT hu1 hu3 (hrunT.trans hrun.symm) ⟨run', c, hrun, ?_⟩, acc2.same ⟨b1, b2, b3, b4, b5, b6, b7, b8, b9⟩ hx, hk2.trans (Hk.refl b8 b4 b9), b2.trans q1, b1.trans q2, b7.trans q3, by omega, ?_⟩
 ·unfold PM.sw at hch ⊢
  rw [hS, List.map_set, List.map_set]; exact hch
 ·unfold PM.phi; rw [b4, b9, q4, q5]; omega

theorem setReg_eq {t : PTk} {a v : Int} (ha : 0 ≤ a ∧ a < 4) : t.setReg a v = some { t with regs := t.regs.set a.toNat v } := by unfold PTk.setReg; rw [if_pos ha]
theorem setRegX_eq {t : X.PTk} {a v : Int} (ha : 0 ≤ a ∧ a < 4) : t.setReg a v = some { t with regs := t.regs.set a.toNat v } := by unfold X.PTk.setReg; rw [if_pos ha]

/-- A body begins. -/
theorem FS.begin {p : PPlan} (hg : Good p) {l : List PStep} {b : Int} (hl : idx p b = some l) : FS l none [⟨0, -1, 0, l.length, [], false, 0, 0⟩] [⟨0, 0, 0, l.length, [], false, 0, 0⟩] := by
 have hm : l ∈ p := by
  unfold idx at hl
  split at hl
  ·exact List.mem_of_getElem? hl
  ·cases hl
 exact ⟨_, rfl, ⟨rfl, rfl, rfl, rfl, rfl, fun _ => rfl, .inl rfl, fun _ => by simp, fun _ => ⟨rfl, rfl, 0, l.length, rfl, rfl, by omega, Nat.le_refl _, hg.inn l hm, rfl⟩, fun h hh => by cases hh⟩, rfl⟩

theorem resume_out {p : PPlan} (hg : Good p) {S : PM} {T : X.PM} (h : Core p S T) (ha : Acc S T) (hlive : T.over = false) (hb : S.recs.length ≤ 600000 ∧ S.rings.length ≤ 600000 ∧ S.wt ≤ 500001) (hl : ∀ t f r, S.now = some t → t.frames = f :: r → f.leaving = false)
  {x : PStep} (hxa : 0 ≤ x.a ∧ x.a < 4) (hxb : 0 ≤ x.b ∧ x.b < 4) : ∃ S' T', S.resume p x = some S' ∧ T.resume p x = some T' ∧ Two p S S' T' 1 70 := by
 obtain ⟨k, c, t, u, hk, hc, ht, hu, htu, hst, hfl, n1, n2, i1, i2⟩ := h.now hb.2.2
 obtain ⟨n, hn⟩ := reg_some htu.len hxb
 unfold PM.resume X.PM.resume
 rw [n1, Option.bind_some, hn, Option.bind_some]
 rcases may_out h ha hlive hb hl n1 hn with ⟨m, t2, rfl, hm, h01, e1, e2⟩ | ⟨S', T', e1, e2, o⟩
 ·obtain ⟨u2, hu2, htu2⟩ := h.tk m t2 hm
  have hkm : k ≠ m := by intro e; subst e; rw [ht] at hm; simp only [Option.some.injEq] at hm; subst hm; omega
  obtain ⟨v, hv⟩ := reg_some htu.len hxa
  have hvu : u.reg x.a = some v := by rw [reg_eq htu.regs]; exact hv
  have htr1 : TR p { t with state := 3, ask := x } { u with into := x.a, state := 3 } := by
   refine ⟨htu.body, rfl, htu.regs, htu.waiter, htu.kept, htu.begun, htu.drops, htu.drop, rfl, fun _ => htu.given (by omega), htu.len, hxa, htu.drop0, .inr (.inr ⟨.inr (.inr rfl), ?_⟩), htu.bodyok, fun e => by simp at e, fun e => .inr ((htu.gw e).resolve_left (by omega))⟩
   rcases htu.st with ⟨e, _⟩ | ⟨e, _⟩ | ⟨_, h3⟩
   ·omega
   ·omega
   ·exact h3
  have hchn : Chn ((S.sw.set k (3, t.waiter)).set m (2, (k : Int))) m (k :: c) := hc.lend (sw_get hm) h01 (by rw [← hst]; exact sw_get ht)
  -- the turn
  obtain ⟨S2, T2, c1, c2, c3, c4, c5, c6, c7, c8, c9, c10, c11, c12, c13⟩ := two_tell h ha (by omega) (k := k) (n := m) (t1 := { t with state := 3, ask := x }) (t2x := { t2 with waiter := S.run, state := 2 })
   (u1 := { u with into := x.a, state := 3 }) (u2x := { u2 with waiter := T.run, state := 2 }) (by have := htr1.view; exact this)
   (by simp only [X.PTk.view, PTk.view, htu2.body, htu2.regs, htu2.kept, htu2.begun, htu2.frames, h.run]) m 1
   (Sx := { ((S.put S.run { t with state := 3, ask := x }).put m { t2 with waiter := S.run }).put m { t2 with waiter := S.run, state := 2 } with run := m })
   (Tx := { ((T.put T.run { u with into := x.a }).put T.run { u with into := x.a, state := 3 }).put m { u2 with waiter := T.run, state := 2 } with run := m })
   (by simp only [PM.put, Int.toNat_natCast, hk, List.set_set]) (by simp only [X.PM.put, Int.toNat_natCast, h.run, hk, List.set_set]) rfl rfl ⟨rfl, rfl, rfl, rfl, rfl, rfl, rfl, rfl, rfl⟩ ⟨rfl, rfl, rfl, rfl, rfl, rfl, rfl, rfl, rfl, rfl⟩
   ⟨m, k :: c, rfl, by simp only [hk]; exact hchn⟩ ⟨htu.len, fun e => by simp at e⟩ ⟨htu2.len, fun e => by simp at e⟩
  have hS2 : S2.tasks = (S.tasks.set k { t with state := 3, ask := x }).set m { t2 with waiter := S.run, state := 2 } := by rw [c3]; simp only [PM.put, Int.toNat_natCast, hk, List.set_set]
  have hT2 : T2.tasks = (T.tasks.set k { u with into := x.a, state := 3 }).set m { u2 with waiter := T.run, state := 2 } := by rw [c4]; simp only [X.PM.put, Int.toNat_natCast, h.run, hk, List.set_set]
  have hlm : m < S.tasks.length := (List.getElem?_eq_some_iff.1 hm).1
  have hlk : k < S.tasks.length := (List.getElem?_eq_some_iff.1 ht).1
  have g1 : idx (S.put S.run { t with state := 3, ask := x }).tasks (m : Int) = some t2 := idx_nat (by rw [hk, put_get' ht, if_neg (fun e => hkm e.symm)]; exact hm)
  have g2 : idx ((S.put S.run { t with state := 3, ask := x }).put m { t2 with waiter := S.run }).tasks (m : Int) = some { t2 with waiter := S.run } := idx_nat (by
   have := put_get' (S := S.put S.run { t with state := 3, ask := x }) (i := m) (t' := { t2 with waiter := S.run }) (k := m) (t := t2) (by rw [hk, put_get' ht, if_neg (fun e => hkm e.symm)]; exact hm)
   rw [this, if_pos rfl])
  have g3 : idx S2.tasks (m : Int) = some { t2 with waiter := S.run, state := 2 } := idx_nat (by rw [hS2, set_get (by rw [List.length_set]; exact hlm), if_pos rfl])
  have x1 : idx (T.put T.run { u with into := x.a }).tasks (m : Int) = some u2 := idx_nat (by rw [h.run, hk, putX_get hu, if_neg (fun e => hkm e.symm)]; exact hu2)
  have x2 : idx (T.put T.run { u with into := x.a }).tasks (T.put T.run { u with into := x.a }).run = some { u with into := x.a } := by
   have : (T.put T.run { u with into := x.a }).run = (k : Int) := h.run.trans hk
   rw [this]; exact idx_nat (by rw [h.run, hk, putX_get hu, if_pos rfl])
  have x3 : idx ((T.put T.run { u with into := x.a }).put T.run { u with into := x.a, state := 3 }).tasks (m : Int) = some u2 := idx_nat (by
   rw [h.run, hk, putX_get (T := T.put (k : Int) { u with into := x.a }) (u := { u with into := x.a }) (by rw [putX_get hu, if_pos rfl]), if_neg (fun e => hkm e.symm), putX_get hu, if_neg (fun e => hkm e.symm)]; exact hu2)
  have x4 : idx T2.tasks (m : Int) = some { u2 with waiter := T.run, state := 2 } := idx_nat (by rw [hT2, set_get (by rw [List.length_set, h.len]; exact hlm), if_pos rfl])
  have hturn : PM.turn ((S.put S.run { t with state := 3, ask := x }).put m { t2 with waiter := S.run }) m 1 = some S2 := by
   unfold PM.turn; rw [g2, Option.bind_some]; exact c1
  have hlend : X.PM.lend (T.put T.run { u with into := x.a }) m 1 = some T2 := by
   unfold X.PM.lend
   rw [x2, Option.bind_some]
   try simp only
   have : (T.put T.run { u with into := x.a }).run = T.run := rfl
   rw [this, x3, Option.bind_some]; exact c2
  have hw3 : t2.state = 1 → n3 t2.frames = if t2.given = true then 1 else 0 := by
   intro e
   rcases htu2.st with ⟨e', _⟩ | ⟨e', _⟩ | ⟨_, _, _, _, h3⟩
   ·omega
   ·omega
   ·exact h3
  rw [e1, e2, Option.bind_some, Option.bind_some]
  simp only [Bool.true_eq_false, if_false]
  rw [if_neg (by omega), i1, i2, Option.bind_some, hv, Option.bind_some, idx_nat hm, idx_nat hu2, Option.bind_some, Option.bind_some, Option.bind_some, hvu, Option.bind_some]
  try simp only
  rw [g1, x1, Option.bind_some, Option.bind_some, hturn, hlend, Option.bind_some, Option.bind_some, htu2.state]
  by_cases h0 : t2.state = 0
  ·rw [if_pos h0, if_pos h0]
   rcases htu2.st with ⟨_, f1, f2, f3, f4⟩ | ⟨e', _⟩ | ⟨e', _⟩
   ·obtain ⟨l, hlb⟩ := htu2.bodyok
    have hst0 : S2.start p m = some (S2.put m { t2 with waiter := S.run, state := 2, frames := [⟨0, -1, 0, l.length, [], false, 0, 0⟩] }) := by
     unfold PM.start
     rw [g3, Option.bind_some, if_pos f1]
     have : ({ t2 with waiter := S.run, state := 2 } : PTk).steps p = some l := hlb
     rw [this]; rfl
    have g4 : idx (S2.put m { t2 with waiter := S.run, state := 2, frames := [⟨0, -1, 0, l.length, [], false, 0, 0⟩] }).tasks (m : Int) = some { t2 with waiter := S.run, state := 2, frames := [⟨0, -1, 0, l.length, [], false, 0, 0⟩] } :=
     idx_nat (by rw [put_get' (t := { t2 with waiter := S.run, state := 2 }) (by rw [hS2, set_get (by rw [List.length_set]; exact hlm), if_pos rfl]), if_pos rfl])
    rw [hst0, Option.bind_some, g4, Option.bind_some, setReg_eq (by omega), Option.map_some, x4, Option.bind_some, setRegX_eq (by omega), Option.bind_some]
    try simp only
    have hT2m : T2.tasks[m]? = some { u2 with waiter := T.run, state := 2 } := by rw [hT2, set_get (by rw [List.length_set, h.len]; exact hlm), if_pos rfl]
    have x5 : idx (T2.put m { u2 with waiter := T.run, state := 2, regs := u2.regs.set (0 : Int).toNat v }).tasks (T2.put m { u2 with waiter := T.run, state := 2, regs := u2.regs.set (0 : Int).toNat v }).run = some { u2 with waiter := T.run, state := 2, regs := u2.regs.set (0 : Int).toNat v } := by
     have : (T2.put m { u2 with waiter := T.run, state := 2, regs := u2.regs.set (0 : Int).toNat v }).run = (m : Int) := c6
     rw [this]; exact idx_nat (by rw [putX_get hT2m, if_pos rfl])
    have hsu : ({ u2 with waiter := T.run, state := 2, regs := u2.regs.set (0 : Int).toNat v } : X.PTk).steps p = some l := by
     unfold X.PTk.steps; simp only; rw [htu2.body]; exact hlb
    have hop : X.PM.opens (T2.put m { u2 with waiter := T.run, state := 2, regs := u2.regs.set (0 : Int).toNat v }) 0 0 0 l.length =
      some ((T2.put m { u2 with waiter := T.run, state := 2, regs := u2.regs.set (0 : Int).toNat v }).put (T2.put m { u2 with waiter := T.run, state := 2, regs := u2.regs.set (0 : Int).toNat v }).run
       { u2 with waiter := T.run, state := 2, regs := u2.regs.set (0 : Int).toNat v, frames := ⟨0, 0, 0, l.length, [], false, 0, 0⟩ :: u2.frames }) := by
     unfold X.PM.opens
     rw [x5, Option.bind_some, if_pos (by simp only [f2, List.length_nil]; unfold roomy; omega)]
    rw [x5, Option.bind_some, hsu, Option.bind_some, hop]
    refine ⟨_, _, rfl, rfl, Two.mono (w := 1) (c := 2) ?_ (Nat.le_refl _) (by omega)⟩
    refine (two_fin (c := k :: c) h hkm ht hm htr1 (t3 := { t2 with waiter := S.run, state := 2, frames := [⟨0, -1, 0, l.length, [], false, 0, 0⟩], regs := t2.regs.set (0 : Int).toNat v })
     (u3 := { u2 with waiter := T.run, state := 2, regs := u2.regs.set (0 : Int).toNat v, frames := ⟨0, 0, 0, l.length, [], false, 0, 0⟩ :: u2.frames }) ?_ c7 c8 c9 c10 c11 c12 c13 ?_ ?_ (by exact ⟨rfl, rfl, rfl, rfl, rfl, rfl, rfl, rfl, rfl⟩) (by exact ⟨rfl, rfl, rfl, rfl, rfl, rfl, rfl, rfl, rfl, rfl⟩) (by exact c5) (by exact c6) ?_ (w := 1) ?_)
    ·refine ⟨htu2.body, rfl, by simp only [htu2.regs], by simp only [h.run], htu2.kept, htu2.begun, htu2.drops, htu2.drop, htu2.into, fun _ => htu2.given (by omega), by simp only [List.length_set]; exact htu2.len, htu2.ask, htu2.drop0,
      .inr (.inr ⟨.inr (.inl rfl), l, hlb, ?_, ?_⟩), htu2.bodyok, fun e => by simp at e, fun _ => .inr (by simp only [hk]; omega)⟩
     ·simp only; rw [f2]; exact FS.begin hg hlb
     ·simp only; rw [f3]; rfl
    ·simp only [PM.put, Int.toNat_natCast, hS2, List.set_set]
    ·have e : (T2.put m { u2 with waiter := T.run, state := 2, regs := u2.regs.set (0 : Int).toNat v }).run = (m : Int) := c6
     rw [e]
     simp only [X.PM.put, Int.toNat_natCast, hT2, List.set_set]
    ·simp only [hk]; exact hchn
    ·rw [f1]; simp only [wts, List.length_nil]; omega
   ·omega
   ·omega
  ·have h1 : t2.state = 1 := by omega
   rw [if_neg h0, if_neg h0, g3, x4, Option.bind_some, Option.bind_some]
   have hia : ({ u2 with waiter := T.run, state := 2 } : X.PTk).into = t2.ask.a := htu2.into
   try simp only
   rw [htu2.into, setReg_eq htu2.ask, setRegX_eq htu2.ask, Option.map_some, Option.map_some]
   refine ⟨_, _, rfl, rfl, Two.mono (w := 0) (c := 1) ?_ (by omega) (by omega)⟩
   refine (two_fin (c := k :: c) h hkm ht hm htr1 (t3 := { t2 with waiter := S.run, state := 2, regs := t2.regs.set t2.ask.a.toNat v })
     (u3 := { u2 with waiter := T.run, state := 2, regs := u2.regs.set t2.ask.a.toNat v }) ?_ c7 c8 c9 c10 c11 c12 c13 ?_ ?_ (by exact ⟨rfl, rfl, rfl, rfl, rfl, rfl, rfl, rfl, rfl⟩) (by exact ⟨rfl, rfl, rfl, rfl, rfl, rfl, rfl, rfl, rfl, rfl⟩) (by exact c5) (by exact c6) ?_ (w := 0) ?_)
   ·refine ⟨htu2.body, rfl, by simp only [htu2.regs], by simp only [h.run], htu2.kept, htu2.begun, htu2.drops, htu2.drop, htu2.into, fun _ => htu2.given (by omega), by simp only [List.length_set]; exact htu2.len, htu2.ask, htu2.drop0,
      .inr (.inr ⟨.inr (.inl rfl), ?_⟩), htu2.bodyok, fun e => by simp at e, fun _ => .inr (by simp only [hk]; omega)⟩
    rcases htu2.st with ⟨e', _⟩ | ⟨e', _⟩ | ⟨_, h3⟩
    ·omega
    ·omega
    ·exact h3
   ·simp only [PM.put, Int.toNat_natCast, hS2, List.set_set]
   ·simp only [X.PM.put, Int.toNat_natCast, hT2, List.set_set, htu2.into]
   ·simp only [hk]; exact hchn
   ·simp only; omega
 ·rw [e1, e2, Option.bind_some, Option.bind_some]
  simp only [if_true]
  rw [if_pos (by omega)]
  exact ⟨S', T', rfl, rfl, o.mono (by omega) (Nat.le_refl _)⟩

/-! ### Both machines: a task gives way, is given up. -/

/-- The turn goes back to the one who waits. -/
theorem hand_out {p : PPlan} {S : PM} {T : X.PM} (h : Core p S T) (ha : Acc S T) (hn : S.recs.length ≤ 1000000) {k : Nat} {c : List Nat} (hk : S.run = k) (hc : Chn S.sw k c) (hk0 : k ≠ 0) {t : PTk} {u : X.PTk} (ht : S.tasks[k]? = some t) (hu : T.tasks[k]? = some u)
  (htu : u.waiter = t.waiter) {t1 : PTk} {ua : X.PTk} {st : Int} (htr : TR p t1 { ua with state := st, waiter := -1 }) (hs1 : t1.state = st) (hst : st = 0 ∨ st = 1 ∨ st = 4) (hw1 : t1.waiter = -1) (hua : ua.waiter = u.waiter) {how v flag : Int}
  (hw : wts t1.frames ≤ wts t.frames) :
  ∃ S' T', ((PM.turn (S.put k t1) t.waiter how).bind fun S1 => (idx S1.tasks t.waiter).bind fun u => (u.setReg u.ask.a v).bind fun u => (u.setReg 3 flag).map fun u => S1.put t.waiter u) = some S' ∧ (∃ w, idx (S.put k t1).tasks t.waiter = some w) ∧
   X.PM.hand (T.put k ua) st how v flag = some T' ∧ Two p S S' T' 0 1 ∧ S'.wt + wts t.frames = S.wt + wts t1.frames ∧ S'.recs.length = S.recs.length + 1 ∧ S'.rings = S.rings := by
 obtain ⟨j, c', wj, rfl, hsk, hsj⟩ := hc.next hk0
 have htw : t.waiter = j := by
  have := sw_get ht
  rw [hsk] at this
  simp only [Option.some.injEq, Prod.mk.injEq] at this
  exact this.2.symm
 have hjt : ∃ tj, S.tasks[j]? = some tj ∧ tj.state = 3 ∧ tj.waiter = wj := by
  unfold PM.sw at hsj
  rw [List.getElem?_map] at hsj
  obtain ⟨tj, e1, e2⟩ := Option.map_eq_some_iff.1 hsj
  simp only [Prod.mk.injEq] at e2
  exact ⟨tj, e1, e2.1, e2.2⟩
 obtain ⟨tj, htj, hj3, hjw⟩ := hjt
 obtain ⟨uj, huj, htuj⟩ := h.tk j tj htj
 have hkj : k ≠ j := by
  intro e; subst e
  rw [hsk] at hsj
  simp at hsj
 have hlk : k < S.tasks.length := (List.getElem?_eq_some_iff.1 ht).1
 have hlj : j < S.tasks.length := (List.getElem?_eq_some_iff.1 htj).1
 have hkX : (T.put k ua).run = (k : Int) := h.run.trans hk
 obtain ⟨S2, T2, c1, c2, c3, c4, c5, c6, c7, c8, c9, c10, c11, c12, c13⟩ := two_tell h ha hn (k := k) (n := j) (t1 := t1) (t2x := { tj with state := 2 }) (u1 := { ua with state := st, waiter := -1 }) (u2x := { uj with state := 2 })
   (by have := htr.view; exact this) (by simp only [X.PTk.view, PTk.view, htuj.body, htuj.regs, htuj.kept, htuj.begun, htuj.frames, htuj.waiter]) j how
   (Sx := { (S.put k t1).put j { tj with state := 2 } with run := j })
   (Tx := ({ (T.put k ua).put k { ua with state := st, waiter := -1 } with run := j } : X.PM).put j { uj with state := 2 })
   (by simp only [PM.put, Int.toNat_natCast]) (by simp only [X.PM.put, Int.toNat_natCast, List.set_set]) rfl rfl ⟨rfl, rfl, rfl, rfl, rfl, rfl, rfl, rfl, rfl⟩ ⟨rfl, rfl, rfl, rfl, rfl, rfl, rfl, rfl, rfl, rfl⟩
   ⟨j, c', rfl, by simp only [hs1, hw1, hjw]; exact hc.hand hsj (by unfold PM.sw; rw [List.length_map]; exact hlk) hst⟩ ⟨htr.len, htr.done⟩ ⟨htuj.len, fun e => by simp at e⟩
 have hS2 : S2.tasks = (S.tasks.set k t1).set j { tj with state := 2 } := by rw [c3]; simp only [PM.put, Int.toNat_natCast]
 have hT2 : T2.tasks = (T.tasks.set k { ua with state := st, waiter := -1 }).set j { uj with state := 2 } := by rw [c4]; simp only [X.PM.put, Int.toNat_natCast, List.set_set]
 have g1 : idx (S.put k t1).tasks (j : Int) = some tj := idx_nat (by rw [put_get' ht, if_neg (fun e => hkj e.symm)]; exact htj)
 have g2 : idx S2.tasks (j : Int) = some { tj with state := 2 } := idx_nat (by rw [hS2, set_get (by rw [List.length_set]; exact hlj), if_pos rfl])
 have x0 : (T.put k ua).tasks[k]? = some ua := by rw [putX_get hu, if_pos rfl]
 have x1 : idx (T.put k ua).tasks (T.put k ua).run = some ua := by rw [hkX]; exact idx_nat x0
 have x2 : idx ((T.put k ua).put (T.put k ua).run { ua with state := st, waiter := -1 }).tasks (j : Int) = some uj := by
  rw [hkX]; exact idx_nat (by rw [putX_get x0, if_neg (fun e => hkj e.symm), putX_get hu, if_neg (fun e => hkj e.symm)]; exact huj)
 have x3 : idx T2.tasks (j : Int) = some { uj with state := 2 } := idx_nat (by rw [hT2, set_get (by rw [List.length_set, h.len]; exact hlj), if_pos rfl])
 have hwa : ua.waiter = j := by rw [hua, htu, htw]
 have hturn : PM.turn (S.put k t1) (j : Int) how = some S2 := by unfold PM.turn; rw [g1, Option.bind_some]; exact c1
 have h3r : (0 : Int) ≤ 3 ∧ (3 : Int) < 4 := by omega
 refine ⟨S2.put j { tj with state := 2, regs := (tj.regs.set tj.ask.a.toNat v).set (3 : Int).toNat flag }, T2.put j { uj with state := 2, regs := (uj.regs.set tj.ask.a.toNat v).set (3 : Int).toNat flag }, ?_, ⟨tj, by rw [htw]; exact g1⟩, ?_, ?_, ?_, c12, c13⟩
 ·rw [htw, hturn, Option.bind_some, g2, Option.bind_some, setReg_eq (by exact htuj.ask), Option.bind_some, setReg_eq h3r, Option.map_some]
 ·unfold X.PM.hand
  rw [x1, Option.bind_some]
  simp only [hwa]
  rw [x2, Option.bind_some]
  have e : X.PM.tell (({ (T.put k ua).put (T.put k ua).run { ua with state := st, waiter := -1 } with run := j } : X.PM).put j { uj with state := 2 }) 2 how 0 = some T2 := by rw [hkX]; exact c2
  rw [e, Option.bind_some, x3, Option.bind_some]
  try simp only
  rw [htuj.into, setRegX_eq htuj.ask, Option.bind_some, setRegX_eq h3r, Option.map_some]
 ·refine Two.mono (w := 0) (c := 0 + 1) ?_ (Nat.le_refl _) (by omega)
  refine two_fin (c := c') h hkj ht htj htr (t3 := { tj with state := 2, regs := (tj.regs.set tj.ask.a.toNat v).set (3 : Int).toNat flag }) (u3 := { uj with state := 2, regs := (uj.regs.set tj.ask.a.toNat v).set (3 : Int).toNat flag }) ?_ c7 c8 c9 c10 c11 c12 c13 ?_ ?_
   (by exact ⟨rfl, rfl, rfl, rfl, rfl, rfl, rfl, rfl, rfl⟩) (by exact ⟨rfl, rfl, rfl, rfl, rfl, rfl, rfl, rfl, rfl, rfl⟩) (by exact c5) (by exact c6) ?_ (w := 0) ?_
  ·refine ⟨htuj.body, rfl, by simp only [htuj.regs], htuj.waiter, htuj.kept, htuj.begun, htuj.drops, htuj.drop, htuj.into, fun _ => htuj.given (by omega), by simp only [List.length_set]; exact htuj.len, htuj.ask, htuj.drop0, .inr (.inr ⟨.inr (.inl rfl), ?_⟩), htuj.bodyok, fun e => by simp at e, fun e => .inr ((htuj.gw e).resolve_left (by omega))⟩
   rcases htuj.st with ⟨e', _⟩ | ⟨e', _⟩ | ⟨_, h3⟩
   ·omega
   ·omega
   ·exact h3
  ·simp only [PM.put, Int.toNat_natCast, hS2, List.set_set]
  ·simp only [X.PM.put, Int.toNat_natCast, hT2, List.set_set]
  ·simp only [hs1, hw1, hjw]; exact hc.hand hsj (by unfold PM.sw; rw [List.length_map]; exact hlk) hst
  ·simp only; omega
 ·have := wt_two hkj ht htj (S' := S2.put j { tj with state := 2, regs := (tj.regs.set tj.ask.a.toNat v).set (3 : Int).toNat flag }) (t1 := t1) (t3 := { tj with state := 2, regs := (tj.regs.set tj.ask.a.toNat v).set (3 : Int).toNat flag }) (by simp only [PM.put, Int.toNat_natCast, hS2, List.set_set])
  have e : wts ({ tj with state := 2, regs := (tj.regs.set tj.ask.a.toNat v).set (3 : Int).toNat flag } : PTk).frames = wts tj.frames := rfl
  rw [e] at this
  omega

theorem yield_out {p : PPlan} {S : PM} {T : X.PM} (h : Core p S T) (ha : Acc S T) (hb : S.recs.length ≤ 600000 ∧ S.rings.length ≤ 600000 ∧ S.wt ≤ 500001) (hl : ∀ t f r, S.now = some t → t.frames = f :: r → f.leaving = false)
  {x : PStep} (hxa : 0 ≤ x.a ∧ x.a < 4) : ∃ S' T', S.yield x = some S' ∧ T.yield x = some T' ∧ Two p S S' T' 1 70 := by
 obtain ⟨k, c, t, u, hk, hc, ht, hu, htu, hst, hfl, n1, n2, i1, i2⟩ := h.now hb.2.2
 unfold PM.yield X.PM.yield
 have hgv := htu.given (by omega)
 rw [n1, Option.bind_some, i2, Option.bind_some]
 by_cases hf : S.run = 0 ∨ t.given = true
 ·obtain ⟨S', T', e1, e2, o⟩ := fail_out h ha (by omega) hb.2.2 hl (-10)
  rw [if_pos hf, if_pos (by rw [h.run, hgv]; exact hf)]
  exact ⟨S', T', e1, e2, o.mono (by omega) (by omega)⟩
 ·rw [if_neg hf, if_neg (by rw [h.run, hgv]; exact hf)]
  obtain ⟨v, hv⟩ := reg_some htu.len hxa
  have hvu : u.reg x.a = some v := by rw [reg_eq htu.regs]; exact hv
  have hg : t.given = false := by
   have : ¬ t.given = true := fun e => hf (.inr e)
   simpa using this
  obtain ⟨S', T', e1, _, e2, o, _⟩ := hand_out h ha (by omega) hk hc (fun e => hf (.inl (by rw [hk, e]; rfl))) ht hu htu.waiter (t1 := { t with state := 1, ask := x, waiter := -1 }) (ua := { u with into := x.a }) (st := 1) (how := 2) (v := v) (flag := 1) (by
   refine ⟨htu.body, rfl, htu.regs, rfl, htu.kept, htu.begun, htu.drops, htu.drop, rfl, fun _ => hgv, htu.len, hxa, htu.drop0, .inr (.inr ⟨.inl rfl, ?_⟩), htu.bodyok, fun _ => hg, fun e => by simp only [hg] at e; cases e⟩
   rcases htu.st with ⟨e', _⟩ | ⟨e', _⟩ | ⟨_, h3⟩
   ·omega
   ·omega
   ·exact h3) rfl (by omega) rfl rfl (Nat.le_refl _)
  rw [hv, hvu, Option.bind_some, Option.bind_some, h.run, hk]
  exact ⟨S', T', e1, e2, o.mono (by omega) (by omega)⟩

theorem Chn.out {sw : List (Int × Int)} {k m : Nat} {c : List Nat} {w : Int} (h : Chn sw k c) (hm : sw[m]? = some (0, w)) : Chn (sw.set m (4, w)) k c := by
 have hlm : m < sw.length := (List.getElem?_eq_some_iff.1 hm).1
 have hmk : m ∉ k :: c := by
  intro hh
  have := h.st m _ _ hm
  rcases List.mem_cons.1 hh with e | e
  ·have := this.1 e; omega
  ·have := this.2.1 e; omega
 refine ⟨h.nodup, h.ch.frame fun i hi s w' e => ?_, fun i s w' e => ?_⟩
 ·have hin : i ≠ m := fun e => hmk (e ▸ hi)
  rw [set_get hlm, if_neg hin]; exact ⟨_, e⟩
 ·rw [set_get hlm] at e
  by_cases hin : i = m
  ·subst hin
   rw [if_pos rfl] at e
   simp only [Option.some.injEq, Prod.mk.injEq] at e
   refine ⟨fun hh => absurd (by simp [hh]) hmk, fun hh => absurd (List.mem_cons_of_mem _ hh) hmk, fun hh => ⟨by omega, ?_⟩⟩
   have := ((h.st i _ _ hm).2.2 hmk).2
   rw [← e.2]; exact this
  ·rw [if_neg hin] at e
   exact h.st i s w' e

theorem giveUp_out {p : PPlan} {S : PM} {T : X.PM} (h : Core p S T) (ha : Acc S T) (hlive : T.over = false) (hb : S.recs.length ≤ 600000 ∧ S.rings.length ≤ 600000 ∧ S.wt ≤ 500001) (hl : ∀ t f r, S.now = some t → t.frames = f :: r → f.leaving = false)
  {x : PStep} (hxa : 0 ≤ x.a ∧ x.a < 4) (hxb : 0 ≤ x.b ∧ x.b < 4) : ∃ S' T', S.giveUp x = some S' ∧ T.giveUp x = some T' ∧ Two p S S' T' 1 70 := by
 obtain ⟨k, c, t, u, hk, hc, ht, hu, htu, hst, hfl, n1, n2, i1, i2⟩ := h.now hb.2.2
 obtain ⟨n, hn⟩ := reg_some htu.len hxb
 unfold PM.giveUp X.PM.giveUp
 rw [n1, Option.bind_some, hn, Option.bind_some]
 rcases may_out h ha hlive hb hl n1 hn with ⟨m, t2, rfl, hm, h01, e1, e2⟩ | ⟨S', T', e1, e2, o⟩
 ·obtain ⟨u2, hu2, htu2⟩ := h.tk m t2 hm
  have hkm : k ≠ m := by intro e; subst e; rw [ht] at hm; simp only [Option.some.injEq] at hm; subst hm; omega
  have hlm : m < S.tasks.length := (List.getElem?_eq_some_iff.1 hm).1
  have hlk : k < S.tasks.length := (List.getElem?_eq_some_iff.1 ht).1
  rw [e1, e2, Option.bind_some, Option.bind_some]
  simp only [Bool.true_eq_false, if_false]
  rw [if_neg (by omega), idx_nat hm, idx_nat hu2, Option.bind_some, Option.bind_some, htu2.state]
  have h3r : (0 : Int) ≤ 3 ∧ (3 : Int) < 4 := by omega
  by_cases h0 : t2.state = 0
  ·rw [if_pos h0, if_pos h0]
   try simp only
   have g1 : idx (S.put m { t2 with state := 4 }).tasks S.run = some t := by rw [hk]; exact idx_nat (by rw [put_get' hm, if_neg hkm]; exact ht)
   have x1 : idx (T.put m { u2 with state := 4 }).tasks (T.put m { u2 with state := 4 }).run = some u := by
    have : (T.put m { u2 with state := 4 }).run = (k : Int) := h.run.trans hk
    rw [this]; exact idx_nat (by rw [putX_get hu2, if_neg hkm]; exact hu)
   rw [g1, x1, Option.bind_some, Option.bind_some, setReg_eq hxa, setRegX_eq hxa, Option.bind_some, Option.bind_some, setReg_eq h3r, setRegX_eq h3r, Option.map_some, Option.map_some]
   have hTr : (T.put m { u2 with state := 4 }).run = (k : Int) := h.run.trans hk
   have hSS : ((S.put m { t2 with state := 4 }).put S.run { t with regs := (t.regs.set x.a.toNat 0).set (3 : Int).toNat 1 }).tasks = (S.tasks.set m { t2 with state := 4 }).set k { t with regs := (t.regs.set x.a.toNat 0).set (3 : Int).toNat 1 } := by
    simp only [PM.put, Int.toNat_natCast, hk]
   have hwt := wt_two (fun e => hkm e.symm) hm ht hSS
   have hwa : wts ({ t2 with state := 4 } : PTk).frames = wts t2.frames := rfl
   have hwb : wts ({ t with regs := (t.regs.set x.a.toNat 0).set (3 : Int).toNat 1 } : PTk).frames = wts t.frames := rfl
   rw [hwa, hwb] at hwt
   have hle : PM.wt ((S.put m { t2 with state := 4 }).put S.run { t with regs := (t.regs.set x.a.toNat 0).set (3 : Int).toNat 1 }) ≤ S.wt := by omega
   refine ⟨_, _, rfl, rfl, ⟨?_, ha.same ⟨rfl, rfl, rfl, rfl, rfl, rfl, rfl, rfl, rfl⟩ ⟨rfl, rfl, rfl, rfl, rfl, rfl, rfl, rfl, rfl, rfl⟩, Hk.refl rfl rfl rfl, rfl, rfl, rfl, ?_, ?_⟩⟩
   ·refine h.two (fun e => hkm e.symm) hlm hlk hSS (u' := { u2 with state := 4 }) (u2' := { u with regs := (u.regs.set x.a.toNat 0).set (3 : Int).toNat 1 }) (by rw [hTr]; simp only [X.PM.put, Int.toNat_natCast]) ?_ ?_ (by exact h.run) ⟨k, c, hk, ?_⟩
    ·rcases htu2.st with ⟨_, f1, f2, f3, f4⟩ | ⟨e', _⟩ | ⟨e', _⟩
     ·exact ⟨htu2.body, rfl, htu2.regs, htu2.waiter, htu2.kept, htu2.begun, htu2.drops, htu2.drop, htu2.into, fun e => by simp at e, htu2.len, htu2.ask, htu2.drop0, .inr (.inl ⟨rfl, f1, f2⟩), htu2.bodyok, fun e => by simp at e, fun _ => .inl rfl⟩
     ·omega
     ·omega
    ·exact ⟨htu.body, htu.state, by simp only [htu.regs], htu.waiter, htu.kept, htu.begun, htu.drops, htu.drop, htu.into, htu.given, by simp only [List.length_set]; exact htu.len, htu.ask, htu.drop0, htu.st, htu.bodyok, htu.sus, htu.gw⟩
    ·have hs1 : S.sw[m]? = some (0, t2.waiter) := by rw [← h0]; exact sw_get hm
     have : PM.sw ((S.put m { t2 with state := 4 }).put S.run { t with regs := (t.regs.set x.a.toNat 0).set (3 : Int).toNat 1 }) = S.sw.set m (4, t2.waiter) := by
      rw [hk, put_sw_same (S := S.put m { t2 with state := 4 }) (k := k) (t := t) (t' := { t with regs := (t.regs.set x.a.toNat 0).set (3 : Int).toNat 1 }) (by rw [put_get' hm, if_neg hkm]; exact ht) rfl rfl, put_sw]
     rw [this]
     exact hc.out hs1
   ·exact Nat.le_trans hle (by omega)
   ·refine Nat.le_trans (m := S.recs.length + S.rings.length + S.wt) (Nat.add_le_add_left hle _) (by unfold PM.phi; omega)
  ·have h1 : t2.state = 1 := by omega
   rw [if_neg h0, if_neg h0]
   obtain ⟨l, f, r, g, s, hlb, hf, hgx, hfs, hn3⟩ := htu2.run (.inl h1)
   have hgf := htu2.sus h1
   rw [hgf] at hn3
   simp only [Bool.false_eq_true, if_false] at hn3
   obtain ⟨g', s', eg, ho⟩ := hfs.cons
   simp only [List.cons.injEq] at eg
   obtain ⟨rfl, rfl⟩ := eg
   have hfl2 : t2.frames.length ≤ 500001 := Nat.le_trans wts_len (Nat.le_trans (wts_le hm) hb.2.2)
   have htr1 : TR p { t with state := 3, ask := x } { u with into := x.a, state := 3 } := by
    refine ⟨htu.body, rfl, htu.regs, htu.waiter, htu.kept, htu.begun, htu.drops, htu.drop, rfl, fun _ => htu.given (by omega), htu.len, hxa, htu.drop0, .inr (.inr ⟨.inr (.inr rfl), ?_⟩), htu.bodyok, fun e => by simp at e, fun e => .inr ((htu.gw e).resolve_left (by omega))⟩
    rcases htu.st with ⟨e, _⟩ | ⟨e, _⟩ | ⟨_, h3⟩
    ·omega
    ·omega
    ·exact h3
   have hchn : Chn ((S.sw.set k (3, t.waiter)).set m (2, (k : Int))) m (k :: c) := hc.lend (sw_get hm) h01 (by rw [← hst]; exact sw_get ht)
   obtain ⟨S2, T2, c1, c2, c3, c4, c5, c6, c7, c8, c9, c10, c11, c12, c13⟩ := two_tell h ha (by omega) (k := k) (n := m) (t1 := { t with state := 3, ask := x }) (t2x := { t2 with waiter := S.run, given := true, frames := { f with leaving := true, way := 3 } :: r, state := 2 })
    (u1 := { u with into := x.a, state := 3 }) (u2x := { u2 with given := true, waiter := T.run, state := 2 }) (by have := htr1.view; exact this)
    (by
     have hl2 := htu2.frames
     rw [hf] at hl2
     simp only [List.length_cons] at hl2
     simp only [X.PTk.view, PTk.view, htu2.body, htu2.regs, htu2.kept, htu2.begun, hl2, h.run, List.length_cons]) m 5
    (Sx := { ((S.put S.run { t with state := 3, ask := x }).put m { t2 with waiter := S.run, given := true, frames := { f with leaving := true, way := 3 } :: r }).put m { t2 with waiter := S.run, given := true, frames := { f with leaving := true, way := 3 } :: r, state := 2 } with run := m })
    (Tx := { (((T.put T.run { u with into := x.a }).put m { u2 with given := true }).put T.run { u with into := x.a, state := 3 }).put m { u2 with given := true, waiter := T.run, state := 2 } with run := m })
    (by simp only [PM.put, Int.toNat_natCast, hk, List.set_set]) (by
     simp only [X.PM.put, Int.toNat_natCast, h.run, hk]
     rw [List.set_comm _ _ (show m ≠ k from fun e => hkm e.symm), List.set_set, List.set_set]) rfl rfl ⟨rfl, rfl, rfl, rfl, rfl, rfl, rfl, rfl, rfl⟩ ⟨rfl, rfl, rfl, rfl, rfl, rfl, rfl, rfl, rfl, rfl⟩
    ⟨m, k :: c, rfl, by simp only [hk]; exact hchn⟩ ⟨htu.len, fun e => by simp at e⟩ ⟨htu2.len, fun e => by simp at e⟩
   have hS2 : S2.tasks = (S.tasks.set k { t with state := 3, ask := x }).set m { t2 with waiter := S.run, given := true, frames := { f with leaving := true, way := 3 } :: r, state := 2 } := by rw [c3]; simp only [PM.put, Int.toNat_natCast, hk, List.set_set]
   have hT2 : T2.tasks = (T.tasks.set k { u with into := x.a, state := 3 }).set m { u2 with given := true, waiter := T.run, state := 2 } := by
    rw [c4]
    simp only [X.PM.put, Int.toNat_natCast, h.run, hk]
    rw [List.set_comm _ _ (show m ≠ k from fun e => hkm e.symm), List.set_set, List.set_set]
   have g0 : (S.put S.run { t with state := 3, ask := x }).tasks[m]? = some t2 := by rw [hk, put_get' ht, if_neg (fun e => hkm e.symm)]; exact hm
   have hot : (PTk.onTop ({ t2 with waiter := S.run, given := true } : PTk) fun f => { f with leaving := true, way := 3 }) = some { t2 with waiter := S.run, given := true, frames := { f with leaving := true, way := 3 } :: r } := by
    unfold PTk.onTop
    simp only [hf]
    rw [if_pos (by rw [← hf]; unfold roomy; omega)]
   have hturn : PM.turn ((S.put S.run { t with state := 3, ask := x }).put m { t2 with waiter := S.run, given := true, frames := { f with leaving := true, way := 3 } :: r }) m 5 = some S2 := by
    unfold PM.turn
    rw [idx_nat (by rw [put_get' g0, if_pos rfl]), Option.bind_some]; exact c1
   have x0 : (T.put T.run { u with into := x.a }).tasks[m]? = some u2 := by rw [h.run, hk, putX_get hu, if_neg (fun e => hkm e.symm)]; exact hu2
   have x00 : (T.put T.run { u with into := x.a }).tasks[k]? = some { u with into := x.a } := by rw [h.run, hk, putX_get hu, if_pos rfl]
   have hrk : T.run = (k : Int) := h.run.trans hk
   have x2 : ((T.put T.run { u with into := x.a }).put m { u2 with given := true }).tasks[k]? = some { u with into := x.a } := by rw [putX_get x0, if_neg hkm]; exact x00
   have x3 : ((T.put T.run { u with into := x.a }).put m { u2 with given := true }).tasks[m]? = some { u2 with given := true } := by rw [putX_get x0, if_pos rfl]
   have hlend : X.PM.lend ((T.put T.run { u with into := x.a }).put m { u2 with given := true }) m 5 = some T2 := by
    unfold X.PM.lend
    have er : ((T.put T.run { u with into := x.a }).put m { u2 with given := true }).run = T.run := rfl
    rw [er]
    have a1 : idx ((T.put T.run { u with into := x.a }).put m { u2 with given := true }).tasks T.run = some { u with into := x.a } := by rw [hrk]; rw [hrk] at x2; exact idx_nat x2
    rw [a1, Option.bind_some]
    simp only
    have a2 : idx (((T.put T.run { u with into := x.a }).put m { u2 with given := true }).put T.run { u with into := x.a, state := 3 }).tasks (m : Int) = some { u2 with given := true } := by
     rw [hrk] at x2 x3 ⊢
     exact idx_nat (by rw [putX_get x2, if_neg (fun e => hkm e.symm)]; exact x3)
    rw [a2, Option.bind_some]; exact c2
   have hT2m : T2.tasks[m]? = some { u2 with given := true, waiter := T.run, state := 2 } := by rw [hT2, set_get (by rw [List.length_set, h.len]; exact hlm), if_pos rfl]
   have hmark : T2.mark 3 0 = some (T2.put m { u2 with given := true, waiter := T.run, state := 2, frames := { g with leaving := true, way := 3, num := 0 } :: s }) := by
    unfold X.PM.mark X.PM.now
    have hl2 : u2.frames.length < roomy := by rw [htu2.frames]; unfold roomy; omega
    rw [c6, idx_nat hT2m, Option.bind_some, if_pos hl2, Option.bind_some]
    unfold X.PTk.onTop
    simp only [hgx]
    rw [if_pos (by rw [← hgx]; exact hl2)]
    rfl
   rw [i1, i2, Option.bind_some, Option.bind_some]
   try simp only
   rw [idx_nat g0, idx_nat x0, Option.bind_some, Option.bind_some, hot, hlend, Option.bind_some, Option.bind_some, hturn, hmark]
   refine ⟨_, _, rfl, rfl, Two.mono (w := 0) (c := 0 + 1) ?_ (by omega) (by omega)⟩
   refine two_fin (c := k :: c) h hkm ht hm htr1 (t3 := { t2 with waiter := S.run, given := true, frames := { f with leaving := true, way := 3 } :: r, state := 2 }) (u3 := { u2 with given := true, waiter := T.run, state := 2, frames := { g with leaving := true, way := 3, num := 0 } :: s }) ?_ c7 c8 c9 c10 c11 c12 c13 hS2 ?_
    (by exact ⟨rfl, rfl, rfl, rfl, rfl, rfl, rfl, rfl, rfl⟩) (by exact ⟨rfl, rfl, rfl, rfl, rfl, rfl, rfl, rfl, rfl, rfl⟩) (by exact c5) (by exact c6) ?_ (w := 0) ?_
   ·refine ⟨htu2.body, rfl, htu2.regs, by simp only [h.run], htu2.kept, htu2.begun, htu2.drops, htu2.drop, htu2.into, fun _ => rfl, htu2.len, htu2.ask, htu2.drop0, .inr (.inr ⟨.inr (.inl rfl), l, hlb, ?_, ?_⟩), htu2.bodyok, fun e => by simp at e, fun _ => .inr (by simp only [hk]; omega)⟩
    ·exact hfs.top rfl rfl rfl ⟨ho.op, ho.fin, ho.met, rfl, rfl, fun hh => by simp at hh, by simp, fun _ => by simp, fun hh => by simp at hh, ho.mets⟩
    ·rw [n3_cons] at hn3 ⊢
     have : n3 r = 0 := by omega
     simp [this]
   ·simp only [X.PM.put, Int.toNat_natCast, hT2, List.set_set]
   ·simp only [hk]; exact hchn
   ·simp only [hf, wts]; omega
 ·rw [e1, e2, Option.bind_some, Option.bind_some]
  simp only [if_true]
  rw [if_pos (by omega)]
  exact ⟨S', T', rfl, rfl, o.mono (by omega) (Nat.le_refl _)⟩

/-! ### Both machines: a task's end, a turn's tick, a block's beginning. -/

/-- Both runs are over. -/
structure Fin2 (S : PM) (T : X.PM) : Prop where
 overS : S.over = true
 overT : T.over = true
 code : T.code = S.code
 num : T.num = S.num
 recs : T.recs = S.recs
 rings : T.rings = S.rings
 ticks : T.ticks = S.used
 run : T.run = S.run
 views : T.tasks.map X.PTk.view = S.tasks.map PTk.view
 statesS : S.states = []
 statesT : T.states = []
 stand : T.stand = ⟨false, 0, []⟩
 stop : T.stop = -1 ∨ ∃ k : Nat, T.stop = k ∧ S.hook = some ⟨S.recs.length, k, ⟨false, 0, []⟩⟩
 few : S.tasks.length ≤ 60
 room : S.recs.length ≤ 600000 ∧ S.rings.length ≤ 600000
 std : S.code = 2 → Std S.stand

/-- One step of the program's machine, and what the reference's machine has come to. -/
inductive Step2 (p : PPlan) (S S' : PM) (T' : X.PM) : Prop
 | go : Core p S' T' → Acc S' T' → Hk S S' → S'.over = false → S'.left = S.left → ((S'.used = S.used ∧ S'.wt < S.wt ∧ S'.phi ≤ S.phi) ∨ (S'.used = S.used + 1 ∧ S.used < S.left ∧ S'.wt ≤ S.wt + 1 ∧ S'.phi ≤ S.phi + 100)) → Step2 p S S' T'
 | fin : Fin2 S' T' → Hk S S' → Step2 p S S' T'

/-- Turns of the reference's loop. -/
inductive Tn (p : PPlan) : X.PM → X.PM → Prop
 | refl {T : X.PM} : Tn p T T
 | next {T T1 T2 : X.PM} : T.over = false → T.tasks.length < roomy → T.turn1 p = some T1 → Tn p T1 T2 → Tn p T T2

theorem Acc.over {S : PM} {T : X.PM} (h : Acc S T) (hl : T.over = false) : S.over = false := by
 cases h with
 | live _ c2 => exact c2
 | dead c1 => rw [hl] at c1; cases c1

theorem Ch.zero {sw : List (Int × Int)} : ∀ {c : List Nat}, Ch sw c → ∃ s, sw[0]? = some (s, -1)
 | [], h => h.elim
 | [k], ⟨e, s, h⟩ => by subst e; exact ⟨s, h⟩
 | k :: j :: c, ⟨_, h⟩ => h.zero

theorem putput {S : PM} {k : Nat} {a b : PTk} : (S.put k a).put k b = S.put k b := by simp [PM.put]
theorem putputX {T : X.PM} {k : Nat} {a b : X.PTk} : (T.put k a).put k b = T.put k b := by simp [X.PM.put]

theorem Fin2.of {p : PPlan} {S S' : PM} {T T' : X.PM} (h : Core p S T) (ha : Acc S T) (hlive : T.over = false) (hb : S.recs.length ≤ 600000 ∧ S.rings.length ≤ 600000 ∧ S.wt ≤ 500001) (hS : S'.over = true ∧ S'.recs = S.recs ∧ S'.rings = S.rings ∧ S'.used = S.used ∧ S'.run = S.run ∧ S'.states = S.states ∧ S'.hook = S.hook ∧ S'.tasks.length = S.tasks.length)
  (hT : T'.over = true ∧ T'.recs = T.recs ∧ T'.rings = T.rings ∧ T'.ticks = T.ticks ∧ T'.run = T.run ∧ T'.states = T.states ∧ T'.stop = T.stop ∧ T'.stand = T.stand) (hcode : T.code = S.code → T'.code = S'.code) (hnum : T.num = S.num → T'.num = S'.num) (hv : T'.tasks.map X.PTk.view = S'.tasks.map PTk.view) (hstd : S.code = 0 → S'.code = 2 → Std S'.stand) : Fin2 S' T' := by
 obtain ⟨a1, a2, a3, a4, a5, a6, a7, a8⟩ := hS
 obtain ⟨b1, b2, b3, b4, b5, b6, b7, b8⟩ := hT
 cases ha with
 | dead c1 => rw [hlive] at c1; cases c1
 | live c1 c2 c3 c4 c5 c6 c7 c8 c9 c10 c11 c12 =>
  refine ⟨a1, b1, hcode c3.1, hnum c4, by rw [b2, a2, c5], by rw [b3, a3, c6], by rw [b4, a4, c7], by rw [b5, a5, h.run], hv, a6.trans c11, b6.trans c10, b8.trans c9, ?_, by rw [a8]; exact h.few, by rw [a2, a3]; exact ⟨hb.1, hb.2.1⟩, hstd c3.2⟩
  rw [b7, a7, a2]
  rcases c12 with c | ⟨k, k1, k2, _⟩
  ·exact .inl c
  ·exact .inr ⟨k, k1, k2⟩

/-- A task has no block left. -/
theorem finish_both {p : PPlan} {S : PM} {T : X.PM} (h : Core p S T) (ha : Acc S T) (hlive : T.over = false) (hb : S.recs.length ≤ 600000 ∧ S.rings.length ≤ 600000 ∧ S.wt ≤ 500001) {k : Nat} {c : List Nat} {t : PTk} {u : X.PTk} {f : PFr} {g : X.PFr} (hk : S.run = k) (hc : Chn S.sw k c)
  (ht : S.tasks[k]? = some t) (hu : T.tasks[k]? = some u) (htu : TR p t u) (hst : t.state = 2) (hf : t.frames = [f]) (hg : u.frames = [g]) (hway : g.way = f.way) (hnum : f.way ≠ 3 → g.num = f.num) (hn3 : f.way = 3 ↔ t.given = true) :
  ∃ S' T', (S.put k { t with frames := [] }).finish f.way f.num = some S' ∧ (T.put k { u with frames := [] }).ended g.way g.num = some T' ∧ Step2 p S S' T' := by
 have ht1 : (S.put k { t with frames := [] }).tasks[k]? = some { t with frames := [] } := by rw [put_get' ht, if_pos rfl]
 have hu1 : (T.put k { u with frames := [] }).tasks[k]? = some { u with frames := [] } := by rw [putX_get hu, if_pos rfl]
 have hr1 : (S.put k { t with frames := [] }).run = (k : Int) := hk
 have hr2 : (T.put k { u with frames := [] }).run = (k : Int) := h.run.trans hk
 have hnow : (S.put k { t with frames := [] }).now = some { t with frames := [] } := by
  unfold PM.now
  rw [hr1, idx_nat ht1, Option.bind_some, if_pos (by simp [roomy])]
 have hgu := htu.given (by omega)
 unfold PM.finish X.PM.ended
 rw [hnow, Option.bind_some, hr1, hr2, idx_nat hu1, Option.bind_some, hway]
 simp only
 have hlk : k < S.tasks.length := (List.getElem?_eq_some_iff.1 ht).1
 by_cases hk0 : k = 0
 ·subst hk0
  have hng : ¬ t.given = true := by
   intro e
   obtain ⟨s, hs⟩ := hc.ch.zero
   rw [sw_get ht] at hs
   simp only [Option.some.injEq, Prod.mk.injEq] at hs
   rcases htu.gw e with e' | e'
   ·omega
   ·exact e' hs.2
  have hw3 : f.way ≠ 3 := fun e => hng (hn3.1 e)
  rw [if_pos (show ((0 : Nat) : Int) = 0 from rfl), if_pos (show ((0 : Nat) : Int) = 0 from rfl), putput, putputX, hnum hw3]
  refine ⟨_, _, rfl, rfl, .fin (Fin2.of h ha hlive hb ⟨rfl, rfl, rfl, rfl, rfl, rfl, rfl, by simp only [PM.put, List.length_set]⟩ ⟨rfl, rfl, rfl, rfl, rfl, rfl, rfl, rfl⟩ (fun e => ?_) (fun _ => rfl) ?_ fun e0 e2 => ?_) (Hk.refl rfl rfl rfl)⟩
  ·simp only [PM.put, X.PM.put, e]
  ·simp only [PM.put, X.PM.put, List.map_set, h.views]
   congr 1
   simp only [X.PTk.view, PTk.view, htu.body, htu.regs, htu.waiter, htu.kept, htu.begun, List.length_nil]
  ·simp only [PM.put] at e2
   split at e2 <;> omega
 ·have hk0' : ¬ (k : Int) = 0 := by omega
  rw [if_neg hk0', if_neg hk0']
  have htr1 : ∀ b : Bool, TR p { t with frames := [], state := 4, waiter := -1 } { u with frames := [], given := b, state := 4, waiter := -1 } := fun b =>
   ⟨htu.body, rfl, htu.regs, rfl, htu.kept, htu.begun, htu.drops, htu.drop, htu.into, fun e => by simp at e, htu.len, htu.ask, htu.drop0, .inr (.inl ⟨rfl, rfl, rfl⟩), htu.bodyok, fun e => by simp at e, fun _ => .inl rfl⟩
  have key : ∀ (ua : X.PTk) (how v flag : Int), TR p { t with frames := [], state := 4, waiter := -1 } { ua with state := 4, waiter := -1 } → ua.waiter = u.waiter →
    ∃ S' T', ((PM.turn (S.put k { t with frames := [], state := 4, waiter := -1 }) t.waiter how).bind fun S1 => (idx S1.tasks t.waiter).bind fun u => (u.setReg u.ask.a v).bind fun u => (u.setReg 3 flag).map fun u => S1.put t.waiter u) = some S' ∧
     (∃ w, idx (S.put k { t with frames := [], state := 4, waiter := -1 }).tasks t.waiter = some w) ∧ X.PM.hand (T.put k ua) 4 how v flag = some T' ∧ Step2 p S S' T' := by
   intro ua how v flag htr hua
   obtain ⟨S', T', e1, e2, e3, o, o1, o2, o3⟩ := hand_out h ha (by omega) hk hc hk0 ht hu htu.waiter (t1 := { t with frames := [], state := 4, waiter := -1 }) (ua := ua) (st := 4) htr rfl (by omega) rfl hua (how := how) (v := v) (flag := flag) (by simp [wts])
   refine ⟨S', T', e1, e2, e3, .go o.core o.acc o.hk (o.over.trans (ha.over hlive)) o.left (.inl ⟨o.used, ?_, ?_⟩)⟩
   ·rw [hf] at o1; simp only [wts] at o1; omega
   ·unfold PM.phi; rw [hf] at o1; simp only [wts] at o1; rw [o2, o3]; omega
  by_cases hw3 : f.way = 3
  ·have hgt := hn3.1 hw3
   obtain ⟨S', T', e1, ⟨w, e2⟩, e3, hstep⟩ := key { u with frames := [], given := false } 6 t.drop (if t.drops = true then 0 else 1) (htr1 false) rfl
   have hd : (if t.drops = true then t.drop else 0) = t.drop := by
    by_cases hd : t.drops = true
    ·rw [if_pos hd]
    ·rw [if_neg hd, htu.drop0 (by simpa using hd)]
   have n32 : ¬ (3 : Int) = 2 := by decide
   refine ⟨S', T', ?_, ?_, hstep⟩
   ·simp only [hw3, n32, if_true, if_false, putput, e2, Option.bind_some, hd]; exact e1
   ·rw [if_pos (show u.given = true by rw [hgu]; exact hgt), putputX]
    rw [← htu.drop, ← htu.drops] at e3
    exact e3
  ·have hgt : ¬ t.given = true := fun e => hw3 (hn3.2 e)
   by_cases hw2 : f.way = 2
   ·obtain ⟨S', T', e1, ⟨w, e2⟩, e3, hstep⟩ := key { u with frames := [] } 4 f.num 0 (htr1 u.given) rfl
    refine ⟨S', T', ?_, ?_, hstep⟩
    ·simp only [hw2, if_true, putput, e2, Option.bind_some]; exact e1
    ·rw [if_neg (show ¬ u.given = true by rw [hgu]; exact hgt), if_pos hw2, hnum hw3]; exact e3
   ·obtain ⟨S', T', e1, ⟨w, e2⟩, e3, hstep⟩ := key { u with frames := [] } 3 f.num 2 (htr1 u.given) rfl
    refine ⟨S', T', ?_, ?_, hstep⟩
    ·simp only [hw2, hw3, if_false, putput, e2, Option.bind_some]; exact e1
    ·rw [if_neg (show ¬ u.given = true by rw [hgu]; exact hgt), if_neg hw2, hnum hw3]; exact e3

/-- A tick, if there is one left. -/
theorem tick_both {p : PPlan} {S : PM} {T : X.PM} (h : Core p S T) (ha : Acc S T) (hlive : T.over = false) (hb : Bnd S) :
  (S.tick = (false, { S with over := true, code := 2 }) ∧ T.tick = (false, { T with over := true, code := 2 }) ∧ Fin2 { S with over := true, code := 2 } { T with over := true, code := 2 }) ∨
  (S.used < S.left ∧ S.tick = (true, { S with used := S.used + 1 }) ∧ T.tick = (true, { T with left := T.left - 1, ticks := T.ticks + 1 }) ∧ Core p { S with used := S.used + 1 } { T with left := T.left - 1, ticks := T.ticks + 1 } ∧
   Acc { S with used := S.used + 1 } { T with left := T.left - 1, ticks := T.ticks + 1 } ∧ Hk S { S with used := S.used + 1 }) := by
 have hu := hb.used
 have hr := hb.room
 have hle := ha
 cases ha with
 | dead c1 => rw [hlive] at c1; cases c1
 | live c1 c2 c3 c4 c5 c6 c7 c8 c9 c10 c11 c12 =>
  unfold PM.tick X.PM.tick
  rw [if_neg (show ¬ T.over = true by rw [c1]; simp)]
  by_cases he : S.used = S.left
  ·rw [if_pos he, if_pos (by omega)]
   exact .inl ⟨rfl, rfl, Fin2.of h hle hlive (by omega) ⟨rfl, rfl, rfl, rfl, rfl, rfl, rfl, rfl⟩ ⟨rfl, rfl, rfl, rfl, rfl, rfl, rfl, rfl⟩ (fun _ => rfl) (fun e => e) h.views fun _ _ => h.std⟩
  ·rw [if_neg he, if_neg (by omega), wr_small (by omega), wr_small (by omega), wr_small (by omega)]
   exact .inr ⟨by omega, rfl, rfl, ⟨h.run, h.len, h.tk, h.chain, h.few⟩, .live c1 c2 c3 c4 c5 c6 (by simp only [c7]) (by simp only [c8]; omega) c9 c10 c11 c12, Hk.refl rfl rfl rfl⟩

/-- A block begins. -/
theorem FS.block {l : List PStep} {f : PFr} {r : List PFr} {g : X.PFr} {s : List X.PFr} {op : Int} {h : Nat} {x : PStep} (hx : l[h]? = some x) (ho : x.op = op) (hh : headP op = true) (hs : 0 ≤ x.size) (hl : l.length ≤ 300) (hle : h + 1 + x.size.toNat ≤ l.length)
  (hi : Inn l (dfl (f :: r) || op == 13) (h + 1) (h + 1 + x.size.toNat)) (hlv : f.leaving = true ↔ op = 13) (hfs : FS l (if op = 14 then some (h : Int) else none) (f :: r) (g :: s)) :
  FS l none (block op h x.size :: f :: r) (⟨h, op, wr64 ((h : Int) + 1), wr64 (wr64 ((h : Int) + 1) + x.size), [], false, 0, 0⟩ :: g :: s) := by
 have hd : dfl (Ytibmnlijoeppaaa.block op h x.size :: f :: r) = (dfl (f :: r) || op == 13) := by
  rw [dfl_cons, Bool.or_comm]; rfl
 have e1 : wr64 ((h : Int) + 1) = ((h + 1 : Nat) : Int) := by rw [wr_small (by omega)]; omega
 have e2 : wr64 (wr64 ((h : Int) + 1) + x.size) = ((h + 1 + x.size.toNat : Nat) : Int) := by rw [e1, wr_small (by omega)]; omega
 refine FS.push (f' := Ytibmnlijoeppaaa.block op h x.size) ?_ ⟨rfl, rfl, rfl, rfl, rfl, fun _ => rfl, .inl rfl, fun _ => by simp [Ytibmnlijoeppaaa.block], fun _ => ⟨rfl, rfl, h + 1, h + 1 + x.size.toNat, e1, e2, by omega, hle, by rw [hd]; exact hi, e1⟩, fun q hq => by cases hq⟩ rfl ⟨hh, h, x, rfl, hx, ho⟩ hlv
 exact hfs

/-! ### Both machines: a loop is looked at. -/

theorem put_tick {S : PM} {k : Int} {t : PTk} : (S.put k t).tick = (S.tick.1, S.tick.2.put k t) := by
 unfold PM.tick
 have e1 : (S.put k t).used = S.used := rfl
 have e2 : (S.put k t).left = S.left := rfl
 rw [e1, e2]
 split <;> rfl
theorem put_tickX {T : X.PM} {k : Int} {u : X.PTk} : (T.put k u).tick = (T.tick.1, T.tick.2.put k u) := by
 unfold X.PM.tick
 have e1 : (T.put k u).over = T.over := rfl
 have e2 : (T.put k u).left = T.left := rfl
 rw [e1, e2]
 split
 ·rfl
 ·split <;> rfl

theorem idx_mem {p : PPlan} {b : Int} {l : List PStep} (hl : idx p b = some l) : l ∈ p := by
 unfold idx at hl
 split at hl
 ·exact List.mem_of_getElem? hl
 ·cases hl

theorem nowX_put {T : X.PM} {k : Nat} {u u' : X.PTk} (hu : T.tasks[k]? = some u) (hr : T.run = k) (hl : u'.frames.length < roomy) : (T.put k u').now = some u' := by
 unfold X.PM.now
 have : (T.put k u').run = (k : Int) := hr
 rw [this, idx_nat (by rw [putX_get hu, if_pos rfl]), Option.bind_some, if_pos hl]
theorem now_put {S : PM} {k : Nat} {t t' : PTk} (ht : S.tasks[k]? = some t) (hr : S.run = k) (hl : t'.frames.length < roomy) : (S.put k t').now = some t' := by
 unfold PM.now
 have : (S.put k t').run = (k : Int) := hr
 rw [this, idx_nat (by rw [put_get' ht, if_pos rfl]), Option.bind_some, if_pos hl]

theorem phi_put {S : PM} {k : Nat} {t t' : PTk} (ht : S.tasks[k]? = some t) : (S.put k t').phi + wts t.frames = S.phi + wts t'.frames := by
 have := PM.put_wt (t' := t') ht
 unfold PM.phi
 have e1 : (S.put k t').recs = S.recs := rfl
 have e2 : (S.put k t').rings = S.rings := rfl
 rw [e1, e2]; omega

/-- A running task's other blocks and registers. -/
theorem TR.with {p : PPlan} {t : PTk} {u : X.PTk} (h : TR p t u) (hs : t.state = 1 ∨ t.state = 2 ∨ t.state = 3) {F : List PFr} {G : List X.PFr} {R : List Int} {K B : Int} {l : List PStep} (hl : idx p t.body = some l) (hfs : FS l none F G) (hn : n3 F = if t.given = true then 1 else 0) (hR : R.length = 4) :
  TR p { t with frames := F, regs := R, kept := K, begun := B } { u with frames := G, regs := R, kept := K, begun := B } :=
 ⟨h.body, h.state, rfl, h.waiter, rfl, rfl, h.drops, h.drop, h.into, h.given, hR, h.ask, h.drop0, .inr (.inr ⟨hs, l, hl, hfs, hn⟩), h.bodyok, h.sus, h.gw⟩

/-- A loop is looked at: with a tick, again or for the last time. -/
theorem look_both {p : PPlan} (hg : Good p) {S : PM} {T : X.PM} (h : Core p S T) (ha : Acc S T) (hlive : T.over = false) (hb : Bnd S) {k : Nat} {t : PTk} {u : X.PTk} (hk : S.run = k) (ht : S.tasks[k]? = some t) (hu : T.tasks[k]? = some u) (htu : TR p t u) (hst : t.state = 2)
  {l : List PStep} {f : PFr} {r : List PFr} {g : X.PFr} {s : List X.PFr} {hd : Nat} (hlb : idx p t.body = some l) (hfs : FS l (some (hd : Int)) (f :: r) (g :: s)) (hlv : f.leaving = false) (hn3 : n3 (f :: r) = if t.given = true then 1 else 0) (hw : wts (f :: r) ≤ wts t.frames) :
  ∃ S' T', (S.put k { t with frames := f :: r }).look p k hd = some S' ∧ (T.put k { u with frames := g :: s }).turn1 p = some T' ∧ Step2 p S S' T' := by
 have hroom := hb.room
 have hwt := wts_le ht
 have hlen : (f :: r).length < roomy := by have := wts_len (F := f :: r); unfold roomy; omega
 have hlenX : (g :: s).length < roomy := by have := hfs.len; omega
 have hmem := idx_mem hlb
 have hl300 := hg.len l hmem
 obtain ⟨g0, s0, eg, ho⟩ := hfs.cons
 simp only [List.cons.injEq] at eg
 obtain ⟨rfl, rfl⟩ := eg
 obtain ⟨hw0, hnm0, i, to, hpc, hfin, hito, htol, hinn, hPc⟩ := ho.live hlv
 obtain ⟨hd', x, e0, hgpc, hx, hx14, hix, hinl⟩ := hPc
 obtain rfl : hd' = hd := by omega
 have hshp := hg.shp l hmem x (List.mem_of_getElem? hx)
 have hxa := hshp.a (by omega) (by omega)
 have hsz := hshp.size
 have hrT : T.run = (k : Int) := h.run.trans hk
 have hnowX : (T.put k { u with frames := g :: s }).now = some { u with frames := g :: s } := nowX_put hu hrT hlenX
 have hgl : g.leaving = false := ho.leaving.trans hlv
 have hgf : ¬ g.pc = g.fin := by rw [hgpc, ho.fin, hfin]; omega
 have hturn : (T.put k { u with frames := g :: s }).turn1 p = (T.put k { u with frames := g :: s }).step p := by
  unfold X.PM.turn1
  rw [hnowX, Option.bind_some]
  simp only
  rw [if_neg (by rw [hgl]; simp), if_neg hgf]
 have hviews : ∀ (R : List Int), (T.put k { u with frames := g :: s }).tasks.map X.PTk.view = (S.put k { t with frames := f :: r }).tasks.map PTk.view := by
  intro _
  simp only [PM.put, X.PM.put, Int.toNat_natCast, List.map_set, h.views]
  congr 1
  simp only [X.PTk.view, PTk.view, htu.body, htu.regs, htu.waiter, htu.kept, htu.begun, htu.state, hfs.len]
 rw [hturn]
 unfold PM.look X.PM.step
 rw [hnowX, Option.bind_some, put_tick, put_tickX]
 simp only
 rcases tick_both h ha hlive hb with ⟨e1, e2, _⟩ | ⟨hul, e1, e2, hc', ha', hk'⟩
 ·rw [e1, e2]
  simp only [if_true]
  refine ⟨_, _, rfl, rfl, .fin (Fin2.of h ha hlive (by omega) ⟨rfl, rfl, rfl, rfl, rfl, rfl, rfl, by simp only [PM.put, List.length_set]⟩ ⟨rfl, rfl, rfl, rfl, rfl, rfl, rfl, rfl⟩ (fun _ => rfl) (fun e => e) (hviews []) fun _ _ => h.std.put ht hst) (Hk.refl rfl rfl rfl)⟩
 ·rw [e1, e2]
  simp only [Bool.true_eq_false, if_false]
  have hov := ha.over hlive
  generalize hSt : ({ S with used := S.used + 1 } : PM) = St at *
  generalize hTt : ({ T with left := T.left - 1, ticks := T.ticks + 1 } : X.PM) = Tt at *
  have htS : St.tasks[k]? = some t := by rw [← hSt]; exact ht
  have huT : Tt.tasks[k]? = some u := by rw [← hTt]; exact hu
  have hkS : St.run = (k : Int) := by rw [← hSt]; exact hk
  have hkT : Tt.run = (k : Int) := by rw [← hTt]; exact hrT
  have q1 : (St.put k { t with frames := f :: r }).tasks[k]? = some { t with frames := f :: r } := by rw [put_get' htS, if_pos rfl]
  have q2 : (Tt.put k { u with frames := g :: s }).tasks[k]? = some { u with frames := g :: s } := by rw [putX_get huT, if_pos rfl]
  have hsl : ({ t with frames := f :: r } : PTk).steps p = some l := hlb
  have hslX : ({ u with frames := g :: s } : X.PTk).steps p = some l := by unfold X.PTk.steps; simp only; rw [htu.body]; exact hlb
  obtain ⟨v, hv⟩ := reg_some htu.len hxa
  have hvS : ({ t with frames := f :: r } : PTk).reg x.a = some v := hv
  have hvX : ∀ G, ({ u with frames := G } : X.PTk).reg x.a = some v := fun G => by rw [← hv, ← reg_eq htu.regs]; rfl
  have hrun1 : (T.put k { u with frames := g :: s }).run = (k : Int) := hrT
  rw [idx_nat q1, Option.bind_some, hsl, Option.bind_some, idx_nat hx, Option.bind_some, hvS, Option.bind_some, nowX_put huT hkT hlenX, Option.bind_some]
  simp only
  rw [hslX, Option.bind_some, hgpc, idx_nat hx, Option.bind_some, hrun1, putputX]
  unfold X.PM.act
  simp only [hx14, Int.reduceEq, if_false, if_true]
  rw [hvX, Option.bind_some]
  have hfinal : ∀ (S' : PM) (T' : X.PM) (F : List PFr) (G : List X.PFr) (R : List Int), S' = St.put k { t with frames := F, regs := R, kept := t.kept, begun := t.begun } → T' = Tt.put k { u with frames := G, regs := R, kept := u.kept, begun := u.begun } → FS l none F G → n3 F = (if t.given = true then 1 else 0) → R.length = 4 → wts F ≤ wts t.frames + 1 → Step2 p S S' T' := by
   intro S' T' F G R e3 e4 hF hN hR hWt
   subst e3 e4
   have htr := htu.with (.inr (.inl hst)) (K := t.kept) (B := t.begun) hlb hF hN hR
   have o := put_out hc' ha' htS (t' := { t with frames := F, regs := R, kept := t.kept, begun := t.begun }) (u' := { u with frames := G, regs := R, kept := t.kept, begun := t.begun }) htr rfl rfl (d := 1) hWt
   rw [← htu.kept, ← htu.begun] at o
   have eu : St.used = S.used + 1 := by rw [← hSt]
   have el : St.left = S.left := by rw [← hSt]
   have eo : St.over = S.over := by rw [← hSt]
   have ew : St.wt = S.wt := by rw [← hSt]; rfl
   have ep : St.phi = S.phi := by rw [← hSt]; rfl
   have ow := o.wt
   have op := o.phi
   rw [← htu.kept, ← htu.begun]
   exact .go o.core o.acc (hk'.trans o.hk) (o.over.trans (eo.trans hov)) (o.left.trans el) (.inr ⟨o.used.trans eu, hul, by omega, by omega⟩)
  by_cases hv0 : v > 0
  ·have hpush : PTk.push { t with frames := f :: r, regs := t.regs.set x.a.toNat (wr64 (v - 1)) } (Ytibmnlijoeppaaa.block 14 hd' x.size) = some { t with frames := Ytibmnlijoeppaaa.block 14 hd' x.size :: f :: r, regs := t.regs.set x.a.toNat (wr64 (v - 1)) } := by
    unfold PTk.push; rw [if_pos hlen]
   rw [if_pos hv0, if_pos hv0, setReg_eq hxa, Option.bind_some]
   simp only
   rw [hpush, Option.map_some, putput, setRegX_eq hxa, Option.bind_some]
   simp only
   have hrun2 : ∀ u1, (Tt.put k u1).run = (k : Int) := fun _ => hkT
   rw [hrun2, putputX]
   unfold X.PM.opens
   rw [hrun2, idx_nat (by rw [putX_get huT, if_pos rfl]), Option.bind_some, if_pos (show ({ u with frames := { g with pc := (hd' : Int) } :: s, regs := u.regs.set x.a.toNat (wr64 (v - 1)) } : X.PTk).frames.length < roomy from hlenX), putputX]
   have hgg : ({ g with pc := (hd' : Int) } : X.PFr) = g := by cases g; simp only at hgpc; subst hgpc; rfl
   refine ⟨_, _, rfl, rfl, hfinal _ _ (Ytibmnlijoeppaaa.block 14 hd' x.size :: f :: r) (⟨hd', 14, wr64 ((hd' : Int) + 1), wr64 (wr64 ((hd' : Int) + 1) + x.size), [], false, 0, 0⟩ :: g :: s) (t.regs.set x.a.toNat (wr64 (v - 1))) rfl ?_ ?_ ?_ ?_ ?_⟩
   ·rw [hgg, htu.regs]
   ·refine FS.block hx hx14 rfl hsz hl300 (by omega) ?_ ⟨fun e => (by rw [hlv] at e; cases e), fun e => (by cases e)⟩ hfs
    rw [hix] at hinl
    simpa using hinl
   ·rw [n3_cons, hn3]; simp [Ytibmnlijoeppaaa.block]
   ·rw [List.length_set]; exact htu.len
   ·simp only [wts, Ytibmnlijoeppaaa.block, List.length_nil] at hw ⊢; omega
  ·rw [if_neg hv0, if_neg hv0]
   have e1' : wr64 ((hd' : Int) + wr64 (1 + x.size)) = (i : Int) := by rw [wr_small (n := 1 + x.size) (by omega), wr_small (by omega)]; omega
   refine ⟨_, _, rfl, rfl, hfinal _ _ (f :: r) ({ g with pc := wr64 ((hd' : Int) + wr64 (1 + x.size)) } :: s) t.regs rfl ?_ ?_ hn3 htu.len (by omega)⟩
   ·rw [← htu.regs]
   ·refine hfs.top rfl rfl rfl ⟨ho.op, ho.fin, ho.met, ho.leaving, ho.way, ho.num, ho.ways, ho.noret, fun _ => ⟨hw0, hnm0, i, to, hpc, hfin, hito, htol, hinn, e1'⟩, ho.mets⟩

/-! ### Both machines: a block is left. -/

theorem markX_put {T : X.PM} {k : Nat} {u u1 : X.PTk} {g : X.PFr} {s : List X.PFr} (hu : T.tasks[k]? = some u) (hr : T.run = k) (hg : u1.frames = g :: s) (hl : (g :: s).length < roomy) {way num : Int} :
  (T.put k u1).mark way num = some (T.put k { u1 with frames := { g with leaving := true, way := way, num := num } :: s }) := by
 unfold X.PM.mark
 rw [nowX_put hu hr (by rw [hg]; exact hl), Option.bind_some]
 unfold X.PTk.onTop
 rw [hg]
 simp only
 rw [if_pos hl, Option.map_some]
 have : (T.put k u1).run = (k : Int) := hr
 rw [this, putputX]

/-- The running task goes on with fewer blocks. -/
theorem pop_go {p : PPlan} {S : PM} {T : X.PM} (h : Core p S T) (ha : Acc S T) (hlive : T.over = false) {k : Nat} {t t1 : PTk} {u1 : X.PTk} (ht : S.tasks[k]? = some t) (htr : TR p t1 u1) (hs : t1.state = t.state) (hw : t1.waiter = t.waiter) (hwt : wts t1.frames < wts t.frames) :
  Step2 p S (S.put k t1) (T.put k u1) := by
 have o := put_out h ha ht htr hs hw (d := 0) (by omega)
 have e1 := PM.put_wt (t' := t1) ht
 have e2 := phi_put (t' := t1) ht
 exact .go o.core o.acc o.hk (o.over.trans (ha.over hlive)) o.left (.inl ⟨o.used, by omega, by omega⟩)

theorem close_both {p : PPlan} (hgood : Good p) {S : PM} {T : X.PM} (h : Core p S T) (ha : Acc S T) (hlive : T.over = false) (hb : Bnd S) {k : Nat} {c : List Nat} {t : PTk} {u : X.PTk} (hk : S.run = k) (hc : Chn S.sw k c) (ht : S.tasks[k]? = some t) (hu : T.tasks[k]? = some u) (htu : TR p t u) (hst : t.state = 2)
  {f : PFr} {r : List PFr} {g : X.PFr} {s : List X.PFr} (hf : t.frames = f :: r) (hgx : u.frames = g :: s) (hlv : f.leaving = true) (hm : f.met = []) : ∃ S' T', S.close p = some S' ∧ Tn p T T' ∧ Step2 p S S' T' := by
 have hroom := hb.room
 have hwt := wts_le ht
 have hlt : t.frames.length < roomy := by have := wts_len (F := t.frames); unfold roomy; omega
 have hltX : u.frames.length < roomy := by rw [htu.frames]; exact hlt
 have hrT : T.run = (k : Int) := h.run.trans hk
 have hnow : S.now = some t := by unfold PM.now; rw [hk, idx_nat ht, Option.bind_some, if_pos hlt]
 have hnowX : T.now = some u := by unfold X.PM.now; rw [hrT, idx_nat hu, Option.bind_some, if_pos hltX]
 obtain ⟨l, f0, r0, g0, s0, hlb, e1, e2, hfs, hn3⟩ := htu.run (.inr (.inl hst))
 rw [hf] at e1; rw [hgx] at e2
 simp only [List.cons.injEq] at e1 e2
 obtain ⟨rfl, rfl⟩ := e1
 obtain ⟨rfl, rfl⟩ := e2
 obtain ⟨g1, s1, eg, ho⟩ := hfs.cons
 simp only [List.cons.injEq] at eg
 obtain ⟨rfl, rfl⟩ := eg
 have hgl : g.leaving = true := ho.leaving.trans hlv
 have hgm : g.met = [] := ho.met.trans hm
 have hroomT : T.tasks.length < roomy := by have := h.few; rw [h.len]; unfold roomy; omega
 have hturn : T.turn1 p = T.close p := by
  unfold X.PM.turn1
  rw [hnowX, Option.bind_some, hgx]
  simp only
  rw [if_pos hgl]
 have one : ∀ T', T.close p = some T' → Tn p T T' := fun T' e => .next hlive hroomT (hturn.trans e) .refl
 have hclS : S.close p = (match r with
   | [] => (S.put k { t with frames := r }).finish f.way f.num
   | up :: r' =>
    if f.op = 13 then
     if f.way = 3 then some ((S.put k { t with frames := r }).put k { t with frames := { up with way := 3 } :: r' })
     else if f.way = 2 ∧ up.way = 3 then some ((S.put k { t with frames := r }).put k { t with frames := r, drops := true, drop := f.num })
     else if f.way = 2 then some ((S.put k { t with frames := r }).put k { t with frames := { up with way := 2, num := f.num } :: r' })
     else some (S.put k { t with frames := r })
    else if f.way = 0 ∧ f.op = 14 then (S.put k { t with frames := r }).look p k f.hd
    else if f.way = 0 then some (S.put k { t with frames := r })
    else if f.way = 2 ∧ f.op = 11 then
     ((S.put k { t with frames := r }).tell 4 0 f.num).bind fun S2 => (idx S2.tasks k).bind fun t => (t.steps p).bind fun l => (idx l f.hd).bind fun x => (t.setReg x.a f.num).map fun t => S2.put k t
    else some ((S.put k { t with frames := r }).put k { t with frames := { up with leaving := true, way := f.way, num := f.num } :: r' })) := by
  unfold PM.close
  rw [hnow, Option.bind_some]
  simp only [hf, hk]
  cases r <;> rfl
 have hclX : T.close p = (match s with
   | [] => (T.put k { u with frames := s }).ended g.way g.num
   | up :: _ =>
    if g.op = 11 ∧ g.way = 2 then
     (({ u with frames := s } : X.PTk).steps p).bind fun l => (idx l g.hd).bind fun x => ((T.put k { u with frames := s }).tell 4 0 g.num).bind fun S2 => (idx S2.tasks k).bind fun t => (t.setReg x.a g.num).map fun t => S2.put k t
    else if g.way = 0 then some (T.put k { u with frames := s })
    else if g.op = 13 ∧ up.way = 3 then some ((T.put k { u with frames := s }).put k { u with frames := s, drops := true, drop := g.num })
    else (T.put k { u with frames := s }).mark g.way g.num) := by
  unfold X.PM.close
  rw [hnowX, Option.bind_some]
  simp only [hgx, hgm, hrT]
  cases s <;> rfl
 rw [hclS]
 cases r with
 | nil =>
  obtain ⟨g', eg, _, _⟩ := hfs
  simp only [List.cons.injEq] at eg
  obtain ⟨_, rfl⟩ := eg
  simp only at hclX ⊢
  obtain ⟨S', T', e1, e2, hstep⟩ := finish_both h ha hlive (by omega) hk hc ht hu htu hst hf hgx ho.way ho.num (by
   rw [n3_cons] at hn3
   have e0 : n3 [] = 0 := rfl
   rw [e0] at hn3
   by_cases a : f.way = 3
   ·rw [if_pos a] at hn3
    exact ⟨fun _ => by by_cases b : t.given = true; exact b; rw [if_neg b] at hn3; omega, fun _ => a⟩
   ·rw [if_neg a] at hn3
    exact ⟨fun b => absurd b a, fun b => by rw [if_pos b] at hn3; omega⟩)
  exact ⟨S', T', e1, one T' (hclX.trans e2), hstep⟩
 | cons up r' =>
  obtain ⟨g', s', eg, _, hhd, hHd, hlink, hfs'⟩ := hfs
  simp only [List.cons.injEq] at eg
  obtain ⟨rfl, rfl⟩ := eg
  obtain ⟨gup, s'', eg, hup⟩ := hfs'.cons
  subst eg
  simp only at hclX ⊢
  rw [ho.op, ho.way, hup.way] at hclX
  have hn3' : n3 (f :: up :: r') = n3 (up :: r') + if f.way = 3 then 1 else 0 := n3_cons _ _
  have hn3u : n3 (up :: r') = n3 r' + if up.way = 3 then 1 else 0 := n3_cons _ _
  have hgle : (if t.given = true then 1 else 0 : Nat) ≤ 1 := by split <;> omega
  have hwf : wts t.frames = 1 + wts (up :: r') := by rw [hf, wts, hm]; rfl
  have hlenS : (gup :: s'').length < roomy := by rw [hgx] at hltX; simp only [List.length_cons] at hltX ⊢; omega
  have hmk : ∀ way num, (T.put k { u with frames := gup :: s'' }).mark way num = some (T.put k { u with frames := { gup with leaving := true, way := way, num := num } :: s'' }) := fun way num => markX_put (u1 := { u with frames := gup :: s'' }) hu hrT rfl hlenS
  have htr : ∀ (F : List PFr) (G : List X.PFr), FS l none F G → n3 F = (if t.given = true then 1 else 0) → TR p { t with frames := F } { u with frames := G } := fun F G a b => by
   have := htu.with (.inr (.inl hst)) (K := t.kept) (B := t.begun) hlb a b htu.len
   have e : ({ u with frames := G, regs := t.regs, kept := t.kept, begun := t.begun } : X.PTk) = { u with frames := G } := by rw [← htu.regs, ← htu.kept, ← htu.begun]
   rw [e] at this
   exact this
  -- the block below is left too
  have hmark : ∀ num', (f.way ≠ 3 → num' = f.num) → (dfl (up :: r') = true → f.way ≠ 1) → n3 r' + (if f.way = 3 then 1 else 0) = (if t.given = true then 1 else 0) → ∀ num, (f.way ≠ 3 → num = f.num) →
    Step2 p S (S.put k { t with frames := { up with leaving := true, way := f.way, num := num } :: r' }) (T.put k { u with frames := { gup with leaving := true, way := f.way, num := num' } :: s'' }) := by
   intro num' hnum' hnr hn num hnum
   refine pop_go h ha hlive ht (htr ({ up with leaving := true, way := f.way, num := num } :: r') ({ gup with leaving := true, way := f.way, num := num' } :: s'') ?_ ?_) rfl rfl (by simp only [wts] at hwf ⊢; omega)
   ·exact hfs'.top rfl rfl rfl ⟨hup.op, hup.fin, hup.met, rfl, rfl, fun e => by simp only at e ⊢; rw [hnum' e, hnum e], ho.ways, hnr, fun e => by simp at e, hup.mets⟩
   ·rw [n3_cons]; exact hn
  by_cases h13 : f.op = 13
  ·have hul : up.leaving = true := hlink.2 h13
   have hgul : gup.leaving = true := hup.leaving.trans hul
   have hdf : dfl (f :: up :: r') = true := by rw [dfl_cons, h13]; rfl
   have hn1 := ho.noret hdf
   have habv : abv f = none := by unfold abv; rw [if_neg (by omega)]
   rw [habv] at hfs'
   rw [if_pos h13]
   rw [if_neg (fun e => by omega)] at hclX
   by_cases hw3 : f.way = 3
   ·have hup3 : ¬ up.way = 3 := by
     intro e
     rw [hn3', if_pos hw3] at hn3
     rw [hn3u, if_pos e] at hn3
     omega
    rw [if_pos hw3, putput]
    rw [if_neg (by omega), if_neg (fun e => hup3 e.2), hmk] at hclX
    refine ⟨_, _, rfl, one _ hclX, ?_⟩
    have hh := hmark g.num ho.num (fun _ => hn1) (by rw [← hn3, hn3', hn3u, if_neg hup3]; omega) up.num (fun e => absurd hw3 e)
    rw [hw3] at hh ⊢
    have e : ({ up with leaving := true, way := 3, num := up.num } : PFr) = { up with way := 3 } := by rw [← hul]
    rw [e] at hh; exact hh
   rw [if_neg hw3]
   by_cases hw2 : f.way = 2
   ·rw [if_neg (by omega)] at hclX
    by_cases hup3 : up.way = 3
    ·rw [if_pos ⟨hw2, hup3⟩, putput]
     rw [if_pos ⟨h13, hup3⟩, putputX] at hclX
     refine ⟨_, _, rfl, one _ hclX, ?_⟩
     have b := htr (up :: r') (gup :: s'') hfs' (by rw [← hn3, hn3', if_neg hw3]; omega)
     refine pop_go h ha hlive ht (t1 := { t with frames := up :: r', drops := true, drop := f.num }) (u1 := { u with frames := gup :: s'', drops := true, drop := g.num }) ?_ rfl rfl (by rw [hwf]; simp only; omega)
     exact ⟨b.body, b.state, b.regs, b.waiter, b.kept, b.begun, rfl, ho.num hw3, b.into, b.given, b.len, b.ask, fun e => by simp at e, (by
      rcases b.st with ⟨a0, _⟩ | ⟨a0, _⟩ | b3
      ·simp only at a0; omega
      ·simp only at a0; omega
      ·exact .inr (.inr b3)), b.bodyok, b.sus, b.gw⟩
    ·rw [if_neg (fun e => hup3 e.2), if_pos hw2, putput]
     rw [if_neg (fun e => hup3 e.2), hmk] at hclX
     refine ⟨_, _, rfl, one _ hclX, ?_⟩
     have hh := hmark g.num ho.num (fun _ => hn1) (by rw [← hn3, hn3', hn3u, if_neg hup3]; omega) f.num (fun _ => rfl)
     rw [hw2] at hh ⊢
     have e : ({ up with leaving := true, way := 2, num := f.num } : PFr) = { up with way := 2, num := f.num } := by rw [← hul]
     rw [e] at hh; exact hh
   ·have hw0 : f.way = 0 := by have := ho.ways; omega
    rw [if_neg (fun e => hw2 e.1), if_neg hw2]
    rw [if_pos hw0] at hclX
    exact ⟨_, _, rfl, one _ hclX, pop_go h ha hlive ht (htr (up :: r') (gup :: s'') hfs' (by rw [← hn3, hn3', if_neg hw3]; omega)) rfl rfl (by rw [hwf]; simp only; omega)⟩
  ·have hul : up.leaving = false := by
    have : ¬ up.leaving = true := fun e => h13 (hlink.1 e)
    simpa using this
   obtain ⟨hu0, hun0, _⟩ := hup.live hul
   rw [if_neg h13]
   have hnup : n3 (up :: r') = n3 r' := by rw [hn3u, if_neg (by omega)]; omega
   by_cases hw0 : f.way = 0
   ·have hw3 : ¬ f.way = 3 := by omega
    rw [if_neg (fun e => by omega), if_pos hw0] at hclX
    have hnn : n3 (up :: r') = (if t.given = true then 1 else 0) := by rw [← hn3, hn3', if_neg hw3]; omega
    by_cases h14 : f.op = 14
    ·rw [if_pos ⟨hw0, h14⟩]
     obtain ⟨_, hd, x, hhdd, _, _⟩ := hHd
     have habv : abv f = some (hd : Int) := by unfold abv; rw [if_pos h14, hhdd]
     rw [habv] at hfs'
     obtain ⟨S', T', e1, e2, hstep⟩ := look_both hgood h ha hlive hb hk ht hu htu hst hlb hfs' hul hnn (by rw [hwf]; omega)
     rw [hhdd]
     exact ⟨S', T', e1, .next hlive hroomT (hturn.trans hclX) (.next hlive (by simp only [X.PM.put, List.length_set]; exact hroomT) e2 .refl), hstep⟩
    ·have habv : abv f = none := by unfold abv; rw [if_neg h14]
     rw [habv] at hfs'
     rw [if_neg (fun e => h14 e.2), if_pos hw0]
     exact ⟨_, _, rfl, one _ hclX, pop_go h ha hlive ht (htr (up :: r') (gup :: s'') hfs' hnn) rfl rfl (by rw [hwf]; simp only; omega)⟩
   ·rw [if_neg (fun e => hw0 e.1), if_neg hw0]
    by_cases h11 : f.op = 11 ∧ f.way = 2
    ·have habv : abv f = none := by unfold abv; rw [if_neg (by omega)]
     rw [habv] at hfs'
     have hw3 : ¬ f.way = 3 := by omega
     rw [if_pos ⟨h11.2, h11.1⟩]
     rw [if_pos h11, hhd, ho.num hw3] at hclX
     obtain ⟨_, hd, x, hhdd, hx, hxo⟩ := hHd
     have hxa := (hgood.shp l (idx_mem hlb) x (List.mem_of_getElem? hx)).a (by omega) (by omega)
     have b := htr (up :: r') (gup :: s'') hfs' (by rw [← hn3, hn3', if_neg hw3]; omega)
     have o1 := put_out h ha ht (t' := { t with frames := up :: r' }) b rfl rfl (d := 0) (by rw [hwf]; simp only; omega)
     obtain ⟨S2, T2, c1, c2, o2, d1, d2, d3, d4⟩ := tell_out o1.core o1.acc (by have e : (S.put k { t with frames := up :: r' }).recs = S.recs := rfl; rw [e]; omega) 4 0 f.num
     have m1 : S2.tasks[k]? = some { t with frames := up :: r' } := by rw [d1, put_get' ht, if_pos rfl]
     have m2 : T2.tasks[k]? = some { u with frames := gup :: s'' } := by rw [d3, putX_get hu, if_pos rfl]
     have hsl : ({ t with frames := up :: r' } : PTk).steps p = some l := hlb
     have hslX : ({ u with frames := gup :: s'' } : X.PTk).steps p = some l := by unfold X.PTk.steps; simp only; rw [htu.body]; exact hlb
     have b2 := htu.with (.inr (.inl hst)) (K := t.kept) (B := t.begun) (R := t.regs.set x.a.toNat f.num) hlb hfs' (by rw [← hn3, hn3', if_neg hw3]; omega) (by rw [List.length_set]; exact htu.len)
     have o3 := put_out o2.core o2.acc m1 b2 rfl rfl (d := 0) (by exact Nat.le_refl _)
     refine ⟨S2.put k { t with frames := up :: r', regs := t.regs.set x.a.toNat f.num, kept := t.kept, begun := t.begun }, T2.put k { u with frames := gup :: s'', regs := t.regs.set x.a.toNat f.num, kept := t.kept, begun := t.begun }, ?_, one _ ?_, ?_⟩
     ·rw [c1, Option.bind_some, idx_nat m1, Option.bind_some, hsl, Option.bind_some, hhdd, idx_nat hx, Option.bind_some, setReg_eq hxa, Option.map_some]
     ·rw [hclX, hslX, Option.bind_some, hhdd, idx_nat hx, Option.bind_some, c2, Option.bind_some, idx_nat m2, Option.bind_some, setRegX_eq hxa, Option.map_some]
      simp only [htu.regs, htu.kept, htu.begun]
     ·have w1 := PM.put_wt (t' := { t with frames := up :: r' }) ht
      have w2 := phi_put (t' := { t with frames := up :: r' }) ht
      have ot := o2.trans o3
      have ow := ot.wt
      have op := ot.phi
      rw [hwf] at w1 w2
      simp only at w1 w2
      exact .go ot.core ot.acc (o1.hk.trans ot.hk) (ot.over.trans (ha.over hlive)) ot.left (.inl ⟨ot.used, by omega, by omega⟩)
    ·rw [if_neg (fun e => h11 ⟨e.2, e.1⟩), putput]
     rw [if_neg h11, if_neg hw0, if_neg (fun e => h13 e.1), hmk] at hclX
     refine ⟨_, _, rfl, one _ hclX, ?_⟩
     refine hmark g.num ho.num (fun e => ho.noret (by rw [dfl_cons, e, Bool.or_true])) (by rw [← hn3, hn3', hnup]) f.num (fun _ => rfl)

/-! ### Both machines: defers begin; what a step does. -/

theorem leave_both {p : PPlan} (hgood : Good p) {S : PM} {T : X.PM} (h : Core p S T) (ha : Acc S T) (hlive : T.over = false) (hb : Bnd S) {k : Nat} {c : List Nat} {t : PTk} {u : X.PTk} (hk : S.run = k) (hc : Chn S.sw k c) (ht : S.tasks[k]? = some t) (hu : T.tasks[k]? = some u) (htu : TR p t u) (hst : t.state = 2)
  {f : PFr} {r : List PFr} {g : X.PFr} {s : List X.PFr} (hf : t.frames = f :: r) (hgx : u.frames = g :: s) (hlv : f.leaving = true) : ∃ S' T', S.leave p = some S' ∧ Tn p T T' ∧ Step2 p S S' T' := by
 have hroom := hb.room
 have hwt := wts_le ht
 have hlt : t.frames.length < roomy := by have := wts_len (F := t.frames); unfold roomy; omega
 have hltX : u.frames.length < roomy := by rw [htu.frames]; exact hlt
 have hrT : T.run = (k : Int) := h.run.trans hk
 have hnow : S.now = some t := by unfold PM.now; rw [hk, idx_nat ht, Option.bind_some, if_pos hlt]
 have hnowX : T.now = some u := by unfold X.PM.now; rw [hrT, idx_nat hu, Option.bind_some, if_pos hltX]
 cases hm : f.met with
 | nil =>
  have e : S.leave p = S.close p := by
   unfold PM.leave
   rw [hnow, Option.bind_some]
   simp only [hf, hm]
  rw [e]
  exact close_both hgood h ha hlive hb hk hc ht hu htu hst hf hgx hlv hm
 | cons hd m =>
  obtain ⟨l, f0, r0, g0, s0, hlb, e1, e2, hfs, hn3⟩ := htu.run (.inr (.inl hst))
  rw [hf] at e1; rw [hgx] at e2
  simp only [List.cons.injEq] at e1 e2
  obtain ⟨rfl, rfl⟩ := e1
  obtain ⟨rfl, rfl⟩ := e2
  obtain ⟨g1, s1, eg, ho⟩ := hfs.cons
  simp only [List.cons.injEq] at eg
  obtain ⟨rfl, rfl⟩ := eg
  have hgl : g.leaving = true := ho.leaving.trans hlv
  have hgm : g.met = hd :: m := ho.met.trans hm
  obtain ⟨h', x, rfl, hx, hx13, hle, hinn⟩ := ho.mets hd (by rw [hm]; simp)
  have hroomT : T.tasks.length < roomy := by have := h.few; rw [h.len]; unfold roomy; omega
  have hml : ¬ roomy ≤ m.length := by
   have := wts_met (f := f) (r := r)
   rw [hf] at hwt
   rw [hm] at this
   simp only [List.length_cons] at this
   unfold roomy; omega
  have hturn : T.turn1 p = T.close p := by
   unfold X.PM.turn1
   rw [hnowX, Option.bind_some, hgx]
   simp only
   rw [if_pos hgl]
  have one : ∀ T', T.close p = some T' → Tn p T T' := fun T' e => .next hlive hroomT (hturn.trans e) .refl
  have hmem := idx_mem hlb
  have hshp := hgood.shp l hmem x (List.mem_of_getElem? hx)
  unfold PM.leave
  rw [hnow, Option.bind_some]
  simp only [hf, hm]
  have hclX : T.close p = (if T.tick.1 = false then some T.tick.2 else if roomy ≤ m.length then none else
    (({ u with frames := { g with met := m } :: s, begun := wr64 (u.begun + 1) } : X.PTk).steps p).bind fun l => (idx l (h' : Int)).bind fun x =>
     X.PM.opens (T.tick.2.put T.run { u with frames := { g with met := m } :: s, begun := wr64 (u.begun + 1) }) h' 13 (wr64 ((h' : Int) + 1)) (wr64 (wr64 ((h' : Int) + 1) + x.size))) := by
   unfold X.PM.close
   rw [hnowX, Option.bind_some]
   simp only [hgx, hgm]
  rcases tick_both h ha hlive hb with ⟨e1, e2, hfin⟩ | ⟨hul, e1, e2, hc', ha', hk'⟩
  ·rw [e2] at hclX
   rw [e1]
   simp only [if_true] at hclX ⊢
   exact ⟨_, _, rfl, one _ hclX, .fin hfin (Hk.refl rfl rfl rfl)⟩
  ·rw [e2] at hclX
   rw [e1]
   have hov := ha.over hlive
   simp only [Bool.true_eq_false, if_false, hml] at hclX ⊢
   have hsl : ({ t with frames := { f with met := m } :: r, begun := wr64 (t.begun + 1) } : PTk).steps p = some l := hlb
   have hslX : ({ u with frames := { g with met := m } :: s, begun := wr64 (u.begun + 1) } : X.PTk).steps p = some l := by unfold X.PTk.steps; simp only; rw [htu.body]; exact hlb
   have hpush : PTk.push { t with frames := { f with met := m } :: r, begun := wr64 (t.begun + 1) } (Ytibmnlijoeppaaa.block 13 h' x.size) = some { t with frames := Ytibmnlijoeppaaa.block 13 h' x.size :: { f with met := m } :: r, begun := wr64 (t.begun + 1) } := by
    unfold PTk.push; rw [if_pos (by rw [hf] at hlt; exact hlt)]
   rw [hsl, Option.bind_some, idx_nat hx, Option.bind_some, hpush, Option.map_some]
   rw [hslX, Option.bind_some, idx_nat hx, Option.bind_some] at hclX
   unfold X.PM.opens at hclX
   generalize hSt : ({ S with used := S.used + 1 } : PM) = St at *
   generalize hTt : ({ T with left := T.left - 1, ticks := T.ticks + 1 } : X.PM) = Tt at *
   have htS : St.tasks[k]? = some t := by rw [← hSt]; exact ht
   have huT : Tt.tasks[k]? = some u := by rw [← hTt]; exact hu
   have hkT : ∀ u1, (Tt.put T.run u1).run = (k : Int) := by intro u1; rw [← hTt]; exact hrT
   rw [hkT, hrT, idx_nat (by rw [putX_get huT, if_pos rfl]), Option.bind_some, if_pos (show ({ u with frames := { g with met := m } :: s, begun := wr64 (u.begun + 1) } : X.PTk).frames.length < roomy by rw [hgx] at hltX; exact hltX), putputX] at hclX
   refine ⟨_, _, rfl, one _ hclX, ?_⟩
   rw [hk]
   have hfs2 : FS l none ({ f with met := m } :: r) ({ g with met := m } :: s) := hfs.top rfl rfl rfl ⟨ho.op, ho.fin, rfl, ho.leaving, ho.way, ho.num, ho.ways, ho.noret, (fun e => (by simp only at e; rw [hlv] at e; cases e)), fun q hq => ho.mets q (by rw [hm]; exact List.mem_cons_of_mem _ hq)⟩
   have hfs3 := FS.block hx hx13 (op := 13) rfl hshp.size (hgood.len l hmem) hle (by rw [show ((13 : Int) == 13) = true from rfl, Bool.or_true]; exact hinn) ⟨fun _ => rfl, fun _ => hlv⟩ (f := { f with met := m }) (by rw [if_neg (by decide)]; exact hfs2)
   have b := htu.with (.inr (.inl hst)) (K := t.kept) (B := wr64 (t.begun + 1)) (R := t.regs) hlb hfs3 (by rw [n3_cons]; rw [← hn3, n3_cons, n3_cons]; simp [Ytibmnlijoeppaaa.block]) htu.len
   have ex : ({ u with frames := ⟨(h' : Int), 13, wr64 ((h' : Int) + 1), wr64 (wr64 ((h' : Int) + 1) + x.size), [], false, 0, 0⟩ :: { g with met := m } :: s, begun := wr64 (u.begun + 1) } : X.PTk) =
     { u with frames := ⟨(h' : Int), 13, wr64 ((h' : Int) + 1), wr64 (wr64 ((h' : Int) + 1) + x.size), [], false, 0, 0⟩ :: { g with met := m } :: s, regs := t.regs, kept := t.kept, begun := wr64 (t.begun + 1) } := by
    rw [← htu.regs, ← htu.kept, ← htu.begun]
   rw [ex]
   have o := put_out hc' ha' htS (t' := { t with frames := Ytibmnlijoeppaaa.block 13 h' x.size :: { f with met := m } :: r, regs := t.regs, kept := t.kept, begun := wr64 (t.begun + 1) }) b rfl rfl (d := 1) (by rw [hf]; simp only [wts, Ytibmnlijoeppaaa.block, hm, List.length_nil, List.length_cons]; omega)
   have eu : St.used = S.used + 1 := by rw [← hSt]
   have el : St.left = S.left := by rw [← hSt]
   have eo : St.over = S.over := by rw [← hSt]
   have ew : St.wt = S.wt := by rw [← hSt]; rfl
   have ep : St.phi = S.phi := by rw [← hSt]; rfl
   have ow := o.wt
   have op := o.phi
   exact .go o.core o.acc (hk'.trans o.hk) (o.over.trans (eo.trans hov)) (o.left.trans el) (.inr ⟨o.used.trans eu, hul, by omega, by omega⟩)

/-- One more task. -/
theorem app_out {p : PPlan} {S : PM} {T : X.PM} (h : Core p S T) (ha : Acc S T) {b : Int} (hb : ∃ l, idx p b = some l) (hl : S.tasks.length < 60) :
  Two p S { S with tasks := S.tasks ++ [⟨b, 0, [0, 0, 0, 0], -1, ⟨0, 0, 0, 0, 0⟩, [], false, false, 0, 0, 0⟩] } { T with tasks := T.tasks ++ [⟨b, 0, [0, 0, 0, 0], -1, 0, false, false, 0, 0, 0, []⟩] } 0 0 := by
 refine ⟨⟨h.run, by simp [h.len], fun i t ht => ?_, ?_, by simp; omega⟩, ha.same ⟨rfl, rfl, rfl, rfl, rfl, rfl, rfl, rfl, rfl⟩ ⟨rfl, rfl, rfl, rfl, rfl, rfl, rfl, rfl, rfl, rfl⟩, Hk.refl rfl rfl rfl, rfl, rfl, rfl, ?_, ?_⟩
 ·simp only at ht ⊢
  by_cases hi : i < S.tasks.length
  ·rw [List.getElem?_append_left hi] at ht
   rw [List.getElem?_append_left (by rw [h.len]; exact hi)]
   exact h.tk i t ht
  ·have hlt := (List.getElem?_eq_some_iff.1 ht).1
   simp at hlt
   obtain rfl : i = S.tasks.length := by omega
   rw [List.getElem?_append_right (Nat.le_refl _), Nat.sub_self] at ht
   simp at ht
   subst ht
   refine ⟨⟨b, 0, [0, 0, 0, 0], -1, 0, false, false, 0, 0, 0, []⟩, by rw [← h.len, List.getElem?_append_right (Nat.le_refl _), Nat.sub_self]; rfl, ?_⟩
   exact ⟨rfl, rfl, rfl, rfl, rfl, rfl, rfl, rfl, rfl, fun _ => rfl, rfl, ⟨Int.le_refl 0, show (0 : Int) < 4 by decide⟩, fun _ => rfl, .inl ⟨rfl, rfl, rfl, rfl, rfl⟩, hb, fun _ => rfl, fun e => by cases e⟩
 ·obtain ⟨k, c, hk, hc⟩ := h.chain
  refine ⟨k, c, hk, hc.nodup, hc.ch.frame fun i hi s w e => ?_, fun i s w e => ?_⟩
  ·refine ⟨s, ?_⟩
   have hlt := (List.getElem?_eq_some_iff.1 e).1
   unfold PM.sw at e hlt ⊢
   simp only [List.map_append]
   rw [List.getElem?_append_left hlt]; exact e
  ·by_cases hi : i < S.sw.length
   ·refine hc.st i s w ?_
    unfold PM.sw at e hi ⊢
    simp only [List.map_append] at e
    rw [List.getElem?_append_left hi] at e; exact e
   ·have hlt := (List.getElem?_eq_some_iff.1 e).1
    have hnk : i ∉ k :: c := fun hh => hi (hc.ch.lt i hh)
    unfold PM.sw at e hlt hi
    simp only [List.map_append] at e hlt
    simp at hlt hi
    obtain rfl : i = S.tasks.length := by omega
    rw [List.getElem?_append_right (by simp)] at e
    simp at e
    obtain ⟨rfl, rfl⟩ := e
    exact ⟨fun e => absurd (by simp [e]) hnk, fun e => absurd (List.mem_cons_of_mem _ e) hnk, fun _ => ⟨.inl rfl, rfl⟩⟩
 ·simp [PM.wt, wts]
 ·simp [PM.phi, PM.wt, wts]

/-! ### Both machines: what a step does. -/

theorem act_both {p : PPlan} (hgood : Good p) {S : PM} {T : X.PM} (h : Core p S T) (ha : Acc S T) (hlive : T.over = false) (hb : S.recs.length ≤ 600000 ∧ S.rings.length ≤ 600000 ∧ S.wt ≤ 500001) {k : Nat} {t : PTk} {u : X.PTk} (hk : S.run = k) (ht : S.tasks[k]? = some t) (hu : T.tasks[k]? = some u) (htu : TR p t u) (hst : t.state = 2)
  {l : List PStep} {f : PFr} {r : List PFr} {g : X.PFr} {s : List X.PFr} (hf : t.frames = f :: r) (hgx : u.frames = g :: s) (hlb : idx p t.body = some l) (hfs : FS l none (f :: r) (g :: s)) (hn3 : n3 (f :: r) = if t.given = true then 1 else 0) (hlv : f.leaving = false)
  {x : PStep} {j : Nat} (hx : l[j]? = some x) (h14 : x.op ≠ 14) (hh : headP x.op = true → j + 1 + x.size.toNat ≤ l.length ∧ Inn l (dfl (f :: r) || x.op == 13) (j + 1) (j + 1 + x.size.toNat)) (h10 : x.op = 10 → dfl (f :: r) = false) :
  ∃ S' T', PM.act p S t f r x j = some S' ∧ X.PM.act p T u g s x j = some T' ∧ Two p S S' T' 1 70 := by
 have hwt := wts_le ht
 have hlt : t.frames.length < roomy := by have := wts_len (F := t.frames); unfold roomy; omega
 have hltX : u.frames.length < roomy := by rw [htu.frames]; exact hlt
 have hrT : T.run = (k : Int) := h.run.trans hk
 have hnow : S.now = some t := by unfold PM.now; rw [hk, idx_nat ht, Option.bind_some, if_pos hlt]
 have hnowX : T.now = some u := by unfold X.PM.now; rw [hrT, idx_nat hu, Option.bind_some, if_pos hltX]
 have hl : ∀ t' f' r', S.now = some t' → t'.frames = f' :: r' → f'.leaving = false := by
  intro t' f' r' e1 e2
  rw [hnow] at e1
  obtain rfl := Option.some.inj e1
  rw [hf] at e2
  simp only [List.cons.injEq] at e2
  rw [← e2.1]; exact hlv
 have hmem := idx_mem hlb
 have hshp := hgood.shp l hmem x (List.mem_of_getElem? hx)
 obtain ⟨g1, s1, eg, ho⟩ := hfs.cons
 simp only [List.cons.injEq] at eg
 obtain ⟨rfl, rfl⟩ := eg
 -- registers, blocks and counts of the running task
 have upd : ∀ (F : List PFr) (G : List X.PFr) (R : List Int) (K : Int) {d : Nat}, d ≤ 1 → FS l none F G → n3 F = (if t.given = true then 1 else 0) → R.length = 4 → wts F ≤ wts t.frames + d →
   Two p S (S.put k { t with frames := F, regs := R, kept := K, begun := t.begun }) (T.put k { u with frames := G, regs := R, kept := K, begun := t.begun }) 1 70 := by
  intro F G R K d hd a b c e
  exact (put_out h ha ht (htu.with (.inr (.inl hst)) hlb a b c) rfl rfl e).mono (by omega) (by omega)
 have eS : ∀ (F : List PFr) (R : List Int), ({ t with frames := F, regs := R } : PTk) = { t with frames := F, regs := R, kept := t.kept, begun := t.begun } := fun _ _ => rfl
 have eX : ∀ (G : List X.PFr) (R : List Int), ({ u with frames := G, regs := R } : X.PTk) = { u with frames := G, regs := R, kept := t.kept, begun := t.begun } := fun _ _ => by rw [← htu.kept, ← htu.begun]
 have regs : ∀ (R : List Int), R.length = 4 → Two p S (S.put k { t with regs := R }) (T.put k { u with regs := R }) 1 70 := by
  intro R hR
  have := upd t.frames u.frames R t.kept (d := 0) (by omega) (by rw [hf, hgx]; exact hfs) (by rw [hf]; exact hn3) hR (Nat.le_refl _)
  have e : ({ u with regs := R } : X.PTk) = { u with frames := u.frames, regs := R, kept := t.kept, begun := t.begun } := by rw [← htu.kept, ← htu.begun]
  rw [e]; exact this
 have h4 : ∀ (i v : Int), (t.regs.set i.toNat v).length = 4 := fun i v => by rw [List.length_set]; exact htu.len
 have open_ : headP x.op = true → x.op ≠ 13 → ∃ S' T', ((t.push (Ytibmnlijoeppaaa.block x.op j x.size)).map fun t => S.put S.run t) = some S' ∧ T.opens j x.op (wr64 ((j : Int) + 1)) (wr64 (wr64 ((j : Int) + 1) + x.size)) = some T' ∧ Two p S S' T' 1 70 := by
  intro e e13
  obtain ⟨a1, a2⟩ := hh e
  have hp : t.push (Ytibmnlijoeppaaa.block x.op j x.size) = some { t with frames := Ytibmnlijoeppaaa.block x.op j x.size :: t.frames } := by unfold PTk.push; rw [if_pos hlt]
  refine ⟨_, _, by rw [hp]; rfl, by unfold X.PM.opens; rw [hrT, idx_nat hu, Option.bind_some, if_pos hltX], ?_⟩
  rw [hk, hf, hgx]
  have hfs3 := FS.block hx (op := x.op) rfl e hshp.size (hgood.len l hmem) a1 a2 ⟨fun q => (by rw [hlv] at q; cases q), fun q => absurd q e13⟩ (f := f) (r := r) (g := g) (s := s) (by rw [if_neg h14]; exact hfs)
  have := upd (Ytibmnlijoeppaaa.block x.op j x.size :: f :: r) _ t.regs t.kept (d := 1) (Nat.le_refl _) hfs3 (by rw [n3_cons, hn3]; simp [Ytibmnlijoeppaaa.block]) htu.len (by rw [hf]; simp only [wts, Ytibmnlijoeppaaa.block, List.length_nil]; omega)
  have e2 : ∀ G, ({ u with frames := G } : X.PTk) = { u with frames := G, regs := t.regs, kept := t.kept, begun := t.begun } := fun G => by rw [← htu.regs, ← htu.kept, ← htu.begun]
  rw [e2]; exact this
 obtain ⟨o1, o2⟩ := hshp.ops
 unfold PM.act X.PM.act
 by_cases c1 : x.op = 1
 ·have hxa := hshp.a (by omega) (by omega)
  simp only [c1, Int.reduceEq, if_true, if_false]
  rw [setReg_eq hxa, setRegX_eq hxa, Option.map_some, Option.map_some, hrT, hk, htu.regs]
  exact ⟨_, _, rfl, rfl, regs _ (h4 _ _)⟩
 by_cases c2 : x.op = 2
 ·have hxa := hshp.a (by omega) (by omega)
  obtain ⟨v, hv⟩ := reg_some htu.len (hshp.b (.inl c2))
  simp only [c2, Int.reduceEq, if_true, if_false]
  rw [reg_eq htu.regs, hv, Option.bind_some, Option.bind_some, setReg_eq hxa, setRegX_eq hxa, Option.map_some, Option.map_some, hrT, hk, htu.regs]
  exact ⟨_, _, rfl, rfl, regs _ (h4 _ _)⟩
 by_cases c3 : x.op = 3
 ·have hxa := hshp.a (by omega) (by omega)
  obtain ⟨v, hv⟩ := reg_some htu.len hxa
  simp only [c3, Int.reduceEq, if_true, if_false]
  rw [reg_eq htu.regs, hv, Option.bind_some, Option.bind_some]
  obtain ⟨S', T', e1, e2, o, _⟩ := tell_out h ha (by omega) 1 0 v
  exact ⟨S', T', e1, e2, o.mono (by omega) (by omega)⟩
 by_cases c4 : x.op = 4
 ·have hxa := hshp.a (by omega) (by omega)
  simp only [c4, Int.reduceEq, if_true, if_false]
  rw [h.len]
  by_cases h60 : S.tasks.length = 60
  ·rw [if_pos h60, if_pos h60]
   obtain ⟨S', T', e1, e2, o⟩ := fail_out h ha (by omega) hb.2.2 hl (-10)
   exact ⟨S', T', e1, e2, o.mono (by omega) (by omega)⟩
  ·rw [if_neg h60, if_neg h60]
   have hfew := h.few
   have hbd := hshp.body c4
   have hbody : ∃ l, idx p x.b = some l := by
    obtain ⟨n, hn⟩ : ∃ n : Nat, x.b = n := ⟨x.b.toNat, by omega⟩
    exact ⟨p[n]'(by omega), by rw [hn]; exact idx_nat (List.getElem?_eq_getElem _)⟩
   have oa := app_out h ha hbody (by omega)
   have hc1 : S.create x.b = some { S with tasks := S.tasks ++ [⟨x.b, 0, [0, 0, 0, 0], -1, ⟨0, 0, 0, 0, 0⟩, [], false, false, 0, 0, 0⟩] } := by unfold PM.create; rw [if_pos (by unfold roomy; omega)]
   have hc2 : T.create x.b = some { T with tasks := T.tasks ++ [⟨x.b, 0, [0, 0, 0, 0], -1, 0, false, false, 0, 0, 0, []⟩] } := by unfold X.PM.create; rw [if_pos (by rw [h.len]; unfold roomy; omega)]
   have hw : wr64 (((S.tasks.length + 1 : Nat) : Int) - 1) = wr64 (S.tasks.length : Int) := by congr 1; omega
   have hpS : ∀ (Z : PM) (z : PTk), Z.put S.run z = Z.put (k : Int) z := fun Z z => by rw [hk]
   have hpT : ∀ (Z : X.PM) (z : X.PTk), Z.put T.run z = Z.put (k : Int) z := fun Z z => by rw [hrT]
   rw [hc1, hc2, Option.bind_some, Option.bind_some, setReg_eq hxa, setRegX_eq hxa, Option.map_some, Option.map_some, hpT, hpS, htu.regs, hw]
   have ht1 : ({ S with tasks := S.tasks ++ [⟨x.b, 0, [0, 0, 0, 0], -1, ⟨0, 0, 0, 0, 0⟩, [], false, false, 0, 0, 0⟩] } : PM).tasks[k]? = some t := by
    simp only; rw [List.getElem?_append_left (List.getElem?_eq_some_iff.1 ht).1]; exact ht
   have b := htu.with (.inr (.inl hst)) (K := t.kept) (B := t.begun) (R := t.regs.set x.a.toNat (wr64 (S.tasks.length : Int))) hlb (F := t.frames) (G := u.frames) (by rw [hf, hgx]; exact hfs) (by rw [hf]; exact hn3) (h4 _ _)
   have o3 := put_out oa.core oa.acc ht1 b rfl rfl (d := 0) (Nat.le_refl _)
   have e : ({ u with regs := t.regs.set x.a.toNat (wr64 (S.tasks.length : Int)) } : X.PTk) = { u with frames := u.frames, regs := t.regs.set x.a.toNat (wr64 (S.tasks.length : Int)), kept := t.kept, begun := t.begun } := by rw [← htu.kept, ← htu.begun]
   refine ⟨_, _, rfl, rfl, ?_⟩
   rw [e]
   exact (oa.trans o3).mono (by omega) (by omega)
 by_cases c5 : x.op = 5
 ·simp only [c5, Int.reduceEq, if_true, if_false]
  exact resume_out hgood h ha hlive hb hl (hshp.a (by omega) (by omega)) (hshp.b (.inr (.inl c5)))
 by_cases c6 : x.op = 6
 ·simp only [c6, Int.reduceEq, if_true, if_false]
  exact yield_out h ha hb hl (hshp.a (by omega) (by omega))
 by_cases c7 : x.op = 7
 ·simp only [c7, Int.reduceEq, if_true, if_false]
  exact giveUp_out h ha hlive hb hl (hshp.a (by omega) (by omega)) (hshp.b (.inr (.inr (.inl c7))))
 by_cases c8 : x.op = 8
 ·have hxa := hshp.a (by omega) (by omega)
  obtain ⟨n, hn⟩ := reg_some htu.len (hshp.b (.inr (.inr (.inr c8))))
  simp only [c8, Int.reduceEq, if_true, if_false]
  rw [reg_eq htu.regs, hn, Option.bind_some, Option.bind_some, h.len]
  by_cases hout : n < 0 ∨ n ≥ (S.tasks.length : Int)
  ·have hoth : ¬ S.other n = true := by
    unfold PM.other
    rcases hout with q | q
    ·rw [decide_eq_false (by omega)]; simp
    ·rw [decide_eq_false (show ¬ n < (S.tasks.length : Int) by omega), Bool.and_false]; simp
   rw [if_neg hoth, if_pos hout]
   obtain ⟨S', T', e1, e2, o⟩ := fail_out h ha (by omega) hb.2.2 hl (-12)
   exact ⟨S', T', e1, e2, o.mono (by omega) (by omega)⟩
  ·obtain ⟨m, rfl⟩ : ∃ m : Nat, n = m := ⟨n.toNat, by omega⟩
   have hoth : S.other (m : Int) = true := by
    unfold PM.other; rw [decide_eq_true (by omega), decide_eq_true (show (m : Int) < (S.tasks.length : Int) by omega)]; rfl
   have hm : S.tasks[m]? = some S.tasks[m] := List.getElem?_eq_getElem (by omega)
   obtain ⟨u2, hu2, htu2⟩ := h.tk m _ hm
   rw [if_pos hoth, if_neg hout, idx_nat hm, idx_nat hu2, Option.bind_some, Option.bind_some, setReg_eq hxa, setRegX_eq hxa, Option.map_some, Option.map_some, hrT, hk, htu.regs, htu2.state]
   exact ⟨_, _, rfl, rfl, regs _ (h4 _ _)⟩
 by_cases c9 : x.op = 9
 ·obtain ⟨v, hv⟩ := reg_some htu.len (hshp.a (by omega) (by omega))
  simp only [c9, Int.reduceEq, if_true, if_false]
  rw [reg_eq htu.regs, hv, Option.bind_some, Option.bind_some]
  obtain ⟨S', T', e1, e2, o⟩ := fail_out h ha (by omega) hb.2.2 hl v
  exact ⟨S', T', e1, e2, o.mono (by omega) (by omega)⟩
 by_cases c10 : x.op = 10
 ·obtain ⟨v, hv⟩ := reg_some htu.len (hshp.a (by omega) (by omega))
  simp only [c10, Int.reduceEq, if_true, if_false]
  rw [reg_eq htu.regs, hv, Option.bind_some, Option.map_some]
  have hmk : T.mark 1 v = some (T.put k { u with frames := { g with leaving := true, way := 1, num := v } :: s }) := by
   unfold X.PM.mark
   rw [hnowX, Option.bind_some]
   unfold X.PTk.onTop
   simp only [hgx]
   rw [if_pos (by rw [← hgx]; exact hltX), Option.map_some, hrT]
  rw [hmk, hk]
  have b := htu.mark (.inr (.inl hst)) hf hgx hlv (v := 1) (num := v) (.inr (.inl ⟨rfl, h10 c10⟩))
  exact ⟨_, _, rfl, rfl, (put_out h ha ht b rfl rfl (d := 0) (by rw [wts_mark, hf]; exact Nat.le_refl _)).mono (by omega) (by omega)⟩
 by_cases c13 : x.op = 13
 ·simp only [c13, Int.reduceEq, if_true, if_false]
  have hml : f.met.length < roomy := by
   have := wts_met (f := f) (r := r)
   rw [← hf] at this
   unfold roomy; omega
  rw [if_pos hml, if_pos (by rw [ho.met]; exact hml), hrT, hk]
  obtain ⟨a1, a2⟩ := hh (by rw [c13]; rfl)
  have hfs2 : FS l none ({ f with met := (j : Int) :: f.met } :: r) ({ g with met := (j : Int) :: g.met } :: s) := hfs.top rfl rfl rfl ⟨ho.op, ho.fin, by simp only [ho.met], ho.leaving, ho.way, ho.num, ho.ways, ho.noret, ho.live, fun q hq => by
   rcases List.mem_cons.1 hq with hq | hq
   ·refine ⟨j, x, hq, hx, c13, a1, ?_⟩
    rw [c13] at a2
    rw [show ((13 : Int) == 13) = true from rfl, Bool.or_true] at a2
    exact a2
   ·exact ho.mets q hq⟩
  have := upd ({ f with met := (j : Int) :: f.met } :: r) _ t.regs (wr64 (t.kept + 1)) (d := 1) (Nat.le_refl _) hfs2 (by rw [n3_cons, ← hn3, n3_cons]) htu.len (by rw [hf]; simp only [wts, List.length_cons]; omega)
  refine ⟨_, _, rfl, rfl, ?_⟩
  have e2 : ({ u with frames := { g with met := (j : Int) :: g.met } :: s, kept := wr64 (u.kept + 1) } : X.PTk) = { u with frames := { g with met := (j : Int) :: g.met } :: s, regs := t.regs, kept := wr64 (t.kept + 1), begun := t.begun } := by rw [← htu.regs, ← htu.kept, ← htu.begun]
  rw [e2]; exact this
 by_cases c15 : x.op = 15
 ·obtain ⟨v, hv⟩ := reg_some htu.len (hshp.a (by omega) (by omega))
  have hop := open_ (by rw [c15]; rfl) c13
  rw [c15] at hop
  simp only [c15, Int.reduceEq, if_true, if_false, or_self]
  rw [reg_eq htu.regs, hv, Option.bind_some, Option.bind_some]
  by_cases hv0 : v = 0
  ·rw [if_neg (by simpa using hv0), if_neg (by simpa using hv0)]
   refine ⟨_, _, rfl, rfl, ?_⟩
   have o : Two p S S T 0 0 := ⟨h, ha, Hk.refl rfl rfl rfl, rfl, rfl, rfl, Nat.le_refl _, Nat.le_refl _⟩
   exact o.mono (by omega) (by omega)
  ·rw [if_pos hv0, if_pos hv0]
   exact hop
 ·have c : x.op = 11 ∨ x.op = 12 := by omega
  have hop := open_ (by rcases c with c | c <;> rw [c] <;> rfl) c13
  simp only [c1, c2, c3, c4, c5, c6, c7, c8, c9, c10, c13, h14, c15, c, if_true, if_false]
  exact hop

/-! ### Both machines: a step, a run. -/

theorem put_self {S : PM} {k : Nat} {t : PTk} (ht : S.tasks[k]? = some t) : S.put k t = S := by
 unfold PM.put
 have : S.tasks.set (k : Int).toNat t = S.tasks := by
  rw [Int.toNat_natCast]
  refine List.ext_getElem? fun i => ?_
  rw [set_get (List.getElem?_eq_some_iff.1 ht).1]
  split
  ·rename_i h; rw [h, ht]
  ·rfl
 rw [this]
theorem put_selfX {T : X.PM} {k : Nat} {u : X.PTk} (hu : T.tasks[k]? = some u) : T.put k u = T := by
 unfold X.PM.put
 have : T.tasks.set (k : Int).toNat u = T.tasks := by
  rw [Int.toNat_natCast]
  refine List.ext_getElem? fun i => ?_
  rw [set_get (List.getElem?_eq_some_iff.1 hu).1]
  split
  ·rename_i h; rw [h, hu]
  ·rfl
 rw [this]

theorem Step2.of {p : PPlan} {S S1 S' : PM} {T' : X.PM} (h : Step2 p S1 S' T') (hk : Hk S S1) (e1 : S1.used = S.used) (e2 : S1.left = S.left) (e3 : S1.wt ≤ S.wt) (e4 : S1.phi ≤ S.phi) : Step2 p S S' T' := by
 cases h with
 | fin a b => exact .fin a (hk.trans b)
 | go a b c d e f =>
  refine .go a b (hk.trans c) d (e.trans e2) ?_
  rcases f with ⟨f1, f2, f3⟩ | ⟨f1, f2, f3, f4⟩
  ·exact .inl ⟨f1.trans e1, by omega, by omega⟩
  ·exact .inr ⟨by rw [f1, e1], by omega, by omega, by omega⟩

theorem step_both {p : PPlan} (hgood : Good p) {S : PM} {T : X.PM} (h : Core p S T) (ha : Acc S T) (hlive : T.over = false) (hb : Bnd S) : ∃ S' T', S.step p = some S' ∧ Tn p T T' ∧ Step2 p S S' T' := by
 have hroom := hb.room
 obtain ⟨k, c, t, u, hk, hc, ht, hu, htu, hst, hfl, hnow, hnowX, i1, i2⟩ := h.now hroom.2.2
 obtain ⟨l, f, r, g, s, hlb, hf, hgx, hfs, hn3⟩ := htu.run (.inr (.inl hst))
 obtain ⟨g1, s1, eg, ho⟩ := hfs.cons
 simp only [List.cons.injEq] at eg
 obtain ⟨rfl, rfl⟩ := eg
 have hrT : T.run = (k : Int) := h.run.trans hk
 have hroomT : T.tasks.length < roomy := by have := h.few; rw [h.len]; unfold roomy; omega
 have hltX : u.frames.length < roomy := by rw [htu.frames]; unfold roomy; omega
 have hmem := idx_mem hlb
 have hwt := wts_le ht
 unfold PM.step
 rw [hnow, Option.bind_some]
 simp only [hf]
 by_cases hlv : f.leaving = true
 ·rw [if_pos hlv]
  exact leave_both hgood h ha hlive hb hk hc ht hu htu hst hf hgx hlv
 rw [if_neg hlv]
 have hlv' : f.leaving = false := by simpa using hlv
 have hgl : g.leaving = false := ho.leaving.trans hlv'
 obtain ⟨hw0, hnm0, i, to, hpc, hfin, hito, htol, hinn, hPc⟩ := ho.live hlv'
 have hgpc : g.pc = i := hPc
 by_cases hpf : f.pc = f.fin
 ·rw [if_pos hpf, hk]
  have b := htu.mark (.inr (.inl hst)) hf hgx hlv' (v := 0) (num := 0) (.inl rfl)
  have ef : ({ f with leaving := true, way := 0, num := 0 } : PFr) = { f with leaving := true } := by
   show (⟨f.op, f.hd, f.pc, f.fin, f.met, true, 0, 0⟩ : PFr) = ⟨f.op, f.hd, f.pc, f.fin, f.met, true, f.way, f.num⟩
   rw [hw0, hnm0]
  rw [ef] at b
  have o := put_out h ha ht (t' := { t with frames := { f with leaving := true } :: r }) b rfl rfl (d := 0) (by rw [hf]; exact Nat.le_refl _)
  have hsw : (S.put k { t with frames := { f with leaving := true } :: r }).sw = S.sw := put_sw_same ht rfl rfl
  have ow := o.wt
  have op := o.phi
  have ht1 : (S.put k { t with frames := { f with leaving := true } :: r }).tasks[k]? = some { t with frames := { f with leaving := true } :: r } := by rw [put_get' ht, if_pos rfl]
  have hu1 : (T.put k { u with frames := { g with leaving := true, way := 0, num := 0 } :: s }).tasks[k]? = some { u with frames := { g with leaving := true, way := 0, num := 0 } :: s } := by rw [putX_get hu, if_pos rfl]
  have hturn : T.turn1 p = some (T.put k { u with frames := { g with leaving := true, way := 0, num := 0 } :: s }) := by
   unfold X.PM.turn1
   rw [hnowX, Option.bind_some]
   simp only [hgx]
   rw [if_neg (by rw [hgl]; simp), if_pos (by rw [hgpc, ho.fin, ← hpf, hpc])]
   unfold X.PM.mark
   rw [hnowX, Option.bind_some]
   unfold X.PTk.onTop
   simp only [hgx]
   rw [if_pos (by rw [← hgx]; exact hltX), Option.map_some, hrT]
  have hb1 : Bnd (S.put k { t with frames := { f with leaving := true } :: r }) := ⟨by rw [o.used, o.left]; exact hb.used, by have := hb.phi; rw [o.used]; omega⟩
  obtain ⟨S', T', e1, e2, hstep⟩ := leave_both hgood o.core o.acc hlive hb1 hk (by rw [hsw]; exact hc) ht1 hu1 b hst rfl rfl rfl
  exact ⟨S', T', e1, .next hlive hroomT hturn e2, hstep.of o.hk o.used o.left (by omega) (by omega)⟩
 rw [if_neg hpf]
 have hne : i ≠ to := by intro e; exact hpf (by rw [hpc, hfin, e])
 have hstepl : ({ t with frames := f :: r } : PTk).steps p = some l := hlb
 have hsl : t.steps p = some l := hlb
 have hslX : u.steps p = some l := by unfold X.PTk.steps; rw [htu.body]; exact hlb
 -- the step
 obtain ⟨x, hx, hto, hrest, hhead, h10⟩ : ∃ x, l[i]? = some x ∧ i + 1 + x.size.toNat ≤ to ∧ Inn l (dfl (f :: r)) (i + 1 + x.size.toNat) to ∧ (headP x.op = true → Inn l (dfl (f :: r) || x.op == 13) (i + 1) (i + 1 + x.size.toNat)) ∧ (x.op = 10 → dfl (f :: r) = false) := by
  cases hinn with
  | nil => exact absurd rfl hne
  | head a1 a2 a3 a4 a5 => exact ⟨_, a1, a3, a5, fun _ => a4, fun e => (by rw [e] at a2; cases a2)⟩
  | step a1 a2 a3 a4 a5 =>
   rename_i x
   have := (hgood.shp l hmem x (List.mem_of_getElem? a1)).flat a2
   have e0 : x.size.toNat = 0 := by omega
   refine ⟨x, a1, by omega, by rw [e0]; exact a5, fun e => (by rw [a2] at e; cases e), fun e => ?_⟩
   cases hd : dfl (f :: r) with
   | false => rfl
   | true => exact absurd ⟨e, hd⟩ a3
 have hshp := hgood.shp l hmem x (List.mem_of_getElem? hx)
 have hsz := hshp.size
 have hl300 := hgood.len l hmem
 have hadv : wr64 (f.pc + wr64 (1 + x.size)) = ((i + 1 + x.size.toNat : Nat) : Int) := by rw [hpc, wr_small (n := 1 + x.size) (by omega), wr_small (by omega)]; omega
 have hturn : T.turn1 p = T.step p := by
  unfold X.PM.turn1
  rw [hnowX, Option.bind_some]
  simp only [hgx]
  rw [if_neg (by rw [hgl]; simp), if_neg (by rw [hgpc, ho.fin, ← hpc]; exact hpf)]
 rw [hsl, Option.bind_some, hpc, idx_nat hx, Option.bind_some, ← hpc, hadv, hk]
 by_cases h14 : x.op = 14
 ·rw [if_pos h14]
  unfold PM.act
  simp only [h14, Int.reduceEq, if_true, if_false]
  have hfs2 : FS l (some (i : Int)) ({ f with pc := ((i + 1 + x.size.toNat : Nat) : Int) } :: r) (g :: s) := hfs.top rfl rfl rfl ⟨ho.op, ho.fin, ho.met, ho.leaving, ho.way, ho.num, ho.ways, ho.noret, fun _ => ⟨hw0, hnm0, i + 1 + x.size.toNat, to, rfl, hfin, hto, htol, hrest, i, x, rfl, hgpc, hx, h14, rfl, by
   have := hhead (by rw [h14]; rfl)
   rw [h14] at this
   simpa using this⟩, ho.mets⟩
  obtain ⟨S', T', e1, e2, hstep⟩ := look_both hgood h ha hlive hb hk ht hu htu hst hlb hfs2 hlv' (by rw [n3_cons]; rw [← hn3, n3_cons]) (by rw [hf]; exact Nat.le_refl _)
  have eu : ({ u with frames := g :: s } : X.PTk) = u := by rw [← hgx]
  rw [eu, put_selfX hu] at e2
  have hr1 : (S.put k { t with frames := { f with pc := ((i + 1 + x.size.toNat : Nat) : Int) } :: r }).run = (k : Int) := hk
  rw [hr1, hpc]
  exact ⟨S', T', e1, .next hlive hroomT e2 .refl, hstep⟩
 rw [if_neg h14]
 have hstX : T.step p = (if T.tick.1 = false then some T.tick.2 else
   T.tick.2.now.bind fun t => match t.frames with
   | [] => none
   | f :: r => (t.steps p).bind fun l => (idx l f.pc).bind fun x =>
     X.PM.act p (T.tick.2.put T.run { t with frames := { f with pc := wr64 (f.pc + wr64 (1 + x.size)) } :: r }) { t with frames := { f with pc := wr64 (f.pc + wr64 (1 + x.size)) } :: r }
      { f with pc := wr64 (f.pc + wr64 (1 + x.size)) } r x f.pc) := by
  unfold X.PM.step
  rw [hnowX, Option.bind_some]
  simp only [hgx]
  rfl
 rcases tick_both h ha hlive hb with ⟨e1, e2, hfin2⟩ | ⟨hul, e1, e2, hc', ha', hk'⟩
 ·rw [e2] at hstX
  rw [e1]
  simp only [if_true] at hstX ⊢
  exact ⟨_, _, rfl, .next hlive hroomT (hturn.trans hstX) .refl, .fin hfin2 (Hk.refl rfl rfl rfl)⟩
 ·rw [e2] at hstX
  rw [e1]
  have hov := ha.over hlive
  simp only [Bool.true_eq_false, if_false] at hstX ⊢
  have hliveT : ({ T with left := T.left - 1, ticks := T.ticks + 1 } : X.PM).over = false := hlive
  have eu : ({ S with used := S.used + 1 } : PM).used = S.used + 1 := rfl
  have el : ({ S with used := S.used + 1 } : PM).left = S.left := rfl
  have eo : ({ S with used := S.used + 1 } : PM).over = S.over := rfl
  have ew : ({ S with used := S.used + 1 } : PM).wt = S.wt := rfl
  have ep : ({ S with used := S.used + 1 } : PM).phi = S.phi := rfl
  have er : ({ S with used := S.used + 1 } : PM).recs = S.recs ∧ ({ S with used := S.used + 1 } : PM).rings = S.rings := ⟨rfl, rfl⟩
  have htS : ({ S with used := S.used + 1 } : PM).tasks[k]? = some t := ht
  have huT : ({ T with left := T.left - 1, ticks := T.ticks + 1 } : X.PM).tasks[k]? = some u := hu
  have hkS : ({ S with used := S.used + 1 } : PM).run = (k : Int) := hk
  have hkT : ({ T with left := T.left - 1, ticks := T.ticks + 1 } : X.PM).run = (k : Int) := hrT
  generalize ({ S with used := S.used + 1 } : PM) = St at *
  generalize ({ T with left := T.left - 1, ticks := T.ticks + 1 } : X.PM) = Tt at *
  have hnT : Tt.now = some u := by
   unfold X.PM.now
   rw [hkT, idx_nat huT, Option.bind_some, if_pos hltX]
  rw [hnT, Option.bind_some] at hstX
  simp only [hgx] at hstX
  rw [hslX, Option.bind_some, hgpc, idx_nat hx, Option.bind_some, hrT, ← hpc, hadv, hpc] at hstX
  have hfs2 : FS l none ({ f with pc := ((i + 1 + x.size.toNat : Nat) : Int) } :: r) ({ g with pc := ((i + 1 + x.size.toNat : Nat) : Int) } :: s) := hfs.top rfl rfl rfl ⟨ho.op, ho.fin, ho.met, ho.leaving, ho.way, ho.num, ho.ways, ho.noret, fun _ => ⟨hw0, hnm0, i + 1 + x.size.toNat, to, rfl, hfin, hto, htol, hrest, rfl⟩, ho.mets⟩
  have hn32 : n3 ({ f with pc := ((i + 1 + x.size.toNat : Nat) : Int) } :: r) = if t.given = true then 1 else 0 := by rw [n3_cons]; rw [← hn3, n3_cons]
  have b0 := htu.with (.inr (.inl hst)) (K := t.kept) (B := t.begun) (R := t.regs) hlb hfs2 hn32 htu.len
  have ex : ({ u with frames := { g with pc := ((i + 1 + x.size.toNat : Nat) : Int) } :: s, regs := t.regs, kept := t.kept, begun := t.begun } : X.PTk) = { u with frames := { g with pc := ((i + 1 + x.size.toNat : Nat) : Int) } :: s } := by rw [← htu.regs, ← htu.kept, ← htu.begun]
  rw [ex] at b0
  have b : TR p { t with frames := { f with pc := ((i + 1 + x.size.toNat : Nat) : Int) } :: r } { u with frames := { g with pc := ((i + 1 + x.size.toNat : Nat) : Int) } :: s } := b0
  have o1 := put_out hc' ha' htS b rfl rfl (d := 0) (by rw [hf]; exact Nat.le_refl _)
  have w1 := o1.wt
  have p1 := o1.phi
  have hrr : (St.put k { t with frames := { f with pc := ((i + 1 + x.size.toNat : Nat) : Int) } :: r }).recs = St.recs ∧ (St.put k { t with frames := { f with pc := ((i + 1 + x.size.toNat : Nat) : Int) } :: r }).rings = St.rings := ⟨rfl, rfl⟩
  obtain ⟨S', T', d1, d2, o2⟩ := act_both hgood o1.core o1.acc hliveT (by rw [hrr.1, hrr.2, er.1, er.2]; omega) (by exact hkS) (by rw [put_get' htS, if_pos rfl]) (by rw [putX_get huT, if_pos rfl]) b hst rfl rfl hlb hfs2 hn32 hlv' hx h14 (fun e => ⟨by omega, hhead e⟩) h10
  have ow := o2.wt
  have op := o2.phi
  refine ⟨S', T', ?_, .next hlive hroomT (hturn.trans (hstX.trans d2)) .refl, .go o2.core o2.acc (hk'.trans (o1.hk.trans o2.hk)) (o2.over.trans (o1.over.trans (eo.trans hov))) (o2.left.trans (o1.left.trans el)) (.inr ⟨o2.used.trans (o1.used.trans eu), hul, by omega, by omega⟩)⟩
  rw [hpc]; exact d1

theorem Tn.runs {p : PPlan} {T T1 T2 : X.PM} (h : Tn p T T1) (h2 : ∃ n, X.PM.runs p n T1 = some T2) : ∃ n, X.PM.runs p n T = some T2 := by
 induction h with
 | refl => exact h2
 | next a b c _ ih =>
  obtain ⟨n, hn⟩ := ih h2
  exact ⟨n + 1, by unfold X.PM.runs; rw [if_neg (by rw [a]; simp), if_pos b, c, Option.bind_some]; exact hn⟩

/-- How both runs end. -/
inductive End (S : PM) (T : X.PM) : Prop
 | same : Fin2 S T → End S T
 | stopped (n k : Int) : S.hook = some ⟨n, k, T.stand⟩ → T.states = [] → T.tasks.length ≤ 60 → T.stop ≠ -1 → End S T

theorem run_both {p : PPlan} (hgood : Good p) : ∀ (n : Nat) (S : PM) (T : X.PM), 3 * (S.left - S.used).toNat + S.wt ≤ n → Core p S T → Acc S T → T.over = false → Bnd S →
  ∃ S' T0, (∃ m, PM.runs p m S = some S') ∧ Hk S S' ∧ Fin2 S' T0 ∧ ∃ T', (∃ m, X.PM.runs p m T = some T') ∧ End S' T' := by
 intro n
 induction n using Nat.strongRecOn with
 | ind n ih =>
  intro S T hM h ha hlive hb
  obtain ⟨S1, T1, e1, e2, hstep⟩ := step_both hgood h ha hlive hb
  have hov := ha.over hlive
  have hrS : S.tasks.length < roomy := by have := h.few; unfold roomy; omega
  have more : ∀ {S'}, (∃ m, PM.runs p m S1 = some S') → ∃ m, PM.runs p m S = some S' := fun ⟨m, hm⟩ => ⟨m + 1, by unfold PM.runs; rw [if_neg (by rw [hov]; simp), if_pos hrS, e1, Option.bind_some]; exact hm⟩
  have now1 : S1.over = true → PM.runs p 1 S1 = some S1 := fun e => by unfold PM.runs; rw [if_pos e]
  have now2 : ∀ {Z : X.PM}, Z.over = true → X.PM.runs p 1 Z = some Z := fun e => by unfold X.PM.runs; rw [if_pos e]
  cases hstep with
  | fin a b => exact ⟨S1, T1, more ⟨1, now1 a.overS⟩, b, a, T1, e2.runs ⟨1, now2 a.overT⟩, .same a⟩
  | go a b c d e f =>
   have hu := hb.used
   have hb1 : Bnd S1 := by
    have hp := hb.phi
    rcases f with ⟨f1, f2, f3⟩ | ⟨f1, f2, f3, f4⟩
    ·exact ⟨by rw [f1, e]; exact hu, by rw [f1]; omega⟩
    ·exact ⟨by rw [f1, e]; omega, by rw [f1]; omega⟩
   have hM1 : 3 * (S1.left - S1.used).toNat + S1.wt < n := by
    rcases f with ⟨f1, f2, f3⟩ | ⟨f1, f2, f3, f4⟩
    ·rw [f1, e]; omega
    ·rw [f1, e]; omega
   by_cases hl1 : T1.over = false
   ·obtain ⟨S', T0, g1, g2, g3, T', g4, g5⟩ := ih _ hM1 S1 T1 (Nat.le_refl _) a b hl1 hb1
    exact ⟨S', T0, more g1, c.trans g2, g3, T', e2.runs g4, g5⟩
   ·cases b with
    | live b1 => exact absurd b1 hl1
    | dead b1 b2 b3 hs1 b5 =>
     obtain ⟨q, k, k1, k2, k3⟩ := b3
     have hT0 : Core p S1 { T1 with over := false, code := S1.code, num := S1.num, recs := S1.recs, rings := S1.rings, ticks := S1.used, left := S1.left - S1.used, stand := ⟨false, 0, []⟩, stop := -1, states := [] } := ⟨a.run, a.len, a.tk, a.chain, a.few⟩
     have hA0 : Acc S1 { T1 with over := false, code := S1.code, num := S1.num, recs := S1.recs, rings := S1.rings, ticks := S1.used, left := S1.left - S1.used, stand := ⟨false, 0, []⟩, stop := -1, states := [] } := .live rfl d ⟨rfl, b5.2⟩ rfl rfl rfl rfl rfl rfl rfl hs1 (.inl rfl)
     obtain ⟨S', T0, g1, g2, g3, _⟩ := ih _ hM1 S1 _ (Nat.le_refl _) hT0 hA0 rfl hb1
     obtain ⟨st', m1, m2, m3⟩ := g2.2 q k _ k1 k3
     refine ⟨S', T0, more g1, c.trans g2, g3, T1, e2.runs ⟨1, now2 b1⟩, .stopped _ k (by rw [m1, m2 k2]) b2 (by rw [a.len]; exact a.few) b5.1⟩

/-! ### Both runs from their beginning. -/

/-- Both machines before their first step. -/
theorem both_start {p : PPlan} (hok : (okP p).1 = 0) {ticks : Int} (ht : 0 ≤ ticks ∧ ticks ≤ 5000) {hook : Option PHk} {stop : Int} (hs : (stop = -1 ∧ (hook = none ∨ ∃ k st, hook = some ⟨0, k, st⟩)) ∨ ∃ k : Nat, stop = k ∧ hook = some ⟨0, k, ⟨false, 0, []⟩⟩) :
  ∃ S T, PM.fresh p ticks hook = some S ∧ X.PM.fresh p ticks stop = some T ∧ Core p S T ∧ Acc S T ∧ T.over = false ∧ Bnd S ∧ S.hook = hook ∧ S.recs = [] ∧ S.run = 0 ∧ S.tasks.map (·.waiter) = [-1] := by
 have hgood := Good.of hok
 have hp := hgood.some
 have hb0 : p[0]? = some p[0] := List.getElem?_eq_getElem (by omega)
 have hi0 : idx p 0 = some p[0] := idx_nat (n := 0) hb0
 generalize p[0] = l at hb0 hi0
 have hS : PM.fresh p ticks hook = some ⟨ticks, 0, [⟨0, 2, [0, 0, 0, 0], -1, ⟨0, 0, 0, 0, 0⟩, [⟨0, -1, 0, l.length, [], false, 0, 0⟩], false, false, 0, 0, 0⟩], 0, 0, [], 0, 0, [], false, hook, []⟩ := by
  unfold PM.fresh PM.create
  rw [if_pos (by simp [roomy]), Option.bind_some]
  unfold PM.start
  simp only [List.nil_append]
  have e1 : idx [(⟨0, 0, [0, 0, 0, 0], -1, ⟨0, 0, 0, 0, 0⟩, [], false, false, 0, 0, 0⟩ : PTk)] 0 = some ⟨0, 0, [0, 0, 0, 0], -1, ⟨0, 0, 0, 0, 0⟩, [], false, false, 0, 0, 0⟩ := rfl
  rw [e1, Option.bind_some, if_pos rfl]
  have e2 : PTk.steps p ⟨0, 0, [0, 0, 0, 0], -1, ⟨0, 0, 0, 0, 0⟩, [], false, false, 0, 0, 0⟩ = some l := hi0
  rw [e2]
  rfl
 have hT : X.PM.fresh p ticks stop = some ⟨ticks, [⟨0, 2, [0, 0, 0, 0], -1, 0, false, false, 0, 0, 0, [⟨0, 0, 0, l.length, [], false, 0, 0⟩]⟩], 0, false, 0, [], 0, 0, [], [], stop, ⟨false, 0, []⟩⟩ := by
  unfold X.PM.fresh
  rw [hi0, Option.bind_some]
  unfold X.PM.opens
  have e1 : idx [(⟨0, 2, [0, 0, 0, 0], -1, 0, false, false, 0, 0, 0, []⟩ : X.PTk)] 0 = some ⟨0, 2, [0, 0, 0, 0], -1, 0, false, false, 0, 0, 0, []⟩ := rfl
  simp only
  rw [e1, Option.bind_some, if_pos (by simp [roomy])]
  rfl
 have hcore : Core p ⟨ticks, 0, [⟨0, 2, [0, 0, 0, 0], -1, ⟨0, 0, 0, 0, 0⟩, [⟨0, -1, 0, l.length, [], false, 0, 0⟩], false, false, 0, 0, 0⟩], 0, 0, [], 0, 0, [], false, hook, []⟩
   ⟨ticks, [⟨0, 2, [0, 0, 0, 0], -1, 0, false, false, 0, 0, 0, [⟨0, 0, 0, l.length, [], false, 0, 0⟩]⟩], 0, false, 0, [], 0, 0, [], [], stop, ⟨false, 0, []⟩⟩ := by
  refine ⟨rfl, rfl, fun i t hi => ?_, ⟨0, [], rfl, by simp, ⟨rfl, 2, rfl⟩, fun i s w e => ?_⟩, by simp⟩
  ·cases i with
   | zero =>
    simp at hi
    subst hi
    exact ⟨_, rfl, rfl, rfl, rfl, rfl, rfl, rfl, rfl, rfl, rfl, fun _ => rfl, rfl, ⟨Int.le_refl 0, show (0 : Int) < 4 by decide⟩, fun _ => rfl, .inr (.inr ⟨.inr (.inl rfl), l, hi0, FS.begin hgood hi0, rfl⟩), ⟨l, hi0⟩, fun e => by simp at e, fun e => by simp at e⟩
   | succ i => simp at hi
  ·cases i with
   | zero =>
    simp [PM.sw] at e
    exact ⟨fun _ => e.1.symm, fun hh => (by cases hh), fun hh => absurd (List.mem_singleton.2 rfl) hh⟩
   | succ i => simp [PM.sw] at e
 have hacc : Acc ⟨ticks, 0, [⟨0, 2, [0, 0, 0, 0], -1, ⟨0, 0, 0, 0, 0⟩, [⟨0, -1, 0, l.length, [], false, 0, 0⟩], false, false, 0, 0, 0⟩], 0, 0, [], 0, 0, [], false, hook, []⟩
   ⟨ticks, [⟨0, 2, [0, 0, 0, 0], -1, 0, false, false, 0, 0, 0, [⟨0, 0, 0, l.length, [], false, 0, 0⟩]⟩], 0, false, 0, [], 0, 0, [], [], stop, ⟨false, 0, []⟩⟩ := by
  refine .live rfl rfl ⟨rfl, rfl⟩ rfl rfl rfl rfl (by simp) rfl rfl rfl ?_
  rcases hs with ⟨e, _⟩ | ⟨k, e1, e2⟩
  ·exact .inl e
  ·exact .inr ⟨k, e1, by simp only [e2]; rfl, by simp⟩
 have hbnd : Bnd ⟨ticks, 0, [⟨0, 2, [0, 0, 0, 0], -1, ⟨0, 0, 0, 0, 0⟩, [⟨0, -1, 0, l.length, [], false, 0, 0⟩], false, false, 0, 0, 0⟩], 0, 0, [], 0, 0, [], false, hook, []⟩ :=
  ⟨by simp; omega, by simp [PM.phi, PM.wt, wts]⟩
 exact ⟨_, _, hS, hT, hcore, hacc, rfl, hbnd, rfl, rfl, rfl, rfl⟩

/-- A run of a valid plan: both machines begin, go in step, end. -/
theorem both_run {p : PPlan} (hok : (okP p).1 = 0) {ticks : Int} (ht : 0 ≤ ticks ∧ ticks ≤ 5000) {hook : Option PHk} {stop : Int} (hs : (stop = -1 ∧ (hook = none ∨ ∃ k st, hook = some ⟨0, k, st⟩)) ∨ ∃ k : Nat, stop = k ∧ hook = some ⟨0, k, ⟨false, 0, []⟩⟩) :
  ∃ S S' T0 T', (∃ m, ((PM.fresh p ticks hook).bind fun S => PM.runs p m S) = some S') ∧ PM.fresh p ticks hook = some S ∧ S.hook = hook ∧ S.recs = [] ∧ Hk S S' ∧ Fin2 S' T0 ∧ (∃ m, ((X.PM.fresh p ticks stop).bind fun T => X.PM.runs p m T) = some T') ∧ End S' T' := by
 have hgood := Good.of hok
 obtain ⟨S, T, hS, hT, hcore, hacc, hov, hbnd, h1, h2, _⟩ := both_start hok ht hs
 obtain ⟨S', T0, ⟨m, hm⟩, hk, hf, T', ⟨m', hm'⟩, he⟩ := run_both hgood _ _ _ (Nat.le_refl _) hcore hacc hov hbnd
 exact ⟨S, S', T0, T', ⟨m, by rw [hS, Option.bind_some]; exact hm⟩, hS, h1, h2, hk, hf, ⟨m', by rw [hT, Option.bind_some]; exact hm'⟩, he⟩

/-- Without a hook, without a stop: both end alike. -/
theorem both_end {p : PPlan} (hok : (okP p).1 = 0) {ticks : Int} (ht : 0 ≤ ticks ∧ ticks ≤ 5000) :
  ∃ S' T', (∃ m, ((PM.fresh p ticks none).bind fun S => PM.runs p m S) = some S') ∧ (∃ m, ((X.PM.fresh p ticks (-1)).bind fun T => X.PM.runs p m T) = some T') ∧ Fin2 S' T' := by
 obtain ⟨S, S', T0, T', e1, e2, e3, e4, hk, hf, e5, he⟩ := both_run hok ht (hook := none) (stop := -1) (.inl ⟨rfl, .inl rfl⟩)
 refine ⟨S', T', e1, e5, ?_⟩
 cases he with
 | same h => exact h
 | stopped n k a b c => rw [hk.1 e3] at a; cases a
end Go.Proofs.Ytibmnlijoeppaaa
