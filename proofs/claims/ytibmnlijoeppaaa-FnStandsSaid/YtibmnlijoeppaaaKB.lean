/-
 A task that is done has begun all the defers that it kept.
-/
import Derived.Test.YtibmnlijoeppaaaIM
namespace Go.Proofs.Ytibmnlijoeppaaa
set_option linter.unusedSimpArgs false
set_option linter.unusedVariables false

def mets : List PFr → Nat
 | [] => 0
 | f :: r => f.met.length + mets r
/-- Kept is begun and what is still to be begun. -/
def KT (t : PTk) : Prop := t.kept = wr64 (t.begun + mets t.frames) ∧ wr64 t.begun = t.begun
structure KI (S : PM) : Prop where
 tk : ∀ t ∈ S.tasks, KT t
 hk : ∀ h, S.hook = some h → ∀ v ∈ h.stand.tasks, v.blocks = 0 → v.kept = v.begun

theorem wr_wr (a : Int) : wr64 (wr64 a) = wr64 a := by unfold wr64; rw [IntKind.wrap_i64, IntKind.wrap_i64]; omega
theorem wr_add (a b : Int) : wr64 (wr64 a + b) = wr64 (a + b) := by unfold wr64; rw [IntKind.wrap_i64, IntKind.wrap_i64, IntKind.wrap_i64]; omega

theorem KT.of {t u : PTk} (h : KT t) (h1 : u.kept = t.kept) (h2 : u.begun = t.begun) (h3 : mets u.frames = mets t.frames) : KT u := by
 unfold KT; rw [h1, h2, h3]; exact h
theorem KT.setReg {t u : PTk} {a v : Int} (h : KT t) (e : t.setReg a v = some u) : KT u := by
 unfold PTk.setReg at e
 split at e
 ·rw [← Option.some.inj e]; exact h.of rfl rfl rfl
 ·cases e
theorem KT.push {t u : PTk} {f : PFr} (h : KT t) (e : t.push f = some u) (hf : f.met = []) : KT u := by
 unfold PTk.push at e
 split at e
 ·rw [← Option.some.inj e]; exact h.of rfl rfl (by simp [mets, hf])
 ·cases e
theorem KT.onTop {t u : PTk} {g : PFr → PFr} (h : KT t) (e : t.onTop g = some u) (hg : ∀ f, (g f).met = f.met) : KT u := by
 unfold PTk.onTop at e
 split at e
 ·rename_i f r hf
  split at e
  ·rw [← Option.some.inj e]; exact h.of rfl rfl (by rw [hf]; simp [mets, hg])
  ·cases e
 ·cases e
theorem KT.done {t : PTk} (h : KT t) (e : t.frames = []) : t.kept = t.begun := by
 have := h.1; rw [e] at this; simpa [mets, h.2] using this

theorem KI.of {S S' : PM} (h : KI S) (h1 : S'.tasks = S.tasks) (h2 : S'.hook = S.hook) : KI S' := ⟨h1 ▸ h.tk, h2 ▸ h.hk⟩
theorem KI.put {S : PM} {i : Int} {t : PTk} (h : KI S) (ht : KT t) : KI (S.put i t) := ⟨fun u hu => by
 rcases List.mem_or_eq_of_mem_set hu with h1 | rfl
 ·exact h.tk u h1
 ·exact ht, h.hk⟩
theorem KI.idx {S : PM} {i : Int} {t : PTk} (h : KI S) (e : idx S.tasks i = some t) : KT t := by
 unfold Ytibmnlijoeppaaa.idx at e
 split at e
 ·exact h.tk t (List.mem_of_getElem? e)
 ·cases e
theorem KI.now {S : PM} {t : PTk} (h : KI S) (e : S.now = some t) : KT t := by
 unfold PM.now at e
 obtain ⟨t', h1, e⟩ := Option.bind_eq_some_iff.1 e
 split at e
 ·rw [← Option.some.inj e]; exact h.idx h1
 ·cases e
theorem KI.tick {S : PM} (h : KI S) : KI S.tick.2 := by unfold PM.tick; split <;> exact h.of rfl rfl

def KO (o : Option PM) : Prop := ∀ S', o = some S' → KI S'
theorem KO.some {S : PM} (h : KI S) : KO (.some S) := fun _ e => (Option.some.inj e) ▸ h
theorem KO.none : KO .none := fun _ e => by cases e
theorem KO.bind {α : Type} {o : Option α} {g : α → Option PM} (h : ∀ x, o = Option.some x → KO (g x)) : KO (o.bind g) := by
 intro S' e
 obtain ⟨x, h1, h2⟩ := Option.bind_eq_some_iff.1 e
 exact h x h1 S' h2
theorem KO.map {α : Type} {o : Option α} {g : α → PM} (h : ∀ x, o = Option.some x → KI (g x)) : KO (o.map g) := by
 intro S' e
 obtain ⟨x, h1, rfl⟩ := Option.map_eq_some_iff.1 e
 exact h x h1
theorem KO.ite {c : Prop} [Decidable c] {a b : Option PM} (h1 : c → KO a) (h2 : ¬c → KO b) : KO (if c then a else b) := by split <;> (first | exact h1 ‹_› | exact h2 ‹_›)
theorem KO.then {o : Option PM} {g : PM → Option PM} (h : KO o) (h2 : ∀ S1, KI S1 → KO (g S1)) : KO (o.bind g) := .bind fun x e => h2 x (h x e)

section
variable {S : PM}
theorem ko_tell {a b c : Int} (h : KI S) : KO (S.tell a b c) := by
 unfold PM.tell
 refine .ite (fun _ => .some ?_) fun _ => .none
 unfold PM.hooked
 split
 ·exact h.of rfl rfl
 ·rename_i hk e
  refine ⟨h.tk, fun q hq v hv hb => ?_⟩
  simp only [Option.some.injEq] at hq
  subst hq
  simp only at hv
  split at hv
  ·obtain ⟨t, ht, rfl⟩ := List.mem_map.1 hv
   exact (h.tk t ht).done (List.eq_nil_of_length_eq_zero (by simpa [PTk.view] using hb))
  ·exact h.hk hk e v hv hb
theorem ko_fail {n : Int} (h : KI S) : KO (S.fail n) := .then (ko_tell h) fun S1 h1 => .bind fun t e => .map fun u e' => h1.put ((h1.now e).onTop e' fun _ => rfl)
theorem ko_turn {a b : Int} (h : KI S) : KO (S.turn a b) := .bind fun t e => ko_tell ((h.put ((h.idx e).of (u := { t with state := 2 }) rfl rfl rfl)).of rfl rfl)
theorem ko_start {p : PPlan} {i : Int} (h : KI S) : KO (S.start p i) := .bind fun t e => .ite (fun h0 => .map fun l _ => h.put ((h.idx e).of rfl rfl (by rw [h0]; rfl))) fun _ => .none
theorem ko_create {b : Int} (h : KI S) : KO (S.create b) := .ite (fun _ => .some ⟨fun t ht => by
 rcases List.mem_append.1 ht with h1 | h1
 ·exact h.tk t h1
 ·rw [List.mem_singleton.1 h1]; exact ⟨by unfold wr64; rw [IntKind.wrap_i64]; simp [mets], by unfold wr64; rw [IntKind.wrap_i64]; simp⟩, h.hk⟩) fun _ => .none
theorem ko_look {p : PPlan} {i a : Int} (h : KI S) : KO (S.look p i a) :=
 .ite (fun _ => .some h.tick) fun _ => .bind fun t e => .bind fun _ _ => .bind fun _ _ => .bind fun _ _ => .ite (fun _ => .bind fun u e1 => .map fun w e2 => h.tick.put (((h.tick.idx e).setReg e1).push e2 rfl)) fun _ => .some h.tick
theorem ko_finish {w n : Int} (h : KI S) : KO (S.finish w n) :=
 .bind fun t0 e => .ite (fun _ => .some ((h.put ((h.now e).of (u := { t0 with state := 4 }) rfl rfl rfl)).of rfl rfl)) fun _ =>
  .bind fun _ _ => .then (ko_turn (h.put ((h.now e).of rfl rfl rfl))) fun S2 h2 => .bind fun u e1 => .bind fun v e2 => .map fun x e3 => h2.put (((h2.idx e1).setReg e2).setReg e3)
theorem ko_close {p : PPlan} (h : KI S) (h0 : ∀ t f r, S.now = some t → t.frames = f :: r → f.met = []) : KO (S.close p) := by
 refine .bind fun t e => ?_
 have hn := h.now e
 split
 ·exact .none
 ·rename_i f r hf
  have hm := h0 t f r e hf
  have ht : ∀ F, mets F = mets r → KT { t with frames := F } := fun F hF => hn.of rfl rfl (by rw [hF, hf]; simp [mets, hm])
  have h1 : KI (S.put S.run { t with frames := r }) := h.put (ht r rfl)
  split
  ·exact ko_finish h1
  ·rename_i up r'
   refine .ite (fun _ => .ite (fun _ => .some (h1.put (ht _ rfl))) fun _ => .ite (fun _ => .some (h1.put ((ht _ rfl).of rfl rfl rfl))) fun _ => .ite (fun _ => .some (h1.put (ht _ rfl))) fun _ => .some h1) fun _ =>
    .ite (fun _ => ko_look h1) fun _ => .ite (fun _ => .some h1) fun _ => .ite (fun _ => .then (ko_tell h1) fun S2 h2 => .bind fun u e1 => .bind fun _ _ => .bind fun _ _ => .map fun v e2 => h2.put ((h2.idx e1).setReg e2)) fun _ => .some (h1.put (ht _ rfl))
theorem ko_leave {p : PPlan} (h : KI S) : KO (S.leave p) := by
 refine .bind fun t e => ?_
 have hn := h.now e
 split
 ·exact .none
 ·rename_i f r hf
  split
  ·rename_i hm
   refine ko_close h fun t' f' r' e' hf' => ?_
   rw [e] at e'
   obtain rfl := Option.some.inj e'
   rw [hf] at hf'
   obtain ⟨rfl, rfl⟩ := List.cons.inj hf'
   exact hm
  ·rename_i hd met hm
   refine .ite (fun _ => .some h.tick) fun _ => .ite (fun _ => .none) fun _ => .bind fun _ _ => .bind fun _ _ => .map fun u e1 => h.tick.put (KT.push ?_ e1 rfl)
   have h1 := hn.1
   rw [hf] at h1
   simp only [mets, hm, List.length_cons] at h1
   refine ⟨?_, wr_wr _⟩
   simp only [mets]
   rw [wr_add, h1]
   congr 1; omega
theorem ko_ringing : ∀ (f : Nat) (S : PM) (k : Int) (l : List Int), KI S → ∀ x, PM.ringing f S k l = some x → KI x.1
 | 0, _, _, _, _, _, e => by cases e
 | f + 1, S, k, l, h, x, e => by
  unfold PM.ringing at e
  split at e
  ·obtain ⟨S1, h1, h2⟩ := Option.bind_eq_some_iff.1 e
   split at h2
   ·rw [← Option.some.inj h2]; exact ko_tell h _ h1
   ·exact ko_ringing f _ _ _ (ko_tell h _ h1) _ h2
  ·cases e
theorem ko_may {n : Int} (h : KI S) : ∀ x, S.may n = some x → KI x.2 := by
 have hf : ∀ {S1 : PM} {m : Int}, KI S1 → ∀ x, ((S1.fail m).map fun S => (false, S)) = some x → KI x.2 := fun h x e => by
  obtain ⟨y, h1, rfl⟩ := Option.map_eq_some_iff.1 e
  exact ko_fail h y h1
 intro x e
 unfold PM.may at e
 split at e
 ·exact hf h x e
 ·obtain ⟨u, _, e⟩ := Option.bind_eq_some_iff.1 e
  split at e
  ·rw [← Option.some.inj e]; exact h
  ·split at e
   ·obtain ⟨y, h1, e⟩ := Option.bind_eq_some_iff.1 e
    split at e
    ·refine hf ?_ x e
     exact (ko_ringing _ _ _ _ h _ h1).of rfl rfl
    ·cases e
   ·exact hf h x e
theorem KO.mayThen {n : Int} {g : Bool × PM → Option PM} (h : KI S) (h2 : ∀ y : Bool × PM, KI y.2 → KO (g y)) : KO ((S.may n).bind g) := .bind fun y e => h2 y (ko_may h y e)
theorem ko_resume {p : PPlan} {x : PStep} (h : KI S) : KO (S.resume p x) :=
 .bind fun _ _ => .bind fun n _ => .mayThen h fun y hy => .ite (fun _ => .some hy) fun _ => .bind fun t e1 => .bind fun v _ => .bind fun u _ => .bind fun u1 e2 => by
  have h1 : KI (y.2.put S.run { t with state := 3, ask := x }) := hy.put ((hy.idx e1).of rfl rfl rfl)
  exact .then (ko_turn (h1.put ((h1.idx e2).of rfl rfl rfl))) fun S2 h2 => .ite (fun _ => .then (ko_start h2) fun S3 h3 => .bind fun w e3 => .map fun z e4 => h3.put ((h3.idx e3).setReg e4)) fun _ => .bind fun w e3 => .map fun z e4 => h2.put ((h2.idx e3).setReg e4)
theorem ko_yield {x : PStep} (h : KI S) : KO (S.yield x) :=
 .bind fun t e => .ite (fun _ => ko_fail h) fun _ => .bind fun _ _ => .then (ko_turn (h.put ((h.now e).of rfl rfl rfl))) fun S1 h1 => .bind fun u e1 => .bind fun v e2 => .map fun w e3 => h1.put (((h1.idx e1).setReg e2).setReg e3)
theorem ko_giveUp {x : PStep} (h : KI S) : KO (S.giveUp x) :=
 .bind fun _ _ => .bind fun n _ => .mayThen h fun y hy => .ite (fun _ => .some hy) fun _ => .bind fun u e1 => .ite (fun _ => by
  have h1 : KI (y.2.put n { u with state := 4 }) := hy.put ((hy.idx e1).of rfl rfl rfl)
  exact .bind fun t e2 => .bind fun v e3 => .map fun w e4 => h1.put (((h1.idx e2).setReg e3).setReg e4)) fun _ => .bind fun t e2 => by
  have h1 : KI (y.2.put S.run { t with state := 3, ask := x }) := hy.put ((hy.idx e2).of rfl rfl rfl)
  exact .bind fun w e3 => .bind fun z e4 => ko_turn (h1.put (KT.onTop ((h1.idx e3).of (u := { w with waiter := S.run, given := true }) rfl rfl rfl) e4 fun _ => rfl))
theorem ko_act {p : PPlan} {t : PTk} {f : PFr} {r : List PFr} {x : PStep} {hd : Int} (h : KI S) (ht : KT t) (hf : t.frames = f :: r) : KO (S.act p t f r x hd) := by
 unfold PM.act
 refine .ite (fun _ => .map fun u e => h.put (ht.setReg e)) fun _ => .ite (fun _ => .bind fun _ _ => .map fun u e => h.put (ht.setReg e)) fun _ => .ite (fun _ => .bind fun _ _ => ko_tell h) fun _ => .ite (fun _ => .ite (fun _ => ko_fail h) fun _ => .then (ko_create h) fun S1 h1 => .map fun u e => h1.put (ht.setReg e)) fun _ =>
  .ite (fun _ => ko_resume h) fun _ => .ite (fun _ => ko_yield h) fun _ => .ite (fun _ => ko_giveUp h) fun _ => .ite (fun _ => .bind fun _ _ => .ite (fun _ => .bind fun _ _ => .map fun u e => h.put (ht.setReg e)) fun _ => ko_fail h) fun _ => .ite (fun _ => .bind fun _ _ => ko_fail h) fun _ =>
  .ite (fun _ => .map fun u e => h.put (ht.of rfl rfl (by rw [hf]; rfl))) fun _ => .ite (fun _ => .ite (fun _ => .some (h.put ?_)) fun _ => .none) fun _ => .ite (fun _ => ko_look h) fun _ => .ite (fun _ => .map fun u e => h.put (ht.push e rfl)) fun _ => .ite (fun _ => .bind fun _ _ => .ite (fun _ => .map fun u e => h.put (ht.push e rfl)) fun _ => .some h) fun _ => .some h
 have h1 := ht.1
 rw [hf] at h1
 simp only [mets] at h1
 refine ⟨?_, ht.2⟩
 simp only [mets, List.length_cons]
 rw [h1, wr_add]
 congr 1; omega
theorem ko_step {p : PPlan} (h : KI S) : KO (S.step p) := by
 refine .bind fun t e => ?_
 have hn := h.now e
 split
 ·exact .none
 ·rename_i f r hf
  have ht : ∀ g : PFr, g.met = f.met → KT { t with frames := g :: r } := fun g hg => hn.of rfl rfl (by rw [hf]; simp [mets, hg])
  exact .ite (fun _ => ko_leave h) fun _ => .ite (fun _ => ko_leave (h.put (ht _ rfl))) fun _ => .bind fun _ _ => .bind fun _ _ => .ite (fun _ => ko_act (h.put (ht _ rfl)) (ht _ rfl) rfl) fun _ => .ite (fun _ => .some h.tick) fun _ => ko_act (h.tick.put (ht _ rfl)) (ht _ rfl) rfl
theorem ko_runs {p : PPlan} : ∀ (n : Nat) (S : PM), KI S → KO (PM.runs p n S)
 | 0, S, _ => .none
 | n + 1, S, h => .ite (fun _ => .some h) fun _ => .ite (fun _ => .then (ko_step h) fun S1 h1 => ko_runs n S1 h1) fun _ => .none
theorem run_kept {p : PPlan} {ticks : Int} {hook : Option PHk} (hh : ∀ h, hook = some h → h.stand.tasks = []) {m : Nat} (hm : ((PM.fresh p ticks hook).bind fun S => PM.runs p m S) = some S) : KI S := by
 obtain ⟨S0, e0, e1⟩ := Option.bind_eq_some_iff.1 hm
 refine ko_runs m S0 ?_ S e1
 refine (?_ : KO (PM.fresh p ticks hook)) S0 e0
 exact .then (ko_create ⟨fun t ht => by simp at ht, fun h e v hv => by rw [hh h e] at hv; cases hv⟩) fun S1 h1 => .then (ko_start h1) fun S2 h2 => .map fun t e => h2.put ((h2.idx e).of rfl rfl rfl)
end
end Go.Proofs.Ytibmnlijoeppaaa
