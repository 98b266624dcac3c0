/-
 The records of a run, read from their beginning, tell who waits for whom and who runs.
-/
import Derived.Test.YtibmnlijoeppaaaBoth
namespace Go.Proofs.Ytibmnlijoeppaaa
set_option linter.unusedSimpArgs false
set_option linter.unusedVariables false

/-- Who waits for whom, of 60 tasks. -/
def wl (l : List PTk) : List Int := l.map (·.waiter) ++ List.replicate (60 - l.length) (-1)

/-- One record read. -/
def wstep (s : List Int × Int) (r : PRec) : Option (List Int × Int) :=
 if r.kind ≠ 2 then (if r.task = s.2 then some s else none)
 else if r.how = 1 ∨ r.how = 5 then (if 0 ≤ r.task ∧ s.1[r.task.toNat]? = some (-1) ∧ r.task ≠ 0 then some (s.1.set r.task.toNat s.2, r.task) else none)
 else if 0 ≤ s.2 ∧ s.1[s.2.toNat]? = some r.task then some (s.1.set s.2.toNat (-1), r.task) else none

def Lg (S S' : PM) : Prop := ∃ new, S'.recs = S.recs ++ new ∧ new.foldlM wstep (wl S.tasks, S.run) = some (wl S'.tasks, S'.run)
theorem Lg.trans {S S' S'' : PM} (h : Lg S S') (h' : Lg S' S'') : Lg S S'' := by
 obtain ⟨l, a, b⟩ := h
 obtain ⟨l', a', b'⟩ := h'
 refine ⟨l ++ l', by rw [a', a, List.append_assoc], ?_⟩
 rw [List.foldlM_append, b]
 exact b'
theorem Lg.of {S S' : PM} (h1 : S'.recs = S.recs) (h2 : wl S'.tasks = wl S.tasks) (h3 : S'.run = S.run) : Lg S S' := ⟨[], by simp [h1], by rw [h2, h3]; rfl⟩
theorem lg0 {S : PM} : Lg S S := .of rfl rfl rfl

theorem wl_set {l : List PTk} {i : Nat} (h : i < l.length) {t : PTk} : wl (l.set i t) = (wl l).set i t.waiter := by
 unfold wl
 rw [List.map_set, List.set_append_left _ _ (by simpa using h), List.length_set]
theorem wl_get {l : List PTk} {i : Nat} {t : PTk} (h : l[i]? = some t) : (wl l)[i]? = some t.waiter := by
 unfold wl
 have hi := (List.getElem?_eq_some_iff.1 h).1
 rw [List.getElem?_append_left (by simpa using hi), List.getElem?_map, h]; rfl
theorem wl_keep {l : List PTk} {i : Nat} {t t' : PTk} (h : l[i]? = some t) (hw : t'.waiter = t.waiter) : wl (l.set i t') = wl l := by
 have hi := (List.getElem?_eq_some_iff.1 h).1
 rw [wl_set hi, hw]
 have h2 := wl_get h
 refine List.ext_getElem? fun j => ?_
 rw [List.getElem?_set]
 split
 ·rename_i e; subst e
  split
  ·exact h2.symm
  ·rename_i hn; rw [List.getElem?_eq_none (by omega)] at h2; cases h2
 ·rfl
theorem wl_new {l : List PTk} {t : PTk} (hl : l.length < 60) (hw : t.waiter = -1) : wl (l ++ [t]) = wl l := by
 unfold wl
 rw [List.map_append, List.length_append, List.append_assoc]
 congr 1
 simp only [List.map_cons, List.map_nil, hw, List.length_cons, List.length_nil]
 rw [show 60 - l.length = (60 - (l.length + (0 + 1))) + 1 by omega, List.replicate_succ]
 rfl

theorem idx_is {α : Type} {l : List α} {i : Int} {x : α} (h : idx l i = some x) : 0 ≤ i ∧ l[i.toNat]? = some x := by
 unfold idx at h
 split at h
 ·exact ⟨by assumption, h⟩
 ·cases h

def QO (S : PM) (o : Option PM) : Prop := ∀ S', o = some S' → Lg S S'
theorem QO.some {S S' : PM} (h : Lg S S') : QO S (.some S') := fun _ e => (Option.some.inj e) ▸ h
theorem QO.none {S : PM} : QO S .none := fun _ e => by cases e
theorem QO.bind {S : PM} {α : Type} {o : Option α} {g : α → Option PM} (h : ∀ x, o = Option.some x → QO S (g x)) : QO S (o.bind g) := by
 intro S' e
 obtain ⟨x, h1, h2⟩ := Option.bind_eq_some_iff.1 e
 exact h x h1 S' h2
theorem QO.map {S : PM} {α : Type} {o : Option α} {g : α → PM} (h : ∀ x, o = Option.some x → Lg S (g x)) : QO S (o.map g) := by
 intro S' e
 obtain ⟨x, h1, rfl⟩ := Option.map_eq_some_iff.1 e
 exact h x h1
theorem QO.ite {S : PM} {c : Prop} [Decidable c] {a b : Option PM} (h1 : c → QO S a) (h2 : ¬ c → QO S b) : QO S (if c then a else b) := by
 split
 ·exact h1 (by assumption)
 ·exact h2 (by assumption)
theorem QO.then {S : PM} {o : Option PM} {g : PM → Option PM} (h : QO S o) (h2 : ∀ S1, QO S1 (g S1)) : QO S (o.bind g) := .bind fun x e S' e' => (h x e).trans (h2 x S' e')
theorem QO.from {S S1 : PM} {o : Option PM} (h : Lg S S1) (h2 : QO S1 o) : QO S o := fun S' e => h.trans (h2 S' e)

/-- One task changes, not who waits for it. -/
theorem Lg.put {S : PM} {i : Int} {t t' : PTk} (h : idx S.tasks i = some t) (hw : t'.waiter = t.waiter) : Lg S (S.put i t') :=
 .of rfl (wl_keep (idx_is h).2 hw) rfl
theorem tick_tasks' {S : PM} : S.tick.2.tasks = S.tasks ∧ S.tick.2.run = S.run ∧ S.tick.2.recs = S.recs := by unfold PM.tick; split <;> exact ⟨rfl, rfl, rfl⟩
theorem Lg.tick {S : PM} : Lg S S.tick.2 := .of tick_tasks'.2.2 (by rw [tick_tasks'.1]) tick_tasks'.2.1

theorem setReg_w {t t' : PTk} {a v : Int} (h : t.setReg a v = some t') : t'.waiter = t.waiter ∧ t'.state = t.state := by
 unfold PTk.setReg at h
 split at h
 ·cases h; exact ⟨rfl, rfl⟩
 ·cases h
theorem onTop_w {t t' : PTk} {g : PFr → PFr} (h : t.onTop g = some t') : t'.waiter = t.waiter ∧ t'.state = t.state := by
 unfold PTk.onTop at h
 split at h
 ·split at h
  ·cases h; exact ⟨rfl, rfl⟩
  ·cases h
 ·cases h
theorem push_w {t t' : PTk} {f : PFr} (h : t.push f = some t') : t'.waiter = t.waiter ∧ t'.state = t.state := by
 unfold PTk.push at h
 split at h
 ·cases h; exact ⟨rfl, rfl⟩
 ·cases h
theorem now_idx {S : PM} {t : PTk} (h : S.now = some t) : idx S.tasks S.run = some t := by
 unfold PM.now at h
 obtain ⟨u, h1, h2⟩ := Option.bind_eq_some_iff.1 h
 split at h2
 ·cases h2; exact h1
 ·cases h2

theorem tell_is {S S' : PM} {a b c : Int} (h : S.tell a b c = some S') : S'.tasks = S.tasks ∧ S'.run = S.run ∧ S'.recs = S.recs ++ [⟨a, S.run, b, c⟩] := by
 unfold PM.tell at h
 split at h
 ·cases h
  unfold PM.hooked
  split <;> exact ⟨rfl, rfl, rfl⟩
 ·cases h
theorem lg_tell {S : PM} {a b c : Int} (ha : a ≠ 2) : QO S (S.tell a b c) := by
 intro S' h
 obtain ⟨h1, h2, h3⟩ := tell_is h
 refine ⟨[⟨a, S.run, b, c⟩], h3, ?_⟩
 rw [h1, h2]
 simp only [List.foldlM_cons, List.foldlM_nil, wstep, ha, ne_eq, not_false_eq_true, if_true]
 rfl
theorem lg_fail {S : PM} {n : Int} : QO S (S.fail n) :=
 .then (lg_tell (by decide)) fun S1 => .bind fun t ht => .map fun t' ht' => .put (now_idx ht) (onTop_w ht').1

/-- The turn goes to another task that nobody waits for. -/
theorem lg_lend {S : PM} {n how : Int} {t t' u u' : PTk} (hk : idx S.tasks S.run = some t) (ht : t'.waiter = t.waiter) (hn : idx S.tasks n = some u) (hu : u.waiter = -1) (hn0 : n ≠ 0) (hu' : u'.waiter = S.run) (hh : how = 1 ∨ how = 5) :
  QO S (PM.turn ((S.put S.run t').put n u') n how) := by
 refine .bind fun w hw S' h => ?_
 obtain ⟨h1, h2, h3⟩ := tell_is h
 obtain ⟨q1, q2⟩ := idx_is hk
 obtain ⟨q3, q4⟩ := idx_is hn
 obtain ⟨q5, q6⟩ := idx_is hw
 have hl := (List.getElem?_eq_some_iff.1 q4).1
 have hw' : w = u' := by
  simp only [PM.put] at q6
  rw [List.getElem?_set_self (by simpa using hl)] at q6
  exact (Option.some.inj q6).symm
 subst hw'
 refine ⟨[⟨2, n, how, 0⟩], h3, ?_⟩
 rw [h1, h2]
 have e : wl (PM.put ((S.put S.run t').put n w) n { w with state := 2 }).tasks = (wl S.tasks).set n.toNat S.run := by
  simp only [PM.put, List.set_set]
  rw [wl_set (by simpa using hl), wl_keep q2 ht, hu']
 simp only [List.foldlM_cons, List.foldlM_nil, wstep, ne_eq, not_true_eq_false, if_false, hh, if_true, wl_get q4, hu, q3, hn0, not_false_eq_true, and_self]
 show some _ = some _
 rw [e]

/-- The turn goes back to the task that waits. -/
theorem lg_hand {S : PM} {how : Int} {t t' : PTk} (hk : idx S.tasks S.run = some t) (ht' : t'.waiter = -1) (hh : how ≠ 1 ∧ how ≠ 5) : QO S (PM.turn (S.put S.run t') t.waiter how) := by
 refine .bind fun w hw S' h => ?_
 obtain ⟨h1, h2, h3⟩ := tell_is h
 obtain ⟨q1, q2⟩ := idx_is hk
 have hl := (List.getElem?_eq_some_iff.1 q2).1
 refine ⟨[⟨2, t.waiter, how, 0⟩], h3, ?_⟩
 rw [h1, h2]
 have e : wl (PM.put (S.put S.run t') t.waiter { w with state := 2 }).tasks = (wl S.tasks).set S.run.toNat (-1) := by
  have := (idx_is hw).2
  show wl ((S.put S.run t').tasks.set t.waiter.toNat { w with state := 2 }) = _
  rw [wl_keep (t' := { w with state := 2 }) this rfl]
  simp only [PM.put]
  rw [wl_set hl, ht']
 simp only [List.foldlM_cons, List.foldlM_nil, wstep, ne_eq, not_true_eq_false, if_false, hh.1, hh.2, or_self, wl_get q2, q1, and_self, if_true]
 show some _ = some _
 rw [e]

theorem lg_start {p : PPlan} {S : PM} {i : Int} : QO S (S.start p i) := .bind fun t ht => .ite (fun _ => .map fun _ _ => .put ht rfl) fun _ => .none
theorem lg_look {p : PPlan} {S : PM} {i a : Int} : QO S (S.look p i a) := by
 refine .ite (fun _ => .some .tick) fun _ => .bind fun t ht => .bind fun _ _ => .bind fun _ _ => .bind fun _ _ => .ite (fun _ => .bind fun t1 h1 => .map fun t2 h2 => ?_) fun _ => .some .tick
 exact Lg.tick.trans (.put ht ((push_w h2).1.trans (setReg_w h1).1))

theorem put_idx {S : PM} {i : Int} {t t' : PTk} (h : idx S.tasks i = some t) : idx (S.put i t').tasks i = some t' := by
 obtain ⟨h1, h2⟩ := idx_is h
 unfold idx
 rw [if_pos h1]
 simp only [PM.put]
 rw [List.getElem?_set_self (List.getElem?_eq_some_iff.1 h2).1]

theorem lg_finish {S : PM} {w n : Int} : QO S (S.finish w n) := by
 refine .bind fun t0 ht => .ite (fun h0 => .some ?_) fun h0 => ?_
 ·exact (Lg.put (now_idx ht) (t' := { t0 with state := 4 }) rfl).trans (.of rfl rfl rfl)
 ·refine .bind fun _ _ => .then ?_ fun S1 => .bind fun u hu => .bind fun u1 h1 => .map fun u2 h2 => .put hu ((setReg_w h2).1.trans (setReg_w h1).1)
  refine lg_hand (t := t0) (t' := { t0 with state := 4, waiter := -1 }) (now_idx ht) rfl ?_
  by_cases a : w = 2
  ·simp [a]
  ·by_cases b : w = 3 <;> simp [a, b]
theorem lg_close {p : PPlan} {S : PM} : QO S (S.close p) := by
 refine .bind fun t ht => ?_
 have hi := now_idx ht
 split
 ·exact .none
 ·rename_i f r hf
  have h1 : Lg S (S.put S.run { t with frames := r }) := .put hi rfl
  have h2 : ∀ {t' : PTk}, t'.waiter = t.waiter → Lg S ((S.put S.run { t with frames := r }).put S.run t') := fun {t'} e => h1.trans (.put (put_idx hi) e)
  split
  ·exact .from h1 lg_finish
  ·refine .ite (fun _ => .ite (fun _ => .some (h2 rfl)) fun _ => .ite (fun _ => .some (h2 rfl)) fun _ => .ite (fun _ => .some (h2 rfl)) fun _ => .some h1) fun _ => .ite (fun _ => .from h1 lg_look) fun _ => .ite (fun _ => .some h1) fun _ => .ite (fun _ => ?_) fun _ => .some (h2 rfl)
   exact .from h1 (.then (lg_tell (by decide)) fun S1 => .bind fun u hu => .bind fun _ _ => .bind fun _ _ => .map fun _ h3 => .put hu (setReg_w h3).1)
theorem lg_leave {p : PPlan} {S : PM} : QO S (S.leave p) := by
 refine .bind fun t ht => ?_
 split
 ·exact .none
 ·split
  ·exact lg_close
  ·refine .ite (fun _ => .some .tick) fun _ => .ite (fun _ => .none) fun _ => .bind fun _ _ => .bind fun _ _ => .map fun t' h' => ?_
   exact Lg.tick.trans (.put (t := t) (by rw [tick_tasks'.1]; exact now_idx ht) (push_w h').1)

theorem lg_ringing : ∀ (f : Nat) (S : PM) (k : Int) (l : List Int) (x : PM × List Int), PM.ringing f S k l = some x → Lg S x.1
 | 0, _, _, _, _, e => by cases e
 | f + 1, S, k, l, x, e => by
  unfold PM.ringing at e
  split at e
  ·obtain ⟨S1, h1, h2⟩ := Option.bind_eq_some_iff.1 e
   have hl := lg_tell (by decide) S1 h1
   split at h2
   ·cases h2; exact hl
   ·exact hl.trans (lg_ringing f _ _ _ _ h2)
  ·cases e

/-- A task that is resumed or given up: nothing has changed, it is new or waits; else it was told. -/
theorem lg_may {S : PM} {n : Int} {y : Bool × PM} (h : S.may n = some y) : Lg S y.2 ∧ (y.1 ≠ false → y.2 = S ∧ ∃ u, idx S.tasks n = some u ∧ (u.state = 0 ∨ u.state = 1)) := by
 have hf : ∀ {S1 : PM} {m : Int} {y : Bool × PM}, Lg S S1 → ((S1.fail m).map fun S => (false, S)) = some y → Lg S y.2 ∧ (y.1 ≠ false → y.2 = S ∧ ∃ u, idx S.tasks n = some u ∧ (u.state = 0 ∨ u.state = 1)) := fun h e => by
  obtain ⟨z, h1, rfl⟩ := Option.map_eq_some_iff.1 e
  exact ⟨h.trans (lg_fail z h1), fun hh => absurd rfl hh⟩
 unfold PM.may at h
 split at h
 ·exact hf lg0 h
 ·obtain ⟨u, hu, h⟩ := Option.bind_eq_some_iff.1 h
  split at h
  ·rename_i hs
   cases h; exact ⟨lg0, fun _ => ⟨rfl, u, hu, hs⟩⟩
  ·split at h
   ·obtain ⟨x, h1, h⟩ := Option.bind_eq_some_iff.1 h
    split at h
    ·exact hf (S1 := { x.1 with rings := x.1.rings ++ [⟨S.recs.length, x.2⟩] }) ((lg_ringing _ _ _ _ _ h1).trans (.of rfl rfl rfl)) h
    ·cases h
   ·exact hf lg0 h

/-- No one waits for a new or waiting task; it is not the first one. -/
def Wt (S : PM) : Prop := S.tasks.length ≤ 60 ∧ ∀ (i : Nat) (t : PTk), S.tasks[i]? = some t → t.state = 0 ∨ t.state = 1 → t.waiter = -1 ∧ i ≠ 0
theorem Wt.of {S S' : PM} (h : Wt S) (e : S'.tasks.map (fun t => (t.state, t.waiter)) = S.tasks.map fun t => (t.state, t.waiter)) : Wt S' := by
 have hl : S'.tasks.length = S.tasks.length := by have := congrArg List.length e; simpa using this
 refine ⟨by rw [hl]; exact h.1, fun i t hi hs => ?_⟩
 have h1 : (S'.tasks.map fun t => (t.state, t.waiter))[i]? = some (t.state, t.waiter) := by rw [List.getElem?_map, hi]; rfl
 rw [e, List.getElem?_map] at h1
 obtain ⟨u, hu, hq⟩ := Option.map_eq_some_iff.1 h1
 simp only [Prod.mk.injEq] at hq
 have := h.2 i u hu (by rw [hq.1]; exact hs)
 rw [← hq.2]; exact this
theorem Wt.at {S : PM} (h : Wt S) {n : Int} {u : PTk} (hn : idx S.tasks n = some u) (hs : u.state = 0 ∨ u.state = 1) : u.waiter = -1 ∧ n ≠ 0 := by
 obtain ⟨h1, h2⟩ := idx_is hn
 obtain ⟨a, b⟩ := h.2 _ u h2 hs
 exact ⟨a, by omega⟩

theorem lg_resume {p : PPlan} {S : PM} {x : PStep} (h : Wt S) : QO S (S.resume p x) := by
 refine .bind fun t ht => .bind fun n hn => .bind fun y hy => ?_
 obtain ⟨hl, hm⟩ := lg_may hy
 refine .ite (fun _ => .some hl) fun hy1 => ?_
 obtain ⟨e, u, hu, hs⟩ := hm hy1
 obtain ⟨w1, w2⟩ := h.at hu hs
 rw [e]
 refine .bind fun t0 h0 => .bind fun v _ => .bind fun u0 h1 => .bind fun u1 h2 => .then (lg_lend (t := t0) (u := u) h0 rfl hu w1 w2 rfl (.inl rfl)) fun S2 => .ite (fun _ => .then lg_start fun S3 => .bind fun u hu => .map fun _ h3 => .put hu (setReg_w h3).1) fun _ => .bind fun u hu => .map fun _ h3 => .put hu (setReg_w h3).1
theorem lg_yield {S : PM} {x : PStep} : QO S (S.yield x) := by
 refine .bind fun t ht => .ite (fun _ => lg_fail) fun _ => .bind fun v _ => .then (lg_hand (t' := { t with state := 1, ask := x, waiter := -1 }) (now_idx ht) rfl (by decide)) fun S1 => .bind fun u hu => .bind fun u1 h1 => .map fun u2 h2 => .put hu ((setReg_w h2).1.trans (setReg_w h1).1)
theorem lg_giveUp {S : PM} {x : PStep} (h : Wt S) : QO S (S.giveUp x) := by
 refine .bind fun t ht => .bind fun n hn => .bind fun y hy => ?_
 obtain ⟨hl, hm⟩ := lg_may hy
 refine .ite (fun _ => .some hl) fun hy1 => ?_
 obtain ⟨e, u, hu, hs⟩ := hm hy1
 obtain ⟨w1, w2⟩ := h.at hu hs
 rw [e]
 refine .bind fun u0 h0 => .ite (fun _ => ?_) fun _ => .bind fun t0 h1 => .bind fun u1 h2 => .bind fun u2 h3 => ?_
 ·exact .bind fun t1 h1 => .bind fun t2 h2 => .map fun t3 h3 => (Lg.put (t' := { u0 with state := 4 }) h0 rfl).trans (.put h1 ((setReg_w h3).1.trans (setReg_w h2).1))
 ·exact lg_lend (t := t0) (u := u) h1 rfl hu w1 w2 (onTop_w h3).1 (.inr rfl)
theorem lg_act {p : PPlan} {S : PM} {t : PTk} {f : PFr} {r : List PFr} {x : PStep} {hd : Int} (h : Wt S) (ht : ∃ t0, idx S.tasks S.run = some t0 ∧ t.waiter = t0.waiter) : QO S (S.act p t f r x hd) := by
 obtain ⟨t0, h0, hw⟩ := ht
 unfold PM.act
 refine .ite (fun _ => .map fun _ h1 => .put h0 ((setReg_w h1).1.trans hw)) fun _ => .ite (fun _ => .bind fun _ _ => .map fun _ h1 => .put h0 ((setReg_w h1).1.trans hw)) fun _ => .ite (fun _ => .bind fun _ _ => lg_tell (by decide)) fun _ => .ite (fun _ => .ite (fun _ => lg_fail) fun hn => ?_) fun _ => .ite (fun _ => lg_resume h) fun _ => .ite (fun _ => lg_yield) fun _ => .ite (fun _ => lg_giveUp h) fun _ =>
  .ite (fun _ => .bind fun _ _ => .ite (fun _ => .bind fun _ _ => .map fun _ h1 => .put h0 ((setReg_w h1).1.trans hw)) fun _ => lg_fail) fun _ => .ite (fun _ => .bind fun _ _ => lg_fail) fun _ => .ite (fun _ => .map fun _ _ => .put h0 hw) fun _ => .ite (fun _ => .ite (fun _ => .some (.put h0 hw)) fun _ => .none) fun _ => .ite (fun _ => lg_look) fun _ => .ite (fun _ => .map fun _ h1 => .put h0 ((push_w h1).1.trans hw)) fun _ => .ite (fun _ => .bind fun _ _ => .ite (fun _ => .map fun _ h1 => .put h0 ((push_w h1).1.trans hw)) fun _ => .some lg0) fun _ => .some lg0
 refine .bind fun S1 h1 => .map fun t1 h2 => ?_
 unfold PM.create at h1
 split at h1
 ·cases h1
  obtain ⟨q1, q2⟩ := idx_is h0
  refine Lg.trans (S' := { S with tasks := S.tasks ++ [⟨x.b, 0, [0, 0, 0, 0], -1, ⟨0, 0, 0, 0, 0⟩, [], false, false, 0, 0, 0⟩] }) (.of rfl (wl_new (by have := h.1; omega) rfl) rfl) ?_
  refine .put (t := t0) ?_ ((setReg_w h2).1.trans hw)
  unfold idx
  rw [if_pos q1, List.getElem?_append_left (List.getElem?_eq_some_iff.1 q2).1]
  exact q2
 ·cases h1
theorem put_sw' {S : PM} {i : Int} {t t' : PTk} (h : idx S.tasks i = some t) (hs : t'.state = t.state) (hw : t'.waiter = t.waiter) : (S.put i t').tasks.map (fun t => (t.state, t.waiter)) = S.tasks.map fun t => (t.state, t.waiter) := by
 obtain ⟨h1, h2⟩ := idx_is h
 simp only [PM.put]
 rw [List.map_set]
 refine List.ext_getElem? fun j => ?_
 rw [List.getElem?_set]
 split
 ·rename_i e; subst e
  split
  ·rw [List.getElem?_map, h2]; simp [hs, hw]
  ·rename_i hn; rw [List.getElem?_eq_none (by simpa using hn)]
 ·rfl
theorem lg_step {p : PPlan} {S : PM} (h : Wt S) : QO S (S.step p) := by
 refine .bind fun t ht => ?_
 have hi := now_idx ht
 split
 ·exact .none
 ·refine .ite (fun _ => lg_leave) fun _ => .ite (fun _ => by refine .from ?_ lg_leave; exact .put hi rfl) fun _ => .bind fun _ _ => .bind fun x _ => .ite (fun _ => ?_) fun _ => .ite (fun _ => .some .tick) fun _ => ?_
  ·refine .from ?_ (lg_act (h.of (put_sw' hi rfl rfl)) ⟨_, put_idx hi, rfl⟩)
   exact .put hi rfl
  ·have hi' : idx S.tick.2.tasks S.run = some t := by rw [tick_tasks'.1]; exact hi
   refine .from ?_ (lg_act ((h.of (S' := S.tick.2) (by rw [tick_tasks'.1])).of (put_sw' hi' rfl rfl)) ⟨_, ?_, rfl⟩)
   ·exact Lg.tick.trans (.put hi' rfl)
   ·show idx _ S.tick.2.run = _
    rw [tick_tasks'.2.1]
    exact put_idx hi'

theorem Core.wt {p : PPlan} {S : PM} {T : X.PM} (h : Core p S T) : Wt S := by
 refine ⟨h.few, fun i t hi hs => ?_⟩
 obtain ⟨k, c, hk, hc⟩ := h.chain
 have hsw := sw_get hi
 obtain ⟨a1, a2, a3⟩ := hc.st i _ _ hsw
 have hn : i ∉ k :: c := by
  intro hm
  rcases List.mem_cons.1 hm with e | e
  ·have := a1 e; omega
  ·have := a2 e; omega
 refine ⟨(a3 hn).2, fun e => hn ?_⟩
 subst e
 have : ∀ {l : List Nat}, Ch S.sw l → 0 ∈ l := by
  intro l
  induction l with
  | nil => intro h; exact h.elim
  | cons a l ih =>
   intro h
   cases l with
   | nil => obtain ⟨e, _⟩ := h; simp [e]
   | cons b l => exact List.mem_cons_of_mem _ (ih h.2)
 exact this hc.ch

/-- What holds of each step holds of a run. -/
theorem inv_run {p : PPlan} (hgood : Good p) {J : PM → Prop} (hJ : ∀ (S : PM) (T : X.PM) (S' : PM), Core p S T → S.step p = some S' → J S → J S') :
  ∀ (n : Nat) (S : PM) (T : X.PM), 3 * (S.left - S.used).toNat + S.wt ≤ n → Core p S T → Acc S T → T.over = false → Bnd S → S.hook = none → J S → ∃ S', (∃ m, PM.runs p m S = some S') ∧ J S' := by
 intro n
 induction n using Nat.strongRecOn with
 | ind n ih =>
  intro S T hM h ha hlive hb hnone hj
  obtain ⟨S1, T1, e1, e2, hstep⟩ := step_both hgood h ha hlive hb
  have hov := ha.over hlive
  have hj1 := hJ S T S1 h e1 hj
  have hrS : S.tasks.length < roomy := by have := h.few; unfold roomy; omega
  have more : ∀ {S'}, (∃ m, PM.runs p m S1 = some S') → ∃ m, PM.runs p m S = some S' := fun ⟨m, hm⟩ => ⟨m + 1, by unfold PM.runs; rw [if_neg (by rw [hov]; simp), if_pos hrS, e1, Option.bind_some]; exact hm⟩
  cases hstep with
  | fin a b => exact ⟨S1, more ⟨1, by unfold PM.runs; rw [if_pos a.overS]⟩, hj1⟩
  | go a b c d e f =>
   have hu := hb.used
   have hb1 : Bnd S1 := by
    have hp := hb.phi
    rcases f with ⟨f1, f2, f3⟩ | ⟨f1, f2, f3, f4⟩
    ·exact ⟨by rw [f1, e]; exact hu, by rw [f1]; omega⟩
    ·exact ⟨by rw [f1, e]; omega, by rw [f1]; omega⟩
   have hM1 : 3 * (S1.left - S1.used).toNat + S1.wt < n := by
    rcases f with ⟨f1, f2, f3⟩ | ⟨f1, f2, f3, f4⟩
    ·rw [f1, e]; omega
    ·rw [f1, e]; omega
   have hn1 := c.1 hnone
   cases b with
   | live b1 b2 b3 b4 b5 b6 b7 b8 b9 b10 b11 b12 =>
    obtain ⟨S', g1, g2⟩ := ih _ hM1 S1 T1 (Nat.le_refl _) a (.live b1 b2 b3 b4 b5 b6 b7 b8 b9 b10 b11 b12) b1 hb1 hn1 hj1
    exact ⟨S', more g1, g2⟩
   | dead b1 b2 b3 hs1 =>
    obtain ⟨q, k, k1, _⟩ := b3
    rw [hn1] at k1; cases k1

theorem runs_det {p : PPlan} : ∀ (m n : Nat) (S A B : PM), PM.runs p m S = some A → PM.runs p n S = some B → A = B
 | 0, _, _, _, _, h, _ => by cases h
 | _ + 1, 0, _, _, _, _, h => by cases h
 | m + 1, n + 1, S, A, B, h, h' => by
  unfold PM.runs at h h'
  split at h
  ·rename_i ho
   rw [if_pos ho] at h'
   exact (Option.some.inj h).symm.trans (Option.some.inj h')
  ·rename_i ho
   rw [if_neg ho] at h'
   split at h
   ·rename_i hr
    rw [if_pos hr] at h'
    obtain ⟨S1, a1, a2⟩ := Option.bind_eq_some_iff.1 h
    obtain ⟨S2, b1, b2⟩ := Option.bind_eq_some_iff.1 h'
    rw [a1] at b1
    obtain rfl := Option.some.inj b1
    exact runs_det m n S1 A B a2 b2
   ·cases h

/-- The records of a run, read. -/
theorem run_log {p : PPlan} (hok : (okP p).1 = 0) {ticks : Int} (ht : 0 ≤ ticks ∧ ticks ≤ 5000) {S : PM} {m : Nat} (hm : ((PM.fresh p ticks none).bind fun S => PM.runs p m S) = some S) :
  S.recs.foldlM wstep (List.replicate 60 (-1), 0) = some (wl S.tasks, S.run) := by
 obtain ⟨S0, T0, e1, e2, h, ha, ho, hb, hh, hr, hr0, hw⟩ := both_start hok ht (hook := none) (stop := -1) (.inl ⟨rfl, .inl rfl⟩)
 have hl : S0.tasks.length = 1 := by have := congrArg List.length hw; simpa using this
 have hj0 : S0.recs.foldlM wstep (List.replicate 60 (-1), 0) = some (wl S0.tasks, S0.run) := by
  rw [hr, hr0]
  unfold wl
  rw [hw, hl]
  rfl
 obtain ⟨S1, ⟨m1, h1⟩, hj⟩ := inv_run (Good.of hok) (J := fun S => S.recs.foldlM wstep (List.replicate 60 (-1), 0) = some (wl S.tasks, S.run)) (fun S T S' hc hs hj => by
  obtain ⟨new, q1, q2⟩ := lg_step hc.wt S' hs
  rw [q1, List.foldlM_append, hj]
  exact q2) _ S0 T0 (Nat.le_refl _) h ha ho hb hh hj0
 rw [e1, Option.bind_some] at hm
 obtain rfl := runs_det _ _ _ _ _ h1 hm
 exact hj
end Go.Proofs.Ytibmnlijoeppaaa
