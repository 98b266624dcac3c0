/-
 The reference's machine: where it is to stop never changes.
 What the hook has seen when a run is over.
-/
import Derived.Test.YtibmnlijoeppaaaXM
import Derived.Test.YtibmnlijoeppaaaBoth
namespace Go.Proofs.Ytibmnlijoeppaaa.X
set_option linter.unusedSimpArgs false
set_option linter.unusedVariables false

def SO (T : PM) (o : Option PM) : Prop := ∀ T', o = some T' → T'.stop = T.stop
theorem SO.some {T T' : PM} (h : T'.stop = T.stop) : SO T (.some T') := fun _ e => (Option.some.inj e) ▸ h
theorem SO.none {T : PM} : SO T .none := fun _ e => by cases e
theorem SO.bind {T : PM} {α : Type} {o : Option α} {g : α → Option PM} (h : ∀ x, o = Option.some x → SO T (g x)) : SO T (o.bind g) := by
 intro T' e
 obtain ⟨x, h1, h2⟩ := Option.bind_eq_some_iff.1 e
 exact h x h1 T' h2
theorem SO.map {T : PM} {α : Type} {o : Option α} {g : α → PM} (h : ∀ x, o = Option.some x → (g x).stop = T.stop) : SO T (o.map g) := by
 intro T' e
 obtain ⟨x, h1, rfl⟩ := Option.map_eq_some_iff.1 e
 exact h x h1
theorem SO.ite {T : PM} {c : Prop} [Decidable c] {a b : Option PM} (h1 : SO T a) (h2 : SO T b) : SO T (if c then a else b) := by split <;> assumption
theorem SO.then {T : PM} {o : Option PM} {g : PM → Option PM} (h : SO T o) (h2 : ∀ T1, SO T1 (g T1)) : SO T (o.bind g) := .bind fun x e T' e' => (h2 x T' e').trans (h x e)
theorem SO.from {T T1 : PM} {o : Option PM} (h : T1.stop = T.stop) (h2 : SO T1 o) : SO T o := fun T' e => (h2 T' e).trans h
theorem tick_stop {T : PM} : T.tick.2.stop = T.stop := by unfold PM.tick; split <;> (try split) <;> rfl

theorem so_tell {T : PM} {a b c : Int} : SO T (T.tell a b c) := by
 unfold PM.tell
 refine .ite (.some rfl) (.ite ?_ .none)
 first | exact .ite (.some rfl) (.some rfl) | (refine .some ?_; split <;> rfl)
theorem so_mark {T : PM} {a b : Int} : SO T (T.mark a b) := .bind fun _ _ => .map fun _ _ => rfl
theorem so_throw {T : PM} {n : Int} : SO T (T.throw n) := .then so_tell fun _ => so_mark
theorem so_opens {T : PM} {a b c d : Int} : SO T (T.opens a b c d) := .bind fun _ _ => .ite (.some rfl) .none
theorem so_create {T : PM} {b : Int} : SO T (T.create b) := .ite (.some rfl) .none
theorem so_tells : ∀ {l : List Int} {T : PM}, SO T (T.tells l)
 | [], T => .some rfl
 | x :: l, T => .then so_tell fun _ => so_tells
theorem so_other {T : PM} {r : Int} : ∀ x, T.other r = some x → x.2.stop = T.stop := by
 have hf : ∀ {T1 : PM} {m : Int}, T1.stop = T.stop → ∀ x, ((T1.throw m).map fun S => ((-1 : Int), S)) = some x → x.2.stop = T.stop := fun h x e => by
  obtain ⟨y, h1, rfl⟩ := Option.map_eq_some_iff.1 e
  exact (so_throw y h1).trans h
 intro x e
 unfold PM.other at e
 obtain ⟨t, _, e⟩ := Option.bind_eq_some_iff.1 e
 obtain ⟨n, _, e⟩ := Option.bind_eq_some_iff.1 e
 split at e
 ·exact hf rfl x e
 ·obtain ⟨u, _, e⟩ := Option.bind_eq_some_iff.1 e
  split at e
  ·cases e; rfl
  ·split at e
   ·obtain ⟨l, _, e⟩ := Option.bind_eq_some_iff.1 e
    split at e
    ·obtain ⟨T1, h1, e⟩ := Option.bind_eq_some_iff.1 e
     exact hf (by have := so_tells T1 h1; exact this) x e
    ·cases e
   ·exact hf rfl x e
theorem SO.otherThen {T : PM} {r : Int} {g : Int × PM → Option PM} (h : ∀ y, SO y.2 (g y)) : SO T ((T.other r).bind g) := .bind fun y e T' e' => (h y T' e').trans (so_other y e)
theorem so_lend {T : PM} {a b : Int} : SO T (T.lend a b) := .bind fun _ _ => .bind fun _ _ => .from (T1 := { (T.put T.run _).put a _ with run := a }) rfl so_tell
theorem so_hand {T : PM} {a b c d : Int} : SO T (T.hand a b c d) := .bind fun _ _ => .bind fun _ _ => .then (.from (T1 := PM.put { T.put T.run _ with run := _ } _ _) rfl so_tell) fun _ => .bind fun _ _ => .bind fun _ _ => .map fun _ _ => rfl
theorem so_resume {p : PPlan} {T : PM} {x : PStep} : SO T (T.resume p x) :=
 .otherThen fun y => .ite (.some rfl) (.bind fun _ _ => .bind fun _ _ => .bind fun _ _ => .bind fun _ _ => .then (.from (T1 := y.2.put y.2.run _) rfl so_lend) fun _ => .ite (.bind fun _ _ => .bind fun _ _ => .bind fun _ _ => .bind fun _ _ => .from rfl so_opens) (.bind fun _ _ => .map fun _ _ => rfl))
theorem so_giveUp {T : PM} {x : PStep} : SO T (T.giveUp x) :=
 .otherThen fun y => .ite (.some rfl) (.bind fun _ _ => .ite (.bind fun _ _ => .bind fun _ _ => .map fun _ _ => rfl) (.bind fun _ _ => .bind fun _ _ => .then (.from rfl so_lend) fun _ => so_mark))
theorem so_yield {T : PM} {x : PStep} : SO T (T.yield x) := .bind fun _ _ => .ite so_throw (.bind fun _ _ => .from rfl so_hand)
theorem so_act {p : PPlan} {T : PM} {t : PTk} {f : PFr} {r : List PFr} {x : PStep} {hd : Int} : SO T (T.act p t f r x hd) := by
 unfold PM.act
 refine .ite (.map fun _ _ => rfl) (.ite (.bind fun _ _ => .map fun _ _ => rfl) (.ite (.bind fun _ _ => so_tell) (.ite (.ite so_throw (.then so_create fun _ => .map fun _ _ => rfl)) (.ite so_resume (.ite so_yield (.ite so_giveUp (.ite (.bind fun _ _ => .ite so_throw (.bind fun _ _ => .map fun _ _ => rfl)) (.ite (.bind fun _ _ => so_throw) (.ite (.bind fun _ _ => so_mark) (.ite (.ite (.some rfl) .none) (.ite (.bind fun _ _ => .ite (.bind fun _ _ => .from rfl so_opens) (.some rfl)) (.ite (.bind fun _ _ => .ite so_opens (.some rfl)) so_opens))))))))))))
theorem so_step {p : PPlan} {T : PM} : SO T (T.step p) := by
 refine .bind fun t0 _ => ?_
 split
 ·exact .none
 ·refine .ite (.some tick_stop) (.bind fun t _ => ?_)
  split
  ·exact .none
  ·exact .bind fun _ _ => .bind fun _ _ => .from (by show T.tick.2.stop = T.stop; exact tick_stop) so_act
theorem so_ended {T : PM} {a b : Int} : SO T (T.ended a b) := .bind fun _ _ => .ite (.some rfl) (.ite (.from rfl so_hand) (.ite so_hand so_hand))
theorem so_close {p : PPlan} {T : PM} : SO T (T.close p) := by
 refine .bind fun t _ => ?_
 split
 ·exact .none
 ·split
  ·exact .ite (.some tick_stop) (.ite .none (.bind fun _ _ => .bind fun _ _ => .from (by show T.tick.2.stop = T.stop; exact tick_stop) so_opens))
  ·split
   ·exact .from rfl so_ended
   ·exact .ite (.bind fun _ _ => .bind fun _ _ => .then (.from rfl so_tell) fun _ => .bind fun _ _ => .map fun _ _ => rfl) (.ite (.some rfl) (.ite (.some rfl) (.from rfl so_mark)))
theorem so_turn1 {p : PPlan} {T : PM} : SO T (T.turn1 p) := by
 refine .bind fun t _ => ?_
 split
 ·exact .none
 ·exact .ite so_close (.ite so_mark so_step)
theorem so_runs {p : PPlan} : ∀ (n : Nat) (T : PM), SO T (PM.runs p n T)
 | 0, T => .none
 | n + 1, T => .ite (.some rfl) (.ite (.then so_turn1 fun T1 => so_runs n T1) .none)
theorem run_stop {p : PPlan} {ticks stop : Int} {T : PM} {m : Nat} (h : ((PM.fresh p ticks stop).bind fun T => PM.runs p m T) = some T) : T.stop = stop := by
 obtain ⟨T0, e0, e1⟩ := Option.bind_eq_some_iff.1 h
 obtain ⟨l, _, e2⟩ := Option.bind_eq_some_iff.1 e0
 exact (so_runs m T0 T e1).trans (so_opens T0 e2)
end Go.Proofs.Ytibmnlijoeppaaa.X
namespace Go.Proofs.Ytibmnlijoeppaaa
set_option linter.unusedSimpArgs false
set_option linter.unusedVariables false

theorem run1 {p : PPlan} : ∀ (m n : Nat) (S A B : PM), PM.runs p m S = some A → PM.runs p n S = some B → A = B
  | 0, _, _, _, _, h, _ => by cases h
  | _ + 1, 0, _, _, _, _, h => by cases h
  | m + 1, n + 1, S, A, B, h, h' => by
    unfold PM.runs at h h'
    split at h
    · rename_i ho
      rw [if_pos ho] at h'
      exact (Option.some.inj h).symm.trans (Option.some.inj h')
    · rename_i ho
      rw [if_neg ho] at h'
      split at h
      · rename_i hr
        rw [if_pos hr] at h'
        obtain ⟨S1, a1, a2⟩ := Option.bind_eq_some_iff.1 h
        obtain ⟨S2, b1, b2⟩ := Option.bind_eq_some_iff.1 h'
        rw [a1] at b1
        obtain rfl := Option.some.inj b1
        exact run1 m n S1 A B a2 b2
      · cases h

theorem run2 {p : PPlan} : ∀ (m n : Nat) (S A B : X.PM), X.PM.runs p m S = some A → X.PM.runs p n S = some B → A = B
  | 0, _, _, _, _, h, _ => by cases h
  | _ + 1, 0, _, _, _, _, h => by cases h
  | m + 1, n + 1, S, A, B, h, h' => by
    unfold X.PM.runs at h h'
    split at h
    · rename_i ho
      rw [if_pos ho] at h'
      exact (Option.some.inj h).symm.trans (Option.some.inj h')
    · rename_i ho
      rw [if_neg ho] at h'
      split at h
      · rename_i hr
        rw [if_pos hr] at h'
        obtain ⟨S1, a1, a2⟩ := Option.bind_eq_some_iff.1 h
        obtain ⟨S2, b1, b2⟩ := Option.bind_eq_some_iff.1 h'
        rw [a1] at b1
        obtain rfl := Option.some.inj b1
        exact run2 m n S1 A B a2 b2
      · cases h

theorem det1 {p : PPlan} {o : Option PM} {m n : Nat} {A B : PM} (h : (o.bind fun S => PM.runs p m S) = some A) (h' : (o.bind fun S => PM.runs p n S) = some B) : A = B := by
  obtain ⟨S, e, h⟩ := Option.bind_eq_some_iff.1 h
  rw [e, Option.bind_some] at h'
  exact run1 _ _ _ _ _ h h'

theorem det2 {p : PPlan} {o : Option X.PM} {m n : Nat} {A B : X.PM} (h : (o.bind fun S => X.PM.runs p m S) = some A) (h' : (o.bind fun S => X.PM.runs p n S) = some B) : A = B := by
  obtain ⟨S, e, h⟩ := Option.bind_eq_some_iff.1 h
  rw [e, Option.bind_some] at h'
  exact run2 _ _ _ _ _ h h'

theorem fresh_rings {p : PPlan} {ticks : Int} {hook : Option PHk} {S0 : PM} (e0 : PM.fresh p ticks hook = some S0) : S0.rings = [] := by
  have h1 := e0
  unfold PM.fresh at h1
  obtain ⟨S1, a1, h1⟩ := Option.bind_eq_some_iff.1 h1
  obtain ⟨S2, a2, h1⟩ := Option.bind_eq_some_iff.1 h1
  obtain ⟨t, a3, h1⟩ := Option.map_eq_some_iff.1 h1
  subst h1
  unfold PM.start at a2
  obtain ⟨t1, a4, a2⟩ := Option.bind_eq_some_iff.1 a2
  split at a2
  · obtain ⟨t2, a5, a2⟩ := Option.map_eq_some_iff.1 a2
    subst a2
    unfold PM.create at a1
    split at a1
    · have := Option.some.inj a1
      subst this
      rfl
    · cases a1
  · cases a2

/-- A run with StandAt's hook, beside the run without. -/
theorem hookRun {p : PPlan} (hok : (okP p).1 = 0) {ticks : Int} (ht : 0 ≤ ticks ∧ ticks ≤ 5000) (k : Int) {S0 : PM} {m0 : Nat} (h0 : ((PM.fresh p ticks none).bind fun S => PM.runs p m0 S) = some S0) :
  ∃ (S : PM) (st : PStand), (∃ m, ((PM.fresh p ticks (some ⟨0, k, ⟨false, 0, []⟩⟩)).bind fun S => PM.runs p m S) = some S) ∧ S.recs = S0.recs ∧ S.rings = S0.rings ∧ S.hook = some ⟨S0.recs.length, k, st⟩ ∧ (0 ≤ k → k < S0.recs.length → Std st) ∧ (S0.recs.length ≤ k → st = ⟨false, 0, []⟩) ∧
   ∀ r ∈ S0.rings, 0 ≤ r.pos ∧ r.pos < S0.recs.length ∧ (r.pos = k → RingOk r st) := by
  obtain ⟨S1, T1, ⟨m1, a1⟩, ⟨n1, b1⟩, f1⟩ := both_end hok ht
  obtain rfl := det1 h0 a1
  obtain ⟨S, S', T0, T', ⟨m2, a2⟩, a3, a4, a5, hH, _, ⟨n2, b2⟩, he⟩ := both_run hok ht (hook := some ⟨0, k, ⟨false, 0, []⟩⟩) (stop := -1) (.inl ⟨rfl, .inr ⟨k, _, rfl⟩⟩)
  obtain rfl := det2 b1 b2
  have hstop := X.run_stop b2
  cases he with
  | stopped n q a b c d => exact absurd hstop d
  | same f2 =>
    obtain ⟨st, g1, g2, g3, g4, g5, g6⟩ := hH.2 0 k _ a4 (by rw [a5]; rfl)
    have hr : S'.recs = S0.recs := f2.recs.symm.trans f1.recs
    have hg : S'.rings = S0.rings := f2.rings.symm.trans f1.rings
    rw [hr] at g1 g4 g5 g6
    refine ⟨S', st, ⟨m2, a2⟩, hr, hg, g1, fun h1 h2 => g4 h1 h2, g5, fun r hr' => ?_⟩
    rcases g6 r (hg ▸ hr') with h | ⟨h1, h2, h3⟩
    · rw [fresh_rings a3] at h; cases h
    · exact ⟨h1, h2, h3⟩

theorem Ch.nxt {sw : List (Int × Int)} : ∀ {l : List Nat} {i x y : Nat}, Ch sw l → l[i]? = some x → l[i + 1]? = some y → ∃ s, sw[x]? = some (s, (y : Int))
  | [], i, x, y, h, _, _ => h.elim
  | [k], i, x, y, h, _, e => by simp at e
  | k :: j :: c, 0, x, y, h, e1, e2 => by
    simp only [List.getElem?_cons_zero, List.getElem?_cons_succ, Option.some.injEq, Nat.zero_add] at e1 e2
    subst e1; subst e2
    exact h.1
  | k :: j :: c, i + 1, x, y, h, e1, e2 => by
    simp only [List.getElem?_cons_succ] at e1 e2
    exact Ch.nxt (l := j :: c) h.2 e1 e2

/-- What a ring says of a stand: it ends with the running task, and each waits for the one before. -/
theorem RingOk.fit {r : PRing} {s : PStand} (h : RingOk r s) : ∃ n : Nat, r.tasks.length = n + 1 ∧ r.tasks[n]? = some s.running ∧
   ∀ (j : Nat) (x y : Int), r.tasks[j + 1]? = some x → r.tasks[j]? = some y → ∃ (z : Nat) (v : PView), x = z ∧ s.tasks[z]? = some v ∧ v.waiter = y := by
  obtain ⟨k, m, a, b, c, h1, h2, h3, h4⟩ := h
  have hL : m :: a.reverse = (a ++ [m]).reverse := by simp
  have hch : Ch (s.tasks.map fun v => (v.state, v.waiter)) (a ++ m :: b) := h3 ▸ h4.ch
  have h0 : (a ++ [m])[0]? = some k := by
    have : (a ++ m :: b)[0]? = some k := by rw [← h3]; rfl
    cases a with
    | nil => simpa using this
    | cons z a => simpa using this
  have hget : ∀ j, j ≤ a.length → (m :: a.reverse)[j]? = (a ++ [m])[a.length - j]? := fun j hj => by
    rw [hL, List.getElem?_reverse (by simp; omega)]
    congr 1
    simp only [List.length_append, List.length_cons, List.length_nil]; omega
  have hpre : ∀ i, i ≤ a.length → (a ++ [m])[i]? = (a ++ m :: b)[i]? := fun i hi => by
    by_cases h : i < a.length
    · rw [List.getElem?_append_left h, List.getElem?_append_left h]
    · obtain rfl : i = a.length := by omega
      simp
  refine ⟨a.length, by rw [h2]; simp [ints], ?_, fun j x y e1 e2 => ?_⟩
  · rw [h2, ints, List.getElem?_map, hget _ (Nat.le_refl _), Nat.sub_self, h0, h1]; rfl
  · rw [h2, ints, List.getElem?_map] at e1 e2
    obtain ⟨x', q1, rfl⟩ := Option.map_eq_some_iff.1 e1
    obtain ⟨y', q2, rfl⟩ := Option.map_eq_some_iff.1 e2
    have hj : j + 1 ≤ a.length := by
      have := (List.getElem?_eq_some_iff.1 q1).1
      simp at this; omega
    rw [hget _ hj, hpre _ (by omega)] at q1
    rw [hget _ (by omega), hpre _ (by omega), show a.length - j = a.length - (j + 1) + 1 by omega] at q2
    obtain ⟨st, hs⟩ := hch.nxt q1 q2
    rw [List.getElem?_map] at hs
    obtain ⟨v, e3, e4⟩ := Option.map_eq_some_iff.1 hs
    exact ⟨x', v, rfl, e3, congrArg Prod.snd e4⟩
end Go.Proofs.Ytibmnlijoeppaaa
