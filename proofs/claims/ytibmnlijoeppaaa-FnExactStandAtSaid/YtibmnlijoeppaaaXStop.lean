/-
  The reference's machine: where it is to stop never changes.
-/
import Derived.Test.YtibmnlijoeppaaaXM
namespace Go.Proofs.Ytibmnlijoeppaaa.X
set_option linter.unusedSimpArgs false
set_option linter.unusedVariables false

def SO (T : PM) (o : Option PM) : Prop := ∀ T', o = some T' → T'.stop = T.stop
theorem SO.some {T T' : PM} (h : T'.stop = T.stop) : SO T (.some T') := fun _ e => (Option.some.inj e) ▸ h
theorem SO.none {T : PM} : SO T .none := fun _ e => by cases e
theorem SO.bind {T : PM} {α : Type} {o : Option α} {g : α → Option PM} (h : ∀ x, o = Option.some x → SO T (g x)) : SO T (o.bind g) := by
  intro T' e
  obtain ⟨x, h1, h2⟩ := Option.bind_eq_some_iff.1 e
  exact h x h1 T' h2
theorem SO.map {T : PM} {α : Type} {o : Option α} {g : α → PM} (h : ∀ x, o = Option.some x → (g x).stop = T.stop) : SO T (o.map g) := by
  intro T' e
  obtain ⟨x, h1, rfl⟩ := Option.map_eq_some_iff.1 e
  exact h x h1
theorem SO.ite {T : PM} {c : Prop} [Decidable c] {a b : Option PM} (h1 : SO T a) (h2 : SO T b) : SO T (if c then a else b) := by split <;> assumption
theorem SO.then {T : PM} {o : Option PM} {g : PM → Option PM} (h : SO T o) (h2 : ∀ T1, SO T1 (g T1)) : SO T (o.bind g) := .bind fun x e T' e' => (h2 x T' e').trans (h x e)
theorem SO.from {T T1 : PM} {o : Option PM} (h : T1.stop = T.stop) (h2 : SO T1 o) : SO T o := fun T' e => (h2 T' e).trans h
theorem tick_stop {T : PM} : T.tick.2.stop = T.stop := by unfold PM.tick; split <;> (try split) <;> rfl

theorem so_tell {T : PM} {a b c : Int} : SO T (T.tell a b c) := by
  unfold PM.tell
  refine .ite (.some rfl) (.ite ?_ .none)
  first | exact .ite (.some rfl) (.some rfl) | (refine .some ?_; split <;> rfl)
theorem so_mark {T : PM} {a b : Int} : SO T (T.mark a b) := .bind fun _ _ => .map fun _ _ => rfl
theorem so_throw {T : PM} {n : Int} : SO T (T.throw n) := .then so_tell fun _ => so_mark
theorem so_opens {T : PM} {a b c d : Int} : SO T (T.opens a b c d) := .bind fun _ _ => .ite (.some rfl) .none
theorem so_create {T : PM} {b : Int} : SO T (T.create b) := .ite (.some rfl) .none
theorem so_tells : ∀ {l : List Int} {T : PM}, SO T (T.tells l)
  | [], T => .some rfl
  | x :: l, T => .then so_tell fun _ => so_tells
theorem so_other {T : PM} {r : Int} : ∀ x, T.other r = some x → x.2.stop = T.stop := by
  have hf : ∀ {T1 : PM} {m : Int}, T1.stop = T.stop → ∀ x, ((T1.throw m).map fun S => ((-1 : Int), S)) = some x → x.2.stop = T.stop := fun h x e => by
    obtain ⟨y, h1, rfl⟩ := Option.map_eq_some_iff.1 e
    exact (so_throw y h1).trans h
  intro x e
  unfold PM.other at e
  obtain ⟨t, _, e⟩ := Option.bind_eq_some_iff.1 e
  obtain ⟨n, _, e⟩ := Option.bind_eq_some_iff.1 e
  split at e
  · exact hf rfl x e
  · obtain ⟨u, _, e⟩ := Option.bind_eq_some_iff.1 e
    split at e
    · cases e; rfl
    · split at e
      · obtain ⟨l, _, e⟩ := Option.bind_eq_some_iff.1 e
        split at e
        · obtain ⟨T1, h1, e⟩ := Option.bind_eq_some_iff.1 e
          exact hf (by have := so_tells T1 h1; exact this) x e
        · cases e
      · exact hf rfl x e
theorem SO.otherThen {T : PM} {r : Int} {g : Int × PM → Option PM} (h : ∀ y, SO y.2 (g y)) : SO T ((T.other r).bind g) := .bind fun y e T' e' => (h y T' e').trans (so_other y e)
theorem so_lend {T : PM} {a b : Int} : SO T (T.lend a b) := .bind fun _ _ => .bind fun _ _ => .from (T1 := { (T.put T.run _).put a _ with run := a }) rfl so_tell
theorem so_hand {T : PM} {a b c d : Int} : SO T (T.hand a b c d) := .bind fun _ _ => .bind fun _ _ => .then (.from (T1 := PM.put { T.put T.run _ with run := _ } _ _) rfl so_tell) fun _ => .bind fun _ _ => .bind fun _ _ => .map fun _ _ => rfl
theorem so_resume {p : PPlan} {T : PM} {x : PStep} : SO T (T.resume p x) :=
  .otherThen fun y => .ite (.some rfl) (.bind fun _ _ => .bind fun _ _ => .bind fun _ _ => .bind fun _ _ => .then (.from (T1 := y.2.put y.2.run _) rfl so_lend) fun _ => .ite (.bind fun _ _ => .bind fun _ _ => .bind fun _ _ => .bind fun _ _ => .from rfl so_opens) (.bind fun _ _ => .map fun _ _ => rfl))
theorem so_giveUp {T : PM} {x : PStep} : SO T (T.giveUp x) :=
  .otherThen fun y => .ite (.some rfl) (.bind fun _ _ => .ite (.bind fun _ _ => .bind fun _ _ => .map fun _ _ => rfl) (.bind fun _ _ => .bind fun _ _ => .then (.from rfl so_lend) fun _ => so_mark))
theorem so_yield {T : PM} {x : PStep} : SO T (T.yield x) := .bind fun _ _ => .ite so_throw (.bind fun _ _ => .from rfl so_hand)
theorem so_act {p : PPlan} {T : PM} {t : PTk} {f : PFr} {r : List PFr} {x : PStep} {hd : Int} : SO T (T.act p t f r x hd) := by
  unfold PM.act
  refine .ite (.map fun _ _ => rfl) (.ite (.bind fun _ _ => .map fun _ _ => rfl) (.ite (.bind fun _ _ => so_tell) (.ite (.ite so_throw (.then so_create fun _ => .map fun _ _ => rfl)) (.ite so_resume (.ite so_yield (.ite so_giveUp (.ite (.bind fun _ _ => .ite so_throw (.bind fun _ _ => .map fun _ _ => rfl)) (.ite (.bind fun _ _ => so_throw) (.ite (.bind fun _ _ => so_mark) (.ite (.ite (.some rfl) .none) (.ite (.bind fun _ _ => .ite (.bind fun _ _ => .from rfl so_opens) (.some rfl)) (.ite (.bind fun _ _ => .ite so_opens (.some rfl)) so_opens))))))))))))
theorem so_step {p : PPlan} {T : PM} : SO T (T.step p) := by
  refine .bind fun t0 _ => ?_
  split
  · exact .none
  · refine .ite (.some tick_stop) (.bind fun t _ => ?_)
    split
    · exact .none
    · exact .bind fun _ _ => .bind fun _ _ => .from (by show T.tick.2.stop = T.stop; exact tick_stop) so_act
theorem so_ended {T : PM} {a b : Int} : SO T (T.ended a b) := .bind fun _ _ => .ite (.some rfl) (.ite (.from rfl so_hand) (.ite so_hand so_hand))
theorem so_close {p : PPlan} {T : PM} : SO T (T.close p) := by
  refine .bind fun t _ => ?_
  split
  · exact .none
  · split
    · exact .ite (.some tick_stop) (.ite .none (.bind fun _ _ => .bind fun _ _ => .from (by show T.tick.2.stop = T.stop; exact tick_stop) so_opens))
    · split
      · exact .from rfl so_ended
      · exact .ite (.bind fun _ _ => .bind fun _ _ => .then (.from rfl so_tell) fun _ => .bind fun _ _ => .map fun _ _ => rfl) (.ite (.some rfl) (.ite (.some rfl) (.from rfl so_mark)))
theorem so_turn1 {p : PPlan} {T : PM} : SO T (T.turn1 p) := by
  refine .bind fun t _ => ?_
  split
  · exact .none
  · exact .ite so_close (.ite so_mark so_step)
theorem so_runs {p : PPlan} : ∀ (n : Nat) (T : PM), SO T (PM.runs p n T)
  | 0, T => .none
  | n + 1, T => .ite (.some rfl) (.ite (.then so_turn1 fun T1 => so_runs n T1) .none)
theorem run_stop {p : PPlan} {ticks stop : Int} {T : PM} {m : Nat} (h : ((PM.fresh p ticks stop).bind fun T => PM.runs p m T) = some T) : T.stop = stop := by
  obtain ⟨T0, e0, e1⟩ := Option.bind_eq_some_iff.1 h
  obtain ⟨l, _, e2⟩ := Option.bind_eq_some_iff.1 e0
  exact (so_runs m T0 T e1).trans (so_opens T0 e2)
end Go.Proofs.Ytibmnlijoeppaaa.X
