/-
 The program's machine: rings are no longer than there are tasks.
-/
import Derived.Test.YtibmnlijoeppaaaIM
namespace Go.Proofs.Ytibmnlijoeppaaa
set_option linter.unusedSimpArgs false
set_option linter.unusedVariables false

/-- Records are added only; while a run goes on its number and code stay; ticks are not used up beyond. -/
def More (S S' : PM) : Prop := (∃ l, S'.recs = S.recs ++ l) ∧ (S'.over = false → S.over = false ∧ S'.num = S.num ∧ S'.code = S.code) ∧ S'.left = S.left ∧ (0 ≤ S.used ∧ S.used ≤ S.left ∧ S.left ≤ 5000 → 0 ≤ S'.used ∧ S'.used ≤ S'.left)
theorem More.trans {S S' S'' : PM} (h : More S S') (h' : More S' S'') : More S S'' := by
 obtain ⟨⟨l, a1⟩, a2, a3, a4⟩ := h
 obtain ⟨⟨l', b1⟩, b2, b3, b4⟩ := h'
 refine ⟨⟨l ++ l', by rw [b1, a1, List.append_assoc]⟩, fun e => ?_, b3.trans a3, fun e => ?_⟩
 ·obtain ⟨c1, c2, c3⟩ := b2 e
  obtain ⟨d1, d2, d3⟩ := a2 c1
  exact ⟨d1, c2.trans d2, c3.trans d3⟩
 ·obtain ⟨c1, c2⟩ := a4 e
  exact b4 ⟨c1, c2, by omega⟩
theorem More.of {S S' : PM} (h : S'.code = S.code ∧ S'.recs = S.recs ∧ S'.over = S.over ∧ S'.num = S.num ∧ S'.left = S.left ∧ S'.used = S.used) : More S S' := by
 obtain ⟨a, b, c, d, e, f⟩ := h
 exact ⟨⟨[], by simp [b]⟩, fun g => ⟨c ▸ g, d, a⟩, e, fun g => by omega⟩

/-- Tasks stay, new rings are short, the code is never 3. -/
def Gr (S S' : PM) : Prop := (S.tasks.length ≤ S'.tasks.length ∧ (S.code ≠ 3 → S'.code ≠ 3) ∧ More S S') ∧ ∀ r ∈ S'.rings, r ∈ S.rings ∨ r.tasks.length ≤ S'.tasks.length + 1
theorem Gr.trans {S S' S'' : PM} (h : Gr S S') (h' : Gr S' S'') : Gr S S'' :=
 ⟨⟨Nat.le_trans h.1.1 h'.1.1, fun e => h'.1.2.1 (h.1.2.1 e), h.1.2.2.trans h'.1.2.2⟩, fun r hr => by
  rcases h'.2 r hr with h1 | h1
  ·rcases h.2 r h1 with h2 | h2
   ·exact .inl h2
   ·exact .inr (by have := h'.1.1; omega)
  ·exact .inr h1⟩
theorem Gr.of' {S S' : PM} (h1 : S'.tasks.length = S.tasks.length) (h2 : S'.rings = S.rings) (h3 : S.code ≠ 3 → S'.code ≠ 3) (h4 : More S S') : Gr S S' := ⟨⟨by omega, h3, h4⟩, fun r hr => .inl (h2 ▸ hr)⟩
theorem Gr.of {S S' : PM} (h1 : S'.tasks.length = S.tasks.length) (h2 : S'.rings = S.rings) (h3 : S'.code = S.code ∧ S'.recs = S.recs ∧ S'.over = S.over ∧ S'.num = S.num ∧ S'.left = S.left ∧ S'.used = S.used := by exact ⟨rfl, rfl, rfl, rfl, rfl, rfl⟩) : Gr S S' := .of' h1 h2 (fun h => h3.1 ▸ h) (.of h3)
theorem Gr.put {S S' : PM} (h : Gr S S') {i : Int} {t : PTk} : Gr S (S'.put i t) := h.trans (.of (by simp [PM.put]) rfl)
theorem Gr.tick {S : PM} : Gr S S.tick.2 := by
 unfold PM.tick
 split
 ·exact .of' rfl rfl (fun _ => by simp) ⟨⟨[], by simp⟩, fun e => by simp at e, rfl, fun e => by simp only; omega⟩
 ·rename_i hne
  refine .of' rfl rfl id ⟨⟨[], by simp⟩, fun e => ⟨e, rfl, rfl⟩, rfl, fun e => ?_⟩
  have : wr64 (S.used + 1) = S.used + 1 := small (by omega)
  simp only [this]; omega
def GO (S : PM) (o : Option PM) : Prop := ∀ S', o = some S' → Gr S S'
theorem GO.some {S S' : PM} (h : Gr S S') : GO S (.some S') := fun _ e => (Option.some.inj e) ▸ h
theorem GO.none {S : PM} : GO S .none := fun _ e => by cases e
theorem GO.bind {S : PM} {α : Type} {o : Option α} {g : α → Option PM} (h : ∀ x, o = Option.some x → GO S (g x)) : GO S (o.bind g) := by
 intro S' e
 obtain ⟨x, h1, h2⟩ := Option.bind_eq_some_iff.1 e
 exact h x h1 S' h2
theorem GO.map {S : PM} {α : Type} {o : Option α} {g : α → PM} (h : ∀ x, o = Option.some x → Gr S (g x)) : GO S (o.map g) := by
 intro S' e
 obtain ⟨x, h1, rfl⟩ := Option.map_eq_some_iff.1 e
 exact h x h1
theorem GO.ite {S : PM} {c : Prop} [Decidable c] {a b : Option PM} (h1 : GO S a) (h2 : GO S b) : GO S (if c then a else b) := by split <;> assumption
theorem GO.then {S : PM} {o : Option PM} {g : PM → Option PM} (h : GO S o) (h2 : ∀ S1, GO S1 (g S1)) : GO S (o.bind g) := .bind fun x e S' e' => (h x e).trans (h2 x S' e')
theorem GO.from {S S1 : PM} {o : Option PM} (h : Gr S S1) (h2 : GO S1 o) : GO S o := fun S' e => h.trans (h2 S' e)

theorem gr0 {S : PM} : Gr S S := .of rfl rfl
theorem go_tell {S : PM} {a b c : Int} : GO S (S.tell a b c) := by
 unfold PM.tell
 refine .ite (.some ?_) .none
 refine .of' (by unfold PM.hooked; split <;> rfl) (by unfold PM.hooked; split <;> rfl) (fun h => by unfold PM.hooked; split <;> exact h) ⟨⟨_, rfl⟩, fun e => ?_, by unfold PM.hooked; split <;> rfl, fun e => by unfold PM.hooked; split <;> (simp only; omega)⟩
 unfold PM.hooked at e ⊢
 split at e <;> exact ⟨e, rfl, rfl⟩
theorem go_fail {S : PM} {n : Int} : GO S (S.fail n) := .then go_tell fun S1 => .bind fun _ _ => .map fun _ _ => gr0.put
theorem go_turn {S : PM} {a b : Int} : GO S (S.turn a b) := .bind fun _ _ => .from (S1 := { S.put a _ with run := a }) (.of (by simp [PM.put]) rfl) go_tell
theorem go_start {p : PPlan} {S : PM} {i : Int} : GO S (S.start p i) := .bind fun _ _ => .ite (.map fun _ _ => gr0.put) .none
theorem go_create {S : PM} {b : Int} : GO S (S.create b) := .ite (.some ⟨⟨by simp, id, .of ⟨rfl, rfl, rfl, rfl, rfl, rfl⟩⟩, fun r hr => .inl hr⟩) .none
theorem go_look {p : PPlan} {S : PM} {i a : Int} : GO S (S.look p i a) :=
 .ite (.some .tick) (.bind fun _ _ => .bind fun _ _ => .bind fun _ _ => .bind fun _ _ => .ite (.bind fun _ _ => .map fun _ _ => Gr.tick.put) (.some .tick))
theorem go_finish {S : PM} {w n : Int} : GO S (S.finish w n) := by
 refine .bind fun t0 _ => .ite (.some ?_) (.bind fun _ _ => .from gr0.put (.then go_turn fun S1 => .bind fun _ _ => .bind fun _ _ => .map fun _ _ => gr0.put))
 refine .of' (by simp [PM.put]) rfl (fun h => ?_) ⟨⟨[], by simp [PM.put]⟩, fun e => by simp at e, rfl, fun e => ⟨e.1, e.2.1⟩⟩
 show (if w = 2 then (1 : Int) else S.code) ≠ 3
 split
 ·decide
 ·exact h
theorem go_close {p : PPlan} {S : PM} : GO S (S.close p) := by
 refine .bind fun t _ => ?_
 split
 ·exact .none
 ·split
  ·exact .from gr0.put go_finish
  ·refine .ite (.ite (.some gr0.put.put) (.ite (.some gr0.put.put) (.ite (.some gr0.put.put) (.some gr0.put)))) (.ite (.from gr0.put go_look) (.ite (.some gr0.put) (.ite (.from gr0.put (.then go_tell fun S1 => .bind fun _ _ => .bind fun _ _ => .bind fun _ _ => .map fun _ _ => gr0.put)) (.some gr0.put.put))))
theorem go_leave {p : PPlan} {S : PM} : GO S (S.leave p) := by
 refine .bind fun t _ => ?_
 split
 ·exact .none
 ·split
  ·exact go_close
  ·exact .ite (.some .tick) (.ite .none (.bind fun _ _ => .bind fun _ _ => .map fun _ _ => Gr.tick.put))

theorem go_ringing : ∀ (f : Nat) (S : PM) (k : Int) (l : List Int) (S' : PM) (l' : List Int), PM.ringing f S k l = some (S', l') → (Gr S S' ∧ S'.tasks = S.tasks) ∧ S'.rings = S.rings ∧ l'.length ≤ l.length + f
 | 0, _, _, _, _, _, e => by cases e
 | f + 1, S, k, l, S', l', e => by
  unfold PM.ringing at e
  split at e
  ·obtain ⟨S1, h1, h2⟩ := Option.bind_eq_some_iff.1 e
   have ht : S1.tasks = S.tasks ∧ S1.rings = S.rings := by
    unfold PM.tell at h1
    split at h1
    ·have := Option.some.inj h1
     subst this
     unfold PM.hooked
     split <;> exact ⟨rfl, rfl⟩
    ·cases h1
   split at h2
   ·simp only [Option.some.injEq, Prod.mk.injEq] at h2
    obtain ⟨rfl, rfl⟩ := h2
    exact ⟨⟨go_tell _ h1, ht.1⟩, ht.2, by simp⟩
   ·obtain ⟨a, b, c⟩ := go_ringing f _ _ _ _ _ h2
    exact ⟨⟨(go_tell _ h1).trans a.1, a.2.trans ht.1⟩, b.trans ht.2, by simp at c; omega⟩
  ·cases e

def GB (S : PM) (o : Option (Bool × PM)) : Prop := ∀ x, o = some x → Gr S x.2
theorem go_may {S : PM} {n : Int} : GB S (S.may n) := by
 have hf : ∀ {S1 : PM} {m : Int}, Gr S S1 → GB S ((S1.fail m).map fun S => (false, S)) := fun h x e => by
  obtain ⟨y, h1, rfl⟩ := Option.map_eq_some_iff.1 e
  exact h.trans (go_fail y h1)
 intro x e
 unfold PM.may at e
 split at e
 ·exact hf gr0 x e
 ·obtain ⟨u, _, e⟩ := Option.bind_eq_some_iff.1 e
  split at e
  ·cases e; exact gr0
  ·split at e
   ·obtain ⟨⟨S1, l1⟩, h1, e⟩ := Option.bind_eq_some_iff.1 e
    obtain ⟨a, b, c⟩ := go_ringing _ _ _ _ _ _ h1
    split at e
    ·refine hf ?_ x e
     refine a.1.trans ⟨⟨Nat.le_refl _, id, .of ⟨rfl, rfl, rfl, rfl, rfl, rfl⟩⟩, fun r hr => ?_⟩
     simp only [List.mem_append, List.mem_singleton] at hr
     rcases hr with hr | rfl
     ·exact .inl hr
     ·exact .inr (by simp only [List.length_nil] at c; simp only [a.2]; omega)
    ·cases e
   ·exact hf gr0 x e

theorem GO.mayThen {S : PM} {n : Int} {g : Bool × PM → Option PM} (h : ∀ y, GO y.2 (g y)) : GO S ((S.may n).bind g) := .bind fun y e S' e' => (go_may y e).trans (h y S' e')
theorem go_resume {p : PPlan} {S : PM} {x : PStep} : GO S (S.resume p x) :=
 .bind fun _ _ => .bind fun _ _ => .mayThen fun y => .ite (.some gr0) (.bind fun _ _ => .bind fun _ _ => .bind fun _ _ => .bind fun _ _ => .from gr0.put.put (.then go_turn fun S2 => .ite (.then go_start fun S3 => .bind fun _ _ => .map fun _ _ => gr0.put) (.bind fun _ _ => .map fun _ _ => gr0.put)))
theorem go_yield {S : PM} {x : PStep} : GO S (S.yield x) :=
 .bind fun _ _ => .ite go_fail (.bind fun _ _ => .from gr0.put (.then go_turn fun S1 => .bind fun _ _ => .bind fun _ _ => .map fun _ _ => gr0.put))
theorem go_giveUp {S : PM} {x : PStep} : GO S (S.giveUp x) :=
 .bind fun _ _ => .bind fun _ _ => .mayThen fun y => .ite (.some gr0) (.bind fun _ _ => .ite (.bind fun _ _ => .bind fun _ _ => .map fun _ _ => gr0.put.put) (.bind fun _ _ => .bind fun _ _ => .bind fun _ _ => .from gr0.put.put go_turn))
theorem go_act {p : PPlan} {S : PM} {t : PTk} {f : PFr} {r : List PFr} {x : PStep} {hd : Int} : GO S (S.act p t f r x hd) := by
 unfold PM.act
 refine .ite (.map fun _ _ => gr0.put) (.ite (.bind fun _ _ => .map fun _ _ => gr0.put) (.ite (.bind fun _ _ => go_tell) (.ite (.ite go_fail (.then go_create fun S1 => .map fun _ _ => gr0.put)) (.ite go_resume (.ite go_yield (.ite go_giveUp (.ite (.bind fun _ _ => .ite (.bind fun _ _ => .map fun _ _ => gr0.put) go_fail) (.ite (.bind fun _ _ => go_fail) (.ite (.map fun _ _ => gr0.put) (.ite (.ite (.some gr0.put) .none) (.ite go_look (.ite (.map fun _ _ => gr0.put) (.ite (.bind fun _ _ => .ite (.map fun _ _ => gr0.put) (.some gr0)) (.some gr0))))))))))))))
theorem go_step {p : PPlan} {S : PM} : GO S (S.step p) := by
 refine .bind fun t _ => ?_
 split
 ·exact .none
 ·exact .ite go_leave (.ite (.from gr0.put go_leave) (.bind fun _ _ => .bind fun _ _ => .ite (.from gr0.put go_act) (.ite (.some .tick) (.from Gr.tick.put go_act))))
theorem go_runs {p : PPlan} : ∀ (n : Nat) (S : PM), GO S (PM.runs p n S)
 | 0, S => .none
 | n + 1, S => .ite (.some gr0) (.ite (.then go_step fun S1 => go_runs n S1) .none)

theorem run_grow {p : PPlan} {ticks : Int} {hook : Option PHk} {S : PM} {m : Nat} (hm : ((PM.fresh p ticks hook).bind fun S => PM.runs p m S) = some S) : S.code ≠ 3 ∧ ∀ r ∈ S.rings, r.tasks.length ≤ S.tasks.length + 1 := by
 obtain ⟨S0, e0, e1⟩ := Option.bind_eq_some_iff.1 hm
 have hg := go_runs m S0 S e1
 have hr0 : S0.rings = [] ∧ S0.code = 0 := by
  have h1 := e0
  unfold PM.fresh at h1
  obtain ⟨S1, a1, h1⟩ := Option.bind_eq_some_iff.1 h1
  obtain ⟨S2, a2, h1⟩ := Option.bind_eq_some_iff.1 h1
  obtain ⟨t, a3, h1⟩ := Option.map_eq_some_iff.1 h1
  subst h1
  unfold PM.start at a2
  obtain ⟨t1, a4, a2⟩ := Option.bind_eq_some_iff.1 a2
  split at a2
  ·obtain ⟨t2, a5, a2⟩ := Option.map_eq_some_iff.1 a2
   subst a2
   unfold PM.create at a1
   split at a1
   ·have := Option.some.inj a1
    subst this
    exact ⟨rfl, rfl⟩
   ·cases a1
  ·cases a2
 refine ⟨hg.1.2.1 (by rw [hr0.2]; decide), fun r hr => ?_⟩
 rcases hg.2 r hr with h1 | h1
 ·rw [hr0.1] at h1; cases h1
 ·exact h1
end Go.Proofs.Ytibmnlijoeppaaa
