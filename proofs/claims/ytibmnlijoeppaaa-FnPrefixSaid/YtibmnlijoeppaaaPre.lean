/-
 The program's machine with fewer ticks: the beginning of the same run.
-/
import Derived.Test.YtibmnlijoeppaaaGrow
import Derived.Test.YtibmnlijoeppaaaBoth
namespace Go.Proofs.Ytibmnlijoeppaaa
set_option linter.unusedSimpArgs false
set_option linter.unusedVariables false

/-- The same machine with another number of ticks. -/
def sl (t : Int) (S : PM) : PM := { S with left := t }
def LO (t : Int) (o o' : Option PM) : Prop := o' = o.map (sl t)
section
variable {t : Int}
theorem LO.some {S S' : PM} (h : S' = sl t S) : LO t (.some S) (.some S') := by subst h; rfl
theorem LO.none : LO t .none .none := rfl
theorem LO.bind {α : Type} {o : Option α} {f f' : α → Option PM} (h : ∀ x, LO t (f x) (f' x)) : LO t (o.bind f) (o.bind f') := by
 cases o with
 | none => rfl
 | some x => exact h x
theorem LO.map {α : Type} {o : Option α} {f f' : α → PM} (h : ∀ x, f' x = sl t (f x)) : LO t (o.map f) (o.map f') := by
 cases o with
 | none => rfl
 | some x => exact congrArg Option.some (h x)
theorem LO.then {o o' : Option PM} {g g' : PM → Option PM} (h : LO t o o') (h2 : ∀ S, LO t (g S) (g' (sl t S))) : LO t (o.bind g) (o'.bind g') := by
 unfold LO at h
 subst h
 cases o with
 | none => rfl
 | some S => exact h2 S
theorem LO.ite {c : Prop} [Decidable c] {a b a' b' : Option PM} (h1 : LO t a a') (h2 : LO t b b') : LO t (if c then a else b) (if c then a' else b') := by split <;> assumption

theorem lo_tell {S : PM} {a b c : Int} : LO t (S.tell a b c) ((sl t S).tell a b c) := by
 rcases S with ⟨a1, a2, a3, a4, a5, a6, a7, a8, a9, a10, hook, a12⟩
 refine .ite (.some ?_) .none
 cases hook <;> rfl
theorem lo_fail {S : PM} {n : Int} : LO t (S.fail n) ((sl t S).fail n) := .then lo_tell fun S1 => .bind fun _ => .map fun _ => rfl
theorem lo_turn {S : PM} {a b : Int} : LO t (S.turn a b) ((sl t S).turn a b) := .bind fun _ => lo_tell (S := { S.put a _ with run := a })
theorem lo_start {p : PPlan} {S : PM} {i : Int} : LO t (S.start p i) ((sl t S).start p i) := .bind fun _ => .ite (.map fun _ => rfl) .none
theorem lo_create {S : PM} {b : Int} : LO t (S.create b) ((sl t S).create b) := .ite (.some rfl) .none
theorem lo_finish {S : PM} {w n : Int} : LO t (S.finish w n) ((sl t S).finish w n) :=
 .bind fun t0 => .ite (.some rfl) (.bind fun _ => .then (lo_turn (S := S.put S.run _)) fun S1 => .bind fun _ => .bind fun _ => .map fun _ => rfl)
theorem lo_ringing : ∀ (f : Nat) (S : PM) (k : Int) (l : List Int), PM.ringing f (sl t S) k l = (PM.ringing f S k l).map fun x => (sl t x.1, x.2)
 | 0, _, _, _ => rfl
 | f + 1, S, k, l => by
  unfold PM.ringing
  split
  ·rw [show (sl t S).tell 5 0 k = (S.tell 5 0 k).map (sl t) from lo_tell]
   cases S.tell 5 0 k with
   | none => rfl
   | some S1 =>
    simp only [Option.map_some, Option.bind_some]
    by_cases hk : k = S1.run
    ·rw [if_pos hk, if_pos (show k = (sl t S1).run from hk)]; rfl
    ·rw [if_neg hk, if_neg (show ¬ k = (sl t S1).run from hk)]
     exact lo_ringing f S1 _ _
  ·rfl
theorem lo_may {S : PM} {n : Int} : (sl t S).may n = (S.may n).map fun x => (x.1, sl t x.2) := by
 have hf : ∀ {S1 : PM} {m : Int}, ((sl t S1).fail m).map (fun S => (false, S)) = ((S1.fail m).map fun S => (false, S)).map fun x => (x.1, sl t x.2) := fun {S1 m} => by
  rw [show (sl t S1).fail m = (S1.fail m).map (sl t) from lo_fail]
  cases S1.fail m <;> rfl
 unfold PM.may
 by_cases h1 : S.other n = false
 ·rw [if_pos h1, if_pos (show (sl t S).other n = false from h1)]; exact hf
 ·rw [if_neg h1, if_neg (show ¬ (sl t S).other n = false from h1)]
  rw [show idx (sl t S).tasks n = idx S.tasks n from rfl]
  cases idx S.tasks n with
  | none => rfl
  | some u =>
   simp only [Option.bind_some]
   split
   ·rfl
   ·split
    ·rw [show PM.ringing ((sl t S).tasks.length + 1) (sl t S) n [] = _ from lo_ringing _ S n []]
     rw [show (sl t S).tasks = S.tasks from rfl]
     cases PM.ringing (S.tasks.length + 1) S n [] with
     | none => rfl
     | some x =>
      simp only [Option.map_some, Option.bind_some]
      by_cases h2 : x.1.rings.length < roomy
      ·rw [if_pos h2, if_pos (show (sl t x.1).rings.length < roomy from h2)]
       exact hf (S1 := { x.1 with rings := x.1.rings ++ [⟨S.recs.length, x.2⟩] })
      ·rw [if_neg h2, if_neg (show ¬ (sl t x.1).rings.length < roomy from h2)]; rfl
    ·exact hf
theorem LO.mayThen {S : PM} {n : Int} {g g' : Bool × PM → Option PM} (h : ∀ y : Bool × PM, LO t (g y) (g' (y.1, sl t y.2))) : LO t ((S.may n).bind g) (((sl t S).may n).bind g') := by
 rw [lo_may]
 cases S.may n with
 | none => rfl
 | some y => exact h y
theorem lo_resume {p : PPlan} {S : PM} {x : PStep} : LO t (S.resume p x) ((sl t S).resume p x) :=
 .bind fun _ => .bind fun _ => .mayThen fun y => .ite (.some rfl) (.bind fun _ => .bind fun _ => .bind fun _ => .bind fun _ => .then (lo_turn (S := (y.2.put S.run _).put _ _)) fun S2 => .ite (.then lo_start fun S3 => .bind fun _ => .map fun _ => rfl) (.bind fun _ => .map fun _ => rfl))
theorem lo_yield {S : PM} {x : PStep} : LO t (S.yield x) ((sl t S).yield x) :=
 .bind fun _ => .ite lo_fail (.bind fun _ => .then (lo_turn (S := S.put S.run _)) fun S1 => .bind fun _ => .bind fun _ => .map fun _ => rfl)
theorem lo_giveUp {S : PM} {x : PStep} : LO t (S.giveUp x) ((sl t S).giveUp x) :=
 .bind fun _ => .bind fun _ => .mayThen fun y => .ite (.some rfl) (.bind fun _ => .ite (.bind fun _ => .bind fun _ => .map fun _ => rfl) (.bind fun _ => .bind fun _ => .bind fun _ => lo_turn (S := (y.2.put S.run _).put _ _)))

/-- Alike, or the one with fewer ticks has just used them up. -/
def LT (t : Int) (S : PM) (o o' : Option PM) : Prop := LO t o o' ∨ (S.used = t ∧ ∃ B, o' = some B ∧ B.over = true ∧ B.code = 2 ∧ B.used = t ∧ B.recs = S.recs ∧ B.num = S.num)
theorem LT.bind {S : PM} {α : Type} {o : Option α} {f f' : α → Option PM} (h : ∀ x, LT t S (f x) (f' x)) : LT t S (o.bind f) (o.bind f') := by
 cases o with
 | none => exact .inl rfl
 | some x => exact h x
theorem LT.ite {S : PM} {c : Prop} [Decidable c] {a b a' b' : Option PM} (h1 : LT t S a a') (h2 : LT t S b b') : LT t S (if c then a else b) (if c then a' else b') := by split <;> assumption

theorem tick_sl {S : PM} (h : S.used ≠ S.left) (h2 : S.used ≠ t) : S.tick.1 = true ∧ (sl t S).tick.1 = true ∧ (sl t S).tick.2 = sl t S.tick.2 := by
 have a : ¬ (sl t S).used = (sl t S).left := h2
 unfold PM.tick
 rw [if_neg h, if_neg a]
 exact ⟨rfl, rfl, rfl⟩
theorem tick_end {S : PM} (h2 : S.used = t) : (sl t S).tick.1 = false ∧ (sl t S).tick.2 = { sl t S with over := true, code := 2 } := by
 have a : (sl t S).used = (sl t S).left := h2
 unfold PM.tick
 rw [if_pos a]
 exact ⟨rfl, rfl⟩

theorem lt_look {p : PPlan} {S : PM} {i a : Int} (h : S.used ≠ S.left) : LT t S (S.look p i a) ((sl t S).look p i a) := by
 by_cases h2 : S.used = t
 ·right
  obtain ⟨e1, e2⟩ := tick_end h2
  refine ⟨h2, (sl t S).tick.2, by unfold PM.look; rw [if_pos e1], ?_⟩
  rw [e2]
  exact ⟨rfl, rfl, h2, rfl, rfl⟩
 ·left
  obtain ⟨e1, e2, e3⟩ := tick_sl h h2
  unfold PM.look
  rw [if_neg (show ¬ S.tick.1 = false by rw [e1]; simp), if_neg (show ¬ (sl t S).tick.1 = false by rw [e2]; simp), e3]
  exact .bind fun _ => .bind fun _ => .bind fun _ => .bind fun _ => .ite (.bind fun _ => .map fun _ => rfl) (.some rfl)
theorem lt_close {p : PPlan} {S : PM} (h : S.used ≠ S.left) : LT t S (S.close p) ((sl t S).close p) := by
 refine .bind fun u => ?_
 split
 ·exact .inl .none
 ·split
  ·exact .inl (lo_finish (S := S.put S.run _))
  ·refine .ite (.inl (.ite (.some rfl) (.ite (.some rfl) (.ite (.some rfl) (.some rfl))))) (.ite (lt_look (S := S.put S.run _) h) (.inl (.ite (.some rfl) (.ite (.then (lo_tell (S := S.put S.run _)) fun S1 => .bind fun _ => .bind fun _ => .bind fun _ => .map fun _ => rfl) (.some rfl)))))
theorem lt_leave {p : PPlan} {S : PM} (h : S.used ≠ S.left) : LT t S (S.leave p) ((sl t S).leave p) := by
 refine .bind fun u => ?_
 split
 ·exact .inl .none
 ·split
  ·exact lt_close h
  ·by_cases h2 : S.used = t
   ·right
    obtain ⟨e1, e2⟩ := tick_end h2
    refine ⟨h2, (sl t S).tick.2, by rw [if_pos e1], ?_⟩
    rw [e2]
    exact ⟨rfl, rfl, h2, rfl, rfl⟩
   ·left
    obtain ⟨e1, e2, e3⟩ := tick_sl h h2
    rw [if_neg (show ¬ S.tick.1 = false by rw [e1]; simp), if_neg (show ¬ (sl t S).tick.1 = false by rw [e2]; simp), e3]
    exact .ite .none (.bind fun _ => .bind fun _ => .map fun _ => rfl)
theorem lo_act {p : PPlan} {S : PM} {u : PTk} {f : PFr} {r : List PFr} {x : PStep} {hd : Int} (h14 : x.op ≠ 14) : LO t (S.act p u f r x hd) ((sl t S).act p u f r x hd) := by
 unfold PM.act
 refine .ite (.map fun _ => rfl) (.ite (.bind fun _ => .map fun _ => rfl) (.ite (.bind fun _ => lo_tell) (.ite (.ite lo_fail (.then lo_create fun S1 => .map fun _ => rfl)) (.ite lo_resume (.ite lo_yield (.ite lo_giveUp (.ite (.bind fun _ => .ite (.bind fun _ => .map fun _ => rfl) lo_fail) (.ite (.bind fun _ => lo_fail) (.ite (.map fun _ => rfl) (.ite (.ite (.some rfl) .none) ?_))))))))))
 rw [if_neg h14, if_neg h14]
 exact .ite (.map fun _ => rfl) (.ite (.bind fun _ => .ite (.map fun _ => rfl) (.some rfl)) (.some rfl))
theorem lt_act {p : PPlan} {S : PM} {u : PTk} {f : PFr} {r : List PFr} {x : PStep} {hd : Int} (h : S.used ≠ S.left) (h14 : x.op = 14) : LT t S (S.act p u f r x hd) ((sl t S).act p u f r x hd) := by
 unfold PM.act
 simp only [h14]
 exact lt_look h
theorem lt_step {p : PPlan} {S : PM} (h : S.used ≠ S.left) : LT t S (S.step p) ((sl t S).step p) := by
 refine .bind fun u => ?_
 split
 ·exact .inl .none
 ·refine .ite (lt_leave h) (.ite (lt_leave (S := S.put S.run _) h) (.bind fun _ => .bind fun x => ?_))
  by_cases h14 : x.op = 14
  ·rw [if_pos h14, if_pos h14]
   exact lt_act (S := S.put S.run _) h h14
  ·rw [if_neg h14, if_neg h14]
   by_cases h2 : S.used = t
   ·right
    obtain ⟨e1, e2⟩ := tick_end h2
    refine ⟨h2, (sl t S).tick.2, by rw [if_pos e1], ?_⟩
    rw [e2]
    exact ⟨rfl, rfl, h2, rfl, rfl⟩
   ·obtain ⟨e1, e2, e3⟩ := tick_sl h h2
    rw [if_neg (show ¬ S.tick.1 = false by rw [e1]; simp), if_neg (show ¬ (sl t S).tick.1 = false by rw [e2]; simp), e3]
    exact .inl (lo_act h14)

theorem lt_runs {p : PPlan} (ht : 0 ≤ t ∧ t ≤ 5000) : ∀ (n : Nat) (S SF : PM), PM.runs p n S = some SF → S.over = false → (0 ≤ S.used ∧ S.used ≤ S.left ∧ S.left ≤ 5000) → t < SF.used → S.used ≤ t →
  ∃ n' B, PM.runs p n' (sl t S) = some B ∧ B.code = 2 ∧ B.used = t ∧ B.num = S.num ∧ ∃ l, SF.recs = B.recs ++ l
 | 0, S, SF, h, _, _, _, _ => by cases h
 | n + 1, S, SF, h, ho, hb, hF, hu => by
  have hgF := go_runs (n + 1) S SF h
  have hleft : SF.used ≤ SF.left := (hgF.1.2.2.2.2.2 hb).2
  have hl : SF.left = S.left := hgF.1.2.2.2.2.1
  have hne : S.used ≠ S.left := by omega
  unfold PM.runs at h
  rw [if_neg (by rw [ho]; simp)] at h
  split at h
  ·rename_i hroom
   obtain ⟨S1, h1, h2⟩ := Option.bind_eq_some_iff.1 h
   have hg1 := go_step S1 h1
   have hone : ∀ {B : PM}, (sl t S).step p = some B → ∀ {m : Nat} {B' : PM}, PM.runs p m B = some B' → PM.runs p (m + 1) (sl t S) = some B' := fun e m B' e' => by
    unfold PM.runs
    rw [if_neg (show ¬ (sl t S).over = true by rw [show (sl t S).over = S.over from rfl, ho]; simp), if_pos (show (sl t S).tasks.length < roomy from hroom), e]
    exact e'
   rcases lt_step (p := p) (t := t) hne with hs | ⟨hut, B, e, b1, b2, b3, b4, b5⟩
   ·rw [h1] at hs
    have hs' : (sl t S).step p = some (sl t S1) := hs
    -- the one with fewer ticks does not use more
    have hgB := go_step _ hs'
    have hu1 : S1.used ≤ t := (hgB.1.2.2.2.2.2 ⟨hb.1, hu, ht.2⟩).2
    have hb1 : 0 ≤ S1.used ∧ S1.used ≤ S1.left ∧ S1.left ≤ 5000 := by
     have a := hg1.1.2.2.2.2.2 hb
     have b := hg1.1.2.2.2.2.1
     exact ⟨a.1, a.2, by omega⟩
    by_cases ho1 : S1.over = true
    ·cases n with
     | zero => cases h2
     | succ n =>
      unfold PM.runs at h2
      rw [if_pos ho1] at h2
      cases h2
      omega
    ·have ho1' : S1.over = false := by simpa using ho1
     obtain ⟨n', B, c1, c2, c3, c4, c5⟩ := lt_runs ht n S1 SF h2 ho1' hb1 hF hu1
     exact ⟨n' + 1, B, hone hs' c1, c2, c3, by rw [c4]; exact (hg1.1.2.2.2.1 ho1').2.1, c5⟩
   ·refine ⟨1 + 1, B, hone e (by unfold PM.runs; rw [if_pos b1]), b2, b3, b5, ?_⟩
    rw [b4]
    obtain ⟨l, hl⟩ := hgF.1.2.2.1
    exact ⟨l, hl⟩
  ·cases h

theorem fresh_used {p : PPlan} {ticks : Int} {S0 : PM} (e0 : PM.fresh p ticks none = some S0) : S0.used = 0 ∧ S0.left = ticks ∧ S0.over = false ∧ S0.num = 0 := by
 have h1 := e0
 unfold PM.fresh at h1
 obtain ⟨S1, a1, h1⟩ := Option.bind_eq_some_iff.1 h1
 obtain ⟨S2, a2, h1⟩ := Option.bind_eq_some_iff.1 h1
 obtain ⟨u, a3, h1⟩ := Option.map_eq_some_iff.1 h1
 have g1 := go_create _ a1
 have g2 := go_start _ a2
 have k1 : S1.used = 0 ∧ S1.over = false ∧ S1.num = 0 := by
  unfold PM.create at a1
  split at a1
  ·have := Option.some.inj a1; subst this; exact ⟨rfl, rfl, rfl⟩
  ·cases a1
 have k2 : S2.used = S1.used ∧ S2.over = S1.over ∧ S2.num = S1.num := by
  unfold PM.start at a2
  obtain ⟨t1, a4, a2⟩ := Option.bind_eq_some_iff.1 a2
  split at a2
  ·obtain ⟨t2, a5, a2⟩ := Option.map_eq_some_iff.1 a2
   subst a2; exact ⟨rfl, rfl, rfl⟩
  ·cases a2
 have l1 := g1.1.2.2.2.2.1
 have l2 := g2.1.2.2.2.2.1
 subst h1
 exact ⟨by show S2.used = 0; rw [k2.1, k1.1], by show S2.left = ticks; rw [l2, l1], by show S2.over = false; rw [k2.2.1, k1.2.1], by show S2.num = 0; rw [k2.2.2, k1.2.2]⟩

theorem run_ticks {p : PPlan} {ticks : Int} {S : PM} {m : Nat} (hm : ((PM.fresh p ticks none).bind fun S => PM.runs p m S) = some S) (hk : 0 ≤ ticks ∧ ticks ≤ 5000) : 0 ≤ S.used ∧ S.used ≤ ticks := by
 obtain ⟨S0, e0, e1⟩ := Option.bind_eq_some_iff.1 hm
 obtain ⟨f2, f3, _, _⟩ := fresh_used e0
 have hg := (go_runs m S0 S e1).1.2.2.2.2
 have := hg.2 ⟨by omega, by omega, by omega⟩
 have := hg.1
 omega

/-- With fewer ticks than a run uses. -/
theorem run_prefix {p : PPlan} {ticks : Int} {S : PM} {m : Nat} (hm : ((PM.fresh p ticks none).bind fun S => PM.runs p m S) = some S) (hk : 0 ≤ ticks ∧ ticks ≤ 5000) (ht : 0 ≤ t ∧ t < S.used) :
  ∃ m' B, ((PM.fresh p t none).bind fun S => PM.runs p m' S) = some B ∧ B.code = 2 ∧ B.used = t ∧ B.num = 0 ∧ ∃ l, S.recs = B.recs ++ l := by
 obtain ⟨S0, e0, e1⟩ := Option.bind_eq_some_iff.1 hm
 obtain ⟨f2, f3, f4, f5⟩ := fresh_used e0
 have f1 : PM.fresh p t none = some (sl t S0) := by
  have h1 := e0
  unfold PM.fresh at h1 ⊢
  obtain ⟨S1, a1, h1⟩ := Option.bind_eq_some_iff.1 h1
  obtain ⟨S2, a2, h1⟩ := Option.bind_eq_some_iff.1 h1
  obtain ⟨u, a3, h1⟩ := Option.map_eq_some_iff.1 h1
  have c1 : PM.create ⟨t, 0, [], 0, 0, [], 0, 0, [], false, none, []⟩ 0 = some (sl t S1) := by
   have := lo_create (t := t) (S := ⟨ticks, 0, [], 0, 0, [], 0, 0, [], false, none, []⟩) (b := 0)
   rw [a1] at this; exact this
  have c2 : PM.start p (sl t S1) 0 = some (sl t S2) := by
   have := lo_start (t := t) (p := p) (S := S1) (i := 0)
   rw [a2] at this; exact this
  subst h1
  rw [c1, Option.bind_some, c2, Option.bind_some, show idx (sl t S2).tasks 0 = idx S2.tasks 0 from rfl, a3]
  rfl
 have hg := (go_runs m S0 S e1).1.2.2.2.2
 have hus := (hg.2 ⟨by omega, by omega, by omega⟩).2
 have hlf := hg.1
 obtain ⟨m', B, c1, c2, c3, c4, c5⟩ := lt_runs (t := t) ⟨ht.1, by omega⟩ m S0 S e1 f4 ⟨by omega, by omega, by omega⟩ ht.2 (by omega)
 exact ⟨m', B, by rw [f1, Option.bind_some]; exact c1, c2, c3, c4.trans f5, c5⟩
end
end Go.Proofs.Ytibmnlijoeppaaa
