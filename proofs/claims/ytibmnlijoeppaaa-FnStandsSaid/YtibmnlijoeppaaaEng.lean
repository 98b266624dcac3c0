/-
 Walking through the abstract code: a stack of what is still to be done, and what it comes to.
-/
import Derived.Test.YtibmnlijoeppaaaBase
namespace Go.Proofs.Ytibmnlijoeppaaa

/-! ### More depth changes nothing -/

def CallT.Le (c c' : CallT) : Prop := ∀ f args μ r, c f args μ = some r → c' f args μ = some r

theorem aop_mono {c c' : CallT} (h : c.Le c') {r : ROp} {fr : Fr} {μ : Mem} {x : AV × Mem} (hx : aop c r fr μ = some x) : aop c' r fr μ = some x := by
 cases r <;> simp only [aop] at hx ⊢ <;> try exact hx
 case call f args => exact h _ _ _ _ hx
 case callv f args =>
  split at hx
  ·exact h _ _ _ _ hx
  ·cases hx

theorem aRI_mono {c c' : CallT} (h : c.Le c') {r : RI} {fr : Fr} {μ : Mem} {x : Fr × Mem} (hx : aRI c r fr μ = some x) : aRI c' r fr μ = some x := by
 unfold aRI at hx ⊢
 cases hg : awanted r.guard fr with
 | false => rw [hg] at hx; exact hx
 | true =>
  rw [hg] at hx
  simp only [cond_true] at hx ⊢
  cases ha : aop c r.op fr μ with
  | none => rw [ha] at hx; cases hx
  | some y => rw [ha] at hx; rw [aop_mono h ha]; exact hx

theorem aReg_mono {c c' : CallT} (h : c.Le c') : ∀ {l : List RI} {fr : Fr} {μ : Mem} {x : Fr × Mem}, aReg c l fr μ = some x → aReg c' l fr μ = some x
 | [], _, _, _, hx => hx
 | r :: l, fr, μ, x, hx => by
  simp only [aReg] at hx ⊢
  cases ha : aRI c r fr μ with
  | none => rw [ha] at hx; cases hx
  | some y => rw [ha] at hx; rw [aRI_mono h ha]; exact aReg_mono h hx

theorem aCode_mono {c c' : CallT} (h : c.Le c') : ∀ {k k' : Nat} {rc : RCode} {fr : Fr} {μ : Mem} {x : Out × Fr × Mem}, k ≤ k' → aCode c k rc fr μ = some x → aCode c' k' rc fr μ = some x := by
 intro k
 induction k with
 | zero => intro k' rc fr μ x _ hx; simp [aCode] at hx
 | succ k ih =>
  intro k' rc fr μ x hk hx
  obtain ⟨k', rfl⟩ : ∃ m, k' = m + 1 := ⟨k' - 1, by omega⟩
  have hk' : k ≤ k' := by omega
  cases rc with
  | skip => exact hx
  | exit id => exact hx
  | ret => exact hx
  | reg l =>
   simp only [aCode, Option.map_eq_some_iff] at hx ⊢
   obtain ⟨y, h1, h2⟩ := hx
   exact ⟨y, aReg_mono h h1, h2⟩
  | seq a b =>
   simp only [aCode] at hx ⊢
   cases ha : aCode c k a fr μ with
   | none => rw [ha] at hx; cases hx
   | some y =>
    rw [ha] at hx; rw [ih hk' ha]
    obtain ⟨o, f, m⟩ := y
    cases o with
    | normal => exact ih hk' hx
    | exit i => exact hx
    | ret => exact hx
  | ite cnd a b =>
   simp only [aCode] at hx ⊢
   split at hx
   ·rename_i t ht
    cases t
    ·exact ih hk' hx
    ·exact ih hk' hx
   ·cases hx
  | blk id b =>
   simp only [aCode] at hx ⊢
   cases ha : aCode c k b fr μ with
   | none => rw [ha] at hx; cases hx
   | some y =>
    rw [ha] at hx; rw [ih hk' ha]
    exact hx
  | loop b =>
   simp only [aCode] at hx ⊢
   cases ha : aCode c k b fr μ with
   | none => rw [ha] at hx; cases hx
   | some y =>
    rw [ha] at hx; rw [ih hk' ha]
    obtain ⟨o, f, m⟩ := y
    cases o with
    | normal => exact ih hk' hx
    | exit i => exact hx
    | ret => exact hx

theorem acall_mono {p : Nat → Option RFun} : ∀ {k k' : Nat}, k ≤ k' → CallT.Le (acall p k) (acall p k') := by
 intro k
 induction k with
 | zero => intro k' _ f args μ r h; simp [acall] at h
 | succ k ih =>
  intro k' hk f args μ r h
  obtain ⟨k', rfl⟩ : ∃ m, k' = m + 1 := ⟨k' - 1, by omega⟩
  have hk' : k ≤ k' := by omega
  simp only [acall] at h ⊢
  cases hp : p f with
  | none => rw [hp] at h; cases h
  | some rf =>
   rw [hp] at h
   simp only at h ⊢
   split at h
   ·rename_i hl
    rw [if_pos hl]
    cases ha : aCode (acall p k) k rf.body (frOf args) μ with
    | none => rw [ha] at h; cases h
    | some y => rw [ha] at h; rw [aCode_mono (ih hk') hk' ha]; exact h
   ·cases h

/-! ### What is still to be done -/

inductive It where
 | o (r : RI)
 | c (x : RCode)
 | blk (id : Nat)
 | lp (x : RCode)

def Cont : List It → Out → Fr → Mem → (Fr → Mem → Prop) → Prop
 | [], out, fr, μ, Q => (∀ i, out ≠ .exit i) ∧ Q fr μ
 | .o r :: s, .normal, fr, μ, Q => ∃ k fr' μ', aRI (acall prog k) r fr μ = some (fr', μ') ∧ Cont s .normal fr' μ' Q
 | .c x :: s, .normal, fr, μ, Q => ∃ k out fr' μ', aCode (acall prog k) k x fr μ = some (out, fr', μ') ∧ Cont s out fr' μ' Q
 | .lp x :: s, .normal, fr, μ, Q => ∃ k out fr' μ', aCode (acall prog k) k (.loop x) fr μ = some (out, fr', μ') ∧ Cont s out fr' μ' Q
 | .blk id :: s, .exit i, fr, μ, Q => Cont s (if i = id then .normal else .exit i) fr μ Q
 | .blk _ :: s, out, fr, μ, Q => Cont s out fr μ Q
 | .o _ :: s, out, fr, μ, Q => Cont s out fr μ Q
 | .c _ :: s, out, fr, μ, Q => Cont s out fr μ Q
 | .lp _ :: s, out, fr, μ, Q => Cont s out fr μ Q

/-- What is to be done, done from here, ends in Q. -/
def R (s : List It) (fr : Fr) (μ : Mem) (Q : Fr → Mem → Prop) : Prop := Cont s .normal fr μ Q

/-- A call comes to a value. -/
def Ev (f : Nat) (args : List AV) (μ : Mem) (v : AV) (μ' : Mem) : Prop := ∃ k, acall prog k f args μ = some (v, μ')

section
variable {s : List It} {fr : Fr} {μ : Mem} {Q : Fr → Mem → Prop}

theorem R_nil : R [] fr μ Q ↔ Q fr μ := by simp [R, Cont]

theorem R_skip : R (.c .skip :: s) fr μ Q ↔ R s fr μ Q := by
 constructor
 ·rintro ⟨k, out, fr', μ', h, hc⟩
  cases k with
  | zero => simp [aCode] at h
  | succ k => simp only [aCode, Option.some.injEq, Prod.mk.injEq] at h; obtain ⟨rfl, rfl, rfl⟩ := h; exact hc
 ·intro h; exact ⟨1, .normal, fr, μ, rfl, h⟩

theorem R_seq {a b : RCode} : R (.c (.seq a b) :: s) fr μ Q ↔ R (.c a :: .c b :: s) fr μ Q := by
 constructor
 ·rintro ⟨k, out, fr', μ', h, hc⟩
  cases k with
  | zero => simp [aCode] at h
  | succ k =>
   simp only [aCode] at h
   cases ha : aCode (acall prog (k + 1)) k a fr μ with
   | none => rw [ha] at h; cases h
   | some y =>
    rw [ha] at h
    obtain ⟨o, f, m⟩ := y
    refine ⟨k + 1, o, f, m, aCode_mono (fun _ _ _ _ h => h) (Nat.le_succ k) ha, ?_⟩
    cases o with
    | normal => exact ⟨k + 1, out, fr', μ', aCode_mono (fun _ _ _ _ h => h) (Nat.le_succ k) h, hc⟩
    | exit i => simp only [Option.some.injEq, Prod.mk.injEq] at h; obtain ⟨rfl, rfl, rfl⟩ := h; exact hc
    | ret => simp only [Option.some.injEq, Prod.mk.injEq] at h; obtain ⟨rfl, rfl, rfl⟩ := h; exact hc
 ·rintro ⟨k, out, fr', μ', h, hc⟩
  cases out with
  | normal =>
   obtain ⟨k2, out2, fr2, μ2, h2, hc2⟩ := hc
   refine ⟨max k k2 + 1, out2, fr2, μ2, ?_, hc2⟩
   simp only [aCode]
   rw [aCode_mono (acall_mono (by omega)) (by omega) h]
   exact aCode_mono (acall_mono (by omega)) (by omega) h2
  | exit i =>
   refine ⟨k + 1, .exit i, fr', μ', ?_, hc⟩
   simp only [aCode]
   rw [aCode_mono (acall_mono (by omega)) (Nat.le_refl _) h]
  | ret =>
   refine ⟨k + 1, .ret, fr', μ', ?_, hc⟩
   simp only [aCode]
   rw [aCode_mono (acall_mono (by omega)) (Nat.le_refl _) h]

theorem R_reg {l : List RI} : R (.c (.reg l) :: s) fr μ Q ↔ R (l.map .o ++ s) fr μ Q := by
 have key : ∀ (l : List RI) (fr : Fr) (μ : Mem), (∃ k fr' μ', aReg (acall prog k) l fr μ = some (fr', μ') ∧ R s fr' μ' Q) ↔ R (l.map .o ++ s) fr μ Q := by
  intro l
  induction l with
  | nil =>
   intro fr μ
   constructor
   ·rintro ⟨k, fr', μ', h, hc⟩
    simp only [aReg, Option.some.injEq, Prod.mk.injEq] at h
    obtain ⟨rfl, rfl⟩ := h
    exact hc
   ·intro h; exact ⟨0, fr, μ, rfl, h⟩
  | cons r l ih =>
   intro fr μ
   constructor
   ·rintro ⟨k, fr', μ', h, hc⟩
    simp only [aReg] at h
    cases ha : aRI (acall prog k) r fr μ with
    | none => rw [ha] at h; cases h
    | some y =>
     rw [ha] at h
     exact ⟨k, y.1, y.2, ha, (ih _ _).1 ⟨k, fr', μ', h, hc⟩⟩
   ·rintro ⟨k, fr1, μ1, h, hc⟩
    obtain ⟨k2, fr2, μ2, h2, hc2⟩ := (ih fr1 μ1).2 hc
    refine ⟨max k k2, fr2, μ2, ?_, hc2⟩
    simp only [aReg]
    rw [aRI_mono (acall_mono (Nat.le_max_left _ _)) h]
    exact aReg_mono (acall_mono (Nat.le_max_right _ _)) h2
 rw [← key]
 constructor
 ·rintro ⟨k, out, fr', μ', h, hc⟩
  cases k with
  | zero => simp [aCode] at h
  | succ k =>
   simp only [aCode, Option.map_eq_some_iff, Prod.mk.injEq] at h
   obtain ⟨⟨f, m⟩, h1, rfl, rfl, rfl⟩ := h
   exact ⟨k + 1, f, m, h1, hc⟩
 ·rintro ⟨k, fr', μ', h, hc⟩
  refine ⟨k + 1, .normal, fr', μ', ?_, hc⟩
  simp only [aCode]
  rw [aReg_mono (acall_mono (Nat.le_succ k)) h]
  rfl

/-- A test. -/
def IteK (v : AV) (a b : RCode) (s : List It) (fr : Fr) (μ : Mem) (Q : Fr → Mem → Prop) : Prop :=
 match v with
 | .c (.bool t) => (t = true → R (.c a :: s) fr μ Q) ∧ (t = false → R (.c b :: s) fr μ Q)
 | _ => False

theorem IteK_true {a b : RCode} : IteK (.c (.bool true)) a b s fr μ Q ↔ R (.c a :: s) fr μ Q := by simp [IteK]
theorem IteK_false {a b : RCode} : IteK (.c (.bool false)) a b s fr μ Q ↔ R (.c b :: s) fr μ Q := by simp [IteK]
theorem IteK_of {a b : RCode} {t : Bool} (h1 : t = true → R (.c a :: s) fr μ Q) (h2 : t = false → R (.c b :: s) fr μ Q) : IteK (.c (.bool t)) a b s fr μ Q := ⟨h1, h2⟩

theorem R_ite {c : Opd} {a b : RCode} : R (.c (.ite c a b) :: s) fr μ Q ↔ IteK (c.ev fr) a b s fr μ Q := by
 constructor
 ·rintro ⟨k, out, fr', μ', h, hc⟩
  cases k with
  | zero => simp [aCode] at h
  | succ k =>
   simp only [aCode] at h
   split at h
   ·rename_i t ht
    rw [ht]
    cases t with
    | true => exact ⟨fun _ => ⟨k + 1, out, fr', μ', aCode_mono (fun _ _ _ _ h => h) (Nat.le_succ k) h, hc⟩, fun h => (by cases h)⟩
    | false => exact ⟨fun h => (by cases h), fun _ => ⟨k + 1, out, fr', μ', aCode_mono (fun _ _ _ _ h => h) (Nat.le_succ k) h, hc⟩⟩
   ·cases h
 ·intro h
  unfold IteK at h
  split at h
  ·rename_i t ht
   cases t with
   | true =>
    obtain ⟨k, out, fr', μ', h1, hc⟩ := h.1 rfl
    refine ⟨k + 1, out, fr', μ', ?_, hc⟩
    simp only [aCode, ht, cond_true]
    exact aCode_mono (acall_mono (Nat.le_succ k)) (Nat.le_refl _) h1
   | false =>
    obtain ⟨k, out, fr', μ', h1, hc⟩ := h.2 rfl
    refine ⟨k + 1, out, fr', μ', ?_, hc⟩
    simp only [aCode, ht, cond_false]
    exact aCode_mono (acall_mono (Nat.le_succ k)) (Nat.le_refl _) h1
  ·exact h.elim

theorem R_blk {id : Nat} {b : RCode} : R (.c (.blk id b) :: s) fr μ Q ↔ R (.c b :: .blk id :: s) fr μ Q := by
 constructor
 ·rintro ⟨k, out, fr', μ', h, hc⟩
  cases k with
  | zero => simp [aCode] at h
  | succ k =>
   simp only [aCode] at h
   cases ha : aCode (acall prog (k + 1)) k b fr μ with
   | none => rw [ha] at h; cases h
   | some y =>
    rw [ha] at h
    obtain ⟨o, f, m⟩ := y
    refine ⟨k + 1, o, f, m, aCode_mono (fun _ _ _ _ h => h) (Nat.le_succ k) ha, ?_⟩
    cases o with
    | normal => simp only [Option.some.injEq, Prod.mk.injEq] at h; obtain ⟨rfl, rfl, rfl⟩ := h; exact hc
    | exit i => simp only [Option.some.injEq, Prod.mk.injEq] at h; obtain ⟨rfl, rfl, rfl⟩ := h; exact hc
    | ret => simp only [Option.some.injEq, Prod.mk.injEq] at h; obtain ⟨rfl, rfl, rfl⟩ := h; exact hc
 ·rintro ⟨k, out, fr', μ', h, hc⟩
  have h' := aCode_mono (acall_mono (Nat.le_succ k)) (Nat.le_refl k) h
  cases out with
  | normal => exact ⟨k + 1, .normal, fr', μ', by simp only [aCode]; rw [h'], hc⟩
  | exit i => exact ⟨k + 1, if i = id then .normal else .exit i, fr', μ', by simp only [aCode]; rw [h'], hc⟩
  | ret => exact ⟨k + 1, .ret, fr', μ', by simp only [aCode]; rw [h'], hc⟩

theorem R_endblk {id : Nat} : R (.blk id :: s) fr μ Q ↔ R s fr μ Q := Iff.rfl

theorem R_lp {b : RCode} : R (.lp b :: s) fr μ Q ↔ R (.c (.loop b) :: s) fr μ Q := Iff.rfl

theorem R_loop {b : RCode} : R (.c (.loop b) :: s) fr μ Q ↔ R (.c b :: .lp b :: s) fr μ Q := by
 constructor
 ·rintro ⟨k, out, fr', μ', h, hc⟩
  cases k with
  | zero => simp [aCode] at h
  | succ k =>
   simp only [aCode] at h
   cases ha : aCode (acall prog (k + 1)) k b fr μ with
   | none => rw [ha] at h; cases h
   | some y =>
    rw [ha] at h
    obtain ⟨o, f, m⟩ := y
    refine ⟨k + 1, o, f, m, aCode_mono (fun _ _ _ _ h => h) (Nat.le_succ k) ha, ?_⟩
    cases o with
    | normal => exact ⟨k + 1, out, fr', μ', aCode_mono (fun _ _ _ _ h => h) (Nat.le_succ k) h, hc⟩
    | exit i => simp only [Option.some.injEq, Prod.mk.injEq] at h; obtain ⟨rfl, rfl, rfl⟩ := h; exact hc
    | ret => simp only [Option.some.injEq, Prod.mk.injEq] at h; obtain ⟨rfl, rfl, rfl⟩ := h; exact hc
 ·rintro ⟨k, out, fr', μ', h, hc⟩
  cases out with
  | normal =>
   obtain ⟨k2, out2, fr2, μ2, h2, hc2⟩ := hc
   refine ⟨max k k2 + 1, out2, fr2, μ2, ?_, hc2⟩
   simp only [aCode]
   rw [aCode_mono (acall_mono (by omega)) (by omega) h]
   exact aCode_mono (acall_mono (by omega)) (by omega) h2
  | exit i =>
   refine ⟨k + 1, .exit i, fr', μ', ?_, hc⟩
   simp only [aCode]
   rw [aCode_mono (acall_mono (by omega)) (Nat.le_refl _) h]
  | ret =>
   refine ⟨k + 1, .ret, fr', μ', ?_, hc⟩
   simp only [aCode]
   rw [aCode_mono (acall_mono (by omega)) (Nat.le_refl _) h]

/-- Out of a block. -/
def outOf (id : Nat) : List It → Option (List It)
 | [] => none
 | .blk i :: s => if i = id then some s else outOf id s
 | _ :: s => outOf id s

theorem Cont_exit {id : Nat} : ∀ {s s' : List It}, outOf id s = some s' → (Cont s (.exit id) fr μ Q ↔ R s' fr μ Q)
 | [], _, h => by simp [outOf] at h
 | .blk i :: s, s', h => by
  simp only [outOf] at h
  by_cases e : i = id
  ·rw [if_pos e] at h
   simp only [Option.some.injEq] at h
   subst h
   simp only [Cont, e, if_true, R]
  ·rw [if_neg e] at h
   have := Cont_exit h
   simp only [Cont, if_neg (Ne.symm e)]
   exact this
 | .o r :: s, s', h => Cont_exit (s := s) h
 | .c r :: s, s', h => Cont_exit (s := s) h
 | .lp r :: s, s', h => Cont_exit (s := s) h

def ExitK (o : Option (List It)) (fr : Fr) (μ : Mem) (Q : Fr → Mem → Prop) : Prop := match o with | some s => R s fr μ Q | none => False

theorem R_exit {id : Nat} {s' : List It} (h : outOf id s = some s') : R (.c (.exit id) :: s) fr μ Q ↔ R s' fr μ Q := by
 rw [← Cont_exit (fr := fr) (μ := μ) (Q := Q) h]
 constructor
 ·rintro ⟨k, out, fr', μ', h, hc⟩
  cases k with
  | zero => simp [aCode] at h
  | succ k => simp only [aCode, Option.some.injEq, Prod.mk.injEq] at h; obtain ⟨rfl, rfl, rfl⟩ := h; exact hc
 ·intro h; exact ⟨1, .exit id, fr, μ, rfl, h⟩

theorem Cont_ret : ∀ {s : List It}, (Cont s .ret fr μ Q ↔ Q fr μ)
 | [] => by simp [Cont]
 | .blk i :: s => Cont_ret (s := s)
 | .o r :: s => Cont_ret (s := s)
 | .c r :: s => Cont_ret (s := s)
 | .lp r :: s => Cont_ret (s := s)

theorem R_ret : R (.c .ret :: s) fr μ Q ↔ Q fr μ := by
 refine Iff.trans ?_ (Cont_ret (s := s))
 constructor
 ·rintro ⟨k, out, fr', μ', h, hc⟩
  cases k with
  | zero => simp [aCode] at h
  | succ k => simp only [aCode, Option.some.injEq, Prod.mk.injEq] at h; obtain ⟨rfl, rfl, rfl⟩ := h; exact hc
 ·intro h; exact ⟨1, .ret, fr, μ, rfl, h⟩

/-! ### Operations -/

def ROp.isCall : ROp → Bool
 | .call _ _ => true
 | .callv _ _ => true
 | _ => false

def noCall : CallT := fun _ _ _ => none

/-- An operation that is no call, without guard, with nothing to look at again. -/
def OpK (o : Option (AV × Mem)) (d : Option Nat) (s : List It) (fr : Fr) (Q : Fr → Mem → Prop) : Prop :=
 match o with
 | some p => R s (fr.put d p.1) p.2 Q
 | none => False

theorem OpK_some {v : AV} {m : Mem} {d : Option Nat} : OpK (some (v, m)) d s fr Q ↔ R s (fr.put d v) m Q := Iff.rfl

theorem aop_noCall {r : ROp} (h : r.isCall = false) (c : CallT) : aop c r fr μ = aop noCall r fr μ := by
 cases r <;> first | rfl | (simp [ROp.isCall] at h)

theorem R_op {ix : Nat} {r : ROp} {d : Option Nat} (h : r.isCall = false) : R (.o ⟨ix, r, d, none, []⟩ :: s) fr μ Q ↔ OpK (aop noCall r fr μ) d s fr Q := by
 constructor
 ·rintro ⟨k, fr', μ', h1, hc⟩
  simp only [aRI, awanted, cond_true, aop_noCall h (acall prog k), List.all_nil] at h1
  cases ha : aop noCall r fr μ with
  | none => rw [ha] at h1; cases h1
  | some y =>
   rw [ha] at h1
   simp only [Option.some.injEq, Prod.mk.injEq] at h1
   obtain ⟨rfl, rfl⟩ := h1
   exact hc
 ·intro hk
  cases ha : aop noCall r fr μ with
  | none => rw [ha] at hk; exact hk.elim
  | some y =>
   rw [ha] at hk
   refine ⟨0, fr.put d y.1, y.2, ?_, hk⟩
   simp only [aRI, awanted, cond_true, aop_noCall h (acall prog 0), List.all_nil, ha]

/-- The same with a guard and what is looked at again. -/
def ReK (o : Option (AV × Mem)) (re : List Re) (d : Option Nat) (s : List It) (fr : Fr) (Q : Fr → Mem → Prop) : Prop :=
 match o with
 | some p => (re.all fun x => x.holds fr p.2) = true ∧ R s (fr.put d p.1) p.2 Q
 | none => False

def GuardK (b : Bool) (o : Option (AV × Mem)) (re : List Re) (d : Option Nat) (s : List It) (fr : Fr) (μ : Mem) (Q : Fr → Mem → Prop) : Prop :=
 match b with
 | true => ReK o re d s fr Q
 | false => R s (fr.put d .undef) μ Q

theorem R_opg {ix : Nat} {r : ROp} {d : Option Nat} {g : Option (Nat × Bool)} {re : List Re} (h : r.isCall = false) :
  R (.o ⟨ix, r, d, g, re⟩ :: s) fr μ Q ↔ GuardK (awanted g fr) (aop noCall r fr μ) re d s fr μ Q := by
 constructor
 ·rintro ⟨k, fr', μ', h1, hc⟩
  simp only [aRI, aop_noCall h (acall prog k)] at h1
  cases hg : awanted g fr with
  | false =>
   rw [hg] at h1
   simp only [cond_false, Option.some.injEq, Prod.mk.injEq] at h1
   obtain ⟨rfl, rfl⟩ := h1
   exact hc
  | true =>
   rw [hg] at h1
   simp only [cond_true] at h1
   cases ha : aop noCall r fr μ with
   | none => rw [ha] at h1; cases h1
   | some y =>
    rw [ha] at h1
    simp only at h1
    cases hre : re.all fun x => x.holds fr y.2 with
    | false => rw [hre] at h1; cases h1
    | true =>
     rw [hre] at h1
     simp only [cond_true, Option.some.injEq, Prod.mk.injEq] at h1
     obtain ⟨rfl, rfl⟩ := h1
     exact ⟨hre, hc⟩
 ·intro hk
  cases hg : awanted g fr with
  | false =>
   rw [hg] at hk
   refine ⟨0, fr.put d .undef, μ, ?_, hk⟩
   simp only [aRI, hg, cond_false]
  | true =>
   rw [hg] at hk
   cases ha : aop noCall r fr μ with
   | none => rw [ha] at hk; exact hk.elim
   | some y =>
    rw [ha] at hk
    obtain ⟨h1, h2⟩ := hk
    refine ⟨0, fr.put d y.1, y.2, ?_, h2⟩
    simp only [aRI, hg, cond_true, aop_noCall h (acall prog 0), ha, h1]

/-- A call, taken by what it comes to. -/
theorem R_call {ix f : Nat} {args : List Opd} {d : Option Nat} {v : AV} {μ' : Mem} (h : Ev f (args.map (Opd.ev fr)) μ v μ') (hr : R s (fr.put d v) μ' Q) :
  R (.o ⟨ix, .call f args, d, none, []⟩ :: s) fr μ Q := by
 obtain ⟨k, hk⟩ := h
 refine ⟨k, fr.put d v, μ', ?_, hr⟩
 simp only [aRI, awanted, cond_true, aop, hk, List.all_nil]

theorem R_callg {ix f : Nat} {args : List Opd} {d : Option Nat} {g : Option (Nat × Bool)} {re : List Re} (hg : awanted g fr = true) {v : AV} {μ' : Mem} (h : Ev f (args.map (Opd.ev fr)) μ v μ')
  (hre : (re.all fun x => x.holds fr μ') = true) (hr : R s (fr.put d v) μ' Q) : R (.o ⟨ix, .call f args, d, g, re⟩ :: s) fr μ Q := by
 obtain ⟨k, hk⟩ := h
 refine ⟨k, fr.put d v, μ', ?_, hr⟩
 simp only [aRI, hg, cond_true, aop, hk, hre]

theorem R_callno {ix f : Nat} {args : List Opd} {d : Option Nat} {g : Option (Nat × Bool)} {re : List Re} (hg : awanted g fr = false) (hr : R s (fr.put d .undef) μ Q) :
  R (.o ⟨ix, .call f args, d, g, re⟩ :: s) fr μ Q := by
 refine ⟨0, fr.put d .undef, μ, ?_, hr⟩
 simp only [aRI, hg, cond_false]

theorem R_callv {ix : Nat} {f : Opd} {args : List Opd} {d : Option Nat} {g : Nat} {caps : List (Nat × Nat)} (hf : f.ev fr = .c (.fn g caps)) {v : AV} {μ' : Mem}
  (h : Ev g (args.map (Opd.ev fr) ++ caps.map fun a => .c (.ptr (some a))) μ v μ') (hr : R s (fr.put d v) μ' Q) : R (.o ⟨ix, .callv f args, d, none, []⟩ :: s) fr μ Q := by
 obtain ⟨k, hk⟩ := h
 refine ⟨k, fr.put d v, μ', ?_, hr⟩
 simp only [aRI, awanted, cond_true, aop, hf, hk, List.all_nil]

/-- A function's body, walked. -/
theorem Ev_of {f : Nat} {args : List AV} {rf : RFun} (hp : prog f = some rf) (hl : args.length ≤ rf.ntmps) {v : AV} {μ' : Mem}
  (h : R [.c rf.body] (frOf args) μ fun fr' μ1 => aRet fr' μ1 rf.res = some v ∧ μ1 = μ') : Ev f args μ v μ' := by
 obtain ⟨k, out, fr', μ1, h1, hne, h2, rfl⟩ := h
 refine ⟨k + 1, ?_⟩
 simp only [acall, hp, if_pos hl, h1]
 cases out with
 | normal => simp [h2]
 | ret => simp [h2]
 | exit i => exact absurd rfl (hne i)

theorem Ev_of' {f : Nat} {args : List AV} {rf : RFun} (hp : prog f = some rf) (hl : args.length ≤ rf.ntmps) {K : AV → Mem → Prop}
  (h : R [.c rf.body] (frOf args) μ fun fr' μ1 => ∃ v, aRet fr' μ1 rf.res = some v ∧ K v μ1) : ∃ v μ', Ev f args μ v μ' ∧ K v μ' := by
 obtain ⟨k, out, fr', μ1, h1, hne, v, h2, hk⟩ := h
 refine ⟨v, μ1, ⟨k + 1, ?_⟩, hk⟩
 simp only [acall, hp, if_pos hl, h1]
 cases out with
 | normal => simp [h2]
 | ret => simp [h2]
 | exit i => exact absurd rfl (hne i)

theorem R_mono {Q' : Fr → Mem → Prop} (h : R s fr μ Q) (hq : ∀ fr μ, Q fr μ → Q' fr μ) : R s fr μ Q' := by
 have key : ∀ (s : List It) (o : Out) (fr : Fr) (μ : Mem), Cont s o fr μ Q → Cont s o fr μ Q' := by
  intro s
  induction s with
  | nil => rintro o fr μ ⟨h1, h2⟩; exact ⟨h1, hq _ _ h2⟩
  | cons x s ih =>
   intro o fr μ h
   cases x <;> cases o
   case o.normal r => obtain ⟨k, f, m, h1, h2⟩ := h; exact ⟨k, f, m, h1, ih _ _ _ h2⟩
   case c.normal r => obtain ⟨k, o, f, m, h1, h2⟩ := h; exact ⟨k, o, f, m, h1, ih _ _ _ h2⟩
   case lp.normal r => obtain ⟨k, o, f, m, h1, h2⟩ := h; exact ⟨k, o, f, m, h1, ih _ _ _ h2⟩
   case blk.exit i j => exact ih _ _ _ h
   all_goals exact ih _ _ _ h
 exact key s _ fr μ h

end
end Go.Proofs.Ytibmnlijoeppaaa
