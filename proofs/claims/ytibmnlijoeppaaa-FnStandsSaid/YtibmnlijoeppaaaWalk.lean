/-
 Rules to walk with, one for each operation.
-/
import Derived.Test.YtibmnlijoeppaaaEng
namespace Go.Proofs.Ytibmnlijoeppaaa
set_option linter.unusedSimpArgs false

def OptK {α : Type} (o : Option α) (k : α → Prop) : Prop := match o with | some a => k a | none => False
theorem OptK_some {α : Type} {a : α} {k : α → Prop} : OptK (some a) k ↔ k a := Iff.rfl
theorem OptK_map {α β : Type} {o : Option α} {f : α → β} {k : β → Prop} : OptK (o.map f) k ↔ OptK o fun a => k (f a) := by cases o <;> rfl
theorem OptK_of {α : Type} {o : Option α} {a : α} {k : α → Prop} (h : o = some a) (hk : k a) : OptK o k := by subst h; exact hk

def PtrK (v : AV) (k : Nat → Nat → Prop) : Prop := match v with | .c (.ptr (some (i, o))) => k i o | _ => False
theorem PtrK_p {i o : Nat} {k : Nat → Nat → Prop} : PtrK (.c (.ptr (some (i, o)))) k ↔ k i o := Iff.rfl

@[congr] theorem OptK_congr {α : Type} {o o' : Option α} {k : α → Prop} (h : o = o') : OptK o k = OptK o' k := by rw [h]
@[congr] theorem PtrK_congr {v v' : AV} {k : Nat → Nat → Prop} (h : v = v') : PtrK v k = PtrK v' k := by rw [h]
@[congr] theorem R_congr {s : List It} {fr fr' : Fr} {μ μ' : Mem} {Q : Fr → Mem → Prop} (h : fr = fr') (h' : μ = μ') : R s fr μ Q = R s fr' μ' Q := by rw [h, h']
@[congr] theorem IteK_congr {v v' : AV} {a b : RCode} {s : List It} {fr : Fr} {μ : Mem} {Q : Fr → Mem → Prop} (h : v = v') : IteK v a b s fr μ Q = IteK v' a b s fr μ Q := by rw [h]

theorem R_g_t {ix : Nat} {r : ROp} {d : Option Nat} {j : Nat} {w : Bool} {re : List Re} {s : List It} {fr : Fr} {μ : Mem} {Q : Fr → Mem → Prop} (h : fr j = .c (.bool w)) :
  R (.o ⟨ix, r, d, some (j, w), re⟩ :: s) fr μ Q ↔ R (.o ⟨ix, r, d, none, re⟩ :: s) fr μ Q := by
 have : ∀ k, aRI (acall prog k) ⟨ix, r, d, some (j, w), re⟩ fr μ = aRI (acall prog k) ⟨ix, r, d, none, re⟩ fr μ := by
  intro k; simp only [aRI, awanted, h, beq_self_eq_true]
 unfold R Cont
 simp only [this]

theorem R_g_f {ix : Nat} {r : ROp} {d : Option Nat} {j : Nat} {w : Bool} {re : List Re} {s : List It} {fr : Fr} {μ : Mem} {Q : Fr → Mem → Prop} (h : fr j = .c (.bool (!w))) :
  R (.o ⟨ix, r, d, some (j, w), re⟩ :: s) fr μ Q ↔ R s (fr.put d .undef) μ Q := by
 have : ∀ k, aRI (acall prog k) ⟨ix, r, d, some (j, w), re⟩ fr μ = some (fr.put d .undef, μ) := by
  intro k; simp only [aRI, awanted, h]; cases w <;> rfl
 constructor
 ·rintro ⟨k, f, m, h1, h2⟩
  rw [this] at h1
  simp only [Option.some.injEq, Prod.mk.injEq] at h1
  obtain ⟨rfl, rfl⟩ := h1
  exact h2
 ·intro h2
  exact ⟨0, _, _, this 0, h2⟩

theorem R_g_u {ix : Nat} {r : ROp} {d : Option Nat} {j : Nat} {w : Bool} {re : List Re} {s : List It} {fr : Fr} {μ : Mem} {Q : Fr → Mem → Prop} (h : fr j = .undef) :
  R (.o ⟨ix, r, d, some (j, w), re⟩ :: s) fr μ Q ↔ R s (fr.put d .undef) μ Q := by
 have : ∀ k, aRI (acall prog k) ⟨ix, r, d, some (j, w), re⟩ fr μ = some (fr.put d .undef, μ) := by
  intro k; simp only [aRI, awanted, h]; rfl
 constructor
 ·rintro ⟨k, f, m, h1, h2⟩
  rw [this] at h1
  simp only [Option.some.injEq, Prod.mk.injEq] at h1
  obtain ⟨rfl, rfl⟩ := h1
  exact h2
 ·intro h2
  exact ⟨0, _, _, this 0, h2⟩

theorem Fr.put_some {fr : Fr} {d : Nat} {v : AV} : fr.put (some d) v = fr.set d v := rfl
theorem Fr.put_none {fr : Fr} {v : AV} : fr.put none v = fr := rfl
theorem Fr.set_at {fr : Fr} {d t : Nat} {v : AV} : fr.set d v t = if t = d then v else fr t := rfl
theorem Opd.ev_t {fr : Fr} {n : Nat} : (Opd.t n).ev fr = fr n := rfl
theorem Opd.ev_k {fr : Fr} {c : Cell} : (Opd.k c).ev fr = .c c := rfl

def Fr.nil : Fr := fun _ => .undef
theorem frOf_0 : frOf [] = Fr.nil := by funext t; simp [frOf, Fr.nil]
theorem frOf_1 {a : AV} : frOf [a] = Fr.nil.set 0 a := by
 funext t; cases t <;> simp [frOf, Fr.nil, Fr.set]
theorem frOf_2 {a b : AV} : frOf [a, b] = (Fr.nil.set 1 b).set 0 a := by
 funext t; rcases t with _ | _ | t <;> simp [frOf, Fr.nil, Fr.set]
theorem frOf_3 {a b c : AV} : frOf [a, b, c] = ((Fr.nil.set 2 c).set 1 b).set 0 a := by
 funext t; rcases t with _ | _ | _ | t <;> simp [frOf, Fr.nil, Fr.set]
theorem frOf_4 {a b c d : AV} : frOf [a, b, c, d] = (((Fr.nil.set 3 d).set 2 c).set 1 b).set 0 a := by
 funext t; rcases t with _ | _ | _ | _ | t <;> simp [frOf, Fr.nil, Fr.set]
theorem frOf_5 {a b c d e : AV} : frOf [a, b, c, d, e] = ((((Fr.nil.set 4 e).set 3 d).set 2 c).set 1 b).set 0 a := by
 funext t; rcases t with _ | _ | _ | _ | _ | t <;> simp [frOf, Fr.nil, Fr.set]
theorem frOf_6 {a b c d e f : AV} : frOf [a, b, c, d, e, f] = (((((Fr.nil.set 5 f).set 4 e).set 3 d).set 2 c).set 1 b).set 0 a := by
 funext t; rcases t with _ | _ | _ | _ | _ | _ | t <;> simp [frOf, Fr.nil, Fr.set]
theorem frOf_7 {a b c d e f g : AV} : frOf [a, b, c, d, e, f, g] = ((((((Fr.nil.set 6 g).set 5 f).set 4 e).set 3 d).set 2 c).set 1 b).set 0 a := by
 funext t; rcases t with _ | _ | _ | _ | _ | _ | _ | t <;> simp [frOf, Fr.nil, Fr.set]

section
variable {s : List It} {fr : Fr} {μ : Mem} {Q : Fr → Mem → Prop} {ix : Nat} {d : Option Nat}

theorem OpK_map1 {o : Option AV} : OpK (o.map fun v => (v, μ)) d s fr Q ↔ OptK o fun v => R s (fr.put d v) μ Q := by cases o <;> rfl

theorem R_mv {x : Opd} : R (.o ⟨ix, .mv x, d, none, []⟩ :: s) fr μ Q ↔ R s (fr.put d (x.ev fr)) μ Q := (R_op rfl).trans Iff.rfl

theorem R_nc {x : Opd} : R (.o ⟨ix, .nc x, d, none, []⟩ :: s) fr μ Q ↔ PtrK (x.ev fr) fun i o => R s (fr.put d (.c (.ptr (some (i, o))))) μ Q := by
 rw [R_op rfl]; simp only [aop]
 rcases x.ev fr with (_ | _ | (_ | ⟨i, o⟩) | _ | _ | _) | _ | _ <;> rfl

theorem R_fa {x : Opd} {off : Nat} : R (.o ⟨ix, .fa x off, d, none, []⟩ :: s) fr μ Q ↔ PtrK (x.ev fr) fun i o => R s (fr.put d (.c (.ptr (some (i, o + off))))) μ Q := by
 rw [R_op rfl]; simp only [aop]
 rcases x.ev fr with (_ | _ | (_ | ⟨i, o⟩) | _ | _ | _) | _ | _ <;> rfl

theorem R_ld {n : Option Nat} {x : Opd} : R (.o ⟨ix, .ld n x, d, none, []⟩ :: s) fr μ Q ↔ PtrK (x.ev fr) fun i o => OptK (μ.ld n i o) fun v => R s (fr.put d v) μ Q := by
 rw [R_op rfl]; simp only [aop]
 rcases x.ev fr with (_ | _ | (_ | ⟨i, o⟩) | _ | _ | _) | _ | _ <;> first | rfl | exact OpK_map1

theorem R_st {a x : Opd} {n : Nat} : R (.o ⟨ix, .st a x n, d, none, []⟩ :: s) fr μ Q ↔
  PtrK (a.ev fr) fun i o => ((x.ev fr).isTup = false ∧ (x.ev fr).cells.length = n) ∧ OptK (μ.st i o (x.ev fr).cells) fun μ' => R s (fr.put d .undef) μ' Q := by
 rw [R_op rfl]; simp only [aop]
 rcases a.ev fr with (_ | _ | (_ | ⟨i, o⟩) | _ | _ | _) | _ | _ <;> try rfl
 simp only [PtrK_p]
 by_cases h : (x.ev fr).isTup = false ∧ (x.ev fr).cells.length = n
 ·simp only [h, and_self, true_and]
  cases μ.st i o (x.ev fr).cells <;> rfl
 ·simp only [h, false_and]; rfl

def vbin (op : BinOp) (x y : AV) : Option AV :=
 match x, y with
 | .c (.int k a), .c (.int k' b) => if k = k' ∨ op = .shr then (abin op k a b).map .c else none
 | _, _ => none

theorem R_bin {op : BinOp} {x y : Opd} : R (.o ⟨ix, .bin op x y, d, none, []⟩ :: s) fr μ Q ↔ OptK (vbin op (x.ev fr) (y.ev fr)) fun v => R s (fr.put d v) μ Q := by
 rw [R_op rfl]; simp only [aop, vbin]
 rcases x.ev fr with (_ | _ | (_ | ⟨i, o⟩) | _ | _ | _) | _ | _ <;> try rfl
 rcases y.ev fr with (_ | _ | (_ | ⟨i, o⟩) | _ | _ | _) | _ | _ <;> try rfl
 rename_i k n k' n'
 by_cases h : k = k' ∨ op = .shr
 ·simp only [if_pos h]; cases abin op k n n' <;> rfl
 ·simp only [if_neg h]; rfl

theorem vbin_add {k : IntKind} {a b : Int} : vbin .add (.c (.int k a)) (.c (.int k b)) = some (.c (.int k (k.wrap (a + b)))) := by simp [vbin, abin]
theorem vbin_sub {k : IntKind} {a b : Int} : vbin .sub (.c (.int k a)) (.c (.int k b)) = some (.c (.int k (k.wrap (a - b)))) := by simp [vbin, abin]
theorem vbin_mul {k : IntKind} {a b : Int} : vbin .mul (.c (.int k a)) (.c (.int k b)) = some (.c (.int k (k.wrap (a * b)))) := by simp [vbin, abin]
theorem vbin_eql {k : IntKind} {a b : Int} : vbin .eql (.c (.int k a)) (.c (.int k b)) = some (.c (.bool (a == b))) := by simp [vbin, abin]
theorem vbin_neq {k : IntKind} {a b : Int} : vbin .neq (.c (.int k a)) (.c (.int k b)) = some (.c (.bool (a != b))) := by simp [vbin, abin]
theorem vbin_lss {k : IntKind} {a b : Int} : vbin .lss (.c (.int k a)) (.c (.int k b)) = some (.c (.bool (decide (a < b)))) := by simp [vbin, abin]
theorem vbin_leq {k : IntKind} {a b : Int} : vbin .leq (.c (.int k a)) (.c (.int k b)) = some (.c (.bool (decide (a ≤ b)))) := by simp [vbin, abin]
theorem vbin_gtr {k : IntKind} {a b : Int} : vbin .gtr (.c (.int k a)) (.c (.int k b)) = some (.c (.bool (decide (a > b)))) := by simp [vbin, abin]
theorem vbin_geq {k : IntKind} {a b : Int} : vbin .geq (.c (.int k a)) (.c (.int k b)) = some (.c (.bool (decide (a ≥ b)))) := by simp [vbin, abin]
theorem vbin_rem {k : IntKind} {a b : Int} (h : b ≠ 0) : vbin .rem (.c (.int k a)) (.c (.int k b)) = some (.c (.int k (a.tmod b))) := by simp [vbin, abin, h]

def BoolK (v : AV) (k : Bool → Prop) : Prop := match v with | .c (.bool b) => k b | _ => False
theorem BoolK_b {b : Bool} {k : Bool → Prop} : BoolK (.c (.bool b)) k ↔ k b := Iff.rfl
@[congr] theorem BoolK_congr {v v' : AV} {k : Bool → Prop} (h : v = v') : BoolK v k = BoolK v' k := by rw [h]
def IntK (v : AV) (k : IntKind → Int → Prop) : Prop := match v with | .c (.int kd n) => k kd n | _ => False
theorem IntK_i {kd : IntKind} {n : Int} {k : IntKind → Int → Prop} : IntK (.c (.int kd n)) k ↔ k kd n := Iff.rfl

@[congr] theorem IntK_congr {v v' : AV} {k : IntKind → Int → Prop} (h : v = v') : IntK v k = IntK v' k := by rw [h]

theorem R_nt {x : Opd} : R (.o ⟨ix, .nt x, d, none, []⟩ :: s) fr μ Q ↔ BoolK (x.ev fr) fun b => R s (fr.put d (.c (.bool (!b)))) μ Q := by
 rw [R_op rfl]; simp only [aop]
 rcases x.ev fr with (_ | _ | (_ | ⟨i, o⟩) | _ | _ | _) | _ | _ <;> rfl

theorem R_cv {x : Opd} {kd : IntKind} : R (.o ⟨ix, .cv kd x, d, none, []⟩ :: s) fr μ Q ↔ IntK (x.ev fr) fun _ n => R s (fr.put d (.c (.int kd (kd.wrap n)))) μ Q := by
 rw [R_op rfl]; simp only [aop]
 rcases x.ev fr with (_ | _ | (_ | ⟨i, o⟩) | _ | _ | _) | _ | _ <;> rfl

theorem R_eq {neg : Bool} {e : EqK} {x y : Opd} : R (.o ⟨ix, .eq neg e x y, d, none, []⟩ :: s) fr μ Q ↔ OptK (aeq e (x.ev fr) (y.ev fr)) fun b => R s (fr.put d (.c (.bool (bif neg then !b else b)))) μ Q := by
 rw [R_op rfl]; simp only [aop]
 cases aeq e (x.ev fr) (y.ev fr) <;> rfl

theorem R_pick {c a b : Opd} : R (.o ⟨ix, .pick c a b, d, none, []⟩ :: s) fr μ Q ↔ BoolK (c.ev fr) fun t => R s (fr.put d (bif t then a.ev fr else b.ev fr)) μ Q := by
 rw [R_op rfl]; simp only [aop]
 rcases c.ev fr with (_ | _ | (_ | ⟨i, o⟩) | _ | _ | _) | _ | _ <;> rfl

theorem R_ias {x i : Opd} {sz : Nat} : R (.o ⟨ix, .ias x i sz, d, none, []⟩ :: s) fr μ Q ↔ OptK (aidx (x.ev fr) (i.ev fr) sz) fun v => R s (fr.put d v) μ Q := by
 rw [R_op rfl]; simp only [aop]
 cases aidx (x.ev fr) (i.ev fr) sz <;> rfl

theorem aidx_in {b o len cap sz : Nat} {k : IntKind} {i : Int} (h : 0 ≤ i ∧ i < (len : Int)) : aidx (.c (.slc (some (b, o)) len cap)) (.c (.int k i)) sz = some (.c (.ptr (some (b, o + i.toNat * sz)))) := by
 simp [aidx, h]

def viaa (x i : AV) (len sz : Nat) : Option AV :=
 match x, i with
 | .c (.ptr (some (b, o))), .c (.int _ i) => if 0 ≤ i ∧ i < (len : Int) then some (.c (.ptr (some (b, o + i.toNat * sz)))) else none
 | _, _ => none

theorem R_iaa {x i : Opd} {len sz : Nat} : R (.o ⟨ix, .iaa x i len sz, d, none, []⟩ :: s) fr μ Q ↔ OptK (viaa (x.ev fr) (i.ev fr) len sz) fun v => R s (fr.put d v) μ Q := by
 rw [R_op rfl]; simp only [aop, viaa]
 rcases x.ev fr with (_ | _ | (_ | ⟨b, o⟩) | _ | _ | _) | _ | _ <;> try rfl
 rcases i.ev fr with (_ | ⟨k, n⟩ | (_ | ⟨_, _⟩) | _ | _ | _) | _ | _ <;> try rfl
 by_cases h : 0 ≤ n ∧ n < (len : Int)
 ·simp only [if_pos h]; rfl
 ·simp only [if_neg h]; rfl

theorem viaa_in {b o len sz : Nat} {k : IntKind} {i : Int} (h : 0 ≤ i ∧ i < (len : Int)) : viaa (.c (.ptr (some (b, o)))) (.c (.int k i)) len sz = some (.c (.ptr (some (b, o + i.toNat * sz)))) := by
 simp [viaa, h]

theorem R_bld {z : List Cell} {ps : List (Nat × Nat × Opd)} : R (.o ⟨ix, .bld z ps, d, none, []⟩ :: s) fr μ Q ↔ OptK (fillc fr z ps) fun l => R s (fr.put d (.agg l)) μ Q := by
 rw [R_op rfl]; simp only [aop]
 cases fillc fr z ps <;> rfl

theorem R_bsl {z : List Cell} {len : Nat} {ps : List (Nat × Opd)} : R (.o ⟨ix, .bsl z len ps, d, none, []⟩ :: s) fr μ Q ↔
  OptK (fillc fr (rep z len) (ps.map fun p => (p.1 * z.length, z.length, p.2))) fun l => R s (fr.put d (.c (.slc (some (μ.next, 0)) len len))) (μ.new l z.length) Q := by
 rw [R_op rfl]; simp only [aop]
 cases fillc fr (rep z len) (ps.map fun p => (p.1 * z.length, z.length, p.2)) <;> rfl

theorem R_alc {z : List Cell} : R (.o ⟨ix, .alc z, d, none, []⟩ :: s) fr μ Q ↔ R s (fr.put d (.c (.ptr (some (μ.next, 0))))) (μ.new z 0) Q := (R_op rfl).trans Iff.rfl

theorem R_box {x : Opd} {n : Nat} : R (.o ⟨ix, .box x n, d, none, []⟩ :: s) fr μ Q ↔
  ((x.ev fr).isTup = false ∧ (x.ev fr).cells.length = n) ∧ R s (fr.put d (.c (.ptr (some (μ.next, 0))))) (μ.new (x.ev fr).cells 0) Q := by
 rw [R_op rfl]; simp only [aop]
 by_cases h : (x.ev fr).isTup = false ∧ (x.ev fr).cells.length = n
 ·simp only [h, and_self, true_and]; rfl
 ·simp only [h, false_and]; rfl

theorem R_mks {z : List Cell} {bytes : Nat} {l c : Opd} : R (.o ⟨ix, .mks z bytes l c, d, none, []⟩ :: s) fr μ Q ↔ OptK (amks z bytes (l.ev fr) (c.ev fr) μ) fun p => R s (fr.put d p.1) p.2 Q := by
 rw [R_op rfl]; simp only [aop]
 cases amks z bytes (l.ev fr) (c.ev fr) μ <;> rfl

theorem R_slc {sz : Nat} {x : Opd} {lo hi : Option Opd} : R (.o ⟨ix, .slc sz x lo hi, d, none, []⟩ :: s) fr μ Q ↔
  OptK (aslc sz (x.ev fr) (lo.map (Opd.ev fr)) (hi.map (Opd.ev fr))) fun v => R s (fr.put d v) μ Q := by
 rw [R_op rfl]; simp only [aop]
 cases aslc sz (x.ev fr) (lo.map (Opd.ev fr)) (hi.map (Opd.ev fr)) <;> rfl

def vsla (n : Nat) (v : AV) (μ : Mem) : Option AV :=
 match v with
 | .c (.ptr (some a)) => match μ.obj a.1 with
  | some ob => if ob.esz = 0 then some (.c (.slc (some a) n n)) else none
  | none => none
 | _ => none

theorem R_sla {n : Nat} {x : Opd} : R (.o ⟨ix, .sla n x, d, none, []⟩ :: s) fr μ Q ↔ OptK (vsla n (x.ev fr) μ) fun v => R s (fr.put d v) μ Q := by
 rw [R_op rfl]; simp only [aop, vsla]
 rcases x.ev fr with (_ | _ | (_ | ⟨b, o⟩) | _ | _ | _) | _ | _ <;> try rfl
 dsimp only
 cases μ.obj b with
 | none => rfl
 | some ob =>
  dsimp only
  by_cases h : ob.esz = 0
  ·simp only [if_pos h]; rfl
  ·simp only [if_neg h]; rfl

def vext (v : AV) (i : Nat) : Option AV := match v with | .tup l => (l[i]?).map .c | _ => none
theorem vext_0 {c : Cell} {l : List Cell} : vext (.tup (c :: l)) 0 = some (.c c) := rfl
theorem vext_1 {a c : Cell} {l : List Cell} : vext (.tup (a :: c :: l)) 1 = some (.c c) := rfl
theorem vext_2 {a b c : Cell} {l : List Cell} : vext (.tup (a :: b :: c :: l)) 2 = some (.c c) := rfl
theorem vext_3 {a b c d : Cell} {l : List Cell} : vext (.tup (a :: b :: c :: d :: l)) 3 = some (.c d) := rfl
theorem vext_4 {a b c d e : Cell} {l : List Cell} : vext (.tup (a :: b :: c :: d :: e :: l)) 4 = some (.c e) := rfl

theorem R_ext {x : Opd} {i : Nat} : R (.o ⟨ix, .ext x i, d, none, []⟩ :: s) fr μ Q ↔ OptK (vext (x.ev fr) i) fun v => R s (fr.put d v) μ Q := by
 rw [R_op rfl]; simp only [aop, vext]
 rcases x.ev fr with _ | _ | l <;> try rfl
 dsimp only
 cases l[i]? <;> rfl

def vfld (v : AV) (off : Nat) (n : Option Nat) : Option AV :=
 match v with
 | .agg l => match n with
  | none => (l[off]?).map .c
  | some n => (rd l off n).map .agg
 | _ => none

theorem R_fld {x : Opd} {off : Nat} {n : Option Nat} : R (.o ⟨ix, .fld x off n, d, none, []⟩ :: s) fr μ Q ↔ OptK (vfld (x.ev fr) off n) fun v => R s (fr.put d v) μ Q := by
 rw [R_op rfl]; simp only [aop, vfld]
 rcases x.ev fr with _ | l | _ <;> try rfl
 cases n with
 | none => dsimp only; cases l[off]? <;> rfl
 | some n => dsimp only; cases rd l off n <;> rfl

def SlcK (v : AV) (k : Option (Nat × Nat) → Nat → Nat → Prop) : Prop := match v with | .c (.slc a n c) => k a n c | _ => False
theorem SlcK_s {a : Option (Nat × Nat)} {n c : Nat} {k : Option (Nat × Nat) → Nat → Nat → Prop} : SlcK (.c (.slc a n c)) k ↔ k a n c := Iff.rfl

@[congr] theorem SlcK_congr {v v' : AV} {k : Option (Nat × Nat) → Nat → Nat → Prop} (h : v = v') : SlcK v k = SlcK v' k := by rw [h]

theorem R_len {x : Opd} : R (.o ⟨ix, .len x, d, none, []⟩ :: s) fr μ Q ↔ SlcK (x.ev fr) fun _ n _ => R s (fr.put d (.c (.int .i64 n))) μ Q := by
 rw [R_op rfl]; simp only [aop]
 rcases x.ev fr with (_ | _ | (_ | ⟨i, o⟩) | _ | _ | _) | _ | _ <;> rfl

theorem R_app {sz bytes : Nat} {x y : Opd} : R (.o ⟨ix, .app sz bytes x y, d, none, []⟩ :: s) fr μ Q ↔ OptK (aapp sz bytes (x.ev fr) (y.ev fr) μ) fun p => R s (fr.put d p.1) p.2 Q := by
 rw [R_op rfl]; simp only [aop]
 cases aapp sz bytes (x.ev fr) (y.ev fr) μ <;> rfl

theorem R_mkf {f : Nat} {caps : List Opd} : R (.o ⟨ix, .mkf f caps, d, none, []⟩ :: s) fr μ Q ↔ OptK (toPlaces (caps.map (Opd.ev fr))) fun l => R s (fr.put d (.c (.fn f l))) μ Q := by
 rw [R_op rfl]; simp only [aop]
 cases toPlaces (caps.map (Opd.ev fr)) <;> rfl

end
end Go.Proofs.Ytibmnlijoeppaaa
