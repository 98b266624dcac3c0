/-
 Each resolved operation that is no call does in the world what it does in the abstract memory.
 The operations that reckon, compare, read, write or make memory do in the world what they do in the abstract memory.
 The operations that lay out structs and slices, that make variables and slices, that cut and that append, do in the world what they do in the abstract memory.
 append does in the world what it does in the abstract memory; and all operations that are no call together.
-/
import Derived.Test.YtibmnlijoeppaaaSim
namespace Go.Proofs.Ytibmnlijoeppaaa

def FrRel (n : Nat) (ρ : Emb) (fr : Fr) (tmps : Array Value) : Prop := tmps.size = n ∧ ∀ t, AVRel ρ (fr t) (tmps.getD t undef)

theorem FrRel.mono {n : Nat} {ρ ρ' : Emb} {fr : Fr} {tmps : Array Value} (h : FrRel n ρ fr tmps) (hl : ρ.Le ρ') : FrRel n ρ' fr tmps := ⟨h.1, fun t => (h.2 t).mono hl⟩

theorem FrRel.put {n : Nat} {ρ : Emb} {fr : Fr} {a : Act} (h : FrRel n ρ fr a.tmps) {d : Option Nat} (hd : ∀ t, d = some t → t < n) {v : AV} {v' : Value} (hv : AVRel ρ v v') :
  FrRel n ρ (fr.put d v) (a.put d v').tmps := by
 cases d with
 | none => exact h
 | some d =>
  have hn := hd d rfl
  refine ⟨by simp [Act.put, h.1], fun t => ?_⟩
  simp only [Act.put, Fr.put, Fr.set]
  by_cases e : t = d
  ·subst e
   rw [if_pos rfl]
   simp [h.1, hn, hv]
  ·rw [if_neg e]
   have := h.2 t
   simp only [Array.getD_eq_getD_getElem?] at this ⊢
   rwa [Array.getElem?_setIfInBounds_ne (Ne.symm e)]

theorem toCell_rel {v : Value} {c : Cell} (h : toCell v = some c) (ρ : Emb) : CRel ρ c v := by
 unfold toCell at h
 split at h <;> simp at h <;> subst h <;> first | rfl | exact .inl rfl

theorem toCellL_rel : ∀ {vs : List Value} {l : List Cell}, toCellL vs = some l → ∀ ρ : Emb, LRel (CRel ρ) l vs
 | [], _, h, _ => by simp [toCellL] at h; subst h; trivial
 | v :: vs, l, h, ρ => by
  unfold toCellL at h
  split at h
  ·rename_i c cs h1 h2
   simp at h; subst h
   exact ⟨toCell_rel h1 ρ, toCellL_rel h2 ρ⟩
  ·cases h

section
variable {P : Program} {F : Nat → Prop} {ρ : Emb} {μ : Mem} {w : World} {n : Nat} {fr : Fr} {a : Act}

theorem opd_rel {x : Operand} {y : Opd} (h : opd x = some y) (hf : FrRel n ρ fr a.tmps) : AVRel ρ (y.ev fr) (a.eval x) := by
 cases x with
 | tmp t => simp [opd] at h; subst h; exact hf.2 t
 | const v =>
  simp only [opd, Option.map_eq_some_iff] at h
  obtain ⟨c, h1, rfl⟩ := h
  exact toCell_rel h1 ρ
 | _ => simp [opd] at h

theorem opds_rel : ∀ {xs : List Operand} {ys : List Opd}, opds xs = some ys → FrRel n ρ fr a.tmps → LRel (AVRel ρ) (ys.map (Opd.ev fr)) (xs.map a.eval)
 | [], _, h, _ => by simp [opds] at h; subst h; trivial
 | x :: xs, ys, h, hf => by
  unfold opds at h
  split at h
  ·rename_i y ys' h1 h2
   simp at h; subst h
   exact ⟨opd_rel h1 hf, opds_rel h2 hf⟩
  ·cases h

/-- An operation comes to a value (or to none). -/
def Runs (P : Program) (s : Sem Next) (F : Nat → Prop) (ρ : Emb) (μ : Mem) (w : World) (v : AV) (μ' : Mem) : Prop :=
 ∃ ρ' v' w', (s.run P w = .ok (.value v') w' ∨ (s.run P w = .ok .skip w' ∧ v' = undef)) ∧ AVRel ρ' v v' ∧ Steps' F ρ μ w ρ' μ' w'

theorem Runs.still {s : Sem Next} {v : AV} (h : Sim F ρ μ w) {v' : Value} (hr : s.run P w = .ok (.value v') w) (hv : AVRel ρ v v') : Runs P s F ρ μ w v μ :=
 ⟨ρ, v', w, .inl hr, hv, Steps'.refl h⟩

theorem sizeOf_of {t : TypeId} {k : Nat} (h : szN P t = some k) (w : World) : (sizeOf t).run P w = .ok k w := by
 simp only [szN, Option.map_eq_some_iff] at h
 obtain ⟨i, h1, rfl⟩ := h
 simp [sizeOf, typeInfo, h1]

theorem zeroN_spec {t : TypeId} {z : List Cell} (h : zeroN P t = some z) : ∃ i v, P.info? t = some i ∧ i.zero = some v ∧ toCellL v.cells.toList = some z ∧ z.length = i.size ∧ 0 < z.length ∧ v.cells.size = z.length := by
 unfold zeroN at h
 split at h
 ·rename_i i hi
  split at h
  ·rename_i v hv
   split at h
   ·rename_i l hl
    split at h
    ·rename_i hc
     simp at h; subst h
     have := (toCellL_rel hl (fun _ => none)).length
     exact ⟨i, v, hi, hv, hl, hc.1, hc.2, by simpa using this.symm⟩
    ·cases h
   ·cases h
  ·cases h
 ·cases h

theorem fieldN_spec {t : TypeId} {f : Nat} {fd : Field} (h : fieldN P t f = some fd) : ∃ fs, P.underlying t = some (.struct fs) ∧ fs[f]? = some fd := by
 unfold fieldN at h
 split at h
 ·rename_i fs hu; exact ⟨fs, hu, h⟩
 ·cases h

/-! ### What only looks at slots -/

variable (hs : Sim F ρ μ w) (hf : FrRel n ρ fr a.tmps)
include hs hf

theorem s_move {o : Oper} {x : Operand} (ho : o.op = .move x ∨ o.op = .assign x) {r : ROp} (hr : rop P o.op = some r) {call : CallT} {v : AV} {μ' : Mem} (hv : aop call r fr μ = some (v, μ')) :
  Runs P (execOp a.eval o) F ρ μ w v μ' := by
 have key : ∀ y, opd x = some y → aop call (.mv y) fr μ = some (v, μ') → Runs P (pure (.value (a.eval x))) F ρ μ w v μ' := by
  intro y hy hv
  simp only [aop, Option.some.injEq, Prod.mk.injEq] at hv
  obtain ⟨rfl, rfl⟩ := hv
  exact Runs.still hs rfl (opd_rel hy hf)
 rcases ho with ho | ho <;> rw [ho] at hr <;> simp only [rop, Option.map_eq_some_iff] at hr <;> obtain ⟨y, hy, rfl⟩ := hr <;> simp only [execOp, ho] <;> exact key y hy hv

theorem s_pick {o : Oper} {c x y : Operand} (ho : o.op = .pick c x y) {r : ROp} (hr : rop P o.op = some r) {call : CallT} {v : AV} {μ' : Mem} (hv : aop call r fr μ = some (v, μ')) :
  Runs P (execOp a.eval o) F ρ μ w v μ' := by
 rw [ho] at hr
 simp only [rop] at hr
 split at hr
 ·rename_i c' x' y' h1 h2 h3
  simp only [Option.some.injEq] at hr; subst hr
  simp only [aop] at hv
  split at hv
  ·rename_i t ht
   simp only [Option.some.injEq, Prod.mk.injEq] at hv
   obtain ⟨rfl, rfl⟩ := hv
   have hc := opd_rel h1 hf; rw [ht] at hc
   have hc' : a.eval c = .bool t := hc
   cases t
   ·exact Runs.still hs (v' := a.eval y) (by simp [execOp, ho, hc', asBool]) (opd_rel h3 hf)
   ·exact Runs.still hs (v' := a.eval x) (by simp [execOp, ho, hc', asBool]) (opd_rel h2 hf)
  ·cases hv
 ·cases hr

theorem s_nc {o : Oper} {x : Operand} (ho : o.op = .nilCheck x) {r : ROp} (hr : rop P o.op = some r) {call : CallT} {v : AV} {μ' : Mem} (hv : aop call r fr μ = some (v, μ')) :
  Runs P (execOp a.eval o) F ρ μ w v μ' := by
 rw [ho] at hr
 simp only [rop, Option.map_eq_some_iff] at hr
 obtain ⟨y, hy, rfl⟩ := hr
 simp only [aop] at hv
 split at hv
 ·rename_i p hp
  simp only [Option.some.injEq, Prod.mk.injEq] at hv
  obtain ⟨rfl, rfl⟩ := hv
  have hc := opd_rel hy hf; rw [hp] at hc
  obtain ⟨b, e, h1, h2⟩ := id hc
  exact Runs.still hs (v' := a.eval x) (by simp [execOp, ho, h2]) hc
 ·cases hv

theorem s_fa {o : Oper} {s : TypeId} {x : Operand} {f : Nat} (ho : o.op = .fieldAddr s x f) {r : ROp} (hr : rop P o.op = some r) {call : CallT} {v : AV} {μ' : Mem} (hv : aop call r fr μ = some (v, μ')) :
  Runs P (execOp a.eval o) F ρ μ w v μ' := by
 rw [ho] at hr
 simp only [rop] at hr
 split at hr
 ·rename_i fd y h1 h2
  split at hr
  ·rename_i k hk
   split at hr
   ·cases hr
   ·rename_i hk0
    simp only [Option.some.injEq] at hr; subst hr
    simp only [aop] at hv
    split at hv
    ·rename_i i o' hp
     simp only [Option.some.injEq, Prod.mk.injEq] at hv
     obtain ⟨rfl, rfl⟩ := hv
     have hc := opd_rel h2 hf; rw [hp] at hc
     obtain ⟨b, e, h3, h4⟩ := hc
     obtain ⟨fs, h5, h6⟩ := fieldN_spec h1
     refine Runs.still hs (v' := .pointer (some ⟨b, o' + fd.offset, none⟩)) ?_ ⟨b, e, h3, rfl⟩
     simp [execOp, ho, h4, Instr.fieldAt, run_underlying h5, h6, Instr.sureAddr, fieldPlace, sizeOf_of hk, hk0, Addr.add_lit]
    ·cases hv
  ·cases hr
 ·cases hr

theorem s_idx {o : Oper} {t : TypeId} {x i : Operand} (ho : o.op = .indexAddr t x i) {r : ROp} (hr : rop P o.op = some r) {call : CallT} {v : AV} {μ' : Mem} (hv : aop call r fr μ = some (v, μ')) :
  Runs P (execOp a.eval o) F ρ μ w v μ' := by
 rw [ho] at hr
 simp only [rop] at hr
 split at hr
 ·rename_i x' i' e hx hi hu
  simp only [Option.map_eq_some_iff] at hr
  obtain ⟨k, hk, rfl⟩ := hr
  simp only [aop, Option.map_eq_some_iff] at hv
  obtain ⟨v', hv', he⟩ := hv
  simp only [Prod.mk.injEq] at he
  obtain ⟨rfl, rfl⟩ := he
  have hcx := opd_rel hx hf
  have hci := opd_rel hi hf
  unfold aidx at hv'
  split at hv'
  ·rename_i b o' len cap kk j e1 e2
   rw [e1] at hcx; rw [e2] at hci
   obtain ⟨bb, ex, h3, h4⟩ := hcx
   have h5 : a.eval i = .int kk j := hci
   split at hv'
   ·rename_i hb
    simp only [Option.some.injEq] at hv'; subst hv'
    refine Runs.still hs (v' := .pointer (some ⟨bb, o' + j.toNat * k, none⟩)) ?_ ⟨bb, ex, h3, rfl⟩
    simp [execOp, ho, h4, h5, Instr.indexAt, asIntOf, run_underlying hu, hb, sizeOf_of hk, Addr.add_lit]
   ·cases hv'
  ·cases hv'
 ·rename_i x' i' len e hx hi hu
  simp only [Option.map_eq_some_iff] at hr
  obtain ⟨k, hk, rfl⟩ := hr
  simp only [aop] at hv
  have hcx := opd_rel hx hf
  have hci := opd_rel hi hf
  split at hv
  ·rename_i b o' kk j e1 e2
   rw [e1] at hcx; rw [e2] at hci
   obtain ⟨bb, ex, h3, h4⟩ := hcx
   have h5 : a.eval i = .int kk j := hci
   split at hv
   ·rename_i hb
    simp only [Option.some.injEq, Prod.mk.injEq] at hv
    obtain ⟨rfl, rfl⟩ := hv
    refine Runs.still hs (v' := .pointer (some ⟨bb, o' + j.toNat * k, none⟩)) ?_ ⟨bb, ex, h3, rfl⟩
    simp [execOp, ho, h4, h5, Instr.indexAt, asIntOf, run_underlying hu, hb, sizeOf_of hk, Addr.add_lit, Instr.sureAddr]
   ·cases hv
  ·cases hv
 ·cases hr

theorem s_not {o : Oper} {t : TypeId} {x : Operand} (ho : o.op = .unOp .not t x) {r : ROp} (hr : rop P o.op = some r) {call : CallT} {v : AV} {μ' : Mem} (hv : aop call r fr μ = some (v, μ')) :
  Runs P (execOp a.eval o) F ρ μ w v μ' := by
 rw [ho] at hr
 simp only [rop, Option.map_eq_some_iff] at hr
 obtain ⟨y, hy, rfl⟩ := hr
 simp only [aop] at hv
 split at hv
 ·rename_i p hp
  simp only [Option.some.injEq, Prod.mk.injEq] at hv
  obtain ⟨rfl, rfl⟩ := hv
  have hc := opd_rel hy hf; rw [hp] at hc
  have h2 : a.eval x = .bool p := hc
  exact Runs.still hs (v' := .bool (!p)) (by simp [execOp, ho, h2, Op.unary]) rfl
 ·cases hv

theorem s_conv {o : Oper} {t u : TypeId} {x : Operand} (ho : o.op = .convert t u x) {r : ROp} (hr : rop P o.op = some r) {call : CallT} {v : AV} {μ' : Mem} (hv : aop call r fr μ = some (v, μ')) :
  Runs P (execOp a.eval o) F ρ μ w v μ' := by
 rw [ho] at hr
 simp only [rop] at hr
 split at hr
 ·rename_i k1 k2 y hu1 hu2 hy
  simp only [Option.some.injEq] at hr; subst hr
  simp only [aop] at hv
  split at hv
  ·rename_i kk m hp
   simp only [Option.some.injEq, Prod.mk.injEq] at hv
   obtain ⟨rfl, rfl⟩ := hv
   have hc := opd_rel hy hf; rw [hp] at hc
   have h2 : a.eval x = .int kk m := hc
   exact Runs.still hs (v' := .int k2 (k2.wrap m)) (by simp [execOp, ho, h2, convert, run_underlying hu1, run_underlying hu2, Conv.intToInt]) rfl
  ·cases hv
 ·cases hr

theorem s_ext {o : Oper} {x : Operand} {i : Nat} (ho : o.op = .extract x i) {r : ROp} (hr : rop P o.op = some r) {call : CallT} {v : AV} {μ' : Mem} (hv : aop call r fr μ = some (v, μ')) :
  Runs P (execOp a.eval o) F ρ μ w v μ' := by
 rw [ho] at hr
 simp only [rop, Option.map_eq_some_iff] at hr
 obtain ⟨y, hy, rfl⟩ := hr
 simp only [aop] at hv
 split at hv
 ·rename_i l hp
  simp only [Option.map_eq_some_iff, Prod.mk.injEq] at hv
  obtain ⟨c, hc', rfl, rfl⟩ := hv
  have hc := opd_rel hy hf; rw [hp] at hc
  obtain ⟨vs, h1, h2⟩ := hc
  obtain ⟨v', h3, h4⟩ := h2.get hc'
  exact Runs.still hs (v' := v') (by simp [execOp, ho, h1, Instr.extract, h3]) h4
 ·cases hv

theorem s_len {o : Oper} {c : Call} (ho : o.op = .call c) (hb : c.callee = .builtin .len) {r : ROp} (hr : ropCall P c = some r) {call : CallT} {v : AV} {μ' : Mem}
  (hv : aop call r fr μ = some (v, μ')) : Runs P (execOp a.eval o) F ρ μ w v μ' := by
 obtain ⟨callee, args, argTypes⟩ := c
 simp only at hb
 subst hb
 simp only [ropCall] at hr
 split at hr
 ·rename_i x t e1 e2
  split at hr
  ·rename_i e y hu hy
   simp only [Option.some.injEq] at hr; subst hr
   simp only [aop] at hv
   split at hv
   ·rename_i p m c hp
    simp only [Option.some.injEq, Prod.mk.injEq] at hv
    obtain ⟨rfl, rfl⟩ := hv
    have hc := opd_rel hy hf; rw [hp] at hc
    have h2 : ∃ q c', a.eval x = .slice q m c' := by
     cases p with
     | none =>
      rcases hc with h | ⟨rfl, _, _, _, h⟩
      ·exact ⟨_, _, h⟩
      ·exact ⟨_, _, h⟩
     | some p => obtain ⟨_, _, _, h⟩ := hc; exact ⟨_, _, h⟩
    obtain ⟨q, c', h2⟩ := h2
    have ha : args = #[x] := Array.ext' e1
    have hat : argTypes = #[t] := Array.ext' e2
    subst ha; subst hat
    exact Runs.still hs (v' := .int .i64 m) (by simp [execOp, ho, h2, resolve, invoke, builtin, Builtin.len_, run_underlying hu, goInt]) rfl
   ·cases hv
  ·cases hr
 ·cases hr

omit hs in
theorem toPlaces_rel : ∀ {xs : List Operand} {ys : List Opd}, opds xs = some ys → ∀ {l : List (Nat × Nat)}, toPlaces (ys.map (Opd.ev fr)) = some l → LRel (PRel ρ) l (xs.map a.eval)
 | [], _, h, l, hl => by simp [opds] at h; subst h; simp [toPlaces] at hl; subst hl; trivial
 | x :: xs, ys, h, l, hl => by
  unfold opds at h
  split at h
  ·rename_i y ys' h1 h2
   simp at h; subst h
   simp only [List.map_cons] at hl
   unfold toPlaces at hl
   split at hl
   ·rename_i heq; cases heq
   ·rename_i p l' heq
    simp only [List.cons.injEq] at heq
    obtain ⟨e1, rfl⟩ := heq
    simp only [Option.map_eq_some_iff] at hl
    obtain ⟨l2, h3, rfl⟩ := hl
    have hc := opd_rel (ρ := ρ) (a := a) h1 hf; rw [e1] at hc
    exact ⟨hc, toPlaces_rel h2 h3⟩
   ·cases hl
  ·cases h

theorem s_mkf {o : Oper} {fn : Fn} {first caps : Array Operand} (ho : o.op = .makeFunc fn first caps) {r : ROp} (hr : rop P o.op = some r) {call : CallT} {v : AV} {μ' : Mem}
  (hv : aop call r fr μ = some (v, μ')) : Runs P (execOp a.eval o) F ρ μ w v μ' := by
 rw [ho] at hr
 simp only [rop] at hr
 split at hr
 ·rename_i f
  split at hr
  ·rename_i hg
   simp only [Option.map_eq_some_iff] at hr
   obtain ⟨l, hl, rfl⟩ := hr
   simp only [aop, Option.map_eq_some_iff, Prod.mk.injEq] at hv
   obtain ⟨ps, hps, rfl, rfl⟩ := hv
   have := toPlaces_rel hf hl hps
   have h0 : first = #[] := Array.eq_empty_of_size_eq_zero hg.2
   subst h0
   refine Runs.still hs (v' := .func (.func f) #[] (caps.map a.eval)) (by simp [execOp, ho, Instr.makeFunc]) ⟨caps.toList.map a.eval, ?_, this⟩
   rw [← Array.toList_map, Array.toArray_toList]
  ·cases hr
 ·cases hr

end
end Go.Proofs.Ytibmnlijoeppaaa
namespace Go.Proofs.Ytibmnlijoeppaaa

section
variable {P : Program} {F : Nat → Prop} {ρ : Emb} {μ : Mem} {w : World} {n : Nat} {fr : Fr} {a : Act}

theorem eqGuard_ints (op : BinOp) (t : TypeId) (x y : Operand) (k k' : IntKind) (a b : Int) : eqGuard op t x y (.int k a) (.int k' b) = pure () := by
 cases op <;> rfl

theorem run_abin {op : BinOp} {k k' : IntKind} {x y : Int} {c : Cell} (h : abin op k x y = some c) (hk : k = k' ∨ op = .shr) (t : TypeId) (ρ : Emb) :
  ∃ v, (binOp op t (.int k x) (.int k' y)).run P w = .ok v w ∧ CRel ρ c v := by
 cases op <;> simp only [abin] at h <;> try (cases h; done)
 case shr =>
  split at h
  ·cases h
  ·rename_i h0
   simp only [Option.some.injEq] at h; subst h
   exact ⟨_, by simp [binOp, Op.shift, h0], rfl⟩
 all_goals (simp only [reduceCtorEq, or_false] at hk; subst hk)
 case rem =>
  split at h
  ·cases h
  ·rename_i h0
   simp only [Option.some.injEq] at h; subst h
   exact ⟨_, by simp [binOp, Op.intDiv, h0], rfl⟩
 all_goals (simp only [Option.some.injEq] at h; subst h)
 case and => exact ⟨_, by simp [binOp, Op.intBits], rfl⟩
 all_goals exact ⟨_, by simp [binOp, Op.intArith, Op.intCmp], rfl⟩

theorem eqFields_ints (d : Nat) (vx vy : Array Value) : ∀ (fs : List Field) (k : Nat) (sx sy : List Cell) (b : Bool), intFields P fs k = true → sx.length = fs.length → sy.length = fs.length →
  (∀ (j : Nat) (c : Cell), sx[j]? = some c → ∃ v, vx[k + j]? = some v ∧ CRel ρ c v) → (∀ (j : Nat) (c : Cell), sy[j]? = some c → ∃ v, vy[k + j]? = some v ∧ CRel ρ c v) →
  eqInts sx sy = some b → (Op.eqFields (d + 1) vx vy fs).run P w = .ok b w
 | [], k, sx, sy, b, _, hx, hy, _, _, h => by
  have h1 : sx = [] := List.eq_nil_of_length_eq_zero (by simpa using hx)
  have h2 : sy = [] := List.eq_nil_of_length_eq_zero (by simpa using hy)
  subst h1; subst h2
  simp only [eqInts, Option.some.injEq] at h
  subst h
  rfl
 | f :: fs, k, [], sy, b, _, hx, hy, _, _, h => by simp at hx
 | f :: fs, k, x :: sx, [], b, _, hx, hy, _, _, h => by simp at hy
 | f :: fs, k, x :: sx, y :: sy, b, hi, hx, hy, rx, ry, h => by
  simp only [intFields, intField, Bool.and_eq_true, beq_iff_eq, bne_iff_ne, ne_eq] at hi
  obtain ⟨⟨⟨h1, h2⟩, h3⟩, h4⟩ := hi
  obtain ⟨v, hv, cv⟩ := rx 0 x rfl
  obtain ⟨u, hu, cu⟩ := ry 0 y rfl
  simp only [Nat.add_zero] at hv hu
  have hint : ∃ kk, P.underlying f.type = some (.int kk) := by
   split at h3
   ·rename_i kk e; exact ⟨kk, e⟩
   ·cases h3
  obtain ⟨kk, hkk⟩ := hint
  unfold eqInts at h
  split at h
  ·rename_i e _; cases e
  ·rename_i k1 a1 xs k2 b1 ys e1 e2
   simp only [List.cons.injEq] at e1 e2
   obtain ⟨rfl, rfl⟩ := e1
   obtain ⟨rfl, rfl⟩ := e2
   have cv' : v = .int k1 a1 := cv
   have cu' : u = .int k2 b1 := cu
   subst cv'; subst cu'
   have hag : (isAgg f.type).run P w = .ok false w := by simp [isAgg, run_underlying hkk]
   have hpx : (part f.type vx f.offset).run P w = .ok (.int k1 a1) w := by simp [part, hag, h1, hv]
   have hpy : (part f.type vy f.offset).run P w = .ok (.int k2 b1) w := by simp [part, hag, h1, hu]
   split at h
   ·rename_i hk; subst hk
    have he := run_equalIn_int (P := P) w d f.type k1 kk a1 b1 hkk
    simp only [Op.eqFields, ne_eq, h2, not_false_eq_true, if_true, Sem.run_bind, hpx, hpy, Result.andThen_ok, he]
    split at h
    ·rename_i e; subst e
     simp only [beq_self_eq_true, Bool.not_true, Bool.false_eq_true, if_false]
     exact eqFields_ints d vx vy fs (k + 1) sx sy b h4 (by simpa using hx) (by simpa using hy)
      (fun j c hc => by have := rx (j + 1) c (by simpa using hc); rwa [show k + (j + 1) = k + 1 + j by omega] at this)
      (fun j c hc => by have := ry (j + 1) c (by simpa using hc); rwa [show k + (j + 1) = k + 1 + j by omega] at this) h
    ·rename_i e
     simp only [Option.some.injEq] at h; subst h
     have : (a1 == b1) = false := by simpa using e
     simp [this]
   ·cases h
  ·cases h

theorem run_eq_of {t : TypeId} {x y : Value} {b : Bool} (neg : Bool) (o1 o2 : Operand) (hg : ∀ op, eqGuard op t o1 o2 x y = pure ()) (h1 : binOp .eql t x y = (do pure (.bool (← Op.equal t x y))))
  (h2 : binOp .neq t x y = (do pure (.bool (!(← Op.equal t x y))))) (he : (Op.equalIn (9999 + 1) t x y).run P w = .ok b w) :
  ((do eqGuard (bif neg then .neq else .eql) t o1 o2 x y; binOp (bif neg then .neq else .eql) t x y) : Sem Value).run P w = .ok (.bool (bif neg then !b else b)) w := by
 have he' : (Op.equal t x y).run P w = .ok b w := he
 cases neg
 ·simp only [cond_false, hg, h1, Sem.run_bind, Sem.run_pure, Result.andThen_ok, he']
 ·simp only [cond_true, hg, h2, Sem.run_bind, Sem.run_pure, Result.andThen_ok, he']

theorem eqIn_ptr (d : Nat) {t e : TypeId} (hu : P.underlying t = some (.pointer e)) (q : Option Addr) : (Op.equalIn (d + 1) t (.pointer none) (.pointer q)).run P w = .ok q.isNone w := by
 simp [Op.equalIn, run_underlying hu]
theorem eqIn_ptr' (d : Nat) {t e : TypeId} (hu : P.underlying t = some (.pointer e)) (q : Addr) : (Op.equalIn (d + 1) t (.pointer (some q)) (.pointer none)).run P w = .ok false w := by
 simp [Op.equalIn, run_underlying hu]
theorem eqIn_fn (d : Nat) {t : TypeId} {e f : Array TypeId} {g : Bool} (hu : P.underlying t = some (.func e f g)) : (Op.equalIn (d + 1) t .nilFunc .nilFunc).run P w = .ok true w := by
 simp [Op.equalIn, run_underlying hu]
theorem eqIn_fn' (d : Nat) {t : TypeId} {e f : Array TypeId} {g : Bool} (hu : P.underlying t = some (.func e f g)) (x : Fn) (y z : Array Value) :
  (Op.equalIn (d + 1) t (.func x y z) .nilFunc).run P w = .ok false w := by
 simp [Op.equalIn, run_underlying hu]

theorem run_aeq {t : TypeId} {k : EqK} (hk : eqN P t = some k) {x y : AV} {b : Bool} (h : aeq k x y = some b) {vx vy : Value} (hx : AVRel ρ x vx) (hy : AVRel ρ y vy) (neg : Bool) (o1 o2 : Operand) :
  ((do eqGuard (bif neg then .neq else .eql) t o1 o2 vx vy; binOp (bif neg then .neq else .eql) t vx vy) : Sem Value).run P w = .ok (.bool (bif neg then !b else b)) w := by
 unfold eqN at hk
 cases hu : P.underlying t with
 | none => rw [hu] at hk; cases hk
 | some d =>
  rw [hu] at hk
  unfold aeq at h
  split at h
  ·rename_i p q
   have hx' : vx = .bool p := hx
   have hy' : vy = .bool q := hy
   subst hx'; subst hy'
   simp only [Option.some.injEq] at h; subst h
   have hd : d = .bool := by
    cases d <;> simp at hk <;> first | rfl | (split at hk <;> cases hk)
   subst hd
   exact run_eq_of neg o1 o2 (fun op => by cases op <;> rfl) rfl rfl (run_equalIn_bool' (P := P) w 9999 t p q hu)
  ·rename_i q
   have hx' : vx = .pointer none := hx
   subst hx'
   have hd : ∃ e, d = .pointer e := by
    cases d <;> simp at hk <;> first | exact ⟨_, rfl⟩ | (split at hk <;> cases hk)
   obtain ⟨e, rfl⟩ := hd
   simp only [Option.some.injEq] at h; subst h
   cases q with
   | none =>
    have hy' : vy = .pointer none := hy
    subst hy'
    exact run_eq_of neg o1 o2 (fun op => by cases op <;> rfl) rfl rfl (eqIn_ptr 9999 hu _)
   | some q =>
    obtain ⟨bb, xx, _, hy'⟩ := hy
    subst hy'
    exact run_eq_of neg o1 o2 (fun op => by cases op <;> rfl) rfl rfl (eqIn_ptr 9999 hu _)
  ·rename_i p
   obtain ⟨bb, xx, _, hx'⟩ := hx
   subst hx'
   have hy' : vy = .pointer none := hy
   subst hy'
   have hd : ∃ e, d = .pointer e := by
    cases d <;> simp at hk <;> first | exact ⟨_, rfl⟩ | (split at hk <;> cases hk)
   obtain ⟨e, rfl⟩ := hd
   simp only [Option.some.injEq] at h; subst h
   exact run_eq_of neg o1 o2 (fun op => by cases op <;> rfl) rfl rfl (eqIn_ptr' 9999 hu _)
  ·have hx' : vx = .nilFunc := hx
   have hy' : vy = .nilFunc := hy
   subst hx'; subst hy'
   have hd : ∃ e f g, d = .func e f g := by
    cases d <;> simp at hk <;> first | exact ⟨_, _, _, rfl⟩ | (split at hk <;> cases hk)
   obtain ⟨e, f, g, rfl⟩ := hd
   simp only [Option.some.injEq] at h; subst h
   exact run_eq_of neg o1 o2 (fun op => by cases op <;> rfl) rfl rfl (eqIn_fn 9999 hu)
  ·obtain ⟨vs, hx', _⟩ := hx
   have hy' : vy = .nilFunc := hy
   subst hx'; subst hy'
   have hd : ∃ e f g, d = .func e f g := by
    cases d <;> simp at hk <;> first | exact ⟨_, _, _, rfl⟩ | (split at hk <;> cases hk)
   obtain ⟨e, f, g, rfl⟩ := hd
   simp only [Option.some.injEq] at h; subst h
   exact run_eq_of neg o1 o2 (fun op => by cases op <;> rfl) rfl rfl (eqIn_fn' 9999 hu _ _ _)
  ·rename_i m xs ys
   obtain ⟨vs, rfl, hvs⟩ := hx
   obtain ⟨us, rfl, hus⟩ := hy
   split at h
   ·rename_i hl
    cases d <;> simp at hk
    rename_i fs
    obtain ⟨⟨⟨hk1, hk2⟩, hk3⟩, hk4⟩ := hk
    have hst : P.underlying t = some (.struct (P.fieldsOf t)) := by simp [Program.fieldsOf, hu]
    have hfs : P.fieldsOf t = fs := by simp [Program.fieldsOf, hu]
    have he := eqFields_ints (P := P) (ρ := ρ) (w := w) 9998 vs.toArray us.toArray fs.toList 0 xs ys b hk1 (by simp [hl.1, hk4]) (by simp [hl.2, hk4])
     (fun j c hc => by simpa using hvs.get hc) (fun j c hc => by simpa using hus.get hc) h
    have hr := run_equalIn_struct (P := P) w 9999 t vs.toArray us.toArray hst hk2
    rw [hfs] at hr
    rw [he] at hr
    have hg := fun op => run_eqGuard_agg (P := P) w op t o1 o2 vs.toArray us.toArray hk3
    cases neg
    ·simp only [Sem.run_bind, cond_false, hg, Result.andThen_ok, run_eql_struct, hr]
    ·simp only [Sem.run_bind, cond_true, hg, Result.andThen_ok, run_neq_struct, hr]
   ·cases h
  ·cases h

variable (hs : Sim F ρ μ w) (hf : FrRel n ρ fr a.tmps)
include hs hf

theorem s_bin {o : Oper} {op : BinOp} {t u : TypeId} {x y : Operand} (ho : o.op = .binOp op t x y u) {r : ROp} (hr : rop P o.op = some r) {call : CallT} {v : AV} {μ' : Mem}
  (hv : aop call r fr μ = some (v, μ')) : Runs P (execOp a.eval o) F ρ μ w v μ' := by
 rw [ho] at hr
 simp only [rop] at hr
 split at hr
 ·rename_i x' y' kk hx hy hu
  simp only [Option.some.injEq] at hr; subst hr
  simp only [aop] at hv
  split at hv
  ·rename_i k p k' q e1 e2
   split at hv
   ·rename_i hkk
    simp only [Option.map_eq_some_iff, Prod.mk.injEq] at hv
    obtain ⟨c, hc, rfl, rfl⟩ := hv
    have hcx := opd_rel hx hf; rw [e1] at hcx
    have hcy := opd_rel hy hf; rw [e2] at hcy
    have h1 : a.eval x = .int k p := hcx
    have h2 : a.eval y = .int k' q := hcy
    obtain ⟨v', h3, h4⟩ := run_abin (P := P) (w := w) hc hkk t ρ
    refine Runs.still hs (v' := v') ?_ h4
    simp only [execOp, ho, h1, h2, eqGuard_ints, Sem.run_bind, Sem.run_pure, Result.andThen_ok, h3]
   ·cases hv
  ·cases hv
 ·rename_i x' y' d hnint hx hy hu
  have key : ∀ (neg : Bool) (m : EqK), eqN P t = some m → op = (bif neg then .neq else .eql) → aop call (.eq neg m x' y') fr μ = some (v, μ') → Runs P (execOp a.eval o) F ρ μ w v μ' := by
   intro neg m hm hop hv
   subst hop
   simp only [aop, Option.map_eq_some_iff, Prod.mk.injEq] at hv
   obtain ⟨b, hb, rfl, rfl⟩ := hv
   have := run_aeq (P := P) (w := w) hm hb (opd_rel hx hf) (opd_rel hy hf) neg x y
   refine Runs.still hs (v' := .bool (bif neg then !b else b)) ?_ rfl
   simp only [execOp, ho]
   rw [Sem.run_bind, this]
   rfl
  split at hr
  ·rename_i m hm
   simp only [Option.some.injEq] at hr; subst hr
   exact key false m hm rfl hv
  ·rename_i m hm
   simp only [Option.some.injEq] at hr; subst hr
   exact key true m hm rfl hv
  ·cases hr
 ·cases hr

theorem s_ld {o : Oper} {t : TypeId} {x : Operand} (ho : o.op = .load t x) {r : ROp} (hr : rop P o.op = some r) {call : CallT} {v : AV} {μ' : Mem}
  (hv : aop call r fr μ = some (v, μ')) : Runs P (execOp a.eval o) F ρ μ w v μ' := by
 rw [ho] at hr
 simp only [rop] at hr
 split at hr
 ·rename_i m y hm hy
  simp only [Option.some.injEq] at hr; subst hr
  simp only [aop] at hv
  split at hv
  ·rename_i i o' e1
   simp only [Option.map_eq_some_iff, Prod.mk.injEq] at hv
   obtain ⟨c, hc, rfl, rfl⟩ := hv
   have hcx := opd_rel hy hf; rw [e1] at hcx
   obtain ⟨b, e, h1, h2⟩ := hcx
   obtain ⟨v', h3, h4⟩ := run_loadVar_of hm hs h1 hc
   refine Runs.still hs (v' := v') ?_ h3
   simp [execOp, ho, h2, Instr.loadAt, Instr.sureAddr, h4]
  ·cases hv
 ·cases hr

theorem s_st {o : Oper} {t : TypeId} {x y : Operand} (ho : o.op = .store t x y) {r : ROp} (hr : rop P o.op = some r) {call : CallT} {v : AV} {μ' : Mem}
  (hv : aop call r fr μ = some (v, μ')) : Runs P (execOp a.eval o) F ρ μ w v μ' := by
 rw [ho] at hr
 simp only [rop] at hr
 split at hr
 ·rename_i m x' y' hm hx hy
  simp only [Option.some.injEq] at hr; subst hr
  simp only [aop] at hv
  split at hv
  ·rename_i i o' e1
   split at hv
   ·rename_i hc
    simp only [Option.map_eq_some_iff, Prod.mk.injEq] at hv
    obtain ⟨μ1, hst, rfl, rfl⟩ := hv
    have hcx := opd_rel hx hf; rw [e1] at hcx
    have hcy := (opd_rel (ρ := ρ) (a := a) hy hf).cells hc.1
    obtain ⟨b, e, h1, h2⟩ := hcx
    obtain ⟨h3, h4, h5⟩ := hs.st h1 hcy hst
    have hl := hcy.length
    refine ⟨ρ, undef, _, .inr ⟨?_, rfl⟩, AVRel.undef ρ, h3⟩
    have hone : ∀ v ∈ (a.eval y).cells.toList, v.oneCell' = true := by
     intro v hv
     obtain ⟨k, hk⟩ := List.getElem?_of_mem hv
     have : ∃ c, (y'.ev fr).cells[k]? = some c := by
      have : k < (y'.ev fr).cells.length := by
       rw [hl]; exact (List.getElem?_eq_some_iff.1 hk).1
      exact ⟨_, List.getElem?_eq_getElem this⟩
     obtain ⟨c, hc⟩ := this
     obtain ⟨v', k1, k2⟩ := hcy.get hc
     rw [hk] at k1
     simp only [Option.some.injEq] at k1
     subst k1
     exact k2.one
    have hrun := run_storeCells_cells (P := P) b o' (a.eval y).cells.toList 0 w (fun j hj => by simpa using h4 j hj) (fun j _ => by simpa using h5 j) hone
    have hsz : (a.eval y).cells.size = m := by
     rw [← hc.2, hl]; simp
    simp only [execOp, ho, h2, Instr.storeAt, Instr.sureAddr, Sem.run_bind, Sem.run_pure, Result.andThen_ok, storeVar, sizeOf_of hm, hsz, ne_eq, not_true_eq_false, if_false]
    rw [hrun]
    rfl
   ·cases hv
  ·cases hv
 ·cases hr

end
end Go.Proofs.Ytibmnlijoeppaaa
namespace Go.Proofs.Ytibmnlijoeppaaa

section
variable {P : Program} {F : Nat → Prop} {ρ : Emb} {μ : Mem} {w : World} {n : Nat} {fr : Fr} {a : Act}

theorem wr_rel : ∀ (cs : List Cell) (vs : List Value) (l : List Cell) (arr : Array Value) (o k : Nat), LRel (CRel ρ) cs vs → LRel (CRel ρ) l arr.toList →
  LRel (CRel ρ) (wr l (o + k) cs) ((vs.zipIdx k).foldl (fun (cs : Array Value) (p : Value × Nat) => cs.setIfInBounds (o + p.2) p.1) arr).toList
 | [], [], _, _, _, _, _, h => h
 | c :: cs, v :: vs, l, arr, o, k, ⟨h1, h2⟩, h => by
  simp only [wr, List.zipIdx_cons, List.foldl_cons]
  refine wr_rel cs vs _ _ o (k + 1) h2 ?_
  refine LRel.of_get (by simp [h.length]) fun j x y hx hy => ?_
  simp only [Array.toList_setIfInBounds] at hy
  rw [List.getElem?_set] at hx hy
  split at hx
  ·rename_i e
   rw [if_pos e] at hy
   split at hx
   ·split at hy
    ·simp only [Option.some.injEq] at hx hy
     subst hx; subst hy; exact h1
    ·cases hy
   ·cases hx
  ·rename_i e
   rw [if_neg e] at hy
   obtain ⟨z, hz, hc⟩ := h.get hx
   rw [hz] at hy
   simp only [Option.some.injEq] at hy
   subst hy; exact hc
 | [], _ :: _, _, _, _, _, h, _ => h.elim
 | _ :: _, [], _, _, _, _, h, _ => h.elim

theorem fill_rel (place : Nat → Option (Nat × Nat)) (hf : FrRel n ρ fr a.tmps) : ∀ (ps : List (Nat × Operand)) (qs : List (Nat × Nat × Opd)) (l l' : List Cell) (arr : Array Value),
  ps.length = qs.length → (∀ (k i : Nat) (x : Operand), ps[k]? = some (i, x) → ∃ o m y, qs[k]? = some (o, m, y) ∧ place i = some (o, m) ∧ opd x = some y) →
  LRel (CRel ρ) l arr.toList → fillc fr l qs = some l' → ∃ arr', Instr.fill place arr (ps.map fun p => (p.1, a.eval p.2)) = some arr' ∧ LRel (CRel ρ) l' arr'.toList
 | [], [], l, l', arr, _, _, h, hl => by
  simp only [fillc, Option.some.injEq] at hl; subst hl
  exact ⟨arr, rfl, h⟩
 | (i, x) :: ps, (o, m, y) :: qs, l, l', arr, hlen, hp, h, hl => by
  obtain ⟨o', m', y', e1, e2, e3⟩ := hp 0 i x rfl
  simp only [List.getElem?_cons_zero, Option.some.injEq, Prod.mk.injEq] at e1
  obtain ⟨rfl, rfl, rfl⟩ := e1
  simp only [fillc] at hl
  split at hl
  ·rename_i hc
   obtain ⟨hc1, hc2, hc3⟩ := hc
   have hy := (opd_rel (ρ := ρ) (a := a) e3 hf).cells hc1
   have hlen' := hy.length
   have hsz : (a.eval x).cells.size = m := by rw [← hc2, hlen']; simp
   have hal : l.length = arr.size := by have := h.length; simpa using this
   have hw := wr_rel (ρ := ρ) _ _ l arr o 0 hy h
   rw [Nat.add_zero] at hw
   have hfold : (a.eval x).cells.zipIdx.foldl (fun (cs : Array Value) (p : Value × Nat) => cs.setIfInBounds (o + p.2) p.1) arr =
     ((a.eval x).cells.toList.zipIdx 0).foldl (fun (cs : Array Value) (p : Value × Nat) => cs.setIfInBounds (o + p.2) p.1) arr := by
    rw [← Array.foldl_toList, Array.toList_zipIdx]
   obtain ⟨arr', k1, k2⟩ := fill_rel place hf ps qs _ l' _ (by simpa using hlen) (fun k i x hk => by
    obtain ⟨o, m, y, q1, q2, q3⟩ := hp (k + 1) i x (by simpa using hk)
    exact ⟨o, m, y, by simpa using q1, q2, q3⟩) hw hl
   refine ⟨arr', ?_, k2⟩
   simp only [List.map_cons, Instr.fill, e2, hsz]
   have hno : ((m != m || decide (o + m > arr.size)) : Bool) = false := by simp; omega
   simp only [ne_eq, not_true_eq_false, decide_false, Bool.false_or, show ¬ (o + m > arr.size) by omega, Bool.false_eq_true, if_false]
   exact (congrArg (fun z => Instr.fill place z _) hfold).trans k1
  ·cases hl
 | [], _ :: _, _, _, _, h, _, _, _ => by simp at h
 | _ :: _, [], _, _, _, h, _, _, _ => by simp at h

theorem mapM_run {α β : Type} (g : α → Sem β) (g' : α → β) : ∀ (l : List α), (∀ x ∈ l, (g x).run P w = .ok (g' x) w) → (l.mapM g).run P w = .ok (l.map g') w
 | [], _ => by simp
 | x :: l, h => by
  have h1 := h x (by simp)
  have h2 := mapM_run g g' l (fun y hy => h y (by simp [hy]))
  simp [List.mapM_cons, h1, h2]

theorem partsN_spec {t : TypeId} {fs : Array Field} (hu : P.underlying t = some (.struct fs)) : ∀ {ps : List (Nat × Operand)} {qs : List (Nat × Nat × Opd)}, partsN P t ps = some qs →
  ps.length = qs.length ∧ ∀ (k i : Nat) (x : Operand), ps[k]? = some (i, x) → ∃ (o m : Nat) (y : Opd) (fd : Field), qs[k]? = some (o, m, y) ∧ fs[i]? = some fd ∧ fd.offset = o ∧ szN P fd.type = some m ∧ opd x = some y
 | [], qs, h => by simp [partsN] at h; subst h; exact ⟨rfl, fun k i x hk => by simp at hk⟩
 | (i, x) :: ps, qs, h => by
  unfold partsN at h
  split at h
  ·rename_i fd y ys h1 h2 h3
   simp only [Option.map_eq_some_iff] at h
   obtain ⟨m, hm, rfl⟩ := h
   obtain ⟨k1, k2⟩ := partsN_spec hu h3
   obtain ⟨fs', hu', hfd⟩ := fieldN_spec h1
   rw [hu] at hu'
   simp only [Option.some.injEq, TypeDesc.struct.injEq] at hu'
   subst hu'
   refine ⟨by simp [k1], fun k j z hk => ?_⟩
   cases k with
   | zero =>
    simp only [List.getElem?_cons_zero, Option.some.injEq, Prod.mk.injEq] at hk
    obtain ⟨rfl, rfl⟩ := hk
    exact ⟨_, m, y, fd, rfl, hfd, rfl, hm, h2⟩
   | succ k => simpa using k2 k j z (by simpa using hk)
  ·cases h

theorem partsS_spec : ∀ {ps : List (Nat × Operand)} {qs : List (Nat × Opd)}, partsS ps = some qs →
  ps.length = qs.length ∧ ∀ (k i : Nat) (x : Operand), ps[k]? = some (i, x) → ∃ y, qs[k]? = some (i, y) ∧ opd x = some y
 | [], qs, h => by simp [partsS] at h; subst h; exact ⟨rfl, fun k i x hk => by simp at hk⟩
 | (i, x) :: ps, qs, h => by
  unfold partsS at h
  split at h
  ·rename_i y ys h2 h3
   simp only [Option.some.injEq] at h; subst h
   obtain ⟨k1, k2⟩ := partsS_spec h3
   refine ⟨by simp [k1], fun k j z hk => ?_⟩
   cases k with
   | zero =>
    simp only [List.getElem?_cons_zero, Option.some.injEq, Prod.mk.injEq] at hk
    obtain ⟨rfl, rfl⟩ := hk
    exact ⟨y, rfl, h2⟩
   | succ k => simpa using k2 k j z (by simpa using hk)
  ·cases h

theorem rep_length (z : List Cell) : ∀ k, (rep z k).length = k * z.length
 | 0 => by simp [rep]
 | k + 1 => by simp [rep, rep_length z k, Nat.add_mul, Nat.add_comm]

theorem rep_get (z : List Cell) : ∀ (k j : Nat), j < k * z.length → (rep z k)[j]? = z[j % z.length]?
 | 0, j, h => by simp at h
 | k + 1, j, h => by
  simp only [rep]
  by_cases e : j < z.length
  ·rw [List.getElem?_append_left e, Nat.mod_eq_of_lt e]
  ·rw [List.getElem?_append_right (by omega), rep_get z k _ (by rw [Nat.add_mul] at h; omega)]
   congr 1
   rw [← Nat.mod_eq_sub_mod (by omega)]

theorem rep_rel {z : List Cell} {v : Array Value} (hz : LRel (CRel ρ) z v.toList) (h0 : 0 < z.length) (k : Nat) :
  LRel (CRel ρ) (rep z k) ((Array.range (k * z.length)).map (v[· % v.size]!)).toList := by
 have hl : z.length = v.size := by have := hz.length; simpa using this
 refine LRel.of_get (by simp [rep_length]) fun j x y hx hy => ?_
 have hj : j < k * z.length := by
  have := (List.getElem?_eq_some_iff.1 hx).1
  rwa [rep_length] at this
 rw [rep_get z k j hj] at hx
 obtain ⟨u, hu, hc⟩ := hz.get hx
 have hm : j % v.size < v.size := Nat.mod_lt _ (by omega)
 simp only [Array.toList_map, Array.toList_range, List.getElem?_map, List.getElem?_range hj, Option.map_some, Option.some.injEq] at hy
 subst hy
 have : v[j % v.size]! = u := by
  rw [getElem!_pos v _ hm]
  rw [hl] at hu
  simpa [hm] using hu
 rw [this]; exact hc

variable (hs : Sim F ρ μ w) (hf : FrRel n ρ fr a.tmps)
include hs hf

theorem s_build {o : Oper} {t : TypeId} {ps : Array (Nat × Operand)} (ho : o.op = .build t ps) {r : ROp} (hr : rop P o.op = some r) {call : CallT} {v : AV} {μ' : Mem}
  (hv : aop call r fr μ = some (v, μ')) : Runs P (execOp a.eval o) F ρ μ w v μ' := by
 rw [ho] at hr
 simp only [rop] at hr
 split at hr
 ·rename_i fs z l hu hz hp
  split at hr
  ·rename_i hall
   simp only [Option.some.injEq] at hr; subst hr
   simp only [aop, Option.map_eq_some_iff, Prod.mk.injEq] at hv
   obtain ⟨l', hl', rfl, rfl⟩ := hv
   obtain ⟨inf, zv, hi, hzv, hcl, hzl, hzp, hzs⟩ := zeroN_spec hz
   obtain ⟨hlen, hparts⟩ := partsN_spec hu hp
   have hplaces : (fs.toList.mapM (fun f => do pure (f.offset, ← sizeOf f.type)) : Sem (List (Nat × Nat))).run P w = .ok (fs.toList.map fun f => (f.offset, (szN P f.type).getD 0)) w := by
    refine mapM_run _ _ _ fun f hf' => ?_
    have := List.all_eq_true.1 hall f hf'
    obtain ⟨m, hm⟩ := Option.isSome_iff_exists.1 this
    simp [sizeOf_of hm, hm]
   obtain ⟨arr', k1, k2⟩ := fill_rel (fun i => (fs.map fun f => (f.offset, (szN P f.type).getD 0))[i]?) hf ps.toList l z l' zv.cells hlen (fun k i x hk => by
    obtain ⟨o, m, y, fd, q1, q2, q3, q4, q5⟩ := hparts k i x hk
    exact ⟨o, m, y, q1, by simp [q2, q3, q4], q5⟩) (toCellL_rel hcl ρ) hl'
   refine Runs.still hs (v' := .agg arr') ?_ ⟨arr'.toList, by simp, k2⟩
   simp only [execOp, ho, Instr.build, Sem.run_bind, Sem.run_pure, zeroValue, typeInfo, run_program, Result.andThen_ok, hi, hzv, run_underlying hu, Array.mapM_eq_mapM_toList, Sem.run_map, hplaces]
   have e1 : (List.map (fun f => (f.offset, (szN P f.type).getD 0)) fs.toList).toArray = fs.map fun f => (f.offset, (szN P f.type).getD 0) := by
    rw [← Array.toList_map, Array.toArray_toList]
   have e2 : (Array.map (fun x => (x.1, a.eval x.2)) ps).toList = ps.toList.map fun p => (p.1, a.eval p.2) := by simp
   rw [e1, e2, k1]
   rfl
  ·cases hr
 ·cases hr

theorem s_fld {o : Oper} {t : TypeId} {x : Operand} {f : Nat} (ho : o.op = .field t x f) {r : ROp} (hr : rop P o.op = some r) {call : CallT} {v : AV} {μ' : Mem}
  (hv : aop call r fr μ = some (v, μ')) : Runs P (execOp a.eval o) F ρ μ w v μ' := by
 rw [ho] at hr
 simp only [rop] at hr
 split at hr
 ·rename_i fd y h1 h2
  simp only [Option.map_eq_some_iff] at hr
  obtain ⟨m, hm, rfl⟩ := hr
  obtain ⟨fs, h5, h6⟩ := fieldN_spec h1
  simp only [aop] at hv
  split at hv
  ·rename_i l hl
   have hc := opd_rel h2 hf; rw [hl] at hc
   obtain ⟨vs, h3, h4⟩ := hc
   unfold ldN at hm
   have one : (isAgg fd.type).run P w = .ok false w → ∀ c, l[fd.offset]? = some c → v = .c c → μ' = μ → Runs P (execOp a.eval o) F ρ μ w v μ' := by
    intro hag c hc e1 e2
    subst e1; subst e2
    obtain ⟨u, k1, k2⟩ := h4.get hc
    refine Runs.still hs (v' := u) ?_ k2
    simp [execOp, ho, h3, Instr.field, run_underlying h5, h6, asAgg, part, hag, k1]
   have many : ∀ sz, szN P fd.type = some sz → (isAgg fd.type).run P w = .ok true w → ∀ l', rd l fd.offset sz = some l' → v = .agg l' → μ' = μ → Runs P (execOp a.eval o) F ρ μ w v μ' := by
    intro sz hsz hag l' hl' e1 e2
    subst e1; subst e2
    have hlen := rd_length hl'
    have hget := rd_get hl'
    refine Runs.still hs (v' := .agg (vs.toArray.extract fd.offset (fd.offset + sz))) ?_ ⟨(vs.toArray.extract fd.offset (fd.offset + sz)).toList, by simp, ?_⟩
    ·simp [execOp, ho, h3, Instr.field, run_underlying h5, h6, asAgg, part, hag, sizeOf_of hsz]
    ·have hall : ∀ k, k < sz → ∃ c u, l'[k]? = some c ∧ vs[fd.offset + k]? = some u ∧ CRel ρ c u := by
      intro k hk
      have : ∃ c, l'[k]? = some c := ⟨_, List.getElem?_eq_getElem (by omega)⟩
      obtain ⟨c, hc⟩ := this
      have hc2 := hc
      rw [hget k hk] at hc2
      obtain ⟨u, k1, k2⟩ := h4.get hc2
      exact ⟨c, u, hc, k1, k2⟩
     have hfit : fd.offset + sz ≤ vs.length ∨ sz = 0 := by
      rcases Nat.eq_zero_or_pos sz with h | h
      ·exact .inr h
      ·obtain ⟨c, u, _, k1, _⟩ := hall (sz - 1) (by omega)
       have := (List.getElem?_eq_some_iff.1 k1).1
       left; omega
     refine LRel.of_get ?_ fun k x y hx hy => ?_
     ·simp [hlen]; omega
     ·have hk : k < sz := by have := (List.getElem?_eq_some_iff.1 hx).1; omega
      obtain ⟨c, u, e1, e2, e3⟩ := hall k hk
      rw [hx] at e1
      simp only [Option.some.injEq] at e1
      subst e1
      have hy' : vs[fd.offset + k]? = some y := by
       simp only [Array.toList_extract, List.extract_eq_take_drop] at hy
       rw [List.getElem?_take] at hy
       split at hy
       ·simpa using hy
       ·cases hy
      rw [e2] at hy'
      simp only [Option.some.injEq] at hy'
      subst hy'
      exact e3
   cases hu : P.underlying fd.type with
   | none => rw [hu] at hm; cases hm
   | some d =>
    cases hi : P.info? fd.type with
    | none => rw [hu, hi] at hm; cases d <;> cases hm
    | some inf =>
     have hagg : (isAgg fd.type).run P w = .ok (match d with | .struct _ => true | .array _ _ => true | _ => false) w := by
      simp [isAgg, run_underlying hu]
      cases d <;> rfl
     have hsz : szN P fd.type = some inf.size := by simp [szN, hi]
     rw [hu, hi] at hm
     cases d <;> simp only [Option.some.injEq] at hm <;> subst hm <;> simp only [Option.map_eq_some_iff, Prod.mk.injEq] at hv <;> obtain ⟨c, q1, q2, q3⟩ := hv <;>
      first
       | exact one hagg c q1 q2.symm q3.symm
       | exact many inf.size hsz hagg c q1 q2.symm q3.symm
  ·cases hv
 ·cases hr

omit hf in
theorem s_alc {o : Oper} {t : TypeId} (ho : o.op = .alloc t) {z : List Cell} (hz : zeroN P t = some z) : Runs P (execOp a.eval o) F ρ μ w (.c (.ptr (some (μ.next, 0)))) (μ.new z 0) := by
 obtain ⟨inf, zv, hi, hzv, hcl, hzl, hzp, hzs⟩ := zeroN_spec hz
 have hst := hs.new (cs := z) (esz := 0) (x := 0) (fun _ => rfl) (c := zv.cells) (T := t) (by simp [hzs]) (fun k y hy => by
  obtain ⟨v, h1, h2⟩ := (toCellL_rel hcl ρ).get hy
  exact ⟨v, by simpa using h1, h2⟩)
 refine ⟨_, .pointer (some ⟨w.heap.size, 0, none⟩), _, .inl ?_, ⟨w.heap.size, 0, by simp [Emb.set], rfl⟩, hst⟩
 simp [execOp, ho, Instr.alloc, zeroValue, typeInfo, hi, hzv, newVar, newRow]

theorem s_box {o : Oper} {t : TypeId} {x : Operand} (ho : o.op = .box t x) {r : ROp} (hr : rop P o.op = some r) {call : CallT} {v : AV} {μ' : Mem}
  (hv : aop call r fr μ = some (v, μ')) : Runs P (execOp a.eval o) F ρ μ w v μ' := by
 rw [ho] at hr
 simp only [rop] at hr
 split at hr
 ·rename_i m y hm hy
  simp only [Option.some.injEq] at hr; subst hr
  simp only [aop] at hv
  split at hv
  ·rename_i hc
   simp only [Option.some.injEq, Prod.mk.injEq] at hv
   obtain ⟨rfl, rfl⟩ := hv
   have hcy := (opd_rel (ρ := ρ) (a := a) hy hf).cells hc.1
   have hl := hcy.length
   have hst := hs.new (cs := (y.ev fr).cells) (esz := 0) (x := 0) (fun _ => rfl) (c := (a.eval x).cells) (T := t) (by simp [hl]) (fun k z hz => by
    obtain ⟨v, h1, h2⟩ := hcy.get hz
    exact ⟨v, by simpa using h1, h2⟩)
   refine ⟨_, .pointer (some ⟨w.heap.size, 0, none⟩), _, .inl ?_, ⟨w.heap.size, 0, by simp [Emb.set], rfl⟩, hst⟩
   simp [execOp, ho, Instr.box, newVar, newRow]
  ·cases hv
 ·cases hr

theorem s_bsl {o : Oper} {t : TypeId} {len : Nat} {ps : Array (Nat × Operand)} (ho : o.op = .buildSlice t len ps) {r : ROp} (hr : rop P o.op = some r) {call : CallT} {v : AV} {μ' : Mem}
  (hv : aop call r fr μ = some (v, μ')) : Runs P (execOp a.eval o) F ρ μ w v μ' := by
 rw [ho] at hr
 simp only [rop] at hr
 split at hr
 ·rename_i e hu
  split at hr
  ·rename_i z l hz hp
   split at hr
   ·rename_i hb
    simp only [Option.some.injEq] at hr; subst hr
    simp only [aop, Option.map_eq_some_iff, Prod.mk.injEq] at hv
    obtain ⟨l', hl', rfl, rfl⟩ := hv
    obtain ⟨inf, zv, hi, hzv, hcl, hzl, hzp, hzs⟩ := zeroN_spec hz
    obtain ⟨hlen, hparts⟩ := partsS_spec hp
    have hszN : szN P e = some z.length := by simp [szN, hi, hzl]
    have hrep := rep_rel (toCellL_rel hcl ρ) hzp len
    obtain ⟨arr', k1, k2⟩ := fill_rel (fun i => some (i * z.length, z.length)) hf ps.toList _ _ l' _ (by simpa using hlen) (fun k i x hk => by
     obtain ⟨y, q1, q2⟩ := hparts k i x hk
     exact ⟨i * z.length, z.length, y, by simp [q1], rfl, q2⟩) hrep hl'
    have hl2 := k2.length
    have hll : ∀ (qs : List (Nat × Nat × Opd)) (c c' : List Cell), fillc fr c qs = some c' → c'.length = c.length := by
     intro qs
     induction qs with
     | nil => intro c c' h; simp [fillc] at h; rw [h]
     | cons q qs ih =>
      intro c c' h
      obtain ⟨o1, m1, y1⟩ := q
      simp only [fillc] at h
      split at h
      ·rw [ih _ _ h, wr_length]
      ·cases h
    have hfin : l'.length = len * z.length := by rw [hll _ _ _ hl', rep_length]
    have hst := hs.new (cs := l') (esz := z.length) (x := 0) (fun h => by omega) (c := arr') (T := e) (by simpa using hl2.symm) (fun k y hy => by
     obtain ⟨v, h1, h2⟩ := k2.get hy
     exact ⟨v, by simpa using h1, h2⟩)
    refine ⟨_, .slice (some ⟨w.heap.size, 0, none⟩) len len, _, .inl ?_, ⟨w.heap.size, 0, by simp [Emb.set], by simp⟩, hst⟩
    have hsmall : ¬ (len * z.length > 2 ^ 24) := by have := hb.1; omega
    have e2 : (Array.map (fun x => (x.1, a.eval x.2)) ps).toList = ps.toList.map fun p => (p.1, a.eval p.2) := by simp
    simp only [execOp, ho, Instr.buildSlice, Sem.run_bind, Sem.run_pure, run_underlying hu, Result.andThen_ok, sizeOf_of hszN, if_neg hsmall]
    by_cases h0 : len * z.length = 0
    ·have hzero : len = 0 := by
      rcases Nat.mul_eq_zero.1 h0 with h | h
      ·exact h
      ·omega
     subst hzero
     simp only [Nat.zero_mul] at k1
     have e3 : (Array.range 0).map (fun x => zv.cells[x % zv.cells.size]!) = #[] := by simp
     rw [e3] at k1
     simp only [Nat.zero_mul, if_true, Sem.run_bind, Sem.run_pure, Result.andThen_ok, e2]
     have e4 : (Array.range 0).map (fun x => (#[] : Array Value)[x % (#[] : Array Value).size]!) = #[] := by simp
     rw [e4, k1]
     simp [newRow]
    ·simp only [if_neg h0, Sem.run_bind, zeroValue, typeInfo, run_program, Result.andThen_ok, hi, hzv, Sem.run_pure, e2, k1]
     simp [newRow]
   ·cases hr
  ·cases hr
 ·cases hr

theorem s_mks {o : Oper} {t : TypeId} {x y : Operand} (ho : o.op = .makeSlice t x y) {r : ROp} (hr : rop P o.op = some r) {call : CallT} {v : AV} {μ' : Mem}
  (hv : aop call r fr μ = some (v, μ')) : Runs P (execOp a.eval o) F ρ μ w v μ' := by
 rw [ho] at hr
 simp only [rop] at hr
 split at hr
 ·rename_i e hu
  split at hr
  ·rename_i z inf x' y' hz hi hx hy
   simp only [Option.some.injEq] at hr; subst hr
   obtain ⟨inf', zv, hi', hzv, hcl, hzl, hzp, hzs⟩ := zeroN_spec hz
   rw [hi] at hi'
   simp only [Option.some.injEq] at hi'
   subst hi'
   simp only [aop, amks] at hv
   split at hv
   ·rename_i p q e1 e2
    split at hv
    ·rename_i hc
     obtain ⟨c1, c2, c3, c4⟩ := hc
     simp only [Option.some.injEq, Prod.mk.injEq] at hv
     obtain ⟨rfl, rfl⟩ := hv
     subst c2
     have hcx := opd_rel hx hf; rw [e1] at hcx
     have hcy := opd_rel hy hf; rw [e2] at hcy
     have h1 : a.eval x = .int .i64 p := hcx
     have h2 : a.eval y = .int .i64 p := hcy
     unfold most at c3 c4
     have hrun := run_make (P := P) w t e inf zv hu hi hzv .i64 .i64 p p c1 (Int.le_refl _) (by omega) (by omega)
     have hrep := rep_rel (toCellL_rel hcl ρ) hzp p.toNat
     have hmade : madeCells zv.cells (p.toNat * inf.size) = (Array.range (p.toNat * z.length)).map (zv.cells[· % zv.cells.size]!) := by
      rw [hzl]; rfl
     have hst := hs.new (cs := rep z p.toNat) (esz := z.length) (x := 0) (fun h => by omega) (c := madeCells zv.cells (p.toNat * inf.size)) (T := e)
      (by rw [hmade, rep_length]; simp) (fun k y hy => by
       obtain ⟨v, h1, h2⟩ := hrep.get hy
       exact ⟨v, by rw [hmade]; rw [← Array.getElem?_toList]; exact h1, h2⟩)
     refine ⟨_, .slice (some ⟨w.heap.size, 0, none⟩) p.toNat p.toNat, _, .inl ?_, ⟨w.heap.size, 0, by simp [Emb.set], by simp⟩, hst⟩
     simp only [execOp, ho, h1, h2, Sem.run_bind, hrun, Result.andThen_ok, Sem.run_pure]
    ·cases hv
   ·cases hv
  ·cases hr
 ·cases hr

theorem s_slc {o : Oper} {t : TypeId} {x : Operand} {lo hi mx : Option Operand} (ho : o.op = .slice t x lo hi mx) {r : ROp} (hr : rop P o.op = some r) {call : CallT} {v : AV} {μ' : Mem}
  (hv : aop call r fr μ = some (v, μ')) : Runs P (execOp a.eval o) F ρ μ w v μ' := by
 rw [ho] at hr
 cases mx with
 | some m => simp [rop] at hr
 | none =>
 simp only [rop] at hr
 split at hr
 ·rename_i e y hu hy
  split at hr
  ·rename_i sz hsz
   split at hr
   ·rename_i lo' hi' hlo hhi
    simp only [Option.some.injEq] at hr; subst hr
    simp only [aop, Option.map_eq_some_iff, Prod.mk.injEq] at hv
    obtain ⟨v', hv', rfl, rfl⟩ := hv
    unfold aslc at hv'
    split at hv'
    ·rename_i p len cap hp
     have hc0 := opd_rel hy hf; rw [hp] at hc0
     split at hv'
     ·cases hv'
     rename_i hpc
     have hc : match p with | none => a.eval x = .slice none len cap | some q => CRel ρ (.slc (some q) len cap) (a.eval x) := by
      cases p with
      | none =>
       refine hc0.resolve_right fun e => ?_
       exact hpc ⟨rfl, by omega⟩
      | some q => exact hc0
     -- the upper bound
     split at hv'
     ·cases hv'
     ·rename_i h hh
      split at hv'
      ·cases hv'
      ·rename_i l hl
       have hH : ∀ cap', cap ≤ cap' → (match hi.map a.eval with | some v => Instr.sliceBound v cap' .sliceAcap | none => pure len : Sem Nat).run P w = .ok h w ∧ (cap' < h → hi = none) := by
        intro cap' hcap
        cases hi with
        | none =>
         simp at hhi; subst hhi
         simp at hh; subst hh
         simp
        | some x =>
         simp only [Option.map_eq_some_iff] at hhi
         obtain ⟨x2, q1, rfl⟩ := hhi
         simp only [Option.map_some] at hh
         have hcx := opd_rel (ρ := ρ) (a := a) q1 hf
         split at hh
         ·rename_i e; cases e
         ·rename_i k hv e
          simp only [Option.some.injEq] at e
          rw [e] at hcx
          have h1 : a.eval x = .int k hv := hcx
          split at hh
          ·rename_i hb
           simp only [Option.some.injEq] at hh; subst hh
           refine ⟨?_, fun h => by omega⟩
           simp only [Option.map_some, h1]
           exact run_sliceBound w k hv cap' .sliceAcap hb.1 (by omega)
          ·cases hh
         ·cases hh
       have hL : (match lo.map a.eval with | some v => Instr.sliceBound v h .sliceB | none => pure 0 : Sem Nat).run P w = .ok l w ∧ l ≤ h := by
        cases lo with
        | none =>
         simp at hlo; subst hlo
         simp at hl; subst hl
         simp
        | some x =>
         simp only [Option.map_eq_some_iff] at hlo
         obtain ⟨x2, q1, rfl⟩ := hlo
         simp only [Option.map_some] at hl
         have hcx := opd_rel (ρ := ρ) (a := a) q1 hf
         split at hl
         ·rename_i e; cases e
         ·rename_i k hv e
          simp only [Option.some.injEq] at e
          rw [e] at hcx
          have h1 : a.eval x = .int k hv := hcx
          split at hl
          ·rename_i hb
           simp only [Option.some.injEq] at hl; subst hl
           refine ⟨?_, by omega⟩
           simp only [Option.map_some, h1]
           exact run_sliceBound w k hv h .sliceB hb.1 (by omega)
          ·cases hl
         ·cases hl
       have run : ∀ (q : Option Addr) (cap' : Nat), cap ≤ cap' → a.eval x = .slice q len cap' →
         (execOp a.eval o).run P w = .ok (.value (.slice (if cap' = l then q else q.map (·.add (l * sz))) (h - l) (cap' - l))) w := by
        intro q cap' hcap hx
        have hH' := (hH cap' hcap).1
        simp only [execOp, ho, Instr.sliceAt, Sem.run_bind, run_underlying hu, Result.andThen_ok, hx, Instr.slice, Instr.sliceBounds, Option.map_none, Sem.run_pure]
        cases hi with
        | none =>
         simp only [Option.map_none, Sem.run_pure, Result.ok.injEq, and_true] at hH'
         subst hH'
         cases lo with
         | none =>
          simp only [Option.map_none, Sem.run_pure, Result.ok.injEq, and_true] at hL
          obtain ⟨hL1, _⟩ := hL
          subst hL1
          simp [sizeOf_of hsz]
         | some lo =>
          simp only [Option.map_some] at hL
          simp [hL.1, sizeOf_of hsz]
        | some hi =>
         simp only [Option.map_some] at hH'
         cases lo with
         | none =>
          simp only [Option.map_none, Sem.run_pure, Result.ok.injEq, and_true] at hL
          obtain ⟨hL1, _⟩ := hL
          subst hL1
          simp [hH', sizeOf_of hsz]
         | some lo =>
          simp only [Option.map_some] at hL
          simp [hH', hL.1, sizeOf_of hsz]
       split at hv'
       ·rename_i hl0
        subst hl0
        simp only [Option.some.injEq] at hv'; subst hv'
        cases p with
        | none =>
         have := run none cap (Nat.le_refl _) hc
         refine Runs.still hs this ?_
         refine .inl ?_
         simp
        | some p =>
         obtain ⟨b, ex, h1, h2⟩ := hc
         have := run (some ⟨b, p.2, none⟩) (cap + ex) (by omega) h2
         refine Runs.still hs this ⟨b, ex, h1, ?_⟩
         simp [Addr.add]
       ·rename_i hl0
        cases p with
        | none => cases hv'
        | some q =>
         obtain ⟨b, o'⟩ := q
         dsimp only at hv'
         split at hv'
         ·rename_i hlt
          simp only [Option.some.injEq] at hv'; subst hv'
          obtain ⟨bb, ex, h1, h2⟩ := hc
          have := run (some ⟨bb, o', none⟩) (cap + ex) (by omega) h2
          refine Runs.still hs this ⟨bb, ex, h1, ?_⟩
          rw [if_neg (by omega)]
          simp only [Option.map_some, Addr.add_lit]
          congr 1
          omega
         ·cases hv'
    ·cases hv'
   ·cases hr
  ·cases hr
 ·rename_i m e y hu hy
  split at hr
  ·rename_i sz hsz
   simp only [Option.some.injEq] at hr; subst hr
   simp only [aop] at hv
   split at hv
   ·rename_i p hp
    split at hv
    ·rename_i ob hob
     split at hv
     ·rename_i hesz
      simp only [Option.some.injEq, Prod.mk.injEq] at hv
      obtain ⟨rfl, rfl⟩ := hv
      have hc := opd_rel hy hf; rw [hp] at hc
      obtain ⟨b, ex, h1, h2⟩ := hc
      obtain ⟨_, _, _, _, _, hx0, _⟩ := hs.obj _ ob b ex hob h1
      have hex := hx0 hesz
      subst hex
      refine Runs.still hs (v' := .slice (some ⟨b, p.2, none⟩) m m) ?_ ⟨b, 0, h1, by simp⟩
      simp [execOp, ho, Instr.sliceAt, run_underlying hu, h2, Instr.sureAddr, Instr.sliceBounds, sizeOf_of hsz, Addr.add]
     ·cases hv
    ·cases hv
   ·cases hv
  ·cases hr
 ·cases hr

end
end Go.Proofs.Ytibmnlijoeppaaa
namespace Go.Proofs.Ytibmnlijoeppaaa

section
variable {P : Program} {F : Nat → Prop} {ρ : Emb} {μ : Mem} {w : World} {n : Nat} {fr : Fr} {a : Act}

theorem LRel.one {cs : List Cell} {vs : List Value} (h : LRel (CRel ρ) cs vs) : ∀ u ∈ vs, u.oneCell' = true := by
 intro u hu
 obtain ⟨k, hk⟩ := List.getElem?_of_mem hu
 have hl := h.length
 have : ∃ c, cs[k]? = some c := by
  have : k < cs.length := by rw [hl]; exact (List.getElem?_eq_some_iff.1 hk).1
  exact ⟨_, List.getElem?_eq_getElem this⟩
 obtain ⟨c, hc⟩ := this
 obtain ⟨v', k1, k2⟩ := h.get hc
 rw [hk] at k1
 simp only [Option.some.injEq] at k1
 subst k1
 exact k2.one

theorem zeroCells_size (z : Array Value) (k : Nat) : (Builtin.zeroCells z k).size = k * z.size := size_zeroCells z k

theorem rd_all : ∀ (l : List Cell), rd l 0 l.length = some l := by
 have key : ∀ (m : List Cell) (pre : List Cell), rd (pre ++ m) pre.length m.length = some m := by
  intro m
  induction m with
  | nil => intro pre; rfl
  | cons c m ih =>
   intro pre
   have := ih (pre ++ [c])
   simp only [List.append_assoc, List.singleton_append, List.length_append, List.length_cons, List.length_nil, Nat.zero_add] at this
   simp only [List.length_cons, rd]
   rw [List.getElem?_append_right (Nat.le_refl _)]
   simp [this]
 intro l
 simpa using key l []

theorem run_grownCap_ge (w : World) (need old : Nat) (e : TypeId) : need ≤ grownCap w need old e := grownCap_ge w need old e

theorem Sim.kill (hs : Sim F ρ μ w) (i : Nat) : Sim F ρ (μ.setObj i none) w := by
 refine ⟨hs.dom, fun j o b x hj hρ => ?_, fun j k oj ok b x y hj hk hr hρj hρk => ?_, fun j o hj => ?_, hs.fb⟩
 ·simp only [Mem.setObj] at hj
  split at hj
  ·cases hj
  ·exact hs.obj j o b x hj hρ
 ·simp only [Mem.setObj] at hj hk
  split at hj
  ·cases hj
  ·split at hk
   ·cases hk
   ·exact hs.inj j k oj ok b x y hj hk hr hρj hρk
 ·simp only [Mem.setObj] at hj
  split at hj
  ·cases hj
  ·exact hs.lt j o hj

variable (hs : Sim F ρ μ w) (hf : FrRel n ρ fr a.tmps)
include hs hf

theorem s_app {o : Oper} {c : Call} (ho : o.op = .call c) (hb : c.callee = .builtin .append) {r : ROp} (hr : ropCall P c = some r) {call : CallT} {v : AV} {μ' : Mem}
  (hv : aop call r fr μ = some (v, μ')) : Runs P (execOp a.eval o) F ρ μ w v μ' := by
 obtain ⟨callee, args, argTypes⟩ := c
 simp only at hb
 subst hb
 simp only [ropCall] at hr
 split at hr
 ·rename_i s x t u e1 e2
  split at hr
  ·rename_i e e' s' x' hut huu hsd hxd
   split at hr
   ·rename_i z inf hz hi
    simp only [Option.some.injEq] at hr; subst hr
    obtain ⟨inf', zv, hi', hzv, hcl, hzl, hzp, hzs⟩ := zeroN_spec hz
    rw [hi] at hi'
    simp only [Option.some.injEq] at hi'
    subst hi'
    have ha : args = #[s, x] := Array.ext' e1
    have hat : argTypes = #[t, u] := Array.ext' e2
    subst ha; subst hat
    have hexec : ∀ vv w', (Builtin.append_ #[t, u] o.type #[a.eval s, a.eval x]).run P w = .ok vv w' → (execOp a.eval o).run P w = .ok (.value vv) w' := by
     intro vv w' h
     simp only [execOp, ho, resolve, Sem.run_bind, Sem.run_pure, Result.andThen_ok, invoke, builtin]
     simp [h]
    simp only [aop] at hv
    unfold aapp at hv
    split at hv
    ·rename_i sa len cap xb m xc es ex
     have hcs := opd_rel hsd hf; rw [es] at hcs
     have hcx := opd_rel hxd hf; rw [ex] at hcx
     split at hv
     ·cases hv
     ·rename_i new hnew
      split at hv
      ·rename_i hcond
       obtain ⟨hnl, hz0, hby, hmost⟩ := hcond
       unfold most at hby hmost
       -- what is appended, in the world
       have hsrc : ∃ news : List Value, LRel (CRel ρ) new news ∧ Src P inf.size u (a.eval x) m news w := by
        cases xb with
        | none =>
         simp only at hnew
         split at hnew
         case isFalse => cases hnew
         rename_i hxc0
         simp only [Option.some.injEq] at hnew
         subst hnew
         have hm : m = 0 := by
          simp only [List.length_nil] at hnl
          rcases Nat.mul_eq_zero.1 hnl.symm with h | h
          ·exact h
          ·omega
         subst hm
         have hx : a.eval x = .slice none 0 xc := hcx.resolve_right fun e => by omega
         rw [hx]
         exact ⟨[], trivial, Src.ofNil w huu xc⟩
        | some p =>
         obtain ⟨i, o'⟩ := p
         simp only at hnew
         split at hnew
         ·cases hnew
         ·rename_i ob hob
          obtain ⟨b, ex', h1, h2⟩ := hcx
          simp only [Option.bind_eq_some_iff] at hnew
          obtain ⟨new', hnew', hcl⟩ := hnew
          cases hcl' : clean ob.ro new' with
          | false => rw [hcl'] at hcl; cases hcl
          | true =>
          rw [hcl'] at hcl
          simp only [cond_true, Option.some.injEq] at hcl
          subst hcl
          obtain ⟨vs, k1, k2, k3⟩ := hs.cells hob h1 hnew' hcl'
          rw [h2]
          exact ⟨vs, k1, Src.ofSlice w huu ⟨b, o', none⟩ m _ vs (by rw [k2, hzl]) k3 k1.one⟩
       obtain ⟨news, hrel, hsrc⟩ := hsrc
       have hnewl := hrel.length
       -- a new block
       have grow : ∀ (base : Option Addr) (cap' : Nat) (olds : List Cell) (vols : List Value), a.eval s = .slice base len cap' → cap' < len + m → LRel (CRel ρ) olds vols → olds.length = len * z.length →
         (Builtin.firstCells inf.size len (.slice base len cap')).run P w.drew = .ok vols.toArray w.drew → ∀ μ1 : Mem, Sim F ρ μ1 w → μ1.next = μ.next →
         Runs P (execOp a.eval o) F ρ μ w (.c (.slc (some (μ.next, 0)) (len + m) (len + m))) (μ1.new (olds ++ new) z.length) := by
        intro base cap' olds vols hbase hlt hrel2 hol hfirst μ1 hs1 hnext
        have hfit : Builtin.nextslicecap (len + m) cap' * inf.bytes ≤ 281474976710656 := growslice_fits hlt (by omega)
        have hrun := run_append_grow_src (P := P) w t u o.type e inf zv hut hi hzv base len cap' vols hfirst (a.eval x) m news hsrc hlt (by omega) hfit
        have hge := grownCap_ge w (len + m) cap' e
        have hrelA := hrel2.append hrel
        have hlA := hrelA.length
        have hsize : ((vols ++ news).toArray ++ Builtin.zeroCells zv.cells (grownCap w (len + m) cap' e - (len + m))).size = (olds ++ new).length + (grownCap w (len + m) cap' e - (len + m)) * z.length := by
         simp only [Array.size_append, List.size_toArray, size_zeroCells, hzs, hlA]
        have hst := hs1.drew.new (cs := olds ++ new) (esz := z.length) (x := grownCap w (len + m) cap' e - (len + m)) (fun h => by omega)
         (c := (vols ++ news).toArray ++ Builtin.zeroCells zv.cells (grownCap w (len + m) cap' e - (len + m))) (T := e) hsize (fun k y hy => by
          obtain ⟨v, k1, k2⟩ := hrelA.get hy
          refine ⟨v, ?_, k2⟩
          have hk : k < (vols ++ news).length := (List.getElem?_eq_some_iff.1 k1).1
          rw [Array.getElem?_append_left (by simpa using hk)]
          simpa using k1)
        rw [hnext] at hst
        refine ⟨_, _, _, .inl (hexec _ _ (by rw [hbase]; exact hrun)), ⟨w.heap.size, grownCap w (len + m) cap' e - (len + m), by simp [Emb.set], ?_⟩, ⟨hst.sim, fun i hi => hst.old i (by rw [hnext]; exact hi), by have := hst.next; rw [hnext] at this; exact this, (Keeps.drew w).trans hst.keeps⟩⟩
        congr 1
        omega
       split at hv
       ·
        split at hv
        ·rename_i h0
         obtain ⟨rfl, rfl⟩ := h0
         have hx : a.eval s = .slice none 0 0 := hcs.resolve_right fun e => by omega
         split at hv
         ·rename_i hm
          subst hm
          simp only [Option.some.injEq, Prod.mk.injEq] at hv
          obtain ⟨rfl, rfl⟩ := hv
          refine Runs.still hs (v' := .slice none 0 0) (hexec _ _ ?_) (.inl rfl)
          rw [hx]
          have h1 := hsrc.len w
          have h2 := hsrc.cells
          rcases hsrc.kind with ⟨e'', hk⟩ | hk
          ·simp [Builtin.append_, run_underlying hut, run_underlying hk, sizeOf, typeInfo, hi, h1, h2]
          ·simp [Builtin.append_, run_underlying hut, run_underlying hk, sizeOf, typeInfo, hi, h1, h2]
         ·rename_i hm
          simp only [Option.some.injEq, Prod.mk.injEq] at hv
          obtain ⟨rfl, rfl⟩ := hv
          have := grow none 0 [] [] hx (by omega) trivial (by simp) (by simp [Builtin.firstCells]) μ hs rfl
          simpa using this
        ·cases hv
       ·rename_i i o'
        obtain ⟨b, ex', h1, h2⟩ := hcs
        split at hv
        ·
         rename_i hroom
         simp only [Option.map_eq_some_iff, Prod.mk.injEq] at hv
         obtain ⟨μ1, hst, rfl, rfl⟩ := hv
         obtain ⟨k1, k2, k3⟩ := hs.st h1 hrel hst
         have hrun := run_append_room_src (P := P) w t u o.type e inf hut hi b o' len (cap + ex') (a.eval x) m news hsrc (by omega)
          (fun j hj => by rw [← hzl]; exact k2 j hj) (fun j _ => by rw [← hzl]; exact k3 j)
         refine ⟨ρ, _, _, .inl (hexec _ _ (by rw [h2]; exact hrun)), ⟨b, ex', h1, rfl⟩, by rw [← hzl]; exact k1⟩
        ·rename_i hroom
         split at hv
         ·cases hv
         ·rename_i ob hob
          split at hv
          ·rename_i hc
           obtain ⟨hro, ho0, hlc, hcl2, hesz⟩ := hc
           subst ho0
           subst hlc
           simp only [Option.some.injEq, Prod.mk.injEq] at hv
           obtain ⟨rfl, rfl⟩ := hv
           obtain ⟨C, T, fz, q1, q2, q3, q4, q5⟩ := hs.obj i ob b ex' hob h1
           obtain ⟨hF, rfl⟩ := q5 hro
           by_cases hfit : len + m ≤ len + ex'
           ·
            have hfit2 : len * inf.size + news.length ≤ C.size := by
             rw [q2, hcl2, ← hnewl, hnl, hesz, ← hzl]
             have : (len + m) * z.length ≤ (len + ex') * z.length := Nat.mul_le_mul_right _ hfit
             rw [Nat.add_mul, Nat.add_mul] at this
             omega
            have hcellsome : ∀ j, j < news.length → (w.cell? ⟨b, 0 + len * inf.size + j, none⟩).isSome = true := by
             intro j hj
             rw [cell_of q1]
             rw [Array.getElem?_eq_getElem (by omega)]; rfl
            have hrun := run_append_room_src (P := P) w t u o.type e inf hut hi b 0 len (len + ex') (a.eval x) m news hsrc hfit hcellsome (fun j _ => frozen_of q1)
            obtain ⟨C', r1, r2, r3, r4, r5, r6, r7, r8⟩ := setCells_facts news w b (0 + len * inf.size) C T (0, 0) q1 (by omega)
            have hnone : ρ μ.next = none := by
             cases e : ρ μ.next with
             | none => rfl
             | some p => exact absurd (hs.dom _ p.1 p.2 e).1 (Nat.lt_irrefl _)
            have hne : ∀ j b' x', ρ j = some (b', x') → j ≠ μ.next := fun j b' x' hj => Nat.ne_of_lt (hs.dom j b' x' hj).1
            have hil : i < μ.next := hs.lt i ob hob
            have hobj : ∀ j, ((μ.setObj i none).new (ob.cells ++ new) z.length).obj j = if j = μ.next then some ⟨ob.cells ++ new, z.length, false⟩ else if j = i then none else μ.obj j := fun _ => rfl
            have hnx : ((μ.setObj i none).new (ob.cells ++ new) z.length).next = μ.next + 1 := rfl
            refine ⟨ρ.set μ.next b (len + ex' - (len + m)), _, _, .inl (hexec _ _ (by rw [h2]; exact hrun)), ⟨b, len + ex' - (len + m), by simp [Emb.set], ?_⟩, ?_⟩
            ·congr 1
             omega
            ·have hle : ρ.Le (ρ.set μ.next b (len + ex' - (len + m))) := Emb.le_set hnone
             refine ⟨⟨?_, ?_, ?_, ?_, ?_⟩, ?_, ?_, ?_⟩
             ·intro j b' x' hj
              unfold Emb.set at hj
              rw [r5, hnx]
              split at hj
              ·rename_i e; subst e
               simp only [Option.some.injEq, Prod.mk.injEq] at hj
               have := (hs.dom i b ex' h1).2
               omega
              ·have := hs.dom j b' x' hj; omega
             ·intro j oj b' x' hj hρ
              rw [hobj] at hj
              unfold Emb.set at hρ
              by_cases e : j = μ.next
              ·subst e
               rw [if_pos rfl] at hj hρ
               simp only [Option.some.injEq, Prod.mk.injEq] at hj hρ
               subst hj
               obtain ⟨rfl, rfl⟩ := hρ
               refine ⟨C', T, (0, 0), r1, ?_, fun h => by simp only at h; omega, fun k y hy => ?_, fun _ => ⟨hF, rfl⟩⟩
               ·rw [r2, q2]
                simp only [List.length_append, hcl2, hnl, hesz]
                have e1 : (len + ex' - (len + m)) * z.length + (len + m) * z.length = (len + ex') * z.length := by
                 rw [← Nat.add_mul]; congr 1; omega
                rw [Nat.add_mul len, Nat.add_mul len] at e1
                omega
               ·simp only at hy
                rw [r3, ← hzl]
                by_cases e : k < ob.cells.length
                ·rw [List.getElem?_append_left e] at hy
                 rw [if_neg (by omega)]
                 obtain ⟨v, k1, k2⟩ := (q4 k y hy).resolve_left fun e => by rw [hro] at e; cases e.1
                 exact .inr ⟨v, k1, k2.mono hle⟩
                ·rw [List.getElem?_append_right (by omega)] at hy
                 have hk : k - ob.cells.length < new.length := (List.getElem?_eq_some_iff.1 hy).1
                 rw [if_pos (by omega)]
                 obtain ⟨v, k1, k2⟩ := hrel.get hy
                 refine .inr ⟨v, ?_, k2.mono hle⟩
                 rw [← k1]
                 congr 1
                 omega
              ·rw [if_neg e] at hj hρ
               by_cases e' : j = i
               ·subst e'; simp at hj
               ·rw [if_neg e'] at hj
                have hbb : b' ≠ b := fun e2 => e' (hs.inj i j ob oj b ex' x' hob hj hro h1 (e2 ▸ hρ)).symm
                rw [r4 b' hbb]
                obtain ⟨c', T', fz, t1, t2, t3, t4, t5⟩ := hs.obj j oj b' x' hj hρ
                exact ⟨c', T', fz, t1, t2, t3, fun k y hy => (t4 k y hy).imp_right fun ⟨v, k1, k2⟩ => ⟨v, k1, k2.mono hle⟩, t5⟩
             ·intro j k oj ok b' x' y' hj hk hr hρj hρk
              rw [hobj] at hj hk
              unfold Emb.set at hρj hρk
              by_cases e : j = μ.next
              ·subst e
               by_cases e2 : k = μ.next
               ·exact e2.symm
               ·rw [if_pos rfl] at hρj
                rw [if_neg e2] at hρk hk
                simp only [Option.some.injEq, Prod.mk.injEq] at hρj
                obtain ⟨rfl, rfl⟩ := hρj
                by_cases e3 : k = i
                ·subst e3; simp at hk
                ·rw [if_neg e3] at hk
                 exact absurd (hs.inj i k ob ok b ex' y' hob hk hro h1 hρk).symm e3
              ·rw [if_neg e] at hρj hj
               by_cases e1 : j = i
               ·subst e1; simp at hj
               ·rw [if_neg e1] at hj
                by_cases e2 : k = μ.next
                ·subst e2
                 rw [if_pos rfl] at hρk
                 simp only [Option.some.injEq, Prod.mk.injEq] at hρk
                 obtain ⟨rfl, rfl⟩ := hρk
                 exact absurd (hs.inj j i oj ob b x' ex' hj hob hr hρj h1) e1
                ·rw [if_neg e2] at hρk hk
                 by_cases e3 : k = i
                 ·subst e3; simp at hk
                 ·rw [if_neg e3] at hk
                  exact hs.inj j k oj ok b' x' y' hj hk hr hρj hρk
             ·intro j oj hj
              rw [hobj] at hj
              rw [hnx]
              by_cases e : j = μ.next
              ·omega
              ·rw [if_neg e] at hj
               by_cases e1 : j = i
               ·omega
               ·rw [if_neg e1] at hj
                have := hs.lt j oj hj; omega
             ·intro b' hb'; rw [r5]; exact hs.fb b' hb'
             ·intro j hj
              unfold Emb.set
              rw [if_neg (Nat.ne_of_lt hj)]
             ·rw [hnx]; exact Nat.le_succ _
             ·exact ⟨r6, r7, r8, by rw [r5]; exact Nat.le_refl _, fun b' hb' => r4 b' (fun e => hF (e ▸ hb'))⟩
           ·
            have hrd : rd ob.cells 0 (len * z.length) = some ob.cells := by rw [← hcl2]; exact rd_all _
            obtain ⟨vs, k1, k2, k3⟩ := hs.cells hob h1 hrd (by rw [hro]; rfl)
            have hfirst : (Builtin.firstCells inf.size len (.slice (some ⟨b, 0, none⟩) len (len + ex'))).run P w.drew = .ok vs.toArray w.drew := by
             exact run_firstCells_some (P := P) w.drew inf.size len ⟨b, 0, none⟩ len (len + ex') vs (by rw [k2, hzl]) k3
            exact grow (some ⟨b, 0, none⟩) (len + ex') ob.cells vs h2 (by omega) k1 hcl2 hfirst (μ.setObj i none) (hs.kill i) rfl
          ·cases hv
      ·cases hv
    ·cases hv
   ·cases hr
  ·cases hr
 ·cases hr

/-- Every operation that is no call. -/
theorem s_op {o : Oper} {r : ROp} (hr : rop P o.op = some r) (hnc : ∀ f l, r ≠ .call f l) (hnv : ∀ f l, r ≠ .callv f l) {call : CallT} {v : AV} {μ' : Mem} (hv : aop call r fr μ = some (v, μ')) :
  Runs P (execOp a.eval o) F ρ μ w v μ' := by
 cases ho : o.op with
 | move x => exact s_move hs hf (.inl ho) hr hv
 | assign x => exact s_move hs hf (.inr ho) hr hv
 | pick c x y => exact s_pick hs hf ho hr hv
 | alloc t =>
  rw [ho] at hr
  simp only [rop, Option.map_eq_some_iff] at hr
  obtain ⟨z, hz, rfl⟩ := hr
  simp only [aop, Option.some.injEq, Prod.mk.injEq] at hv
  obtain ⟨rfl, rfl⟩ := hv
  exact s_alc hs ho hz
 | box t x => exact s_box hs hf ho hr hv
 | build t ps => exact s_build hs hf ho hr hv
 | buildSlice t l ps => exact s_bsl hs hf ho hr hv
 | load t x => exact s_ld hs hf ho hr hv
 | store t x y => exact s_st hs hf ho hr hv
 | nilCheck x => exact s_nc hs hf ho hr hv
 | binOp op t x y u => exact s_bin hs hf ho hr hv
 | unOp op t x => cases op <;> first | exact s_not hs hf ho hr hv | (rw [ho] at hr; simp [rop] at hr)
 | convert t u x => exact s_conv hs hf ho hr hv
 | makeFunc fn f c => exact s_mkf hs hf ho hr hv
 | makeSlice t x y => exact s_mks hs hf ho hr hv
 | slice t x l h m => exact s_slc hs hf ho hr hv
 | fieldAddr s x f => exact s_fa hs hf ho hr hv
 | field t x f => exact s_fld hs hf ho hr hv
 | indexAddr t x i => exact s_idx hs hf ho hr hv
 | extract x i => exact s_ext hs hf ho hr hv
 | call c =>
  have hr' : ropCall P c = some r := by rw [ho] at hr; exact hr
  cases hcal : c.callee with
  | builtin b =>
   cases b <;> first
    | exact s_len hs hf ho hcal hr' hv
    | exact s_app hs hf ho hcal hr' hv
    | (unfold ropCall at hr'; rw [hcal] at hr'; cases hr')
  | value x =>
   exfalso
   unfold ropCall at hr'
   rw [hcal] at hr'
   cases x <;> simp only at hr'
   case func f =>
    split at hr'
    ·simp only [Option.map_eq_some_iff] at hr'
     obtain ⟨l, _, rfl⟩ := hr'
     exact hnc _ _ rfl
    ·cases hr'
   all_goals
    split at hr'
    ·simp only [Option.some.injEq] at hr'; subst hr'
     exact hnv _ _ rfl
    ·cases hr'
  | invoke x m => unfold ropCall at hr'; rw [hcal] at hr'; cases hr'
 | _ => rw [ho] at hr; simp [rop] at hr

end
end Go.Proofs.Ytibmnlijoeppaaa
