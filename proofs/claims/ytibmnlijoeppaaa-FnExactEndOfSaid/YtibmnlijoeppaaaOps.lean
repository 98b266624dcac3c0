/-
  Each resolved operation that is no call does in the world what it does in the abstract memory.
-/
import Derived.Test.YtibmnlijoeppaaaSim
namespace Go.Proofs.Ytibmnlijoeppaaa

def FrRel (n : Nat) (ρ : Emb) (fr : Fr) (tmps : Array Value) : Prop := tmps.size = n ∧ ∀ t, AVRel ρ (fr t) (tmps.getD t undef)

theorem FrRel.mono {n : Nat} {ρ ρ' : Emb} {fr : Fr} {tmps : Array Value} (h : FrRel n ρ fr tmps) (hl : ρ.Le ρ') : FrRel n ρ' fr tmps := ⟨h.1, fun t => (h.2 t).mono hl⟩

theorem FrRel.put {n : Nat} {ρ : Emb} {fr : Fr} {a : Act} (h : FrRel n ρ fr a.tmps) {d : Option Nat} (hd : ∀ t, d = some t → t < n) {v : AV} {v' : Value} (hv : AVRel ρ v v') :
    FrRel n ρ (fr.put d v) (a.put d v').tmps := by
  cases d with
  | none => exact h
  | some d =>
    have hn := hd d rfl
    refine ⟨by simp [Act.put, h.1], fun t => ?_⟩
    simp only [Act.put, Fr.put, Fr.set]
    by_cases e : t = d
    · subst e
      rw [if_pos rfl]
      simp [h.1, hn, hv]
    · rw [if_neg e]
      have := h.2 t
      simp only [Array.getD_eq_getD_getElem?] at this ⊢
      rwa [Array.getElem?_setIfInBounds_ne (Ne.symm e)]

theorem toCell_rel {v : Value} {c : Cell} (h : toCell v = some c) (ρ : Emb) : CRel ρ c v := by
  unfold toCell at h
  split at h <;> simp at h <;> subst h <;> first | rfl | exact .inl rfl

theorem toCellL_rel : ∀ {vs : List Value} {l : List Cell}, toCellL vs = some l → ∀ ρ : Emb, LRel (CRel ρ) l vs
  | [], _, h, _ => by simp [toCellL] at h; subst h; trivial
  | v :: vs, l, h, ρ => by
    unfold toCellL at h
    split at h
    · rename_i c cs h1 h2
      simp at h; subst h
      exact ⟨toCell_rel h1 ρ, toCellL_rel h2 ρ⟩
    · cases h

section
variable {P : Program} {F : Nat → Prop} {ρ : Emb} {μ : Mem} {w : World} {n : Nat} {fr : Fr} {a : Act}

theorem opd_rel {x : Operand} {y : Opd} (h : opd x = some y) (hf : FrRel n ρ fr a.tmps) : AVRel ρ (y.ev fr) (a.eval x) := by
  cases x with
  | tmp t => simp [opd] at h; subst h; exact hf.2 t
  | const v =>
    simp only [opd, Option.map_eq_some_iff] at h
    obtain ⟨c, h1, rfl⟩ := h
    exact toCell_rel h1 ρ
  | _ => simp [opd] at h

theorem opds_rel : ∀ {xs : List Operand} {ys : List Opd}, opds xs = some ys → FrRel n ρ fr a.tmps → LRel (AVRel ρ) (ys.map (Opd.ev fr)) (xs.map a.eval)
  | [], _, h, _ => by simp [opds] at h; subst h; trivial
  | x :: xs, ys, h, hf => by
    unfold opds at h
    split at h
    · rename_i y ys' h1 h2
      simp at h; subst h
      exact ⟨opd_rel h1 hf, opds_rel h2 hf⟩
    · cases h

/-- An operation comes to a value (or to none). -/
def Runs (P : Program) (s : Sem Next) (F : Nat → Prop) (ρ : Emb) (μ : Mem) (w : World) (v : AV) (μ' : Mem) : Prop :=
  ∃ ρ' v' w', (s.run P w = .ok (.value v') w' ∨ (s.run P w = .ok .skip w' ∧ v' = undef)) ∧ AVRel ρ' v v' ∧ Steps' F ρ μ w ρ' μ' w'

theorem Runs.still {s : Sem Next} {v : AV} (h : Sim F ρ μ w) {v' : Value} (hr : s.run P w = .ok (.value v') w) (hv : AVRel ρ v v') : Runs P s F ρ μ w v μ :=
  ⟨ρ, v', w, .inl hr, hv, Steps'.refl h⟩

theorem sizeOf_of {t : TypeId} {k : Nat} (h : szN P t = some k) (w : World) : (sizeOf t).run P w = .ok k w := by
  simp only [szN, Option.map_eq_some_iff] at h
  obtain ⟨i, h1, rfl⟩ := h
  simp [sizeOf, typeInfo, h1]

theorem zeroN_spec {t : TypeId} {z : List Cell} (h : zeroN P t = some z) : ∃ i v, P.info? t = some i ∧ i.zero = some v ∧ toCellL v.cells.toList = some z ∧ z.length = i.size ∧ 0 < z.length ∧ v.cells.size = z.length := by
  unfold zeroN at h
  split at h
  · rename_i i hi
    split at h
    · rename_i v hv
      split at h
      · rename_i l hl
        split at h
        · rename_i hc
          simp at h; subst h
          have := (toCellL_rel hl (fun _ => none)).length
          exact ⟨i, v, hi, hv, hl, hc.1, hc.2, by simpa using this.symm⟩
        · cases h
      · cases h
    · cases h
  · cases h

theorem fieldN_spec {t : TypeId} {f : Nat} {fd : Field} (h : fieldN P t f = some fd) : ∃ fs, P.underlying t = some (.struct fs) ∧ fs[f]? = some fd := by
  unfold fieldN at h
  split at h
  · rename_i fs hu; exact ⟨fs, hu, h⟩
  · cases h

/-! ### What only looks at slots -/

variable (hs : Sim F ρ μ w) (hf : FrRel n ρ fr a.tmps)
include hs hf

theorem s_move {o : Oper} {x : Operand} (ho : o.op = .move x ∨ o.op = .assign x) {r : ROp} (hr : rop P o.op = some r) {call : CallT} {v : AV} {μ' : Mem} (hv : aop call r fr μ = some (v, μ')) :
    Runs P (execOp a.eval o) F ρ μ w v μ' := by
  have key : ∀ y, opd x = some y → aop call (.mv y) fr μ = some (v, μ') → Runs P (pure (.value (a.eval x))) F ρ μ w v μ' := by
    intro y hy hv
    simp only [aop, Option.some.injEq, Prod.mk.injEq] at hv
    obtain ⟨rfl, rfl⟩ := hv
    exact Runs.still hs rfl (opd_rel hy hf)
  rcases ho with ho | ho <;> rw [ho] at hr <;> simp only [rop, Option.map_eq_some_iff] at hr <;> obtain ⟨y, hy, rfl⟩ := hr <;> simp only [execOp, ho] <;> exact key y hy hv

theorem s_pick {o : Oper} {c x y : Operand} (ho : o.op = .pick c x y) {r : ROp} (hr : rop P o.op = some r) {call : CallT} {v : AV} {μ' : Mem} (hv : aop call r fr μ = some (v, μ')) :
    Runs P (execOp a.eval o) F ρ μ w v μ' := by
  rw [ho] at hr
  simp only [rop] at hr
  split at hr
  · rename_i c' x' y' h1 h2 h3
    simp only [Option.some.injEq] at hr; subst hr
    simp only [aop] at hv
    split at hv
    · rename_i t ht
      simp only [Option.some.injEq, Prod.mk.injEq] at hv
      obtain ⟨rfl, rfl⟩ := hv
      have hc := opd_rel h1 hf; rw [ht] at hc
      have hc' : a.eval c = .bool t := hc
      cases t
      · exact Runs.still hs (v' := a.eval y) (by simp [execOp, ho, hc', asBool]) (opd_rel h3 hf)
      · exact Runs.still hs (v' := a.eval x) (by simp [execOp, ho, hc', asBool]) (opd_rel h2 hf)
    · cases hv
  · cases hr

theorem s_nc {o : Oper} {x : Operand} (ho : o.op = .nilCheck x) {r : ROp} (hr : rop P o.op = some r) {call : CallT} {v : AV} {μ' : Mem} (hv : aop call r fr μ = some (v, μ')) :
    Runs P (execOp a.eval o) F ρ μ w v μ' := by
  rw [ho] at hr
  simp only [rop, Option.map_eq_some_iff] at hr
  obtain ⟨y, hy, rfl⟩ := hr
  simp only [aop] at hv
  split at hv
  · rename_i p hp
    simp only [Option.some.injEq, Prod.mk.injEq] at hv
    obtain ⟨rfl, rfl⟩ := hv
    have hc := opd_rel hy hf; rw [hp] at hc
    obtain ⟨b, e, h1, h2⟩ := id hc
    exact Runs.still hs (v' := a.eval x) (by simp [execOp, ho, h2]) hc
  · cases hv

theorem s_fa {o : Oper} {s : TypeId} {x : Operand} {f : Nat} (ho : o.op = .fieldAddr s x f) {r : ROp} (hr : rop P o.op = some r) {call : CallT} {v : AV} {μ' : Mem} (hv : aop call r fr μ = some (v, μ')) :
    Runs P (execOp a.eval o) F ρ μ w v μ' := by
  rw [ho] at hr
  simp only [rop] at hr
  split at hr
  · rename_i fd y h1 h2
    split at hr
    · rename_i k hk
      split at hr
      · cases hr
      · rename_i hk0
        simp only [Option.some.injEq] at hr; subst hr
        simp only [aop] at hv
        split at hv
        · rename_i i o' hp
          simp only [Option.some.injEq, Prod.mk.injEq] at hv
          obtain ⟨rfl, rfl⟩ := hv
          have hc := opd_rel h2 hf; rw [hp] at hc
          obtain ⟨b, e, h3, h4⟩ := hc
          obtain ⟨fs, h5, h6⟩ := fieldN_spec h1
          refine Runs.still hs (v' := .pointer (some ⟨b, o' + fd.offset, none⟩)) ?_ ⟨b, e, h3, rfl⟩
          simp [execOp, ho, h4, Instr.fieldAt, run_underlying h5, h6, Instr.sureAddr, fieldPlace, sizeOf_of hk, hk0, Addr.add_lit]
        · cases hv
    · cases hr
  · cases hr

theorem s_idx {o : Oper} {t : TypeId} {x i : Operand} (ho : o.op = .indexAddr t x i) {r : ROp} (hr : rop P o.op = some r) {call : CallT} {v : AV} {μ' : Mem} (hv : aop call r fr μ = some (v, μ')) :
    Runs P (execOp a.eval o) F ρ μ w v μ' := by
  rw [ho] at hr
  simp only [rop] at hr
  split at hr
  · rename_i x' i' e hx hi hu
    simp only [Option.map_eq_some_iff] at hr
    obtain ⟨k, hk, rfl⟩ := hr
    simp only [aop, Option.map_eq_some_iff] at hv
    obtain ⟨v', hv', he⟩ := hv
    simp only [Prod.mk.injEq] at he
    obtain ⟨rfl, rfl⟩ := he
    have hcx := opd_rel hx hf
    have hci := opd_rel hi hf
    unfold aidx at hv'
    split at hv'
    · rename_i b o' len cap kk j e1 e2
      rw [e1] at hcx; rw [e2] at hci
      obtain ⟨bb, ex, h3, h4⟩ := hcx
      have h5 : a.eval i = .int kk j := hci
      split at hv'
      · rename_i hb
        simp only [Option.some.injEq] at hv'; subst hv'
        refine Runs.still hs (v' := .pointer (some ⟨bb, o' + j.toNat * k, none⟩)) ?_ ⟨bb, ex, h3, rfl⟩
        simp [execOp, ho, h4, h5, Instr.indexAt, asIntOf, run_underlying hu, hb, sizeOf_of hk, Addr.add_lit]
      · cases hv'
    · cases hv'
  · rename_i x' i' len e hx hi hu
    simp only [Option.map_eq_some_iff] at hr
    obtain ⟨k, hk, rfl⟩ := hr
    simp only [aop] at hv
    have hcx := opd_rel hx hf
    have hci := opd_rel hi hf
    split at hv
    · rename_i b o' kk j e1 e2
      rw [e1] at hcx; rw [e2] at hci
      obtain ⟨bb, ex, h3, h4⟩ := hcx
      have h5 : a.eval i = .int kk j := hci
      split at hv
      · rename_i hb
        simp only [Option.some.injEq, Prod.mk.injEq] at hv
        obtain ⟨rfl, rfl⟩ := hv
        refine Runs.still hs (v' := .pointer (some ⟨bb, o' + j.toNat * k, none⟩)) ?_ ⟨bb, ex, h3, rfl⟩
        simp [execOp, ho, h4, h5, Instr.indexAt, asIntOf, run_underlying hu, hb, sizeOf_of hk, Addr.add_lit, Instr.sureAddr]
      · cases hv
    · cases hv
  · cases hr

theorem s_not {o : Oper} {t : TypeId} {x : Operand} (ho : o.op = .unOp .not t x) {r : ROp} (hr : rop P o.op = some r) {call : CallT} {v : AV} {μ' : Mem} (hv : aop call r fr μ = some (v, μ')) :
    Runs P (execOp a.eval o) F ρ μ w v μ' := by
  rw [ho] at hr
  simp only [rop, Option.map_eq_some_iff] at hr
  obtain ⟨y, hy, rfl⟩ := hr
  simp only [aop] at hv
  split at hv
  · rename_i p hp
    simp only [Option.some.injEq, Prod.mk.injEq] at hv
    obtain ⟨rfl, rfl⟩ := hv
    have hc := opd_rel hy hf; rw [hp] at hc
    have h2 : a.eval x = .bool p := hc
    exact Runs.still hs (v' := .bool (!p)) (by simp [execOp, ho, h2, Op.unary]) rfl
  · cases hv

theorem s_conv {o : Oper} {t u : TypeId} {x : Operand} (ho : o.op = .convert t u x) {r : ROp} (hr : rop P o.op = some r) {call : CallT} {v : AV} {μ' : Mem} (hv : aop call r fr μ = some (v, μ')) :
    Runs P (execOp a.eval o) F ρ μ w v μ' := by
  rw [ho] at hr
  simp only [rop] at hr
  split at hr
  · rename_i k1 k2 y hu1 hu2 hy
    simp only [Option.some.injEq] at hr; subst hr
    simp only [aop] at hv
    split at hv
    · rename_i kk m hp
      simp only [Option.some.injEq, Prod.mk.injEq] at hv
      obtain ⟨rfl, rfl⟩ := hv
      have hc := opd_rel hy hf; rw [hp] at hc
      have h2 : a.eval x = .int kk m := hc
      exact Runs.still hs (v' := .int k2 (k2.wrap m)) (by simp [execOp, ho, h2, convert, run_underlying hu1, run_underlying hu2, Conv.intToInt]) rfl
    · cases hv
  · cases hr

theorem s_ext {o : Oper} {x : Operand} {i : Nat} (ho : o.op = .extract x i) {r : ROp} (hr : rop P o.op = some r) {call : CallT} {v : AV} {μ' : Mem} (hv : aop call r fr μ = some (v, μ')) :
    Runs P (execOp a.eval o) F ρ μ w v μ' := by
  rw [ho] at hr
  simp only [rop, Option.map_eq_some_iff] at hr
  obtain ⟨y, hy, rfl⟩ := hr
  simp only [aop] at hv
  split at hv
  · rename_i l hp
    simp only [Option.map_eq_some_iff, Prod.mk.injEq] at hv
    obtain ⟨c, hc', rfl, rfl⟩ := hv
    have hc := opd_rel hy hf; rw [hp] at hc
    obtain ⟨vs, h1, h2⟩ := hc
    obtain ⟨v', h3, h4⟩ := h2.get hc'
    exact Runs.still hs (v' := v') (by simp [execOp, ho, h1, Instr.extract, h3]) h4
  · cases hv

theorem s_len {o : Oper} {c : Call} (ho : o.op = .call c) (hb : c.callee = .builtin .len) {r : ROp} (hr : ropCall P c = some r) {call : CallT} {v : AV} {μ' : Mem}
    (hv : aop call r fr μ = some (v, μ')) : Runs P (execOp a.eval o) F ρ μ w v μ' := by
  obtain ⟨callee, args, argTypes⟩ := c
  simp only at hb
  subst hb
  simp only [ropCall] at hr
  split at hr
  · rename_i x t e1 e2
    split at hr
    · rename_i e y hu hy
      simp only [Option.some.injEq] at hr; subst hr
      simp only [aop] at hv
      split at hv
      · rename_i p m c hp
        simp only [Option.some.injEq, Prod.mk.injEq] at hv
        obtain ⟨rfl, rfl⟩ := hv
        have hc := opd_rel hy hf; rw [hp] at hc
        have h2 : ∃ q c', a.eval x = .slice q m c' := by
          cases p with
          | none =>
            rcases hc with h | ⟨rfl, _, _, _, h⟩
            · exact ⟨_, _, h⟩
            · exact ⟨_, _, h⟩
          | some p => obtain ⟨_, _, _, h⟩ := hc; exact ⟨_, _, h⟩
        obtain ⟨q, c', h2⟩ := h2
        have ha : args = #[x] := Array.ext' e1
        have hat : argTypes = #[t] := Array.ext' e2
        subst ha; subst hat
        exact Runs.still hs (v' := .int .i64 m) (by simp [execOp, ho, h2, resolve, invoke, builtin, Builtin.len_, run_underlying hu, goInt]) rfl
      · cases hv
    · cases hr
  · cases hr

omit hs in
theorem toPlaces_rel : ∀ {xs : List Operand} {ys : List Opd}, opds xs = some ys → ∀ {l : List (Nat × Nat)}, toPlaces (ys.map (Opd.ev fr)) = some l → LRel (PRel ρ) l (xs.map a.eval)
  | [], _, h, l, hl => by simp [opds] at h; subst h; simp [toPlaces] at hl; subst hl; trivial
  | x :: xs, ys, h, l, hl => by
    unfold opds at h
    split at h
    · rename_i y ys' h1 h2
      simp at h; subst h
      simp only [List.map_cons] at hl
      unfold toPlaces at hl
      split at hl
      · rename_i heq; cases heq
      · rename_i p l' heq
        simp only [List.cons.injEq] at heq
        obtain ⟨e1, rfl⟩ := heq
        simp only [Option.map_eq_some_iff] at hl
        obtain ⟨l2, h3, rfl⟩ := hl
        have hc := opd_rel (ρ := ρ) (a := a) h1 hf; rw [e1] at hc
        exact ⟨hc, toPlaces_rel h2 h3⟩
      · cases hl
    · cases h

theorem s_mkf {o : Oper} {fn : Fn} {first caps : Array Operand} (ho : o.op = .makeFunc fn first caps) {r : ROp} (hr : rop P o.op = some r) {call : CallT} {v : AV} {μ' : Mem}
    (hv : aop call r fr μ = some (v, μ')) : Runs P (execOp a.eval o) F ρ μ w v μ' := by
  rw [ho] at hr
  simp only [rop] at hr
  split at hr
  · rename_i f
    split at hr
    · rename_i hg
      simp only [Option.map_eq_some_iff] at hr
      obtain ⟨l, hl, rfl⟩ := hr
      simp only [aop, Option.map_eq_some_iff, Prod.mk.injEq] at hv
      obtain ⟨ps, hps, rfl, rfl⟩ := hv
      have := toPlaces_rel hf hl hps
      have h0 : first = #[] := Array.eq_empty_of_size_eq_zero hg.2
      subst h0
      refine Runs.still hs (v' := .func (.func f) #[] (caps.map a.eval)) (by simp [execOp, ho, Instr.makeFunc]) ⟨caps.toList.map a.eval, ?_, this⟩
      rw [← Array.toList_map, Array.toArray_toList]
    · cases hr
  · cases hr

end
end Go.Proofs.Ytibmnlijoeppaaa
