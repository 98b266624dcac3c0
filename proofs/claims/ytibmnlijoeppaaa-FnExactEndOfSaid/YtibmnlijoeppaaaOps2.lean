/-
  The operations that reckon, compare, read, write or make memory do in the world what they do in the abstract memory.
-/
import Derived.Test.YtibmnlijoeppaaaOps
namespace Go.Proofs.Ytibmnlijoeppaaa

section
variable {P : Program} {F : Nat → Prop} {ρ : Emb} {μ : Mem} {w : World} {n : Nat} {fr : Fr} {a : Act}

theorem eqGuard_ints (op : BinOp) (t : TypeId) (x y : Operand) (k k' : IntKind) (a b : Int) : eqGuard op t x y (.int k a) (.int k' b) = pure () := by
  cases op <;> rfl

theorem run_abin {op : BinOp} {k k' : IntKind} {x y : Int} {c : Cell} (h : abin op k x y = some c) (hk : k = k' ∨ op = .shr) (t : TypeId) (ρ : Emb) :
    ∃ v, (binOp op t (.int k x) (.int k' y)).run P w = .ok v w ∧ CRel ρ c v := by
  cases op <;> simp only [abin] at h <;> try (cases h; done)
  case shr =>
    split at h
    · cases h
    · rename_i h0
      simp only [Option.some.injEq] at h; subst h
      exact ⟨_, by simp [binOp, Op.shift, h0], rfl⟩
  all_goals (simp only [reduceCtorEq, or_false] at hk; subst hk)
  case rem =>
    split at h
    · cases h
    · rename_i h0
      simp only [Option.some.injEq] at h; subst h
      exact ⟨_, by simp [binOp, Op.intDiv, h0], rfl⟩
  all_goals (simp only [Option.some.injEq] at h; subst h)
  case and => exact ⟨_, by simp [binOp, Op.intBits], rfl⟩
  all_goals exact ⟨_, by simp [binOp, Op.intArith, Op.intCmp], rfl⟩

theorem eqFields_ints (d : Nat) (vx vy : Array Value) : ∀ (fs : List Field) (k : Nat) (sx sy : List Cell) (b : Bool), intFields P fs k = true → sx.length = fs.length → sy.length = fs.length →
    (∀ (j : Nat) (c : Cell), sx[j]? = some c → ∃ v, vx[k + j]? = some v ∧ CRel ρ c v) → (∀ (j : Nat) (c : Cell), sy[j]? = some c → ∃ v, vy[k + j]? = some v ∧ CRel ρ c v) →
    eqInts sx sy = some b → (Op.eqFields (d + 1) vx vy fs).run P w = .ok b w
  | [], k, sx, sy, b, _, hx, hy, _, _, h => by
    have h1 : sx = [] := List.eq_nil_of_length_eq_zero (by simpa using hx)
    have h2 : sy = [] := List.eq_nil_of_length_eq_zero (by simpa using hy)
    subst h1; subst h2
    simp only [eqInts, Option.some.injEq] at h
    subst h
    rfl
  | f :: fs, k, [], sy, b, _, hx, hy, _, _, h => by simp at hx
  | f :: fs, k, x :: sx, [], b, _, hx, hy, _, _, h => by simp at hy
  | f :: fs, k, x :: sx, y :: sy, b, hi, hx, hy, rx, ry, h => by
    simp only [intFields, intField, Bool.and_eq_true, beq_iff_eq, bne_iff_ne, ne_eq] at hi
    obtain ⟨⟨⟨h1, h2⟩, h3⟩, h4⟩ := hi
    obtain ⟨v, hv, cv⟩ := rx 0 x rfl
    obtain ⟨u, hu, cu⟩ := ry 0 y rfl
    simp only [Nat.add_zero] at hv hu
    have hint : ∃ kk, P.underlying f.type = some (.int kk) := by
      split at h3
      · rename_i kk e; exact ⟨kk, e⟩
      · cases h3
    obtain ⟨kk, hkk⟩ := hint
    unfold eqInts at h
    split at h
    · rename_i e _; cases e
    · rename_i k1 a1 xs k2 b1 ys e1 e2
      simp only [List.cons.injEq] at e1 e2
      obtain ⟨rfl, rfl⟩ := e1
      obtain ⟨rfl, rfl⟩ := e2
      have cv' : v = .int k1 a1 := cv
      have cu' : u = .int k2 b1 := cu
      subst cv'; subst cu'
      have hag : (isAgg f.type).run P w = .ok false w := by simp [isAgg, run_underlying hkk]
      have hpx : (part f.type vx f.offset).run P w = .ok (.int k1 a1) w := by simp [part, hag, h1, hv]
      have hpy : (part f.type vy f.offset).run P w = .ok (.int k2 b1) w := by simp [part, hag, h1, hu]
      split at h
      · rename_i hk; subst hk
        have he := run_equalIn_int (P := P) w d f.type k1 kk a1 b1 hkk
        simp only [Op.eqFields, ne_eq, h2, not_false_eq_true, if_true, Sem.run_bind, hpx, hpy, Result.andThen_ok, he]
        split at h
        · rename_i e; subst e
          simp only [beq_self_eq_true, Bool.not_true, Bool.false_eq_true, if_false]
          exact eqFields_ints d vx vy fs (k + 1) sx sy b h4 (by simpa using hx) (by simpa using hy)
            (fun j c hc => by have := rx (j + 1) c (by simpa using hc); rwa [show k + (j + 1) = k + 1 + j by omega] at this)
            (fun j c hc => by have := ry (j + 1) c (by simpa using hc); rwa [show k + (j + 1) = k + 1 + j by omega] at this) h
        · rename_i e
          simp only [Option.some.injEq] at h; subst h
          have : (a1 == b1) = false := by simpa using e
          simp [this]
      · cases h
    · cases h

theorem run_eq_of {t : TypeId} {x y : Value} {b : Bool} (neg : Bool) (o1 o2 : Operand) (hg : ∀ op, eqGuard op t o1 o2 x y = pure ()) (h1 : binOp .eql t x y = (do pure (.bool (← Op.equal t x y))))
    (h2 : binOp .neq t x y = (do pure (.bool (!(← Op.equal t x y))))) (he : (Op.equalIn (9999 + 1) t x y).run P w = .ok b w) :
    ((do eqGuard (bif neg then .neq else .eql) t o1 o2 x y; binOp (bif neg then .neq else .eql) t x y) : Sem Value).run P w = .ok (.bool (bif neg then !b else b)) w := by
  have he' : (Op.equal t x y).run P w = .ok b w := he
  cases neg
  · simp only [cond_false, hg, h1, Sem.run_bind, Sem.run_pure, Result.andThen_ok, he']
  · simp only [cond_true, hg, h2, Sem.run_bind, Sem.run_pure, Result.andThen_ok, he']

theorem eqIn_ptr (d : Nat) {t e : TypeId} (hu : P.underlying t = some (.pointer e)) (q : Option Addr) : (Op.equalIn (d + 1) t (.pointer none) (.pointer q)).run P w = .ok q.isNone w := by
  simp [Op.equalIn, run_underlying hu]
theorem eqIn_ptr' (d : Nat) {t e : TypeId} (hu : P.underlying t = some (.pointer e)) (q : Addr) : (Op.equalIn (d + 1) t (.pointer (some q)) (.pointer none)).run P w = .ok false w := by
  simp [Op.equalIn, run_underlying hu]
theorem eqIn_fn (d : Nat) {t : TypeId} {e f : Array TypeId} {g : Bool} (hu : P.underlying t = some (.func e f g)) : (Op.equalIn (d + 1) t .nilFunc .nilFunc).run P w = .ok true w := by
  simp [Op.equalIn, run_underlying hu]
theorem eqIn_fn' (d : Nat) {t : TypeId} {e f : Array TypeId} {g : Bool} (hu : P.underlying t = some (.func e f g)) (x : Fn) (y z : Array Value) :
    (Op.equalIn (d + 1) t (.func x y z) .nilFunc).run P w = .ok false w := by
  simp [Op.equalIn, run_underlying hu]

theorem run_aeq {t : TypeId} {k : EqK} (hk : eqN P t = some k) {x y : AV} {b : Bool} (h : aeq k x y = some b) {vx vy : Value} (hx : AVRel ρ x vx) (hy : AVRel ρ y vy) (neg : Bool) (o1 o2 : Operand) :
    ((do eqGuard (bif neg then .neq else .eql) t o1 o2 vx vy; binOp (bif neg then .neq else .eql) t vx vy) : Sem Value).run P w = .ok (.bool (bif neg then !b else b)) w := by
  unfold eqN at hk
  cases hu : P.underlying t with
  | none => rw [hu] at hk; cases hk
  | some d =>
    rw [hu] at hk
    unfold aeq at h
    split at h
    · rename_i p q
      have hx' : vx = .bool p := hx
      have hy' : vy = .bool q := hy
      subst hx'; subst hy'
      simp only [Option.some.injEq] at h; subst h
      have hd : d = .bool := by
        cases d <;> simp at hk <;> first | rfl | (split at hk <;> cases hk)
      subst hd
      exact run_eq_of neg o1 o2 (fun op => by cases op <;> rfl) rfl rfl (run_equalIn_bool' (P := P) w 9999 t p q hu)
    · rename_i q
      have hx' : vx = .pointer none := hx
      subst hx'
      have hd : ∃ e, d = .pointer e := by
        cases d <;> simp at hk <;> first | exact ⟨_, rfl⟩ | (split at hk <;> cases hk)
      obtain ⟨e, rfl⟩ := hd
      simp only [Option.some.injEq] at h; subst h
      cases q with
      | none =>
        have hy' : vy = .pointer none := hy
        subst hy'
        exact run_eq_of neg o1 o2 (fun op => by cases op <;> rfl) rfl rfl (eqIn_ptr 9999 hu _)
      | some q =>
        obtain ⟨bb, xx, _, hy'⟩ := hy
        subst hy'
        exact run_eq_of neg o1 o2 (fun op => by cases op <;> rfl) rfl rfl (eqIn_ptr 9999 hu _)
    · rename_i p
      obtain ⟨bb, xx, _, hx'⟩ := hx
      subst hx'
      have hy' : vy = .pointer none := hy
      subst hy'
      have hd : ∃ e, d = .pointer e := by
        cases d <;> simp at hk <;> first | exact ⟨_, rfl⟩ | (split at hk <;> cases hk)
      obtain ⟨e, rfl⟩ := hd
      simp only [Option.some.injEq] at h; subst h
      exact run_eq_of neg o1 o2 (fun op => by cases op <;> rfl) rfl rfl (eqIn_ptr' 9999 hu _)
    · have hx' : vx = .nilFunc := hx
      have hy' : vy = .nilFunc := hy
      subst hx'; subst hy'
      have hd : ∃ e f g, d = .func e f g := by
        cases d <;> simp at hk <;> first | exact ⟨_, _, _, rfl⟩ | (split at hk <;> cases hk)
      obtain ⟨e, f, g, rfl⟩ := hd
      simp only [Option.some.injEq] at h; subst h
      exact run_eq_of neg o1 o2 (fun op => by cases op <;> rfl) rfl rfl (eqIn_fn 9999 hu)
    · obtain ⟨vs, hx', _⟩ := hx
      have hy' : vy = .nilFunc := hy
      subst hx'; subst hy'
      have hd : ∃ e f g, d = .func e f g := by
        cases d <;> simp at hk <;> first | exact ⟨_, _, _, rfl⟩ | (split at hk <;> cases hk)
      obtain ⟨e, f, g, rfl⟩ := hd
      simp only [Option.some.injEq] at h; subst h
      exact run_eq_of neg o1 o2 (fun op => by cases op <;> rfl) rfl rfl (eqIn_fn' 9999 hu _ _ _)
    · rename_i m xs ys
      obtain ⟨vs, rfl, hvs⟩ := hx
      obtain ⟨us, rfl, hus⟩ := hy
      split at h
      · rename_i hl
        cases d <;> simp at hk
        rename_i fs
        obtain ⟨⟨⟨hk1, hk2⟩, hk3⟩, hk4⟩ := hk
        have hst : P.underlying t = some (.struct (P.fieldsOf t)) := by simp [Program.fieldsOf, hu]
        have hfs : P.fieldsOf t = fs := by simp [Program.fieldsOf, hu]
        have he := eqFields_ints (P := P) (ρ := ρ) (w := w) 9998 vs.toArray us.toArray fs.toList 0 xs ys b hk1 (by simp [hl.1, hk4]) (by simp [hl.2, hk4])
          (fun j c hc => by simpa using hvs.get hc) (fun j c hc => by simpa using hus.get hc) h
        have hr := run_equalIn_struct (P := P) w 9999 t vs.toArray us.toArray hst hk2
        rw [hfs] at hr
        rw [he] at hr
        have hg := fun op => run_eqGuard_agg (P := P) w op t o1 o2 vs.toArray us.toArray hk3
        cases neg
        · simp only [Sem.run_bind, cond_false, hg, Result.andThen_ok, run_eql_struct, hr]
        · simp only [Sem.run_bind, cond_true, hg, Result.andThen_ok, run_neq_struct, hr]
      · cases h
    · cases h

variable (hs : Sim F ρ μ w) (hf : FrRel n ρ fr a.tmps)
include hs hf

theorem s_bin {o : Oper} {op : BinOp} {t u : TypeId} {x y : Operand} (ho : o.op = .binOp op t x y u) {r : ROp} (hr : rop P o.op = some r) {call : CallT} {v : AV} {μ' : Mem}
    (hv : aop call r fr μ = some (v, μ')) : Runs P (execOp a.eval o) F ρ μ w v μ' := by
  rw [ho] at hr
  simp only [rop] at hr
  split at hr
  · rename_i x' y' kk hx hy hu
    simp only [Option.some.injEq] at hr; subst hr
    simp only [aop] at hv
    split at hv
    · rename_i k p k' q e1 e2
      split at hv
      · rename_i hkk
        simp only [Option.map_eq_some_iff, Prod.mk.injEq] at hv
        obtain ⟨c, hc, rfl, rfl⟩ := hv
        have hcx := opd_rel hx hf; rw [e1] at hcx
        have hcy := opd_rel hy hf; rw [e2] at hcy
        have h1 : a.eval x = .int k p := hcx
        have h2 : a.eval y = .int k' q := hcy
        obtain ⟨v', h3, h4⟩ := run_abin (P := P) (w := w) hc hkk t ρ
        refine Runs.still hs (v' := v') ?_ h4
        simp only [execOp, ho, h1, h2, eqGuard_ints, Sem.run_bind, Sem.run_pure, Result.andThen_ok, h3]
      · cases hv
    · cases hv
  · rename_i x' y' d hnint hx hy hu
    have key : ∀ (neg : Bool) (m : EqK), eqN P t = some m → op = (bif neg then .neq else .eql) → aop call (.eq neg m x' y') fr μ = some (v, μ') → Runs P (execOp a.eval o) F ρ μ w v μ' := by
      intro neg m hm hop hv
      subst hop
      simp only [aop, Option.map_eq_some_iff, Prod.mk.injEq] at hv
      obtain ⟨b, hb, rfl, rfl⟩ := hv
      have := run_aeq (P := P) (w := w) hm hb (opd_rel hx hf) (opd_rel hy hf) neg x y
      refine Runs.still hs (v' := .bool (bif neg then !b else b)) ?_ rfl
      simp only [execOp, ho]
      rw [Sem.run_bind, this]
      rfl
    split at hr
    · rename_i m hm
      simp only [Option.some.injEq] at hr; subst hr
      exact key false m hm rfl hv
    · rename_i m hm
      simp only [Option.some.injEq] at hr; subst hr
      exact key true m hm rfl hv
    · cases hr
  · cases hr

theorem s_ld {o : Oper} {t : TypeId} {x : Operand} (ho : o.op = .load t x) {r : ROp} (hr : rop P o.op = some r) {call : CallT} {v : AV} {μ' : Mem}
    (hv : aop call r fr μ = some (v, μ')) : Runs P (execOp a.eval o) F ρ μ w v μ' := by
  rw [ho] at hr
  simp only [rop] at hr
  split at hr
  · rename_i m y hm hy
    simp only [Option.some.injEq] at hr; subst hr
    simp only [aop] at hv
    split at hv
    · rename_i i o' e1
      simp only [Option.map_eq_some_iff, Prod.mk.injEq] at hv
      obtain ⟨c, hc, rfl, rfl⟩ := hv
      have hcx := opd_rel hy hf; rw [e1] at hcx
      obtain ⟨b, e, h1, h2⟩ := hcx
      obtain ⟨v', h3, h4⟩ := run_loadVar_of hm hs h1 hc
      refine Runs.still hs (v' := v') ?_ h3
      simp [execOp, ho, h2, Instr.loadAt, Instr.sureAddr, h4]
    · cases hv
  · cases hr

theorem s_st {o : Oper} {t : TypeId} {x y : Operand} (ho : o.op = .store t x y) {r : ROp} (hr : rop P o.op = some r) {call : CallT} {v : AV} {μ' : Mem}
    (hv : aop call r fr μ = some (v, μ')) : Runs P (execOp a.eval o) F ρ μ w v μ' := by
  rw [ho] at hr
  simp only [rop] at hr
  split at hr
  · rename_i m x' y' hm hx hy
    simp only [Option.some.injEq] at hr; subst hr
    simp only [aop] at hv
    split at hv
    · rename_i i o' e1
      split at hv
      · rename_i hc
        simp only [Option.map_eq_some_iff, Prod.mk.injEq] at hv
        obtain ⟨μ1, hst, rfl, rfl⟩ := hv
        have hcx := opd_rel hx hf; rw [e1] at hcx
        have hcy := (opd_rel (ρ := ρ) (a := a) hy hf).cells hc.1
        obtain ⟨b, e, h1, h2⟩ := hcx
        obtain ⟨h3, h4, h5⟩ := hs.st h1 hcy hst
        have hl := hcy.length
        refine ⟨ρ, undef, _, .inr ⟨?_, rfl⟩, AVRel.undef ρ, h3⟩
        have hone : ∀ v ∈ (a.eval y).cells.toList, v.oneCell' = true := by
          intro v hv
          obtain ⟨k, hk⟩ := List.getElem?_of_mem hv
          have : ∃ c, (y'.ev fr).cells[k]? = some c := by
            have : k < (y'.ev fr).cells.length := by
              rw [hl]; exact (List.getElem?_eq_some_iff.1 hk).1
            exact ⟨_, List.getElem?_eq_getElem this⟩
          obtain ⟨c, hc⟩ := this
          obtain ⟨v', k1, k2⟩ := hcy.get hc
          rw [hk] at k1
          simp only [Option.some.injEq] at k1
          subst k1
          exact k2.one
        have hrun := run_storeCells_cells (P := P) b o' (a.eval y).cells.toList 0 w (fun j hj => by simpa using h4 j hj) (fun j _ => by simpa using h5 j) hone
        have hsz : (a.eval y).cells.size = m := by
          rw [← hc.2, hl]; simp
        simp only [execOp, ho, h2, Instr.storeAt, Instr.sureAddr, Sem.run_bind, Sem.run_pure, Result.andThen_ok, storeVar, sizeOf_of hm, hsz, ne_eq, not_true_eq_false, if_false]
        rw [hrun]
        rfl
      · cases hv
    · cases hv
  · cases hr

end
end Go.Proofs.Ytibmnlijoeppaaa
