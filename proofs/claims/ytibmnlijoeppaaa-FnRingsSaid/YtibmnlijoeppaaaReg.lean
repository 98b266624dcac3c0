/-
 Facts on the abstract operations alone (what they look at, what they change), and one operation of a region, a call among them, in the world.
 A region whose order is drawn: whatever order is drawn, it does in the world what one order does in the abstract memory.
 A region whose order is drawn: the induction over what has come up.
-/
import Derived.Test.YtibmnlijoeppaaaOps
namespace Go.Proofs.Ytibmnlijoeppaaa

def Mem.WF (μ : Mem) : Prop := ∀ i o, μ.obj i = some o → i < μ.next

theorem Mem.WF.new {μ : Mem} (h : μ.WF) (cs : List Cell) (e : Nat) : (μ.new cs e).WF := by
 intro i o hi
 simp only [Mem.new] at hi ⊢
 split at hi
 ·omega
 ·have := h i o hi; omega
theorem Mem.WF.kill {μ : Mem} (h : μ.WF) (j : Nat) : (μ.setObj j none).WF := by
 intro i o hi
 simp only [Mem.setObj] at hi ⊢
 split at hi
 ·cases hi
 ·exact h i o hi
theorem Mem.WF.st {μ μ' : Mem} (h : μ.WF) {i o : Nat} {cs : List Cell} (hs : μ.st i o cs = some μ') : μ'.WF ∧ μ'.next = μ.next := by
 unfold Mem.st at hs
 split at hs
 ·cases hs
 ·rename_i ob hob
  split at hs
  ·simp only [Option.some.injEq] at hs; subst hs
   refine ⟨fun j o' hj => ?_, rfl⟩
   simp only [Mem.setObj] at hj ⊢
   split at hj
   ·rename_i e; subst e; exact h j ob hob
   ·exact h j o' hj
  ·cases hs

/-- What a call must be. -/
structure CallOK (P : Program) (call : CallT) : Prop where
 go : ∀ f args μ v μ', call f args μ = some (v, μ') → goFn P f = true
 wf : ∀ f args μ v μ', call f args μ = some (v, μ') → μ.WF → μ'.WF ∧ μ.next ≤ μ'.next
 sim : ∀ f args μ v μ', call f args μ = some (v, μ') → ∀ (F : Nat → Prop) (ρ : Emb) (w : World) (cargs : List Value), Sim F ρ μ w → LRel (AVRel ρ) args cargs →
  Calls P f cargs.toArray w (fun e w' => ∃ ρ' v', e = .returned v' ∧ AVRel ρ' v v' ∧ Steps' F ρ μ w ρ' μ' w')

theorem aapp_wf {sz by_ : Nat} {s x : AV} {μ μ' : Mem} {v : AV} (h : aapp sz by_ s x μ = some (v, μ')) (hw : μ.WF) : μ'.WF ∧ μ.next ≤ μ'.next := by
 unfold aapp at h
 split at h
 ·split at h
  ·cases h
  ·split at h
   ·split at h
    ·split at h
     ·split at h
      ·simp only [Option.some.injEq, Prod.mk.injEq] at h; obtain ⟨_, rfl⟩ := h; exact ⟨hw, Nat.le_refl _⟩
      ·simp only [Option.some.injEq, Prod.mk.injEq] at h; obtain ⟨_, rfl⟩ := h; exact ⟨hw.new _ _, Nat.le_succ _⟩
     ·cases h
    ·split at h
     ·simp only [Option.map_eq_some_iff, Prod.mk.injEq] at h
      obtain ⟨μ1, h1, _, rfl⟩ := h
      have := hw.st h1
      exact ⟨this.1, by rw [this.2]; exact Nat.le_refl _⟩
     ·split at h
      ·cases h
      ·split at h
       ·simp only [Option.some.injEq, Prod.mk.injEq] at h; obtain ⟨_, rfl⟩ := h; exact ⟨(hw.kill _).new _ _, Nat.le_succ _⟩
       ·cases h
   ·cases h
 ·cases h

/-- Reading and looking change nothing; the rest keeps memory in form. -/
theorem aop_still {r : ROp} (hk : r.kd = .p ∨ r.kd = .l) {call : CallT} {fr : Fr} {μ μ' : Mem} {v : AV} (h : aop call r fr μ = some (v, μ')) : μ' = μ := by
 cases r <;> simp only [ROp.kd, reduceCtorEq, or_self, or_true, true_or] at hk <;> simp only [aop] at h <;> (repeat' split at h) <;>
  first
   | (cases h; done)
   | (simp only [Option.some.injEq, Prod.mk.injEq] at h; exact h.2.symm)
   | (simp only [Option.map_eq_some_iff, Prod.mk.injEq] at h; obtain ⟨_, _, _, rfl⟩ := h; rfl)

theorem aop_wf {P : Program} {call : CallT} (hc : CallOK P call) {r : ROp} {fr : Fr} {μ μ' : Mem} {v : AV} (h : aop call r fr μ = some (v, μ')) (hw : μ.WF) : μ'.WF ∧ μ.next ≤ μ'.next := by
 by_cases hk : r.kd = .p ∨ r.kd = .l
 ·rw [aop_still hk h]; exact ⟨hw, Nat.le_refl _⟩
 ·cases r <;> simp only [ROp.kd, reduceCtorEq, or_self, or_true, true_or, not_true_eq_false, not_false_eq_true] at hk <;> simp only [aop] at h
  case st a x n =>
   split at h
   ·split at h
    ·simp only [Option.map_eq_some_iff, Prod.mk.injEq] at h
     obtain ⟨μ1, h1, _, rfl⟩ := h
     have := hw.st h1
     exact ⟨this.1, by rw [this.2]; exact Nat.le_refl _⟩
    ·cases h
   ·cases h
  case bsl z len ps =>
   simp only [Option.map_eq_some_iff, Prod.mk.injEq] at h
   obtain ⟨l, _, _, rfl⟩ := h
   exact ⟨hw.new _ _, Nat.le_succ _⟩
  case alc z =>
   simp only [Option.some.injEq, Prod.mk.injEq] at h
   obtain ⟨_, rfl⟩ := h
   exact ⟨hw.new _ _, Nat.le_succ _⟩
  case box x n =>
   split at h
   ·simp only [Option.some.injEq, Prod.mk.injEq] at h
    obtain ⟨_, rfl⟩ := h
    exact ⟨hw.new _ _, Nat.le_succ _⟩
   ·cases h
  case mks z b l c =>
   unfold amks at h
   split at h
   ·split at h
    ·simp only [Option.some.injEq, Prod.mk.injEq] at h
     obtain ⟨_, rfl⟩ := h
     exact ⟨hw.new _ _, Nat.le_succ _⟩
    ·cases h
   ·cases h
  case app => exact aapp_wf h hw
  case call f args => exact hc.wf _ _ _ _ _ h hw
  case callv f args =>
   split at h
   ·exact hc.wf _ _ _ _ _ h hw
   ·cases h

/-- What only looks at slots does not ask memory. -/
theorem aop_p {r : ROp} (hk : r.kd = .p) {call : CallT} {fr : Fr} {μ μ' : Mem} {v : AV} (h : aop call r fr μ = some (v, μ')) (μ2 : Mem) : aop call r fr μ2 = some (v, μ2) := by
 cases r <;> simp only [ROp.kd, reduceCtorEq] at hk <;> simp only [aop] at h ⊢ <;> (repeat' split at h) <;>
  first
   | (cases h; done)
   | (simp only [Option.some.injEq, Prod.mk.injEq] at h; simp only [Option.some.injEq, Prod.mk.injEq, and_true]; exact h.1)
   | (simp only [Option.map_eq_some_iff, Prod.mk.injEq] at h; obtain ⟨x, h1, h2, _⟩ := h; simp only [h1, Option.map_some, h2])
   | skip
 all_goals simp_all

/-- New memory beside the old: what reads reads the same. -/
theorem aop_l_new {r : ROp} (hk : r.kd = .l) {call : CallT} {fr : Fr} {μ : Mem} {v : AV} (hw : μ.WF) (h : aop call r fr μ = some (v, μ)) (cs : List Cell) (e : Nat) :
  aop call r fr (μ.new cs e) = some (v, μ.new cs e) := by
 have hobj : ∀ i o, μ.obj i = some o → (μ.new cs e).obj i = some o := by
  intro i o hi
  have := hw i o hi
  simp only [Mem.new]
  rw [if_neg (by omega)]; exact hi
 cases r <;> simp only [ROp.kd, reduceCtorEq] at hk <;> simp only [aop] at h ⊢
 case ld n a =>
  split at h
  ·simp only [Option.map_eq_some_iff, Prod.mk.injEq] at h
   obtain ⟨x, h1, h2, _⟩ := h
   subst h2
   rename_i i o hev
   unfold Mem.ld at h1
   split at h1
   ·cases h1
   ·rename_i ob hob
    unfold Mem.ld
    rw [hobj _ ob hob]
    simp only [h1, Option.map_some]
  ·cases h
 case sla n x =>
  split at h
  ·rename_i a hev
   split at h
   ·rename_i ob hob
    rw [hobj a.1 ob hob]
    split at h
    ·rename_i he
     simp only [Option.some.injEq, Prod.mk.injEq, and_true] at h
     simp only [he, if_true, h]
    ·cases h
   ·cases h
  ·cases h

/-! ### What an operation looks at -/

theorem ev_congr {x : Opd} {fr fr' : Fr} (h : ∀ t ∈ x.slots, fr t = fr' t) : x.ev fr = x.ev fr' := by
 cases x with
 | t n => exact h n (by simp [Opd.slots])
 | k c => rfl

theorem evs_congr {l : List Opd} {fr fr' : Fr} (h : ∀ t ∈ l.flatMap Opd.slots, fr t = fr' t) : l.map (Opd.ev fr) = l.map (Opd.ev fr') :=
 List.map_congr_left fun x hx => ev_congr fun t ht => h t (List.mem_flatMap.2 ⟨x, hx, ht⟩)

theorem fillc_congr {fr fr' : Fr} : ∀ (l : List (Nat × Nat × Opd)) (cs : List Cell), (∀ t ∈ (l.map fun p => p.2.2).flatMap Opd.slots, fr t = fr' t) → fillc fr cs l = fillc fr' cs l
 | [], _, _ => rfl
 | (o, n, x) :: l, cs, h => by
  have h1 : x.ev fr = x.ev fr' := ev_congr fun t ht => h t (by simp [ht])
  simp only [fillc, h1]
  split
  ·exact fillc_congr l _ fun t ht => h t (by simp only [List.map_cons, List.flatMap_cons, List.mem_append]; exact .inr ht)
  ·rfl

theorem aop_congr {r : ROp} {call : CallT} {fr fr' : Fr} {μ : Mem} (h : ∀ t ∈ r.opds.flatMap Opd.slots, fr t = fr' t) : aop call r fr μ = aop call r fr' μ := by
 have e : ∀ x ∈ r.opds, x.ev fr = x.ev fr' := fun x hx => ev_congr fun t ht => h t (List.mem_flatMap.2 ⟨x, hx, ht⟩)
 cases r <;> simp only [ROp.opds, List.mem_cons, List.not_mem_nil, or_false, forall_eq_or_imp, forall_eq] at e h <;> simp only [aop]
 case bld z l => rw [fillc_congr l z h]
 case bsl z n l =>
  rw [fillc_congr (l.map fun p => (p.1 * z.length, z.length, p.2)) _ (fun t ht => h t (by simpa using ht))]
 case call f l => rw [evs_congr h]
 case mkf f l => rw [evs_congr h]
 case callv x l =>
  rw [e.1]
  have : l.map (Opd.ev fr) = l.map (Opd.ev fr') := List.map_congr_left fun y hy => e.2 y hy
  rw [this]
 case slc sz x lo hi =>
  rw [e.1]
  have h1 : lo.map (Opd.ev fr) = lo.map (Opd.ev fr') := by
   cases lo with
   | none => rfl
   | some y => simp only [Option.map_some]; rw [e.2 y (by simp)]
  have h2 : hi.map (Opd.ev fr) = hi.map (Opd.ev fr') := by
   cases hi with
   | none => rfl
   | some y => simp only [Option.map_some]; rw [e.2 y (by simp)]
  rw [h1, h2]
 all_goals simp only [e]

/-! ### One operation in the world -/

section
variable {P : Program} {F : Nat → Prop} {ρ : Emb} {μ μ' : Mem} {w : World} {n : Nat} {fr : Fr} {a : Act} {call : CallT}

theorem goFn_run {f : FuncId} (h : goFn P f = true) (args : Array Value) : (callFunc f args).run P w = .ok (.enter f args) w := by
 unfold goFn at h
 split at h
 ·rename_i fn hfn
  simp only [Bool.and_eq_true, bne_iff_ne, ne_eq] at h
  have hb : fn.body.isNone = false := by cases hbb : fn.body <;> simp_all
  simp only [callFunc, Sem.run_bind, run_program, Result.andThen_ok, hfn]
  have h1 : (fn.name == "runtime.NumGoroutine") = false := by simpa using h.1
  simp [h1, hb]
 ·cases h

theorem rop_call {op : Op} {f : Nat} {l : List Opd} (h : rop P op = some (.call f l)) : ∃ c, op = .call c ∧ c.callee = .value (.func f) ∧ opds c.args.toList = some l := by
 have h1 : ∃ c, op = .call c ∧ ropCall P c = some (.call f l) := by
  unfold rop at h
  split at h
  all_goals first
   | exact ⟨_, rfl, h⟩
   | (exfalso; (repeat' split at h) <;> simp at h)
 obtain ⟨c, hc, hr⟩ := h1
 refine ⟨c, hc, ?_⟩
 unfold ropCall at hr
 split at hr
 ·(repeat' split at hr) <;> cases hr
 ·(repeat' split at hr) <;> cases hr
 ·rename_i f' hcal
  split at hr
  ·simp only [Option.map_eq_some_iff, ROp.call.injEq] at hr
   obtain ⟨l', h3, rfl, rfl⟩ := hr
   exact ⟨hcal, h3⟩
  ·cases hr
 ·(repeat' split at hr) <;> cases hr
 ·cases hr

theorem rop_callv {op : Op} {f : Opd} {l : List Opd} (h : rop P op = some (.callv f l)) : ∃ c x, op = .call c ∧ c.callee = .value x ∧ opd x = some f ∧ opds c.args.toList = some l := by
 have h1 : ∃ c, op = .call c ∧ ropCall P c = some (.callv f l) := by
  unfold rop at h
  split at h
  all_goals first
   | exact ⟨_, rfl, h⟩
   | (exfalso; (repeat' split at h) <;> simp at h)
 obtain ⟨c, hc, hr⟩ := h1
 refine ⟨c, ?_⟩
 unfold ropCall at hr
 split at hr
 ·(repeat' split at hr) <;> cases hr
 ·(repeat' split at hr) <;> cases hr
 ·rename_i f' hcal
  split at hr
  ·simp only [Option.map_eq_some_iff, reduceCtorEq, and_false, exists_const] at hr
  ·cases hr
 ·rename_i x _ hcal
  split at hr
  ·rename_i y l' h3 h4
   simp only [Option.some.injEq, ROp.callv.injEq] at hr
   obtain ⟨rfl, rfl⟩ := hr
   exact ⟨x, hc, hcal, h3, h4⟩
  ·cases hr
 ·cases hr

theorem s_wp {o : Oper} {r : ROp} (hr : rop P o.op = some r) (hc : CallOK P call) (hs : Sim F ρ μ w) (hf : FrRel n ρ fr a.tmps) {v : AV} (hv : aop call r fr μ = some (v, μ'))
  {K : Act → World → Prop} {Q : Exit → Act → World → Prop} (hK : ∀ ρ' v' w', AVRel ρ' v v' → Steps' F ρ μ w ρ' μ' w' → K (a.put o.dst v') w') : o.wp P a w K Q := by
 by_cases h1 : ∃ f l, r = .call f l
 ·obtain ⟨f, l, rfl⟩ := h1
  simp only [aop] at hv
  have ho := rop_call hr
  obtain ⟨c, ho, hcal, hargs⟩ := ho
  have hrel := opds_rel (ρ := ρ) (a := a) hargs hf
  have hsim := hc.sim _ _ _ _ _ hv F ρ w _ hs hrel
  have hgo := hc.go _ _ _ _ _ hv
  unfold Oper.wp
  have hexec : (execOp a.eval o).run P w = .ok (.enter f (c.args.toList.map a.eval).toArray) w := by
   simp only [execOp, ho, resolve, hcal, Act.eval, Deferred.ofValue, Sem.run_bind, Sem.run_pure, Result.andThen_ok, invoke]
   have e1 : (#[] ++ Array.map a.eval c.args) ++ #[] = (c.args.toList.map a.eval).toArray := by apply Array.ext'; simp
   have := goFn_run (P := P) (w := w) hgo ((#[] ++ Array.map a.eval c.args) ++ #[])
   rw [← e1]
   exact this
  rw [hexec]
  simp only [Oper.upon]
  refine hsim.mono fun e w' ⟨ρ', v', he, hrv, hst⟩ => ?_
  subst he
  exact hK ρ' v' w' hrv hst
 ·by_cases h2 : ∃ f l, r = .callv f l
  ·obtain ⟨f, l, rfl⟩ := h2
   simp only [aop] at hv
   have ho := rop_callv hr
   obtain ⟨c, x, ho, hcal, hx, hargs⟩ := ho
   split at hv
   ·rename_i g caps hg
    have hcx := opd_rel hx hf; rw [hg] at hcx
    obtain ⟨vs, k1, k2⟩ := hcx
    have hrel := (opds_rel (ρ := ρ) (a := a) hargs hf)
    have hcaps : LRel (AVRel ρ) (caps.map fun a => AV.c (.ptr (some a))) vs := by
     clear k1 hv hg
     induction caps generalizing vs with
     | nil => cases vs with
      | nil => trivial
      | cons v vs => exact k2.elim
     | cons c cs ih => cases vs with
      | nil => exact k2.elim
      | cons v vs => exact ⟨k2.1, ih vs k2.2⟩
    have hsim := hc.sim _ _ _ _ _ hv F ρ w _ hs (hrel.append hcaps)
    have hgo := hc.go _ _ _ _ _ hv
    unfold Oper.wp
    have hexec : (execOp a.eval o).run P w = .ok (.enter g (c.args.toList.map a.eval ++ vs).toArray) w := by
     simp only [execOp, ho, resolve, hcal, k1, Deferred.ofValue, Sem.run_bind, Sem.run_pure, Result.andThen_ok, invoke]
     have e1 : (#[] ++ Array.map a.eval c.args) ++ vs.toArray = (c.args.toList.map a.eval ++ vs).toArray := by simp
     have := goFn_run (P := P) (w := w) hgo ((#[] ++ Array.map a.eval c.args) ++ vs.toArray)
     rw [← e1]
     exact this
    rw [hexec]
    simp only [Oper.upon]
    refine hsim.mono fun e w' ⟨ρ', v', he, hrv, hst⟩ => ?_
    subst he
    exact hK ρ' v' w' hrv hst
   ·cases hv
  ·obtain ⟨ρ', v', w', hrun, hrv, hst⟩ := s_op hs hf hr (fun f l e => h1 ⟨f, l, e⟩) (fun f l e => h2 ⟨f, l, e⟩) hv
   unfold Oper.wp
   rcases hrun with h | ⟨h, rfl⟩
   ·rw [h]; exact hK ρ' v' w' hrv hst
   ·rw [h]; exact hK ρ' undef w' hrv hst

/-- The guard. -/
theorem wanted_rel {ops : Array Oper} {i : Nat} {nt : Nat} {r : RI} {o : Oper} (h0 : ri0 P ops nt i = some r) (ho : ops[i]? = some o) (hf : FrRel n ρ fr a.tmps) :
  Region.wanted o (yielded ops a.tmps) = awanted r.guard fr := by
 unfold ri0 at h0
 rw [ho] at h0
 simp only at h0
 split at h0
 ·cases h0
 ·split at h0
  ·split at h0
   ·rename_i hg
    simp only [Option.some.injEq] at h0; subst h0
    simp [Region.wanted, hg, awanted]
   ·rename_i j want hg
    split at h0
    ·rename_i d hd
     simp only [Option.some.injEq] at h0; subst h0
     simp only [Region.wanted, hg, awanted, yielded, hd, Option.bind_some]
     have hr := hf.2 d
     have hget : a.tmps.getD d undef = (a.tmps[d]?).getD undef := by simp
     rw [hget] at hr
     cases ht : a.tmps[d]? with
     | none =>
      rw [ht] at hr
      simp only [Option.getD_none] at hr
      cases hfd : fr d with
      | c x =>
       rw [hfd] at hr
       have hone := CRel.one (c := x) hr
       simp [undef, Value.oneCell'] at hone
      | agg l => rfl
      | tup l => rfl
     | some v =>
      rw [ht] at hr
      simp only [Option.getD_some] at hr
      cases hfd : fr d with
      | c x =>
       rw [hfd] at hr
       cases x with
       | bool b => have : v = .bool b := hr; subst this; cases b <;> cases want <;> rfl
       | int k m => have : v = .int k m := hr; subst this; rfl
       | ptr p => cases p with
        | none => have : v = .pointer none := hr; subst this; rfl
        | some p => obtain ⟨_, _, _, h⟩ := hr; subst h; rfl
       | slc p l c => cases p with
        | none =>
         rcases hr with h | ⟨_, _, _, _, h⟩
         ·subst h; rfl
         ·subst h; rfl
        | some p => obtain ⟨_, _, _, h⟩ := hr; subst h; rfl
       | fn f caps => obtain ⟨_, h, _⟩ := hr; subst h; rfl
       | nilfn => have : v = .nilFunc := hr; subst this; rfl
      | agg l => rw [hfd] at hr; obtain ⟨vs, h, _⟩ := hr; subst h; rfl
      | tup l => rw [hfd] at hr; obtain ⟨vs, h, _⟩ := hr; subst h; rfl
    ·cases h0
  ·cases h0

theorem ri0_spec {ops : Array Oper} {i nt : Nat} {r : RI} (h0 : ri0 P ops nt i = some r) :
  ∃ o, ops[i]? = some o ∧ r.ix = i ∧ rop P o.op = some r.op ∧ r.dst = o.dst ∧ (∀ d, r.dst = some d → d < nt) ∧ r.re = [] := by
 unfold ri0 at h0
 split at h0
 ·cases h0
 ·rename_i o ho
  split at h0
  ·cases h0
  ·rename_i q hq
   split at h0
   ·rename_i hd
    have key : ∀ d, o.dst = some d → d < nt := by
     intro d e
     rw [e] at hd
     simpa [dstOk] using hd
    split at h0
    ·simp only [Option.some.injEq] at h0; subst h0
     exact ⟨o, ho, rfl, hq, rfl, key, rfl⟩
    ·split at h0
     ·simp only [Option.some.injEq] at h0; subst h0
      exact ⟨o, ho, rfl, hq, rfl, key, rfl⟩
     ·cases h0
   ·cases h0

end
end Go.Proofs.Ytibmnlijoeppaaa
namespace Go.Proofs.Ytibmnlijoeppaaa

structure Tr (call : CallT) (l : List RI) (T : Nat → Fr × Mem) (V : Nat → AV) : Prop where
 step : ∀ (k : Nat) (r : RI), l[k]? = some r →
  ((awanted r.guard (T k).1 = true ∧ aop call r.op (T k).1 (T k).2 = some (V k, (T (k + 1)).2) ∧ ∀ x ∈ r.re, x.holds (T k).1 (T (k + 1)).2 = true) ∨
   (awanted r.guard (T k).1 = false ∧ V k = .undef ∧ (T (k + 1)).2 = (T k).2)) ∧ (T (k + 1)).1 = (T k).1.put r.dst (V k)

theorem aReg_tr {call : CallT} : ∀ {l : List RI} {fr fr' : Fr} {μ μ' : Mem}, aReg call l fr μ = some (fr', μ') → ∃ T V, Tr call l T V ∧ T 0 = (fr, μ) ∧ T l.length = (fr', μ')
 | [], fr, fr', μ, μ', h => by
  simp only [aReg, Option.some.injEq, Prod.mk.injEq] at h
  obtain ⟨rfl, rfl⟩ := h
  exact ⟨fun _ => (fr, μ), fun _ => .undef, ⟨fun k r hk => by simp at hk⟩, rfl, rfl⟩
 | r :: l, fr, fr', μ, μ', h => by
  simp only [aReg] at h
  split at h
  ·cases h
  ·rename_i f1 m1 h1
   obtain ⟨T, V, ht, h0, hl⟩ := aReg_tr h
   unfold aRI at h1
   have key : ∃ v, ((awanted r.guard fr = true ∧ aop call r.op fr μ = some (v, m1) ∧ ∀ x ∈ r.re, x.holds fr m1 = true) ∨ (awanted r.guard fr = false ∧ v = .undef ∧ m1 = μ)) ∧ f1 = fr.put r.dst v := by
    cases hw : awanted r.guard fr with
    | false =>
     rw [hw] at h1
     simp only [cond_false, Option.some.injEq, Prod.mk.injEq] at h1
     exact ⟨.undef, .inr ⟨rfl, rfl, h1.2.symm⟩, h1.1.symm⟩
    | true =>
     rw [hw] at h1
     simp only [cond_true] at h1
     split at h1
     ·cases h1
     ·rename_i v m2 hv
      cases hall : r.re.all fun x => x.holds fr m2 with
      | false => rw [hall] at h1; simp at h1
      | true =>
       rw [hall] at h1
       simp only [cond_true, Option.some.injEq, Prod.mk.injEq] at h1
       obtain ⟨rfl, rfl⟩ := h1
       exact ⟨v, .inl ⟨rfl, hv, List.all_eq_true.1 hall⟩, rfl⟩
   obtain ⟨v, hv, hf1⟩ := key
   refine ⟨fun k => match k with | 0 => (fr, μ) | k + 1 => T k, fun k => match k with | 0 => v | k + 1 => V k, ⟨fun k q hk => ?_⟩, rfl, by simpa using hl⟩
   cases k with
   | zero =>
    simp only [List.getElem?_cons_zero, Option.some.injEq] at hk
    subst hk
    simp only [h0]
    exact ⟨hv, hf1⟩
   | succ k =>
    have := ht.step k q (by simpa using hk)
    exact this

theorem Act.put_defers' (a : Act) (d : Option Nat) (v : Value) : (a.put d v).defers = a.defers := by cases d <;> rfl

section
variable {P : Program} {F : Nat → Prop} {n : Nat} {call : CallT} {ops : Array Oper}

/-- A region in the order of the text. -/
theorem reg_text (hc : CallOK P call) {Q : Exit → Act → World → Prop} {fr' : Fr} {μ' : Mem} : ∀ (is : List Nat) (rs : List RI) (ρ : Emb) (μ : Mem) (w : World) (fr : Fr) (a : Act),
  ri0s P ops n is = some rs → aReg call rs fr μ = some (fr', μ') → Sim F ρ μ w → FrRel n ρ fr a.tmps → a.defers = [] →
  (∀ a' w' ρ', a'.defers = [] → Steps' F ρ μ w ρ' μ' w' → FrRel n ρ' fr' a'.tmps → Q .normal a' w') → wpOps P ops Q is a w
 | [], rs, ρ, μ, w, fr, a, hr, h, hs, hf, hd, hQ => by
  simp only [ri0s, Option.some.injEq] at hr; subst hr
  simp only [aReg, Option.some.injEq, Prod.mk.injEq] at h
  obtain ⟨rfl, rfl⟩ := h
  exact hQ a w ρ hd (Steps'.refl hs) hf
 | i :: is, rs, ρ, μ, w, fr, a, hr, h, hs, hf, hd, hQ => by
  unfold ri0s at hr
  split at hr
  ·rename_i r rs' h1 h2
   simp only [Option.some.injEq] at hr; subst hr
   obtain ⟨o, ho, hix, hrop, hdst, hdl, hre⟩ := ri0_spec h1
   simp only [aReg] at h
   split at h
   ·cases h
   ·rename_i f1 m1 e1
    rw [wpOps_cons]
    unfold wpOp
    simp only [ho]
    have hw := wanted_rel (n := n) (ρ := ρ) (fr := fr) (a := a) h1 ho hf
    rw [hw]
    unfold aRI at e1
    cases hg : awanted r.guard fr with
    | false =>
     rw [hg] at e1
     simp only [cond_false, Option.some.injEq, Prod.mk.injEq] at e1
     obtain ⟨rfl, rfl⟩ := e1
     simp only [Bool.false_eq_true, if_false]
     refine reg_text hc is rs' ρ μ w _ _ h2 h hs ?_ (by rw [Act.put_defers']; exact hd) hQ
     rw [← hdst]
     exact hf.put hdl (AVRel.undef ρ)
    | true =>
     rw [hg] at e1
     simp only [cond_true] at e1
     simp only [if_true]
     split at e1
     ·cases e1
     ·rename_i v m2 hv
      rw [hre] at e1
      simp only [List.all_nil, cond_true, Option.some.injEq, Prod.mk.injEq] at e1
      obtain ⟨rfl, rfl⟩ := e1
      refine .inl (s_wp hrop hc hs hf hv fun ρ1 v1 w1 hrv hst => ?_)
      refine reg_text hc is rs' ρ1 m2 w1 _ _ h2 h hst.sim ?_ (by rw [Act.put_defers']; exact hd) (fun a' w' ρ' q1 q2 q3 => hQ a' w' ρ' q1 (hst.trans q2) q3)
      rw [← hdst]
      exact (hf.mono (hst.le hs)).put hdl hrv
  ·cases hr

/-! ### A drawn order -/

variable {l : List RI} {bs : List (List Nat)}

def Sat (l : List RI) (listed : Array Bool) (k : Nat) : Bool := match l[k]? with | some r => listed.getD r.ix false | none => false

theorem Sat_of {listed : Array Bool} {k : Nat} {r : RI} (h : l[k]? = some r) : Sat l listed k = listed.getD r.ix false := by simp [Sat, h]

def Closed (ops : Array Oper) (l : List RI) (listed : Array Bool) : Prop :=
 ∀ (j : Nat) (r : RI), l[j]? = some r → listed.getD r.ix false = true → ∀ e ∈ edgesOf ops r.ix, listed.getD e false = true

def RI.isM (r : RI) : Prop := r.op.kd = .m ∨ r.op.kd = .n

/-- What the static check says. -/
structure OrdOK (ops : Array Oper) (l : List RI) (bs : List (List Nat)) : Prop where
 len : l.length = ops.size
 all : ∀ i, i < ops.size → ∃ (k : Nat) (r : RI), l[k]? = some r ∧ r.ix = i
 edge : ∀ (j : Nat) (r : RI), l[j]? = some r → ∀ e ∈ edgesOf ops r.ix, ∃ (p : Nat) (s : RI), l[p]? = some s ∧ s.ix = e ∧ p < j
 bef : ∀ (j : Nat) (r : RI), l[j]? = some r → ∀ i ∈ bs.getD j [], ∃ e ∈ edgesOf ops r.ix, ∃ (p : Nat) (s : RI), l[p]? = some s ∧ s.ix = e ∧ p < j ∧ (p = i ∨ i ∈ bs.getD p [])
 ne : ∀ (i j : Nat) (a b : RI), i < j → l[i]? = some a → l[j]? = some b → a.ix ≠ b.ix
 clash : ∀ (i j : Nat) (a b : RI), i < j → l[i]? = some a → l[j]? = some b → clash a b = true → i ∈ bs.getD j []
 mem : ∀ (i j : Nat) (a b : RI), i < j → l[i]? = some a → l[j]? = some b → a.isM → b.op.kd ≠ .p → i ∈ bs.getD j []
 again : ∀ (i j : Nat) (a b : RI), i < j → l[i]? = some a → l[j]? = some b → (a.op.kd = .l ∨ a.op.kd = .a) → b.op.kd = .m → i ∉ bs.getD j [] →
  ∃ x, again a b = some x ∧ x ∈ b.re ∧ ∀ (k : Nat) (c : RI), i < k → k < j → l[k]? = some c → ∀ d ∈ (match x with | .ld d _ y => d :: y.slots | .al d _ => [d]), c.dst ≠ some d

theorem ord_of (h : okOrder ops l bs = true) : OrdOK ops l bs := by
 unfold okOrder at h
 simp only [Bool.and_eq_true, beq_iff_eq] at h
 obtain ⟨⟨h1, h2⟩, h3⟩ := h
 rw [List.all_eq_true] at h2 h3
 have hlt : ∀ (j : Nat) (r : RI), l[j]? = some r → j < l.length := fun j r hj => (List.getElem?_eq_some_iff.1 hj).1
 have hj : ∀ (j : Nat) (r : RI), l[j]? = some r → (∀ e ∈ edgesOf ops r.ix, ∃ s, l[posOf l e 0]? = some s ∧ s.ix = e ∧ posOf l e 0 < j) ∧
   (∀ i ∈ bs.getD j [], ∃ e ∈ edgesOf ops r.ix, posOf l e 0 = i ∨ i ∈ bs.getD (posOf l e 0) []) ∧ ∀ i, i < j → okPair l bs i j = true := by
  intro j r hr
  have := h3 j (List.mem_range.2 (hlt j r hr))
  rw [hr] at this
  simp only [Bool.and_eq_true, List.all_eq_true, List.any_eq_true, Bool.or_eq_true, beq_iff_eq, List.contains_iff_mem] at this
  obtain ⟨⟨q1, q2⟩, q3⟩ := this
  refine ⟨fun e he => ?_, fun i hi => ?_, fun i hi => q3 i (List.mem_range.2 hi)⟩
  ·have := q1 e he
   split at this
   ·rename_i s hs
    simp only [Bool.and_eq_true, beq_iff_eq, decide_eq_true_eq] at this
    exact ⟨s, hs, this.1, this.2⟩
   ·cases this
  ·obtain ⟨e, he, h⟩ := q2 i hi
   exact ⟨e, he, h⟩
 have hp : ∀ (i j : Nat) (a b : RI), i < j → l[i]? = some a → l[j]? = some b → okPair l bs i j = true := fun i j a b hij _ hb => (hj j b hb).2.2 i hij
 refine ⟨h1, fun i hi => ?_, fun j r hr e he => ?_, fun j r hr i hi => ?_, ?_, ?_, ?_, ?_⟩
 ·have := h2 i (List.mem_range.2 hi)
  rw [List.contains_iff_mem, List.mem_map] at this
  obtain ⟨r, hr, hri⟩ := this
  obtain ⟨k, hk⟩ := List.getElem?_of_mem hr
  exact ⟨k, r, hk, hri⟩
 ·obtain ⟨s, q1, q2, q3⟩ := (hj j r hr).1 e he
  exact ⟨_, s, q1, q2, q3⟩
 ·obtain ⟨e, he, h⟩ := (hj j r hr).2.1 i hi
  obtain ⟨s, q1, q2, q3⟩ := (hj j r hr).1 e he
  exact ⟨e, he, _, s, q1, q2, q3, h⟩
 ·intro i j a b hij ha hb
  have := hp i j a b hij ha hb
  unfold okPair at this
  rw [ha, hb] at this
  simp only [Bool.and_eq_true, bne_iff_ne] at this
  exact this.1.1.1
 ·intro i j a b hij ha hb hcl
  have := hp i j a b hij ha hb
  unfold okPair at this
  rw [ha, hb] at this
  simp only [Bool.and_eq_true, Bool.or_eq_true, hcl, Bool.not_true, Bool.false_eq_true, false_or, List.contains_iff_mem] at this
  exact this.1.1.2
 ·intro i j a b hij ha hb hm hnp
  have := hp i j a b hij ha hb
  unfold okPair at this
  rw [ha, hb] at this
  simp only [Bool.and_eq_true, Bool.or_eq_true, Bool.not_eq_true', List.contains_iff_mem] at this
  rcases this.1.2 with h | h
  ·exfalso
   have h1 : (a.op.kd == Kd.m || a.op.kd == Kd.n) = true := by
    rcases hm with h | h <;> simp [h]
   have h2 : (b.op.kd != Kd.p) = true := by simpa using hnp
   rw [h1, h2] at h
   cases h
  ·exact h
 ·intro i j a b hij ha hb hk hm hn
  have := hp i j a b hij ha hb
  unfold okPair at this
  rw [ha, hb] at this
  simp only [Bool.and_eq_true] at this
  have h3 := this.2
  have hna : needsAgain a b ((bs.getD j []).contains i) = true := by
   have : (bs.getD j []).contains i = false := by
    cases e : (bs.getD j []).contains i with
    | false => rfl
    | true => exact absurd (List.contains_iff_mem.1 e) hn
   simp only [needsAgain, this, hm]
   rcases hk with h | h <;> simp [h]
  rw [hna] at h3
  simp only [Bool.not_true, Bool.false_or] at h3
  split at h3
  ·rename_i x hx
   simp only [Bool.and_eq_true, List.contains_iff_mem, List.all_eq_true, List.mem_range, Bool.or_eq_true, decide_eq_true_eq] at h3
   refine ⟨x, hx, h3.1, fun k c hik hkj hc d hd e => ?_⟩
   have := h3.2 k hkj
   rcases this with h | h
   ·omega
   ·rw [hc] at h
    simp only [Bool.not_eq_true', List.any_eq_false] at h
    have := h d (List.mem_append_left _ hd)
    simp [writes, e] at this
  ·cases h3

theorem OrdOK.befS (ho : OrdOK ops l bs) {listed : Array Bool} (hcl : Closed ops l listed) : ∀ (j : Nat) (r : RI), l[j]? = some r → Sat l listed j = true → ∀ i ∈ bs.getD j [], Sat l listed i = true := by
 intro j
 induction j using Nat.strongRecOn with
 | _ j ih =>
  intro r hr hS i hi
  obtain ⟨e, he, p, s, h1, h2, h3, h4⟩ := ho.bef j r hr i hi
  rw [Sat_of hr] at hS
  have hle := hcl j r hr hS e he
  have hSp : Sat l listed p = true := by rw [Sat_of h1, h2]; exact hle
  rcases h4 with rfl | h4
  ·exact hSp
  ·exact ih p h3 s h1 hSp i h4

/-! ### The frame behind a set of operations -/

def frS (l : List RI) (V : Nat → AV) (S : Nat → Bool) (fr0 : Fr) : Nat → Fr
 | 0 => fr0
 | k + 1 => match l[k]? with
  | some r => if S k = true then (frS l V S fr0 k).put r.dst (V k) else frS l V S fr0 k
  | none => frS l V S fr0 k

theorem put_other {fr : Fr} {d : Option Nat} {v : AV} {t : Nat} (h : d ≠ some t) : fr.put d v t = fr t := by
 cases d with
 | none => rfl
 | some d =>
  simp only [Fr.put, Fr.set]
  rw [if_neg (fun e => h (by rw [e]))]

theorem put_same {fr : Fr} {v : AV} {t : Nat} : fr.put (some t) v t = v := by simp [Fr.put, Fr.set]

/-- No operation of S from i on writes t: the frame at t is the one at i. -/
theorem frS_stay {V : Nat → AV} {S : Nat → Bool} {fr0 : Fr} {t i : Nat} : ∀ m, i ≤ m → (∀ (k : Nat) (c : RI), i ≤ k → k < m → l[k]? = some c → S k = true → c.dst ≠ some t) →
  frS l V S fr0 m t = frS l V S fr0 i t := by
 intro m
 induction m with
 | zero =>
  intro h _
  have : i = 0 := by omega
  subst this; rfl
 | succ m ih =>
  intro h hw
  by_cases e : i = m + 1
  ·subst e; rfl
  ·have := ih (by omega) fun k c h1 h2 => hw k c h1 (by omega)
   simp only [frS]
   cases hc : l[m]? with
   | none => exact this
   | some c =>
    simp only
    split
    ·rename_i hS
     rw [put_other (hw m c (by omega) (by omega) hc hS)]; exact this
    ·exact this

theorem clash_dst_looks {a b : RI} {d : Nat} (ha : a.dst = some d) (hb : d ∈ b.looks) : clash a b = true := by
 simp [clash, ha, hb]
theorem clash_looks_dst {a b : RI} {d : Nat} (ha : d ∈ a.looks) (hb : b.dst = some d) : clash a b = true := by
 simp [clash, hb, ha]
theorem clash_dst_dst {a b : RI} {d : Nat} (ha : a.dst = some d) (hb : b.dst = some d) : clash a b = true := by
 simp [clash, ha, hb]

variable {T : Nat → Fr × Mem} {V : Nat → AV}

/-- What an operation that comes up now looks at is what it looked at in the one order. -/
theorem OrdOK.reads (ho : OrdOK ops l bs) (ht : Tr call l T V) {listed : Array Bool} (hcl : Closed ops l listed) {k : Nat} {r : RI} (hr : l[k]? = some r) (hS : Sat l listed k = false)
  (hcl' : ∀ e ∈ edgesOf ops r.ix, listed.getD e false = true) {t : Nat} (htl : t ∈ r.looks) : frS l V (Sat l listed) (T 0).1 l.length t = (T k).1 t := by
 have hlt := (List.getElem?_eq_some_iff.1 hr).1
 have hbefS : ∀ i ∈ bs.getD k [], Sat l listed i = true := by
  intro i hi
  obtain ⟨e, he, p, s, h1, h2, h3, h4⟩ := ho.bef k r hr i hi
  have hle := hcl' e he
  have hSp : Sat l listed p = true := by rw [Sat_of h1, h2]; exact hle
  rcases h4 with rfl | h4
  ·exact hSp
  ·exact ho.befS hcl p s h1 hSp i h4
 have h1 : frS l V (Sat l listed) (T 0).1 l.length t = frS l V (Sat l listed) (T 0).1 k t := by
  refine frS_stay l.length (by omega) fun j c hkj hj hc hSj e => ?_
  by_cases e' : k = j
  ·subst e'; rw [hS] at hSj; cases hSj
  ·have hb := ho.clash k j r c (by omega) hr hc (clash_looks_dst htl e)
   have := ho.befS hcl j c hc hSj k hb
   rw [hS] at this; cases this
 rw [h1]
 have key : ∀ m, m ≤ k → frS l V (Sat l listed) (T 0).1 m t = (T m).1 t := by
  intro m
  induction m with
  | zero => intro _; rfl
  | succ m ih =>
   intro hm
   have := ih (by omega)
   simp only [frS]
   have : ∃ c, l[m]? = some c := ⟨_, List.getElem?_eq_getElem (by omega)⟩
   obtain ⟨c, hc⟩ := this
   rw [hc]
   simp only
   rw [(ht.step m c hc).2]
   by_cases e : c.dst = some t
   ·have hb := ho.clash m k c r (by omega) hc hr (clash_dst_looks e htl)
    rw [if_pos (hbefS m hb), e, put_same, put_same]
   ·rw [put_other e]
    split
    ·rw [put_other e]; exact ih (by omega)
    ·exact ih (by omega)
 exact key k (Nat.le_refl _)

/-- One more operation. -/
theorem OrdOK.frS_add (ho : OrdOK ops l bs) {S S' : Nat → Bool} {fr0 : Fr} {k : Nat} {r : RI} (hr : l[k]? = some r) (hk : S' k = true) (hSk : S k = false) (hoth : ∀ j, j ≠ k → S' j = S j)
  (hlater : ∀ (j : Nat) (c : RI), k < j → l[j]? = some c → S j = true → k ∉ bs.getD j []) : frS l V S' fr0 l.length = (frS l V S fr0 l.length).put r.dst (V k) := by
 have hlt := (List.getElem?_eq_some_iff.1 hr).1
 have h0 : ∀ m, m ≤ k → frS l V S' fr0 m = frS l V S fr0 m := by
  intro m
  induction m with
  | zero => intro _; rfl
  | succ m ih =>
   intro hm
   simp only [frS, hoth m (by omega), ih (by omega)]
 have key : ∀ m, k < m → m ≤ l.length → frS l V S' fr0 m = (frS l V S fr0 m).put r.dst (V k) := by
  intro m
  induction m with
  | zero => intro h; omega
  | succ m ih =>
   intro hm hml
   by_cases e : m = k
   ·subst e
    simp only [frS, hr, hk, if_true, hSk, Bool.false_eq_true, if_false, h0 m (Nat.le_refl _)]
   ·have hi := ih (by omega) (by omega)
    have : ∃ c, l[m]? = some c := ⟨_, List.getElem?_eq_getElem (by omega)⟩
    obtain ⟨c, hc⟩ := this
    simp only [frS, hc, hoth m e, hi]
    split
    ·rename_i hS
     have hnb := hlater m c (by omega) hc hS
     have hne : ∀ d, r.dst = some d → c.dst ≠ some d := fun d h1 h2 => hnb (ho.clash k m r c (by omega) hr hc (clash_dst_dst h1 h2))
     funext t
     cases hrd : r.dst with
     | none => cases hcd : c.dst <;> rfl
     | some d =>
      by_cases e1 : t = d
      ·subst e1
       rw [put_other (hne t hrd), put_same, put_same]
      ·rw [put_other (t := t) (d := some d) (fun h => e1 (Option.some.inj h).symm)]
       cases hcd : c.dst with
       | none => simp only [Fr.put]; exact put_other (fun h => e1 (Option.some.inj h).symm)
       | some d' =>
        by_cases e2 : t = d'
        ·subst e2; rw [put_same, put_same]
        ·rw [put_other (fun h => e2 (Option.some.inj h).symm), put_other (fun h => e2 (Option.some.inj h).symm)]
         exact put_other (fun h => e1 (Option.some.inj h).symm)
    ·rfl
 exact key l.length hlt (Nat.le_refl _)

end
end Go.Proofs.Ytibmnlijoeppaaa
namespace Go.Proofs.Ytibmnlijoeppaaa

section
variable {P : Program} {F : Nat → Prop} {n : Nat} {call : CallT} {ops : Array Oper} {l : List RI} {bs : List (List Nat)} {T : Nat → Fr × Mem} {V : Nat → AV}

theorem tr_wf (hc : CallOK P call) (ht : Tr call l T V) (h0 : (T 0).2.WF) : ∀ k, k ≤ l.length → (T k).2.WF ∧ (T 0).2.next ≤ (T k).2.next := by
 intro k
 induction k with
 | zero => intro _; exact ⟨h0, Nat.le_refl _⟩
 | succ k ih =>
  intro hk
  obtain ⟨i1, i2⟩ := ih (by omega)
  have hr : l[k]? = some l[k] := List.getElem?_eq_getElem (by omega)
  rcases (ht.step k _ hr).1 with ⟨_, h, _⟩ | ⟨_, _, h⟩
  ·have := aop_wf hc h i1
   exact ⟨this.1, Nat.le_trans i2 this.2⟩
  ·rw [h]; exact ⟨i1, i2⟩

/-- What an operation does to the memory of the one order: nothing; new memory; or it is of the kind that changes. -/
theorem tr_mem (ht : Tr call l T V) {k : Nat} {r : RI} (hr : l[k]? = some r) :
  (T (k + 1)).2 = (T k).2 ∨ (∃ cs e, (T (k + 1)).2 = (T k).2.new cs e) ∨ (r.op.kd = .m ∧ ∀ x ∈ r.re, x.holds (T k).1 (T (k + 1)).2 = true) := by
 rcases (ht.step k r hr).1 with ⟨_, h, hre⟩ | ⟨_, _, h⟩
 ·cases hk : r.op.kd with
  | p => exact .inl (aop_still (.inl hk) h)
  | l => exact .inl (aop_still (.inr hk) h)
  | m => exact .inr (.inr ⟨rfl, hre⟩)
  | a =>
   cases ho : r.op <;> rw [ho] at hk <;> simp only [ROp.kd, reduceCtorEq] at hk
   rw [ho] at h
   simp only [aop, Option.some.injEq, Prod.mk.injEq] at h
   exact .inr (.inl ⟨_, _, h.2.symm⟩)
  | n =>
   cases ho : r.op <;> rw [ho] at hk <;> simp only [ROp.kd, reduceCtorEq] at hk <;> rw [ho] at h <;> simp only [aop] at h
   case bsl =>
    simp only [Option.map_eq_some_iff, Prod.mk.injEq] at h
    obtain ⟨_, _, _, h⟩ := h
    exact .inr (.inl ⟨_, _, h.symm⟩)
   case box =>
    split at h
    ·simp only [Option.some.injEq, Prod.mk.injEq] at h
     exact .inr (.inl ⟨_, _, h.2.symm⟩)
    ·cases h
   case mks =>
    unfold amks at h
    split at h
    ·split at h
     ·simp only [Option.some.injEq, Prod.mk.injEq] at h
      exact .inr (.inl ⟨_, _, h.2.symm⟩)
     ·cases h
    ·cases h
 ·exact .inl h

theorem tr_fr_stay (ht : Tr call l T V) {t i : Nat} : ∀ m, i ≤ m → m ≤ l.length → (∀ (k : Nat) (c : RI), i ≤ k → k < m → l[k]? = some c → c.dst ≠ some t) → (T m).1 t = (T i).1 t := by
 intro m
 induction m with
 | zero =>
  intro h _ _
  have : i = 0 := by omega
  subst this; rfl
 | succ m ih =>
  intro h hl hw
  by_cases e : i = m + 1
  ·subst e; rfl
  ·have hr : l[m]? = some l[m] := List.getElem?_eq_getElem (by omega)
   rw [(ht.step m _ hr).2, put_other (hw m _ (by omega) (by omega) hr)]
   exact ih (by omega) (by omega) fun k c h1 h2 => hw k c h1 (by omega)

theorem again_ld {a b : RI} {x : Re} (h : again a b = some x) (hk : a.op.kd = .l) : ∃ sz y d, a.op = .ld sz y ∧ a.dst = some d ∧ x = .ld d sz y ∧ d ∉ y.slots := by
 unfold again at h
 split at h
 ·split at h
  ·rename_i sz y d e1 e2
   split at h
   ·cases h
   ·rename_i hn
    simp only [Option.some.injEq] at h
    exact ⟨sz, y, d, e1, e2, h.symm, fun hm => hn (List.contains_iff_mem.2 hm)⟩
  ·rename_i z d e1 e2
   rw [e1] at hk; cases hk
  ·cases h
 ·cases h

theorem again_al {a b : RI} {x : Re} (h : again a b = some x) {z : List Cell} (hk : a.op = .alc z) : ∃ d, a.dst = some d ∧ x = .al d z := by
 unfold again at h
 split at h
 ·split at h
  ·rename_i sz y d e1 e2
   rw [e1] at hk; cases hk
  ·rename_i z' d e1 e2
   rw [e1] at hk; cases hk
   simp only [Option.some.injEq] at h
   exact ⟨d, e2, h.symm⟩
  ·cases h
 ·cases h

/-- A read that has not come up yet reads, behind all that has, what it read in the one order. -/
theorem read_later (ho : OrdOK ops l bs) (hc : CallOK P call) (ht : Tr call l T V) (h0 : (T 0).2.WF) {listed : Array Bool} (hcl : Closed ops l listed) {i : Nat} {r : RI} (hr : l[i]? = some r)
  (hS : Sat l listed i = false) (hk : r.op.kd = .l) (hw : awanted r.guard (T i).1 = true) : ∀ p, i < p → p ≤ l.length → (∀ (k : Nat) (c : RI), k < p → l[k]? = some c → c.isM → Sat l listed k = true) →
  aop call r.op (T i).1 (T p).2 = some (V i, (T p).2) := by
 intro p
 induction p with
 | zero => intro h; omega
 | succ p ih =>
  intro hip hpl hM
  have hri := ht.step i r hr
  have hread : aop call r.op (T i).1 (T i).2 = some (V i, (T (i + 1)).2) := by
   rcases hri.1 with ⟨_, h, _⟩ | ⟨h, _, _⟩
   ·exact h
   ·rw [hw] at h; cases h
  by_cases e : i = p
  ·subst e
   have := aop_still (.inr hk) hread
   rw [this] at hread ⊢; exact hread
  ·have hih := ih (by omega) (by omega) fun k c h1 h2 h3 => hM k c (by omega) h2 h3
   have hc' : l[p]? = some l[p] := List.getElem?_eq_getElem (by omega)
   have hwf := (tr_wf hc ht h0 p (by omega)).1
   rcases tr_mem ht hc' with h | ⟨cs, e', h⟩ | ⟨hm, hre⟩
   ·rw [h]; exact hih
   ·rw [h]; exact aop_l_new hk hwf hih cs e'
   ·have hSp := hM p _ (by omega) hc' (.inl hm)
    have hnb : i ∉ bs.getD p [] := fun hb => by
     have := ho.befS hcl p _ hc' hSp i hb
     rw [hS] at this; cases this
    obtain ⟨x, hx, hxm, hst⟩ := ho.again i p r _ (by omega) hr hc' (.inl hk) hm hnb
    obtain ⟨sz, y, d, e1, e2, e3, e4⟩ := again_ld hx hk
    subst e3
    have hh := hre _ hxm
    have hd : (T p).1 d = V i := by
     rw [tr_fr_stay ht (i := i + 1) p (by omega) (by omega) fun k c h1 h2 h3 => hst k c (by omega) h2 h3 d (by simp)]
     rw [hri.2, e2, put_same]
    have hy : y.ev (T p).1 = y.ev (T i).1 := by
     refine ev_congr fun t htm => ?_
     rw [tr_fr_stay ht (i := i + 1) p (by omega) (by omega) fun k c h1 h2 h3 => hst k c (by omega) h2 h3 t (by simp [htm])]
     rw [hri.2, e2]
     exact put_other fun h => e4 (by rw [Option.some.inj h]; exact htm)
    rw [e1]
    simp only [Re.holds, hy] at hh
    simp only [aop]
    split at hh
    ·rename_i b o hev
     simp only [beq_iff_eq] at hh
     rw [hh, hd]
     rfl
    ·cases hh

/-- A new variable that has not come up yet is as it was made, behind all that has. -/
theorem zero_later (ho : OrdOK ops l bs) (hc : CallOK P call) (ht : Tr call l T V) (h0 : (T 0).2.WF) {listed : Array Bool} (hcl : Closed ops l listed) {i : Nat} {r : RI} (hr : l[i]? = some r)
  (hS : Sat l listed i = false) {z : List Cell} (hk : r.op = .alc z) (hw : awanted r.guard (T i).1 = true) : ∀ p, i < p → p ≤ l.length →
  (∀ (k : Nat) (c : RI), k < p → l[k]? = some c → c.isM → Sat l listed k = true) → (T p).2.obj (T i).2.next = some ⟨z, 0, false⟩ := by
 intro p
 induction p with
 | zero => intro h; omega
 | succ p ih =>
  intro hip hpl hM
  have hri := ht.step i r hr
  have hread : V i = .c (.ptr (some ((T i).2.next, 0))) ∧ (T (i + 1)).2 = (T i).2.new z 0 := by
   rcases hri.1 with ⟨_, h, _⟩ | ⟨h, _, _⟩
   ·rw [hk] at h
    simp only [aop, Option.some.injEq, Prod.mk.injEq] at h
    exact ⟨h.1.symm, h.2.symm⟩
   ·rw [hw] at h; cases h
  by_cases e : i = p
  ·subst e
   rw [hread.2]
   simp [Mem.new]
  ·have hih := ih (by omega) (by omega) fun k c h1 h2 h3 => hM k c (by omega) h2 h3
   have hc' : l[p]? = some l[p] := List.getElem?_eq_getElem (by omega)
   have hwf := (tr_wf hc ht h0 p (by omega)).1
   rcases tr_mem ht hc' with h | ⟨cs, e', h⟩ | ⟨hm, hre⟩
   ·rw [h]; exact hih
   ·rw [h]
    have := hwf _ _ hih
    simp only [Mem.new]
    rw [if_neg (by omega)]; exact hih
   ·have hSp := hM p _ (by omega) hc' (.inl hm)
    have hnb : i ∉ bs.getD p [] := fun hb => by
     have := ho.befS hcl p _ hc' hSp i hb
     rw [hS] at this; cases this
    obtain ⟨x, hx, hxm, hst⟩ := ho.again i p r _ (by omega) hr hc' (.inr (by rw [hk]; rfl)) hm hnb
    obtain ⟨d, e2, e3⟩ := again_al hx hk
    subst e3
    have hh := hre _ hxm
    have hd : (T p).1 d = V i := by
     rw [tr_fr_stay ht (i := i + 1) p (by omega) (by omega) fun k c h1 h2 h3 => hst k c (by omega) h2 h3 d (by simp)]
     rw [hri.2, e2, put_same]
    simp only [Re.holds, hd, hread.1] at hh
    simp only [Bool.and_eq_true, beq_iff_eq] at hh
    obtain ⟨h1, h2⟩ := hh
    split at h2
    ·rename_i ob hob
     simp only [Bool.and_eq_true, beq_iff_eq, Bool.not_eq_true'] at h2
     obtain ⟨⟨h3, h4⟩, h5⟩ := h2
     have : rd ob.cells 0 z.length = some z := by
      unfold Mem.ld at h1
      rw [hob] at h1
      simp only [Option.bind_eq_some_iff] at h1
      obtain ⟨l, h1a, h1b⟩ := h1
      rw [h5] at h1b
      simp only [clean, Bool.not_false, Bool.true_or, cond_true, Option.some.injEq, AV.agg.injEq] at h1b
      rw [h1a, h1b]
     rw [← h3, rd_all] at this
     simp only [Option.some.injEq] at this
     rw [hob]
     obtain ⟨c, e, ro⟩ := ob
     simp_all
    ·cases h2

/-! ### The induction -/

structure Inv (ops : Array Oper) (l : List RI) (T : Nat → Fr × Mem) (V : Nat → AV) (F : Nat → Prop) (n : Nat) (ρ0 : Emb) (w0 : World) (listed : Array Bool) (a : Act) (w : World) : Prop where
 size : listed.size = ops.size
 closed : Closed ops l listed
 defers : a.defers = []
 ex : ∃ ρ p, p ≤ l.length ∧ (∀ (k : Nat) (r : RI), k < p → l[k]? = some r → r.isM → Sat l listed k = true) ∧ (∀ r, l[p]? = some r → r.isM ∧ Sat l listed p = false) ∧
  Sim F ρ (T p).2 w ∧ FrRel n ρ (frS l V (Sat l listed) (T 0).1 l.length) a.tmps ∧
  (∀ (k : Nat) (r : RI) (z : List Cell), k < p → l[k]? = some r → r.op = .alc z → Sat l listed k = false → awanted r.guard (T k).1 = true → ρ (T k).2.next = none) ∧
  (∀ i, i < (T 0).2.next → ρ i = ρ0 i) ∧ Keeps F w0 w

/-- On to the next operation that changes memory. -/
theorem advance (ht : Tr call l T V) {ρ : Emb} {w : World} (q : Nat) (hq : q ≤ l.length) (hs : Sim F ρ (T q).2 w) :
  ∃ p, q ≤ p ∧ p ≤ l.length ∧ (∀ (k : Nat) (r : RI), q ≤ k → k < p → l[k]? = some r → ¬ r.isM) ∧ (∀ r, l[p]? = some r → r.isM) ∧ Sim F ρ (T p).2 w ∧
   (∀ (k : Nat) (r : RI) (z : List Cell), q ≤ k → k < p → l[k]? = some r → r.op = .alc z → ρ (T k).2.next = none) := by
 have key : ∀ d q, l.length - q = d → q ≤ l.length → Sim F ρ (T q).2 w → ∃ p, q ≤ p ∧ p ≤ l.length ∧ (∀ (k : Nat) (r : RI), q ≤ k → k < p → l[k]? = some r → ¬ r.isM) ∧ (∀ r, l[p]? = some r → r.isM) ∧
   Sim F ρ (T p).2 w ∧ (∀ (k : Nat) (r : RI) (z : List Cell), q ≤ k → k < p → l[k]? = some r → r.op = .alc z → ρ (T k).2.next = none) := by
  intro d
  induction d with
  | zero =>
   intro q h1 h2 hs
   have : q = l.length := by omega
   subst this
   exact ⟨l.length, Nat.le_refl _, Nat.le_refl _, fun k r h1 h2 => by omega, fun r hr => by simp at hr, hs, fun k r z h1 h2 => by omega⟩
  | succ d ih =>
   intro q h1 h2 hs
   have hr : l[q]? = some l[q] := List.getElem?_eq_getElem (by omega)
   by_cases hm : (l[q]'(by omega)).isM
   ·exact ⟨q, Nat.le_refl _, h2, fun k r h1 h2 => by omega, fun r hr' => by rw [hr] at hr'; simp only [Option.some.injEq] at hr'; rw [← hr']; exact hm, hs, fun k r z h1 h2 => by omega⟩
   ·have hs1 : Sim F ρ (T (q + 1)).2 w := by
     rcases tr_mem ht hr with h | ⟨cs, e, h⟩ | ⟨h, _⟩
     ·rw [h]; exact hs
     ·rw [h]; exact hs.newObj cs e
     ·exact absurd (.inl h) hm
    obtain ⟨p, p1, p2, p3, p4, p5, p6⟩ := ih (q + 1) (by omega) (by omega) hs1
    refine ⟨p, by omega, p2, fun k r h1 h2 h3 => ?_, p4, p5, fun k r z h1 h2 h3 h4 => ?_⟩
    ·by_cases e : k = q
     ·subst e; rw [hr] at h3; simp only [Option.some.injEq] at h3; rw [← h3]; exact hm
     ·exact p3 k r (by omega) h2 h3
    ·by_cases e : k = q
     ·subst e
      cases hρ : ρ (T k).2.next with
      | none => rfl
      | some x => exact absurd (hs.dom _ x.1 x.2 hρ).1 (Nat.lt_irrefl _)
     ·exact p6 k r z (by omega) h2 h3 h4
 exact key _ q rfl hq hs

def cnt (f : Nat → Bool) : List RI → Nat
 | [] => 0
 | r :: l => (if f r.ix = true then 0 else 1) + cnt f l

theorem cnt_le {f g : Nat → Bool} (h : ∀ x, f x = true → g x = true) : ∀ l, cnt g l ≤ cnt f l
 | [] => Nat.le_refl _
 | r :: l => by
  have := cnt_le h l
  simp only [cnt]
  by_cases e : f r.ix = true
  ·rw [if_pos e, if_pos (h _ e)]; omega
  ·rw [if_neg e]; split <;> omega

theorem cnt_lt {f g : Nat → Bool} (h : ∀ x, f x = true → g x = true) : ∀ {l : List RI} {k : Nat} {r : RI}, l[k]? = some r → f r.ix = false → g r.ix = true → cnt g l < cnt f l
 | [], k, r, hr, _, _ => by simp at hr
 | s :: l, 0, r, hr, h1, h2 => by
  simp only [List.getElem?_cons_zero, Option.some.injEq] at hr
  subst hr
  have := cnt_le h l
  simp only [cnt, h1, h2, if_true, Bool.false_eq_true, if_false]
  omega
 | s :: l, k + 1, r, hr, h1, h2 => by
  have := cnt_lt h (l := l) (k := k) (by simpa using hr) h1 h2
  simp only [cnt]
  by_cases e : f s.ix = true
  ·rw [if_pos e, if_pos (h _ e)]; omega
  ·rw [if_neg e]; split <;> omega

theorem getD_lt {listed : Array Bool} {i : Nat} (h : i < listed.size) : listed.getD i true = listed.getD i false := by
 simp [h]

theorem getD_set_self {listed : Array Bool} {i : Nat} (h : i < listed.size) : (listed.setIfInBounds i true).getD i false = true := by
 simp [h]

theorem edges_ready {ix : Nat} {o : Oper} (h : ops[ix]? = some o) {listed : Array Bool} (hall : ∀ e ∈ o.after, Region.binds .any e = true → listed.getD e.on false = true) :
  ∀ e ∈ edgesOf ops ix, listed.getD e false = true := by
 intro e he
 simp only [edgesOf, h, List.mem_map, List.mem_filter] at he
 obtain ⟨x, ⟨h1, h2⟩, rfl⟩ := he
 exact hall x (by simpa using h1) h2

/-- The step of the induction. -/
theorem inv_next (ho : OrdOK ops l bs) (ht : Tr call l T V) {ρ0 : Emb} {w0 : World} {listed : Array Bool} {a : Act} {k : Nat} {r : RI} (hr : l[k]? = some r) (hS : Sat l listed k = false)
  (hix : r.ix < listed.size) (hsize : listed.size = ops.size) (hcl : Closed ops l listed) (hcl' : ∀ e ∈ edgesOf ops r.ix, listed.getD e false = true) (hd : a.defers = [])
  (hdn : ∀ d, r.dst = some d → d < n)
  {ρ : Emb} {p : Nat} (hpl : p ≤ l.length) (hM : ∀ (j : Nat) (c : RI), j < p → l[j]? = some c → c.isM → Sat l listed j = true) (hP : ∀ c, l[p]? = some c → c.isM ∧ Sat l listed p = false)
  (hf : FrRel n ρ (frS l V (Sat l listed) (T 0).1 l.length) a.tmps) {ρ' : Emb} {w' : World} {v' : Value} (hle : ρ.Le ρ') (hv : AVRel ρ' (V k) v')
  {q : Nat} (hq : (k = p ∧ q = p + 1) ∨ (k ≠ p ∧ q = p)) (hs : Sim F ρ' (T q).2 w')
  (hun : ∀ (j : Nat) (c : RI) (z : List Cell), j < p → j ≠ k → l[j]? = some c → c.op = .alc z → Sat l listed j = false → awanted c.guard (T j).1 = true → ρ' (T j).2.next = none)
  (hold : ∀ i, i < (T 0).2.next → ρ' i = ρ0 i) (hke : Keeps F w0 w') :
  Inv ops l T V F n ρ0 w0 (listed.setIfInBounds r.ix true) (a.put r.dst v') w' := by
 have hlt := (List.getElem?_eq_some_iff.1 hr).1
 have hne : ∀ (j : Nat) (c : RI), l[j]? = some c → j ≠ k → c.ix ≠ r.ix := by
  intro j c hc hjk
  rcases Nat.lt_or_gt_of_ne hjk with h | h
  ·exact ho.ne j k c r h hc hr
  ·exact (ho.ne k j r c h hr hc).symm
 have hS' : ∀ j, j ≠ k → Sat l (listed.setIfInBounds r.ix true) j = Sat l listed j := by
  intro j hjk
  unfold Sat
  cases hc : l[j]? with
  | none => rfl
  | some c => exact getD_set_ne false (Ne.symm (hne j c hc hjk))
 have hSk : Sat l (listed.setIfInBounds r.ix true) k = true := by
  rw [Sat_of hr]; exact getD_set_self hix
 have hcl2 : Closed ops l (listed.setIfInBounds r.ix true) := by
  intro j c hc hl e he
  by_cases hjk : j = k
  ·subst hjk
   rw [hr] at hc
   simp only [Option.some.injEq] at hc
   subst hc
   exact getD_set_true (hcl' e he)
  ·have h1 : listed.getD c.ix false = true := by rw [← getD_set_ne false (Ne.symm (hne j c hc hjk))]; exact hl
   exact getD_set_true (hcl j c hc h1 e he)
 have hbefk : ∀ (j : Nat) (c : RI), l[j]? = some c → Sat l listed j = true → k ∉ bs.getD j [] := by
  intro j c hc hSj hb
  have := ho.befS hcl j c hc hSj k hb
  rw [hS] at this; cases this
 have hql : q ≤ l.length := by
  rcases hq with ⟨h, h'⟩ | ⟨_, h'⟩ <;> omega
 obtain ⟨p', a1, a2, a3, a4, a5, a6⟩ := advance ht q hql hs
 refine ⟨by simpa using hsize, hcl2, by rw [Act.put_defers']; exact hd, ρ', p', a2, ?_, ?_, a5, ?_, ?_, hold, hke⟩
 ·intro j c hj hc hm
  by_cases e : j = k
  ·subst e; exact hSk
  ·rw [hS' j e]
   by_cases hjp : j < p
   ·exact hM j c hjp hc hm
   ·by_cases hjq : q ≤ j
    ·exact absurd hm (a3 j c hjq hj hc)
    ·rcases hq with ⟨h, h'⟩ | ⟨_, h'⟩ <;> omega
 ·intro c hc
  refine ⟨a4 c hc, ?_⟩
  have hm := a4 c hc
  by_cases e : p' = k
  ·
   exfalso
   subst e
   rcases hq with ⟨h, h'⟩ | ⟨h, h'⟩
   ·omega
   ·have hplt : p < p' := by omega
    have hpr : l[p]? = some l[p] := List.getElem?_eq_getElem (by omega)
    obtain ⟨hpm, hpS⟩ := hP _ hpr
    exact absurd hpm (a3 p _ (by omega) hplt hpr)
  ·rw [hS' p' e]
   cases hSp : Sat l listed p' with
   | false => rfl
   | true =>
    exfalso
    have hp2 : p < l.length := by
     rcases hq with ⟨h, h'⟩ | ⟨h, h'⟩
     ·omega
     ·have := (List.getElem?_eq_some_iff.1 hc).1; omega
    have hpr : l[p]? = some l[p] := List.getElem?_eq_getElem hp2
    obtain ⟨hpm, hpS⟩ := hP _ hpr
    have hpp : p < p' ∨ p = p' := by
     rcases hq with ⟨h, h'⟩ | ⟨h, h'⟩ <;> omega
    rcases hpp with hpp | hpp
    ·have hb := ho.mem p p' _ c hpp hpr hc hpm (by rcases hm with h | h <;> rw [h] <;> simp)
     have := ho.befS hcl p' c hc hSp p hb
     rw [hpS] at this; cases this
    ·subst hpp; rw [hpS] at hSp; cases hSp
 ·rw [ho.frS_add hr hSk hS hS' (fun j c _ hc hSj => hbefk j c hc hSj)]
  exact (hf.mono hle).put hdn hv
 ·intro j c z hj hc hop hSj hw
  by_cases e : j = k
  ·subst e; rw [hSk] at hSj; cases hSj
  ·rw [hS' j e] at hSj
   by_cases hjp : j < p
   ·exact hun j c z hjp e hc hop hSj hw
   ·by_cases hjq : q ≤ j
    ·exact a6 j c z hjq hj hc hop
    ·rcases hq with ⟨h, h'⟩ | ⟨_, h'⟩ <;> omega

theorem rop_alc {op : Op} {z : List Cell} (h : rop P op = some (.alc z)) : ∃ t, op = .alloc t ∧ zeroN P t = some z := by
 unfold rop at h
 split at h
 case h_14 t => exact ⟨t, rfl, by simpa using h⟩
 all_goals first
  | (exfalso; unfold ropCall at h; (repeat' split at h) <;> simp at h; done)
  | (exfalso; (repeat' split at h) <;> simp at h; done)

theorem looks_ops {r : RI} {t : Nat} (h : t ∈ r.op.opds.flatMap Opd.slots) : t ∈ r.looks := List.mem_append_left _ h

theorem reg_any (ho : OrdOK ops l bs) (hc : CallOK P call) (ht : Tr call l T V)
  (hri : ∀ (k : Nat) (r : RI), l[k]? = some r → ∃ r0, ri0 P ops n r.ix = some r0 ∧ r0.op = r.op ∧ r0.dst = r.dst ∧ r0.guard = r.guard)
  (h0 : (T 0).2.WF) {ρ0 : Emb} {w0 : World} {Q : Exit → Act → World → Prop}
  (hQ : ∀ a' w' ρ', a'.defers = [] → Sim F ρ' (T l.length).2 w' → (∀ i, i < (T 0).2.next → ρ' i = ρ0 i) → Keeps F w0 w' → FrRel n ρ' (T l.length).1 a'.tmps → Q .normal a' w') :
  ∀ (fuel : Nat) (listed : Array Bool) (a : Act) (w : World), Inv ops l T V F n ρ0 w0 listed a w → cnt (fun x => listed.getD x false) l ≤ fuel →
  wpAny P .any ops Q fuel listed a w := by
 have hend : ∀ (listed : Array Bool) (a : Act) (w : World), Inv ops l T V F n ρ0 w0 listed a w → (∀ k, k < l.length → Sat l listed k = true) → Q .normal a w := by
  intro listed a w hi hall
  obtain ⟨ρ, p, h1, h2, h3, h4, h5, h6, h7, h8⟩ := hi.ex
  have hp : p = l.length := by
   rcases Nat.lt_or_ge p l.length with h | h
   ·have hpr : l[p]? = some l[p] := List.getElem?_eq_getElem h
    have := (h3 _ hpr).2
    rw [hall p h] at this; cases this
   ·omega
  subst hp
  refine hQ a w ρ hi.defers h4 h7 h8 ?_
  have key : ∀ m, m ≤ l.length → frS l V (Sat l listed) (T 0).1 m = (T m).1 := by
   intro m
   induction m with
   | zero => intro _; rfl
   | succ m ih =>
    intro hm
    have hr : l[m]? = some l[m] := List.getElem?_eq_getElem (by omega)
    simp only [frS, hr, hall m (by omega), if_true, ih (by omega)]
    exact (ht.step m _ hr).2.symm
  rw [key l.length (Nat.le_refl _)] at h5
  exact h5
 have hready : ∀ (listed : Array Bool) (a : Act) (w : World), Inv ops l T V F n ρ0 w0 listed a w → Region.ready .any ops listed = [] → ∀ k, k < l.length → Sat l listed k = true := by
  intro listed a w hi he k
  induction k using Nat.strongRecOn with
  | _ k ih =>
   intro hk
   have hr : l[k]? = some l[k] := List.getElem?_eq_getElem hk
   cases hS : Sat l listed k with
   | true => rfl
   | false =>
    exfalso
    obtain ⟨r0, q1, q2, q3, q4⟩ := hri k _ hr
    obtain ⟨o, hoo, hix, _⟩ := ri0_spec q1
    have hlt : (l[k]).ix < listed.size := by rw [hi.size]; exact (Array.getElem?_eq_some_iff.1 hoo).1
    have : (l[k]).ix ∈ Region.ready .any ops listed := by
     rw [mem_ready]
     refine ⟨by rw [getD_lt hlt]; rw [Sat_of hr] at hS; exact hS, o, hoo, fun e hem hb => ?_⟩
     have hed : e.on ∈ edgesOf ops (l[k]).ix := by
      simp only [edgesOf, hoo, List.mem_map, List.mem_filter]
      exact ⟨e, ⟨by simpa using hem, hb⟩, rfl⟩
     obtain ⟨p, s, s1, s2, s3⟩ := ho.edge k _ hr _ hed
     have := ih p s3 (by omega)
     rw [Sat_of s1, s2] at this
     exact this
    rw [he] at this
    cases this
 intro fuel
 induction fuel with
 | zero =>
  intro listed a w hi hcn
  have hall : ∀ k, k < l.length → Sat l listed k = true := by
   intro k hk
   have hr : l[k]? = some l[k] := List.getElem?_eq_getElem hk
   cases hS : Sat l listed k with
   | true => rfl
   | false =>
    exfalso
    rw [Sat_of hr] at hS
    have := cnt_lt (f := fun x => listed.getD x false) (g := fun _ => true) (fun _ _ => rfl) hr hS rfl
    omega
  refine ⟨?_, hend listed a w hi hall⟩
  cases he : Region.ready .any ops listed with
  | nil => rfl
  | cons x xs =>
   exfalso
   have hx : x ∈ Region.ready .any ops listed := by rw [he]; simp
   rw [mem_ready] at hx
   obtain ⟨h1, o, h2, _⟩ := hx
   have hxl : x < ops.size := (Array.getElem?_eq_some_iff.1 h2).1
   obtain ⟨k, r, hr, hrx⟩ := ho.all x hxl
   have := hall k (List.getElem?_eq_some_iff.1 hr).1
   rw [Sat_of hr, hrx] at this
   rw [getD_lt (by rw [hi.size]; exact hxl)] at h1
   rw [h1] at this
   cases this
 | succ fuel ih =>
  intro listed a w hi hcn
  refine ⟨fun he => hend listed a w hi (hready listed a w hi he), fun i him => ?_⟩
  rw [mem_ready] at him
  obtain ⟨h1, o, hoo, hall⟩ := him
  have hil : i < ops.size := (Array.getElem?_eq_some_iff.1 hoo).1
  obtain ⟨k, r, hr, hrx⟩ := ho.all i hil
  subst hrx
  have hix : r.ix < listed.size := by rw [hi.size]; exact hil
  rw [getD_lt hix] at h1
  have hS : Sat l listed k = false := by rw [Sat_of hr]; exact h1
  have hcl' := edges_ready hoo hall
  obtain ⟨r0, q1, q2, q3, q4⟩ := hri k r hr
  obtain ⟨o', hoo', _, hrop, hdst, hdn, _⟩ := ri0_spec q1
  rw [hoo] at hoo'
  simp only [Option.some.injEq] at hoo'
  subst hoo'
  rw [q2] at hrop
  rw [q3] at hdst hdn
  obtain ⟨ρ, p, e1, e2, e3, e4, e5, e6, e7, e8⟩ := hi.ex
  have hlt := (List.getElem?_eq_some_iff.1 hr).1
  have hrd : ∀ t ∈ r.looks, frS l V (Sat l listed) (T 0).1 l.length t = (T k).1 t := fun t htl => ho.reads ht hi.closed hr hS hcl' htl
  have hg : awanted r.guard (frS l V (Sat l listed) (T 0).1 l.length) = awanted r.guard (T k).1 := by
   cases hgd : r.guard with
   | none => rfl
   | some dw =>
    obtain ⟨d, wnt⟩ := dw
    simp only [awanted]
    rw [hrd d (List.mem_append_right _ (by rw [hgd]; simp))]
  have hwant : Region.wanted o (yielded ops a.tmps) = awanted r.guard (T k).1 := by
   rw [wanted_rel (n := n) (ρ := ρ) (fr := frS l V (Sat l listed) (T 0).1 l.length) q1 hoo e5, q4, hg]
  have hcnt : cnt (fun x => (listed.setIfInBounds r.ix true).getD x false) l ≤ fuel := by
   have := cnt_lt (f := fun x => listed.getD x false) (g := fun x => (listed.setIfInBounds r.ix true).getD x false) (fun x hx => getD_set_true hx) hr h1 (getD_set_self hix)
   omega
  have hstep := ht.step k r hr
  have hpM : r.isM → k = p := by
   intro hm
   rcases Nat.lt_trichotomy k p with h | h | h
   ·have := e2 k r h hr hm
    rw [hS] at this; cases this
   ·exact h
   ·exfalso
    have hpr : l[p]? = some l[p] := List.getElem?_eq_getElem (by omega)
    obtain ⟨hpm, hpS⟩ := e3 _ hpr
    have hb := ho.mem p k _ r h hpr hr hpm (by rcases hm with h | h <;> rw [h] <;> simp)
    obtain ⟨e, he, p', s, s1, s2, s3, s4⟩ := ho.bef k r hr p hb
    have hSp' : Sat l listed p' = true := by rw [Sat_of s1, s2]; exact hcl' e he
    rcases s4 with rfl | s4
    ·rw [hpS] at hSp'; cases hSp'
    ·have := ho.befS hi.closed p' s s1 hSp' p s4
     rw [hpS] at this; cases this
  have hrl : (r.op.kd = .l ∨ r.op.kd = .a) → k < p ∨ p = l.length := by
   intro hk
   rcases Nat.lt_trichotomy k p with h | h | h
   ·exact .inl h
   ·subst h
    have := (e3 r hr).1
    rcases this with h | h <;> rcases hk with h' | h' <;> rw [h'] at h <;> cases h
   ·exfalso
    have hpr : l[p]? = some l[p] := List.getElem?_eq_getElem (by omega)
    obtain ⟨hpm, hpS⟩ := e3 _ hpr
    have hb := ho.mem p k _ r h hpr hr hpm (by rcases hk with h | h <;> rw [h] <;> simp)
    obtain ⟨e, he, p', s, s1, s2, s3, s4⟩ := ho.bef k r hr p hb
    have hSp' : Sat l listed p' = true := by rw [Sat_of s1, s2]; exact hcl' e he
    rcases s4 with rfl | s4
    ·rw [hpS] at hSp'; cases hSp'
    ·have := ho.befS hi.closed p' s s1 hSp' p s4
     rw [hpS] at this; cases this
  have hkl : (r.op.kd = .l ∨ r.op.kd = .a) → k < p := by
   intro hk
   rcases hrl hk with h | h
   ·exact h
   ·omega
  rw [wpOp]
  simp only [hoo]
  rw [hwant]
  cases hw : awanted r.guard (T k).1 with
  | false =>
   simp only [Bool.false_eq_true, if_false]
   have hV : V k = .undef ∧ (T (k + 1)).2 = (T k).2 := by
    rcases hstep.1 with ⟨h, _, _⟩ | ⟨_, h, h'⟩
    ·rw [hw] at h; cases h
    ·exact ⟨h, h'⟩
   refine ih _ _ _ ?_ hcnt
   rw [← hdst]
   by_cases hkp : k = p
   ·refine inv_next ho ht hr hS hix hi.size hi.closed hcl' hi.defers hdn e1 e2 e3 e5 (Emb.Le.refl ρ) (by rw [hV.1]; exact AVRel.undef ρ) (.inl ⟨hkp, rfl⟩) ?_ ?_ e7 e8
    ·rw [← hkp, hV.2, hkp]; exact e4
    ·intro j c z h1 h2 h3 h4 h5 h6; exact e6 j c z h1 h3 h4 h5 h6
   ·refine inv_next ho ht hr hS hix hi.size hi.closed hcl' hi.defers hdn e1 e2 e3 e5 (Emb.Le.refl ρ) (by rw [hV.1]; exact AVRel.undef ρ) (.inr ⟨hkp, rfl⟩) e4 ?_ e7 e8
    intro j c z h1 h2 h3 h4 h5 h6; exact e6 j c z h1 h3 h4 h5 h6
  | true =>
   simp only [if_true]
   have hV : aop call r.op (T k).1 (T k).2 = some (V k, (T (k + 1)).2) := by
    rcases hstep.1 with ⟨_, h, _⟩ | ⟨h, _, _⟩
    ·exact h
    ·rw [hw] at h; cases h
   have hcong : ∀ μ, aop call r.op (frS l V (Sat l listed) (T 0).1 l.length) μ = aop call r.op (T k).1 μ := fun μ => aop_congr fun t htm => hrd t (looks_ops htm)
   -- an operation that leaves memory as it is
   have still : (∃ hh : True, aop call r.op (T k).1 (T p).2 = some (V k, (T p).2)) → k ≠ p → o.wp P a w (wpAny P .any ops Q fuel (listed.setIfInBounds r.ix true)) Q := by
    intro hh hkp
    obtain ⟨_, hh⟩ := hh
    rw [← hcong] at hh
    refine s_wp hrop hc e4 e5 hh fun ρ' v' w' hrv hst => ?_
    refine ih _ _ _ ?_ hcnt
    rw [← hdst]
    have hle := hst.le e4
    refine inv_next ho ht hr hS hix hi.size hi.closed hcl' hi.defers hdn e1 e2 e3 e5 hle hrv (.inr ⟨hkp, rfl⟩) hst.sim ?_ ?_ (e8.trans hst.keeps)
    ·intro j c z h1 h2 h3 h4 h5 h6
     have hz := zero_later ho hc ht h0 hi.closed h3 h5 h4 h6 p h1 e1 e2
     rw [hst.old _ (e4.lt _ _ hz)]
     exact e6 j c z h1 h3 h4 h5 h6
    ·intro i' hi'
     have := (tr_wf hc ht h0 p e1).2
     rw [hst.old i' (by omega)]; exact e7 i' hi'
   cases hkd : r.op.kd with
   | p =>
    have hnp : k ≠ p := by
     intro h; subst h
     have := (e3 r hr).1
     rcases this with h | h <;> rw [hkd] at h <;> cases h
    exact .inl (still ⟨trivial, aop_p hkd hV _⟩ hnp)
   | l =>
    have hlt' := hkl (.inl hkd)
    exact .inl (still ⟨trivial, read_later ho hc ht h0 hi.closed hr hS hkd hw p hlt' e1 e2⟩ (by omega))
   | a =>
    have hlt' := hkl (.inr hkd)
    cases hop : r.op <;> rw [hop] at hkd <;> simp only [ROp.kd, reduceCtorEq] at hkd
    rename_i z
    have hz := zero_later ho hc ht h0 hi.closed hr hS hop hw p hlt' e1 e2
    have hnone := e6 k r z hlt' hr hop hS hw
    have hVk : V k = .c (.ptr (some ((T k).2.next, 0))) := by
     rw [hop] at hV
     simp only [aop, Option.some.injEq, Prod.mk.injEq] at hV
     exact hV.1.symm
    have hoal := rop_alc (hop ▸ hrop)
    obtain ⟨t, hot, hzt⟩ := hoal
    obtain ⟨inf, zv, z1, z2, z3, z4, z5, z6⟩ := zeroN_spec hzt
    have hrun : (execOp a.eval o).run P w = .ok (.value (.pointer (some ⟨w.heap.size, 0, none⟩))) (w.alloc (.cells zv.cells t)) := by
     simp [execOp, hot, Instr.alloc, zeroValue, typeInfo, z1, z2, newVar, newRow]
    have hreal := e4.real (i := (T k).2.next) (x := 0) hz hnone (fun _ => rfl) (c := zv.cells) (T := t) (by simp [z6]) (fun j y hy => by
     obtain ⟨v, k1, k2⟩ := (toCellL_rel z3 ρ).get hy
     exact ⟨v, by simpa using k1, k2⟩)
    refine .inl ?_
    unfold Oper.wp
    rw [hrun]
    simp only [Oper.upon]
    refine ih _ _ _ ?_ hcnt
    rw [← hdst]
    have hnx := (tr_wf hc ht h0 k (by omega)).2
    refine inv_next ho ht hr hS hix hi.size hi.closed hcl' hi.defers hdn e1 e2 e3 e5 (Emb.le_set hnone) (by rw [hVk]; exact ⟨w.heap.size, 0, by simp [Emb.set], rfl⟩) (.inr ⟨by omega, rfl⟩) hreal ?_ ?_ (e8.trans (Keeps.alloc e4.fb _))
    ·intro j c z' h1 h2 h3 h4 h5 h6
     have hj := e6 j c z' h1 h3 h4 h5 h6
     unfold Emb.set
     split
     ·rename_i e
      exfalso
      -- two new variables have two numbers
      have hmono : ∀ x y, x < y → y ≤ l.length → (T x).2.next ≤ (T y).2.next := by
       intro x y hxy hy
       have : ∀ d, x + d ≤ l.length → (T x).2.next ≤ (T (x + d)).2.next := by
        intro d
        induction d with
        | zero => intro _; exact Nat.le_refl _
        | succ d ihd =>
         intro hd
         have i1 := ihd (by omega)
         have hrr : l[x + d]? = some l[x + d] := List.getElem?_eq_getElem (by omega)
         have hwf := (tr_wf hc ht h0 (x + d) (by omega)).1
         rcases (ht.step (x + d) _ hrr).1 with ⟨_, g, _⟩ | ⟨_, _, g⟩
         ·exact Nat.le_trans i1 (aop_wf hc g hwf).2
         ·show _ ≤ (T (x + d + 1)).2.next
          rw [g]; exact i1
       have := this (y - x) (by omega)
       rwa [show x + (y - x) = y by omega] at this
      have hstrict : ∀ x (c : RI) (zz : List Cell), l[x]? = some c → c.op = .alc zz → awanted c.guard (T x).1 = true → (T (x + 1)).2.next = (T x).2.next + 1 := by
       intro x c zz hx hcz hcw
       rcases (ht.step x c hx).1 with ⟨_, g, _⟩ | ⟨g, _, _⟩
       ·rw [hcz] at g
        simp only [aop, Option.some.injEq, Prod.mk.injEq] at g
        rw [← g.2]; rfl
       ·rw [hcw] at g; cases g
      have hkk := hstrict k r z hr hop hw
      have hjj := hstrict j c z' h3 h4 h6
      rcases Nat.lt_or_gt_of_ne h2 with h | h
      ·rcases Nat.lt_or_ge (j + 1) k with g | g
       ·have := hmono (j + 1) k g (by omega); omega
       ·have : j + 1 = k := by omega
        rw [this] at hjj; omega
      ·have hjl := (List.getElem?_eq_some_iff.1 h3).1
       rcases Nat.lt_or_ge (k + 1) j with g | g
       ·have := hmono (k + 1) j g (by omega); omega
       ·have : k + 1 = j := by omega
        rw [this] at hkk; omega
     ·exact hj
    ·intro i' hi'
     unfold Emb.set
     rw [if_neg (by omega)]; exact e7 i' hi'
   | m | n =>
    all_goals
     have hkp := hpM (by first | exact .inl hkd | exact .inr hkd)
     subst hkp
     have hV' := hV
     rw [← hcong] at hV'
     refine .inl (s_wp hrop hc e4 e5 hV' fun ρ' v' w' hrv hst => ?_)
     refine ih _ _ _ ?_ hcnt
     rw [← hdst]
     have hle := hst.le e4
     refine inv_next ho ht hr hS hix hi.size hi.closed hcl' hi.defers hdn e1 e2 e3 e5 hle hrv (.inl ⟨rfl, rfl⟩) hst.sim ?_ ?_ (e8.trans hst.keeps)
     ·intro j c z h1 h2 h3 h4 h5 h6
      have hz := zero_later ho hc ht h0 hi.closed h3 h5 h4 h6 k h1 e1 e2
      rw [hst.old _ (e4.lt _ _ hz)]
      exact e6 j c z h1 h3 h4 h5 h6
     ·intro i' hi'
      have := (tr_wf hc ht h0 k e1).2
      rw [hst.old i' (by omega)]; exact e7 i' hi'

end
end Go.Proofs.Ytibmnlijoeppaaa
