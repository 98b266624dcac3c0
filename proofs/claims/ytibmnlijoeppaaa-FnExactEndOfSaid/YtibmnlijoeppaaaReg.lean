/-
  Facts on the abstract operations alone (what they look at, what they change), and one operation of a region, a call among them, in the world.
-/
import Derived.Test.YtibmnlijoeppaaaOps4
namespace Go.Proofs.Ytibmnlijoeppaaa

def Mem.WF (μ : Mem) : Prop := ∀ i o, μ.obj i = some o → i < μ.next

theorem Mem.WF.new {μ : Mem} (h : μ.WF) (cs : List Cell) (e : Nat) : (μ.new cs e).WF := by
  intro i o hi
  simp only [Mem.new] at hi ⊢
  split at hi
  · omega
  · have := h i o hi; omega
theorem Mem.WF.kill {μ : Mem} (h : μ.WF) (j : Nat) : (μ.setObj j none).WF := by
  intro i o hi
  simp only [Mem.setObj] at hi ⊢
  split at hi
  · cases hi
  · exact h i o hi
theorem Mem.WF.st {μ μ' : Mem} (h : μ.WF) {i o : Nat} {cs : List Cell} (hs : μ.st i o cs = some μ') : μ'.WF ∧ μ'.next = μ.next := by
  unfold Mem.st at hs
  split at hs
  · cases hs
  · rename_i ob hob
    split at hs
    · simp only [Option.some.injEq] at hs; subst hs
      refine ⟨fun j o' hj => ?_, rfl⟩
      simp only [Mem.setObj] at hj ⊢
      split at hj
      · rename_i e; subst e; exact h j ob hob
      · exact h j o' hj
    · cases hs

/-- What a call must be. -/
structure CallOK (P : Program) (call : CallT) : Prop where
  go : ∀ f args μ v μ', call f args μ = some (v, μ') → goFn P f = true
  wf : ∀ f args μ v μ', call f args μ = some (v, μ') → μ.WF → μ'.WF ∧ μ.next ≤ μ'.next
  sim : ∀ f args μ v μ', call f args μ = some (v, μ') → ∀ (F : Nat → Prop) (ρ : Emb) (w : World) (cargs : List Value), Sim F ρ μ w → LRel (AVRel ρ) args cargs →
    Calls P f cargs.toArray w (fun e w' => ∃ ρ' v', e = .returned v' ∧ AVRel ρ' v v' ∧ Steps' F ρ μ w ρ' μ' w')

theorem aapp_wf {sz by_ : Nat} {s x : AV} {μ μ' : Mem} {v : AV} (h : aapp sz by_ s x μ = some (v, μ')) (hw : μ.WF) : μ'.WF ∧ μ.next ≤ μ'.next := by
  unfold aapp at h
  split at h
  · split at h
    · cases h
    · split at h
      · split at h
        · split at h
          · split at h
            · simp only [Option.some.injEq, Prod.mk.injEq] at h; obtain ⟨_, rfl⟩ := h; exact ⟨hw, Nat.le_refl _⟩
            · simp only [Option.some.injEq, Prod.mk.injEq] at h; obtain ⟨_, rfl⟩ := h; exact ⟨hw.new _ _, Nat.le_succ _⟩
          · cases h
        · split at h
          · simp only [Option.map_eq_some_iff, Prod.mk.injEq] at h
            obtain ⟨μ1, h1, _, rfl⟩ := h
            have := hw.st h1
            exact ⟨this.1, by rw [this.2]; exact Nat.le_refl _⟩
          · split at h
            · cases h
            · split at h
              · simp only [Option.some.injEq, Prod.mk.injEq] at h; obtain ⟨_, rfl⟩ := h; exact ⟨(hw.kill _).new _ _, Nat.le_succ _⟩
              · cases h
      · cases h
  · cases h

/-- Reading and looking change nothing; the rest keeps memory in form. -/
theorem aop_still {r : ROp} (hk : r.kd = .p ∨ r.kd = .l) {call : CallT} {fr : Fr} {μ μ' : Mem} {v : AV} (h : aop call r fr μ = some (v, μ')) : μ' = μ := by
  cases r <;> simp only [ROp.kd, reduceCtorEq, or_self, or_true, true_or] at hk <;> simp only [aop] at h <;> (repeat' split at h) <;>
    first
      | (cases h; done)
      | (simp only [Option.some.injEq, Prod.mk.injEq] at h; exact h.2.symm)
      | (simp only [Option.map_eq_some_iff, Prod.mk.injEq] at h; obtain ⟨_, _, _, rfl⟩ := h; rfl)

theorem aop_wf {P : Program} {call : CallT} (hc : CallOK P call) {r : ROp} {fr : Fr} {μ μ' : Mem} {v : AV} (h : aop call r fr μ = some (v, μ')) (hw : μ.WF) : μ'.WF ∧ μ.next ≤ μ'.next := by
  by_cases hk : r.kd = .p ∨ r.kd = .l
  · rw [aop_still hk h]; exact ⟨hw, Nat.le_refl _⟩
  · cases r <;> simp only [ROp.kd, reduceCtorEq, or_self, or_true, true_or, not_true_eq_false, not_false_eq_true] at hk <;> simp only [aop] at h
    case st a x n =>
      split at h
      · split at h
        · simp only [Option.map_eq_some_iff, Prod.mk.injEq] at h
          obtain ⟨μ1, h1, _, rfl⟩ := h
          have := hw.st h1
          exact ⟨this.1, by rw [this.2]; exact Nat.le_refl _⟩
        · cases h
      · cases h
    case bsl z len ps =>
      simp only [Option.map_eq_some_iff, Prod.mk.injEq] at h
      obtain ⟨l, _, _, rfl⟩ := h
      exact ⟨hw.new _ _, Nat.le_succ _⟩
    case alc z =>
      simp only [Option.some.injEq, Prod.mk.injEq] at h
      obtain ⟨_, rfl⟩ := h
      exact ⟨hw.new _ _, Nat.le_succ _⟩
    case box x n =>
      split at h
      · simp only [Option.some.injEq, Prod.mk.injEq] at h
        obtain ⟨_, rfl⟩ := h
        exact ⟨hw.new _ _, Nat.le_succ _⟩
      · cases h
    case mks z b l c =>
      unfold amks at h
      split at h
      · split at h
        · simp only [Option.some.injEq, Prod.mk.injEq] at h
          obtain ⟨_, rfl⟩ := h
          exact ⟨hw.new _ _, Nat.le_succ _⟩
        · cases h
      · cases h
    case app => exact aapp_wf h hw
    case call f args => exact hc.wf _ _ _ _ _ h hw
    case callv f args =>
      split at h
      · exact hc.wf _ _ _ _ _ h hw
      · cases h

/-- What only looks at slots does not ask memory. -/
theorem aop_p {r : ROp} (hk : r.kd = .p) {call : CallT} {fr : Fr} {μ μ' : Mem} {v : AV} (h : aop call r fr μ = some (v, μ')) (μ2 : Mem) : aop call r fr μ2 = some (v, μ2) := by
  cases r <;> simp only [ROp.kd, reduceCtorEq] at hk <;> simp only [aop] at h ⊢ <;> (repeat' split at h) <;>
    first
      | (cases h; done)
      | (simp only [Option.some.injEq, Prod.mk.injEq] at h; simp only [Option.some.injEq, Prod.mk.injEq, and_true]; exact h.1)
      | (simp only [Option.map_eq_some_iff, Prod.mk.injEq] at h; obtain ⟨x, h1, h2, _⟩ := h; simp only [h1, Option.map_some, h2])
      | skip
  all_goals simp_all

/-- New memory beside the old: what reads reads the same. -/
theorem aop_l_new {r : ROp} (hk : r.kd = .l) {call : CallT} {fr : Fr} {μ : Mem} {v : AV} (hw : μ.WF) (h : aop call r fr μ = some (v, μ)) (cs : List Cell) (e : Nat) :
    aop call r fr (μ.new cs e) = some (v, μ.new cs e) := by
  have hobj : ∀ i o, μ.obj i = some o → (μ.new cs e).obj i = some o := by
    intro i o hi
    have := hw i o hi
    simp only [Mem.new]
    rw [if_neg (by omega)]; exact hi
  cases r <;> simp only [ROp.kd, reduceCtorEq] at hk <;> simp only [aop] at h ⊢
  case ld n a =>
    split at h
    · simp only [Option.map_eq_some_iff, Prod.mk.injEq] at h
      obtain ⟨x, h1, h2, _⟩ := h
      subst h2
      rename_i i o hev
      unfold Mem.ld at h1
      split at h1
      · cases h1
      · rename_i ob hob
        unfold Mem.ld
        rw [hobj _ ob hob]
        simp only [h1, Option.map_some]
    · cases h
  case sla n x =>
    split at h
    · rename_i a hev
      split at h
      · rename_i ob hob
        rw [hobj a.1 ob hob]
        split at h
        · rename_i he
          simp only [Option.some.injEq, Prod.mk.injEq, and_true] at h
          simp only [he, if_true, h]
        · cases h
      · cases h
    · cases h

/-! ### What an operation looks at -/

theorem ev_congr {x : Opd} {fr fr' : Fr} (h : ∀ t ∈ x.slots, fr t = fr' t) : x.ev fr = x.ev fr' := by
  cases x with
  | t n => exact h n (by simp [Opd.slots])
  | k c => rfl

theorem evs_congr {l : List Opd} {fr fr' : Fr} (h : ∀ t ∈ l.flatMap Opd.slots, fr t = fr' t) : l.map (Opd.ev fr) = l.map (Opd.ev fr') :=
  List.map_congr_left fun x hx => ev_congr fun t ht => h t (List.mem_flatMap.2 ⟨x, hx, ht⟩)

theorem fillc_congr {fr fr' : Fr} : ∀ (l : List (Nat × Nat × Opd)) (cs : List Cell), (∀ t ∈ (l.map fun p => p.2.2).flatMap Opd.slots, fr t = fr' t) → fillc fr cs l = fillc fr' cs l
  | [], _, _ => rfl
  | (o, n, x) :: l, cs, h => by
    have h1 : x.ev fr = x.ev fr' := ev_congr fun t ht => h t (by simp [ht])
    simp only [fillc, h1]
    split
    · exact fillc_congr l _ fun t ht => h t (by simp only [List.map_cons, List.flatMap_cons, List.mem_append]; exact .inr ht)
    · rfl

theorem aop_congr {r : ROp} {call : CallT} {fr fr' : Fr} {μ : Mem} (h : ∀ t ∈ r.opds.flatMap Opd.slots, fr t = fr' t) : aop call r fr μ = aop call r fr' μ := by
  have e : ∀ x ∈ r.opds, x.ev fr = x.ev fr' := fun x hx => ev_congr fun t ht => h t (List.mem_flatMap.2 ⟨x, hx, ht⟩)
  cases r <;> simp only [ROp.opds, List.mem_cons, List.not_mem_nil, or_false, forall_eq_or_imp, forall_eq] at e h <;> simp only [aop]
  case bld z l => rw [fillc_congr l z h]
  case bsl z n l =>
    rw [fillc_congr (l.map fun p => (p.1 * z.length, z.length, p.2)) _ (fun t ht => h t (by simpa using ht))]
  case call f l => rw [evs_congr h]
  case mkf f l => rw [evs_congr h]
  case callv x l =>
    rw [e.1]
    have : l.map (Opd.ev fr) = l.map (Opd.ev fr') := List.map_congr_left fun y hy => e.2 y hy
    rw [this]
  case slc sz x lo hi =>
    rw [e.1]
    have h1 : lo.map (Opd.ev fr) = lo.map (Opd.ev fr') := by
      cases lo with
      | none => rfl
      | some y => simp only [Option.map_some]; rw [e.2 y (by simp)]
    have h2 : hi.map (Opd.ev fr) = hi.map (Opd.ev fr') := by
      cases hi with
      | none => rfl
      | some y => simp only [Option.map_some]; rw [e.2 y (by simp)]
    rw [h1, h2]
  all_goals simp only [e]

/-! ### One operation in the world -/

section
variable {P : Program} {F : Nat → Prop} {ρ : Emb} {μ μ' : Mem} {w : World} {n : Nat} {fr : Fr} {a : Act} {call : CallT}

theorem goFn_run {f : FuncId} (h : goFn P f = true) (args : Array Value) : (callFunc f args).run P w = .ok (.enter f args) w := by
  unfold goFn at h
  split at h
  · rename_i fn hfn
    simp only [Bool.and_eq_true, bne_iff_ne, ne_eq] at h
    have hb : fn.body.isNone = false := by cases hbb : fn.body <;> simp_all
    simp only [callFunc, Sem.run_bind, run_program, Result.andThen_ok, hfn]
    have h1 : (fn.name == "runtime.NumGoroutine") = false := by simpa using h.1
    simp [h1, hb]
  · cases h

theorem rop_call {op : Op} {f : Nat} {l : List Opd} (h : rop P op = some (.call f l)) : ∃ c, op = .call c ∧ c.callee = .value (.func f) ∧ opds c.args.toList = some l := by
  have h1 : ∃ c, op = .call c ∧ ropCall P c = some (.call f l) := by
    unfold rop at h
    split at h
    all_goals first
      | exact ⟨_, rfl, h⟩
      | (exfalso; (repeat' split at h) <;> simp at h)
  obtain ⟨c, hc, hr⟩ := h1
  refine ⟨c, hc, ?_⟩
  unfold ropCall at hr
  split at hr
  · (repeat' split at hr) <;> cases hr
  · (repeat' split at hr) <;> cases hr
  · rename_i f' hcal
    split at hr
    · simp only [Option.map_eq_some_iff, ROp.call.injEq] at hr
      obtain ⟨l', h3, rfl, rfl⟩ := hr
      exact ⟨hcal, h3⟩
    · cases hr
  · (repeat' split at hr) <;> cases hr
  · cases hr

theorem rop_callv {op : Op} {f : Opd} {l : List Opd} (h : rop P op = some (.callv f l)) : ∃ c x, op = .call c ∧ c.callee = .value x ∧ opd x = some f ∧ opds c.args.toList = some l := by
  have h1 : ∃ c, op = .call c ∧ ropCall P c = some (.callv f l) := by
    unfold rop at h
    split at h
    all_goals first
      | exact ⟨_, rfl, h⟩
      | (exfalso; (repeat' split at h) <;> simp at h)
  obtain ⟨c, hc, hr⟩ := h1
  refine ⟨c, ?_⟩
  unfold ropCall at hr
  split at hr
  · (repeat' split at hr) <;> cases hr
  · (repeat' split at hr) <;> cases hr
  · rename_i f' hcal
    split at hr
    · simp only [Option.map_eq_some_iff, reduceCtorEq, and_false, exists_const] at hr
    · cases hr
  · rename_i x _ hcal
    split at hr
    · rename_i y l' h3 h4
      simp only [Option.some.injEq, ROp.callv.injEq] at hr
      obtain ⟨rfl, rfl⟩ := hr
      exact ⟨x, hc, hcal, h3, h4⟩
    · cases hr
  · cases hr

theorem s_wp {o : Oper} {r : ROp} (hr : rop P o.op = some r) (hc : CallOK P call) (hs : Sim F ρ μ w) (hf : FrRel n ρ fr a.tmps) {v : AV} (hv : aop call r fr μ = some (v, μ'))
    {K : Act → World → Prop} {Q : Exit → Act → World → Prop} (hK : ∀ ρ' v' w', AVRel ρ' v v' → Steps' F ρ μ w ρ' μ' w' → K (a.put o.dst v') w') : o.wp P a w K Q := by
  by_cases h1 : ∃ f l, r = .call f l
  · obtain ⟨f, l, rfl⟩ := h1
    simp only [aop] at hv
    have ho := rop_call hr
    obtain ⟨c, ho, hcal, hargs⟩ := ho
    have hrel := opds_rel (ρ := ρ) (a := a) hargs hf
    have hsim := hc.sim _ _ _ _ _ hv F ρ w _ hs hrel
    have hgo := hc.go _ _ _ _ _ hv
    unfold Oper.wp
    have hexec : (execOp a.eval o).run P w = .ok (.enter f (c.args.toList.map a.eval).toArray) w := by
      simp only [execOp, ho, resolve, hcal, Act.eval, Deferred.ofValue, Sem.run_bind, Sem.run_pure, Result.andThen_ok, invoke]
      have e1 : (#[] ++ Array.map a.eval c.args) ++ #[] = (c.args.toList.map a.eval).toArray := by apply Array.ext'; simp
      have := goFn_run (P := P) (w := w) hgo ((#[] ++ Array.map a.eval c.args) ++ #[])
      rw [← e1]
      exact this
    rw [hexec]
    simp only [Oper.upon]
    refine hsim.mono fun e w' ⟨ρ', v', he, hrv, hst⟩ => ?_
    subst he
    exact hK ρ' v' w' hrv hst
  · by_cases h2 : ∃ f l, r = .callv f l
    · obtain ⟨f, l, rfl⟩ := h2
      simp only [aop] at hv
      have ho := rop_callv hr
      obtain ⟨c, x, ho, hcal, hx, hargs⟩ := ho
      split at hv
      · rename_i g caps hg
        have hcx := opd_rel hx hf; rw [hg] at hcx
        obtain ⟨vs, k1, k2⟩ := hcx
        have hrel := (opds_rel (ρ := ρ) (a := a) hargs hf)
        have hcaps : LRel (AVRel ρ) (caps.map fun a => AV.c (.ptr (some a))) vs := by
          clear k1 hv hg
          induction caps generalizing vs with
          | nil => cases vs with
            | nil => trivial
            | cons v vs => exact k2.elim
          | cons c cs ih => cases vs with
            | nil => exact k2.elim
            | cons v vs => exact ⟨k2.1, ih vs k2.2⟩
        have hsim := hc.sim _ _ _ _ _ hv F ρ w _ hs (hrel.append hcaps)
        have hgo := hc.go _ _ _ _ _ hv
        unfold Oper.wp
        have hexec : (execOp a.eval o).run P w = .ok (.enter g (c.args.toList.map a.eval ++ vs).toArray) w := by
          simp only [execOp, ho, resolve, hcal, k1, Deferred.ofValue, Sem.run_bind, Sem.run_pure, Result.andThen_ok, invoke]
          have e1 : (#[] ++ Array.map a.eval c.args) ++ vs.toArray = (c.args.toList.map a.eval ++ vs).toArray := by simp
          have := goFn_run (P := P) (w := w) hgo ((#[] ++ Array.map a.eval c.args) ++ vs.toArray)
          rw [← e1]
          exact this
        rw [hexec]
        simp only [Oper.upon]
        refine hsim.mono fun e w' ⟨ρ', v', he, hrv, hst⟩ => ?_
        subst he
        exact hK ρ' v' w' hrv hst
      · cases hv
    · obtain ⟨ρ', v', w', hrun, hrv, hst⟩ := s_op hs hf hr (fun f l e => h1 ⟨f, l, e⟩) (fun f l e => h2 ⟨f, l, e⟩) hv
      unfold Oper.wp
      rcases hrun with h | ⟨h, rfl⟩
      · rw [h]; exact hK ρ' v' w' hrv hst
      · rw [h]; exact hK ρ' undef w' hrv hst

/-- The guard. -/
theorem wanted_rel {ops : Array Oper} {i : Nat} {nt : Nat} {r : RI} {o : Oper} (h0 : ri0 P ops nt i = some r) (ho : ops[i]? = some o) (hf : FrRel n ρ fr a.tmps) :
    Region.wanted o (yielded ops a.tmps) = awanted r.guard fr := by
  unfold ri0 at h0
  rw [ho] at h0
  simp only at h0
  split at h0
  · cases h0
  · split at h0
    · split at h0
      · rename_i hg
        simp only [Option.some.injEq] at h0; subst h0
        simp [Region.wanted, hg, awanted]
      · rename_i j want hg
        split at h0
        · rename_i d hd
          simp only [Option.some.injEq] at h0; subst h0
          simp only [Region.wanted, hg, awanted, yielded, hd, Option.bind_some]
          have hr := hf.2 d
          have hget : a.tmps.getD d undef = (a.tmps[d]?).getD undef := by simp
          rw [hget] at hr
          cases ht : a.tmps[d]? with
          | none =>
            rw [ht] at hr
            simp only [Option.getD_none] at hr
            cases hfd : fr d with
            | c x =>
              rw [hfd] at hr
              have hone := CRel.one (c := x) hr
              simp [undef, Value.oneCell'] at hone
            | agg l => rfl
            | tup l => rfl
          | some v =>
            rw [ht] at hr
            simp only [Option.getD_some] at hr
            cases hfd : fr d with
            | c x =>
              rw [hfd] at hr
              cases x with
              | bool b => have : v = .bool b := hr; subst this; cases b <;> cases want <;> rfl
              | int k m => have : v = .int k m := hr; subst this; rfl
              | ptr p => cases p with
                | none => have : v = .pointer none := hr; subst this; rfl
                | some p => obtain ⟨_, _, _, h⟩ := hr; subst h; rfl
              | slc p l c => cases p with
                | none =>
                  rcases hr with h | ⟨_, _, _, _, h⟩
                  · subst h; rfl
                  · subst h; rfl
                | some p => obtain ⟨_, _, _, h⟩ := hr; subst h; rfl
              | fn f caps => obtain ⟨_, h, _⟩ := hr; subst h; rfl
              | nilfn => have : v = .nilFunc := hr; subst this; rfl
            | agg l => rw [hfd] at hr; obtain ⟨vs, h, _⟩ := hr; subst h; rfl
            | tup l => rw [hfd] at hr; obtain ⟨vs, h, _⟩ := hr; subst h; rfl
        · cases h0
    · cases h0

theorem ri0_spec {ops : Array Oper} {i nt : Nat} {r : RI} (h0 : ri0 P ops nt i = some r) :
    ∃ o, ops[i]? = some o ∧ r.ix = i ∧ rop P o.op = some r.op ∧ r.dst = o.dst ∧ (∀ d, r.dst = some d → d < nt) ∧ r.re = [] := by
  unfold ri0 at h0
  split at h0
  · cases h0
  · rename_i o ho
    split at h0
    · cases h0
    · rename_i q hq
      split at h0
      · rename_i hd
        have key : ∀ d, o.dst = some d → d < nt := by
          intro d e
          rw [e] at hd
          simpa [dstOk] using hd
        split at h0
        · simp only [Option.some.injEq] at h0; subst h0
          exact ⟨o, ho, rfl, hq, rfl, key, rfl⟩
        · split at h0
          · simp only [Option.some.injEq] at h0; subst h0
            exact ⟨o, ho, rfl, hq, rfl, key, rfl⟩
          · cases h0
      · cases h0

end
end Go.Proofs.Ytibmnlijoeppaaa
