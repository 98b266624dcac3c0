/-
  append does in the world what it does in the abstract memory; and all operations that are no call together.
-/
import Derived.Test.YtibmnlijoeppaaaOps3
namespace Go.Proofs.Ytibmnlijoeppaaa

section
variable {P : Program} {F : Nat → Prop} {ρ : Emb} {μ : Mem} {w : World} {n : Nat} {fr : Fr} {a : Act}

theorem LRel.one {cs : List Cell} {vs : List Value} (h : LRel (CRel ρ) cs vs) : ∀ u ∈ vs, u.oneCell' = true := by
  intro u hu
  obtain ⟨k, hk⟩ := List.getElem?_of_mem hu
  have hl := h.length
  have : ∃ c, cs[k]? = some c := by
    have : k < cs.length := by rw [hl]; exact (List.getElem?_eq_some_iff.1 hk).1
    exact ⟨_, List.getElem?_eq_getElem this⟩
  obtain ⟨c, hc⟩ := this
  obtain ⟨v', k1, k2⟩ := h.get hc
  rw [hk] at k1
  simp only [Option.some.injEq] at k1
  subst k1
  exact k2.one

theorem zeroCells_size (z : Array Value) (k : Nat) : (Builtin.zeroCells z k).size = k * z.size := size_zeroCells z k

theorem rd_all : ∀ (l : List Cell), rd l 0 l.length = some l := by
  have key : ∀ (m : List Cell) (pre : List Cell), rd (pre ++ m) pre.length m.length = some m := by
    intro m
    induction m with
    | nil => intro pre; rfl
    | cons c m ih =>
      intro pre
      have := ih (pre ++ [c])
      simp only [List.append_assoc, List.singleton_append, List.length_append, List.length_cons, List.length_nil, Nat.zero_add] at this
      simp only [List.length_cons, rd]
      rw [List.getElem?_append_right (Nat.le_refl _)]
      simp [this]
  intro l
  simpa using key l []

theorem run_grownCap_ge (w : World) (need old : Nat) (e : TypeId) : need ≤ grownCap w need old e := grownCap_ge w need old e

theorem Sim.kill (hs : Sim F ρ μ w) (i : Nat) : Sim F ρ (μ.setObj i none) w := by
  refine ⟨hs.dom, fun j o b x hj hρ => ?_, fun j k oj ok b x y hj hk hr hρj hρk => ?_, fun j o hj => ?_, hs.fb⟩
  · simp only [Mem.setObj] at hj
    split at hj
    · cases hj
    · exact hs.obj j o b x hj hρ
  · simp only [Mem.setObj] at hj hk
    split at hj
    · cases hj
    · split at hk
      · cases hk
      · exact hs.inj j k oj ok b x y hj hk hr hρj hρk
  · simp only [Mem.setObj] at hj
    split at hj
    · cases hj
    · exact hs.lt j o hj

variable (hs : Sim F ρ μ w) (hf : FrRel n ρ fr a.tmps)
include hs hf

theorem s_app {o : Oper} {c : Call} (ho : o.op = .call c) (hb : c.callee = .builtin .append) {r : ROp} (hr : ropCall P c = some r) {call : CallT} {v : AV} {μ' : Mem}
    (hv : aop call r fr μ = some (v, μ')) : Runs P (execOp a.eval o) F ρ μ w v μ' := by
  obtain ⟨callee, args, argTypes⟩ := c
  simp only at hb
  subst hb
  simp only [ropCall] at hr
  split at hr
  · rename_i s x t u e1 e2
    split at hr
    · rename_i e e' s' x' hut huu hsd hxd
      split at hr
      · rename_i z inf hz hi
        simp only [Option.some.injEq] at hr; subst hr
        obtain ⟨inf', zv, hi', hzv, hcl, hzl, hzp, hzs⟩ := zeroN_spec hz
        rw [hi] at hi'
        simp only [Option.some.injEq] at hi'
        subst hi'
        have ha : args = #[s, x] := Array.ext' e1
        have hat : argTypes = #[t, u] := Array.ext' e2
        subst ha; subst hat
        have hexec : ∀ vv w', (Builtin.append_ #[t, u] o.type #[a.eval s, a.eval x]).run P w = .ok vv w' → (execOp a.eval o).run P w = .ok (.value vv) w' := by
          intro vv w' h
          simp only [execOp, ho, resolve, Sem.run_bind, Sem.run_pure, Result.andThen_ok, invoke, builtin]
          simp [h]
        simp only [aop] at hv
        unfold aapp at hv
        split at hv
        · rename_i sa len cap xb m xc es ex
          have hcs := opd_rel hsd hf; rw [es] at hcs
          have hcx := opd_rel hxd hf; rw [ex] at hcx
          split at hv
          · cases hv
          · rename_i new hnew
            split at hv
            · rename_i hcond
              obtain ⟨hnl, hz0, hby, hmost⟩ := hcond
              unfold most at hby hmost
              -- what is appended, in the world
              have hsrc : ∃ news : List Value, LRel (CRel ρ) new news ∧ Src P inf.size u (a.eval x) m news w := by
                cases xb with
                | none =>
                  simp only at hnew
                  split at hnew
                  case isFalse => cases hnew
                  rename_i hxc0
                  simp only [Option.some.injEq] at hnew
                  subst hnew
                  have hm : m = 0 := by
                    simp only [List.length_nil] at hnl
                    rcases Nat.mul_eq_zero.1 hnl.symm with h | h
                    · exact h
                    · omega
                  subst hm
                  have hx : a.eval x = .slice none 0 xc := hcx.resolve_right fun e => by omega
                  rw [hx]
                  exact ⟨[], trivial, Src.ofNil w huu xc⟩
                | some p =>
                  obtain ⟨i, o'⟩ := p
                  simp only at hnew
                  split at hnew
                  · cases hnew
                  · rename_i ob hob
                    obtain ⟨b, ex', h1, h2⟩ := hcx
                    simp only [Option.bind_eq_some_iff] at hnew
                    obtain ⟨new', hnew', hcl⟩ := hnew
                    cases hcl' : clean ob.ro new' with
                    | false => rw [hcl'] at hcl; cases hcl
                    | true =>
                    rw [hcl'] at hcl
                    simp only [cond_true, Option.some.injEq] at hcl
                    subst hcl
                    obtain ⟨vs, k1, k2, k3⟩ := hs.cells hob h1 hnew' hcl'
                    rw [h2]
                    exact ⟨vs, k1, Src.ofSlice w huu ⟨b, o', none⟩ m _ vs (by rw [k2, hzl]) k3 k1.one⟩
              obtain ⟨news, hrel, hsrc⟩ := hsrc
              have hnewl := hrel.length
              -- a new block
              have grow : ∀ (base : Option Addr) (cap' : Nat) (olds : List Cell) (vols : List Value), a.eval s = .slice base len cap' → cap' < len + m → LRel (CRel ρ) olds vols → olds.length = len * z.length →
                  (Builtin.firstCells inf.size len (.slice base len cap')).run P w.drew = .ok vols.toArray w.drew → ∀ μ1 : Mem, Sim F ρ μ1 w → μ1.next = μ.next →
                  Runs P (execOp a.eval o) F ρ μ w (.c (.slc (some (μ.next, 0)) (len + m) (len + m))) (μ1.new (olds ++ new) z.length) := by
                intro base cap' olds vols hbase hlt hrel2 hol hfirst μ1 hs1 hnext
                have hfit : Builtin.nextslicecap (len + m) cap' * inf.bytes ≤ 281474976710656 := growslice_fits hlt (by omega)
                have hrun := run_append_grow_src (P := P) w t u o.type e inf zv hut hi hzv base len cap' vols hfirst (a.eval x) m news hsrc hlt (by omega) hfit
                have hge := grownCap_ge w (len + m) cap' e
                have hrelA := hrel2.append hrel
                have hlA := hrelA.length
                have hsize : ((vols ++ news).toArray ++ Builtin.zeroCells zv.cells (grownCap w (len + m) cap' e - (len + m))).size = (olds ++ new).length + (grownCap w (len + m) cap' e - (len + m)) * z.length := by
                  simp only [Array.size_append, List.size_toArray, size_zeroCells, hzs, hlA]
                have hst := hs1.drew.new (cs := olds ++ new) (esz := z.length) (x := grownCap w (len + m) cap' e - (len + m)) (fun h => by omega)
                  (c := (vols ++ news).toArray ++ Builtin.zeroCells zv.cells (grownCap w (len + m) cap' e - (len + m))) (T := e) hsize (fun k y hy => by
                    obtain ⟨v, k1, k2⟩ := hrelA.get hy
                    refine ⟨v, ?_, k2⟩
                    have hk : k < (vols ++ news).length := (List.getElem?_eq_some_iff.1 k1).1
                    rw [Array.getElem?_append_left (by simpa using hk)]
                    simpa using k1)
                rw [hnext] at hst
                refine ⟨_, _, _, .inl (hexec _ _ (by rw [hbase]; exact hrun)), ⟨w.heap.size, grownCap w (len + m) cap' e - (len + m), by simp [Emb.set], ?_⟩, ⟨hst.sim, fun i hi => hst.old i (by rw [hnext]; exact hi), by have := hst.next; rw [hnext] at this; exact this, (Keeps.drew w).trans hst.keeps⟩⟩
                congr 1
                omega
              split at hv
              · -- nothing there
                split at hv
                · rename_i h0
                  obtain ⟨rfl, rfl⟩ := h0
                  have hx : a.eval s = .slice none 0 0 := hcs.resolve_right fun e => by omega
                  split at hv
                  · rename_i hm
                    subst hm
                    simp only [Option.some.injEq, Prod.mk.injEq] at hv
                    obtain ⟨rfl, rfl⟩ := hv
                    refine Runs.still hs (v' := .slice none 0 0) (hexec _ _ ?_) (.inl rfl)
                    rw [hx]
                    have h1 := hsrc.len w
                    have h2 := hsrc.cells
                    rcases hsrc.kind with ⟨e'', hk⟩ | hk
                    · simp [Builtin.append_, run_underlying hut, run_underlying hk, sizeOf, typeInfo, hi, h1, h2]
                    · simp [Builtin.append_, run_underlying hut, run_underlying hk, sizeOf, typeInfo, hi, h1, h2]
                  · rename_i hm
                    simp only [Option.some.injEq, Prod.mk.injEq] at hv
                    obtain ⟨rfl, rfl⟩ := hv
                    have := grow none 0 [] [] hx (by omega) trivial (by simp) (by simp [Builtin.firstCells]) μ hs rfl
                    simpa using this
                · cases hv
              · rename_i i o'
                obtain ⟨b, ex', h1, h2⟩ := hcs
                split at hv
                · -- there is room
                  rename_i hroom
                  simp only [Option.map_eq_some_iff, Prod.mk.injEq] at hv
                  obtain ⟨μ1, hst, rfl, rfl⟩ := hv
                  obtain ⟨k1, k2, k3⟩ := hs.st h1 hrel hst
                  have hrun := run_append_room_src (P := P) w t u o.type e inf hut hi b o' len (cap + ex') (a.eval x) m news hsrc (by omega)
                    (fun j hj => by rw [← hzl]; exact k2 j hj) (fun j _ => by rw [← hzl]; exact k3 j)
                  refine ⟨ρ, _, _, .inl (hexec _ _ (by rw [h2]; exact hrun)), ⟨b, ex', h1, rfl⟩, by rw [← hzl]; exact k1⟩
                · rename_i hroom
                  split at hv
                  · cases hv
                  · rename_i ob hob
                    split at hv
                    · rename_i hc
                      obtain ⟨hro, ho0, hlc, hcl2, hesz⟩ := hc
                      subst ho0
                      subst hlc
                      simp only [Option.some.injEq, Prod.mk.injEq] at hv
                      obtain ⟨rfl, rfl⟩ := hv
                      obtain ⟨C, T, fz, q1, q2, q3, q4, q5⟩ := hs.obj i ob b ex' hob h1
                      obtain ⟨hF, rfl⟩ := q5 hro
                      by_cases hfit : len + m ≤ len + ex'
                      · -- the block has room
                        have hfit2 : len * inf.size + news.length ≤ C.size := by
                          rw [q2, hcl2, ← hnewl, hnl, hesz, ← hzl]
                          have : (len + m) * z.length ≤ (len + ex') * z.length := Nat.mul_le_mul_right _ hfit
                          rw [Nat.add_mul, Nat.add_mul] at this
                          omega
                        have hcellsome : ∀ j, j < news.length → (w.cell? ⟨b, 0 + len * inf.size + j, none⟩).isSome = true := by
                          intro j hj
                          rw [cell_of q1]
                          rw [Array.getElem?_eq_getElem (by omega)]; rfl
                        have hrun := run_append_room_src (P := P) w t u o.type e inf hut hi b 0 len (len + ex') (a.eval x) m news hsrc hfit hcellsome (fun j _ => frozen_of q1)
                        obtain ⟨C', r1, r2, r3, r4, r5, r6, r7, r8⟩ := setCells_facts news w b (0 + len * inf.size) C T (0, 0) q1 (by omega)
                        have hnone : ρ μ.next = none := by
                          cases e : ρ μ.next with
                          | none => rfl
                          | some p => exact absurd (hs.dom _ p.1 p.2 e).1 (Nat.lt_irrefl _)
                        have hne : ∀ j b' x', ρ j = some (b', x') → j ≠ μ.next := fun j b' x' hj => Nat.ne_of_lt (hs.dom j b' x' hj).1
                        have hil : i < μ.next := hs.lt i ob hob
                        have hobj : ∀ j, ((μ.setObj i none).new (ob.cells ++ new) z.length).obj j = if j = μ.next then some ⟨ob.cells ++ new, z.length, false⟩ else if j = i then none else μ.obj j := fun _ => rfl
                        have hnx : ((μ.setObj i none).new (ob.cells ++ new) z.length).next = μ.next + 1 := rfl
                        refine ⟨ρ.set μ.next b (len + ex' - (len + m)), _, _, .inl (hexec _ _ (by rw [h2]; exact hrun)), ⟨b, len + ex' - (len + m), by simp [Emb.set], ?_⟩, ?_⟩
                        · congr 1
                          omega
                        · have hle : ρ.Le (ρ.set μ.next b (len + ex' - (len + m))) := Emb.le_set hnone
                          refine ⟨⟨?_, ?_, ?_, ?_, ?_⟩, ?_, ?_, ?_⟩
                          · intro j b' x' hj
                            unfold Emb.set at hj
                            rw [r5, hnx]
                            split at hj
                            · rename_i e; subst e
                              simp only [Option.some.injEq, Prod.mk.injEq] at hj
                              have := (hs.dom i b ex' h1).2
                              omega
                            · have := hs.dom j b' x' hj; omega
                          · intro j oj b' x' hj hρ
                            rw [hobj] at hj
                            unfold Emb.set at hρ
                            by_cases e : j = μ.next
                            · subst e
                              rw [if_pos rfl] at hj hρ
                              simp only [Option.some.injEq, Prod.mk.injEq] at hj hρ
                              subst hj
                              obtain ⟨rfl, rfl⟩ := hρ
                              refine ⟨C', T, (0, 0), r1, ?_, fun h => by simp only at h; omega, fun k y hy => ?_, fun _ => ⟨hF, rfl⟩⟩
                              · rw [r2, q2]
                                simp only [List.length_append, hcl2, hnl, hesz]
                                have e1 : (len + ex' - (len + m)) * z.length + (len + m) * z.length = (len + ex') * z.length := by
                                  rw [← Nat.add_mul]; congr 1; omega
                                rw [Nat.add_mul len, Nat.add_mul len] at e1
                                omega
                              · simp only at hy
                                rw [r3, ← hzl]
                                by_cases e : k < ob.cells.length
                                · rw [List.getElem?_append_left e] at hy
                                  rw [if_neg (by omega)]
                                  obtain ⟨v, k1, k2⟩ := (q4 k y hy).resolve_left fun e => by rw [hro] at e; cases e.1
                                  exact .inr ⟨v, k1, k2.mono hle⟩
                                · rw [List.getElem?_append_right (by omega)] at hy
                                  have hk : k - ob.cells.length < new.length := (List.getElem?_eq_some_iff.1 hy).1
                                  rw [if_pos (by omega)]
                                  obtain ⟨v, k1, k2⟩ := hrel.get hy
                                  refine .inr ⟨v, ?_, k2.mono hle⟩
                                  rw [← k1]
                                  congr 1
                                  omega
                            · rw [if_neg e] at hj hρ
                              by_cases e' : j = i
                              · subst e'; simp at hj
                              · rw [if_neg e'] at hj
                                have hbb : b' ≠ b := fun e2 => e' (hs.inj i j ob oj b ex' x' hob hj hro h1 (e2 ▸ hρ)).symm
                                rw [r4 b' hbb]
                                obtain ⟨c', T', fz, t1, t2, t3, t4, t5⟩ := hs.obj j oj b' x' hj hρ
                                exact ⟨c', T', fz, t1, t2, t3, fun k y hy => (t4 k y hy).imp_right fun ⟨v, k1, k2⟩ => ⟨v, k1, k2.mono hle⟩, t5⟩
                          · intro j k oj ok b' x' y' hj hk hr hρj hρk
                            rw [hobj] at hj hk
                            unfold Emb.set at hρj hρk
                            by_cases e : j = μ.next
                            · subst e
                              by_cases e2 : k = μ.next
                              · exact e2.symm
                              · rw [if_pos rfl] at hρj
                                rw [if_neg e2] at hρk hk
                                simp only [Option.some.injEq, Prod.mk.injEq] at hρj
                                obtain ⟨rfl, rfl⟩ := hρj
                                by_cases e3 : k = i
                                · subst e3; simp at hk
                                · rw [if_neg e3] at hk
                                  exact absurd (hs.inj i k ob ok b ex' y' hob hk hro h1 hρk).symm e3
                            · rw [if_neg e] at hρj hj
                              by_cases e1 : j = i
                              · subst e1; simp at hj
                              · rw [if_neg e1] at hj
                                by_cases e2 : k = μ.next
                                · subst e2
                                  rw [if_pos rfl] at hρk
                                  simp only [Option.some.injEq, Prod.mk.injEq] at hρk
                                  obtain ⟨rfl, rfl⟩ := hρk
                                  exact absurd (hs.inj j i oj ob b x' ex' hj hob hr hρj h1) e1
                                · rw [if_neg e2] at hρk hk
                                  by_cases e3 : k = i
                                  · subst e3; simp at hk
                                  · rw [if_neg e3] at hk
                                    exact hs.inj j k oj ok b' x' y' hj hk hr hρj hρk
                          · intro j oj hj
                            rw [hobj] at hj
                            rw [hnx]
                            by_cases e : j = μ.next
                            · omega
                            · rw [if_neg e] at hj
                              by_cases e1 : j = i
                              · omega
                              · rw [if_neg e1] at hj
                                have := hs.lt j oj hj; omega
                          · intro b' hb'; rw [r5]; exact hs.fb b' hb'
                          · intro j hj
                            unfold Emb.set
                            rw [if_neg (Nat.ne_of_lt hj)]
                          · rw [hnx]; exact Nat.le_succ _
                          · exact ⟨r6, r7, r8, by rw [r5]; exact Nat.le_refl _, fun b' hb' => r4 b' (fun e => hF (e ▸ hb'))⟩
                      · -- a new block
                        have hrd : rd ob.cells 0 (len * z.length) = some ob.cells := by rw [← hcl2]; exact rd_all _
                        obtain ⟨vs, k1, k2, k3⟩ := hs.cells hob h1 hrd (by rw [hro]; rfl)
                        have hfirst : (Builtin.firstCells inf.size len (.slice (some ⟨b, 0, none⟩) len (len + ex'))).run P w.drew = .ok vs.toArray w.drew := by
                          exact run_firstCells_some (P := P) w.drew inf.size len ⟨b, 0, none⟩ len (len + ex') vs (by rw [k2, hzl]) k3
                        exact grow (some ⟨b, 0, none⟩) (len + ex') ob.cells vs h2 (by omega) k1 hcl2 hfirst (μ.setObj i none) (hs.kill i) rfl
                    · cases hv
            · cases hv
        · cases hv
      · cases hr
    · cases hr
  · cases hr

/-- Every operation that is no call. -/
theorem s_op {o : Oper} {r : ROp} (hr : rop P o.op = some r) (hnc : ∀ f l, r ≠ .call f l) (hnv : ∀ f l, r ≠ .callv f l) {call : CallT} {v : AV} {μ' : Mem} (hv : aop call r fr μ = some (v, μ')) :
    Runs P (execOp a.eval o) F ρ μ w v μ' := by
  cases ho : o.op with
  | move x => exact s_move hs hf (.inl ho) hr hv
  | assign x => exact s_move hs hf (.inr ho) hr hv
  | pick c x y => exact s_pick hs hf ho hr hv
  | alloc t =>
    rw [ho] at hr
    simp only [rop, Option.map_eq_some_iff] at hr
    obtain ⟨z, hz, rfl⟩ := hr
    simp only [aop, Option.some.injEq, Prod.mk.injEq] at hv
    obtain ⟨rfl, rfl⟩ := hv
    exact s_alc hs ho hz
  | box t x => exact s_box hs hf ho hr hv
  | build t ps => exact s_build hs hf ho hr hv
  | buildSlice t l ps => exact s_bsl hs hf ho hr hv
  | load t x => exact s_ld hs hf ho hr hv
  | store t x y => exact s_st hs hf ho hr hv
  | nilCheck x => exact s_nc hs hf ho hr hv
  | binOp op t x y u => exact s_bin hs hf ho hr hv
  | unOp op t x => cases op <;> first | exact s_not hs hf ho hr hv | (rw [ho] at hr; simp [rop] at hr)
  | convert t u x => exact s_conv hs hf ho hr hv
  | makeFunc fn f c => exact s_mkf hs hf ho hr hv
  | makeSlice t x y => exact s_mks hs hf ho hr hv
  | slice t x l h m => exact s_slc hs hf ho hr hv
  | fieldAddr s x f => exact s_fa hs hf ho hr hv
  | field t x f => exact s_fld hs hf ho hr hv
  | indexAddr t x i => exact s_idx hs hf ho hr hv
  | extract x i => exact s_ext hs hf ho hr hv
  | call c =>
    have hr' : ropCall P c = some r := by rw [ho] at hr; exact hr
    cases hcal : c.callee with
    | builtin b =>
      cases b <;> first
        | exact s_len hs hf ho hcal hr' hv
        | exact s_app hs hf ho hcal hr' hv
        | (unfold ropCall at hr'; rw [hcal] at hr'; cases hr')
    | value x =>
      exfalso
      unfold ropCall at hr'
      rw [hcal] at hr'
      cases x <;> simp only at hr'
      case func f =>
        split at hr'
        · simp only [Option.map_eq_some_iff] at hr'
          obtain ⟨l, _, rfl⟩ := hr'
          exact hnc _ _ rfl
        · cases hr'
      all_goals
        split at hr'
        · simp only [Option.some.injEq] at hr'; subst hr'
          exact hnv _ _ rfl
        · cases hr'
    | invoke x m => unfold ropCall at hr'; rw [hcal] at hr'; cases hr'
  | _ => rw [ho] at hr; simp [rop] at hr

end
end Go.Proofs.Ytibmnlijoeppaaa
