/-
  The operations that lay out structs and slices, that make variables and slices, that cut and that append, do in the world what they do in the abstract memory.
-/
import Derived.Test.YtibmnlijoeppaaaOps2
namespace Go.Proofs.Ytibmnlijoeppaaa

section
variable {P : Program} {F : Nat → Prop} {ρ : Emb} {μ : Mem} {w : World} {n : Nat} {fr : Fr} {a : Act}

theorem wr_rel : ∀ (cs : List Cell) (vs : List Value) (l : List Cell) (arr : Array Value) (o k : Nat), LRel (CRel ρ) cs vs → LRel (CRel ρ) l arr.toList →
    LRel (CRel ρ) (wr l (o + k) cs) ((vs.zipIdx k).foldl (fun (cs : Array Value) (p : Value × Nat) => cs.setIfInBounds (o + p.2) p.1) arr).toList
  | [], [], _, _, _, _, _, h => h
  | c :: cs, v :: vs, l, arr, o, k, ⟨h1, h2⟩, h => by
    simp only [wr, List.zipIdx_cons, List.foldl_cons]
    refine wr_rel cs vs _ _ o (k + 1) h2 ?_
    refine LRel.of_get (by simp [h.length]) fun j x y hx hy => ?_
    simp only [Array.toList_setIfInBounds] at hy
    rw [List.getElem?_set] at hx hy
    split at hx
    · rename_i e
      rw [if_pos e] at hy
      split at hx
      · split at hy
        · simp only [Option.some.injEq] at hx hy
          subst hx; subst hy; exact h1
        · cases hy
      · cases hx
    · rename_i e
      rw [if_neg e] at hy
      obtain ⟨z, hz, hc⟩ := h.get hx
      rw [hz] at hy
      simp only [Option.some.injEq] at hy
      subst hy; exact hc
  | [], _ :: _, _, _, _, _, h, _ => h.elim
  | _ :: _, [], _, _, _, _, h, _ => h.elim

theorem fill_rel (place : Nat → Option (Nat × Nat)) (hf : FrRel n ρ fr a.tmps) : ∀ (ps : List (Nat × Operand)) (qs : List (Nat × Nat × Opd)) (l l' : List Cell) (arr : Array Value),
    ps.length = qs.length → (∀ (k i : Nat) (x : Operand), ps[k]? = some (i, x) → ∃ o m y, qs[k]? = some (o, m, y) ∧ place i = some (o, m) ∧ opd x = some y) →
    LRel (CRel ρ) l arr.toList → fillc fr l qs = some l' → ∃ arr', Instr.fill place arr (ps.map fun p => (p.1, a.eval p.2)) = some arr' ∧ LRel (CRel ρ) l' arr'.toList
  | [], [], l, l', arr, _, _, h, hl => by
    simp only [fillc, Option.some.injEq] at hl; subst hl
    exact ⟨arr, rfl, h⟩
  | (i, x) :: ps, (o, m, y) :: qs, l, l', arr, hlen, hp, h, hl => by
    obtain ⟨o', m', y', e1, e2, e3⟩ := hp 0 i x rfl
    simp only [List.getElem?_cons_zero, Option.some.injEq, Prod.mk.injEq] at e1
    obtain ⟨rfl, rfl, rfl⟩ := e1
    simp only [fillc] at hl
    split at hl
    · rename_i hc
      obtain ⟨hc1, hc2, hc3⟩ := hc
      have hy := (opd_rel (ρ := ρ) (a := a) e3 hf).cells hc1
      have hlen' := hy.length
      have hsz : (a.eval x).cells.size = m := by rw [← hc2, hlen']; simp
      have hal : l.length = arr.size := by have := h.length; simpa using this
      have hw := wr_rel (ρ := ρ) _ _ l arr o 0 hy h
      rw [Nat.add_zero] at hw
      have hfold : (a.eval x).cells.zipIdx.foldl (fun (cs : Array Value) (p : Value × Nat) => cs.setIfInBounds (o + p.2) p.1) arr =
          ((a.eval x).cells.toList.zipIdx 0).foldl (fun (cs : Array Value) (p : Value × Nat) => cs.setIfInBounds (o + p.2) p.1) arr := by
        rw [← Array.foldl_toList, Array.toList_zipIdx]
      obtain ⟨arr', k1, k2⟩ := fill_rel place hf ps qs _ l' _ (by simpa using hlen) (fun k i x hk => by
        obtain ⟨o, m, y, q1, q2, q3⟩ := hp (k + 1) i x (by simpa using hk)
        exact ⟨o, m, y, by simpa using q1, q2, q3⟩) hw hl
      refine ⟨arr', ?_, k2⟩
      simp only [List.map_cons, Instr.fill, e2, hsz]
      have hno : ((m != m || decide (o + m > arr.size)) : Bool) = false := by simp; omega
      simp only [ne_eq, not_true_eq_false, decide_false, Bool.false_or, show ¬ (o + m > arr.size) by omega, Bool.false_eq_true, if_false]
      exact (congrArg (fun z => Instr.fill place z _) hfold).trans k1
    · cases hl
  | [], _ :: _, _, _, _, h, _, _, _ => by simp at h
  | _ :: _, [], _, _, _, h, _, _, _ => by simp at h

theorem mapM_run {α β : Type} (g : α → Sem β) (g' : α → β) : ∀ (l : List α), (∀ x ∈ l, (g x).run P w = .ok (g' x) w) → (l.mapM g).run P w = .ok (l.map g') w
  | [], _ => by simp
  | x :: l, h => by
    have h1 := h x (by simp)
    have h2 := mapM_run g g' l (fun y hy => h y (by simp [hy]))
    simp [List.mapM_cons, h1, h2]

theorem partsN_spec {t : TypeId} {fs : Array Field} (hu : P.underlying t = some (.struct fs)) : ∀ {ps : List (Nat × Operand)} {qs : List (Nat × Nat × Opd)}, partsN P t ps = some qs →
    ps.length = qs.length ∧ ∀ (k i : Nat) (x : Operand), ps[k]? = some (i, x) → ∃ (o m : Nat) (y : Opd) (fd : Field), qs[k]? = some (o, m, y) ∧ fs[i]? = some fd ∧ fd.offset = o ∧ szN P fd.type = some m ∧ opd x = some y
  | [], qs, h => by simp [partsN] at h; subst h; exact ⟨rfl, fun k i x hk => by simp at hk⟩
  | (i, x) :: ps, qs, h => by
    unfold partsN at h
    split at h
    · rename_i fd y ys h1 h2 h3
      simp only [Option.map_eq_some_iff] at h
      obtain ⟨m, hm, rfl⟩ := h
      obtain ⟨k1, k2⟩ := partsN_spec hu h3
      obtain ⟨fs', hu', hfd⟩ := fieldN_spec h1
      rw [hu] at hu'
      simp only [Option.some.injEq, TypeDesc.struct.injEq] at hu'
      subst hu'
      refine ⟨by simp [k1], fun k j z hk => ?_⟩
      cases k with
      | zero =>
        simp only [List.getElem?_cons_zero, Option.some.injEq, Prod.mk.injEq] at hk
        obtain ⟨rfl, rfl⟩ := hk
        exact ⟨_, m, y, fd, rfl, hfd, rfl, hm, h2⟩
      | succ k => simpa using k2 k j z (by simpa using hk)
    · cases h

theorem partsS_spec : ∀ {ps : List (Nat × Operand)} {qs : List (Nat × Opd)}, partsS ps = some qs →
    ps.length = qs.length ∧ ∀ (k i : Nat) (x : Operand), ps[k]? = some (i, x) → ∃ y, qs[k]? = some (i, y) ∧ opd x = some y
  | [], qs, h => by simp [partsS] at h; subst h; exact ⟨rfl, fun k i x hk => by simp at hk⟩
  | (i, x) :: ps, qs, h => by
    unfold partsS at h
    split at h
    · rename_i y ys h2 h3
      simp only [Option.some.injEq] at h; subst h
      obtain ⟨k1, k2⟩ := partsS_spec h3
      refine ⟨by simp [k1], fun k j z hk => ?_⟩
      cases k with
      | zero =>
        simp only [List.getElem?_cons_zero, Option.some.injEq, Prod.mk.injEq] at hk
        obtain ⟨rfl, rfl⟩ := hk
        exact ⟨y, rfl, h2⟩
      | succ k => simpa using k2 k j z (by simpa using hk)
    · cases h

theorem rep_length (z : List Cell) : ∀ k, (rep z k).length = k * z.length
  | 0 => by simp [rep]
  | k + 1 => by simp [rep, rep_length z k, Nat.add_mul, Nat.add_comm]

theorem rep_get (z : List Cell) : ∀ (k j : Nat), j < k * z.length → (rep z k)[j]? = z[j % z.length]?
  | 0, j, h => by simp at h
  | k + 1, j, h => by
    simp only [rep]
    by_cases e : j < z.length
    · rw [List.getElem?_append_left e, Nat.mod_eq_of_lt e]
    · rw [List.getElem?_append_right (by omega), rep_get z k _ (by rw [Nat.add_mul] at h; omega)]
      congr 1
      rw [← Nat.mod_eq_sub_mod (by omega)]

theorem rep_rel {z : List Cell} {v : Array Value} (hz : LRel (CRel ρ) z v.toList) (h0 : 0 < z.length) (k : Nat) :
    LRel (CRel ρ) (rep z k) ((Array.range (k * z.length)).map (v[· % v.size]!)).toList := by
  have hl : z.length = v.size := by have := hz.length; simpa using this
  refine LRel.of_get (by simp [rep_length]) fun j x y hx hy => ?_
  have hj : j < k * z.length := by
    have := (List.getElem?_eq_some_iff.1 hx).1
    rwa [rep_length] at this
  rw [rep_get z k j hj] at hx
  obtain ⟨u, hu, hc⟩ := hz.get hx
  have hm : j % v.size < v.size := Nat.mod_lt _ (by omega)
  simp only [Array.toList_map, Array.toList_range, List.getElem?_map, List.getElem?_range hj, Option.map_some, Option.some.injEq] at hy
  subst hy
  have : v[j % v.size]! = u := by
    rw [getElem!_pos v _ hm]
    rw [hl] at hu
    simpa [hm] using hu
  rw [this]; exact hc

variable (hs : Sim F ρ μ w) (hf : FrRel n ρ fr a.tmps)
include hs hf

theorem s_build {o : Oper} {t : TypeId} {ps : Array (Nat × Operand)} (ho : o.op = .build t ps) {r : ROp} (hr : rop P o.op = some r) {call : CallT} {v : AV} {μ' : Mem}
    (hv : aop call r fr μ = some (v, μ')) : Runs P (execOp a.eval o) F ρ μ w v μ' := by
  rw [ho] at hr
  simp only [rop] at hr
  split at hr
  · rename_i fs z l hu hz hp
    split at hr
    · rename_i hall
      simp only [Option.some.injEq] at hr; subst hr
      simp only [aop, Option.map_eq_some_iff, Prod.mk.injEq] at hv
      obtain ⟨l', hl', rfl, rfl⟩ := hv
      obtain ⟨inf, zv, hi, hzv, hcl, hzl, hzp, hzs⟩ := zeroN_spec hz
      obtain ⟨hlen, hparts⟩ := partsN_spec hu hp
      have hplaces : (fs.toList.mapM (fun f => do pure (f.offset, ← sizeOf f.type)) : Sem (List (Nat × Nat))).run P w = .ok (fs.toList.map fun f => (f.offset, (szN P f.type).getD 0)) w := by
        refine mapM_run _ _ _ fun f hf' => ?_
        have := List.all_eq_true.1 hall f hf'
        obtain ⟨m, hm⟩ := Option.isSome_iff_exists.1 this
        simp [sizeOf_of hm, hm]
      obtain ⟨arr', k1, k2⟩ := fill_rel (fun i => (fs.map fun f => (f.offset, (szN P f.type).getD 0))[i]?) hf ps.toList l z l' zv.cells hlen (fun k i x hk => by
        obtain ⟨o, m, y, fd, q1, q2, q3, q4, q5⟩ := hparts k i x hk
        exact ⟨o, m, y, q1, by simp [q2, q3, q4], q5⟩) (toCellL_rel hcl ρ) hl'
      refine Runs.still hs (v' := .agg arr') ?_ ⟨arr'.toList, by simp, k2⟩
      simp only [execOp, ho, Instr.build, Sem.run_bind, Sem.run_pure, zeroValue, typeInfo, run_program, Result.andThen_ok, hi, hzv, run_underlying hu, Array.mapM_eq_mapM_toList, Sem.run_map, hplaces]
      have e1 : (List.map (fun f => (f.offset, (szN P f.type).getD 0)) fs.toList).toArray = fs.map fun f => (f.offset, (szN P f.type).getD 0) := by
        rw [← Array.toList_map, Array.toArray_toList]
      have e2 : (Array.map (fun x => (x.1, a.eval x.2)) ps).toList = ps.toList.map fun p => (p.1, a.eval p.2) := by simp
      rw [e1, e2, k1]
      rfl
    · cases hr
  · cases hr

theorem s_fld {o : Oper} {t : TypeId} {x : Operand} {f : Nat} (ho : o.op = .field t x f) {r : ROp} (hr : rop P o.op = some r) {call : CallT} {v : AV} {μ' : Mem}
    (hv : aop call r fr μ = some (v, μ')) : Runs P (execOp a.eval o) F ρ μ w v μ' := by
  rw [ho] at hr
  simp only [rop] at hr
  split at hr
  · rename_i fd y h1 h2
    simp only [Option.map_eq_some_iff] at hr
    obtain ⟨m, hm, rfl⟩ := hr
    obtain ⟨fs, h5, h6⟩ := fieldN_spec h1
    simp only [aop] at hv
    split at hv
    · rename_i l hl
      have hc := opd_rel h2 hf; rw [hl] at hc
      obtain ⟨vs, h3, h4⟩ := hc
      unfold ldN at hm
      have one : (isAgg fd.type).run P w = .ok false w → ∀ c, l[fd.offset]? = some c → v = .c c → μ' = μ → Runs P (execOp a.eval o) F ρ μ w v μ' := by
        intro hag c hc e1 e2
        subst e1; subst e2
        obtain ⟨u, k1, k2⟩ := h4.get hc
        refine Runs.still hs (v' := u) ?_ k2
        simp [execOp, ho, h3, Instr.field, run_underlying h5, h6, asAgg, part, hag, k1]
      have many : ∀ sz, szN P fd.type = some sz → (isAgg fd.type).run P w = .ok true w → ∀ l', rd l fd.offset sz = some l' → v = .agg l' → μ' = μ → Runs P (execOp a.eval o) F ρ μ w v μ' := by
        intro sz hsz hag l' hl' e1 e2
        subst e1; subst e2
        have hlen := rd_length hl'
        have hget := rd_get hl'
        refine Runs.still hs (v' := .agg (vs.toArray.extract fd.offset (fd.offset + sz))) ?_ ⟨(vs.toArray.extract fd.offset (fd.offset + sz)).toList, by simp, ?_⟩
        · simp [execOp, ho, h3, Instr.field, run_underlying h5, h6, asAgg, part, hag, sizeOf_of hsz]
        · have hall : ∀ k, k < sz → ∃ c u, l'[k]? = some c ∧ vs[fd.offset + k]? = some u ∧ CRel ρ c u := by
            intro k hk
            have : ∃ c, l'[k]? = some c := ⟨_, List.getElem?_eq_getElem (by omega)⟩
            obtain ⟨c, hc⟩ := this
            have hc2 := hc
            rw [hget k hk] at hc2
            obtain ⟨u, k1, k2⟩ := h4.get hc2
            exact ⟨c, u, hc, k1, k2⟩
          have hfit : fd.offset + sz ≤ vs.length ∨ sz = 0 := by
            rcases Nat.eq_zero_or_pos sz with h | h
            · exact .inr h
            · obtain ⟨c, u, _, k1, _⟩ := hall (sz - 1) (by omega)
              have := (List.getElem?_eq_some_iff.1 k1).1
              left; omega
          refine LRel.of_get ?_ fun k x y hx hy => ?_
          · simp [hlen]; omega
          · have hk : k < sz := by have := (List.getElem?_eq_some_iff.1 hx).1; omega
            obtain ⟨c, u, e1, e2, e3⟩ := hall k hk
            rw [hx] at e1
            simp only [Option.some.injEq] at e1
            subst e1
            have hy' : vs[fd.offset + k]? = some y := by
              simp only [Array.toList_extract, List.extract_eq_take_drop] at hy
              rw [List.getElem?_take] at hy
              split at hy
              · simpa using hy
              · cases hy
            rw [e2] at hy'
            simp only [Option.some.injEq] at hy'
            subst hy'
            exact e3
      cases hu : P.underlying fd.type with
      | none => rw [hu] at hm; cases hm
      | some d =>
        cases hi : P.info? fd.type with
        | none => rw [hu, hi] at hm; cases d <;> cases hm
        | some inf =>
          have hagg : (isAgg fd.type).run P w = .ok (match d with | .struct _ => true | .array _ _ => true | _ => false) w := by
            simp [isAgg, run_underlying hu]
            cases d <;> rfl
          have hsz : szN P fd.type = some inf.size := by simp [szN, hi]
          rw [hu, hi] at hm
          cases d <;> simp only [Option.some.injEq] at hm <;> subst hm <;> simp only [Option.map_eq_some_iff, Prod.mk.injEq] at hv <;> obtain ⟨c, q1, q2, q3⟩ := hv <;>
            first
              | exact one hagg c q1 q2.symm q3.symm
              | exact many inf.size hsz hagg c q1 q2.symm q3.symm
    · cases hv
  · cases hr

omit hf in
theorem s_alc {o : Oper} {t : TypeId} (ho : o.op = .alloc t) {z : List Cell} (hz : zeroN P t = some z) : Runs P (execOp a.eval o) F ρ μ w (.c (.ptr (some (μ.next, 0)))) (μ.new z 0) := by
  obtain ⟨inf, zv, hi, hzv, hcl, hzl, hzp, hzs⟩ := zeroN_spec hz
  have hst := hs.new (cs := z) (esz := 0) (x := 0) (fun _ => rfl) (c := zv.cells) (T := t) (by simp [hzs]) (fun k y hy => by
    obtain ⟨v, h1, h2⟩ := (toCellL_rel hcl ρ).get hy
    exact ⟨v, by simpa using h1, h2⟩)
  refine ⟨_, .pointer (some ⟨w.heap.size, 0, none⟩), _, .inl ?_, ⟨w.heap.size, 0, by simp [Emb.set], rfl⟩, hst⟩
  simp [execOp, ho, Instr.alloc, zeroValue, typeInfo, hi, hzv, newVar, newRow]

theorem s_box {o : Oper} {t : TypeId} {x : Operand} (ho : o.op = .box t x) {r : ROp} (hr : rop P o.op = some r) {call : CallT} {v : AV} {μ' : Mem}
    (hv : aop call r fr μ = some (v, μ')) : Runs P (execOp a.eval o) F ρ μ w v μ' := by
  rw [ho] at hr
  simp only [rop] at hr
  split at hr
  · rename_i m y hm hy
    simp only [Option.some.injEq] at hr; subst hr
    simp only [aop] at hv
    split at hv
    · rename_i hc
      simp only [Option.some.injEq, Prod.mk.injEq] at hv
      obtain ⟨rfl, rfl⟩ := hv
      have hcy := (opd_rel (ρ := ρ) (a := a) hy hf).cells hc.1
      have hl := hcy.length
      have hst := hs.new (cs := (y.ev fr).cells) (esz := 0) (x := 0) (fun _ => rfl) (c := (a.eval x).cells) (T := t) (by simp [hl]) (fun k z hz => by
        obtain ⟨v, h1, h2⟩ := hcy.get hz
        exact ⟨v, by simpa using h1, h2⟩)
      refine ⟨_, .pointer (some ⟨w.heap.size, 0, none⟩), _, .inl ?_, ⟨w.heap.size, 0, by simp [Emb.set], rfl⟩, hst⟩
      simp [execOp, ho, Instr.box, newVar, newRow]
    · cases hv
  · cases hr

theorem s_bsl {o : Oper} {t : TypeId} {len : Nat} {ps : Array (Nat × Operand)} (ho : o.op = .buildSlice t len ps) {r : ROp} (hr : rop P o.op = some r) {call : CallT} {v : AV} {μ' : Mem}
    (hv : aop call r fr μ = some (v, μ')) : Runs P (execOp a.eval o) F ρ μ w v μ' := by
  rw [ho] at hr
  simp only [rop] at hr
  split at hr
  · rename_i e hu
    split at hr
    · rename_i z l hz hp
      split at hr
      · rename_i hb
        simp only [Option.some.injEq] at hr; subst hr
        simp only [aop, Option.map_eq_some_iff, Prod.mk.injEq] at hv
        obtain ⟨l', hl', rfl, rfl⟩ := hv
        obtain ⟨inf, zv, hi, hzv, hcl, hzl, hzp, hzs⟩ := zeroN_spec hz
        obtain ⟨hlen, hparts⟩ := partsS_spec hp
        have hszN : szN P e = some z.length := by simp [szN, hi, hzl]
        have hrep := rep_rel (toCellL_rel hcl ρ) hzp len
        obtain ⟨arr', k1, k2⟩ := fill_rel (fun i => some (i * z.length, z.length)) hf ps.toList _ _ l' _ (by simpa using hlen) (fun k i x hk => by
          obtain ⟨y, q1, q2⟩ := hparts k i x hk
          exact ⟨i * z.length, z.length, y, by simp [q1], rfl, q2⟩) hrep hl'
        have hl2 := k2.length
        have hll : ∀ (qs : List (Nat × Nat × Opd)) (c c' : List Cell), fillc fr c qs = some c' → c'.length = c.length := by
          intro qs
          induction qs with
          | nil => intro c c' h; simp [fillc] at h; rw [h]
          | cons q qs ih =>
            intro c c' h
            obtain ⟨o1, m1, y1⟩ := q
            simp only [fillc] at h
            split at h
            · rw [ih _ _ h, wr_length]
            · cases h
        have hfin : l'.length = len * z.length := by rw [hll _ _ _ hl', rep_length]
        have hst := hs.new (cs := l') (esz := z.length) (x := 0) (fun h => by omega) (c := arr') (T := e) (by simpa using hl2.symm) (fun k y hy => by
          obtain ⟨v, h1, h2⟩ := k2.get hy
          exact ⟨v, by simpa using h1, h2⟩)
        refine ⟨_, .slice (some ⟨w.heap.size, 0, none⟩) len len, _, .inl ?_, ⟨w.heap.size, 0, by simp [Emb.set], by simp⟩, hst⟩
        have hsmall : ¬ (len * z.length > 2 ^ 24) := by have := hb.1; omega
        have e2 : (Array.map (fun x => (x.1, a.eval x.2)) ps).toList = ps.toList.map fun p => (p.1, a.eval p.2) := by simp
        simp only [execOp, ho, Instr.buildSlice, Sem.run_bind, Sem.run_pure, run_underlying hu, Result.andThen_ok, sizeOf_of hszN, if_neg hsmall]
        by_cases h0 : len * z.length = 0
        · have hzero : len = 0 := by
            rcases Nat.mul_eq_zero.1 h0 with h | h
            · exact h
            · omega
          subst hzero
          simp only [Nat.zero_mul] at k1
          have e3 : (Array.range 0).map (fun x => zv.cells[x % zv.cells.size]!) = #[] := by simp
          rw [e3] at k1
          simp only [Nat.zero_mul, if_true, Sem.run_bind, Sem.run_pure, Result.andThen_ok, e2]
          have e4 : (Array.range 0).map (fun x => (#[] : Array Value)[x % (#[] : Array Value).size]!) = #[] := by simp
          rw [e4, k1]
          simp [newRow]
        · simp only [if_neg h0, Sem.run_bind, zeroValue, typeInfo, run_program, Result.andThen_ok, hi, hzv, Sem.run_pure, e2, k1]
          simp [newRow]
      · cases hr
    · cases hr
  · cases hr

theorem s_mks {o : Oper} {t : TypeId} {x y : Operand} (ho : o.op = .makeSlice t x y) {r : ROp} (hr : rop P o.op = some r) {call : CallT} {v : AV} {μ' : Mem}
    (hv : aop call r fr μ = some (v, μ')) : Runs P (execOp a.eval o) F ρ μ w v μ' := by
  rw [ho] at hr
  simp only [rop] at hr
  split at hr
  · rename_i e hu
    split at hr
    · rename_i z inf x' y' hz hi hx hy
      simp only [Option.some.injEq] at hr; subst hr
      obtain ⟨inf', zv, hi', hzv, hcl, hzl, hzp, hzs⟩ := zeroN_spec hz
      rw [hi] at hi'
      simp only [Option.some.injEq] at hi'
      subst hi'
      simp only [aop, amks] at hv
      split at hv
      · rename_i p q e1 e2
        split at hv
        · rename_i hc
          obtain ⟨c1, c2, c3, c4⟩ := hc
          simp only [Option.some.injEq, Prod.mk.injEq] at hv
          obtain ⟨rfl, rfl⟩ := hv
          subst c2
          have hcx := opd_rel hx hf; rw [e1] at hcx
          have hcy := opd_rel hy hf; rw [e2] at hcy
          have h1 : a.eval x = .int .i64 p := hcx
          have h2 : a.eval y = .int .i64 p := hcy
          unfold most at c3 c4
          have hrun := run_make (P := P) w t e inf zv hu hi hzv .i64 .i64 p p c1 (Int.le_refl _) (by omega) (by omega)
          have hrep := rep_rel (toCellL_rel hcl ρ) hzp p.toNat
          have hmade : madeCells zv.cells (p.toNat * inf.size) = (Array.range (p.toNat * z.length)).map (zv.cells[· % zv.cells.size]!) := by
            rw [hzl]; rfl
          have hst := hs.new (cs := rep z p.toNat) (esz := z.length) (x := 0) (fun h => by omega) (c := madeCells zv.cells (p.toNat * inf.size)) (T := e)
            (by rw [hmade, rep_length]; simp) (fun k y hy => by
              obtain ⟨v, h1, h2⟩ := hrep.get hy
              exact ⟨v, by rw [hmade]; rw [← Array.getElem?_toList]; exact h1, h2⟩)
          refine ⟨_, .slice (some ⟨w.heap.size, 0, none⟩) p.toNat p.toNat, _, .inl ?_, ⟨w.heap.size, 0, by simp [Emb.set], by simp⟩, hst⟩
          simp only [execOp, ho, h1, h2, Sem.run_bind, hrun, Result.andThen_ok, Sem.run_pure]
        · cases hv
      · cases hv
    · cases hr
  · cases hr

theorem s_slc {o : Oper} {t : TypeId} {x : Operand} {lo hi mx : Option Operand} (ho : o.op = .slice t x lo hi mx) {r : ROp} (hr : rop P o.op = some r) {call : CallT} {v : AV} {μ' : Mem}
    (hv : aop call r fr μ = some (v, μ')) : Runs P (execOp a.eval o) F ρ μ w v μ' := by
  rw [ho] at hr
  cases mx with
  | some m => simp [rop] at hr
  | none =>
  simp only [rop] at hr
  split at hr
  · rename_i e y hu hy
    split at hr
    · rename_i sz hsz
      split at hr
      · rename_i lo' hi' hlo hhi
        simp only [Option.some.injEq] at hr; subst hr
        simp only [aop, Option.map_eq_some_iff, Prod.mk.injEq] at hv
        obtain ⟨v', hv', rfl, rfl⟩ := hv
        unfold aslc at hv'
        split at hv'
        · rename_i p len cap hp
          have hc0 := opd_rel hy hf; rw [hp] at hc0
          split at hv'
          · cases hv'
          rename_i hpc
          have hc : match p with | none => a.eval x = .slice none len cap | some q => CRel ρ (.slc (some q) len cap) (a.eval x) := by
            cases p with
            | none =>
              refine hc0.resolve_right fun e => ?_
              exact hpc ⟨rfl, by omega⟩
            | some q => exact hc0
          -- the upper bound
          split at hv'
          · cases hv'
          · rename_i h hh
            split at hv'
            · cases hv'
            · rename_i l hl
              have hH : ∀ cap', cap ≤ cap' → (match hi.map a.eval with | some v => Instr.sliceBound v cap' .sliceAcap | none => pure len : Sem Nat).run P w = .ok h w ∧ (cap' < h → hi = none) := by
                intro cap' hcap
                cases hi with
                | none =>
                  simp at hhi; subst hhi
                  simp at hh; subst hh
                  simp
                | some x =>
                  simp only [Option.map_eq_some_iff] at hhi
                  obtain ⟨x2, q1, rfl⟩ := hhi
                  simp only [Option.map_some] at hh
                  have hcx := opd_rel (ρ := ρ) (a := a) q1 hf
                  split at hh
                  · rename_i e; cases e
                  · rename_i k hv e
                    simp only [Option.some.injEq] at e
                    rw [e] at hcx
                    have h1 : a.eval x = .int k hv := hcx
                    split at hh
                    · rename_i hb
                      simp only [Option.some.injEq] at hh; subst hh
                      refine ⟨?_, fun h => by omega⟩
                      simp only [Option.map_some, h1]
                      exact run_sliceBound w k hv cap' .sliceAcap hb.1 (by omega)
                    · cases hh
                  · cases hh
              have hL : (match lo.map a.eval with | some v => Instr.sliceBound v h .sliceB | none => pure 0 : Sem Nat).run P w = .ok l w ∧ l ≤ h := by
                cases lo with
                | none =>
                  simp at hlo; subst hlo
                  simp at hl; subst hl
                  simp
                | some x =>
                  simp only [Option.map_eq_some_iff] at hlo
                  obtain ⟨x2, q1, rfl⟩ := hlo
                  simp only [Option.map_some] at hl
                  have hcx := opd_rel (ρ := ρ) (a := a) q1 hf
                  split at hl
                  · rename_i e; cases e
                  · rename_i k hv e
                    simp only [Option.some.injEq] at e
                    rw [e] at hcx
                    have h1 : a.eval x = .int k hv := hcx
                    split at hl
                    · rename_i hb
                      simp only [Option.some.injEq] at hl; subst hl
                      refine ⟨?_, by omega⟩
                      simp only [Option.map_some, h1]
                      exact run_sliceBound w k hv h .sliceB hb.1 (by omega)
                    · cases hl
                  · cases hl
              have run : ∀ (q : Option Addr) (cap' : Nat), cap ≤ cap' → a.eval x = .slice q len cap' →
                  (execOp a.eval o).run P w = .ok (.value (.slice (if cap' = l then q else q.map (·.add (l * sz))) (h - l) (cap' - l))) w := by
                intro q cap' hcap hx
                have hH' := (hH cap' hcap).1
                simp only [execOp, ho, Instr.sliceAt, Sem.run_bind, run_underlying hu, Result.andThen_ok, hx, Instr.slice, Instr.sliceBounds, Option.map_none, Sem.run_pure]
                cases hi with
                | none =>
                  simp only [Option.map_none, Sem.run_pure, Result.ok.injEq, and_true] at hH'
                  subst hH'
                  cases lo with
                  | none =>
                    simp only [Option.map_none, Sem.run_pure, Result.ok.injEq, and_true] at hL
                    obtain ⟨hL1, _⟩ := hL
                    subst hL1
                    simp [sizeOf_of hsz]
                  | some lo =>
                    simp only [Option.map_some] at hL
                    simp [hL.1, sizeOf_of hsz]
                | some hi =>
                  simp only [Option.map_some] at hH'
                  cases lo with
                  | none =>
                    simp only [Option.map_none, Sem.run_pure, Result.ok.injEq, and_true] at hL
                    obtain ⟨hL1, _⟩ := hL
                    subst hL1
                    simp [hH', sizeOf_of hsz]
                  | some lo =>
                    simp only [Option.map_some] at hL
                    simp [hH', hL.1, sizeOf_of hsz]
              split at hv'
              · rename_i hl0
                subst hl0
                simp only [Option.some.injEq] at hv'; subst hv'
                cases p with
                | none =>
                  have := run none cap (Nat.le_refl _) hc
                  refine Runs.still hs this ?_
                  refine .inl ?_
                  simp
                | some p =>
                  obtain ⟨b, ex, h1, h2⟩ := hc
                  have := run (some ⟨b, p.2, none⟩) (cap + ex) (by omega) h2
                  refine Runs.still hs this ⟨b, ex, h1, ?_⟩
                  simp [Addr.add]
              · rename_i hl0
                cases p with
                | none => cases hv'
                | some q =>
                  obtain ⟨b, o'⟩ := q
                  dsimp only at hv'
                  split at hv'
                  · rename_i hlt
                    simp only [Option.some.injEq] at hv'; subst hv'
                    obtain ⟨bb, ex, h1, h2⟩ := hc
                    have := run (some ⟨bb, o', none⟩) (cap + ex) (by omega) h2
                    refine Runs.still hs this ⟨bb, ex, h1, ?_⟩
                    rw [if_neg (by omega)]
                    simp only [Option.map_some, Addr.add_lit]
                    congr 1
                    omega
                  · cases hv'
        · cases hv'
      · cases hr
    · cases hr
  · rename_i m e y hu hy
    split at hr
    · rename_i sz hsz
      simp only [Option.some.injEq] at hr; subst hr
      simp only [aop] at hv
      split at hv
      · rename_i p hp
        split at hv
        · rename_i ob hob
          split at hv
          · rename_i hesz
            simp only [Option.some.injEq, Prod.mk.injEq] at hv
            obtain ⟨rfl, rfl⟩ := hv
            have hc := opd_rel hy hf; rw [hp] at hc
            obtain ⟨b, ex, h1, h2⟩ := hc
            obtain ⟨_, _, _, _, _, hx0, _⟩ := hs.obj _ ob b ex hob h1
            have hex := hx0 hesz
            subst hex
            refine Runs.still hs (v' := .slice (some ⟨b, p.2, none⟩) m m) ?_ ⟨b, 0, h1, by simp⟩
            simp [execOp, ho, Instr.sliceAt, run_underlying hu, h2, Instr.sureAddr, Instr.sliceBounds, sizeOf_of hsz, Addr.add]
          · cases hv
        · cases hv
      · cases hv
    · cases hr
  · cases hr

end
end Go.Proofs.Ytibmnlijoeppaaa
