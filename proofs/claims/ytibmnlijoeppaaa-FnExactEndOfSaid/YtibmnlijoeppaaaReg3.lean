/-
  A region whose order is drawn: the induction over what has come up.
-/
import Derived.Test.YtibmnlijoeppaaaReg2
namespace Go.Proofs.Ytibmnlijoeppaaa

section
variable {P : Program} {F : Nat → Prop} {n : Nat} {call : CallT} {ops : Array Oper} {l : List RI} {bs : List (List Nat)} {T : Nat → Fr × Mem} {V : Nat → AV}

theorem tr_wf (hc : CallOK P call) (ht : Tr call l T V) (h0 : (T 0).2.WF) : ∀ k, k ≤ l.length → (T k).2.WF ∧ (T 0).2.next ≤ (T k).2.next := by
  intro k
  induction k with
  | zero => intro _; exact ⟨h0, Nat.le_refl _⟩
  | succ k ih =>
    intro hk
    obtain ⟨i1, i2⟩ := ih (by omega)
    have hr : l[k]? = some l[k] := List.getElem?_eq_getElem (by omega)
    rcases (ht.step k _ hr).1 with ⟨_, h, _⟩ | ⟨_, _, h⟩
    · have := aop_wf hc h i1
      exact ⟨this.1, Nat.le_trans i2 this.2⟩
    · rw [h]; exact ⟨i1, i2⟩

/-- What an operation does to the memory of the one order: nothing; new memory; or it is of the kind that changes. -/
theorem tr_mem (ht : Tr call l T V) {k : Nat} {r : RI} (hr : l[k]? = some r) :
    (T (k + 1)).2 = (T k).2 ∨ (∃ cs e, (T (k + 1)).2 = (T k).2.new cs e) ∨ (r.op.kd = .m ∧ ∀ x ∈ r.re, x.holds (T k).1 (T (k + 1)).2 = true) := by
  rcases (ht.step k r hr).1 with ⟨_, h, hre⟩ | ⟨_, _, h⟩
  · cases hk : r.op.kd with
    | p => exact .inl (aop_still (.inl hk) h)
    | l => exact .inl (aop_still (.inr hk) h)
    | m => exact .inr (.inr ⟨rfl, hre⟩)
    | a =>
      cases ho : r.op <;> rw [ho] at hk <;> simp only [ROp.kd, reduceCtorEq] at hk
      rw [ho] at h
      simp only [aop, Option.some.injEq, Prod.mk.injEq] at h
      exact .inr (.inl ⟨_, _, h.2.symm⟩)
    | n =>
      cases ho : r.op <;> rw [ho] at hk <;> simp only [ROp.kd, reduceCtorEq] at hk <;> rw [ho] at h <;> simp only [aop] at h
      case bsl =>
        simp only [Option.map_eq_some_iff, Prod.mk.injEq] at h
        obtain ⟨_, _, _, h⟩ := h
        exact .inr (.inl ⟨_, _, h.symm⟩)
      case box =>
        split at h
        · simp only [Option.some.injEq, Prod.mk.injEq] at h
          exact .inr (.inl ⟨_, _, h.2.symm⟩)
        · cases h
      case mks =>
        unfold amks at h
        split at h
        · split at h
          · simp only [Option.some.injEq, Prod.mk.injEq] at h
            exact .inr (.inl ⟨_, _, h.2.symm⟩)
          · cases h
        · cases h
  · exact .inl h

theorem tr_fr_stay (ht : Tr call l T V) {t i : Nat} : ∀ m, i ≤ m → m ≤ l.length → (∀ (k : Nat) (c : RI), i ≤ k → k < m → l[k]? = some c → c.dst ≠ some t) → (T m).1 t = (T i).1 t := by
  intro m
  induction m with
  | zero => intro h _ _; have : i = 0 := by omega
            subst this; rfl
  | succ m ih =>
    intro h hl hw
    by_cases e : i = m + 1
    · subst e; rfl
    · have hr : l[m]? = some l[m] := List.getElem?_eq_getElem (by omega)
      rw [(ht.step m _ hr).2, put_other (hw m _ (by omega) (by omega) hr)]
      exact ih (by omega) (by omega) fun k c h1 h2 => hw k c h1 (by omega)

theorem again_ld {a b : RI} {x : Re} (h : again a b = some x) (hk : a.op.kd = .l) : ∃ sz y d, a.op = .ld sz y ∧ a.dst = some d ∧ x = .ld d sz y ∧ d ∉ y.slots := by
  unfold again at h
  split at h
  · split at h
    · rename_i sz y d e1 e2
      split at h
      · cases h
      · rename_i hn
        simp only [Option.some.injEq] at h
        exact ⟨sz, y, d, e1, e2, h.symm, fun hm => hn (List.contains_iff_mem.2 hm)⟩
    · rename_i z d e1 e2
      rw [e1] at hk; cases hk
    · cases h
  · cases h

theorem again_al {a b : RI} {x : Re} (h : again a b = some x) {z : List Cell} (hk : a.op = .alc z) : ∃ d, a.dst = some d ∧ x = .al d z := by
  unfold again at h
  split at h
  · split at h
    · rename_i sz y d e1 e2
      rw [e1] at hk; cases hk
    · rename_i z' d e1 e2
      rw [e1] at hk; cases hk
      simp only [Option.some.injEq] at h
      exact ⟨d, e2, h.symm⟩
    · cases h
  · cases h

/-- A read that has not come up yet reads, behind all that has, what it read in the one order. -/
theorem read_later (ho : OrdOK ops l bs) (hc : CallOK P call) (ht : Tr call l T V) (h0 : (T 0).2.WF) {listed : Array Bool} (hcl : Closed ops l listed) {i : Nat} {r : RI} (hr : l[i]? = some r)
    (hS : Sat l listed i = false) (hk : r.op.kd = .l) (hw : awanted r.guard (T i).1 = true) : ∀ p, i < p → p ≤ l.length → (∀ (k : Nat) (c : RI), k < p → l[k]? = some c → c.isM → Sat l listed k = true) →
    aop call r.op (T i).1 (T p).2 = some (V i, (T p).2) := by
  intro p
  induction p with
  | zero => intro h; omega
  | succ p ih =>
    intro hip hpl hM
    have hri := ht.step i r hr
    have hread : aop call r.op (T i).1 (T i).2 = some (V i, (T (i + 1)).2) := by
      rcases hri.1 with ⟨_, h, _⟩ | ⟨h, _, _⟩
      · exact h
      · rw [hw] at h; cases h
    by_cases e : i = p
    · subst e
      have := aop_still (.inr hk) hread
      rw [this] at hread ⊢; exact hread
    · have hih := ih (by omega) (by omega) fun k c h1 h2 h3 => hM k c (by omega) h2 h3
      have hc' : l[p]? = some l[p] := List.getElem?_eq_getElem (by omega)
      have hwf := (tr_wf hc ht h0 p (by omega)).1
      rcases tr_mem ht hc' with h | ⟨cs, e', h⟩ | ⟨hm, hre⟩
      · rw [h]; exact hih
      · rw [h]; exact aop_l_new hk hwf hih cs e'
      · have hSp := hM p _ (by omega) hc' (.inl hm)
        have hnb : i ∉ bs.getD p [] := fun hb => by
          have := ho.befS hcl p _ hc' hSp i hb
          rw [hS] at this; cases this
        obtain ⟨x, hx, hxm, hst⟩ := ho.again i p r _ (by omega) hr hc' (.inl hk) hm hnb
        obtain ⟨sz, y, d, e1, e2, e3, e4⟩ := again_ld hx hk
        subst e3
        have hh := hre _ hxm
        have hd : (T p).1 d = V i := by
          rw [tr_fr_stay ht (i := i + 1) p (by omega) (by omega) fun k c h1 h2 h3 => hst k c (by omega) h2 h3 d (by simp)]
          rw [hri.2, e2, put_same]
        have hy : y.ev (T p).1 = y.ev (T i).1 := by
          refine ev_congr fun t htm => ?_
          rw [tr_fr_stay ht (i := i + 1) p (by omega) (by omega) fun k c h1 h2 h3 => hst k c (by omega) h2 h3 t (by simp [htm])]
          rw [hri.2, e2]
          exact put_other fun h => e4 (by rw [Option.some.inj h]; exact htm)
        rw [e1]
        simp only [Re.holds, hy] at hh
        simp only [aop]
        split at hh
        · rename_i b o hev
          simp only [beq_iff_eq] at hh
          rw [hh, hd]
          rfl
        · cases hh

/-- A new variable that has not come up yet is as it was made, behind all that has. -/
theorem zero_later (ho : OrdOK ops l bs) (hc : CallOK P call) (ht : Tr call l T V) (h0 : (T 0).2.WF) {listed : Array Bool} (hcl : Closed ops l listed) {i : Nat} {r : RI} (hr : l[i]? = some r)
    (hS : Sat l listed i = false) {z : List Cell} (hk : r.op = .alc z) (hw : awanted r.guard (T i).1 = true) : ∀ p, i < p → p ≤ l.length →
    (∀ (k : Nat) (c : RI), k < p → l[k]? = some c → c.isM → Sat l listed k = true) → (T p).2.obj (T i).2.next = some ⟨z, 0, false⟩ := by
  intro p
  induction p with
  | zero => intro h; omega
  | succ p ih =>
    intro hip hpl hM
    have hri := ht.step i r hr
    have hread : V i = .c (.ptr (some ((T i).2.next, 0))) ∧ (T (i + 1)).2 = (T i).2.new z 0 := by
      rcases hri.1 with ⟨_, h, _⟩ | ⟨h, _, _⟩
      · rw [hk] at h
        simp only [aop, Option.some.injEq, Prod.mk.injEq] at h
        exact ⟨h.1.symm, h.2.symm⟩
      · rw [hw] at h; cases h
    by_cases e : i = p
    · subst e
      rw [hread.2]
      simp [Mem.new]
    · have hih := ih (by omega) (by omega) fun k c h1 h2 h3 => hM k c (by omega) h2 h3
      have hc' : l[p]? = some l[p] := List.getElem?_eq_getElem (by omega)
      have hwf := (tr_wf hc ht h0 p (by omega)).1
      rcases tr_mem ht hc' with h | ⟨cs, e', h⟩ | ⟨hm, hre⟩
      · rw [h]; exact hih
      · rw [h]
        have := hwf _ _ hih
        simp only [Mem.new]
        rw [if_neg (by omega)]; exact hih
      · have hSp := hM p _ (by omega) hc' (.inl hm)
        have hnb : i ∉ bs.getD p [] := fun hb => by
          have := ho.befS hcl p _ hc' hSp i hb
          rw [hS] at this; cases this
        obtain ⟨x, hx, hxm, hst⟩ := ho.again i p r _ (by omega) hr hc' (.inr (by rw [hk]; rfl)) hm hnb
        obtain ⟨d, e2, e3⟩ := again_al hx hk
        subst e3
        have hh := hre _ hxm
        have hd : (T p).1 d = V i := by
          rw [tr_fr_stay ht (i := i + 1) p (by omega) (by omega) fun k c h1 h2 h3 => hst k c (by omega) h2 h3 d (by simp)]
          rw [hri.2, e2, put_same]
        simp only [Re.holds, hd, hread.1] at hh
        simp only [Bool.and_eq_true, beq_iff_eq] at hh
        obtain ⟨h1, h2⟩ := hh
        split at h2
        · rename_i ob hob
          simp only [Bool.and_eq_true, beq_iff_eq, Bool.not_eq_true'] at h2
          obtain ⟨⟨h3, h4⟩, h5⟩ := h2
          have : rd ob.cells 0 z.length = some z := by
            unfold Mem.ld at h1
            rw [hob] at h1
            simp only [Option.bind_eq_some_iff] at h1
            obtain ⟨l, h1a, h1b⟩ := h1
            rw [h5] at h1b
            simp only [clean, Bool.not_false, Bool.true_or, cond_true, Option.some.injEq, AV.agg.injEq] at h1b
            rw [h1a, h1b]
          rw [← h3, rd_all] at this
          simp only [Option.some.injEq] at this
          rw [hob]
          obtain ⟨c, e, ro⟩ := ob
          simp_all
        · cases h2

/-! ### The induction -/

structure Inv (ops : Array Oper) (l : List RI) (T : Nat → Fr × Mem) (V : Nat → AV) (F : Nat → Prop) (n : Nat) (ρ0 : Emb) (w0 : World) (listed : Array Bool) (a : Act) (w : World) : Prop where
  size : listed.size = ops.size
  closed : Closed ops l listed
  defers : a.defers = []
  ex : ∃ ρ p, p ≤ l.length ∧ (∀ (k : Nat) (r : RI), k < p → l[k]? = some r → r.isM → Sat l listed k = true) ∧ (∀ r, l[p]? = some r → r.isM ∧ Sat l listed p = false) ∧
    Sim F ρ (T p).2 w ∧ FrRel n ρ (frS l V (Sat l listed) (T 0).1 l.length) a.tmps ∧
    (∀ (k : Nat) (r : RI) (z : List Cell), k < p → l[k]? = some r → r.op = .alc z → Sat l listed k = false → awanted r.guard (T k).1 = true → ρ (T k).2.next = none) ∧
    (∀ i, i < (T 0).2.next → ρ i = ρ0 i) ∧ Keeps F w0 w

/-- On to the next operation that changes memory. -/
theorem advance (ht : Tr call l T V) {ρ : Emb} {w : World} (q : Nat) (hq : q ≤ l.length) (hs : Sim F ρ (T q).2 w) :
    ∃ p, q ≤ p ∧ p ≤ l.length ∧ (∀ (k : Nat) (r : RI), q ≤ k → k < p → l[k]? = some r → ¬ r.isM) ∧ (∀ r, l[p]? = some r → r.isM) ∧ Sim F ρ (T p).2 w ∧
      (∀ (k : Nat) (r : RI) (z : List Cell), q ≤ k → k < p → l[k]? = some r → r.op = .alc z → ρ (T k).2.next = none) := by
  have key : ∀ d q, l.length - q = d → q ≤ l.length → Sim F ρ (T q).2 w → ∃ p, q ≤ p ∧ p ≤ l.length ∧ (∀ (k : Nat) (r : RI), q ≤ k → k < p → l[k]? = some r → ¬ r.isM) ∧ (∀ r, l[p]? = some r → r.isM) ∧
      Sim F ρ (T p).2 w ∧ (∀ (k : Nat) (r : RI) (z : List Cell), q ≤ k → k < p → l[k]? = some r → r.op = .alc z → ρ (T k).2.next = none) := by
    intro d
    induction d with
    | zero =>
      intro q h1 h2 hs
      have : q = l.length := by omega
      subst this
      exact ⟨l.length, Nat.le_refl _, Nat.le_refl _, fun k r h1 h2 => by omega, fun r hr => by simp at hr, hs, fun k r z h1 h2 => by omega⟩
    | succ d ih =>
      intro q h1 h2 hs
      have hr : l[q]? = some l[q] := List.getElem?_eq_getElem (by omega)
      by_cases hm : (l[q]'(by omega)).isM
      · exact ⟨q, Nat.le_refl _, h2, fun k r h1 h2 => by omega, fun r hr' => by rw [hr] at hr'; simp only [Option.some.injEq] at hr'; rw [← hr']; exact hm, hs, fun k r z h1 h2 => by omega⟩
      · have hs1 : Sim F ρ (T (q + 1)).2 w := by
          rcases tr_mem ht hr with h | ⟨cs, e, h⟩ | ⟨h, _⟩
          · rw [h]; exact hs
          · rw [h]; exact hs.newObj cs e
          · exact absurd (.inl h) hm
        obtain ⟨p, p1, p2, p3, p4, p5, p6⟩ := ih (q + 1) (by omega) (by omega) hs1
        refine ⟨p, by omega, p2, fun k r h1 h2 h3 => ?_, p4, p5, fun k r z h1 h2 h3 h4 => ?_⟩
        · by_cases e : k = q
          · subst e; rw [hr] at h3; simp only [Option.some.injEq] at h3; rw [← h3]; exact hm
          · exact p3 k r (by omega) h2 h3
        · by_cases e : k = q
          · subst e
            cases hρ : ρ (T k).2.next with
            | none => rfl
            | some x => exact absurd (hs.dom _ x.1 x.2 hρ).1 (Nat.lt_irrefl _)
          · exact p6 k r z (by omega) h2 h3 h4
  exact key _ q rfl hq hs

def cnt (f : Nat → Bool) : List RI → Nat
  | [] => 0
  | r :: l => (if f r.ix = true then 0 else 1) + cnt f l

theorem cnt_le {f g : Nat → Bool} (h : ∀ x, f x = true → g x = true) : ∀ l, cnt g l ≤ cnt f l
  | [] => Nat.le_refl _
  | r :: l => by
    have := cnt_le h l
    simp only [cnt]
    by_cases e : f r.ix = true
    · rw [if_pos e, if_pos (h _ e)]; omega
    · rw [if_neg e]; split <;> omega

theorem cnt_lt {f g : Nat → Bool} (h : ∀ x, f x = true → g x = true) : ∀ {l : List RI} {k : Nat} {r : RI}, l[k]? = some r → f r.ix = false → g r.ix = true → cnt g l < cnt f l
  | [], k, r, hr, _, _ => by simp at hr
  | s :: l, 0, r, hr, h1, h2 => by
    simp only [List.getElem?_cons_zero, Option.some.injEq] at hr
    subst hr
    have := cnt_le h l
    simp only [cnt, h1, h2, if_true, Bool.false_eq_true, if_false]
    omega
  | s :: l, k + 1, r, hr, h1, h2 => by
    have := cnt_lt h (l := l) (k := k) (by simpa using hr) h1 h2
    simp only [cnt]
    by_cases e : f s.ix = true
    · rw [if_pos e, if_pos (h _ e)]; omega
    · rw [if_neg e]; split <;> omega

theorem getD_lt {listed : Array Bool} {i : Nat} (h : i < listed.size) : listed.getD i true = listed.getD i false := by
  simp [h]

theorem getD_set_self {listed : Array Bool} {i : Nat} (h : i < listed.size) : (listed.setIfInBounds i true).getD i false = true := by
  simp [h]

theorem edges_ready {ix : Nat} {o : Oper} (h : ops[ix]? = some o) {listed : Array Bool} (hall : ∀ e ∈ o.after, Region.binds .any e = true → listed.getD e.on false = true) :
    ∀ e ∈ edgesOf ops ix, listed.getD e false = true := by
  intro e he
  simp only [edgesOf, h, List.mem_map, List.mem_filter] at he
  obtain ⟨x, ⟨h1, h2⟩, rfl⟩ := he
  exact hall x (by simpa using h1) h2

/-- The step of the induction. -/
theorem inv_next (ho : OrdOK ops l bs) (ht : Tr call l T V) {ρ0 : Emb} {w0 : World} {listed : Array Bool} {a : Act} {k : Nat} {r : RI} (hr : l[k]? = some r) (hS : Sat l listed k = false)
    (hix : r.ix < listed.size) (hsize : listed.size = ops.size) (hcl : Closed ops l listed) (hcl' : ∀ e ∈ edgesOf ops r.ix, listed.getD e false = true) (hd : a.defers = [])
    (hdn : ∀ d, r.dst = some d → d < n)
    {ρ : Emb} {p : Nat} (hpl : p ≤ l.length) (hM : ∀ (j : Nat) (c : RI), j < p → l[j]? = some c → c.isM → Sat l listed j = true) (hP : ∀ c, l[p]? = some c → c.isM ∧ Sat l listed p = false)
    (hf : FrRel n ρ (frS l V (Sat l listed) (T 0).1 l.length) a.tmps) {ρ' : Emb} {w' : World} {v' : Value} (hle : ρ.Le ρ') (hv : AVRel ρ' (V k) v')
    {q : Nat} (hq : (k = p ∧ q = p + 1) ∨ (k ≠ p ∧ q = p)) (hs : Sim F ρ' (T q).2 w')
    (hun : ∀ (j : Nat) (c : RI) (z : List Cell), j < p → j ≠ k → l[j]? = some c → c.op = .alc z → Sat l listed j = false → awanted c.guard (T j).1 = true → ρ' (T j).2.next = none)
    (hold : ∀ i, i < (T 0).2.next → ρ' i = ρ0 i) (hke : Keeps F w0 w') :
    Inv ops l T V F n ρ0 w0 (listed.setIfInBounds r.ix true) (a.put r.dst v') w' := by
  have hlt := (List.getElem?_eq_some_iff.1 hr).1
  have hne : ∀ (j : Nat) (c : RI), l[j]? = some c → j ≠ k → c.ix ≠ r.ix := by
    intro j c hc hjk
    rcases Nat.lt_or_gt_of_ne hjk with h | h
    · exact ho.ne j k c r h hc hr
    · exact (ho.ne k j r c h hr hc).symm
  have hS' : ∀ j, j ≠ k → Sat l (listed.setIfInBounds r.ix true) j = Sat l listed j := by
    intro j hjk
    unfold Sat
    cases hc : l[j]? with
    | none => rfl
    | some c => exact getD_set_ne false (Ne.symm (hne j c hc hjk))
  have hSk : Sat l (listed.setIfInBounds r.ix true) k = true := by
    rw [Sat_of hr]; exact getD_set_self hix
  have hcl2 : Closed ops l (listed.setIfInBounds r.ix true) := by
    intro j c hc hl e he
    by_cases hjk : j = k
    · subst hjk
      rw [hr] at hc
      simp only [Option.some.injEq] at hc
      subst hc
      exact getD_set_true (hcl' e he)
    · have h1 : listed.getD c.ix false = true := by rw [← getD_set_ne false (Ne.symm (hne j c hc hjk))]; exact hl
      exact getD_set_true (hcl j c hc h1 e he)
  have hbefk : ∀ (j : Nat) (c : RI), l[j]? = some c → Sat l listed j = true → k ∉ bs.getD j [] := by
    intro j c hc hSj hb
    have := ho.befS hcl j c hc hSj k hb
    rw [hS] at this; cases this
  have hql : q ≤ l.length := by
    rcases hq with ⟨h, h'⟩ | ⟨_, h'⟩ <;> omega
  obtain ⟨p', a1, a2, a3, a4, a5, a6⟩ := advance ht q hql hs
  refine ⟨by simpa using hsize, hcl2, by rw [Act.put_defers']; exact hd, ρ', p', a2, ?_, ?_, a5, ?_, ?_, hold, hke⟩
  · intro j c hj hc hm
    by_cases e : j = k
    · subst e; exact hSk
    · rw [hS' j e]
      by_cases hjp : j < p
      · exact hM j c hjp hc hm
      · by_cases hjq : q ≤ j
        · exact absurd hm (a3 j c hjq hj hc)
        · rcases hq with ⟨h, h'⟩ | ⟨_, h'⟩ <;> omega
  · intro c hc
    refine ⟨a4 c hc, ?_⟩
    have hm := a4 c hc
    by_cases e : p' = k
    · -- an operation that changes memory, other than p, cannot have come up
      exfalso
      subst e
      rcases hq with ⟨h, h'⟩ | ⟨h, h'⟩
      · omega
      · have hplt : p < p' := by omega
        have hpr : l[p]? = some l[p] := List.getElem?_eq_getElem (by omega)
        obtain ⟨hpm, hpS⟩ := hP _ hpr
        exact absurd hpm (a3 p _ (by omega) hplt hpr)
    · rw [hS' p' e]
      cases hSp : Sat l listed p' with
      | false => rfl
      | true =>
        exfalso
        have hp2 : p < l.length := by
          rcases hq with ⟨h, h'⟩ | ⟨h, h'⟩
          · omega
          · have := (List.getElem?_eq_some_iff.1 hc).1; omega
        have hpr : l[p]? = some l[p] := List.getElem?_eq_getElem hp2
        obtain ⟨hpm, hpS⟩ := hP _ hpr
        have hpp : p < p' ∨ p = p' := by
          rcases hq with ⟨h, h'⟩ | ⟨h, h'⟩ <;> omega
        rcases hpp with hpp | hpp
        · have hb := ho.mem p p' _ c hpp hpr hc hpm (by rcases hm with h | h <;> rw [h] <;> simp)
          have := ho.befS hcl p' c hc hSp p hb
          rw [hpS] at this; cases this
        · subst hpp; rw [hpS] at hSp; cases hSp
  · rw [ho.frS_add hr hSk hS hS' (fun j c _ hc hSj => hbefk j c hc hSj)]
    exact (hf.mono hle).put hdn hv
  · intro j c z hj hc hop hSj hw
    by_cases e : j = k
    · subst e; rw [hSk] at hSj; cases hSj
    · rw [hS' j e] at hSj
      by_cases hjp : j < p
      · exact hun j c z hjp e hc hop hSj hw
      · by_cases hjq : q ≤ j
        · exact a6 j c z hjq hj hc hop
        · rcases hq with ⟨h, h'⟩ | ⟨_, h'⟩ <;> omega

theorem rop_alc {op : Op} {z : List Cell} (h : rop P op = some (.alc z)) : ∃ t, op = .alloc t ∧ zeroN P t = some z := by
  unfold rop at h
  split at h
  case h_14 t => exact ⟨t, rfl, by simpa using h⟩
  all_goals first
    | (exfalso; unfold ropCall at h; (repeat' split at h) <;> simp at h; done)
    | (exfalso; (repeat' split at h) <;> simp at h; done)

theorem looks_ops {r : RI} {t : Nat} (h : t ∈ r.op.opds.flatMap Opd.slots) : t ∈ r.looks := List.mem_append_left _ h

theorem reg_any (ho : OrdOK ops l bs) (hc : CallOK P call) (ht : Tr call l T V)
    (hri : ∀ (k : Nat) (r : RI), l[k]? = some r → ∃ r0, ri0 P ops n r.ix = some r0 ∧ r0.op = r.op ∧ r0.dst = r.dst ∧ r0.guard = r.guard)
    (h0 : (T 0).2.WF) {ρ0 : Emb} {w0 : World} {Q : Exit → Act → World → Prop}
    (hQ : ∀ a' w' ρ', a'.defers = [] → Sim F ρ' (T l.length).2 w' → (∀ i, i < (T 0).2.next → ρ' i = ρ0 i) → Keeps F w0 w' → FrRel n ρ' (T l.length).1 a'.tmps → Q .normal a' w') :
    ∀ (fuel : Nat) (listed : Array Bool) (a : Act) (w : World), Inv ops l T V F n ρ0 w0 listed a w → cnt (fun x => listed.getD x false) l ≤ fuel →
    wpAny P .any ops Q fuel listed a w := by
  have hend : ∀ (listed : Array Bool) (a : Act) (w : World), Inv ops l T V F n ρ0 w0 listed a w → (∀ k, k < l.length → Sat l listed k = true) → Q .normal a w := by
    intro listed a w hi hall
    obtain ⟨ρ, p, h1, h2, h3, h4, h5, h6, h7, h8⟩ := hi.ex
    have hp : p = l.length := by
      rcases Nat.lt_or_ge p l.length with h | h
      · have hpr : l[p]? = some l[p] := List.getElem?_eq_getElem h
        have := (h3 _ hpr).2
        rw [hall p h] at this; cases this
      · omega
    subst hp
    refine hQ a w ρ hi.defers h4 h7 h8 ?_
    have key : ∀ m, m ≤ l.length → frS l V (Sat l listed) (T 0).1 m = (T m).1 := by
      intro m
      induction m with
      | zero => intro _; rfl
      | succ m ih =>
        intro hm
        have hr : l[m]? = some l[m] := List.getElem?_eq_getElem (by omega)
        simp only [frS, hr, hall m (by omega), if_true, ih (by omega)]
        exact (ht.step m _ hr).2.symm
    rw [key l.length (Nat.le_refl _)] at h5
    exact h5
  have hready : ∀ (listed : Array Bool) (a : Act) (w : World), Inv ops l T V F n ρ0 w0 listed a w → Region.ready .any ops listed = [] → ∀ k, k < l.length → Sat l listed k = true := by
    intro listed a w hi he k
    induction k using Nat.strongRecOn with
    | _ k ih =>
      intro hk
      have hr : l[k]? = some l[k] := List.getElem?_eq_getElem hk
      cases hS : Sat l listed k with
      | true => rfl
      | false =>
        exfalso
        obtain ⟨r0, q1, q2, q3, q4⟩ := hri k _ hr
        obtain ⟨o, hoo, hix, _⟩ := ri0_spec q1
        have hlt : (l[k]).ix < listed.size := by rw [hi.size]; exact (Array.getElem?_eq_some_iff.1 hoo).1
        have : (l[k]).ix ∈ Region.ready .any ops listed := by
          rw [mem_ready]
          refine ⟨by rw [getD_lt hlt]; rw [Sat_of hr] at hS; exact hS, o, hoo, fun e hem hb => ?_⟩
          have hed : e.on ∈ edgesOf ops (l[k]).ix := by
            simp only [edgesOf, hoo, List.mem_map, List.mem_filter]
            exact ⟨e, ⟨by simpa using hem, hb⟩, rfl⟩
          obtain ⟨p, s, s1, s2, s3⟩ := ho.edge k _ hr _ hed
          have := ih p s3 (by omega)
          rw [Sat_of s1, s2] at this
          exact this
        rw [he] at this
        cases this
  intro fuel
  induction fuel with
  | zero =>
    intro listed a w hi hcn
    have hall : ∀ k, k < l.length → Sat l listed k = true := by
      intro k hk
      have hr : l[k]? = some l[k] := List.getElem?_eq_getElem hk
      cases hS : Sat l listed k with
      | true => rfl
      | false =>
        exfalso
        rw [Sat_of hr] at hS
        have := cnt_lt (f := fun x => listed.getD x false) (g := fun _ => true) (fun _ _ => rfl) hr hS rfl
        omega
    refine ⟨?_, hend listed a w hi hall⟩
    cases he : Region.ready .any ops listed with
    | nil => rfl
    | cons x xs =>
      exfalso
      have hx : x ∈ Region.ready .any ops listed := by rw [he]; simp
      rw [mem_ready] at hx
      obtain ⟨h1, o, h2, _⟩ := hx
      have hxl : x < ops.size := (Array.getElem?_eq_some_iff.1 h2).1
      obtain ⟨k, r, hr, hrx⟩ := ho.all x hxl
      have := hall k (List.getElem?_eq_some_iff.1 hr).1
      rw [Sat_of hr, hrx] at this
      rw [getD_lt (by rw [hi.size]; exact hxl)] at h1
      rw [h1] at this
      cases this
  | succ fuel ih =>
    intro listed a w hi hcn
    refine ⟨fun he => hend listed a w hi (hready listed a w hi he), fun i him => ?_⟩
    rw [mem_ready] at him
    obtain ⟨h1, o, hoo, hall⟩ := him
    have hil : i < ops.size := (Array.getElem?_eq_some_iff.1 hoo).1
    obtain ⟨k, r, hr, hrx⟩ := ho.all i hil
    subst hrx
    have hix : r.ix < listed.size := by rw [hi.size]; exact hil
    rw [getD_lt hix] at h1
    have hS : Sat l listed k = false := by rw [Sat_of hr]; exact h1
    have hcl' := edges_ready hoo hall
    obtain ⟨r0, q1, q2, q3, q4⟩ := hri k r hr
    obtain ⟨o', hoo', _, hrop, hdst, hdn, _⟩ := ri0_spec q1
    rw [hoo] at hoo'
    simp only [Option.some.injEq] at hoo'
    subst hoo'
    rw [q2] at hrop
    rw [q3] at hdst hdn
    obtain ⟨ρ, p, e1, e2, e3, e4, e5, e6, e7, e8⟩ := hi.ex
    have hlt := (List.getElem?_eq_some_iff.1 hr).1
    have hrd : ∀ t ∈ r.looks, frS l V (Sat l listed) (T 0).1 l.length t = (T k).1 t := fun t htl => ho.reads ht hi.closed hr hS hcl' htl
    have hg : awanted r.guard (frS l V (Sat l listed) (T 0).1 l.length) = awanted r.guard (T k).1 := by
      cases hgd : r.guard with
      | none => rfl
      | some dw =>
        obtain ⟨d, wnt⟩ := dw
        simp only [awanted]
        rw [hrd d (List.mem_append_right _ (by rw [hgd]; simp))]
    have hwant : Region.wanted o (yielded ops a.tmps) = awanted r.guard (T k).1 := by
      rw [wanted_rel (n := n) (ρ := ρ) (fr := frS l V (Sat l listed) (T 0).1 l.length) q1 hoo e5, q4, hg]
    have hcnt : cnt (fun x => (listed.setIfInBounds r.ix true).getD x false) l ≤ fuel := by
      have := cnt_lt (f := fun x => listed.getD x false) (g := fun x => (listed.setIfInBounds r.ix true).getD x false) (fun x hx => getD_set_true hx) hr h1 (getD_set_self hix)
      omega
    have hstep := ht.step k r hr
    have hpM : r.isM → k = p := by
      intro hm
      rcases Nat.lt_trichotomy k p with h | h | h
      · have := e2 k r h hr hm
        rw [hS] at this; cases this
      · exact h
      · exfalso
        have hpr : l[p]? = some l[p] := List.getElem?_eq_getElem (by omega)
        obtain ⟨hpm, hpS⟩ := e3 _ hpr
        have hb := ho.mem p k _ r h hpr hr hpm (by rcases hm with h | h <;> rw [h] <;> simp)
        obtain ⟨e, he, p', s, s1, s2, s3, s4⟩ := ho.bef k r hr p hb
        have hSp' : Sat l listed p' = true := by rw [Sat_of s1, s2]; exact hcl' e he
        rcases s4 with rfl | s4
        · rw [hpS] at hSp'; cases hSp'
        · have := ho.befS hi.closed p' s s1 hSp' p s4
          rw [hpS] at this; cases this
    have hrl : (r.op.kd = .l ∨ r.op.kd = .a) → k < p ∨ p = l.length := by
      intro hk
      rcases Nat.lt_trichotomy k p with h | h | h
      · exact .inl h
      · subst h
        have := (e3 r hr).1
        rcases this with h | h <;> rcases hk with h' | h' <;> rw [h'] at h <;> cases h
      · exfalso
        have hpr : l[p]? = some l[p] := List.getElem?_eq_getElem (by omega)
        obtain ⟨hpm, hpS⟩ := e3 _ hpr
        have hb := ho.mem p k _ r h hpr hr hpm (by rcases hk with h | h <;> rw [h] <;> simp)
        obtain ⟨e, he, p', s, s1, s2, s3, s4⟩ := ho.bef k r hr p hb
        have hSp' : Sat l listed p' = true := by rw [Sat_of s1, s2]; exact hcl' e he
        rcases s4 with rfl | s4
        · rw [hpS] at hSp'; cases hSp'
        · have := ho.befS hi.closed p' s s1 hSp' p s4
          rw [hpS] at this; cases this
    have hkl : (r.op.kd = .l ∨ r.op.kd = .a) → k < p := by
      intro hk
      rcases hrl hk with h | h
      · exact h
      · omega
    rw [wpOp]
    simp only [hoo]
    rw [hwant]
    cases hw : awanted r.guard (T k).1 with
    | false =>
      simp only [Bool.false_eq_true, if_false]
      have hV : V k = .undef ∧ (T (k + 1)).2 = (T k).2 := by
        rcases hstep.1 with ⟨h, _, _⟩ | ⟨_, h, h'⟩
        · rw [hw] at h; cases h
        · exact ⟨h, h'⟩
      refine ih _ _ _ ?_ hcnt
      rw [← hdst]
      by_cases hkp : k = p
      · refine inv_next ho ht hr hS hix hi.size hi.closed hcl' hi.defers hdn e1 e2 e3 e5 (Emb.Le.refl ρ) (by rw [hV.1]; exact AVRel.undef ρ) (.inl ⟨hkp, rfl⟩) ?_ ?_ e7 e8
        · rw [← hkp, hV.2, hkp]; exact e4
        · intro j c z h1 h2 h3 h4 h5 h6; exact e6 j c z h1 h3 h4 h5 h6
      · refine inv_next ho ht hr hS hix hi.size hi.closed hcl' hi.defers hdn e1 e2 e3 e5 (Emb.Le.refl ρ) (by rw [hV.1]; exact AVRel.undef ρ) (.inr ⟨hkp, rfl⟩) e4 ?_ e7 e8
        intro j c z h1 h2 h3 h4 h5 h6; exact e6 j c z h1 h3 h4 h5 h6
    | true =>
      simp only [if_true]
      have hV : aop call r.op (T k).1 (T k).2 = some (V k, (T (k + 1)).2) := by
        rcases hstep.1 with ⟨_, h, _⟩ | ⟨h, _, _⟩
        · exact h
        · rw [hw] at h; cases h
      have hcong : ∀ μ, aop call r.op (frS l V (Sat l listed) (T 0).1 l.length) μ = aop call r.op (T k).1 μ := fun μ => aop_congr fun t htm => hrd t (looks_ops htm)
      -- an operation that leaves memory as it is
      have still : (∃ hh : True, aop call r.op (T k).1 (T p).2 = some (V k, (T p).2)) → k ≠ p → o.wp P a w (wpAny P .any ops Q fuel (listed.setIfInBounds r.ix true)) Q := by
        intro hh hkp
        obtain ⟨_, hh⟩ := hh
        rw [← hcong] at hh
        refine s_wp hrop hc e4 e5 hh fun ρ' v' w' hrv hst => ?_
        refine ih _ _ _ ?_ hcnt
        rw [← hdst]
        have hle := hst.le e4
        refine inv_next ho ht hr hS hix hi.size hi.closed hcl' hi.defers hdn e1 e2 e3 e5 hle hrv (.inr ⟨hkp, rfl⟩) hst.sim ?_ ?_ (e8.trans hst.keeps)
        · intro j c z h1 h2 h3 h4 h5 h6
          have hz := zero_later ho hc ht h0 hi.closed h3 h5 h4 h6 p h1 e1 e2
          rw [hst.old _ (e4.lt _ _ hz)]
          exact e6 j c z h1 h3 h4 h5 h6
        · intro i' hi'
          have := (tr_wf hc ht h0 p e1).2
          rw [hst.old i' (by omega)]; exact e7 i' hi'
      cases hkd : r.op.kd with
      | p =>
        have hnp : k ≠ p := by
          intro h; subst h
          have := (e3 r hr).1
          rcases this with h | h <;> rw [hkd] at h <;> cases h
        exact .inl (still ⟨trivial, aop_p hkd hV _⟩ hnp)
      | l =>
        have hlt' := hkl (.inl hkd)
        exact .inl (still ⟨trivial, read_later ho hc ht h0 hi.closed hr hS hkd hw p hlt' e1 e2⟩ (by omega))
      | a =>
        have hlt' := hkl (.inr hkd)
        cases hop : r.op <;> rw [hop] at hkd <;> simp only [ROp.kd, reduceCtorEq] at hkd
        rename_i z
        have hz := zero_later ho hc ht h0 hi.closed hr hS hop hw p hlt' e1 e2
        have hnone := e6 k r z hlt' hr hop hS hw
        have hVk : V k = .c (.ptr (some ((T k).2.next, 0))) := by
          rw [hop] at hV
          simp only [aop, Option.some.injEq, Prod.mk.injEq] at hV
          exact hV.1.symm
        have hoal := rop_alc (hop ▸ hrop)
        obtain ⟨t, hot, hzt⟩ := hoal
        obtain ⟨inf, zv, z1, z2, z3, z4, z5, z6⟩ := zeroN_spec hzt
        have hrun : (execOp a.eval o).run P w = .ok (.value (.pointer (some ⟨w.heap.size, 0, none⟩))) (w.alloc (.cells zv.cells t)) := by
          simp [execOp, hot, Instr.alloc, zeroValue, typeInfo, z1, z2, newVar, newRow]
        have hreal := e4.real (i := (T k).2.next) (x := 0) hz hnone (fun _ => rfl) (c := zv.cells) (T := t) (by simp [z6]) (fun j y hy => by
          obtain ⟨v, k1, k2⟩ := (toCellL_rel z3 ρ).get hy
          exact ⟨v, by simpa using k1, k2⟩)
        refine .inl ?_
        unfold Oper.wp
        rw [hrun]
        simp only [Oper.upon]
        refine ih _ _ _ ?_ hcnt
        rw [← hdst]
        have hnx := (tr_wf hc ht h0 k (by omega)).2
        refine inv_next ho ht hr hS hix hi.size hi.closed hcl' hi.defers hdn e1 e2 e3 e5 (Emb.le_set hnone) (by rw [hVk]; exact ⟨w.heap.size, 0, by simp [Emb.set], rfl⟩) (.inr ⟨by omega, rfl⟩) hreal ?_ ?_ (e8.trans (Keeps.alloc e4.fb _))
        · intro j c z' h1 h2 h3 h4 h5 h6
          have hj := e6 j c z' h1 h3 h4 h5 h6
          unfold Emb.set
          split
          · rename_i e
            exfalso
            -- two new variables have two numbers
            have hmono : ∀ x y, x < y → y ≤ l.length → (T x).2.next ≤ (T y).2.next := by
              intro x y hxy hy
              have : ∀ d, x + d ≤ l.length → (T x).2.next ≤ (T (x + d)).2.next := by
                intro d
                induction d with
                | zero => intro _; exact Nat.le_refl _
                | succ d ihd =>
                  intro hd
                  have i1 := ihd (by omega)
                  have hrr : l[x + d]? = some l[x + d] := List.getElem?_eq_getElem (by omega)
                  have hwf := (tr_wf hc ht h0 (x + d) (by omega)).1
                  rcases (ht.step (x + d) _ hrr).1 with ⟨_, g, _⟩ | ⟨_, _, g⟩
                  · exact Nat.le_trans i1 (aop_wf hc g hwf).2
                  · show _ ≤ (T (x + d + 1)).2.next
                    rw [g]; exact i1
              have := this (y - x) (by omega)
              rwa [show x + (y - x) = y by omega] at this
            have hstrict : ∀ x (c : RI) (zz : List Cell), l[x]? = some c → c.op = .alc zz → awanted c.guard (T x).1 = true → (T (x + 1)).2.next = (T x).2.next + 1 := by
              intro x c zz hx hcz hcw
              rcases (ht.step x c hx).1 with ⟨_, g, _⟩ | ⟨g, _, _⟩
              · rw [hcz] at g
                simp only [aop, Option.some.injEq, Prod.mk.injEq] at g
                rw [← g.2]; rfl
              · rw [hcw] at g; cases g
            have hkk := hstrict k r z hr hop hw
            have hjj := hstrict j c z' h3 h4 h6
            rcases Nat.lt_or_gt_of_ne h2 with h | h
            · rcases Nat.lt_or_ge (j + 1) k with g | g
              · have := hmono (j + 1) k g (by omega); omega
              · have : j + 1 = k := by omega
                rw [this] at hjj; omega
            · have hjl := (List.getElem?_eq_some_iff.1 h3).1
              rcases Nat.lt_or_ge (k + 1) j with g | g
              · have := hmono (k + 1) j g (by omega); omega
              · have : k + 1 = j := by omega
                rw [this] at hkk; omega
          · exact hj
        · intro i' hi'
          unfold Emb.set
          rw [if_neg (by omega)]; exact e7 i' hi'
      | m | n =>
        all_goals
          have hkp := hpM (by first | exact .inl hkd | exact .inr hkd)
          subst hkp
          have hV' := hV
          rw [← hcong] at hV'
          refine .inl (s_wp hrop hc e4 e5 hV' fun ρ' v' w' hrv hst => ?_)
          refine ih _ _ _ ?_ hcnt
          rw [← hdst]
          have hle := hst.le e4
          refine inv_next ho ht hr hS hix hi.size hi.closed hcl' hi.defers hdn e1 e2 e3 e5 hle hrv (.inl ⟨rfl, rfl⟩) hst.sim ?_ ?_ (e8.trans hst.keeps)
          · intro j c z h1 h2 h3 h4 h5 h6
            have hz := zero_later ho hc ht h0 hi.closed h3 h5 h4 h6 k h1 e1 e2
            rw [hst.old _ (e4.lt _ _ hz)]
            exact e6 j c z h1 h3 h4 h5 h6
          · intro i' hi'
            have := (tr_wf hc ht h0 k e1).2
            rw [hst.old i' (by omega)]; exact e7 i' hi'

end
end Go.Proofs.Ytibmnlijoeppaaa
