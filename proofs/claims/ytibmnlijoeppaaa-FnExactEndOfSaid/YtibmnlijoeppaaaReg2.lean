/-
  A region whose order is drawn: whatever order is drawn, it does in the world what one order does in the abstract memory.
-/
import Derived.Test.YtibmnlijoeppaaaReg
namespace Go.Proofs.Ytibmnlijoeppaaa

structure Tr (call : CallT) (l : List RI) (T : Nat → Fr × Mem) (V : Nat → AV) : Prop where
  step : ∀ (k : Nat) (r : RI), l[k]? = some r →
    ((awanted r.guard (T k).1 = true ∧ aop call r.op (T k).1 (T k).2 = some (V k, (T (k + 1)).2) ∧ ∀ x ∈ r.re, x.holds (T k).1 (T (k + 1)).2 = true) ∨
      (awanted r.guard (T k).1 = false ∧ V k = .undef ∧ (T (k + 1)).2 = (T k).2)) ∧ (T (k + 1)).1 = (T k).1.put r.dst (V k)

theorem aReg_tr {call : CallT} : ∀ {l : List RI} {fr fr' : Fr} {μ μ' : Mem}, aReg call l fr μ = some (fr', μ') → ∃ T V, Tr call l T V ∧ T 0 = (fr, μ) ∧ T l.length = (fr', μ')
  | [], fr, fr', μ, μ', h => by
    simp only [aReg, Option.some.injEq, Prod.mk.injEq] at h
    obtain ⟨rfl, rfl⟩ := h
    exact ⟨fun _ => (fr, μ), fun _ => .undef, ⟨fun k r hk => by simp at hk⟩, rfl, rfl⟩
  | r :: l, fr, fr', μ, μ', h => by
    simp only [aReg] at h
    split at h
    · cases h
    · rename_i f1 m1 h1
      obtain ⟨T, V, ht, h0, hl⟩ := aReg_tr h
      unfold aRI at h1
      have key : ∃ v, ((awanted r.guard fr = true ∧ aop call r.op fr μ = some (v, m1) ∧ ∀ x ∈ r.re, x.holds fr m1 = true) ∨ (awanted r.guard fr = false ∧ v = .undef ∧ m1 = μ)) ∧ f1 = fr.put r.dst v := by
        cases hw : awanted r.guard fr with
        | false =>
          rw [hw] at h1
          simp only [cond_false, Option.some.injEq, Prod.mk.injEq] at h1
          exact ⟨.undef, .inr ⟨rfl, rfl, h1.2.symm⟩, h1.1.symm⟩
        | true =>
          rw [hw] at h1
          simp only [cond_true] at h1
          split at h1
          · cases h1
          · rename_i v m2 hv
            cases hall : r.re.all fun x => x.holds fr m2 with
            | false => rw [hall] at h1; simp at h1
            | true =>
              rw [hall] at h1
              simp only [cond_true, Option.some.injEq, Prod.mk.injEq] at h1
              obtain ⟨rfl, rfl⟩ := h1
              exact ⟨v, .inl ⟨rfl, hv, List.all_eq_true.1 hall⟩, rfl⟩
      obtain ⟨v, hv, hf1⟩ := key
      refine ⟨fun k => match k with | 0 => (fr, μ) | k + 1 => T k, fun k => match k with | 0 => v | k + 1 => V k, ⟨fun k q hk => ?_⟩, rfl, by simpa using hl⟩
      cases k with
      | zero =>
        simp only [List.getElem?_cons_zero, Option.some.injEq] at hk
        subst hk
        simp only [h0]
        exact ⟨hv, hf1⟩
      | succ k =>
        have := ht.step k q (by simpa using hk)
        exact this

theorem Act.put_defers' (a : Act) (d : Option Nat) (v : Value) : (a.put d v).defers = a.defers := by cases d <;> rfl

section
variable {P : Program} {F : Nat → Prop} {n : Nat} {call : CallT} {ops : Array Oper}

/-- A region in the order of the text. -/
theorem reg_text (hc : CallOK P call) {Q : Exit → Act → World → Prop} {fr' : Fr} {μ' : Mem} : ∀ (is : List Nat) (rs : List RI) (ρ : Emb) (μ : Mem) (w : World) (fr : Fr) (a : Act),
    ri0s P ops n is = some rs → aReg call rs fr μ = some (fr', μ') → Sim F ρ μ w → FrRel n ρ fr a.tmps → a.defers = [] →
    (∀ a' w' ρ', a'.defers = [] → Steps' F ρ μ w ρ' μ' w' → FrRel n ρ' fr' a'.tmps → Q .normal a' w') → wpOps P ops Q is a w
  | [], rs, ρ, μ, w, fr, a, hr, h, hs, hf, hd, hQ => by
    simp only [ri0s, Option.some.injEq] at hr; subst hr
    simp only [aReg, Option.some.injEq, Prod.mk.injEq] at h
    obtain ⟨rfl, rfl⟩ := h
    exact hQ a w ρ hd (Steps'.refl hs) hf
  | i :: is, rs, ρ, μ, w, fr, a, hr, h, hs, hf, hd, hQ => by
    unfold ri0s at hr
    split at hr
    · rename_i r rs' h1 h2
      simp only [Option.some.injEq] at hr; subst hr
      obtain ⟨o, ho, hix, hrop, hdst, hdl, hre⟩ := ri0_spec h1
      simp only [aReg] at h
      split at h
      · cases h
      · rename_i f1 m1 e1
        rw [wpOps_cons]
        unfold wpOp
        simp only [ho]
        have hw := wanted_rel (n := n) (ρ := ρ) (fr := fr) (a := a) h1 ho hf
        rw [hw]
        unfold aRI at e1
        cases hg : awanted r.guard fr with
        | false =>
          rw [hg] at e1
          simp only [cond_false, Option.some.injEq, Prod.mk.injEq] at e1
          obtain ⟨rfl, rfl⟩ := e1
          simp only [Bool.false_eq_true, if_false]
          refine reg_text hc is rs' ρ μ w _ _ h2 h hs ?_ (by rw [Act.put_defers']; exact hd) hQ
          rw [← hdst]
          exact hf.put hdl (AVRel.undef ρ)
        | true =>
          rw [hg] at e1
          simp only [cond_true] at e1
          simp only [if_true]
          split at e1
          · cases e1
          · rename_i v m2 hv
            rw [hre] at e1
            simp only [List.all_nil, cond_true, Option.some.injEq, Prod.mk.injEq] at e1
            obtain ⟨rfl, rfl⟩ := e1
            refine .inl (s_wp hrop hc hs hf hv fun ρ1 v1 w1 hrv hst => ?_)
            refine reg_text hc is rs' ρ1 m2 w1 _ _ h2 h hst.sim ?_ (by rw [Act.put_defers']; exact hd) (fun a' w' ρ' q1 q2 q3 => hQ a' w' ρ' q1 (hst.trans q2) q3)
            rw [← hdst]
            exact (hf.mono (hst.le hs)).put hdl hrv
    · cases hr

/-! ### A drawn order -/

variable {l : List RI} {bs : List (List Nat)}

def Sat (l : List RI) (listed : Array Bool) (k : Nat) : Bool := match l[k]? with | some r => listed.getD r.ix false | none => false

theorem Sat_of {listed : Array Bool} {k : Nat} {r : RI} (h : l[k]? = some r) : Sat l listed k = listed.getD r.ix false := by simp [Sat, h]

def Closed (ops : Array Oper) (l : List RI) (listed : Array Bool) : Prop :=
  ∀ (j : Nat) (r : RI), l[j]? = some r → listed.getD r.ix false = true → ∀ e ∈ edgesOf ops r.ix, listed.getD e false = true

def RI.isM (r : RI) : Prop := r.op.kd = .m ∨ r.op.kd = .n

/-- What the static check says. -/
structure OrdOK (ops : Array Oper) (l : List RI) (bs : List (List Nat)) : Prop where
  len : l.length = ops.size
  all : ∀ i, i < ops.size → ∃ (k : Nat) (r : RI), l[k]? = some r ∧ r.ix = i
  edge : ∀ (j : Nat) (r : RI), l[j]? = some r → ∀ e ∈ edgesOf ops r.ix, ∃ (p : Nat) (s : RI), l[p]? = some s ∧ s.ix = e ∧ p < j
  bef : ∀ (j : Nat) (r : RI), l[j]? = some r → ∀ i ∈ bs.getD j [], ∃ e ∈ edgesOf ops r.ix, ∃ (p : Nat) (s : RI), l[p]? = some s ∧ s.ix = e ∧ p < j ∧ (p = i ∨ i ∈ bs.getD p [])
  ne : ∀ (i j : Nat) (a b : RI), i < j → l[i]? = some a → l[j]? = some b → a.ix ≠ b.ix
  clash : ∀ (i j : Nat) (a b : RI), i < j → l[i]? = some a → l[j]? = some b → clash a b = true → i ∈ bs.getD j []
  mem : ∀ (i j : Nat) (a b : RI), i < j → l[i]? = some a → l[j]? = some b → a.isM → b.op.kd ≠ .p → i ∈ bs.getD j []
  again : ∀ (i j : Nat) (a b : RI), i < j → l[i]? = some a → l[j]? = some b → (a.op.kd = .l ∨ a.op.kd = .a) → b.op.kd = .m → i ∉ bs.getD j [] →
    ∃ x, again a b = some x ∧ x ∈ b.re ∧ ∀ (k : Nat) (c : RI), i < k → k < j → l[k]? = some c → ∀ d ∈ (match x with | .ld d _ y => d :: y.slots | .al d _ => [d]), c.dst ≠ some d

theorem ord_of (h : okOrder ops l bs = true) : OrdOK ops l bs := by
  unfold okOrder at h
  simp only [Bool.and_eq_true, beq_iff_eq] at h
  obtain ⟨⟨h1, h2⟩, h3⟩ := h
  rw [List.all_eq_true] at h2 h3
  have hlt : ∀ (j : Nat) (r : RI), l[j]? = some r → j < l.length := fun j r hj => (List.getElem?_eq_some_iff.1 hj).1
  have hj : ∀ (j : Nat) (r : RI), l[j]? = some r → (∀ e ∈ edgesOf ops r.ix, ∃ s, l[posOf l e 0]? = some s ∧ s.ix = e ∧ posOf l e 0 < j) ∧
      (∀ i ∈ bs.getD j [], ∃ e ∈ edgesOf ops r.ix, posOf l e 0 = i ∨ i ∈ bs.getD (posOf l e 0) []) ∧ ∀ i, i < j → okPair l bs i j = true := by
    intro j r hr
    have := h3 j (List.mem_range.2 (hlt j r hr))
    rw [hr] at this
    simp only [Bool.and_eq_true, List.all_eq_true, List.any_eq_true, Bool.or_eq_true, beq_iff_eq, List.contains_iff_mem] at this
    obtain ⟨⟨q1, q2⟩, q3⟩ := this
    refine ⟨fun e he => ?_, fun i hi => ?_, fun i hi => q3 i (List.mem_range.2 hi)⟩
    · have := q1 e he
      split at this
      · rename_i s hs
        simp only [Bool.and_eq_true, beq_iff_eq, decide_eq_true_eq] at this
        exact ⟨s, hs, this.1, this.2⟩
      · cases this
    · obtain ⟨e, he, h⟩ := q2 i hi
      exact ⟨e, he, h⟩
  have hp : ∀ (i j : Nat) (a b : RI), i < j → l[i]? = some a → l[j]? = some b → okPair l bs i j = true := fun i j a b hij _ hb => (hj j b hb).2.2 i hij
  refine ⟨h1, fun i hi => ?_, fun j r hr e he => ?_, fun j r hr i hi => ?_, ?_, ?_, ?_, ?_⟩
  · have := h2 i (List.mem_range.2 hi)
    rw [List.contains_iff_mem, List.mem_map] at this
    obtain ⟨r, hr, hri⟩ := this
    obtain ⟨k, hk⟩ := List.getElem?_of_mem hr
    exact ⟨k, r, hk, hri⟩
  · obtain ⟨s, q1, q2, q3⟩ := (hj j r hr).1 e he
    exact ⟨_, s, q1, q2, q3⟩
  · obtain ⟨e, he, h⟩ := (hj j r hr).2.1 i hi
    obtain ⟨s, q1, q2, q3⟩ := (hj j r hr).1 e he
    exact ⟨e, he, _, s, q1, q2, q3, h⟩
  · intro i j a b hij ha hb
    have := hp i j a b hij ha hb
    unfold okPair at this
    rw [ha, hb] at this
    simp only [Bool.and_eq_true, bne_iff_ne] at this
    exact this.1.1.1
  · intro i j a b hij ha hb hcl
    have := hp i j a b hij ha hb
    unfold okPair at this
    rw [ha, hb] at this
    simp only [Bool.and_eq_true, Bool.or_eq_true, hcl, Bool.not_true, Bool.false_eq_true, false_or, List.contains_iff_mem] at this
    exact this.1.1.2
  · intro i j a b hij ha hb hm hnp
    have := hp i j a b hij ha hb
    unfold okPair at this
    rw [ha, hb] at this
    simp only [Bool.and_eq_true, Bool.or_eq_true, Bool.not_eq_true', List.contains_iff_mem] at this
    rcases this.1.2 with h | h
    · exfalso
      have h1 : (a.op.kd == Kd.m || a.op.kd == Kd.n) = true := by
        rcases hm with h | h <;> simp [h]
      have h2 : (b.op.kd != Kd.p) = true := by simpa using hnp
      rw [h1, h2] at h
      cases h
    · exact h
  · intro i j a b hij ha hb hk hm hn
    have := hp i j a b hij ha hb
    unfold okPair at this
    rw [ha, hb] at this
    simp only [Bool.and_eq_true] at this
    have h3 := this.2
    have hna : needsAgain a b ((bs.getD j []).contains i) = true := by
      have : (bs.getD j []).contains i = false := by
        cases e : (bs.getD j []).contains i with
        | false => rfl
        | true => exact absurd (List.contains_iff_mem.1 e) hn
      simp only [needsAgain, this, hm]
      rcases hk with h | h <;> simp [h]
    rw [hna] at h3
    simp only [Bool.not_true, Bool.false_or] at h3
    split at h3
    · rename_i x hx
      simp only [Bool.and_eq_true, List.contains_iff_mem, List.all_eq_true, List.mem_range, Bool.or_eq_true, decide_eq_true_eq] at h3
      refine ⟨x, hx, h3.1, fun k c hik hkj hc d hd e => ?_⟩
      have := h3.2 k hkj
      rcases this with h | h
      · omega
      · rw [hc] at h
        simp only [Bool.not_eq_true', List.any_eq_false] at h
        have := h d (List.mem_append_left _ hd)
        simp [writes, e] at this
    · cases h3

theorem OrdOK.befS (ho : OrdOK ops l bs) {listed : Array Bool} (hcl : Closed ops l listed) : ∀ (j : Nat) (r : RI), l[j]? = some r → Sat l listed j = true → ∀ i ∈ bs.getD j [], Sat l listed i = true := by
  intro j
  induction j using Nat.strongRecOn with
  | _ j ih =>
    intro r hr hS i hi
    obtain ⟨e, he, p, s, h1, h2, h3, h4⟩ := ho.bef j r hr i hi
    rw [Sat_of hr] at hS
    have hle := hcl j r hr hS e he
    have hSp : Sat l listed p = true := by rw [Sat_of h1, h2]; exact hle
    rcases h4 with rfl | h4
    · exact hSp
    · exact ih p h3 s h1 hSp i h4

/-! ### The frame behind a set of operations -/

def frS (l : List RI) (V : Nat → AV) (S : Nat → Bool) (fr0 : Fr) : Nat → Fr
  | 0 => fr0
  | k + 1 => match l[k]? with
    | some r => if S k = true then (frS l V S fr0 k).put r.dst (V k) else frS l V S fr0 k
    | none => frS l V S fr0 k

theorem put_other {fr : Fr} {d : Option Nat} {v : AV} {t : Nat} (h : d ≠ some t) : fr.put d v t = fr t := by
  cases d with
  | none => rfl
  | some d =>
    simp only [Fr.put, Fr.set]
    rw [if_neg (fun e => h (by rw [e]))]

theorem put_same {fr : Fr} {v : AV} {t : Nat} : fr.put (some t) v t = v := by simp [Fr.put, Fr.set]

/-- No operation of S from i on writes t: the frame at t is the one at i. -/
theorem frS_stay {V : Nat → AV} {S : Nat → Bool} {fr0 : Fr} {t i : Nat} : ∀ m, i ≤ m → (∀ (k : Nat) (c : RI), i ≤ k → k < m → l[k]? = some c → S k = true → c.dst ≠ some t) →
    frS l V S fr0 m t = frS l V S fr0 i t := by
  intro m
  induction m with
  | zero => intro h _; have : i = 0 := by omega
            subst this; rfl
  | succ m ih =>
    intro h hw
    by_cases e : i = m + 1
    · subst e; rfl
    · have := ih (by omega) fun k c h1 h2 => hw k c h1 (by omega)
      simp only [frS]
      cases hc : l[m]? with
      | none => exact this
      | some c =>
        simp only
        split
        · rename_i hS
          rw [put_other (hw m c (by omega) (by omega) hc hS)]; exact this
        · exact this

theorem clash_dst_looks {a b : RI} {d : Nat} (ha : a.dst = some d) (hb : d ∈ b.looks) : clash a b = true := by
  simp [clash, ha, hb]
theorem clash_looks_dst {a b : RI} {d : Nat} (ha : d ∈ a.looks) (hb : b.dst = some d) : clash a b = true := by
  simp [clash, hb, ha]
theorem clash_dst_dst {a b : RI} {d : Nat} (ha : a.dst = some d) (hb : b.dst = some d) : clash a b = true := by
  simp [clash, ha, hb]

variable {T : Nat → Fr × Mem} {V : Nat → AV}

/-- What an operation that comes up now looks at is what it looked at in the one order. -/
theorem OrdOK.reads (ho : OrdOK ops l bs) (ht : Tr call l T V) {listed : Array Bool} (hcl : Closed ops l listed) {k : Nat} {r : RI} (hr : l[k]? = some r) (hS : Sat l listed k = false)
    (hcl' : ∀ e ∈ edgesOf ops r.ix, listed.getD e false = true) {t : Nat} (htl : t ∈ r.looks) : frS l V (Sat l listed) (T 0).1 l.length t = (T k).1 t := by
  have hlt := (List.getElem?_eq_some_iff.1 hr).1
  have hbefS : ∀ i ∈ bs.getD k [], Sat l listed i = true := by
    intro i hi
    obtain ⟨e, he, p, s, h1, h2, h3, h4⟩ := ho.bef k r hr i hi
    have hle := hcl' e he
    have hSp : Sat l listed p = true := by rw [Sat_of h1, h2]; exact hle
    rcases h4 with rfl | h4
    · exact hSp
    · exact ho.befS hcl p s h1 hSp i h4
  have h1 : frS l V (Sat l listed) (T 0).1 l.length t = frS l V (Sat l listed) (T 0).1 k t := by
    refine frS_stay l.length (by omega) fun j c hkj hj hc hSj e => ?_
    by_cases e' : k = j
    · subst e'; rw [hS] at hSj; cases hSj
    · have hb := ho.clash k j r c (by omega) hr hc (clash_looks_dst htl e)
      have := ho.befS hcl j c hc hSj k hb
      rw [hS] at this; cases this
  rw [h1]
  have key : ∀ m, m ≤ k → frS l V (Sat l listed) (T 0).1 m t = (T m).1 t := by
    intro m
    induction m with
    | zero => intro _; rfl
    | succ m ih =>
      intro hm
      have := ih (by omega)
      simp only [frS]
      have : ∃ c, l[m]? = some c := ⟨_, List.getElem?_eq_getElem (by omega)⟩
      obtain ⟨c, hc⟩ := this
      rw [hc]
      simp only
      rw [(ht.step m c hc).2]
      by_cases e : c.dst = some t
      · have hb := ho.clash m k c r (by omega) hc hr (clash_dst_looks e htl)
        rw [if_pos (hbefS m hb), e, put_same, put_same]
      · rw [put_other e]
        split
        · rw [put_other e]; exact ih (by omega)
        · exact ih (by omega)
  exact key k (Nat.le_refl _)

/-- One more operation. -/
theorem OrdOK.frS_add (ho : OrdOK ops l bs) {S S' : Nat → Bool} {fr0 : Fr} {k : Nat} {r : RI} (hr : l[k]? = some r) (hk : S' k = true) (hSk : S k = false) (hoth : ∀ j, j ≠ k → S' j = S j)
    (hlater : ∀ (j : Nat) (c : RI), k < j → l[j]? = some c → S j = true → k ∉ bs.getD j []) : frS l V S' fr0 l.length = (frS l V S fr0 l.length).put r.dst (V k) := by
  have hlt := (List.getElem?_eq_some_iff.1 hr).1
  have h0 : ∀ m, m ≤ k → frS l V S' fr0 m = frS l V S fr0 m := by
    intro m
    induction m with
    | zero => intro _; rfl
    | succ m ih =>
      intro hm
      simp only [frS, hoth m (by omega), ih (by omega)]
  have key : ∀ m, k < m → m ≤ l.length → frS l V S' fr0 m = (frS l V S fr0 m).put r.dst (V k) := by
    intro m
    induction m with
    | zero => intro h; omega
    | succ m ih =>
      intro hm hml
      by_cases e : m = k
      · subst e
        simp only [frS, hr, hk, if_true, hSk, Bool.false_eq_true, if_false, h0 m (Nat.le_refl _)]
      · have hi := ih (by omega) (by omega)
        have : ∃ c, l[m]? = some c := ⟨_, List.getElem?_eq_getElem (by omega)⟩
        obtain ⟨c, hc⟩ := this
        simp only [frS, hc, hoth m e, hi]
        split
        · rename_i hS
          have hnb := hlater m c (by omega) hc hS
          have hne : ∀ d, r.dst = some d → c.dst ≠ some d := fun d h1 h2 => hnb (ho.clash k m r c (by omega) hr hc (clash_dst_dst h1 h2))
          funext t
          cases hrd : r.dst with
          | none => cases hcd : c.dst <;> rfl
          | some d =>
            by_cases e1 : t = d
            · subst e1
              rw [put_other (hne t hrd), put_same, put_same]
            · rw [put_other (t := t) (d := some d) (fun h => e1 (Option.some.inj h).symm)]
              cases hcd : c.dst with
              | none => simp only [Fr.put]; exact put_other (fun h => e1 (Option.some.inj h).symm)
              | some d' =>
                by_cases e2 : t = d'
                · subst e2; rw [put_same, put_same]
                · rw [put_other (fun h => e2 (Option.some.inj h).symm), put_other (fun h => e2 (Option.some.inj h).symm)]
                  exact put_other (fun h => e1 (Option.some.inj h).symm)
        · rfl
  exact key l.length hlt (Nat.le_refl _)

end
end Go.Proofs.Ytibmnlijoeppaaa
