/-
 The abstract interpreter is sound: what 'acall' answers is what the call does in the world.
-/
import Derived.Test.YtibmnlijoeppaaaReg
namespace Go.Proofs.Ytibmnlijoeppaaa

section
variable {P : Program} {F : Nat → Prop} {n : Nat} {call : CallT}

theorem ri0s_get {ops : Array Oper} : ∀ {is : List Nat} {rs : List RI}, ri0s P ops n is = some rs → ∀ (k : Nat) (r : RI), rs[k]? = some r → ri0 P ops n r.ix = some r
 | [], rs, h, k, r, hk => by simp [ri0s] at h; subst h; simp at hk
 | i :: is, rs, h, k, r, hk => by
  unfold ri0s at h
  split at h
  ·rename_i r' rs' h1 h2
   simp only [Option.some.injEq] at h; subst h
   cases k with
   | zero =>
    simp only [List.getElem?_cons_zero, Option.some.injEq] at hk
    subst hk
    obtain ⟨_, _, e, _⟩ := ri0_spec h1
    rw [e]; exact h1
   | succ k => exact ri0s_get h2 k r (by simpa using hk)
  ·cases h

theorem frS_none {l : List RI} {V : Nat → AV} {S : Nat → Bool} {fr0 : Fr} (h : ∀ k, S k = false) : ∀ m, frS l V S fr0 m = fr0 := by
 intro m
 induction m with
 | zero => rfl
 | succ m ih =>
  simp only [frS, h m, Bool.false_eq_true, if_false, ih]
  split <;> rfl

theorem cnt_len (f : Nat → Bool) : ∀ l, cnt f l ≤ l.length
 | [] => Nat.le_refl _
 | r :: l => by
  have := cnt_len f l
  simp only [cnt, List.length_cons]
  split <;> omega

theorem reg_wp (hm : P.follows .mixedOrders = true) (hc : CallOK P call) {id : Nat} {ops : Array Oper} {draw : Bool} {l : List RI} (hl : rregL P ops n draw = some l) {fr fr' : Fr} {μ μ' : Mem}
  (hr : aReg call l fr μ = some (fr', μ')) {ρ : Emb} {w : World} {a : Act} (hs : Sim F ρ μ w) (hf : FrRel n ρ fr a.tmps) (hd : a.defers = []) {Q : Exit → Act → World → Prop}
  (hQ : ∀ a' w' ρ', a'.defers = [] → Steps' F ρ μ w ρ' μ' w' → FrRel n ρ' fr' a'.tmps → Q .normal a' w') : (Code.region id ops draw).wp P Q a w := by
 unfold rregL at hl
 split at hl
 ·cases hl
 ·rename_i rs hrs
  cases draw with
  | false =>
   simp only [if_true, Option.some.injEq] at hl
   subst hl
   exact wp_region (reg_text hc _ _ ρ μ w fr a hrs hr hs hf hd hQ)
  | true =>
   simp only [Bool.true_eq_false, if_false] at hl
   split at hl
   ·cases hl
   ·rename_i l0 hl0
    split at hl
    ·rename_i hok
     simp only [Option.some.injEq] at hl
     have ho := ord_of hok
     rw [hl] at ho
     obtain ⟨T, V, ht, h0, hT⟩ := aReg_tr hr
     have hri : ∀ (k : Nat) (r : RI), l[k]? = some r → ∃ r0, ri0 P ops n r.ix = some r0 ∧ r0.op = r.op ∧ r0.dst = r.dst ∧ r0.guard = r.guard := by
      intro k r hk
      rw [← hl] at hk
      simp only [List.getElem?_map, List.getElem?_zipIdx, Option.map_eq_some_iff] at hk
      obtain ⟨⟨r1, j⟩, ⟨h1, h2⟩, rfl⟩ := hk
      rename_i r2
      obtain ⟨h2, h3⟩ := h2
      have := ri0s_get hl0 k _ h2
      cases h3
      exact ⟨_, this, rfl, rfl, rfl⟩
     have hwf : (T 0).2.WF := by rw [h0]; exact hs.lt
     have hsat : ∀ k, Sat l (Array.replicate ops.size false) k = false := by
      intro k
      unfold Sat
      split
      ·rename_i r _
       by_cases h : r.ix < ops.size <;> simp [h]
      ·rfl
     have hs0 : Sim F ρ (T 0).2 { w with drawn := w.drawn + 1 } := by rw [h0]; exact hs.drew
     obtain ⟨p, p1, p2, p3, p4, p5, p6⟩ := advance ht 0 (Nat.zero_le _) hs0
     refine wp_region_any hm ?_
     refine reg_any (F := F) ho hc ht hri hwf (ρ0 := ρ) (w0 := w) ?_ ops.size _ a _ ?_ ?_
     ·intro a' w' ρ' q1 q2 q3 q4 q5
      rw [hT] at q2 q5
      rw [h0] at q3
      refine hQ a' w' ρ' q1 ⟨q2, q3, ?_, q4⟩ q5
      have := (tr_wf hc ht hwf l.length (Nat.le_refl _)).2
      rw [h0, hT] at this
      exact this
     ·refine ⟨by simp, ?_, hd, ρ, p, p2, ?_, ?_, p5, ?_, ?_, fun _ _ => rfl, Keeps.drew w⟩
      ·intro j r hj hlj
       have := hsat j
       rw [Sat_of hj] at this
       rw [this] at hlj; cases hlj
      ·intro k r hk hkr hm'
       exact absurd hm' (p3 k r (Nat.zero_le _) hk hkr)
      ·intro r hpr
       exact ⟨p4 r hpr, hsat p⟩
      ·rw [frS_none hsat, h0]; exact hf
      ·intro k r z hk hkr hop _ _
       exact p6 k r z (Nat.zero_le _) hk hkr hop
     ·rw [← ho.len]; exact cnt_len _ l
    ·cases hl

/-! ### Code -/

def Out.exit' : Out → Exit
 | .normal => .normal
 | .exit i => .exit i
 | .ret => .ret

def LoopWp (P : Program) (c : Code) (Q : Exit → Act → World → Prop) (a : Act) (w : World) : Prop :=
 ∀ (b : Frame) (k : List Item) (cs : List Frame), ∃ e a' w', Q e a' w' ∧ Arrives P (lone (b.at a (.code c :: .inLoop c :: k)) cs w) b k cs e a' w'

theorem wp_loop_of {c : Code} {Q : Exit → Act → World → Prop} {a : Act} {w : World} (h : LoopWp P c Q a w) : (Code.loop c).wp P Q a w := by
 intro b k cs
 obtain ⟨e, a', w', hq, harr⟩ := h b k cs
 exact ⟨e, a', w', hq, .of_steps (.one step_loop) harr⟩

theorem loopWp_step {c : Code} {Q : Exit → Act → World → Prop} {a : Act} {w : World} (h : c.wp P (Exit.then (LoopWp P c Q) Q) a w) : LoopWp P c Q a w := by
 intro b k cs
 obtain ⟨e, a₁, w₁, hq, harr⟩ := h b (.inLoop c :: k) cs
 cases e with
 | normal =>
  obtain ⟨e₂, a₂, w₂, hq₂, harr₂⟩ := hq b k cs
  exact ⟨e₂, a₂, w₂, hq₂, .of_steps (Steps.trans harr (.one step_inLoop)) harr₂⟩
 | exit id => exact ⟨_, a₁, w₁, hq, .pass (x := .inLoop c) rfl (fun _ _ => .inl (by simp)) harr⟩
 | goto l => exact ⟨_, a₁, w₁, hq, .pass (x := .inLoop c) rfl (fun _ _ => .inl (by simp)) harr⟩
 | ret => exact ⟨_, a₁, w₁, hq, .pass (x := .inLoop c) rfl (fun _ _ => .inl (by simp)) harr⟩
 | panic ch => exact ⟨_, a₁, w₁, hq, .pass (x := .inLoop c) rfl (fun _ _ => .inl (by simp)) harr⟩
 | outgrown => exact ⟨_, a₁, w₁, hq, .pass (x := .inLoop c) rfl (fun _ _ => .inl (by simp)) harr⟩

theorem code_wp (hm : P.follows .mixedOrders = true) (hc : CallOK P call) : ∀ k,
  (∀ (c : Code) (rc : RCode), rcode P n c = some rc → ∀ fr μ out fr' μ', aCode call k rc fr μ = some (out, fr', μ') → ∀ ρ w a, Sim F ρ μ w → FrRel n ρ fr a.tmps → a.defers = [] →
   ∀ Q : Exit → Act → World → Prop, (∀ a' w' ρ', a'.defers = [] → Steps' F ρ μ w ρ' μ' w' → FrRel n ρ' fr' a'.tmps → Q out.exit' a' w') → c.wp P Q a w) ∧
  (∀ (c : Code) (rc : RCode), rcode P n c = some rc → ∀ fr μ out fr' μ', aCode call k (.loop rc) fr μ = some (out, fr', μ') → ∀ ρ w a, Sim F ρ μ w → FrRel n ρ fr a.tmps → a.defers = [] →
   ∀ Q : Exit → Act → World → Prop, (∀ a' w' ρ', a'.defers = [] → Steps' F ρ μ w ρ' μ' w' → FrRel n ρ' fr' a'.tmps → Q out.exit' a' w') → LoopWp P c Q a w) := by
 intro k
 induction k with
 | zero => exact ⟨fun c rc _ fr μ out fr' μ' h => by simp [aCode] at h, fun c rc _ fr μ out fr' μ' h => by simp [aCode] at h⟩
 | succ k ih =>
  obtain ⟨ih1, ih2⟩ := ih
  have hloop : ∀ (c : Code) (rc : RCode), rcode P n c = some rc → ∀ fr μ out fr' μ', aCode call (k + 1) (.loop rc) fr μ = some (out, fr', μ') → ∀ ρ w a, Sim F ρ μ w → FrRel n ρ fr a.tmps → a.defers = [] →
    ∀ Q : Exit → Act → World → Prop, (∀ a' w' ρ', a'.defers = [] → Steps' F ρ μ w ρ' μ' w' → FrRel n ρ' fr' a'.tmps → Q out.exit' a' w') → LoopWp P c Q a w := by
   intro c rc hrc fr μ out fr' μ' h ρ w a hs hf hd Q hQ
   simp only [aCode] at h
   split at h
   ·cases h
   ·rename_i fr1 μ1 h1
    refine loopWp_step (ih1 c rc hrc _ _ _ _ _ h1 ρ w a hs hf hd _ fun a1 w1 ρ1 q1 q2 q3 => ?_)
    show LoopWp P c Q a1 w1
    exact ih2 c rc hrc _ _ _ _ _ h ρ1 w1 a1 q2.sim q3 q1 Q fun a' w' ρ' r1 r2 r3 => hQ a' w' ρ' r1 (q2.trans r2) r3
   ·rename_i hne h1
    simp only [Option.some.injEq] at h
    subst h
    refine loopWp_step (ih1 c rc hrc _ _ _ _ _ h1 ρ w a hs hf hd _ fun a1 w1 ρ1 q1 q2 q3 => ?_)
    have := hQ a1 w1 ρ1 q1 q2 q3
    cases out with
    | normal => exact absurd rfl (hne _ _)
    | exit i => exact this
    | ret => exact this
  refine ⟨?_, hloop⟩
  intro c
  cases c with
  | skip =>
   intro rc hrc fr μ out fr' μ' h ρ w a hs hf hd Q hQ
   simp only [rcode, Option.some.injEq] at hrc; subst hrc
   simp only [aCode, Option.some.injEq, Prod.mk.injEq] at h
   obtain ⟨rfl, rfl, rfl⟩ := h
   exact wp_skip (hQ a w ρ hd (Steps'.refl hs) hf)
  | region id ops draw =>
   intro rc hrc fr μ out fr' μ' h ρ w a hs hf hd Q hQ
   simp only [rcode, Option.map_eq_some_iff] at hrc
   obtain ⟨l, hl, rfl⟩ := hrc
   simp only [aCode, Option.map_eq_some_iff, Prod.mk.injEq] at h
   obtain ⟨⟨f1, m1⟩, h1, rfl, rfl, rfl⟩ := h
   exact reg_wp hm hc hl h1 hs hf hd hQ
  | seq x y =>
   intro rc hrc fr μ out fr' μ' h ρ w a hs hf hd Q hQ
   simp only [rcode] at hrc
   split at hrc
   ·rename_i rx ry hx hy
    simp only [Option.some.injEq] at hrc; subst hrc
    simp only [aCode] at h
    split at h
    ·cases h
    ·rename_i fr1 μ1 h1
     refine wp_seq (ih1 x rx hx _ _ _ _ _ h1 ρ w a hs hf hd _ fun a1 w1 ρ1 q1 q2 q3 => ?_)
     show y.wp P Q a1 w1
     exact ih1 y ry hy _ _ _ _ _ h ρ1 w1 a1 q2.sim q3 q1 Q fun a' w' ρ' r1 r2 r3 => hQ a' w' ρ' r1 (q2.trans r2) r3
    ·rename_i hne h1
     simp only [Option.some.injEq] at h
     subst h
     refine wp_seq (ih1 x rx hx _ _ _ _ _ h1 ρ w a hs hf hd _ fun a1 w1 ρ1 q1 q2 q3 => ?_)
     have := hQ a1 w1 ρ1 q1 q2 q3
     cases out with
     | normal => exact absurd rfl (hne _ _)
     | exit i => exact this
     | ret => exact this
   ·cases hrc
  | cond cnd x y =>
   intro rc hrc fr μ out fr' μ' h ρ w a hs hf hd Q hQ
   simp only [rcode] at hrc
   split at hrc
   ·rename_i rcnd rx ry hcnd hx hy
    simp only [Option.some.injEq] at hrc; subst hrc
    simp only [aCode] at h
    split at h
    ·rename_i t ht
     have hcr := opd_rel hcnd hf; rw [ht] at hcr
     have hce : a.eval cnd = .bool t := hcr
     cases t with
     | true => exact wp_cond_true hce (ih1 x rx hx _ _ _ _ _ h ρ w a hs hf hd Q hQ)
     | false => exact wp_cond_false hce (ih1 y ry hy _ _ _ _ _ h ρ w a hs hf hd Q hQ)
    ·cases h
   ·cases hrc
  | block id b =>
   intro rc hrc fr μ out fr' μ' h ρ w a hs hf hd Q hQ
   simp only [rcode, Option.map_eq_some_iff] at hrc
   obtain ⟨rb, hb, rfl⟩ := hrc
   simp only [aCode] at h
   split at h
   ·cases h
   ·rename_i i fr1 μ1 h1
    simp only [Option.some.injEq, Prod.mk.injEq] at h
    obtain ⟨h2, rfl, rfl⟩ := h
    refine wp_block (ih1 b rb hb _ _ _ _ _ h1 ρ w a hs hf hd _ fun a1 w1 ρ1 q1 q2 q3 => ?_)
    have := hQ a1 w1 ρ1 q1 q2 q3
    show (if i = id then Q .normal a1 w1 else Q (.exit i) a1 w1)
    by_cases e : i = id
    ·rw [if_pos e] at h2 ⊢; subst h2; exact this
    ·rw [if_neg e] at h2 ⊢; subst h2; exact this
   ·rename_i hne h1
    simp only [Option.some.injEq] at h
    subst h
    refine wp_block (ih1 b rb hb _ _ _ _ _ h1 ρ w a hs hf hd _ fun a1 w1 ρ1 q1 q2 q3 => ?_)
    have := hQ a1 w1 ρ1 q1 q2 q3
    cases out with
    | normal => exact this
    | exit i => exact absurd rfl (hne _ _ _)
    | ret => exact this
  | loop b =>
   intro rc hrc fr μ out fr' μ' h ρ w a hs hf hd Q hQ
   simp only [rcode, Option.map_eq_some_iff] at hrc
   obtain ⟨rb, hb, rfl⟩ := hrc
   exact wp_loop_of (hloop b rb hb _ _ _ _ _ h ρ w a hs hf hd Q hQ)
  | exit id =>
   intro rc hrc fr μ out fr' μ' h ρ w a hs hf hd Q hQ
   simp only [rcode, Option.some.injEq] at hrc; subst hrc
   simp only [aCode, Option.some.injEq, Prod.mk.injEq] at h
   obtain ⟨rfl, rfl, rfl⟩ := h
   exact wp_exit (hQ a w ρ hd (Steps'.refl hs) hf)
  | ret =>
   intro rc hrc fr μ out fr' μ' h ρ w a hs hf hd Q hQ
   simp only [rcode, Option.some.injEq] at hrc; subst hrc
   simp only [aCode, Option.some.injEq, Prod.mk.injEq] at h
   obtain ⟨rfl, rfl, rfl⟩ := h
   exact wp_ret (hQ a w ρ hd (Steps'.refl hs) hf)
  | _ => intro rc hrc; simp [rcode] at hrc

/-! ### Memory stays in form -/

theorem reg_wf (hc : CallOK P call) : ∀ {l : List RI} {fr fr' : Fr} {μ μ' : Mem}, aReg call l fr μ = some (fr', μ') → μ.WF → μ'.WF ∧ μ.next ≤ μ'.next := by
 intro l fr fr' μ μ' h hw
 obtain ⟨T, V, ht, h0, hl⟩ := aReg_tr h
 have := tr_wf hc ht (by rw [h0]; exact hw) l.length (Nat.le_refl _)
 rw [h0, hl] at this
 exact this

theorem code_wf (hc : CallOK P call) : ∀ k (rc : RCode) fr μ out fr' μ', aCode call k rc fr μ = some (out, fr', μ') → μ.WF → μ'.WF ∧ μ.next ≤ μ'.next := by
 intro k
 induction k with
 | zero => intro rc fr μ out fr' μ' h; simp [aCode] at h
 | succ k ih =>
  intro rc fr μ out fr' μ' h hw
  cases rc with
  | skip => simp only [aCode, Option.some.injEq, Prod.mk.injEq] at h; obtain ⟨_, _, rfl⟩ := h; exact ⟨hw, Nat.le_refl _⟩
  | exit id => simp only [aCode, Option.some.injEq, Prod.mk.injEq] at h; obtain ⟨_, _, rfl⟩ := h; exact ⟨hw, Nat.le_refl _⟩
  | ret => simp only [aCode, Option.some.injEq, Prod.mk.injEq] at h; obtain ⟨_, _, rfl⟩ := h; exact ⟨hw, Nat.le_refl _⟩
  | reg l =>
   simp only [aCode, Option.map_eq_some_iff, Prod.mk.injEq] at h
   obtain ⟨⟨f1, m1⟩, h1, _, _, rfl⟩ := h
   exact reg_wf hc h1 hw
  | seq a b =>
   simp only [aCode] at h
   split at h
   ·cases h
   ·rename_i fr1 μ1 h1
    have i1 := ih _ _ _ _ _ _ h1 hw
    have i2 := ih _ _ _ _ _ _ h i1.1
    exact ⟨i2.1, Nat.le_trans i1.2 i2.2⟩
   ·rename_i h1
    simp only [Option.some.injEq] at h
    subst h
    exact ih _ _ _ _ _ _ h1 hw
  | ite c a b =>
   simp only [aCode] at h
   split at h
   ·rename_i t ht
    cases t
    ·exact ih _ _ _ _ _ _ h hw
    ·exact ih _ _ _ _ _ _ h hw
   ·cases h
  | blk id b =>
   simp only [aCode] at h
   split at h
   ·cases h
   ·rename_i h1
    simp only [Option.some.injEq, Prod.mk.injEq] at h
    obtain ⟨_, _, rfl⟩ := h
    exact ih _ _ _ _ _ _ h1 hw
   ·rename_i h1
    simp only [Option.some.injEq] at h
    subst h
    exact ih _ _ _ _ _ _ h1 hw
  | loop b =>
   simp only [aCode] at h
   split at h
   ·cases h
   ·rename_i fr1 μ1 h1
    have i1 := ih _ _ _ _ _ _ h1 hw
    have i2 := ih _ _ _ _ _ _ h i1.1
    exact ⟨i2.1, Nat.le_trans i1.2 i2.2⟩
   ·rename_i h1
    simp only [Option.some.injEq] at h
    subst h
    exact ih _ _ _ _ _ _ h1 hw

/-! ### Calls -/

theorem toCells_rel {ρ : Emb} : ∀ {vs : List AV} {cs : List Cell} {us : List Value}, toCells vs = some cs → LRel (AVRel ρ) vs us → LRel (CRel ρ) cs us
 | [], cs, us, h, hr => by
  simp only [toCells, Option.some.injEq] at h; subst h
  cases us with
  | nil => trivial
  | cons u us => exact hr.elim
 | v :: vs, cs, us, h, hr => by
  cases us with
  | nil => exact hr.elim
  | cons u us =>
   unfold toCells at h
   split at h
   ·rename_i e; cases e
   ·rename_i x l e
    simp only [List.cons.injEq] at e
    obtain ⟨rfl, rfl⟩ := e
    simp only [Option.map_eq_some_iff] at h
    obtain ⟨cs', h1, rfl⟩ := h
    exact ⟨hr.1, toCells_rel h1 hr.2⟩
   ·cases h

def resSem (tmps : Array Value) : ResultVar → Sem Value
 | .tmp t => pure (tmps.getD t undef)
 | .cell a t => do loadVar t (← asAddr (tmps.getD a undef))

theorem res_run {ρ : Emb} {μ : Mem} {w : World} {fr : Fr} {tmps : Array Value} (hs : Sim F ρ μ w) (hf : FrRel n ρ fr tmps) : ∀ {rv : List ResultVar} {rs : List RRes}, rres P rv = some rs → ∀ {vs : List AV},
  aRes fr μ rs = some vs → ∃ us, (rv.mapM (resSem tmps)).run P w = .ok us w ∧ LRel (AVRel ρ) vs us
 | [], rs, h, vs, hv => by
  simp only [rres, Option.some.injEq] at h; subst h
  simp only [aRes, Option.some.injEq] at hv; subst hv
  exact ⟨[], by simp, trivial⟩
 | .tmp t :: rv, rs, h, vs, hv => by
  simp only [rres, Option.map_eq_some_iff] at h
  obtain ⟨rs', h1, rfl⟩ := h
  simp only [aRes, aRes1] at hv
  split at hv
  ·rename_i v vs' e1 e2
   simp only [Option.some.injEq] at hv e1
   subst hv; subst e1
   obtain ⟨us, k1, k2⟩ := res_run hs hf h1 e2
   exact ⟨tmps.getD t undef :: us, by simp only [List.mapM_cons, Sem.run_bind, resSem, Sem.run_pure, Result.andThen_ok, k1], hf.2 t, k2⟩
  ·cases hv
 | .cell t ty :: rv, rs, h, vs, hv => by
  simp only [rres] at h
  split at h
  ·rename_i m rs' hm h1
   simp only [Option.some.injEq] at h; subst h
   simp only [aRes, aRes1] at hv
   split at hv
   ·rename_i v vs' e1 e2
    simp only [Option.some.injEq] at hv
    subst hv
    split at e1
    ·rename_i i o hfr
     have hrel := hf.2 t
     rw [hfr] at hrel
     obtain ⟨b, x, q1, q2⟩ := hrel
     obtain ⟨v', q3, q4⟩ := run_loadVar_of hm hs q1 e1
     obtain ⟨us, k1, k2⟩ := res_run hs hf h1 e2
     refine ⟨v' :: us, ?_, q3, k2⟩
     simp only [List.mapM_cons, Sem.run_bind, resSem, q2, asAddr, Sem.run_pure, Result.andThen_ok, k1, q4]
    ·cases e1
   ·cases hv
  ·cases h

theorem ret_run {ρ : Emb} {μ : Mem} {w : World} {fr : Fr} {tmps : Array Value} (hs : Sim F ρ μ w) (hf : FrRel n ρ fr tmps) {fn : Func} {rs : List RRes} (h : rres P fn.results.toList = some rs) {v : AV}
  (hv : aRet fr μ rs = some v) : ∃ u, (results fn tmps).run P w = .ok u w ∧ AVRel ρ v u := by
 have key : ∀ vs, aRes fr μ rs = some vs → ∃ us, (fn.results.toList.mapM (resSem tmps)).run P w = .ok us w ∧ LRel (AVRel ρ) vs us := fun vs h' => res_run hs hf h h'
 have hres : ∀ us, (fn.results.toList.mapM (resSem tmps)).run P w = .ok us w → (results fn tmps).run P w = .ok (if h : us.toArray.size = 1 then us.toArray[0] else .tuple us.toArray) w := by
  intro us hu
  have he : results fn tmps = (do let vs ← fn.results.mapM (resSem tmps); pure (if h : vs.size = 1 then vs[0] else .tuple vs)) := by
   unfold results
   congr 1
  rw [he, Array.mapM_eq_mapM_toList]
  simp only [Sem.run_bind, Sem.run_map, hu, Result.andThen_ok, Sem.run_pure]
 unfold aRet at hv
 split at hv
 ·rename_i v' e
  simp only [Option.some.injEq] at hv; subst hv
  obtain ⟨us, k1, k2⟩ := key _ e
  cases us with
  | nil => exact k2.elim
  | cons u us =>
   cases us with
   | cons _ _ => exact k2.2.elim
   | nil => exact ⟨u, by rw [hres _ k1]; simp, k2.1⟩
 ·rename_i vs hne e
  simp only [Option.map_eq_some_iff] at hv
  obtain ⟨cs, hcs, rfl⟩ := hv
  obtain ⟨us, k1, k2⟩ := key _ e
  refine ⟨.tuple us.toArray, ?_, us, rfl, toCells_rel hcs k2⟩
  rw [hres _ k1]
  have : us.toArray.size ≠ 1 := by
   intro h1
   have hl := k2.length
   simp only [List.size_toArray] at h1
   rw [h1] at hl
   obtain ⟨x, hx⟩ := List.length_eq_one_iff.1 hl
   exact hne x hx
  rw [dif_neg this]
 ·cases hv

theorem frOf_rel {ρ : Emb} {args : List AV} {cargs : List Value} (h : LRel (AVRel ρ) args cargs) (hl : args.length ≤ n) :
  FrRel n ρ (frOf args) (cargs.toArray ++ Array.replicate (n - cargs.toArray.size) undef) := by
 have hlen := h.length
 refine ⟨by simp; omega, fun t => ?_⟩
 unfold frOf
 simp only [Array.getD_eq_getD_getElem?]
 cases ha : args[t]? with
 | some v =>
  obtain ⟨u, h1, h2⟩ := h.get ha
  have ht : t < cargs.length := (List.getElem?_eq_some_iff.1 h1).1
  rw [Array.getElem?_append_left (by simpa using ht)]
  simpa [h1] using h2
 | none =>
  have ht : args.length ≤ t := by simpa using ha
  rw [Array.getElem?_append_right (by simp; omega)]
  simp only [Array.getElem?_replicate]
  split <;> exact AVRel.undef ρ

def progOf (P : Program) : Nat → Option RFun := fun f => (P.funcs[f]?).bind (rfun P)

theorem acall_ok (hm : P.follows .mixedOrders = true) {prog : Nat → Option RFun} (hprog : ∀ f rf, prog f = some rf → ∃ fn, P.funcs[f]? = some fn ∧ rfun P fn = some rf) : ∀ k, CallOK P (acall prog k) := by
 intro k
 induction k with
 | zero => exact ⟨fun _ _ _ _ _ h => by simp [acall] at h, fun _ _ _ _ _ h => by simp [acall] at h, fun _ _ _ _ _ h => by simp [acall] at h⟩
 | succ k ih =>
  have inv : ∀ f args μ v μ', acall prog (k + 1) f args μ = some (v, μ') → ∃ rf fn c out fr', prog f = some rf ∧ P.funcs[f]? = some fn ∧ fn.body = some c ∧ rcode P fn.ntmps c = some rf.body ∧
    rres P fn.results.toList = some rf.res ∧ rf.ntmps = fn.ntmps ∧ (fn.name != "runtime.NumGoroutine") = true ∧ args.length ≤ rf.ntmps ∧
    aCode (acall prog k) k rf.body (frOf args) μ = some (out, fr', μ') ∧ (∀ i, out ≠ .exit i) ∧ aRet fr' μ' rf.res = some v := by
   intro f args μ v μ' h
   simp only [acall] at h
   split at h
   ·cases h
   ·rename_i rf hrf
    split at h
    ·rename_i hlen
     obtain ⟨fn, h1, h2⟩ := hprog f rf hrf
     unfold rfun at h2
     split at h2
     ·cases h2
     ·rename_i c hb
      split at h2
      ·rename_i b r hcode hres
       split at h2
       ·rename_i hname
        simp only [Option.some.injEq] at h2
        subst h2
        split at h
        ·cases h
        ·rename_i out fr' μ1 hne hco
         simp only [Option.map_eq_some_iff, Prod.mk.injEq] at h
         obtain ⟨v', h3, rfl, rfl⟩ := h
         exact ⟨_, fn, c, out, fr', hrf, h1, hb, hcode, hres, rfl, hname, hlen, hco, fun i e => hne i e, h3⟩
        ·cases h
       ·cases h2
      ·cases h2
    ·cases h
  refine ⟨?_, ?_, ?_⟩
  ·intro f args μ v μ' h
   obtain ⟨rf, fn, c, out, fr', h1, h2, h3, h4, h5, h6, h7, h8, h9, h10, h11⟩ := inv f args μ v μ' h
   simp [goFn, h2, h3, h7]
  ·intro f args μ v μ' h hw
   obtain ⟨rf, fn, c, out, fr', h1, h2, h3, h4, h5, h6, h7, h8, h9, h10, h11⟩ := inv f args μ v μ' h
   exact code_wf ih _ _ _ _ _ _ _ h9 hw
  ·intro f args μ v μ' h F ρ w cargs hs hargs
   obtain ⟨rf, fn, c, out, fr', h1, h2, h3, h4, h5, h6, h7, h8, h9, h10, h11⟩ := inv f args μ v μ' h
   refine calls_of_wp h2 h3 ?_
   have hfr := frOf_rel (n := fn.ntmps) hargs (by omega)
   refine (code_wp (F := F) (n := fn.ntmps) hm ih k).1 c rf.body h4 _ _ _ _ _ h9 ρ w _ hs hfr rfl _ ?_
   intro a' w' ρ' q1 q2 q3
   obtain ⟨u, k1, k2⟩ := ret_run q2.sim q3 h5 h11
   cases out with
   | normal => exact ⟨q1, u, k1, ρ', u, rfl, k2, q2⟩
   | ret => exact ⟨q1, u, k1, ρ', u, rfl, k2, q2⟩
   | exit i => exact absurd rfl (h10 i)

end
end Go.Proofs.Ytibmnlijoeppaaa
