/-
  The program's RunPlan, Rings and EndOf: what they answer.
-/
import Derived.Test.YtibmnlijoeppaaaIW7
namespace Go.Proofs.Ytibmnlijoeppaaa
open Nat renaming reduceEqDiff → zA, reduceAdd → zB, reduceLeDiff → zJ, reduceMul → zK
open Int renaming reduceLT → zC, reduceLE → zD, reduceNeg → zE, reduceBEq → zF, reduceBNe → zG
open AV renaming isTup → zH, cells → zI
set_option linter.unusedSimpArgs false
set_option linter.unusedVariables false

structure PReport where
  code : Int
  recs : List PRec
  num : Int
  ticks : Int
  states : List Int
  deriving DecidableEq, Repr, Inhabited

/-- The machine at the end of a run. -/
def runEnd (p : PPlan) (ticks : Int) (hook : Option PHk) (fuel : Nat) : Option PM := (PM.fresh p ticks hook).bind fun S => PM.runs p fuel S

def PM.report (S : PM) : PReport := ⟨S.code, S.recs, S.num, S.used, S.tasks.map (·.state)⟩

def RepV (hi : Nat) (μ : Mem) (v : AV) (r : PReport) : Prop :=
  ∃ rc sc, v = .agg [.int .i64 r.code, rc, .int .i64 r.num, .int .i64 r.ticks, sc] ∧ Rd hi μ 4 rc r.recs.length (cat recrow 0 r.recs) ∧ Rd hi μ 1 sc r.states.length (cat irow 0 r.states)

def RingsV (hi : Nat) (μ : Mem) (c : Cell) (l : List PRing) : Prop :=
  ∃ g : Nat → Cell, Rd hi μ 2 c l.length (cat (fun i (r : PRing) => [.int .i64 r.pos, g i]) 0 l) ∧ ∀ (i : Nat) (r : PRing), l[i]? = some r → Rd hi μ 1 (g i) r.tasks.length (cat irow 0 r.tasks)

def StandV (hi : Nat) (μ : Mem) (v : AV) (s : PStand) : Prop :=
  ∃ sc, ∃ g : Nat → Cell, v = .agg [.bool s.ok, .int .i64 s.running, sc] ∧
    Rd hi μ 7 sc s.tasks.length (cat (fun i (v : PView) => [.int .i64 v.body, .int .i64 v.state, g i, .int .i64 v.waiter, .int .i64 v.blocks, .int .i64 v.kept, .int .i64 v.begun]) 0 s.tasks) ∧
    ∀ (i : Nat) (v : PView), s.tasks[i]? = some v → Rd hi μ 1 (g i) v.regs.length (cat irow 0 v.regs)

theorem Rd.nil {hi : Nat} {μ : Mem} {sz : Nat} : Rd hi μ sz (.slc none 0 0) 0 [] := ⟨none, 0, rfl, by simp, rfl⟩

section
variable {E : IEnv} {L L' : Lay IR} {S S' : PM} {μ μ' : Mem}

def L00 : Lay IR := ⟨fun _ => 0, fun _ => false, fun _ => 0⟩
theorem hcon_none {lo : Nat} : Has L00 (hcon L00 none) lo μ := by
  refine (Has.start (fun _ => rfl)).weaken' fun y sz cs hy => ?_
  unfold hcon at hy
  split at hy
  · rename_i hk
    cases y <;> simp only [IR.ofHook, Bool.false_eq_true, reduceCtorEq] at hk <;> simp [icon, hookSt] at hy
  · cases hy

/-- What a run asks of a plan. -/
structure Goes (p : PPlan) (ticks : Int) (hook : Option PHk) (S : PM) : Prop where
  ex : ∃ fuel, runEnd p ticks hook fuel = some S
  ticks : 0 ≤ ticks ∧ ticks ≤ 5000
  ok : (okP p).1 = 0
  room : S.tasks.length < roomy
  states : S.states = []

theorem drive_end {hi : Nat} {c : Cell} {p : PPlan} {ticks : Int} (hR : PlanR hi μ c p) (hh : hi ≤ μ.next) (hl : Lens p) (hg : Goes p ticks none S) :
    Ret 66 [.agg [c], .c (.int .i64 ticks), .c .nilfn] μ fun v μ' => ∃ E L', E.lo = μ.next ∧ v = pt E.m 0 ∧ Rep E L' S.done μ' ∧ Same μ.next μ μ' := by
  obtain ⟨⟨fuel, he⟩, ht, hok, hr, hst⟩ := hg
  obtain ⟨S0, h0, h1⟩ := Option.bind_eq_some_iff.1 he
  refine (drive_ok (lo := μ.next) (out := μ) (m := 0) (hook := none) (L0 := L00) (hR.mono hh) Same.refl (Nat.le_refl _) hl ht hok hcon_none (fun _ _ => rfl) h0 h1 hr hst).mono ?_
  rintro v μ' ⟨E, L', e1, e2, _, _, rfl, h, _, _⟩
  refine ⟨E, L', e1, rfl, h, ?_⟩
  have := h.same
  rw [e1, e2] at this
  exact this

/-! 26: impl.RunPlan -/
def r26 : RFun := ⟨16, [.cell 4 (some 5)], (.seq (.reg [rI 0 (.box (.t 0) 1) 2, rI 1 (.alc [.int .i64 0, .slc none 0 0, .int .i64 0, .int .i64 0, .slc none 0 0]) 4]) (.seq (.reg [rI 0 (.ld (some 1) (.t 2)) 6, rI 1 (.mv (.t 1)) 7, rI 2 (.call 66 [.t 6, .t 7, .k .nilfn]) 8, rI 3 (.mv (.t 8)) 5]) (.seq (.seq (.reg [rI 0 (.mv (.t 5)) 9, rI 1 (.eq false .ptr (.t 9) (.k (.ptr none))) 10]) (.ite (.t 10) (.seq (.reg [rI 0 (.bld [.int .i64 0, .slc none 0 0, .int .i64 0, .int .i64 0, .slc none 0 0] [(0, 1, .k (.int .i64 3))]) 11, ⟨1, .st (.t 4) (.t 11) 5, none, none, []⟩]) .ret) .skip)) (.seq (.reg [rI 0 (.mv (.t 5)) 12, rI 1 (.nc (.t 12)) 13, rI 2 (.fa (.t 13) 5) 14, rI 3 (.ld (some 5) (.t 14)) 15, ⟨4, .st (.t 4) (.t 15) 5, none, none, []⟩]) .ret))))⟩
theorem p26 : prog 26 = some r26 := by kernel_rfl

/-! 28: impl.Rings -/
def r28 : RFun := ⟨15, [.tmp 4], (.seq (.reg [rI 0 (.box (.t 0) 1) 2, rI 1 (.mv (.k (.slc none 0 0))) 4]) (.seq (.reg [rI 0 (.ld (some 1) (.t 2)) 6, rI 1 (.mv (.t 1)) 7, rI 2 (.call 66 [.t 6, .t 7, .k .nilfn]) 8, rI 3 (.mv (.t 8)) 5]) (.seq (.seq (.reg [rI 0 (.mv (.t 5)) 9, rI 1 (.eq false .ptr (.t 9) (.k (.ptr none))) 10]) (.ite (.t 10) (.seq (.reg [rI 0 (.mv (.k (.slc none 0 0))) 4]) .ret) .skip)) (.seq (.reg [rI 0 (.mv (.t 5)) 11, rI 1 (.nc (.t 11)) 12, rI 2 (.fa (.t 12) 12) 13, rI 3 (.ld none (.t 13)) 14, rI 4 (.mv (.t 14)) 4]) .ret))))⟩
theorem p28 : prog 28 = some r28 := by kernel_rfl

/-! 30: impl.EndOf -/
def r30 : RFun := ⟨14, [.cell 4 (some 3)], (.seq (.reg [rI 0 (.box (.t 0) 1) 2, rI 1 (.alc [.bool false, .int .i64 0, .slc none 0 0]) 4]) (.seq (.reg [rI 0 (.ld (some 1) (.t 2)) 6, rI 1 (.mv (.t 1)) 7, rI 2 (.call 66 [.t 6, .t 7, .k .nilfn]) 8, rI 3 (.mv (.t 8)) 5]) (.seq (.seq (.reg [rI 0 (.mv (.t 5)) 9, rI 1 (.eq false .ptr (.t 9) (.k (.ptr none))) 10]) (.ite (.t 10) (.seq (.reg [rI 0 (.bld [.bool false, .int .i64 0, .slc none 0 0] []) 11, ⟨1, .st (.t 4) (.t 11) 3, none, none, []⟩]) .ret) .skip)) (.seq (.reg [rI 0 (.mv (.t 5)) 12, rI 1 (.call 67 [.t 12]) 13, ⟨2, .st (.t 4) (.t 13) 3, none, none, []⟩]) .ret))))⟩
theorem p30 : prog 30 = some r30 := by kernel_rfl



theorem runPlan_ok {hi : Nat} {c : Cell} {p : PPlan} {ticks : Int} (hR : PlanR hi μ c p) (hh : hi ≤ μ.next) (hl : Lens p) (hg : Goes p ticks none S) :
    Ret 26 [.agg [c], .c (.int .i64 ticks)] μ fun v μ' => RepV μ'.next μ' v S.report ∧ Same μ.next μ μ' := by
  have hA : Same μ.next μ ((μ.new [c] 0).new [.int .i64 0, .slc none 0 0, .int .i64 0, .int .i64 0, .slc none 0 0] 0) := (Same.tmp (Nat.le_refl _)).new (Nat.le_succ _)
  have lA : ((μ.new [c] 0).new [.int .i64 0, .slc none 0 0, .int .i64 0, .int .i64 0, .slc none 0 0] 0).ld (some 1) μ.next 0 = some (.agg [c]) := by
    rw [Mem.new_ld, if_neg (by simp [Mem.new_next]), Mem.new_ld, if_pos rfl]; rfl
  refine Ret_of p26 (by simp [r26]) ?_
  simp only [rI, r26, frOf_2]
  simp only [w1, w2, zH, zI, ↓reduceIte, zA, zB, zC, zD, zE, zF, zG, lA]
  refine R_calls (l := [.agg [c], .c (.int .i64 ticks), .c .nilfn]) (by simp only [w1, w2, zH, zI, ↓reduceIte, zA, zB, zC, zD, zE, zF, zG]) (drive_end (hR.same hA hh) (by simp only [Mem.new_next]; omega) hl hg) ?_
  rintro v μ1 ⟨E, L, hlo, rfl, h, hs⟩
  have hm : μ1.ld (some 5) E.m 5 = some (.agg [.int .i64 S.code, L.sc .recs S.recs.length, .int .i64 S.num, .int .i64 S.used, L.sc .states (S.states ++ S.tasks.map (·.state)).length]) := by
    rw [← h.m]
    exact h.has.ldn (r := .mach) rfl (by simp only [mcells, PM.done]; rfl) (.inl rfl)
  simp only [Mem.new_next] at hs
  obtain ⟨μ2, e2, hs2, hn2, ho2⟩ := hs.st (i := μ.next + 1) (o := 0) (x := [.int .i64 S.code, L.sc .recs S.recs.length, .int .i64 S.num, .int .i64 S.used, L.sc .states (S.states ++ S.tasks.map (·.state)).length])
    (μ1 := (μ.new [c] 0).new [.int .i64 S.code, L.sc .recs S.recs.length, .int .i64 S.num, .int .i64 S.used, L.sc .states (S.states ++ S.tasks.map (·.state)).length] 0) (by omega) (new_st0 (μ := μ.new [c] 0) rfl)
  have l2 : μ2.ld (some 5) (μ.next + 1) 0 = some (.agg [.int .i64 S.code, L.sc .recs S.recs.length, .int .i64 S.num, .int .i64 S.used, L.sc .states (S.states ++ S.tasks.map (·.state)).length]) := by
    rw [hs2.ld (by omega), Mem.new_ld, Mem.new_next, if_pos rfl]; rfl
  simp only [Mem.new_next] at hlo
  have h2 : Has L (icon E L S.done) E.lo μ2 := h.has.frame (by rw [hn2]; exact Nat.le_refl _) fun r hr => ho2 _ (by have := h.has.ge r hr; omega)
  simp only [w1, w2, zH, zI, ↓reduceIte, zA, zB, zC, zD, zE, zF, zG, aeq, hm, Mem.new_next, e2, aRet, aRes, aRes1, l2]
  refine ⟨_, rfl, ⟨L.sc .recs S.recs.length, L.sc .states (S.states ++ S.tasks.map (·.state)).length, rfl, ?_, ?_⟩, ?_⟩
  · exact h2.rd (r := .recs) rfl (by rw [cat_length recrow_len]; rfl) (by omega)
  · have := h2.rd (r := .states) (sz := 1) (n := S.done.states.length) (cs := cat irow 0 S.done.states) rfl (by simp [cat_length irow_len]) (by omega)
    simpa [PM.done, PM.report, hg.states] using this
  · exact ((Same.tmp (Nat.le_refl _)).new (Nat.le_succ _)).trans (hs2.mono (Nat.le_trans (Nat.le_succ _) (Nat.le_succ _)))

theorem rings_ok {hi : Nat} {c : Cell} {p : PPlan} {ticks : Int} (hR : PlanR hi μ c p) (hh : hi ≤ μ.next) (hl : Lens p) (hg : Goes p ticks none S) :
    Ret 28 [.agg [c], .c (.int .i64 ticks)] μ fun v μ' => (∃ x, v = .c x ∧ RingsV μ'.next μ' x S.rings) ∧ Same μ.next μ μ' := by
  have hA : Same μ.next μ (μ.new [c] 0) := Same.tmp (Nat.le_refl _)
  have lA : (μ.new [c] 0).ld (some 1) μ.next 0 = some (.agg [c]) := by rw [Mem.new_ld, if_pos rfl]; rfl
  refine Ret_of p28 (by simp [r28]) ?_
  simp only [rI, r28, frOf_2]
  simp only [w1, w2, zH, zI, ↓reduceIte, zA, zB, zC, zD, zE, zF, zG, lA]
  refine R_calls (l := [.agg [c], .c (.int .i64 ticks), .c .nilfn]) (by simp only [w1, w2, zH, zI, ↓reduceIte, zA, zB, zC, zD, zE, zF, zG]) (drive_end (hR.same hA hh) (by simp only [Mem.new_next]; omega) hl hg) ?_
  rintro v μ1 ⟨E, L, hlo, rfl, h, hs⟩
  have hm := h.mfacts
  simp only [Mem.new_next] at hs
  simp only [w1, w2, zH, zI, ↓reduceIte, zA, zB, zC, zD, zE, zF, zG, aeq, hm, aRet, aRes, aRes1]
  refine ⟨_, rfl, ⟨_, rfl, fun i => match S.rings[i]? with | some r => L.sc (.ring i) r.tasks.length | none => .slc none 0 0, ?_, ?_⟩, hA.trans (hs.mono (by omega))⟩
  · have := h.has.rd (r := .rings) (sz := 2) (n := S.rings.length) (cs := cat (ringrow L) 0 S.rings) rfl (by rw [cat_length (ringrow_len L)]) (by omega)
    rw [cat_congr (g := fun i (r : PRing) => [Cell.int .i64 r.pos, match S.rings[i]? with | some r => L.sc (.ring i) r.tasks.length | none => .slc none 0 0]) (g' := ringrow L) fun j g hj => by
      simp only [Nat.zero_add, hj, ringrow]]
    exact this
  · intro i r hr
    simp only [hr]
    refine h.has.rd (r := .ring i) (sz := 1) ?_ (by simp [cat_length irow_len]) (by omega)
    have hlt := (List.getElem?_eq_some_iff.1 hr).1
    show (if i = S.rings.length then _ else _) = _
    rw [if_neg (by omega)]
    show (S.rings[i]?).map _ = _
    rw [hr]; rfl

theorem endOf_ok {hi : Nat} {c : Cell} {p : PPlan} {ticks : Int} (hR : PlanR hi μ c p) (hh : hi ≤ μ.next) (hl : Lens p) (hg : Goes p ticks none S) :
    Ret 30 [.agg [c], .c (.int .i64 ticks)] μ fun v μ' => StandV μ'.next μ' v S.stand ∧ Same μ.next μ μ' := by
  have hA : Same μ.next μ ((μ.new [c] 0).new [.bool false, .int .i64 0, .slc none 0 0] 0) := (Same.tmp (Nat.le_refl _)).new (Nat.le_succ _)
  have lA : ((μ.new [c] 0).new [.bool false, .int .i64 0, .slc none 0 0] 0).ld (some 1) μ.next 0 = some (.agg [c]) := by
    rw [Mem.new_ld, if_neg (by simp [Mem.new_next]), Mem.new_ld, if_pos rfl]; rfl
  refine Ret_of p30 (by simp [r30]) ?_
  simp only [rI, r30, frOf_2]
  simp only [w1, w2, zH, zI, ↓reduceIte, zA, zB, zC, zD, zE, zF, zG, lA]
  refine R_calls (l := [.agg [c], .c (.int .i64 ticks), .c .nilfn]) (by simp only [w1, w2, zH, zI, ↓reduceIte, zA, zB, zC, zD, zE, zF, zG]) (drive_end (hR.same hA hh) (by simp only [Mem.new_next]; omega) hl hg) ?_
  rintro v μ1 ⟨E, L, hlo, rfl, h, hs⟩
  simp only [Mem.new_next] at hlo hs
  simp only [w1, w2, zH, zI, ↓reduceIte, zA, zB, zC, zD, zE, zF, zG, aeq]
  refine R_calls (l := [pt E.m 0]) (by simp only [w1, w2, zH, zI, ↓reduceIte, zA, zB, zC, zD, zE, zF, zG]) (stand_ok h hg.room) ?_
  rintro v μ2 ⟨Ls, rfl, hL, hs2⟩
  have hs02 := hs.trans (hs2.mono (by have := hs.2; simp only [Mem.new_next] at this; omega))
  obtain ⟨μ3, e3, hs3, hn3, ho3⟩ := hs02.st (i := μ.next + 1) (o := 0) (x := [.bool true, .int .i64 S.run, Ls.sc .std S.tasks.length])
    (μ1 := (μ.new [c] 0).new [.bool true, .int .i64 S.run, Ls.sc .std S.tasks.length] 0) (by omega) (new_st0 (μ := μ.new [c] 0) rfl)
  have l3 : μ3.ld (some 3) (μ.next + 1) 0 = some (.agg [.bool true, .int .i64 S.run, Ls.sc .std S.tasks.length]) := by
    rw [hs3.ld (by omega), Mem.new_ld, Mem.new_next, if_pos rfl]; rfl
  have hdone : S.done.run = S.run ∧ S.done.tasks = S.tasks := ⟨rfl, rfl⟩
  have h2 : Has Ls (scon Ls (S.tasks.map PTk.view)) μ1.next μ3 := hL.frame (by rw [hn3]; exact Nat.le_refl _) fun r hr => ho3 _ (by have := hL.ge r hr; have := hs.2; simp only [Mem.new_next] at this; omega)
  rw [hdone.1, hdone.2]
  simp only [w1, w2, zH, zI, ↓reduceIte, zA, zB, zC, zD, zE, zF, zG, e3, Mem.new_next, aRet, aRes, aRes1, l3]
  refine ⟨_, rfl, ⟨_, fun i => Ls.sc (.stdr i) 4, rfl, ?_, ?_⟩, ((Same.tmp (Nat.le_refl _)).new (Nat.le_succ _)).trans (hs3.mono (Nat.le_trans (Nat.le_succ _) (Nat.le_succ _)))⟩
  · have := h2.rd (r := .std) (sz := 7) (n := (S.tasks.map PTk.view).length) (cs := cat (svrow Ls) 0 (S.tasks.map PTk.view)) rfl (by rw [cat_length (svrow_len Ls)]) (by omega)
    simp only [PM.stand]
    rw [cat_congr (g' := svrow Ls) fun j g hj => by
      have hr4 : g.regs.length = 4 := by
        rw [List.getElem?_map] at hj
        obtain ⟨t, ht, rfl⟩ := Option.map_eq_some_iff.1 hj
        exact h.regs t (List.mem_of_getElem? ht)
      simp only [svrow, hr4]]
    rw [List.length_map] at this ⊢
    exact this
  · intro i v hv
    have hr4 : v.regs.length = 4 := by
      simp only [PM.stand, List.getElem?_map] at hv
      obtain ⟨t, ht, rfl⟩ := Option.map_eq_some_iff.1 hv
      exact h.regs t (List.mem_of_getElem? ht)
    have := h2.rd (r := .stdr i) (sz := 1) (n := v.regs.length) (cs := cat irow 0 v.regs) (by simp only [scon]; simp only [PM.stand] at hv; rw [hv]; rfl) (by simp [cat_length irow_len]) (by omega)
    rw [hr4] at this ⊢
    exact this
end
end Go.Proofs.Ytibmnlijoeppaaa
