/-
 The program's machine: a whole run.
-/
import Derived.Test.YtibmnlijoeppaaaIW6
import Derived.Test.YtibmnlijoeppaaaOkAll
namespace Go.Proofs.Ytibmnlijoeppaaa
open Nat renaming reduceEqDiff → zA, reduceAdd → zB, reduceLeDiff → zJ, reduceMul → zK
open Int renaming reduceLT → zC, reduceLE → zD, reduceNeg → zE, reduceBEq → zF, reduceBNe → zG
open AV renaming isTup → zH, cells → zI
set_option linter.unusedSimpArgs false
set_option linter.unusedVariables false

/-! 66: impl.drive -/
def b66_0 : RCode := (.seq (.seq (.reg [rI 0 (.mv (.t 7)) 45, rI 1 (.nc (.t 45)) 46, rI 2 (.fa (.t 46) 10) 47, rI 3 (.ld none (.t 47)) 48, rI 4 (.nt (.t 48)) 49]) (.ite (.t 49) .skip (.exit 0))) (.blk 1 (.reg [rI 0 (.mv (.t 7)) 50, rI 1 (.call 93 [.t 50]) 51])))
def b66_1 : RCode := (.seq (.reg [rI 0 (.bin .lss (.t 65) (.t 64)) 66]) (.seq (.ite (.t 66) .skip (.exit 2)) (.seq (.blk 3 (.seq (.reg [rI 0 (.ias (.t 63) (.t 65) 1) 67, rI 1 (.ld none (.t 67)) 68, rI 2 (.mv (.t 68)) 9]) (.reg [rI 0 (.mv (.t 7)) 69, rI 1 (.mv (.t 7)) 70, rI 2 (.nc (.t 70)) 71, rI 3 (.fa (.t 71) 5) 72, rI 4 (.fa (.t 72) 4) 73, rI 6 (.mv (.t 9)) 75, rI 7 (.nc (.t 75)) 76, rI 8 (.fa (.t 76) 1) 77, rI 5 (.ld none (.t 73)) 74, rI 9 (.ld none (.t 77)) 78, rI 10 (.bsl [.int .i64 0] 1 [(0, .t 78)]) 79, rI 11 (.app 1 8 (.t 74) (.t 79)) 80, rI 12 (.nc (.t 69)) 81, rI 13 (.fa (.t 81) 5) 82, rI 14 (.fa (.t 82) 4) 83, ⟨15, .st (.t 83) (.t 80) 1, none, none, []⟩]))) (.reg [rI 0 (.bin .add (.t 65) (.k (.int .i64 1))) 84, rI 1 (.mv (.t 84)) 65]))))
def r66 : RFun := ⟨86, [.tmp 6], (.seq (.reg [rI 0 (.box (.t 0) 1) 3, rI 1 (.mv (.k (.ptr none))) 6]) (.seq (.seq (.reg [rI 0 (.mv (.t 1)) 10, rI 1 (.bin .lss (.t 10) (.k (.int .i64 0))) 11, rI 2 (.mv (.t 11)) 12, ⟨3, .mv (.t 1), some 13, some (12, false), []⟩, ⟨4, .bin .gtr (.t 13) (.k (.int .i64 5000)), some 14, some (12, false), []⟩, rI 5 (.pick (.t 12) (.k (.bool true)) (.t 14)) 15, rI 6 (.mv (.t 15)) 16, ⟨7, .ld (some 1) (.t 3), some 17, some (16, false), []⟩, ⟨8, .call 21 [.t 17], some 18, some (16, false), []⟩, ⟨9, .fld (.t 18) 0 none, some 19, some (16, false), []⟩, ⟨10, .bin .neq (.t 19) (.k (.int .i64 0)), some 20, some (16, false), []⟩, rI 11 (.pick (.t 16) (.k (.bool true)) (.t 20)) 21]) (.ite (.t 21) (.seq (.reg [rI 0 (.mv (.k (.ptr none))) 6]) .ret) .skip)) (.seq (.reg [rI 0 (.ld (some 1) (.t 3)) 22, rI 1 (.mv (.t 1)) 23, rI 2 (.mv (.t 2)) 24, rI 3 (.bld [.slc none 0 0, .int .i64 0, .int .i64 0, .slc none 0 0, .int .i64 0, .int .i64 0, .slc none 0 0, .int .i64 0, .int .i64 0, .slc none 0 0, .bool false, .nilfn, .slc none 0 0] [(0, 1, .t 22), (1, 1, .t 23), (11, 1, .t 24)]) 25, rI 4 (.box (.t 25) 13) 26, rI 5 (.mv (.t 26)) 7]) (.seq (.reg [rI 0 (.mv (.t 7)) 27, rI 1 (.call 91 [.t 27, .k (.int .i64 0)]) 28]) (.seq (.reg [rI 0 (.mv (.t 7)) 29, rI 1 (.mv (.t 7)) 30, rI 2 (.nc (.t 30)) 31, rI 3 (.fa (.t 31) 3) 32, rI 4 (.ld none (.t 32)) 33, rI 5 (.ias (.t 33) (.k (.int .i64 0)) 1) 34, rI 6 (.ld none (.t 34)) 35, rI 7 (.call 92 [.t 29, .t 35]) 36]) (.seq (.reg [rI 0 (.mv (.t 7)) 37, rI 1 (.nc (.t 37)) 38, rI 2 (.fa (.t 38) 3) 39, rI 3 (.ld none (.t 39)) 40, rI 4 (.ias (.t 40) (.k (.int .i64 0)) 1) 41, rI 5 (.ld none (.t 41)) 42, rI 6 (.nc (.t 42)) 43, rI 7 (.fa (.t 43) 1) 44, ⟨8, .st (.t 44) (.k (.int .i64 2)) 1, none, none, []⟩]) (.seq (.blk 0 (.loop b66_0)) (.seq (.reg [rI 0 (.mv (.t 7)) 52, rI 1 (.mv (.t 7)) 53, rI 2 (.nc (.t 53)) 54, rI 3 (.fa (.t 54) 2) 55, rI 4 (.ld none (.t 55)) 56, rI 5 (.nc (.t 52)) 57, rI 6 (.fa (.t 57) 5) 58, rI 7 (.fa (.t 58) 3) 59, ⟨8, .st (.t 59) (.t 56) 1, none, none, []⟩]) (.seq (.seq (.reg [rI 0 (.mv (.t 7)) 60, rI 1 (.nc (.t 60)) 61, rI 2 (.fa (.t 61) 3) 62, rI 3 (.ld none (.t 62)) 63, rI 4 (.len (.t 63)) 64, rI 5 (.mv (.k (.int .i64 0))) 65]) (.blk 2 (.loop b66_1))) (.seq (.reg [rI 0 (.mv (.t 7)) 85, rI 1 (.mv (.t 85)) 6]) .ret))))))))))⟩
theorem p66 : prog 66 = some r66 := by kernel_rfl



section
variable {E : IEnv} {L L' : Lay IR} {S S' : PM} {μ μ' : Mem}

/-- No run: ticks out of bounds, or a plan that is not valid. -/
def noRun (p : PPlan) (ticks : Int) : Prop := ticks < 0 ∨ ticks > 5000 ∨ (okP p).1 ≠ 0

theorem drive_nil {hi : Nat} {c : Cell} {p : PPlan} {ticks : Int} {hk : Cell} (hR : PlanR hi μ c p) (hh : hi ≤ μ.next) (hl : Lens p) (hn : noRun p ticks) :
  Ret 66 [.agg [c], .c (.int .i64 ticks), .c hk] μ fun v μ' => v = .c (.ptr none) ∧ Same μ.next μ μ' := by
 have hA : Same μ.next μ (μ.new [c] 0) := Same.tmp (Nat.le_refl _)
 have lA : (μ.new [c] 0).ld (some 1) μ.next 0 = some (.agg [c]) := by rw [Mem.new_ld, if_pos rfl]; rfl
 refine Ret_of p66 (by simp [r66]) ?_
 simp only [rI, r66, frOf_3]
 simp only [w1, w2, zH, zI, ↓reduceIte, zA]
 by_cases h1 : ticks < 0
 ·rw [decide_eq_true h1]
  simp only [w1, w2, ↓reduceIte, zA, aRet, aRes, aRes1]
  exact ⟨_, rfl, rfl, hA⟩
 ·rw [decide_eq_false h1]
  by_cases h2 : ticks > 5000
  ·simp only [w1, w2, ↓reduceIte, zA, decide_eq_true h2, aRet, aRes, aRes1]
   exact ⟨_, rfl, rfl, hA⟩
  ·simp only [w1, w2, ↓reduceIte, zA, decide_eq_false h2, lA]
   refine R_calls (l := [.agg [c]]) (by simp only [w1, w2, ↓reduceIte]) (iPlanOk_ok (hR.same hA hh) (Nat.le_succ_of_le hh) hl) ?_
   rintro v μ1 ⟨rfl, h3⟩
   have h4 : ((okP p).1 != 0) = true := by
    rcases hn with hn | hn | hn
    ·exact absurd hn h1
    ·exact absurd hn h2
    ·simpa using hn
   simp only [w1, w2, ↓reduceIte, zA, vfld, flt3, fltc, lget_zero, h4, aRet, aRes, aRes1]
   exact ⟨_, rfl, rfl, hA.trans (h3.mono (Nat.le_succ _))⟩

def IR.ofHook : IR → Bool
 | .hn | .hk | .hs | .std | .stdr _ => true
 | _ => false

def hookSt (ticks : Int) (hook : Option PHk) : PM := ⟨ticks, 0, [], 0, 0, [], 0, 0, [], false, hook, []⟩

/-- What the hook has to do with memory. -/
def hcon (L : Lay IR) (hook : Option PHk) : Con IR := fun r => if r.ofHook = true then icon ⟨0, ⟨fun _ => none, 0⟩, 0, .nilfn, [], none⟩ L (hookSt 0 hook) r else none

theorem runLoop (hp : E.pend = none) {μ0 : Mem} {L0 : Lay IR} {s : List It} {Q : Fr → Mem → Prop} :
  ∀ (n : Nat) (S : PM) (L : Lay IR) (μ : Mem) (fr : Fr), PM.runs E.plan n S = some S' → Rep E L S μ → L.id .hs = L0.id .hs → Keep L0 μ0 L μ → fr 7 = pt E.m 0 →
   (∀ fr' L' μ', Rep E L' S' μ' → L'.id .hs = L0.id .hs → Keep L0 μ0 L' μ' → fr' 7 = pt E.m 0 → R s fr' μ' Q) → R (.c (.loop b66_0) :: .blk 0 :: s) fr μ Q := by
 intro n
 induction n with
 | zero => intro S L μ fr hr; simp [PM.runs] at hr
 | succ n ih =>
  intro S L μ fr hr h hs k f7 hend
  have hm := h.mfacts
  unfold PM.runs at hr
  rw [R_loop]
  simp only [rI, b66_0]
  simp only [w1, w2, ↓reduceIte, f7, hm]
  by_cases ho : S.over = true
  ·rw [if_pos ho] at hr
   simp only [Option.some.injEq] at hr
   subst hr
   simp only [w1, ho]
   rw [R_exit rfl]
   refine hend _ L μ h hs k ?_
   simp only [w1, ↓reduceIte, zA, f7]
  ·rw [if_neg ho] at hr
   have ho' : S.over = false := by simpa using ho
   split at hr
   ·rename_i hroom
    obtain ⟨S1, hst, hr⟩ := Option.bind_eq_some_iff.1 hr
    simp only [w1, w2, ↓reduceIte, zA, ho', f7]
    refine R_calls (l := [pt E.m 0]) (by simp only [w1, w2, ↓reduceIte]) (step_ok h hp hroom hst) ?_
    rintro v μ1 ⟨L1, h1, s1, k1⟩
    rw [R_endblk, R_lp]
    refine ih S1 L1 μ1 _ hr h1 (s1.1.2.trans hs) (k.trans k1) ?_ hend
    simp only [w1, ↓reduceIte, zA, f7]
   ·cases hr

theorem stateLoop {μ0 : Mem} {L0 : Lay IR} {s : List It} {Q : Fr → Mem → Prop} :
  ∀ (d i : Nat) (S : PM) (L : Lay IR) (μ : Mem) (fr : Fr), i + d = S.tasks.length → S.tasks.length < roomy → S.states.length + d < roomy → Rep E L S μ → L.id .hs = L0.id .hs → Keep L0 μ0 L μ → fr 7 = pt E.m 0 →
   fr 63 = .c (L.sc .tasks S.tasks.length) → fr 64 = .c (.int .i64 S.tasks.length) → fr 65 = .c (.int .i64 i) →
   (∀ fr' L' μ', Rep E L' { S with states := S.states ++ (S.tasks.drop i).map (·.state) } μ' → L'.id .hs = L0.id .hs → Keep L0 μ0 L' μ' → fr' 7 = pt E.m 0 → R s fr' μ' Q) → R (.c (.loop b66_1) :: .blk 2 :: s) fr μ Q := by
 intro d
 induction d with
 | zero =>
  intro i S L μ fr hi hroom hrs h hs k f7 f63 f64 f65 hend
  rw [R_loop]
  simp only [rI, b66_1]
  simp only [w1, w2, ↓reduceIte, f64, f65]
  rw [decide_eq_false (by omega)]
  simp only [w1]
  rw [R_exit rfl]
  refine hend _ L μ ?_ hs k ?_
  ·rw [List.drop_eq_nil_of_le (by omega)]
   simpa using h
  ·simp only [w1, ↓reduceIte, zA, f7]
 | succ d ih =>
  intro i S L μ fr hi hroom hrs h hs k f7 f63 f64 f65 hend
  have hlt : i < S.tasks.length := by omega
  have hget : S.tasks[i]? = some S.tasks[i] := List.getElem?_eq_getElem hlt
  have hdrop : S.tasks.drop i = S.tasks[i] :: S.tasks.drop (i + 1) := List.drop_eq_getElem_cons hlt
  obtain ⟨tb, tp, e1, e2⟩ := h.tasksAt hget
  have htf := h.tfacts hget
  have hm := h.mfacts
  obtain ⟨L1, μ1, μ2, e3, e4, h1, ag, k1⟩ := h.pushState S.tasks[i].state (by omega)
  rw [R_loop]
  simp only [rI, b66_1]
  simp only [w1, w2, ↓reduceIte, f64, f65]
  rw [decide_eq_true (by omega)]
  simp only [w1, w2, zH, zI, ↓reduceIte, zA, zB, f63, f65, f7, e1, e2, htf, hm, m2, fillc, wr, rep, zJ, zB, zK, List.append_nil, e3, e4]
  rw [small (by unfold roomy at hroom; omega), R_lp]
  refine ih (i + 1) { S with states := S.states ++ [S.tasks[i].state] } L1 μ2 _ (by simp only; omega) hroom (by simp only [List.length_append, List.length_cons, List.length_nil]; omega) h1
   ((ag .hs (by intro hh; cases hh)).1.trans hs) (k.trans k1) ?_ ?_ ?_ ?_ ?_
  ·simp only [w1, ↓reduceIte, zA, f7]
  ·simp only [w1, ↓reduceIte, zA, f63]
   rw [sc_eq (ag .tasks (by intro hh; cases hh)).1 (ag .tasks (by intro hh; cases hh)).2.1 (ag .tasks (by intro hh; cases hh)).2.2]
  ·simp only [w1, ↓reduceIte, zA, f64]
  ·simp only [w1, ↓reduceIte]; rfl
  ·intro fr' L' μ' g1 g2 g3 g4
   refine hend fr' L' μ' ?_ g2 g3 g4
   simp only [List.append_assoc, List.cons_append, List.nil_append] at g1
   rw [hdrop, List.map_cons]
   exact g1

/-- A run: the machine at its end. -/
theorem drive_ok {lo m : Nat} {out : Mem} {c : Cell} {p : PPlan} {ticks : Int} {hook : Option PHk} {fuel : Nat} {S0 S1 : PM} {L0 : Lay IR} (hR : PlanR lo out c p) (hs : Same lo out μ) (hlo : lo ≤ out.next) (hl : Lens p)
  (ht : 0 ≤ ticks ∧ ticks ≤ 5000) (hok : (okP p).1 = 0) (hH : Has L0 (hcon L0 hook) lo μ) (hoff : ∀ r, r.ofHook = false → L0.on r = false) (h0 : PM.fresh p ticks hook = some S0) (h1 : PM.runs p fuel S0 = some S1) (hroom : S1.tasks.length < roomy)
  (hst : S1.states = []) : Ret 66 [.agg [c], .c (.int .i64 ticks), .c (hookc L0 hook)] μ fun v μ' => ∃ E L', E.lo = lo ∧ E.out = out ∧ E.plan = p ∧ E.pend = none ∧ v = pt E.m 0 ∧ Rep E L' S1.done μ' ∧ L'.id .hs = L0.id .hs ∧ Keep L0 μ L' μ' := by
 have hA : Same μ.next μ (μ.new [c] 0) := Same.tmp (Nat.le_refl _)
 have lA : (μ.new [c] 0).ld (some 1) μ.next 0 = some (.agg [c]) := by rw [Mem.new_ld, if_pos rfl]; rfl
 have hnx : lo ≤ μ.next := Nat.le_trans hlo hs.2
 have hR0 : PlanR lo μ c p := hR.same hs (Nat.le_refl _)
 refine Ret_of p66 (by simp [r66]) ?_
 simp only [rI, r66, frOf_3]
 simp only [w1, w2, zH, zI, ↓reduceIte, zA]
 rw [decide_eq_false (by omega)]
 simp only [w1, w2, ↓reduceIte, zA]
 rw [decide_eq_false (by omega)]
 simp only [w1, w2, ↓reduceIte, zA, lA]
 refine R_calls (l := [.agg [c]]) (by simp only [w1, w2, ↓reduceIte]) (iPlanOk_ok (hR0.same hA hnx) (Nat.le_succ_of_le hnx) hl) ?_
 rintro v μ1 ⟨rfl, h3⟩
 have h4 : ((okP p).1 != 0) = false := by simp [hok]
 have h3n := h3.2
 simp only [Mem.new_next] at h3 h3n
 have l1 : μ1.ld (some 1) μ.next 0 = some (.agg [c]) := (h3.ld (by omega)).trans lA
 simp only [w1, w2, zH, zI, ↓reduceIte, zA, zB, vfld, flt3, fltc, lget_zero, h4, l1, m2, fillc, wr, zJ, zB]
 have hs1 : Same μ.next μ μ1 := hA.trans (h3.mono (by omega))
 have hnx1 : lo ≤ μ1.next := Nat.le_trans hnx hs1.2
 have hH1 : Has L0 (hcon L0 hook) lo μ1 := hH.same hs1 (Nat.le_refl _)
 have hE : ∃ E : IEnv, E = ⟨lo, out, μ1.next, c, p, none⟩ := ⟨_, rfl⟩
 obtain ⟨E, hE⟩ := hE
 have hpend : E.pend = none := by rw [hE]
 have hplan : E.plan = p := by rw [hE]
 have hEm : E.m = μ1.next := by rw [hE]
 have hEl : E.lo = lo := by rw [hE]
 have hEo : E.out = out := by rw [hE]
 let L1 : Lay IR := L0.put .mach μ1.next 0
 have ag : ∀ y, y ≠ .mach → L1.id y = L0.id y ∧ L1.on y = L0.on y ∧ L1.cap y = L0.cap y := by
  intro y hy; simp only [L1, Lay.put, if_neg hy, and_self]
 have hscoff : ∀ y, y.ofHook = false → y ≠ .mach → ∀ n, L1.sc y n = .slc none 0 0 := by
  intro y hy hm n
  unfold Lay.sc
  rw [(ag y hm).2.1, hoff y hy]; rfl
 have hmc : mcells E L1 (hookSt ticks hook) = [c, .int .i64 ticks, .int .i64 0, .slc none 0 0, .int .i64 0, .int .i64 0, .slc none 0 0, .int .i64 0, .int .i64 0, .slc none 0 0, .bool false, hookc L0 hook, .slc none 0 0] := by
  have hh : hookc L1 hook = hookc L0 hook := by
   unfold hookc; rw [(ag .hn (by intro hh; cases hh)).1, (ag .hk (by intro hh; cases hh)).1, (ag .hs (by intro hh; cases hh)).1]
  simp only [mcells, hookSt, hscoff .tasks rfl (by intro hh; cases hh), hscoff .recs rfl (by intro hh; cases hh), hscoff .states rfl (by intro hh; cases hh), hscoff .rings rfl (by intro hh; cases hh), hh]
  rw [hE]
 have hB := hH1.new hnx1 (r := .mach) (sz := 0) (cs := mcells E L1 (hookSt ticks hook)) (cap := 0) (by rw [if_pos rfl]; trivial)
 have hrep : Rep E L1 (hookSt ticks hook) (μ1.new (mcells E L1 (hookSt ticks hook)) 0) := by
  refine ⟨?_, ?_, by rw [hEl, hEo]; exact hlo, ?_, by rw [hEl, hEo, hplan, hE]; exact hR, fun t ht => by simp [hookSt] at ht⟩
  ·rw [hEl]
   refine hB.weaken' fun y sz cs hy => ?_
   by_cases hm : y = .mach
   ·subst hm
    exact .inl (by simp only [Con.upd, if_true]; exact hy)
   ·by_cases hk : y.ofHook = true
    ·refine .inl ?_
     simp only [Con.upd]
     rw [if_neg hm]
     unfold hcon
     rw [if_pos hk, ← hy]
     have hsc : ∀ n, L1.sc .std n = L0.sc .std n := fun n => sc_eq (ag .std (by intro hh; cases hh)).1 (ag .std (by intro hh; cases hh)).2.1 (ag .std (by intro hh; cases hh)).2.2 n
     have hscr : ∀ i n, L1.sc (.stdr i) n = L0.sc (.stdr i) n := fun i n => sc_eq (ag (.stdr i) (by intro hh; cases hh)).1 (ag (.stdr i) (by intro hh; cases hh)).2.1 (ag (.stdr i) (by intro hh; cases hh)).2.2 n
     cases y <;> simp only [IR.ofHook, Bool.false_eq_true] at hk <;> simp only [icon, hookSt, hsc]
     all_goals first | rfl | (congr 1; funext h; rw [cat_congr (g := viewrow L1) (g' := viewrow L0) fun j g hj => by simp only [viewrow, hscr]])
    ·have hk' : y.ofHook = false := by simpa using hk
     have hof : L1.on y = false := by rw [(ag y hm).2.1]; exact hoff y hk'
     cases y <;> simp only [IR.ofHook, reduceCtorEq] at hk' <;> simp only [icon, hookSt, List.getElem?_nil, Option.map_none, Option.bind_none, reduceCtorEq, cat, Option.some.injEq, Prod.mk.injEq] at hy <;>
      first | exact absurd rfl hm | exact .inr ⟨hof, by omega, hy.2.symm⟩ | skip
     rename_i kk
     exfalso
     rw [hpend] at hy
     have hno : ∀ (d : Decidable (kk = 0)), (@ite (Option (Nat × List Cell)) (kk = 0) d none none) = none := by intro d; cases d <;> rfl
     have hy2 := (hno _).symm.trans hy
     cases hy2
  ·rw [hEl, hEo]
   exact (hs.trans (hs1.mono hnx)).new hnx1
  ·rw [hEm]; simp only [L1, Lay.put, if_true]
 have hk1 : Keep L0 μ L1 (μ1.new (mcells E L1 (hookSt ticks hook)) 0) := by
  have hk0 : Keep L0 μ L0 μ1 := ⟨hs1.2, fun b hb hf => ⟨hs1.1 b hb, hf⟩⟩
  exact hk0.trans Keep.new
 rw [hmc] at hrep hk1
 have hhs1 : L1.id .hs = L0.id .hs := (ag .hs (by intro hh; cases hh)).1
 generalize L1 = L1 at hrep hk1 hhs1
 rw [← hEm]
 generalize μ1.new [c, .int .i64 ticks, .int .i64 0, .slc none 0 0, .int .i64 0, .int .i64 0, .slc none 0 0, .int .i64 0, .int .i64 0, .slc none 0 0, .bool false, hookc L0 hook, .slc none 0 0] 0 = μ2 at hrep hk1 ⊢
 unfold PM.fresh at h0
 obtain ⟨Sa, hca, h0a⟩ := Option.bind_eq_some_iff.1 h0
 obtain ⟨Sb, hsb, h0b⟩ := Option.bind_eq_some_iff.1 h0a
 obtain ⟨t0, hi0, h0c⟩ := Option.map_eq_some_iff.1 h0b
 subst h0c
 refine R_calls (l := [pt E.m 0, .c (.int .i64 0)]) (by simp only [w1, w2, ↓reduceIte]) (create_ok hrep hca) ?_
 rintro v μ3 ⟨rfl, L3, h3r, s3, k3⟩
 have hgt : ∃ t, Sa.tasks[0]? = some t := by
  unfold PM.start at hsb
  obtain ⟨t, hi, _⟩ := Option.bind_eq_some_iff.1 hsb
  obtain ⟨k, hk, hg⟩ := idx_some hi
  obtain rfl : k = 0 := by omega
  exact ⟨t, hg⟩
 obtain ⟨ta, hga⟩ := hgt
 have hm3 := h3r.mfacts
 obtain ⟨tb, tp, e1, e2⟩ := h3r.tasksAt hga
 simp only [Int.natCast_zero] at e1
 have hst3 := start_ok (i := 0) h3r (by rw [hplan]; exact hsb)
 simp only [w1, w2, ↓reduceIte, zA, hm3, e1, e2]
 refine R_calls (l := [pt E.m 0, pt (L3.id (.task 0)) 0]) (by simp only [w1, w2, ↓reduceIte, zA]) hst3 ?_
 rintro v μ4 ⟨L4, h4r, s4, k4⟩
 have hgb : Sb.tasks[0]? = some t0 := by
  obtain ⟨k, hk, hg⟩ := idx_some hi0
  obtain rfl : k = 0 := by omega
  exact hg
 have hm4 := h4r.mfacts
 obtain ⟨tb4, tp4, e3, e4⟩ := h4r.tasksAt hgb
 simp only [Int.natCast_zero] at e3
 obtain ⟨μ5, e5, h5r, k5⟩ := h4r.setTask (t' := { t0 with state := 2 }) hgb (o := 1) (new := [.int .i64 2]) rfl (by simp) rfl (h4r.regs t0 (List.mem_of_getElem? hgb))
 simp only [w1, w2, zH, zI, ↓reduceIte, zA, hm4, e3, e4, e5]
 rw [← hplan] at h1
 refine runLoop hpend (L0 := L0) (μ0 := μ) fuel _ L4 μ5 _ h1 h5r (s4.1.2.trans (s3.1.2.trans hhs1)) (hk1.trans (k3.trans (k4.trans k5))) ?_ ?_
 ·simp only [w1, ↓reduceIte, zA]
 ·intro fr6 L6 μ6 h6 hs6 k6 f7
  have hm6 := h6.mfacts
  obtain ⟨μ7, e7, h7, k7⟩ := h6.setMach (S' := { S1 with ticks := S1.used }) (o := 8) (new := [.int .i64 S1.used]) rfl (by simp) rfl rfl rfl rfl rfl
  have hm7 := h7.mfacts
  obtain ⟨ta7, tc7, hts⟩ := h7.has.scf (r := .tasks) (sz := 1) (n := S1.tasks.length) (cs := cat (trow L6) 0 S1.tasks) rfl (by rw [cat_length (trow_len L6)]) (by omega)
  simp only [hts] at hm7
  simp only [w1, w2, zH, zI, ↓reduceIte, zA, zB, f7, hm6, e7, hm7]
  refine stateLoop (L0 := L0) (μ0 := μ) S1.tasks.length 0 { S1 with ticks := S1.used } L6 μ7 _ (by simp) hroom (by simp only [hst, List.length_nil]; omega) h7 hs6 (k6.trans k7) ?_ ?_ ?_ ?_ ?_
  ·simp only [w1, ↓reduceIte, zA, f7]
  ·simp only [w1, ↓reduceIte, zA, hts]
  ·simp only [w1, ↓reduceIte, zA]
  ·simp only [w1, ↓reduceIte]; rfl
  ·intro fr8 L8 μ8 h8 hs8 k8 g7
   simp only [w1, w2, ↓reduceIte, g7, aRet, aRes, aRes1]
   exact ⟨_, rfl, E, L8, hEl, hEo, hplan, hpend, rfl, by simpa [PM.done] using h8, hs8, k8⟩
end
end Go.Proofs.Ytibmnlijoeppaaa
