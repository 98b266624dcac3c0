/-
 The reference's run.
-/
import Derived.Test.YtibmnlijoeppaaaXW6
import Derived.Test.YtibmnlijoeppaaaIW8
import Derived.Test.YtibmnlijoeppaaaOkAll
namespace Go.Proofs.Ytibmnlijoeppaaa.X
open Nat renaming reduceEqDiff → zA, reduceAdd → zB, reduceLeDiff → zJ, reduceMul → zK
open Int renaming reduceLT → zC, reduceLE → zD, reduceNeg → zE, reduceBEq → zF, reduceBNe → zG
open AV renaming isTup → zH, cells → zI
set_option linter.unusedSimpArgs false
set_option linter.unusedVariables false

/-! 70: spec.l2run -/
def b70_0 : RCode := (.seq (.seq (.reg [rI 0 (.mv (.t 7)) 33, rI 1 (.nc (.t 33)) 34, rI 2 (.fa (.t 34) 4) 35, rI 3 (.ld none (.t 35)) 36, rI 4 (.nt (.t 36)) 37]) (.ite (.t 37) .skip (.exit 0))) (.blk 1 (.seq (.reg [rI 0 (.mv (.t 7)) 38, rI 1 (.call 99 [.t 38]) 39, rI 2 (.mv (.t 39)) 8]) (.seq (.reg [rI 0 (.mv (.t 8)) 40, rI 1 (.nc (.t 40)) 41, rI 2 (.fa (.t 41) 5) 42, rI 3 (.ld none (.t 42)) 43]) (.ite (.t 43) (.reg [rI 0 (.mv (.t 7)) 44, rI 1 (.call 100 [.t 44]) 45]) (.seq (.reg [rI 0 (.mv (.t 8)) 46, rI 1 (.nc (.t 46)) 47, rI 2 (.fa (.t 47) 2) 48, rI 4 (.mv (.t 8)) 50, rI 5 (.nc (.t 50)) 51, rI 6 (.fa (.t 51) 3) 52, rI 3 (.ld none (.t 48)) 49, rI 7 (.ld none (.t 52)) 53, rI 8 (.bin .eql (.t 49) (.t 53)) 54]) (.ite (.t 54) (.reg [rI 0 (.mv (.t 7)) 55, rI 1 (.bld [.int .i64 0, .int .i64 0] []) 56, rI 2 (.call 101 [.t 55, .t 56]) 57]) (.reg [rI 0 (.mv (.t 7)) 58, rI 1 (.call 102 [.t 58]) 59]))))))))
def b70_1 : RCode := (.seq (.reg [rI 0 (.bin .lss (.t 65) (.t 64)) 66]) (.seq (.ite (.t 66) .skip (.exit 2)) (.seq (.blk 3 (.seq (.reg [rI 0 (.ias (.t 63) (.t 65) 1) 67, rI 1 (.ld none (.t 67)) 68, rI 2 (.mv (.t 68)) 10]) (.reg [rI 0 (.mv (.t 7)) 69, rI 1 (.mv (.t 7)) 70, rI 2 (.nc (.t 70)) 71, rI 3 (.fa (.t 71) 5) 72, rI 4 (.fa (.t 72) 4) 73, rI 6 (.mv (.t 10)) 75, rI 7 (.nc (.t 75)) 76, rI 8 (.fa (.t 76) 1) 77, rI 5 (.ld none (.t 73)) 74, rI 9 (.ld none (.t 77)) 78, rI 10 (.bsl [.int .i64 0] 1 [(0, .t 78)]) 79, rI 11 (.app 1 8 (.t 74) (.t 79)) 80, rI 12 (.nc (.t 69)) 81, rI 13 (.fa (.t 81) 5) 82, rI 14 (.fa (.t 82) 4) 83, ⟨15, .st (.t 83) (.t 80) 1, none, none, []⟩]))) (.reg [rI 0 (.bin .add (.t 65) (.k (.int .i64 1))) 84, rI 1 (.mv (.t 84)) 65]))))
def r70 : RFun := ⟨86, [.tmp 6], (.seq (.reg [rI 0 (.box (.t 0) 1) 3, rI 1 (.mv (.k (.ptr none))) 6]) (.seq (.reg [rI 0 (.ld (some 1) (.t 3)) 11, rI 1 (.mv (.t 1)) 12, rI 2 (.mv (.t 2)) 13, rI 3 (.bld [.slc none 0 0, .int .i64 0, .slc none 0 0, .int .i64 0, .bool false, .int .i64 0, .slc none 0 0, .int .i64 0, .int .i64 0, .slc none 0 0, .slc none 0 0, .int .i64 0, .bool false, .int .i64 0, .slc none 0 0] [(0, 1, .t 11), (1, 1, .t 12), (11, 1, .t 13)]) 14, rI 4 (.box (.t 14) 15) 15, rI 5 (.mv (.t 15)) 7]) (.seq (.reg [rI 0 (.mv (.t 7)) 16, rI 1 (.mv (.t 7)) 17, rI 2 (.nc (.t 17)) 18, rI 3 (.fa (.t 18) 2) 19, rI 4 (.ld none (.t 19)) 20, rI 5 (.mks [.int .i64 0] 8 (.k (.int .i64 4)) (.k (.int .i64 4))) 21, rI 6 (.bld [.int .i64 0, .int .i64 0, .slc none 0 0, .int .i64 0, .int .i64 0, .bool false, .bool false, .int .i64 0, .int .i64 0, .int .i64 0, .slc none 0 0] [(1, 1, .k (.int .i64 2)), (2, 1, .t 21), (3, 1, .k (.int .i64 (-1)))]) 22, rI 7 (.box (.t 22) 11) 23, rI 8 (.bsl [.ptr none] 1 [(0, .t 23)]) 24, rI 9 (.app 1 8 (.t 20) (.t 24)) 25, rI 10 (.nc (.t 16)) 26, rI 11 (.fa (.t 26) 2) 27, ⟨12, .st (.t 27) (.t 25) 1, none, none, []⟩]) (.seq (.reg [rI 0 (.mv (.t 7)) 28, rI 1 (.mv (.t 7)) 29, rI 2 (.call 98 [.t 29]) 30, rI 3 (.len (.t 30)) 31, rI 4 (.call 97 [.t 28, .k (.int .i64 0), .k (.int .i64 0), .k (.int .i64 0), .t 31]) 32]) (.seq (.blk 0 (.loop b70_0)) (.seq (.seq (.reg [rI 0 (.mv (.t 7)) 60, rI 1 (.nc (.t 60)) 61, rI 2 (.fa (.t 61) 2) 62, rI 3 (.ld none (.t 62)) 63, rI 4 (.len (.t 63)) 64, rI 5 (.mv (.k (.int .i64 0))) 65]) (.blk 2 (.loop b70_1))) (.seq (.reg [rI 0 (.mv (.t 7)) 85, rI 1 (.mv (.t 85)) 6]) .ret)))))))⟩
theorem p70 : prog 70 = some r70 := by kernel_rfl

/-! 69: spec.l2ok -/
def r69 : RFun := ⟨19, [.tmp 4], (.seq (.reg [rI 0 (.box (.t 0) 1) 2, rI 1 (.mv (.k (.bool false))) 4]) (.seq (.reg [rI 0 (.ld (some 1) (.t 2)) 6, rI 1 (.call 19 [.t 6]) 7, rI 2 (.alc [.int .i64 0, .int .i64 0, .int .i64 0]) 5, ⟨3, .st (.t 5) (.t 7) 3, none, none, []⟩]) (.seq (.reg [rI 0 (.fa (.t 5) 0) 8, rI 1 (.ld none (.t 8)) 9, rI 2 (.bin .eql (.t 9) (.k (.int .i64 0))) 10, rI 3 (.mv (.t 10)) 11, ⟨4, .mv (.t 1), some 12, some (11, true), []⟩, ⟨5, .bin .geq (.t 12) (.k (.int .i64 0)), some 13, some (11, true), []⟩, rI 6 (.pick (.t 11) (.t 13) (.k (.bool false))) 14, rI 7 (.mv (.t 14)) 15, ⟨8, .mv (.t 1), some 16, some (15, true), []⟩, ⟨9, .bin .leq (.t 16) (.k (.int .i64 5000)), some 17, some (15, true), []⟩, rI 10 (.pick (.t 15) (.t 17) (.k (.bool false))) 18, rI 11 (.mv (.t 18)) 4]) .ret)))⟩
theorem p69 : prog 69 = some r69 := by kernel_rfl



section
variable {E : IEnv} {L L' : Lay IR} {S S' : PM} {μ μ' : Mem}

theorem turn_ok (h : Rep E L S μ) (hroom : S.tasks.length < roomy) (hs : S.turn1 E.plan = some S') {fr : Fr} {s : List It} {Q : Fr → Mem → Prop} (f7 : fr 7 = pt E.m 0)
  (hr : ∀ fr' L' μ', Rep E L' S' μ' → Keep L μ L' μ' → fr' 7 = pt E.m 0 → R (.lp b70_0 :: s) fr' μ' Q) (ho : S.over = false) :
  R (.c (.loop b70_0) :: s) fr μ Q := by
 have hm := h.mfacts
 unfold PM.turn1 at hs
 obtain ⟨t, hn, hs1⟩ := Option.bind_eq_some_iff.1 hs
 obtain ⟨k, hk, hget, hfl⟩ := now_some hn
 cases hf : t.frames with
 | nil => rw [hf] at hs1; cases hs1
 | cons f r =>
 rw [hf] at hs1
 simp only at hs1
 obtain ⟨_, hrow, _⟩ := h.topAt hget hf
 have r5 := hrow 5 _ rfl
 have r2 := hrow 2 _ rfl
 have r3 := hrow 3 _ rfl
 rw [R_loop]
 simp only [rI, b70_0]
 simp only [w1, w2, ↓reduceIte, zA, f7, hm, ho]
 refine R_calls (l := [pt E.m 0]) (by simp only [w1, w2, ↓reduceIte]) (top_ok h hk hget hf hfl) ?_
 rintro v μ1 ⟨rfl, rfl⟩
 by_cases hl : f.leaving = true
 ·rw [if_pos hl] at hs1
  simp only [w1, w2, ↓reduceIte, zA, r5, hl, f7]
  refine R_calls (l := [pt E.m 0]) (by simp only [w1, w2, ↓reduceIte]) (close_ok h hs1) ?_
  rintro v μ2 ⟨L2, h2, s2, k2⟩
  rw [R_endblk]
  exact hr _ L2 μ2 h2 k2 (by simp only [w1, ↓reduceIte, zA, f7])
 rw [if_neg hl] at hs1
 have hl' : f.leaving = false := by simpa using hl
 by_cases hpc : f.pc = f.fin
 ·rw [if_pos hpc] at hs1
  simp only [w1, w2, ↓reduceIte, zA, r5, hl', r2, r3, beq_tt hpc, f7, fillc]
  refine R_calls (l := [pt E.m 0, .agg [.int .i64 0, .int .i64 0]]) (by simp only [w1, w2, ↓reduceIte, zA]) (mark_ok h hs1) ?_
  rintro v μ2 ⟨h2, k2⟩
  rw [R_endblk]
  exact hr _ L μ2 h2 k2 (by simp only [w1, ↓reduceIte, zA, f7])
 ·rw [if_neg hpc] at hs1
  simp only [w1, w2, ↓reduceIte, zA, r5, hl', r2, r3, beq_ff hpc, f7]
  refine R_calls (l := [pt E.m 0]) (by simp only [w1, w2, ↓reduceIte]) (step_ok h hroom hs1) ?_
  rintro v μ2 ⟨L2, h2, s2, k2⟩
  rw [R_endblk]
  exact hr _ L2 μ2 h2 k2 (by simp only [w1, ↓reduceIte, zA, f7])

theorem runLoop {μ0 : Mem} {L0 : Lay IR} {s : List It} {Q : Fr → Mem → Prop} :
  ∀ (n : Nat) (S : PM) (L : Lay IR) (μ : Mem) (fr : Fr), PM.runs E.plan n S = some S' → Rep E L S μ → Keep L0 μ0 L μ → fr 7 = pt E.m 0 →
   (∀ fr' L' μ', Rep E L' S' μ' → Keep L0 μ0 L' μ' → fr' 7 = pt E.m 0 → R s fr' μ' Q) → R (.c (.loop b70_0) :: .blk 0 :: s) fr μ Q := by
 intro n
 induction n with
 | zero => intro S L μ fr hr; simp [PM.runs] at hr
 | succ n ih =>
  intro S L μ fr hr h k f7 hend
  have hm := h.mfacts
  unfold PM.runs at hr
  by_cases ho : S.over = true
  ·rw [if_pos ho] at hr
   simp only [Option.some.injEq] at hr
   subst hr
   rw [R_loop]
   simp only [rI, b70_0]
   simp only [w1, w2, ↓reduceIte, f7, hm, ho]
   rw [R_exit rfl]
   refine hend _ L μ h k ?_
   simp only [w1, ↓reduceIte, zA, f7]
  ·rw [if_neg ho] at hr
   have ho' : S.over = false := by simpa using ho
   split at hr
   ·rename_i hroom
    obtain ⟨S1, hst, hr⟩ := Option.bind_eq_some_iff.1 hr
    refine turn_ok h hroom hst f7 (fun fr' L1 μ1 h1 k1 g7 => ?_) ho'
    rw [R_lp]
    exact ih S1 L1 μ1 _ hr h1 (k.trans k1) g7 hend
   ·cases hr

theorem stateLoop {μ0 : Mem} {L0 : Lay IR} {s : List It} {Q : Fr → Mem → Prop} :
  ∀ (d i : Nat) (S : PM) (L : Lay IR) (μ : Mem) (fr : Fr), i + d = S.tasks.length → S.tasks.length < roomy → S.states.length + d < roomy → Rep E L S μ → Keep L0 μ0 L μ → fr 7 = pt E.m 0 →
   fr 63 = .c (L.sc .tasks S.tasks.length) → fr 64 = .c (.int .i64 S.tasks.length) → fr 65 = .c (.int .i64 i) →
   (∀ fr' L' μ', Rep E L' { S with states := S.states ++ (S.tasks.drop i).map (·.state) } μ' → Keep L0 μ0 L' μ' → fr' 7 = pt E.m 0 → R s fr' μ' Q) → R (.c (.loop b70_1) :: .blk 2 :: s) fr μ Q := by
 intro d
 induction d with
 | zero =>
  intro i S L μ fr hi hroom hrs h k f7 f63 f64 f65 hend
  rw [R_loop]
  simp only [rI, b70_1]
  simp only [w1, w2, ↓reduceIte, f64, f65]
  rw [decide_eq_false (by omega)]
  simp only [w1]
  rw [R_exit rfl]
  refine hend _ L μ ?_ k ?_
  ·rw [List.drop_eq_nil_of_le (by omega)]
   simpa using h
  ·simp only [w1, ↓reduceIte, zA, f7]
 | succ d ih =>
  intro i S L μ fr hi hroom hrs h k f7 f63 f64 f65 hend
  have hlt : i < S.tasks.length := by omega
  have hget : S.tasks[i]? = some S.tasks[i] := List.getElem?_eq_getElem hlt
  have hdrop : S.tasks.drop i = S.tasks[i] :: S.tasks.drop (i + 1) := List.drop_eq_getElem_cons hlt
  obtain ⟨tb, tp, e1, e2⟩ := h.tasksAt hget
  have htf := h.tfacts hget
  have hm := h.mfacts
  obtain ⟨L1, μ1, μ2, e3, e4, h1, s1, k1, g1⟩ := h.pushState S.tasks[i].state (by omega)
  rw [R_loop]
  simp only [rI, b70_1]
  simp only [w1, w2, ↓reduceIte, f64, f65]
  rw [decide_eq_true (by omega)]
  simp only [w1, w2, zH, zI, ↓reduceIte, zA, zB, f63, f65, f7, e1, e2, htf, hm, m2, fillc, wr, rep, zJ, zB, zK, List.append_nil, e3, e4]
  rw [small (by unfold roomy at hroom; omega), R_lp]
  refine ih (i + 1) { S with states := S.states ++ [S.tasks[i].state] } L1 μ2 _ (by simp only; omega) hroom (by simp only [List.length_append, List.length_cons, List.length_nil]; omega) h1
   (k.trans k1) ?_ ?_ ?_ ?_ ?_
  ·simp only [w1, ↓reduceIte, zA, f7]
  ·simp only [w1, ↓reduceIte, zA, f63, g1]
  ·simp only [w1, ↓reduceIte, zA, f64]
  ·simp only [w1, ↓reduceIte]; rfl
  ·intro fr' L' μ' g1 g3 g4
   refine hend fr' L' μ' ?_ g3 g4
   simp only [List.append_assoc, List.cons_append, List.nil_append] at g1
   rw [hdrop, List.map_cons]
   exact g1

def zeroM (ticks stop : Int) : PM := ⟨ticks, [], 0, false, 0, [], 0, 0, [], [], stop, ⟨false, 0, []⟩⟩

theorem run_ok {c : Cell} {p : PPlan} {ticks stop : Int} {fuel : Nat} {S0 S1 : PM} (hR : PlanR μ.next μ c p) (h0 : PM.fresh p ticks stop = some S0) (h1 : PM.runs p fuel S0 = some S1) (hroom : S1.tasks.length < roomy)
  (hst : S1.states = []) : Ret 70 [.agg [c], .c (.int .i64 ticks), .c (.int .i64 stop)] μ fun v μ' => ∃ E L', E.lo = μ.next ∧ v = pt E.m 0 ∧ Rep E L' S1.done μ' ∧ Same μ.next μ μ' := by
 have hA : Same μ.next μ (μ.new [c] 0) := Same.tmp (Nat.le_refl _)
 have lA : (μ.new [c] 0).ld (some 1) μ.next 0 = some (.agg [c]) := by rw [Mem.new_ld, if_pos rfl]; rfl
 have hE : ∃ E : IEnv, E = ⟨μ.next, μ, μ.next + 1, c, p⟩ := ⟨_, rfl⟩
 obtain ⟨E, hE⟩ := hE
 have hplan : E.plan = p := by rw [hE]
 have hEm : E.m = μ.next + 1 := by rw [hE]
 have hEl : E.lo = μ.next := by rw [hE]
 have hEo : E.out = μ := by rw [hE]
 have hEp : E.pl = c := by rw [hE]
 let L0 : Lay IR := ⟨fun _ => 0, fun _ => false, fun _ => 0⟩
 let L1 : Lay IR := L0.put .mach (μ.next + 1) 0
 have hoff : ∀ y, y ≠ .mach → L1.on y = false := by
  intro y hy; simp only [L1, L0, Lay.put, if_neg hy]
 have hscoff : ∀ y, y ≠ .mach → ∀ n, L1.sc y n = .slc none 0 0 := by
  intro y hm n
  unfold Lay.sc
  rw [hoff y hm]; rfl
 have hmc : mcells E L1 (zeroM ticks stop) = [c, .int .i64 ticks, .slc none 0 0, .int .i64 0, .bool false, .int .i64 0, .slc none 0 0, .int .i64 0, .int .i64 0, .slc none 0 0, .slc none 0 0, .int .i64 stop, .bool false, .int .i64 0, .slc none 0 0] := by
  simp only [mcells, zeroM, hscoff .tasks (by intro hh; cases hh), hscoff .recs (by intro hh; cases hh), hscoff .states (by intro hh; cases hh), hscoff .rings (by intro hh; cases hh), hscoff .std (by intro hh; cases hh), hEp]
 have hB := (Has.start (L := L0) (lo := E.lo) (μ := μ.new [c] 0) (fun _ => rfl)).new (by rw [hEl]; exact Nat.le_succ _) (r := .mach) (sz := 0) (cs := mcells E L1 (zeroM ticks stop)) (cap := 0) (by rw [if_pos rfl]; trivial)
 have hrep : Rep E L1 (zeroM ticks stop) ((μ.new [c] 0).new (mcells E L1 (zeroM ticks stop)) 0) := by
  refine ⟨?_, ?_, by rw [hEl, hEo]; exact Nat.le_refl _, ?_, by rw [hE]; exact hR, fun t ht => by simp [zeroM] at ht⟩
  ·refine hB.weaken' fun y sz cs hy => ?_
   by_cases hm : y = .mach
   ·subst hm
    exact .inl (by simp only [Con.upd, if_true]; exact hy)
   ·have hof := hoff y hm
    cases y <;> simp only [icon, zeroM, List.getElem?_nil, Option.map_none, Option.bind_none, reduceCtorEq, cat, Option.some.injEq, Prod.mk.injEq] at hy <;>
     first | exact absurd rfl hm | exact .inr ⟨hof, by omega, hy.2.symm⟩ | skip
  ·rw [hEl, hEo]
   exact hA.new (Nat.le_succ _)
  ·rw [hEm]; simp only [L1, Lay.put, if_true]
 rw [hmc] at hrep
 generalize L1 = L1 at hrep
 have hs2 : Same μ.next μ ((μ.new [c] 0).new [c, .int .i64 ticks, .slc none 0 0, .int .i64 0, .bool false, .int .i64 0, .slc none 0 0, .int .i64 0, .int .i64 0, .slc none 0 0, .slc none 0 0, .int .i64 stop, .bool false, .int .i64 0, .slc none 0 0] 0) := hA.new (Nat.le_succ _)
 refine Ret_of p70 (by simp [r70]) ?_
 simp only [rI, r70, frOf_3]
 simp only [w1, w2, zH, zI, ↓reduceIte, zA, zB, zE, lA, m2, fillc, wr, rep, zJ, zB, zK, List.append_nil, Mem.new_next]
 rw [← hEm]
 generalize (μ.new [c] 0).new [c, .int .i64 ticks, .slc none 0 0, .int .i64 0, .bool false, .int .i64 0, .slc none 0 0, .int .i64 0, .int .i64 0, .slc none 0 0, .slc none 0 0, .int .i64 stop, .bool false, .int .i64 0, .slc none 0 0] 0 = μ2 at hrep hs2 ⊢
 have hm2 := hrep.mfacts
 obtain ⟨L3, μ3, μ4, e3, e4, h4, s4, k4, _⟩ := hrep.pushTask 0 2 (by simp [zeroM, roomy])
 have em : amks [.int .i64 0] 8 (.c (.int .i64 4)) (.c (.int .i64 4)) μ2 = some (.c (.slc (some (μ2.next, 0)) 4 4), μ2.new [.int .i64 0, .int .i64 0, .int .i64 0, .int .i64 0] 1) := by
  unfold amks; simp only; rw [if_pos ⟨by omega, trivial, by decide, by decide⟩]; rfl
 simp only [ntk, zero4] at e3
 unfold PM.fresh at h0
 obtain ⟨l, hl0, h0a⟩ := Option.bind_eq_some_iff.1 h0
 have hg4 : ({ zeroM ticks stop with tasks := (zeroM ticks stop).tasks ++ [newTask 0 2] } : PM).tasks[0]? = some (newTask 0 2) := rfl
 obtain ⟨x, hx, hstp⟩ := steps_ok h4 (k := 0) rfl hg4 (l := l) (by unfold PTk.steps; rw [hplan]; exact hl0)
 obtain ⟨xa, xc, rfl⟩ := hx.slc
 simp only [w1, w2, ↓reduceIte, zB, zE, hm2, em, m2, wr, zJ, zB, Mem.new_next, e3, e4]
 refine R_calls (l := [pt E.m 0]) (by simp only [w1, w2, ↓reduceIte, zE]) hstp ?_
 rintro v μ5 ⟨rfl, rfl⟩
 simp only [w1, ↓reduceIte, zE]
 refine R_calls (l := [pt E.m 0, .c (.int .i64 0), .c (.int .i64 0), .c (.int .i64 0), .c (.int .i64 l.length)]) (by simp only [w1, w2, ↓reduceIte, zA, zE]) (opens_ok h4 h0a) ?_
 rintro v μ6 ⟨L6, h6, s6, k6⟩
 simp only [w1, zE]
 rw [← hplan] at h1
 refine runLoop (L0 := L1) (μ0 := μ2) fuel _ L6 μ6 _ h1 h6 (k4.trans k6) ?_ ?_
 ·simp only [w1, ↓reduceIte, zA, zE]
 ·intro fr7 L7 μ7 h7 k7 f7
  have hm7 := h7.mfacts
  obtain ⟨ta7, tc7, hts⟩ := h7.tsc
  simp only [hts] at hm7
  simp only [w1, w2, ↓reduceIte, f7, hm7]
  refine stateLoop (L0 := L1) (μ0 := μ2) S1.tasks.length 0 S1 L7 μ7 _ (by simp) hroom (by simp only [hst, List.length_nil]; omega) h7 k7 ?_ ?_ ?_ ?_ ?_
  ·simp only [w1, ↓reduceIte, zA, f7]
  ·simp only [w1, ↓reduceIte, zA, hts]
  ·simp only [w1, ↓reduceIte, zA]
  ·simp only [w1, ↓reduceIte]; rfl
  ·intro fr8 L8 μ8 h8 k8 g7
   simp only [w1, w2, ↓reduceIte, g7, aRet, aRes, aRes1]
   refine ⟨_, rfl, E, L8, hEl, rfl, by simpa [PM.done] using h8, ?_⟩
   have := h8.same
   rw [hEl, hEo] at this
   exact this
end
end Go.Proofs.Ytibmnlijoeppaaa.X
