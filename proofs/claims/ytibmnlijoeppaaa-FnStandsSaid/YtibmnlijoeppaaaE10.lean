/-
 The exact law of EndOf: what both sides answer.
-/
import Derived.Test.YtibmnlijoeppaaaE9H
import Derived.Test.YtibmnlijoeppaaaBoth
import Derived.Test.YtibmnlijoeppaaaXW8E
namespace Go.Proofs.Ytibmnlijoeppaaa
open Nat renaming reduceEqDiff → zA, reduceAdd → zB, reduceLeDiff → zJ, reduceMul → zK
open Int renaming reduceLT → zC, reduceLE → zD, reduceNeg → zE, reduceBEq → zF, reduceBNe → zG
open AV renaming isTup → zH, cells → zI
set_option linter.unusedSimpArgs false
set_option linter.unusedVariables false

section
variable {E : IEnv} {L L' : Lay IR} {S S' : PM} {μ μ' : Mem}

theorem standH_std {lo : Nat} {Ls : Lay SR} {V : List PView} (hr : ∀ v ∈ V, v.regs.length = 4) (h2 : Has Ls (scon Ls V) lo μ) : StandH SR.std SR.stdr lo μ Ls (scon Ls V) V := by
 refine ⟨h2, ?_, fun i v hv => ⟨hr v (List.mem_of_getElem? hv), by show (V[i]?).map _ = _; rw [hv]; rfl⟩⟩
 show some (7, cat (svrow Ls) 0 V) = _
 rw [cat_congr (g := svrow Ls) (g' := vrow fun i => Ls.sc (SR.stdr i) 4) fun j g hj => by simp only [svrow, vrow, hr g (List.mem_of_getElem? hj), Nat.zero_add]]

theorem endOf_h {hi : Nat} {c : Cell} {p : PPlan} {ticks : Int} (hR : PlanR hi μ c p) (hh : hi ≤ μ.next) (hl : Lens p) (hg : Goes p ticks none S) :
  Ret 30 [.agg [c], .c (.int .i64 ticks)] μ fun v μ' => AnsH SR.std SR.stdr μ.next μ' v S.stand ∧ Same μ.next μ μ' := by
 have hA : Same μ.next μ ((μ.new [c] 0).new [.bool false, .int .i64 0, .slc none 0 0] 0) := (Same.tmp (Nat.le_refl _)).new (Nat.le_succ _)
 have lA : ((μ.new [c] 0).new [.bool false, .int .i64 0, .slc none 0 0] 0).ld (some 1) μ.next 0 = some (.agg [c]) := by
  rw [Mem.new_ld, if_neg (by simp [Mem.new_next]), Mem.new_ld, if_pos rfl]; rfl
 refine Ret_of p30 (by simp [r30]) ?_
 simp only [rI, r30, frOf_2]
 simp only [w1, w2, zH, zI, ↓reduceIte, zA, lA]
 refine R_calls (l := [.agg [c], .c (.int .i64 ticks), .c .nilfn]) (by simp only [w1, w2, ↓reduceIte, zA]) (drive_end (hR.same hA hh) (by simp only [Mem.new_next]; omega) hl hg) ?_
 rintro v μ1 ⟨E, L, hlo, rfl, h, hs⟩
 simp only [Mem.new_next] at hlo hs
 simp only [w1, w2, ↓reduceIte, zA, aeq]
 refine R_calls (l := [pt E.m 0]) (by simp only [w1, w2, ↓reduceIte]) (stand_ok h hg.room) ?_
 rintro v μ2 ⟨Ls, rfl, hL, hs2⟩
 have hs02 := hs.trans (hs2.mono (by have := hs.2; simp only [Mem.new_next] at this; omega))
 obtain ⟨μ3, e3, hs3, hn3, ho3⟩ := hs02.st (i := μ.next + 1) (o := 0) (x := [.bool true, .int .i64 S.run, Ls.sc .std S.tasks.length])
  (μ1 := (μ.new [c] 0).new [.bool true, .int .i64 S.run, Ls.sc .std S.tasks.length] 0) (by omega) (new_st0 (μ := μ.new [c] 0) rfl)
 have l3 : μ3.ld (some 3) (μ.next + 1) 0 = some (.agg [.bool true, .int .i64 S.run, Ls.sc .std S.tasks.length]) := by
  rw [hs3.ld (by omega), Mem.new_ld, Mem.new_next, if_pos rfl]; rfl
 have hdone : S.done.run = S.run ∧ S.done.tasks = S.tasks := ⟨rfl, rfl⟩
 have hge : μ.next ≤ μ1.next := by have := hs.2; simp only [Mem.new_next] at this; omega
 have h2 : Has Ls (scon Ls (S.tasks.map PTk.view)) μ1.next μ3 := hL.frame (by rw [hn3]; exact Nat.le_refl _) fun r hr => ho3 _ (by have := hL.ge r hr; have := hs.2; simp only [Mem.new_next] at this; omega)
 rw [hdone.1, hdone.2]
 simp only [w1, w2, zH, zI, ↓reduceIte, zA, zB, e3, Mem.new_next, aRet, aRes, aRes1, l3]
 have hr4 : ∀ v ∈ S.tasks.map PTk.view, v.regs.length = 4 := by
  intro v hv
  obtain ⟨t, ht, rfl⟩ := List.mem_map.1 hv
  exact h.regs t ht
 refine ⟨_, rfl, ⟨Ls, _, standH_std hr4 ⟨h2.inj, h2.lt, fun r hr => by have := h2.ge r hr; omega, h2.obj⟩, ?_⟩, ((Same.tmp (Nat.le_refl _)).new (Nat.le_succ _)).trans (hs3.mono (Nat.le_trans (Nat.le_succ _) (Nat.le_succ _)))⟩
 simp only [PM.stand, List.length_map]

theorem ansE_no {lo : Nat} : AnsH SR.std SR.stdr lo μ (.agg [.bool false, .int .i64 0, .slc none 0 0]) ⟨false, 0, []⟩ := by
 refine ⟨⟨fun _ => 0, fun _ => false, fun _ => 0⟩, fun y => match y with | .std => some (7, []) | _ => none, ⟨?_, rfl, fun i r hr => by simp at hr⟩, rfl⟩
 refine (Has.start (fun _ => rfl)).weaken' fun y sz cs hy => .inr ?_
 cases y <;> simp only [reduceCtorEq, Option.some.injEq, Prod.mk.injEq] at hy
 exact ⟨rfl, by omega, hy.2.symm⟩

theorem endOf_no {hi : Nat} {c : Cell} {p : PPlan} {ticks : Int} (hR : PlanR hi μ c p) (hh : hi ≤ μ.next) (hl : Lens p) (hn : noRun p ticks) :
  Ret 30 [.agg [c], .c (.int .i64 ticks)] μ fun v μ' => AnsH SR.std SR.stdr μ.next μ' v ⟨false, 0, []⟩ ∧ Same μ.next μ μ' := by
 have hA : Same μ.next μ ((μ.new [c] 0).new [.bool false, .int .i64 0, .slc none 0 0] 0) := (Same.tmp (Nat.le_refl _)).new (Nat.le_succ _)
 have lA : ((μ.new [c] 0).new [.bool false, .int .i64 0, .slc none 0 0] 0).ld (some 1) μ.next 0 = some (.agg [c]) := by
  rw [Mem.new_ld, if_neg (by simp [Mem.new_next]), Mem.new_ld, if_pos rfl]; rfl
 refine Ret_of p30 (by simp [r30]) ?_
 simp only [rI, r30, frOf_2]
 simp only [w1, w2, zH, zI, ↓reduceIte, zA, lA]
 refine R_calls (l := [.agg [c], .c (.int .i64 ticks), .c .nilfn]) (by simp only [w1, w2, ↓reduceIte, zA]) (drive_nil (hR.same hA hh) (by simp only [Mem.new_next]; omega) hl hn) ?_
 rintro v μ1 ⟨rfl, hs⟩
 simp only [Mem.new_next] at hs
 obtain ⟨μ2, e2, hs2, hn2, ho2⟩ := hs.st (i := μ.next + 1) (o := 0) (x := [.bool false, .int .i64 0, .slc none 0 0])
  (μ1 := (μ.new [c] 0).new [.bool false, .int .i64 0, .slc none 0 0] 0) (by omega) (new_st0 (μ := μ.new [c] 0) rfl)
 have l2 : μ2.ld (some 3) (μ.next + 1) 0 = some (.agg [.bool false, .int .i64 0, .slc none 0 0]) := by
  rw [hs2.ld (by omega), Mem.new_ld, Mem.new_next, if_pos rfl]; rfl
 simp only [w1, w2, zH, zI, ↓reduceIte, zA, zB, aeq, Option.isNone_none, m2, fillc, zB, Mem.new_next, e2, aRet, aRes, aRes1, l2]
 exact ⟨_, rfl, ansE_no, ((Same.tmp (Nat.le_refl _)).new (Nat.le_succ _)).trans (hs2.mono (Nat.le_trans (Nat.le_succ _) (Nat.le_succ _)))⟩
end

/-- For each plan and number of ticks one stand, that both sides answer. -/
theorem endsAll' (p : PPlan) (ticks : Int) (hl : Lens p) : ∃ s : PStand, s.tasks.length ≤ 60 ∧
  (∀ {μ : Mem} {hi : Nat} {c : Cell}, PlanR hi μ c p → hi ≤ μ.next → Ret 30 [.agg [c], .c (.int .i64 ticks)] μ fun v μ' => AnsH SR.std SR.stdr μ.next μ' v s ∧ Same μ.next μ μ') ∧
  (∀ {μ : Mem} {hi : Nat} {c : Cell}, PlanR hi μ c p → hi ≤ μ.next → Ret 42 [.agg [c], .c (.int .i64 ticks)] μ fun v μ' => StandV μ'.next μ' v s ∧ Same μ.next μ μ') ∧
  (X.runnable p ticks = false ∨ ∃ S m, ((PM.fresh p ticks none).bind fun S => PM.runs p m S) = some S ∧ s = S.stand ∧ (S.code = 2 → Std s)) := by
 by_cases hr : X.runnable p ticks = true
 ·have hr' := hr
  unfold X.runnable at hr'
  simp only [Bool.and_eq_true, decide_eq_true_eq] at hr'
  obtain ⟨⟨hok, ht0⟩, ht1⟩ := hr'
  obtain ⟨S, T, ⟨m, hm⟩, ⟨m', hm'⟩, hf⟩ := both_end hok ⟨ht0, ht1⟩
  have hv := hf.views
  have hlen : T.tasks.length = S.tasks.length := by have := congrArg List.length hv; simpa using this
  have hg : Goes p ticks none S := ⟨⟨m, hm⟩, ⟨ht0, ht1⟩, hok, by have := hf.few; unfold roomy; omega, hf.statesS⟩
  have hgX : X.Goes p ticks (-1) T := ⟨⟨m', hm'⟩, by have := hf.few; rw [hlen]; unfold roomy; omega, hf.statesT⟩
  have hse : X.PM.see T = S.stand := by simp only [X.PM.see, PM.stand, hv, hf.run]
  refine ⟨S.stand, by simpa [PM.stand] using hf.few, fun hR hh => endOf_h hR hh hl hg, fun hR hh => ?_, .inr ⟨S, m, hm, rfl, hf.std⟩⟩
  rw [← hse]
  exact X.endOf_ok hR hh hl hr hgX
 ·have hr' : X.runnable p ticks = false := by simpa using hr
  have hn : noRun p ticks := by
   unfold X.runnable at hr
   simp only [Bool.and_eq_true, decide_eq_true_eq] at hr
   unfold noRun
   by_cases h1 : (okP p).1 = 0
   ·omega
   ·exact .inr (.inr h1)
  exact ⟨⟨false, 0, []⟩, by simp, fun hR hh => endOf_no hR hh hl hn, fun hR hh => X.endOf_no hR hh hl hr', .inl hr'⟩

theorem endsAll (p : PPlan) (ticks : Int) (hl : Lens p) : ∃ s : PStand, s.tasks.length ≤ 60 ∧
  (∀ {μ : Mem} {hi : Nat} {c : Cell}, PlanR hi μ c p → hi ≤ μ.next → Ret 30 [.agg [c], .c (.int .i64 ticks)] μ fun v μ' => AnsH SR.std SR.stdr μ.next μ' v s ∧ Same μ.next μ μ') ∧
  (∀ {μ : Mem} {hi : Nat} {c : Cell}, PlanR hi μ c p → hi ≤ μ.next → Ret 42 [.agg [c], .c (.int .i64 ticks)] μ fun v μ' => StandV μ'.next μ' v s ∧ Same μ.next μ μ') := by
 obtain ⟨l, a, b, c, _⟩ := endsAll' p ticks hl
 exact ⟨l, a, b, c⟩
end Go.Proofs.Ytibmnlijoeppaaa
