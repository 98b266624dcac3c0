/-
 The exact law of RunPlan: what both sides answer, and the law's walk.
-/
import Derived.Test.YtibmnlijoeppaaaH2
namespace Go.Proofs.Ytibmnlijoeppaaa
open Nat renaming reduceEqDiff → zA, reduceAdd → zB, reduceLeDiff → zJ, reduceMul → zK
open Int renaming reduceLT → zC, reduceLE → zD, reduceNeg → zE, reduceBEq → zF, reduceBNe → zG
open AV renaming isTup → zH, cells → zI
set_option linter.unusedSimpArgs false
set_option linter.unusedVariables false

/-- A report whose parts lie above 'lo' and apart. -/
def RepH (lo : Nat) (μ : Mem) (L : Lay IR) (C : Con IR) (v : AV) (r : PReport) : Prop :=
 Has L C lo μ ∧ C .recs = some (4, cat recrow 0 r.recs) ∧ C .states = some (1, cat irow 0 r.states) ∧ v = .agg [.int .i64 r.code, L.sc .recs r.recs.length, .int .i64 r.num, .int .i64 r.ticks, L.sc .states r.states.length]

theorem RepV.same {hi hi' : Nat} {μ μ' : Mem} {v : AV} {r : PReport} (h : RepV hi μ v r) (hs : Same hi' μ μ') (hh : hi ≤ hi') : RepV hi μ' v r := by
 obtain ⟨rc, sc, e, h1, h2⟩ := h
 exact ⟨rc, sc, e, h1.same hs hh, h2.same hs hh⟩

theorem RepV.mono' {hi hi' : Nat} {μ : Mem} {v : AV} {r : PReport} (h : RepV hi μ v r) (hh : hi ≤ hi') : RepV hi' μ v r := by
 obtain ⟨rc, sc, e, h1, h2⟩ := h
 exact ⟨rc, sc, e, h1.mono hh, h2.mono hh⟩

theorem RepH.v {lo : Nat} {μ : Mem} {L : Lay IR} {C : Con IR} {v : AV} {r : PReport} (h : RepH lo μ L C v r) : RepV μ.next μ v r := by
 obtain ⟨h1, h2, h3, e⟩ := h
 exact ⟨_, _, e, h1.rd h2 (by rw [cat_length recrow_len]) (by omega), h1.rd h3 (by rw [cat_length irow_len]) (by omega)⟩

section
variable {E : IEnv} {L L' : Lay IR} {S S' : PM} {μ μ' : Mem}

theorem runPlan_h {hi : Nat} {c : Cell} {p : PPlan} {ticks : Int} (hR : PlanR hi μ c p) (hh : hi ≤ μ.next) (hl : Lens p) (hg : Goes p ticks none S) :
  Ret 26 [.agg [c], .c (.int .i64 ticks)] μ fun v μ' => (∃ L C, RepH μ.next μ' L C v S.report) ∧ Same μ.next μ μ' := by
 have hA : Same μ.next μ ((μ.new [c] 0).new [.int .i64 0, .slc none 0 0, .int .i64 0, .int .i64 0, .slc none 0 0] 0) := (Same.tmp (Nat.le_refl _)).new (Nat.le_succ _)
 have lA : ((μ.new [c] 0).new [.int .i64 0, .slc none 0 0, .int .i64 0, .int .i64 0, .slc none 0 0] 0).ld (some 1) μ.next 0 = some (.agg [c]) := by
  rw [Mem.new_ld, if_neg (by simp [Mem.new_next]), Mem.new_ld, if_pos rfl]; rfl
 refine Ret_of p26 (by simp [r26]) ?_
 simp only [rI, r26, frOf_2]
 simp only [w1, w2, zH, zI, ↓reduceIte, zA, lA]
 refine R_calls (l := [.agg [c], .c (.int .i64 ticks), .c .nilfn]) (by simp only [w1, w2, ↓reduceIte, zA]) (drive_end (hR.same hA hh) (by simp only [Mem.new_next]; omega) hl hg) ?_
 rintro v μ1 ⟨E, L, hlo, rfl, h, hs⟩
 have hm : μ1.ld (some 5) E.m 5 = some (.agg [.int .i64 S.code, L.sc .recs S.recs.length, .int .i64 S.num, .int .i64 S.used, L.sc .states (S.states ++ S.tasks.map (·.state)).length]) := by
  rw [← h.m]
  exact h.has.ldn (r := .mach) rfl (by simp only [mcells, PM.done]; rfl) (.inl rfl)
 simp only [Mem.new_next] at hs
 obtain ⟨μ2, e2, hs2, hn2, ho2⟩ := hs.st (i := μ.next + 1) (o := 0) (x := [.int .i64 S.code, L.sc .recs S.recs.length, .int .i64 S.num, .int .i64 S.used, L.sc .states (S.states ++ S.tasks.map (·.state)).length])
  (μ1 := (μ.new [c] 0).new [.int .i64 S.code, L.sc .recs S.recs.length, .int .i64 S.num, .int .i64 S.used, L.sc .states (S.states ++ S.tasks.map (·.state)).length] 0) (by omega) (new_st0 (μ := μ.new [c] 0) rfl)
 have l2 : μ2.ld (some 5) (μ.next + 1) 0 = some (.agg [.int .i64 S.code, L.sc .recs S.recs.length, .int .i64 S.num, .int .i64 S.used, L.sc .states (S.states ++ S.tasks.map (·.state)).length]) := by
  rw [hs2.ld (by omega), Mem.new_ld, Mem.new_next, if_pos rfl]; rfl
 simp only [Mem.new_next] at hlo
 have h2 : Has L (icon E L S.done) E.lo μ2 := h.has.frame (by rw [hn2]; exact Nat.le_refl _) fun r hr => ho2 _ (by have := h.has.ge r hr; omega)
 simp only [w1, w2, zH, zI, ↓reduceIte, zA, zB, aeq, hm, Mem.new_next, e2, aRet, aRes, aRes1, l2]
 refine ⟨_, rfl, ⟨L, icon E L S.done, ⟨h2.inj, h2.lt, fun r hr => by have := h2.ge r hr; omega, h2.obj⟩, rfl, ?_, ?_⟩, ?_⟩
 ·simp only [icon, PM.done, PM.report, hg.states, List.nil_append]
 ·simp only [PM.report, hg.states, List.nil_append]
 ·exact ((Same.tmp (Nat.le_refl _)).new (Nat.le_succ _)).trans (hs2.mono (Nat.le_trans (Nat.le_succ _) (Nat.le_succ _)))

theorem runPlan_no {hi : Nat} {c : Cell} {p : PPlan} {ticks : Int} (hR : PlanR hi μ c p) (hh : hi ≤ μ.next) (hl : Lens p) (hn : noRun p ticks) :
  Ret 26 [.agg [c], .c (.int .i64 ticks)] μ fun v μ' => (∃ L C, RepH μ.next μ' L C v ⟨3, [], 0, 0, []⟩) ∧ Same μ.next μ μ' := by
 have hA : Same μ.next μ ((μ.new [c] 0).new [.int .i64 0, .slc none 0 0, .int .i64 0, .int .i64 0, .slc none 0 0] 0) := (Same.tmp (Nat.le_refl _)).new (Nat.le_succ _)
 have lA : ((μ.new [c] 0).new [.int .i64 0, .slc none 0 0, .int .i64 0, .int .i64 0, .slc none 0 0] 0).ld (some 1) μ.next 0 = some (.agg [c]) := by
  rw [Mem.new_ld, if_neg (by simp [Mem.new_next]), Mem.new_ld, if_pos rfl]; rfl
 refine Ret_of p26 (by simp [r26]) ?_
 simp only [rI, r26, frOf_2]
 simp only [w1, w2, zH, zI, ↓reduceIte, zA, lA]
 refine R_calls (l := [.agg [c], .c (.int .i64 ticks), .c .nilfn]) (by simp only [w1, w2, ↓reduceIte, zA]) (drive_nil (hR.same hA hh) (by simp only [Mem.new_next]; omega) hl hn) ?_
 rintro v μ1 ⟨rfl, hs⟩
 simp only [Mem.new_next] at hs
 obtain ⟨μ2, e2, hs2, hn2, ho2⟩ := hs.st (i := μ.next + 1) (o := 0) (x := [.int .i64 3, .slc none 0 0, .int .i64 0, .int .i64 0, .slc none 0 0])
  (μ1 := (μ.new [c] 0).new [.int .i64 3, .slc none 0 0, .int .i64 0, .int .i64 0, .slc none 0 0] 0) (by omega) (new_st0 (μ := μ.new [c] 0) rfl)
 have l2 : μ2.ld (some 5) (μ.next + 1) 0 = some (.agg [.int .i64 3, .slc none 0 0, .int .i64 0, .int .i64 0, .slc none 0 0]) := by
  rw [hs2.ld (by omega), Mem.new_ld, Mem.new_next, if_pos rfl]; rfl
 simp only [w1, w2, zH, zI, ↓reduceIte, zA, zB, aeq, Option.isNone_none, m2, fillc, wr, zJ, zB, Mem.new_next, e2, aRet, aRes, aRes1, l2]
 refine ⟨_, rfl, ⟨L00, fun y => match y with | .recs => some (4, []) | .states => some (1, []) | _ => none, ?_, rfl, rfl, rfl⟩, ((Same.tmp (Nat.le_refl _)).new (Nat.le_succ _)).trans (hs2.mono (Nat.le_trans (Nat.le_succ _) (Nat.le_succ _)))⟩
 refine (Has.start (fun _ => rfl)).weaken' fun y sz cs hy => .inr ?_
 cases y <;> simp only [reduceCtorEq, Option.some.injEq, Prod.mk.injEq] at hy
 ·exact ⟨rfl, by omega, hy.2.symm⟩
 ·exact ⟨rfl, by omega, hy.2.symm⟩
end
end Go.Proofs.Ytibmnlijoeppaaa
