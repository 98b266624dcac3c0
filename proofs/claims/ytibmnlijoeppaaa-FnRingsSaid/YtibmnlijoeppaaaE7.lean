/-
 The exact law of Rings: what both sides answer.
-/
import Derived.Test.YtibmnlijoeppaaaE6H
import Derived.Test.YtibmnlijoeppaaaGrow
import Derived.Test.YtibmnlijoeppaaaBoth
import Derived.Test.YtibmnlijoeppaaaXW8R
namespace Go.Proofs.Ytibmnlijoeppaaa
open Nat renaming reduceEqDiff → zA, reduceAdd → zB, reduceLeDiff → zJ, reduceMul → zK
open Int renaming reduceLT → zC, reduceLE → zD, reduceNeg → zE, reduceBEq → zF, reduceBNe → zG
open AV renaming isTup → zH, cells → zI
set_option linter.unusedSimpArgs false
set_option linter.unusedVariables false

section
variable {E : IEnv} {L L' : Lay IR} {S S' : PM} {μ μ' : Mem}

theorem rings_h {hi : Nat} {c : Cell} {p : PPlan} {ticks : Int} (hR : PlanR hi μ c p) (hh : hi ≤ μ.next) (hl : Lens p) (hg : Goes p ticks none S) :
  Ret 28 [.agg [c], .c (.int .i64 ticks)] μ fun v μ' => (∃ L C, RingsH μ.next μ' L C S.rings ∧ v = .c (L.sc .rings S.rings.length)) ∧ Same μ.next μ μ' := by
 have hA : Same μ.next μ (μ.new [c] 0) := Same.tmp (Nat.le_refl _)
 have lA : (μ.new [c] 0).ld (some 1) μ.next 0 = some (.agg [c]) := by rw [Mem.new_ld, if_pos rfl]; rfl
 refine Ret_of p28 (by simp [r28]) ?_
 simp only [rI, r28, frOf_2]
 simp only [w1, w2, zH, zI, ↓reduceIte, zA, lA]
 refine R_calls (l := [.agg [c], .c (.int .i64 ticks), .c .nilfn]) (by simp only [w1, w2, ↓reduceIte, zA]) (drive_end (hR.same hA hh) (by simp only [Mem.new_next]; omega) hl hg) ?_
 rintro v μ1 ⟨E, L, hlo, rfl, h, hs⟩
 have hm := h.mfacts
 simp only [Mem.new_next] at hs hlo
 simp only [w1, w2, ↓reduceIte, zA, aeq, hm, aRet, aRes, aRes1]
 refine ⟨_, rfl, ⟨L, icon E L S.done, ⟨⟨h.has.inj, h.has.lt, fun r hr => by have := h.has.ge r hr; omega, h.has.obj⟩, rfl, fun i r hr => ?_⟩, rfl⟩, hA.trans (hs.mono (by omega))⟩
 have hlt := (List.getElem?_eq_some_iff.1 hr).1
 show (if i = S.rings.length then _ else _) = _
 rw [if_neg (by omega)]
 show (S.rings[i]?).map _ = _
 rw [hr]; rfl

theorem rings_no {hi : Nat} {c : Cell} {p : PPlan} {ticks : Int} (hR : PlanR hi μ c p) (hh : hi ≤ μ.next) (hl : Lens p) (hn : noRun p ticks) :
  Ret 28 [.agg [c], .c (.int .i64 ticks)] μ fun v μ' => (∃ L C, RingsH μ.next μ' L C [] ∧ v = .c (L.sc .rings 0)) ∧ Same μ.next μ μ' := by
 have hA : Same μ.next μ (μ.new [c] 0) := Same.tmp (Nat.le_refl _)
 have lA : (μ.new [c] 0).ld (some 1) μ.next 0 = some (.agg [c]) := by rw [Mem.new_ld, if_pos rfl]; rfl
 refine Ret_of p28 (by simp [r28]) ?_
 simp only [rI, r28, frOf_2]
 simp only [w1, w2, zH, zI, ↓reduceIte, zA, lA]
 refine R_calls (l := [.agg [c], .c (.int .i64 ticks), .c .nilfn]) (by simp only [w1, w2, ↓reduceIte, zA]) (drive_nil (hR.same hA hh) (by simp only [Mem.new_next]; omega) hl hn) ?_
 rintro v μ1 ⟨rfl, hs⟩
 simp only [Mem.new_next] at hs
 simp only [w1, w2, ↓reduceIte, aeq, Option.isNone_none, aRet, aRes, aRes1]
 refine ⟨_, rfl, ⟨L00, fun y => match y with | .rings => some (2, []) | _ => none, ⟨?_, rfl, fun i r hr => by simp at hr⟩, rfl⟩, hA.trans (hs.mono (by omega))⟩
 refine (Has.start (fun _ => rfl)).weaken' fun y sz cs hy => .inr ?_
 cases y <;> simp only [reduceCtorEq, Option.some.injEq, Prod.mk.injEq] at hy
 exact ⟨rfl, by omega, hy.2.symm⟩
end

theorem rgTot_le : ∀ {l : List PRing}, (∀ r ∈ l, r.tasks.length ≤ 61) → rgTot l ≤ l.length * 62
 | [], _ => by simp [rgTot]
 | r :: l, h => by
  have := h r (by simp)
  have := rgTot_le (l := l) fun x hx => h x (by simp [hx])
  simp only [rgTot, List.length_cons]; omega

/-- For each plan and number of ticks one list of rings, that both sides answer. -/
theorem ringsAll' (p : PPlan) (ticks : Int) (hl : Lens p) : ∃ l : List PRing, l.length ≤ 600000 ∧ rgTot l ≤ 60000000 ∧ (∀ r ∈ l, r.tasks.length ≤ 61) ∧
  (∀ {μ : Mem} {hi : Nat} {c : Cell}, PlanR hi μ c p → hi ≤ μ.next → Ret 28 [.agg [c], .c (.int .i64 ticks)] μ fun v μ' => (∃ L C, RingsH μ.next μ' L C l ∧ v = .c (L.sc .rings l.length)) ∧ Same μ.next μ μ') ∧
  (∀ {μ : Mem} {hi : Nat} {c : Cell}, PlanR hi μ c p → hi ≤ μ.next → Ret 43 [.agg [c], .c (.int .i64 ticks)] μ fun v μ' => (∃ x, v = .c x ∧ RingsV μ'.next μ' x l) ∧ Same μ.next μ μ') ∧
  ((X.runnable p ticks = false ∧ l = []) ∨ ∃ S m, X.runnable p ticks = true ∧ ((PM.fresh p ticks none).bind fun S => PM.runs p m S) = some S ∧ S.rings = l) := by
 by_cases hr : X.runnable p ticks = true
 ·have hr' := hr
  unfold X.runnable at hr'
  simp only [Bool.and_eq_true, decide_eq_true_eq] at hr'
  obtain ⟨⟨hok, ht0⟩, ht1⟩ := hr'
  obtain ⟨S, T, ⟨m, hm⟩, ⟨m', hm'⟩, hf⟩ := both_end hok ⟨ht0, ht1⟩
  have hv := hf.views
  have hlen : T.tasks.length = S.tasks.length := by have := congrArg List.length hv; simpa using this
  have hg : Goes p ticks none S := ⟨⟨m, hm⟩, ⟨ht0, ht1⟩, hok, by have := hf.few; unfold roomy; omega, hf.statesS⟩
  have hgX : X.Goes p ticks (-1) T := ⟨⟨m', hm'⟩, by have := hf.few; rw [hlen]; unfold roomy; omega, hf.statesT⟩
  have h61 : ∀ r ∈ S.rings, r.tasks.length ≤ 61 := fun r hr => by
   have := (run_grow hm).2 r hr
   have := hf.few
   omega
  refine ⟨S.rings, hf.room.2, ?_, h61, fun hR hh => rings_h hR hh hl hg, fun hR hh => ?_, .inr ⟨S, m, hr, hm, rfl⟩⟩
  ·have := rgTot_le h61
   have := hf.room.2
   omega
  ·rw [← hf.rings]
   exact X.rings_ok hR hh hl hr hgX
 ·have hr' : X.runnable p ticks = false := by simpa using hr
  have hn : noRun p ticks := by
   unfold X.runnable at hr
   simp only [Bool.and_eq_true, decide_eq_true_eq] at hr
   unfold noRun
   by_cases h1 : (okP p).1 = 0
   ·omega
   ·exact .inr (.inr h1)
  exact ⟨[], by simp, by simp [rgTot], by simp, fun hR hh => rings_no hR hh hl hn, fun hR hh => X.rings_no hR hh hl hr', .inl ⟨hr', rfl⟩⟩

theorem ringsAll (p : PPlan) (ticks : Int) (hl : Lens p) : ∃ l : List PRing, l.length ≤ 600000 ∧ rgTot l ≤ 60000000 ∧ (∀ r ∈ l, r.tasks.length ≤ 61) ∧
  (∀ {μ : Mem} {hi : Nat} {c : Cell}, PlanR hi μ c p → hi ≤ μ.next → Ret 28 [.agg [c], .c (.int .i64 ticks)] μ fun v μ' => (∃ L C, RingsH μ.next μ' L C l ∧ v = .c (L.sc .rings l.length)) ∧ Same μ.next μ μ') ∧
  (∀ {μ : Mem} {hi : Nat} {c : Cell}, PlanR hi μ c p → hi ≤ μ.next → Ret 43 [.agg [c], .c (.int .i64 ticks)] μ fun v μ' => (∃ x, v = .c x ∧ RingsV μ'.next μ' x l) ∧ Same μ.next μ μ') := by
 obtain ⟨l, a, b, c, d, e, _⟩ := ringsAll' p ticks hl
 exact ⟨l, a, b, c, d, e⟩
end Go.Proofs.Ytibmnlijoeppaaa
