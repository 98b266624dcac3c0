/-
 The reference's Rings: what it answers.
-/
import Derived.Test.YtibmnlijoeppaaaXW8
namespace Go.Proofs.Ytibmnlijoeppaaa.X
open Nat renaming reduceEqDiff → zA, reduceAdd → zB, reduceLeDiff → zJ, reduceMul → zK
open Int renaming reduceLT → zC, reduceLE → zD, reduceNeg → zE, reduceBEq → zF, reduceBNe → zG
open AV renaming isTup → zH, cells → zI
set_option linter.unusedSimpArgs false
set_option linter.unusedVariables false

/-! 43: spec.Rings -/
def r43 : RFun := ⟨17, [.tmp 4], (.seq (.reg [rI 0 (.box (.t 0) 1) 2, rI 1 (.mv (.k (.slc none 0 0))) 4]) (.seq (.seq (.reg [rI 0 (.ld (some 1) (.t 2)) 6, rI 1 (.mv (.t 1)) 7, rI 2 (.call 69 [.t 6, .t 7]) 8, rI 3 (.nt (.t 8)) 9]) (.ite (.t 9) (.seq (.reg [rI 0 (.mv (.k (.slc none 0 0))) 4]) .ret) .skip)) (.seq (.reg [rI 0 (.ld (some 1) (.t 2)) 10, rI 1 (.mv (.t 1)) 11, rI 2 (.call 70 [.t 10, .t 11, .k (.int .i64 (-1))]) 12, rI 3 (.mv (.t 12)) 5]) (.seq (.reg [rI 0 (.mv (.t 5)) 13, rI 1 (.nc (.t 13)) 14, rI 2 (.fa (.t 14) 10) 15, rI 3 (.ld none (.t 15)) 16, rI 4 (.mv (.t 16)) 4]) .ret))))⟩
theorem p43 : prog 43 = some r43 := by kernel_rfl



section
variable {E : IEnv} {L L' : Lay IR} {S S' : PM} {μ μ' : Mem}

theorem rings_no {hi : Nat} {c : Cell} {p : PPlan} {ticks : Int} (hR : PlanR hi μ c p) (hh : hi ≤ μ.next) (hl : Lens p) (hg : runnable p ticks = false) :
  Ret 43 [.agg [c], .c (.int .i64 ticks)] μ fun v μ' => (∃ x, v = .c x ∧ RingsV μ'.next μ' x []) ∧ Same μ.next μ μ' := by
 have hA : Same μ.next μ (μ.new [c] 0) := Same.tmp (Nat.le_refl _)
 have lA : (μ.new [c] 0).ld (some 1) μ.next 0 = some (.agg [c]) := by rw [Mem.new_ld, if_pos rfl]; rfl
 refine Ret_of p43 (by simp [r43]) ?_
 simp only [rI, r43, frOf_2]
 simp only [w1, w2, zH, zI, ↓reduceIte, zA, zE, lA]
 refine R_calls (l := [.agg [c], .c (.int .i64 ticks)]) (by simp only [w1, w2, ↓reduceIte, zA]) (sok_ok (hR.same hA hh) (by simp only [Mem.new_next]; omega) hl) ?_
 rintro v μ1 ⟨rfl, hs⟩
 simp only [Mem.new_next] at hs
 simp only [w1, w2, ↓reduceIte, zE, hg, aRet, aRes, aRes1]
 exact ⟨_, rfl, ⟨_, rfl, fun _ => .slc none 0 0, Rd.nil, fun i r hr => by simp at hr⟩, hA.trans (hs.mono (by omega))⟩

theorem rings_ok {hi : Nat} {c : Cell} {p : PPlan} {ticks : Int} (hR : PlanR hi μ c p) (hh : hi ≤ μ.next) (hl : Lens p) (hn : runnable p ticks = true) (hg : Goes p ticks (-1) S) :
  Ret 43 [.agg [c], .c (.int .i64 ticks)] μ fun v μ' => (∃ x, v = .c x ∧ RingsV μ'.next μ' x S.rings) ∧ Same μ.next μ μ' := by
 have hA : Same μ.next μ (μ.new [c] 0) := Same.tmp (Nat.le_refl _)
 have lA : (μ.new [c] 0).ld (some 1) μ.next 0 = some (.agg [c]) := by rw [Mem.new_ld, if_pos rfl]; rfl
 refine Ret_of p43 (by simp [r43]) ?_
 simp only [rI, r43, frOf_2]
 simp only [w1, w2, zH, zI, ↓reduceIte, zA, zE, lA]
 refine R_calls (l := [.agg [c], .c (.int .i64 ticks)]) (by simp only [w1, w2, ↓reduceIte, zA]) (sok_ok (hR.same hA hh) (by simp only [Mem.new_next]; omega) hl) ?_
 rintro v μ0 ⟨rfl, hs0⟩
 simp only [Mem.new_next] at hs0
 have lB : μ0.ld (some 1) μ.next 0 = some (.agg [c]) := (hs0.ld (by omega)).trans lA
 have hR0 : PlanR hi μ0 c p := (hR.same hA hh).same hs0 (by omega)
 have hnx : μ.next + 1 ≤ μ0.next := hs0.2
 simp only [w1, w2, ↓reduceIte, zA, zE, hn, lB]
 refine R_calls (l := [.agg [c], .c (.int .i64 ticks), .c (.int .i64 (-1))]) (by simp only [w1, w2, ↓reduceIte, zA, zE]) (goes_run hR0 (by omega) hg) ?_
 rintro v μ1 ⟨E, L, hlo, rfl, h, hs1⟩
 have hs := hs0.trans (hs1.mono hnx)
 have hm := h.mfacts
 simp only [w1, w2, ↓reduceIte, hm, aRet, aRes, aRes1]
 refine ⟨_, rfl, ⟨_, rfl, fun i => match S.rings[i]? with | some r => L.sc (.ring i) r.tasks.length | none => .slc none 0 0, ?_, ?_⟩, hA.trans (hs.mono (by omega))⟩
 ·have := h.has.rd (r := .rings) (sz := 2) (n := S.rings.length) (cs := cat (ringrow L) 0 S.rings) rfl (by rw [cat_length (ringrow_len L)]) (by omega)
  rw [cat_congr (g := fun i (r : PRing) => [Cell.int .i64 r.pos, match S.rings[i]? with | some r => L.sc (.ring i) r.tasks.length | none => .slc none 0 0]) (g' := ringrow L) fun j g hj => by
   simp only [Nat.zero_add, hj, ringrow]]
  exact this
 ·intro i r hr
  simp only [hr]
  refine h.has.rd (r := .ring i) (sz := 1) ?_ (by simp [cat_length irow_len]) (by omega)
  show (S.rings[i]?).map _ = _
  rw [hr]; rfl

end
end Go.Proofs.Ytibmnlijoeppaaa.X
