/-
 The reference's EndOf: what it answers.
-/
import Derived.Test.YtibmnlijoeppaaaXW8
namespace Go.Proofs.Ytibmnlijoeppaaa.X
open Nat renaming reduceEqDiff → zA, reduceAdd → zB, reduceLeDiff → zJ, reduceMul → zK
open Int renaming reduceLT → zC, reduceLE → zD, reduceNeg → zE, reduceBEq → zF, reduceBNe → zG
open AV renaming isTup → zH, cells → zI
set_option linter.unusedSimpArgs false
set_option linter.unusedVariables false

/-! 42: spec.EndOf -/
def r42 : RFun := ⟨16, [.cell 4 (some 3)], (.seq (.reg [rI 0 (.box (.t 0) 1) 2, rI 1 (.alc [.bool false, .int .i64 0, .slc none 0 0]) 4]) (.seq (.seq (.reg [rI 0 (.ld (some 1) (.t 2)) 6, rI 1 (.mv (.t 1)) 7, rI 2 (.call 69 [.t 6, .t 7]) 8, rI 3 (.nt (.t 8)) 9]) (.ite (.t 9) (.seq (.reg [rI 0 (.bld [.bool false, .int .i64 0, .slc none 0 0] []) 10, ⟨1, .st (.t 4) (.t 10) 3, none, none, []⟩]) .ret) .skip)) (.seq (.reg [rI 0 (.ld (some 1) (.t 2)) 11, rI 1 (.mv (.t 1)) 12, rI 2 (.call 70 [.t 11, .t 12, .k (.int .i64 (-1))]) 13, rI 3 (.mv (.t 13)) 5]) (.seq (.reg [rI 0 (.mv (.t 5)) 14, rI 1 (.call 72 [.t 14]) 15, ⟨2, .st (.t 4) (.t 15) 3, none, none, []⟩]) .ret))))⟩
theorem p42 : prog 42 = some r42 := by kernel_rfl



section
variable {E : IEnv} {L L' : Lay IR} {S S' : PM} {μ μ' : Mem}

theorem standV_std {lo : Nat} {Ls : Lay SR} {V : List PView} {ok : Bool} {run : Int} (hr : ∀ v ∈ V, v.regs.length = 4) (h2 : Has Ls (scon Ls V) lo μ) : StandV μ.next μ (.agg [.bool ok, .int .i64 run, Ls.sc .std V.length]) ⟨ok, run, V⟩ := by
 refine ⟨_, fun i => Ls.sc (.stdr i) 4, rfl, ?_, ?_⟩
 ·have := h2.rd (r := .std) (sz := 7) (n := V.length) (cs := cat (svrow Ls) 0 V) rfl (by rw [cat_length (svrow_len Ls)]) (by omega)
  rw [cat_congr (g' := svrow Ls) fun j g hj => by simp only [svrow, hr g (List.mem_of_getElem? hj)]]
  exact this
 ·intro i v hv
  simp only at hv
  have hr4 := hr v (List.mem_of_getElem? hv)
  have := h2.rd (r := .stdr i) (sz := 1) (n := v.regs.length) (cs := cat irow 0 v.regs) (by simp only [scon, hv]; rfl) (by simp [cat_length irow_len]) (by omega)
  rw [hr4] at this ⊢
  exact this

theorem endOf_no {hi : Nat} {c : Cell} {p : PPlan} {ticks : Int} (hR : PlanR hi μ c p) (hh : hi ≤ μ.next) (hl : Lens p) (hg : runnable p ticks = false) :
  Ret 42 [.agg [c], .c (.int .i64 ticks)] μ fun v μ' => StandV μ'.next μ' v ⟨false, 0, []⟩ ∧ Same μ.next μ μ' := by
 have hA : Same μ.next μ ((μ.new [c] 0).new [.bool false, .int .i64 0, .slc none 0 0] 0) := (Same.tmp (Nat.le_refl _)).new (Nat.le_succ _)
 have lA : ((μ.new [c] 0).new [.bool false, .int .i64 0, .slc none 0 0] 0).ld (some 1) μ.next 0 = some (.agg [c]) := by
  rw [Mem.new_ld, if_neg (by simp [Mem.new_next]), Mem.new_ld, if_pos rfl]; rfl
 refine Ret_of p42 (by simp [r42]) ?_
 simp only [rI, r42, frOf_2]
 simp only [w1, w2, zH, zI, ↓reduceIte, zA, zE, lA]
 refine R_calls (l := [.agg [c], .c (.int .i64 ticks)]) (by simp only [w1, w2, ↓reduceIte, zA]) (sok_ok (hR.same hA hh) (by simp only [Mem.new_next]; omega) hl) ?_
 rintro v μ1 ⟨rfl, hs⟩
 simp only [Mem.new_next] at hs
 obtain ⟨μ2, e2, hs2, hn2, ho2⟩ := hs.st (i := μ.next + 1) (o := 0) (x := [.bool false, .int .i64 0, .slc none 0 0])
  (μ1 := (μ.new [c] 0).new [.bool false, .int .i64 0, .slc none 0 0] 0) (by omega) (new_st0 (μ := μ.new [c] 0) rfl)
 have l2 : μ2.ld (some 3) (μ.next + 1) 0 = some (.agg [.bool false, .int .i64 0, .slc none 0 0]) := by
  rw [hs2.ld (by omega), Mem.new_ld, Mem.new_next, if_pos rfl]; rfl
 simp only [w1, w2, zH, zI, ↓reduceIte, zA, zB, zE, hg, m2, fillc, zB, Mem.new_next, e2, aRet, aRes, aRes1, l2]
 exact ⟨_, rfl, ⟨_, fun _ => .slc none 0 0, rfl, Rd.nil, fun i v hv => by simp at hv⟩, ((Same.tmp (Nat.le_refl _)).new (Nat.le_succ _)).trans (hs2.mono (Nat.le_trans (Nat.le_succ _) (Nat.le_succ _)))⟩

theorem endOf_ok {hi : Nat} {c : Cell} {p : PPlan} {ticks : Int} (hR : PlanR hi μ c p) (hh : hi ≤ μ.next) (hl : Lens p) (hn : runnable p ticks = true) (hg : Goes p ticks (-1) S) :
  Ret 42 [.agg [c], .c (.int .i64 ticks)] μ fun v μ' => StandV μ'.next μ' v S.see ∧ Same μ.next μ μ' := by
 have hA : Same μ.next μ ((μ.new [c] 0).new [.bool false, .int .i64 0, .slc none 0 0] 0) := (Same.tmp (Nat.le_refl _)).new (Nat.le_succ _)
 have lA : ((μ.new [c] 0).new [.bool false, .int .i64 0, .slc none 0 0] 0).ld (some 1) μ.next 0 = some (.agg [c]) := by
  rw [Mem.new_ld, if_neg (by simp [Mem.new_next]), Mem.new_ld, if_pos rfl]; rfl
 refine Ret_of p42 (by simp [r42]) ?_
 simp only [rI, r42, frOf_2]
 simp only [w1, w2, zH, zI, ↓reduceIte, zA, zE, lA]
 refine R_calls (l := [.agg [c], .c (.int .i64 ticks)]) (by simp only [w1, w2, ↓reduceIte, zA]) (sok_ok (hR.same hA hh) (by simp only [Mem.new_next]; omega) hl) ?_
 rintro v μ0 ⟨rfl, hs0⟩
 simp only [Mem.new_next] at hs0
 have lB : μ0.ld (some 1) μ.next 0 = some (.agg [c]) := (hs0.ld (by omega)).trans lA
 have hR0 : PlanR hi μ0 c p := (hR.same hA hh).same hs0 (by omega)
 have hnx : μ.next + 1 + 1 ≤ μ0.next := hs0.2
 simp only [w1, w2, ↓reduceIte, zA, zE, hn, lB]
 refine R_calls (l := [.agg [c], .c (.int .i64 ticks), .c (.int .i64 (-1))]) (by simp only [w1, w2, ↓reduceIte, zA, zE]) (goes_run hR0 (by omega) hg) ?_
 rintro v μ1 ⟨E, L, hlo, rfl, h, hs1⟩
 have hs := hs0.trans (hs1.mono hnx)
 simp only [w1, w2, ↓reduceIte]
 refine R_calls (l := [pt E.m 0]) (by simp only [w1, w2, ↓reduceIte]) (see_ok h hg.room) ?_
 rintro v μ2 ⟨Ls, rfl, hL, hs2⟩
 have hs02 := hs.trans (hs2.mono hs.2)
 have hr4 : ∀ v ∈ S.tasks.map PTk.view, v.regs.length = 4 := by
  intro v hv
  obtain ⟨t, ht, rfl⟩ := List.mem_map.1 hv
  exact h.regs t ht
 have hdone : S.done.run = S.run ∧ S.done.tasks = S.tasks := ⟨rfl, rfl⟩
 rw [hdone.1, hdone.2]
 rw [hdone.2] at hL
 obtain ⟨μ3, e3, hs3, hn3, ho3⟩ := hs02.st (i := μ.next + 1) (o := 0) (x := [.bool true, .int .i64 S.run, Ls.sc .std S.tasks.length])
  (μ1 := (μ.new [c] 0).new [.bool true, .int .i64 S.run, Ls.sc .std S.tasks.length] 0) (by omega) (new_st0 (μ := μ.new [c] 0) rfl)
 have l3 : μ3.ld (some 3) (μ.next + 1) 0 = some (.agg [.bool true, .int .i64 S.run, Ls.sc .std S.tasks.length]) := by
  rw [hs3.ld (by omega), Mem.new_ld, Mem.new_next, if_pos rfl]; rfl
 have h2 : Has Ls (scon Ls (S.tasks.map PTk.view)) μ1.next μ3 := hL.frame (by rw [hn3]; exact Nat.le_refl _) fun r hr => ho3 _ (by have := hL.ge r hr; have := Nat.le_trans hnx hs1.2; omega)
 have hv := standV_std (ok := true) (run := S.run) hr4 h2
 rw [List.length_map] at hv
 simp only [w1, w2, zH, zI, ↓reduceIte, zA, zB, e3, Mem.new_next, aRet, aRes, aRes1, l3]
 exact ⟨_, rfl, hv, ((Same.tmp (Nat.le_refl _)).new (Nat.le_succ _)).trans (hs3.mono (Nat.le_trans (Nat.le_succ _) (Nat.le_succ _)))⟩

end
end Go.Proofs.Ytibmnlijoeppaaa.X
