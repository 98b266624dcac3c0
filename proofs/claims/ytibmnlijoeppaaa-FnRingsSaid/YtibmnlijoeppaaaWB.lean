/-
 The drawn laws: a byte is read.
-/
import Derived.Test.YtibmnlijoeppaaaH2
import Derived.Test.YtibmnlijoeppaaaInB
namespace Go.Proofs.Ytibmnlijoeppaaa
open Nat renaming reduceEqDiff → zA, reduceAdd → zB, reduceLeDiff → zJ, reduceMul → zK
open Int renaming reduceLT → zC, reduceLE → zD, reduceNeg → zE, reduceBEq → zF, reduceBNe → zG
open AV renaming isTup → zH, cells → zI
set_option linter.unusedSimpArgs false
set_option linter.unusedVariables false

/-! 24: laws.wByte -/
def r24 : RFun := ⟨16, [.tmp 4], (.seq (.reg [rI 0 (.mv (.k (.int .i64 0))) 4]) (.seq (.seq (.reg [rI 0 (.mv (.t 0)) 5, rI 1 (.len (.t 5)) 6, rI 2 (.bin .eql (.t 6) (.k (.int .i64 0))) 7]) (.ite (.t 7) (.seq (.reg [rI 0 (.mv (.k (.int .i64 0))) 4]) .ret) .skip)) (.seq (.reg [rI 0 (.mv (.t 0)) 8, rI 1 (.mv (.t 1)) 9, rI 2 (.mv (.t 0)) 10, rI 3 (.len (.t 10)) 11, rI 4 (.bin .rem (.t 9) (.t 11)) 12, rI 5 (.ias (.t 8) (.t 12) 1) 13, rI 6 (.ld none (.t 13)) 14, rI 7 (.cv .i64 (.t 14)) 15, rI 8 (.mv (.t 15)) 4]) .ret)))⟩

theorem p24 : prog 24 = some r24 := by kernel_rfl

theorem wByte_ok {hi : Nat} {μ : Mem} {c : Cell} {b : List Int} (h : Rd hi μ 1 c b.length (cat brow 0 b)) (hr : ∀ y ∈ b, 0 ≤ y ∧ y ≤ 255) (i : Nat) :
  Ret 24 [.c c, .c (.int .i64 i)] μ fun v μ' => (∃ x : Int, v = .c (.int .i64 x) ∧ 0 ≤ x ∧ x ≤ 255) ∧ μ' = μ := by
 obtain ⟨a, cap, hc, _⟩ := id h
 refine Ret_of p24 (by simp [r24]) ?_
 simp only [rI, r24, frOf_2]
 by_cases hb : b = []
 ·subst hb
  subst hc
  have h0 : ((([] : List Int).length : Nat) : Int) = 0 := rfl
  have hb0 : (((0 : Nat) : Int) == 0) = true := rfl
  simp only [w1, w2, ↓reduceIte, zA, hb0, aRet, aRes, aRes1]
  first | exact ⟨_, rfl, ⟨0, rfl, by omega, by omega⟩, rfl⟩ | exact ⟨_, rfl, 0, rfl, by omega, by omega⟩
 ·have hlen : 0 < b.length := List.length_pos_iff.2 hb
  have hlt : i % b.length < b.length := Nat.mod_lt _ hlen
  obtain ⟨bb, o, e1, e2, e3, e4⟩ := h.row brow_len (by omega) (List.getElem?_eq_getElem hlt)
  have e5 := e4 0 (by omega)
  simp only [brow, List.getElem?_cons_zero, Option.map_some, Nat.add_zero] at e5
  have hb0 : ((b.length : Int) == 0) = false := beq_ff (by omega)
  have hrem : vbin .rem (.c (.int .i64 (i : Int))) (.c (.int .i64 (b.length : Int))) = some (.c (.int .i64 ((i % b.length : Nat) : Int))) := by
   rw [vbin_rem (by omega), Int.tmod_eq_emod_of_nonneg (by omega), Int.natCast_emod]
  have hg := hr _ (List.getElem_mem hlt)
  have hw : IntKind.i64.wrap b[i % b.length] = b[i % b.length] := small (by omega)
  subst hc
  simp only [w1, w2, ↓reduceIte, zA, hb0, hrem, e1, e5, hw, aRet, aRes, aRes1]
  first | exact ⟨_, rfl, ⟨_, rfl, hg⟩, rfl⟩ | exact ⟨_, rfl, _, rfl, hg⟩
end Go.Proofs.Ytibmnlijoeppaaa
