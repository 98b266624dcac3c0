/-
 The program's machine: how blocks are closed and left.
-/
import Derived.Test.YtibmnlijoeppaaaIW2
namespace Go.Proofs.Ytibmnlijoeppaaa
open Nat renaming reduceEqDiff → zA, reduceAdd → zB, reduceLeDiff → zJ, reduceMul → zK
open Int renaming reduceLT → zC, reduceLE → zD, reduceNeg → zE, reduceBEq → zF, reduceBNe → zG
open AV renaming isTup → zH, cells → zI
set_option linter.unusedSimpArgs false
set_option linter.unusedVariables false

/-! 148: impl.machine).finish -/
def r148 : RFun := ⟨83, [], (.seq (.reg [rI 0 (.mv (.t 0)) 12, rI 1 (.call 112 [.t 12]) 13, rI 2 (.mv (.t 13)) 6]) (.seq (.reg [rI 0 (.mv (.t 6)) 14, rI 1 (.nc (.t 14)) 15, rI 2 (.fa (.t 15) 1) 16, ⟨3, .st (.t 16) (.k (.int .i64 4)) 1, none, none, []⟩]) (.seq (.seq (.reg [rI 0 (.mv (.t 0)) 17, rI 1 (.nc (.t 17)) 18, rI 2 (.fa (.t 18) 4) 19, rI 3 (.ld none (.t 19)) 20, rI 4 (.bin .eql (.t 20) (.k (.int .i64 0))) 21]) (.ite (.t 21) (.seq (.reg [rI 0 (.mv (.t 0)) 22, rI 1 (.nc (.t 22)) 23, rI 2 (.fa (.t 23) 10) 24, ⟨3, .st (.t 24) (.k (.bool true)) 1, none, none, []⟩]) (.seq (.reg [rI 0 (.mv (.t 0)) 25, rI 1 (.mv (.t 2)) 26, rI 2 (.nc (.t 25)) 27, rI 3 (.fa (.t 27) 5) 28, rI 4 (.fa (.t 28) 2) 29, ⟨5, .st (.t 29) (.t 26) 1, none, none, []⟩]) (.seq (.seq (.reg [rI 0 (.mv (.t 1)) 30, rI 1 (.bin .eql (.t 30) (.k (.int .i64 2))) 31]) (.ite (.t 31) (.reg [rI 0 (.mv (.t 0)) 32, rI 1 (.nc (.t 32)) 33, rI 2 (.fa (.t 33) 5) 34, rI 3 (.fa (.t 34) 0) 35, ⟨4, .st (.t 35) (.k (.int .i64 1)) 1, none, none, []⟩]) .skip)) .ret))) .skip)) (.seq (.reg [rI 0 (.mv (.t 6)) 36, rI 1 (.nc (.t 36)) 37, rI 2 (.fa (.t 37) 6) 38, rI 3 (.ld none (.t 38)) 39, rI 4 (.mv (.t 39)) 7]) (.seq (.reg [rI 0 (.mv (.t 6)) 40, rI 1 (.nc (.t 40)) 41, rI 2 (.fa (.t 41) 6) 42, ⟨3, .st (.t 42) (.k (.int .i64 (-1))) 1, none, none, []⟩]) (.seq (.reg [rI 0 (.mv (.t 0)) 43, rI 1 (.nc (.t 43)) 44, rI 2 (.fa (.t 44) 3) 45, rI 3 (.ld none (.t 45)) 46, rI 4 (.mv (.t 7)) 47, rI 5 (.ias (.t 46) (.t 47) 1) 48, rI 6 (.ld none (.t 48)) 49, rI 7 (.mv (.t 49)) 8]) (.seq (.reg [rI 0 (.mv (.t 2)) 50, rI 1 (.mv (.t 50)) 9, rI 2 (.mv (.k (.int .i64 2))) 10, rI 3 (.mv (.k (.int .i64 3))) 11]) (.seq (.seq (.reg [rI 0 (.mv (.t 1)) 51]) (.blk 0 (.seq (.reg [rI 0 (.bin .eql (.t 51) (.k (.int .i64 2))) 53, rI 1 (.mv (.t 53)) 52]) (.ite (.t 52) (.reg [rI 0 (.mv (.k (.int .i64 0))) 10, rI 1 (.mv (.k (.int .i64 4))) 11]) (.seq (.reg [rI 0 (.bin .eql (.t 51) (.k (.int .i64 3))) 55, rI 1 (.mv (.t 55)) 54]) (.ite (.t 54) (.seq (.reg [rI 0 (.mv (.k (.int .i64 0))) 9, rI 1 (.mv (.k (.int .i64 1))) 10, rI 2 (.mv (.k (.int .i64 6))) 11]) (.seq (.reg [rI 0 (.mv (.t 6)) 56, rI 1 (.nc (.t 56)) 57, rI 2 (.fa (.t 57) 14) 58, rI 3 (.ld none (.t 58)) 59]) (.ite (.t 59) (.reg [rI 0 (.mv (.t 6)) 60, rI 1 (.nc (.t 60)) 61, rI 2 (.fa (.t 61) 15) 62, rI 3 (.ld none (.t 62)) 63, rI 4 (.mv (.t 63)) 9, rI 5 (.mv (.k (.int .i64 0))) 10]) .skip))) .skip)))))) (.seq (.reg [rI 0 (.mv (.t 0)) 64, rI 1 (.mv (.t 7)) 65, rI 2 (.mv (.t 11)) 66, rI 3 (.call 143 [.t 64, .t 65, .t 66]) 67]) (.seq (.reg [rI 0 (.mv (.t 8)) 68, rI 1 (.mv (.t 8)) 69, rI 2 (.nc (.t 69)) 70, rI 3 (.fa (.t 70) 7) 71, rI 4 (.fa (.t 71) 1) 72, rI 6 (.mv (.t 9)) 74, rI 7 (.nc (.t 68)) 75, rI 8 (.fa (.t 75) 2) 76, rI 5 (.ld none (.t 72)) 73, rI 9 (.iaa (.t 76) (.t 73) 4 1) 77, ⟨10, .st (.t 77) (.t 74) 1, none, none, []⟩]) (.reg [rI 0 (.mv (.t 8)) 78, rI 1 (.mv (.t 10)) 79, rI 2 (.nc (.t 78)) 80, rI 3 (.fa (.t 80) 2) 81, rI 4 (.iaa (.t 81) (.k (.int .i64 3)) 4 1) 82, ⟨5, .st (.t 82) (.t 79) 1, none, none, []⟩])))))))))))⟩
theorem p148 : prog 148 = some r148 := by kernel_rfl

/-! 141: impl.machine).close -/
def r141 : RFun := ⟨138, [], (.seq (.reg [rI 0 (.mv (.t 0)) 5, rI 1 (.call 112 [.t 5]) 6, rI 2 (.mv (.t 6)) 2]) (.seq (.reg [rI 0 (.mv (.t 2)) 7, rI 1 (.call 113 [.t 7]) 8, rI 2 (.nc (.t 8)) 9, rI 3 (.ld (some 8) (.t 9)) 10, rI 4 (.alc [.int .i64 0, .int .i64 0, .int .i64 0, .int .i64 0, .slc none 0 0, .bool false, .int .i64 0, .int .i64 0]) 3, ⟨5, .st (.t 3) (.t 10) 8, none, none, []⟩]) (.seq (.reg [rI 0 (.mv (.t 2)) 11, rI 1 (.mv (.t 2)) 12, rI 2 (.nc (.t 12)) 13, rI 3 (.fa (.t 13) 12) 14, rI 5 (.mv (.t 2)) 16, rI 6 (.nc (.t 16)) 17, rI 7 (.fa (.t 17) 12) 18, rI 4 (.ld none (.t 14)) 15, rI 8 (.ld none (.t 18)) 19, rI 9 (.len (.t 19)) 20, rI 10 (.bin .sub (.t 20) (.k (.int .i64 1))) 21, rI 11 (.slc 8 (.t 15) none (some (.t 21))) 22, rI 12 (.nc (.t 11)) 23, rI 13 (.fa (.t 23) 12) 24, ⟨14, .st (.t 24) (.t 22) 1, none, none, []⟩]) (.seq (.seq (.reg [rI 0 (.mv (.t 2)) 25, rI 1 (.nc (.t 25)) 26, rI 2 (.fa (.t 26) 12) 27, rI 3 (.ld none (.t 27)) 28, rI 4 (.len (.t 28)) 29, rI 5 (.bin .eql (.t 29) (.k (.int .i64 0))) 30]) (.ite (.t 30) (.seq (.reg [rI 0 (.mv (.t 0)) 31, rI 1 (.fa (.t 3) 6) 32, rI 2 (.ld none (.t 32)) 33, rI 3 (.fa (.t 3) 7) 34, rI 4 (.ld none (.t 34)) 35, rI 5 (.call 148 [.t 31, .t 33, .t 35]) 36]) .ret) .skip)) (.seq (.reg [rI 0 (.mv (.t 2)) 37, rI 1 (.call 113 [.t 37]) 38, rI 2 (.mv (.t 38)) 4]) (.seq (.seq (.reg [rI 0 (.fa (.t 3) 0) 39, rI 1 (.ld none (.t 39)) 40, rI 2 (.bin .eql (.t 40) (.k (.int .i64 13))) 41]) (.ite (.t 41) (.seq (.blk 0 (.seq (.reg [rI 0 (.fa (.t 3) 6) 43, rI 1 (.ld none (.t 43)) 44, rI 2 (.bin .eql (.t 44) (.k (.int .i64 3))) 45, rI 3 (.mv (.t 45)) 42]) (.ite (.t 42) (.reg [rI 0 (.mv (.t 4)) 46, rI 1 (.nc (.t 46)) 47, rI 2 (.fa (.t 47) 6) 48, ⟨3, .st (.t 48) (.k (.int .i64 3)) 1, none, none, []⟩]) (.seq (.reg [rI 0 (.fa (.t 3) 6) 50, rI 1 (.ld none (.t 50)) 51, rI 2 (.bin .eql (.t 51) (.k (.int .i64 2))) 52, rI 3 (.mv (.t 52)) 53, ⟨4, .mv (.t 4), some 54, some (53, true), []⟩, ⟨5, .nc (.t 54), some 55, some (53, true), []⟩, ⟨6, .fa (.t 55) 6, some 56, some (53, true), []⟩, ⟨7, .ld none (.t 56), some 57, some (53, true), []⟩, ⟨8, .bin .eql (.t 57) (.k (.int .i64 3)), some 58, some (53, true), []⟩, rI 9 (.pick (.t 53) (.t 58) (.k (.bool false))) 59, rI 10 (.mv (.t 59)) 49]) (.ite (.t 49) (.reg [rI 0 (.mv (.t 2)) 60, rI 1 (.mv (.t 2)) 61, rI 2 (.fa (.t 3) 7) 62, rI 4 (.nc (.t 60)) 64, rI 5 (.fa (.t 64) 14) 65, rI 3 (.ld none (.t 62)) 63, ⟨6, .st (.t 65) (.k (.bool true)) 1, none, none, [.ld 63 none (.t 62)]⟩, rI 7 (.nc (.t 61)) 66, rI 8 (.fa (.t 66) 15) 67, ⟨9, .st (.t 67) (.t 63) 1, none, none, []⟩]) (.seq (.reg [rI 0 (.fa (.t 3) 6) 69, rI 1 (.ld none (.t 69)) 70, rI 2 (.bin .eql (.t 70) (.k (.int .i64 2))) 71, rI 3 (.mv (.t 71)) 68]) (.ite (.t 68) (.reg [rI 0 (.mv (.t 4)) 72, rI 1 (.mv (.t 4)) 73, rI 2 (.fa (.t 3) 7) 74, rI 4 (.nc (.t 72)) 76, rI 5 (.fa (.t 76) 6) 77, rI 3 (.ld none (.t 74)) 75, ⟨6, .st (.t 77) (.k (.int .i64 2)) 1, none, none, [.ld 75 none (.t 74)]⟩, rI 7 (.nc (.t 73)) 78, rI 8 (.fa (.t 78) 7) 79, ⟨9, .st (.t 79) (.t 75) 1, none, none, []⟩]) .skip))))))) .ret) .skip)) (.blk 1 (.seq (.reg [rI 0 (.fa (.t 3) 6) 94, rI 1 (.ld none (.t 94)) 95, rI 2 (.bin .eql (.t 95) (.k (.int .i64 0))) 96, rI 3 (.mv (.t 96)) 97, ⟨4, .fa (.t 3) 0, some 98, some (97, true), []⟩, ⟨5, .ld none (.t 98), some 99, some (97, true), []⟩, ⟨6, .bin .eql (.t 99) (.k (.int .i64 14)), some 100, some (97, true), []⟩, rI 7 (.pick (.t 97) (.t 100) (.k (.bool false))) 101, rI 8 (.mv (.t 101)) 93]) (.ite (.t 93) (.reg [rI 0 (.mv (.t 0)) 102, rI 1 (.mv (.t 2)) 103, rI 2 (.fa (.t 3) 1) 104, rI 3 (.ld none (.t 104)) 105, rI 4 (.call 122 [.t 102, .t 103, .t 105]) 106]) (.seq (.reg [rI 0 (.fa (.t 3) 6) 108, rI 1 (.ld none (.t 108)) 109, rI 2 (.bin .eql (.t 109) (.k (.int .i64 0))) 110, rI 3 (.mv (.t 110)) 107]) (.ite (.t 107) .skip (.seq (.reg [rI 0 (.fa (.t 3) 6) 112, rI 1 (.ld none (.t 112)) 113, rI 2 (.bin .eql (.t 113) (.k (.int .i64 2))) 114, rI 3 (.mv (.t 114)) 115, ⟨4, .fa (.t 3) 0, some 116, some (115, true), []⟩, ⟨5, .ld none (.t 116), some 117, some (115, true), []⟩, ⟨6, .bin .eql (.t 117) (.k (.int .i64 11)), some 118, some (115, true), []⟩, rI 7 (.pick (.t 115) (.t 118) (.k (.bool false))) 119, rI 8 (.mv (.t 119)) 111]) (.ite (.t 111) (.seq (.reg [rI 0 (.mv (.t 0)) 120, rI 1 (.fa (.t 3) 7) 121, rI 2 (.ld none (.t 121)) 122, rI 3 (.call 116 [.t 120, .k (.int .i64 4), .k (.int .i64 0), .t 122]) 123]) (.reg [rI 0 (.mv (.t 2)) 124, rI 1 (.mv (.t 0)) 125, rI 2 (.mv (.t 2)) 126, rI 4 (.fa (.t 3) 1) 128, rI 9 (.fa (.t 3) 7) 133, rI 11 (.nc (.t 124)) 135, rI 12 (.fa (.t 135) 2) 136, rI 5 (.ld none (.t 128)) 129, rI 10 (.ld none (.t 133)) 134, ⟨3, .call 111 [.t 125, .t 126], some 127, none, [.ld 129 none (.t 128), .ld 134 none (.t 133)]⟩, rI 6 (.ias (.t 127) (.t 129) 5) 130, rI 7 (.fa (.t 130) 1) 131, rI 8 (.ld none (.t 131)) 132, rI 13 (.iaa (.t 136) (.t 132) 4 1) 137, ⟨14, .st (.t 137) (.t 134) 1, none, none, []⟩])) (.reg [rI 0 (.mv (.t 4)) 80, rI 1 (.mv (.t 4)) 81, rI 2 (.mv (.t 4)) 82, rI 3 (.fa (.t 3) 6) 83, rI 5 (.fa (.t 3) 7) 85, rI 7 (.nc (.t 80)) 87, rI 8 (.fa (.t 87) 5) 88, rI 4 (.ld none (.t 83)) 84, rI 6 (.ld none (.t 85)) 86, ⟨9, .st (.t 88) (.k (.bool true)) 1, none, none, [.ld 84 none (.t 83), .ld 86 none (.t 85)]⟩, rI 10 (.nc (.t 81)) 89, rI 11 (.fa (.t 89) 6) 90, ⟨12, .st (.t 90) (.t 84) 1, none, none, [.ld 86 none (.t 85)]⟩, rI 13 (.nc (.t 82)) 91, rI 14 (.fa (.t 91) 7) 92, ⟨15, .st (.t 92) (.t 86) 1, none, none, []⟩]))))))))))))))⟩
theorem p141 : prog 141 = some r141 := by kernel_rfl

/-! 114: impl.machine).leave -/
def r114 : RFun := ⟨76, [], (.seq (.reg [rI 0 (.mv (.t 0)) 5, rI 1 (.call 112 [.t 5]) 6, rI 2 (.mv (.t 6)) 2]) (.seq (.reg [rI 0 (.mv (.t 2)) 7, rI 1 (.call 113 [.t 7]) 8, rI 2 (.mv (.t 8)) 3]) (.seq (.seq (.reg [rI 0 (.mv (.t 3)) 9, rI 1 (.nc (.t 9)) 10, rI 2 (.fa (.t 10) 4) 11, rI 3 (.ld none (.t 11)) 12, rI 4 (.len (.t 12)) 13, rI 5 (.bin .eql (.t 13) (.k (.int .i64 0))) 14]) (.ite (.t 14) (.seq (.reg [rI 0 (.mv (.t 0)) 15, rI 1 (.call 141 [.t 15]) 16]) .ret) .skip)) (.seq (.seq (.reg [rI 0 (.mv (.t 0)) 17, rI 1 (.call 115 [.t 17]) 18, rI 2 (.nt (.t 18)) 19]) (.ite (.t 19) .ret .skip)) (.seq (.reg [rI 0 (.mv (.t 3)) 20, rI 1 (.nc (.t 20)) 21, rI 2 (.fa (.t 21) 4) 22, rI 4 (.mv (.t 3)) 24, rI 5 (.nc (.t 24)) 25, rI 6 (.fa (.t 25) 4) 26, rI 3 (.ld none (.t 22)) 23, rI 7 (.ld none (.t 26)) 27, rI 8 (.len (.t 27)) 28, rI 9 (.bin .sub (.t 28) (.k (.int .i64 1))) 29, rI 10 (.ias (.t 23) (.t 29) 1) 30, rI 11 (.ld none (.t 30)) 31, rI 12 (.mv (.t 31)) 4]) (.seq (.reg [rI 0 (.mv (.t 3)) 32, rI 1 (.mv (.t 3)) 33, rI 2 (.nc (.t 33)) 34, rI 3 (.fa (.t 34) 4) 35, rI 5 (.mv (.t 3)) 37, rI 6 (.nc (.t 37)) 38, rI 7 (.fa (.t 38) 4) 39, rI 4 (.ld none (.t 35)) 36, rI 8 (.ld none (.t 39)) 40, rI 9 (.len (.t 40)) 41, rI 10 (.bin .sub (.t 41) (.k (.int .i64 1))) 42, rI 11 (.slc 1 (.t 36) none (some (.t 42))) 43, rI 12 (.nc (.t 32)) 44, rI 13 (.fa (.t 44) 4) 45, ⟨14, .st (.t 45) (.t 43) 1, none, none, []⟩]) (.seq (.reg [rI 0 (.mv (.t 2)) 46, rI 1 (.nc (.t 46)) 47, rI 2 (.fa (.t 47) 17) 48, rI 3 (.ld none (.t 48)) 49, rI 4 (.bin .add (.t 49) (.k (.int .i64 1))) 50, rI 5 (.nc (.t 46)) 51, rI 6 (.fa (.t 51) 17) 52, ⟨7, .st (.t 52) (.t 50) 1, none, none, []⟩]) (.reg [rI 0 (.mv (.t 2)) 53, rI 1 (.mv (.t 2)) 54, rI 2 (.nc (.t 54)) 55, rI 3 (.fa (.t 55) 12) 56, rI 5 (.mv (.t 4)) 58, rI 6 (.mv (.t 4)) 59, rI 7 (.bin .add (.t 59) (.k (.int .i64 1))) 60, rI 8 (.mv (.t 4)) 61, rI 9 (.bin .add (.t 61) (.k (.int .i64 1))) 62, rI 10 (.mv (.t 0)) 63, rI 11 (.mv (.t 2)) 64, rI 13 (.mv (.t 4)) 66, rI 4 (.ld none (.t 56)) 57, ⟨12, .call 111 [.t 63, .t 64], some 65, none, [.ld 57 none (.t 56)]⟩, rI 14 (.ias (.t 65) (.t 66) 5) 67, rI 15 (.fa (.t 67) 4) 68, rI 16 (.ld none (.t 68)) 69, rI 17 (.bin .add (.t 62) (.t 69)) 70, rI 18 (.bld [.int .i64 0, .int .i64 0, .int .i64 0, .int .i64 0, .slc none 0 0, .bool false, .int .i64 0, .int .i64 0] [(0, 1, .k (.int .i64 13)), (1, 1, .t 58), (2, 1, .t 60), (3, 1, .t 70)]) 71, rI 19 (.bsl [.int .i64 0, .int .i64 0, .int .i64 0, .int .i64 0, .slc none 0 0, .bool false, .int .i64 0, .int .i64 0] 1 [(0, .t 71)]) 72, rI 20 (.app 8 80 (.t 57) (.t 72)) 73, rI 21 (.nc (.t 53)) 74, rI 22 (.fa (.t 74) 12) 75, ⟨23, .st (.t 75) (.t 73) 1, none, none, []⟩]))))))))⟩
theorem p114 : prog 114 = some r114 := by kernel_rfl



section
variable {E : IEnv} {L L' : Lay IR} {S S' : PM} {μ μ' : Mem}

theorem turn_tasks {to how : Int} (h : S.turn to how = some S') : S'.tasks.length = S.tasks.length := by
 unfold PM.turn at h
 obtain ⟨t, hi, h⟩ := Option.bind_eq_some_iff.1 h
 unfold PM.tell at h
 split at h
 ·simp only [Option.some.injEq] at h
  subst h
  unfold PM.hooked
  split <;> simp [PM.put]
 ·cases h

theorem setReg_ask {t t' : PTk} {a v : Int} (h : t.setReg a v = some t') : t'.ask = t.ask ∧ t'.frames = t.frames := by
 unfold PTk.setReg at h
 split at h
 ·simp only [Option.some.injEq] at h; subst h; exact ⟨rfl, rfl⟩
 ·cases h

theorem finish_ok (h : Rep E L S μ) {way num : Int} (hs : S.finish way num = some S') :
  Ret 148 [pt E.m 0, .c (.int .i64 way), .c (.int .i64 num)] μ fun v μ' => After E L S μ S' μ' := by
 unfold PM.finish at hs
 obtain ⟨t, hn, hs⟩ := Option.bind_eq_some_iff.1 hs
 obtain ⟨k, hk, hget, hfl, hnow⟩ := now_ok h hn
 have hreg := h.regs t (List.mem_of_getElem? hget)
 obtain ⟨μ1, e1, h1, k1⟩ := h.setTask (t' := { t with state := 4 }) hget (o := 1) (new := [.int .i64 4]) rfl (by simp) rfl hreg
 have hm1 := h1.mfacts
 have hrun : (S.put k { t with state := 4 }).run = k := hk
 refine Ret_of p148 (by simp [r148]) ?_
 simp only [rI, r148, frOf_3]
 simp only [w1, w2, ↓reduceIte, zE]
 refine R_calls (l := [pt E.m 0]) (by simp only [w1, w2, ↓reduceIte]) hnow ?_
 rintro v μ0 ⟨rfl, rfl⟩
 rw [hrun] at hm1
 rw [hk] at hs
 simp only [w1, w2, zH, zI, ↓reduceIte, zA, zE, e1, hm1]
 by_cases hz : (k : Int) = 0
 ·rw [if_pos hz] at hs
  simp only [Option.some.injEq] at hs
  have hb : ((k : Int) == 0) = true := by simpa using hz
  obtain ⟨μ2, e2, h2, k2⟩ := h1.setMach (S' := { S.put k { t with state := 4 } with over := true }) (o := 10) (new := [.bool true]) rfl (by simp) rfl rfl rfl rfl rfl
  obtain ⟨μ3, e3, h3, k3⟩ := h2.setMach (S' := { S.put k { t with state := 4 } with over := true, num := num }) (o := 7) (new := [.int .i64 num]) rfl (by simp) rfl rfl rfl rfl rfl
  by_cases hw : way = 2
  ·rw [if_pos hw] at hs
   subst hs
   have hwb : (way == 2) = true := by simpa using hw
   obtain ⟨μ4, e4, h4, k4⟩ := h3.setMach (S' := { S.put k { t with state := 4 } with over := true, num := num, code := 1 }) (o := 5) (new := [.int .i64 1]) rfl (by simp) rfl rfl rfl rfl rfl
   simp only [w1, w2, zH, zI, ↓reduceIte, zA, zB, zE, hb, e2, e3, hwb, e4, aRet, aRes, toCells]
   exact ⟨_, rfl, L, h4, Stay.refl, k1.trans (k2.trans (k3.trans k4))⟩
  ·rw [if_neg hw] at hs
   subst hs
   have hwb : (way == 2) = false := beq_ff hw
   simp only [w1, w2, zH, zI, ↓reduceIte, zA, zB, zE, hb, e2, e3, hwb, aRet, aRes, toCells]
   exact ⟨_, rfl, L, h3, Stay.refl, k1.trans (k2.trans k3)⟩
 ·rw [if_neg hz] at hs
  have hb : ((k : Int) == 0) = false := beq_ff hz
  obtain ⟨u0, hw0, hs⟩ := Option.bind_eq_some_iff.1 hs
  obtain ⟨S2, ht, hs⟩ := Option.bind_eq_some_iff.1 hs
  obtain ⟨u, hu, hs⟩ := Option.bind_eq_some_iff.1 hs
  obtain ⟨u1, hr1, hs⟩ := Option.bind_eq_some_iff.1 hs
  obtain ⟨u2, hr2, hs⟩ := Option.map_eq_some_iff.1 hs
  subst hs
  have hg1 : (S.put k { t with state := 4 }).tasks[k]? = some { t with state := 4 } := put_at hget
  obtain ⟨μ2, e2, h2, k2⟩ := h1.setTask (t' := { t with state := 4, waiter := -1 }) hg1 (o := 6) (new := [.int .i64 (-1)]) rfl (by simp) rfl hreg
  rw [put_put] at h2
  have hm2 := h2.mfacts
  have htf := h1.tfacts hg1
  have htf2 := h2.tfacts (put_at hget)
  obtain ⟨w, hw, hgw⟩ := idx_some hw0
  obtain ⟨w', hw', hgu⟩ := idx_some hu
  simp only at hw hw'
  obtain rfl : w = w' := by omega
  rw [hw] at htf ht
  obtain ⟨tb, tp, e3, e4⟩ := h2.tasksAt hgw
  have fin : ∀ (how v flag : Int) (ht : (S.put k { t with state := 4, waiter := -1 }).turn w how = some S2) (hr1 : u.setReg u.ask.a v = some u1) (hr2 : u1.setReg 3 flag = some u2) (fr : Fr) (s : List It) (Q : Fr → Mem → Prop),
    (∀ fr μ, After E L S μ0 (S2.put t.waiter u2) μ → Q fr μ) → fr 64 = pt E.m 0 → fr 65 = .c (.int .i64 w) → fr 66 = .c (.int .i64 how) → fr 8 = pt (L.id (.task w)) 0 → fr 9 = .c (.int .i64 v) → fr 10 = .c (.int .i64 flag) →
    R (.o ⟨3, .call 143 [.t 64, .t 65, .t 66], some 67, none, []⟩ :: .c 
     (.seq
     (.reg [⟨0, .mv (.t 8), some 68, none, []⟩,
      ⟨1, .mv (.t 8), some 69, none, []⟩,
      ⟨2, .nc (.t 69), some 70, none, []⟩,
      ⟨3, .fa (.t 70) 7, some 71, none, []⟩,
      ⟨4, .fa (.t 71) 1, some 72, none, []⟩,
      ⟨6, .mv (.t 9), some 74, none, []⟩,
      ⟨7, .nc (.t 68), some 75, none, []⟩,
      ⟨8, .fa (.t 75) 2, some 76, none, []⟩,
      ⟨5, .ld none (.t 72), some 73, none, []⟩,
      ⟨9, .iaa (.t 76) (.t 73) 4 1, some 77, none, []⟩,
      ⟨10, .st (.t 77) (.t 74) 1, none, none, []⟩])
     (.reg [⟨0, .mv (.t 8), some 78, none, []⟩,
      ⟨1, .mv (.t 10), some 79, none, []⟩,
      ⟨2, .nc (.t 78), some 80, none, []⟩,
      ⟨3, .fa (.t 80) 2, some 81, none, []⟩,
      ⟨4, .iaa (.t 81) (.k (.int .i64 3)) 4 1, some 82, none, []⟩,
      ⟨5, .st (.t 82) (.t 79) 1, none, none, []⟩])) :: []) fr μ2 Q := by
   intro how v flag ht hr1 hr2 fr s Q hQ f64 f65 f66 f8 f9 f10
   refine R_calls (l := [pt E.m 0, .c (.int .i64 w), .c (.int .i64 how)]) (by simp only [w1, w2, f64, f65, f66]) (turn_ok h2 ht) ?_
   rintro v' μ3 ⟨L3, h3, s3, k3⟩
   have hlt : w < S.tasks.length := by
    have := (List.getElem?_eq_some_iff.1 hgw).1
    simpa [PM.put] using this
   have hid : L3.id (.task w) = L.id (.task w) := s3.2 w (by simpa [PM.put] using hlt)
   obtain ⟨ha1, μ4, e5, h4, k4⟩ := h3.setReg hgu hr1
   obtain ⟨ha2, μ5, e6, h5, k5⟩ := h4.setReg (put_at hgu) hr2
   have htu := h3.tfacts hgu
   rw [put_put] at h5
   rw [hid] at e5 e6 htu
   simp only [w1, w2, zH, zI, ↓reduceIte, zA, zB, f8, htu, f9, f10, viaa_in ha1, viaa_in ha2, e5, e6]
   refine hQ _ _ ⟨L3, by rw [hw]; exact h5, ?_, k1.trans (k2.trans (k3.trans (k4.trans k5)))⟩
   exact s3.put
  simp only [w1, w2, zH, zI, ↓reduceIte, zA, zE, hb, htf, e2, hm2, e3, e4]
  by_cases hw2 : way = 2
  ·have hwb : (way == 2) = true := by simpa using hw2
   have hw3 : ¬ way = 3 := by omega
   rw [if_neg hw3] at hr1
   rw [if_pos hw2] at ht hr2
   simp only [w1, w2, ↓reduceIte, zA, zE, hwb]
   refine fin _ _ _ ht hr1 hr2 _ [] _ (fun fr μ ha => ⟨_, rfl, ha⟩) ?_ ?_ ?_ ?_ ?_ ?_ <;> simp only [w1, ↓reduceIte, zA, zE]
  ·have hwb : (way == 2) = false := beq_ff hw2
   rw [if_neg hw2] at ht hr2
   by_cases hw3 : way = 3
   ·have hwb3 : (way == 3) = true := by simpa using hw3
    rw [if_pos hw3] at ht hr2 hr1
    by_cases hd : t.drops = true
    ·rw [if_pos hd] at hr1 hr2
     simp only [w1, w2, ↓reduceIte, zA, zE, hwb, hwb3, htf2, hd]
     refine fin _ _ _ ht hr1 hr2 _ [] _ (fun fr μ ha => ⟨_, rfl, ha⟩) ?_ ?_ ?_ ?_ ?_ ?_ <;> simp only [w1, ↓reduceIte, zA, zE]
    ·rw [if_neg hd] at hr1 hr2
     have hd' : t.drops = false := by simpa using hd
     simp only [w1, w2, ↓reduceIte, zA, zE, hwb, hwb3, htf2, hd']
     refine fin _ _ _ ht hr1 hr2 _ [] _ (fun fr μ ha => ⟨_, rfl, ha⟩) ?_ ?_ ?_ ?_ ?_ ?_ <;> simp only [w1, ↓reduceIte, zA, zE]
   ·have hwb3 : (way == 3) = false := beq_ff hw3
    rw [if_neg hw3] at ht hr2 hr1
    simp only [w1, w2, ↓reduceIte, zA, zE, hwb, hwb3]
    refine fin _ _ _ ht hr1 hr2 _ [] _ (fun fr μ ha => ⟨_, rfl, ha⟩) ?_ ?_ ?_ ?_ ?_ ?_ <;> simp only [w1, ↓reduceIte, zA, zE]

theorem beq_tt {a b : Int} (h : a = b) : (a == b) = true := by simpa using h

theorem tell_tasks {kind how num : Int} (h : S.tell kind how num = some S') : S'.tasks = S.tasks ∧ S'.run = S.run := by
 unfold PM.tell at h
 split at h
 ·simp only [Option.some.injEq] at h
  subst h
  unfold PM.hooked
  split <;> exact ⟨rfl, rfl⟩
 ·cases h

theorem close_ok (h : Rep E L S μ) (hs : S.close E.plan = some S') : Ret 141 [pt E.m 0] μ fun v μ' => After E L S μ S' μ' := by
 unfold PM.close at hs
 obtain ⟨t, hn, hs⟩ := Option.bind_eq_some_iff.1 hs
 obtain ⟨k, hk, hget, hfl, hnow⟩ := now_ok h hn
 cases hf : t.frames with
 | nil => rw [hf] at hs; cases hs
 | cons f r =>
 rw [hf] at hs
 simp only at hs
 rw [hk] at hs
 refine Ret_of p141 (by simp [r141]) ?_
 simp only [rI, r141, frOf_1]
 simp only [w1, w2, ↓reduceIte]
 refine R_calls (l := [pt E.m 0]) (by simp only [w1, w2, ↓reduceIte]) hnow ?_
 rintro v μ0 ⟨rfl, rfl⟩
 simp only [w1, w2, ↓reduceIte]
 refine R_calls (l := [pt (L.id (.task k)) 0]) (by simp only [w1, w2, ↓reduceIte]) (top_ok h hget hf hfl) ?_
 rintro v μ1 ⟨rfl, rfl⟩
 obtain ⟨_, _, e1⟩ := h.topAt hget hf
 have es : (μ1.new [.int .i64 0, .int .i64 0, .int .i64 0, .int .i64 0, .slc none 0 0, .bool false, .int .i64 0, .int .i64 0] 0).st μ1.next 0 (frow L k r.length f) = some (μ1.new (frow L k r.length f) 0) := new_st0 rfl
 have h2 : Rep E L S (μ1.new (frow L k r.length f) 0) := h.tmp
 have k2 : Keep L μ1 L (μ1.new (frow L k r.length f) 0) := Keep.tmp
 have hf2 : Free L μ1.next := h.free (Nat.le_refl _)
 have hn2 : μ1.next < (μ1.new (frow L k r.length f) 0).next := Nat.lt_succ_self _
 have hl : (μ1.new (frow L k r.length f) 0).ld none μ1.next 0 = some (.c (.int .i64 f.op)) ∧ (μ1.new (frow L k r.length f) 0).ld none μ1.next 1 = some (.c (.int .i64 f.hd)) ∧
   (μ1.new (frow L k r.length f) 0).ld none μ1.next 6 = some (.c (.int .i64 f.way)) ∧ (μ1.new (frow L k r.length f) 0).ld none μ1.next 7 = some (.c (.int .i64 f.num)) := ⟨new_ld0 rfl, new_ld0 rfl, new_ld0 rfl, new_ld0 rfl⟩
 have hfr : (frow L k r.length f).length = 8 := rfl
 simp only [w1, w2, zH, zI, ↓reduceIte, zA, e1, hfr, es]
 generalize μ1.new (frow L k r.length f) 0 = μ2 at *
 have htf := h2.tfacts hget
 have hcf : icon E L S (.frames k) = some (8, cat (frow L k) 0 t.frames.reverse) := by simp only [icon, hget, Option.map_some]
 have hlf : (cat (frow L k) 0 t.frames.reverse).length = t.frames.length * 8 := by rw [cat_length (frow_len L k)]; simp
 obtain ⟨fa, fc, hfs⟩ := h2.has.scf hcf hlf (by omega)
 have hup : ∀ kd : IntKind, aslc 8 (.c (L.sc (.frames k) t.frames.length)) none (some (.c (.int kd (r.length : Int)))) = some (.c (L.sc (.frames k) r.length)) := fun kd => h2.has.upto hcf hlf (by omega) (by rw [hf]; simp)
 have hw : IntKind.i64.wrap ((t.frames.length : Int) - 1) = ((r.length : Nat) : Int) := by
  unfold roomy at hfl
  rw [hf] at hfl ⊢
  simp only [List.length_cons] at hfl ⊢
  rw [small (by omega)]; omega
 rw [hfs] at htf hup
 obtain ⟨μ3, e3, h3, k3⟩ := h2.pop hget hf
 have hg3 : (S.put k { t with frames := r }).tasks[k]? = some { t with frames := r } := put_at hget
 have htf3 := h3.tfacts hg3
 obtain ⟨ga, gc, hgs⟩ := h3.has.scf (r := .frames k) (sz := 8) (n := r.length) (cs := cat (frow L k) 0 r.reverse) (by simp only [icon, hg3, Option.map_some]) (by rw [cat_length (frow_len L k)]; simp) (by omega)
 simp only [hgs] at htf3
 have hl3 : μ3.ld none μ1.next 0 = some (.c (.int .i64 f.op)) ∧ μ3.ld none μ1.next 1 = some (.c (.int .i64 f.hd)) ∧
   μ3.ld none μ1.next 6 = some (.c (.int .i64 f.way)) ∧ μ3.ld none μ1.next 7 = some (.c (.int .i64 f.num)) :=
  ⟨(k3.ld hn2 hf2).trans hl.1, (k3.ld hn2 hf2).trans hl.2.1, (k3.ld hn2 hf2).trans hl.2.2.1, (k3.ld hn2 hf2).trans hl.2.2.2⟩
 have kk := k2.trans k3
 have hn3 : μ1.next < μ3.next := Nat.lt_of_lt_of_le hn2 k3.next
 simp only [w1, w2, htf, hw, hup, e3, htf3]
 have st : Stay S L L := Stay.refl
 have hb0 : (((0 : Nat) : Int) == 0) = true := rfl
 cases r with
 | nil =>
  simp only at hs
  simp only [w1, w2, ↓reduceIte, zA, hb0, hl3]
  refine R_calls (l := [pt E.m 0, .c (.int .i64 f.way), .c (.int .i64 f.num)]) (by simp only [w1, w2, ↓reduceIte, zA]) (finish_ok h3 hs) ?_
  rintro v μ4 ⟨L4, h4, s4, k4⟩
  simp only [w1, w2, aRet, aRes, toCells]
  exact ⟨_, rfl, L4, h4, s4.put, kk.trans k4⟩
 | cons up r' =>
  simp only at hs
  have hb1 : (((r'.length + 1 : Nat) : Int) == 0) = false := beq_ff (by omega)
  simp only [w1, w2, ↓reduceIte, zA, hb1]
  refine R_calls (l := [pt (L.id (.task k)) 0]) (by simp only [w1, w2, ↓reduceIte]) (top_ok h3 hg3 rfl (by rw [hf] at hfl; simp only [List.length_cons] at hfl ⊢; omega)) ?_
  rintro v μ4 ⟨rfl, rfl⟩
  simp only [w1, w2, ↓reduceIte, zA, hl3]
  obtain ⟨_, hrow, _⟩ := h3.topAt hg3 rfl
  by_cases h13 : f.op = 13
  ·rw [if_pos h13] at hs
   simp only [w1, w2, ↓reduceIte, zA, beq_tt h13, hl3]
   by_cases hw3 : f.way = 3
   ·rw [if_pos hw3] at hs
    simp only [Option.some.injEq] at hs
    subst hs
    obtain ⟨μ5, e5, h5, k5⟩ := h3.setTop hg3 rfl (f' := { up with way := 3 }) (k := 6) (new := [.int .i64 3]) rfl (by simp) rfl
    rw [put_put] at h5
    simp only [w1, w2, zH, zI, ↓reduceIte, zA, beq_tt hw3, e5, aRet, aRes, toCells]
    rw [put_put]
    exact ⟨_, rfl, L, h5, st, kk.trans k5⟩
   ·rw [if_neg hw3] at hs
    have r6 := hrow 6 _ rfl
    simp only [w1, w2, ↓reduceIte, zA, beq_ff hw3, hl3]
    by_cases hw2 : f.way = 2
    ·simp only [w1, w2, ↓reduceIte, zA, beq_tt hw2, r6]
     by_cases hu3 : up.way = 3
     ·rw [if_pos ⟨hw2, hu3⟩] at hs
      simp only [Option.some.injEq] at hs
      subst hs
      obtain ⟨μ5, e5, h5, k5⟩ := h3.setTask (t' := { t with frames := up :: r', drops := true }) hg3 (o := 14) (new := [.bool true]) rfl (by simp) rfl (h.regs t (List.mem_of_getElem? hget))
      obtain ⟨μ6, e6, h6, k6⟩ := h5.setTask (t' := { t with frames := up :: r', drops := true, drop := f.num }) (put_at hg3) (o := 15) (new := [.int .i64 f.num]) rfl (by simp) rfl (h.regs t (List.mem_of_getElem? hget))
      rw [put_put, put_put] at h6
      simp only [w1, w2, ↓reduceIte, zA, beq_tt hu3, hl3]
      refine R_stre (by simp only [w1, ↓reduceIte, zA]) (by simp only [w1, w2, zH, zI]) e5 ?_ ?_
      ·simp only [List.all_cons, List.all_nil, Bool.and_true, Re.holds, w1, ↓reduceIte, zA, (k5.ld hn3 hf2).trans hl3.2.2.2, beq_self_eq_true]
      simp only [w1, w2, zH, zI, ↓reduceIte, zA, e6, aRet, aRes, toCells]
      rw [put_put]
      exact ⟨_, rfl, L, h6, st, kk.trans (k5.trans k6)⟩
     ·rw [if_neg (fun hh => hu3 hh.2), if_pos hw2] at hs
      simp only [Option.some.injEq] at hs
      subst hs
      obtain ⟨μ5, e5, h5, k5⟩ := h3.setTop hg3 rfl (f' := { up with way := 2 }) (k := 6) (new := [.int .i64 2]) rfl (by simp) rfl
      obtain ⟨μ6, e6, h6, k6⟩ := h5.setTop (put_at hg3) rfl (f' := { up with way := 2, num := f.num }) (k := 7) (new := [.int .i64 f.num]) rfl (by simp) rfl
      rw [put_put, put_put] at h6
      simp only [w1, w2, ↓reduceIte, zA, beq_ff hu3, hl3, beq_tt hw2]
      refine R_stre (by simp only [w1, ↓reduceIte, zA]) (by simp only [w1, w2, zH, zI]) e5 ?_ ?_
      ·simp only [List.all_cons, List.all_nil, Bool.and_true, Re.holds, w1, ↓reduceIte, zA, (k5.ld hn3 hf2).trans hl3.2.2.2, beq_self_eq_true]
      simp only [w1, w2, zH, zI, ↓reduceIte, zA, e6, aRet, aRes, toCells]
      rw [put_put]
      exact ⟨_, rfl, L, h6, st, kk.trans (k5.trans k6)⟩
    ·rw [if_neg (fun hh => hw2 hh.1), if_neg hw2] at hs
     simp only [Option.some.injEq] at hs
     subst hs
     simp only [w1, w2, ↓reduceIte, zA, beq_ff hw2, hl3, aRet, aRes, toCells]
     exact ⟨_, rfl, L, h3, st, kk⟩
  ·rw [if_neg h13] at hs
   simp only [w1, w2, ↓reduceIte, zA, beq_ff h13, hl3]
   by_cases hw0 : f.way = 0
   ·by_cases h14 : f.op = 14
    ·rw [if_pos ⟨hw0, h14⟩] at hs
     simp only [w1, w2, ↓reduceIte, zA, beq_tt hw0, beq_tt h14, hl3]
     refine R_calls (l := [pt E.m 0, pt (L.id (.task k)) 0, .c (.int .i64 f.hd)]) (by simp only [w1, w2, ↓reduceIte, zA]) (look_ok h3 hs) ?_
     rintro v μ5 ⟨L5, h5, s5, k5⟩
     simp only [w1, w2, aRet, aRes, toCells]
     exact ⟨_, rfl, L5, h5, s5.put, kk.trans k5⟩
    ·rw [if_neg (fun hh => h14 hh.2), if_pos hw0] at hs
     simp only [Option.some.injEq] at hs
     subst hs
     simp only [w1, w2, ↓reduceIte, zA, beq_tt hw0, beq_ff h14, hl3, aRet, aRes, toCells]
     exact ⟨_, rfl, L, h3, st, kk⟩
   ·rw [if_neg (fun hh => hw0 hh.1), if_neg hw0] at hs
    simp only [w1, w2, ↓reduceIte, zA, beq_ff hw0, hl3]
    by_cases hc : f.way = 2 ∧ f.op = 11
    ·rw [if_pos hc] at hs
     obtain ⟨S2, ht, hs⟩ := Option.bind_eq_some_iff.1 hs
     obtain ⟨t2, hi, hs⟩ := Option.bind_eq_some_iff.1 hs
     obtain ⟨l, hsl, hs⟩ := Option.bind_eq_some_iff.1 hs
     obtain ⟨x, hx, hs⟩ := Option.bind_eq_some_iff.1 hs
     obtain ⟨t3, hr3, hs⟩ := Option.map_eq_some_iff.1 hs
     subst hs
     obtain ⟨k', hk', hg2⟩ := idx_some hi
     obtain rfl : k = k' := by omega
     obtain ⟨j, hj, hjx⟩ := idx_some hx
     simp only [w1, w2, ↓reduceIte, zA, beq_tt hc.1, beq_tt hc.2, hl3]
     refine R_calls (l := [pt E.m 0, .c (.int .i64 4), .c (.int .i64 0), .c (.int .i64 f.num)]) (by simp only [w1, w2, ↓reduceIte, zA]) (tell_ok h3 ht) ?_
     rintro v μ5 ⟨L5, h5, s5, k5⟩
     have hl5 : μ5.ld none μ1.next 1 = some (.c (.int .i64 f.hd)) ∧ μ5.ld none μ1.next 7 = some (.c (.int .i64 f.num)) := ⟨(k5.ld hn3 hf2).trans hl3.2.1, (k5.ld hn3 hf2).trans hl3.2.2.2⟩
     obtain ⟨c, hcr, hst⟩ := steps_ok h5 hg2 hsl
     have hid : L5.id (.task k) = L.id (.task k) := s5.put.2 k (List.getElem?_eq_some_iff.1 hget).1
     rw [hid] at hst
     simp only [w1, w2, ↓reduceIte, zA, hl5]
     refine R_callre (l := [pt E.m 0, pt (L.id (.task k)) 0]) (by simp only [w1, w2, ↓reduceIte, zA]) hst ?_
     rintro v μ6 ⟨rfl, rfl⟩
     refine ⟨by simp only [List.all_cons, List.all_nil, Re.holds, w1, ↓reduceIte, zA, hl5, beq_self_eq_true, Bool.and_self], ?_⟩
     rw [hj] at hl5
     obtain ⟨b, o, a1, a2, a3, a4⟩ := h5.stepAt hcr hjx
     have a5 := a4 1 (by omega)
     simp only [scells, List.getElem?_cons_succ, List.getElem?_cons_zero, Option.map_some] at a5
     obtain ⟨ha, μ7, e7, h7, k7⟩ := h5.setReg hg2 hr3
     rw [hid] at e7
     simp only [w1, w2, zH, zI, ↓reduceIte, zA, hj, a1, a5, viaa_in ha, e7, aRet, aRes, toCells]
     exact ⟨_, rfl, L5, h7, s5.put, kk.trans (k5.trans k7)⟩
    ·rw [if_neg hc] at hs
     simp only [Option.some.injEq] at hs
     subst hs
     obtain ⟨μ5, e5, h5, k5⟩ := h3.setTop hg3 rfl (f' := { up with leaving := true }) (k := 5) (new := [.bool true]) rfl (by simp) rfl
     obtain ⟨μ6, e6, h6, k6⟩ := h5.setTop (put_at hg3) rfl (f' := { up with leaving := true, way := f.way }) (k := 6) (new := [.int .i64 f.way]) rfl (by simp) rfl
     obtain ⟨μ7, e7, h7, k7⟩ := h6.setTop (put_at (put_at hg3)) rfl (f' := { up with leaving := true, way := f.way, num := f.num }) (k := 7) (new := [.int .i64 f.num]) rfl (by simp) rfl
     rw [put_put, put_put, put_put] at h7
     have k56 := k5.trans k6
     have fin : ∀ (fr : Fr) (Q : Fr → Mem → Prop), (∀ fr μ, After E L S μ1 ((S.put k { t with frames := up :: r' }).put k { t with frames := { up with leaving := true, way := f.way, num := f.num } :: r' }) μ → Q fr μ) →
       fr 88 = pt (L.id (.frames k)) (r'.length * 8 + 5) → fr 81 = pt (L.id (.frames k)) (r'.length * 8) → fr 82 = pt (L.id (.frames k)) (r'.length * 8) → fr 83 = pt μ1.next 6 → fr 85 = pt μ1.next 7 → fr 84 = .c (.int .i64 f.way) → fr 86 = .c (.int .i64 f.num) →
       R [.o ⟨9, .st (.t 88) (.k (.bool true)) 1, none, none, [.ld 84 none (.t 83), .ld 86 none (.t 85)]⟩,
        .o ⟨10, .nc (.t 81), some 89, none, []⟩,
        .o ⟨11, .fa (.t 89) 6, some 90, none, []⟩,
        .o ⟨12, .st (.t 90) (.t 84) 1, none, none, [.ld 86 none (.t 85)]⟩,
        .o ⟨13, .nc (.t 82), some 91, none, []⟩,
        .o ⟨14, .fa (.t 91) 7, some 92, none, []⟩,
        .o ⟨15, .st (.t 92) (.t 86) 1, none, none, []⟩, .blk 1] fr μ4 Q := by
      intro fr Q hQ f88 f81 f82 f83 f85 f84 f86
      refine R_stre (by simp only [w1, f88]) (by simp only [w1, w2, zH, zI]) e5 ?_ ?_
      ·simp only [List.all_cons, List.all_nil, Re.holds, w1, f83, f84, f85, f86, (k5.ld hn3 hf2).trans hl3.2.2.2, (k5.ld hn3 hf2).trans hl3.2.2.1, beq_self_eq_true, Bool.and_self]
      simp only [w1, ↓reduceIte, f81]
      refine R_stre (i := L.id (.frames k)) (o := r'.length * 8 + 6) (by simp only [w1, ↓reduceIte]) (by simp only [w1, w2, zH, zI, ↓reduceIte, zA, f84]) (by simp only [w1, zI, ↓reduceIte, zA, f84]; exact e6) ?_ ?_
      ·simp only [List.all_cons, List.all_nil, Bool.and_true, Re.holds, w1, ↓reduceIte, zA, f85, f86, (k56.ld hn3 hf2).trans hl3.2.2.2, beq_self_eq_true]
      simp only [w1, w2, zH, zI, ↓reduceIte, zA, f82, f86, e7]
      refine hQ _ _ ⟨L, ?_, st, kk.trans (k5.trans (k6.trans k7))⟩
      rw [put_put]; exact h7
     by_cases hw2 : f.way = 2
     ·have h11 : ¬ f.op = 11 := fun hh => hc ⟨hw2, hh⟩
      simp only [w1, w2, ↓reduceIte, zA, beq_tt hw2, beq_ff h11, hl3]
      refine fin _ _ (fun fr μ ha => ⟨_, rfl, ha⟩) ?_ ?_ ?_ ?_ ?_ ?_ ?_ <;> simp only [w1, ↓reduceIte, zA]
     ·simp only [w1, w2, ↓reduceIte, zA, beq_ff hw2, hl3]
      refine fin _ _ (fun fr μ ha => ⟨_, rfl, ha⟩) ?_ ?_ ?_ ?_ ?_ ?_ ?_ <;> simp only [w1, ↓reduceIte, zA]

theorem aidx_last {ι : Type} [DecidableEq ι] {L : Lay ι} {C : Con ι} {lo : Nat} {μ : Mem} (h : Has L C lo μ) {r : ι} {cs : List Cell} {x : Cell} (e : C r = some (1, cs ++ [x])) :
  ∃ b o, (∀ kd, aidx (.c (L.sc r (cs.length + 1))) (.c (.int kd (cs.length : Int))) 1 = some (pt b o)) ∧ μ.ld none b o = some (.c x) := by
 have hon := h.on e (.inr (by simp))
 refine ⟨L.id r, cs.length, fun kd => ?_, h.ldc e (by simp)⟩
 rw [Lay.sc_slc hon, aidx_in (by omega)]
 simp

theorem leave_ok (h : Rep E L S μ) (hs : S.leave E.plan = some S') : Ret 114 [pt E.m 0] μ fun v μ' => After E L S μ S' μ' := by
 unfold PM.leave at hs
 obtain ⟨t, hn, hs⟩ := Option.bind_eq_some_iff.1 hs
 obtain ⟨k, hk, hget, hfl, hnow⟩ := now_ok h hn
 cases hf : t.frames with
 | nil => rw [hf] at hs; cases hs
 | cons f r =>
 rw [hf] at hs
 simp only at hs
 rw [hk] at hs
 refine Ret_of p114 (by simp [r114]) ?_
 simp only [rI, r114, frOf_1]
 simp only [w1, w2, ↓reduceIte]
 refine R_calls (l := [pt E.m 0]) (by simp only [w1, w2, ↓reduceIte]) hnow ?_
 rintro v μ0 ⟨rfl, rfl⟩
 simp only [w1, w2, ↓reduceIte]
 refine R_calls (l := [pt (L.id (.task k)) 0]) (by simp only [w1, w2, ↓reduceIte]) (top_ok h hget hf hfl) ?_
 rintro v μ1 ⟨rfl, rfl⟩
 obtain ⟨_, hrow, _⟩ := h.topAt hget hf
 have r4 := hrow 4 _ rfl
 have hcm : icon E L S (.met k r.length) = some (1, cat irow 0 f.met.reverse) := by simp only [icon, hget, Option.bind_some, hf, get_top, Option.map_some]
 obtain ⟨ma, mc, hms⟩ := h.has.scf hcm (n := f.met.length) (by rw [cat_length irow_len]; simp) (by omega)
 rw [hms] at r4
 simp only [w1, w2, ↓reduceIte, r4]
 cases hm : f.met with
 | nil =>
  rw [hm] at hs
  simp only at hs
  have hb0 : (((0 : Nat) : Int) == 0) = true := rfl
  simp only [w1, w2, ↓reduceIte, zA, hb0]
  refine R_calls (l := [pt E.m 0]) (by simp only [w1, w2, ↓reduceIte]) (close_ok h hs) ?_
  rintro v μ2 ⟨L2, h2, s2, k2⟩
  simp only [w1, w2, aRet, aRes, toCells]
  exact ⟨_, rfl, L2, h2, s2, k2⟩
 | cons hd met =>
  rw [hm] at hs
  simp only at hs
  have hb1 : (((met.length + 1 : Nat) : Int) == 0) = false := beq_ff (by omega)
  simp only [w1, w2, ↓reduceIte, zA, hb1]
  refine R_calls (l := [pt E.m 0]) (by simp only [w1, w2, ↓reduceIte]) (tick_ok h) ?_
  rintro v μ2 ⟨rfl, h2, k2⟩
  by_cases hb : S.tick.1 = false
  ·rw [if_pos hb] at hs
   simp only [Option.some.injEq] at hs
   subst hs
   simp only [w1, w2, ↓reduceIte, hb, aRet, aRes, toCells]
   exact ⟨_, rfl, L, h2, Stay.refl, k2⟩
  ·rw [if_neg hb] at hs
   have hb' : S.tick.1 = true := by simpa using hb
   split at hs
   ·cases hs
   rename_i hml
   obtain ⟨l, hsl, hs⟩ := Option.bind_eq_some_iff.1 hs
   obtain ⟨x, hx, hs⟩ := Option.bind_eq_some_iff.1 hs
   obtain ⟨t2, hp2, hs⟩ := Option.map_eq_some_iff.1 hs
   subst hs
   have hget2 : S.tick.2.tasks[k]? = some t := by rw [tick_tasks]; exact hget
   obtain ⟨_, hrow2, _⟩ := h2.topAt hget2 hf
   have q4 := hrow2 4 _ rfl
   rw [hm] at q4
   simp only [List.length_cons] at q4
   have hcm2 : icon E L S.tick.2 (.met k r.length) = some (1, cat irow 0 met.reverse ++ [.int .i64 hd]) := by
    simp only [icon, hget2, Option.bind_some, hf, get_top, Option.map_some]
    simp only [hm, List.reverse_cons, cat_append, cat, irow, List.append_nil]
   have hml2 : (cat irow 0 met.reverse).length = met.length := by rw [cat_length irow_len]; simp
   obtain ⟨b, o, a1, a2⟩ := aidx_last h2.has hcm2
   rw [hml2] at a1
   have a3 : ∀ kd : IntKind, aslc 1 (.c (L.sc (.met k r.length) (met.length + 1))) none (some (.c (.int kd (met.length : Int)))) = some (.c (L.sc (.met k r.length) met.length)) := fun kd =>
    h2.has.upto hcm2 (by rw [List.length_append, hml2]; simp) (by omega) (by omega)
   obtain ⟨na, nc, hns⟩ := h2.has.scf hcm2 (n := met.length + 1) (by rw [List.length_append, hml2]; simp) (by omega)
   rw [hns] at q4 a1 a3
   have hw : IntKind.i64.wrap (((met.length + 1 : Nat) : Int) - 1) = (met.length : Int) := by
    unfold roomy at hml
    rw [small (by omega)]; omega
   obtain ⟨μ3, e3, h3, k3⟩ := h2.popMet hget2 hf hm
   have hg3 : (S.tick.2.put k { t with frames := { f with met := met } :: r }).tasks[k]? = some { t with frames := { f with met := met } :: r } := put_at hget2
   have htf3 := h3.tfacts hg3
   obtain ⟨μ4, e4, h4, k4⟩ := h3.setTask (t' := { t with frames := { f with met := met } :: r, begun := wr64 (t.begun + 1) }) hg3 (o := 17) (new := [.int .i64 (wr64 (t.begun + 1))]) rfl (by simp) rfl (h.regs t (List.mem_of_getElem? hget))
   have hg4 := put_at (t' := { t with frames := { f with met := met } :: r, begun := wr64 (t.begun + 1) }) hg3
   have htf4 := h4.tfacts hg4
   obtain ⟨c, hcr, hst⟩ := steps_ok h4 hg4 hsl
   obtain ⟨j, hj, hjx⟩ := idx_some hx
   obtain ⟨b', o', b1, b2, b3, b4⟩ := h4.stepAt hcr hjx
   have b5 := b4 4 (by omega)
   simp only [scells, List.getElem?_cons_succ, List.getElem?_cons_zero, Option.map_some] at b5
   unfold PTk.push at hp2
   split at hp2
   ·rename_i hlen
    simp only [Option.some.injEq] at hp2
    subst hp2
    obtain ⟨L5, μ5, μ6, e5, e6, h6, s6, k6⟩ := h4.push (f := block 13 hd x.size) hg4 rfl hlen
    rw [put_put, put_put] at h6
    simp only [nfr, block, List.length_cons] at e5
    simp only [List.length_cons] at e6
    unfold wr64 at e4 e5
    simp only [w1, w2, zH, zI, ↓reduceIte, zA, hb', q4, hw, a1, a2, a3, e3, htf3, e4, htf4]
    refine R_callre (l := [pt E.m 0, pt (L.id (.task k)) 0]) (by simp only [w1, w2, ↓reduceIte, zA]) hst ?_
    rintro v μ7 ⟨rfl, rfl⟩
    refine ⟨by simp only [List.all_cons, List.all_nil, Bool.and_true, Re.holds, w1, w2, ↓reduceIte, zA, htf4, beq_self_eq_true], ?_⟩
    rw [hj] at e5
    simp only [w1, w2, zH, zI, ↓reduceIte, zA, zB, hj, b1, b5, m2, fillc, wr, rep, zJ, zB, zK, List.append_nil, e5, e6, aRet, aRes, toCells]
    rw [hj] at h6
    exact ⟨_, rfl, L5, h6, s6.put.put.cast (by rw [tick_tasks]), k2.trans (k3.trans (k4.trans k6))⟩
   ·cases hp2
end
end Go.Proofs.Ytibmnlijoeppaaa
