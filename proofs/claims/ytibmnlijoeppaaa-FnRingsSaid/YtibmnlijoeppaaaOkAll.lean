/-
 A step's shape: both packages' tests of it.
 How blocks are nested: both packages' tests of it, and that they agree.
 How the two tests of nesting are walked.
 Both packages' PlanOk: what they answer, and that it is the same.
 The specification's PlanOk answers as the program's.
-/
import Derived.Test.YtibmnlijoeppaaaPlan
namespace Go.Proofs.Ytibmnlijoeppaaa
open Nat renaming reduceEqDiff → zA, reduceAdd → zB, reduceLeDiff → zJ, reduceMul → zK
open Int renaming reduceLT → zC, reduceLE → zD, reduceNeg → zE, reduceBEq → zF, reduceBNe → zG
open AV renaming isTup → zH, cells → zI
set_option linter.unusedSimpArgs false
set_option linter.unusedVariables false

/-- Which registers and numbers a step has: kinds of A and B, has N, is a head, is known. -/
def fieldsP (op : Int) : Int × Int × Bool × Bool × Bool :=
 if op = 1 then (114, 0, true, false, true)
 else if op = 2 then (114, 114, true, false, true)
 else if op = 3 ∨ op = 6 ∨ op = 9 ∨ op = 10 then (114, 0, false, false, true)
 else if op = 4 then (114, 98, false, false, true)
 else if op = 5 ∨ op = 7 ∨ op = 8 then (114, 114, false, false, true)
 else if op = 11 ∨ op = 14 ∨ op = 15 then (114, 0, false, true, true)
 else if op = 12 ∨ op = 13 then (0, 0, false, true, true)
 else (0, 0, false, false, false)

theorem ops_or (op : Int) : op = 1 ∨ op = 2 ∨ op = 3 ∨ op = 4 ∨ op = 5 ∨ op = 6 ∨ op = 7 ∨ op = 8 ∨ op = 9 ∨ op = 10 ∨ op = 11 ∨ op = 12 ∨ op = 13 ∨ op = 14 ∨ op = 15 ∨
  (op ≠ 1 ∧ op ≠ 2 ∧ op ≠ 3 ∧ op ≠ 4 ∧ op ≠ 5 ∧ op ≠ 6 ∧ op ≠ 7 ∧ op ≠ 8 ∧ op ≠ 9 ∧ op ≠ 10 ∧ op ≠ 11 ∧ op ≠ 12 ∧ op ≠ 13 ∧ op ≠ 14 ∧ op ≠ 15) := by omega

/-! 62: impl.fieldsOf -/
def r62 : RFun := ⟨30, [.tmp 2, .tmp 3, .tmp 4, .tmp 5, .tmp 6], (.seq (.reg [rI 0 (.mv (.k (.int .u8 0))) 2, rI 1 (.mv (.k (.int .u8 0))) 3, rI 2 (.mv (.k (.bool false))) 4, rI 3 (.mv (.k (.bool false))) 5, rI 4 (.mv (.k (.bool false))) 6]) (.seq (.seq (.reg [rI 0 (.mv (.t 0)) 7]) (.blk 0 (.seq (.reg [rI 0 (.bin .eql (.t 7) (.k (.int .i64 1))) 9, rI 1 (.mv (.t 9)) 8]) (.ite (.t 8) (.seq (.reg [rI 0 (.mv (.k (.int .u8 114))) 2, rI 1 (.mv (.k (.int .u8 0))) 3, rI 2 (.mv (.k (.bool true))) 4, rI 3 (.mv (.k (.bool false))) 5, rI 4 (.mv (.k (.bool true))) 6]) .ret) (.seq (.reg [rI 0 (.bin .eql (.t 7) (.k (.int .i64 2))) 11, rI 1 (.mv (.t 11)) 10]) (.ite (.t 10) (.seq (.reg [rI 0 (.mv (.k (.int .u8 114))) 2, rI 1 (.mv (.k (.int .u8 114))) 3, rI 2 (.mv (.k (.bool true))) 4, rI 3 (.mv (.k (.bool false))) 5, rI 4 (.mv (.k (.bool true))) 6]) .ret) (.seq (.seq (.reg [rI 0 (.bin .eql (.t 7) (.k (.int .i64 3))) 13, rI 1 (.mv (.t 13)) 12]) (.ite (.t 12) .skip (.seq (.reg [rI 0 (.bin .eql (.t 7) (.k (.int .i64 6))) 14, rI 1 (.mv (.t 14)) 12]) (.ite (.t 12) .skip (.seq (.reg [rI 0 (.bin .eql (.t 7) (.k (.int .i64 9))) 15, rI 1 (.mv (.t 15)) 12]) (.ite (.t 12) .skip (.reg [rI 0 (.bin .eql (.t 7) (.k (.int .i64 10))) 16, rI 1 (.mv (.t 16)) 12]))))))) (.ite (.t 12) (.seq (.reg [rI 0 (.mv (.k (.int .u8 114))) 2, rI 1 (.mv (.k (.int .u8 0))) 3, rI 2 (.mv (.k (.bool false))) 4, rI 3 (.mv (.k (.bool false))) 5, rI 4 (.mv (.k (.bool true))) 6]) .ret) (.seq (.reg [rI 0 (.bin .eql (.t 7) (.k (.int .i64 4))) 18, rI 1 (.mv (.t 18)) 17]) (.ite (.t 17) (.seq (.reg [rI 0 (.mv (.k (.int .u8 114))) 2, rI 1 (.mv (.k (.int .u8 98))) 3, rI 2 (.mv (.k (.bool false))) 4, rI 3 (.mv (.k (.bool false))) 5, rI 4 (.mv (.k (.bool true))) 6]) .ret) (.seq (.seq (.reg [rI 0 (.bin .eql (.t 7) (.k (.int .i64 5))) 20, rI 1 (.mv (.t 20)) 19]) (.ite (.t 19) .skip (.seq (.reg [rI 0 (.bin .eql (.t 7) (.k (.int .i64 7))) 21, rI 1 (.mv (.t 21)) 19]) (.ite (.t 19) .skip (.reg [rI 0 (.bin .eql (.t 7) (.k (.int .i64 8))) 22, rI 1 (.mv (.t 22)) 19]))))) (.ite (.t 19) (.seq (.reg [rI 0 (.mv (.k (.int .u8 114))) 2, rI 1 (.mv (.k (.int .u8 114))) 3, rI 2 (.mv (.k (.bool false))) 4, rI 3 (.mv (.k (.bool false))) 5, rI 4 (.mv (.k (.bool true))) 6]) .ret) (.seq (.seq (.reg [rI 0 (.bin .eql (.t 7) (.k (.int .i64 11))) 24, rI 1 (.mv (.t 24)) 23]) (.ite (.t 23) .skip (.seq (.reg [rI 0 (.bin .eql (.t 7) (.k (.int .i64 14))) 25, rI 1 (.mv (.t 25)) 23]) (.ite (.t 23) .skip (.reg [rI 0 (.bin .eql (.t 7) (.k (.int .i64 15))) 26, rI 1 (.mv (.t 26)) 23]))))) (.ite (.t 23) (.seq (.reg [rI 0 (.mv (.k (.int .u8 114))) 2, rI 1 (.mv (.k (.int .u8 0))) 3, rI 2 (.mv (.k (.bool false))) 4, rI 3 (.mv (.k (.bool true))) 5, rI 4 (.mv (.k (.bool true))) 6]) .ret) (.seq (.seq (.reg [rI 0 (.bin .eql (.t 7) (.k (.int .i64 12))) 28, rI 1 (.mv (.t 28)) 27]) (.ite (.t 27) .skip (.reg [rI 0 (.bin .eql (.t 7) (.k (.int .i64 13))) 29, rI 1 (.mv (.t 29)) 27]))) (.ite (.t 27) (.seq (.reg [rI 0 (.mv (.k (.int .u8 0))) 2, rI 1 (.mv (.k (.int .u8 0))) 3, rI 2 (.mv (.k (.bool false))) 4, rI 3 (.mv (.k (.bool true))) 5, rI 4 (.mv (.k (.bool true))) 6]) .ret) .skip)))))))))))))))) (.seq (.reg [rI 0 (.mv (.k (.int .u8 0))) 2, rI 1 (.mv (.k (.int .u8 0))) 3, rI 2 (.mv (.k (.bool false))) 4, rI 3 (.mv (.k (.bool false))) 5, rI 4 (.mv (.k (.bool false))) 6]) .ret)))⟩
theorem p62 : prog 62 = some r62 := by kernel_rfl

/-! 63: impl.fits -/
def r63 : RFun := ⟨27, [.tmp 6], (.seq (.reg [rI 0 (.mv (.k (.bool false))) 6]) (.seq (.seq (.reg [rI 0 (.mv (.t 0)) 7]) (.blk 0 (.seq (.reg [rI 0 (.bin .eql (.t 7) (.k (.int .u8 114))) 9, rI 1 (.mv (.t 9)) 8]) (.ite (.t 8) (.seq (.reg [rI 0 (.mv (.t 1)) 10, rI 1 (.bin .geq (.t 10) (.k (.int .i64 0))) 11, rI 2 (.mv (.t 11)) 12, ⟨3, .mv (.t 1), some 13, some (12, true), []⟩, ⟨4, .bin .lss (.t 13) (.k (.int .i64 4)), some 14, some (12, true), []⟩, rI 5 (.pick (.t 12) (.t 14) (.k (.bool false))) 15, rI 6 (.mv (.t 15)) 6]) .ret) (.seq (.reg [rI 0 (.bin .eql (.t 7) (.k (.int .u8 98))) 17, rI 1 (.mv (.t 17)) 16]) (.ite (.t 16) (.seq (.reg [rI 0 (.mv (.t 1)) 18, rI 1 (.bin .geq (.t 18) (.k (.int .i64 0))) 19, rI 2 (.mv (.t 19)) 20, ⟨3, .mv (.t 1), some 21, some (20, true), []⟩, ⟨4, .mv (.t 2), some 22, some (20, true), []⟩, ⟨5, .bin .lss (.t 21) (.t 22), some 23, some (20, true), []⟩, rI 6 (.pick (.t 20) (.t 23) (.k (.bool false))) 24, rI 7 (.mv (.t 24)) 6]) .ret) .skip)))))) (.seq (.reg [rI 0 (.mv (.t 1)) 25, rI 1 (.bin .eql (.t 25) (.k (.int .i64 0))) 26, rI 2 (.mv (.t 26)) 6]) .ret)))⟩
theorem p63 : prog 63 = some r63 := by kernel_rfl

/-! 89: impl.head -/
def r89 : RFun := ⟨17, [.tmp 2], (.seq (.reg [rI 0 (.mv (.k (.bool false))) 2]) (.seq (.reg [rI 0 (.mv (.t 0)) 9, rI 1 (.call 62 [.t 9]) 10, rI 2 (.mv (.t 10)) 8, rI 3 (.ext (.t 8) 0) 11, rI 4 (.ext (.t 8) 1) 12, rI 5 (.ext (.t 8) 2) 13, rI 6 (.ext (.t 8) 3) 14, rI 7 (.ext (.t 8) 4) 15, rI 8 (.mv (.t 11)) 3, rI 9 (.mv (.t 12)) 4, rI 10 (.mv (.t 13)) 5, rI 11 (.mv (.t 14)) 6, rI 12 (.mv (.t 15)) 7]) (.seq (.reg [rI 0 (.mv (.t 6)) 16, rI 1 (.mv (.t 16)) 2]) .ret)))⟩
theorem p89 : prog 89 = some r89 := by kernel_rfl

/-! 86: spec.l1reg -/
def r86 : RFun := ⟨9, [.tmp 2], (.seq (.reg [rI 0 (.mv (.k (.bool false))) 2]) (.seq (.reg [rI 0 (.mv (.t 0)) 3, rI 1 (.bin .geq (.t 3) (.k (.int .i64 0))) 4, rI 2 (.mv (.t 4)) 5, ⟨3, .mv (.t 0), some 6, some (5, true), []⟩, ⟨4, .bin .lss (.t 6) (.k (.int .i64 4)), some 7, some (5, true), []⟩, rI 5 (.pick (.t 5) (.t 7) (.k (.bool false))) 8, rI 6 (.mv (.t 8)) 2]) .ret))⟩
theorem p86 : prog 86 = some r86 := by kernel_rfl

/-! 87: spec.l1block -/
def r87 : RFun := ⟨9, [.tmp 2], (.seq (.reg [rI 0 (.mv (.k (.bool false))) 2]) (.seq (.reg [rI 0 (.mv (.t 0)) 3, rI 1 (.bin .geq (.t 3) (.k (.int .i64 11))) 4, rI 2 (.mv (.t 4)) 5, ⟨3, .mv (.t 0), some 6, some (5, true), []⟩, ⟨4, .bin .leq (.t 6) (.k (.int .i64 15)), some 7, some (5, true), []⟩, rI 5 (.pick (.t 5) (.t 7) (.k (.bool false))) 8, rI 6 (.mv (.t 8)) 2]) .ret))⟩
theorem p87 : prog 87 = some r87 := by kernel_rfl

/-! 59: spec.l1shape -/
def r59 : RFun := ⟨141, [.tmp 4], (.seq (.reg [rI 0 (.box (.t 0) 1) 2, rI 1 (.box (.t 1) 5) 3, rI 2 (.mv (.k (.bool false))) 4]) (.seq (.reg [rI 0 (.fa (.t 3) 3) 7, rI 1 (.ld none (.t 7)) 8, rI 2 (.bin .eql (.t 8) (.k (.int .i64 0))) 9, rI 3 (.mv (.t 9)) 5]) (.seq (.reg [rI 0 (.fa (.t 3) 4) 10, rI 1 (.ld none (.t 10)) 11, rI 2 (.bin .eql (.t 11) (.k (.int .i64 0))) 12, rI 3 (.mv (.t 12)) 6]) (.seq (.seq (.reg [rI 0 (.fa (.t 3) 0) 13, rI 1 (.ld none (.t 13)) 14]) (.blk 0 (.seq (.reg [rI 0 (.bin .eql (.t 14) (.k (.int .i64 1))) 16, rI 1 (.mv (.t 16)) 15]) (.ite (.t 15) (.seq (.reg [rI 0 (.fa (.t 3) 1) 17, rI 1 (.ld none (.t 17)) 18, rI 2 (.call 86 [.t 18]) 19, rI 3 (.mv (.t 19)) 20, ⟨4, .fa (.t 3) 2, some 21, some (20, true), []⟩, ⟨5, .ld none (.t 21), some 22, some (20, true), []⟩, ⟨6, .bin .eql (.t 22) (.k (.int .i64 0)), some 23, some (20, true), []⟩, rI 7 (.pick (.t 20) (.t 23) (.k (.bool false))) 24, rI 8 (.mv (.t 24)) 25, ⟨9, .mv (.t 6), some 26, some (25, true), []⟩, rI 10 (.pick (.t 25) (.t 26) (.k (.bool false))) 27, rI 11 (.mv (.t 27)) 4]) .ret) (.seq (.reg [rI 0 (.bin .eql (.t 14) (.k (.int .i64 2))) 29, rI 1 (.mv (.t 29)) 28]) (.ite (.t 28) (.seq (.reg [rI 0 (.fa (.t 3) 1) 30, rI 1 (.ld none (.t 30)) 31, rI 2 (.call 86 [.t 31]) 32, rI 3 (.mv (.t 32)) 33, ⟨4, .fa (.t 3) 2, some 34, some (33, true), []⟩, ⟨5, .ld none (.t 34), some 35, some (33, true), []⟩, ⟨6, .call 86 [.t 35], some 36, some (33, true), []⟩, rI 7 (.pick (.t 33) (.t 36) (.k (.bool false))) 37, rI 8 (.mv (.t 37)) 38, ⟨9, .mv (.t 6), some 39, some (38, true), []⟩, rI 10 (.pick (.t 38) (.t 39) (.k (.bool false))) 40, rI 11 (.mv (.t 40)) 4]) .ret) (.seq (.seq (.reg [rI 0 (.bin .eql (.t 14) (.k (.int .i64 3))) 42, rI 1 (.mv (.t 42)) 41]) (.ite (.t 41) .skip (.seq (.reg [rI 0 (.bin .eql (.t 14) (.k (.int .i64 6))) 43, rI 1 (.mv (.t 43)) 41]) (.ite (.t 41) .skip (.seq (.reg [rI 0 (.bin .eql (.t 14) (.k (.int .i64 9))) 44, rI 1 (.mv (.t 44)) 41]) (.ite (.t 41) .skip (.reg [rI 0 (.bin .eql (.t 14) (.k (.int .i64 10))) 45, rI 1 (.mv (.t 45)) 41]))))))) (.ite (.t 41) (.seq (.reg [rI 0 (.fa (.t 3) 1) 46, rI 1 (.ld none (.t 46)) 47, rI 2 (.call 86 [.t 47]) 48, rI 3 (.mv (.t 48)) 49, ⟨4, .fa (.t 3) 2, some 50, some (49, true), []⟩, ⟨5, .ld none (.t 50), some 51, some (49, true), []⟩, ⟨6, .bin .eql (.t 51) (.k (.int .i64 0)), some 52, some (49, true), []⟩, rI 7 (.pick (.t 49) (.t 52) (.k (.bool false))) 53, rI 8 (.mv (.t 53)) 54, ⟨9, .mv (.t 5), some 55, some (54, true), []⟩, rI 10 (.pick (.t 54) (.t 55) (.k (.bool false))) 56, rI 11 (.mv (.t 56)) 57, ⟨12, .mv (.t 6), some 58, some (57, true), []⟩, rI 13 (.pick (.t 57) (.t 58) (.k (.bool false))) 59, rI 14 (.mv (.t 59)) 4]) .ret) (.seq (.reg [rI 0 (.bin .eql (.t 14) (.k (.int .i64 4))) 61, rI 1 (.mv (.t 61)) 60]) (.ite (.t 60) (.seq (.reg [rI 0 (.fa (.t 3) 1) 62, rI 1 (.ld none (.t 62)) 63, rI 2 (.call 86 [.t 63]) 64, rI 3 (.mv (.t 64)) 65, ⟨4, .fa (.t 3) 2, some 66, some (65, true), []⟩, ⟨5, .ld none (.t 66), some 67, some (65, true), []⟩, ⟨6, .bin .geq (.t 67) (.k (.int .i64 0)), some 68, some (65, true), []⟩, rI 7 (.pick (.t 65) (.t 68) (.k (.bool false))) 69, rI 8 (.mv (.t 69)) 70, ⟨9, .fa (.t 3) 2, some 71, some (70, true), []⟩, ⟨10, .ld none (.t 71), some 72, some (70, true), []⟩, ⟨11, .fa (.t 2) 0, some 73, some (70, true), []⟩, ⟨12, .ld none (.t 73), some 74, some (70, true), []⟩, ⟨13, .len (.t 74), some 75, some (70, true), []⟩, ⟨14, .bin .lss (.t 72) (.t 75), some 76, some (70, true), []⟩, rI 15 (.pick (.t 70) (.t 76) (.k (.bool false))) 77, rI 16 (.mv (.t 77)) 78, ⟨17, .mv (.t 5), some 79, some (78, true), []⟩, rI 18 (.pick (.t 78) (.t 79) (.k (.bool false))) 80, rI 19 (.mv (.t 80)) 81, ⟨20, .mv (.t 6), some 82, some (81, true), []⟩, rI 21 (.pick (.t 81) (.t 82) (.k (.bool false))) 83, rI 22 (.mv (.t 83)) 4]) .ret) (.seq (.seq (.reg [rI 0 (.bin .eql (.t 14) (.k (.int .i64 5))) 85, rI 1 (.mv (.t 85)) 84]) (.ite (.t 84) .skip (.seq (.reg [rI 0 (.bin .eql (.t 14) (.k (.int .i64 7))) 86, rI 1 (.mv (.t 86)) 84]) (.ite (.t 84) .skip (.reg [rI 0 (.bin .eql (.t 14) (.k (.int .i64 8))) 87, rI 1 (.mv (.t 87)) 84]))))) (.ite (.t 84) (.seq (.reg [rI 0 (.fa (.t 3) 1) 88, rI 1 (.ld none (.t 88)) 89, rI 2 (.call 86 [.t 89]) 90, rI 3 (.mv (.t 90)) 91, ⟨4, .fa (.t 3) 2, some 92, some (91, true), []⟩, ⟨5, .ld none (.t 92), some 93, some (91, true), []⟩, ⟨6, .call 86 [.t 93], some 94, some (91, true), []⟩, rI 7 (.pick (.t 91) (.t 94) (.k (.bool false))) 95, rI 8 (.mv (.t 95)) 96, ⟨9, .mv (.t 5), some 97, some (96, true), []⟩, rI 10 (.pick (.t 96) (.t 97) (.k (.bool false))) 98, rI 11 (.mv (.t 98)) 99, ⟨12, .mv (.t 6), some 100, some (99, true), []⟩, rI 13 (.pick (.t 99) (.t 100) (.k (.bool false))) 101, rI 14 (.mv (.t 101)) 4]) .ret) (.seq (.seq (.reg [rI 0 (.bin .eql (.t 14) (.k (.int .i64 11))) 103, rI 1 (.mv (.t 103)) 102]) (.ite (.t 102) .skip (.seq (.reg [rI 0 (.bin .eql (.t 14) (.k (.int .i64 14))) 104, rI 1 (.mv (.t 104)) 102]) (.ite (.t 102) .skip (.reg [rI 0 (.bin .eql (.t 14) (.k (.int .i64 15))) 105, rI 1 (.mv (.t 105)) 102]))))) (.ite (.t 102) (.seq (.reg [rI 0 (.fa (.t 3) 1) 106, rI 1 (.ld none (.t 106)) 107, rI 2 (.call 86 [.t 107]) 108, rI 3 (.mv (.t 108)) 109, ⟨4, .fa (.t 3) 2, some 110, some (109, true), []⟩, ⟨5, .ld none (.t 110), some 111, some (109, true), []⟩, ⟨6, .bin .eql (.t 111) (.k (.int .i64 0)), some 112, some (109, true), []⟩, rI 7 (.pick (.t 109) (.t 112) (.k (.bool false))) 113, rI 8 (.mv (.t 113)) 114, ⟨9, .mv (.t 5), some 115, some (114, true), []⟩, rI 10 (.pick (.t 114) (.t 115) (.k (.bool false))) 116, rI 11 (.mv (.t 116)) 117, ⟨12, .fa (.t 3) 4, some 118, some (117, true), []⟩, ⟨13, .ld none (.t 118), some 119, some (117, true), []⟩, ⟨14, .bin .geq (.t 119) (.k (.int .i64 0)), some 120, some (117, true), []⟩, rI 15 (.pick (.t 117) (.t 120) (.k (.bool false))) 121, rI 16 (.mv (.t 121)) 4]) .ret) (.seq (.seq (.reg [rI 0 (.bin .eql (.t 14) (.k (.int .i64 12))) 123, rI 1 (.mv (.t 123)) 122]) (.ite (.t 122) .skip (.reg [rI 0 (.bin .eql (.t 14) (.k (.int .i64 13))) 124, rI 1 (.mv (.t 124)) 122]))) (.ite (.t 122) (.seq (.reg [rI 0 (.fa (.t 3) 1) 125, rI 1 (.ld none (.t 125)) 126, rI 2 (.bin .eql (.t 126) (.k (.int .i64 0))) 127, rI 3 (.mv (.t 127)) 128, ⟨4, .fa (.t 3) 2, some 129, some (128, true), []⟩, ⟨5, .ld none (.t 129), some 130, some (128, true), []⟩, ⟨6, .bin .eql (.t 130) (.k (.int .i64 0)), some 131, some (128, true), []⟩, rI 7 (.pick (.t 128) (.t 131) (.k (.bool false))) 132, rI 8 (.mv (.t 132)) 133, ⟨9, .mv (.t 5), some 134, some (133, true), []⟩, rI 10 (.pick (.t 133) (.t 134) (.k (.bool false))) 135, rI 11 (.mv (.t 135)) 136, ⟨12, .fa (.t 3) 4, some 137, some (136, true), []⟩, ⟨13, .ld none (.t 137), some 138, some (136, true), []⟩, ⟨14, .bin .geq (.t 138) (.k (.int .i64 0)), some 139, some (136, true), []⟩, rI 15 (.pick (.t 136) (.t 139) (.k (.bool false))) 140, rI 16 (.mv (.t 140)) 4]) .ret) .skip)))))))))))))))) (.seq (.reg [rI 0 (.mv (.k (.bool false))) 4]) .ret)))))⟩
theorem p59 : prog 59 = some r59 := by kernel_rfl



def tupF (x : Int × Int × Bool × Bool × Bool) : AV := .tup [.int .u8 x.1, .int .u8 x.2.1, .bool x.2.2.1, .bool x.2.2.2.1, .bool x.2.2.2.2]

theorem beq_ff {a b : Int} (h : a ≠ b) : (a == b) = false := by simpa using h

theorem fieldsOf_ok (μ : Mem) (op : Int) : Ret 62 [.c (.int .i64 op)] μ fun v μ' => v = tupF (fieldsP op) ∧ μ' = μ := by
 refine Ret_of p62 (by simp [r62]) ?_
 simp only [rI, r62, frOf_1]
 rcases ops_or op with rfl | rfl | rfl | rfl | rfl | rfl | rfl | rfl | rfl | rfl | rfl | rfl | rfl | rfl | rfl | ⟨h1, h2, h3, h4, h5, h6, h7, h8, h9, h10, h11, h12, h13, h14, h15⟩
 case inr.inr.inr.inr.inr.inr.inr.inr.inr.inr.inr.inr.inr.inr.inr =>
  simp only [w1, w2, ↓reduceIte, zA, m1, m2, aRet, aRes, aRes1, toCells, beq_ff h1, beq_ff h2, beq_ff h3, beq_ff h4, beq_ff h5, beq_ff h6, beq_ff h7, beq_ff h8, beq_ff h9, beq_ff h10, beq_ff h11, beq_ff h12, beq_ff h13, beq_ff h14, beq_ff h15]
  simp only [fieldsP, h1, h2, h3, h4, h5, h6, h7, h8, h9, h10, h11, h12, h13, h14, h15, if_false, or_self]
  rfl
 all_goals
  simp only [w1, w2, ↓reduceIte, zA, zF, m1, m2, aRet, aRes, aRes1, toCells]
  rfl

def regP (v : Int) : Bool := decide (v ≥ 0) && decide (v < 4)
def fitsP (kind v n : Int) : Bool := if kind = 114 then regP v else if kind = 98 then decide (v ≥ 0) && decide (v < n) else v == 0
def headP (op : Int) : Bool := decide (op ≥ 11) && decide (op ≤ 15)

def shapeP (n : Int) (s : PStep) : Bool :=
 (fieldsP s.op).2.2.2.2 && fitsP (fieldsP s.op).1 s.a n && fitsP (fieldsP s.op).2.1 s.b n && ((fieldsP s.op).2.2.1 || s.n == 0) && ((fieldsP s.op).2.2.2.1 || s.size == 0) && decide (s.size ≥ 0)

theorem fits_ok (μ : Mem) (kind v n : Int) : Ret 63 [.c (.int .u8 kind), .c (.int .i64 v), .c (.int .i64 n)] μ fun r μ' => r = .c (.bool (fitsP kind v n)) ∧ μ' = μ := by
 refine Ret_of p63 (by simp [r63]) ?_
 simp only [rI, r63, frOf_3]
 by_cases h1 : kind = 114
 ·subst h1
  by_cases h2 : v ≥ 0
  ·simp only [w1, w2, ↓reduceIte, zA, m1, m2, aRet, aRes, aRes1, decide_eq_true h2]
   simp [fitsP, regP, h2]
  ·simp only [w1, w2, ↓reduceIte, zA, m1, m2, aRet, aRes, aRes1, decide_eq_false h2]
   simp [fitsP, regP, h2]
 ·by_cases h3 : kind = 98
  ·subst h3
   by_cases h2 : v ≥ 0
   ·simp only [w1, w2, ↓reduceIte, zA, zF, m1, m2, aRet, aRes, aRes1, decide_eq_true h2]
    simp [fitsP, h2]
   ·simp only [w1, w2, ↓reduceIte, zA, zF, m1, m2, aRet, aRes, aRes1, decide_eq_false h2]
    simp [fitsP, h2]
  ·simp only [w1, w2, ↓reduceIte, zA, m1, m2, aRet, aRes, aRes1, beq_ff h1, beq_ff h3]
   simp [fitsP, h1, h3]

theorem head_eq (op : Int) : (fieldsP op).2.2.2.1 = headP op := by
 rcases ops_or op with rfl | rfl | rfl | rfl | rfl | rfl | rfl | rfl | rfl | rfl | rfl | rfl | rfl | rfl | rfl | ⟨h1, h2, h3, h4, h5, h6, h7, h8, h9, h10, h11, h12, h13, h14, h15⟩
 case inr.inr.inr.inr.inr.inr.inr.inr.inr.inr.inr.inr.inr.inr.inr =>
  have : ¬ (op ≥ 11 ∧ op ≤ 15) := by omega
  simp only [fieldsP, headP, h1, h2, h3, h4, h5, h6, h7, h8, h9, h10, h11, h12, h13, h14, h15, if_false, or_self]
  simp only [← Bool.decide_and, this, decide_false]
 all_goals rfl

theorem head_ok (μ : Mem) (op : Int) : Ret 89 [.c (.int .i64 op)] μ fun v μ' => v = .c (.bool (headP op)) ∧ μ' = μ := by
 refine Ret_of p89 (by simp [r89]) ?_
 simp only [rI, r89, frOf_1]
 simp only [w1, w2, ↓reduceIte, zA, m1, m2, aRet, aRes, aRes1]
 refine R_calls rfl (by simp only [w1, w2, ↓reduceIte]; exact fieldsOf_ok _ _) ?_
 rintro v μ' ⟨rfl, rfl⟩
 simp only [w1, w2, ↓reduceIte, zA, tupF, head_eq]

theorem l1reg_ok (μ : Mem) (v : Int) : Ret 86 [.c (.int .i64 v)] μ fun r μ' => r = .c (.bool (regP v)) ∧ μ' = μ := by
 refine Ret_of p86 (by simp [r86]) ?_
 simp only [rI, r86, frOf_1]
 by_cases h2 : v ≥ 0
 ·simp only [w1, w2, ↓reduceIte, zA, m1, m2, aRet, aRes, aRes1, decide_eq_true h2]
  simp [regP, h2]
 ·simp only [w1, w2, ↓reduceIte, zA, m1, m2, aRet, aRes, aRes1, decide_eq_false h2]
  simp [regP, h2]

theorem l1block_ok (μ : Mem) (v : Int) : Ret 87 [.c (.int .i64 v)] μ fun r μ' => r = .c (.bool (headP v)) ∧ μ' = μ := by
 refine Ret_of p87 (by simp [r87]) ?_
 simp only [rI, r87, frOf_1]
 by_cases h2 : v ≥ 11
 ·simp only [w1, w2, ↓reduceIte, zA, m1, m2, aRet, aRes, aRes1, decide_eq_true h2]
  simp [headP, h2]
 ·simp only [w1, w2, ↓reduceIte, zA, m1, m2, aRet, aRes, aRes1, decide_eq_false h2]
  simp [headP, h2]

theorem l1shape_ok (μ : Mem) (s : PStep) (a : Option (Nat × Nat)) (n cap : Nat) : Ret 59 [.agg [.slc a n cap], .agg (scells 0 s)] μ fun v μ' => v = .c (.bool (shapeP n s)) ∧ Same μ.next μ μ' := by
 obtain ⟨op, A, B, N, Z⟩ := s
 refine Ret_of p59 (by simp [r59, scells]) ?_
 simp only [rI, r59, frOf_2, scells]
 have hs : Same μ.next μ ((μ.new [.slc a n cap] 0).new [.int .i64 op, .int .i64 A, .int .i64 B, .int .i64 N, .int .i64 Z] 0) := (Same.tmp (Nat.le_refl _)).new (Nat.le_succ _)
 rcases ops_or op with rfl | rfl | rfl | rfl | rfl | rfl | rfl | rfl | rfl | rfl | rfl | rfl | rfl | rfl | rfl | ⟨h1, h2, h3, h4, h5, h6, h7, h8, h9, h10, h11, h12, h13, h14, h15⟩
 case inr.inr.inr.inr.inr.inr.inr.inr.inr.inr.inr.inr.inr.inr.inr =>
  simp only [w1, w2, zH, zI, ↓reduceIte, zA, zB, m1, m2, aRet, aRes, aRes1, beq_ff h1, beq_ff h2, beq_ff h3, beq_ff h4, beq_ff h5, beq_ff h6, beq_ff h7, beq_ff h8, beq_ff h9, beq_ff h10, beq_ff h11, beq_ff h12, beq_ff h13, beq_ff h14, beq_ff h15]
  simp only [shapeP, fieldsP, h1, h2, h3, h4, h5, h6, h7, h8, h9, h10, h11, h12, h13, h14, h15, if_false, or_self]
  exact ⟨rfl, hs⟩
 ·
  simp only [w1, w2, zH, zI, ↓reduceIte, zA, zB, m1, m2, aRet, aRes, aRes1]
  refine R_calls rfl (by simp only [w1, w2, ↓reduceIte]; exact l1reg_ok _ _) ?_
  rintro v μ' ⟨rfl, rfl⟩
  simp only [w1, ↓reduceIte]
  cases hA : regP A
  ·(try simp only [w1, ↓reduceIte, zA])
   refine ⟨?_, hs⟩
   congr 1
   congr 1
   simp_all [shapeP, fieldsP, fitsP]
   try omega
  ·(try simp only [w1, w2, ↓reduceIte, zA, m1, m2])
   cases hB : (B == 0)
   ·(try simp only [w1, ↓reduceIte, zA])
    refine ⟨?_, hs⟩
    congr 1
    congr 1
    simp_all [shapeP, fieldsP, fitsP]
    try omega
   ·(try simp only [w1, ↓reduceIte, zA])
    cases hZ : (Z == 0)
    ·(try simp only [w1, w2, zH, zI, ↓reduceIte, zA, zB, zC, zD, zE, zF, zG, m1, m2, stl, wr, rd, aRet, aRes, aRes1, toCells, zJ, zK])
     refine ⟨?_, hs⟩
     congr 1
     congr 1
     simp_all [shapeP, fieldsP, fitsP]
     try omega
    ·(try simp only [w1, w2, zH, zI, ↓reduceIte, zA, zB, zC, zD, zE, zF, zG, m1, m2, stl, wr, rd, aRet, aRes, aRes1, toCells, zJ, zK])
     refine ⟨?_, hs⟩
     congr 1
     congr 1
     simp_all [shapeP, fieldsP, fitsP]
     try omega
 ·
  simp only [w1, w2, zH, zI, ↓reduceIte, zA, zB, zF, m1, m2, aRet, aRes, aRes1]
  refine R_calls rfl (by simp only [w1, w2, ↓reduceIte]; exact l1reg_ok _ _) ?_
  rintro v μ' ⟨rfl, rfl⟩
  simp only [w1, ↓reduceIte]
  cases hA : regP A
  ·(try simp only [w1, ↓reduceIte, zA])
   refine ⟨?_, hs⟩
   congr 1
   congr 1
   simp_all [shapeP, fieldsP, fitsP]
   try omega
  ·(try simp only [w1, w2, ↓reduceIte, zA, m1, m2])
   refine R_calls rfl (by simp only [w1, w2, ↓reduceIte]; exact l1reg_ok _ _) ?_
   rintro v μ' ⟨rfl, rfl⟩
   simp only [w1, ↓reduceIte, zA]
   cases hB : regP B
   ·(try simp only [w1, ↓reduceIte, zA])
    refine ⟨?_, hs⟩
    congr 1
    congr 1
    simp_all [shapeP, fieldsP, fitsP]
    try omega
   ·(try simp only [w1, ↓reduceIte, zA])
    cases hZ : (Z == 0)
    ·(try simp only [w1, w2, zH, zI, ↓reduceIte, zA, zB, zC, zD, zE, zF, zG, m1, m2, stl, wr, rd, aRet, aRes, aRes1, toCells, zJ, zK])
     refine ⟨?_, hs⟩
     congr 1
     congr 1
     simp_all [shapeP, fieldsP, fitsP]
     try omega
    ·(try simp only [w1, w2, zH, zI, ↓reduceIte, zA, zB, zC, zD, zE, zF, zG, m1, m2, stl, wr, rd, aRet, aRes, aRes1, toCells, zJ, zK])
     refine ⟨?_, hs⟩
     congr 1
     congr 1
     simp_all [shapeP, fieldsP, fitsP]
     try omega
 ·
  simp only [w1, w2, zH, zI, ↓reduceIte, zA, zB, zF, m1, m2, aRet, aRes, aRes1]
  refine R_calls rfl (by simp only [w1, w2, ↓reduceIte]; exact l1reg_ok _ _) ?_
  rintro v μ' ⟨rfl, rfl⟩
  simp only [w1, ↓reduceIte]
  cases hA : regP A
  ·(try simp only [w1, ↓reduceIte, zA])
   refine ⟨?_, hs⟩
   congr 1
   congr 1
   simp_all [shapeP, fieldsP, fitsP]
   try omega
  ·(try simp only [w1, w2, ↓reduceIte, zA, m1, m2])
   cases hB : (B == 0)
   ·(try simp only [w1, ↓reduceIte, zA])
    refine ⟨?_, hs⟩
    congr 1
    congr 1
    simp_all [shapeP, fieldsP, fitsP]
    try omega
   ·(try simp only [w1, ↓reduceIte, zA])
    cases hN : (N == 0)
    ·(try simp only [w1, ↓reduceIte, zA])
     refine ⟨?_, hs⟩
     congr 1
     congr 1
     simp_all [shapeP, fieldsP, fitsP]
     try omega
    ·(try simp only [w1, ↓reduceIte, zA])
     cases hZ : (Z == 0)
     ·(try simp only [w1, w2, zH, zI, ↓reduceIte, zA, zB, zC, zD, zE, zF, zG, m1, m2, stl, wr, rd, aRet, aRes, aRes1, toCells, zJ, zK])
      refine ⟨?_, hs⟩
      congr 1
      congr 1
      simp_all [shapeP, fieldsP, fitsP]
      try omega
     ·(try simp only [w1, w2, zH, zI, ↓reduceIte, zA, zB, zC, zD, zE, zF, zG, m1, m2, stl, wr, rd, aRet, aRes, aRes1, toCells, zJ, zK])
      refine ⟨?_, hs⟩
      congr 1
      congr 1
      simp_all [shapeP, fieldsP, fitsP]
      try omega
 ·
  simp only [w1, w2, zH, zI, ↓reduceIte, zA, zB, zF, m1, m2, aRet, aRes, aRes1]
  refine R_calls rfl (by simp only [w1, w2, ↓reduceIte]; exact l1reg_ok _ _) ?_
  rintro v μ' ⟨rfl, rfl⟩
  simp only [w1, ↓reduceIte]
  cases hA : regP A
  ·(try simp only [w1, ↓reduceIte, zA])
   refine ⟨?_, hs⟩
   congr 1
   congr 1
   simp_all [shapeP, fieldsP, fitsP]
   try omega
  ·(try simp only [w1, w2, ↓reduceIte, zA, m1, m2])
   cases hB : decide (B ≥ 0)
   ·(try simp only [w1, ↓reduceIte, zA])
    refine ⟨?_, hs⟩
    congr 1
    congr 1
    simp_all [shapeP, fieldsP, fitsP]
    try omega
   ·(try simp only [w1, w2, ↓reduceIte, zA, m1, m2])
    cases hL : decide (B < (n : Int))
    ·(try simp only [w1, ↓reduceIte, zA])
     refine ⟨?_, hs⟩
     congr 1
     congr 1
     simp_all [shapeP, fieldsP, fitsP]
     try omega
    ·(try simp only [w1, ↓reduceIte, zA])
     cases hN : (N == 0)
     ·(try simp only [w1, ↓reduceIte, zA])
      refine ⟨?_, hs⟩
      congr 1
      congr 1
      simp_all [shapeP, fieldsP, fitsP]
      try omega
     ·(try simp only [w1, ↓reduceIte, zA])
      cases hZ : (Z == 0)
      ·(try simp only [w1, w2, zH, zI, ↓reduceIte, zA, zB, zC, zD, zE, zF, zG, m1, m2, stl, wr, rd, aRet, aRes, aRes1, toCells, zJ, zK])
       refine ⟨?_, hs⟩
       congr 1
       congr 1
       simp_all [shapeP, fieldsP, fitsP]
       try omega
      ·(try simp only [w1, w2, zH, zI, ↓reduceIte, zA, zB, zC, zD, zE, zF, zG, m1, m2, stl, wr, rd, aRet, aRes, aRes1, toCells, zJ, zK])
       refine ⟨?_, hs⟩
       congr 1
       congr 1
       simp_all [shapeP, fieldsP, fitsP]
       try omega
 ·
  simp only [w1, w2, zH, zI, ↓reduceIte, zA, zB, zF, m1, m2, aRet, aRes, aRes1]
  refine R_calls rfl (by simp only [w1, w2, ↓reduceIte]; exact l1reg_ok _ _) ?_
  rintro v μ' ⟨rfl, rfl⟩
  simp only [w1, ↓reduceIte]
  cases hA : regP A
  ·(try simp only [w1, ↓reduceIte, zA])
   refine ⟨?_, hs⟩
   congr 1
   congr 1
   simp_all [shapeP, fieldsP, fitsP]
   try omega
  ·(try simp only [w1, w2, ↓reduceIte, zA, m1, m2])
   refine R_calls rfl (by simp only [w1, w2, ↓reduceIte]; exact l1reg_ok _ _) ?_
   rintro v μ' ⟨rfl, rfl⟩
   simp only [w1, ↓reduceIte, zA]
   cases hB : regP B
   ·(try simp only [w1, ↓reduceIte, zA])
    refine ⟨?_, hs⟩
    congr 1
    congr 1
    simp_all [shapeP, fieldsP, fitsP]
    try omega
   ·(try simp only [w1, ↓reduceIte, zA])
    cases hN : (N == 0)
    ·(try simp only [w1, ↓reduceIte, zA])
     refine ⟨?_, hs⟩
     congr 1
     congr 1
     simp_all [shapeP, fieldsP, fitsP]
     try omega
    ·(try simp only [w1, ↓reduceIte, zA])
     cases hZ : (Z == 0)
     ·(try simp only [w1, w2, zH, zI, ↓reduceIte, zA, zB, zC, zD, zE, zF, zG, m1, m2, stl, wr, rd, aRet, aRes, aRes1, toCells, zJ, zK])
      refine ⟨?_, hs⟩
      congr 1
      congr 1
      simp_all [shapeP, fieldsP, fitsP]
      try omega
     ·(try simp only [w1, w2, zH, zI, ↓reduceIte, zA, zB, zC, zD, zE, zF, zG, m1, m2, stl, wr, rd, aRet, aRes, aRes1, toCells, zJ, zK])
      refine ⟨?_, hs⟩
      congr 1
      congr 1
      simp_all [shapeP, fieldsP, fitsP]
      try omega
 ·
  simp only [w1, w2, zH, zI, ↓reduceIte, zA, zB, zF, m1, m2, aRet, aRes, aRes1]
  refine R_calls rfl (by simp only [w1, w2, ↓reduceIte]; exact l1reg_ok _ _) ?_
  rintro v μ' ⟨rfl, rfl⟩
  simp only [w1, ↓reduceIte]
  cases hA : regP A
  ·(try simp only [w1, ↓reduceIte, zA])
   refine ⟨?_, hs⟩
   congr 1
   congr 1
   simp_all [shapeP, fieldsP, fitsP]
   try omega
  ·(try simp only [w1, w2, ↓reduceIte, zA, m1, m2])
   cases hB : (B == 0)
   ·(try simp only [w1, ↓reduceIte, zA])
    refine ⟨?_, hs⟩
    congr 1
    congr 1
    simp_all [shapeP, fieldsP, fitsP]
    try omega
   ·(try simp only [w1, ↓reduceIte, zA])
    cases hN : (N == 0)
    ·(try simp only [w1, ↓reduceIte, zA])
     refine ⟨?_, hs⟩
     congr 1
     congr 1
     simp_all [shapeP, fieldsP, fitsP]
     try omega
    ·(try simp only [w1, ↓reduceIte, zA])
     cases hZ : (Z == 0)
     ·(try simp only [w1, w2, zH, zI, ↓reduceIte, zA, zB, zC, zD, zE, zF, zG, m1, m2, stl, wr, rd, aRet, aRes, aRes1, toCells, zJ, zK])
      refine ⟨?_, hs⟩
      congr 1
      congr 1
      simp_all [shapeP, fieldsP, fitsP]
      try omega
     ·(try simp only [w1, w2, zH, zI, ↓reduceIte, zA, zB, zC, zD, zE, zF, zG, m1, m2, stl, wr, rd, aRet, aRes, aRes1, toCells, zJ, zK])
      refine ⟨?_, hs⟩
      congr 1
      congr 1
      simp_all [shapeP, fieldsP, fitsP]
      try omega
 ·
  simp only [w1, w2, zH, zI, ↓reduceIte, zA, zB, zF, m1, m2, aRet, aRes, aRes1]
  refine R_calls rfl (by simp only [w1, w2, ↓reduceIte]; exact l1reg_ok _ _) ?_
  rintro v μ' ⟨rfl, rfl⟩
  simp only [w1, ↓reduceIte]
  cases hA : regP A
  ·(try simp only [w1, ↓reduceIte, zA])
   refine ⟨?_, hs⟩
   congr 1
   congr 1
   simp_all [shapeP, fieldsP, fitsP]
   try omega
  ·(try simp only [w1, w2, ↓reduceIte, zA, m1, m2])
   refine R_calls rfl (by simp only [w1, w2, ↓reduceIte]; exact l1reg_ok _ _) ?_
   rintro v μ' ⟨rfl, rfl⟩
   simp only [w1, ↓reduceIte, zA]
   cases hB : regP B
   ·(try simp only [w1, ↓reduceIte, zA])
    refine ⟨?_, hs⟩
    congr 1
    congr 1
    simp_all [shapeP, fieldsP, fitsP]
    try omega
   ·(try simp only [w1, ↓reduceIte, zA])
    cases hN : (N == 0)
    ·(try simp only [w1, ↓reduceIte, zA])
     refine ⟨?_, hs⟩
     congr 1
     congr 1
     simp_all [shapeP, fieldsP, fitsP]
     try omega
    ·(try simp only [w1, ↓reduceIte, zA])
     cases hZ : (Z == 0)
     ·(try simp only [w1, w2, zH, zI, ↓reduceIte, zA, zB, zC, zD, zE, zF, zG, m1, m2, stl, wr, rd, aRet, aRes, aRes1, toCells, zJ, zK])
      refine ⟨?_, hs⟩
      congr 1
      congr 1
      simp_all [shapeP, fieldsP, fitsP]
      try omega
     ·(try simp only [w1, w2, zH, zI, ↓reduceIte, zA, zB, zC, zD, zE, zF, zG, m1, m2, stl, wr, rd, aRet, aRes, aRes1, toCells, zJ, zK])
      refine ⟨?_, hs⟩
      congr 1
      congr 1
      simp_all [shapeP, fieldsP, fitsP]
      try omega
 ·
  simp only [w1, w2, zH, zI, ↓reduceIte, zA, zB, zF, m1, m2, aRet, aRes, aRes1]
  refine R_calls rfl (by simp only [w1, w2, ↓reduceIte]; exact l1reg_ok _ _) ?_
  rintro v μ' ⟨rfl, rfl⟩
  simp only [w1, ↓reduceIte]
  cases hA : regP A
  ·(try simp only [w1, ↓reduceIte, zA])
   refine ⟨?_, hs⟩
   congr 1
   congr 1
   simp_all [shapeP, fieldsP, fitsP]
   try omega
  ·(try simp only [w1, w2, ↓reduceIte, zA, m1, m2])
   refine R_calls rfl (by simp only [w1, w2, ↓reduceIte]; exact l1reg_ok _ _) ?_
   rintro v μ' ⟨rfl, rfl⟩
   simp only [w1, ↓reduceIte, zA]
   cases hB : regP B
   ·(try simp only [w1, ↓reduceIte, zA])
    refine ⟨?_, hs⟩
    congr 1
    congr 1
    simp_all [shapeP, fieldsP, fitsP]
    try omega
   ·(try simp only [w1, ↓reduceIte, zA])
    cases hN : (N == 0)
    ·(try simp only [w1, ↓reduceIte, zA])
     refine ⟨?_, hs⟩
     congr 1
     congr 1
     simp_all [shapeP, fieldsP, fitsP]
     try omega
    ·(try simp only [w1, ↓reduceIte, zA])
     cases hZ : (Z == 0)
     ·(try simp only [w1, w2, zH, zI, ↓reduceIte, zA, zB, zC, zD, zE, zF, zG, m1, m2, stl, wr, rd, aRet, aRes, aRes1, toCells, zJ, zK])
      refine ⟨?_, hs⟩
      congr 1
      congr 1
      simp_all [shapeP, fieldsP, fitsP]
      try omega
     ·(try simp only [w1, w2, zH, zI, ↓reduceIte, zA, zB, zC, zD, zE, zF, zG, m1, m2, stl, wr, rd, aRet, aRes, aRes1, toCells, zJ, zK])
      refine ⟨?_, hs⟩
      congr 1
      congr 1
      simp_all [shapeP, fieldsP, fitsP]
      try omega
 ·
  simp only [w1, w2, zH, zI, ↓reduceIte, zA, zB, zF, m1, m2, aRet, aRes, aRes1]
  refine R_calls rfl (by simp only [w1, w2, ↓reduceIte]; exact l1reg_ok _ _) ?_
  rintro v μ' ⟨rfl, rfl⟩
  simp only [w1, ↓reduceIte]
  cases hA : regP A
  ·(try simp only [w1, ↓reduceIte, zA])
   refine ⟨?_, hs⟩
   congr 1
   congr 1
   simp_all [shapeP, fieldsP, fitsP]
   try omega
  ·(try simp only [w1, w2, ↓reduceIte, zA, m1, m2])
   cases hB : (B == 0)
   ·(try simp only [w1, ↓reduceIte, zA])
    refine ⟨?_, hs⟩
    congr 1
    congr 1
    simp_all [shapeP, fieldsP, fitsP]
    try omega
   ·(try simp only [w1, ↓reduceIte, zA])
    cases hN : (N == 0)
    ·(try simp only [w1, ↓reduceIte, zA])
     refine ⟨?_, hs⟩
     congr 1
     congr 1
     simp_all [shapeP, fieldsP, fitsP]
     try omega
    ·(try simp only [w1, ↓reduceIte, zA])
     cases hZ : (Z == 0)
     ·(try simp only [w1, w2, zH, zI, ↓reduceIte, zA, zB, zC, zD, zE, zF, zG, m1, m2, stl, wr, rd, aRet, aRes, aRes1, toCells, zJ, zK])
      refine ⟨?_, hs⟩
      congr 1
      congr 1
      simp_all [shapeP, fieldsP, fitsP]
      try omega
     ·(try simp only [w1, w2, zH, zI, ↓reduceIte, zA, zB, zC, zD, zE, zF, zG, m1, m2, stl, wr, rd, aRet, aRes, aRes1, toCells, zJ, zK])
      refine ⟨?_, hs⟩
      congr 1
      congr 1
      simp_all [shapeP, fieldsP, fitsP]
      try omega
 ·
  simp only [w1, w2, zH, zI, ↓reduceIte, zA, zB, zF, m1, m2, aRet, aRes, aRes1]
  refine R_calls rfl (by simp only [w1, w2, ↓reduceIte]; exact l1reg_ok _ _) ?_
  rintro v μ' ⟨rfl, rfl⟩
  simp only [w1, ↓reduceIte]
  cases hA : regP A
  ·(try simp only [w1, ↓reduceIte, zA])
   refine ⟨?_, hs⟩
   congr 1
   congr 1
   simp_all [shapeP, fieldsP, fitsP]
   try omega
  ·(try simp only [w1, w2, ↓reduceIte, zA, m1, m2])
   cases hB : (B == 0)
   ·(try simp only [w1, ↓reduceIte, zA])
    refine ⟨?_, hs⟩
    congr 1
    congr 1
    simp_all [shapeP, fieldsP, fitsP]
    try omega
   ·(try simp only [w1, ↓reduceIte, zA])
    cases hN : (N == 0)
    ·(try simp only [w1, ↓reduceIte, zA])
     refine ⟨?_, hs⟩
     congr 1
     congr 1
     simp_all [shapeP, fieldsP, fitsP]
     try omega
    ·(try simp only [w1, ↓reduceIte, zA])
     cases hZ : (Z == 0)
     ·(try simp only [w1, w2, zH, zI, ↓reduceIte, zA, zB, zC, zD, zE, zF, zG, m1, m2, stl, wr, rd, aRet, aRes, aRes1, toCells, zJ, zK])
      refine ⟨?_, hs⟩
      congr 1
      congr 1
      simp_all [shapeP, fieldsP, fitsP]
      try omega
     ·(try simp only [w1, w2, zH, zI, ↓reduceIte, zA, zB, zC, zD, zE, zF, zG, m1, m2, stl, wr, rd, aRet, aRes, aRes1, toCells, zJ, zK])
      refine ⟨?_, hs⟩
      congr 1
      congr 1
      simp_all [shapeP, fieldsP, fitsP]
      try omega
 ·
  simp only [w1, w2, zH, zI, ↓reduceIte, zA, zB, zF, m1, m2, aRet, aRes, aRes1]
  refine R_calls rfl (by simp only [w1, w2, ↓reduceIte]; exact l1reg_ok _ _) ?_
  rintro v μ' ⟨rfl, rfl⟩
  simp only [w1, ↓reduceIte]
  cases hA : regP A
  ·(try simp only [w1, ↓reduceIte, zA])
   refine ⟨?_, hs⟩
   congr 1
   congr 1
   simp_all [shapeP, fieldsP, fitsP]
   try omega
  ·(try simp only [w1, w2, ↓reduceIte, zA, m1, m2])
   cases hB : (B == 0)
   ·(try simp only [w1, ↓reduceIte, zA])
    refine ⟨?_, hs⟩
    congr 1
    congr 1
    simp_all [shapeP, fieldsP, fitsP]
    try omega
   ·(try simp only [w1, ↓reduceIte, zA])
    cases hN : (N == 0)
    ·(try simp only [w1, ↓reduceIte, zA])
     refine ⟨?_, hs⟩
     congr 1
     congr 1
     simp_all [shapeP, fieldsP, fitsP]
     try omega
    ·(try simp only [w1, w2, ↓reduceIte, zA, m1, m2])
     cases hZ : decide (Z ≥ 0)
     ·(try simp only [w1, w2, zH, zI, ↓reduceIte, zA, zB, zC, zD, zE, zF, zG, m1, m2, stl, wr, rd, aRet, aRes, aRes1, toCells, zJ, zK])
      refine ⟨?_, hs⟩
      congr 1
      congr 1
      simp_all [shapeP, fieldsP, fitsP]
      try omega
     ·(try simp only [w1, w2, zH, zI, ↓reduceIte, zA, zB, zC, zD, zE, zF, zG, m1, m2, stl, wr, rd, aRet, aRes, aRes1, toCells, zJ, zK])
      refine ⟨?_, hs⟩
      congr 1
      congr 1
      simp_all [shapeP, fieldsP, fitsP]
      try omega
 ·
  simp only [w1, w2, zH, zI, ↓reduceIte, zA, zB, zF, m1, m2, aRet, aRes, aRes1]
  cases hA : (A == 0)
  ·(try simp only [w1, ↓reduceIte, zA])
   refine ⟨?_, hs⟩
   congr 1
   congr 1
   simp_all [shapeP, fieldsP, fitsP]
   try omega
  ·(try simp only [w1, w2, ↓reduceIte, zA, m1, m2])
   cases hB : (B == 0)
   ·(try simp only [w1, ↓reduceIte, zA])
    refine ⟨?_, hs⟩
    congr 1
    congr 1
    simp_all [shapeP, fieldsP, fitsP]
    try omega
   ·(try simp only [w1, ↓reduceIte, zA])
    cases hN : (N == 0)
    ·(try simp only [w1, ↓reduceIte, zA])
     refine ⟨?_, hs⟩
     congr 1
     congr 1
     simp_all [shapeP, fieldsP, fitsP]
     try omega
    ·(try simp only [w1, w2, ↓reduceIte, zA, m1, m2])
     cases hZ : decide (Z ≥ 0)
     ·(try simp only [w1, w2, zH, zI, ↓reduceIte, zA, zB, zC, zD, zE, zF, zG, m1, m2, stl, wr, rd, aRet, aRes, aRes1, toCells, zJ, zK])
      refine ⟨?_, hs⟩
      congr 1
      congr 1
      simp_all [shapeP, fieldsP, fitsP]
      try omega
     ·(try simp only [w1, w2, zH, zI, ↓reduceIte, zA, zB, zC, zD, zE, zF, zG, m1, m2, stl, wr, rd, aRet, aRes, aRes1, toCells, zJ, zK])
      refine ⟨?_, hs⟩
      congr 1
      congr 1
      simp_all [shapeP, fieldsP, fitsP]
      try omega
 ·
  simp only [w1, w2, zH, zI, ↓reduceIte, zA, zB, zF, m1, m2, aRet, aRes, aRes1]
  cases hA : (A == 0)
  ·(try simp only [w1, ↓reduceIte, zA])
   refine ⟨?_, hs⟩
   congr 1
   congr 1
   simp_all [shapeP, fieldsP, fitsP]
   try omega
  ·(try simp only [w1, w2, ↓reduceIte, zA, m1, m2])
   cases hB : (B == 0)
   ·(try simp only [w1, ↓reduceIte, zA])
    refine ⟨?_, hs⟩
    congr 1
    congr 1
    simp_all [shapeP, fieldsP, fitsP]
    try omega
   ·(try simp only [w1, ↓reduceIte, zA])
    cases hN : (N == 0)
    ·(try simp only [w1, ↓reduceIte, zA])
     refine ⟨?_, hs⟩
     congr 1
     congr 1
     simp_all [shapeP, fieldsP, fitsP]
     try omega
    ·(try simp only [w1, w2, ↓reduceIte, zA, m1, m2])
     cases hZ : decide (Z ≥ 0)
     ·(try simp only [w1, w2, zH, zI, ↓reduceIte, zA, zB, zC, zD, zE, zF, zG, m1, m2, stl, wr, rd, aRet, aRes, aRes1, toCells, zJ, zK])
      refine ⟨?_, hs⟩
      congr 1
      congr 1
      simp_all [shapeP, fieldsP, fitsP]
      try omega
     ·(try simp only [w1, w2, zH, zI, ↓reduceIte, zA, zB, zC, zD, zE, zF, zG, m1, m2, stl, wr, rd, aRet, aRes, aRes1, toCells, zJ, zK])
      refine ⟨?_, hs⟩
      congr 1
      congr 1
      simp_all [shapeP, fieldsP, fitsP]
      try omega
 ·
  simp only [w1, w2, zH, zI, ↓reduceIte, zA, zB, zF, m1, m2, aRet, aRes, aRes1]
  refine R_calls rfl (by simp only [w1, w2, ↓reduceIte]; exact l1reg_ok _ _) ?_
  rintro v μ' ⟨rfl, rfl⟩
  simp only [w1, ↓reduceIte]
  cases hA : regP A
  ·(try simp only [w1, ↓reduceIte, zA])
   refine ⟨?_, hs⟩
   congr 1
   congr 1
   simp_all [shapeP, fieldsP, fitsP]
   try omega
  ·(try simp only [w1, w2, ↓reduceIte, zA, m1, m2])
   cases hB : (B == 0)
   ·(try simp only [w1, ↓reduceIte, zA])
    refine ⟨?_, hs⟩
    congr 1
    congr 1
    simp_all [shapeP, fieldsP, fitsP]
    try omega
   ·(try simp only [w1, ↓reduceIte, zA])
    cases hN : (N == 0)
    ·(try simp only [w1, ↓reduceIte, zA])
     refine ⟨?_, hs⟩
     congr 1
     congr 1
     simp_all [shapeP, fieldsP, fitsP]
     try omega
    ·(try simp only [w1, w2, ↓reduceIte, zA, m1, m2])
     cases hZ : decide (Z ≥ 0)
     ·(try simp only [w1, w2, zH, zI, ↓reduceIte, zA, zB, zC, zD, zE, zF, zG, m1, m2, stl, wr, rd, aRet, aRes, aRes1, toCells, zJ, zK])
      refine ⟨?_, hs⟩
      congr 1
      congr 1
      simp_all [shapeP, fieldsP, fitsP]
      try omega
     ·(try simp only [w1, w2, zH, zI, ↓reduceIte, zA, zB, zC, zD, zE, zF, zG, m1, m2, stl, wr, rd, aRet, aRes, aRes1, toCells, zJ, zK])
      refine ⟨?_, hs⟩
      congr 1
      congr 1
      simp_all [shapeP, fieldsP, fitsP]
      try omega
 ·
  simp only [w1, w2, zH, zI, ↓reduceIte, zA, zB, zF, m1, m2, aRet, aRes, aRes1]
  refine R_calls rfl (by simp only [w1, w2, ↓reduceIte]; exact l1reg_ok _ _) ?_
  rintro v μ' ⟨rfl, rfl⟩
  simp only [w1, ↓reduceIte]
  cases hA : regP A
  ·(try simp only [w1, ↓reduceIte, zA])
   refine ⟨?_, hs⟩
   congr 1
   congr 1
   simp_all [shapeP, fieldsP, fitsP]
   try omega
  ·(try simp only [w1, w2, ↓reduceIte, zA, m1, m2])
   cases hB : (B == 0)
   ·(try simp only [w1, ↓reduceIte, zA])
    refine ⟨?_, hs⟩
    congr 1
    congr 1
    simp_all [shapeP, fieldsP, fitsP]
    try omega
   ·(try simp only [w1, ↓reduceIte, zA])
    cases hN : (N == 0)
    ·(try simp only [w1, ↓reduceIte, zA])
     refine ⟨?_, hs⟩
     congr 1
     congr 1
     simp_all [shapeP, fieldsP, fitsP]
     try omega
    ·(try simp only [w1, w2, ↓reduceIte, zA, m1, m2])
     cases hZ : decide (Z ≥ 0)
     ·(try simp only [w1, w2, zH, zI, ↓reduceIte, zA, zB, zC, zD, zE, zF, zG, m1, m2, stl, wr, rd, aRet, aRes, aRes1, toCells, zJ, zK])
      refine ⟨?_, hs⟩
      congr 1
      congr 1
      simp_all [shapeP, fieldsP, fitsP]
      try omega
     ·(try simp only [w1, w2, zH, zI, ↓reduceIte, zA, zB, zC, zD, zE, zF, zG, m1, m2, stl, wr, rd, aRet, aRes, aRes1, toCells, zJ, zK])
      refine ⟨?_, hs⟩
      congr 1
      congr 1
      simp_all [shapeP, fieldsP, fitsP]
      try omega

end Go.Proofs.Ytibmnlijoeppaaa
namespace Go.Proofs.Ytibmnlijoeppaaa
set_option linter.unusedSimpArgs false
set_option linter.unusedVariables false

/-- The specification's test: the steps from i up to 'to'. -/
def insideP (l : List PStep) : Nat → Nat → Nat → Nat → Bool → Int × Int
 | 0, _, _, _, _ => (0, 0)
 | f + 1, i, to, deep, d =>
  if i < to then
   match l[i]? with
   | none => (0, 0)
   | some s =>
    if headP s.op = true then
     if s.size > (to : Int) - i - 1 then (4, i)
     else if deep = 12 then (5, i)
     else
      let r := insideP l f (i + 1) (i + 1 + s.size.toNat) (deep + 1) (d || s.op == 13)
      if r.1 ≠ 0 then r else insideP l f (i + 1 + s.size.toNat) to deep d
    else if s.op = 10 ∧ d = true then (6, i)
    else insideP l f (i + 1) to deep d
  else (0, 0)

/-- More fuel changes nothing. -/
theorem insideP_fuel {l : List PStep} : ∀ {f f' i to deep : Nat} {d : Bool}, to - i ≤ f → to - i ≤ f' → (∀ s ∈ l, 0 ≤ s.size) → insideP l f i to deep d = insideP l f' i to deep d := by
 intro f
 induction f with
 | zero =>
  intro f' i to deep d h h' hs
  cases f' with
  | zero => rfl
  | succ f' => simp only [insideP]; rw [if_neg (by omega)]
 | succ f ih =>
  intro f' i to deep d h h' hs
  cases f' with
  | zero => simp only [insideP]; rw [if_neg (by omega)]
  | succ f' =>
   simp only [insideP]
   by_cases hi : i < to
   ·rw [if_pos hi, if_pos hi]
    cases hl : l[i]? with
    | none => rfl
    | some s =>
     dsimp only
     have hsz := hs s (List.mem_of_getElem? hl)
     by_cases hh : headP s.op = true
     ·rw [if_pos hh, if_pos hh]
      by_cases h4 : s.size > (to : Int) - i - 1
      ·rw [if_pos h4, if_pos h4]
      ·rw [if_neg h4, if_neg h4]
       by_cases h5 : deep = 12
       ·rw [if_pos h5, if_pos h5]
       ·rw [if_neg h5, if_neg h5]
        rw [ih (f' := f') (by omega) (by omega) hs, ih (f' := f') (i := i + 1 + s.size.toNat) (by omega) (by omega) hs]
     ·rw [if_neg hh, if_neg hh]
      by_cases h6 : s.op = 10 ∧ d = true
      ·rw [if_pos h6, if_pos h6]
      ·rw [if_neg h6, if_neg h6, ih (f' := f') (by omega) (by omega) hs]
   ·rw [if_neg hi, if_neg hi]

/-- The program's test keeps open blocks on a stack, the innermost one first. -/
def popR (s : Int) : List (Int × Bool) → List (Int × Bool)
 | [] => []
 | [x] => [x]
 | x :: y :: r => if s ≥ x.1 then popR s (y :: r) else x :: y :: r

def nestGo : List PStep → Nat → List (Int × Bool) → Int × Int
 | [], _, _ => (0, 0)
 | x :: l, s, stk =>
  match popR s stk with
  | [] => (0, 0)
  | top :: r =>
   if headP x.op = true then
    if x.size > top.1 - s - 1 then (4, s)
    else if (r.length : Int) ≥ 12 then (5, s)
    else nestGo l (s + 1) ((s + 1 + x.size, top.2 || x.op == 13) :: top :: r)
   else if x.op = 10 ∧ top.2 = true then (6, s)
   else nestGo l (s + 1) (top :: r)

theorem popR_popR {s : Int} : ∀ {l : List (Int × Bool)}, popR s (popR s l) = popR s l
 | [] => rfl
 | [x] => rfl
 | x :: y :: r => by
  simp only [popR]
  by_cases h : s ≥ x.1
  ·rw [if_pos h]; exact popR_popR
  ·rw [if_neg h]; simp only [popR]; rw [if_neg h]

theorem nestGo_pop {l : List PStep} {s : Nat} {x y : Int × Bool} {r : List (Int × Bool)} (h : (s : Int) ≥ x.1) : nestGo l s (x :: y :: r) = nestGo l s (y :: r) := by
 cases l with
 | nil => rfl
 | cons a l => simp only [nestGo, popR]; rw [if_pos h]

theorem nest_inside {l : List PStep} (hs : ∀ s ∈ l, 0 ≤ s.size) : ∀ (f i to deep : Nat) (d : Bool) (r : List (Int × Bool)), to - i ≤ f → i ≤ to → to ≤ l.length → r.length = deep → deep ≤ 12 →
  (insideP l f i to deep d).1 ≠ 0 ∧ nestGo (l.drop i) i (((to : Int), d) :: r) = insideP l f i to deep d ∨
  (insideP l f i to deep d).1 = 0 ∧ nestGo (l.drop i) i (((to : Int), d) :: r) = nestGo (l.drop to) to (((to : Int), d) :: r) := by
 intro f
 induction f with
 | zero =>
  intro i to deep d r h1 h2 h3 h4 h5
  have : i = to := by omega
  subst this
  exact .inr ⟨rfl, rfl⟩
 | succ f ih =>
  intro i to deep d r h1 h2 h3 h4 h5
  by_cases hi : i < to
  ·have hlt : i < l.length := by omega
   have hget : l[i]? = some l[i] := List.getElem?_eq_getElem hlt
   have hdrop : l.drop i = l[i] :: l.drop (i + 1) := List.drop_eq_getElem_cons hlt
   have hsz := hs l[i] (List.getElem_mem hlt)
   have hpop : popR (i : Int) (((to : Int), d) :: r) = ((to : Int), d) :: r := by
    cases r with
    | nil => rfl
    | cons y r => simp only [popR]; rw [if_neg (by omega)]
   simp only [insideP, if_pos hi, hget]
   rw [hdrop]
   simp only [nestGo, hpop]
   by_cases hh : headP l[i].op = true
   ·rw [if_pos hh, if_pos hh]
    by_cases h6 : l[i].size > (to : Int) - i - 1
    ·rw [if_pos h6, if_pos h6]; exact .inl ⟨by simp, rfl⟩
    ·rw [if_neg h6, if_neg h6]
     by_cases h7 : deep = 12
     ·rw [if_pos h7, if_pos (by omega)]; exact .inl ⟨by simp, rfl⟩
     ·have h8 : ¬ ((r.length : Int) ≥ 12) := by omega
      rw [if_neg h7, if_neg h8]
      have hc : ((i : Int) + 1 + l[i].size) = ((i + 1 + l[i].size.toNat : Nat) : Int) := by omega
      rw [hc]
      rcases ih (i + 1) (i + 1 + l[i].size.toNat) (deep + 1) (d || l[i].op == 13) (((to : Int), d) :: r) (by omega) (by omega) (by omega) (by simp [h4]) (by omega) with ⟨e1, e2⟩ | ⟨e1, e2⟩
      ·rw [if_pos e1]; exact .inl ⟨e1, e2⟩
      ·rw [if_neg (by simpa using e1), e2, nestGo_pop (by simp)]
       rcases ih (i + 1 + l[i].size.toNat) to deep d r (by omega) (by omega) h3 h4 h5 with ⟨e3, e4⟩ | ⟨e3, e4⟩
       ·exact .inl ⟨e3, e4⟩
       ·exact .inr ⟨e3, e4⟩
   ·rw [if_neg hh, if_neg hh]
    by_cases h6 : l[i].op = 10 ∧ d = true
    ·rw [if_pos h6, if_pos h6]; exact .inl ⟨by simp, rfl⟩
    ·rw [if_neg h6, if_neg h6]
     exact ih (i + 1) to deep d r (by omega) (by omega) h3 h4 h5
  ·have : i = to := by omega
   subst this
   refine .inr ⟨?_, rfl⟩
   simp [insideP]

def nestP (l : List PStep) : Int × Int := nestGo l 0 [((l.length : Int), false)]
def insideAll (l : List PStep) : Int × Int := insideP l l.length 0 l.length 0 false

/-- What is told when there is no fault: (0, 0). -/
theorem insideP_zero {l : List PStep} : ∀ {f i to deep : Nat} {d : Bool}, (insideP l f i to deep d).1 = 0 → insideP l f i to deep d = (0, 0) := by
 intro f
 induction f with
 | zero => intro i to deep d _; rfl
 | succ f ih =>
  intro i to deep d h
  simp only [insideP] at h ⊢
  split
  ·rename_i hi
   rw [if_pos hi] at h
   cases hl : l[i]? with
   | none => rfl
   | some s =>
    rw [hl] at h
    dsimp only at h ⊢
    split
    ·rename_i hh
     rw [if_pos hh] at h
     split
     ·rename_i h4; rw [if_pos h4] at h; simp at h
     ·rename_i h4
      rw [if_neg h4] at h
      split
      ·rename_i h5; rw [if_pos h5] at h; simp at h
      ·rename_i h5
       rw [if_neg h5] at h
       split
       ·rename_i h6; rw [if_pos h6] at h; exact absurd h h6
       ·rename_i h6; rw [if_neg h6] at h; exact ih h
    ·rename_i hh
     rw [if_neg hh] at h
     split
     ·rename_i h6; rw [if_pos h6] at h; simp at h
     ·rename_i h6; rw [if_neg h6] at h; exact ih h
  ·rfl

theorem nest_eq {l : List PStep} (hs : ∀ s ∈ l, 0 ≤ s.size) : nestP l = insideAll l := by
 rcases nest_inside hs l.length 0 l.length 0 false [] (by omega) (by omega) (Nat.le_refl _) rfl (by omega) with ⟨e1, e2⟩ | ⟨e1, e2⟩
 ·exact e2
 ·unfold nestP insideAll
  rw [insideP_zero e1, List.drop_zero] at *
  rw [e2, List.drop_length]
  rfl
end Go.Proofs.Ytibmnlijoeppaaa
namespace Go.Proofs.Ytibmnlijoeppaaa
open Nat renaming reduceEqDiff → zA, reduceAdd → zB, reduceLeDiff → zJ, reduceMul → zK
open Int renaming reduceLT → zC, reduceLE → zD, reduceNeg → zE, reduceBEq → zF, reduceBNe → zG
open AV renaming isTup → zH, cells → zI
set_option linter.unusedSimpArgs false
set_option linter.unusedVariables false

/-! 60: spec.l1inside -/
def b60_0 : RCode := (.seq (.seq (.reg [rI 0 (.mv (.t 12)) 17, rI 1 (.mv (.t 2)) 18, rI 2 (.bin .lss (.t 17) (.t 18)) 19]) (.ite (.t 19) .skip (.exit 0))) (.seq (.blk 1 (.seq (.reg [rI 0 (.fa (.t 5) 0) 22, rI 1 (.ld none (.t 22)) 23, rI 2 (.mv (.t 12)) 24, rI 3 (.ias (.t 23) (.t 24) 5) 25, rI 4 (.ld (some 5) (.t 25)) 26, rI 5 (.alc [.int .i64 0, .int .i64 0, .int .i64 0, .int .i64 0, .int .i64 0]) 13, ⟨6, .st (.t 13) (.t 26) 5, none, none, []⟩]) (.seq (.seq (.reg [rI 0 (.fa (.t 13) 0) 27, rI 1 (.ld none (.t 27)) 28, rI 2 (.call 87 [.t 28]) 29, rI 3 (.nt (.t 29)) 30]) (.ite (.t 30) (.seq (.seq (.reg [rI 0 (.fa (.t 13) 0) 31, rI 1 (.ld none (.t 31)) 32, rI 2 (.bin .eql (.t 32) (.k (.int .i64 10))) 33, rI 3 (.mv (.t 33)) 34, ⟨4, .mv (.t 4), some 35, some (34, true), []⟩, rI 5 (.pick (.t 34) (.t 35) (.k (.bool false))) 36]) (.ite (.t 36) (.seq (.reg [rI 0 (.mv (.t 12)) 37, rI 1 (.mv (.k (.int .i64 6))) 10, rI 2 (.mv (.t 37)) 11]) .ret) .skip)) (.exit 1)) .skip)) (.seq (.seq (.reg [rI 0 (.fa (.t 13) 4) 38, rI 1 (.ld none (.t 38)) 39, rI 2 (.mv (.t 2)) 40, rI 3 (.mv (.t 12)) 41, rI 4 (.bin .sub (.t 40) (.t 41)) 42, rI 5 (.bin .sub (.t 42) (.k (.int .i64 1))) 43, rI 6 (.bin .gtr (.t 39) (.t 43)) 44]) (.ite (.t 44) (.seq (.reg [rI 0 (.mv (.t 12)) 45, rI 1 (.mv (.k (.int .i64 4))) 10, rI 2 (.mv (.t 45)) 11]) .ret) .skip)) (.seq (.seq (.reg [rI 0 (.mv (.t 3)) 46, rI 1 (.bin .eql (.t 46) (.k (.int .i64 12))) 47]) (.ite (.t 47) (.seq (.reg [rI 0 (.mv (.t 12)) 48, rI 1 (.mv (.k (.int .i64 5))) 10, rI 2 (.mv (.t 48)) 11]) .ret) .skip)) (.seq (.reg [rI 0 (.ld (some 1) (.t 5)) 50, rI 1 (.mv (.t 12)) 51, rI 2 (.bin .add (.t 51) (.k (.int .i64 1))) 52, rI 3 (.mv (.t 12)) 53, rI 4 (.bin .add (.t 53) (.k (.int .i64 1))) 54, rI 5 (.fa (.t 13) 4) 55, rI 6 (.ld none (.t 55)) 56, rI 7 (.bin .add (.t 54) (.t 56)) 57, rI 8 (.mv (.t 3)) 58, rI 9 (.bin .add (.t 58) (.k (.int .i64 1))) 59, rI 10 (.mv (.t 4)) 60, rI 11 (.mv (.t 60)) 61, ⟨12, .fa (.t 13) 0, some 62, some (61, false), []⟩, ⟨13, .ld none (.t 62), some 63, some (61, false), []⟩, ⟨14, .bin .eql (.t 63) (.k (.int .i64 13)), some 64, some (61, false), []⟩, rI 15 (.pick (.t 61) (.k (.bool true)) (.t 64)) 65, rI 16 (.call 60 [.t 50, .t 52, .t 57, .t 59, .t 65]) 66, rI 17 (.mv (.t 66)) 49, rI 18 (.ext (.t 49) 0) 67, rI 19 (.ext (.t 49) 1) 68, rI 20 (.mv (.t 67)) 14, rI 21 (.mv (.t 68)) 15]) (.seq (.seq (.reg [rI 0 (.mv (.t 14)) 69, rI 1 (.bin .neq (.t 69) (.k (.int .i64 0))) 70]) (.ite (.t 70) (.seq (.reg [rI 0 (.mv (.t 14)) 71, rI 1 (.mv (.t 15)) 72, rI 2 (.mv (.t 71)) 10, rI 3 (.mv (.t 72)) 11]) .ret) .skip)) (.reg [rI 0 (.mv (.t 12)) 73, rI 1 (.fa (.t 13) 4) 74, rI 2 (.ld none (.t 74)) 75, rI 3 (.bin .add (.t 73) (.t 75)) 76, rI 4 (.mv (.t 76)) 12])))))))) (.reg [rI 0 (.mv (.t 12)) 20, rI 1 (.bin .add (.t 20) (.k (.int .i64 1))) 21, rI 2 (.mv (.t 21)) 12])))
def r60 : RFun := ⟨77, [.tmp 10, .tmp 11], (.seq (.reg [rI 0 (.box (.t 0) 1) 5, rI 1 (.mv (.k (.int .i64 0))) 10, rI 2 (.mv (.k (.int .i64 0))) 11]) (.seq (.seq (.reg [rI 0 (.mv (.t 1)) 16, rI 1 (.mv (.t 16)) 12]) (.blk 0 (.loop b60_0))) (.seq (.reg [rI 0 (.mv (.k (.int .i64 0))) 10, rI 1 (.mv (.k (.int .i64 0))) 11]) .ret)))⟩
theorem p60 : prog 60 = some r60 := by kernel_rfl

/-! 64: impl.nest -/
def b64_0 : RCode := (.seq (.seq (.reg [rI 0 (.mv (.t 5)) 20, rI 1 (.len (.t 20)) 21, rI 2 (.bin .gtr (.t 21) (.k (.int .i64 1))) 22, rI 3 (.mv (.t 22)) 23, ⟨4, .mv (.t 6), some 24, some (23, true), []⟩, ⟨5, .mv (.t 5), some 25, some (23, true), []⟩, ⟨6, .mv (.t 5), some 26, some (23, true), []⟩, ⟨7, .len (.t 26), some 27, some (23, true), []⟩, ⟨8, .bin .sub (.t 27) (.k (.int .i64 1)), some 28, some (23, true), []⟩, ⟨9, .ias (.t 25) (.t 28) 2, some 29, some (23, true), []⟩, ⟨10, .fa (.t 29) 0, some 30, some (23, true), []⟩, ⟨11, .ld none (.t 30), some 31, some (23, true), []⟩, ⟨12, .bin .geq (.t 24) (.t 31), some 32, some (23, true), []⟩, rI 13 (.pick (.t 23) (.t 32) (.k (.bool false))) 33]) (.ite (.t 33) .skip (.exit 2))) (.blk 3 (.reg [rI 0 (.mv (.t 5)) 34, rI 1 (.mv (.t 5)) 35, rI 2 (.len (.t 35)) 36, rI 3 (.bin .sub (.t 36) (.k (.int .i64 1))) 37, rI 4 (.slc 2 (.t 34) none (some (.t 37))) 38, rI 5 (.mv (.t 38)) 5])))
def b64_1 : RCode := (.seq (.reg [rI 0 (.bin .lss (.t 15) (.t 14)) 16]) (.seq (.ite (.t 16) .skip (.exit 0)) (.seq (.blk 1 (.seq (.reg [rI 0 (.mv (.t 15)) 17, rI 1 (.ias (.t 13) (.t 15) 5) 18, rI 2 (.ld (some 5) (.t 18)) 19, rI 3 (.alc [.int .i64 0, .int .i64 0, .int .i64 0, .int .i64 0, .int .i64 0]) 7, rI 4 (.mv (.t 17)) 6, ⟨5, .st (.t 7) (.t 19) 5, none, none, []⟩]) (.seq (.blk 2 (.loop b64_0)) (.seq (.reg [rI 0 (.mv (.t 5)) 39, rI 1 (.mv (.t 5)) 40, rI 2 (.len (.t 40)) 41, rI 3 (.bin .sub (.t 41) (.k (.int .i64 1))) 42, rI 4 (.ias (.t 39) (.t 42) 2) 43, rI 5 (.ld (some 2) (.t 43)) 44, rI 6 (.alc [.int .i64 0, .bool false]) 8, ⟨7, .st (.t 8) (.t 44) 2, none, none, []⟩]) (.seq (.seq (.reg [rI 0 (.fa (.t 7) 0) 45, rI 1 (.ld none (.t 45)) 46, rI 2 (.call 89 [.t 46]) 47]) (.ite (.t 47) (.seq (.seq (.reg [rI 0 (.fa (.t 7) 4) 48, rI 1 (.ld none (.t 48)) 49, rI 2 (.fa (.t 8) 0) 50, rI 3 (.ld none (.t 50)) 51, rI 4 (.mv (.t 6)) 52, rI 5 (.bin .sub (.t 51) (.t 52)) 53, rI 6 (.bin .sub (.t 53) (.k (.int .i64 1))) 54, rI 7 (.bin .gtr (.t 49) (.t 54)) 55]) (.ite (.t 55) (.seq (.reg [rI 0 (.mv (.t 1)) 56, rI 1 (.mv (.t 6)) 57, rI 2 (.bld [.int .i64 0, .int .i64 0, .int .i64 0] [(0, 1, .k (.int .i64 4)), (1, 1, .t 56), (2, 1, .t 57)]) 58, ⟨3, .st (.t 4) (.t 58) 3, none, none, []⟩]) .ret) .skip)) (.seq (.seq (.reg [rI 0 (.mv (.t 5)) 59, rI 1 (.len (.t 59)) 60, rI 2 (.bin .sub (.t 60) (.k (.int .i64 1))) 61, rI 3 (.bin .geq (.t 61) (.k (.int .i64 12))) 62]) (.ite (.t 62) (.seq (.reg [rI 0 (.mv (.t 1)) 63, rI 1 (.mv (.t 6)) 64, rI 2 (.bld [.int .i64 0, .int .i64 0, .int .i64 0] [(0, 1, .k (.int .i64 5)), (1, 1, .t 63), (2, 1, .t 64)]) 65, ⟨3, .st (.t 4) (.t 65) 3, none, none, []⟩]) .ret) .skip)) (.reg [rI 0 (.mv (.t 5)) 66, rI 1 (.mv (.t 6)) 67, rI 2 (.bin .add (.t 67) (.k (.int .i64 1))) 68, rI 3 (.fa (.t 7) 4) 69, rI 4 (.ld none (.t 69)) 70, rI 5 (.bin .add (.t 68) (.t 70)) 71, rI 6 (.fa (.t 8) 1) 72, rI 7 (.ld none (.t 72)) 73, rI 8 (.mv (.t 73)) 74, ⟨9, .fa (.t 7) 0, some 75, some (74, false), []⟩, ⟨10, .ld none (.t 75), some 76, some (74, false), []⟩, ⟨11, .bin .eql (.t 76) (.k (.int .i64 13)), some 77, some (74, false), []⟩, rI 12 (.pick (.t 74) (.k (.bool true)) (.t 77)) 78, rI 13 (.bld [.int .i64 0, .bool false] [(0, 1, .t 71), (1, 1, .t 78)]) 79, rI 14 (.bsl [.int .i64 0, .bool false] 1 [(0, .t 79)]) 80, rI 15 (.app 2 16 (.t 66) (.t 80)) 81, rI 16 (.mv (.t 81)) 5]))) .skip)) (.seq (.reg [rI 0 (.fa (.t 7) 0) 82, rI 1 (.ld none (.t 82)) 83, rI 2 (.bin .eql (.t 83) (.k (.int .i64 10))) 84, rI 3 (.mv (.t 84)) 85, ⟨4, .fa (.t 8) 1, some 86, some (85, true), []⟩, ⟨5, .ld none (.t 86), some 87, some (85, true), []⟩, rI 6 (.pick (.t 85) (.t 87) (.k (.bool false))) 88]) (.ite (.t 88) (.seq (.reg [rI 0 (.mv (.t 1)) 89, rI 1 (.mv (.t 6)) 90, rI 2 (.bld [.int .i64 0, .int .i64 0, .int .i64 0] [(0, 1, .k (.int .i64 6)), (1, 1, .t 89), (2, 1, .t 90)]) 91, ⟨3, .st (.t 4) (.t 91) 3, none, none, []⟩]) .ret) .skip))))))) (.reg [rI 0 (.bin .add (.t 15) (.k (.int .i64 1))) 92, rI 1 (.mv (.t 92)) 15]))))
def r64 : RFun := ⟨94, [.cell 4 (some 3)], (.seq (.reg [rI 0 (.alc [.int .i64 0, .int .i64 0, .int .i64 0]) 4]) (.seq (.reg [rI 0 (.mv (.t 0)) 9, rI 1 (.len (.t 9)) 10, rI 2 (.bld [.int .i64 0, .bool false] [(0, 1, .t 10), (1, 1, .k (.bool false))]) 11, rI 3 (.bsl [.int .i64 0, .bool false] 1 [(0, .t 11)]) 12, rI 4 (.mv (.t 12)) 5]) (.seq (.seq (.reg [rI 0 (.mv (.t 0)) 13, rI 1 (.len (.t 13)) 14, rI 2 (.mv (.k (.int .i64 0))) 15]) (.blk 0 (.loop b64_1))) (.seq (.reg [rI 0 (.bld [.int .i64 0, .int .i64 0, .int .i64 0] []) 93, ⟨1, .st (.t 4) (.t 93) 3, none, none, []⟩]) .ret))))⟩
theorem p64 : prog 64 = some r64 := by kernel_rfl



theorem not_gt_int {a b : Int} (h : ¬ a > b) : decide (a > b) = false := decide_eq_false h

theorem l1inside_ok {hi : Nat} {l : List PStep} (hsz : ∀ s ∈ l, 0 ≤ s.size) (hl : l.length ≤ 300) : ∀ (n i0 to deep : Nat) (d : Bool) (μ : Mem) (x : Cell), to - i0 ≤ n → Rd hi μ 5 x l.length (cat scells 0 l) → hi ≤ μ.next →
  to ≤ l.length → i0 ≤ to → deep ≤ 12 →
  Ret 60 [.agg [x], .c (.int .i64 i0), .c (.int .i64 to), .c (.int .i64 deep), .c (.bool d)] μ fun v μ' =>
   v = .tup [.int .i64 (insideP l (to - i0) i0 to deep d).1, .int .i64 (insideP l (to - i0) i0 to deep d).2] ∧ Same μ.next μ μ' := by
 intro n
 induction n with
 | zero =>
  intro i0 to deep d μ x h1 h2 h3 h4 h5 h6
  have : i0 = to := by omega
  subst this
  refine Ret_of p60 (by simp [r60]) ?_
  simp only [rI, r60, frOf_5]
  simp only [w1, w2, zH, zI, ↓reduceIte, zA, m1, aRet, aRes, aRes1]
  rw [R_loop]
  simp only [rI, b60_0]
  simp only [w1, w2, ↓reduceIte, zA]
  rw [decide_eq_false (by omega)]
  simp only [w1]
  rw [R_exit rfl]
  simp only [w1, w2, ↓reduceIte, zA, m1, m2, toCells]
  simp only [Nat.sub_self, insideP]
  exact ⟨trivial, Same.tmp (Nat.le_refl _)⟩
 | succ n ihn =>
  intro i0 to deep d μ0 x hn hR hh hto hi0 hdeep
  -- the loop
  have loop : ∀ (k i : Nat) (fr : Fr) (μ : Mem) (s : List It) (Q : Fr → Mem → Prop), to - i ≤ k → i ≤ to → i0 ≤ i → Same (μ0.next + 1) (μ0.new [x] 0) μ →
    fr 2 = .c (.int .i64 to) → fr 3 = .c (.int .i64 deep) → fr 4 = .c (.bool d) → fr 5 = .c (.ptr (some (μ0.next, 0))) → fr 12 = .c (.int .i64 i) →
    (∀ fr' μ', Same (μ0.next + 1) (μ0.new [x] 0) μ' → fr' 10 = .c (.int .i64 (insideP l (to - i) i to deep d).1) → fr' 11 = .c (.int .i64 (insideP l (to - i) i to deep d).2) → Q fr' μ') →
    (∀ fr' μ', Same (μ0.next + 1) (μ0.new [x] 0) μ' → insideP l (to - i) i to deep d = (0, 0) → R s fr' μ' Q) →
    R (.c (.loop b60_0) :: .blk 0 :: s) fr μ Q := by
   intro k
   induction k with
   | zero =>
    intro i fr μ s Q hk hito hii hs h2 h3 h4 h5 h12 hret hend
    rw [R_loop]
    simp only [rI, b60_0]
    simp only [w1, w2, ↓reduceIte, zA, h2, h12]
    rw [decide_eq_false (by omega)]
    simp only [w1]
    rw [R_exit rfl]
    refine hend _ _ hs ?_
    rw [show to - i = 0 by omega]
    rfl
   | succ k ih =>
    intro i fr μ s Q hk hito hii hs h2 h3 h4 h5 h12 hret hend
    rcases Nat.lt_or_ge i to with hilt | hige
    case inr =>
     rw [R_loop]
     simp only [rI, b60_0]
     simp only [w1, w2, ↓reduceIte, zA, h2, h12]
     rw [decide_eq_false (by omega)]
     simp only [w1]
     rw [R_exit rfl]
     refine hend _ _ hs ?_
     rw [show to - i = 0 by omega]
     rfl
    have hlt : i < l.length := by omega
    have hget : l[i]? = some l[i] := List.getElem?_eq_getElem hlt
    have hz := hsz l[i] (List.getElem_mem hlt)
    have hR0 : Rd hi (μ0.new [x] 0) 5 x l.length (cat scells 0 l) := hR.same (Same.tmp (Nat.le_refl _)) hh
    have hR1 : Rd hi μ 5 x l.length (cat scells 0 l) := hR0.same hs (by omega)
    obtain ⟨bi, bo, e1, e2, e3, e4⟩ := hR1.row scells_len (by omega) hget
    have hx : μ.ld none μ0.next 0 = some (.c x) := by
     rw [hs.ld (by omega)]
     simp only [m1, m2, w2, ↓reduceIte]
    have hnx : μ0.next + 1 ≤ μ.next := hs.2
    have hto1 : to - i = (to - i - 1) + 1 := by omega
    rw [hto1] at hret hend
    simp only [insideP, if_pos (show i < to by omega), hget] at hret hend
    rw [R_loop]
    simp only [rI, b60_0]
    simp only [w1, w2, ↓reduceIte, zA, h2, h12]
    rw [decide_eq_true (by omega)]
    simp only [w1, w2, zH, zI, ↓reduceIte, zA, zB, m1, m2, stl, wr, zJ, h5, h12, hx, e1, e3, scells]
    refine R_calls rfl (by simp only [w1, w2, ↓reduceIte]; exact l1block_ok _ _) ?_
    rintro v μ1 ⟨rfl, rfl⟩
    simp only [w1, ↓reduceIte]
    have hs1 : Same (μ0.next + 1) (μ0.new [x] 0) (μ.new [.int .i64 l[i].op, .int .i64 l[i].a, .int .i64 l[i].b, .int .i64 l[i].n, .int .i64 l[i].size] 0) := hs.new hnx
    cases hh' : headP l[i].op with
    | false =>
     rw [hh'] at hret hend
     simp only [Bool.false_eq_true, if_false] at hret hend
     simp only [w1, w2, ↓reduceIte, zA, m1, m2]
     by_cases h10 : l[i].op = 10
     ·have h10' : (l[i].op == 10) = true := by simpa using h10
      simp only [w1, ↓reduceIte, zA, h10', h4]
      cases d with
      | true =>
       simp only [h10, and_self, if_true] at hret
       simp only [w1, w2, ↓reduceIte, zA, h12]
       refine hret _ _ (hs.new hnx) ?_ ?_
       ·simp only [w1, ↓reduceIte, zA]
       ·simp only [w1, ↓reduceIte]
      | false =>
       simp only [h10, Bool.false_eq_true, and_false, if_false] at hret hend
       simp only [w1]
       rw [R_exit rfl]
       simp only [w1, w2, ↓reduceIte, zA, h12]
       rw [R_lp]
       rw [show to - i - 1 = to - (i + 1) by omega] at hret hend
       rw [small (by omega)]
       refine ih (i + 1) _ _ s Q (by omega) (by omega) (by omega) (hs.new hnx) ?_ ?_ ?_ ?_ ?_ hret hend
       ·simp only [w1, ↓reduceIte, zA, h2]
       ·simp only [w1, ↓reduceIte, zA, h3]
       ·simp only [w1, ↓reduceIte, zA, h4]
       ·simp only [w1, ↓reduceIte, zA, h5]
       ·simp only [w1, ↓reduceIte]; rfl
     ·simp only [w1, ↓reduceIte, zA, beq_ff h10]
      simp only [h10, false_and, if_false] at hret hend
      rw [R_exit rfl]
      simp only [w1, w2, ↓reduceIte, zA, h12]
      rw [R_lp]
      rw [show to - i - 1 = to - (i + 1) by omega] at hret hend
      rw [small (by omega)]
      refine ih (i + 1) _ _ s Q (by omega) (by omega) (by omega) (hs.new hnx) ?_ ?_ ?_ ?_ ?_ hret hend
      ·simp only [w1, ↓reduceIte, zA, h2]
      ·simp only [w1, ↓reduceIte, zA, h3]
      ·simp only [w1, ↓reduceIte, zA, h4]
      ·simp only [w1, ↓reduceIte, zA, h5]
      ·simp only [w1, ↓reduceIte]; rfl
    | true =>
     rw [hh'] at hret hend
     simp only [if_true] at hret hend
     simp only [w1, w2, ↓reduceIte, zA, m1, m2, h2, h12]
     rw [small (n := (to : Int) - i) (by omega), small (n := (to : Int) - i - 1) (by omega)]
     by_cases h6 : l[i].size > (to : Int) - i - 1
     ·rw [if_pos h6] at hret hend
      rw [decide_eq_true h6]
      simp only [w1, w2, ↓reduceIte, zA, h12]
      refine hret _ _ (hs.new hnx) ?_ ?_
      ·simp only [w1, ↓reduceIte, zA]
      ·simp only [w1, ↓reduceIte]
     ·rw [if_neg h6] at hret hend
      rw [decide_eq_false h6]
      simp only [w1, w2, ↓reduceIte, zA, h3]
      have h7' : ((deep : Int) == 12) = decide (deep = 12) := by
       by_cases h7 : deep = 12
       ·simp [h7]
       ·have : (deep : Int) ≠ 12 := by omega
        simp [h7, this]
      by_cases h7 : deep = 12
      ·rw [if_pos h7] at hret hend
       rw [h7', decide_eq_true h7]
       simp only [w1, w2, ↓reduceIte, zA, h12]
       refine hret _ _ (hs.new hnx) ?_ ?_
       ·simp only [w1, ↓reduceIte, zA]
       ·simp only [w1, ↓reduceIte]
      ·rw [if_neg h7] at hret hend
       rw [h7', decide_eq_false h7]
       simp only [w1, w2, ↓reduceIte, zA, m1, m2, rd, h3, h4, h5, h12]
       obtain ⟨e, hE⟩ : ∃ e, e = i + 1 + l[i].size.toNat := ⟨_, rfl⟩
       rw [← hE] at hret hend
       have hbx : μ.ld (some 1) μ0.next 0 = some (.agg [x]) := by
        rw [hs.ld (by omega)]
        simp only [m1, m2, rd, w2, ↓reduceIte]
       have hne : ¬ μ0.next = μ.next := by omega
       have hc1 : IntKind.i64.wrap ((i : Int) + 1) = ((i + 1 : Nat) : Int) := by rw [small (by omega)]; rfl
       have hc2 : IntKind.i64.wrap (((i + 1 : Nat) : Int) + l[i].size) = (e : Int) := by rw [small (by omega)]; omega
       have hc3 : IntKind.i64.wrap ((deep : Int) + 1) = ((deep + 1 : Nat) : Int) := by rw [small (by omega)]; rfl
       simp only [hne, hbx, w2, ↓reduceIte, hc1, hc2, hc3]
       have hzn : (e : Int) = i + 1 + l[i].size := by omega
       cases d
       all_goals
        simp only [w1, w2, ↓reduceIte, zA, m1, m2]
        simp only [Bool.true_or, Bool.false_or] at hret hend
        refine R_calls rfl (by simp only [w1, w2, ↓reduceIte, zA]; exact ihn (i + 1) (e) (deep + 1) _ _ x (by omega) (hR1.same (Same.tmp (Nat.le_refl _)) (by omega)) (by simp only [Mem.new_next]; omega) (by omega) (by omega) (by omega)) ?_
        rintro v μ2 ⟨rfl, hs2⟩
        have hs3 := hs1.trans (hs2.mono (by simp only [Mem.new_next]; omega))
        simp only [w1, w2, ↓reduceIte, zA]
        rw [insideP_fuel (f' := to - i - 1) (by omega) (by omega) hsz]
        split at hret
        ·rename_i hc
         rw [if_pos hc] at hend
         simp only [bne, beq_ff hc, w1, w2, ↓reduceIte, zA]
         refine hret _ _ hs3 ?_ ?_
         ·simp only [w1, ↓reduceIte, zA]
         ·simp only [w1, ↓reduceIte]
        ·rename_i hc
         rw [if_neg hc] at hend
         have hc0 := Decidable.not_not.1 hc
         simp only [hc0, w1, w2, ↓reduceIte, zA, h12]
         rw [hs2.ld (by simp only [Mem.new_next]; omega)]
         simp only [w1, w2, ↓reduceIte, m1, m2]
         rw [small (n := (i : Int) + l[i].size) (by omega), small (by omega), R_lp]
         rw [insideP_fuel (f' := to - (e)) (by omega) (by omega) hsz] at hret hend
         refine ih (e) _ _ s Q (by omega) (by omega) (by omega) hs3 ?_ ?_ ?_ ?_ ?_ hret hend
         ·simp only [w1, ↓reduceIte, zA, h2]
         ·simp only [w1, ↓reduceIte, zA, h3]
         ·simp only [w1, ↓reduceIte, zA, h4]
         ·simp only [w1, ↓reduceIte, zA, h5]
         ·simp only [w1, ↓reduceIte]; rw [show (i : Int) + l[i].size + 1 = (e : Int) by omega]
  refine Ret_of p60 (by simp [r60]) ?_
  simp only [rI, r60, frOf_5]
  simp only [w1, w2, zH, zI, ↓reduceIte, zA, m1, aRet, aRes, aRes1]
  refine loop (to - i0) i0 _ _ _ _ (Nat.le_refl _) hi0 (Nat.le_refl _) Same.refl ?_ ?_ ?_ ?_ ?_ ?_ ?_
  ·simp only [w1, ↓reduceIte, zA]
  ·simp only [w1, ↓reduceIte, zA]
  ·simp only [w1, ↓reduceIte, zA]
  ·simp only [w1, ↓reduceIte, zA]
  ·simp only [w1, ↓reduceIte]
  ·intro fr' μ' hs h10 h11
   simp only [w1, w2, m1, m2, toCells, h10, h11]
   exact (Same.tmp (Nat.le_refl _)).trans (hs.mono (Nat.le_succ _))
  ·intro fr' μ' hs he
   simp only [w1, w2, ↓reduceIte, zA, m1, m2, toCells, he]
   exact (Same.tmp (Nat.le_refl _)).trans (hs.mono (Nat.le_succ _))

def ocells (_ : Nat) (p : Int × Bool) : List Cell := [.int .i64 p.1, .bool p.2]
theorem ocells_len (i : Nat) (p : Int × Bool) : (ocells i p).length = 2 := rfl
def stcon (stk : List (Int × Bool)) : Con Unit := fun _ => some (2, cat ocells 0 stk.reverse)

theorem popR_ne {s : Int} : ∀ {l : List (Int × Bool)}, l ≠ [] → popR s l ≠ []
 | [x], _ => by simp [popR]
 | x :: y :: r, _ => by
  simp only [popR]
  split
  ·exact popR_ne (by simp)
  ·simp

theorem popR_mem {s : Int} : ∀ {l : List (Int × Bool)} {p : Int × Bool}, p ∈ popR s l → p ∈ l
 | [x], p, h => h
 | x :: y :: r, p, h => by
  simp only [popR] at h
  split at h
  ·exact List.mem_cons_of_mem _ (popR_mem h)
  ·exact h

theorem popR_length {s : Int} : ∀ {l : List (Int × Bool)}, (popR s l).length ≤ l.length
 | [] => by simp [popR]
 | [x] => by simp [popR]
 | x :: y :: r => by
  simp only [popR]
  split
  ·exact Nat.le_trans popR_length (by simp)
  ·exact Nat.le_refl _

theorem rev_top {p : Int × Bool} {r : List (Int × Bool)} : (p :: r).reverse[r.length]? = some p := by simp

/-- The loop that closes blocks. -/
theorem popLoop {L : Lay Unit} {lo : Nat} {μ : Mem} {i : Nat} (hi : i ≤ 300) : ∀ (stk : List (Int × Bool)) (fr : Fr) (s : List It) (Q : Fr → Mem → Prop), stk ≠ [] → stk.length ≤ 13 → Has L (stcon stk) lo μ →
  fr 5 = .c (L.sc () stk.length) → fr 6 = .c (.int .i64 i) →
  (∀ fr', Has L (stcon (popR i stk)) lo μ → (∀ t, t < 20 → t ≠ 5 → fr' t = fr t) → fr' 5 = .c (L.sc () (popR i stk).length) → R s fr' μ Q) →
  R (.c (.loop b64_0) :: .blk 2 :: s) fr μ Q
 | [], _, _, _, hne, _, _, _, _, _ => absurd rfl hne
 | [x], fr, s, Q, _, h13, hL, h5, h6, hend => by
  have hon : L.on () = true := hL.on (r := ()) rfl (.inr (by simp [cat, ocells]))
  rw [R_loop]
  simp only [rI, b64_0]
  rw [Lay.sc_slc hon] at h5
  simp only [List.length_cons, List.length_nil, Nat.zero_add] at h5
  have e1 : decide (((1 : Nat) : Int) > 1) = false := rfl
  simp only [w1, w2, ↓reduceIte, zA, h5, e1]
  rw [R_exit rfl]
  refine hend _ hL ?_ ?_
  ·intro t ht ht5
   simp only [w1]
   rw [if_neg (by omega), if_neg (by omega), if_neg (by omega), if_neg (by omega), if_neg (by omega), if_neg (by omega), if_neg (by omega), if_neg (by omega), if_neg (by omega), if_neg (by omega), if_neg (by omega), if_neg (by omega), if_neg (by omega), if_neg (by omega)]
  ·simp only [w1, w2, ↓reduceIte, zA, h5, popR, Lay.sc_slc hon]
 | x :: y :: r, fr, s, Q, _, h13, hL, h5, h6, hend => by
  have hon : L.on () = true := hL.on (r := ()) rfl (.inr (by simp [cat_append, cat, ocells]))
  have hlen : (cat ocells 0 (x :: y :: r).reverse).length = (x :: y :: r).length * 2 := by rw [cat_length ocells_len]; simp
  have hrd := hL.rd (r := ()) rfl hlen (by omega)
  rw [show (x :: y :: r).length = (x :: y :: r).reverse.length by simp] at hrd
  obtain ⟨bi, bo, e1, e2, e3, e4⟩ := hrd.row ocells_len (by omega) (rev_top (p := x) (r := y :: r))
  rw [List.length_reverse] at e1
  have hup := hL.upto (r := ()) rfl hlen (by omega) (m := (y :: r).length) (by simp) (kd := .i64)
  have hc : IntKind.i64.wrap (((x :: y :: r).length : Int) - 1) = (((y :: r).length : Nat) : Int) := by
   simp only [List.length_cons] at h13 ⊢
   rw [small (by omega)]; omega
  have hld := e4 0 (by omega)
  simp only [ocells, List.getElem?_cons_zero, Option.map_some, Nat.add_zero] at hld
  have hgt : decide (((x :: y :: r).length : Int) > 1) = true := by simp only [List.length_cons]; exact decide_eq_true (by omega)
  rw [R_loop]
  simp only [rI, b64_0]
  rw [Lay.sc_slc hon] at h5 e1 hup
  generalize hn : (x :: y :: r).length = n at *
  simp only [List.length_cons] at hc e1 hup
  simp only [w1, w2, ↓reduceIte, zA, hgt, hc, h5, h6, e1, hld, Nat.add_zero]
  simp only [popR] at hend
  by_cases hx : (i : Int) ≥ x.1
  ·rw [if_pos hx] at hend
   rw [decide_eq_true hx]
   simp only [w1, w2, ↓reduceIte, zA, hc, h5, hup]
   rw [R_lp]
   refine popLoop (L := L) (lo := lo) hi (y :: r) _ s Q (by simp) (by simp only [List.length_cons] at hn ⊢; omega) ?_ ?_ ?_ ?_
   ·have := hL.cut (r := ()) (sz := 2) (cs := cat ocells 0 (y :: r).reverse) (cs' := cat ocells (0 + (y :: r).reverse.length) [x]) (by
     simp only [stcon]
     rw [← cat_append]; simp) (by omega)
    exact this.weaken fun u z hz => by simpa [Con.upd, stcon] using hz
   ·simp only [w1, w2, ↓reduceIte]
   ·simp only [w1, ↓reduceIte, zA, h6]
   ·intro fr' hL' hp h5'
    refine hend fr' hL' (fun t ht ht5 => ?_) h5'
    rw [hp t ht ht5]
    simp only [w1]
    repeat rw [if_neg (by omega)]
  ·rw [if_neg hx] at hend
   rw [decide_eq_false hx]
   simp only [w1]
   rw [R_exit rfl]
   refine hend _ hL ?_ ?_
   ·intro t ht ht5
    simp only [w1]
    repeat rw [if_neg (by omega)]
   ·simp only [w1, ↓reduceIte, zA, h5, Lay.sc_slc hon, hn]

theorem ld_obj {μ μ' : Mem} {i o : Nat} {n : Option Nat} (h : μ'.obj i = μ.obj i) : μ'.ld n i o = μ.ld n i o := by simp only [Mem.ld, h]

theorem stF {μ0 μ : Mem} {a b c a' b' c' : Int} (h : Same (μ0.next + 1) (μ0.new (fltc a' b' c') 0) μ) : ∃ μ2, μ.st μ0.next 0 (fltc a b c) = some μ2 ∧ Same (μ0.next + 1) (μ0.new (fltc a b c) 0) μ2 ∧ μ2.next = μ.next ∧
  (∀ j, j ≠ μ0.next → μ2.obj j = μ.obj j) := h.st (i := μ0.next) (by omega) (by simp only [m1, m2, stl, wr, zJ, w1, w2, ↓reduceIte, zB, fltc])

theorem ldF {μ0 μ : Mem} {a b c : Int} (h : Same (μ0.next + 1) (μ0.new (fltc a b c) 0) μ) : μ.ld (some 3) μ0.next 0 = some (.agg (fltc a b c)) := by
 rw [h.ld (by omega)]
 simp only [m1, m2, rd, w1, w2, ↓reduceIte, zB, fltc]

theorem sameF {μ0 μ : Mem} {l : List Cell} (h : Same (μ0.next + 1) (μ0.new l 0) μ) : Same μ0.next μ0 μ := (Same.tmp (Nat.le_refl _)).trans (h.mono (Nat.le_succ _))

theorem nestLoop {hi : Nat} {l : List PStep} (hsz : ∀ s ∈ l, 0 ≤ s.size) (hl : l.length ≤ 300) {μ0 : Mem} {c : Cell} {b : Int} (hR : Rd hi μ0 5 c l.length (cat scells 0 l)) (hh : hi ≤ μ0.next) :
  ∀ (k i : Nat) (stk : List (Int × Bool)) (L : Lay Unit) (fr : Fr) (μ : Mem) (s : List It) (Q : Fr → Mem → Prop), i + k = l.length → Same (μ0.next + 1) (μ0.new (fltc 0 0 0) 0) μ → Has L (stcon stk) (μ0.next + 1) μ →
  stk ≠ [] → stk.length ≤ 13 → (∀ p ∈ stk, 0 ≤ p.1 ∧ p.1 ≤ 300) →
  fr 1 = .c (.int .i64 b) → fr 4 = .c (.ptr (some (μ0.next, 0))) → fr 5 = .c (L.sc () stk.length) → fr 13 = .c c → fr 14 = .c (.int .i64 l.length) → fr 15 = .c (.int .i64 i) →
  ((nestGo (l.drop i) i stk).1 ≠ 0 → ∀ fr' μ', Same μ0.next μ0 μ' → fr' 4 = .c (.ptr (some (μ0.next, 0))) → μ'.ld (some 3) μ0.next 0 = some (.agg (fltc (nestGo (l.drop i) i stk).1 b (nestGo (l.drop i) i stk).2)) → Q fr' μ') →
  (nestGo (l.drop i) i stk = (0, 0) → ∀ fr' μ', Same (μ0.next + 1) (μ0.new (fltc 0 0 0) 0) μ' → fr' 4 = .c (.ptr (some (μ0.next, 0))) → R s fr' μ' Q) →
  R (.c (.loop b64_1) :: .blk 0 :: s) fr μ Q := by
 intro k
 induction k with
 | zero =>
  intro i stk L fr μ s Q hk hs hL hne h13 hb h1 h4 h5 hc h14 h15 hret hend
  rw [R_loop]
  simp only [rI, b64_1]
  simp only [w1, w2, ↓reduceIte, h14, h15]
  rw [decide_eq_false (by omega)]
  simp only [w1]
  rw [R_exit rfl]
  refine hend ?_ _ _ hs ?_
  ·rw [List.drop_eq_nil_of_le (by omega)]; rfl
  ·simp only [w1, ↓reduceIte, zA, h4]
 | succ k ih =>
  intro i stk L fr μ s Q hk hs hL hne h13 hb h1 h4 h5 hc h14 h15 hret hend
  have hlt : i < l.length := by omega
  have hget : l[i]? = some l[i] := List.getElem?_eq_getElem hlt
  have hz := hsz l[i] (List.getElem_mem hlt)
  have hdrop : l.drop i = l[i] :: l.drop (i + 1) := List.drop_eq_getElem_cons hlt
  have hnx : μ0.next + 1 ≤ μ.next := hs.2
  have hR0 : Rd hi (μ0.new (fltc 0 0 0) 0) 5 c l.length (cat scells 0 l) := hR.same (Same.tmp (Nat.le_refl _)) hh
  have hR1 : Rd hi μ 5 c l.length (cat scells 0 l) := hR0.same hs (by omega)
  obtain ⟨bi, bo, e1, e2, e3, e4⟩ := hR1.row scells_len (by omega) hget
  obtain ⟨top, r, hpop⟩ : ∃ top r, popR (i : Int) stk = top :: r := by
   cases h : popR (i : Int) stk with
   | nil => exact absurd h (popR_ne hne)
   | cons top r => exact ⟨top, r, rfl⟩
  have hr13 : (top :: r).length ≤ 13 := by rw [← hpop]; exact Nat.le_trans popR_length h13
  have htb : ∀ p ∈ top :: r, 0 ≤ p.1 ∧ p.1 ≤ 300 := fun p hp => hb p (popR_mem (by rw [hpop]; exact hp))
  have htop := htb top (List.mem_cons_self ..)
  rw [hdrop] at hret hend
  simp only [nestGo, hpop] at hret hend
  rw [R_loop]
  simp only [rI, b64_1]
  simp only [w1, w2, ↓reduceIte, h14, h15]
  rw [decide_eq_true (by omega)]
  simp only [w1, w2, zH, zI, ↓reduceIte, zA, zB, m1, m2, stl, wr, zJ, hc, h15, e1, e3, scells]
  have hs1 : Same (μ0.next + 1) (μ0.new (fltc 0 0 0) 0) (μ.new (scells 0 l[i]) 0) := hs.new hnx
  simp only [scells] at hs1
  refine popLoop (L := L) (lo := μ0.next + 1) (i := i) (by omega) stk _ _ Q hne h13 hL.tmp ?_ ?_ ?_
  ·simp only [w1, ↓reduceIte, zA, h5]
  ·simp only [w1, ↓reduceIte]
  intro fr1 hL1 hp h5'
  rw [hpop] at hL1 h5'
  have p1 := hp 1 (by omega) (by omega)
  have p4 := hp 4 (by omega) (by omega)
  have p6 := hp 6 (by omega) (by omega)
  have p7 := hp 7 (by omega) (by omega)
  have p13 := hp 13 (by omega) (by omega)
  have p14 := hp 14 (by omega) (by omega)
  have p15 := hp 15 (by omega) (by omega)
  simp only [w1, ↓reduceIte, zA, h1, h4, hc, h14, h15] at p1 p4 p6 p7 p13 p14 p15
  have hon : L.on () = true := hL1.on (r := ()) rfl (.inr (by simp [cat_append, cat, ocells]))
  have hlen : (cat ocells 0 (top :: r).reverse).length = (top :: r).length * 2 := by rw [cat_length ocells_len]; simp
  have hrd := hL1.rd (r := ()) rfl hlen (by omega)
  rw [show (top :: r).length = (top :: r).reverse.length by simp] at hrd
  obtain ⟨ti, to, f1, f2, f3, f4⟩ := hrd.row ocells_len (by omega) (rev_top (p := top) (r := r))
  rw [List.length_reverse] at f1
  simp only [ocells] at f3
  have hcw : IntKind.i64.wrap (((top :: r).length : Int) - 1) = ((r.length : Nat) : Int) := by
   simp only [List.length_cons] at hr13 ⊢
   rw [small (by omega)]; omega
  rw [Lay.sc_slc hon] at h5' f1
  generalize hn : (top :: r).length = n at *
  simp only [w1, w2, zH, zI, ↓reduceIte, zA, zB, h5', hcw, f1, f3, p7]
  simp only [w1, w2, ↓reduceIte, zB, m1, m2, stl, wr, zJ]
  have hne1 : ¬ μ.next = μ.next + 1 := by omega
  refine R_calls rfl (by simp only [w1, w2, ↓reduceIte]; exact head_ok _ _) ?_
  rintro v μ1 ⟨rfl, rfl⟩
  simp only [w1, ↓reduceIte]
  have hs2 : Same (μ0.next + 1) (μ0.new (fltc 0 0 0) 0) ((μ.new (scells 0 l[i]) 0).new (ocells 0 top) 0) := hs1.new (Nat.le_succ_of_le hnx)
  have hL2 : Has L (stcon (top :: r)) (μ0.next + 1) ((μ.new (scells 0 l[i]) 0).new (ocells 0 top) 0) := hL1.tmp
  simp only [scells, ocells] at hs2 hL2
  cases hh' : headP l[i].op with
  | false =>
   rw [hh'] at hret hend
   simp only [Bool.false_eq_true, if_false] at hret hend
   simp only [w1, w2, ↓reduceIte, zA, m1, m2, p7]
   by_cases h10 : l[i].op = 10
   ·have h10' : (l[i].op == 10) = true := by simpa using h10
    simp only [w1, w2, ↓reduceIte, zA, m1, m2, h10']
    cases ht : top.2 with
    | true =>
     simp only [h10, ht, and_self, if_true] at hret
     simp only [ht] at hs2
     simp only [w1, w2, zH, zI, ↓reduceIte, zA, zB, m2, fillc, wr, zJ, zB, p1, p4, p6]
     obtain ⟨μ2, est, hs3, hn3, ho3⟩ := stF (a := 6) (b := b) (c := i) hs2
     simp only [fltc] at est
     simp only [est, w2]
     refine hret (by simp) _ _ (sameF hs3) ?_ (ldF hs3)
     simp only [w1, ↓reduceIte, zA, p4]
    | false =>
     simp only [ht, Bool.false_eq_true, and_false, if_false] at hret hend
     simp only [ht] at hs2 hL2
     simp only [w1, w2, ↓reduceIte, zA, p15]
     rw [small (by omega), R_lp]
     refine ih (i + 1) (top :: r) L _ _ s Q (by omega) hs2 hL2 (by simp) (by omega) htb ?_ ?_ ?_ ?_ ?_ ?_ hret hend
     ·simp only [w1, ↓reduceIte, zA, p1]
     ·simp only [w1, ↓reduceIte, zA, p4]
     ·simp only [w1, ↓reduceIte, zA, h5', hn, Lay.sc_slc hon]
     ·simp only [w1, ↓reduceIte, zA, p13]
     ·simp only [w1, ↓reduceIte, zA, p14]
     ·simp only [w1, ↓reduceIte]; rfl
   ·simp only [h10, false_and, if_false] at hret hend
    simp only [w1, w2, ↓reduceIte, zA, beq_ff h10, p15]
    rw [small (by omega), R_lp]
    refine ih (i + 1) (top :: r) L _ _ s Q (by omega) hs2 hL2 (by simp) (by omega) htb ?_ ?_ ?_ ?_ ?_ ?_ hret hend
    ·simp only [w1, ↓reduceIte, zA, p1]
    ·simp only [w1, ↓reduceIte, zA, p4]
    ·simp only [w1, ↓reduceIte, zA, h5', hn, Lay.sc_slc hon]
    ·simp only [w1, ↓reduceIte, zA, p13]
    ·simp only [w1, ↓reduceIte, zA, p14]
    ·simp only [w1, ↓reduceIte]; rfl
  | true =>
   rw [hh'] at hret hend
   simp only [if_true] at hret hend
   simp only [w1, w2, ↓reduceIte, zA, m1, m2, p6, p7]
   rw [small (n := top.1 - (i : Int)) (by omega), small (n := top.1 - (i : Int) - 1) (by omega)]
   by_cases h6 : l[i].size > top.1 - (i : Int) - 1
   ·rw [if_pos h6] at hret hend
    rw [decide_eq_true h6]
    simp only [w1, w2, zH, zI, ↓reduceIte, zA, zB, m2, fillc, wr, zJ, zB, p1, p4, p6]
    obtain ⟨μ2, est, hs3, hn3, ho3⟩ := stF (a := 4) (b := b) (c := i) hs2
    simp only [fltc] at est
    simp only [est, w2]
    refine hret (by simp) _ _ (sameF hs3) ?_ (ldF hs3)
    simp only [w1, ↓reduceIte, zA, p4]
   ·rw [if_neg h6] at hret hend
    rw [decide_eq_false h6]
    simp only [w1, w2, ↓reduceIte, zA, h5', hcw]
    by_cases h7 : (r.length : Int) ≥ 12
    ·rw [if_pos h7] at hret hend
     rw [decide_eq_true h7]
     simp only [w1, w2, zH, zI, ↓reduceIte, zA, zB, m2, fillc, wr, zJ, zB, p1, p4, p6]
     obtain ⟨μ2, est, hs3, hn3, ho3⟩ := stF (a := 5) (b := b) (c := i) hs2
     simp only [fltc] at est
     simp only [est, w2]
     refine hret (by simp) _ _ (sameF hs3) ?_ (ldF hs3)
     simp only [w1, ↓reduceIte, zA, p4]
    ·rw [if_neg h7] at hret hend
     rw [decide_eq_false h7]
     have hc1 : IntKind.i64.wrap ((i : Int) + 1) = ((i + 1 : Nat) : Int) := by rw [small (by omega)]; rfl
     have hc2 : IntKind.i64.wrap (((i + 1 : Nat) : Int) + l[i].size) = (i : Int) + 1 + l[i].size := by rw [small (by omega)]; omega
     have hne10 : (l[i].op == 10) = false := by
      apply beq_ff
      intro h10
      rw [h10] at hh'
      exact absurd hh' (by decide)
     have hltL := hL.lt () (hL.on (r := ()) rfl (by
      refine .inr ?_
      cases stk with
      | nil => exact absurd rfl hne
      | cons a t => simp [cat_append, cat, ocells]))
     have hltL1 := hL1.lt () hon
     have hidL : L.id () < μ.next := hltL
     obtain ⟨E, hE⟩ : ∃ E : Int, E = (i : Int) + 1 + l[i].size := ⟨_, rfl⟩
     rw [← hE] at hret hend hc2
     have step : ∀ (e2 : Bool), (top.2 || l[i].op == 13) = e2 → ∃ L' μ4, aapp 2 16 (.c (.slc (some (L.id (), 0)) n (L.cap ()))) (.c (.slc (some (μ.next + 2, 0)) 1 1))
       (((μ.new [.int .i64 l[i].op, .int .i64 l[i].a, .int .i64 l[i].b, .int .i64 l[i].n, .int .i64 l[i].size] 0).new [.int .i64 top.1, .bool top.2] 0).new [.int .i64 E, .bool e2] 2) =
       some (.c (L'.sc () (n + 1)), μ4) ∧ Has L' (stcon ((E, e2) :: top :: r)) (μ0.next + 1) μ4 ∧ Same (μ0.next + 1) (μ0.new (fltc 0 0 0) 0) μ4 ∧ μ4.ld none μ.next 0 = some (.c (.int .i64 l[i].op)) := by
      intro e2 he2
      have hn3 : μ0.next + 1 ≤ (((μ.new [.int .i64 l[i].op, .int .i64 l[i].a, .int .i64 l[i].b, .int .i64 l[i].n, .int .i64 l[i].size] 0).new [.int .i64 top.1, .bool top.2] 0)).next := by simp only [Mem.new_next]; omega
      obtain ⟨L', μ4, ea, hL4, hsa, hoth, hob, hon4, _⟩ := (hL2.tmp (cs := [.int .i64 E, .bool e2]) (sz := 2)).app (Nat.le_succ_of_le hn3) (r := ()) (bytes := 16) (n := n) (k := 1) (c := 1)
       (new := [.int .i64 E, .bool e2]) rfl (by omega) hlen (SlcVal.fresh rfl) ⟨by unfold most; omega, by unfold most; omega⟩ (.inl (by omega))
      refine ⟨L', μ4, ?_, ?_, ?_, ?_⟩
      ·rw [Lay.sc_slc hon] at ea
       exact ea
      ·refine hL4.weaken fun u z hz => ?_
       simp only [stcon, Con.upd, if_true, Option.some.injEq, List.reverse_cons, List.append_assoc] at hz ⊢
       rw [← hz, ← List.append_assoc, cat_append (l' := [(E, e2)])]
       rfl
      ·exact (hs2.new hn3).trans hsa
      ·have h9 : μ4.ld none μ.next 0 = _ := ld_obj (hob μ.next (fun _ => by omega) (by simp only [Mem.new_next]; omega))
       rw [h9]
       simp only [m1, m2, w2, ↓reduceIte, zA, zB]
     simp only [w1, w2, ↓reduceIte, zA, m1, m2, p6, p7, hc1, hc2, h5']
     cases ht : top.2
     all_goals
      rw [ht] at hret hend step
      simp only [w1, w2, zH, zI, ↓reduceIte, zA, zB, m1, m2, wr, zJ, zK, m2, fillc, wr, rep, zJ, zB, zK, List.append_nil, p7]
      obtain ⟨L', μ4, ea, hL4, hsa, hld⟩ := step _ rfl
      simp only [Bool.true_or, Bool.false_or] at ea hL4 hret hend
      simp only [w1, w2, ↓reduceIte, zA, ea, hld, hne10, p15]
      rw [hc1, R_lp]
      refine ih (i + 1) ((E, _) :: top :: r) L' _ _ s Q (by omega) hsa hL4 (by simp) (by simp only [List.length_cons] at hn ⊢; omega) ?_ ?_ ?_ ?_ ?_ ?_ ?_ hret hend
      ·intro p hp
       rcases List.mem_cons.1 hp with rfl | hp
       ·constructor <;> (dsimp only; omega)
       ·exact htb p hp
      ·simp only [w1, ↓reduceIte, zA, p1]
      ·simp only [w1, ↓reduceIte, zA, p4]
      ·simp only [w1, w2, ↓reduceIte, zA, ← hn]
      ·simp only [w1, ↓reduceIte, zA, p13]
      ·simp only [w1, ↓reduceIte, zA, p14]
      ·simp only [w1, ↓reduceIte]

theorem nest_ok {hi : Nat} {l : List PStep} (hsz : ∀ s ∈ l, 0 ≤ s.size) (hl : l.length ≤ 300) {μ0 : Mem} {c : Cell} {b : Int} (hR : Rd hi μ0 5 c l.length (cat scells 0 l)) (hh : hi ≤ μ0.next) :
  Ret 64 [.c c, .c (.int .i64 b)] μ0 fun v μ' => v = .agg (if (nestP l).1 = 0 then fltc 0 0 0 else fltc (nestP l).1 b (nestP l).2) ∧ Same μ0.next μ0 μ' := by
 obtain ⟨a, cap, hc, _⟩ := id hR
 subst hc
 refine Ret_of p64 (by simp [r64]) ?_
 simp only [rI, r64, frOf_2]
 simp only [w1, w2, zH, zI, ↓reduceIte, zA, zB, m1, m2, wr, aRet, aRes, aRes1, zJ, zK, m2, fillc, wr, rep, zJ, zB, zK, List.append_nil]
 have L0 : Has (⟨fun _ => 0, fun _ => false, fun _ => 0⟩ : Lay Unit) (fun _ => none) (μ0.next + 1) (μ0.new (fltc 0 0 0) 0) := Has.start fun _ => rfl
 have L1 := L0.new (Nat.le_refl _) (r := ()) (sz := 2) (cs := [.int .i64 l.length, .bool false]) (cap := 1) (by simp)
 refine nestLoop (b := b) hsz hl hR hh l.length 0 [((l.length : Int), false)] _ _ _ _ _ (by omega) (Same.tmp (Nat.le_refl _)) (L1.weaken ?_) (by simp) (by simp) ?_ ?_ ?_ ?_ ?_ ?_ ?_ ?_ ?_
 ·intro u z hz
  simpa [stcon, Con.upd, cat, ocells] using hz
 ·intro p hp
  simp only [List.mem_singleton] at hp
  subst hp
  constructor <;> (dsimp only; omega)
 ·simp only [w1, ↓reduceIte, zA]
 ·simp only [w1, ↓reduceIte, zA]
 ·simp only [w1, w2, ↓reduceIte, zA]
  rw [Lay.sc_slc (by simp [Lay.put])]
  simp [Lay.put, Mem.new_next]
 ·simp only [w1, ↓reduceIte, zA]
 ·simp only [w1, ↓reduceIte, zA]
 ·simp only [w1, ↓reduceIte]; rfl
 ·intro hc fr' μ' hs h4 hld
  rw [List.drop_zero] at hld hc
  simp only [m1, m2, h4, hld]
  rw [if_neg (show ¬ (nestP l).1 = 0 from hc)]
  exact ⟨rfl, hs⟩
 ·intro h0 fr' μ' hs h4
  rw [List.drop_zero] at h0
  simp only [w1, w2, zH, zI, ↓reduceIte, zA, zB, fillc, zB, h4]
  obtain ⟨μ2, est, hs3, hn3, ho3⟩ := stF (a := 0) (b := 0) (c := 0) hs
  simp only [fltc] at est
  simp only [est, w2, ldF hs3, Option.some.injEq, exists_eq_left']
  unfold nestP
  rw [h0]
  exact ⟨rfl, sameF hs3⟩
end Go.Proofs.Ytibmnlijoeppaaa
namespace Go.Proofs.Ytibmnlijoeppaaa
open Nat renaming reduceEqDiff → zA, reduceAdd → zB, reduceLeDiff → zJ, reduceMul → zK
open Int renaming reduceLT → zC, reduceLE → zD, reduceNeg → zE, reduceBEq → zF, reduceBNe → zG
open AV renaming isTup → zH, cells → zI
set_option linter.unusedSimpArgs false
set_option linter.unusedVariables false

def longP : PPlan → Nat → Option Nat
 | [], _ => none
 | b :: p, i => if (b.length : Int) > 300 then some i else longP p (i + 1)

def badP (n : Int) : List PStep → Nat → Option Nat
 | [], _ => none
 | s :: l, k => if shapeP n s = true then badP n l (k + 1) else some k

def badsP (n : Int) : PPlan → Nat → Option (Nat × Nat)
 | [], _ => none
 | b :: p, i => match badP n b 0 with | some k => some (i, k) | none => badsP n p (i + 1)

def nestsP : PPlan → Nat → Option (Nat × Int × Int)
 | [], _ => none
 | b :: p, i => if (nestP b).1 = 0 then nestsP p (i + 1) else some (i, nestP b)

def okP (p : PPlan) : Int × Int × Int :=
 if p.length = 0 ∨ p.length > 30 then (1, 0, 0) else
 match longP p 0 with
 | some b => (2, b, 0)
 | none => match badsP p.length p 0 with
  | some (b, s) => (3, b, s)
  | none => match nestsP p 0 with
   | some (b, c, a) => (c, b, a)
   | none => (0, 0, 0)

def flt3 (x : Int × Int × Int) : List Cell := fltc x.1 x.2.1 x.2.2

theorem longP_none : ∀ {p : PPlan} {i : Nat}, longP p i = none → ∀ b ∈ p, b.length ≤ 300
 | [], i, h, b, hb => by cases hb
 | a :: p, i, h, b, hb => by
  simp only [longP] at h
  split at h
  ·cases h
  ·rcases List.mem_cons.1 hb with rfl | hb
   ·omega
   ·exact longP_none h b hb

theorem badP_none {n : Int} : ∀ {l : List PStep} {k : Nat}, badP n l k = none → ∀ s ∈ l, shapeP n s = true
 | [], k, h, s, hs => by cases hs
 | a :: l, k, h, s, hs => by
  simp only [badP] at h
  split at h
  ·rename_i ha
   rcases List.mem_cons.1 hs with rfl | hs
   ·exact ha
   ·exact badP_none h s hs
  ·cases h

theorem badsP_none {n : Int} : ∀ {p : PPlan} {i : Nat}, badsP n p i = none → ∀ b ∈ p, ∀ s ∈ b, shapeP n s = true
 | [], i, h, b, hb, s, hs => by cases hb
 | a :: p, i, h, b, hb, s, hs => by
  simp only [badsP] at h
  cases ha : badP n a 0 with
  | some k => rw [ha] at h; cases h
  | none =>
   rw [ha] at h
   rcases List.mem_cons.1 hb with rfl | hb
   ·exact badP_none ha s hs
   ·exact badsP_none h b hb s hs

theorem shapeP_size {n : Int} {s : PStep} (h : shapeP n s = true) : 0 ≤ s.size := by
 simp only [shapeP, Bool.and_eq_true] at h
 exact of_decide_eq_true h.2

/-! ### Two variables below -/

def base2 (μ0 : Mem) (c : Cell) (a b d : Int) : Mem := (μ0.new [c] 0).new (fltc a b d) 0

theorem base2_next {μ0 : Mem} {c : Cell} {a b d : Int} : (base2 μ0 c a b d).next = μ0.next + 2 := rfl

theorem box2 {μ0 μ : Mem} {c : Cell} {a b d : Int} (h : Same (μ0.next + 2) (base2 μ0 c a b d) μ) : μ.ld none μ0.next 0 = some (.c c) ∧ μ.ld (some 1) μ0.next 0 = some (.agg [c]) := by
 rw [h.ld (by omega), h.ld (by omega), base2]
 simp only [m1, m2, rd, w1, w2, ↓reduceIte]

theorem st2 {μ0 μ : Mem} {c : Cell} {a b d : Int} (h : Same (μ0.next + 2) (base2 μ0 c a b d) μ) (a' b' d' : Int) :
  ∃ μ2, μ.st (μ0.next + 1) 0 (fltc a' b' d') = some μ2 ∧ Same μ0.next μ0 μ2 ∧ μ2.ld (some 3) (μ0.next + 1) 0 = some (.agg (fltc a' b' d')) := by
 obtain ⟨μ2, e, hs, _, _⟩ := h.st (i := μ0.next + 1) (o := 0) (x := fltc a' b' d') (μ1 := base2 μ0 c a' b' d') (by omega) (by simp only [base2, m1, m2, stl, wr, zJ, w1, w2, ↓reduceIte, zB, fltc])
 refine ⟨μ2, e, ?_, ?_⟩
 ·exact ((Same.tmp (Nat.le_refl _)).new (Nat.le_succ _)).trans (hs.mono (by omega))
 ·rw [hs.ld (by omega), base2]
  simp only [m1, m2, rd, w1, w2, ↓reduceIte, zB, fltc]

theorem same2 {μ0 : Mem} {c : Cell} {a b d : Int} : Same μ0.next μ0 (base2 μ0 c a b d) := (Same.tmp (Nat.le_refl _)).new (Nat.le_succ _)

/-! 21: impl.PlanOk -/
def b21_0 : RCode := (.seq (.reg [rI 0 (.bin .lss (.t 28) (.t 27)) 29]) (.seq (.ite (.t 29) .skip (.exit 0)) (.seq (.blk 1 (.seq (.reg [rI 0 (.mv (.t 28)) 30, rI 1 (.mv (.t 30)) 4]) (.seq (.reg [rI 0 (.fa (.t 1) 0) 31, rI 1 (.ld none (.t 31)) 32, rI 2 (.mv (.t 4)) 33, rI 3 (.ias (.t 32) (.t 33) 1) 34, rI 4 (.fa (.t 34) 0) 35, rI 5 (.ld none (.t 35)) 36, rI 6 (.len (.t 36)) 37, rI 7 (.bin .gtr (.t 37) (.k (.int .i64 300))) 38]) (.ite (.t 38) (.seq (.reg [rI 0 (.mv (.t 4)) 39, rI 1 (.bld [.int .i64 0, .int .i64 0, .int .i64 0] [(0, 1, .k (.int .i64 2)), (1, 1, .t 39), (2, 1, .k (.int .i64 0))]) 40, ⟨2, .st (.t 2) (.t 40) 3, none, none, []⟩]) .ret) .skip)))) (.reg [rI 0 (.bin .add (.t 28) (.k (.int .i64 1))) 41, rI 1 (.mv (.t 41)) 28]))))
def b21_1 : RCode := (.seq (.reg [rI 0 (.bin .lss (.t 55) (.t 54)) 56]) (.seq (.ite (.t 56) .skip (.exit 4)) (.seq (.blk 5 (.seq (.reg [rI 0 (.mv (.t 55)) 57, rI 1 (.ias (.t 53) (.t 55) 5) 58, rI 2 (.ld (some 5) (.t 58)) 59, rI 3 (.alc [.int .i64 0, .int .i64 0, .int .i64 0, .int .i64 0, .int .i64 0]) 7, rI 4 (.mv (.t 57)) 6, ⟨5, .st (.t 7) (.t 59) 5, none, none, []⟩]) (.seq (.reg [rI 0 (.fa (.t 7) 0) 61, rI 1 (.ld none (.t 61)) 62, rI 2 (.call 62 [.t 62]) 63, rI 3 (.mv (.t 63)) 60, rI 4 (.ext (.t 60) 0) 64, rI 5 (.ext (.t 60) 1) 65, rI 6 (.ext (.t 60) 2) 66, rI 7 (.ext (.t 60) 3) 67, rI 8 (.ext (.t 60) 4) 68, rI 9 (.mv (.t 64)) 8, rI 10 (.mv (.t 65)) 9, rI 11 (.mv (.t 66)) 10, rI 12 (.mv (.t 67)) 11, rI 13 (.mv (.t 68)) 12]) (.seq (.reg [rI 0 (.mv (.t 12)) 69, rI 1 (.nt (.t 69)) 70, rI 2 (.mv (.t 70)) 71, ⟨3, .mv (.t 8), some 72, some (71, false), []⟩, ⟨4, .fa (.t 7) 1, some 73, some (71, false), []⟩, ⟨5, .ld none (.t 73), some 74, some (71, false), []⟩, ⟨6, .mv (.t 3), some 75, some (71, false), []⟩, ⟨7, .call 63 [.t 72, .t 74, .t 75], some 76, some (71, false), []⟩, ⟨8, .nt (.t 76), some 77, some (71, false), []⟩, rI 9 (.pick (.t 71) (.k (.bool true)) (.t 77)) 78, rI 10 (.mv (.t 78)) 79, ⟨11, .mv (.t 9), some 80, some (79, false), []⟩, ⟨12, .fa (.t 7) 2, some 81, some (79, false), []⟩, ⟨13, .ld none (.t 81), some 82, some (79, false), []⟩, ⟨14, .mv (.t 3), some 83, some (79, false), []⟩, ⟨15, .call 63 [.t 80, .t 82, .t 83], some 84, some (79, false), []⟩, ⟨16, .nt (.t 84), some 85, some (79, false), []⟩, rI 17 (.pick (.t 79) (.k (.bool true)) (.t 85)) 86, rI 18 (.mv (.t 86)) 87, ⟨19, .mv (.t 10), some 88, some (87, false), []⟩, ⟨20, .nt (.t 88), some 89, some (87, false), []⟩, ⟨21, .mv (.t 89), some 90, some (87, false), []⟩, ⟨22, .fa (.t 7) 3, some 91, some (90, true), []⟩, ⟨23, .ld none (.t 91), some 92, some (90, true), []⟩, ⟨24, .bin .neq (.t 92) (.k (.int .i64 0)), some 93, some (90, true), []⟩, ⟨25, .pick (.t 90) (.t 93) (.k (.bool false)), some 94, some (87, false), []⟩, rI 26 (.pick (.t 87) (.k (.bool true)) (.t 94)) 95, rI 27 (.mv (.t 95)) 96, ⟨28, .mv (.t 11), some 97, some (96, false), []⟩, ⟨29, .nt (.t 97), some 98, some (96, false), []⟩, ⟨30, .mv (.t 98), some 99, some (96, false), []⟩, ⟨31, .fa (.t 7) 4, some 100, some (99, true), []⟩, ⟨32, .ld none (.t 100), some 101, some (99, true), []⟩, ⟨33, .bin .neq (.t 101) (.k (.int .i64 0)), some 102, some (99, true), []⟩, ⟨34, .pick (.t 99) (.t 102) (.k (.bool false)), some 103, some (96, false), []⟩, rI 35 (.pick (.t 96) (.k (.bool true)) (.t 103)) 104, rI 36 (.mv (.t 104)) 105, ⟨37, .fa (.t 7) 4, some 106, some (105, false), []⟩, ⟨38, .ld none (.t 106), some 107, some (105, false), []⟩, ⟨39, .bin .lss (.t 107) (.k (.int .i64 0)), some 108, some (105, false), []⟩, rI 40 (.pick (.t 105) (.k (.bool true)) (.t 108)) 109]) (.ite (.t 109) (.seq (.reg [rI 0 (.mv (.t 5)) 110, rI 1 (.mv (.t 6)) 111, rI 2 (.bld [.int .i64 0, .int .i64 0, .int .i64 0] [(0, 1, .k (.int .i64 3)), (1, 1, .t 110), (2, 1, .t 111)]) 112, ⟨3, .st (.t 2) (.t 112) 3, none, none, []⟩]) .ret) .skip))))) (.reg [rI 0 (.bin .add (.t 55) (.k (.int .i64 1))) 113, rI 1 (.mv (.t 113)) 55]))))
def b21_2 : RCode := (.seq (.reg [rI 0 (.bin .lss (.t 45) (.t 44)) 46]) (.seq (.ite (.t 46) .skip (.exit 2)) (.seq (.blk 3 (.seq (.reg [rI 0 (.mv (.t 45)) 47, rI 1 (.mv (.t 47)) 5]) (.seq (.reg [rI 0 (.fa (.t 1) 0) 48, rI 1 (.ld none (.t 48)) 49, rI 2 (.mv (.t 5)) 50, rI 3 (.ias (.t 49) (.t 50) 1) 51, rI 4 (.fa (.t 51) 0) 52, rI 5 (.ld none (.t 52)) 53, rI 6 (.len (.t 53)) 54, rI 7 (.mv (.k (.int .i64 0))) 55]) (.blk 4 (.loop b21_1))))) (.reg [rI 0 (.bin .add (.t 45) (.k (.int .i64 1))) 114, rI 1 (.mv (.t 114)) 45]))))
def b21_3 : RCode := (.seq (.reg [rI 0 (.bin .lss (.t 118) (.t 117)) 119]) (.seq (.ite (.t 119) .skip (.exit 6)) (.seq (.blk 7 (.seq (.reg [rI 0 (.mv (.t 118)) 120, rI 1 (.mv (.t 120)) 13]) (.seq (.reg [rI 0 (.fa (.t 1) 0) 121, rI 1 (.ld none (.t 121)) 122, rI 2 (.mv (.t 13)) 123, rI 3 (.ias (.t 122) (.t 123) 1) 124, rI 4 (.fa (.t 124) 0) 125, rI 5 (.ld none (.t 125)) 126, rI 6 (.mv (.t 13)) 127, rI 7 (.call 64 [.t 126, .t 127]) 128, rI 8 (.alc [.int .i64 0, .int .i64 0, .int .i64 0]) 14, ⟨9, .st (.t 14) (.t 128) 3, none, none, []⟩]) (.seq (.reg [rI 0 (.fa (.t 14) 0) 129, rI 1 (.ld none (.t 129)) 130, rI 2 (.bin .neq (.t 130) (.k (.int .i64 0))) 131]) (.ite (.t 131) (.seq (.reg [rI 0 (.ld (some 3) (.t 14)) 132, ⟨1, .st (.t 2) (.t 132) 3, none, none, []⟩]) .ret) .skip))))) (.reg [rI 0 (.bin .add (.t 118) (.k (.int .i64 1))) 133, rI 1 (.mv (.t 133)) 118]))))
def r21 : RFun := ⟨135, [.cell 2 (some 3)], (.seq (.reg [rI 0 (.box (.t 0) 1) 1, rI 1 (.alc [.int .i64 0, .int .i64 0, .int .i64 0]) 2]) (.seq (.reg [rI 0 (.fa (.t 1) 0) 15, rI 1 (.ld none (.t 15)) 16, rI 2 (.len (.t 16)) 17, rI 3 (.mv (.t 17)) 3]) (.seq (.seq (.reg [rI 0 (.mv (.t 3)) 18, rI 1 (.bin .eql (.t 18) (.k (.int .i64 0))) 19, rI 2 (.mv (.t 19)) 20, ⟨3, .mv (.t 3), some 21, some (20, false), []⟩, ⟨4, .bin .gtr (.t 21) (.k (.int .i64 30)), some 22, some (20, false), []⟩, rI 5 (.pick (.t 20) (.k (.bool true)) (.t 22)) 23]) (.ite (.t 23) (.seq (.reg [rI 0 (.bld [.int .i64 0, .int .i64 0, .int .i64 0] [(0, 1, .k (.int .i64 1))]) 24, ⟨1, .st (.t 2) (.t 24) 3, none, none, []⟩]) .ret) .skip)) (.seq (.seq (.reg [rI 0 (.fa (.t 1) 0) 25, rI 1 (.ld none (.t 25)) 26, rI 2 (.len (.t 26)) 27, rI 3 (.mv (.k (.int .i64 0))) 28]) (.blk 0 (.loop b21_0))) (.seq (.seq (.reg [rI 0 (.fa (.t 1) 0) 42, rI 1 (.ld none (.t 42)) 43, rI 2 (.len (.t 43)) 44, rI 3 (.mv (.k (.int .i64 0))) 45]) (.blk 2 (.loop b21_2))) (.seq (.seq (.reg [rI 0 (.fa (.t 1) 0) 115, rI 1 (.ld none (.t 115)) 116, rI 2 (.len (.t 116)) 117, rI 3 (.mv (.k (.int .i64 0))) 118]) (.blk 6 (.loop b21_3))) (.seq (.reg [rI 0 (.bld [.int .i64 0, .int .i64 0, .int .i64 0] []) 134, ⟨1, .st (.t 2) (.t 134) 3, none, none, []⟩]) .ret)))))))⟩
theorem p21 : prog 21 = some r21 := by kernel_rfl



/-- What a return comes to. -/
def RetF (μ0 : Mem) (Q : Fr → Mem → Prop) (x : Int × Int × Int) : Prop :=
 ∀ fr' μ', Same μ0.next μ0 μ' → fr' 2 = .c (.ptr (some (μ0.next + 1, 0))) → μ'.ld (some 3) (μ0.next + 1) 0 = some (.agg (flt3 x)) → Q fr' μ'

section
variable {hi : Nat} {μ0 : Mem} {c : Cell} {p : PPlan}

theorem ok_loop0 (hR : PlanR hi μ0 c p) (hh : hi ≤ μ0.next) (hl : Lens p) (hp : p.length ≤ 30) :
  ∀ (k i : Nat) (fr : Fr) (μ : Mem) (s : List It) (Q : Fr → Mem → Prop), i + k = p.length → Same (μ0.next + 2) (base2 μ0 c 0 0 0) μ →
  fr 1 = .c (.ptr (some (μ0.next, 0))) → fr 2 = .c (.ptr (some (μ0.next + 1, 0))) → fr 3 = .c (.int .i64 p.length) → fr 27 = .c (.int .i64 p.length) → fr 28 = .c (.int .i64 i) →
  (∀ b, longP (p.drop i) i = some b → RetF μ0 Q (2, b, 0)) →
  (longP (p.drop i) i = none → ∀ fr', fr' 1 = fr 1 → fr' 2 = fr 2 → fr' 3 = fr 3 → R s fr' μ Q) →
  R (.c (.loop b21_0) :: .blk 0 :: s) fr μ Q := by
 intro k
 induction k with
 | zero =>
  intro i fr μ s Q hk hs h1 h2 h3 h27 h28 hret hend
  rw [R_loop]
  simp only [rI, b21_0]
  simp only [w1, w2, ↓reduceIte, h27, h28]
  rw [decide_eq_false (by omega)]
  simp only [w1]
  rw [R_exit rfl]
  rw [List.drop_eq_nil_of_le (by omega)] at hend
  refine hend rfl _ ?_ ?_ ?_ <;> simp only [w1, ↓reduceIte, zA]
 | succ k ih =>
  intro i fr μ s Q hk hs h1 h2 h3 h27 h28 hret hend
  have hlt : i < p.length := by omega
  have hget : p[i]? = some p[i] := List.getElem?_eq_getElem hlt
  have hdrop : p.drop i = p[i] :: p.drop (i + 1) := List.drop_eq_getElem_cons hlt
  have hb1 := (box2 hs).1
  obtain ⟨bi, bo, x, e1, e2, e3, e4, e5⟩ := ((hR.same same2 hh).same hs (by omega)).at hget
  obtain ⟨a, cap, rfl, _⟩ := e5
  rw [hdrop] at hret hend
  simp only [longP] at hret hend
  rw [R_loop]
  simp only [rI, b21_0]
  simp only [w1, w2, ↓reduceIte, h27, h28]
  rw [decide_eq_true (by omega)]
  simp only [w1, w2, ↓reduceIte, zA, h1, h28, hb1, e1, e4, Nat.add_zero]
  by_cases hx : (p[i].length : Int) > 300
  ·rw [if_pos hx] at hret
   rw [decide_eq_true hx]
   simp only [w1, w2, zH, zI, ↓reduceIte, zA, zB, m2, fillc, wr, zJ, zB, h2]
   obtain ⟨μ2, est, hs2, hld⟩ := st2 hs 2 i 0
   simp only [fltc] at est
   simp only [est, w2]
   refine hret i rfl _ _ hs2 ?_ hld
   simp only [w1, ↓reduceIte, zA, h2]
  ·rw [if_neg hx] at hret hend
   rw [decide_eq_false hx]
   simp only [w1, w2, ↓reduceIte, zA, h28]
   rw [small (by omega), R_lp]
   refine ih (i + 1) _ μ s Q (by omega) hs ?_ ?_ ?_ ?_ ?_ hret (fun hn fr' f1 f2 f3 => hend hn fr' ?_ ?_ ?_)
   ·simp only [w1, ↓reduceIte, zA, h1]
   ·simp only [w1, ↓reduceIte, zA, h2]
   ·simp only [w1, ↓reduceIte, zA, h3]
   ·simp only [w1, ↓reduceIte, zA, h27]
   ·simp only [w1, ↓reduceIte]; rfl
   ·rw [f1]; simp only [w1, ↓reduceIte, zA]
   ·rw [f2]; simp only [w1, ↓reduceIte, zA]
   ·rw [f3]; simp only [w1, ↓reduceIte, zA]

theorem ok_loop1 {l : List PStep} {x : Cell} {b : Nat} (hX : ∀ μ, Same (μ0.next + 2) (base2 μ0 c 0 0 0) μ → Rd hi μ 5 x l.length (cat scells 0 l)) (hl : l.length ≤ 300) :
  ∀ (k i : Nat) (fr : Fr) (μ : Mem) (s : List It) (Q : Fr → Mem → Prop), i + k = l.length → Same (μ0.next + 2) (base2 μ0 c 0 0 0) μ →
  fr 1 = .c (.ptr (some (μ0.next, 0))) → fr 2 = .c (.ptr (some (μ0.next + 1, 0))) → fr 3 = .c (.int .i64 p.length) → fr 5 = .c (.int .i64 b) → fr 44 = .c (.int .i64 p.length) → fr 45 = .c (.int .i64 b) →
  fr 53 = .c x → fr 54 = .c (.int .i64 l.length) → fr 55 = .c (.int .i64 i) →
  (∀ j, badP p.length (l.drop i) i = some j → RetF μ0 Q (3, b, j)) →
  (badP p.length (l.drop i) i = none → ∀ fr' μ', Same (μ0.next + 2) (base2 μ0 c 0 0 0) μ' → fr' 1 = fr 1 → fr' 2 = fr 2 → fr' 3 = fr 3 → fr' 44 = fr 44 → fr' 45 = fr 45 → R s fr' μ' Q) →
  R (.c (.loop b21_1) :: .blk 4 :: s) fr μ Q := by
 intro k
 induction k with
 | zero =>
  intro i fr μ s Q hk hs h1 h2 h3 h5 h44 h45 h53 h54 h55 hret hend
  rw [R_loop]
  simp only [rI, b21_1]
  simp only [w1, w2, ↓reduceIte, h54, h55]
  rw [decide_eq_false (by omega)]
  simp only [w1]
  rw [R_exit rfl]
  rw [List.drop_eq_nil_of_le (by omega)] at hend
  refine hend rfl _ _ hs ?_ ?_ ?_ ?_ ?_ <;> simp only [w1, ↓reduceIte, zA]
 | succ k ih =>
  intro i fr μ s Q hk hs h1 h2 h3 h5 h44 h45 h53 h54 h55 hret hend
  have hlt : i < l.length := by omega
  have hget : l[i]? = some l[i] := List.getElem?_eq_getElem hlt
  have hdrop : l.drop i = l[i] :: l.drop (i + 1) := List.drop_eq_getElem_cons hlt
  have hnx : μ0.next + 2 ≤ μ.next := hs.2
  obtain ⟨bi, bo, e1, e2, e3, e4⟩ := (hX μ hs).row scells_len (by omega) hget
  have hs1 : Same (μ0.next + 2) (base2 μ0 c 0 0 0) (μ.new (scells 0 l[i]) 0) := hs.new hnx
  simp only [scells] at hs1
  rw [hdrop] at hret hend
  simp only [badP] at hret hend
  rw [R_loop]
  simp only [rI, b21_1]
  simp only [w1, w2, ↓reduceIte, h54, h55]
  rw [decide_eq_true (by omega)]
  simp only [w1, w2, zH, zI, ↓reduceIte, zA, zB, h53, h55, e1, e3, scells]
  simp only [w1, w2, ↓reduceIte, zB, m1, m2, stl, wr, zJ]
  refine R_calls rfl (by simp only [w1, w2, ↓reduceIte]; exact fieldsOf_ok _ _) ?_
  rintro v μ1 ⟨rfl, rfl⟩
  simp only [w1, w2, ↓reduceIte, zA, tupF]
  cases hok : (fieldsP l[i].op).2.2.2.2
  case false =>
   have hsh : shapeP p.length l[i] = false := by simp [shapeP, hok]
   rw [hsh] at hret
   simp only [w1, w2, zH, zI, ↓reduceIte, zA, zB, m2, fillc, wr, zJ, zB, h2, h5]
   obtain ⟨μ2, est, hs2, hld⟩ := st2 hs1 3 b i
   simp only [fltc] at est
   simp only [est, w2]
   refine hret i rfl _ _ hs2 ?_ hld
   simp only [w1, ↓reduceIte, zA, h2]
  case true =>
   simp only [w1, w2, ↓reduceIte, zA, m1, m2, h3]
   refine R_calls rfl (by simp only [w1, w2, ↓reduceIte, zA]; exact fits_ok _ _ _ _) ?_
   rintro v μ1 ⟨rfl, rfl⟩
   cases hA : fitsP (fieldsP l[i].op).1 l[i].a p.length
   case false =>
    have hsh : shapeP p.length l[i] = false := by simp [shapeP, hok, hA]
    rw [hsh] at hret
    simp only [w1, w2, zH, zI, ↓reduceIte, zA, zB, m2, fillc, wr, zJ, zB, h2, h5]
    obtain ⟨μ2, est, hs2, hld⟩ := st2 hs1 3 b i
    simp only [fltc] at est
    simp only [est, w2]
    refine hret i rfl _ _ hs2 ?_ hld
    simp only [w1, ↓reduceIte, zA, h2]
   case true =>
    simp only [w1, w2, ↓reduceIte, zA, m1, m2, h3]
    refine R_calls rfl (by simp only [w1, w2, ↓reduceIte, zA]; exact fits_ok _ _ _ _) ?_
    rintro v μ1 ⟨rfl, rfl⟩
    cases hB : fitsP (fieldsP l[i].op).2.1 l[i].b p.length
    case false =>
     have hsh : shapeP p.length l[i] = false := by simp [shapeP, hok, hA, hB]
     rw [hsh] at hret
     simp only [w1, w2, zH, zI, ↓reduceIte, zA, zB, m2, fillc, wr, zJ, zB, h2, h5]
     obtain ⟨μ2, est, hs2, hld⟩ := st2 hs1 3 b i
     simp only [fltc] at est
     simp only [est, w2]
     refine hret i rfl _ _ hs2 ?_ hld
     simp only [w1, ↓reduceIte, zA, h2]
    case true =>
     simp only [w1, ↓reduceIte, zA]
     cases hN : (fieldsP l[i].op).2.2.1
     case true =>
      simp only [w1, ↓reduceIte, zA]
      cases hH : (fieldsP l[i].op).2.2.2.1
      case true =>
       simp only [w1, w2, ↓reduceIte, zA, m1, m2]
       by_cases hS : l[i].size < 0
       ·rw [decide_eq_true hS]
        have hsh : shapeP p.length l[i] = false := by simp [shapeP, hok, hA, hB, hN, hH, hS]
        rw [hsh] at hret
        simp only [w1, w2, zH, zI, ↓reduceIte, zA, zB, m2, fillc, wr, zJ, zB, h2, h5]
        obtain ⟨μ2, est, hs2, hld⟩ := st2 hs1 3 b i
        simp only [fltc] at est
        simp only [est, w2]
        refine hret i rfl _ _ hs2 ?_ hld
        simp only [w1, ↓reduceIte, zA, h2]
       ·rw [decide_eq_false hS]
        have hS' : 0 ≤ l[i].size := by omega
        have hsh : shapeP p.length l[i] = true := by simp [shapeP, hok, hA, hB, hN, hH, hS']
        rw [hsh] at hret hend
        simp only [w1, w2, ↓reduceIte, zA, h55]
        rw [small (by omega), R_lp]
        refine ih (i + 1) _ _ s Q (by omega) hs1 ?_ ?_ ?_ ?_ ?_ ?_ ?_ ?_ ?_ hret (fun hn fr' μ' g0 g1 g2 g3 g4 g5 => hend hn fr' μ' g0 ?_ ?_ ?_ ?_ ?_)
        ·simp only [w1, ↓reduceIte, zA, h1]
        ·simp only [w1, ↓reduceIte, zA, h2]
        ·simp only [w1, ↓reduceIte, zA, h3]
        ·simp only [w1, ↓reduceIte, zA, h5]
        ·simp only [w1, ↓reduceIte, zA, h44]
        ·simp only [w1, ↓reduceIte, zA, h45]
        ·simp only [w1, ↓reduceIte, zA, h53]
        ·simp only [w1, ↓reduceIte, zA, h54]
        ·simp only [w1, ↓reduceIte]; rfl
        ·rw [g1]; simp only [w1, ↓reduceIte, zA]
        ·rw [g2]; simp only [w1, ↓reduceIte, zA]
        ·rw [g3]; simp only [w1, ↓reduceIte, zA]
        ·rw [g4]; simp only [w1, ↓reduceIte, zA]
        ·rw [g5]; simp only [w1, ↓reduceIte, zA]
      case false =>
       simp only [w1, w2, ↓reduceIte, zA, m1, m2]
       cases hZ : (l[i].size == 0)
       case false =>
        have hsh : shapeP p.length l[i] = false := by simp [shapeP, hok, hA, hB, hN, hH, hZ]
        rw [hsh] at hret
        simp only [bne, hZ, w1, w2, zH, zI, ↓reduceIte, zA, zB, m2, fillc, wr, zJ, zB, h2, h5]
        obtain ⟨μ2, est, hs2, hld⟩ := st2 hs1 3 b i
        simp only [fltc] at est
        simp only [est, w2]
        refine hret i rfl _ _ hs2 ?_ hld
        simp only [w1, ↓reduceIte, zA, h2]
       case true =>
        simp only [bne, hZ, w1, w2, ↓reduceIte, zA, m1, m2]
        by_cases hS : l[i].size < 0
        ·rw [decide_eq_true hS]
         have hsh : shapeP p.length l[i] = false := by simp [shapeP, hok, hA, hB, hN, hH, hZ, hS]
         rw [hsh] at hret
         simp only [w1, w2, zH, zI, ↓reduceIte, zA, zB, m2, fillc, wr, zJ, zB, h2, h5]
         obtain ⟨μ2, est, hs2, hld⟩ := st2 hs1 3 b i
         simp only [fltc] at est
         simp only [est, w2]
         refine hret i rfl _ _ hs2 ?_ hld
         simp only [w1, ↓reduceIte, zA, h2]
        ·rw [decide_eq_false hS]
         have hS' : 0 ≤ l[i].size := by omega
         have hsh : shapeP p.length l[i] = true := by simp [shapeP, hok, hA, hB, hN, hH, hZ, hS']
         rw [hsh] at hret hend
         simp only [w1, w2, ↓reduceIte, zA, h55]
         rw [small (by omega), R_lp]
         refine ih (i + 1) _ _ s Q (by omega) hs1 ?_ ?_ ?_ ?_ ?_ ?_ ?_ ?_ ?_ hret (fun hn fr' μ' g0 g1 g2 g3 g4 g5 => hend hn fr' μ' g0 ?_ ?_ ?_ ?_ ?_)
         ·simp only [w1, ↓reduceIte, zA, h1]
         ·simp only [w1, ↓reduceIte, zA, h2]
         ·simp only [w1, ↓reduceIte, zA, h3]
         ·simp only [w1, ↓reduceIte, zA, h5]
         ·simp only [w1, ↓reduceIte, zA, h44]
         ·simp only [w1, ↓reduceIte, zA, h45]
         ·simp only [w1, ↓reduceIte, zA, h53]
         ·simp only [w1, ↓reduceIte, zA, h54]
         ·simp only [w1, ↓reduceIte]; rfl
         ·rw [g1]; simp only [w1, ↓reduceIte, zA]
         ·rw [g2]; simp only [w1, ↓reduceIte, zA]
         ·rw [g3]; simp only [w1, ↓reduceIte, zA]
         ·rw [g4]; simp only [w1, ↓reduceIte, zA]
         ·rw [g5]; simp only [w1, ↓reduceIte, zA]
     case false =>
      simp only [w1, w2, ↓reduceIte, zA, m1, m2]
      cases hn0 : (l[i].n == 0)
      case false =>
       have hsh : shapeP p.length l[i] = false := by simp [shapeP, hok, hA, hB, hN, hn0]
       rw [hsh] at hret
       simp only [bne, hn0, w1, w2, zH, zI, ↓reduceIte, zA, zB, m2, fillc, wr, zJ, zB, h2, h5]
       obtain ⟨μ2, est, hs2, hld⟩ := st2 hs1 3 b i
       simp only [fltc] at est
       simp only [est, w2]
       refine hret i rfl _ _ hs2 ?_ hld
       simp only [w1, ↓reduceIte, zA, h2]
      case true =>
       simp only [bne, hn0, w1, ↓reduceIte, zA]
       cases hH : (fieldsP l[i].op).2.2.2.1
       case true =>
        simp only [w1, w2, ↓reduceIte, zA, m1, m2]
        by_cases hS : l[i].size < 0
        ·rw [decide_eq_true hS]
         have hsh : shapeP p.length l[i] = false := by simp [shapeP, hok, hA, hB, hN, hn0, hH, hS]
         rw [hsh] at hret
         simp only [w1, w2, zH, zI, ↓reduceIte, zA, zB, m2, fillc, wr, zJ, zB, h2, h5]
         obtain ⟨μ2, est, hs2, hld⟩ := st2 hs1 3 b i
         simp only [fltc] at est
         simp only [est, w2]
         refine hret i rfl _ _ hs2 ?_ hld
         simp only [w1, ↓reduceIte, zA, h2]
        ·rw [decide_eq_false hS]
         have hS' : 0 ≤ l[i].size := by omega
         have hsh : shapeP p.length l[i] = true := by simp [shapeP, hok, hA, hB, hN, hn0, hH, hS']
         rw [hsh] at hret hend
         simp only [w1, w2, ↓reduceIte, zA, h55]
         rw [small (by omega), R_lp]
         refine ih (i + 1) _ _ s Q (by omega) hs1 ?_ ?_ ?_ ?_ ?_ ?_ ?_ ?_ ?_ hret (fun hn fr' μ' g0 g1 g2 g3 g4 g5 => hend hn fr' μ' g0 ?_ ?_ ?_ ?_ ?_)
         ·simp only [w1, ↓reduceIte, zA, h1]
         ·simp only [w1, ↓reduceIte, zA, h2]
         ·simp only [w1, ↓reduceIte, zA, h3]
         ·simp only [w1, ↓reduceIte, zA, h5]
         ·simp only [w1, ↓reduceIte, zA, h44]
         ·simp only [w1, ↓reduceIte, zA, h45]
         ·simp only [w1, ↓reduceIte, zA, h53]
         ·simp only [w1, ↓reduceIte, zA, h54]
         ·simp only [w1, ↓reduceIte]; rfl
         ·rw [g1]; simp only [w1, ↓reduceIte, zA]
         ·rw [g2]; simp only [w1, ↓reduceIte, zA]
         ·rw [g3]; simp only [w1, ↓reduceIte, zA]
         ·rw [g4]; simp only [w1, ↓reduceIte, zA]
         ·rw [g5]; simp only [w1, ↓reduceIte, zA]
       case false =>
        simp only [w1, w2, ↓reduceIte, zA, m1, m2]
        cases hZ : (l[i].size == 0)
        case false =>
         have hsh : shapeP p.length l[i] = false := by simp [shapeP, hok, hA, hB, hN, hn0, hH, hZ]
         rw [hsh] at hret
         simp only [bne, hZ, w1, w2, zH, zI, ↓reduceIte, zA, zB, m2, fillc, wr, zJ, zB, h2, h5]
         obtain ⟨μ2, est, hs2, hld⟩ := st2 hs1 3 b i
         simp only [fltc] at est
         simp only [est, w2]
         refine hret i rfl _ _ hs2 ?_ hld
         simp only [w1, ↓reduceIte, zA, h2]
        case true =>
         simp only [bne, hZ, w1, w2, ↓reduceIte, zA, m1, m2]
         by_cases hS : l[i].size < 0
         ·rw [decide_eq_true hS]
          have hsh : shapeP p.length l[i] = false := by simp [shapeP, hok, hA, hB, hN, hn0, hH, hZ, hS]
          rw [hsh] at hret
          simp only [w1, w2, zH, zI, ↓reduceIte, zA, zB, m2, fillc, wr, zJ, zB, h2, h5]
          obtain ⟨μ2, est, hs2, hld⟩ := st2 hs1 3 b i
          simp only [fltc] at est
          simp only [est, w2]
          refine hret i rfl _ _ hs2 ?_ hld
          simp only [w1, ↓reduceIte, zA, h2]
         ·rw [decide_eq_false hS]
          have hS' : 0 ≤ l[i].size := by omega
          have hsh : shapeP p.length l[i] = true := by simp [shapeP, hok, hA, hB, hN, hn0, hH, hZ, hS']
          rw [hsh] at hret hend
          simp only [w1, w2, ↓reduceIte, zA, h55]
          rw [small (by omega), R_lp]
          refine ih (i + 1) _ _ s Q (by omega) hs1 ?_ ?_ ?_ ?_ ?_ ?_ ?_ ?_ ?_ hret (fun hn fr' μ' g0 g1 g2 g3 g4 g5 => hend hn fr' μ' g0 ?_ ?_ ?_ ?_ ?_)
          ·simp only [w1, ↓reduceIte, zA, h1]
          ·simp only [w1, ↓reduceIte, zA, h2]
          ·simp only [w1, ↓reduceIte, zA, h3]
          ·simp only [w1, ↓reduceIte, zA, h5]
          ·simp only [w1, ↓reduceIte, zA, h44]
          ·simp only [w1, ↓reduceIte, zA, h45]
          ·simp only [w1, ↓reduceIte, zA, h53]
          ·simp only [w1, ↓reduceIte, zA, h54]
          ·simp only [w1, ↓reduceIte]; rfl
          ·rw [g1]; simp only [w1, ↓reduceIte, zA]
          ·rw [g2]; simp only [w1, ↓reduceIte, zA]
          ·rw [g3]; simp only [w1, ↓reduceIte, zA]
          ·rw [g4]; simp only [w1, ↓reduceIte, zA]
          ·rw [g5]; simp only [w1, ↓reduceIte, zA]

theorem ok_loop2 (hR : PlanR hi μ0 c p) (hh : hi ≤ μ0.next) (hp : p.length ≤ 30) (h300 : ∀ b ∈ p, b.length ≤ 300) :
  ∀ (k i : Nat) (fr : Fr) (μ : Mem) (s : List It) (Q : Fr → Mem → Prop), i + k = p.length → Same (μ0.next + 2) (base2 μ0 c 0 0 0) μ →
  fr 1 = .c (.ptr (some (μ0.next, 0))) → fr 2 = .c (.ptr (some (μ0.next + 1, 0))) → fr 3 = .c (.int .i64 p.length) → fr 44 = .c (.int .i64 p.length) → fr 45 = .c (.int .i64 i) →
  (∀ b j, badsP p.length (p.drop i) i = some (b, j) → RetF μ0 Q (3, b, j)) →
  (badsP p.length (p.drop i) i = none → ∀ fr' μ', Same (μ0.next + 2) (base2 μ0 c 0 0 0) μ' → fr' 1 = fr 1 → fr' 2 = fr 2 → R s fr' μ' Q) →
  R (.c (.loop b21_2) :: .blk 2 :: s) fr μ Q := by
 intro k
 induction k with
 | zero =>
  intro i fr μ s Q hk hs h1 h2 h3 h44 h45 hret hend
  rw [R_loop]
  simp only [rI, b21_2]
  simp only [w1, w2, ↓reduceIte, h44, h45]
  rw [decide_eq_false (by omega)]
  simp only [w1]
  rw [R_exit rfl]
  rw [List.drop_eq_nil_of_le (by omega)] at hend
  refine hend rfl _ _ hs ?_ ?_ <;> simp only [w1, ↓reduceIte, zA]
 | succ k ih =>
  intro i fr μ s Q hk hs h1 h2 h3 h44 h45 hret hend
  have hlt : i < p.length := by omega
  have hget : p[i]? = some p[i] := List.getElem?_eq_getElem hlt
  have hdrop : p.drop i = p[i] :: p.drop (i + 1) := List.drop_eq_getElem_cons hlt
  have hb1 := (box2 hs).1
  have hlen := h300 p[i] (List.getElem_mem hlt)
  obtain ⟨bi, bo, x, e1, e2, e3, e4, e5⟩ := (hR.same same2 hh).at hget
  have e5' : ∀ μ, Same (μ0.next + 2) (base2 μ0 c 0 0 0) μ → Rd hi μ 5 x p[i].length (cat scells 0 p[i]) := fun μ h => e5.same h (by omega)
  rw [← hs.ld (by omega)] at e4
  obtain ⟨a, cap, rfl, _⟩ := e5
  rw [hdrop] at hret hend
  simp only [badsP] at hret hend
  rw [R_loop]
  simp only [rI, b21_2]
  simp only [w1, w2, ↓reduceIte, h44, h45]
  rw [decide_eq_true (by omega)]
  simp only [w1, w2, ↓reduceIte, zA, h1, h45, hb1, e1, e4, Nat.add_zero]
  refine ok_loop1 (p := p) (b := i) e5' hlen p[i].length 0 _ _ _ Q (by omega) hs ?_ ?_ ?_ ?_ ?_ ?_ ?_ ?_ ?_ ?_ ?_
  ·simp only [w1, ↓reduceIte, zA, h1]
  ·simp only [w1, ↓reduceIte, zA, h2]
  ·simp only [w1, ↓reduceIte, zA, h3]
  ·simp only [w1, ↓reduceIte, zA]
  ·simp only [w1, ↓reduceIte, zA, h44]
  ·simp only [w1, ↓reduceIte, zA, h45]
  ·simp only [w1, ↓reduceIte, zA]
  ·simp only [w1, ↓reduceIte, zA]
  ·simp only [w1, ↓reduceIte]; rfl
  ·intro j hj
   rw [List.drop_zero] at hj
   rw [hj] at hret
   exact hret i j rfl
  ·intro hn fr' μ' hs' g1 g2 g3 g44 g45
   rw [List.drop_zero] at hn
   rw [hn] at hret hend
   simp only [w1, ↓reduceIte, zA, h1, h2, h3, h44, h45] at g1 g2 g3 g44 g45
   simp only [w1, w2, ↓reduceIte, g45]
   rw [small (by omega), R_lp]
   refine ih (i + 1) _ μ' s Q (by omega) hs' ?_ ?_ ?_ ?_ ?_ hret (fun hn fr' μ' f0 f1 f2 => hend hn fr' μ' f0 ?_ ?_)
   ·simp only [w1, ↓reduceIte, zA, g1]
   ·simp only [w1, ↓reduceIte, zA, g2]
   ·simp only [w1, ↓reduceIte, zA, g3]
   ·simp only [w1, ↓reduceIte, zA, g44]
   ·simp only [w1, ↓reduceIte]; rfl
   ·rw [f1]; simp only [w1, ↓reduceIte, zA, g1, h1]
   ·rw [f2]; simp only [w1, ↓reduceIte, zA, g2, h2]

theorem ok_loop3 (hR : PlanR hi μ0 c p) (hh : hi ≤ μ0.next) (hp : p.length ≤ 30) (h300 : ∀ b ∈ p, b.length ≤ 300) (hsz : ∀ b ∈ p, ∀ s ∈ b, 0 ≤ s.size) :
  ∀ (k i : Nat) (fr : Fr) (μ : Mem) (s : List It) (Q : Fr → Mem → Prop), i + k = p.length → Same (μ0.next + 2) (base2 μ0 c 0 0 0) μ →
  fr 1 = .c (.ptr (some (μ0.next, 0))) → fr 2 = .c (.ptr (some (μ0.next + 1, 0))) → fr 117 = .c (.int .i64 p.length) → fr 118 = .c (.int .i64 i) →
  (∀ b r, nestsP (p.drop i) i = some (b, r) → RetF μ0 Q (r.1, b, r.2)) →
  (nestsP (p.drop i) i = none → ∀ fr' μ', Same (μ0.next + 2) (base2 μ0 c 0 0 0) μ' → fr' 2 = fr 2 → R s fr' μ' Q) →
  R (.c (.loop b21_3) :: .blk 6 :: s) fr μ Q := by
 intro k
 induction k with
 | zero =>
  intro i fr μ s Q hk hs h1 h2 h44 h45 hret hend
  rw [R_loop]
  simp only [rI, b21_3]
  simp only [w1, w2, ↓reduceIte, h44, h45]
  rw [decide_eq_false (by omega)]
  simp only [w1]
  rw [R_exit rfl]
  rw [List.drop_eq_nil_of_le (by omega)] at hend
  refine hend rfl _ _ hs ?_ <;> simp only [w1, ↓reduceIte, zA]
 | succ k ih =>
  intro i fr μ s Q hk hs h1 h2 h44 h45 hret hend
  have hlt : i < p.length := by omega
  have hget : p[i]? = some p[i] := List.getElem?_eq_getElem hlt
  have hdrop : p.drop i = p[i] :: p.drop (i + 1) := List.drop_eq_getElem_cons hlt
  have hb1 := (box2 hs).1
  have hlen := h300 p[i] (List.getElem_mem hlt)
  obtain ⟨bi, bo, x, e1, e2, e3, e4, e5⟩ := ((hR.same same2 hh).same hs (by omega)).at hget
  have hnx : μ0.next + 2 ≤ μ.next := hs.2
  rw [hdrop] at hret hend
  simp only [nestsP] at hret hend
  rw [R_loop]
  simp only [rI, b21_3]
  simp only [w1, w2, ↓reduceIte, h44, h45]
  rw [decide_eq_true (by omega)]
  simp only [w1, w2, ↓reduceIte, zA, h1, h45, hb1, e1, e4, Nat.add_zero]
  refine R_calls rfl (by simp only [w1, w2, ↓reduceIte, zA]; exact nest_ok (hsz p[i] (List.getElem_mem hlt)) hlen e5 (by omega)) ?_
  rintro v μ1 ⟨rfl, hs1⟩
  have hs2 := hs.trans (hs1.mono hnx)
  have hnx1 : μ0.next + 2 ≤ μ1.next := hs2.2
  by_cases hc : (nestP p[i]).1 = 0
  ·rw [if_pos hc] at hret hend ⊢
   have hs3 : Same (μ0.next + 2) (base2 μ0 c 0 0 0) (μ1.new (fltc 0 0 0) 0) := hs2.new hnx1
   simp only [fltc] at hs3
   simp only [w1, w2, zH, zI, ↓reduceIte, zA, zB, m1, m2, stl, wr, zJ, fltc, h45]
   rw [small (by omega), R_lp]
   refine ih (i + 1) _ _ s Q (by omega) hs3 ?_ ?_ ?_ ?_ hret (fun hn fr' μ' f0 f2 => hend hn fr' μ' f0 ?_)
   ·simp only [w1, ↓reduceIte, zA, h1]
   ·simp only [w1, ↓reduceIte, zA, h2]
   ·simp only [w1, ↓reduceIte, zA, h44]
   ·simp only [w1, ↓reduceIte]; rfl
   ·rw [f2]; simp only [w1, ↓reduceIte, zA, h2]
  ·rw [if_neg hc] at hret hend ⊢
   have hs3 : Same (μ0.next + 2) (base2 μ0 c 0 0 0) (μ1.new (fltc (nestP p[i]).1 i (nestP p[i]).2) 0) := hs2.new hnx1
   obtain ⟨μ2, est, hs4, hld⟩ := st2 hs3 (nestP p[i]).1 i (nestP p[i]).2
   simp only [fltc] at est
   simp only [w1, w2, zH, zI, ↓reduceIte, zA, zB, m1, m2, stl, wr, rd, zJ, fltc, bne, beq_ff hc, h2]
   simp only [m1, m2, stl, wr, zJ, w1, w2, ↓reduceIte, zB] at est
   simp only [est, w2]
   refine hret i (nestP p[i]) rfl _ _ hs4 ?_ hld
   simp only [w1, ↓reduceIte, zA, h2]

/-- What the end comes to. -/
def QF (μ0 : Mem) (p : PPlan) : Fr → Mem → Prop := fun fr' μ1 => ∃ v, aRet fr' μ1 [.cell 2 (some 3)] = some v ∧ v = .agg (flt3 (okP p)) ∧ Same μ0.next μ0 μ1

theorem iPlanOk_ok (hR : PlanR hi μ0 c p) (hh : hi ≤ μ0.next) (hl : Lens p) :
  Ret 21 [.agg [c]] μ0 fun v μ' => v = .agg (flt3 (okP p)) ∧ Same μ0.next μ0 μ' := by
 obtain ⟨a, cap, hc⟩ := hR.slc
 subst hc
 have hl1 := hl.1
 have hfin : ∀ (x : Int × Int × Int), okP p = x → RetF μ0 (QF μ0 p) x := by
  intro x hx fr' μ' hs h2 hld
  unfold QF
  simp only [m1, m2, aRet, aRes, aRes1, h2, hld]
  rw [hx]
  exact ⟨rfl, hs⟩
 refine Ret_of p21 (by simp [r21]) (show R [.c r21.body] _ _ (QF μ0 p) from ?_)
 simp only [rI, r21, frOf_1]
 simp only [w1, w2, zH, zI, ↓reduceIte, zA, m1, m2]
 have hs : Same (μ0.next + 2) (base2 μ0 (.slc a p.length cap) 0 0 0) ((μ0.new [.slc a p.length cap] 0).new [.int .i64 0, .int .i64 0, .int .i64 0] 0) := Same.refl
 by_cases h0 : p.length = 0
 ·have hok : okP p = (1, 0, 0) := by unfold okP; rw [if_pos (.inl h0)]
  have e0 : ((p.length : Int) == 0) = true := by rw [h0]; rfl
  simp only [e0, w1, w2, zH, zI, ↓reduceIte, zA, zB, m2, fillc, wr, zJ, zB]
  obtain ⟨μ2, est, hs2, hld⟩ := st2 hs 1 0 0
  simp only [fltc] at est
  simp only [est, w2]
  refine hfin _ hok _ _ hs2 ?_ hld
  simp only [w1, ↓reduceIte, zA]
 ·have e0 : ((p.length : Int) == 0) = false := by apply beq_ff; omega
  simp only [e0, w1, w2, ↓reduceIte, zA]
  by_cases h1 : p.length > 30
  ·have hok : okP p = (1, 0, 0) := by unfold okP; rw [if_pos (.inr h1)]
   have e1 : decide ((p.length : Int) > 30) = true := decide_eq_true (by omega)
   simp only [e1, w1, w2, zH, zI, ↓reduceIte, zA, zB, m2, fillc, wr, zJ, zB]
   obtain ⟨μ2, est, hs2, hld⟩ := st2 hs 1 0 0
   simp only [fltc] at est
   simp only [est, w2]
   refine hfin _ hok _ _ hs2 ?_ hld
   simp only [w1, ↓reduceIte, zA]
  ·have e1 : decide ((p.length : Int) > 30) = false := decide_eq_false (by omega)
   simp only [e1, w1, w2, ↓reduceIte, zA, m1, m2]
   refine ok_loop0 hR hh hl (by omega) p.length 0 _ _ _ _ (by omega) hs ?_ ?_ ?_ ?_ ?_ ?_ ?_
   ·simp only [w1, ↓reduceIte, zA]
   ·simp only [w1, ↓reduceIte, zA]
   ·simp only [w1, ↓reduceIte, zA]
   ·simp only [w1, ↓reduceIte, zA]
   ·simp only [w1, ↓reduceIte]; rfl
   ·intro b hb
    rw [List.drop_zero] at hb
    refine hfin _ ?_
    unfold okP; rw [if_neg (by omega), hb]
   ·intro hn fr' f1 f2 f3
    rw [List.drop_zero] at hn
    have h300 := longP_none hn
    simp only [w1, ↓reduceIte, zA] at f1 f2 f3
    simp only [w1, w2, ↓reduceIte, m1, m2, f1]
    refine ok_loop2 hR hh (by omega) h300 p.length 0 _ _ _ _ (by omega) hs ?_ ?_ ?_ ?_ ?_ ?_ ?_
    ·simp only [w1, ↓reduceIte, zA, f1]
    ·simp only [w1, ↓reduceIte, zA, f2]
    ·simp only [w1, ↓reduceIte, zA, f3]
    ·simp only [w1, ↓reduceIte, zA]
    ·simp only [w1, ↓reduceIte]; rfl
    ·intro b j hb
     rw [List.drop_zero] at hb
     refine hfin _ ?_
     unfold okP; rw [if_neg (by omega), hn]; dsimp only; rw [hb]
    ·intro hn2 fr2 μ2 hs2 g1 g2
     rw [List.drop_zero] at hn2
     have hsh := badsP_none hn2
     simp only [w1, ↓reduceIte, zA, f1, f2] at g1 g2
     have hb1 := (box2 hs2).1
     simp only [w1, w2, ↓reduceIte, g1, hb1]
     refine ok_loop3 hR hh (by omega) h300 (fun b hb s hs => shapeP_size (hsh b hb s hs)) p.length 0 _ _ _ _ (by omega) hs2 ?_ ?_ ?_ ?_ ?_ ?_
     ·simp only [w1, ↓reduceIte, zA, g1]
     ·simp only [w1, ↓reduceIte, zA, g2]
     ·simp only [w1, ↓reduceIte, zA]
     ·simp only [w1, ↓reduceIte]; rfl
     ·intro b r hb
      rw [List.drop_zero] at hb
      refine hfin _ ?_
      unfold okP; rw [if_neg (by omega), hn]; dsimp only; rw [hn2]; dsimp only; rw [hb]
     ·intro hn3 fr3 μ3 hs3 k2
      rw [List.drop_zero] at hn3
      simp only [w1, ↓reduceIte, zA, g2] at k2
      simp only [w1, w2, zH, zI, ↓reduceIte, zA, zB, fillc, zB, k2]
      obtain ⟨μ4, est, hs4, hld⟩ := st2 hs3 0 0 0
      simp only [fltc] at est
      simp only [est, w2]
      refine hfin (0, 0, 0) ?_ _ _ hs4 ?_ hld
      ·unfold okP; rw [if_neg (by omega), hn]; dsimp only; rw [hn2]; dsimp only; rw [hn3]
      ·simp only [w1, ↓reduceIte, zA, k2]
end
end Go.Proofs.Ytibmnlijoeppaaa
namespace Go.Proofs.Ytibmnlijoeppaaa
open Nat renaming reduceEqDiff → zA, reduceAdd → zB, reduceLeDiff → zJ, reduceMul → zK
open Int renaming reduceLT → zC, reduceLE → zD, reduceNeg → zE, reduceBEq → zF, reduceBNe → zG
open AV renaming isTup → zH, cells → zI
set_option linter.unusedSimpArgs false
set_option linter.unusedVariables false

/-! 19: spec.PlanOk -/
def b19_0 : RCode := (.seq (.reg [rI 0 (.bin .lss (.t 27) (.t 26)) 28]) (.seq (.ite (.t 28) .skip (.exit 0)) (.seq (.blk 1 (.seq (.reg [rI 0 (.mv (.t 27)) 29, rI 1 (.ias (.t 25) (.t 27) 1) 30, rI 2 (.ld (some 1) (.t 30)) 31, rI 3 (.alc [.slc none 0 0]) 4, rI 4 (.mv (.t 29)) 3, ⟨5, .st (.t 4) (.t 31) 1, none, none, []⟩]) (.seq (.reg [rI 0 (.fa (.t 4) 0) 32, rI 1 (.ld none (.t 32)) 33, rI 2 (.len (.t 33)) 34, rI 3 (.bin .gtr (.t 34) (.k (.int .i64 300))) 35]) (.ite (.t 35) (.seq (.reg [rI 0 (.mv (.t 3)) 36, rI 1 (.bld [.int .i64 0, .int .i64 0, .int .i64 0] [(0, 1, .k (.int .i64 2)), (1, 1, .t 36)]) 37, ⟨2, .st (.t 2) (.t 37) 3, none, none, []⟩]) .ret) .skip)))) (.reg [rI 0 (.bin .add (.t 27) (.k (.int .i64 1))) 38, rI 1 (.mv (.t 38)) 27]))))
def b19_1 : RCode := (.seq (.reg [rI 0 (.bin .lss (.t 50) (.t 49)) 51]) (.seq (.ite (.t 51) .skip (.exit 4)) (.seq (.blk 5 (.seq (.reg [rI 0 (.mv (.t 50)) 52, rI 1 (.ias (.t 48) (.t 50) 5) 53, rI 2 (.ld (some 5) (.t 53)) 54, rI 3 (.alc [.int .i64 0, .int .i64 0, .int .i64 0, .int .i64 0, .int .i64 0]) 8, rI 4 (.mv (.t 52)) 7, ⟨5, .st (.t 8) (.t 54) 5, none, none, []⟩]) (.seq (.reg [rI 0 (.ld (some 1) (.t 1)) 55, rI 1 (.ld (some 5) (.t 8)) 56, rI 2 (.call 59 [.t 55, .t 56]) 57, rI 3 (.nt (.t 57)) 58]) (.ite (.t 58) (.seq (.reg [rI 0 (.mv (.t 5)) 59, rI 1 (.mv (.t 7)) 60, rI 2 (.bld [.int .i64 0, .int .i64 0, .int .i64 0] [(0, 1, .k (.int .i64 3)), (1, 1, .t 59), (2, 1, .t 60)]) 61, ⟨3, .st (.t 2) (.t 61) 3, none, none, []⟩]) .ret) .skip)))) (.reg [rI 0 (.bin .add (.t 50) (.k (.int .i64 1))) 62, rI 1 (.mv (.t 62)) 50]))))
def b19_2 : RCode := (.seq (.reg [rI 0 (.bin .lss (.t 42) (.t 41)) 43]) (.seq (.ite (.t 43) .skip (.exit 2)) (.seq (.blk 3 (.seq (.reg [rI 0 (.mv (.t 42)) 44, rI 1 (.ias (.t 40) (.t 42) 1) 45, rI 2 (.ld (some 1) (.t 45)) 46, rI 3 (.alc [.slc none 0 0]) 6, rI 4 (.mv (.t 44)) 5, ⟨5, .st (.t 6) (.t 46) 1, none, none, []⟩]) (.seq (.reg [rI 0 (.fa (.t 6) 0) 47, rI 1 (.ld none (.t 47)) 48, rI 2 (.len (.t 48)) 49, rI 3 (.mv (.k (.int .i64 0))) 50]) (.blk 4 (.loop b19_1))))) (.reg [rI 0 (.bin .add (.t 42) (.k (.int .i64 1))) 63, rI 1 (.mv (.t 63)) 42]))))
def b19_3 : RCode := (.seq (.reg [rI 0 (.bin .lss (.t 67) (.t 66)) 68]) (.seq (.ite (.t 68) .skip (.exit 6)) (.seq (.blk 7 (.seq (.reg [rI 0 (.mv (.t 67)) 69, rI 1 (.ias (.t 65) (.t 67) 1) 70, rI 2 (.ld (some 1) (.t 70)) 71, rI 3 (.alc [.slc none 0 0]) 10, rI 4 (.mv (.t 69)) 9, ⟨5, .st (.t 10) (.t 71) 1, none, none, []⟩]) (.seq (.reg [rI 0 (.ld (some 1) (.t 10)) 73, rI 1 (.fa (.t 10) 0) 74, rI 2 (.ld none (.t 74)) 75, rI 3 (.len (.t 75)) 76, rI 4 (.call 60 [.t 73, .k (.int .i64 0), .t 76, .k (.int .i64 0), .k (.bool false)]) 77, rI 5 (.mv (.t 77)) 72, rI 6 (.ext (.t 72) 0) 78, rI 7 (.ext (.t 72) 1) 79, rI 8 (.mv (.t 78)) 11, rI 9 (.mv (.t 79)) 12]) (.seq (.reg [rI 0 (.mv (.t 11)) 80, rI 1 (.bin .neq (.t 80) (.k (.int .i64 0))) 81]) (.ite (.t 81) (.seq (.reg [rI 0 (.mv (.t 11)) 82, rI 1 (.mv (.t 9)) 83, rI 2 (.mv (.t 12)) 84, rI 3 (.bld [.int .i64 0, .int .i64 0, .int .i64 0] [(0, 1, .t 82), (1, 1, .t 83), (2, 1, .t 84)]) 85, ⟨4, .st (.t 2) (.t 85) 3, none, none, []⟩]) .ret) .skip))))) (.reg [rI 0 (.bin .add (.t 67) (.k (.int .i64 1))) 86, rI 1 (.mv (.t 86)) 67]))))
def r19 : RFun := ⟨88, [.cell 2 (some 3)], (.seq (.reg [rI 0 (.box (.t 0) 1) 1, rI 1 (.alc [.int .i64 0, .int .i64 0, .int .i64 0]) 2]) (.seq (.seq (.reg [rI 0 (.fa (.t 1) 0) 13, rI 1 (.ld none (.t 13)) 14, rI 2 (.len (.t 14)) 15, rI 3 (.bin .eql (.t 15) (.k (.int .i64 0))) 16, rI 4 (.mv (.t 16)) 17, ⟨5, .fa (.t 1) 0, some 18, some (17, false), []⟩, ⟨6, .ld none (.t 18), some 19, some (17, false), []⟩, ⟨7, .len (.t 19), some 20, some (17, false), []⟩, ⟨8, .bin .gtr (.t 20) (.k (.int .i64 30)), some 21, some (17, false), []⟩, rI 9 (.pick (.t 17) (.k (.bool true)) (.t 21)) 22]) (.ite (.t 22) (.seq (.reg [rI 0 (.bld [.int .i64 0, .int .i64 0, .int .i64 0] [(0, 1, .k (.int .i64 1))]) 23, ⟨1, .st (.t 2) (.t 23) 3, none, none, []⟩]) .ret) .skip)) (.seq (.seq (.reg [rI 0 (.fa (.t 1) 0) 24, rI 1 (.ld none (.t 24)) 25, rI 2 (.len (.t 25)) 26, rI 3 (.mv (.k (.int .i64 0))) 27]) (.blk 0 (.loop b19_0))) (.seq (.seq (.reg [rI 0 (.fa (.t 1) 0) 39, rI 1 (.ld none (.t 39)) 40, rI 2 (.len (.t 40)) 41, rI 3 (.mv (.k (.int .i64 0))) 42]) (.blk 2 (.loop b19_2))) (.seq (.seq (.reg [rI 0 (.fa (.t 1) 0) 64, rI 1 (.ld none (.t 64)) 65, rI 2 (.len (.t 65)) 66, rI 3 (.mv (.k (.int .i64 0))) 67]) (.blk 6 (.loop b19_3))) (.seq (.reg [rI 0 (.bld [.int .i64 0, .int .i64 0, .int .i64 0] []) 87, ⟨1, .st (.t 2) (.t 87) 3, none, none, []⟩]) .ret))))))⟩
theorem p19 : prog 19 = some r19 := by kernel_rfl



/-! ### The specification's -/

section
variable {hi : Nat} {μ0 : Mem} {c : Cell} {p : PPlan}

theorem sok_loop0 (hR : PlanR hi μ0 c p) (hh : hi ≤ μ0.next) (hp : p.length ≤ 30) :
  ∀ (k i : Nat) (fr : Fr) (μ : Mem) (s : List It) (Q : Fr → Mem → Prop), i + k = p.length → Same (μ0.next + 2) (base2 μ0 c 0 0 0) μ →
  fr 1 = .c (.ptr (some (μ0.next, 0))) → fr 2 = .c (.ptr (some (μ0.next + 1, 0))) → fr 25 = .c c → fr 26 = .c (.int .i64 p.length) → fr 27 = .c (.int .i64 i) →
  (∀ b, longP (p.drop i) i = some b → RetF μ0 Q (2, b, 0)) →
  (longP (p.drop i) i = none → ∀ fr' μ', Same (μ0.next + 2) (base2 μ0 c 0 0 0) μ' → fr' 1 = fr 1 → fr' 2 = fr 2 → R s fr' μ' Q) →
  R (.c (.loop b19_0) :: .blk 0 :: s) fr μ Q := by
 intro k
 induction k with
 | zero =>
  intro i fr μ s Q hk hs h1 h2 h25 h26 h27 hret hend
  rw [R_loop]
  simp only [rI, b19_0]
  simp only [w1, w2, ↓reduceIte, h26, h27]
  rw [decide_eq_false (by omega)]
  simp only [w1]
  rw [R_exit rfl]
  rw [List.drop_eq_nil_of_le (by omega)] at hend
  refine hend rfl _ _ hs ?_ ?_ <;> simp only [w1, ↓reduceIte, zA]
 | succ k ih =>
  intro i fr μ s Q hk hs h1 h2 h25 h26 h27 hret hend
  have hlt : i < p.length := by omega
  have hget : p[i]? = some p[i] := List.getElem?_eq_getElem hlt
  have hdrop : p.drop i = p[i] :: p.drop (i + 1) := List.drop_eq_getElem_cons hlt
  have hnx : μ0.next + 2 ≤ μ.next := hs.2
  obtain ⟨bi, bo, x, e1, e2, e3, e4, e5⟩ := ((hR.same same2 hh).same hs (by omega)).at hget
  obtain ⟨a, cap, rfl, _⟩ := e5
  have hs1 : Same (μ0.next + 2) (base2 μ0 c 0 0 0) (μ.new [.slc a p[i].length cap] 0) := hs.new hnx
  rw [hdrop] at hret hend
  simp only [longP] at hret hend
  rw [R_loop]
  simp only [rI, b19_0]
  simp only [w1, w2, ↓reduceIte, h26, h27]
  rw [decide_eq_true (by omega)]
  simp only [w1, w2, zH, zI, ↓reduceIte, zA, h25, h27, e1, e3]
  simp only [w1, w2, ↓reduceIte, m1, m2, stl, wr, zJ]
  by_cases hx : (p[i].length : Int) > 300
  ·rw [if_pos hx] at hret
   rw [decide_eq_true hx]
   simp only [w1, w2, zH, zI, ↓reduceIte, zA, zB, m2, fillc, wr, zJ, zB, h2]
   obtain ⟨μ2, est, hs2, hld⟩ := st2 hs1 2 i 0
   simp only [fltc] at est
   simp only [est, w2]
   refine hret i rfl _ _ hs2 ?_ hld
   simp only [w1, ↓reduceIte, zA, h2]
  ·rw [if_neg hx] at hret hend
   rw [decide_eq_false hx]
   simp only [w1, w2, ↓reduceIte, zA, h27]
   rw [small (by omega), R_lp]
   refine ih (i + 1) _ _ s Q (by omega) hs1 ?_ ?_ ?_ ?_ ?_ hret (fun hn fr' μ' f0 f1 f2 => hend hn fr' μ' f0 ?_ ?_)
   ·simp only [w1, ↓reduceIte, zA, h1]
   ·simp only [w1, ↓reduceIte, zA, h2]
   ·simp only [w1, ↓reduceIte, zA, h25]
   ·simp only [w1, ↓reduceIte, zA, h26]
   ·simp only [w1, ↓reduceIte]; rfl
   ·rw [f1]; simp only [w1, ↓reduceIte, zA]
   ·rw [f2]; simp only [w1, ↓reduceIte, zA]

theorem sok_loop1 (hcs : ∃ a cap, c = .slc a p.length cap) {l : List PStep} {x : Cell} {b : Nat} (hX : ∀ μ, Same (μ0.next + 2) (base2 μ0 c 0 0 0) μ → Rd hi μ 5 x l.length (cat scells 0 l)) (hl : l.length ≤ 300) :
  ∀ (k i : Nat) (fr : Fr) (μ : Mem) (s : List It) (Q : Fr → Mem → Prop), i + k = l.length → Same (μ0.next + 2) (base2 μ0 c 0 0 0) μ →
  fr 1 = .c (.ptr (some (μ0.next, 0))) → fr 2 = .c (.ptr (some (μ0.next + 1, 0))) → fr 5 = .c (.int .i64 b) →
  fr 48 = .c x → fr 49 = .c (.int .i64 l.length) → fr 50 = .c (.int .i64 i) →
  (∀ j, badP p.length (l.drop i) i = some j → RetF μ0 Q (3, b, j)) →
  (badP p.length (l.drop i) i = none → ∀ fr' μ', Same (μ0.next + 2) (base2 μ0 c 0 0 0) μ' → fr' 1 = fr 1 → fr' 2 = fr 2 → fr' 40 = fr 40 → fr' 41 = fr 41 → fr' 42 = fr 42 → R s fr' μ' Q) →
  R (.c (.loop b19_1) :: .blk 4 :: s) fr μ Q := by
 intro k
 induction k with
 | zero =>
  intro i fr μ s Q hk hs h1 h2 h5 h48 h49 h50 hret hend
  rw [R_loop]
  simp only [rI, b19_1]
  simp only [w1, w2, ↓reduceIte, h49, h50]
  rw [decide_eq_false (by omega)]
  simp only [w1]
  rw [R_exit rfl]
  rw [List.drop_eq_nil_of_le (by omega)] at hend
  refine hend rfl _ _ hs ?_ ?_ ?_ ?_ ?_ <;> simp only [w1, ↓reduceIte, zA]
 | succ k ih =>
  intro i fr μ s Q hk hs h1 h2 h5 h48 h49 h50 hret hend
  have hlt : i < l.length := by omega
  have hget : l[i]? = some l[i] := List.getElem?_eq_getElem hlt
  have hdrop : l.drop i = l[i] :: l.drop (i + 1) := List.drop_eq_getElem_cons hlt
  have hnx : μ0.next + 2 ≤ μ.next := hs.2
  have hne : ¬ μ0.next = μ.next := by omega
  have hb1 := (box2 hs).2
  obtain ⟨a, cap, rfl⟩ := hcs
  obtain ⟨bi, bo, e1, e2, e3, e4⟩ := (hX μ hs).row scells_len (by omega) hget
  have hs1 : Same (μ0.next + 2) (base2 μ0 (.slc a p.length cap) 0 0 0) (μ.new (scells 0 l[i]) 0) := hs.new hnx
  simp only [scells] at hs1
  rw [hdrop] at hret hend
  simp only [badP] at hret hend
  rw [R_loop]
  simp only [rI, b19_1]
  simp only [w1, w2, ↓reduceIte, h49, h50]
  rw [decide_eq_true (by omega)]
  simp only [w1, w2, zH, zI, ↓reduceIte, zA, zB, h48, h50, e1, e3, scells]
  simp only [w1, w2, ↓reduceIte, zB, m1, m2, stl, wr, rd, zJ, h1, hne, hb1]
  refine R_calls rfl (by simp only [w1, w2, ↓reduceIte, zA]; exact l1shape_ok _ _ _ _ _) ?_
  rintro v μ1 ⟨rfl, hs2⟩
  have hs3 := hs1.trans (hs2.mono (Nat.le_succ_of_le hnx))
  cases hsh : shapeP p.length l[i] with
  | false =>
   rw [hsh] at hret
   simp only [w1, w2, zH, zI, ↓reduceIte, zA, zB, m2, fillc, wr, zJ, zB, h2, h5]
   obtain ⟨μ2, est, hs4, hld⟩ := st2 hs3 3 b i
   simp only [fltc] at est
   simp only [est, w2]
   refine hret i rfl _ _ hs4 ?_ hld
   simp only [w1, ↓reduceIte, zA, h2]
  | true =>
   rw [hsh] at hret hend
   simp only [w1, w2, ↓reduceIte, zA, h50]
   rw [small (by omega), R_lp]
   refine ih (i + 1) _ _ s Q (by omega) hs3 ?_ ?_ ?_ ?_ ?_ ?_ hret (fun hn fr' μ' g0 g1 g2 g3 g4 g5 => hend hn fr' μ' g0 ?_ ?_ ?_ ?_ ?_)
   ·simp only [w1, ↓reduceIte, zA, h1]
   ·simp only [w1, ↓reduceIte, zA, h2]
   ·simp only [w1, ↓reduceIte, zA, h5]
   ·simp only [w1, ↓reduceIte, zA, h48]
   ·simp only [w1, ↓reduceIte, zA, h49]
   ·simp only [w1, ↓reduceIte]; rfl
   ·rw [g1]; simp only [w1, ↓reduceIte, zA]
   ·rw [g2]; simp only [w1, ↓reduceIte, zA]
   ·rw [g3]; simp only [w1, ↓reduceIte, zA]
   ·rw [g4]; simp only [w1, ↓reduceIte, zA]
   ·rw [g5]; simp only [w1, ↓reduceIte, zA]

theorem sok_loop2 (hR : PlanR hi μ0 c p) (hh : hi ≤ μ0.next) (hp : p.length ≤ 30) (h300 : ∀ b ∈ p, b.length ≤ 300) :
  ∀ (k i : Nat) (fr : Fr) (μ : Mem) (s : List It) (Q : Fr → Mem → Prop), i + k = p.length → Same (μ0.next + 2) (base2 μ0 c 0 0 0) μ →
  fr 1 = .c (.ptr (some (μ0.next, 0))) → fr 2 = .c (.ptr (some (μ0.next + 1, 0))) → fr 40 = .c c → fr 41 = .c (.int .i64 p.length) → fr 42 = .c (.int .i64 i) →
  (∀ b j, badsP p.length (p.drop i) i = some (b, j) → RetF μ0 Q (3, b, j)) →
  (badsP p.length (p.drop i) i = none → ∀ fr' μ', Same (μ0.next + 2) (base2 μ0 c 0 0 0) μ' → fr' 1 = fr 1 → fr' 2 = fr 2 → R s fr' μ' Q) →
  R (.c (.loop b19_2) :: .blk 2 :: s) fr μ Q := by
 intro k
 induction k with
 | zero =>
  intro i fr μ s Q hk hs h1 h2 h3 h44 h45 hret hend
  rw [R_loop]
  simp only [rI, b19_2]
  simp only [w1, w2, ↓reduceIte, h44, h45]
  rw [decide_eq_false (by omega)]
  simp only [w1]
  rw [R_exit rfl]
  rw [List.drop_eq_nil_of_le (by omega)] at hend
  refine hend rfl _ _ hs ?_ ?_ <;> simp only [w1, ↓reduceIte, zA]
 | succ k ih =>
  intro i fr μ s Q hk hs h1 h2 h3 h44 h45 hret hend
  have hlt : i < p.length := by omega
  have hget : p[i]? = some p[i] := List.getElem?_eq_getElem hlt
  have hdrop : p.drop i = p[i] :: p.drop (i + 1) := List.drop_eq_getElem_cons hlt
  have hnx : μ0.next + 2 ≤ μ.next := hs.2
  have hlen := h300 p[i] (List.getElem_mem hlt)
  obtain ⟨bi, bo, x, e1, e2, e3, e4, e5⟩ := (hR.same same2 hh).at hget
  have e5' : ∀ μ, Same (μ0.next + 2) (base2 μ0 c 0 0 0) μ → Rd hi μ 5 x p[i].length (cat scells 0 p[i]) := fun μ h => e5.same h (by omega)
  rw [← hs.ld (by omega)] at e3
  obtain ⟨a, cap, rfl, _⟩ := e5
  have hs1 : Same (μ0.next + 2) (base2 μ0 c 0 0 0) (μ.new [.slc a p[i].length cap] 0) := hs.new hnx
  rw [hdrop] at hret hend
  simp only [badsP] at hret hend
  rw [R_loop]
  simp only [rI, b19_2]
  simp only [w1, w2, ↓reduceIte, h44, h45]
  rw [decide_eq_true (by omega)]
  simp only [w1, w2, zH, zI, ↓reduceIte, zA, h3, h45, e1, e3]
  simp only [w1, w2, ↓reduceIte, m1, m2, stl, wr, zJ]
  refine sok_loop1 (p := p) (b := i) hR.slc e5' hlen p[i].length 0 _ _ _ Q (by omega) hs1 ?_ ?_ ?_ ?_ ?_ ?_ ?_ ?_
  ·simp only [w1, ↓reduceIte, zA, h1]
  ·simp only [w1, ↓reduceIte, zA, h2]
  ·simp only [w1, ↓reduceIte, zA]
  ·simp only [w1, ↓reduceIte, zA]
  ·simp only [w1, ↓reduceIte, zA]
  ·simp only [w1, ↓reduceIte]; rfl
  ·intro j hj
   rw [List.drop_zero] at hj
   rw [hj] at hret
   exact hret i j rfl
  ·intro hn fr' μ' hs' g1 g2 g3 g44 g45
   rw [List.drop_zero] at hn
   rw [hn] at hret hend
   simp only [w1, ↓reduceIte, zA, h1, h2, h3, h44, h45] at g1 g2 g3 g44 g45
   simp only [w1, w2, ↓reduceIte, g45]
   rw [small (by omega), R_lp]
   refine ih (i + 1) _ μ' s Q (by omega) hs' ?_ ?_ ?_ ?_ ?_ hret (fun hn fr' μ' f0 f1 f2 => hend hn fr' μ' f0 ?_ ?_)
   ·simp only [w1, ↓reduceIte, zA, g1]
   ·simp only [w1, ↓reduceIte, zA, g2]
   ·simp only [w1, ↓reduceIte, zA, g3]
   ·simp only [w1, ↓reduceIte, zA, g44]
   ·simp only [w1, ↓reduceIte]; rfl
   ·rw [f1]; simp only [w1, ↓reduceIte, zA, g1, h1]
   ·rw [f2]; simp only [w1, ↓reduceIte, zA, g2, h2]

theorem sok_loop3 (hR : PlanR hi μ0 c p) (hh : hi ≤ μ0.next) (hp : p.length ≤ 30) (h300 : ∀ b ∈ p, b.length ≤ 300) (hsz : ∀ b ∈ p, ∀ s ∈ b, 0 ≤ s.size) :
  ∀ (k i : Nat) (fr : Fr) (μ : Mem) (s : List It) (Q : Fr → Mem → Prop), i + k = p.length → Same (μ0.next + 2) (base2 μ0 c 0 0 0) μ →
  fr 2 = .c (.ptr (some (μ0.next + 1, 0))) → fr 65 = .c c → fr 66 = .c (.int .i64 p.length) → fr 67 = .c (.int .i64 i) →
  (∀ b r, nestsP (p.drop i) i = some (b, r) → RetF μ0 Q (r.1, b, r.2)) →
  (nestsP (p.drop i) i = none → ∀ fr' μ', Same (μ0.next + 2) (base2 μ0 c 0 0 0) μ' → fr' 2 = fr 2 → R s fr' μ' Q) →
  R (.c (.loop b19_3) :: .blk 6 :: s) fr μ Q := by
 intro k
 induction k with
 | zero =>
  intro i fr μ s Q hk hs h2 h3 h44 h45 hret hend
  rw [R_loop]
  simp only [rI, b19_3]
  simp only [w1, w2, ↓reduceIte, h44, h45]
  rw [decide_eq_false (by omega)]
  simp only [w1]
  rw [R_exit rfl]
  rw [List.drop_eq_nil_of_le (by omega)] at hend
  refine hend rfl _ _ hs ?_ <;> simp only [w1, ↓reduceIte, zA]
 | succ k ih =>
  intro i fr μ s Q hk hs h2 h3 h44 h45 hret hend
  have hlt : i < p.length := by omega
  have hget : p[i]? = some p[i] := List.getElem?_eq_getElem hlt
  have hdrop : p.drop i = p[i] :: p.drop (i + 1) := List.drop_eq_getElem_cons hlt
  have hlen := h300 p[i] (List.getElem_mem hlt)
  have hnx : μ0.next + 2 ≤ μ.next := hs.2
  obtain ⟨bi, bo, x, e1, e2, e3, e4, e5⟩ := ((hR.same same2 hh).same hs (by omega)).at hget
  have e5' : Rd hi (μ.new [x] 0) 5 x p[i].length (cat scells 0 p[i]) := e5.same (Same.tmp (Nat.le_refl _)) (by omega)
  have hin := l1inside_ok (hsz p[i] (List.getElem_mem hlt)) hlen p[i].length 0 p[i].length 0 false (μ.new [x] 0) x (by omega) e5' (by simp only [Mem.new_next]; omega) (Nat.le_refl _) (by omega) (by omega)
  rw [Nat.sub_zero, show insideP p[i] p[i].length 0 p[i].length 0 false = insideAll p[i] from rfl, ← nest_eq (hsz p[i] (List.getElem_mem hlt))] at hin
  have hs1 : Same (μ0.next + 2) (base2 μ0 c 0 0 0) (μ.new [x] 0) := hs.new hnx
  obtain ⟨a, cap, rfl, _⟩ := e5
  rw [hdrop] at hret hend
  simp only [nestsP] at hret hend
  rw [R_loop]
  simp only [rI, b19_3]
  simp only [w1, w2, ↓reduceIte, h44, h45]
  rw [decide_eq_true (by omega)]
  simp only [w1, w2, zH, zI, ↓reduceIte, zA, h3, h45, e1, e3]
  simp only [w1, w2, ↓reduceIte, m1, m2, stl, wr, rd, zJ]
  refine R_calls rfl (by simp only [w1, w2, ↓reduceIte, zA]; exact hin) ?_
  rintro v μ1 ⟨rfl, hs2⟩
  have hs3 := hs1.trans (hs2.mono (Nat.le_succ_of_le hnx))
  by_cases hc : (nestP p[i]).1 = 0
  ·rw [if_pos hc] at hret hend
   simp only [w1, w2, ↓reduceIte, zA, hc, h45]
   rw [small (by omega), R_lp]
   refine ih (i + 1) _ _ s Q (by omega) hs3 ?_ ?_ ?_ ?_ hret (fun hn fr' μ' f0 f2 => hend hn fr' μ' f0 ?_)
   ·simp only [w1, ↓reduceIte, zA, h2]
   ·simp only [w1, ↓reduceIte, zA, h3]
   ·simp only [w1, ↓reduceIte, zA, h44]
   ·simp only [w1, ↓reduceIte]; rfl
   ·rw [f2]; simp only [w1, ↓reduceIte, zA, h2]
  ·rw [if_neg hc] at hret hend
   obtain ⟨μ2, est, hs4, hld⟩ := st2 hs3 (nestP p[i]).1 i (nestP p[i]).2
   simp only [fltc] at est
   simp only [w1, w2, zH, zI, ↓reduceIte, zA, zB, m2, fillc, wr, zJ, zB, bne, beq_ff hc, h2]
   simp only [est, w2]
   refine hret i (nestP p[i]) rfl _ _ hs4 ?_ hld
   simp only [w1, ↓reduceIte, zA, h2]

theorem sPlanOk_ok (hR : PlanR hi μ0 c p) (hh : hi ≤ μ0.next) (hl : Lens p) :
  Ret 19 [.agg [c]] μ0 fun v μ' => v = .agg (flt3 (okP p)) ∧ Same μ0.next μ0 μ' := by
 obtain ⟨a, cap, hc⟩ := hR.slc
 subst hc
 have hl1 := hl.1
 have hfin : ∀ (x : Int × Int × Int), okP p = x → RetF μ0 (QF μ0 p) x := by
  intro x hx fr' μ' hs h2 hld
  unfold QF
  simp only [m1, m2, aRet, aRes, aRes1, h2, hld]
  rw [hx]
  exact ⟨rfl, hs⟩
 refine Ret_of p19 (by simp [r19]) (show R [.c r19.body] _ _ (QF μ0 p) from ?_)
 simp only [rI, r19, frOf_1]
 simp only [w1, w2, zH, zI, ↓reduceIte, zA, m1, m2]
 have hs : Same (μ0.next + 2) (base2 μ0 (.slc a p.length cap) 0 0 0) ((μ0.new [.slc a p.length cap] 0).new [.int .i64 0, .int .i64 0, .int .i64 0] 0) := Same.refl
 by_cases h0 : p.length = 0
 ·have hok : okP p = (1, 0, 0) := by unfold okP; rw [if_pos (.inl h0)]
  have e0 : ((p.length : Int) == 0) = true := by rw [h0]; rfl
  simp only [e0, w1, w2, zH, zI, ↓reduceIte, zA, zB, m2, fillc, wr, zJ, zB]
  obtain ⟨μ2, est, hs2, hld⟩ := st2 hs 1 0 0
  simp only [fltc] at est
  simp only [est, w2]
  refine hfin _ hok _ _ hs2 ?_ hld
  simp only [w1, ↓reduceIte, zA]
 ·have e0 : ((p.length : Int) == 0) = false := by apply beq_ff; omega
  simp only [e0, w1, w2, ↓reduceIte, zA, m1, m2]
  by_cases h1 : p.length > 30
  ·have hok : okP p = (1, 0, 0) := by unfold okP; rw [if_pos (.inr h1)]
   have e1 : decide ((p.length : Int) > 30) = true := decide_eq_true (by omega)
   simp only [e1, w1, w2, zH, zI, ↓reduceIte, zA, zB, m2, fillc, wr, zJ, zB]
   obtain ⟨μ2, est, hs2, hld⟩ := st2 hs 1 0 0
   simp only [fltc] at est
   simp only [est, w2]
   refine hfin _ hok _ _ hs2 ?_ hld
   simp only [w1, ↓reduceIte, zA]
  ·have e1 : decide ((p.length : Int) > 30) = false := decide_eq_false (by omega)
   simp only [e1, w1, w2, ↓reduceIte, zA, m1, m2]
   refine sok_loop0 hR hh (by omega) p.length 0 _ _ _ _ (by omega) hs ?_ ?_ ?_ ?_ ?_ ?_ ?_
   ·simp only [w1, ↓reduceIte, zA]
   ·simp only [w1, ↓reduceIte, zA]
   ·simp only [w1, ↓reduceIte, zA]
   ·simp only [w1, ↓reduceIte, zA]
   ·simp only [w1, ↓reduceIte]; rfl
   ·intro b hb
    rw [List.drop_zero] at hb
    refine hfin _ ?_
    unfold okP; rw [if_neg (by omega), hb]
   ·intro hn fr' μ1 hs1 f1 f2
    rw [List.drop_zero] at hn
    have h300 := longP_none hn
    have hb0 := (box2 hs1).1
    simp only [w1, ↓reduceIte, zA] at f1 f2
    simp only [w1, w2, ↓reduceIte, f1, hb0]
    refine sok_loop2 hR hh (by omega) h300 p.length 0 _ _ _ _ (by omega) hs1 ?_ ?_ ?_ ?_ ?_ ?_ ?_
    ·simp only [w1, ↓reduceIte, zA, f1]
    ·simp only [w1, ↓reduceIte, zA, f2]
    ·simp only [w1, ↓reduceIte, zA]
    ·simp only [w1, ↓reduceIte, zA]
    ·simp only [w1, ↓reduceIte]; rfl
    ·intro b j hb
     rw [List.drop_zero] at hb
     refine hfin _ ?_
     unfold okP; rw [if_neg (by omega), hn]; dsimp only; rw [hb]
    ·intro hn2 fr2 μ2 hs2 g1 g2
     rw [List.drop_zero] at hn2
     have hsh := badsP_none hn2
     simp only [w1, ↓reduceIte, zA, f1, f2] at g1 g2
     have hb1 := (box2 hs2).1
     simp only [w1, w2, ↓reduceIte, g1, hb1]
     refine sok_loop3 hR hh (by omega) h300 (fun b hb s hs => shapeP_size (hsh b hb s hs)) p.length 0 _ _ _ _ (by omega) hs2 ?_ ?_ ?_ ?_ ?_ ?_
     ·simp only [w1, ↓reduceIte, zA, g2]
     ·simp only [w1, ↓reduceIte, zA]
     ·simp only [w1, ↓reduceIte, zA]
     ·simp only [w1, ↓reduceIte]; rfl
     ·intro b r hb
      rw [List.drop_zero] at hb
      refine hfin _ ?_
      unfold okP; rw [if_neg (by omega), hn]; dsimp only; rw [hn2]; dsimp only; rw [hb]
     ·intro hn3 fr3 μ3 hs3 k2
      rw [List.drop_zero] at hn3
      simp only [w1, ↓reduceIte, zA, g2] at k2
      simp only [w1, w2, zH, zI, ↓reduceIte, zA, zB, fillc, zB, k2]
      obtain ⟨μ4, est, hs4, hld⟩ := st2 hs3 0 0 0
      simp only [fltc] at est
      simp only [est, w2]
      refine hfin (0, 0, 0) ?_ _ _ hs4 ?_ hld
      ·unfold okP; rw [if_neg (by omega), hn]; dsimp only; rw [hn2]; dsimp only; rw [hn3]
      ·simp only [w1, ↓reduceIte, zA, k2]
end
end Go.Proofs.Ytibmnlijoeppaaa
