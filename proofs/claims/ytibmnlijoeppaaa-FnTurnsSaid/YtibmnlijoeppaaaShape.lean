/-
 A step's shape: both packages' tests of it.
-/
import Derived.Test.YtibmnlijoeppaaaPlan
namespace Go.Proofs.Ytibmnlijoeppaaa
open Nat renaming reduceEqDiff → zA, reduceAdd → zB, reduceLeDiff → zJ, reduceMul → zK
open Int renaming reduceLT → zC, reduceLE → zD, reduceNeg → zE, reduceBEq → zF, reduceBNe → zG
open AV renaming isTup → zH, cells → zI
set_option linter.unusedSimpArgs false
set_option linter.unusedVariables false

/-- Which registers and numbers a step has: kinds of A and B, has N, is a head, is known. -/
def fieldsP (op : Int) : Int × Int × Bool × Bool × Bool :=
 if op = 1 then (114, 0, true, false, true)
 else if op = 2 then (114, 114, true, false, true)
 else if op = 3 ∨ op = 6 ∨ op = 9 ∨ op = 10 then (114, 0, false, false, true)
 else if op = 4 then (114, 98, false, false, true)
 else if op = 5 ∨ op = 7 ∨ op = 8 then (114, 114, false, false, true)
 else if op = 11 ∨ op = 14 ∨ op = 15 then (114, 0, false, true, true)
 else if op = 12 ∨ op = 13 then (0, 0, false, true, true)
 else (0, 0, false, false, false)

theorem ops_or (op : Int) : op = 1 ∨ op = 2 ∨ op = 3 ∨ op = 4 ∨ op = 5 ∨ op = 6 ∨ op = 7 ∨ op = 8 ∨ op = 9 ∨ op = 10 ∨ op = 11 ∨ op = 12 ∨ op = 13 ∨ op = 14 ∨ op = 15 ∨
  (op ≠ 1 ∧ op ≠ 2 ∧ op ≠ 3 ∧ op ≠ 4 ∧ op ≠ 5 ∧ op ≠ 6 ∧ op ≠ 7 ∧ op ≠ 8 ∧ op ≠ 9 ∧ op ≠ 10 ∧ op ≠ 11 ∧ op ≠ 12 ∧ op ≠ 13 ∧ op ≠ 14 ∧ op ≠ 15) := by omega

/-! 62: impl.fieldsOf -/
def r62 : RFun := ⟨30, [.tmp 2, .tmp 3, .tmp 4, .tmp 5, .tmp 6], (.seq (.reg [rI 0 (.mv (.k (.int .u8 0))) 2, rI 1 (.mv (.k (.int .u8 0))) 3, rI 2 (.mv (.k (.bool false))) 4, rI 3 (.mv (.k (.bool false))) 5, rI 4 (.mv (.k (.bool false))) 6]) (.seq (.seq (.reg [rI 0 (.mv (.t 0)) 7]) (.blk 0 (.seq (.reg [rI 0 (.bin .eql (.t 7) (.k (.int .i64 1))) 9, rI 1 (.mv (.t 9)) 8]) (.ite (.t 8) (.seq (.reg [rI 0 (.mv (.k (.int .u8 114))) 2, rI 1 (.mv (.k (.int .u8 0))) 3, rI 2 (.mv (.k (.bool true))) 4, rI 3 (.mv (.k (.bool false))) 5, rI 4 (.mv (.k (.bool true))) 6]) .ret) (.seq (.reg [rI 0 (.bin .eql (.t 7) (.k (.int .i64 2))) 11, rI 1 (.mv (.t 11)) 10]) (.ite (.t 10) (.seq (.reg [rI 0 (.mv (.k (.int .u8 114))) 2, rI 1 (.mv (.k (.int .u8 114))) 3, rI 2 (.mv (.k (.bool true))) 4, rI 3 (.mv (.k (.bool false))) 5, rI 4 (.mv (.k (.bool true))) 6]) .ret) (.seq (.seq (.reg [rI 0 (.bin .eql (.t 7) (.k (.int .i64 3))) 13, rI 1 (.mv (.t 13)) 12]) (.ite (.t 12) .skip (.seq (.reg [rI 0 (.bin .eql (.t 7) (.k (.int .i64 6))) 14, rI 1 (.mv (.t 14)) 12]) (.ite (.t 12) .skip (.seq (.reg [rI 0 (.bin .eql (.t 7) (.k (.int .i64 9))) 15, rI 1 (.mv (.t 15)) 12]) (.ite (.t 12) .skip (.reg [rI 0 (.bin .eql (.t 7) (.k (.int .i64 10))) 16, rI 1 (.mv (.t 16)) 12]))))))) (.ite (.t 12) (.seq (.reg [rI 0 (.mv (.k (.int .u8 114))) 2, rI 1 (.mv (.k (.int .u8 0))) 3, rI 2 (.mv (.k (.bool false))) 4, rI 3 (.mv (.k (.bool false))) 5, rI 4 (.mv (.k (.bool true))) 6]) .ret) (.seq (.reg [rI 0 (.bin .eql (.t 7) (.k (.int .i64 4))) 18, rI 1 (.mv (.t 18)) 17]) (.ite (.t 17) (.seq (.reg [rI 0 (.mv (.k (.int .u8 114))) 2, rI 1 (.mv (.k (.int .u8 98))) 3, rI 2 (.mv (.k (.bool false))) 4, rI 3 (.mv (.k (.bool false))) 5, rI 4 (.mv (.k (.bool true))) 6]) .ret) (.seq (.seq (.reg [rI 0 (.bin .eql (.t 7) (.k (.int .i64 5))) 20, rI 1 (.mv (.t 20)) 19]) (.ite (.t 19) .skip (.seq (.reg [rI 0 (.bin .eql (.t 7) (.k (.int .i64 7))) 21, rI 1 (.mv (.t 21)) 19]) (.ite (.t 19) .skip (.reg [rI 0 (.bin .eql (.t 7) (.k (.int .i64 8))) 22, rI 1 (.mv (.t 22)) 19]))))) (.ite (.t 19) (.seq (.reg [rI 0 (.mv (.k (.int .u8 114))) 2, rI 1 (.mv (.k (.int .u8 114))) 3, rI 2 (.mv (.k (.bool false))) 4, rI 3 (.mv (.k (.bool false))) 5, rI 4 (.mv (.k (.bool true))) 6]) .ret) (.seq (.seq (.reg [rI 0 (.bin .eql (.t 7) (.k (.int .i64 11))) 24, rI 1 (.mv (.t 24)) 23]) (.ite (.t 23) .skip (.seq (.reg [rI 0 (.bin .eql (.t 7) (.k (.int .i64 14))) 25, rI 1 (.mv (.t 25)) 23]) (.ite (.t 23) .skip (.reg [rI 0 (.bin .eql (.t 7) (.k (.int .i64 15))) 26, rI 1 (.mv (.t 26)) 23]))))) (.ite (.t 23) (.seq (.reg [rI 0 (.mv (.k (.int .u8 114))) 2, rI 1 (.mv (.k (.int .u8 0))) 3, rI 2 (.mv (.k (.bool false))) 4, rI 3 (.mv (.k (.bool true))) 5, rI 4 (.mv (.k (.bool true))) 6]) .ret) (.seq (.seq (.reg [rI 0 (.bin .eql (.t 7) (.k (.int .i64 12))) 28, rI 1 (.mv (.t 28)) 27]) (.ite (.t 27) .skip (.reg [rI 0 (.bin .eql (.t 7) (.k (.int .i64 13))) 29, rI 1 (.mv (.t 29)) 27]))) (.ite (.t 27) (.seq (.reg [rI 0 (.mv (.k (.int .u8 0))) 2, rI 1 (.mv (.k (.int .u8 0))) 3, rI 2 (.mv (.k (.bool false))) 4, rI 3 (.mv (.k (.bool true))) 5, rI 4 (.mv (.k (.bool true))) 6]) .ret) .skip)))))))))))))))) (.seq (.reg [rI 0 (.mv (.k (.int .u8 0))) 2, rI 1 (.mv (.k (.int .u8 0))) 3, rI 2 (.mv (.k (.bool false))) 4, rI 3 (.mv (.k (.bool false))) 5, rI 4 (.mv (.k (.bool false))) 6]) .ret)))⟩
theorem p62 : prog 62 = some r62 := by kernel_rfl

/-! 63: impl.fits -/
def r63 : RFun := ⟨27, [.tmp 6], (.seq (.reg [rI 0 (.mv (.k (.bool false))) 6]) (.seq (.seq (.reg [rI 0 (.mv (.t 0)) 7]) (.blk 0 (.seq (.reg [rI 0 (.bin .eql (.t 7) (.k (.int .u8 114))) 9, rI 1 (.mv (.t 9)) 8]) (.ite (.t 8) (.seq (.reg [rI 0 (.mv (.t 1)) 10, rI 1 (.bin .geq (.t 10) (.k (.int .i64 0))) 11, rI 2 (.mv (.t 11)) 12, ⟨3, .mv (.t 1), some 13, some (12, true), []⟩, ⟨4, .bin .lss (.t 13) (.k (.int .i64 4)), some 14, some (12, true), []⟩, rI 5 (.pick (.t 12) (.t 14) (.k (.bool false))) 15, rI 6 (.mv (.t 15)) 6]) .ret) (.seq (.reg [rI 0 (.bin .eql (.t 7) (.k (.int .u8 98))) 17, rI 1 (.mv (.t 17)) 16]) (.ite (.t 16) (.seq (.reg [rI 0 (.mv (.t 1)) 18, rI 1 (.bin .geq (.t 18) (.k (.int .i64 0))) 19, rI 2 (.mv (.t 19)) 20, ⟨3, .mv (.t 1), some 21, some (20, true), []⟩, ⟨4, .mv (.t 2), some 22, some (20, true), []⟩, ⟨5, .bin .lss (.t 21) (.t 22), some 23, some (20, true), []⟩, rI 6 (.pick (.t 20) (.t 23) (.k (.bool false))) 24, rI 7 (.mv (.t 24)) 6]) .ret) .skip)))))) (.seq (.reg [rI 0 (.mv (.t 1)) 25, rI 1 (.bin .eql (.t 25) (.k (.int .i64 0))) 26, rI 2 (.mv (.t 26)) 6]) .ret)))⟩
theorem p63 : prog 63 = some r63 := by kernel_rfl

/-! 89: impl.head -/
def r89 : RFun := ⟨17, [.tmp 2], (.seq (.reg [rI 0 (.mv (.k (.bool false))) 2]) (.seq (.reg [rI 0 (.mv (.t 0)) 9, rI 1 (.call 62 [.t 9]) 10, rI 2 (.mv (.t 10)) 8, rI 3 (.ext (.t 8) 0) 11, rI 4 (.ext (.t 8) 1) 12, rI 5 (.ext (.t 8) 2) 13, rI 6 (.ext (.t 8) 3) 14, rI 7 (.ext (.t 8) 4) 15, rI 8 (.mv (.t 11)) 3, rI 9 (.mv (.t 12)) 4, rI 10 (.mv (.t 13)) 5, rI 11 (.mv (.t 14)) 6, rI 12 (.mv (.t 15)) 7]) (.seq (.reg [rI 0 (.mv (.t 6)) 16, rI 1 (.mv (.t 16)) 2]) .ret)))⟩
theorem p89 : prog 89 = some r89 := by kernel_rfl

/-! 86: spec.l1reg -/
def r86 : RFun := ⟨9, [.tmp 2], (.seq (.reg [rI 0 (.mv (.k (.bool false))) 2]) (.seq (.reg [rI 0 (.mv (.t 0)) 3, rI 1 (.bin .geq (.t 3) (.k (.int .i64 0))) 4, rI 2 (.mv (.t 4)) 5, ⟨3, .mv (.t 0), some 6, some (5, true), []⟩, ⟨4, .bin .lss (.t 6) (.k (.int .i64 4)), some 7, some (5, true), []⟩, rI 5 (.pick (.t 5) (.t 7) (.k (.bool false))) 8, rI 6 (.mv (.t 8)) 2]) .ret))⟩
theorem p86 : prog 86 = some r86 := by kernel_rfl

/-! 87: spec.l1block -/
def r87 : RFun := ⟨9, [.tmp 2], (.seq (.reg [rI 0 (.mv (.k (.bool false))) 2]) (.seq (.reg [rI 0 (.mv (.t 0)) 3, rI 1 (.bin .geq (.t 3) (.k (.int .i64 11))) 4, rI 2 (.mv (.t 4)) 5, ⟨3, .mv (.t 0), some 6, some (5, true), []⟩, ⟨4, .bin .leq (.t 6) (.k (.int .i64 15)), some 7, some (5, true), []⟩, rI 5 (.pick (.t 5) (.t 7) (.k (.bool false))) 8, rI 6 (.mv (.t 8)) 2]) .ret))⟩
theorem p87 : prog 87 = some r87 := by kernel_rfl

/-! 59: spec.l1shape -/
def r59 : RFun := ⟨141, [.tmp 4], (.seq (.reg [rI 0 (.box (.t 0) 1) 2, rI 1 (.box (.t 1) 5) 3, rI 2 (.mv (.k (.bool false))) 4]) (.seq (.reg [rI 0 (.fa (.t 3) 3) 7, rI 1 (.ld none (.t 7)) 8, rI 2 (.bin .eql (.t 8) (.k (.int .i64 0))) 9, rI 3 (.mv (.t 9)) 5]) (.seq (.reg [rI 0 (.fa (.t 3) 4) 10, rI 1 (.ld none (.t 10)) 11, rI 2 (.bin .eql (.t 11) (.k (.int .i64 0))) 12, rI 3 (.mv (.t 12)) 6]) (.seq (.seq (.reg [rI 0 (.fa (.t 3) 0) 13, rI 1 (.ld none (.t 13)) 14]) (.blk 0 (.seq (.reg [rI 0 (.bin .eql (.t 14) (.k (.int .i64 1))) 16, rI 1 (.mv (.t 16)) 15]) (.ite (.t 15) (.seq (.reg [rI 0 (.fa (.t 3) 1) 17, rI 1 (.ld none (.t 17)) 18, rI 2 (.call 86 [.t 18]) 19, rI 3 (.mv (.t 19)) 20, ⟨4, .fa (.t 3) 2, some 21, some (20, true), []⟩, ⟨5, .ld none (.t 21), some 22, some (20, true), []⟩, ⟨6, .bin .eql (.t 22) (.k (.int .i64 0)), some 23, some (20, true), []⟩, rI 7 (.pick (.t 20) (.t 23) (.k (.bool false))) 24, rI 8 (.mv (.t 24)) 25, ⟨9, .mv (.t 6), some 26, some (25, true), []⟩, rI 10 (.pick (.t 25) (.t 26) (.k (.bool false))) 27, rI 11 (.mv (.t 27)) 4]) .ret) (.seq (.reg [rI 0 (.bin .eql (.t 14) (.k (.int .i64 2))) 29, rI 1 (.mv (.t 29)) 28]) (.ite (.t 28) (.seq (.reg [rI 0 (.fa (.t 3) 1) 30, rI 1 (.ld none (.t 30)) 31, rI 2 (.call 86 [.t 31]) 32, rI 3 (.mv (.t 32)) 33, ⟨4, .fa (.t 3) 2, some 34, some (33, true), []⟩, ⟨5, .ld none (.t 34), some 35, some (33, true), []⟩, ⟨6, .call 86 [.t 35], some 36, some (33, true), []⟩, rI 7 (.pick (.t 33) (.t 36) (.k (.bool false))) 37, rI 8 (.mv (.t 37)) 38, ⟨9, .mv (.t 6), some 39, some (38, true), []⟩, rI 10 (.pick (.t 38) (.t 39) (.k (.bool false))) 40, rI 11 (.mv (.t 40)) 4]) .ret) (.seq (.seq (.reg [rI 0 (.bin .eql (.t 14) (.k (.int .i64 3))) 42, rI 1 (.mv (.t 42)) 41]) (.ite (.t 41) .skip (.seq (.reg [rI 0 (.bin .eql (.t 14) (.k (.int .i64 6))) 43, rI 1 (.mv (.t 43)) 41]) (.ite (.t 41) .skip (.seq (.reg [rI 0 (.bin .eql (.t 14) (.k (.int .i64 9))) 44, rI 1 (.mv (.t 44)) 41]) (.ite (.t 41) .skip (.reg [rI 0 (.bin .eql (.t 14) (.k (.int .i64 10))) 45, rI 1 (.mv (.t 45)) 41]))))))) (.ite (.t 41) (.seq (.reg [rI 0 (.fa (.t 3) 1) 46, rI 1 (.ld none (.t 46)) 47, rI 2 (.call 86 [.t 47]) 48, rI 3 (.mv (.t 48)) 49, ⟨4, .fa (.t 3) 2, some 50, some (49, true), []⟩, ⟨5, .ld none (.t 50), some 51, some (49, true), []⟩, ⟨6, .bin .eql (.t 51) (.k (.int .i64 0)), some 52, some (49, true), []⟩, rI 7 (.pick (.t 49) (.t 52) (.k (.bool false))) 53, rI 8 (.mv (.t 53)) 54, ⟨9, .mv (.t 5), some 55, some (54, true), []⟩, rI 10 (.pick (.t 54) (.t 55) (.k (.bool false))) 56, rI 11 (.mv (.t 56)) 57, ⟨12, .mv (.t 6), some 58, some (57, true), []⟩, rI 13 (.pick (.t 57) (.t 58) (.k (.bool false))) 59, rI 14 (.mv (.t 59)) 4]) .ret) (.seq (.reg [rI 0 (.bin .eql (.t 14) (.k (.int .i64 4))) 61, rI 1 (.mv (.t 61)) 60]) (.ite (.t 60) (.seq (.reg [rI 0 (.fa (.t 3) 1) 62, rI 1 (.ld none (.t 62)) 63, rI 2 (.call 86 [.t 63]) 64, rI 3 (.mv (.t 64)) 65, ⟨4, .fa (.t 3) 2, some 66, some (65, true), []⟩, ⟨5, .ld none (.t 66), some 67, some (65, true), []⟩, ⟨6, .bin .geq (.t 67) (.k (.int .i64 0)), some 68, some (65, true), []⟩, rI 7 (.pick (.t 65) (.t 68) (.k (.bool false))) 69, rI 8 (.mv (.t 69)) 70, ⟨9, .fa (.t 3) 2, some 71, some (70, true), []⟩, ⟨10, .ld none (.t 71), some 72, some (70, true), []⟩, ⟨11, .fa (.t 2) 0, some 73, some (70, true), []⟩, ⟨12, .ld none (.t 73), some 74, some (70, true), []⟩, ⟨13, .len (.t 74), some 75, some (70, true), []⟩, ⟨14, .bin .lss (.t 72) (.t 75), some 76, some (70, true), []⟩, rI 15 (.pick (.t 70) (.t 76) (.k (.bool false))) 77, rI 16 (.mv (.t 77)) 78, ⟨17, .mv (.t 5), some 79, some (78, true), []⟩, rI 18 (.pick (.t 78) (.t 79) (.k (.bool false))) 80, rI 19 (.mv (.t 80)) 81, ⟨20, .mv (.t 6), some 82, some (81, true), []⟩, rI 21 (.pick (.t 81) (.t 82) (.k (.bool false))) 83, rI 22 (.mv (.t 83)) 4]) .ret) (.seq (.seq (.reg [rI 0 (.bin .eql (.t 14) (.k (.int .i64 5))) 85, rI 1 (.mv (.t 85)) 84]) (.ite (.t 84) .skip (.seq (.reg [rI 0 (.bin .eql (.t 14) (.k (.int .i64 7))) 86, rI 1 (.mv (.t 86)) 84]) (.ite (.t 84) .skip (.reg [rI 0 (.bin .eql (.t 14) (.k (.int .i64 8))) 87, rI 1 (.mv (.t 87)) 84]))))) (.ite (.t 84) (.seq (.reg [rI 0 (.fa (.t 3) 1) 88, rI 1 (.ld none (.t 88)) 89, rI 2 (.call 86 [.t 89]) 90, rI 3 (.mv (.t 90)) 91, ⟨4, .fa (.t 3) 2, some 92, some (91, true), []⟩, ⟨5, .ld none (.t 92), some 93, some (91, true), []⟩, ⟨6, .call 86 [.t 93], some 94, some (91, true), []⟩, rI 7 (.pick (.t 91) (.t 94) (.k (.bool false))) 95, rI 8 (.mv (.t 95)) 96, ⟨9, .mv (.t 5), some 97, some (96, true), []⟩, rI 10 (.pick (.t 96) (.t 97) (.k (.bool false))) 98, rI 11 (.mv (.t 98)) 99, ⟨12, .mv (.t 6), some 100, some (99, true), []⟩, rI 13 (.pick (.t 99) (.t 100) (.k (.bool false))) 101, rI 14 (.mv (.t 101)) 4]) .ret) (.seq (.seq (.reg [rI 0 (.bin .eql (.t 14) (.k (.int .i64 11))) 103, rI 1 (.mv (.t 103)) 102]) (.ite (.t 102) .skip (.seq (.reg [rI 0 (.bin .eql (.t 14) (.k (.int .i64 14))) 104, rI 1 (.mv (.t 104)) 102]) (.ite (.t 102) .skip (.reg [rI 0 (.bin .eql (.t 14) (.k (.int .i64 15))) 105, rI 1 (.mv (.t 105)) 102]))))) (.ite (.t 102) (.seq (.reg [rI 0 (.fa (.t 3) 1) 106, rI 1 (.ld none (.t 106)) 107, rI 2 (.call 86 [.t 107]) 108, rI 3 (.mv (.t 108)) 109, ⟨4, .fa (.t 3) 2, some 110, some (109, true), []⟩, ⟨5, .ld none (.t 110), some 111, some (109, true), []⟩, ⟨6, .bin .eql (.t 111) (.k (.int .i64 0)), some 112, some (109, true), []⟩, rI 7 (.pick (.t 109) (.t 112) (.k (.bool false))) 113, rI 8 (.mv (.t 113)) 114, ⟨9, .mv (.t 5), some 115, some (114, true), []⟩, rI 10 (.pick (.t 114) (.t 115) (.k (.bool false))) 116, rI 11 (.mv (.t 116)) 117, ⟨12, .fa (.t 3) 4, some 118, some (117, true), []⟩, ⟨13, .ld none (.t 118), some 119, some (117, true), []⟩, ⟨14, .bin .geq (.t 119) (.k (.int .i64 0)), some 120, some (117, true), []⟩, rI 15 (.pick (.t 117) (.t 120) (.k (.bool false))) 121, rI 16 (.mv (.t 121)) 4]) .ret) (.seq (.seq (.reg [rI 0 (.bin .eql (.t 14) (.k (.int .i64 12))) 123, rI 1 (.mv (.t 123)) 122]) (.ite (.t 122) .skip (.reg [rI 0 (.bin .eql (.t 14) (.k (.int .i64 13))) 124, rI 1 (.mv (.t 124)) 122]))) (.ite (.t 122) (.seq (.reg [rI 0 (.fa (.t 3) 1) 125, rI 1 (.ld none (.t 125)) 126, rI 2 (.bin .eql (.t 126) (.k (.int .i64 0))) 127, rI 3 (.mv (.t 127)) 128, ⟨4, .fa (.t 3) 2, some 129, some (128, true), []⟩, ⟨5, .ld none (.t 129), some 130, some (128, true), []⟩, ⟨6, .bin .eql (.t 130) (.k (.int .i64 0)), some 131, some (128, true), []⟩, rI 7 (.pick (.t 128) (.t 131) (.k (.bool false))) 132, rI 8 (.mv (.t 132)) 133, ⟨9, .mv (.t 5), some 134, some (133, true), []⟩, rI 10 (.pick (.t 133) (.t 134) (.k (.bool false))) 135, rI 11 (.mv (.t 135)) 136, ⟨12, .fa (.t 3) 4, some 137, some (136, true), []⟩, ⟨13, .ld none (.t 137), some 138, some (136, true), []⟩, ⟨14, .bin .geq (.t 138) (.k (.int .i64 0)), some 139, some (136, true), []⟩, rI 15 (.pick (.t 136) (.t 139) (.k (.bool false))) 140, rI 16 (.mv (.t 140)) 4]) .ret) .skip)))))))))))))))) (.seq (.reg [rI 0 (.mv (.k (.bool false))) 4]) .ret)))))⟩
theorem p59 : prog 59 = some r59 := by kernel_rfl



def tupF (x : Int × Int × Bool × Bool × Bool) : AV := .tup [.int .u8 x.1, .int .u8 x.2.1, .bool x.2.2.1, .bool x.2.2.2.1, .bool x.2.2.2.2]

theorem beq_ff {a b : Int} (h : a ≠ b) : (a == b) = false := by simpa using h

theorem fieldsOf_ok (μ : Mem) (op : Int) : Ret 62 [.c (.int .i64 op)] μ fun v μ' => v = tupF (fieldsP op) ∧ μ' = μ := by
 refine Ret_of p62 (by simp [r62]) ?_
 simp only [rI, r62, frOf_1]
 rcases ops_or op with rfl | rfl | rfl | rfl | rfl | rfl | rfl | rfl | rfl | rfl | rfl | rfl | rfl | rfl | rfl | ⟨h1, h2, h3, h4, h5, h6, h7, h8, h9, h10, h11, h12, h13, h14, h15⟩
 case inr.inr.inr.inr.inr.inr.inr.inr.inr.inr.inr.inr.inr.inr.inr =>
  simp only [w1, w2, ↓reduceIte, zA, m1, m2, aRet, aRes, aRes1, toCells, beq_ff h1, beq_ff h2, beq_ff h3, beq_ff h4, beq_ff h5, beq_ff h6, beq_ff h7, beq_ff h8, beq_ff h9, beq_ff h10, beq_ff h11, beq_ff h12, beq_ff h13, beq_ff h14, beq_ff h15]
  simp only [fieldsP, h1, h2, h3, h4, h5, h6, h7, h8, h9, h10, h11, h12, h13, h14, h15, if_false, or_self]
  rfl
 all_goals
  simp only [w1, w2, ↓reduceIte, zA, zF, m1, m2, aRet, aRes, aRes1, toCells]
  rfl

def regP (v : Int) : Bool := decide (v ≥ 0) && decide (v < 4)
def fitsP (kind v n : Int) : Bool := if kind = 114 then regP v else if kind = 98 then decide (v ≥ 0) && decide (v < n) else v == 0
def headP (op : Int) : Bool := decide (op ≥ 11) && decide (op ≤ 15)

def shapeP (n : Int) (s : PStep) : Bool :=
 (fieldsP s.op).2.2.2.2 && fitsP (fieldsP s.op).1 s.a n && fitsP (fieldsP s.op).2.1 s.b n && ((fieldsP s.op).2.2.1 || s.n == 0) && ((fieldsP s.op).2.2.2.1 || s.size == 0) && decide (s.size ≥ 0)

theorem fits_ok (μ : Mem) (kind v n : Int) : Ret 63 [.c (.int .u8 kind), .c (.int .i64 v), .c (.int .i64 n)] μ fun r μ' => r = .c (.bool (fitsP kind v n)) ∧ μ' = μ := by
 refine Ret_of p63 (by simp [r63]) ?_
 simp only [rI, r63, frOf_3]
 by_cases h1 : kind = 114
 ·subst h1
  by_cases h2 : v ≥ 0
  ·simp only [w1, w2, ↓reduceIte, zA, m1, m2, aRet, aRes, aRes1, decide_eq_true h2]
   simp [fitsP, regP, h2]
  ·simp only [w1, w2, ↓reduceIte, zA, m1, m2, aRet, aRes, aRes1, decide_eq_false h2]
   simp [fitsP, regP, h2]
 ·by_cases h3 : kind = 98
  ·subst h3
   by_cases h2 : v ≥ 0
   ·simp only [w1, w2, ↓reduceIte, zA, zF, m1, m2, aRet, aRes, aRes1, decide_eq_true h2]
    simp [fitsP, h2]
   ·simp only [w1, w2, ↓reduceIte, zA, zF, m1, m2, aRet, aRes, aRes1, decide_eq_false h2]
    simp [fitsP, h2]
  ·simp only [w1, w2, ↓reduceIte, zA, m1, m2, aRet, aRes, aRes1, beq_ff h1, beq_ff h3]
   simp [fitsP, h1, h3]

theorem head_eq (op : Int) : (fieldsP op).2.2.2.1 = headP op := by
 rcases ops_or op with rfl | rfl | rfl | rfl | rfl | rfl | rfl | rfl | rfl | rfl | rfl | rfl | rfl | rfl | rfl | ⟨h1, h2, h3, h4, h5, h6, h7, h8, h9, h10, h11, h12, h13, h14, h15⟩
 case inr.inr.inr.inr.inr.inr.inr.inr.inr.inr.inr.inr.inr.inr.inr =>
  have : ¬ (op ≥ 11 ∧ op ≤ 15) := by omega
  simp only [fieldsP, headP, h1, h2, h3, h4, h5, h6, h7, h8, h9, h10, h11, h12, h13, h14, h15, if_false, or_self]
  simp only [← Bool.decide_and, this, decide_false]
 all_goals rfl

theorem head_ok (μ : Mem) (op : Int) : Ret 89 [.c (.int .i64 op)] μ fun v μ' => v = .c (.bool (headP op)) ∧ μ' = μ := by
 refine Ret_of p89 (by simp [r89]) ?_
 simp only [rI, r89, frOf_1]
 simp only [w1, w2, ↓reduceIte, zA, m1, m2, aRet, aRes, aRes1]
 refine R_calls rfl (by simp only [w1, w2, ↓reduceIte]; exact fieldsOf_ok _ _) ?_
 rintro v μ' ⟨rfl, rfl⟩
 simp only [w1, w2, ↓reduceIte, zA, tupF, head_eq]

theorem l1reg_ok (μ : Mem) (v : Int) : Ret 86 [.c (.int .i64 v)] μ fun r μ' => r = .c (.bool (regP v)) ∧ μ' = μ := by
 refine Ret_of p86 (by simp [r86]) ?_
 simp only [rI, r86, frOf_1]
 by_cases h2 : v ≥ 0
 ·simp only [w1, w2, ↓reduceIte, zA, m1, m2, aRet, aRes, aRes1, decide_eq_true h2]
  simp [regP, h2]
 ·simp only [w1, w2, ↓reduceIte, zA, m1, m2, aRet, aRes, aRes1, decide_eq_false h2]
  simp [regP, h2]

theorem l1block_ok (μ : Mem) (v : Int) : Ret 87 [.c (.int .i64 v)] μ fun r μ' => r = .c (.bool (headP v)) ∧ μ' = μ := by
 refine Ret_of p87 (by simp [r87]) ?_
 simp only [rI, r87, frOf_1]
 by_cases h2 : v ≥ 11
 ·simp only [w1, w2, ↓reduceIte, zA, m1, m2, aRet, aRes, aRes1, decide_eq_true h2]
  simp [headP, h2]
 ·simp only [w1, w2, ↓reduceIte, zA, m1, m2, aRet, aRes, aRes1, decide_eq_false h2]
  simp [headP, h2]

theorem l1shape_ok (μ : Mem) (s : PStep) (a : Option (Nat × Nat)) (n cap : Nat) : Ret 59 [.agg [.slc a n cap], .agg (scells 0 s)] μ fun v μ' => v = .c (.bool (shapeP n s)) ∧ Same μ.next μ μ' := by
 obtain ⟨op, A, B, N, Z⟩ := s
 refine Ret_of p59 (by simp [r59, scells]) ?_
 simp only [rI, r59, frOf_2, scells]
 have hs : Same μ.next μ ((μ.new [.slc a n cap] 0).new [.int .i64 op, .int .i64 A, .int .i64 B, .int .i64 N, .int .i64 Z] 0) := (Same.tmp (Nat.le_refl _)).new (Nat.le_succ _)
 rcases ops_or op with rfl | rfl | rfl | rfl | rfl | rfl | rfl | rfl | rfl | rfl | rfl | rfl | rfl | rfl | rfl | ⟨h1, h2, h3, h4, h5, h6, h7, h8, h9, h10, h11, h12, h13, h14, h15⟩
 case inr.inr.inr.inr.inr.inr.inr.inr.inr.inr.inr.inr.inr.inr.inr =>
  simp only [w1, w2, zH, zI, ↓reduceIte, zA, zB, m1, m2, aRet, aRes, aRes1, beq_ff h1, beq_ff h2, beq_ff h3, beq_ff h4, beq_ff h5, beq_ff h6, beq_ff h7, beq_ff h8, beq_ff h9, beq_ff h10, beq_ff h11, beq_ff h12, beq_ff h13, beq_ff h14, beq_ff h15]
  simp only [shapeP, fieldsP, h1, h2, h3, h4, h5, h6, h7, h8, h9, h10, h11, h12, h13, h14, h15, if_false, or_self]
  exact ⟨rfl, hs⟩
 ·-- 1
  simp only [w1, w2, zH, zI, ↓reduceIte, zA, zB, m1, m2, aRet, aRes, aRes1]
  refine R_calls rfl (by simp only [w1, w2, ↓reduceIte]; exact l1reg_ok _ _) ?_
  rintro v μ' ⟨rfl, rfl⟩
  simp only [w1, ↓reduceIte]
  cases hA : regP A
  ·(try simp only [w1, ↓reduceIte, zA])
   refine ⟨?_, hs⟩
   congr 1
   congr 1
   simp_all [shapeP, fieldsP, fitsP]
   try omega
  ·(try simp only [w1, w2, ↓reduceIte, zA, m1, m2])
   cases hB : (B == 0)
   ·(try simp only [w1, ↓reduceIte, zA])
    refine ⟨?_, hs⟩
    congr 1
    congr 1
    simp_all [shapeP, fieldsP, fitsP]
    try omega
   ·(try simp only [w1, ↓reduceIte, zA])
    cases hZ : (Z == 0)
    ·(try simp only [w1, w2, zH, zI, ↓reduceIte, zA, zB, zC, zD, zE, zF, zG, m1, m2, stl, wr, rd, aRet, aRes, aRes1, toCells, zJ, zK])
     refine ⟨?_, hs⟩
     congr 1
     congr 1
     simp_all [shapeP, fieldsP, fitsP]
     try omega
    ·(try simp only [w1, w2, zH, zI, ↓reduceIte, zA, zB, zC, zD, zE, zF, zG, m1, m2, stl, wr, rd, aRet, aRes, aRes1, toCells, zJ, zK])
     refine ⟨?_, hs⟩
     congr 1
     congr 1
     simp_all [shapeP, fieldsP, fitsP]
     try omega
 ·-- 2
  simp only [w1, w2, zH, zI, ↓reduceIte, zA, zB, zF, m1, m2, aRet, aRes, aRes1]
  refine R_calls rfl (by simp only [w1, w2, ↓reduceIte]; exact l1reg_ok _ _) ?_
  rintro v μ' ⟨rfl, rfl⟩
  simp only [w1, ↓reduceIte]
  cases hA : regP A
  ·(try simp only [w1, ↓reduceIte, zA])
   refine ⟨?_, hs⟩
   congr 1
   congr 1
   simp_all [shapeP, fieldsP, fitsP]
   try omega
  ·(try simp only [w1, w2, ↓reduceIte, zA, m1, m2])
   refine R_calls rfl (by simp only [w1, w2, ↓reduceIte]; exact l1reg_ok _ _) ?_
   rintro v μ' ⟨rfl, rfl⟩
   simp only [w1, ↓reduceIte, zA]
   cases hB : regP B
   ·(try simp only [w1, ↓reduceIte, zA])
    refine ⟨?_, hs⟩
    congr 1
    congr 1
    simp_all [shapeP, fieldsP, fitsP]
    try omega
   ·(try simp only [w1, ↓reduceIte, zA])
    cases hZ : (Z == 0)
    ·(try simp only [w1, w2, zH, zI, ↓reduceIte, zA, zB, zC, zD, zE, zF, zG, m1, m2, stl, wr, rd, aRet, aRes, aRes1, toCells, zJ, zK])
     refine ⟨?_, hs⟩
     congr 1
     congr 1
     simp_all [shapeP, fieldsP, fitsP]
     try omega
    ·(try simp only [w1, w2, zH, zI, ↓reduceIte, zA, zB, zC, zD, zE, zF, zG, m1, m2, stl, wr, rd, aRet, aRes, aRes1, toCells, zJ, zK])
     refine ⟨?_, hs⟩
     congr 1
     congr 1
     simp_all [shapeP, fieldsP, fitsP]
     try omega
 ·-- 3
  simp only [w1, w2, zH, zI, ↓reduceIte, zA, zB, zF, m1, m2, aRet, aRes, aRes1]
  refine R_calls rfl (by simp only [w1, w2, ↓reduceIte]; exact l1reg_ok _ _) ?_
  rintro v μ' ⟨rfl, rfl⟩
  simp only [w1, ↓reduceIte]
  cases hA : regP A
  ·(try simp only [w1, ↓reduceIte, zA])
   refine ⟨?_, hs⟩
   congr 1
   congr 1
   simp_all [shapeP, fieldsP, fitsP]
   try omega
  ·(try simp only [w1, w2, ↓reduceIte, zA, m1, m2])
   cases hB : (B == 0)
   ·(try simp only [w1, ↓reduceIte, zA])
    refine ⟨?_, hs⟩
    congr 1
    congr 1
    simp_all [shapeP, fieldsP, fitsP]
    try omega
   ·(try simp only [w1, ↓reduceIte, zA])
    cases hN : (N == 0)
    ·(try simp only [w1, ↓reduceIte, zA])
     refine ⟨?_, hs⟩
     congr 1
     congr 1
     simp_all [shapeP, fieldsP, fitsP]
     try omega
    ·(try simp only [w1, ↓reduceIte, zA])
     cases hZ : (Z == 0)
     ·(try simp only [w1, w2, zH, zI, ↓reduceIte, zA, zB, zC, zD, zE, zF, zG, m1, m2, stl, wr, rd, aRet, aRes, aRes1, toCells, zJ, zK])
      refine ⟨?_, hs⟩
      congr 1
      congr 1
      simp_all [shapeP, fieldsP, fitsP]
      try omega
     ·(try simp only [w1, w2, zH, zI, ↓reduceIte, zA, zB, zC, zD, zE, zF, zG, m1, m2, stl, wr, rd, aRet, aRes, aRes1, toCells, zJ, zK])
      refine ⟨?_, hs⟩
      congr 1
      congr 1
      simp_all [shapeP, fieldsP, fitsP]
      try omega
 ·-- 4
  simp only [w1, w2, zH, zI, ↓reduceIte, zA, zB, zF, m1, m2, aRet, aRes, aRes1]
  refine R_calls rfl (by simp only [w1, w2, ↓reduceIte]; exact l1reg_ok _ _) ?_
  rintro v μ' ⟨rfl, rfl⟩
  simp only [w1, ↓reduceIte]
  cases hA : regP A
  ·(try simp only [w1, ↓reduceIte, zA])
   refine ⟨?_, hs⟩
   congr 1
   congr 1
   simp_all [shapeP, fieldsP, fitsP]
   try omega
  ·(try simp only [w1, w2, ↓reduceIte, zA, m1, m2])
   cases hB : decide (B ≥ 0)
   ·(try simp only [w1, ↓reduceIte, zA])
    refine ⟨?_, hs⟩
    congr 1
    congr 1
    simp_all [shapeP, fieldsP, fitsP]
    try omega
   ·(try simp only [w1, w2, ↓reduceIte, zA, m1, m2])
    cases hL : decide (B < (n : Int))
    ·(try simp only [w1, ↓reduceIte, zA])
     refine ⟨?_, hs⟩
     congr 1
     congr 1
     simp_all [shapeP, fieldsP, fitsP]
     try omega
    ·(try simp only [w1, ↓reduceIte, zA])
     cases hN : (N == 0)
     ·(try simp only [w1, ↓reduceIte, zA])
      refine ⟨?_, hs⟩
      congr 1
      congr 1
      simp_all [shapeP, fieldsP, fitsP]
      try omega
     ·(try simp only [w1, ↓reduceIte, zA])
      cases hZ : (Z == 0)
      ·(try simp only [w1, w2, zH, zI, ↓reduceIte, zA, zB, zC, zD, zE, zF, zG, m1, m2, stl, wr, rd, aRet, aRes, aRes1, toCells, zJ, zK])
       refine ⟨?_, hs⟩
       congr 1
       congr 1
       simp_all [shapeP, fieldsP, fitsP]
       try omega
      ·(try simp only [w1, w2, zH, zI, ↓reduceIte, zA, zB, zC, zD, zE, zF, zG, m1, m2, stl, wr, rd, aRet, aRes, aRes1, toCells, zJ, zK])
       refine ⟨?_, hs⟩
       congr 1
       congr 1
       simp_all [shapeP, fieldsP, fitsP]
       try omega
 ·-- 5
  simp only [w1, w2, zH, zI, ↓reduceIte, zA, zB, zF, m1, m2, aRet, aRes, aRes1]
  refine R_calls rfl (by simp only [w1, w2, ↓reduceIte]; exact l1reg_ok _ _) ?_
  rintro v μ' ⟨rfl, rfl⟩
  simp only [w1, ↓reduceIte]
  cases hA : regP A
  ·(try simp only [w1, ↓reduceIte, zA])
   refine ⟨?_, hs⟩
   congr 1
   congr 1
   simp_all [shapeP, fieldsP, fitsP]
   try omega
  ·(try simp only [w1, w2, ↓reduceIte, zA, m1, m2])
   refine R_calls rfl (by simp only [w1, w2, ↓reduceIte]; exact l1reg_ok _ _) ?_
   rintro v μ' ⟨rfl, rfl⟩
   simp only [w1, ↓reduceIte, zA]
   cases hB : regP B
   ·(try simp only [w1, ↓reduceIte, zA])
    refine ⟨?_, hs⟩
    congr 1
    congr 1
    simp_all [shapeP, fieldsP, fitsP]
    try omega
   ·(try simp only [w1, ↓reduceIte, zA])
    cases hN : (N == 0)
    ·(try simp only [w1, ↓reduceIte, zA])
     refine ⟨?_, hs⟩
     congr 1
     congr 1
     simp_all [shapeP, fieldsP, fitsP]
     try omega
    ·(try simp only [w1, ↓reduceIte, zA])
     cases hZ : (Z == 0)
     ·(try simp only [w1, w2, zH, zI, ↓reduceIte, zA, zB, zC, zD, zE, zF, zG, m1, m2, stl, wr, rd, aRet, aRes, aRes1, toCells, zJ, zK])
      refine ⟨?_, hs⟩
      congr 1
      congr 1
      simp_all [shapeP, fieldsP, fitsP]
      try omega
     ·(try simp only [w1, w2, zH, zI, ↓reduceIte, zA, zB, zC, zD, zE, zF, zG, m1, m2, stl, wr, rd, aRet, aRes, aRes1, toCells, zJ, zK])
      refine ⟨?_, hs⟩
      congr 1
      congr 1
      simp_all [shapeP, fieldsP, fitsP]
      try omega
 ·-- 6
  simp only [w1, w2, zH, zI, ↓reduceIte, zA, zB, zF, m1, m2, aRet, aRes, aRes1]
  refine R_calls rfl (by simp only [w1, w2, ↓reduceIte]; exact l1reg_ok _ _) ?_
  rintro v μ' ⟨rfl, rfl⟩
  simp only [w1, ↓reduceIte]
  cases hA : regP A
  ·(try simp only [w1, ↓reduceIte, zA])
   refine ⟨?_, hs⟩
   congr 1
   congr 1
   simp_all [shapeP, fieldsP, fitsP]
   try omega
  ·(try simp only [w1, w2, ↓reduceIte, zA, m1, m2])
   cases hB : (B == 0)
   ·(try simp only [w1, ↓reduceIte, zA])
    refine ⟨?_, hs⟩
    congr 1
    congr 1
    simp_all [shapeP, fieldsP, fitsP]
    try omega
   ·(try simp only [w1, ↓reduceIte, zA])
    cases hN : (N == 0)
    ·(try simp only [w1, ↓reduceIte, zA])
     refine ⟨?_, hs⟩
     congr 1
     congr 1
     simp_all [shapeP, fieldsP, fitsP]
     try omega
    ·(try simp only [w1, ↓reduceIte, zA])
     cases hZ : (Z == 0)
     ·(try simp only [w1, w2, zH, zI, ↓reduceIte, zA, zB, zC, zD, zE, zF, zG, m1, m2, stl, wr, rd, aRet, aRes, aRes1, toCells, zJ, zK])
      refine ⟨?_, hs⟩
      congr 1
      congr 1
      simp_all [shapeP, fieldsP, fitsP]
      try omega
     ·(try simp only [w1, w2, zH, zI, ↓reduceIte, zA, zB, zC, zD, zE, zF, zG, m1, m2, stl, wr, rd, aRet, aRes, aRes1, toCells, zJ, zK])
      refine ⟨?_, hs⟩
      congr 1
      congr 1
      simp_all [shapeP, fieldsP, fitsP]
      try omega
 ·-- 7
  simp only [w1, w2, zH, zI, ↓reduceIte, zA, zB, zF, m1, m2, aRet, aRes, aRes1]
  refine R_calls rfl (by simp only [w1, w2, ↓reduceIte]; exact l1reg_ok _ _) ?_
  rintro v μ' ⟨rfl, rfl⟩
  simp only [w1, ↓reduceIte]
  cases hA : regP A
  ·(try simp only [w1, ↓reduceIte, zA])
   refine ⟨?_, hs⟩
   congr 1
   congr 1
   simp_all [shapeP, fieldsP, fitsP]
   try omega
  ·(try simp only [w1, w2, ↓reduceIte, zA, m1, m2])
   refine R_calls rfl (by simp only [w1, w2, ↓reduceIte]; exact l1reg_ok _ _) ?_
   rintro v μ' ⟨rfl, rfl⟩
   simp only [w1, ↓reduceIte, zA]
   cases hB : regP B
   ·(try simp only [w1, ↓reduceIte, zA])
    refine ⟨?_, hs⟩
    congr 1
    congr 1
    simp_all [shapeP, fieldsP, fitsP]
    try omega
   ·(try simp only [w1, ↓reduceIte, zA])
    cases hN : (N == 0)
    ·(try simp only [w1, ↓reduceIte, zA])
     refine ⟨?_, hs⟩
     congr 1
     congr 1
     simp_all [shapeP, fieldsP, fitsP]
     try omega
    ·(try simp only [w1, ↓reduceIte, zA])
     cases hZ : (Z == 0)
     ·(try simp only [w1, w2, zH, zI, ↓reduceIte, zA, zB, zC, zD, zE, zF, zG, m1, m2, stl, wr, rd, aRet, aRes, aRes1, toCells, zJ, zK])
      refine ⟨?_, hs⟩
      congr 1
      congr 1
      simp_all [shapeP, fieldsP, fitsP]
      try omega
     ·(try simp only [w1, w2, zH, zI, ↓reduceIte, zA, zB, zC, zD, zE, zF, zG, m1, m2, stl, wr, rd, aRet, aRes, aRes1, toCells, zJ, zK])
      refine ⟨?_, hs⟩
      congr 1
      congr 1
      simp_all [shapeP, fieldsP, fitsP]
      try omega
 ·-- 8
  simp only [w1, w2, zH, zI, ↓reduceIte, zA, zB, zF, m1, m2, aRet, aRes, aRes1]
  refine R_calls rfl (by simp only [w1, w2, ↓reduceIte]; exact l1reg_ok _ _) ?_
  rintro v μ' ⟨rfl, rfl⟩
  simp only [w1, ↓reduceIte]
  cases hA : regP A
  ·(try simp only [w1, ↓reduceIte, zA])
   refine ⟨?_, hs⟩
   congr 1
   congr 1
   simp_all [shapeP, fieldsP, fitsP]
   try omega
  ·(try simp only [w1, w2, ↓reduceIte, zA, m1, m2])
   refine R_calls rfl (by simp only [w1, w2, ↓reduceIte]; exact l1reg_ok _ _) ?_
   rintro v μ' ⟨rfl, rfl⟩
   simp only [w1, ↓reduceIte, zA]
   cases hB : regP B
   ·(try simp only [w1, ↓reduceIte, zA])
    refine ⟨?_, hs⟩
    congr 1
    congr 1
    simp_all [shapeP, fieldsP, fitsP]
    try omega
   ·(try simp only [w1, ↓reduceIte, zA])
    cases hN : (N == 0)
    ·(try simp only [w1, ↓reduceIte, zA])
     refine ⟨?_, hs⟩
     congr 1
     congr 1
     simp_all [shapeP, fieldsP, fitsP]
     try omega
    ·(try simp only [w1, ↓reduceIte, zA])
     cases hZ : (Z == 0)
     ·(try simp only [w1, w2, zH, zI, ↓reduceIte, zA, zB, zC, zD, zE, zF, zG, m1, m2, stl, wr, rd, aRet, aRes, aRes1, toCells, zJ, zK])
      refine ⟨?_, hs⟩
      congr 1
      congr 1
      simp_all [shapeP, fieldsP, fitsP]
      try omega
     ·(try simp only [w1, w2, zH, zI, ↓reduceIte, zA, zB, zC, zD, zE, zF, zG, m1, m2, stl, wr, rd, aRet, aRes, aRes1, toCells, zJ, zK])
      refine ⟨?_, hs⟩
      congr 1
      congr 1
      simp_all [shapeP, fieldsP, fitsP]
      try omega
 ·-- 9
  simp only [w1, w2, zH, zI, ↓reduceIte, zA, zB, zF, m1, m2, aRet, aRes, aRes1]
  refine R_calls rfl (by simp only [w1, w2, ↓reduceIte]; exact l1reg_ok _ _) ?_
  rintro v μ' ⟨rfl, rfl⟩
  simp only [w1, ↓reduceIte]
  cases hA : regP A
  ·(try simp only [w1, ↓reduceIte, zA])
   refine ⟨?_, hs⟩
   congr 1
   congr 1
   simp_all [shapeP, fieldsP, fitsP]
   try omega
  ·(try simp only [w1, w2, ↓reduceIte, zA, m1, m2])
   cases hB : (B == 0)
   ·(try simp only [w1, ↓reduceIte, zA])
    refine ⟨?_, hs⟩
    congr 1
    congr 1
    simp_all [shapeP, fieldsP, fitsP]
    try omega
   ·(try simp only [w1, ↓reduceIte, zA])
    cases hN : (N == 0)
    ·(try simp only [w1, ↓reduceIte, zA])
     refine ⟨?_, hs⟩
     congr 1
     congr 1
     simp_all [shapeP, fieldsP, fitsP]
     try omega
    ·(try simp only [w1, ↓reduceIte, zA])
     cases hZ : (Z == 0)
     ·(try simp only [w1, w2, zH, zI, ↓reduceIte, zA, zB, zC, zD, zE, zF, zG, m1, m2, stl, wr, rd, aRet, aRes, aRes1, toCells, zJ, zK])
      refine ⟨?_, hs⟩
      congr 1
      congr 1
      simp_all [shapeP, fieldsP, fitsP]
      try omega
     ·(try simp only [w1, w2, zH, zI, ↓reduceIte, zA, zB, zC, zD, zE, zF, zG, m1, m2, stl, wr, rd, aRet, aRes, aRes1, toCells, zJ, zK])
      refine ⟨?_, hs⟩
      congr 1
      congr 1
      simp_all [shapeP, fieldsP, fitsP]
      try omega
 ·-- 10
  simp only [w1, w2, zH, zI, ↓reduceIte, zA, zB, zF, m1, m2, aRet, aRes, aRes1]
  refine R_calls rfl (by simp only [w1, w2, ↓reduceIte]; exact l1reg_ok _ _) ?_
  rintro v μ' ⟨rfl, rfl⟩
  simp only [w1, ↓reduceIte]
  cases hA : regP A
  ·(try simp only [w1, ↓reduceIte, zA])
   refine ⟨?_, hs⟩
   congr 1
   congr 1
   simp_all [shapeP, fieldsP, fitsP]
   try omega
  ·(try simp only [w1, w2, ↓reduceIte, zA, m1, m2])
   cases hB : (B == 0)
   ·(try simp only [w1, ↓reduceIte, zA])
    refine ⟨?_, hs⟩
    congr 1
    congr 1
    simp_all [shapeP, fieldsP, fitsP]
    try omega
   ·(try simp only [w1, ↓reduceIte, zA])
    cases hN : (N == 0)
    ·(try simp only [w1, ↓reduceIte, zA])
     refine ⟨?_, hs⟩
     congr 1
     congr 1
     simp_all [shapeP, fieldsP, fitsP]
     try omega
    ·(try simp only [w1, ↓reduceIte, zA])
     cases hZ : (Z == 0)
     ·(try simp only [w1, w2, zH, zI, ↓reduceIte, zA, zB, zC, zD, zE, zF, zG, m1, m2, stl, wr, rd, aRet, aRes, aRes1, toCells, zJ, zK])
      refine ⟨?_, hs⟩
      congr 1
      congr 1
      simp_all [shapeP, fieldsP, fitsP]
      try omega
     ·(try simp only [w1, w2, zH, zI, ↓reduceIte, zA, zB, zC, zD, zE, zF, zG, m1, m2, stl, wr, rd, aRet, aRes, aRes1, toCells, zJ, zK])
      refine ⟨?_, hs⟩
      congr 1
      congr 1
      simp_all [shapeP, fieldsP, fitsP]
      try omega
 ·-- 11
  simp only [w1, w2, zH, zI, ↓reduceIte, zA, zB, zF, m1, m2, aRet, aRes, aRes1]
  refine R_calls rfl (by simp only [w1, w2, ↓reduceIte]; exact l1reg_ok _ _) ?_
  rintro v μ' ⟨rfl, rfl⟩
  simp only [w1, ↓reduceIte]
  cases hA : regP A
  ·(try simp only [w1, ↓reduceIte, zA])
   refine ⟨?_, hs⟩
   congr 1
   congr 1
   simp_all [shapeP, fieldsP, fitsP]
   try omega
  ·(try simp only [w1, w2, ↓reduceIte, zA, m1, m2])
   cases hB : (B == 0)
   ·(try simp only [w1, ↓reduceIte, zA])
    refine ⟨?_, hs⟩
    congr 1
    congr 1
    simp_all [shapeP, fieldsP, fitsP]
    try omega
   ·(try simp only [w1, ↓reduceIte, zA])
    cases hN : (N == 0)
    ·(try simp only [w1, ↓reduceIte, zA])
     refine ⟨?_, hs⟩
     congr 1
     congr 1
     simp_all [shapeP, fieldsP, fitsP]
     try omega
    ·(try simp only [w1, w2, ↓reduceIte, zA, m1, m2])
     cases hZ : decide (Z ≥ 0)
     ·(try simp only [w1, w2, zH, zI, ↓reduceIte, zA, zB, zC, zD, zE, zF, zG, m1, m2, stl, wr, rd, aRet, aRes, aRes1, toCells, zJ, zK])
      refine ⟨?_, hs⟩
      congr 1
      congr 1
      simp_all [shapeP, fieldsP, fitsP]
      try omega
     ·(try simp only [w1, w2, zH, zI, ↓reduceIte, zA, zB, zC, zD, zE, zF, zG, m1, m2, stl, wr, rd, aRet, aRes, aRes1, toCells, zJ, zK])
      refine ⟨?_, hs⟩
      congr 1
      congr 1
      simp_all [shapeP, fieldsP, fitsP]
      try omega
 ·-- 12
  simp only [w1, w2, zH, zI, ↓reduceIte, zA, zB, zF, m1, m2, aRet, aRes, aRes1]
  cases hA : (A == 0)
  ·(try simp only [w1, ↓reduceIte, zA])
   refine ⟨?_, hs⟩
   congr 1
   congr 1
   simp_all [shapeP, fieldsP, fitsP]
   try omega
  ·(try simp only [w1, w2, ↓reduceIte, zA, m1, m2])
   cases hB : (B == 0)
   ·(try simp only [w1, ↓reduceIte, zA])
    refine ⟨?_, hs⟩
    congr 1
    congr 1
    simp_all [shapeP, fieldsP, fitsP]
    try omega
   ·(try simp only [w1, ↓reduceIte, zA])
    cases hN : (N == 0)
    ·(try simp only [w1, ↓reduceIte, zA])
     refine ⟨?_, hs⟩
     congr 1
     congr 1
     simp_all [shapeP, fieldsP, fitsP]
     try omega
    ·(try simp only [w1, w2, ↓reduceIte, zA, m1, m2])
     cases hZ : decide (Z ≥ 0)
     ·(try simp only [w1, w2, zH, zI, ↓reduceIte, zA, zB, zC, zD, zE, zF, zG, m1, m2, stl, wr, rd, aRet, aRes, aRes1, toCells, zJ, zK])
      refine ⟨?_, hs⟩
      congr 1
      congr 1
      simp_all [shapeP, fieldsP, fitsP]
      try omega
     ·(try simp only [w1, w2, zH, zI, ↓reduceIte, zA, zB, zC, zD, zE, zF, zG, m1, m2, stl, wr, rd, aRet, aRes, aRes1, toCells, zJ, zK])
      refine ⟨?_, hs⟩
      congr 1
      congr 1
      simp_all [shapeP, fieldsP, fitsP]
      try omega
 ·-- 13
  simp only [w1, w2, zH, zI, ↓reduceIte, zA, zB, zF, m1, m2, aRet, aRes, aRes1]
  cases hA : (A == 0)
  ·(try simp only [w1, ↓reduceIte, zA])
   refine ⟨?_, hs⟩
   congr 1
   congr 1
   simp_all [shapeP, fieldsP, fitsP]
   try omega
  ·(try simp only [w1, w2, ↓reduceIte, zA, m1, m2])
   cases hB : (B == 0)
   ·(try simp only [w1, ↓reduceIte, zA])
    refine ⟨?_, hs⟩
    congr 1
    congr 1
    simp_all [shapeP, fieldsP, fitsP]
    try omega
   ·(try simp only [w1, ↓reduceIte, zA])
    cases hN : (N == 0)
    ·(try simp only [w1, ↓reduceIte, zA])
     refine ⟨?_, hs⟩
     congr 1
     congr 1
     simp_all [shapeP, fieldsP, fitsP]
     try omega
    ·(try simp only [w1, w2, ↓reduceIte, zA, m1, m2])
     cases hZ : decide (Z ≥ 0)
     ·(try simp only [w1, w2, zH, zI, ↓reduceIte, zA, zB, zC, zD, zE, zF, zG, m1, m2, stl, wr, rd, aRet, aRes, aRes1, toCells, zJ, zK])
      refine ⟨?_, hs⟩
      congr 1
      congr 1
      simp_all [shapeP, fieldsP, fitsP]
      try omega
     ·(try simp only [w1, w2, zH, zI, ↓reduceIte, zA, zB, zC, zD, zE, zF, zG, m1, m2, stl, wr, rd, aRet, aRes, aRes1, toCells, zJ, zK])
      refine ⟨?_, hs⟩
      congr 1
      congr 1
      simp_all [shapeP, fieldsP, fitsP]
      try omega
 ·-- 14
  simp only [w1, w2, zH, zI, ↓reduceIte, zA, zB, zF, m1, m2, aRet, aRes, aRes1]
  refine R_calls rfl (by simp only [w1, w2, ↓reduceIte]; exact l1reg_ok _ _) ?_
  rintro v μ' ⟨rfl, rfl⟩
  simp only [w1, ↓reduceIte]
  cases hA : regP A
  ·(try simp only [w1, ↓reduceIte, zA])
   refine ⟨?_, hs⟩
   congr 1
   congr 1
   simp_all [shapeP, fieldsP, fitsP]
   try omega
  ·(try simp only [w1, w2, ↓reduceIte, zA, m1, m2])
   cases hB : (B == 0)
   ·(try simp only [w1, ↓reduceIte, zA])
    refine ⟨?_, hs⟩
    congr 1
    congr 1
    simp_all [shapeP, fieldsP, fitsP]
    try omega
   ·(try simp only [w1, ↓reduceIte, zA])
    cases hN : (N == 0)
    ·(try simp only [w1, ↓reduceIte, zA])
     refine ⟨?_, hs⟩
     congr 1
     congr 1
     simp_all [shapeP, fieldsP, fitsP]
     try omega
    ·(try simp only [w1, w2, ↓reduceIte, zA, m1, m2])
     cases hZ : decide (Z ≥ 0)
     ·(try simp only [w1, w2, zH, zI, ↓reduceIte, zA, zB, zC, zD, zE, zF, zG, m1, m2, stl, wr, rd, aRet, aRes, aRes1, toCells, zJ, zK])
      refine ⟨?_, hs⟩
      congr 1
      congr 1
      simp_all [shapeP, fieldsP, fitsP]
      try omega
     ·(try simp only [w1, w2, zH, zI, ↓reduceIte, zA, zB, zC, zD, zE, zF, zG, m1, m2, stl, wr, rd, aRet, aRes, aRes1, toCells, zJ, zK])
      refine ⟨?_, hs⟩
      congr 1
      congr 1
      simp_all [shapeP, fieldsP, fitsP]
      try omega
 ·-- 15
  simp only [w1, w2, zH, zI, ↓reduceIte, zA, zB, zF, m1, m2, aRet, aRes, aRes1]
  refine R_calls rfl (by simp only [w1, w2, ↓reduceIte]; exact l1reg_ok _ _) ?_
  rintro v μ' ⟨rfl, rfl⟩
  simp only [w1, ↓reduceIte]
  cases hA : regP A
  ·(try simp only [w1, ↓reduceIte, zA])
   refine ⟨?_, hs⟩
   congr 1
   congr 1
   simp_all [shapeP, fieldsP, fitsP]
   try omega
  ·(try simp only [w1, w2, ↓reduceIte, zA, m1, m2])
   cases hB : (B == 0)
   ·(try simp only [w1, ↓reduceIte, zA])
    refine ⟨?_, hs⟩
    congr 1
    congr 1
    simp_all [shapeP, fieldsP, fitsP]
    try omega
   ·(try simp only [w1, ↓reduceIte, zA])
    cases hN : (N == 0)
    ·(try simp only [w1, ↓reduceIte, zA])
     refine ⟨?_, hs⟩
     congr 1
     congr 1
     simp_all [shapeP, fieldsP, fitsP]
     try omega
    ·(try simp only [w1, w2, ↓reduceIte, zA, m1, m2])
     cases hZ : decide (Z ≥ 0)
     ·(try simp only [w1, w2, zH, zI, ↓reduceIte, zA, zB, zC, zD, zE, zF, zG, m1, m2, stl, wr, rd, aRet, aRes, aRes1, toCells, zJ, zK])
      refine ⟨?_, hs⟩
      congr 1
      congr 1
      simp_all [shapeP, fieldsP, fitsP]
      try omega
     ·(try simp only [w1, w2, zH, zI, ↓reduceIte, zA, zB, zC, zD, zE, zF, zG, m1, m2, stl, wr, rd, aRet, aRes, aRes1, toCells, zJ, zK])
      refine ⟨?_, hs⟩
      congr 1
      congr 1
      simp_all [shapeP, fieldsP, fitsP]
      try omega

end Go.Proofs.Ytibmnlijoeppaaa
