/-
  A step's shape: both packages' tests of it.
-/
import Derived.Test.YtibmnlijoeppaaaPlan
namespace Go.Proofs.Ytibmnlijoeppaaa
set_option linter.unusedSimpArgs false
set_option linter.unusedVariables false

/-- Which registers and numbers a step has: kinds of A and B, has N, is a head, is known. -/
def fieldsP (op : Int) : Int × Int × Bool × Bool × Bool :=
  if op = 1 then (114, 0, true, false, true)
  else if op = 2 then (114, 114, true, false, true)
  else if op = 3 ∨ op = 6 ∨ op = 9 ∨ op = 10 then (114, 0, false, false, true)
  else if op = 4 then (114, 98, false, false, true)
  else if op = 5 ∨ op = 7 ∨ op = 8 then (114, 114, false, false, true)
  else if op = 11 ∨ op = 14 ∨ op = 15 then (114, 0, false, true, true)
  else if op = 12 ∨ op = 13 then (0, 0, false, true, true)
  else (0, 0, false, false, false)

theorem ops_or (op : Int) : op = 1 ∨ op = 2 ∨ op = 3 ∨ op = 4 ∨ op = 5 ∨ op = 6 ∨ op = 7 ∨ op = 8 ∨ op = 9 ∨ op = 10 ∨ op = 11 ∨ op = 12 ∨ op = 13 ∨ op = 14 ∨ op = 15 ∨
    (op ≠ 1 ∧ op ≠ 2 ∧ op ≠ 3 ∧ op ≠ 4 ∧ op ≠ 5 ∧ op ≠ 6 ∧ op ≠ 7 ∧ op ≠ 8 ∧ op ≠ 9 ∧ op ≠ 10 ∧ op ≠ 11 ∧ op ≠ 12 ∧ op ≠ 13 ∧ op ≠ 14 ∧ op ≠ 15) := by omega

/-! 62: impl.fieldsOf -/
def r62 : RFun := ⟨30, [.tmp 2, .tmp 3, .tmp 4, .tmp 5, .tmp 6],
 (.seq
  (.reg [⟨0, .mv (.k (.int .u8 0)), some 2, none, []⟩,
    ⟨1, .mv (.k (.int .u8 0)), some 3, none, []⟩,
    ⟨2, .mv (.k (.bool false)), some 4, none, []⟩,
    ⟨3, .mv (.k (.bool false)), some 5, none, []⟩,
    ⟨4, .mv (.k (.bool false)), some 6, none, []⟩])
  (.seq
   (.seq
    (.reg [⟨0, .mv (.t 0), some 7, none, []⟩])
    (.blk 0
     (.seq
      (.reg [⟨0, .bin .eql (.t 7) (.k (.int .i64 1)), some 9, none, []⟩,
        ⟨1, .mv (.t 9), some 8, none, []⟩])
      (.ite (.t 8)
       (.seq
        (.reg [⟨0, .mv (.k (.int .u8 114)), some 2, none, []⟩,
          ⟨1, .mv (.k (.int .u8 0)), some 3, none, []⟩,
          ⟨2, .mv (.k (.bool true)), some 4, none, []⟩,
          ⟨3, .mv (.k (.bool false)), some 5, none, []⟩,
          ⟨4, .mv (.k (.bool true)), some 6, none, []⟩])
        .ret)
       (.seq
        (.reg [⟨0, .bin .eql (.t 7) (.k (.int .i64 2)), some 11, none, []⟩,
          ⟨1, .mv (.t 11), some 10, none, []⟩])
        (.ite (.t 10)
         (.seq
          (.reg [⟨0, .mv (.k (.int .u8 114)), some 2, none, []⟩,
            ⟨1, .mv (.k (.int .u8 114)), some 3, none, []⟩,
            ⟨2, .mv (.k (.bool true)), some 4, none, []⟩,
            ⟨3, .mv (.k (.bool false)), some 5, none, []⟩,
            ⟨4, .mv (.k (.bool true)), some 6, none, []⟩])
          .ret)
         (.seq
          (.seq
           (.reg [⟨0, .bin .eql (.t 7) (.k (.int .i64 3)), some 13, none, []⟩,
             ⟨1, .mv (.t 13), some 12, none, []⟩])
           (.ite (.t 12)
            .skip
            (.seq
             (.reg [⟨0, .bin .eql (.t 7) (.k (.int .i64 6)), some 14, none, []⟩,
               ⟨1, .mv (.t 14), some 12, none, []⟩])
             (.ite (.t 12)
              .skip
              (.seq
               (.reg [⟨0, .bin .eql (.t 7) (.k (.int .i64 9)), some 15, none, []⟩,
                 ⟨1, .mv (.t 15), some 12, none, []⟩])
               (.ite (.t 12)
                .skip
                (.reg [⟨0, .bin .eql (.t 7) (.k (.int .i64 10)), some 16, none, []⟩,
                  ⟨1, .mv (.t 16), some 12, none, []⟩])))))))
          (.ite (.t 12)
           (.seq
            (.reg [⟨0, .mv (.k (.int .u8 114)), some 2, none, []⟩,
              ⟨1, .mv (.k (.int .u8 0)), some 3, none, []⟩,
              ⟨2, .mv (.k (.bool false)), some 4, none, []⟩,
              ⟨3, .mv (.k (.bool false)), some 5, none, []⟩,
              ⟨4, .mv (.k (.bool true)), some 6, none, []⟩])
            .ret)
           (.seq
            (.reg [⟨0, .bin .eql (.t 7) (.k (.int .i64 4)), some 18, none, []⟩,
              ⟨1, .mv (.t 18), some 17, none, []⟩])
            (.ite (.t 17)
             (.seq
              (.reg [⟨0, .mv (.k (.int .u8 114)), some 2, none, []⟩,
                ⟨1, .mv (.k (.int .u8 98)), some 3, none, []⟩,
                ⟨2, .mv (.k (.bool false)), some 4, none, []⟩,
                ⟨3, .mv (.k (.bool false)), some 5, none, []⟩,
                ⟨4, .mv (.k (.bool true)), some 6, none, []⟩])
              .ret)
             (.seq
              (.seq
               (.reg [⟨0, .bin .eql (.t 7) (.k (.int .i64 5)), some 20, none, []⟩,
                 ⟨1, .mv (.t 20), some 19, none, []⟩])
               (.ite (.t 19)
                .skip
                (.seq
                 (.reg [⟨0, .bin .eql (.t 7) (.k (.int .i64 7)), some 21, none, []⟩,
                   ⟨1, .mv (.t 21), some 19, none, []⟩])
                 (.ite (.t 19)
                  .skip
                  (.reg [⟨0, .bin .eql (.t 7) (.k (.int .i64 8)), some 22, none, []⟩,
                    ⟨1, .mv (.t 22), some 19, none, []⟩])))))
              (.ite (.t 19)
               (.seq
                (.reg [⟨0, .mv (.k (.int .u8 114)), some 2, none, []⟩,
                  ⟨1, .mv (.k (.int .u8 114)), some 3, none, []⟩,
                  ⟨2, .mv (.k (.bool false)), some 4, none, []⟩,
                  ⟨3, .mv (.k (.bool false)), some 5, none, []⟩,
                  ⟨4, .mv (.k (.bool true)), some 6, none, []⟩])
                .ret)
               (.seq
                (.seq
                 (.reg [⟨0, .bin .eql (.t 7) (.k (.int .i64 11)), some 24, none, []⟩,
                   ⟨1, .mv (.t 24), some 23, none, []⟩])
                 (.ite (.t 23)
                  .skip
                  (.seq
                   (.reg [⟨0, .bin .eql (.t 7) (.k (.int .i64 14)), some 25, none, []⟩,
                     ⟨1, .mv (.t 25), some 23, none, []⟩])
                   (.ite (.t 23)
                    .skip
                    (.reg [⟨0, .bin .eql (.t 7) (.k (.int .i64 15)), some 26, none, []⟩,
                      ⟨1, .mv (.t 26), some 23, none, []⟩])))))
                (.ite (.t 23)
                 (.seq
                  (.reg [⟨0, .mv (.k (.int .u8 114)), some 2, none, []⟩,
                    ⟨1, .mv (.k (.int .u8 0)), some 3, none, []⟩,
                    ⟨2, .mv (.k (.bool false)), some 4, none, []⟩,
                    ⟨3, .mv (.k (.bool true)), some 5, none, []⟩,
                    ⟨4, .mv (.k (.bool true)), some 6, none, []⟩])
                  .ret)
                 (.seq
                  (.seq
                   (.reg [⟨0, .bin .eql (.t 7) (.k (.int .i64 12)), some 28, none, []⟩,
                     ⟨1, .mv (.t 28), some 27, none, []⟩])
                   (.ite (.t 27)
                    .skip
                    (.reg [⟨0, .bin .eql (.t 7) (.k (.int .i64 13)), some 29, none, []⟩,
                      ⟨1, .mv (.t 29), some 27, none, []⟩])))
                  (.ite (.t 27)
                   (.seq
                    (.reg [⟨0, .mv (.k (.int .u8 0)), some 2, none, []⟩,
                      ⟨1, .mv (.k (.int .u8 0)), some 3, none, []⟩,
                      ⟨2, .mv (.k (.bool false)), some 4, none, []⟩,
                      ⟨3, .mv (.k (.bool true)), some 5, none, []⟩,
                      ⟨4, .mv (.k (.bool true)), some 6, none, []⟩])
                    .ret)
                   .skip))))))))))))))))
   (.seq
    (.reg [⟨0, .mv (.k (.int .u8 0)), some 2, none, []⟩,
      ⟨1, .mv (.k (.int .u8 0)), some 3, none, []⟩,
      ⟨2, .mv (.k (.bool false)), some 4, none, []⟩,
      ⟨3, .mv (.k (.bool false)), some 5, none, []⟩,
      ⟨4, .mv (.k (.bool false)), some 6, none, []⟩])
    .ret)))⟩
theorem p62 : prog 62 = some r62 := by kernel_rfl

/-! 63: impl.fits -/
def r63 : RFun := ⟨27, [.tmp 6],
 (.seq
  (.reg [⟨0, .mv (.k (.bool false)), some 6, none, []⟩])
  (.seq
   (.seq
    (.reg [⟨0, .mv (.t 0), some 7, none, []⟩])
    (.blk 0
     (.seq
      (.reg [⟨0, .bin .eql (.t 7) (.k (.int .u8 114)), some 9, none, []⟩,
        ⟨1, .mv (.t 9), some 8, none, []⟩])
      (.ite (.t 8)
       (.seq
        (.reg [⟨0, .mv (.t 1), some 10, none, []⟩,
          ⟨1, .bin .geq (.t 10) (.k (.int .i64 0)), some 11, none, []⟩,
          ⟨2, .mv (.t 11), some 12, none, []⟩,
          ⟨3, .mv (.t 1), some 13, some (12, true), []⟩,
          ⟨4, .bin .lss (.t 13) (.k (.int .i64 4)), some 14, some (12, true), []⟩,
          ⟨5, .pick (.t 12) (.t 14) (.k (.bool false)), some 15, none, []⟩,
          ⟨6, .mv (.t 15), some 6, none, []⟩])
        .ret)
       (.seq
        (.reg [⟨0, .bin .eql (.t 7) (.k (.int .u8 98)), some 17, none, []⟩,
          ⟨1, .mv (.t 17), some 16, none, []⟩])
        (.ite (.t 16)
         (.seq
          (.reg [⟨0, .mv (.t 1), some 18, none, []⟩,
            ⟨1, .bin .geq (.t 18) (.k (.int .i64 0)), some 19, none, []⟩,
            ⟨2, .mv (.t 19), some 20, none, []⟩,
            ⟨3, .mv (.t 1), some 21, some (20, true), []⟩,
            ⟨4, .mv (.t 2), some 22, some (20, true), []⟩,
            ⟨5, .bin .lss (.t 21) (.t 22), some 23, some (20, true), []⟩,
            ⟨6, .pick (.t 20) (.t 23) (.k (.bool false)), some 24, none, []⟩,
            ⟨7, .mv (.t 24), some 6, none, []⟩])
          .ret)
         .skip))))))
   (.seq
    (.reg [⟨0, .mv (.t 1), some 25, none, []⟩,
      ⟨1, .bin .eql (.t 25) (.k (.int .i64 0)), some 26, none, []⟩,
      ⟨2, .mv (.t 26), some 6, none, []⟩])
    .ret)))⟩
theorem p63 : prog 63 = some r63 := by kernel_rfl

/-! 89: impl.head -/
def r89 : RFun := ⟨17, [.tmp 2],
 (.seq
  (.reg [⟨0, .mv (.k (.bool false)), some 2, none, []⟩])
  (.seq
   (.reg [⟨0, .mv (.t 0), some 9, none, []⟩,
     ⟨1, .call 62 [.t 9], some 10, none, []⟩,
     ⟨2, .mv (.t 10), some 8, none, []⟩,
     ⟨3, .ext (.t 8) 0, some 11, none, []⟩,
     ⟨4, .ext (.t 8) 1, some 12, none, []⟩,
     ⟨5, .ext (.t 8) 2, some 13, none, []⟩,
     ⟨6, .ext (.t 8) 3, some 14, none, []⟩,
     ⟨7, .ext (.t 8) 4, some 15, none, []⟩,
     ⟨8, .mv (.t 11), some 3, none, []⟩,
     ⟨9, .mv (.t 12), some 4, none, []⟩,
     ⟨10, .mv (.t 13), some 5, none, []⟩,
     ⟨11, .mv (.t 14), some 6, none, []⟩,
     ⟨12, .mv (.t 15), some 7, none, []⟩])
   (.seq
    (.reg [⟨0, .mv (.t 6), some 16, none, []⟩,
      ⟨1, .mv (.t 16), some 2, none, []⟩])
    .ret)))⟩
theorem p89 : prog 89 = some r89 := by kernel_rfl

/-! 86: spec.l1reg -/
def r86 : RFun := ⟨9, [.tmp 2],
 (.seq
  (.reg [⟨0, .mv (.k (.bool false)), some 2, none, []⟩])
  (.seq
   (.reg [⟨0, .mv (.t 0), some 3, none, []⟩,
     ⟨1, .bin .geq (.t 3) (.k (.int .i64 0)), some 4, none, []⟩,
     ⟨2, .mv (.t 4), some 5, none, []⟩,
     ⟨3, .mv (.t 0), some 6, some (5, true), []⟩,
     ⟨4, .bin .lss (.t 6) (.k (.int .i64 4)), some 7, some (5, true), []⟩,
     ⟨5, .pick (.t 5) (.t 7) (.k (.bool false)), some 8, none, []⟩,
     ⟨6, .mv (.t 8), some 2, none, []⟩])
   .ret))⟩
theorem p86 : prog 86 = some r86 := by kernel_rfl

/-! 87: spec.l1block -/
def r87 : RFun := ⟨9, [.tmp 2],
 (.seq
  (.reg [⟨0, .mv (.k (.bool false)), some 2, none, []⟩])
  (.seq
   (.reg [⟨0, .mv (.t 0), some 3, none, []⟩,
     ⟨1, .bin .geq (.t 3) (.k (.int .i64 11)), some 4, none, []⟩,
     ⟨2, .mv (.t 4), some 5, none, []⟩,
     ⟨3, .mv (.t 0), some 6, some (5, true), []⟩,
     ⟨4, .bin .leq (.t 6) (.k (.int .i64 15)), some 7, some (5, true), []⟩,
     ⟨5, .pick (.t 5) (.t 7) (.k (.bool false)), some 8, none, []⟩,
     ⟨6, .mv (.t 8), some 2, none, []⟩])
   .ret))⟩
theorem p87 : prog 87 = some r87 := by kernel_rfl

/-! 59: spec.l1shape -/
def r59 : RFun := ⟨141, [.tmp 4],
 (.seq
  (.reg [⟨0, .box (.t 0) 1, some 2, none, []⟩,
    ⟨1, .box (.t 1) 5, some 3, none, []⟩,
    ⟨2, .mv (.k (.bool false)), some 4, none, []⟩])
  (.seq
   (.reg [⟨0, .fa (.t 3) 3, some 7, none, []⟩,
     ⟨1, .ld none (.t 7), some 8, none, []⟩,
     ⟨2, .bin .eql (.t 8) (.k (.int .i64 0)), some 9, none, []⟩,
     ⟨3, .mv (.t 9), some 5, none, []⟩])
   (.seq
    (.reg [⟨0, .fa (.t 3) 4, some 10, none, []⟩,
      ⟨1, .ld none (.t 10), some 11, none, []⟩,
      ⟨2, .bin .eql (.t 11) (.k (.int .i64 0)), some 12, none, []⟩,
      ⟨3, .mv (.t 12), some 6, none, []⟩])
    (.seq
     (.seq
      (.reg [⟨0, .fa (.t 3) 0, some 13, none, []⟩,
        ⟨1, .ld none (.t 13), some 14, none, []⟩])
      (.blk 0
       (.seq
        (.reg [⟨0, .bin .eql (.t 14) (.k (.int .i64 1)), some 16, none, []⟩,
          ⟨1, .mv (.t 16), some 15, none, []⟩])
        (.ite (.t 15)
         (.seq
          (.reg [⟨0, .fa (.t 3) 1, some 17, none, []⟩,
            ⟨1, .ld none (.t 17), some 18, none, []⟩,
            ⟨2, .call 86 [.t 18], some 19, none, []⟩,
            ⟨3, .mv (.t 19), some 20, none, []⟩,
            ⟨4, .fa (.t 3) 2, some 21, some (20, true), []⟩,
            ⟨5, .ld none (.t 21), some 22, some (20, true), []⟩,
            ⟨6, .bin .eql (.t 22) (.k (.int .i64 0)), some 23, some (20, true), []⟩,
            ⟨7, .pick (.t 20) (.t 23) (.k (.bool false)), some 24, none, []⟩,
            ⟨8, .mv (.t 24), some 25, none, []⟩,
            ⟨9, .mv (.t 6), some 26, some (25, true), []⟩,
            ⟨10, .pick (.t 25) (.t 26) (.k (.bool false)), some 27, none, []⟩,
            ⟨11, .mv (.t 27), some 4, none, []⟩])
          .ret)
         (.seq
          (.reg [⟨0, .bin .eql (.t 14) (.k (.int .i64 2)), some 29, none, []⟩,
            ⟨1, .mv (.t 29), some 28, none, []⟩])
          (.ite (.t 28)
           (.seq
            (.reg [⟨0, .fa (.t 3) 1, some 30, none, []⟩,
              ⟨1, .ld none (.t 30), some 31, none, []⟩,
              ⟨2, .call 86 [.t 31], some 32, none, []⟩,
              ⟨3, .mv (.t 32), some 33, none, []⟩,
              ⟨4, .fa (.t 3) 2, some 34, some (33, true), []⟩,
              ⟨5, .ld none (.t 34), some 35, some (33, true), []⟩,
              ⟨6, .call 86 [.t 35], some 36, some (33, true), []⟩,
              ⟨7, .pick (.t 33) (.t 36) (.k (.bool false)), some 37, none, []⟩,
              ⟨8, .mv (.t 37), some 38, none, []⟩,
              ⟨9, .mv (.t 6), some 39, some (38, true), []⟩,
              ⟨10, .pick (.t 38) (.t 39) (.k (.bool false)), some 40, none, []⟩,
              ⟨11, .mv (.t 40), some 4, none, []⟩])
            .ret)
           (.seq
            (.seq
             (.reg [⟨0, .bin .eql (.t 14) (.k (.int .i64 3)), some 42, none, []⟩,
               ⟨1, .mv (.t 42), some 41, none, []⟩])
             (.ite (.t 41)
              .skip
              (.seq
               (.reg [⟨0, .bin .eql (.t 14) (.k (.int .i64 6)), some 43, none, []⟩,
                 ⟨1, .mv (.t 43), some 41, none, []⟩])
               (.ite (.t 41)
                .skip
                (.seq
                 (.reg [⟨0, .bin .eql (.t 14) (.k (.int .i64 9)), some 44, none, []⟩,
                   ⟨1, .mv (.t 44), some 41, none, []⟩])
                 (.ite (.t 41)
                  .skip
                  (.reg [⟨0, .bin .eql (.t 14) (.k (.int .i64 10)), some 45, none, []⟩,
                    ⟨1, .mv (.t 45), some 41, none, []⟩])))))))
            (.ite (.t 41)
             (.seq
              (.reg [⟨0, .fa (.t 3) 1, some 46, none, []⟩,
                ⟨1, .ld none (.t 46), some 47, none, []⟩,
                ⟨2, .call 86 [.t 47], some 48, none, []⟩,
                ⟨3, .mv (.t 48), some 49, none, []⟩,
                ⟨4, .fa (.t 3) 2, some 50, some (49, true), []⟩,
                ⟨5, .ld none (.t 50), some 51, some (49, true), []⟩,
                ⟨6, .bin .eql (.t 51) (.k (.int .i64 0)), some 52, some (49, true), []⟩,
                ⟨7, .pick (.t 49) (.t 52) (.k (.bool false)), some 53, none, []⟩,
                ⟨8, .mv (.t 53), some 54, none, []⟩,
                ⟨9, .mv (.t 5), some 55, some (54, true), []⟩,
                ⟨10, .pick (.t 54) (.t 55) (.k (.bool false)), some 56, none, []⟩,
                ⟨11, .mv (.t 56), some 57, none, []⟩,
                ⟨12, .mv (.t 6), some 58, some (57, true), []⟩,
                ⟨13, .pick (.t 57) (.t 58) (.k (.bool false)), some 59, none, []⟩,
                ⟨14, .mv (.t 59), some 4, none, []⟩])
              .ret)
             (.seq
              (.reg [⟨0, .bin .eql (.t 14) (.k (.int .i64 4)), some 61, none, []⟩,
                ⟨1, .mv (.t 61), some 60, none, []⟩])
              (.ite (.t 60)
               (.seq
                (.reg [⟨0, .fa (.t 3) 1, some 62, none, []⟩,
                  ⟨1, .ld none (.t 62), some 63, none, []⟩,
                  ⟨2, .call 86 [.t 63], some 64, none, []⟩,
                  ⟨3, .mv (.t 64), some 65, none, []⟩,
                  ⟨4, .fa (.t 3) 2, some 66, some (65, true), []⟩,
                  ⟨5, .ld none (.t 66), some 67, some (65, true), []⟩,
                  ⟨6, .bin .geq (.t 67) (.k (.int .i64 0)), some 68, some (65, true), []⟩,
                  ⟨7, .pick (.t 65) (.t 68) (.k (.bool false)), some 69, none, []⟩,
                  ⟨8, .mv (.t 69), some 70, none, []⟩,
                  ⟨9, .fa (.t 3) 2, some 71, some (70, true), []⟩,
                  ⟨10, .ld none (.t 71), some 72, some (70, true), []⟩,
                  ⟨11, .fa (.t 2) 0, some 73, some (70, true), []⟩,
                  ⟨12, .ld none (.t 73), some 74, some (70, true), []⟩,
                  ⟨13, .len (.t 74), some 75, some (70, true), []⟩,
                  ⟨14, .bin .lss (.t 72) (.t 75), some 76, some (70, true), []⟩,
                  ⟨15, .pick (.t 70) (.t 76) (.k (.bool false)), some 77, none, []⟩,
                  ⟨16, .mv (.t 77), some 78, none, []⟩,
                  ⟨17, .mv (.t 5), some 79, some (78, true), []⟩,
                  ⟨18, .pick (.t 78) (.t 79) (.k (.bool false)), some 80, none, []⟩,
                  ⟨19, .mv (.t 80), some 81, none, []⟩,
                  ⟨20, .mv (.t 6), some 82, some (81, true), []⟩,
                  ⟨21, .pick (.t 81) (.t 82) (.k (.bool false)), some 83, none, []⟩,
                  ⟨22, .mv (.t 83), some 4, none, []⟩])
                .ret)
               (.seq
                (.seq
                 (.reg [⟨0, .bin .eql (.t 14) (.k (.int .i64 5)), some 85, none, []⟩,
                   ⟨1, .mv (.t 85), some 84, none, []⟩])
                 (.ite (.t 84)
                  .skip
                  (.seq
                   (.reg [⟨0, .bin .eql (.t 14) (.k (.int .i64 7)), some 86, none, []⟩,
                     ⟨1, .mv (.t 86), some 84, none, []⟩])
                   (.ite (.t 84)
                    .skip
                    (.reg [⟨0, .bin .eql (.t 14) (.k (.int .i64 8)), some 87, none, []⟩,
                      ⟨1, .mv (.t 87), some 84, none, []⟩])))))
                (.ite (.t 84)
                 (.seq
                  (.reg [⟨0, .fa (.t 3) 1, some 88, none, []⟩,
                    ⟨1, .ld none (.t 88), some 89, none, []⟩,
                    ⟨2, .call 86 [.t 89], some 90, none, []⟩,
                    ⟨3, .mv (.t 90), some 91, none, []⟩,
                    ⟨4, .fa (.t 3) 2, some 92, some (91, true), []⟩,
                    ⟨5, .ld none (.t 92), some 93, some (91, true), []⟩,
                    ⟨6, .call 86 [.t 93], some 94, some (91, true), []⟩,
                    ⟨7, .pick (.t 91) (.t 94) (.k (.bool false)), some 95, none, []⟩,
                    ⟨8, .mv (.t 95), some 96, none, []⟩,
                    ⟨9, .mv (.t 5), some 97, some (96, true), []⟩,
                    ⟨10, .pick (.t 96) (.t 97) (.k (.bool false)), some 98, none, []⟩,
                    ⟨11, .mv (.t 98), some 99, none, []⟩,
                    ⟨12, .mv (.t 6), some 100, some (99, true), []⟩,
                    ⟨13, .pick (.t 99) (.t 100) (.k (.bool false)), some 101, none, []⟩,
                    ⟨14, .mv (.t 101), some 4, none, []⟩])
                  .ret)
                 (.seq
                  (.seq
                   (.reg [⟨0, .bin .eql (.t 14) (.k (.int .i64 11)), some 103, none, []⟩,
                     ⟨1, .mv (.t 103), some 102, none, []⟩])
                   (.ite (.t 102)
                    .skip
                    (.seq
                     (.reg [⟨0, .bin .eql (.t 14) (.k (.int .i64 14)), some 104, none, []⟩,
                       ⟨1, .mv (.t 104), some 102, none, []⟩])
                     (.ite (.t 102)
                      .skip
                      (.reg [⟨0, .bin .eql (.t 14) (.k (.int .i64 15)), some 105, none, []⟩,
                        ⟨1, .mv (.t 105), some 102, none, []⟩])))))
                  (.ite (.t 102)
                   (.seq
                    (.reg [⟨0, .fa (.t 3) 1, some 106, none, []⟩,
                      ⟨1, .ld none (.t 106), some 107, none, []⟩,
                      ⟨2, .call 86 [.t 107], some 108, none, []⟩,
                      ⟨3, .mv (.t 108), some 109, none, []⟩,
                      ⟨4, .fa (.t 3) 2, some 110, some (109, true), []⟩,
                      ⟨5, .ld none (.t 110), some 111, some (109, true), []⟩,
                      ⟨6, .bin .eql (.t 111) (.k (.int .i64 0)), some 112, some (109, true), []⟩,
                      ⟨7, .pick (.t 109) (.t 112) (.k (.bool false)), some 113, none, []⟩,
                      ⟨8, .mv (.t 113), some 114, none, []⟩,
                      ⟨9, .mv (.t 5), some 115, some (114, true), []⟩,
                      ⟨10, .pick (.t 114) (.t 115) (.k (.bool false)), some 116, none, []⟩,
                      ⟨11, .mv (.t 116), some 117, none, []⟩,
                      ⟨12, .fa (.t 3) 4, some 118, some (117, true), []⟩,
                      ⟨13, .ld none (.t 118), some 119, some (117, true), []⟩,
                      ⟨14, .bin .geq (.t 119) (.k (.int .i64 0)), some 120, some (117, true), []⟩,
                      ⟨15, .pick (.t 117) (.t 120) (.k (.bool false)), some 121, none, []⟩,
                      ⟨16, .mv (.t 121), some 4, none, []⟩])
                    .ret)
                   (.seq
                    (.seq
                     (.reg [⟨0, .bin .eql (.t 14) (.k (.int .i64 12)), some 123, none, []⟩,
                       ⟨1, .mv (.t 123), some 122, none, []⟩])
                     (.ite (.t 122)
                      .skip
                      (.reg [⟨0, .bin .eql (.t 14) (.k (.int .i64 13)), some 124, none, []⟩,
                        ⟨1, .mv (.t 124), some 122, none, []⟩])))
                    (.ite (.t 122)
                     (.seq
                      (.reg [⟨0, .fa (.t 3) 1, some 125, none, []⟩,
                        ⟨1, .ld none (.t 125), some 126, none, []⟩,
                        ⟨2, .bin .eql (.t 126) (.k (.int .i64 0)), some 127, none, []⟩,
                        ⟨3, .mv (.t 127), some 128, none, []⟩,
                        ⟨4, .fa (.t 3) 2, some 129, some (128, true), []⟩,
                        ⟨5, .ld none (.t 129), some 130, some (128, true), []⟩,
                        ⟨6, .bin .eql (.t 130) (.k (.int .i64 0)), some 131, some (128, true), []⟩,
                        ⟨7, .pick (.t 128) (.t 131) (.k (.bool false)), some 132, none, []⟩,
                        ⟨8, .mv (.t 132), some 133, none, []⟩,
                        ⟨9, .mv (.t 5), some 134, some (133, true), []⟩,
                        ⟨10, .pick (.t 133) (.t 134) (.k (.bool false)), some 135, none, []⟩,
                        ⟨11, .mv (.t 135), some 136, none, []⟩,
                        ⟨12, .fa (.t 3) 4, some 137, some (136, true), []⟩,
                        ⟨13, .ld none (.t 137), some 138, some (136, true), []⟩,
                        ⟨14, .bin .geq (.t 138) (.k (.int .i64 0)), some 139, some (136, true), []⟩,
                        ⟨15, .pick (.t 136) (.t 139) (.k (.bool false)), some 140, none, []⟩,
                        ⟨16, .mv (.t 140), some 4, none, []⟩])
                      .ret)
                     .skip))))))))))))))))
     (.seq
      (.reg [⟨0, .mv (.k (.bool false)), some 4, none, []⟩])
      .ret)))))⟩
theorem p59 : prog 59 = some r59 := by kernel_rfl



def tupF (x : Int × Int × Bool × Bool × Bool) : AV := .tup [.int .u8 x.1, .int .u8 x.2.1, .bool x.2.2.1, .bool x.2.2.2.1, .bool x.2.2.2.2]

theorem beq_ff {a b : Int} (h : a ≠ b) : (a == b) = false := by simpa using h

theorem fieldsOf_ok (μ : Mem) (op : Int) : Ret 62 [.c (.int .i64 op)] μ fun v μ' => v = tupF (fieldsP op) ∧ μ' = μ := by
  refine Ret_of p62 (by simp [r62]) ?_
  simp only [r62, frOf_1]
  rcases ops_or op with rfl | rfl | rfl | rfl | rfl | rfl | rfl | rfl | rfl | rfl | rfl | rfl | rfl | rfl | rfl | ⟨h1, h2, h3, h4, h5, h6, h7, h8, h9, h10, h11, h12, h13, h14, h15⟩
  case inr.inr.inr.inr.inr.inr.inr.inr.inr.inr.inr.inr.inr.inr.inr =>
    simp only [w1, w2, AV.isTup, AV.cells, ↓reduceIte, Nat.reduceEqDiff, Nat.reduceAdd, Int.reduceLT, Int.reduceLE, Int.reduceNeg, Int.reduceBEq, Int.reduceBNe, m1, m2, stl, wr, rd, aRet, aRes, aRes1, toCells, Nat.reduceLeDiff, Nat.reduceMul, beq_ff h1, beq_ff h2, beq_ff h3, beq_ff h4, beq_ff h5, beq_ff h6, beq_ff h7, beq_ff h8, beq_ff h9, beq_ff h10, beq_ff h11, beq_ff h12, beq_ff h13, beq_ff h14, beq_ff h15]
    simp only [fieldsP, h1, h2, h3, h4, h5, h6, h7, h8, h9, h10, h11, h12, h13, h14, h15, if_false, or_self]
    rfl
  all_goals
    simp only [w1, w2, AV.isTup, AV.cells, ↓reduceIte, Nat.reduceEqDiff, Nat.reduceAdd, Int.reduceLT, Int.reduceLE, Int.reduceNeg, Int.reduceBEq, Int.reduceBNe, m1, m2, stl, wr, rd, aRet, aRes, aRes1, toCells, Nat.reduceLeDiff, Nat.reduceMul]
    rfl

def regP (v : Int) : Bool := decide (v ≥ 0) && decide (v < 4)
def fitsP (kind v n : Int) : Bool := if kind = 114 then regP v else if kind = 98 then decide (v ≥ 0) && decide (v < n) else v == 0
def headP (op : Int) : Bool := decide (op ≥ 11) && decide (op ≤ 15)

def shapeP (n : Int) (s : PStep) : Bool :=
  (fieldsP s.op).2.2.2.2 && fitsP (fieldsP s.op).1 s.a n && fitsP (fieldsP s.op).2.1 s.b n && ((fieldsP s.op).2.2.1 || s.n == 0) && ((fieldsP s.op).2.2.2.1 || s.size == 0) && decide (s.size ≥ 0)

theorem fits_ok (μ : Mem) (kind v n : Int) : Ret 63 [.c (.int .u8 kind), .c (.int .i64 v), .c (.int .i64 n)] μ fun r μ' => r = .c (.bool (fitsP kind v n)) ∧ μ' = μ := by
  refine Ret_of p63 (by simp [r63]) ?_
  simp only [r63, frOf_3]
  by_cases h1 : kind = 114
  · subst h1
    by_cases h2 : v ≥ 0
    · simp only [w1, w2, AV.isTup, AV.cells, ↓reduceIte, Nat.reduceEqDiff, Nat.reduceAdd, Int.reduceLT, Int.reduceLE, Int.reduceNeg, Int.reduceBEq, Int.reduceBNe, m1, m2, stl, wr, rd, aRet, aRes, aRes1, toCells, Nat.reduceLeDiff, Nat.reduceMul, decide_eq_true h2]
      simp [fitsP, regP, h2]
    · simp only [w1, w2, AV.isTup, AV.cells, ↓reduceIte, Nat.reduceEqDiff, Nat.reduceAdd, Int.reduceLT, Int.reduceLE, Int.reduceNeg, Int.reduceBEq, Int.reduceBNe, m1, m2, stl, wr, rd, aRet, aRes, aRes1, toCells, Nat.reduceLeDiff, Nat.reduceMul, decide_eq_false h2]
      simp [fitsP, regP, h2]
  · by_cases h3 : kind = 98
    · subst h3
      by_cases h2 : v ≥ 0
      · simp only [w1, w2, AV.isTup, AV.cells, ↓reduceIte, Nat.reduceEqDiff, Nat.reduceAdd, Int.reduceLT, Int.reduceLE, Int.reduceNeg, Int.reduceBEq, Int.reduceBNe, m1, m2, stl, wr, rd, aRet, aRes, aRes1, toCells, Nat.reduceLeDiff, Nat.reduceMul, decide_eq_true h2]
        simp [fitsP, regP, h2]
      · simp only [w1, w2, AV.isTup, AV.cells, ↓reduceIte, Nat.reduceEqDiff, Nat.reduceAdd, Int.reduceLT, Int.reduceLE, Int.reduceNeg, Int.reduceBEq, Int.reduceBNe, m1, m2, stl, wr, rd, aRet, aRes, aRes1, toCells, Nat.reduceLeDiff, Nat.reduceMul, decide_eq_false h2]
        simp [fitsP, regP, h2]
    · simp only [w1, w2, AV.isTup, AV.cells, ↓reduceIte, Nat.reduceEqDiff, Nat.reduceAdd, Int.reduceLT, Int.reduceLE, Int.reduceNeg, Int.reduceBEq, Int.reduceBNe, m1, m2, stl, wr, rd, aRet, aRes, aRes1, toCells, Nat.reduceLeDiff, Nat.reduceMul, beq_ff h1, beq_ff h3]
      simp [fitsP, h1, h3]

theorem head_eq (op : Int) : (fieldsP op).2.2.2.1 = headP op := by
  rcases ops_or op with rfl | rfl | rfl | rfl | rfl | rfl | rfl | rfl | rfl | rfl | rfl | rfl | rfl | rfl | rfl | ⟨h1, h2, h3, h4, h5, h6, h7, h8, h9, h10, h11, h12, h13, h14, h15⟩
  case inr.inr.inr.inr.inr.inr.inr.inr.inr.inr.inr.inr.inr.inr.inr =>
    have : ¬ (op ≥ 11 ∧ op ≤ 15) := by omega
    simp only [fieldsP, headP, h1, h2, h3, h4, h5, h6, h7, h8, h9, h10, h11, h12, h13, h14, h15, if_false, or_self]
    simp only [← Bool.decide_and, this, decide_false]
  all_goals rfl

theorem head_ok (μ : Mem) (op : Int) : Ret 89 [.c (.int .i64 op)] μ fun v μ' => v = .c (.bool (headP op)) ∧ μ' = μ := by
  refine Ret_of p89 (by simp [r89]) ?_
  simp only [r89, frOf_1]
  simp only [w1, w2, AV.isTup, AV.cells, ↓reduceIte, Nat.reduceEqDiff, Nat.reduceAdd, Int.reduceLT, Int.reduceLE, Int.reduceNeg, Int.reduceBEq, Int.reduceBNe, m1, m2, stl, wr, rd, aRet, aRes, aRes1, toCells, Nat.reduceLeDiff, Nat.reduceMul]
  refine R_calls rfl (by simp only [w1, w2, AV.isTup, AV.cells, ↓reduceIte, Nat.reduceEqDiff, Nat.reduceAdd, Int.reduceLT, Int.reduceLE, Int.reduceNeg, Int.reduceBEq, Int.reduceBNe]; exact fieldsOf_ok _ _) ?_
  rintro v μ' ⟨rfl, rfl⟩
  simp only [w1, w2, AV.isTup, AV.cells, ↓reduceIte, Nat.reduceEqDiff, Nat.reduceAdd, Int.reduceLT, Int.reduceLE, Int.reduceNeg, Int.reduceBEq, Int.reduceBNe, m1, m2, stl, wr, rd, aRet, aRes, aRes1, toCells, Nat.reduceLeDiff, Nat.reduceMul, tupF, head_eq]

theorem l1reg_ok (μ : Mem) (v : Int) : Ret 86 [.c (.int .i64 v)] μ fun r μ' => r = .c (.bool (regP v)) ∧ μ' = μ := by
  refine Ret_of p86 (by simp [r86]) ?_
  simp only [r86, frOf_1]
  by_cases h2 : v ≥ 0
  · simp only [w1, w2, AV.isTup, AV.cells, ↓reduceIte, Nat.reduceEqDiff, Nat.reduceAdd, Int.reduceLT, Int.reduceLE, Int.reduceNeg, Int.reduceBEq, Int.reduceBNe, m1, m2, stl, wr, rd, aRet, aRes, aRes1, toCells, Nat.reduceLeDiff, Nat.reduceMul, decide_eq_true h2]
    simp [regP, h2]
  · simp only [w1, w2, AV.isTup, AV.cells, ↓reduceIte, Nat.reduceEqDiff, Nat.reduceAdd, Int.reduceLT, Int.reduceLE, Int.reduceNeg, Int.reduceBEq, Int.reduceBNe, m1, m2, stl, wr, rd, aRet, aRes, aRes1, toCells, Nat.reduceLeDiff, Nat.reduceMul, decide_eq_false h2]
    simp [regP, h2]

theorem l1block_ok (μ : Mem) (v : Int) : Ret 87 [.c (.int .i64 v)] μ fun r μ' => r = .c (.bool (headP v)) ∧ μ' = μ := by
  refine Ret_of p87 (by simp [r87]) ?_
  simp only [r87, frOf_1]
  by_cases h2 : v ≥ 11
  · simp only [w1, w2, AV.isTup, AV.cells, ↓reduceIte, Nat.reduceEqDiff, Nat.reduceAdd, Int.reduceLT, Int.reduceLE, Int.reduceNeg, Int.reduceBEq, Int.reduceBNe, m1, m2, stl, wr, rd, aRet, aRes, aRes1, toCells, Nat.reduceLeDiff, Nat.reduceMul, decide_eq_true h2]
    simp [headP, h2]
  · simp only [w1, w2, AV.isTup, AV.cells, ↓reduceIte, Nat.reduceEqDiff, Nat.reduceAdd, Int.reduceLT, Int.reduceLE, Int.reduceNeg, Int.reduceBEq, Int.reduceBNe, m1, m2, stl, wr, rd, aRet, aRes, aRes1, toCells, Nat.reduceLeDiff, Nat.reduceMul, decide_eq_false h2]
    simp [headP, h2]

theorem l1shape_ok (μ : Mem) (s : PStep) (a : Option (Nat × Nat)) (n cap : Nat) : Ret 59 [.agg [.slc a n cap], .agg (scells 0 s)] μ fun v μ' => v = .c (.bool (shapeP n s)) ∧ Same μ.next μ μ' := by
  obtain ⟨op, A, B, N, Z⟩ := s
  refine Ret_of p59 (by simp [r59, scells]) ?_
  simp only [r59, frOf_2, scells]
  have hs : Same μ.next μ ((μ.new [.slc a n cap] 0).new [.int .i64 op, .int .i64 A, .int .i64 B, .int .i64 N, .int .i64 Z] 0) := (Same.tmp (Nat.le_refl _)).new (Nat.le_succ _)
  rcases ops_or op with rfl | rfl | rfl | rfl | rfl | rfl | rfl | rfl | rfl | rfl | rfl | rfl | rfl | rfl | rfl | ⟨h1, h2, h3, h4, h5, h6, h7, h8, h9, h10, h11, h12, h13, h14, h15⟩
  case inr.inr.inr.inr.inr.inr.inr.inr.inr.inr.inr.inr.inr.inr.inr =>
    simp only [w1, w2, AV.isTup, AV.cells, ↓reduceIte, Nat.reduceEqDiff, Nat.reduceAdd, Int.reduceLT, Int.reduceLE, Int.reduceNeg, Int.reduceBEq, Int.reduceBNe, m1, m2, stl, wr, rd, aRet, aRes, aRes1, toCells, Nat.reduceLeDiff, Nat.reduceMul, beq_ff h1, beq_ff h2, beq_ff h3, beq_ff h4, beq_ff h5, beq_ff h6, beq_ff h7, beq_ff h8, beq_ff h9, beq_ff h10, beq_ff h11, beq_ff h12, beq_ff h13, beq_ff h14, beq_ff h15]
    simp only [shapeP, fieldsP, h1, h2, h3, h4, h5, h6, h7, h8, h9, h10, h11, h12, h13, h14, h15, if_false, or_self]
    exact ⟨rfl, hs⟩
  · -- 1
    simp only [w1, w2, AV.isTup, AV.cells, ↓reduceIte, Nat.reduceEqDiff, Nat.reduceAdd, Int.reduceLT, Int.reduceLE, Int.reduceNeg, Int.reduceBEq, Int.reduceBNe, m1, m2, stl, wr, rd, aRet, aRes, aRes1, toCells, Nat.reduceLeDiff, Nat.reduceMul]
    refine R_calls rfl (by simp only [w1, w2, AV.isTup, AV.cells, ↓reduceIte, Nat.reduceEqDiff, Nat.reduceAdd, Int.reduceLT, Int.reduceLE, Int.reduceNeg, Int.reduceBEq, Int.reduceBNe]; exact l1reg_ok _ _) ?_
    rintro v μ' ⟨rfl, rfl⟩
    simp only [w1, w2, AV.isTup, AV.cells, ↓reduceIte, Nat.reduceEqDiff, Nat.reduceAdd, Int.reduceLT, Int.reduceLE, Int.reduceNeg, Int.reduceBEq, Int.reduceBNe, m1, m2, stl, wr, rd, aRet, aRes, aRes1, toCells, Nat.reduceLeDiff, Nat.reduceMul]
    cases hA : regP A
    · (try simp only [w1, w2, AV.isTup, AV.cells, ↓reduceIte, Nat.reduceEqDiff, Nat.reduceAdd, Int.reduceLT, Int.reduceLE, Int.reduceNeg, Int.reduceBEq, Int.reduceBNe, m1, m2, stl, wr, rd, aRet, aRes, aRes1, toCells, Nat.reduceLeDiff, Nat.reduceMul])
      refine ⟨?_, hs⟩
      congr 1
      congr 1
      simp_all [shapeP, fieldsP, fitsP]
      try omega
    · (try simp only [w1, w2, AV.isTup, AV.cells, ↓reduceIte, Nat.reduceEqDiff, Nat.reduceAdd, Int.reduceLT, Int.reduceLE, Int.reduceNeg, Int.reduceBEq, Int.reduceBNe, m1, m2, stl, wr, rd, aRet, aRes, aRes1, toCells, Nat.reduceLeDiff, Nat.reduceMul])
      cases hB : (B == 0)
      · (try simp only [w1, w2, AV.isTup, AV.cells, ↓reduceIte, Nat.reduceEqDiff, Nat.reduceAdd, Int.reduceLT, Int.reduceLE, Int.reduceNeg, Int.reduceBEq, Int.reduceBNe, m1, m2, stl, wr, rd, aRet, aRes, aRes1, toCells, Nat.reduceLeDiff, Nat.reduceMul])
        refine ⟨?_, hs⟩
        congr 1
        congr 1
        simp_all [shapeP, fieldsP, fitsP]
        try omega
      · (try simp only [w1, w2, AV.isTup, AV.cells, ↓reduceIte, Nat.reduceEqDiff, Nat.reduceAdd, Int.reduceLT, Int.reduceLE, Int.reduceNeg, Int.reduceBEq, Int.reduceBNe, m1, m2, stl, wr, rd, aRet, aRes, aRes1, toCells, Nat.reduceLeDiff, Nat.reduceMul])
        cases hZ : (Z == 0)
        · (try simp only [w1, w2, AV.isTup, AV.cells, ↓reduceIte, Nat.reduceEqDiff, Nat.reduceAdd, Int.reduceLT, Int.reduceLE, Int.reduceNeg, Int.reduceBEq, Int.reduceBNe, m1, m2, stl, wr, rd, aRet, aRes, aRes1, toCells, Nat.reduceLeDiff, Nat.reduceMul])
          refine ⟨?_, hs⟩
          congr 1
          congr 1
          simp_all [shapeP, fieldsP, fitsP]
          try omega
        · (try simp only [w1, w2, AV.isTup, AV.cells, ↓reduceIte, Nat.reduceEqDiff, Nat.reduceAdd, Int.reduceLT, Int.reduceLE, Int.reduceNeg, Int.reduceBEq, Int.reduceBNe, m1, m2, stl, wr, rd, aRet, aRes, aRes1, toCells, Nat.reduceLeDiff, Nat.reduceMul])
          refine ⟨?_, hs⟩
          congr 1
          congr 1
          simp_all [shapeP, fieldsP, fitsP]
          try omega
  · -- 2
    simp only [w1, w2, AV.isTup, AV.cells, ↓reduceIte, Nat.reduceEqDiff, Nat.reduceAdd, Int.reduceLT, Int.reduceLE, Int.reduceNeg, Int.reduceBEq, Int.reduceBNe, m1, m2, stl, wr, rd, aRet, aRes, aRes1, toCells, Nat.reduceLeDiff, Nat.reduceMul]
    refine R_calls rfl (by simp only [w1, w2, AV.isTup, AV.cells, ↓reduceIte, Nat.reduceEqDiff, Nat.reduceAdd, Int.reduceLT, Int.reduceLE, Int.reduceNeg, Int.reduceBEq, Int.reduceBNe]; exact l1reg_ok _ _) ?_
    rintro v μ' ⟨rfl, rfl⟩
    simp only [w1, w2, AV.isTup, AV.cells, ↓reduceIte, Nat.reduceEqDiff, Nat.reduceAdd, Int.reduceLT, Int.reduceLE, Int.reduceNeg, Int.reduceBEq, Int.reduceBNe, m1, m2, stl, wr, rd, aRet, aRes, aRes1, toCells, Nat.reduceLeDiff, Nat.reduceMul]
    cases hA : regP A
    · (try simp only [w1, w2, AV.isTup, AV.cells, ↓reduceIte, Nat.reduceEqDiff, Nat.reduceAdd, Int.reduceLT, Int.reduceLE, Int.reduceNeg, Int.reduceBEq, Int.reduceBNe, m1, m2, stl, wr, rd, aRet, aRes, aRes1, toCells, Nat.reduceLeDiff, Nat.reduceMul])
      refine ⟨?_, hs⟩
      congr 1
      congr 1
      simp_all [shapeP, fieldsP, fitsP]
      try omega
    · (try simp only [w1, w2, AV.isTup, AV.cells, ↓reduceIte, Nat.reduceEqDiff, Nat.reduceAdd, Int.reduceLT, Int.reduceLE, Int.reduceNeg, Int.reduceBEq, Int.reduceBNe, m1, m2, stl, wr, rd, aRet, aRes, aRes1, toCells, Nat.reduceLeDiff, Nat.reduceMul])
      refine R_calls rfl (by simp only [w1, w2, AV.isTup, AV.cells, ↓reduceIte, Nat.reduceEqDiff, Nat.reduceAdd, Int.reduceLT, Int.reduceLE, Int.reduceNeg, Int.reduceBEq, Int.reduceBNe]; exact l1reg_ok _ _) ?_
      rintro v μ' ⟨rfl, rfl⟩
      simp only [w1, w2, AV.isTup, AV.cells, ↓reduceIte, Nat.reduceEqDiff, Nat.reduceAdd, Int.reduceLT, Int.reduceLE, Int.reduceNeg, Int.reduceBEq, Int.reduceBNe, m1, m2, stl, wr, rd, aRet, aRes, aRes1, toCells, Nat.reduceLeDiff, Nat.reduceMul]
      cases hB : regP B
      · (try simp only [w1, w2, AV.isTup, AV.cells, ↓reduceIte, Nat.reduceEqDiff, Nat.reduceAdd, Int.reduceLT, Int.reduceLE, Int.reduceNeg, Int.reduceBEq, Int.reduceBNe, m1, m2, stl, wr, rd, aRet, aRes, aRes1, toCells, Nat.reduceLeDiff, Nat.reduceMul])
        refine ⟨?_, hs⟩
        congr 1
        congr 1
        simp_all [shapeP, fieldsP, fitsP]
        try omega
      · (try simp only [w1, w2, AV.isTup, AV.cells, ↓reduceIte, Nat.reduceEqDiff, Nat.reduceAdd, Int.reduceLT, Int.reduceLE, Int.reduceNeg, Int.reduceBEq, Int.reduceBNe, m1, m2, stl, wr, rd, aRet, aRes, aRes1, toCells, Nat.reduceLeDiff, Nat.reduceMul])
        cases hZ : (Z == 0)
        · (try simp only [w1, w2, AV.isTup, AV.cells, ↓reduceIte, Nat.reduceEqDiff, Nat.reduceAdd, Int.reduceLT, Int.reduceLE, Int.reduceNeg, Int.reduceBEq, Int.reduceBNe, m1, m2, stl, wr, rd, aRet, aRes, aRes1, toCells, Nat.reduceLeDiff, Nat.reduceMul])
          refine ⟨?_, hs⟩
          congr 1
          congr 1
          simp_all [shapeP, fieldsP, fitsP]
          try omega
        · (try simp only [w1, w2, AV.isTup, AV.cells, ↓reduceIte, Nat.reduceEqDiff, Nat.reduceAdd, Int.reduceLT, Int.reduceLE, Int.reduceNeg, Int.reduceBEq, Int.reduceBNe, m1, m2, stl, wr, rd, aRet, aRes, aRes1, toCells, Nat.reduceLeDiff, Nat.reduceMul])
          refine ⟨?_, hs⟩
          congr 1
          congr 1
          simp_all [shapeP, fieldsP, fitsP]
          try omega
  · -- 3
    simp only [w1, w2, AV.isTup, AV.cells, ↓reduceIte, Nat.reduceEqDiff, Nat.reduceAdd, Int.reduceLT, Int.reduceLE, Int.reduceNeg, Int.reduceBEq, Int.reduceBNe, m1, m2, stl, wr, rd, aRet, aRes, aRes1, toCells, Nat.reduceLeDiff, Nat.reduceMul]
    refine R_calls rfl (by simp only [w1, w2, AV.isTup, AV.cells, ↓reduceIte, Nat.reduceEqDiff, Nat.reduceAdd, Int.reduceLT, Int.reduceLE, Int.reduceNeg, Int.reduceBEq, Int.reduceBNe]; exact l1reg_ok _ _) ?_
    rintro v μ' ⟨rfl, rfl⟩
    simp only [w1, w2, AV.isTup, AV.cells, ↓reduceIte, Nat.reduceEqDiff, Nat.reduceAdd, Int.reduceLT, Int.reduceLE, Int.reduceNeg, Int.reduceBEq, Int.reduceBNe, m1, m2, stl, wr, rd, aRet, aRes, aRes1, toCells, Nat.reduceLeDiff, Nat.reduceMul]
    cases hA : regP A
    · (try simp only [w1, w2, AV.isTup, AV.cells, ↓reduceIte, Nat.reduceEqDiff, Nat.reduceAdd, Int.reduceLT, Int.reduceLE, Int.reduceNeg, Int.reduceBEq, Int.reduceBNe, m1, m2, stl, wr, rd, aRet, aRes, aRes1, toCells, Nat.reduceLeDiff, Nat.reduceMul])
      refine ⟨?_, hs⟩
      congr 1
      congr 1
      simp_all [shapeP, fieldsP, fitsP]
      try omega
    · (try simp only [w1, w2, AV.isTup, AV.cells, ↓reduceIte, Nat.reduceEqDiff, Nat.reduceAdd, Int.reduceLT, Int.reduceLE, Int.reduceNeg, Int.reduceBEq, Int.reduceBNe, m1, m2, stl, wr, rd, aRet, aRes, aRes1, toCells, Nat.reduceLeDiff, Nat.reduceMul])
      cases hB : (B == 0)
      · (try simp only [w1, w2, AV.isTup, AV.cells, ↓reduceIte, Nat.reduceEqDiff, Nat.reduceAdd, Int.reduceLT, Int.reduceLE, Int.reduceNeg, Int.reduceBEq, Int.reduceBNe, m1, m2, stl, wr, rd, aRet, aRes, aRes1, toCells, Nat.reduceLeDiff, Nat.reduceMul])
        refine ⟨?_, hs⟩
        congr 1
        congr 1
        simp_all [shapeP, fieldsP, fitsP]
        try omega
      · (try simp only [w1, w2, AV.isTup, AV.cells, ↓reduceIte, Nat.reduceEqDiff, Nat.reduceAdd, Int.reduceLT, Int.reduceLE, Int.reduceNeg, Int.reduceBEq, Int.reduceBNe, m1, m2, stl, wr, rd, aRet, aRes, aRes1, toCells, Nat.reduceLeDiff, Nat.reduceMul])
        cases hN : (N == 0)
        · (try simp only [w1, w2, AV.isTup, AV.cells, ↓reduceIte, Nat.reduceEqDiff, Nat.reduceAdd, Int.reduceLT, Int.reduceLE, Int.reduceNeg, Int.reduceBEq, Int.reduceBNe, m1, m2, stl, wr, rd, aRet, aRes, aRes1, toCells, Nat.reduceLeDiff, Nat.reduceMul])
          refine ⟨?_, hs⟩
          congr 1
          congr 1
          simp_all [shapeP, fieldsP, fitsP]
          try omega
        · (try simp only [w1, w2, AV.isTup, AV.cells, ↓reduceIte, Nat.reduceEqDiff, Nat.reduceAdd, Int.reduceLT, Int.reduceLE, Int.reduceNeg, Int.reduceBEq, Int.reduceBNe, m1, m2, stl, wr, rd, aRet, aRes, aRes1, toCells, Nat.reduceLeDiff, Nat.reduceMul])
          cases hZ : (Z == 0)
          · (try simp only [w1, w2, AV.isTup, AV.cells, ↓reduceIte, Nat.reduceEqDiff, Nat.reduceAdd, Int.reduceLT, Int.reduceLE, Int.reduceNeg, Int.reduceBEq, Int.reduceBNe, m1, m2, stl, wr, rd, aRet, aRes, aRes1, toCells, Nat.reduceLeDiff, Nat.reduceMul])
            refine ⟨?_, hs⟩
            congr 1
            congr 1
            simp_all [shapeP, fieldsP, fitsP]
            try omega
          · (try simp only [w1, w2, AV.isTup, AV.cells, ↓reduceIte, Nat.reduceEqDiff, Nat.reduceAdd, Int.reduceLT, Int.reduceLE, Int.reduceNeg, Int.reduceBEq, Int.reduceBNe, m1, m2, stl, wr, rd, aRet, aRes, aRes1, toCells, Nat.reduceLeDiff, Nat.reduceMul])
            refine ⟨?_, hs⟩
            congr 1
            congr 1
            simp_all [shapeP, fieldsP, fitsP]
            try omega
  · -- 4
    simp only [w1, w2, AV.isTup, AV.cells, ↓reduceIte, Nat.reduceEqDiff, Nat.reduceAdd, Int.reduceLT, Int.reduceLE, Int.reduceNeg, Int.reduceBEq, Int.reduceBNe, m1, m2, stl, wr, rd, aRet, aRes, aRes1, toCells, Nat.reduceLeDiff, Nat.reduceMul]
    refine R_calls rfl (by simp only [w1, w2, AV.isTup, AV.cells, ↓reduceIte, Nat.reduceEqDiff, Nat.reduceAdd, Int.reduceLT, Int.reduceLE, Int.reduceNeg, Int.reduceBEq, Int.reduceBNe]; exact l1reg_ok _ _) ?_
    rintro v μ' ⟨rfl, rfl⟩
    simp only [w1, w2, AV.isTup, AV.cells, ↓reduceIte, Nat.reduceEqDiff, Nat.reduceAdd, Int.reduceLT, Int.reduceLE, Int.reduceNeg, Int.reduceBEq, Int.reduceBNe, m1, m2, stl, wr, rd, aRet, aRes, aRes1, toCells, Nat.reduceLeDiff, Nat.reduceMul]
    cases hA : regP A
    · (try simp only [w1, w2, AV.isTup, AV.cells, ↓reduceIte, Nat.reduceEqDiff, Nat.reduceAdd, Int.reduceLT, Int.reduceLE, Int.reduceNeg, Int.reduceBEq, Int.reduceBNe, m1, m2, stl, wr, rd, aRet, aRes, aRes1, toCells, Nat.reduceLeDiff, Nat.reduceMul])
      refine ⟨?_, hs⟩
      congr 1
      congr 1
      simp_all [shapeP, fieldsP, fitsP]
      try omega
    · (try simp only [w1, w2, AV.isTup, AV.cells, ↓reduceIte, Nat.reduceEqDiff, Nat.reduceAdd, Int.reduceLT, Int.reduceLE, Int.reduceNeg, Int.reduceBEq, Int.reduceBNe, m1, m2, stl, wr, rd, aRet, aRes, aRes1, toCells, Nat.reduceLeDiff, Nat.reduceMul])
      cases hB : decide (B ≥ 0)
      · (try simp only [w1, w2, AV.isTup, AV.cells, ↓reduceIte, Nat.reduceEqDiff, Nat.reduceAdd, Int.reduceLT, Int.reduceLE, Int.reduceNeg, Int.reduceBEq, Int.reduceBNe, m1, m2, stl, wr, rd, aRet, aRes, aRes1, toCells, Nat.reduceLeDiff, Nat.reduceMul])
        refine ⟨?_, hs⟩
        congr 1
        congr 1
        simp_all [shapeP, fieldsP, fitsP]
        try omega
      · (try simp only [w1, w2, AV.isTup, AV.cells, ↓reduceIte, Nat.reduceEqDiff, Nat.reduceAdd, Int.reduceLT, Int.reduceLE, Int.reduceNeg, Int.reduceBEq, Int.reduceBNe, m1, m2, stl, wr, rd, aRet, aRes, aRes1, toCells, Nat.reduceLeDiff, Nat.reduceMul])
        cases hL : decide (B < (n : Int))
        · (try simp only [w1, w2, AV.isTup, AV.cells, ↓reduceIte, Nat.reduceEqDiff, Nat.reduceAdd, Int.reduceLT, Int.reduceLE, Int.reduceNeg, Int.reduceBEq, Int.reduceBNe, m1, m2, stl, wr, rd, aRet, aRes, aRes1, toCells, Nat.reduceLeDiff, Nat.reduceMul])
          refine ⟨?_, hs⟩
          congr 1
          congr 1
          simp_all [shapeP, fieldsP, fitsP]
          try omega
        · (try simp only [w1, w2, AV.isTup, AV.cells, ↓reduceIte, Nat.reduceEqDiff, Nat.reduceAdd, Int.reduceLT, Int.reduceLE, Int.reduceNeg, Int.reduceBEq, Int.reduceBNe, m1, m2, stl, wr, rd, aRet, aRes, aRes1, toCells, Nat.reduceLeDiff, Nat.reduceMul])
          cases hN : (N == 0)
          · (try simp only [w1, w2, AV.isTup, AV.cells, ↓reduceIte, Nat.reduceEqDiff, Nat.reduceAdd, Int.reduceLT, Int.reduceLE, Int.reduceNeg, Int.reduceBEq, Int.reduceBNe, m1, m2, stl, wr, rd, aRet, aRes, aRes1, toCells, Nat.reduceLeDiff, Nat.reduceMul])
            refine ⟨?_, hs⟩
            congr 1
            congr 1
            simp_all [shapeP, fieldsP, fitsP]
            try omega
          · (try simp only [w1, w2, AV.isTup, AV.cells, ↓reduceIte, Nat.reduceEqDiff, Nat.reduceAdd, Int.reduceLT, Int.reduceLE, Int.reduceNeg, Int.reduceBEq, Int.reduceBNe, m1, m2, stl, wr, rd, aRet, aRes, aRes1, toCells, Nat.reduceLeDiff, Nat.reduceMul])
            cases hZ : (Z == 0)
            · (try simp only [w1, w2, AV.isTup, AV.cells, ↓reduceIte, Nat.reduceEqDiff, Nat.reduceAdd, Int.reduceLT, Int.reduceLE, Int.reduceNeg, Int.reduceBEq, Int.reduceBNe, m1, m2, stl, wr, rd, aRet, aRes, aRes1, toCells, Nat.reduceLeDiff, Nat.reduceMul])
              refine ⟨?_, hs⟩
              congr 1
              congr 1
              simp_all [shapeP, fieldsP, fitsP]
              try omega
            · (try simp only [w1, w2, AV.isTup, AV.cells, ↓reduceIte, Nat.reduceEqDiff, Nat.reduceAdd, Int.reduceLT, Int.reduceLE, Int.reduceNeg, Int.reduceBEq, Int.reduceBNe, m1, m2, stl, wr, rd, aRet, aRes, aRes1, toCells, Nat.reduceLeDiff, Nat.reduceMul])
              refine ⟨?_, hs⟩
              congr 1
              congr 1
              simp_all [shapeP, fieldsP, fitsP]
              try omega
  · -- 5
    simp only [w1, w2, AV.isTup, AV.cells, ↓reduceIte, Nat.reduceEqDiff, Nat.reduceAdd, Int.reduceLT, Int.reduceLE, Int.reduceNeg, Int.reduceBEq, Int.reduceBNe, m1, m2, stl, wr, rd, aRet, aRes, aRes1, toCells, Nat.reduceLeDiff, Nat.reduceMul]
    refine R_calls rfl (by simp only [w1, w2, AV.isTup, AV.cells, ↓reduceIte, Nat.reduceEqDiff, Nat.reduceAdd, Int.reduceLT, Int.reduceLE, Int.reduceNeg, Int.reduceBEq, Int.reduceBNe]; exact l1reg_ok _ _) ?_
    rintro v μ' ⟨rfl, rfl⟩
    simp only [w1, w2, AV.isTup, AV.cells, ↓reduceIte, Nat.reduceEqDiff, Nat.reduceAdd, Int.reduceLT, Int.reduceLE, Int.reduceNeg, Int.reduceBEq, Int.reduceBNe, m1, m2, stl, wr, rd, aRet, aRes, aRes1, toCells, Nat.reduceLeDiff, Nat.reduceMul]
    cases hA : regP A
    · (try simp only [w1, w2, AV.isTup, AV.cells, ↓reduceIte, Nat.reduceEqDiff, Nat.reduceAdd, Int.reduceLT, Int.reduceLE, Int.reduceNeg, Int.reduceBEq, Int.reduceBNe, m1, m2, stl, wr, rd, aRet, aRes, aRes1, toCells, Nat.reduceLeDiff, Nat.reduceMul])
      refine ⟨?_, hs⟩
      congr 1
      congr 1
      simp_all [shapeP, fieldsP, fitsP]
      try omega
    · (try simp only [w1, w2, AV.isTup, AV.cells, ↓reduceIte, Nat.reduceEqDiff, Nat.reduceAdd, Int.reduceLT, Int.reduceLE, Int.reduceNeg, Int.reduceBEq, Int.reduceBNe, m1, m2, stl, wr, rd, aRet, aRes, aRes1, toCells, Nat.reduceLeDiff, Nat.reduceMul])
      refine R_calls rfl (by simp only [w1, w2, AV.isTup, AV.cells, ↓reduceIte, Nat.reduceEqDiff, Nat.reduceAdd, Int.reduceLT, Int.reduceLE, Int.reduceNeg, Int.reduceBEq, Int.reduceBNe]; exact l1reg_ok _ _) ?_
      rintro v μ' ⟨rfl, rfl⟩
      simp only [w1, w2, AV.isTup, AV.cells, ↓reduceIte, Nat.reduceEqDiff, Nat.reduceAdd, Int.reduceLT, Int.reduceLE, Int.reduceNeg, Int.reduceBEq, Int.reduceBNe, m1, m2, stl, wr, rd, aRet, aRes, aRes1, toCells, Nat.reduceLeDiff, Nat.reduceMul]
      cases hB : regP B
      · (try simp only [w1, w2, AV.isTup, AV.cells, ↓reduceIte, Nat.reduceEqDiff, Nat.reduceAdd, Int.reduceLT, Int.reduceLE, Int.reduceNeg, Int.reduceBEq, Int.reduceBNe, m1, m2, stl, wr, rd, aRet, aRes, aRes1, toCells, Nat.reduceLeDiff, Nat.reduceMul])
        refine ⟨?_, hs⟩
        congr 1
        congr 1
        simp_all [shapeP, fieldsP, fitsP]
        try omega
      · (try simp only [w1, w2, AV.isTup, AV.cells, ↓reduceIte, Nat.reduceEqDiff, Nat.reduceAdd, Int.reduceLT, Int.reduceLE, Int.reduceNeg, Int.reduceBEq, Int.reduceBNe, m1, m2, stl, wr, rd, aRet, aRes, aRes1, toCells, Nat.reduceLeDiff, Nat.reduceMul])
        cases hN : (N == 0)
        · (try simp only [w1, w2, AV.isTup, AV.cells, ↓reduceIte, Nat.reduceEqDiff, Nat.reduceAdd, Int.reduceLT, Int.reduceLE, Int.reduceNeg, Int.reduceBEq, Int.reduceBNe, m1, m2, stl, wr, rd, aRet, aRes, aRes1, toCells, Nat.reduceLeDiff, Nat.reduceMul])
          refine ⟨?_, hs⟩
          congr 1
          congr 1
          simp_all [shapeP, fieldsP, fitsP]
          try omega
        · (try simp only [w1, w2, AV.isTup, AV.cells, ↓reduceIte, Nat.reduceEqDiff, Nat.reduceAdd, Int.reduceLT, Int.reduceLE, Int.reduceNeg, Int.reduceBEq, Int.reduceBNe, m1, m2, stl, wr, rd, aRet, aRes, aRes1, toCells, Nat.reduceLeDiff, Nat.reduceMul])
          cases hZ : (Z == 0)
          · (try simp only [w1, w2, AV.isTup, AV.cells, ↓reduceIte, Nat.reduceEqDiff, Nat.reduceAdd, Int.reduceLT, Int.reduceLE, Int.reduceNeg, Int.reduceBEq, Int.reduceBNe, m1, m2, stl, wr, rd, aRet, aRes, aRes1, toCells, Nat.reduceLeDiff, Nat.reduceMul])
            refine ⟨?_, hs⟩
            congr 1
            congr 1
            simp_all [shapeP, fieldsP, fitsP]
            try omega
          · (try simp only [w1, w2, AV.isTup, AV.cells, ↓reduceIte, Nat.reduceEqDiff, Nat.reduceAdd, Int.reduceLT, Int.reduceLE, Int.reduceNeg, Int.reduceBEq, Int.reduceBNe, m1, m2, stl, wr, rd, aRet, aRes, aRes1, toCells, Nat.reduceLeDiff, Nat.reduceMul])
            refine ⟨?_, hs⟩
            congr 1
            congr 1
            simp_all [shapeP, fieldsP, fitsP]
            try omega
  · -- 6
    simp only [w1, w2, AV.isTup, AV.cells, ↓reduceIte, Nat.reduceEqDiff, Nat.reduceAdd, Int.reduceLT, Int.reduceLE, Int.reduceNeg, Int.reduceBEq, Int.reduceBNe, m1, m2, stl, wr, rd, aRet, aRes, aRes1, toCells, Nat.reduceLeDiff, Nat.reduceMul]
    refine R_calls rfl (by simp only [w1, w2, AV.isTup, AV.cells, ↓reduceIte, Nat.reduceEqDiff, Nat.reduceAdd, Int.reduceLT, Int.reduceLE, Int.reduceNeg, Int.reduceBEq, Int.reduceBNe]; exact l1reg_ok _ _) ?_
    rintro v μ' ⟨rfl, rfl⟩
    simp only [w1, w2, AV.isTup, AV.cells, ↓reduceIte, Nat.reduceEqDiff, Nat.reduceAdd, Int.reduceLT, Int.reduceLE, Int.reduceNeg, Int.reduceBEq, Int.reduceBNe, m1, m2, stl, wr, rd, aRet, aRes, aRes1, toCells, Nat.reduceLeDiff, Nat.reduceMul]
    cases hA : regP A
    · (try simp only [w1, w2, AV.isTup, AV.cells, ↓reduceIte, Nat.reduceEqDiff, Nat.reduceAdd, Int.reduceLT, Int.reduceLE, Int.reduceNeg, Int.reduceBEq, Int.reduceBNe, m1, m2, stl, wr, rd, aRet, aRes, aRes1, toCells, Nat.reduceLeDiff, Nat.reduceMul])
      refine ⟨?_, hs⟩
      congr 1
      congr 1
      simp_all [shapeP, fieldsP, fitsP]
      try omega
    · (try simp only [w1, w2, AV.isTup, AV.cells, ↓reduceIte, Nat.reduceEqDiff, Nat.reduceAdd, Int.reduceLT, Int.reduceLE, Int.reduceNeg, Int.reduceBEq, Int.reduceBNe, m1, m2, stl, wr, rd, aRet, aRes, aRes1, toCells, Nat.reduceLeDiff, Nat.reduceMul])
      cases hB : (B == 0)
      · (try simp only [w1, w2, AV.isTup, AV.cells, ↓reduceIte, Nat.reduceEqDiff, Nat.reduceAdd, Int.reduceLT, Int.reduceLE, Int.reduceNeg, Int.reduceBEq, Int.reduceBNe, m1, m2, stl, wr, rd, aRet, aRes, aRes1, toCells, Nat.reduceLeDiff, Nat.reduceMul])
        refine ⟨?_, hs⟩
        congr 1
        congr 1
        simp_all [shapeP, fieldsP, fitsP]
        try omega
      · (try simp only [w1, w2, AV.isTup, AV.cells, ↓reduceIte, Nat.reduceEqDiff, Nat.reduceAdd, Int.reduceLT, Int.reduceLE, Int.reduceNeg, Int.reduceBEq, Int.reduceBNe, m1, m2, stl, wr, rd, aRet, aRes, aRes1, toCells, Nat.reduceLeDiff, Nat.reduceMul])
        cases hN : (N == 0)
        · (try simp only [w1, w2, AV.isTup, AV.cells, ↓reduceIte, Nat.reduceEqDiff, Nat.reduceAdd, Int.reduceLT, Int.reduceLE, Int.reduceNeg, Int.reduceBEq, Int.reduceBNe, m1, m2, stl, wr, rd, aRet, aRes, aRes1, toCells, Nat.reduceLeDiff, Nat.reduceMul])
          refine ⟨?_, hs⟩
          congr 1
          congr 1
          simp_all [shapeP, fieldsP, fitsP]
          try omega
        · (try simp only [w1, w2, AV.isTup, AV.cells, ↓reduceIte, Nat.reduceEqDiff, Nat.reduceAdd, Int.reduceLT, Int.reduceLE, Int.reduceNeg, Int.reduceBEq, Int.reduceBNe, m1, m2, stl, wr, rd, aRet, aRes, aRes1, toCells, Nat.reduceLeDiff, Nat.reduceMul])
          cases hZ : (Z == 0)
          · (try simp only [w1, w2, AV.isTup, AV.cells, ↓reduceIte, Nat.reduceEqDiff, Nat.reduceAdd, Int.reduceLT, Int.reduceLE, Int.reduceNeg, Int.reduceBEq, Int.reduceBNe, m1, m2, stl, wr, rd, aRet, aRes, aRes1, toCells, Nat.reduceLeDiff, Nat.reduceMul])
            refine ⟨?_, hs⟩
            congr 1
            congr 1
            simp_all [shapeP, fieldsP, fitsP]
            try omega
          · (try simp only [w1, w2, AV.isTup, AV.cells, ↓reduceIte, Nat.reduceEqDiff, Nat.reduceAdd, Int.reduceLT, Int.reduceLE, Int.reduceNeg, Int.reduceBEq, Int.reduceBNe, m1, m2, stl, wr, rd, aRet, aRes, aRes1, toCells, Nat.reduceLeDiff, Nat.reduceMul])
            refine ⟨?_, hs⟩
            congr 1
            congr 1
            simp_all [shapeP, fieldsP, fitsP]
            try omega
  · -- 7
    simp only [w1, w2, AV.isTup, AV.cells, ↓reduceIte, Nat.reduceEqDiff, Nat.reduceAdd, Int.reduceLT, Int.reduceLE, Int.reduceNeg, Int.reduceBEq, Int.reduceBNe, m1, m2, stl, wr, rd, aRet, aRes, aRes1, toCells, Nat.reduceLeDiff, Nat.reduceMul]
    refine R_calls rfl (by simp only [w1, w2, AV.isTup, AV.cells, ↓reduceIte, Nat.reduceEqDiff, Nat.reduceAdd, Int.reduceLT, Int.reduceLE, Int.reduceNeg, Int.reduceBEq, Int.reduceBNe]; exact l1reg_ok _ _) ?_
    rintro v μ' ⟨rfl, rfl⟩
    simp only [w1, w2, AV.isTup, AV.cells, ↓reduceIte, Nat.reduceEqDiff, Nat.reduceAdd, Int.reduceLT, Int.reduceLE, Int.reduceNeg, Int.reduceBEq, Int.reduceBNe, m1, m2, stl, wr, rd, aRet, aRes, aRes1, toCells, Nat.reduceLeDiff, Nat.reduceMul]
    cases hA : regP A
    · (try simp only [w1, w2, AV.isTup, AV.cells, ↓reduceIte, Nat.reduceEqDiff, Nat.reduceAdd, Int.reduceLT, Int.reduceLE, Int.reduceNeg, Int.reduceBEq, Int.reduceBNe, m1, m2, stl, wr, rd, aRet, aRes, aRes1, toCells, Nat.reduceLeDiff, Nat.reduceMul])
      refine ⟨?_, hs⟩
      congr 1
      congr 1
      simp_all [shapeP, fieldsP, fitsP]
      try omega
    · (try simp only [w1, w2, AV.isTup, AV.cells, ↓reduceIte, Nat.reduceEqDiff, Nat.reduceAdd, Int.reduceLT, Int.reduceLE, Int.reduceNeg, Int.reduceBEq, Int.reduceBNe, m1, m2, stl, wr, rd, aRet, aRes, aRes1, toCells, Nat.reduceLeDiff, Nat.reduceMul])
      refine R_calls rfl (by simp only [w1, w2, AV.isTup, AV.cells, ↓reduceIte, Nat.reduceEqDiff, Nat.reduceAdd, Int.reduceLT, Int.reduceLE, Int.reduceNeg, Int.reduceBEq, Int.reduceBNe]; exact l1reg_ok _ _) ?_
      rintro v μ' ⟨rfl, rfl⟩
      simp only [w1, w2, AV.isTup, AV.cells, ↓reduceIte, Nat.reduceEqDiff, Nat.reduceAdd, Int.reduceLT, Int.reduceLE, Int.reduceNeg, Int.reduceBEq, Int.reduceBNe, m1, m2, stl, wr, rd, aRet, aRes, aRes1, toCells, Nat.reduceLeDiff, Nat.reduceMul]
      cases hB : regP B
      · (try simp only [w1, w2, AV.isTup, AV.cells, ↓reduceIte, Nat.reduceEqDiff, Nat.reduceAdd, Int.reduceLT, Int.reduceLE, Int.reduceNeg, Int.reduceBEq, Int.reduceBNe, m1, m2, stl, wr, rd, aRet, aRes, aRes1, toCells, Nat.reduceLeDiff, Nat.reduceMul])
        refine ⟨?_, hs⟩
        congr 1
        congr 1
        simp_all [shapeP, fieldsP, fitsP]
        try omega
      · (try simp only [w1, w2, AV.isTup, AV.cells, ↓reduceIte, Nat.reduceEqDiff, Nat.reduceAdd, Int.reduceLT, Int.reduceLE, Int.reduceNeg, Int.reduceBEq, Int.reduceBNe, m1, m2, stl, wr, rd, aRet, aRes, aRes1, toCells, Nat.reduceLeDiff, Nat.reduceMul])
        cases hN : (N == 0)
        · (try simp only [w1, w2, AV.isTup, AV.cells, ↓reduceIte, Nat.reduceEqDiff, Nat.reduceAdd, Int.reduceLT, Int.reduceLE, Int.reduceNeg, Int.reduceBEq, Int.reduceBNe, m1, m2, stl, wr, rd, aRet, aRes, aRes1, toCells, Nat.reduceLeDiff, Nat.reduceMul])
          refine ⟨?_, hs⟩
          congr 1
          congr 1
          simp_all [shapeP, fieldsP, fitsP]
          try omega
        · (try simp only [w1, w2, AV.isTup, AV.cells, ↓reduceIte, Nat.reduceEqDiff, Nat.reduceAdd, Int.reduceLT, Int.reduceLE, Int.reduceNeg, Int.reduceBEq, Int.reduceBNe, m1, m2, stl, wr, rd, aRet, aRes, aRes1, toCells, Nat.reduceLeDiff, Nat.reduceMul])
          cases hZ : (Z == 0)
          · (try simp only [w1, w2, AV.isTup, AV.cells, ↓reduceIte, Nat.reduceEqDiff, Nat.reduceAdd, Int.reduceLT, Int.reduceLE, Int.reduceNeg, Int.reduceBEq, Int.reduceBNe, m1, m2, stl, wr, rd, aRet, aRes, aRes1, toCells, Nat.reduceLeDiff, Nat.reduceMul])
            refine ⟨?_, hs⟩
            congr 1
            congr 1
            simp_all [shapeP, fieldsP, fitsP]
            try omega
          · (try simp only [w1, w2, AV.isTup, AV.cells, ↓reduceIte, Nat.reduceEqDiff, Nat.reduceAdd, Int.reduceLT, Int.reduceLE, Int.reduceNeg, Int.reduceBEq, Int.reduceBNe, m1, m2, stl, wr, rd, aRet, aRes, aRes1, toCells, Nat.reduceLeDiff, Nat.reduceMul])
            refine ⟨?_, hs⟩
            congr 1
            congr 1
            simp_all [shapeP, fieldsP, fitsP]
            try omega
  · -- 8
    simp only [w1, w2, AV.isTup, AV.cells, ↓reduceIte, Nat.reduceEqDiff, Nat.reduceAdd, Int.reduceLT, Int.reduceLE, Int.reduceNeg, Int.reduceBEq, Int.reduceBNe, m1, m2, stl, wr, rd, aRet, aRes, aRes1, toCells, Nat.reduceLeDiff, Nat.reduceMul]
    refine R_calls rfl (by simp only [w1, w2, AV.isTup, AV.cells, ↓reduceIte, Nat.reduceEqDiff, Nat.reduceAdd, Int.reduceLT, Int.reduceLE, Int.reduceNeg, Int.reduceBEq, Int.reduceBNe]; exact l1reg_ok _ _) ?_
    rintro v μ' ⟨rfl, rfl⟩
    simp only [w1, w2, AV.isTup, AV.cells, ↓reduceIte, Nat.reduceEqDiff, Nat.reduceAdd, Int.reduceLT, Int.reduceLE, Int.reduceNeg, Int.reduceBEq, Int.reduceBNe, m1, m2, stl, wr, rd, aRet, aRes, aRes1, toCells, Nat.reduceLeDiff, Nat.reduceMul]
    cases hA : regP A
    · (try simp only [w1, w2, AV.isTup, AV.cells, ↓reduceIte, Nat.reduceEqDiff, Nat.reduceAdd, Int.reduceLT, Int.reduceLE, Int.reduceNeg, Int.reduceBEq, Int.reduceBNe, m1, m2, stl, wr, rd, aRet, aRes, aRes1, toCells, Nat.reduceLeDiff, Nat.reduceMul])
      refine ⟨?_, hs⟩
      congr 1
      congr 1
      simp_all [shapeP, fieldsP, fitsP]
      try omega
    · (try simp only [w1, w2, AV.isTup, AV.cells, ↓reduceIte, Nat.reduceEqDiff, Nat.reduceAdd, Int.reduceLT, Int.reduceLE, Int.reduceNeg, Int.reduceBEq, Int.reduceBNe, m1, m2, stl, wr, rd, aRet, aRes, aRes1, toCells, Nat.reduceLeDiff, Nat.reduceMul])
      refine R_calls rfl (by simp only [w1, w2, AV.isTup, AV.cells, ↓reduceIte, Nat.reduceEqDiff, Nat.reduceAdd, Int.reduceLT, Int.reduceLE, Int.reduceNeg, Int.reduceBEq, Int.reduceBNe]; exact l1reg_ok _ _) ?_
      rintro v μ' ⟨rfl, rfl⟩
      simp only [w1, w2, AV.isTup, AV.cells, ↓reduceIte, Nat.reduceEqDiff, Nat.reduceAdd, Int.reduceLT, Int.reduceLE, Int.reduceNeg, Int.reduceBEq, Int.reduceBNe, m1, m2, stl, wr, rd, aRet, aRes, aRes1, toCells, Nat.reduceLeDiff, Nat.reduceMul]
      cases hB : regP B
      · (try simp only [w1, w2, AV.isTup, AV.cells, ↓reduceIte, Nat.reduceEqDiff, Nat.reduceAdd, Int.reduceLT, Int.reduceLE, Int.reduceNeg, Int.reduceBEq, Int.reduceBNe, m1, m2, stl, wr, rd, aRet, aRes, aRes1, toCells, Nat.reduceLeDiff, Nat.reduceMul])
        refine ⟨?_, hs⟩
        congr 1
        congr 1
        simp_all [shapeP, fieldsP, fitsP]
        try omega
      · (try simp only [w1, w2, AV.isTup, AV.cells, ↓reduceIte, Nat.reduceEqDiff, Nat.reduceAdd, Int.reduceLT, Int.reduceLE, Int.reduceNeg, Int.reduceBEq, Int.reduceBNe, m1, m2, stl, wr, rd, aRet, aRes, aRes1, toCells, Nat.reduceLeDiff, Nat.reduceMul])
        cases hN : (N == 0)
        · (try simp only [w1, w2, AV.isTup, AV.cells, ↓reduceIte, Nat.reduceEqDiff, Nat.reduceAdd, Int.reduceLT, Int.reduceLE, Int.reduceNeg, Int.reduceBEq, Int.reduceBNe, m1, m2, stl, wr, rd, aRet, aRes, aRes1, toCells, Nat.reduceLeDiff, Nat.reduceMul])
          refine ⟨?_, hs⟩
          congr 1
          congr 1
          simp_all [shapeP, fieldsP, fitsP]
          try omega
        · (try simp only [w1, w2, AV.isTup, AV.cells, ↓reduceIte, Nat.reduceEqDiff, Nat.reduceAdd, Int.reduceLT, Int.reduceLE, Int.reduceNeg, Int.reduceBEq, Int.reduceBNe, m1, m2, stl, wr, rd, aRet, aRes, aRes1, toCells, Nat.reduceLeDiff, Nat.reduceMul])
          cases hZ : (Z == 0)
          · (try simp only [w1, w2, AV.isTup, AV.cells, ↓reduceIte, Nat.reduceEqDiff, Nat.reduceAdd, Int.reduceLT, Int.reduceLE, Int.reduceNeg, Int.reduceBEq, Int.reduceBNe, m1, m2, stl, wr, rd, aRet, aRes, aRes1, toCells, Nat.reduceLeDiff, Nat.reduceMul])
            refine ⟨?_, hs⟩
            congr 1
            congr 1
            simp_all [shapeP, fieldsP, fitsP]
            try omega
          · (try simp only [w1, w2, AV.isTup, AV.cells, ↓reduceIte, Nat.reduceEqDiff, Nat.reduceAdd, Int.reduceLT, Int.reduceLE, Int.reduceNeg, Int.reduceBEq, Int.reduceBNe, m1, m2, stl, wr, rd, aRet, aRes, aRes1, toCells, Nat.reduceLeDiff, Nat.reduceMul])
            refine ⟨?_, hs⟩
            congr 1
            congr 1
            simp_all [shapeP, fieldsP, fitsP]
            try omega
  · -- 9
    simp only [w1, w2, AV.isTup, AV.cells, ↓reduceIte, Nat.reduceEqDiff, Nat.reduceAdd, Int.reduceLT, Int.reduceLE, Int.reduceNeg, Int.reduceBEq, Int.reduceBNe, m1, m2, stl, wr, rd, aRet, aRes, aRes1, toCells, Nat.reduceLeDiff, Nat.reduceMul]
    refine R_calls rfl (by simp only [w1, w2, AV.isTup, AV.cells, ↓reduceIte, Nat.reduceEqDiff, Nat.reduceAdd, Int.reduceLT, Int.reduceLE, Int.reduceNeg, Int.reduceBEq, Int.reduceBNe]; exact l1reg_ok _ _) ?_
    rintro v μ' ⟨rfl, rfl⟩
    simp only [w1, w2, AV.isTup, AV.cells, ↓reduceIte, Nat.reduceEqDiff, Nat.reduceAdd, Int.reduceLT, Int.reduceLE, Int.reduceNeg, Int.reduceBEq, Int.reduceBNe, m1, m2, stl, wr, rd, aRet, aRes, aRes1, toCells, Nat.reduceLeDiff, Nat.reduceMul]
    cases hA : regP A
    · (try simp only [w1, w2, AV.isTup, AV.cells, ↓reduceIte, Nat.reduceEqDiff, Nat.reduceAdd, Int.reduceLT, Int.reduceLE, Int.reduceNeg, Int.reduceBEq, Int.reduceBNe, m1, m2, stl, wr, rd, aRet, aRes, aRes1, toCells, Nat.reduceLeDiff, Nat.reduceMul])
      refine ⟨?_, hs⟩
      congr 1
      congr 1
      simp_all [shapeP, fieldsP, fitsP]
      try omega
    · (try simp only [w1, w2, AV.isTup, AV.cells, ↓reduceIte, Nat.reduceEqDiff, Nat.reduceAdd, Int.reduceLT, Int.reduceLE, Int.reduceNeg, Int.reduceBEq, Int.reduceBNe, m1, m2, stl, wr, rd, aRet, aRes, aRes1, toCells, Nat.reduceLeDiff, Nat.reduceMul])
      cases hB : (B == 0)
      · (try simp only [w1, w2, AV.isTup, AV.cells, ↓reduceIte, Nat.reduceEqDiff, Nat.reduceAdd, Int.reduceLT, Int.reduceLE, Int.reduceNeg, Int.reduceBEq, Int.reduceBNe, m1, m2, stl, wr, rd, aRet, aRes, aRes1, toCells, Nat.reduceLeDiff, Nat.reduceMul])
        refine ⟨?_, hs⟩
        congr 1
        congr 1
        simp_all [shapeP, fieldsP, fitsP]
        try omega
      · (try simp only [w1, w2, AV.isTup, AV.cells, ↓reduceIte, Nat.reduceEqDiff, Nat.reduceAdd, Int.reduceLT, Int.reduceLE, Int.reduceNeg, Int.reduceBEq, Int.reduceBNe, m1, m2, stl, wr, rd, aRet, aRes, aRes1, toCells, Nat.reduceLeDiff, Nat.reduceMul])
        cases hN : (N == 0)
        · (try simp only [w1, w2, AV.isTup, AV.cells, ↓reduceIte, Nat.reduceEqDiff, Nat.reduceAdd, Int.reduceLT, Int.reduceLE, Int.reduceNeg, Int.reduceBEq, Int.reduceBNe, m1, m2, stl, wr, rd, aRet, aRes, aRes1, toCells, Nat.reduceLeDiff, Nat.reduceMul])
          refine ⟨?_, hs⟩
          congr 1
          congr 1
          simp_all [shapeP, fieldsP, fitsP]
          try omega
        · (try simp only [w1, w2, AV.isTup, AV.cells, ↓reduceIte, Nat.reduceEqDiff, Nat.reduceAdd, Int.reduceLT, Int.reduceLE, Int.reduceNeg, Int.reduceBEq, Int.reduceBNe, m1, m2, stl, wr, rd, aRet, aRes, aRes1, toCells, Nat.reduceLeDiff, Nat.reduceMul])
          cases hZ : (Z == 0)
          · (try simp only [w1, w2, AV.isTup, AV.cells, ↓reduceIte, Nat.reduceEqDiff, Nat.reduceAdd, Int.reduceLT, Int.reduceLE, Int.reduceNeg, Int.reduceBEq, Int.reduceBNe, m1, m2, stl, wr, rd, aRet, aRes, aRes1, toCells, Nat.reduceLeDiff, Nat.reduceMul])
            refine ⟨?_, hs⟩
            congr 1
            congr 1
            simp_all [shapeP, fieldsP, fitsP]
            try omega
          · (try simp only [w1, w2, AV.isTup, AV.cells, ↓reduceIte, Nat.reduceEqDiff, Nat.reduceAdd, Int.reduceLT, Int.reduceLE, Int.reduceNeg, Int.reduceBEq, Int.reduceBNe, m1, m2, stl, wr, rd, aRet, aRes, aRes1, toCells, Nat.reduceLeDiff, Nat.reduceMul])
            refine ⟨?_, hs⟩
            congr 1
            congr 1
            simp_all [shapeP, fieldsP, fitsP]
            try omega
  · -- 10
    simp only [w1, w2, AV.isTup, AV.cells, ↓reduceIte, Nat.reduceEqDiff, Nat.reduceAdd, Int.reduceLT, Int.reduceLE, Int.reduceNeg, Int.reduceBEq, Int.reduceBNe, m1, m2, stl, wr, rd, aRet, aRes, aRes1, toCells, Nat.reduceLeDiff, Nat.reduceMul]
    refine R_calls rfl (by simp only [w1, w2, AV.isTup, AV.cells, ↓reduceIte, Nat.reduceEqDiff, Nat.reduceAdd, Int.reduceLT, Int.reduceLE, Int.reduceNeg, Int.reduceBEq, Int.reduceBNe]; exact l1reg_ok _ _) ?_
    rintro v μ' ⟨rfl, rfl⟩
    simp only [w1, w2, AV.isTup, AV.cells, ↓reduceIte, Nat.reduceEqDiff, Nat.reduceAdd, Int.reduceLT, Int.reduceLE, Int.reduceNeg, Int.reduceBEq, Int.reduceBNe, m1, m2, stl, wr, rd, aRet, aRes, aRes1, toCells, Nat.reduceLeDiff, Nat.reduceMul]
    cases hA : regP A
    · (try simp only [w1, w2, AV.isTup, AV.cells, ↓reduceIte, Nat.reduceEqDiff, Nat.reduceAdd, Int.reduceLT, Int.reduceLE, Int.reduceNeg, Int.reduceBEq, Int.reduceBNe, m1, m2, stl, wr, rd, aRet, aRes, aRes1, toCells, Nat.reduceLeDiff, Nat.reduceMul])
      refine ⟨?_, hs⟩
      congr 1
      congr 1
      simp_all [shapeP, fieldsP, fitsP]
      try omega
    · (try simp only [w1, w2, AV.isTup, AV.cells, ↓reduceIte, Nat.reduceEqDiff, Nat.reduceAdd, Int.reduceLT, Int.reduceLE, Int.reduceNeg, Int.reduceBEq, Int.reduceBNe, m1, m2, stl, wr, rd, aRet, aRes, aRes1, toCells, Nat.reduceLeDiff, Nat.reduceMul])
      cases hB : (B == 0)
      · (try simp only [w1, w2, AV.isTup, AV.cells, ↓reduceIte, Nat.reduceEqDiff, Nat.reduceAdd, Int.reduceLT, Int.reduceLE, Int.reduceNeg, Int.reduceBEq, Int.reduceBNe, m1, m2, stl, wr, rd, aRet, aRes, aRes1, toCells, Nat.reduceLeDiff, Nat.reduceMul])
        refine ⟨?_, hs⟩
        congr 1
        congr 1
        simp_all [shapeP, fieldsP, fitsP]
        try omega
      · (try simp only [w1, w2, AV.isTup, AV.cells, ↓reduceIte, Nat.reduceEqDiff, Nat.reduceAdd, Int.reduceLT, Int.reduceLE, Int.reduceNeg, Int.reduceBEq, Int.reduceBNe, m1, m2, stl, wr, rd, aRet, aRes, aRes1, toCells, Nat.reduceLeDiff, Nat.reduceMul])
        cases hN : (N == 0)
        · (try simp only [w1, w2, AV.isTup, AV.cells, ↓reduceIte, Nat.reduceEqDiff, Nat.reduceAdd, Int.reduceLT, Int.reduceLE, Int.reduceNeg, Int.reduceBEq, Int.reduceBNe, m1, m2, stl, wr, rd, aRet, aRes, aRes1, toCells, Nat.reduceLeDiff, Nat.reduceMul])
          refine ⟨?_, hs⟩
          congr 1
          congr 1
          simp_all [shapeP, fieldsP, fitsP]
          try omega
        · (try simp only [w1, w2, AV.isTup, AV.cells, ↓reduceIte, Nat.reduceEqDiff, Nat.reduceAdd, Int.reduceLT, Int.reduceLE, Int.reduceNeg, Int.reduceBEq, Int.reduceBNe, m1, m2, stl, wr, rd, aRet, aRes, aRes1, toCells, Nat.reduceLeDiff, Nat.reduceMul])
          cases hZ : (Z == 0)
          · (try simp only [w1, w2, AV.isTup, AV.cells, ↓reduceIte, Nat.reduceEqDiff, Nat.reduceAdd, Int.reduceLT, Int.reduceLE, Int.reduceNeg, Int.reduceBEq, Int.reduceBNe, m1, m2, stl, wr, rd, aRet, aRes, aRes1, toCells, Nat.reduceLeDiff, Nat.reduceMul])
            refine ⟨?_, hs⟩
            congr 1
            congr 1
            simp_all [shapeP, fieldsP, fitsP]
            try omega
          · (try simp only [w1, w2, AV.isTup, AV.cells, ↓reduceIte, Nat.reduceEqDiff, Nat.reduceAdd, Int.reduceLT, Int.reduceLE, Int.reduceNeg, Int.reduceBEq, Int.reduceBNe, m1, m2, stl, wr, rd, aRet, aRes, aRes1, toCells, Nat.reduceLeDiff, Nat.reduceMul])
            refine ⟨?_, hs⟩
            congr 1
            congr 1
            simp_all [shapeP, fieldsP, fitsP]
            try omega
  · -- 11
    simp only [w1, w2, AV.isTup, AV.cells, ↓reduceIte, Nat.reduceEqDiff, Nat.reduceAdd, Int.reduceLT, Int.reduceLE, Int.reduceNeg, Int.reduceBEq, Int.reduceBNe, m1, m2, stl, wr, rd, aRet, aRes, aRes1, toCells, Nat.reduceLeDiff, Nat.reduceMul]
    refine R_calls rfl (by simp only [w1, w2, AV.isTup, AV.cells, ↓reduceIte, Nat.reduceEqDiff, Nat.reduceAdd, Int.reduceLT, Int.reduceLE, Int.reduceNeg, Int.reduceBEq, Int.reduceBNe]; exact l1reg_ok _ _) ?_
    rintro v μ' ⟨rfl, rfl⟩
    simp only [w1, w2, AV.isTup, AV.cells, ↓reduceIte, Nat.reduceEqDiff, Nat.reduceAdd, Int.reduceLT, Int.reduceLE, Int.reduceNeg, Int.reduceBEq, Int.reduceBNe, m1, m2, stl, wr, rd, aRet, aRes, aRes1, toCells, Nat.reduceLeDiff, Nat.reduceMul]
    cases hA : regP A
    · (try simp only [w1, w2, AV.isTup, AV.cells, ↓reduceIte, Nat.reduceEqDiff, Nat.reduceAdd, Int.reduceLT, Int.reduceLE, Int.reduceNeg, Int.reduceBEq, Int.reduceBNe, m1, m2, stl, wr, rd, aRet, aRes, aRes1, toCells, Nat.reduceLeDiff, Nat.reduceMul])
      refine ⟨?_, hs⟩
      congr 1
      congr 1
      simp_all [shapeP, fieldsP, fitsP]
      try omega
    · (try simp only [w1, w2, AV.isTup, AV.cells, ↓reduceIte, Nat.reduceEqDiff, Nat.reduceAdd, Int.reduceLT, Int.reduceLE, Int.reduceNeg, Int.reduceBEq, Int.reduceBNe, m1, m2, stl, wr, rd, aRet, aRes, aRes1, toCells, Nat.reduceLeDiff, Nat.reduceMul])
      cases hB : (B == 0)
      · (try simp only [w1, w2, AV.isTup, AV.cells, ↓reduceIte, Nat.reduceEqDiff, Nat.reduceAdd, Int.reduceLT, Int.reduceLE, Int.reduceNeg, Int.reduceBEq, Int.reduceBNe, m1, m2, stl, wr, rd, aRet, aRes, aRes1, toCells, Nat.reduceLeDiff, Nat.reduceMul])
        refine ⟨?_, hs⟩
        congr 1
        congr 1
        simp_all [shapeP, fieldsP, fitsP]
        try omega
      · (try simp only [w1, w2, AV.isTup, AV.cells, ↓reduceIte, Nat.reduceEqDiff, Nat.reduceAdd, Int.reduceLT, Int.reduceLE, Int.reduceNeg, Int.reduceBEq, Int.reduceBNe, m1, m2, stl, wr, rd, aRet, aRes, aRes1, toCells, Nat.reduceLeDiff, Nat.reduceMul])
        cases hN : (N == 0)
        · (try simp only [w1, w2, AV.isTup, AV.cells, ↓reduceIte, Nat.reduceEqDiff, Nat.reduceAdd, Int.reduceLT, Int.reduceLE, Int.reduceNeg, Int.reduceBEq, Int.reduceBNe, m1, m2, stl, wr, rd, aRet, aRes, aRes1, toCells, Nat.reduceLeDiff, Nat.reduceMul])
          refine ⟨?_, hs⟩
          congr 1
          congr 1
          simp_all [shapeP, fieldsP, fitsP]
          try omega
        · (try simp only [w1, w2, AV.isTup, AV.cells, ↓reduceIte, Nat.reduceEqDiff, Nat.reduceAdd, Int.reduceLT, Int.reduceLE, Int.reduceNeg, Int.reduceBEq, Int.reduceBNe, m1, m2, stl, wr, rd, aRet, aRes, aRes1, toCells, Nat.reduceLeDiff, Nat.reduceMul])
          cases hZ : decide (Z ≥ 0)
          · (try simp only [w1, w2, AV.isTup, AV.cells, ↓reduceIte, Nat.reduceEqDiff, Nat.reduceAdd, Int.reduceLT, Int.reduceLE, Int.reduceNeg, Int.reduceBEq, Int.reduceBNe, m1, m2, stl, wr, rd, aRet, aRes, aRes1, toCells, Nat.reduceLeDiff, Nat.reduceMul])
            refine ⟨?_, hs⟩
            congr 1
            congr 1
            simp_all [shapeP, fieldsP, fitsP]
            try omega
          · (try simp only [w1, w2, AV.isTup, AV.cells, ↓reduceIte, Nat.reduceEqDiff, Nat.reduceAdd, Int.reduceLT, Int.reduceLE, Int.reduceNeg, Int.reduceBEq, Int.reduceBNe, m1, m2, stl, wr, rd, aRet, aRes, aRes1, toCells, Nat.reduceLeDiff, Nat.reduceMul])
            refine ⟨?_, hs⟩
            congr 1
            congr 1
            simp_all [shapeP, fieldsP, fitsP]
            try omega
  · -- 12
    simp only [w1, w2, AV.isTup, AV.cells, ↓reduceIte, Nat.reduceEqDiff, Nat.reduceAdd, Int.reduceLT, Int.reduceLE, Int.reduceNeg, Int.reduceBEq, Int.reduceBNe, m1, m2, stl, wr, rd, aRet, aRes, aRes1, toCells, Nat.reduceLeDiff, Nat.reduceMul]
    cases hA : (A == 0)
    · (try simp only [w1, w2, AV.isTup, AV.cells, ↓reduceIte, Nat.reduceEqDiff, Nat.reduceAdd, Int.reduceLT, Int.reduceLE, Int.reduceNeg, Int.reduceBEq, Int.reduceBNe, m1, m2, stl, wr, rd, aRet, aRes, aRes1, toCells, Nat.reduceLeDiff, Nat.reduceMul])
      refine ⟨?_, hs⟩
      congr 1
      congr 1
      simp_all [shapeP, fieldsP, fitsP]
      try omega
    · (try simp only [w1, w2, AV.isTup, AV.cells, ↓reduceIte, Nat.reduceEqDiff, Nat.reduceAdd, Int.reduceLT, Int.reduceLE, Int.reduceNeg, Int.reduceBEq, Int.reduceBNe, m1, m2, stl, wr, rd, aRet, aRes, aRes1, toCells, Nat.reduceLeDiff, Nat.reduceMul])
      cases hB : (B == 0)
      · (try simp only [w1, w2, AV.isTup, AV.cells, ↓reduceIte, Nat.reduceEqDiff, Nat.reduceAdd, Int.reduceLT, Int.reduceLE, Int.reduceNeg, Int.reduceBEq, Int.reduceBNe, m1, m2, stl, wr, rd, aRet, aRes, aRes1, toCells, Nat.reduceLeDiff, Nat.reduceMul])
        refine ⟨?_, hs⟩
        congr 1
        congr 1
        simp_all [shapeP, fieldsP, fitsP]
        try omega
      · (try simp only [w1, w2, AV.isTup, AV.cells, ↓reduceIte, Nat.reduceEqDiff, Nat.reduceAdd, Int.reduceLT, Int.reduceLE, Int.reduceNeg, Int.reduceBEq, Int.reduceBNe, m1, m2, stl, wr, rd, aRet, aRes, aRes1, toCells, Nat.reduceLeDiff, Nat.reduceMul])
        cases hN : (N == 0)
        · (try simp only [w1, w2, AV.isTup, AV.cells, ↓reduceIte, Nat.reduceEqDiff, Nat.reduceAdd, Int.reduceLT, Int.reduceLE, Int.reduceNeg, Int.reduceBEq, Int.reduceBNe, m1, m2, stl, wr, rd, aRet, aRes, aRes1, toCells, Nat.reduceLeDiff, Nat.reduceMul])
          refine ⟨?_, hs⟩
          congr 1
          congr 1
          simp_all [shapeP, fieldsP, fitsP]
          try omega
        · (try simp only [w1, w2, AV.isTup, AV.cells, ↓reduceIte, Nat.reduceEqDiff, Nat.reduceAdd, Int.reduceLT, Int.reduceLE, Int.reduceNeg, Int.reduceBEq, Int.reduceBNe, m1, m2, stl, wr, rd, aRet, aRes, aRes1, toCells, Nat.reduceLeDiff, Nat.reduceMul])
          cases hZ : decide (Z ≥ 0)
          · (try simp only [w1, w2, AV.isTup, AV.cells, ↓reduceIte, Nat.reduceEqDiff, Nat.reduceAdd, Int.reduceLT, Int.reduceLE, Int.reduceNeg, Int.reduceBEq, Int.reduceBNe, m1, m2, stl, wr, rd, aRet, aRes, aRes1, toCells, Nat.reduceLeDiff, Nat.reduceMul])
            refine ⟨?_, hs⟩
            congr 1
            congr 1
            simp_all [shapeP, fieldsP, fitsP]
            try omega
          · (try simp only [w1, w2, AV.isTup, AV.cells, ↓reduceIte, Nat.reduceEqDiff, Nat.reduceAdd, Int.reduceLT, Int.reduceLE, Int.reduceNeg, Int.reduceBEq, Int.reduceBNe, m1, m2, stl, wr, rd, aRet, aRes, aRes1, toCells, Nat.reduceLeDiff, Nat.reduceMul])
            refine ⟨?_, hs⟩
            congr 1
            congr 1
            simp_all [shapeP, fieldsP, fitsP]
            try omega
  · -- 13
    simp only [w1, w2, AV.isTup, AV.cells, ↓reduceIte, Nat.reduceEqDiff, Nat.reduceAdd, Int.reduceLT, Int.reduceLE, Int.reduceNeg, Int.reduceBEq, Int.reduceBNe, m1, m2, stl, wr, rd, aRet, aRes, aRes1, toCells, Nat.reduceLeDiff, Nat.reduceMul]
    cases hA : (A == 0)
    · (try simp only [w1, w2, AV.isTup, AV.cells, ↓reduceIte, Nat.reduceEqDiff, Nat.reduceAdd, Int.reduceLT, Int.reduceLE, Int.reduceNeg, Int.reduceBEq, Int.reduceBNe, m1, m2, stl, wr, rd, aRet, aRes, aRes1, toCells, Nat.reduceLeDiff, Nat.reduceMul])
      refine ⟨?_, hs⟩
      congr 1
      congr 1
      simp_all [shapeP, fieldsP, fitsP]
      try omega
    · (try simp only [w1, w2, AV.isTup, AV.cells, ↓reduceIte, Nat.reduceEqDiff, Nat.reduceAdd, Int.reduceLT, Int.reduceLE, Int.reduceNeg, Int.reduceBEq, Int.reduceBNe, m1, m2, stl, wr, rd, aRet, aRes, aRes1, toCells, Nat.reduceLeDiff, Nat.reduceMul])
      cases hB : (B == 0)
      · (try simp only [w1, w2, AV.isTup, AV.cells, ↓reduceIte, Nat.reduceEqDiff, Nat.reduceAdd, Int.reduceLT, Int.reduceLE, Int.reduceNeg, Int.reduceBEq, Int.reduceBNe, m1, m2, stl, wr, rd, aRet, aRes, aRes1, toCells, Nat.reduceLeDiff, Nat.reduceMul])
        refine ⟨?_, hs⟩
        congr 1
        congr 1
        simp_all [shapeP, fieldsP, fitsP]
        try omega
      · (try simp only [w1, w2, AV.isTup, AV.cells, ↓reduceIte, Nat.reduceEqDiff, Nat.reduceAdd, Int.reduceLT, Int.reduceLE, Int.reduceNeg, Int.reduceBEq, Int.reduceBNe, m1, m2, stl, wr, rd, aRet, aRes, aRes1, toCells, Nat.reduceLeDiff, Nat.reduceMul])
        cases hN : (N == 0)
        · (try simp only [w1, w2, AV.isTup, AV.cells, ↓reduceIte, Nat.reduceEqDiff, Nat.reduceAdd, Int.reduceLT, Int.reduceLE, Int.reduceNeg, Int.reduceBEq, Int.reduceBNe, m1, m2, stl, wr, rd, aRet, aRes, aRes1, toCells, Nat.reduceLeDiff, Nat.reduceMul])
          refine ⟨?_, hs⟩
          congr 1
          congr 1
          simp_all [shapeP, fieldsP, fitsP]
          try omega
        · (try simp only [w1, w2, AV.isTup, AV.cells, ↓reduceIte, Nat.reduceEqDiff, Nat.reduceAdd, Int.reduceLT, Int.reduceLE, Int.reduceNeg, Int.reduceBEq, Int.reduceBNe, m1, m2, stl, wr, rd, aRet, aRes, aRes1, toCells, Nat.reduceLeDiff, Nat.reduceMul])
          cases hZ : decide (Z ≥ 0)
          · (try simp only [w1, w2, AV.isTup, AV.cells, ↓reduceIte, Nat.reduceEqDiff, Nat.reduceAdd, Int.reduceLT, Int.reduceLE, Int.reduceNeg, Int.reduceBEq, Int.reduceBNe, m1, m2, stl, wr, rd, aRet, aRes, aRes1, toCells, Nat.reduceLeDiff, Nat.reduceMul])
            refine ⟨?_, hs⟩
            congr 1
            congr 1
            simp_all [shapeP, fieldsP, fitsP]
            try omega
          · (try simp only [w1, w2, AV.isTup, AV.cells, ↓reduceIte, Nat.reduceEqDiff, Nat.reduceAdd, Int.reduceLT, Int.reduceLE, Int.reduceNeg, Int.reduceBEq, Int.reduceBNe, m1, m2, stl, wr, rd, aRet, aRes, aRes1, toCells, Nat.reduceLeDiff, Nat.reduceMul])
            refine ⟨?_, hs⟩
            congr 1
            congr 1
            simp_all [shapeP, fieldsP, fitsP]
            try omega
  · -- 14
    simp only [w1, w2, AV.isTup, AV.cells, ↓reduceIte, Nat.reduceEqDiff, Nat.reduceAdd, Int.reduceLT, Int.reduceLE, Int.reduceNeg, Int.reduceBEq, Int.reduceBNe, m1, m2, stl, wr, rd, aRet, aRes, aRes1, toCells, Nat.reduceLeDiff, Nat.reduceMul]
    refine R_calls rfl (by simp only [w1, w2, AV.isTup, AV.cells, ↓reduceIte, Nat.reduceEqDiff, Nat.reduceAdd, Int.reduceLT, Int.reduceLE, Int.reduceNeg, Int.reduceBEq, Int.reduceBNe]; exact l1reg_ok _ _) ?_
    rintro v μ' ⟨rfl, rfl⟩
    simp only [w1, w2, AV.isTup, AV.cells, ↓reduceIte, Nat.reduceEqDiff, Nat.reduceAdd, Int.reduceLT, Int.reduceLE, Int.reduceNeg, Int.reduceBEq, Int.reduceBNe, m1, m2, stl, wr, rd, aRet, aRes, aRes1, toCells, Nat.reduceLeDiff, Nat.reduceMul]
    cases hA : regP A
    · (try simp only [w1, w2, AV.isTup, AV.cells, ↓reduceIte, Nat.reduceEqDiff, Nat.reduceAdd, Int.reduceLT, Int.reduceLE, Int.reduceNeg, Int.reduceBEq, Int.reduceBNe, m1, m2, stl, wr, rd, aRet, aRes, aRes1, toCells, Nat.reduceLeDiff, Nat.reduceMul])
      refine ⟨?_, hs⟩
      congr 1
      congr 1
      simp_all [shapeP, fieldsP, fitsP]
      try omega
    · (try simp only [w1, w2, AV.isTup, AV.cells, ↓reduceIte, Nat.reduceEqDiff, Nat.reduceAdd, Int.reduceLT, Int.reduceLE, Int.reduceNeg, Int.reduceBEq, Int.reduceBNe, m1, m2, stl, wr, rd, aRet, aRes, aRes1, toCells, Nat.reduceLeDiff, Nat.reduceMul])
      cases hB : (B == 0)
      · (try simp only [w1, w2, AV.isTup, AV.cells, ↓reduceIte, Nat.reduceEqDiff, Nat.reduceAdd, Int.reduceLT, Int.reduceLE, Int.reduceNeg, Int.reduceBEq, Int.reduceBNe, m1, m2, stl, wr, rd, aRet, aRes, aRes1, toCells, Nat.reduceLeDiff, Nat.reduceMul])
        refine ⟨?_, hs⟩
        congr 1
        congr 1
        simp_all [shapeP, fieldsP, fitsP]
        try omega
      · (try simp only [w1, w2, AV.isTup, AV.cells, ↓reduceIte, Nat.reduceEqDiff, Nat.reduceAdd, Int.reduceLT, Int.reduceLE, Int.reduceNeg, Int.reduceBEq, Int.reduceBNe, m1, m2, stl, wr, rd, aRet, aRes, aRes1, toCells, Nat.reduceLeDiff, Nat.reduceMul])
        cases hN : (N == 0)
        · (try simp only [w1, w2, AV.isTup, AV.cells, ↓reduceIte, Nat.reduceEqDiff, Nat.reduceAdd, Int.reduceLT, Int.reduceLE, Int.reduceNeg, Int.reduceBEq, Int.reduceBNe, m1, m2, stl, wr, rd, aRet, aRes, aRes1, toCells, Nat.reduceLeDiff, Nat.reduceMul])
          refine ⟨?_, hs⟩
          congr 1
          congr 1
          simp_all [shapeP, fieldsP, fitsP]
          try omega
        · (try simp only [w1, w2, AV.isTup, AV.cells, ↓reduceIte, Nat.reduceEqDiff, Nat.reduceAdd, Int.reduceLT, Int.reduceLE, Int.reduceNeg, Int.reduceBEq, Int.reduceBNe, m1, m2, stl, wr, rd, aRet, aRes, aRes1, toCells, Nat.reduceLeDiff, Nat.reduceMul])
          cases hZ : decide (Z ≥ 0)
          · (try simp only [w1, w2, AV.isTup, AV.cells, ↓reduceIte, Nat.reduceEqDiff, Nat.reduceAdd, Int.reduceLT, Int.reduceLE, Int.reduceNeg, Int.reduceBEq, Int.reduceBNe, m1, m2, stl, wr, rd, aRet, aRes, aRes1, toCells, Nat.reduceLeDiff, Nat.reduceMul])
            refine ⟨?_, hs⟩
            congr 1
            congr 1
            simp_all [shapeP, fieldsP, fitsP]
            try omega
          · (try simp only [w1, w2, AV.isTup, AV.cells, ↓reduceIte, Nat.reduceEqDiff, Nat.reduceAdd, Int.reduceLT, Int.reduceLE, Int.reduceNeg, Int.reduceBEq, Int.reduceBNe, m1, m2, stl, wr, rd, aRet, aRes, aRes1, toCells, Nat.reduceLeDiff, Nat.reduceMul])
            refine ⟨?_, hs⟩
            congr 1
            congr 1
            simp_all [shapeP, fieldsP, fitsP]
            try omega
  · -- 15
    simp only [w1, w2, AV.isTup, AV.cells, ↓reduceIte, Nat.reduceEqDiff, Nat.reduceAdd, Int.reduceLT, Int.reduceLE, Int.reduceNeg, Int.reduceBEq, Int.reduceBNe, m1, m2, stl, wr, rd, aRet, aRes, aRes1, toCells, Nat.reduceLeDiff, Nat.reduceMul]
    refine R_calls rfl (by simp only [w1, w2, AV.isTup, AV.cells, ↓reduceIte, Nat.reduceEqDiff, Nat.reduceAdd, Int.reduceLT, Int.reduceLE, Int.reduceNeg, Int.reduceBEq, Int.reduceBNe]; exact l1reg_ok _ _) ?_
    rintro v μ' ⟨rfl, rfl⟩
    simp only [w1, w2, AV.isTup, AV.cells, ↓reduceIte, Nat.reduceEqDiff, Nat.reduceAdd, Int.reduceLT, Int.reduceLE, Int.reduceNeg, Int.reduceBEq, Int.reduceBNe, m1, m2, stl, wr, rd, aRet, aRes, aRes1, toCells, Nat.reduceLeDiff, Nat.reduceMul]
    cases hA : regP A
    · (try simp only [w1, w2, AV.isTup, AV.cells, ↓reduceIte, Nat.reduceEqDiff, Nat.reduceAdd, Int.reduceLT, Int.reduceLE, Int.reduceNeg, Int.reduceBEq, Int.reduceBNe, m1, m2, stl, wr, rd, aRet, aRes, aRes1, toCells, Nat.reduceLeDiff, Nat.reduceMul])
      refine ⟨?_, hs⟩
      congr 1
      congr 1
      simp_all [shapeP, fieldsP, fitsP]
      try omega
    · (try simp only [w1, w2, AV.isTup, AV.cells, ↓reduceIte, Nat.reduceEqDiff, Nat.reduceAdd, Int.reduceLT, Int.reduceLE, Int.reduceNeg, Int.reduceBEq, Int.reduceBNe, m1, m2, stl, wr, rd, aRet, aRes, aRes1, toCells, Nat.reduceLeDiff, Nat.reduceMul])
      cases hB : (B == 0)
      · (try simp only [w1, w2, AV.isTup, AV.cells, ↓reduceIte, Nat.reduceEqDiff, Nat.reduceAdd, Int.reduceLT, Int.reduceLE, Int.reduceNeg, Int.reduceBEq, Int.reduceBNe, m1, m2, stl, wr, rd, aRet, aRes, aRes1, toCells, Nat.reduceLeDiff, Nat.reduceMul])
        refine ⟨?_, hs⟩
        congr 1
        congr 1
        simp_all [shapeP, fieldsP, fitsP]
        try omega
      · (try simp only [w1, w2, AV.isTup, AV.cells, ↓reduceIte, Nat.reduceEqDiff, Nat.reduceAdd, Int.reduceLT, Int.reduceLE, Int.reduceNeg, Int.reduceBEq, Int.reduceBNe, m1, m2, stl, wr, rd, aRet, aRes, aRes1, toCells, Nat.reduceLeDiff, Nat.reduceMul])
        cases hN : (N == 0)
        · (try simp only [w1, w2, AV.isTup, AV.cells, ↓reduceIte, Nat.reduceEqDiff, Nat.reduceAdd, Int.reduceLT, Int.reduceLE, Int.reduceNeg, Int.reduceBEq, Int.reduceBNe, m1, m2, stl, wr, rd, aRet, aRes, aRes1, toCells, Nat.reduceLeDiff, Nat.reduceMul])
          refine ⟨?_, hs⟩
          congr 1
          congr 1
          simp_all [shapeP, fieldsP, fitsP]
          try omega
        · (try simp only [w1, w2, AV.isTup, AV.cells, ↓reduceIte, Nat.reduceEqDiff, Nat.reduceAdd, Int.reduceLT, Int.reduceLE, Int.reduceNeg, Int.reduceBEq, Int.reduceBNe, m1, m2, stl, wr, rd, aRet, aRes, aRes1, toCells, Nat.reduceLeDiff, Nat.reduceMul])
          cases hZ : decide (Z ≥ 0)
          · (try simp only [w1, w2, AV.isTup, AV.cells, ↓reduceIte, Nat.reduceEqDiff, Nat.reduceAdd, Int.reduceLT, Int.reduceLE, Int.reduceNeg, Int.reduceBEq, Int.reduceBNe, m1, m2, stl, wr, rd, aRet, aRes, aRes1, toCells, Nat.reduceLeDiff, Nat.reduceMul])
            refine ⟨?_, hs⟩
            congr 1
            congr 1
            simp_all [shapeP, fieldsP, fitsP]
            try omega
          · (try simp only [w1, w2, AV.isTup, AV.cells, ↓reduceIte, Nat.reduceEqDiff, Nat.reduceAdd, Int.reduceLT, Int.reduceLE, Int.reduceNeg, Int.reduceBEq, Int.reduceBNe, m1, m2, stl, wr, rd, aRet, aRes, aRes1, toCells, Nat.reduceLeDiff, Nat.reduceMul])
            refine ⟨?_, hs⟩
            congr 1
            congr 1
            simp_all [shapeP, fieldsP, fitsP]
            try omega

end Go.Proofs.Ytibmnlijoeppaaa
