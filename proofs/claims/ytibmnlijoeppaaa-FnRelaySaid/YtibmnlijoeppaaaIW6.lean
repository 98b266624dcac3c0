/-
  The program's machine: one step of a run.
-/
import Derived.Test.YtibmnlijoeppaaaIW5
namespace Go.Proofs.Ytibmnlijoeppaaa
set_option linter.unusedSimpArgs false
set_option linter.unusedVariables false

/-! 93: impl.machine).step -/
def t93 : RCode :=
 (.seq
          (.reg [⟨0, .mv (.t 2), some 65, none, []⟩,
            ⟨1, .nc (.t 65), some 66, none, []⟩,
            ⟨2, .fa (.t 66) 2, some 67, none, []⟩,
            ⟨3, .mv (.t 67), some 6, none, []⟩])
          (.seq
           (.reg [⟨0, .fa (.t 5) 0, some 68, none, []⟩,
             ⟨1, .ld none (.t 68), some 69, none, []⟩])
           (.blk 0
            (.seq
             (.reg [⟨0, .bin .eql (.t 69) (.k (.int .i64 1)), some 71, none, []⟩,
               ⟨1, .mv (.t 71), some 70, none, []⟩])
             (.ite (.t 70)
              (.reg [⟨0, .mv (.t 6), some 72, none, []⟩,
                ⟨1, .fa (.t 5) 1, some 73, none, []⟩,
                ⟨3, .fa (.t 5) 3, some 75, none, []⟩,
                ⟨5, .nc (.t 72), some 77, none, []⟩,
                ⟨2, .ld none (.t 73), some 74, none, []⟩,
                ⟨4, .ld none (.t 75), some 76, none, []⟩,
                ⟨6, .iaa (.t 77) (.t 74) 4 1, some 78, none, []⟩,
                ⟨7, .st (.t 78) (.t 76) 1, none, none, []⟩])
              (.seq
               (.reg [⟨0, .bin .eql (.t 69) (.k (.int .i64 2)), some 80, none, []⟩,
                 ⟨1, .mv (.t 80), some 79, none, []⟩])
               (.ite (.t 79)
                (.reg [⟨0, .mv (.t 6), some 81, none, []⟩,
                  ⟨1, .fa (.t 5) 1, some 82, none, []⟩,
                  ⟨3, .mv (.t 6), some 84, none, []⟩,
                  ⟨4, .fa (.t 5) 2, some 85, none, []⟩,
                  ⟨6, .nc (.t 84), some 87, none, []⟩,
                  ⟨9, .fa (.t 5) 3, some 90, none, []⟩,
                  ⟨12, .nc (.t 81), some 93, none, []⟩,
                  ⟨2, .ld none (.t 82), some 83, none, []⟩,
                  ⟨5, .ld none (.t 85), some 86, none, []⟩,
                  ⟨7, .iaa (.t 87) (.t 86) 4 1, some 88, none, []⟩,
                  ⟨8, .ld none (.t 88), some 89, none, []⟩,
                  ⟨10, .ld none (.t 90), some 91, none, []⟩,
                  ⟨11, .bin .add (.t 89) (.t 91), some 92, none, []⟩,
                  ⟨13, .iaa (.t 93) (.t 83) 4 1, some 94, none, []⟩,
                  ⟨14, .st (.t 94) (.t 92) 1, none, none, []⟩])
                (.seq
                 (.reg [⟨0, .bin .eql (.t 69) (.k (.int .i64 3)), some 96, none, []⟩,
                   ⟨1, .mv (.t 96), some 95, none, []⟩])
                 (.ite (.t 95)
                  (.reg [⟨0, .mv (.t 0), some 97, none, []⟩,
                    ⟨1, .mv (.t 6), some 98, none, []⟩,
                    ⟨2, .fa (.t 5) 1, some 99, none, []⟩,
                    ⟨4, .nc (.t 98), some 101, none, []⟩,
                    ⟨3, .ld none (.t 99), some 100, none, []⟩,
                    ⟨5, .iaa (.t 101) (.t 100) 4 1, some 102, none, []⟩,
                    ⟨6, .ld none (.t 102), some 103, none, []⟩,
                    ⟨7, .call 116 [.t 97, .k (.int .i64 1), .k (.int .i64 0), .t 103], some 104, none, []⟩])
                  (.seq
                   (.reg [⟨0, .bin .eql (.t 69) (.k (.int .i64 4)), some 106, none, []⟩,
                     ⟨1, .mv (.t 106), some 105, none, []⟩])
                   (.ite (.t 105)
                    (.seq
                     (.seq
                      (.reg [⟨0, .mv (.t 0), some 107, none, []⟩,
                        ⟨1, .nc (.t 107), some 108, none, []⟩,
                        ⟨2, .fa (.t 108) 3, some 109, none, []⟩,
                        ⟨3, .ld none (.t 109), some 110, none, []⟩,
                        ⟨4, .len (.t 110), some 111, none, []⟩,
                        ⟨5, .bin .eql (.t 111) (.k (.int .i64 60)), some 112, none, []⟩])
                      (.ite (.t 112)
                       (.seq
                        (.reg [⟨0, .mv (.t 0), some 113, none, []⟩,
                          ⟨1, .call 117 [.t 113, .k (.int .i64 (-10))], some 114, none, []⟩])
                        .ret)
                       .skip))
                     (.reg [⟨0, .mv (.t 6), some 115, none, []⟩,
                       ⟨1, .fa (.t 5) 1, some 116, none, []⟩,
                       ⟨3, .mv (.t 0), some 118, none, []⟩,
                       ⟨4, .fa (.t 5) 2, some 119, none, []⟩,
                       ⟨7, .nc (.t 115), some 122, none, []⟩,
                       ⟨2, .ld none (.t 116), some 117, none, []⟩,
                       ⟨5, .ld none (.t 119), some 120, none, []⟩,
                       ⟨6, .call 91 [.t 118, .t 120], some 121, none, [.ld 117 none (.t 116)]⟩,
                       ⟨8, .iaa (.t 122) (.t 117) 4 1, some 123, none, []⟩,
                       ⟨9, .st (.t 123) (.t 121) 1, none, none, []⟩]))
                    (.seq
                     (.reg [⟨0, .bin .eql (.t 69) (.k (.int .i64 5)), some 125, none, []⟩,
                       ⟨1, .mv (.t 125), some 124, none, []⟩])
                     (.ite (.t 124)
                      (.reg [⟨0, .mv (.t 0), some 126, none, []⟩,
                        ⟨1, .ld (some 5) (.t 5), some 127, none, []⟩,
                        ⟨2, .call 118 [.t 126, .t 127], some 128, none, []⟩])
                      (.seq
                       (.reg [⟨0, .bin .eql (.t 69) (.k (.int .i64 6)), some 130, none, []⟩,
                         ⟨1, .mv (.t 130), some 129, none, []⟩])
                       (.ite (.t 129)
                        (.reg [⟨0, .mv (.t 0), some 131, none, []⟩,
                          ⟨1, .ld (some 5) (.t 5), some 132, none, []⟩,
                          ⟨2, .call 119 [.t 131, .t 132], some 133, none, []⟩])
                        (.seq
                         (.reg [⟨0, .bin .eql (.t 69) (.k (.int .i64 7)), some 135, none, []⟩,
                           ⟨1, .mv (.t 135), some 134, none, []⟩])
                         (.ite (.t 134)
                          (.reg [⟨0, .mv (.t 0), some 136, none, []⟩,
                            ⟨1, .ld (some 5) (.t 5), some 137, none, []⟩,
                            ⟨2, .call 120 [.t 136, .t 137], some 138, none, []⟩])
                          (.seq
                           (.reg [⟨0, .bin .eql (.t 69) (.k (.int .i64 8)), some 140, none, []⟩,
                             ⟨1, .mv (.t 140), some 139, none, []⟩])
                           (.ite (.t 139)
                            (.seq
                             (.seq
                              (.reg [⟨0, .mv (.t 0), some 141, none, []⟩,
                                ⟨1, .mv (.t 6), some 142, none, []⟩,
                                ⟨2, .fa (.t 5) 2, some 143, none, []⟩,
                                ⟨4, .nc (.t 142), some 145, none, []⟩,
                                ⟨3, .ld none (.t 143), some 144, none, []⟩,
                                ⟨5, .iaa (.t 145) (.t 144) 4 1, some 146, none, []⟩,
                                ⟨6, .ld none (.t 146), some 147, none, []⟩,
                                ⟨7, .call 121 [.t 141, .t 147], some 148, none, []⟩,
                                ⟨8, .mv (.t 148), some 7, none, []⟩])
                              (.seq
                               (.reg [⟨0, .mv (.t 7), some 149, none, []⟩,
                                 ⟨1, .eq true .ptr (.t 149) (.k (.ptr none)), some 150, none, []⟩])
                               (.ite (.t 150)
                                (.seq
                                 (.reg [⟨0, .mv (.t 6), some 151, none, []⟩,
                                   ⟨1, .fa (.t 5) 1, some 152, none, []⟩,
                                   ⟨3, .mv (.t 7), some 154, none, []⟩,
                                   ⟨4, .nc (.t 154), some 155, none, []⟩,
                                   ⟨5, .fa (.t 155) 1, some 156, none, []⟩,
                                   ⟨7, .nc (.t 151), some 158, none, []⟩,
                                   ⟨2, .ld none (.t 152), some 153, none, []⟩,
                                   ⟨6, .ld none (.t 156), some 157, none, []⟩,
                                   ⟨8, .iaa (.t 158) (.t 153) 4 1, some 159, none, []⟩,
                                   ⟨9, .st (.t 159) (.t 157) 1, none, none, []⟩])
                                 .ret)
                                .skip)))
                             (.reg [⟨0, .mv (.t 0), some 160, none, []⟩,
                               ⟨1, .call 117 [.t 160, .k (.int .i64 (-12))], some 161, none, []⟩]))
                            (.seq
                             (.reg [⟨0, .bin .eql (.t 69) (.k (.int .i64 9)), some 163, none, []⟩,
                               ⟨1, .mv (.t 163), some 162, none, []⟩])
                             (.ite (.t 162)
                              (.reg [⟨0, .mv (.t 0), some 164, none, []⟩,
                                ⟨1, .mv (.t 6), some 165, none, []⟩,
                                ⟨2, .fa (.t 5) 1, some 166, none, []⟩,
                                ⟨4, .nc (.t 165), some 168, none, []⟩,
                                ⟨3, .ld none (.t 166), some 167, none, []⟩,
                                ⟨5, .iaa (.t 168) (.t 167) 4 1, some 169, none, []⟩,
                                ⟨6, .ld none (.t 169), some 170, none, []⟩,
                                ⟨7, .call 117 [.t 164, .t 170], some 171, none, []⟩])
                              (.seq
                               (.reg [⟨0, .bin .eql (.t 69) (.k (.int .i64 10)), some 173, none, []⟩,
                                 ⟨1, .mv (.t 173), some 172, none, []⟩])
                               (.ite (.t 172)
                                (.reg [⟨0, .mv (.t 3), some 174, none, []⟩,
                                  ⟨1, .mv (.t 3), some 175, none, []⟩,
                                  ⟨2, .mv (.t 3), some 176, none, []⟩,
                                  ⟨3, .mv (.t 6), some 177, none, []⟩,
                                  ⟨4, .fa (.t 5) 1, some 178, none, []⟩,
                                  ⟨6, .nc (.t 177), some 180, none, []⟩,
                                  ⟨5, .ld none (.t 178), some 179, none, []⟩,
                                  ⟨7, .iaa (.t 180) (.t 179) 4 1, some 181, none, []⟩,
                                  ⟨8, .ld none (.t 181), some 182, none, []⟩,
                                  ⟨9, .nc (.t 174), some 183, none, []⟩,
                                  ⟨10, .fa (.t 183) 5, some 184, none, []⟩,
                                  ⟨11, .st (.t 184) (.k (.bool true)) 1, none, none, []⟩,
                                  ⟨12, .nc (.t 175), some 185, none, []⟩,
                                  ⟨13, .fa (.t 185) 6, some 186, none, []⟩,
                                  ⟨14, .st (.t 186) (.k (.int .i64 1)) 1, none, none, []⟩,
                                  ⟨15, .nc (.t 176), some 187, none, []⟩,
                                  ⟨16, .fa (.t 187) 7, some 188, none, []⟩,
                                  ⟨17, .st (.t 188) (.t 182) 1, none, none, []⟩])
                                (.seq
                                 (.reg [⟨0, .bin .eql (.t 69) (.k (.int .i64 13)), some 190, none, []⟩,
                                   ⟨1, .mv (.t 190), some 189, none, []⟩])
                                 (.ite (.t 189)
                                  (.seq
                                   (.reg [⟨0, .mv (.t 3), some 191, none, []⟩,
                                     ⟨1, .mv (.t 3), some 192, none, []⟩,
                                     ⟨2, .nc (.t 192), some 193, none, []⟩,
                                     ⟨3, .fa (.t 193) 4, some 194, none, []⟩,
                                     ⟨4, .ld none (.t 194), some 195, none, []⟩,
                                     ⟨5, .mv (.t 4), some 196, none, []⟩,
                                     ⟨6, .bsl [.int .i64 0] 1 [(0, .t 196)], some 197, none, []⟩,
                                     ⟨7, .app 1 8 (.t 195) (.t 197), some 198, none, []⟩,
                                     ⟨8, .nc (.t 191), some 199, none, []⟩,
                                     ⟨9, .fa (.t 199) 4, some 200, none, []⟩,
                                     ⟨10, .st (.t 200) (.t 198) 1, none, none, []⟩])
                                   (.reg [⟨0, .mv (.t 2), some 201, none, []⟩,
                                     ⟨1, .nc (.t 201), some 202, none, []⟩,
                                     ⟨2, .fa (.t 202) 16, some 203, none, []⟩,
                                     ⟨3, .ld none (.t 203), some 204, none, []⟩,
                                     ⟨4, .bin .add (.t 204) (.k (.int .i64 1)), some 205, none, []⟩,
                                     ⟨5, .nc (.t 201), some 206, none, []⟩,
                                     ⟨6, .fa (.t 206) 16, some 207, none, []⟩,
                                     ⟨7, .st (.t 207) (.t 205) 1, none, none, []⟩]))
                                  (.seq
                                   (.reg [⟨0, .bin .eql (.t 69) (.k (.int .i64 14)), some 209, none, []⟩,
                                     ⟨1, .mv (.t 209), some 208, none, []⟩])
                                   (.ite (.t 208)
                                    (.reg [⟨0, .mv (.t 0), some 210, none, []⟩,
                                      ⟨1, .mv (.t 2), some 211, none, []⟩,
                                      ⟨2, .mv (.t 4), some 212, none, []⟩,
                                      ⟨3, .call 122 [.t 210, .t 211, .t 212], some 213, none, []⟩])
                                    (.seq
                                     (.seq
                                      (.reg [⟨0, .bin .eql (.t 69) (.k (.int .i64 11)), some 215, none, []⟩,
                                        ⟨1, .mv (.t 215), some 214, none, []⟩])
                                      (.ite (.t 214)
                                       .skip
                                       (.reg [⟨0, .bin .eql (.t 69) (.k (.int .i64 12)), some 216, none, []⟩,
                                         ⟨1, .mv (.t 216), some 214, none, []⟩])))
                                     (.ite (.t 214)
                                      (.reg [⟨0, .mv (.t 2), some 217, none, []⟩,
                                        ⟨1, .mv (.t 2), some 218, none, []⟩,
                                        ⟨2, .nc (.t 218), some 219, none, []⟩,
                                        ⟨3, .fa (.t 219) 12, some 220, none, []⟩,
                                        ⟨5, .fa (.t 5) 0, some 222, none, []⟩,
                                        ⟨7, .mv (.t 4), some 224, none, []⟩,
                                        ⟨8, .mv (.t 4), some 225, none, []⟩,
                                        ⟨9, .bin .add (.t 225) (.k (.int .i64 1)), some 226, none, []⟩,
                                        ⟨10, .mv (.t 4), some 227, none, []⟩,
                                        ⟨11, .bin .add (.t 227) (.k (.int .i64 1)), some 228, none, []⟩,
                                        ⟨12, .fa (.t 5) 4, some 229, none, []⟩,
                                        ⟨4, .ld none (.t 220), some 221, none, []⟩,
                                        ⟨6, .ld none (.t 222), some 223, none, []⟩,
                                        ⟨13, .ld none (.t 229), some 230, none, []⟩,
                                        ⟨14, .bin .add (.t 228) (.t 230), some 231, none, []⟩,
                                        ⟨15, .bld [.int .i64 0, .int .i64 0, .int .i64 0, .int .i64 0, .slc none 0 0, .bool false, .int .i64 0, .int .i64 0] [(0, 1, .t 223), (1, 1, .t 224), (2, 1, .t 226), (3, 1, .t 231)], some 232, none, []⟩,
                                        ⟨16, .bsl [.int .i64 0, .int .i64 0, .int .i64 0, .int .i64 0, .slc none 0 0, .bool false, .int .i64 0, .int .i64 0] 1 [(0, .t 232)], some 233, none, []⟩,
                                        ⟨17, .app 8 80 (.t 221) (.t 233), some 234, none, []⟩,
                                        ⟨18, .nc (.t 217), some 235, none, []⟩,
                                        ⟨19, .fa (.t 235) 12, some 236, none, []⟩,
                                        ⟨20, .st (.t 236) (.t 234) 1, none, none, []⟩])
                                      (.seq
                                       (.reg [⟨0, .bin .eql (.t 69) (.k (.int .i64 15)), some 238, none, []⟩,
                                         ⟨1, .mv (.t 238), some 237, none, []⟩])
                                       (.ite (.t 237)
                                        (.seq
                                         (.reg [⟨0, .mv (.t 6), some 239, none, []⟩,
                                           ⟨1, .fa (.t 5) 1, some 240, none, []⟩,
                                           ⟨3, .nc (.t 239), some 242, none, []⟩,
                                           ⟨2, .ld none (.t 240), some 241, none, []⟩,
                                           ⟨4, .iaa (.t 242) (.t 241) 4 1, some 243, none, []⟩,
                                           ⟨5, .ld none (.t 243), some 244, none, []⟩,
                                           ⟨6, .bin .neq (.t 244) (.k (.int .i64 0)), some 245, none, []⟩])
                                         (.ite (.t 245)
                                          (.reg [⟨0, .mv (.t 2), some 246, none, []⟩,
                                            ⟨1, .mv (.t 2), some 247, none, []⟩,
                                            ⟨2, .nc (.t 247), some 248, none, []⟩,
                                            ⟨3, .fa (.t 248) 12, some 249, none, []⟩,
                                            ⟨5, .fa (.t 5) 0, some 251, none, []⟩,
                                            ⟨7, .mv (.t 4), some 253, none, []⟩,
                                            ⟨8, .mv (.t 4), some 254, none, []⟩,
                                            ⟨9, .bin .add (.t 254) (.k (.int .i64 1)), some 255, none, []⟩,
                                            ⟨10, .mv (.t 4), some 256, none, []⟩,
                                            ⟨11, .bin .add (.t 256) (.k (.int .i64 1)), some 257, none, []⟩,
                                            ⟨12, .fa (.t 5) 4, some 258, none, []⟩,
                                            ⟨4, .ld none (.t 249), some 250, none, []⟩,
                                            ⟨6, .ld none (.t 251), some 252, none, []⟩,
                                            ⟨13, .ld none (.t 258), some 259, none, []⟩,
                                            ⟨14, .bin .add (.t 257) (.t 259), some 260, none, []⟩,
                                            ⟨15, .bld [.int .i64 0, .int .i64 0, .int .i64 0, .int .i64 0, .slc none 0 0, .bool false, .int .i64 0, .int .i64 0] [(0, 1, .t 252), (1, 1, .t 253), (2, 1, .t 255), (3, 1, .t 260)], some 261, none, []⟩,
                                            ⟨16, .bsl [.int .i64 0, .int .i64 0, .int .i64 0, .int .i64 0, .slc none 0 0, .bool false, .int .i64 0, .int .i64 0] 1 [(0, .t 261)], some 262, none, []⟩,
                                            ⟨17, .app 8 80 (.t 250) (.t 262), some 263, none, []⟩,
                                            ⟨18, .nc (.t 246), some 264, none, []⟩,
                                            ⟨19, .fa (.t 264) 12, some 265, none, []⟩,
                                            ⟨20, .st (.t 265) (.t 263) 1, none, none, []⟩])
                                          .skip))
                                        .skip)))))))))))))))))))))))))))))))
def u93 : RCode :=
 (.seq
         (.reg [⟨0, .mv (.t 3), some 55, none, []⟩,
           ⟨1, .nc (.t 55), some 56, none, []⟩,
           ⟨2, .fa (.t 56) 2, some 57, none, []⟩,
           ⟨4, .fa (.t 5) 4, some 59, none, []⟩,
           ⟨3, .ld none (.t 57), some 58, none, []⟩,
           ⟨5, .ld none (.t 59), some 60, none, []⟩,
           ⟨6, .bin .add (.k (.int .i64 1)) (.t 60), some 61, none, []⟩,
           ⟨7, .bin .add (.t 58) (.t 61), some 62, none, []⟩,
           ⟨8, .nc (.t 55), some 63, none, []⟩,
           ⟨9, .fa (.t 63) 2, some 64, none, []⟩,
           ⟨10, .st (.t 64) (.t 62) 1, none, none, []⟩])
         t93)
def r93 : RFun := ⟨266, [],
 (.seq
  (.reg [⟨0, .mv (.t 0), some 8, none, []⟩,
    ⟨1, .call 112 [.t 8], some 9, none, []⟩,
    ⟨2, .mv (.t 9), some 2, none, []⟩])
  (.seq
   (.reg [⟨0, .mv (.t 2), some 10, none, []⟩,
     ⟨1, .call 113 [.t 10], some 11, none, []⟩,
     ⟨2, .mv (.t 11), some 3, none, []⟩])
   (.seq
    (.seq
     (.reg [⟨0, .mv (.t 3), some 12, none, []⟩,
       ⟨1, .nc (.t 12), some 13, none, []⟩,
       ⟨2, .fa (.t 13) 5, some 14, none, []⟩,
       ⟨3, .ld none (.t 14), some 15, none, []⟩,
       ⟨4, .nt (.t 15), some 16, none, []⟩,
       ⟨5, .mv (.t 16), some 17, none, []⟩,
       ⟨6, .mv (.t 3), some 18, some (17, true), []⟩,
       ⟨7, .nc (.t 18), some 19, some (17, true), []⟩,
       ⟨8, .fa (.t 19) 2, some 20, some (17, true), []⟩,
       ⟨10, .mv (.t 3), some 22, some (17, true), []⟩,
       ⟨11, .nc (.t 22), some 23, some (17, true), []⟩,
       ⟨12, .fa (.t 23) 3, some 24, some (17, true), []⟩,
       ⟨9, .ld none (.t 20), some 21, some (17, true), []⟩,
       ⟨13, .ld none (.t 24), some 25, some (17, true), []⟩,
       ⟨14, .bin .eql (.t 21) (.t 25), some 26, some (17, true), []⟩,
       ⟨15, .pick (.t 17) (.t 26) (.k (.bool false)), some 27, none, []⟩])
     (.ite (.t 27)
      (.reg [⟨0, .mv (.t 3), some 28, none, []⟩,
        ⟨1, .nc (.t 28), some 29, none, []⟩,
        ⟨2, .fa (.t 29) 5, some 30, none, []⟩,
        ⟨3, .st (.t 30) (.k (.bool true)) 1, none, none, []⟩])
      .skip))
    (.seq
     (.seq
      (.reg [⟨0, .mv (.t 3), some 31, none, []⟩,
        ⟨1, .nc (.t 31), some 32, none, []⟩,
        ⟨2, .fa (.t 32) 5, some 33, none, []⟩,
        ⟨3, .ld none (.t 33), some 34, none, []⟩])
      (.ite (.t 34)
       (.seq
        (.reg [⟨0, .mv (.t 0), some 35, none, []⟩,
          ⟨1, .call 114 [.t 35], some 36, none, []⟩])
        .ret)
       .skip))
     (.seq
      (.reg [⟨0, .mv (.t 3), some 37, none, []⟩,
        ⟨1, .nc (.t 37), some 38, none, []⟩,
        ⟨2, .fa (.t 38) 2, some 39, none, []⟩,
        ⟨3, .ld none (.t 39), some 40, none, []⟩,
        ⟨4, .mv (.t 40), some 4, none, []⟩])
      (.seq
       (.reg [⟨0, .mv (.t 0), some 41, none, []⟩,
         ⟨1, .mv (.t 2), some 42, none, []⟩,
         ⟨2, .call 111 [.t 41, .t 42], some 43, none, []⟩,
         ⟨3, .mv (.t 4), some 44, none, []⟩,
         ⟨4, .ias (.t 43) (.t 44) 5, some 45, none, []⟩,
         ⟨5, .ld (some 5) (.t 45), some 46, none, []⟩,
         ⟨6, .alc [.int .i64 0, .int .i64 0, .int .i64 0, .int .i64 0, .int .i64 0], some 5, none, []⟩,
         ⟨7, .st (.t 5) (.t 46) 5, none, none, []⟩])
       (.seq
        (.seq
         (.reg [⟨0, .fa (.t 5) 0, some 47, none, []⟩,
           ⟨1, .ld none (.t 47), some 48, none, []⟩,
           ⟨2, .bin .neq (.t 48) (.k (.int .i64 14)), some 49, none, []⟩,
           ⟨3, .mv (.t 49), some 50, none, []⟩,
           ⟨4, .mv (.t 0), some 51, some (50, true), []⟩,
           ⟨5, .call 115 [.t 51], some 52, some (50, true), []⟩,
           ⟨6, .nt (.t 52), some 53, some (50, true), []⟩,
           ⟨7, .pick (.t 50) (.t 53) (.k (.bool false)), some 54, none, []⟩])
         (.ite (.t 54)
          .ret
          .skip))
        u93)))))))⟩
theorem p93 : prog 93 = some r93 := by kernel_rfl



section
variable {E : IEnv} {L L' : Lay IR} {S S' : PM} {μ μ' : Mem}

theorem push_case (h : Rep E L S μ) {k : Nat} (hk : S.run = k) {t t' : PTk} (hget : S.tasks[k]? = some t) {op hd size : Int} (hp : t.push (block op hd size) = some t') :
    ∃ (L' : Lay IR) (μ1 μ2 : Mem), aapp 8 80 (.c (L.sc (.frames k) t.frames.length)) (.c (.slc (some (μ.next, 0)) 1 1)) (μ.new [.int .i64 op, .int .i64 hd, .int .i64 (IntKind.i64.wrap (hd + 1)), .int .i64 (IntKind.i64.wrap (IntKind.i64.wrap (hd + 1) + size)), .slc none 0 0, .bool false, .int .i64 0, .int .i64 0] 8) =
      some (.c (L'.sc (.frames k) (t.frames.length + 1)), μ1) ∧ μ1.st (L.id (.task k)) 12 [L'.sc (.frames k) (t.frames.length + 1)] = some μ2 ∧ After E L S μ (S.put S.run t') μ2 := by
  unfold PTk.push at hp
  split at hp
  · rename_i hlen
    simp only [Option.some.injEq] at hp
    subst hp
    obtain ⟨L5, μ5, μ6, e6, e7, h6, s6, k6⟩ := h.push (f := block op hd size) hget rfl hlen
    rw [hk]
    exact ⟨L5, μ5, μ6, e6, e7, L5, h6, s6, k6⟩
  · cases hp

theorem act_ok (h : Rep E L S μ) (hp : E.pend = none) (hroom : S.tasks.length < roomy) {k : Nat} (hk : S.run = k) {t : PTk} {f : PFr} {r : List PFr} {x : PStep} {hd : Int} {b : Nat}
    (hget : S.tasks[k]? = some t) (hf : t.frames = f :: r) (hfl : t.frames.length < roomy) (hx : XAt μ b x) (hfree : Free L b) (hbl : b < μ.next) (hs : PM.act E.plan S t f r x hd = some S')
    {fr : Fr} {Q : Fr → Mem → Prop} (f0 : fr 0 = pt E.m 0) (f2 : fr 2 = pt (L.id (.task k)) 0) (f3 : fr 3 = pt (L.id (.frames k)) (r.length * 8)) (f4 : fr 4 = .c (.int .i64 hd)) (f5 : fr 5 = pt b 0)
    (hQ : ∀ fr μ', After E L S μ S' μ' → Q fr μ') : R [.c t93] fr μ Q := by
  have hm := h.mfacts
  have htf := h.tfacts hget
  have hx' := hx
  unfold XAt at hx'
  obtain ⟨hx0, hx1, hx2, hx3, hx4, hx5⟩ := hx'
  unfold PM.act at hs
  simp only [t93]
  simp only [w1, w2, AV.isTup, AV.cells, ↓reduceIte, Nat.reduceEqDiff, Nat.reduceAdd, Int.reduceLT, Int.reduceLE, Int.reduceNeg, Int.reduceBEq, Int.reduceBNe, f2, f5, hx0]
  by_cases h1 : x.op = 1
  · rw [if_pos h1] at hs
    obtain ⟨t', hr, hs⟩ := Option.map_eq_some_iff.1 hs
    subst hs
    obtain ⟨ha, μ1, e1, g1, k1⟩ := h.setReg hget hr
    simp only [w1, w2, AV.isTup, AV.cells, ↓reduceIte, Nat.reduceEqDiff, Nat.reduceAdd, Int.reduceLT, Int.reduceLE, Int.reduceNeg, Int.reduceBEq, Int.reduceBNe, h1, f5, hx1, hx3, viaa_in ha, e1]
    exact hQ _ _ ⟨L, by rw [hk]; exact g1, Stay.refl, k1⟩
  rw [if_neg h1] at hs
  simp only [w1, w2, AV.isTup, AV.cells, ↓reduceIte, Nat.reduceEqDiff, Nat.reduceAdd, Int.reduceLT, Int.reduceLE, Int.reduceNeg, Int.reduceBEq, Int.reduceBNe, beq_ff h1]
  by_cases h2 : x.op = 2
  · rw [if_pos h2] at hs
    obtain ⟨v, hv, hs⟩ := Option.bind_eq_some_iff.1 hs
    obtain ⟨t', hr, hs⟩ := Option.map_eq_some_iff.1 hs
    subst hs
    obtain ⟨hb, l1⟩ := h.ldreg hget hv
    obtain ⟨ha, μ1, e1, g1, k1⟩ := h.setReg hget hr
    unfold wr64 at e1
    simp only [w1, w2, AV.isTup, AV.cells, ↓reduceIte, Nat.reduceEqDiff, Nat.reduceAdd, Int.reduceLT, Int.reduceLE, Int.reduceNeg, Int.reduceBEq, Int.reduceBNe, h2, f5, hx1, hx2, hx3, viaa_in ha, viaa_in hb, l1, e1]
    exact hQ _ _ ⟨L, by rw [hk]; exact g1, Stay.refl, k1⟩
  rw [if_neg h2] at hs
  simp only [w1, w2, AV.isTup, AV.cells, ↓reduceIte, Nat.reduceEqDiff, Nat.reduceAdd, Int.reduceLT, Int.reduceLE, Int.reduceNeg, Int.reduceBEq, Int.reduceBNe, beq_ff h2]
  by_cases h3 : x.op = 3
  · rw [if_pos h3] at hs
    obtain ⟨v, hv, hs⟩ := Option.bind_eq_some_iff.1 hs
    obtain ⟨hb, l1⟩ := h.ldreg hget hv
    simp only [w1, w2, AV.isTup, AV.cells, ↓reduceIte, Nat.reduceEqDiff, Nat.reduceAdd, Int.reduceLT, Int.reduceLE, Int.reduceNeg, Int.reduceBEq, Int.reduceBNe, h3, f0, f5, hx1, viaa_in hb, l1]
    refine R_calls (l := [pt E.m 0, .c (.int .i64 1), .c (.int .i64 0), .c (.int .i64 v)]) (by simp only [w1, w2, AV.isTup, AV.cells, ↓reduceIte, Nat.reduceEqDiff, Nat.reduceAdd, Int.reduceLT, Int.reduceLE, Int.reduceNeg, Int.reduceBEq, Int.reduceBNe, f0]) (tell_ok h hs) ?_
    rintro v' μ1 ha
    simp only [w1, w2, AV.isTup, AV.cells, ↓reduceIte, Nat.reduceEqDiff, Nat.reduceAdd, Int.reduceLT, Int.reduceLE, Int.reduceNeg, Int.reduceBEq, Int.reduceBNe]
    exact hQ _ _ ha
  rw [if_neg h3] at hs
  simp only [w1, w2, AV.isTup, AV.cells, ↓reduceIte, Nat.reduceEqDiff, Nat.reduceAdd, Int.reduceLT, Int.reduceLE, Int.reduceNeg, Int.reduceBEq, Int.reduceBNe, beq_ff h3]
  by_cases h4 : x.op = 4
  · rw [if_pos h4] at hs
    obtain ⟨ta, tc, hts⟩ := h.has.scf (r := .tasks) (sz := 1) (n := S.tasks.length) (cs := cat (trow L) 0 S.tasks) rfl (by rw [cat_length (trow_len L)]) (by omega)
    rw [hts] at hm
    simp only [w1, w2, AV.isTup, AV.cells, ↓reduceIte, Nat.reduceEqDiff, Nat.reduceAdd, Int.reduceLT, Int.reduceLE, Int.reduceNeg, Int.reduceBEq, Int.reduceBNe, h4, f0, hm]
    by_cases hl : S.tasks.length = 60
    · rw [if_pos hl] at hs
      have hlb : ((S.tasks.length : Int) == 60) = true := beq_tt (by omega)
      simp only [w1, w2, AV.isTup, AV.cells, ↓reduceIte, Nat.reduceEqDiff, Nat.reduceAdd, Int.reduceLT, Int.reduceLE, Int.reduceNeg, Int.reduceBEq, Int.reduceBNe, hlb, f0]
      refine R_calls (l := [pt E.m 0, .c (.int .i64 (-10))]) (by simp only [w1, w2, AV.isTup, AV.cells, ↓reduceIte, Nat.reduceEqDiff, Nat.reduceAdd, Int.reduceLT, Int.reduceLE, Int.reduceNeg, Int.reduceBEq, Int.reduceBNe, f0]) (fail_ok h hs) ?_
      rintro v' μ1 ha
      simp only [w1, w2, AV.isTup, AV.cells, ↓reduceIte, Nat.reduceEqDiff, Nat.reduceAdd, Int.reduceLT, Int.reduceLE, Int.reduceNeg, Int.reduceBEq, Int.reduceBNe]
      exact hQ _ _ ha
    · rw [if_neg hl] at hs
      have hlb : ((S.tasks.length : Int) == 60) = false := beq_ff (by omega)
      obtain ⟨S1, hc, hs1⟩ := Option.bind_eq_some_iff.1 hs
      obtain ⟨t', hr, hs2⟩ := Option.map_eq_some_iff.1 hs1
      subst hs2
      simp only [w1, w2, AV.isTup, AV.cells, ↓reduceIte, Nat.reduceEqDiff, Nat.reduceAdd, Int.reduceLT, Int.reduceLE, Int.reduceNeg, Int.reduceBEq, Int.reduceBNe, hlb, f0, f5, hx1, hx2]
      refine R_callre (l := [pt E.m 0, .c (.int .i64 x.b)]) (by simp only [w1, w2, AV.isTup, AV.cells, ↓reduceIte, Nat.reduceEqDiff, Nat.reduceAdd, Int.reduceLT, Int.reduceLE, Int.reduceNeg, Int.reduceBEq, Int.reduceBNe, f0]) (create_ok h hc) ?_
      rintro v μ1 ⟨rfl, L1, g1, s1, k1⟩
      refine ⟨by simp only [List.all_cons, List.all_nil, Bool.and_true, Re.holds, w1, w2, AV.isTup, AV.cells, ↓reduceIte, Nat.reduceEqDiff, Nat.reduceAdd, Int.reduceLT, Int.reduceLE, Int.reduceNeg, Int.reduceBEq, Int.reduceBNe, f5, (k1.ld hbl hfree).trans hx1, beq_self_eq_true], ?_⟩
      have hg1 : S1.tasks[k]? = some t := by
        rw [PM.create, if_pos hroom] at hc
        simp only [Option.some.injEq] at hc
        rw [← hc]
        show (S.tasks ++ _)[k]? = some t
        rw [List.getElem?_append_left (List.getElem?_eq_some_iff.1 hget).1]; exact hget
      have hwr : wr64 (S.tasks.length : Int) = S.tasks.length := by unfold wr64; unfold roomy at hroom; rw [small (by omega)]
      rw [hwr] at hr
      obtain ⟨ha, μ2, e2, g2, k2⟩ := g1.setReg hg1 hr
      rw [s1.2 k (List.getElem?_eq_some_iff.1 hget).1] at e2
      simp only [w1, w2, AV.isTup, AV.cells, ↓reduceIte, Nat.reduceEqDiff, Nat.reduceAdd, Int.reduceLT, Int.reduceLE, Int.reduceNeg, Int.reduceBEq, Int.reduceBNe, viaa_in ha, e2]
      exact hQ _ _ ⟨L1, by rw [hk]; exact g2, s1, k1.trans k2⟩
  rw [if_neg h4] at hs
  simp only [w1, w2, AV.isTup, AV.cells, ↓reduceIte, Nat.reduceEqDiff, Nat.reduceAdd, Int.reduceLT, Int.reduceLE, Int.reduceNeg, Int.reduceBEq, Int.reduceBNe, beq_ff h4]
  by_cases h5 : x.op = 5
  · rw [if_pos h5] at hs
    simp only [w1, w2, AV.isTup, AV.cells, ↓reduceIte, Nat.reduceEqDiff, Nat.reduceAdd, Int.reduceLT, Int.reduceLE, Int.reduceNeg, Int.reduceBEq, Int.reduceBNe, h5, f0, f5, hx5]
    refine R_calls (l := [pt E.m 0, .agg (xcells x)]) (by simp only [w1, w2, AV.isTup, AV.cells, ↓reduceIte, Nat.reduceEqDiff, Nat.reduceAdd, Int.reduceLT, Int.reduceLE, Int.reduceNeg, Int.reduceBEq, Int.reduceBNe, f0, h5]) (resume_ok h hp hroom hs) ?_
    rintro v' μ1 ha
    simp only [w1, w2, AV.isTup, AV.cells, ↓reduceIte, Nat.reduceEqDiff, Nat.reduceAdd, Int.reduceLT, Int.reduceLE, Int.reduceNeg, Int.reduceBEq, Int.reduceBNe]
    exact hQ _ _ ha
  rw [if_neg h5] at hs
  simp only [w1, w2, AV.isTup, AV.cells, ↓reduceIte, Nat.reduceEqDiff, Nat.reduceAdd, Int.reduceLT, Int.reduceLE, Int.reduceNeg, Int.reduceBEq, Int.reduceBNe, beq_ff h5]
  by_cases h6 : x.op = 6
  · rw [if_pos h6] at hs
    simp only [w1, w2, AV.isTup, AV.cells, ↓reduceIte, Nat.reduceEqDiff, Nat.reduceAdd, Int.reduceLT, Int.reduceLE, Int.reduceNeg, Int.reduceBEq, Int.reduceBNe, h6, f0, f5, hx5]
    refine R_calls (l := [pt E.m 0, .agg (xcells x)]) (by simp only [w1, w2, AV.isTup, AV.cells, ↓reduceIte, Nat.reduceEqDiff, Nat.reduceAdd, Int.reduceLT, Int.reduceLE, Int.reduceNeg, Int.reduceBEq, Int.reduceBNe, f0, h6]) (yield_ok h hs) ?_
    rintro v' μ1 ha
    simp only [w1, w2, AV.isTup, AV.cells, ↓reduceIte, Nat.reduceEqDiff, Nat.reduceAdd, Int.reduceLT, Int.reduceLE, Int.reduceNeg, Int.reduceBEq, Int.reduceBNe]
    exact hQ _ _ ha
  rw [if_neg h6] at hs
  simp only [w1, w2, AV.isTup, AV.cells, ↓reduceIte, Nat.reduceEqDiff, Nat.reduceAdd, Int.reduceLT, Int.reduceLE, Int.reduceNeg, Int.reduceBEq, Int.reduceBNe, beq_ff h6]
  by_cases h7 : x.op = 7
  · rw [if_pos h7] at hs
    simp only [w1, w2, AV.isTup, AV.cells, ↓reduceIte, Nat.reduceEqDiff, Nat.reduceAdd, Int.reduceLT, Int.reduceLE, Int.reduceNeg, Int.reduceBEq, Int.reduceBNe, h7, f0, f5, hx5]
    refine R_calls (l := [pt E.m 0, .agg (xcells x)]) (by simp only [w1, w2, AV.isTup, AV.cells, ↓reduceIte, Nat.reduceEqDiff, Nat.reduceAdd, Int.reduceLT, Int.reduceLE, Int.reduceNeg, Int.reduceBEq, Int.reduceBNe, f0, h7]) (giveUp_ok h hp hroom hs) ?_
    rintro v' μ1 ha
    simp only [w1, w2, AV.isTup, AV.cells, ↓reduceIte, Nat.reduceEqDiff, Nat.reduceAdd, Int.reduceLT, Int.reduceLE, Int.reduceNeg, Int.reduceBEq, Int.reduceBNe]
    exact hQ _ _ ha
  rw [if_neg h7] at hs
  simp only [w1, w2, AV.isTup, AV.cells, ↓reduceIte, Nat.reduceEqDiff, Nat.reduceAdd, Int.reduceLT, Int.reduceLE, Int.reduceNeg, Int.reduceBEq, Int.reduceBNe, beq_ff h7]
  by_cases h8 : x.op = 8
  · rw [if_pos h8] at hs
    obtain ⟨n, hv, hs⟩ := Option.bind_eq_some_iff.1 hs
    obtain ⟨hb, l1⟩ := h.ldreg hget hv
    simp only [w1, w2, AV.isTup, AV.cells, ↓reduceIte, Nat.reduceEqDiff, Nat.reduceAdd, Int.reduceLT, Int.reduceLE, Int.reduceNeg, Int.reduceBEq, Int.reduceBNe, h8, f0, f5, hx2, viaa_in hb, l1]
    by_cases ho : S.other n = true
    · rw [if_pos ho] at hs
      obtain ⟨u, hu, hs⟩ := Option.bind_eq_some_iff.1 hs
      obtain ⟨t', hr, hs⟩ := Option.map_eq_some_iff.1 hs
      subst hs
      obtain ⟨m, rfl, hgu⟩ := idx_some hu
      obtain ⟨ha, μ1, e1, g1, k1⟩ := h.setReg hget hr
      refine R_calls (l := [pt E.m 0, .c (.int .i64 m)]) (by simp only [w1, w2, AV.isTup, AV.cells, ↓reduceIte, Nat.reduceEqDiff, Nat.reduceAdd, Int.reduceLT, Int.reduceLE, Int.reduceNeg, Int.reduceBEq, Int.reduceBNe, f0]) (other_yes h hgu) ?_
      rintro v' μ1 ⟨rfl, rfl⟩
      have htu := h.tfacts hgu
      simp only [w1, w2, AV.isTup, AV.cells, ↓reduceIte, Nat.reduceEqDiff, Nat.reduceAdd, Int.reduceLT, Int.reduceLE, Int.reduceNeg, Int.reduceBEq, Int.reduceBNe, aeq, f5, hx1, htu, viaa_in ha, e1]
      exact hQ _ _ ⟨L, by rw [hk]; exact g1, Stay.refl, k1⟩
    · rw [if_neg ho] at hs
      refine R_calls (l := [pt E.m 0, .c (.int .i64 n)]) (by simp only [w1, w2, AV.isTup, AV.cells, ↓reduceIte, Nat.reduceEqDiff, Nat.reduceAdd, Int.reduceLT, Int.reduceLE, Int.reduceNeg, Int.reduceBEq, Int.reduceBNe, f0]) (other_no h (by simpa using ho)) ?_
      rintro v' μ1 ⟨rfl, rfl⟩
      simp only [w1, w2, AV.isTup, AV.cells, ↓reduceIte, Nat.reduceEqDiff, Nat.reduceAdd, Int.reduceLT, Int.reduceLE, Int.reduceNeg, Int.reduceBEq, Int.reduceBNe, aeq, Option.isNone_none, f0]
      refine R_calls (l := [pt E.m 0, .c (.int .i64 (-12))]) (by simp only [w1, w2, AV.isTup, AV.cells, ↓reduceIte, Nat.reduceEqDiff, Nat.reduceAdd, Int.reduceLT, Int.reduceLE, Int.reduceNeg, Int.reduceBEq, Int.reduceBNe, f0]) (fail_ok h hs) ?_
      rintro v' μ1 ha
      simp only [w1, w2, AV.isTup, AV.cells, ↓reduceIte, Nat.reduceEqDiff, Nat.reduceAdd, Int.reduceLT, Int.reduceLE, Int.reduceNeg, Int.reduceBEq, Int.reduceBNe]
      exact hQ _ _ ha
  rw [if_neg h8] at hs
  simp only [w1, w2, AV.isTup, AV.cells, ↓reduceIte, Nat.reduceEqDiff, Nat.reduceAdd, Int.reduceLT, Int.reduceLE, Int.reduceNeg, Int.reduceBEq, Int.reduceBNe, beq_ff h8]
  by_cases h9 : x.op = 9
  · rw [if_pos h9] at hs
    obtain ⟨v, hv, hs⟩ := Option.bind_eq_some_iff.1 hs
    obtain ⟨hb, l1⟩ := h.ldreg hget hv
    simp only [w1, w2, AV.isTup, AV.cells, ↓reduceIte, Nat.reduceEqDiff, Nat.reduceAdd, Int.reduceLT, Int.reduceLE, Int.reduceNeg, Int.reduceBEq, Int.reduceBNe, h9, f0, f5, hx1, viaa_in hb, l1]
    refine R_calls (l := [pt E.m 0, .c (.int .i64 v)]) (by simp only [w1, w2, AV.isTup, AV.cells, ↓reduceIte, Nat.reduceEqDiff, Nat.reduceAdd, Int.reduceLT, Int.reduceLE, Int.reduceNeg, Int.reduceBEq, Int.reduceBNe, f0]) (fail_ok h hs) ?_
    rintro v' μ1 ha
    simp only [w1, w2, AV.isTup, AV.cells, ↓reduceIte, Nat.reduceEqDiff, Nat.reduceAdd, Int.reduceLT, Int.reduceLE, Int.reduceNeg, Int.reduceBEq, Int.reduceBNe]
    exact hQ _ _ ha
  rw [if_neg h9] at hs
  simp only [w1, w2, AV.isTup, AV.cells, ↓reduceIte, Nat.reduceEqDiff, Nat.reduceAdd, Int.reduceLT, Int.reduceLE, Int.reduceNeg, Int.reduceBEq, Int.reduceBNe, beq_ff h9]
  by_cases h10 : x.op = 10
  · rw [if_pos h10] at hs
    obtain ⟨v, hv, hs⟩ := Option.map_eq_some_iff.1 hs
    subst hs
    obtain ⟨hb, l1⟩ := h.ldreg hget hv
    obtain ⟨μ4, e1, g2, k2⟩ := h.setTop hget hf (f' := { f with leaving := true }) (k := 5) (new := [.bool true]) rfl (by simp) rfl
    obtain ⟨μ5, e2, g3, k3⟩ := g2.setTop (put_at hget) rfl (f' := { f with leaving := true, way := 1 }) (k := 6) (new := [.int .i64 1]) rfl (by simp) rfl
    obtain ⟨μ6, e3, g4, k4⟩ := g3.setTop (put_at (put_at hget)) rfl (f' := { f with leaving := true, way := 1, num := v }) (k := 7) (new := [.int .i64 v]) rfl (by simp) rfl
    rw [put_put, put_put] at g4
    simp only [w1, w2, AV.isTup, AV.cells, ↓reduceIte, Nat.reduceEqDiff, Nat.reduceAdd, Int.reduceLT, Int.reduceLE, Int.reduceNeg, Int.reduceBEq, Int.reduceBNe, h10, f3, f5, hx1, viaa_in hb, l1, e1, e2, e3]
    exact hQ _ _ ⟨L, by rw [hk]; exact g4, Stay.refl, k2.trans (k3.trans k4)⟩
  rw [if_neg h10] at hs
  simp only [w1, w2, AV.isTup, AV.cells, ↓reduceIte, Nat.reduceEqDiff, Nat.reduceAdd, Int.reduceLT, Int.reduceLE, Int.reduceNeg, Int.reduceBEq, Int.reduceBNe, beq_ff h10]
  by_cases h13 : x.op = 13
  · rw [if_pos h13] at hs
    split at hs
    · rename_i hml
      simp only [Option.some.injEq] at hs
      subst hs
      obtain ⟨_, hrow, _⟩ := h.topAt hget hf
      have r4 := hrow 4 _ rfl
      obtain ⟨L1, μ1, μ2, e1, e2, g1, ag, k1⟩ := h.pushMet hget hf hd hml
      have hg1 := put_at (t' := { t with frames := { f with met := hd :: f.met } :: r }) hget
      have htf1 := g1.tfacts hg1
      obtain ⟨μ3, e3, g3, k3⟩ := g1.setTask (t' := { t with frames := { f with met := hd :: f.met } :: r, kept := wr64 (t.kept + 1) }) hg1 (o := 16) (new := [.int .i64 (wr64 (t.kept + 1))]) rfl (by simp) rfl (h.regs t (List.mem_of_getElem? hget))
      rw [put_put] at g3
      rw [(ag (.task k) (by intro hh; cases hh)).1] at e3 htf1
      unfold wr64 at e3
      simp only [w1, w2, AV.isTup, AV.cells, ↓reduceIte, Nat.reduceEqDiff, Nat.reduceAdd, Int.reduceLT, Int.reduceLE, Int.reduceNeg, Int.reduceBEq, Int.reduceBNe, h13, f2, f3, f4, r4, m2, fillc, wr, rep, Nat.reduceLeDiff, Nat.reduceAdd, Nat.reduceMul, List.append_nil, e1, e2, htf1, e3]
      exact hQ _ _ ⟨L1, by rw [hk]; exact g3, ⟨⟨(ag _ (by intro hh; cases hh)).1, (ag _ (by intro hh; cases hh)).1⟩, fun i hi => (ag _ (by intro hh; cases hh)).1⟩, k1.trans k3⟩
    · cases hs
  rw [if_neg h13] at hs
  simp only [w1, w2, AV.isTup, AV.cells, ↓reduceIte, Nat.reduceEqDiff, Nat.reduceAdd, Int.reduceLT, Int.reduceLE, Int.reduceNeg, Int.reduceBEq, Int.reduceBNe, beq_ff h13]
  by_cases h14 : x.op = 14
  · rw [if_pos h14] at hs
    rw [hk] at hs
    simp only [w1, w2, AV.isTup, AV.cells, ↓reduceIte, Nat.reduceEqDiff, Nat.reduceAdd, Int.reduceLT, Int.reduceLE, Int.reduceNeg, Int.reduceBEq, Int.reduceBNe, h14, f0, f2, f4]
    refine R_calls (l := [pt E.m 0, pt (L.id (.task k)) 0, .c (.int .i64 hd)]) (by simp only [w1, w2, AV.isTup, AV.cells, ↓reduceIte, Nat.reduceEqDiff, Nat.reduceAdd, Int.reduceLT, Int.reduceLE, Int.reduceNeg, Int.reduceBEq, Int.reduceBNe, f0, f2, f4]) (look_ok h hs) ?_
    rintro v' μ1 ha
    simp only [w1, w2, AV.isTup, AV.cells, ↓reduceIte, Nat.reduceEqDiff, Nat.reduceAdd, Int.reduceLT, Int.reduceLE, Int.reduceNeg, Int.reduceBEq, Int.reduceBNe]
    exact hQ _ _ ha
  rw [if_neg h14] at hs
  simp only [w1, w2, AV.isTup, AV.cells, ↓reduceIte, Nat.reduceEqDiff, Nat.reduceAdd, Int.reduceLT, Int.reduceLE, Int.reduceNeg, Int.reduceBEq, Int.reduceBNe, beq_ff h14]
  by_cases h11 : x.op = 11
  · rw [if_pos (.inl h11)] at hs
    obtain ⟨t', hpu, hs⟩ := Option.map_eq_some_iff.1 hs
    subst hs
    obtain ⟨L1, μ1, μ2, e1, e2, ha⟩ := push_case h hk hget hpu
    rw [h11] at e1
    simp only [w1, w2, AV.isTup, AV.cells, ↓reduceIte, Nat.reduceEqDiff, Nat.reduceAdd, Int.reduceLT, Int.reduceLE, Int.reduceNeg, Int.reduceBEq, Int.reduceBNe, h11, f2, f4, f5, hx0, hx4, htf, m2, fillc, wr, rep, Nat.reduceLeDiff, Nat.reduceAdd, Nat.reduceMul, List.append_nil, e1, e2]
    exact hQ _ _ ha
  by_cases h12 : x.op = 12
  · rw [if_pos (.inr h12)] at hs
    obtain ⟨t', hpu, hs⟩ := Option.map_eq_some_iff.1 hs
    subst hs
    obtain ⟨L1, μ1, μ2, e1, e2, ha⟩ := push_case h hk hget hpu
    rw [h12] at e1
    simp only [w1, w2, AV.isTup, AV.cells, ↓reduceIte, Nat.reduceEqDiff, Nat.reduceAdd, Int.reduceLT, Int.reduceLE, Int.reduceNeg, Int.reduceBEq, Int.reduceBNe, beq_ff h11, h12, f2, f4, f5, hx0, hx4, htf, m2, fillc, wr, rep, Nat.reduceLeDiff, Nat.reduceAdd, Nat.reduceMul, List.append_nil, e1, e2]
    exact hQ _ _ ha
  rw [if_neg (fun hh => hh.elim h11 h12)] at hs
  simp only [w1, w2, AV.isTup, AV.cells, ↓reduceIte, Nat.reduceEqDiff, Nat.reduceAdd, Int.reduceLT, Int.reduceLE, Int.reduceNeg, Int.reduceBEq, Int.reduceBNe, beq_ff h11, beq_ff h12]
  by_cases h15 : x.op = 15
  · rw [if_pos h15] at hs
    obtain ⟨v, hv, hs⟩ := Option.bind_eq_some_iff.1 hs
    obtain ⟨hb, l1⟩ := h.ldreg hget hv
    by_cases hv0 : v = 0
    · rw [if_neg (fun hh => hh hv0)] at hs
      simp only [Option.some.injEq] at hs
      subst hs
      have hvb : (v != 0) = false := by simp [hv0]
      simp only [w1, w2, AV.isTup, AV.cells, ↓reduceIte, Nat.reduceEqDiff, Nat.reduceAdd, Int.reduceLT, Int.reduceLE, Int.reduceNeg, Int.reduceBEq, Int.reduceBNe, h15, f5, hx1, viaa_in hb, l1, hvb]
      exact hQ _ _ ⟨L, h, Stay.refl, Keep.refl⟩
    · rw [if_pos hv0] at hs
      obtain ⟨t', hpu, hs⟩ := Option.map_eq_some_iff.1 hs
      subst hs
      obtain ⟨L1, μ1, μ2, e1, e2, ha⟩ := push_case h hk hget hpu
      have hvb : (v != 0) = true := by simp [hv0]
      rw [h15] at e1
      simp only [w1, w2, AV.isTup, AV.cells, ↓reduceIte, Nat.reduceEqDiff, Nat.reduceAdd, Int.reduceLT, Int.reduceLE, Int.reduceNeg, Int.reduceBEq, Int.reduceBNe, h15, f2, f4, f5, hx0, hx1, hx4, htf, viaa_in hb, l1, hvb, m2, fillc, wr, rep, Nat.reduceLeDiff, Nat.reduceAdd, Nat.reduceMul, List.append_nil, e1, e2]
      exact hQ _ _ ha
  rw [if_neg h15] at hs
  simp only [Option.some.injEq] at hs
  subst hs
  simp only [w1, w2, AV.isTup, AV.cells, ↓reduceIte, Nat.reduceEqDiff, Nat.reduceAdd, Int.reduceLT, Int.reduceLE, Int.reduceNeg, Int.reduceBEq, Int.reduceBNe, beq_ff h15]
  exact hQ _ _ ⟨L, h, Stay.refl, Keep.refl⟩

theorem step_ok (h : Rep E L S μ) (hp : E.pend = none) (hroom : S.tasks.length < roomy) (hs : S.step E.plan = some S') : Ret 93 [pt E.m 0] μ fun v μ' => After E L S μ S' μ' := by
  unfold PM.step at hs
  obtain ⟨t, hn, hs1⟩ := Option.bind_eq_some_iff.1 hs
  obtain ⟨k, hk, hget, hfl, hnow⟩ := now_ok h hn
  cases hf : t.frames with
  | nil => rw [hf] at hs1; cases hs1
  | cons f r =>
  rw [hf] at hs1
  simp only at hs1
  obtain ⟨_, hrow, _⟩ := h.topAt hget hf
  have r5 := hrow 5 _ rfl
  have r2 := hrow 2 _ rfl
  have r3 := hrow 3 _ rfl
  refine Ret_of p93 (by simp [r93]) ?_
  simp only [r93, frOf_1]
  simp only [w1, w2, AV.isTup, AV.cells, ↓reduceIte, Nat.reduceEqDiff, Nat.reduceAdd, Int.reduceLT, Int.reduceLE, Int.reduceNeg, Int.reduceBEq, Int.reduceBNe]
  refine R_calls (l := [pt E.m 0]) (by simp only [w1, w2, AV.isTup, AV.cells, ↓reduceIte, Nat.reduceEqDiff, Nat.reduceAdd, Int.reduceLT, Int.reduceLE, Int.reduceNeg, Int.reduceBEq, Int.reduceBNe]) hnow ?_
  rintro v μ0 ⟨rfl, rfl⟩
  simp only [w1, w2, AV.isTup, AV.cells, ↓reduceIte, Nat.reduceEqDiff, Nat.reduceAdd, Int.reduceLT, Int.reduceLE, Int.reduceNeg, Int.reduceBEq, Int.reduceBNe]
  refine R_calls (l := [pt (L.id (.task k)) 0]) (by simp only [w1, w2, AV.isTup, AV.cells, ↓reduceIte, Nat.reduceEqDiff, Nat.reduceAdd, Int.reduceLT, Int.reduceLE, Int.reduceNeg, Int.reduceBEq, Int.reduceBNe]) (top_ok h hget hf hfl) ?_
  rintro v μ1 ⟨rfl, rfl⟩
  simp only [w1, w2, AV.isTup, AV.cells, ↓reduceIte, Nat.reduceEqDiff, Nat.reduceAdd, Int.reduceLT, Int.reduceLE, Int.reduceNeg, Int.reduceBEq, Int.reduceBNe, r5]
  by_cases hl : f.leaving = true
  · rw [if_pos hl] at hs1
    simp only [w1, w2, AV.isTup, AV.cells, ↓reduceIte, Nat.reduceEqDiff, Nat.reduceAdd, Int.reduceLT, Int.reduceLE, Int.reduceNeg, Int.reduceBEq, Int.reduceBNe, hl, r5]
    refine R_calls (l := [pt E.m 0]) (by simp only [w1, w2, AV.isTup, AV.cells, ↓reduceIte, Nat.reduceEqDiff, Nat.reduceAdd, Int.reduceLT, Int.reduceLE, Int.reduceNeg, Int.reduceBEq, Int.reduceBNe]) (leave_ok h hs1) ?_
    rintro v μ2 ha
    simp only [w1, w2, AV.isTup, AV.cells, ↓reduceIte, Nat.reduceEqDiff, Nat.reduceAdd, Int.reduceLT, Int.reduceLE, Int.reduceNeg, Int.reduceBEq, Int.reduceBNe, aRet, aRes, aRes1, toCells]
    exact ⟨_, rfl, ha⟩
  rw [if_neg hl] at hs1
  have hl' : f.leaving = false := by simpa using hl
  simp only [w1, w2, AV.isTup, AV.cells, ↓reduceIte, Nat.reduceEqDiff, Nat.reduceAdd, Int.reduceLT, Int.reduceLE, Int.reduceNeg, Int.reduceBEq, Int.reduceBNe, hl', r2, r3]
  by_cases hpc : f.pc = f.fin
  · rw [if_pos hpc] at hs1
    rw [hk] at hs1
    obtain ⟨μ2, e2, h2, k2⟩ := h.setTop hget hf (f' := { f with leaving := true }) (k := 5) (new := [.bool true]) rfl (by simp) rfl
    obtain ⟨_, hrow2, _⟩ := h2.topAt (put_at hget) rfl
    have q5 := hrow2 5 _ rfl
    simp only [w1, w2, AV.isTup, AV.cells, ↓reduceIte, Nat.reduceEqDiff, Nat.reduceAdd, Int.reduceLT, Int.reduceLE, Int.reduceNeg, Int.reduceBEq, Int.reduceBNe, beq_tt hpc, e2, q5]
    refine R_calls (l := [pt E.m 0]) (by simp only [w1, w2, AV.isTup, AV.cells, ↓reduceIte, Nat.reduceEqDiff, Nat.reduceAdd, Int.reduceLT, Int.reduceLE, Int.reduceNeg, Int.reduceBEq, Int.reduceBNe]) (leave_ok h2 hs1) ?_
    rintro v μ3 ⟨L3, h3, s3, k3⟩
    simp only [w1, w2, AV.isTup, AV.cells, ↓reduceIte, Nat.reduceEqDiff, Nat.reduceAdd, Int.reduceLT, Int.reduceLE, Int.reduceNeg, Int.reduceBEq, Int.reduceBNe, aRet, aRes, aRes1, toCells]
    exact ⟨_, rfl, L3, h3, s3.put, k2.trans k3⟩
  rw [if_neg hpc] at hs1
  obtain ⟨l, hsl, hs2⟩ := Option.bind_eq_some_iff.1 hs1
  obtain ⟨x, hx, hs3⟩ := Option.bind_eq_some_iff.1 hs2
  obtain ⟨c, hc, hst⟩ := steps_ok h hget hsl
  obtain ⟨j, hj, hjx⟩ := idx_some hx
  obtain ⟨b, o, e1, e2, e3, e4⟩ := h.stepAt hc hjx
  simp only [w1, w2, AV.isTup, AV.cells, ↓reduceIte, Nat.reduceEqDiff, Nat.reduceAdd, Int.reduceLT, Int.reduceLE, Int.reduceNeg, Int.reduceBEq, Int.reduceBNe, beq_ff hpc, r5, hl', r2]
  refine R_calls (l := [pt E.m 0, pt (L.id (.task k)) 0]) (by simp only [w1, w2, AV.isTup, AV.cells, ↓reduceIte, Nat.reduceEqDiff, Nat.reduceAdd, Int.reduceLT, Int.reduceLE, Int.reduceNeg, Int.reduceBEq, Int.reduceBNe]) hst ?_
  rintro v μ2 ⟨rfl, rfl⟩
  have es : (μ2.new [.int .i64 0, .int .i64 0, .int .i64 0, .int .i64 0, .int .i64 0] 0).st μ2.next 0 [.int .i64 x.op, .int .i64 x.a, .int .i64 x.b, .int .i64 x.n, .int .i64 x.size] = some (μ2.new [.int .i64 x.op, .int .i64 x.a, .int .i64 x.b, .int .i64 x.n, .int .i64 x.size] 0) := new_st0 rfl
  have h3 : Rep E L S (μ2.new (xcells x) 0) := h.tmp
  have hx3 : XAt (μ2.new (xcells x) 0) μ2.next x := XAt.new
  have hf3 : Free L μ2.next := h.free (Nat.le_refl _)
  have hb3 : μ2.next < (μ2.new (xcells x) 0).next := Nat.lt_succ_self _
  have k3 : Keep L μ2 L (μ2.new (xcells x) 0) := Keep.tmp
  simp only [xcells] at h3 hx3 hb3 k3
  simp only [scells] at e3
  rw [← hj] at e1
  simp only [w1, w2, AV.isTup, AV.cells, ↓reduceIte, Nat.reduceEqDiff, Nat.reduceAdd, Int.reduceLT, Int.reduceLE, Int.reduceNeg, Int.reduceBEq, Int.reduceBNe, e1, e3, es]
  generalize μ2.new [.int .i64 x.op, .int .i64 x.a, .int .i64 x.b, .int .i64 x.n, .int .i64 x.size] 0 = μ3 at *
  have hx3' := hx3
  unfold XAt at hx3'
  simp only [w1, w2, AV.isTup, AV.cells, ↓reduceIte, Nat.reduceEqDiff, Nat.reduceAdd, Int.reduceLT, Int.reduceLE, Int.reduceNeg, Int.reduceBEq, Int.reduceBNe, hx3']
  have tl : ∀ (S1 : PM) (μ4 : Mem) (fr : Fr) (s : List It), Rep E L S1 μ4 → Keep L μ3 L μ4 → S1.run = k → S1.tasks = S.tasks →
      PM.act E.plan (S1.put k { t with frames := { f with pc := wr64 (f.pc + wr64 (1 + x.size)) } :: r }) { t with frames := { f with pc := wr64 (f.pc + wr64 (1 + x.size)) } :: r }
        { f with pc := wr64 (f.pc + wr64 (1 + x.size)) } r x f.pc = some S' →
      fr 0 = pt E.m 0 → fr 2 = pt (L.id (.task k)) 0 → fr 3 = pt (L.id (.frames k)) (r.length * 8) → fr 4 = .c (.int .i64 f.pc) → fr 5 = pt μ2.next 0 →
      R [.c u93] fr μ4 (fun fr' μ1 => ∃ v, aRet fr' μ1 [] = some v ∧ After E L S μ2 S' μ1) := by
    intro S1 μ4 fr s h4 k4 hr1 htk ha f0 f2 f3 f4 f5
    have hget1 : S1.tasks[k]? = some t := by rw [htk]; exact hget
    obtain ⟨_, hrow4, _⟩ := h4.topAt hget1 hf
    have q2 := hrow4 2 _ rfl
    have hx4 := hx3.keep k4 hb3 hf3
    have hf4 := k4.free hb3 hf3
    have hb4 : μ2.next < μ4.next := Nat.lt_of_lt_of_le hb3 k4.next
    obtain ⟨μ5, e5, h5, k5⟩ := h4.setTop hget1 hf (f' := { f with pc := wr64 (f.pc + wr64 (1 + x.size)) }) (k := 2) (new := [.int .i64 (wr64 (f.pc + wr64 (1 + x.size)))]) rfl (by simp) rfl
    have hx4' := hx4
    unfold XAt at hx4'
    unfold wr64 at e5
    simp only [u93]
    simp only [w1, w2, AV.isTup, AV.cells, ↓reduceIte, Nat.reduceEqDiff, Nat.reduceAdd, Int.reduceLT, Int.reduceLE, Int.reduceNeg, Int.reduceBEq, Int.reduceBNe, f3, f5, q2, hx4', e5]
    refine act_ok h5 hp (by simp only [PM.put, List.length_set, htk]; exact hroom) (k := k) hr1 (put_at hget1) rfl (by rw [hf] at hfl; exact hfl) (hx4.keep k5 hb4 hf4) (k5.free hb4 hf4) (Nat.lt_of_lt_of_le hb4 k5.next) ha ?_ ?_ ?_ ?_ ?_ ?_
    · simp only [w1, w2, AV.isTup, AV.cells, ↓reduceIte, Nat.reduceEqDiff, Nat.reduceAdd, Int.reduceLT, Int.reduceLE, Int.reduceNeg, Int.reduceBEq, Int.reduceBNe, f0]
    · simp only [w1, w2, AV.isTup, AV.cells, ↓reduceIte, Nat.reduceEqDiff, Nat.reduceAdd, Int.reduceLT, Int.reduceLE, Int.reduceNeg, Int.reduceBEq, Int.reduceBNe, f2]
    · simp only [w1, w2, AV.isTup, AV.cells, ↓reduceIte, Nat.reduceEqDiff, Nat.reduceAdd, Int.reduceLT, Int.reduceLE, Int.reduceNeg, Int.reduceBEq, Int.reduceBNe, f3]
    · simp only [w1, w2, AV.isTup, AV.cells, ↓reduceIte, Nat.reduceEqDiff, Nat.reduceAdd, Int.reduceLT, Int.reduceLE, Int.reduceNeg, Int.reduceBEq, Int.reduceBNe, f4]
    · simp only [w1, w2, AV.isTup, AV.cells, ↓reduceIte, Nat.reduceEqDiff, Nat.reduceAdd, Int.reduceLT, Int.reduceLE, Int.reduceNeg, Int.reduceBEq, Int.reduceBNe, f5]
    · intro fr' μ6 ⟨L6, h6, s6, k6⟩
      exact ⟨_, rfl, L6, h6, s6.put.cast (by rw [htk]), k3.trans (k4.trans (k5.trans k6))⟩
  by_cases h14 : x.op = 14
  · rw [if_pos h14, hk] at hs3
    have hb : (x.op != 14) = false := by simp [h14]
    simp only [w1, w2, AV.isTup, AV.cells, ↓reduceIte, Nat.reduceEqDiff, Nat.reduceAdd, Int.reduceLT, Int.reduceLE, Int.reduceNeg, Int.reduceBEq, Int.reduceBNe, hb]
    refine tl S μ3 _ [] h3 Keep.refl hk rfl hs3 ?_ ?_ ?_ ?_ ?_ <;> simp only [w1, w2, AV.isTup, AV.cells, ↓reduceIte, Nat.reduceEqDiff, Nat.reduceAdd, Int.reduceLT, Int.reduceLE, Int.reduceNeg, Int.reduceBEq, Int.reduceBNe]
  · rw [if_neg h14] at hs3
    have hb : (x.op != 14) = true := by simp [h14]
    simp only [w1, w2, AV.isTup, AV.cells, ↓reduceIte, Nat.reduceEqDiff, Nat.reduceAdd, Int.reduceLT, Int.reduceLE, Int.reduceNeg, Int.reduceBEq, Int.reduceBNe, hb]
    refine R_calls (l := [pt E.m 0]) (by simp only [w1, w2, AV.isTup, AV.cells, ↓reduceIte, Nat.reduceEqDiff, Nat.reduceAdd, Int.reduceLT, Int.reduceLE, Int.reduceNeg, Int.reduceBEq, Int.reduceBNe]) (tick_ok h3) ?_
    rintro v μ4 ⟨rfl, h4, k4⟩
    by_cases ht : S.tick.1 = false
    · rw [if_pos ht] at hs3
      simp only [Option.some.injEq] at hs3
      subst hs3
      simp only [w1, w2, AV.isTup, AV.cells, ↓reduceIte, Nat.reduceEqDiff, Nat.reduceAdd, Int.reduceLT, Int.reduceLE, Int.reduceNeg, Int.reduceBEq, Int.reduceBNe, ht, aRet, aRes, aRes1, toCells]
      exact ⟨_, rfl, L, h4, Stay.refl, k3.trans k4⟩
    · have ht' : S.tick.1 = true := by simpa using ht
      rw [if_neg ht, hk] at hs3
      simp only [w1, w2, AV.isTup, AV.cells, ↓reduceIte, Nat.reduceEqDiff, Nat.reduceAdd, Int.reduceLT, Int.reduceLE, Int.reduceNeg, Int.reduceBEq, Int.reduceBNe, ht']
      refine tl S.tick.2 μ4 _ [] h4 k4 ?_ tick_tasks hs3 ?_ ?_ ?_ ?_ ?_
      · rw [← hk]; unfold PM.tick; split <;> rfl
      all_goals simp only [w1, w2, AV.isTup, AV.cells, ↓reduceIte, Nat.reduceEqDiff, Nat.reduceAdd, Int.reduceLT, Int.reduceLE, Int.reduceNeg, Int.reduceBEq, Int.reduceBNe]
end
end Go.Proofs.Ytibmnlijoeppaaa
