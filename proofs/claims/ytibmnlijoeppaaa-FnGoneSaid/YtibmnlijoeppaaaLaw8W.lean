/-
  The law FnGone returns true: its own code walked.
-/
import Derived.Test.YtibmnlijoeppaaaLaw8
import Derived.Test.YtibmnlijoeppaaaMadeC
namespace Go.Proofs.Ytibmnlijoeppaaa
set_option linter.unusedSimpArgs false
set_option linter.unusedVariables false

/-! 8: laws.FnGone -/
def b8_0 : RCode :=
 (.seq
  (.seq
   (.reg [⟨0, .mv (.t 9), some 44, none, []⟩,
     ⟨1, .bin .gtr (.t 44) (.k (.int .i64 0)), some 45, none, []⟩])
   (.ite (.t 45)
    .skip
    (.exit 0)))
  (.seq
   (.blk 1
    (.reg [⟨0, .mv (.t 8), some 48, none, []⟩,
      ⟨1, .mv (.t 9), some 49, none, []⟩,
      ⟨2, .bsl [.int .i64 0] 1 [(0, .t 49)], some 50, none, []⟩,
      ⟨3, .app 1 8 (.t 48) (.t 50), some 51, none, []⟩,
      ⟨4, .mv (.t 51), some 8, none, []⟩]))
   (.reg [⟨0, .mv (.t 9), some 46, none, []⟩,
     ⟨1, .bin .sub (.t 46) (.k (.int .i64 1)), some 47, none, []⟩,
     ⟨2, .mv (.t 47), some 9, none, []⟩])))
def u8 : RCode :=
 (.seq
        (.reg [⟨0, .fa (.t 13) 0, some 114, none, []⟩,
          ⟨1, .ld none (.t 114), some 115, none, []⟩,
          ⟨2, .bin .eql (.t 115) (.k (.int .i64 1)), some 116, none, []⟩])
        (.ite (.t 116)
         (.seq
          (.seq
           (.reg [⟨0, .mv (.t 10), some 117, none, []⟩,
             ⟨1, .mv (.t 8), some 118, none, []⟩,
             ⟨2, .len (.t 118), some 119, none, []⟩,
             ⟨3, .bin .eql (.t 117) (.t 119), some 120, none, []⟩,
             ⟨4, .mv (.t 120), some 121, none, []⟩,
             ⟨5, .fa (.t 13) 3, some 122, some (121, false), []⟩,
             ⟨7, .mv (.t 8), some 124, some (121, false), []⟩,
             ⟨8, .mv (.t 10), some 125, some (121, false), []⟩,
             ⟨9, .ias (.t 124) (.t 125) 1, some 126, some (121, false), []⟩,
             ⟨6, .ld none (.t 122), some 123, some (121, false), []⟩,
             ⟨10, .ld none (.t 126), some 127, some (121, false), []⟩,
             ⟨11, .bin .neq (.t 123) (.t 127), some 128, some (121, false), []⟩,
             ⟨12, .pick (.t 121) (.k (.bool true)) (.t 128), some 129, none, []⟩])
           (.ite (.t 129)
            (.seq
             (.reg [⟨0, .mv (.k (.bool false)), some 2, none, []⟩])
             .ret)
            .skip))
          (.reg [⟨0, .mv (.t 10), some 130, none, []⟩,
            ⟨1, .bin .add (.t 130) (.k (.int .i64 1)), some 131, none, []⟩,
            ⟨2, .mv (.t 131), some 10, none, []⟩]))
         .skip))
def b8_1 : RCode :=
 (.seq
  (.reg [⟨0, .bin .lss (.t 99) (.t 98), some 100, none, []⟩])
  (.seq
   (.ite (.t 100)
    .skip
    (.exit 2))
   (.seq
    (.blk 3
     (.seq
      (.reg [⟨0, .ias (.t 97) (.t 99) 4, some 101, none, []⟩,
        ⟨1, .ld (some 4) (.t 101), some 102, none, []⟩,
        ⟨2, .alc [.int .i64 0, .int .i64 0, .int .i64 0, .int .i64 0], some 13, none, []⟩,
        ⟨3, .st (.t 13) (.t 102) 4, none, none, []⟩])
      (.seq
       (.reg [⟨0, .mv (.t 11), some 103, none, []⟩,
         ⟨1, .mv (.t 103), some 104, none, []⟩,
         ⟨2, .fa (.t 13) 0, some 105, some (104, false), []⟩,
         ⟨3, .ld none (.t 105), some 106, some (104, false), []⟩,
         ⟨4, .bin .eql (.t 106) (.k (.int .i64 2)), some 107, some (104, false), []⟩,
         ⟨5, .mv (.t 107), some 108, some (104, false), []⟩,
         ⟨6, .fa (.t 13) 2, some 109, some (108, true), []⟩,
         ⟨7, .ld none (.t 109), some 110, some (108, true), []⟩,
         ⟨8, .bin .eql (.t 110) (.k (.int .i64 6)), some 111, some (108, true), []⟩,
         ⟨9, .pick (.t 108) (.t 111) (.k (.bool false)), some 112, some (104, false), []⟩,
         ⟨10, .pick (.t 104) (.k (.bool true)) (.t 112), some 113, none, []⟩,
         ⟨11, .mv (.t 113), some 11, none, []⟩])
       u8)))
    (.reg [⟨0, .bin .add (.t 99) (.k (.int .i64 1)), some 132, none, []⟩,
      ⟨1, .mv (.t 132), some 99, none, []⟩]))))
def t8 : RCode :=
 (.seq
             (.seq
              (.reg [⟨0, .fa (.t 6) 0, some 58, none, []⟩,
                ⟨1, .ld none (.t 58), some 59, none, []⟩,
                ⟨2, .bin .neq (.t 59) (.k (.int .i64 0)), some 60, none, []⟩,
                ⟨3, .mv (.t 60), some 61, none, []⟩,
                ⟨4, .fa (.t 7) 2, some 62, some (61, false), []⟩,
                ⟨5, .ld none (.t 62), some 63, some (61, false), []⟩,
                ⟨6, .len (.t 63), some 64, some (61, false), []⟩,
                ⟨7, .bin .neq (.t 64) (.k (.int .i64 2)), some 65, some (61, false), []⟩,
                ⟨8, .pick (.t 61) (.k (.bool true)) (.t 65), some 66, none, []⟩,
                ⟨9, .mv (.t 66), some 67, none, []⟩,
                ⟨10, .fa (.t 7) 2, some 68, some (67, false), []⟩,
                ⟨15, .fa (.t 7) 2, some 73, some (67, false), []⟩,
                ⟨11, .ld none (.t 68), some 69, some (67, false), []⟩,
                ⟨12, .ias (.t 69) (.k (.int .i64 1)) 7, some 70, some (67, false), []⟩,
                ⟨13, .fa (.t 70) 5, some 71, some (67, false), []⟩,
                ⟨14, .ld none (.t 71), some 72, some (67, false), []⟩,
                ⟨16, .ld none (.t 73), some 74, some (67, false), []⟩,
                ⟨17, .ias (.t 74) (.k (.int .i64 1)) 7, some 75, some (67, false), []⟩,
                ⟨18, .fa (.t 75) 6, some 76, some (67, false), []⟩,
                ⟨19, .ld none (.t 76), some 77, some (67, false), []⟩,
                ⟨20, .bin .neq (.t 72) (.t 77), some 78, some (67, false), []⟩,
                ⟨21, .pick (.t 67) (.k (.bool true)) (.t 78), some 79, none, []⟩,
                ⟨22, .mv (.t 79), some 80, none, []⟩,
                ⟨23, .fa (.t 7) 2, some 81, some (80, false), []⟩,
                ⟨24, .ld none (.t 81), some 82, some (80, false), []⟩,
                ⟨25, .ias (.t 82) (.k (.int .i64 1)) 7, some 83, some (80, false), []⟩,
                ⟨26, .fa (.t 83) 1, some 84, some (80, false), []⟩,
                ⟨27, .ld none (.t 84), some 85, some (80, false), []⟩,
                ⟨28, .bin .neq (.t 85) (.k (.int .i64 4)), some 86, some (80, false), []⟩,
                ⟨29, .pick (.t 80) (.k (.bool true)) (.t 86), some 87, none, []⟩,
                ⟨30, .mv (.t 87), some 88, none, []⟩,
                ⟨31, .fa (.t 7) 2, some 89, some (88, false), []⟩,
                ⟨32, .ld none (.t 89), some 90, some (88, false), []⟩,
                ⟨33, .ias (.t 90) (.k (.int .i64 0)) 7, some 91, some (88, false), []⟩,
                ⟨34, .fa (.t 91) 1, some 92, some (88, false), []⟩,
                ⟨35, .ld none (.t 92), some 93, some (88, false), []⟩,
                ⟨36, .bin .neq (.t 93) (.k (.int .i64 4)), some 94, some (88, false), []⟩,
                ⟨37, .pick (.t 88) (.k (.bool true)) (.t 94), some 95, none, []⟩])
              (.ite (.t 95)
               (.seq
                (.reg [⟨0, .mv (.k (.bool false)), some 2, none, []⟩])
                .ret)
               .skip))
             (.seq
              (.reg [⟨0, .mv (.k (.int .i64 0)), some 10, none, []⟩])
              (.seq
               (.reg [⟨0, .mv (.k (.bool false)), some 11, none, []⟩])
               (.seq
                (.seq
                 (.reg [⟨0, .fa (.t 6) 1, some 96, none, []⟩,
                   ⟨1, .ld none (.t 96), some 97, none, []⟩,
                   ⟨2, .len (.t 97), some 98, none, []⟩,
                   ⟨3, .mv (.k (.int .i64 0)), some 99, none, []⟩])
                 (.blk 2
                  (.loop b8_1)))
                (.seq
                 (.reg [⟨0, .mv (.t 11), some 133, none, []⟩,
                   ⟨1, .mv (.t 133), some 134, none, []⟩,
                   ⟨2, .mv (.t 10), some 135, some (134, true), []⟩,
                   ⟨3, .mv (.t 8), some 136, some (134, true), []⟩,
                   ⟨4, .len (.t 136), some 137, some (134, true), []⟩,
                   ⟨5, .bin .eql (.t 135) (.t 137), some 138, some (134, true), []⟩,
                   ⟨6, .pick (.t 134) (.t 138) (.k (.bool false)), some 139, none, []⟩,
                   ⟨7, .mv (.t 139), some 2, none, []⟩])
                 .ret)))))
def r8 : RFun := ⟨140, [.tmp 2],
 (.seq
  (.reg [⟨0, .mv (.k (.bool false)), some 2, none, []⟩])
  (.seq
   (.seq
    (.reg [⟨0, .mv (.t 0), some 14, none, []⟩,
      ⟨1, .len (.t 14), some 15, none, []⟩,
      ⟨2, .bin .gtr (.t 15) (.k (.int .i64 1048576)), some 16, none, []⟩])
    (.ite (.t 16)
     (.seq
      (.reg [⟨0, .mv (.k (.bool true)), some 2, none, []⟩])
      .ret)
     .skip))
   (.seq
    (.reg [⟨0, .mv (.t 0), some 17, none, []⟩,
      ⟨1, .call 24 [.t 17, .k (.int .i64 0)], some 18, none, []⟩,
      ⟨2, .bin .rem (.t 18) (.k (.int .i64 10)), some 19, none, []⟩,
      ⟨3, .bin .add (.k (.int .i64 1)) (.t 19), some 20, none, []⟩,
      ⟨4, .mv (.t 20), some 3, none, []⟩])
    (.seq
     (.reg [⟨0, .mv (.t 0), some 21, none, []⟩,
       ⟨1, .call 24 [.t 21, .k (.int .i64 1)], some 22, none, []⟩,
       ⟨2, .bin .rem (.t 22) (.k (.int .i64 4)), some 23, none, []⟩,
       ⟨3, .mv (.t 23), some 4, none, []⟩])
     (.seq
      (.seq
       (.reg [⟨0, .mv (.t 4), some 24, none, []⟩,
         ⟨1, .bin .eql (.t 24) (.k (.int .i64 3)), some 25, none, []⟩])
       (.ite (.t 25)
        (.seq
         (.reg [⟨0, .mv (.t 3), some 26, none, []⟩,
           ⟨1, .call 31 [.t 26], some 27, none, []⟩,
           ⟨2, .call 21 [.t 27], some 28, none, []⟩,
           ⟨3, .mv (.t 3), some 29, none, []⟩,
           ⟨4, .bin .add (.t 29) (.k (.int .i64 2)), some 30, none, []⟩,
           ⟨5, .bld [.int .i64 0, .int .i64 0, .int .i64 0] [(0, 1, .k (.int .i64 6)), (1, 1, .k (.int .i64 1)), (2, 1, .t 30)], some 31, none, []⟩,
           ⟨6, .eq false (.ints 3) (.t 28) (.t 31), some 32, none, []⟩,
           ⟨7, .mv (.t 32), some 2, none, []⟩])
         .ret)
        .skip))
      (.seq
       (.reg [⟨0, .mv (.t 4), some 33, none, []⟩,
         ⟨1, .mv (.t 3), some 34, none, []⟩,
         ⟨2, .call 32 [.t 33, .t 34], some 35, none, []⟩,
         ⟨3, .alc [.slc none 0 0], some 5, none, []⟩,
         ⟨4, .st (.t 5) (.t 35) 1, none, none, []⟩])
       (.seq
        (.reg [⟨0, .ld (some 1) (.t 5), some 36, none, []⟩,
          ⟨1, .call 26 [.t 36, .k (.int .i64 500)], some 37, none, []⟩,
          ⟨2, .alc [.int .i64 0, .slc none 0 0, .int .i64 0, .int .i64 0, .slc none 0 0], some 6, none, []⟩,
          ⟨3, .st (.t 6) (.t 37) 5, none, none, []⟩])
        (.seq
         (.reg [⟨0, .ld (some 1) (.t 5), some 38, none, []⟩,
           ⟨1, .call 30 [.t 38, .k (.int .i64 500)], some 39, none, []⟩,
           ⟨2, .alc [.bool false, .int .i64 0, .slc none 0 0], some 7, none, []⟩,
           ⟨3, .st (.t 7) (.t 39) 3, none, none, []⟩])
         (.seq
          (.reg [⟨0, .bsl [.int .i64 0] 2 [(0, .k (.int .i64 1)), (1, .k (.int .i64 0))], some 40, none, []⟩,
            ⟨1, .mv (.t 40), some 8, none, []⟩])
          (.seq
           (.seq
            (.reg [⟨0, .mv (.t 4), some 41, none, []⟩,
              ⟨1, .bin .eql (.t 41) (.k (.int .i64 1)), some 42, none, []⟩])
            (.ite (.t 42)
             (.seq
              (.reg [⟨0, .mv (.k (.slc none 0 0)), some 8, none, []⟩])
              (.seq
               (.seq
                (.reg [⟨0, .mv (.t 3), some 43, none, []⟩,
                  ⟨1, .mv (.t 43), some 9, none, []⟩])
                (.blk 0
                 (.loop b8_0)))
               (.reg [⟨0, .mv (.t 8), some 52, none, []⟩,
                 ⟨1, .bsl [.int .i64 0] 2 [(0, .k (.int .i64 0)), (1, .k (.int .i64 1))], some 53, none, []⟩,
                 ⟨2, .app 1 8 (.t 52) (.t 53), some 54, none, []⟩,
                 ⟨3, .mv (.t 54), some 8, none, []⟩])))
             .skip))
           (.seq
            (.seq
             (.reg [⟨0, .mv (.t 4), some 55, none, []⟩,
               ⟨1, .bin .eql (.t 55) (.k (.int .i64 2)), some 56, none, []⟩])
             (.ite (.t 56)
              (.reg [⟨0, .bsl [.int .i64 0] 2 [(0, .k (.int .i64 (-10))), (1, .k (.int .i64 0))], some 57, none, []⟩,
                ⟨1, .mv (.t 57), some 8, none, []⟩])
              .skip))
            t8)))))))))))⟩
theorem p8 : prog 8 = some r8 := by kernel_rfl



theorem loop8 {S : PM} {rc wc : Cell} {want : List Int} {hi : Nat} {μ0 : Mem} (hR : Rd hi μ0 4 rc S.recs.length (cat recrow 0 S.recs)) (hW : Rd hi μ0 1 wc want.length (cat irow 0 want)) (hh : hi ≤ μ0.next) (hroom : S.recs.length < 1000) (hwr : want.length < 1000) {s : List It} {Q : Fr → Mem → Prop}
    {gf : Bool} {xf : Nat} :
    ∀ (d i : Nat) (g : Bool) (x : Nat) (fr : Fr) (μ : Mem), i + d = S.recs.length → goneRun want (S.recs.drop i) g x = some (gf, xf) → x < 1000 → Same hi μ0 μ → fr 97 = .c rc → fr 98 = .c (.int .i64 S.recs.length) → fr 99 = .c (.int .i64 i) → fr 8 = .c wc → fr 10 = .c (.int .i64 x) → fr 11 = .c (.bool g) →
      (∀ fr' μ', fr' 8 = .c wc → fr' 10 = .c (.int .i64 xf) → fr' 11 = .c (.bool gf) → R s fr' μ' Q) → R (.c (.loop b8_1) :: .blk 2 :: s) fr μ Q := by
  intro d
  induction d with
  | zero =>
    intro i g x fr μ hd hs hxl hsm f97 f98 f99 f8 f10 f11 hend
    rw [R_loop]
    simp only [b8_1]
    simp only [w1, w2, AV.isTup, AV.cells, ↓reduceIte, Nat.reduceEqDiff, Nat.reduceAdd, Int.reduceLT, Int.reduceLE, Int.reduceNeg, Int.reduceBEq, Int.reduceBNe, f98, f99]
    rw [decide_eq_false (by omega)]
    simp only [w1, w2, AV.isTup, AV.cells, ↓reduceIte, Nat.reduceEqDiff, Nat.reduceAdd, Int.reduceLT, Int.reduceLE, Int.reduceNeg, Int.reduceBEq, Int.reduceBNe]
    rw [R_exit rfl]
    rw [List.drop_eq_nil_of_le (by omega)] at hs
    simp only [goneRun, Option.some.injEq, Prod.mk.injEq] at hs
    obtain ⟨rfl, rfl⟩ := hs
    refine hend _ _ ?_ ?_ ?_
    · simp only [w1, w2, AV.isTup, AV.cells, ↓reduceIte, Nat.reduceEqDiff, Nat.reduceAdd, Int.reduceLT, Int.reduceLE, Int.reduceNeg, Int.reduceBEq, Int.reduceBNe, f8]
    · simp only [w1, w2, AV.isTup, AV.cells, ↓reduceIte, Nat.reduceEqDiff, Nat.reduceAdd, Int.reduceLT, Int.reduceLE, Int.reduceNeg, Int.reduceBEq, Int.reduceBNe, f10]
    · simp only [w1, w2, AV.isTup, AV.cells, ↓reduceIte, Nat.reduceEqDiff, Nat.reduceAdd, Int.reduceLT, Int.reduceLE, Int.reduceNeg, Int.reduceBEq, Int.reduceBNe, f11]
  | succ d ih =>
    intro i g x fr μ hd hs hxl hsm f97 f98 f99 f8 f10 f11 hend
    have hlt : i < S.recs.length := by omega
    have hget : S.recs[i]? = some S.recs[i] := List.getElem?_eq_getElem hlt
    have hdrop : S.recs.drop i = S.recs[i] :: S.recs.drop (i + 1) := List.drop_eq_getElem_cons hlt
    obtain ⟨b, o, e1, e2⟩ := recAt hR hsm hget
    rw [hdrop] at hs
    simp only [goneRun] at hs
    have es : (μ.new [.int .i64 0, .int .i64 0, .int .i64 0, .int .i64 0] 0).st μ.next 0 [.int .i64 S.recs[i].kind, .int .i64 S.recs[i].task, .int .i64 S.recs[i].how, .int .i64 S.recs[i].num] =
      some (μ.new [.int .i64 S.recs[i].kind, .int .i64 S.recs[i].task, .int .i64 S.recs[i].how, .int .i64 S.recs[i].num] 0) := new_st0 rfl
    have l0 : (μ.new [.int .i64 S.recs[i].kind, .int .i64 S.recs[i].task, .int .i64 S.recs[i].how, .int .i64 S.recs[i].num] 0).ld none μ.next 0 = some (.c (.int .i64 S.recs[i].kind)) := new_ld0 rfl
    have l2 : (μ.new [.int .i64 S.recs[i].kind, .int .i64 S.recs[i].task, .int .i64 S.recs[i].how, .int .i64 S.recs[i].num] 0).ld none μ.next 2 = some (.c (.int .i64 S.recs[i].how)) := new_ld0 rfl
    have l3 : (μ.new [.int .i64 S.recs[i].kind, .int .i64 S.recs[i].task, .int .i64 S.recs[i].how, .int .i64 S.recs[i].num] 0).ld none μ.next 3 = some (.c (.int .i64 S.recs[i].num)) := new_ld0 rfl
    have hsm2 := hsm.new (Nat.le_trans hh hsm.2) (cs := [.int .i64 S.recs[i].kind, .int .i64 S.recs[i].task, .int .i64 S.recs[i].how, .int .i64 S.recs[i].num]) (e := 0)
    have hwi : IntKind.i64.wrap ((i : Int) + 1) = ((i + 1 : Nat) : Int) := by rw [small (by omega)]; omega
    have hwx : IntKind.i64.wrap ((x : Int) + 1) = ((x + 1 : Nat) : Int) := by rw [small (by omega)]; omega
    obtain ⟨wa, wcap, hwc⟩ := hW.slc
    have hW2 := hW.same hsm2 (Nat.le_refl _)
    generalize μ.new [.int .i64 S.recs[i].kind, .int .i64 S.recs[i].task, .int .i64 S.recs[i].how, .int .i64 S.recs[i].num] 0 = μ2 at *
    have tl : ∀ (fr : Fr) (g' : Bool), (g' = (g || (S.recs[i].kind == 2 && S.recs[i].how == 6))) → fr 13 = pt μ.next 0 → fr 97 = .c rc → fr 98 = .c (.int .i64 S.recs.length) → fr 99 = .c (.int .i64 i) → fr 8 = .c wc → fr 10 = .c (.int .i64 x) → fr 11 = .c (.bool g') →
        R (.c u8 :: .blk 3 :: .c (.reg [⟨0, .bin .add (.t 99) (.k (.int .i64 1)), some 132, none, []⟩, ⟨1, .mv (.t 132), some 99, none, []⟩]) :: .lp b8_1 :: .blk 2 :: s) fr μ2 Q := by
      intro fr g' hg f13 f97 f98 f99 f8 f10 f11
      rw [← hg] at hs
      simp only [u8]
      simp only [w1, w2, AV.isTup, AV.cells, ↓reduceIte, Nat.reduceEqDiff, Nat.reduceAdd, Int.reduceLT, Int.reduceLE, Int.reduceNeg, Int.reduceBEq, Int.reduceBNe, f13, l0]
      by_cases hk : S.recs[i].kind = 1
      · rw [if_pos hk] at hs
        split at hs
        · rename_i hc
          have hxw : x < want.length := (List.getElem?_eq_some_iff.1 hc).1
          obtain ⟨wb, wo, a1, a2, a3, a4⟩ := hW2.row irow_len (by omega) hc
          have a5 := a4 0 (by omega)
          simp only [irow, List.getElem?_cons_zero, Option.map_some, Nat.add_zero] at a5
          have hb1 : ((x : Int) == (want.length : Int)) = false := beq_ff (by omega)
          have hb2 : (S.recs[i].num != S.recs[i].num) = false := by simp
          rw [hwc] at a1
          simp only [w1, w2, AV.isTup, AV.cells, ↓reduceIte, Nat.reduceEqDiff, Nat.reduceAdd, Int.reduceLT, Int.reduceLE, Int.reduceNeg, Int.reduceBEq, Int.reduceBNe, beq_tt hk, f10, f8, hwc, hb1, f13, l3, a1, a5, hb2, hwx, f99, hwi]
          rw [R_lp]
          refine ih (i + 1) g' (x + 1) _ μ2 (by omega) hs (by omega) hsm2 ?_ ?_ ?_ ?_ ?_ ?_ hend
          · simp only [w1, w2, AV.isTup, AV.cells, ↓reduceIte, Nat.reduceEqDiff, Nat.reduceAdd, Int.reduceLT, Int.reduceLE, Int.reduceNeg, Int.reduceBEq, Int.reduceBNe, f97]
          · simp only [w1, w2, AV.isTup, AV.cells, ↓reduceIte, Nat.reduceEqDiff, Nat.reduceAdd, Int.reduceLT, Int.reduceLE, Int.reduceNeg, Int.reduceBEq, Int.reduceBNe, f98]
          · simp only [w1, w2, AV.isTup, AV.cells, ↓reduceIte, Nat.reduceEqDiff, Nat.reduceAdd, Int.reduceLT, Int.reduceLE, Int.reduceNeg, Int.reduceBEq, Int.reduceBNe]
          · simp only [w1, w2, AV.isTup, AV.cells, ↓reduceIte, Nat.reduceEqDiff, Nat.reduceAdd, Int.reduceLT, Int.reduceLE, Int.reduceNeg, Int.reduceBEq, Int.reduceBNe, f8, hwc]
          · simp only [w1, w2, AV.isTup, AV.cells, ↓reduceIte, Nat.reduceEqDiff, Nat.reduceAdd, Int.reduceLT, Int.reduceLE, Int.reduceNeg, Int.reduceBEq, Int.reduceBNe]
          · simp only [w1, w2, AV.isTup, AV.cells, ↓reduceIte, Nat.reduceEqDiff, Nat.reduceAdd, Int.reduceLT, Int.reduceLE, Int.reduceNeg, Int.reduceBEq, Int.reduceBNe, f11]
        · cases hs
      · rw [if_neg hk] at hs
        simp only [w1, w2, AV.isTup, AV.cells, ↓reduceIte, Nat.reduceEqDiff, Nat.reduceAdd, Int.reduceLT, Int.reduceLE, Int.reduceNeg, Int.reduceBEq, Int.reduceBNe, beq_ff hk, f99, hwi]
        rw [R_lp]
        refine ih (i + 1) g' x _ μ2 (by omega) hs hxl hsm2 ?_ ?_ ?_ ?_ ?_ ?_ hend
        · simp only [w1, w2, AV.isTup, AV.cells, ↓reduceIte, Nat.reduceEqDiff, Nat.reduceAdd, Int.reduceLT, Int.reduceLE, Int.reduceNeg, Int.reduceBEq, Int.reduceBNe, f97]
        · simp only [w1, w2, AV.isTup, AV.cells, ↓reduceIte, Nat.reduceEqDiff, Nat.reduceAdd, Int.reduceLT, Int.reduceLE, Int.reduceNeg, Int.reduceBEq, Int.reduceBNe, f98]
        · simp only [w1, w2, AV.isTup, AV.cells, ↓reduceIte, Nat.reduceEqDiff, Nat.reduceAdd, Int.reduceLT, Int.reduceLE, Int.reduceNeg, Int.reduceBEq, Int.reduceBNe]
        · simp only [w1, w2, AV.isTup, AV.cells, ↓reduceIte, Nat.reduceEqDiff, Nat.reduceAdd, Int.reduceLT, Int.reduceLE, Int.reduceNeg, Int.reduceBEq, Int.reduceBNe, f8]
        · simp only [w1, w2, AV.isTup, AV.cells, ↓reduceIte, Nat.reduceEqDiff, Nat.reduceAdd, Int.reduceLT, Int.reduceLE, Int.reduceNeg, Int.reduceBEq, Int.reduceBNe, f10]
        · simp only [w1, w2, AV.isTup, AV.cells, ↓reduceIte, Nat.reduceEqDiff, Nat.reduceAdd, Int.reduceLT, Int.reduceLE, Int.reduceNeg, Int.reduceBEq, Int.reduceBNe, f11]
    rw [R_loop]
    simp only [b8_1]
    simp only [w1, w2, AV.isTup, AV.cells, ↓reduceIte, Nat.reduceEqDiff, Nat.reduceAdd, Int.reduceLT, Int.reduceLE, Int.reduceNeg, Int.reduceBEq, Int.reduceBNe, f98, f99]
    rw [decide_eq_true (by omega)]
    simp only [w1, w2, AV.isTup, AV.cells, ↓reduceIte, Nat.reduceEqDiff, Nat.reduceAdd, Int.reduceLT, Int.reduceLE, Int.reduceNeg, Int.reduceBEq, Int.reduceBNe, f97, f99, e1, e2, es, f11, l0, l2]
    cases g with
    | true =>
      simp only [w1, w2, AV.isTup, AV.cells, ↓reduceIte, Nat.reduceEqDiff, Nat.reduceAdd, Int.reduceLT, Int.reduceLE, Int.reduceNeg, Int.reduceBEq, Int.reduceBNe]
      refine tl _ true rfl ?_ ?_ ?_ ?_ ?_ ?_ ?_ <;> simp only [w1, w2, AV.isTup, AV.cells, ↓reduceIte, Nat.reduceEqDiff, Nat.reduceAdd, Int.reduceLT, Int.reduceLE, Int.reduceNeg, Int.reduceBEq, Int.reduceBNe, f97, f98, f99, f8, f10, f11]
    | false =>
      simp only [w1, w2, AV.isTup, AV.cells, ↓reduceIte, Nat.reduceEqDiff, Nat.reduceAdd, Int.reduceLT, Int.reduceLE, Int.reduceNeg, Int.reduceBEq, Int.reduceBNe, l0, l2]
      cases hk2 : (S.recs[i].kind == 2) with
      | false =>
        simp only [w1, w2, AV.isTup, AV.cells, ↓reduceIte, Nat.reduceEqDiff, Nat.reduceAdd, Int.reduceLT, Int.reduceLE, Int.reduceNeg, Int.reduceBEq, Int.reduceBNe]
        refine tl _ false (by rw [hk2]; rfl) ?_ ?_ ?_ ?_ ?_ ?_ ?_ <;> simp only [w1, w2, AV.isTup, AV.cells, ↓reduceIte, Nat.reduceEqDiff, Nat.reduceAdd, Int.reduceLT, Int.reduceLE, Int.reduceNeg, Int.reduceBEq, Int.reduceBNe, f97, f98, f99, f8, f10, f11]
      | true =>
        simp only [w1, w2, AV.isTup, AV.cells, ↓reduceIte, Nat.reduceEqDiff, Nat.reduceAdd, Int.reduceLT, Int.reduceLE, Int.reduceNeg, Int.reduceBEq, Int.reduceBNe, l0, l2]
        refine tl _ (S.recs[i].how == 6) (by rw [hk2]; simp) ?_ ?_ ?_ ?_ ?_ ?_ ?_ <;> simp only [w1, w2, AV.isTup, AV.cells, ↓reduceIte, Nat.reduceEqDiff, Nat.reduceAdd, Int.reduceLT, Int.reduceLE, Int.reduceNeg, Int.reduceBEq, Int.reduceBNe, f97, f98, f99, f8, f10, f11]

theorem tail8 {S : PM} {rc wc ec : Cell} {kind n : Nat} {hi br be : Nat} {μ : Mem} {g : Nat → Cell} (hgood : goneGood kind n S = true) (hn : n ≤ 10) (hRr : Rd hi μ 4 rc S.recs.length (cat recrow 0 S.recs)) (hW : Rd hi μ 1 wc (wantOf kind n).length (cat irow 0 (wantOf kind n))) (hh : hi ≤ μ.next)
    (hE : Rd hi μ 7 ec S.stand.tasks.length (cat (fun i (v : PView) => [.int .i64 v.body, .int .i64 v.state, g i, .int .i64 v.waiter, .int .i64 v.blocks, .int .i64 v.kept, .int .i64 v.begun]) 0 S.stand.tasks))
    (q0 : μ.ld none br 0 = some (.c (.int .i64 S.code))) (q1 : μ.ld none br 1 = some (.c rc)) (q2 : μ.ld none be 2 = some (.c ec)) {fr : Fr} (f6 : fr 6 = pt br 0) (f7 : fr 7 = pt be 0) (f8 : fr 8 = .c wc) {s : List It} :
    R (.c t8 :: s) fr μ (fun fr' μ1 => ∃ v, aRet fr' μ1 [.tmp 2] = some v ∧ v = .c (.bool true)) := by
  unfold goneGood at hgood
  simp only [Bool.and_eq_true, beq_iff_eq, decide_eq_true_eq] at hgood
  obtain ⟨⟨⟨⟨gc, gst⟩, grl⟩, gt⟩, gs⟩ := hgood
  obtain ⟨t0, t1, htk⟩ : ∃ t0 t1, S.tasks = [t0, t1] := by
    split at gt
    · rename_i a b hh; exact ⟨_, _, hh⟩
    · cases gt
  rw [htk] at gt
  simp only [Bool.and_eq_true, beq_iff_eq] at gt
  obtain ⟨⟨gt1, gt2⟩, gt3⟩ := gt
  have hv1 : S.stand.tasks[1]? = some t1.view := by simp [PM.stand, htk]
  have hv0 : S.stand.tasks[0]? = some t0.view := by simp [PM.stand, htk]
  obtain ⟨eb, eo, a1, a2, a3, a4⟩ := hE.row (sz := 7) (fun _ _ => rfl) (by omega) hv1
  obtain ⟨db, d0, d1, d2, d3, d4⟩ := hE.row (sz := 7) (fun _ _ => rfl) (by omega) hv0
  obtain ⟨ea, ecap, hec⟩ := hE.slc
  have hel : S.stand.tasks.length = 2 := by simp [PM.stand, htk]
  rw [hel] at hec
  have b1 := a4 1 (by omega)
  have b5 := a4 5 (by omega)
  have b6 := a4 6 (by omega)
  have c1 := d4 1 (by omega)
  simp only [List.getElem?_cons_succ, List.getElem?_cons_zero, Option.map_some, PTk.view, gt2, gt3] at b1 b5 b6 c1
  have a1' : ∀ kd : IntKind, aidx (.c ec) (.c (.int kd 1)) 7 = some (pt eb eo) := a1
  have d1' : ∀ kd : IntKind, aidx (.c ec) (.c (.int kd 0)) 7 = some (pt db d0) := d1
  clear a1 d1
  obtain ⟨ra, rcap, hrc⟩ := hRr.slc
  subst hec
  subst hrc
  rw [gc] at q0
  have z1 : ((0 : Int) != 0) = false := rfl
  have z2 : (((2 : Nat) : Int) != 2) = false := rfl
  have z3 : ((4 : Int) != 4) = false := rfl
  have z4 : (t1.kept != t1.begun) = false := by simp [gt1]
  have hwl : (wantOf kind n).length < 1000 := by
    unfold wantOf
    split
    · simp; omega
    · split <;> simp
  obtain ⟨wa, wcap, hwc⟩ := hW.slc
  simp only [t8]
  simp only [w1, w2, AV.isTup, AV.cells, ↓reduceIte, Nat.reduceEqDiff, Nat.reduceAdd, Int.reduceLT, Int.reduceLE, Int.reduceNeg, Int.reduceBEq, Int.reduceBNe, f6, f7, q0, z1, q2, z2, a1', b5, b6, z4, b1, z3, d1', c1, q1]
  refine loop8 (S := S) hRr hW hh grl hwl S.recs.length 0 false 0 _ μ (by omega) gs (by omega) Same.refl ?_ ?_ ?_ ?_ ?_ ?_ ?_
  · simp only [w1, w2, AV.isTup, AV.cells, ↓reduceIte, Nat.reduceEqDiff, Nat.reduceAdd, Int.reduceLT, Int.reduceLE, Int.reduceNeg, Int.reduceBEq, Int.reduceBNe]
  · simp only [w1, w2, AV.isTup, AV.cells, ↓reduceIte, Nat.reduceEqDiff, Nat.reduceAdd, Int.reduceLT, Int.reduceLE, Int.reduceNeg, Int.reduceBEq, Int.reduceBNe]
  · simp only [w1, w2, AV.isTup, AV.cells, ↓reduceIte, Nat.reduceEqDiff, Nat.reduceAdd, Int.reduceLT, Int.reduceLE, Int.reduceNeg, Int.reduceBEq, Int.reduceBNe]; rfl
  · simp only [w1, w2, AV.isTup, AV.cells, ↓reduceIte, Nat.reduceEqDiff, Nat.reduceAdd, Int.reduceLT, Int.reduceLE, Int.reduceNeg, Int.reduceBEq, Int.reduceBNe, f8]
  · simp only [w1, w2, AV.isTup, AV.cells, ↓reduceIte, Nat.reduceEqDiff, Nat.reduceAdd, Int.reduceLT, Int.reduceLE, Int.reduceNeg, Int.reduceBEq, Int.reduceBNe]; rfl
  · simp only [w1, w2, AV.isTup, AV.cells, ↓reduceIte, Nat.reduceEqDiff, Nat.reduceAdd, Int.reduceLT, Int.reduceLE, Int.reduceNeg, Int.reduceBEq, Int.reduceBNe]
  · intro fr' μ' g8 g10 g11
    have z5 : (((wantOf kind n).length : Int) == ((wantOf kind n).length : Int)) = true := by simp
    rw [hwc] at g8
    simp only [w1, w2, AV.isTup, AV.cells, ↓reduceIte, Nat.reduceEqDiff, Nat.reduceAdd, Int.reduceLT, Int.reduceLE, Int.reduceNeg, Int.reduceBEq, Int.reduceBNe, g8, g10, g11, z5, aRet, aRes, aRes1]
    exact ⟨_, rfl, rfl⟩

theorem wantLoop {lo : Nat} {s : List It} {Q : Fr → Mem → Prop} {br be : Nat} : ∀ (d : Nat) (l : List Int) (c : Cell) (fr : Fr) (μ : Mem), d < 100 → l.length + d < 200 → Nums lo μ c l → fr 8 = .c c → fr 9 = .c (.int .i64 d) → fr 6 = pt br 0 → fr 7 = pt be 0 → fr 4 = .c (.int .i64 1) →
    (∀ fr' μ' c', Nums lo μ' c' (l ++ (List.range d).map fun i => ((d - i : Nat) : Int)) → Same lo μ μ' → fr' 8 = .c c' → fr' 6 = pt br 0 → fr' 7 = pt be 0 → fr' 4 = .c (.int .i64 1) → R s fr' μ' Q) → R (.c (.loop b8_0) :: .blk 0 :: s) fr μ Q := by
  intro d
  induction d with
  | zero =>
    intro l c fr μ hd hl hN f8 f9 f6 f7 f4 hend
    rw [R_loop]
    simp only [b8_0]
    simp only [w1, w2, AV.isTup, AV.cells, ↓reduceIte, Nat.reduceEqDiff, Nat.reduceAdd, Int.reduceLT, Int.reduceLE, Int.reduceNeg, Int.reduceBEq, Int.reduceBNe, f9]
    rw [decide_eq_false (by omega)]
    simp only [w1, w2, AV.isTup, AV.cells, ↓reduceIte, Nat.reduceEqDiff, Nat.reduceAdd, Int.reduceLT, Int.reduceLE, Int.reduceNeg, Int.reduceBEq, Int.reduceBNe]
    rw [R_exit rfl]
    refine hend _ μ c (by simpa using hN) Same.refl ?_ ?_ ?_ ?_
    · simp only [w1, w2, AV.isTup, AV.cells, ↓reduceIte, Nat.reduceEqDiff, Nat.reduceAdd, Int.reduceLT, Int.reduceLE, Int.reduceNeg, Int.reduceBEq, Int.reduceBNe, f8]
    · simp only [w1, w2, AV.isTup, AV.cells, ↓reduceIte, Nat.reduceEqDiff, Nat.reduceAdd, Int.reduceLT, Int.reduceLE, Int.reduceNeg, Int.reduceBEq, Int.reduceBNe, f6]
    · simp only [w1, w2, AV.isTup, AV.cells, ↓reduceIte, Nat.reduceEqDiff, Nat.reduceAdd, Int.reduceLT, Int.reduceLE, Int.reduceNeg, Int.reduceBEq, Int.reduceBNe, f7]
    · simp only [w1, w2, AV.isTup, AV.cells, ↓reduceIte, Nat.reduceEqDiff, Nat.reduceAdd, Int.reduceLT, Int.reduceLE, Int.reduceNeg, Int.reduceBEq, Int.reduceBNe, f4]
  | succ d ih =>
    intro l c fr μ hd hl hN f8 f9 f6 f7 f4 hend
    obtain ⟨c', μ', e1, hN', hs'⟩ := hN.app [((d + 1 : Nat) : Int)] (by unfold roomy; simp; omega)
    simp only [cat, irow, List.append_nil, List.length_cons, List.length_nil, Nat.zero_add] at e1
    have hwi : IntKind.i64.wrap (((d + 1 : Nat) : Int) - 1) = (d : Int) := by rw [small (by omega)]; omega
    rw [R_loop]
    simp only [b8_0]
    simp only [w1, w2, AV.isTup, AV.cells, ↓reduceIte, Nat.reduceEqDiff, Nat.reduceAdd, Int.reduceLT, Int.reduceLE, Int.reduceNeg, Int.reduceBEq, Int.reduceBNe, f9]
    rw [decide_eq_true (by omega)]
    simp only [w1, w2, AV.isTup, AV.cells, ↓reduceIte, Nat.reduceEqDiff, Nat.reduceAdd, Int.reduceLT, Int.reduceLE, Int.reduceNeg, Int.reduceBEq, Int.reduceBNe, f8, f9, m2, fillc, wr, rep, Nat.reduceLeDiff, Nat.reduceAdd, Nat.reduceMul, List.append_nil, e1, hwi]
    rw [R_lp]
    refine ih (l ++ [((d + 1 : Nat) : Int)]) c' _ μ' (by omega) (by simp; omega) hN' ?_ ?_ ?_ ?_ ?_ ?_
    · simp only [w1, w2, AV.isTup, AV.cells, ↓reduceIte, Nat.reduceEqDiff, Nat.reduceAdd, Int.reduceLT, Int.reduceLE, Int.reduceNeg, Int.reduceBEq, Int.reduceBNe]
    · simp only [w1, w2, AV.isTup, AV.cells, ↓reduceIte, Nat.reduceEqDiff, Nat.reduceAdd, Int.reduceLT, Int.reduceLE, Int.reduceNeg, Int.reduceBEq, Int.reduceBNe]
    · simp only [w1, w2, AV.isTup, AV.cells, ↓reduceIte, Nat.reduceEqDiff, Nat.reduceAdd, Int.reduceLT, Int.reduceLE, Int.reduceNeg, Int.reduceBEq, Int.reduceBNe, f6]
    · simp only [w1, w2, AV.isTup, AV.cells, ↓reduceIte, Nat.reduceEqDiff, Nat.reduceAdd, Int.reduceLT, Int.reduceLE, Int.reduceNeg, Int.reduceBEq, Int.reduceBNe, f7]
    · simp only [w1, w2, AV.isTup, AV.cells, ↓reduceIte, Nat.reduceEqDiff, Nat.reduceAdd, Int.reduceLT, Int.reduceLE, Int.reduceNeg, Int.reduceBEq, Int.reduceBNe, f4]
    · intro fr' μ2 c2 h1 h2 h3 h4 h5 h6
      refine hend fr' μ2 c2 ?_ (hs'.trans h2) h3 h4 h5 h6
      rw [List.range_succ_eq_map, List.map_cons, List.map_map]
      have : (fun i => ((d + 1 - i : Nat) : Int)) ∘ Nat.succ = fun i => ((d - i : Nat) : Int) := by
        funext i; simp only [Function.comp_apply]; congr 1; omega
      rw [this]
      rw [List.append_assoc, List.singleton_append] at h1
      exact h1

theorem law8 {hi : Nat} {μ : Mem} {c : Cell} {b : List Int} (hR : Rd hi μ 1 c b.length (cat brow 0 b)) (hhi : hi ≤ μ.next) (hn : μ.next = 1) (hr : ∀ y ∈ b, 0 ≤ y ∧ y ≤ 255) : Ret 8 [.c c] μ fun v μ' => v = .c (.bool true) := by
  obtain ⟨a, cap, hc, _⟩ := id hR
  refine Ret_of p8 (by simp [r8]) ?_
  simp only [r8, frOf_1]
  have w0 := wByte_ok hR hr 0
  have w1' := wByte_ok hR hr 1
  have g0 := pB_range hr 0
  have g1 := pB_range hr 1
  generalize pB b 0 = x0 at *
  generalize pB b 1 = x1 at *
  obtain ⟨m0, hm0, hm0l⟩ := tmod_nat (a := x0) (n := 10) g0.1
  obtain ⟨m1, hm1, hm1l⟩ := tmod_nat (a := x1) (n := 4) g1.1
  have hm0l := hm0l (by omega)
  have hm1l := hm1l (by omega)
  have hm0' : x0.tmod 10 = m0 := hm0
  have hm1' : x1.tmod 4 = m1 := hm1
  have hv0 : vbin .rem (.c (.int .i64 x0)) (.c (.int .i64 10)) = some (.c (.int .i64 (m0 : Int))) := by rw [vbin_rem (by omega), hm0']
  have hv1 : vbin .rem (.c (.int .i64 x1)) (.c (.int .i64 4)) = some (.c (.int .i64 (m1 : Int))) := by rw [vbin_rem (by omega), hm1']
  have hw0 : IntKind.i64.wrap (1 + (m0 : Int)) = ((m0 + 1 : Nat) : Int) := by rw [small (by omega)]; omega
  subst hc
  simp only [w1, w2, AV.isTup, AV.cells, ↓reduceIte, Nat.reduceEqDiff, Nat.reduceAdd, Int.reduceLT, Int.reduceLE, Int.reduceNeg, Int.reduceBEq, Int.reduceBNe]
  by_cases hlen : (b.length : Int) > 1048576
  · rw [decide_eq_true hlen]
    simp only [w1, w2, AV.isTup, AV.cells, ↓reduceIte, Nat.reduceEqDiff, Nat.reduceAdd, Int.reduceLT, Int.reduceLE, Int.reduceNeg, Int.reduceBEq, Int.reduceBNe, aRet, aRes, aRes1]
    exact ⟨_, rfl, rfl⟩
  rw [decide_eq_false hlen]
  simp only [w1, w2, AV.isTup, AV.cells, ↓reduceIte, Nat.reduceEqDiff, Nat.reduceAdd, Int.reduceLT, Int.reduceLE, Int.reduceNeg, Int.reduceBEq, Int.reduceBNe]
  refine R_calls (l := [.c (.slc a b.length cap), .c (.int .i64 ((0 : Nat) : Int))]) (by simp only [w1, w2, AV.isTup, AV.cells, ↓reduceIte, Nat.reduceEqDiff, Nat.reduceAdd, Int.reduceLT, Int.reduceLE, Int.reduceNeg, Int.reduceBEq, Int.reduceBNe]; rfl) w0 ?_
  rintro v μa ⟨rfl, rfl⟩
  simp only [w1, w2, AV.isTup, AV.cells, ↓reduceIte, Nat.reduceEqDiff, Nat.reduceAdd, Int.reduceLT, Int.reduceLE, Int.reduceNeg, Int.reduceBEq, Int.reduceBNe, hv0, hw0]
  refine R_calls (l := [.c (.slc a b.length cap), .c (.int .i64 ((1 : Nat) : Int))]) (by simp only [w1, w2, AV.isTup, AV.cells, ↓reduceIte, Nat.reduceEqDiff, Nat.reduceAdd, Int.reduceLT, Int.reduceLE, Int.reduceNeg, Int.reduceBEq, Int.reduceBNe]; rfl) w1' ?_
  rintro v μb ⟨rfl, rfl⟩
  simp only [w1, w2, AV.isTup, AV.cells, ↓reduceIte, Nat.reduceEqDiff, Nat.reduceAdd, Int.reduceLT, Int.reduceLE, Int.reduceNeg, Int.reduceBEq, Int.reduceBNe, hv1]
  by_cases h3 : m1 = 3
  · have h3b : ((m1 : Int) == 3) = true := beq_tt (by omega)
    simp only [w1, w2, AV.isTup, AV.cells, ↓reduceIte, Nat.reduceEqDiff, Nat.reduceAdd, Int.reduceLT, Int.reduceLE, Int.reduceNeg, Int.reduceBEq, Int.reduceBNe, h3b]
    have hmade := made_call (g := 31) (args := [.c (.int .i64 ((m0 + 1 : Nat) : Int))]) p31 (by simp [r31]) hn (fun f => deep_made (n := m0 + 1) (by omega) f)
    refine R_calls (l := [.c (.int .i64 ((m0 + 1 : Nat) : Int))]) (by simp only [w1, w2, AV.isTup, AV.cells, ↓reduceIte, Nat.reduceEqDiff, Nat.reduceAdd, Int.reduceLT, Int.reduceLE, Int.reduceNeg, Int.reduceBEq, Int.reduceBNe]) hmade ?_
    rintro v μ1 ⟨pc, rfl, hP⟩
    obtain ⟨hok, hlens⟩ := deep_ok (n := m0 + 1) (by omega)
    simp only [w1, w2, AV.isTup, AV.cells, ↓reduceIte, Nat.reduceEqDiff, Nat.reduceAdd, Int.reduceLT, Int.reduceLE, Int.reduceNeg, Int.reduceBEq, Int.reduceBNe]
    refine R_calls (l := [.agg [pc]]) (by simp only [w1, w2, AV.isTup, AV.cells, ↓reduceIte, Nat.reduceEqDiff, Nat.reduceAdd, Int.reduceLT, Int.reduceLE, Int.reduceNeg, Int.reduceBEq, Int.reduceBNe]) (iPlanOk_ok hP (Nat.le_refl _) hlens) ?_
    rintro v μ2 ⟨rfl, hs2⟩
    have hw2 : IntKind.i64.wrap (((m0 + 1 : Nat) : Int) + 2) = ((m0 + 1 : Nat) : Int) + 2 := small (by omega)
    rw [hok]
    simp only [w1, w2, AV.isTup, AV.cells, ↓reduceIte, Nat.reduceEqDiff, Nat.reduceAdd, Int.reduceLT, Int.reduceLE, Int.reduceNeg, Int.reduceBEq, Int.reduceBNe, m2, fillc, wr, rep, Nat.reduceLeDiff, Nat.reduceAdd, Nat.reduceMul, List.append_nil, hw2, flt3, fltc, aeq, eqInts, aRet, aRes, aRes1]
    exact ⟨_, rfl, rfl⟩
  have h3b : ((m1 : Int) == 3) = false := beq_ff (by omega)
  have hm1k : m1 < 3 := by omega
  simp only [w1, w2, AV.isTup, AV.cells, ↓reduceIte, Nat.reduceEqDiff, Nat.reduceAdd, Int.reduceLT, Int.reduceLE, Int.reduceNeg, Int.reduceBEq, Int.reduceBNe, h3b]
  obtain ⟨S, hgo, hgood⟩ := gone_run (n := m0 + 1) (kind := m1) (by omega) hm1k
  have hmade := made_call (g := 32) (args := [.c (.int .i64 m1), .c (.int .i64 ((m0 + 1 : Nat) : Int))]) p32 (by simp [r32]) hn (fun f => gone_made (n := m0 + 1) (kind := m1) (by omega) hm1k f)
  refine R_calls (l := [.c (.int .i64 m1), .c (.int .i64 ((m0 + 1 : Nat) : Int))]) (by simp only [w1, w2, AV.isTup, AV.cells, ↓reduceIte, Nat.reduceEqDiff, Nat.reduceAdd, Int.reduceLT, Int.reduceLE, Int.reduceNeg, Int.reduceBEq, Int.reduceBNe]) hmade ?_
  rintro v μ1 ⟨pc, rfl, hP⟩
  have e1 : (μ1.new [.slc none 0 0] 0).st μ1.next 0 [pc] = some (μ1.new [pc] 0) := new_st0 rfl
  have hP2 : PlanR μ1.next (μ1.new [pc] 0) pc (madeGone m1 (m0 + 1)) := hP.same (Same.tmp (Nat.le_refl _)) (Nat.le_refl _)
  have l1 : (μ1.new [pc] 0).ld (some 1) μ1.next 0 = some (.agg [pc]) := by rw [Mem.new_ld, if_pos rfl]; rfl
  simp only [w1, w2, AV.isTup, AV.cells, ↓reduceIte, Nat.reduceEqDiff, Nat.reduceAdd, Int.reduceLT, Int.reduceLE, Int.reduceNeg, Int.reduceBEq, Int.reduceBNe, e1, l1]
  refine R_calls (l := [.agg [pc], .c (.int .i64 500)]) (by simp only [w1, w2, AV.isTup, AV.cells, ↓reduceIte, Nat.reduceEqDiff, Nat.reduceAdd, Int.reduceLT, Int.reduceLE, Int.reduceNeg, Int.reduceBEq, Int.reduceBNe]) (runPlan_ok hP2 (Nat.le_succ _) hgo.plan hgo) ?_
  rintro v μ2 ⟨⟨rc, sc, rfl, hRr, hRs⟩, hs2⟩
  have e2 : (μ2.new [.int .i64 0, .slc none 0 0, .int .i64 0, .int .i64 0, .slc none 0 0] 0).st μ2.next 0 [.int .i64 S.report.code, rc, .int .i64 S.report.num, .int .i64 S.report.ticks, sc] =
    some (μ2.new [.int .i64 S.report.code, rc, .int .i64 S.report.num, .int .i64 S.report.ticks, sc] 0) := new_st0 rfl
  simp only [Mem.new_next] at hs2
  have hs3 : Same (μ1.next + 1) (μ1.new [pc] 0) (μ2.new [.int .i64 S.report.code, rc, .int .i64 S.report.num, .int .i64 S.report.ticks, sc] 0) := hs2.new hs2.2
  have n2 : μ1.next + 1 ≤ μ2.next := hs2.2
  have l2 := (hs3.ld (n := some 1) (i := μ1.next) (o := 0) (by omega)).trans l1
  have r0 : (μ2.new [.int .i64 S.report.code, rc, .int .i64 S.report.num, .int .i64 S.report.ticks, sc] 0).ld none μ2.next 0 = some (.c (.int .i64 S.report.code)) := new_ld0 rfl
  have r1 : (μ2.new [.int .i64 S.report.code, rc, .int .i64 S.report.num, .int .i64 S.report.ticks, sc] 0).ld none μ2.next 1 = some (.c rc) := new_ld0 rfl
  have hP3 := hP2.same hs3 (Nat.le_succ _)
  have hRr3 := hRr.same (Same.tmp (Nat.le_refl _) : Same μ2.next μ2 (μ2.new [.int .i64 S.report.code, rc, .int .i64 S.report.num, .int .i64 S.report.ticks, sc] 0)) (Nat.le_refl _)
  have n3 : (μ2.new [.int .i64 S.report.code, rc, .int .i64 S.report.num, .int .i64 S.report.ticks, sc] 0).next = μ2.next + 1 := rfl
  simp only [w1, w2, AV.isTup, AV.cells, ↓reduceIte, Nat.reduceEqDiff, Nat.reduceAdd, Int.reduceLT, Int.reduceLE, Int.reduceNeg, Int.reduceBEq, Int.reduceBNe, e2, l2]
  generalize μ2.new [.int .i64 S.report.code, rc, .int .i64 S.report.num, .int .i64 S.report.ticks, sc] 0 = μ3 at *
  refine R_calls (l := [.agg [pc], .c (.int .i64 500)]) (by simp only [w1, w2, AV.isTup, AV.cells, ↓reduceIte, Nat.reduceEqDiff, Nat.reduceAdd, Int.reduceLT, Int.reduceLE, Int.reduceNeg, Int.reduceBEq, Int.reduceBNe]) (endOf_ok hP3 (by omega) hgo.plan hgo) ?_
  rintro v μ4 ⟨⟨ec, g, rfl, hE1, hE2⟩, hs4⟩
  have e4 : (μ4.new [.bool false, .int .i64 0, .slc none 0 0] 0).st μ4.next 0 [.bool S.stand.ok, .int .i64 S.stand.running, ec] = some (μ4.new [.bool S.stand.ok, .int .i64 S.stand.running, ec] 0) := new_st0 rfl
  have n4 : μ3.next ≤ μ4.next := hs4.2
  have hs5 : Same μ3.next μ3 (μ4.new [.bool S.stand.ok, .int .i64 S.stand.running, ec] 0) := hs4.new n4
  have q0 := (hs5.ld (n := none) (i := μ2.next) (o := 0) (by omega)).trans r0
  have q1 := (hs5.ld (n := none) (i := μ2.next) (o := 1) (by omega)).trans r1
  have q2 : (μ4.new [.bool S.stand.ok, .int .i64 S.stand.running, ec] 0).ld none μ4.next 2 = some (.c ec) := new_ld0 rfl
  have hRr5 := (hRr3.same hs5 (by omega)).mono (show μ2.next ≤ μ4.next by omega)
  have hE5 := hE1.same (Same.tmp (Nat.le_refl _) : Same μ4.next μ4 (μ4.new [.bool S.stand.ok, .int .i64 S.stand.running, ec] 0)) (Nat.le_refl _)
  have n5 : (μ4.new [.bool S.stand.ok, .int .i64 S.stand.running, ec] 0).next = μ4.next + 1 := rfl
  have hrl : S.report.recs = S.recs := rfl
  have hrc0 : S.report.code = S.code := rfl
  rw [hrl] at hRr5
  rw [hrc0] at q0
  simp only [w1, w2, AV.isTup, AV.cells, ↓reduceIte, Nat.reduceEqDiff, Nat.reduceAdd, Int.reduceLT, Int.reduceLE, Int.reduceNeg, Int.reduceBEq, Int.reduceBNe, e4]
  generalize μ4.new [.bool S.stand.ok, .int .i64 S.stand.running, ec] 0 = μ6 at *
  have fin : ∀ (μ' : Mem) (wc : Cell) (fr : Fr) (s : List It), Same (μ4.next + 1) μ6 μ' → Rd μ'.next μ' 1 wc (wantOf m1 (m0 + 1)).length (cat irow 0 (wantOf m1 (m0 + 1))) → fr 6 = pt μ2.next 0 → fr 7 = pt μ4.next 0 → fr 8 = .c wc →
      R (.c t8 :: s) fr μ' (fun fr' μ1 => ∃ v, aRet fr' μ1 [.tmp 2] = some v ∧ v = .c (.bool true)) := by
    intro μ' wc fr s hs hW f6 f7 f8
    have hsn := hs.2
    exact tail8 hgood (by omega) ((hRr5.same hs (Nat.le_succ _)).mono (by omega)) hW (Nat.le_refl _) ((hE5.same hs (Nat.le_succ _)).mono (by omega)) ((hs.ld (by omega)).trans q0) ((hs.ld (by omega)).trans q1) ((hs.ld (by omega)).trans q2) f6 f7 f8
  have bslS : ∀ l : List Cell, Same (μ4.next + 1) μ6 (μ6.new l 1) := fun l => Same.tmp (by omega)
  by_cases h1 : m1 = 1
  · have h1b : ((m1 : Int) == 1) = true := beq_tt (by omega)
    have h2b : ((m1 : Int) == 2) = false := beq_ff (by omega)
    simp only [w1, w2, AV.isTup, AV.cells, ↓reduceIte, Nat.reduceEqDiff, Nat.reduceAdd, Int.reduceLT, Int.reduceLE, Int.reduceNeg, Int.reduceBEq, Int.reduceBNe, m2, fillc, wr, rep, Nat.reduceLeDiff, Nat.reduceAdd, Nat.reduceMul, List.append_nil, h1b]
    refine wantLoop (lo := μ6.next + 1) (br := μ2.next) (be := μ4.next) (m0 + 1) [] (.slc none 0 0) _ _ (by omega) (by simp; omega) (Nums.nil (Nat.le_refl _)) ?_ ?_ ?_ ?_ ?_ ?_
    · simp only [w1, w2, AV.isTup, AV.cells, ↓reduceIte, Nat.reduceEqDiff, Nat.reduceAdd, Int.reduceLT, Int.reduceLE, Int.reduceNeg, Int.reduceBEq, Int.reduceBNe]
    · simp only [w1, w2, AV.isTup, AV.cells, ↓reduceIte, Nat.reduceEqDiff, Nat.reduceAdd, Int.reduceLT, Int.reduceLE, Int.reduceNeg, Int.reduceBEq, Int.reduceBNe]
    · simp only [w1, w2, AV.isTup, AV.cells, ↓reduceIte, Nat.reduceEqDiff, Nat.reduceAdd, Int.reduceLT, Int.reduceLE, Int.reduceNeg, Int.reduceBEq, Int.reduceBNe]
    · simp only [w1, w2, AV.isTup, AV.cells, ↓reduceIte, Nat.reduceEqDiff, Nat.reduceAdd, Int.reduceLT, Int.reduceLE, Int.reduceNeg, Int.reduceBEq, Int.reduceBNe]
    · simp only [w1, w2, AV.isTup, AV.cells, ↓reduceIte, Nat.reduceEqDiff, Nat.reduceAdd, Int.reduceLT, Int.reduceLE, Int.reduceNeg, Int.reduceBEq, Int.reduceBNe, h1]; rfl
    · intro fr' μ7 c7 hN7 hs7 f8 f6 f7 f4
      obtain ⟨c8, μ8, e8, hN8, hs8⟩ := hN7.app [0, 1] (by unfold roomy; simp; omega)
      simp only [cat, irow, List.append_nil, List.length_cons, List.length_nil, Nat.zero_add, List.cons_append, List.nil_append] at e8
      have h2b' : ((1 : Int) == 2) = false := rfl
      simp only [w1, w2, AV.isTup, AV.cells, ↓reduceIte, Nat.reduceEqDiff, Nat.reduceAdd, Int.reduceLT, Int.reduceLE, Int.reduceNeg, Int.reduceBEq, Int.reduceBNe, f8, m2, fillc, wr, rep, Nat.reduceLeDiff, Nat.reduceAdd, Nat.reduceMul, List.append_nil, e8, f4, h2b']
      refine fin μ8 c8 _ _ ?_ ?_ ?_ ?_ ?_
      · have hs67 : Same (μ4.next + 1) μ6 μ7 := (Same.tmp (by omega)).trans (hs7.mono (by omega))
        exact hs67.trans (hs8.mono (by omega))
      · have := hN8.rd
        simpa [wantOf, h1] using this
      · simp only [w1, w2, AV.isTup, AV.cells, ↓reduceIte, Nat.reduceEqDiff, Nat.reduceAdd, Int.reduceLT, Int.reduceLE, Int.reduceNeg, Int.reduceBEq, Int.reduceBNe, f6]
      · simp only [w1, w2, AV.isTup, AV.cells, ↓reduceIte, Nat.reduceEqDiff, Nat.reduceAdd, Int.reduceLT, Int.reduceLE, Int.reduceNeg, Int.reduceBEq, Int.reduceBNe, f7]
      · simp only [w1, w2, AV.isTup, AV.cells, ↓reduceIte, Nat.reduceEqDiff, Nat.reduceAdd, Int.reduceLT, Int.reduceLE, Int.reduceNeg, Int.reduceBEq, Int.reduceBNe]
  · have h1b : ((m1 : Int) == 1) = false := beq_ff (by omega)
    by_cases h2 : m1 = 2
    · have h2b : ((m1 : Int) == 2) = true := beq_tt (by omega)
      simp only [w1, w2, AV.isTup, AV.cells, ↓reduceIte, Nat.reduceEqDiff, Nat.reduceAdd, Int.reduceLT, Int.reduceLE, Int.reduceNeg, Int.reduceBEq, Int.reduceBNe, m2, fillc, wr, rep, Nat.reduceLeDiff, Nat.reduceAdd, Nat.reduceMul, List.append_nil, h1b, h2b]
      refine fin _ (.slc (some (μ6.next + 1, 0)) 2 2) _ _ ((Same.tmp (by omega)).new (by simp only [Mem.new_next]; omega)) ?_ ?_ ?_ ?_
      · rw [h2]
        refine ⟨some (μ6.next + 1, 0), 2, rfl, rfl, by simp only [Mem.new_next]; omega, ⟨[.int .i64 (-10), .int .i64 0], 1, false⟩, ?_, rfl, rfl⟩
        simp only [Mem.new, if_true]
      · simp only [w1, w2, AV.isTup, AV.cells, ↓reduceIte, Nat.reduceEqDiff, Nat.reduceAdd, Int.reduceLT, Int.reduceLE, Int.reduceNeg, Int.reduceBEq, Int.reduceBNe]
      · simp only [w1, w2, AV.isTup, AV.cells, ↓reduceIte, Nat.reduceEqDiff, Nat.reduceAdd, Int.reduceLT, Int.reduceLE, Int.reduceNeg, Int.reduceBEq, Int.reduceBNe]
      · simp only [w1, w2, AV.isTup, AV.cells, ↓reduceIte, Nat.reduceEqDiff, Nat.reduceAdd, Int.reduceLT, Int.reduceLE, Int.reduceNeg, Int.reduceBEq, Int.reduceBNe]; rfl
    · have h2b : ((m1 : Int) == 2) = false := beq_ff (by omega)
      have h0 : m1 = 0 := by omega
      simp only [w1, w2, AV.isTup, AV.cells, ↓reduceIte, Nat.reduceEqDiff, Nat.reduceAdd, Int.reduceLT, Int.reduceLE, Int.reduceNeg, Int.reduceBEq, Int.reduceBNe, m2, fillc, wr, rep, Nat.reduceLeDiff, Nat.reduceAdd, Nat.reduceMul, List.append_nil, h1b, h2b]
      refine fin _ (.slc (some (μ6.next, 0)) 2 2) _ _ (Same.tmp (by omega)) ?_ ?_ ?_ ?_
      · rw [h0]
        refine ⟨some (μ6.next, 0), 2, rfl, rfl, by simp only [Mem.new_next]; omega, ⟨[.int .i64 1, .int .i64 0], 1, false⟩, ?_, rfl, rfl⟩
        simp only [Mem.new, if_true]
      · simp only [w1, w2, AV.isTup, AV.cells, ↓reduceIte, Nat.reduceEqDiff, Nat.reduceAdd, Int.reduceLT, Int.reduceLE, Int.reduceNeg, Int.reduceBEq, Int.reduceBNe]
      · simp only [w1, w2, AV.isTup, AV.cells, ↓reduceIte, Nat.reduceEqDiff, Nat.reduceAdd, Int.reduceLT, Int.reduceLE, Int.reduceNeg, Int.reduceBEq, Int.reduceBNe]
      · simp only [w1, w2, AV.isTup, AV.cells, ↓reduceIte, Nat.reduceEqDiff, Nat.reduceAdd, Int.reduceLT, Int.reduceLE, Int.reduceNeg, Int.reduceBEq, Int.reduceBNe]
end Go.Proofs.Ytibmnlijoeppaaa
