/-
  The law FnRing returns true: its own code walked.
-/
import Derived.Test.YtibmnlijoeppaaaMRing1
import Derived.Test.YtibmnlijoeppaaaMRing2
import Derived.Test.YtibmnlijoeppaaaMRing3
import Derived.Test.YtibmnlijoeppaaaMRing4
namespace Go.Proofs.Ytibmnlijoeppaaa
set_option linter.unusedSimpArgs false
set_option linter.unusedVariables false

theorem ring_chk {n lo len k : Nat} (h : ringChks n lo len = true) (h1 : lo ≤ k) (h2 : k < lo + len) : ringChk n k = true := by
  unfold ringChks at h
  rw [List.all_eq_true] at h
  have := h (k - lo) (List.mem_range.2 (by omega))
  rwa [show lo + (k - lo) = k by omega] at this

theorem ring_run {n k : Nat} (hn : 1 ≤ n ∧ n ≤ 20) (hk : k ≤ n) : ∃ S, Goes (madeRing n k) 500 none S ∧ ringGood n k S = true := by
  refine ringGoes ?_
  obtain ⟨h1, h2⟩ := hn
  have : n = 1 ∨ n = 2 ∨ n = 3 ∨ n = 4 ∨ n = 5 ∨ n = 6 ∨ n = 7 ∨ n = 8 ∨ n = 9 ∨ n = 10 ∨ n = 11 ∨ n = 12 ∨ n = 13 ∨ n = 14 ∨ n = 15 ∨ n = 16 ∨ n = 17 ∨ n = 18 ∨ n = 19 ∨ n = 20 := by omega
  rcases this with rfl | rfl | rfl | rfl | rfl | rfl | rfl | rfl | rfl | rfl | rfl | rfl | rfl | rfl | rfl | rfl | rfl | rfl | rfl | rfl
  · exact ring_chk ring_c1_0 (by omega) (by omega)
  · exact ring_chk ring_c2_0 (by omega) (by omega)
  · exact ring_chk ring_c3_0 (by omega) (by omega)
  · exact ring_chk ring_c4_0 (by omega) (by omega)
  · exact ring_chk ring_c5_0 (by omega) (by omega)
  · exact ring_chk ring_c6_0 (by omega) (by omega)
  · exact ring_chk ring_c7_0 (by omega) (by omega)
  · exact ring_chk ring_c8_0 (by omega) (by omega)
  · exact ring_chk ring_c9_0 (by omega) (by omega)
  · exact ring_chk ring_c10_0 (by omega) (by omega)
  · exact ring_chk ring_c11_0 (by omega) (by omega)
  · exact ring_chk ring_c12_0 (by omega) (by omega)
  · exact ring_chk ring_c13_0 (by omega) (by omega)
  · exact ring_chk ring_c14_0 (by omega) (by omega)
  · exact ring_chk ring_c15_0 (by omega) (by omega)
  · exact ring_chk ring_c16_0 (by omega) (by omega)
  · by_cases h : k < 9
    · exact ring_chk ring_c17_0 (by omega) (by omega)
    · exact ring_chk ring_c17_9 (by omega) (by omega)
  · by_cases h : k < 10
    · exact ring_chk ring_c18_0 (by omega) (by omega)
    · exact ring_chk ring_c18_10 (by omega) (by omega)
  · by_cases h : k < 10
    · exact ring_chk ring_c19_0 (by omega) (by omega)
    · exact ring_chk ring_c19_10 (by omega) (by omega)
  · by_cases h : k < 11
    · exact ring_chk ring_c20_0 (by omega) (by omega)
    · exact ring_chk ring_c20_11 (by omega) (by omega)

/-! 6: laws.FnRing -/
def b6_0 : RCode :=
 (.seq
  (.reg [⟨0, .bin .lss (.t 58) (.t 57), some 59, none, []⟩])
  (.seq
   (.ite (.t 59)
    .skip
    (.exit 0))
   (.seq
    (.blk 1
     (.seq
      (.reg [⟨0, .mv (.t 58), some 60, none, []⟩,
        ⟨1, .ias (.t 56) (.t 58) 1, some 61, none, []⟩,
        ⟨2, .ld none (.t 61), some 62, none, []⟩,
        ⟨3, .mv (.t 60), some 8, none, []⟩,
        ⟨4, .mv (.t 62), some 9, none, []⟩])
      (.seq
       (.reg [⟨0, .mv (.t 9), some 63, none, []⟩,
         ⟨1, .mv (.t 4), some 64, none, []⟩,
         ⟨2, .mv (.t 8), some 65, none, []⟩,
         ⟨3, .bin .add (.t 64) (.t 65), some 66, none, []⟩,
         ⟨4, .bin .neq (.t 63) (.t 66), some 67, none, []⟩,
         ⟨5, .mv (.t 67), some 68, none, []⟩,
         ⟨6, .mv (.t 7), some 69, some (68, false), []⟩,
         ⟨7, .ias (.t 69) (.k (.int .i64 0)) 2, some 70, some (68, false), []⟩,
         ⟨8, .fa (.t 70) 0, some 71, some (68, false), []⟩,
         ⟨9, .ld none (.t 71), some 72, some (68, false), []⟩,
         ⟨10, .bin .lss (.t 72) (.k (.int .i64 0)), some 73, some (68, false), []⟩,
         ⟨11, .pick (.t 68) (.k (.bool true)) (.t 73), some 74, none, []⟩,
         ⟨12, .mv (.t 74), some 75, none, []⟩,
         ⟨13, .mv (.t 7), some 76, some (75, false), []⟩,
         ⟨14, .ias (.t 76) (.k (.int .i64 0)) 2, some 77, some (75, false), []⟩,
         ⟨15, .fa (.t 77) 0, some 78, some (75, false), []⟩,
         ⟨17, .mv (.t 8), some 80, some (75, false), []⟩,
         ⟨19, .fa (.t 6) 1, some 82, some (75, false), []⟩,
         ⟨16, .ld none (.t 78), some 79, some (75, false), []⟩,
         ⟨18, .bin .add (.t 79) (.t 80), some 81, some (75, false), []⟩,
         ⟨20, .ld none (.t 82), some 83, some (75, false), []⟩,
         ⟨21, .len (.t 83), some 84, some (75, false), []⟩,
         ⟨22, .bin .geq (.t 81) (.t 84), some 85, some (75, false), []⟩,
         ⟨23, .pick (.t 75) (.k (.bool true)) (.t 85), some 86, none, []⟩,
         ⟨24, .mv (.t 86), some 87, none, []⟩,
         ⟨25, .fa (.t 6) 1, some 88, some (87, false), []⟩,
         ⟨27, .mv (.t 7), some 90, some (87, false), []⟩,
         ⟨28, .ias (.t 90) (.k (.int .i64 0)) 2, some 91, some (87, false), []⟩,
         ⟨29, .fa (.t 91) 0, some 92, some (87, false), []⟩,
         ⟨31, .mv (.t 8), some 94, some (87, false), []⟩,
         ⟨35, .mv (.t 3), some 98, some (87, false), []⟩,
         ⟨36, .mv (.t 4), some 99, some (87, false), []⟩,
         ⟨37, .mv (.t 8), some 100, some (87, false), []⟩,
         ⟨38, .bin .add (.t 99) (.t 100), some 101, some (87, false), []⟩,
         ⟨39, .bld [.int .i64 0, .int .i64 0, .int .i64 0, .int .i64 0] [(0, 1, .k (.int .i64 5)), (1, 1, .t 98), (3, 1, .t 101)], some 102, some (87, false), []⟩,
         ⟨26, .ld none (.t 88), some 89, some (87, false), []⟩,
         ⟨30, .ld none (.t 92), some 93, some (87, false), []⟩,
         ⟨32, .bin .add (.t 93) (.t 94), some 95, some (87, false), []⟩,
         ⟨33, .ias (.t 89) (.t 95) 4, some 96, some (87, false), []⟩,
         ⟨34, .ld (some 4) (.t 96), some 97, some (87, false), []⟩,
         ⟨40, .eq true (.ints 4) (.t 97) (.t 102), some 103, some (87, false), []⟩,
         ⟨41, .pick (.t 87) (.k (.bool true)) (.t 103), some 104, none, []⟩])
       (.ite (.t 104)
        (.seq
         (.reg [⟨0, .mv (.k (.bool false)), some 2, none, []⟩])
         .ret)
        .skip))))
    (.reg [⟨0, .bin .add (.t 58) (.k (.int .i64 1)), some 105, none, []⟩,
      ⟨1, .mv (.t 105), some 58, none, []⟩]))))
def b6_1 : RCode :=
 (.seq
  (.reg [⟨0, .bin .lss (.t 109) (.t 108), some 110, none, []⟩])
  (.seq
   (.ite (.t 110)
    .skip
    (.exit 2))
   (.seq
    (.blk 3
     (.seq
      (.reg [⟨0, .ias (.t 107) (.t 109) 4, some 111, none, []⟩,
        ⟨1, .ld (some 4) (.t 111), some 112, none, []⟩,
        ⟨2, .alc [.int .i64 0, .int .i64 0, .int .i64 0, .int .i64 0], some 13, none, []⟩,
        ⟨3, .st (.t 13) (.t 112) 4, none, none, []⟩])
      (.seq
       (.seq
        (.reg [⟨0, .fa (.t 13) 0, some 113, none, []⟩,
          ⟨1, .ld none (.t 113), some 114, none, []⟩,
          ⟨2, .bin .eql (.t 114) (.k (.int .i64 5)), some 115, none, []⟩])
        (.ite (.t 115)
         (.reg [⟨0, .mv (.t 10), some 116, none, []⟩,
           ⟨1, .bin .add (.t 116) (.k (.int .i64 1)), some 117, none, []⟩,
           ⟨2, .mv (.t 117), some 10, none, []⟩])
         .skip))
       (.seq
        (.seq
         (.reg [⟨0, .fa (.t 13) 0, some 118, none, []⟩,
           ⟨1, .ld none (.t 118), some 119, none, []⟩,
           ⟨2, .bin .eql (.t 119) (.k (.int .i64 3)), some 120, none, []⟩,
           ⟨3, .mv (.t 120), some 121, none, []⟩,
           ⟨4, .fa (.t 13) 1, some 122, some (121, true), []⟩,
           ⟨5, .ld none (.t 122), some 123, some (121, true), []⟩,
           ⟨6, .mv (.t 3), some 124, some (121, true), []⟩,
           ⟨7, .bin .neq (.t 123) (.t 124), some 125, some (121, true), []⟩,
           ⟨8, .mv (.t 125), some 126, some (121, true), []⟩,
           ⟨9, .fa (.t 13) 3, some 127, some (126, false), []⟩,
           ⟨10, .ld none (.t 127), some 128, some (126, false), []⟩,
           ⟨11, .bin .neq (.t 128) (.k (.int .i64 (-10))), some 129, some (126, false), []⟩,
           ⟨12, .pick (.t 126) (.k (.bool true)) (.t 129), some 130, some (121, true), []⟩,
           ⟨13, .pick (.t 121) (.t 130) (.k (.bool false)), some 131, none, []⟩])
         (.ite (.t 131)
          (.seq
           (.reg [⟨0, .mv (.k (.bool false)), some 2, none, []⟩])
           .ret)
          .skip))
        (.seq
         (.reg [⟨0, .fa (.t 13) 0, some 132, none, []⟩,
           ⟨1, .ld none (.t 132), some 133, none, []⟩,
           ⟨2, .bin .eql (.t 133) (.k (.int .i64 1)), some 134, none, []⟩])
         (.ite (.t 134)
          (.seq
           (.reg [⟨0, .mv (.t 11), some 135, none, []⟩,
             ⟨1, .bin .add (.t 135) (.k (.int .i64 1)), some 136, none, []⟩,
             ⟨2, .mv (.t 136), some 11, none, []⟩])
           (.seq
            (.reg [⟨0, .fa (.t 13) 3, some 137, none, []⟩,
              ⟨1, .ld none (.t 137), some 138, none, []⟩,
              ⟨2, .bin .eql (.t 138) (.k (.int .i64 (-10))), some 139, none, []⟩,
              ⟨3, .fa (.t 13) 1, some 140, none, []⟩,
              ⟨4, .ld none (.t 140), some 141, none, []⟩,
              ⟨5, .mv (.t 3), some 142, none, []⟩,
              ⟨6, .bin .eql (.t 141) (.t 142), some 143, none, []⟩,
              ⟨7, .eq true .bool (.t 139) (.t 143), some 144, none, []⟩])
            (.ite (.t 144)
             (.seq
              (.reg [⟨0, .mv (.k (.bool false)), some 2, none, []⟩])
              .ret)
             .skip)))
          .skip))))))
    (.reg [⟨0, .bin .add (.t 109) (.k (.int .i64 1)), some 145, none, []⟩,
      ⟨1, .mv (.t 145), some 109, none, []⟩]))))
def r6 : RFun := ⟨157, [.tmp 2],
 (.seq
  (.reg [⟨0, .mv (.k (.bool false)), some 2, none, []⟩])
  (.seq
   (.seq
    (.reg [⟨0, .mv (.t 0), some 14, none, []⟩,
      ⟨1, .len (.t 14), some 15, none, []⟩,
      ⟨2, .bin .gtr (.t 15) (.k (.int .i64 1048576)), some 16, none, []⟩])
    (.ite (.t 16)
     (.seq
      (.reg [⟨0, .mv (.k (.bool true)), some 2, none, []⟩])
      .ret)
     .skip))
   (.seq
    (.reg [⟨0, .mv (.t 0), some 17, none, []⟩,
      ⟨1, .call 24 [.t 17, .k (.int .i64 0)], some 18, none, []⟩,
      ⟨2, .bin .rem (.t 18) (.k (.int .i64 20)), some 19, none, []⟩,
      ⟨3, .bin .add (.k (.int .i64 1)) (.t 19), some 20, none, []⟩,
      ⟨4, .mv (.t 20), some 3, none, []⟩])
    (.seq
     (.reg [⟨0, .mv (.t 0), some 21, none, []⟩,
       ⟨1, .call 24 [.t 21, .k (.int .i64 1)], some 22, none, []⟩,
       ⟨2, .mv (.t 3), some 23, none, []⟩,
       ⟨3, .bin .add (.t 23) (.k (.int .i64 1)), some 24, none, []⟩,
       ⟨4, .bin .rem (.t 22) (.t 24), some 25, none, []⟩,
       ⟨5, .mv (.t 25), some 4, none, []⟩])
     (.seq
      (.reg [⟨0, .mv (.t 3), some 26, none, []⟩,
        ⟨1, .mv (.t 4), some 27, none, []⟩,
        ⟨2, .call 27 [.t 26, .t 27], some 28, none, []⟩,
        ⟨3, .alc [.slc none 0 0], some 5, none, []⟩,
        ⟨4, .st (.t 5) (.t 28) 1, none, none, []⟩])
      (.seq
       (.reg [⟨0, .ld (some 1) (.t 5), some 29, none, []⟩,
         ⟨1, .call 26 [.t 29, .k (.int .i64 500)], some 30, none, []⟩,
         ⟨2, .alc [.int .i64 0, .slc none 0 0, .int .i64 0, .int .i64 0, .slc none 0 0], some 6, none, []⟩,
         ⟨3, .st (.t 6) (.t 30) 5, none, none, []⟩])
       (.seq
        (.reg [⟨0, .ld (some 1) (.t 5), some 31, none, []⟩,
          ⟨1, .call 28 [.t 31, .k (.int .i64 500)], some 32, none, []⟩,
          ⟨2, .mv (.t 32), some 7, none, []⟩])
        (.seq
         (.seq
          (.reg [⟨0, .fa (.t 6) 0, some 33, none, []⟩,
            ⟨1, .ld none (.t 33), some 34, none, []⟩,
            ⟨2, .bin .neq (.t 34) (.k (.int .i64 0)), some 35, none, []⟩,
            ⟨3, .mv (.t 35), some 36, none, []⟩,
            ⟨4, .mv (.t 7), some 37, some (36, false), []⟩,
            ⟨5, .len (.t 37), some 38, some (36, false), []⟩,
            ⟨6, .bin .neq (.t 38) (.k (.int .i64 1)), some 39, some (36, false), []⟩,
            ⟨7, .pick (.t 36) (.k (.bool true)) (.t 39), some 40, none, []⟩,
            ⟨8, .mv (.t 40), some 41, none, []⟩,
            ⟨9, .mv (.t 7), some 42, some (41, false), []⟩,
            ⟨10, .ias (.t 42) (.k (.int .i64 0)) 2, some 43, some (41, false), []⟩,
            ⟨11, .fa (.t 43) 1, some 44, some (41, false), []⟩,
            ⟨12, .ld none (.t 44), some 45, some (41, false), []⟩,
            ⟨13, .len (.t 45), some 46, some (41, false), []⟩,
            ⟨14, .mv (.t 3), some 47, some (41, false), []⟩,
            ⟨15, .mv (.t 4), some 48, some (41, false), []⟩,
            ⟨16, .bin .sub (.t 47) (.t 48), some 49, some (41, false), []⟩,
            ⟨17, .bin .add (.t 49) (.k (.int .i64 1)), some 50, some (41, false), []⟩,
            ⟨18, .bin .neq (.t 46) (.t 50), some 51, some (41, false), []⟩,
            ⟨19, .pick (.t 41) (.k (.bool true)) (.t 51), some 52, none, []⟩])
          (.ite (.t 52)
           (.seq
            (.reg [⟨0, .mv (.k (.bool false)), some 2, none, []⟩])
            .ret)
           .skip))
         (.seq
          (.seq
           (.reg [⟨0, .mv (.t 7), some 53, none, []⟩,
             ⟨1, .ias (.t 53) (.k (.int .i64 0)) 2, some 54, none, []⟩,
             ⟨2, .fa (.t 54) 1, some 55, none, []⟩,
             ⟨3, .ld none (.t 55), some 56, none, []⟩,
             ⟨4, .len (.t 56), some 57, none, []⟩,
             ⟨5, .mv (.k (.int .i64 0)), some 58, none, []⟩])
           (.blk 0
            (.loop b6_0)))
          (.seq
           (.reg [⟨0, .mv (.k (.int .i64 0)), some 10, none, []⟩])
           (.seq
            (.reg [⟨0, .mv (.k (.int .i64 0)), some 11, none, []⟩])
            (.seq
             (.seq
              (.reg [⟨0, .fa (.t 6) 1, some 106, none, []⟩,
                ⟨1, .ld none (.t 106), some 107, none, []⟩,
                ⟨2, .len (.t 107), some 108, none, []⟩,
                ⟨3, .mv (.k (.int .i64 0)), some 109, none, []⟩])
              (.blk 2
               (.loop b6_1)))
             (.seq
              (.reg [⟨0, .mv (.t 10), some 146, none, []⟩,
                ⟨1, .mv (.t 3), some 147, none, []⟩,
                ⟨2, .mv (.t 4), some 148, none, []⟩,
                ⟨3, .bin .sub (.t 147) (.t 148), some 149, none, []⟩,
                ⟨4, .bin .add (.t 149) (.k (.int .i64 1)), some 150, none, []⟩,
                ⟨5, .bin .eql (.t 146) (.t 150), some 151, none, []⟩,
                ⟨6, .mv (.t 151), some 152, none, []⟩,
                ⟨7, .mv (.t 11), some 153, some (152, true), []⟩,
                ⟨8, .mv (.t 3), some 154, some (152, true), []⟩,
                ⟨9, .bin .eql (.t 153) (.t 154), some 155, some (152, true), []⟩,
                ⟨10, .pick (.t 152) (.t 155) (.k (.bool false)), some 156, none, []⟩,
                ⟨11, .mv (.t 156), some 2, none, []⟩])
              .ret)))))))))))))⟩
theorem p6 : prog 6 = some r6 := by kernel_rfl



/-- The first loop: the ring's tasks and records. -/
theorem loop6 {n k : Nat} {S : PM} {r : PRing} {rc lc tc : Cell} {br lb lo : Nat} {hi : Nat} {μ0 : Mem} (hR : Rd hi μ0 4 rc S.recs.length (cat recrow 0 S.recs)) (hT : Rd hi μ0 1 tc r.tasks.length (cat irow 0 r.tasks))
    (hlist : ∀ kd : IntKind, aidx (.c lc) (.c (.int kd 0)) 2 = some (pt lb lo)) (hpos : μ0.ld none lb lo = some (.c (.int .i64 r.pos))) (hlb : lb < μ0.next) (hrec : μ0.ld none br 1 = some (.c rc)) (hbr : br < μ0.next)
    (hn : n ≤ 20 ∧ k ≤ n) (hp0 : 0 ≤ r.pos) (hlen : r.tasks.length = n - k + 1) (hroom : S.recs.length < 1000) (hrows : ∀ i, i < n - k + 1 → ringRow n k S r i = true) {s : List It} {Q : Fr → Mem → Prop} :
    ∀ (d i : Nat) (fr : Fr), i + d = r.tasks.length → fr 56 = .c tc → fr 57 = .c (.int .i64 r.tasks.length) → fr 58 = .c (.int .i64 i) → fr 3 = .c (.int .i64 n) → fr 4 = .c (.int .i64 k) → fr 6 = pt br 0 → fr 7 = .c lc →
      (∀ fr', fr' 3 = .c (.int .i64 n) → fr' 4 = .c (.int .i64 k) → fr' 6 = pt br 0 → R s fr' μ0 Q) → R (.c (.loop b6_0) :: .blk 0 :: s) fr μ0 Q := by
  intro d
  induction d with
  | zero =>
    intro i fr hd f56 f57 f58 f3 f4 f6 f7 hend
    rw [R_loop]
    simp only [b6_0]
    simp only [w1, w2, AV.isTup, AV.cells, ↓reduceIte, Nat.reduceEqDiff, Nat.reduceAdd, Int.reduceLT, Int.reduceLE, Int.reduceNeg, Int.reduceBEq, Int.reduceBNe, f57, f58]
    rw [decide_eq_false (by omega)]
    simp only [w1, w2, AV.isTup, AV.cells, ↓reduceIte, Nat.reduceEqDiff, Nat.reduceAdd, Int.reduceLT, Int.reduceLE, Int.reduceNeg, Int.reduceBEq, Int.reduceBNe]
    rw [R_exit rfl]
    refine hend _ ?_ ?_ ?_
    · simp only [w1, w2, AV.isTup, AV.cells, ↓reduceIte, Nat.reduceEqDiff, Nat.reduceAdd, Int.reduceLT, Int.reduceLE, Int.reduceNeg, Int.reduceBEq, Int.reduceBNe, f3]
    · simp only [w1, w2, AV.isTup, AV.cells, ↓reduceIte, Nat.reduceEqDiff, Nat.reduceAdd, Int.reduceLT, Int.reduceLE, Int.reduceNeg, Int.reduceBEq, Int.reduceBNe, f4]
    · simp only [w1, w2, AV.isTup, AV.cells, ↓reduceIte, Nat.reduceEqDiff, Nat.reduceAdd, Int.reduceLT, Int.reduceLE, Int.reduceNeg, Int.reduceBEq, Int.reduceBNe, f6]
  | succ d ih =>
    intro i fr hd f56 f57 f58 f3 f4 f6 f7 hend
    have hlt : i < n - k + 1 := by omega
    have hrow := hrows i hlt
    unfold ringRow at hrow
    simp only [Bool.and_eq_true, decide_eq_true_eq, beq_iff_eq] at hrow
    obtain ⟨⟨hw1, hw2⟩, hw3⟩ := hrow
    obtain ⟨pos, hpos'⟩ : ∃ pos : Nat, r.pos = pos := ⟨r.pos.toNat, by omega⟩
    rw [hpos'] at hpos
    rw [hpos', Int.toNat_natCast] at hw1 hw3
    obtain ⟨tb, to, a1, a2, a3, a4⟩ := hT.row irow_len (by omega) hw2
    have a5 := a4 0 (by omega)
    simp only [irow, List.getElem?_cons_zero, Option.map_some, Nat.add_zero] at a5
    obtain ⟨b, o, e1, e2⟩ := recAt hR Same.refl hw3
    obtain ⟨ra, rcap, hrc⟩ := hR.slc
    have x1 : IntKind.i64.wrap ((k : Int) + (i : Int)) = ((k + i : Nat) : Int) := by rw [small (by omega)]; omega
    have x2 : IntKind.i64.wrap ((pos : Int) + (i : Int)) = ((pos + i : Nat) : Int) := by rw [small (by omega)]; omega
    have x3 : (((k + i : Nat) : Int) != ((k + i : Nat) : Int)) = false := by simp
    have x4 : decide ((pos : Int) < 0) = false := decide_eq_false (by omega)
    have x5 : decide (((pos + i : Nat) : Int) ≥ (S.recs.length : Int)) = false := decide_eq_false (by omega)
    have x6 : IntKind.i64.wrap ((i : Int) + 1) = ((i + 1 : Nat) : Int) := by rw [small (by omega)]; omega
    rw [R_loop]
    simp only [b6_0]
    simp only [w1, w2, AV.isTup, AV.cells, ↓reduceIte, Nat.reduceEqDiff, Nat.reduceAdd, Int.reduceLT, Int.reduceLE, Int.reduceNeg, Int.reduceBEq, Int.reduceBNe, f57, f58]
    rw [decide_eq_true (by omega)]
    rw [hrc] at e1
    simp only [w1, w2, AV.isTup, AV.cells, ↓reduceIte, Nat.reduceEqDiff, Nat.reduceAdd, Int.reduceLT, Int.reduceLE, Int.reduceNeg, Int.reduceBEq, Int.reduceBNe, f56, f58, f3, f4, f6, f7, a1, a5, x1, x3, hlist, hpos, x4, hrec, x2, hrc, x5, m2, fillc, wr, rep, Nat.reduceLeDiff, Nat.reduceAdd, Nat.reduceMul, List.append_nil, Nat.add_zero, e1, e2, aeq, eqInts, x6]
    rw [R_lp]
    refine ih (i + 1) _ (by omega) ?_ ?_ ?_ ?_ ?_ ?_ ?_ hend
    · simp only [w1, w2, AV.isTup, AV.cells, ↓reduceIte, Nat.reduceEqDiff, Nat.reduceAdd, Int.reduceLT, Int.reduceLE, Int.reduceNeg, Int.reduceBEq, Int.reduceBNe, f56]
    · simp only [w1, w2, AV.isTup, AV.cells, ↓reduceIte, Nat.reduceEqDiff, Nat.reduceAdd, Int.reduceLT, Int.reduceLE, Int.reduceNeg, Int.reduceBEq, Int.reduceBNe, f57]
    · simp only [w1, w2, AV.isTup, AV.cells, ↓reduceIte, Nat.reduceEqDiff, Nat.reduceAdd, Int.reduceLT, Int.reduceLE, Int.reduceNeg, Int.reduceBEq, Int.reduceBNe]
    · simp only [w1, w2, AV.isTup, AV.cells, ↓reduceIte, Nat.reduceEqDiff, Nat.reduceAdd, Int.reduceLT, Int.reduceLE, Int.reduceNeg, Int.reduceBEq, Int.reduceBNe, f3]
    · simp only [w1, w2, AV.isTup, AV.cells, ↓reduceIte, Nat.reduceEqDiff, Nat.reduceAdd, Int.reduceLT, Int.reduceLE, Int.reduceNeg, Int.reduceBEq, Int.reduceBNe, f4]
    · simp only [w1, w2, AV.isTup, AV.cells, ↓reduceIte, Nat.reduceEqDiff, Nat.reduceAdd, Int.reduceLT, Int.reduceLE, Int.reduceNeg, Int.reduceBEq, Int.reduceBNe, f6]
    · simp only [w1, w2, AV.isTup, AV.cells, ↓reduceIte, Nat.reduceEqDiff, Nat.reduceAdd, Int.reduceLT, Int.reduceLE, Int.reduceNeg, Int.reduceBEq, Int.reduceBNe, f7]

theorem cntR_le {kd : Int} : ∀ {l : List PRec}, cntR kd l ≤ l.length
  | [] => Nat.le_refl _
  | x :: l => by
    have := cntR_le (kd := kd) (l := l)
    simp only [cntR, List.length_cons]
    split <;> omega

/-- The second loop: what is counted of the records. -/
theorem loop6b {n k : Nat} {S : PM} {rc : Cell} {hi : Nat} {μ0 : Mem} (hR : Rd hi μ0 4 rc S.recs.length (cat recrow 0 S.recs)) (hh : hi ≤ μ0.next) (hroom : S.recs.length < 1000) (hn : n ≤ 20) (hall : ∀ x ∈ S.recs, ringRec n x = true) {s : List It} {Q : Fr → Mem → Prop} :
    ∀ (d i a c : Nat) (fr : Fr) (μ : Mem), i + d = S.recs.length → a + cntR 5 (S.recs.drop i) = cntR 5 S.recs → c + cntR 1 (S.recs.drop i) = cntR 1 S.recs → Same hi μ0 μ → fr 107 = .c rc → fr 108 = .c (.int .i64 S.recs.length) → fr 109 = .c (.int .i64 i) →
      fr 10 = .c (.int .i64 a) → fr 11 = .c (.int .i64 c) → fr 3 = .c (.int .i64 n) → fr 4 = .c (.int .i64 k) →
      (∀ fr' μ', fr' 10 = .c (.int .i64 (cntR 5 S.recs)) → fr' 11 = .c (.int .i64 (cntR 1 S.recs)) → fr' 3 = .c (.int .i64 n) → fr' 4 = .c (.int .i64 k) → R s fr' μ' Q) → R (.c (.loop b6_1) :: .blk 2 :: s) fr μ Q := by
  intro d
  induction d with
  | zero =>
    intro i a c fr μ hd ha hc hsm f107 f108 f109 f10 f11 f3 f4 hend
    rw [R_loop]
    simp only [b6_1]
    simp only [w1, w2, AV.isTup, AV.cells, ↓reduceIte, Nat.reduceEqDiff, Nat.reduceAdd, Int.reduceLT, Int.reduceLE, Int.reduceNeg, Int.reduceBEq, Int.reduceBNe, f108, f109]
    rw [decide_eq_false (by omega)]
    simp only [w1, w2, AV.isTup, AV.cells, ↓reduceIte, Nat.reduceEqDiff, Nat.reduceAdd, Int.reduceLT, Int.reduceLE, Int.reduceNeg, Int.reduceBEq, Int.reduceBNe]
    rw [R_exit rfl]
    rw [List.drop_eq_nil_of_le (by omega)] at ha hc
    simp only [cntR, Nat.add_zero] at ha hc
    subst ha
    subst hc
    refine hend _ _ ?_ ?_ ?_ ?_
    · simp only [w1, w2, AV.isTup, AV.cells, ↓reduceIte, Nat.reduceEqDiff, Nat.reduceAdd, Int.reduceLT, Int.reduceLE, Int.reduceNeg, Int.reduceBEq, Int.reduceBNe, f10]
    · simp only [w1, w2, AV.isTup, AV.cells, ↓reduceIte, Nat.reduceEqDiff, Nat.reduceAdd, Int.reduceLT, Int.reduceLE, Int.reduceNeg, Int.reduceBEq, Int.reduceBNe, f11]
    · simp only [w1, w2, AV.isTup, AV.cells, ↓reduceIte, Nat.reduceEqDiff, Nat.reduceAdd, Int.reduceLT, Int.reduceLE, Int.reduceNeg, Int.reduceBEq, Int.reduceBNe, f3]
    · simp only [w1, w2, AV.isTup, AV.cells, ↓reduceIte, Nat.reduceEqDiff, Nat.reduceAdd, Int.reduceLT, Int.reduceLE, Int.reduceNeg, Int.reduceBEq, Int.reduceBNe, f4]
  | succ d ih =>
    intro i a c fr μ hd ha hc hsm f107 f108 f109 f10 f11 f3 f4 hend
    have hlt : i < S.recs.length := by omega
    have hget : S.recs[i]? = some S.recs[i] := List.getElem?_eq_getElem hlt
    have hdrop : S.recs.drop i = S.recs[i] :: S.recs.drop (i + 1) := List.drop_eq_getElem_cons hlt
    obtain ⟨b, o, e1, e2⟩ := recAt hR hsm hget
    have hrow := hall _ (List.mem_of_getElem? hget)
    unfold ringRec at hrow
    simp only [Bool.and_eq_true, Bool.or_eq_true, bne_iff_ne, beq_iff_eq] at hrow
    obtain ⟨hr3, hr1⟩ := hrow
    rw [hdrop] at ha hc
    simp only [cntR] at ha hc
    have la := cntR_le (kd := 5) (l := S.recs)
    have lc := cntR_le (kd := 1) (l := S.recs)
    have es : (μ.new [.int .i64 0, .int .i64 0, .int .i64 0, .int .i64 0] 0).st μ.next 0 [.int .i64 S.recs[i].kind, .int .i64 S.recs[i].task, .int .i64 S.recs[i].how, .int .i64 S.recs[i].num] =
      some (μ.new [.int .i64 S.recs[i].kind, .int .i64 S.recs[i].task, .int .i64 S.recs[i].how, .int .i64 S.recs[i].num] 0) := new_st0 rfl
    have l0 : (μ.new [.int .i64 S.recs[i].kind, .int .i64 S.recs[i].task, .int .i64 S.recs[i].how, .int .i64 S.recs[i].num] 0).ld none μ.next 0 = some (.c (.int .i64 S.recs[i].kind)) := new_ld0 rfl
    have l1 : (μ.new [.int .i64 S.recs[i].kind, .int .i64 S.recs[i].task, .int .i64 S.recs[i].how, .int .i64 S.recs[i].num] 0).ld none μ.next 1 = some (.c (.int .i64 S.recs[i].task)) := new_ld0 rfl
    have l3 : (μ.new [.int .i64 S.recs[i].kind, .int .i64 S.recs[i].task, .int .i64 S.recs[i].how, .int .i64 S.recs[i].num] 0).ld none μ.next 3 = some (.c (.int .i64 S.recs[i].num)) := new_ld0 rfl
    have hsm2 := hsm.new (Nat.le_trans hh hsm.2) (cs := [.int .i64 S.recs[i].kind, .int .i64 S.recs[i].task, .int .i64 S.recs[i].how, .int .i64 S.recs[i].num]) (e := 0)
    have x6 : IntKind.i64.wrap ((i : Int) + 1) = ((i + 1 : Nat) : Int) := by rw [small (by omega)]; omega
    have xa : IntKind.i64.wrap ((a : Int) + 1) = ((a + 1 : Nat) : Int) := by rw [small (by omega)]; omega
    have xc : IntKind.i64.wrap ((c : Int) + 1) = ((c + 1 : Nat) : Int) := by rw [small (by omega)]; omega
    generalize μ.new [.int .i64 S.recs[i].kind, .int .i64 S.recs[i].task, .int .i64 S.recs[i].how, .int .i64 S.recs[i].num] 0 = μ2 at *
    rw [R_loop]
    simp only [b6_1]
    simp only [w1, w2, AV.isTup, AV.cells, ↓reduceIte, Nat.reduceEqDiff, Nat.reduceAdd, Int.reduceLT, Int.reduceLE, Int.reduceNeg, Int.reduceBEq, Int.reduceBNe, f108, f109]
    rw [decide_eq_true (by omega)]
    simp only [w1, w2, AV.isTup, AV.cells, ↓reduceIte, Nat.reduceEqDiff, Nat.reduceAdd, Int.reduceLT, Int.reduceLE, Int.reduceNeg, Int.reduceBEq, Int.reduceBNe, f107, f109, e1, e2, es, l0]
    by_cases k5 : S.recs[i].kind = 5
    · rw [if_pos k5] at ha
      rw [if_neg (by omega)] at hc
      have y1 : ((5 : Int) == 5) = true := rfl
      have y2 : ((5 : Int) == 3) = false := rfl
      have y3 : ((5 : Int) == 1) = false := rfl
      rw [k5] at l0
      simp only [w1, w2, AV.isTup, AV.cells, ↓reduceIte, Nat.reduceEqDiff, Nat.reduceAdd, Int.reduceLT, Int.reduceLE, Int.reduceNeg, Int.reduceBEq, Int.reduceBNe, k5, y1, l0, f10, xa, y2, y3, f109, x6]
      rw [R_lp]
      refine ih (i + 1) (a + 1) c _ μ2 (by omega) (by omega) hc hsm2 ?_ ?_ ?_ ?_ ?_ ?_ ?_ hend <;> simp only [w1, w2, AV.isTup, AV.cells, ↓reduceIte, Nat.reduceEqDiff, Nat.reduceAdd, Int.reduceLT, Int.reduceLE, Int.reduceNeg, Int.reduceBEq, Int.reduceBNe, f107, f108, f10, f11, f3, f4]
    · rw [if_neg k5] at ha
      simp only [w1, w2, AV.isTup, AV.cells, ↓reduceIte, Nat.reduceEqDiff, Nat.reduceAdd, Int.reduceLT, Int.reduceLE, Int.reduceNeg, Int.reduceBEq, Int.reduceBNe, beq_ff k5, l0]
      by_cases k3 : S.recs[i].kind = 3
      · rw [if_neg (by omega)] at hc
        have y2 : ((3 : Int) == 3) = true := rfl
        have y3 : ((3 : Int) == 1) = false := rfl
        have hr3' : S.recs[i].task = n ∧ S.recs[i].num = -10 := by
          rcases hr3 with h | h
          · exact absurd k3 h
          · exact h
        have y4 : ((n : Int) != (n : Int)) = false := by simp
        have y5 : ((-10 : Int) != -10) = false := rfl
        rw [k3] at l0
        rw [hr3'.1] at l1
        rw [hr3'.2] at l3
        simp only [w1, w2, AV.isTup, AV.cells, ↓reduceIte, Nat.reduceEqDiff, Nat.reduceAdd, Int.reduceLT, Int.reduceLE, Int.reduceNeg, Int.reduceBEq, Int.reduceBNe, k3, y2, l0, l1, f3, y4, l3, y5, y3, f109, x6]
        rw [R_lp]
        refine ih (i + 1) a c _ μ2 (by omega) ha hc hsm2 ?_ ?_ ?_ ?_ ?_ ?_ ?_ hend <;> simp only [w1, w2, AV.isTup, AV.cells, ↓reduceIte, Nat.reduceEqDiff, Nat.reduceAdd, Int.reduceLT, Int.reduceLE, Int.reduceNeg, Int.reduceBEq, Int.reduceBNe, f107, f108, f10, f11, f3, f4]
      · simp only [w1, w2, AV.isTup, AV.cells, ↓reduceIte, Nat.reduceEqDiff, Nat.reduceAdd, Int.reduceLT, Int.reduceLE, Int.reduceNeg, Int.reduceBEq, Int.reduceBNe, beq_ff k3, l0]
        by_cases k1 : S.recs[i].kind = 1
        · rw [if_pos k1] at hc
          have hr1' : (S.recs[i].num == -10) = (S.recs[i].task == (n : Int)) := by
            rcases hr1 with h | h
            · exact absurd k1 h
            · exact h
          have y6 : (!(S.recs[i].task == (n : Int)) == (S.recs[i].task == (n : Int))) = false := by simp
          simp only [w1, w2, AV.isTup, AV.cells, ↓reduceIte, Nat.reduceEqDiff, Nat.reduceAdd, Int.reduceLT, Int.reduceLE, Int.reduceNeg, Int.reduceBEq, Int.reduceBNe, beq_tt k1, f11, xc, l3, l1, f3, aeq, hr1', beq_self_eq_true, f109, x6]
          rw [R_lp]
          refine ih (i + 1) a (c + 1) _ μ2 (by omega) ha (by omega) hsm2 ?_ ?_ ?_ ?_ ?_ ?_ ?_ hend <;> simp only [w1, w2, AV.isTup, AV.cells, ↓reduceIte, Nat.reduceEqDiff, Nat.reduceAdd, Int.reduceLT, Int.reduceLE, Int.reduceNeg, Int.reduceBEq, Int.reduceBNe, f107, f108, f10, f11, f3, f4]
        · rw [if_neg k1] at hc
          simp only [w1, w2, AV.isTup, AV.cells, ↓reduceIte, Nat.reduceEqDiff, Nat.reduceAdd, Int.reduceLT, Int.reduceLE, Int.reduceNeg, Int.reduceBEq, Int.reduceBNe, beq_ff k1, f109, x6]
          rw [R_lp]
          refine ih (i + 1) a c _ μ2 (by omega) ha hc hsm2 ?_ ?_ ?_ ?_ ?_ ?_ ?_ hend <;> simp only [w1, w2, AV.isTup, AV.cells, ↓reduceIte, Nat.reduceEqDiff, Nat.reduceAdd, Int.reduceLT, Int.reduceLE, Int.reduceNeg, Int.reduceBEq, Int.reduceBNe, f107, f108, f10, f11, f3, f4]

theorem law6 {hi : Nat} {μ : Mem} {c : Cell} {b : List Int} (hR : Rd hi μ 1 c b.length (cat brow 0 b)) (hhi : hi ≤ μ.next) (hn : μ.next = 1) (hr : ∀ y ∈ b, 0 ≤ y ∧ y ≤ 255) : Ret 6 [.c c] μ fun v μ' => v = .c (.bool true) := by
  obtain ⟨a, cap, hc, _⟩ := id hR
  refine Ret_of p6 (by simp [r6]) ?_
  simp only [r6, frOf_1]
  have w0 := wByte_ok hR hr 0
  have w1' := wByte_ok hR hr 1
  have g0 := pB_range hr 0
  have g1 := pB_range hr 1
  generalize pB b 0 = x0 at *
  generalize pB b 1 = x1 at *
  obtain ⟨m0, hm0, hm0l⟩ := tmod_nat (a := x0) (n := 20) g0.1
  have hm0l := hm0l (by omega)
  obtain ⟨k, hk, hkl⟩ := tmod_nat (a := x1) (n := m0 + 1 + 1) g1.1
  have hkl := hkl (by omega)
  have hm0' : x0.tmod 20 = m0 := hm0
  have hv0 : vbin .rem (.c (.int .i64 x0)) (.c (.int .i64 20)) = some (.c (.int .i64 (m0 : Int))) := by rw [vbin_rem (by omega), hm0']
  have hw0 : IntKind.i64.wrap (1 + (m0 : Int)) = ((m0 + 1 : Nat) : Int) := by rw [small (by omega)]; omega
  have hw1 : IntKind.i64.wrap (((m0 + 1 : Nat) : Int) + 1) = ((m0 + 1 + 1 : Nat) : Int) := by rw [small (by omega)]; omega
  have hv1 : vbin .rem (.c (.int .i64 x1)) (.c (.int .i64 ((m0 + 1 + 1 : Nat) : Int))) = some (.c (.int .i64 (k : Int))) := by rw [vbin_rem (by omega), hk]
  generalize hn0 : m0 + 1 = n at *
  have hn1 : 1 ≤ n ∧ n ≤ 20 := by omega
  have hkn : k ≤ n := by omega
  subst hc
  simp only [w1, w2, AV.isTup, AV.cells, ↓reduceIte, Nat.reduceEqDiff, Nat.reduceAdd, Int.reduceLT, Int.reduceLE, Int.reduceNeg, Int.reduceBEq, Int.reduceBNe]
  by_cases hlen : (b.length : Int) > 1048576
  · rw [decide_eq_true hlen]
    simp only [w1, w2, AV.isTup, AV.cells, ↓reduceIte, Nat.reduceEqDiff, Nat.reduceAdd, Int.reduceLT, Int.reduceLE, Int.reduceNeg, Int.reduceBEq, Int.reduceBNe, aRet, aRes, aRes1]
    exact ⟨_, rfl, rfl⟩
  rw [decide_eq_false hlen]
  simp only [w1, w2, AV.isTup, AV.cells, ↓reduceIte, Nat.reduceEqDiff, Nat.reduceAdd, Int.reduceLT, Int.reduceLE, Int.reduceNeg, Int.reduceBEq, Int.reduceBNe]
  refine R_calls (l := [.c (.slc a b.length cap), .c (.int .i64 ((0 : Nat) : Int))]) (by simp only [w1, w2, AV.isTup, AV.cells, ↓reduceIte, Nat.reduceEqDiff, Nat.reduceAdd, Int.reduceLT, Int.reduceLE, Int.reduceNeg, Int.reduceBEq, Int.reduceBNe]; rfl) w0 ?_
  rintro v μa ⟨rfl, rfl⟩
  simp only [w1, w2, AV.isTup, AV.cells, ↓reduceIte, Nat.reduceEqDiff, Nat.reduceAdd, Int.reduceLT, Int.reduceLE, Int.reduceNeg, Int.reduceBEq, Int.reduceBNe, hv0, hw0]
  refine R_calls (l := [.c (.slc a b.length cap), .c (.int .i64 ((1 : Nat) : Int))]) (by simp only [w1, w2, AV.isTup, AV.cells, ↓reduceIte, Nat.reduceEqDiff, Nat.reduceAdd, Int.reduceLT, Int.reduceLE, Int.reduceNeg, Int.reduceBEq, Int.reduceBNe]; rfl) w1' ?_
  rintro v μb ⟨rfl, rfl⟩
  simp only [w1, w2, AV.isTup, AV.cells, ↓reduceIte, Nat.reduceEqDiff, Nat.reduceAdd, Int.reduceLT, Int.reduceLE, Int.reduceNeg, Int.reduceBEq, Int.reduceBNe, hw1, hv1]
  obtain ⟨S, hgo, hgood⟩ := ring_run hn1 hkn
  have hmade := madeOf_call (g := 27) (args := [.c (.int .i64 (n : Int)), .c (.int .i64 k)]) p27 (by simp [r27]) hn (fun f => ring_made hn1 k f)
  refine R_calls (l := [.c (.int .i64 (n : Int)), .c (.int .i64 k)]) (by simp only [w1, w2, AV.isTup, AV.cells, ↓reduceIte, Nat.reduceEqDiff, Nat.reduceAdd, Int.reduceLT, Int.reduceLE, Int.reduceNeg, Int.reduceBEq, Int.reduceBNe]) hmade ?_
  rintro v μ1 ⟨pc, rfl, hP⟩
  have e1 : (μ1.new [.slc none 0 0] 0).st μ1.next 0 [pc] = some (μ1.new [pc] 0) := new_st0 rfl
  have hP2 : PlanR μ1.next (μ1.new [pc] 0) pc (madeRing n k) := hP.same (Same.tmp (Nat.le_refl _)) (Nat.le_refl _)
  have l1 : (μ1.new [pc] 0).ld (some 1) μ1.next 0 = some (.agg [pc]) := by rw [Mem.new_ld, if_pos rfl]; rfl
  simp only [w1, w2, AV.isTup, AV.cells, ↓reduceIte, Nat.reduceEqDiff, Nat.reduceAdd, Int.reduceLT, Int.reduceLE, Int.reduceNeg, Int.reduceBEq, Int.reduceBNe, e1, l1]
  refine R_calls (l := [.agg [pc], .c (.int .i64 500)]) (by simp only [w1, w2, AV.isTup, AV.cells, ↓reduceIte, Nat.reduceEqDiff, Nat.reduceAdd, Int.reduceLT, Int.reduceLE, Int.reduceNeg, Int.reduceBEq, Int.reduceBNe]) (runPlan_ok hP2 (Nat.le_succ _) hgo.plan hgo) ?_
  rintro v μ2 ⟨⟨rc, sc, rfl, hRr, hRs⟩, hs2⟩
  have e2 : (μ2.new [.int .i64 0, .slc none 0 0, .int .i64 0, .int .i64 0, .slc none 0 0] 0).st μ2.next 0 [.int .i64 S.report.code, rc, .int .i64 S.report.num, .int .i64 S.report.ticks, sc] =
    some (μ2.new [.int .i64 S.report.code, rc, .int .i64 S.report.num, .int .i64 S.report.ticks, sc] 0) := new_st0 rfl
  simp only [Mem.new_next] at hs2
  have hs3 : Same (μ1.next + 1) (μ1.new [pc] 0) (μ2.new [.int .i64 S.report.code, rc, .int .i64 S.report.num, .int .i64 S.report.ticks, sc] 0) := hs2.new hs2.2
  have n2 : μ1.next + 1 ≤ μ2.next := hs2.2
  have l2 := (hs3.ld (n := some 1) (i := μ1.next) (o := 0) (by omega)).trans l1
  have r0 : (μ2.new [.int .i64 S.report.code, rc, .int .i64 S.report.num, .int .i64 S.report.ticks, sc] 0).ld none μ2.next 0 = some (.c (.int .i64 S.report.code)) := new_ld0 rfl
  have r1 : (μ2.new [.int .i64 S.report.code, rc, .int .i64 S.report.num, .int .i64 S.report.ticks, sc] 0).ld none μ2.next 1 = some (.c rc) := new_ld0 rfl
  have hP3 := hP2.same hs3 (Nat.le_succ _)
  have hRr3 := hRr.same (Same.tmp (Nat.le_refl _) : Same μ2.next μ2 (μ2.new [.int .i64 S.report.code, rc, .int .i64 S.report.num, .int .i64 S.report.ticks, sc] 0)) (Nat.le_refl _)
  have n3 : (μ2.new [.int .i64 S.report.code, rc, .int .i64 S.report.num, .int .i64 S.report.ticks, sc] 0).next = μ2.next + 1 := rfl
  simp only [w1, w2, AV.isTup, AV.cells, ↓reduceIte, Nat.reduceEqDiff, Nat.reduceAdd, Int.reduceLT, Int.reduceLE, Int.reduceNeg, Int.reduceBEq, Int.reduceBNe, e2, l2]
  generalize μ2.new [.int .i64 S.report.code, rc, .int .i64 S.report.num, .int .i64 S.report.ticks, sc] 0 = μ3 at *
  refine R_calls (l := [.agg [pc], .c (.int .i64 500)]) (by simp only [w1, w2, AV.isTup, AV.cells, ↓reduceIte, Nat.reduceEqDiff, Nat.reduceAdd, Int.reduceLT, Int.reduceLE, Int.reduceNeg, Int.reduceBEq, Int.reduceBNe]) (rings_ok hP3 (by omega) hgo.plan hgo) ?_
  rintro v μ4 ⟨⟨lc, rfl, g, hL1, hL2⟩, hs4⟩
  have n4 : μ3.next ≤ μ4.next := hs4.2
  have q0 := (hs4.ld (n := none) (i := μ2.next) (o := 0) (by omega)).trans r0
  have q1 := (hs4.ld (n := none) (i := μ2.next) (o := 1) (by omega)).trans r1
  have hRr5 := (hRr3.same hs4 (by omega)).mono (show μ2.next ≤ μ4.next by omega)
  have hrl : S.report.recs = S.recs := rfl
  have hrc0 : S.report.code = S.code := rfl
  rw [hrl] at hRr5
  rw [hrc0] at q0
  unfold ringGood at hgood
  simp only [Bool.and_eq_true, beq_iff_eq, decide_eq_true_eq] at hgood
  obtain ⟨⟨⟨⟨⟨⟨⟨gc, gst⟩, gtl⟩, grl⟩, gri⟩, g5⟩, g1c⟩, gall⟩ := hgood
  obtain ⟨r, hrings⟩ : ∃ r, S.rings = [r] := by
    split at gri
    · rename_i r hh; exact ⟨r, hh⟩
    · cases gri
  rw [hrings] at gri hL1 hL2
  simp only [Bool.and_eq_true, beq_iff_eq, decide_eq_true_eq, List.all_eq_true] at gri
  obtain ⟨⟨gp, gl⟩, gr⟩ := gri
  obtain ⟨lb, lo, a1, a2, a3, a4⟩ := hL1.row (sz := 2) (fun _ _ => rfl) (by omega) (show [r][0]? = some r from rfl)
  have a1' : ∀ kd : IntKind, aidx (.c lc) (.c (.int kd 0)) 2 = some (pt lb lo) := a1
  have t0 := a4 0 (by omega)
  have t1 := a4 1 (by omega)
  simp only [List.getElem?_cons_succ, List.getElem?_cons_zero, Option.map_some, Nat.add_zero] at t0 t1
  have hT := hL2 0 r rfl
  obtain ⟨la, lcap, hlc⟩ := hL1.slc
  obtain ⟨ta, tcap, htc⟩ := hT.slc
  obtain ⟨ra, rcap, hrc⟩ := hRr5.slc
  rw [gc] at q0
  have z1 : ((0 : Int) != 0) = false := rfl
  have z2 : ((([r].length : Nat) : Int) != 1) = false := rfl
  have z3 : IntKind.i64.wrap ((n : Int) - (k : Int)) = ((n - k : Nat) : Int) := by rw [small (by omega)]; omega
  have z4 : IntKind.i64.wrap (((n - k : Nat) : Int) + 1) = ((n - k + 1 : Nat) : Int) := by rw [small (by omega)]; omega
  have z5 : (((r.tasks.length : Nat) : Int) != ((n - k + 1 : Nat) : Int)) = false := by rw [gl]; simp
  have z2' : (((0 + 1 : Nat) : Int) != 1) = false := rfl
  have z2'' : (((1 : Nat) : Int) != 1) = false := rfl
  simp only [w1, w2, AV.isTup, AV.cells, ↓reduceIte, Nat.reduceEqDiff, Nat.reduceAdd, Int.reduceLT, Int.reduceLE, Int.reduceNeg, Int.reduceBEq, Int.reduceBNe]
  have hl1 : [r].length = 1 := rfl
  rw [hl1] at hlc
  subst hlc
  rw [htc] at t1
  simp only [w1, w2, AV.isTup, AV.cells, ↓reduceIte, Nat.reduceEqDiff, Nat.reduceAdd, Int.reduceLT, Int.reduceLE, Int.reduceNeg, Int.reduceBEq, Int.reduceBNe, q0, z1, z2, z2', z2'', a1', t1, z3, z4, z5]
  refine loop6 (n := n) (k := k) (S := S) (r := r) (rc := rc) (br := μ2.next) hRr5 hT a1' t0 a2 q1 (by omega) ⟨by omega, hkn⟩ gp gl grl (fun i hi => gr i (List.mem_range.2 hi)) r.tasks.length 0 _ (by omega) ?_ ?_ ?_ ?_ ?_ ?_ ?_ ?_
  · simp only [w1, w2, AV.isTup, AV.cells, ↓reduceIte, Nat.reduceEqDiff, Nat.reduceAdd, Int.reduceLT, Int.reduceLE, Int.reduceNeg, Int.reduceBEq, Int.reduceBNe, htc]
  · simp only [w1, w2, AV.isTup, AV.cells, ↓reduceIte, Nat.reduceEqDiff, Nat.reduceAdd, Int.reduceLT, Int.reduceLE, Int.reduceNeg, Int.reduceBEq, Int.reduceBNe]
  · simp only [w1, w2, AV.isTup, AV.cells, ↓reduceIte, Nat.reduceEqDiff, Nat.reduceAdd, Int.reduceLT, Int.reduceLE, Int.reduceNeg, Int.reduceBEq, Int.reduceBNe]; rfl
  · simp only [w1, w2, AV.isTup, AV.cells, ↓reduceIte, Nat.reduceEqDiff, Nat.reduceAdd, Int.reduceLT, Int.reduceLE, Int.reduceNeg, Int.reduceBEq, Int.reduceBNe]
  · simp only [w1, w2, AV.isTup, AV.cells, ↓reduceIte, Nat.reduceEqDiff, Nat.reduceAdd, Int.reduceLT, Int.reduceLE, Int.reduceNeg, Int.reduceBEq, Int.reduceBNe]
  · simp only [w1, w2, AV.isTup, AV.cells, ↓reduceIte, Nat.reduceEqDiff, Nat.reduceAdd, Int.reduceLT, Int.reduceLE, Int.reduceNeg, Int.reduceBEq, Int.reduceBNe]
  · simp only [w1, w2, AV.isTup, AV.cells, ↓reduceIte, Nat.reduceEqDiff, Nat.reduceAdd, Int.reduceLT, Int.reduceLE, Int.reduceNeg, Int.reduceBEq, Int.reduceBNe]
  · intro fr' f3 f4 f6
    rw [hrc] at q1
    simp only [w1, w2, AV.isTup, AV.cells, ↓reduceIte, Nat.reduceEqDiff, Nat.reduceAdd, Int.reduceLT, Int.reduceLE, Int.reduceNeg, Int.reduceBEq, Int.reduceBNe, f6, q1]
    refine loop6b (n := n) (k := k) (S := S) hRr5 (Nat.le_refl _) grl (by omega) (List.all_eq_true.1 gall) S.recs.length 0 0 0 _ μ4 (by omega) (by rw [List.drop_zero]; omega) (by rw [List.drop_zero]; omega) Same.refl ?_ ?_ ?_ ?_ ?_ ?_ ?_ ?_
    · simp only [w1, w2, AV.isTup, AV.cells, ↓reduceIte, Nat.reduceEqDiff, Nat.reduceAdd, Int.reduceLT, Int.reduceLE, Int.reduceNeg, Int.reduceBEq, Int.reduceBNe, hrc]
    · simp only [w1, w2, AV.isTup, AV.cells, ↓reduceIte, Nat.reduceEqDiff, Nat.reduceAdd, Int.reduceLT, Int.reduceLE, Int.reduceNeg, Int.reduceBEq, Int.reduceBNe]
    · simp only [w1, w2, AV.isTup, AV.cells, ↓reduceIte, Nat.reduceEqDiff, Nat.reduceAdd, Int.reduceLT, Int.reduceLE, Int.reduceNeg, Int.reduceBEq, Int.reduceBNe]; rfl
    · simp only [w1, w2, AV.isTup, AV.cells, ↓reduceIte, Nat.reduceEqDiff, Nat.reduceAdd, Int.reduceLT, Int.reduceLE, Int.reduceNeg, Int.reduceBEq, Int.reduceBNe]; rfl
    · simp only [w1, w2, AV.isTup, AV.cells, ↓reduceIte, Nat.reduceEqDiff, Nat.reduceAdd, Int.reduceLT, Int.reduceLE, Int.reduceNeg, Int.reduceBEq, Int.reduceBNe]; rfl
    · simp only [w1, w2, AV.isTup, AV.cells, ↓reduceIte, Nat.reduceEqDiff, Nat.reduceAdd, Int.reduceLT, Int.reduceLE, Int.reduceNeg, Int.reduceBEq, Int.reduceBNe, f3]
    · simp only [w1, w2, AV.isTup, AV.cells, ↓reduceIte, Nat.reduceEqDiff, Nat.reduceAdd, Int.reduceLT, Int.reduceLE, Int.reduceNeg, Int.reduceBEq, Int.reduceBNe, f4]
    · intro fr2 μ' h10 h11 h3 h4
      have y1 : (((n - k + 1 : Nat) : Int) == ((n - k + 1 : Nat) : Int)) = true := by simp
      have y2 : ((n : Int) == (n : Int)) = true := by simp
      rw [g5] at h10
      rw [g1c] at h11
      simp only [w1, w2, AV.isTup, AV.cells, ↓reduceIte, Nat.reduceEqDiff, Nat.reduceAdd, Int.reduceLT, Int.reduceLE, Int.reduceNeg, Int.reduceBEq, Int.reduceBNe, h10, h11, h3, h4, z3, z4, y1, y2, aRet, aRes, aRes1]
      exact ⟨_, rfl, rfl⟩
end Go.Proofs.Ytibmnlijoeppaaa
