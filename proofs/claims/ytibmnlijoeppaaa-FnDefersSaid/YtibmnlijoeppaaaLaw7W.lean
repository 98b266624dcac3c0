/-
  The law FnDefers returns true: its own code walked.
-/
import Derived.Test.YtibmnlijoeppaaaLaw7
namespace Go.Proofs.Ytibmnlijoeppaaa
set_option linter.unusedSimpArgs false
set_option linter.unusedVariables false

/-! 7: laws.FnDefers -/
def b7_0 : RCode :=
 (.seq
  (.reg [⟨0, .bin .lss (.t 71) (.t 70), some 72, none, []⟩])
  (.seq
   (.ite (.t 72)
    .skip
    (.exit 0))
   (.seq
    (.blk 1
     (.seq
      (.reg [⟨0, .ias (.t 69) (.t 71) 4, some 73, none, []⟩,
        ⟨1, .ld (some 4) (.t 73), some 74, none, []⟩,
        ⟨2, .alc [.int .i64 0, .int .i64 0, .int .i64 0, .int .i64 0], some 10, none, []⟩,
        ⟨3, .st (.t 10) (.t 74) 4, none, none, []⟩])
      (.seq
       (.reg [⟨0, .fa (.t 10) 0, some 75, none, []⟩,
         ⟨1, .ld none (.t 75), some 76, none, []⟩,
         ⟨2, .bin .eql (.t 76) (.k (.int .i64 1)), some 77, none, []⟩])
       (.ite (.t 77)
        (.seq
         (.seq
          (.reg [⟨0, .fa (.t 10) 3, some 78, none, []⟩,
            ⟨1, .ld none (.t 78), some 79, none, []⟩,
            ⟨2, .mv (.t 8), some 80, none, []⟩,
            ⟨3, .bin .neq (.t 79) (.t 80), some 81, none, []⟩,
            ⟨4, .mv (.t 81), some 82, none, []⟩,
            ⟨5, .fa (.t 10) 1, some 83, some (82, false), []⟩,
            ⟨6, .ld none (.t 83), some 84, some (82, false), []⟩,
            ⟨7, .bin .neq (.t 84) (.k (.int .i64 1)), some 85, some (82, false), []⟩,
            ⟨8, .pick (.t 82) (.k (.bool true)) (.t 85), some 86, none, []⟩])
          (.ite (.t 86)
           (.seq
            (.reg [⟨0, .mv (.k (.bool false)), some 2, none, []⟩])
            .ret)
           .skip))
         (.reg [⟨0, .mv (.t 8), some 87, none, []⟩,
           ⟨1, .bin .sub (.t 87) (.k (.int .i64 1)), some 88, none, []⟩,
           ⟨2, .mv (.t 88), some 8, none, []⟩]))
        .skip))))
    (.reg [⟨0, .bin .add (.t 71) (.k (.int .i64 1)), some 89, none, []⟩,
      ⟨1, .mv (.t 89), some 71, none, []⟩]))))
def r7 : RFun := ⟨92, [.tmp 2],
 (.seq
  (.reg [⟨0, .mv (.k (.bool false)), some 2, none, []⟩])
  (.seq
   (.seq
    (.reg [⟨0, .mv (.t 0), some 11, none, []⟩,
      ⟨1, .len (.t 11), some 12, none, []⟩,
      ⟨2, .bin .gtr (.t 12) (.k (.int .i64 1048576)), some 13, none, []⟩])
    (.ite (.t 13)
     (.seq
      (.reg [⟨0, .mv (.k (.bool true)), some 2, none, []⟩])
      .ret)
     .skip))
   (.seq
    (.reg [⟨0, .mv (.t 0), some 14, none, []⟩,
      ⟨1, .call 24 [.t 14, .k (.int .i64 0)], some 15, none, []⟩,
      ⟨2, .bin .rem (.t 15) (.k (.int .i64 10)), some 16, none, []⟩,
      ⟨3, .bin .add (.k (.int .i64 1)) (.t 16), some 17, none, []⟩,
      ⟨4, .mv (.t 17), some 3, none, []⟩])
    (.seq
     (.reg [⟨0, .mv (.t 0), some 18, none, []⟩,
       ⟨1, .call 24 [.t 18, .k (.int .i64 1)], some 19, none, []⟩,
       ⟨2, .bin .rem (.t 19) (.k (.int .i64 5)), some 20, none, []⟩,
       ⟨3, .mv (.t 20), some 4, none, []⟩])
     (.seq
      (.reg [⟨0, .mv (.t 3), some 21, none, []⟩,
        ⟨1, .mv (.t 4), some 22, none, []⟩,
        ⟨2, .call 29 [.t 21, .t 22], some 23, none, []⟩,
        ⟨3, .alc [.slc none 0 0], some 5, none, []⟩,
        ⟨4, .st (.t 5) (.t 23) 1, none, none, []⟩])
      (.seq
       (.reg [⟨0, .ld (some 1) (.t 5), some 24, none, []⟩,
         ⟨1, .call 26 [.t 24, .k (.int .i64 500)], some 25, none, []⟩,
         ⟨2, .alc [.int .i64 0, .slc none 0 0, .int .i64 0, .int .i64 0, .slc none 0 0], some 6, none, []⟩,
         ⟨3, .st (.t 6) (.t 25) 5, none, none, []⟩])
       (.seq
        (.reg [⟨0, .ld (some 1) (.t 5), some 26, none, []⟩,
          ⟨1, .call 30 [.t 26, .k (.int .i64 500)], some 27, none, []⟩,
          ⟨2, .alc [.bool false, .int .i64 0, .slc none 0 0], some 7, none, []⟩,
          ⟨3, .st (.t 7) (.t 27) 3, none, none, []⟩])
        (.seq
         (.seq
          (.reg [⟨0, .fa (.t 6) 0, some 28, none, []⟩,
            ⟨1, .ld none (.t 28), some 29, none, []⟩,
            ⟨2, .bin .neq (.t 29) (.k (.int .i64 0)), some 30, none, []⟩,
            ⟨3, .mv (.t 30), some 31, none, []⟩,
            ⟨4, .fa (.t 7) 2, some 32, some (31, false), []⟩,
            ⟨5, .ld none (.t 32), some 33, some (31, false), []⟩,
            ⟨6, .len (.t 33), some 34, some (31, false), []⟩,
            ⟨7, .bin .neq (.t 34) (.k (.int .i64 2)), some 35, some (31, false), []⟩,
            ⟨8, .pick (.t 31) (.k (.bool true)) (.t 35), some 36, none, []⟩,
            ⟨9, .mv (.t 36), some 37, none, []⟩,
            ⟨10, .fa (.t 7) 2, some 38, some (37, false), []⟩,
            ⟨11, .ld none (.t 38), some 39, some (37, false), []⟩,
            ⟨12, .ias (.t 39) (.k (.int .i64 1)) 7, some 40, some (37, false), []⟩,
            ⟨13, .fa (.t 40) 1, some 41, some (37, false), []⟩,
            ⟨14, .ld none (.t 41), some 42, some (37, false), []⟩,
            ⟨15, .bin .neq (.t 42) (.k (.int .i64 4)), some 43, some (37, false), []⟩,
            ⟨16, .pick (.t 37) (.k (.bool true)) (.t 43), some 44, none, []⟩,
            ⟨17, .mv (.t 44), some 45, none, []⟩,
            ⟨18, .fa (.t 7) 2, some 46, some (45, false), []⟩,
            ⟨19, .ld none (.t 46), some 47, some (45, false), []⟩,
            ⟨20, .ias (.t 47) (.k (.int .i64 1)) 7, some 48, some (45, false), []⟩,
            ⟨21, .fa (.t 48) 5, some 49, some (45, false), []⟩,
            ⟨22, .ld none (.t 49), some 50, some (45, false), []⟩,
            ⟨23, .mv (.t 3), some 51, some (45, false), []⟩,
            ⟨24, .bin .neq (.t 50) (.t 51), some 52, some (45, false), []⟩,
            ⟨25, .pick (.t 45) (.k (.bool true)) (.t 52), some 53, none, []⟩,
            ⟨26, .mv (.t 53), some 54, none, []⟩,
            ⟨27, .fa (.t 7) 2, some 55, some (54, false), []⟩,
            ⟨28, .ld none (.t 55), some 56, some (54, false), []⟩,
            ⟨29, .ias (.t 56) (.k (.int .i64 1)) 7, some 57, some (54, false), []⟩,
            ⟨30, .fa (.t 57) 6, some 58, some (54, false), []⟩,
            ⟨31, .ld none (.t 58), some 59, some (54, false), []⟩,
            ⟨32, .mv (.t 3), some 60, some (54, false), []⟩,
            ⟨33, .bin .neq (.t 59) (.t 60), some 61, some (54, false), []⟩,
            ⟨34, .pick (.t 54) (.k (.bool true)) (.t 61), some 62, none, []⟩])
          (.ite (.t 62)
           (.seq
            (.reg [⟨0, .mv (.k (.bool false)), some 2, none, []⟩])
            .ret)
           .skip))
         (.seq
          (.reg [⟨0, .mv (.t 3), some 63, none, []⟩,
            ⟨1, .mv (.t 63), some 8, none, []⟩])
          (.seq
           (.seq
            (.reg [⟨0, .mv (.t 4), some 64, none, []⟩,
              ⟨1, .bin .eql (.t 64) (.k (.int .i64 4)), some 65, none, []⟩])
            (.ite (.t 65)
             (.reg [⟨0, .mv (.t 8), some 66, none, []⟩,
               ⟨1, .bin .sub (.t 66) (.k (.int .i64 1)), some 67, none, []⟩,
               ⟨2, .mv (.t 67), some 8, none, []⟩])
             .skip))
           (.seq
            (.seq
             (.reg [⟨0, .fa (.t 6) 1, some 68, none, []⟩,
               ⟨1, .ld none (.t 68), some 69, none, []⟩,
               ⟨2, .len (.t 69), some 70, none, []⟩,
               ⟨3, .mv (.k (.int .i64 0)), some 71, none, []⟩])
             (.blk 0
              (.loop b7_0)))
            (.seq
             (.reg [⟨0, .mv (.t 8), some 90, none, []⟩,
               ⟨1, .bin .eql (.t 90) (.k (.int .i64 0)), some 91, none, []⟩,
               ⟨2, .mv (.t 91), some 2, none, []⟩])
             .ret))))))))))))⟩
theorem p7 : prog 7 = some r7 := by kernel_rfl



theorem made_at {g : Nat} {rf : RFun} (hp : prog g = some rf) {args : List AV} (hl : args.length ≤ rf.ntmps) {μ : Mem} (hn : μ.next = 1) {fuel : Nat} {p : PPlan} (h : ∀ f, makes rf args fuel p f = true) :
    Ret g args μ fun v μ' => ∃ c, v = .agg [c] ∧ PlanR μ'.next μ' c p := by
  obtain ⟨f, n⟩ := μ
  simp only at hn
  subst hn
  exact makes_ok hp hl (h f)

/-- A report kept in a variable. -/
def RAt (μ : Mem) (b : Nat) (r : PReport) (rc sc : Cell) : Prop :=
  μ.ld none b 0 = some (.c (.int .i64 r.code)) ∧ μ.ld none b 1 = some (.c rc) ∧ μ.ld none b 2 = some (.c (.int .i64 r.num)) ∧ μ.ld none b 3 = some (.c (.int .i64 r.ticks)) ∧ μ.ld none b 4 = some (.c sc)

theorem loop7 {S : PM} {rc : Cell} {hi : Nat} {μ0 : Mem} (hR : Rd hi μ0 4 rc S.recs.length (cat recrow 0 S.recs)) (hh : hi ≤ μ0.next) (hroom : S.recs.length < 1000) {s : List It} {Q : Fr → Mem → Prop} {fin : Int} :
    ∀ (d i : Nat) (nx : Int) (fr : Fr) (μ : Mem), i + d = S.recs.length → sayRun (S.recs.drop i) nx = some fin → Same hi μ0 μ → fr 69 = .c rc → fr 70 = .c (.int .i64 S.recs.length) → fr 71 = .c (.int .i64 i) → fr 8 = .c (.int .i64 nx) →
      (∀ fr' μ', fr' 8 = .c (.int .i64 fin) → R s fr' μ' Q) → R (.c (.loop b7_0) :: .blk 0 :: s) fr μ Q := by
  intro d
  induction d with
  | zero =>
    intro i nx fr μ hd hs hsm f69 f70 f71 f8 hend
    rw [R_loop]
    simp only [b7_0]
    simp only [w1, w2, AV.isTup, AV.cells, ↓reduceIte, Nat.reduceEqDiff, Nat.reduceAdd, Int.reduceLT, Int.reduceLE, Int.reduceNeg, Int.reduceBEq, Int.reduceBNe, f70, f71]
    rw [decide_eq_false (by omega)]
    simp only [w1, w2, AV.isTup, AV.cells, ↓reduceIte, Nat.reduceEqDiff, Nat.reduceAdd, Int.reduceLT, Int.reduceLE, Int.reduceNeg, Int.reduceBEq, Int.reduceBNe]
    rw [R_exit rfl]
    rw [List.drop_eq_nil_of_le (by omega)] at hs
    simp only [sayRun, Option.some.injEq] at hs
    subst hs
    refine hend _ _ ?_
    simp only [w1, w2, AV.isTup, AV.cells, ↓reduceIte, Nat.reduceEqDiff, Nat.reduceAdd, Int.reduceLT, Int.reduceLE, Int.reduceNeg, Int.reduceBEq, Int.reduceBNe, f8]
  | succ d ih =>
    intro i nx fr μ hd hs hsm f69 f70 f71 f8 hend
    have hlt : i < S.recs.length := by omega
    have hget : S.recs[i]? = some S.recs[i] := List.getElem?_eq_getElem hlt
    have hdrop : S.recs.drop i = S.recs[i] :: S.recs.drop (i + 1) := List.drop_eq_getElem_cons hlt
    obtain ⟨b, o, e1, e2⟩ := recAt hR hsm hget
    rw [hdrop] at hs
    simp only [sayRun] at hs
    have es : (μ.new [.int .i64 0, .int .i64 0, .int .i64 0, .int .i64 0] 0).st μ.next 0 [.int .i64 S.recs[i].kind, .int .i64 S.recs[i].task, .int .i64 S.recs[i].how, .int .i64 S.recs[i].num] =
      some (μ.new [.int .i64 S.recs[i].kind, .int .i64 S.recs[i].task, .int .i64 S.recs[i].how, .int .i64 S.recs[i].num] 0) := new_st0 rfl
    have l0 : (μ.new [.int .i64 S.recs[i].kind, .int .i64 S.recs[i].task, .int .i64 S.recs[i].how, .int .i64 S.recs[i].num] 0).ld none μ.next 0 = some (.c (.int .i64 S.recs[i].kind)) := new_ld0 rfl
    have l1 : (μ.new [.int .i64 S.recs[i].kind, .int .i64 S.recs[i].task, .int .i64 S.recs[i].how, .int .i64 S.recs[i].num] 0).ld none μ.next 1 = some (.c (.int .i64 S.recs[i].task)) := new_ld0 rfl
    have l3 : (μ.new [.int .i64 S.recs[i].kind, .int .i64 S.recs[i].task, .int .i64 S.recs[i].how, .int .i64 S.recs[i].num] 0).ld none μ.next 3 = some (.c (.int .i64 S.recs[i].num)) := new_ld0 rfl
    have hsm2 := hsm.new (Nat.le_trans hh hsm.2) (cs := [.int .i64 S.recs[i].kind, .int .i64 S.recs[i].task, .int .i64 S.recs[i].how, .int .i64 S.recs[i].num]) (e := 0)
    have hwi : IntKind.i64.wrap ((i : Int) + 1) = ((i + 1 : Nat) : Int) := by rw [small (by omega)]; omega
    generalize μ.new [.int .i64 S.recs[i].kind, .int .i64 S.recs[i].task, .int .i64 S.recs[i].how, .int .i64 S.recs[i].num] 0 = μ2 at *
    rw [R_loop]
    simp only [b7_0]
    simp only [w1, w2, AV.isTup, AV.cells, ↓reduceIte, Nat.reduceEqDiff, Nat.reduceAdd, Int.reduceLT, Int.reduceLE, Int.reduceNeg, Int.reduceBEq, Int.reduceBNe, f70, f71]
    rw [decide_eq_true (by omega)]
    simp only [w1, w2, AV.isTup, AV.cells, ↓reduceIte, Nat.reduceEqDiff, Nat.reduceAdd, Int.reduceLT, Int.reduceLE, Int.reduceNeg, Int.reduceBEq, Int.reduceBNe, f69, f71, e1, e2, es, l0]
    by_cases hk : S.recs[i].kind = 1
    · rw [if_pos hk] at hs
      split at hs
      · rename_i hc
        have hb1 : (S.recs[i].num != nx) = false := by simp [hc.1]
        have hb2 : (S.recs[i].task != 1) = false := by simp [hc.2]
        simp only [w1, w2, AV.isTup, AV.cells, ↓reduceIte, Nat.reduceEqDiff, Nat.reduceAdd, Int.reduceLT, Int.reduceLE, Int.reduceNeg, Int.reduceBEq, Int.reduceBNe, beq_tt hk, l3, f8, hb1, l1, hb2, f71, hwi]
        rw [R_lp]
        refine ih (i + 1) (wr64 (nx - 1)) _ μ2 (by omega) hs hsm2 ?_ ?_ ?_ ?_ hend
        · simp only [w1, w2, AV.isTup, AV.cells, ↓reduceIte, Nat.reduceEqDiff, Nat.reduceAdd, Int.reduceLT, Int.reduceLE, Int.reduceNeg, Int.reduceBEq, Int.reduceBNe, f69]
        · simp only [w1, w2, AV.isTup, AV.cells, ↓reduceIte, Nat.reduceEqDiff, Nat.reduceAdd, Int.reduceLT, Int.reduceLE, Int.reduceNeg, Int.reduceBEq, Int.reduceBNe, f70]
        · simp only [w1, w2, AV.isTup, AV.cells, ↓reduceIte, Nat.reduceEqDiff, Nat.reduceAdd, Int.reduceLT, Int.reduceLE, Int.reduceNeg, Int.reduceBEq, Int.reduceBNe]
        · simp only [w1, w2, AV.isTup, AV.cells, ↓reduceIte, Nat.reduceEqDiff, Nat.reduceAdd, Int.reduceLT, Int.reduceLE, Int.reduceNeg, Int.reduceBEq, Int.reduceBNe]; rfl
      · cases hs
    · rw [if_neg hk] at hs
      simp only [w1, w2, AV.isTup, AV.cells, ↓reduceIte, Nat.reduceEqDiff, Nat.reduceAdd, Int.reduceLT, Int.reduceLE, Int.reduceNeg, Int.reduceBEq, Int.reduceBNe, beq_ff hk, f71, hwi]
      rw [R_lp]
      refine ih (i + 1) nx _ μ2 (by omega) hs hsm2 ?_ ?_ ?_ ?_ hend
      · simp only [w1, w2, AV.isTup, AV.cells, ↓reduceIte, Nat.reduceEqDiff, Nat.reduceAdd, Int.reduceLT, Int.reduceLE, Int.reduceNeg, Int.reduceBEq, Int.reduceBNe, f69]
      · simp only [w1, w2, AV.isTup, AV.cells, ↓reduceIte, Nat.reduceEqDiff, Nat.reduceAdd, Int.reduceLT, Int.reduceLE, Int.reduceNeg, Int.reduceBEq, Int.reduceBNe, f70]
      · simp only [w1, w2, AV.isTup, AV.cells, ↓reduceIte, Nat.reduceEqDiff, Nat.reduceAdd, Int.reduceLT, Int.reduceLE, Int.reduceNeg, Int.reduceBEq, Int.reduceBNe]
      · simp only [w1, w2, AV.isTup, AV.cells, ↓reduceIte, Nat.reduceEqDiff, Nat.reduceAdd, Int.reduceLT, Int.reduceLE, Int.reduceNeg, Int.reduceBEq, Int.reduceBNe, f8]

theorem law7 {hi : Nat} {μ : Mem} {c : Cell} {b : List Int} (hR : Rd hi μ 1 c b.length (cat brow 0 b)) (hhi : hi ≤ μ.next) (hn : μ.next = 1) (hr : ∀ y ∈ b, 0 ≤ y ∧ y ≤ 255) : Ret 7 [.c c] μ fun v μ' => v = .c (.bool true) := by
  obtain ⟨a, cap, hc, _⟩ := id hR
  refine Ret_of p7 (by simp [r7]) ?_
  simp only [r7, frOf_1]
  have w0 := wByte_ok hR hr 0
  have w1' := wByte_ok hR hr 1
  have g0 := pB_range hr 0
  have g1 := pB_range hr 1
  generalize pB b 0 = x0 at *
  generalize pB b 1 = x1 at *
  obtain ⟨m0, hm0, hm0l⟩ := tmod_nat (a := x0) (n := 10) g0.1
  obtain ⟨m1, hm1, hm1l⟩ := tmod_nat (a := x1) (n := 5) g1.1
  have hm0l := hm0l (by omega)
  have hm1l := hm1l (by omega)
  have hm0' : x0.tmod 10 = m0 := hm0
  have hm1' : x1.tmod 5 = m1 := hm1
  have hv0 : vbin .rem (.c (.int .i64 x0)) (.c (.int .i64 10)) = some (.c (.int .i64 (m0 : Int))) := by rw [vbin_rem (by omega), hm0']
  have hv1 : vbin .rem (.c (.int .i64 x1)) (.c (.int .i64 5)) = some (.c (.int .i64 (m1 : Int))) := by rw [vbin_rem (by omega), hm1']
  have hw0 : IntKind.i64.wrap (1 + (m0 : Int)) = ((m0 + 1 : Nat) : Int) := by rw [small (by omega)]; omega
  subst hc
  simp only [w1, w2, AV.isTup, AV.cells, ↓reduceIte, Nat.reduceEqDiff, Nat.reduceAdd, Int.reduceLT, Int.reduceLE, Int.reduceNeg, Int.reduceBEq, Int.reduceBNe]
  by_cases hlen : (b.length : Int) > 1048576
  · rw [decide_eq_true hlen]
    simp only [w1, w2, AV.isTup, AV.cells, ↓reduceIte, Nat.reduceEqDiff, Nat.reduceAdd, Int.reduceLT, Int.reduceLE, Int.reduceNeg, Int.reduceBEq, Int.reduceBNe, aRet, aRes, aRes1]
    exact ⟨_, rfl, rfl⟩
  rw [decide_eq_false hlen]
  simp only [w1, w2, AV.isTup, AV.cells, ↓reduceIte, Nat.reduceEqDiff, Nat.reduceAdd, Int.reduceLT, Int.reduceLE, Int.reduceNeg, Int.reduceBEq, Int.reduceBNe]
  refine R_calls (l := [.c (.slc a b.length cap), .c (.int .i64 ((0 : Nat) : Int))]) (by simp only [w1, w2, AV.isTup, AV.cells, ↓reduceIte, Nat.reduceEqDiff, Nat.reduceAdd, Int.reduceLT, Int.reduceLE, Int.reduceNeg, Int.reduceBEq, Int.reduceBNe]; rfl) w0 ?_
  rintro v μa ⟨rfl, rfl⟩
  simp only [w1, w2, AV.isTup, AV.cells, ↓reduceIte, Nat.reduceEqDiff, Nat.reduceAdd, Int.reduceLT, Int.reduceLE, Int.reduceNeg, Int.reduceBEq, Int.reduceBNe, hv0, hw0]
  refine R_calls (l := [.c (.slc a b.length cap), .c (.int .i64 ((1 : Nat) : Int))]) (by simp only [w1, w2, AV.isTup, AV.cells, ↓reduceIte, Nat.reduceEqDiff, Nat.reduceAdd, Int.reduceLT, Int.reduceLE, Int.reduceNeg, Int.reduceBEq, Int.reduceBNe]; rfl) w1' ?_
  rintro v μb ⟨rfl, rfl⟩
  simp only [w1, w2, AV.isTup, AV.cells, ↓reduceIte, Nat.reduceEqDiff, Nat.reduceAdd, Int.reduceLT, Int.reduceLE, Int.reduceNeg, Int.reduceBEq, Int.reduceBNe, hv1]
  obtain ⟨S, hgo, hgood⟩ := defers_run (n := m0 + 1) (how := m1) (by omega) hm1l
  have hmade := made_at (g := 29) (args := [.c (.int .i64 ((m0 + 1 : Nat) : Int)), .c (.int .i64 m1)]) p29 (by simp [r29]) hn (fun f => defers_made (n := m0 + 1) (how := m1) (by omega) hm1l f)
  refine R_calls (l := [.c (.int .i64 ((m0 + 1 : Nat) : Int)), .c (.int .i64 m1)]) (by simp only [w1, w2, AV.isTup, AV.cells, ↓reduceIte, Nat.reduceEqDiff, Nat.reduceAdd, Int.reduceLT, Int.reduceLE, Int.reduceNeg, Int.reduceBEq, Int.reduceBNe]) hmade ?_
  rintro v μ1 ⟨pc, rfl, hP⟩
  have e1 : (μ1.new [.slc none 0 0] 0).st μ1.next 0 [pc] = some (μ1.new [pc] 0) := new_st0 rfl
  have hP2 : PlanR μ1.next (μ1.new [pc] 0) pc (madeDefers (m0 + 1) m1) := hP.same (Same.tmp (Nat.le_refl _)) (Nat.le_refl _)
  have l1 : (μ1.new [pc] 0).ld (some 1) μ1.next 0 = some (.agg [pc]) := by rw [Mem.new_ld, if_pos rfl]; rfl
  simp only [w1, w2, AV.isTup, AV.cells, ↓reduceIte, Nat.reduceEqDiff, Nat.reduceAdd, Int.reduceLT, Int.reduceLE, Int.reduceNeg, Int.reduceBEq, Int.reduceBNe, e1, l1]
  refine R_calls (l := [.agg [pc], .c (.int .i64 500)]) (by simp only [w1, w2, AV.isTup, AV.cells, ↓reduceIte, Nat.reduceEqDiff, Nat.reduceAdd, Int.reduceLT, Int.reduceLE, Int.reduceNeg, Int.reduceBEq, Int.reduceBNe]) (runPlan_ok hP2 (Nat.le_succ _) hgo.lens hgo) ?_
  rintro v μ2 ⟨⟨rc, sc, rfl, hRr, hRs⟩, hs2⟩
  have e2 : (μ2.new [.int .i64 0, .slc none 0 0, .int .i64 0, .int .i64 0, .slc none 0 0] 0).st μ2.next 0 [.int .i64 S.report.code, rc, .int .i64 S.report.num, .int .i64 S.report.ticks, sc] =
    some (μ2.new [.int .i64 S.report.code, rc, .int .i64 S.report.num, .int .i64 S.report.ticks, sc] 0) := new_st0 rfl
  simp only [Mem.new_next] at hs2
  have hs3 : Same (μ1.next + 1) (μ1.new [pc] 0) (μ2.new [.int .i64 S.report.code, rc, .int .i64 S.report.num, .int .i64 S.report.ticks, sc] 0) := hs2.new hs2.2
  have n2 : μ1.next + 1 ≤ μ2.next := hs2.2
  have l2 := (hs3.ld (n := some 1) (i := μ1.next) (o := 0) (by omega)).trans l1
  have r0 : (μ2.new [.int .i64 S.report.code, rc, .int .i64 S.report.num, .int .i64 S.report.ticks, sc] 0).ld none μ2.next 0 = some (.c (.int .i64 S.report.code)) := new_ld0 rfl
  have r1 : (μ2.new [.int .i64 S.report.code, rc, .int .i64 S.report.num, .int .i64 S.report.ticks, sc] 0).ld none μ2.next 1 = some (.c rc) := new_ld0 rfl
  have hP3 := hP2.same hs3 (Nat.le_succ _)
  have hRr3 := hRr.same (Same.tmp (Nat.le_refl _) : Same μ2.next μ2 (μ2.new [.int .i64 S.report.code, rc, .int .i64 S.report.num, .int .i64 S.report.ticks, sc] 0)) (Nat.le_refl _)
  have n3 : (μ2.new [.int .i64 S.report.code, rc, .int .i64 S.report.num, .int .i64 S.report.ticks, sc] 0).next = μ2.next + 1 := rfl
  simp only [w1, w2, AV.isTup, AV.cells, ↓reduceIte, Nat.reduceEqDiff, Nat.reduceAdd, Int.reduceLT, Int.reduceLE, Int.reduceNeg, Int.reduceBEq, Int.reduceBNe, e2, l2]
  generalize μ2.new [.int .i64 S.report.code, rc, .int .i64 S.report.num, .int .i64 S.report.ticks, sc] 0 = μ3 at *
  refine R_calls (l := [.agg [pc], .c (.int .i64 500)]) (by simp only [w1, w2, AV.isTup, AV.cells, ↓reduceIte, Nat.reduceEqDiff, Nat.reduceAdd, Int.reduceLT, Int.reduceLE, Int.reduceNeg, Int.reduceBEq, Int.reduceBNe]) (endOf_ok hP3 (by omega) hgo.lens hgo) ?_
  rintro v μ4 ⟨⟨ec, g, rfl, hE1, hE2⟩, hs4⟩
  have e4 : (μ4.new [.bool false, .int .i64 0, .slc none 0 0] 0).st μ4.next 0 [.bool S.stand.ok, .int .i64 S.stand.running, ec] = some (μ4.new [.bool S.stand.ok, .int .i64 S.stand.running, ec] 0) := new_st0 rfl
  have n4 : μ3.next ≤ μ4.next := hs4.2
  have hs5 : Same μ3.next μ3 (μ4.new [.bool S.stand.ok, .int .i64 S.stand.running, ec] 0) := hs4.new n4
  have q0 := (hs5.ld (n := none) (i := μ2.next) (o := 0) (by omega)).trans r0
  have q1 := (hs5.ld (n := none) (i := μ2.next) (o := 1) (by omega)).trans r1
  have q2 : (μ4.new [.bool S.stand.ok, .int .i64 S.stand.running, ec] 0).ld none μ4.next 2 = some (.c ec) := new_ld0 rfl
  have hRr5 := hRr3.same hs5 (by omega)
  have hE5 := hE1.same (Same.tmp (Nat.le_refl _) : Same μ4.next μ4 (μ4.new [.bool S.stand.ok, .int .i64 S.stand.running, ec] 0)) (Nat.le_refl _)
  have n5 : (μ4.new [.bool S.stand.ok, .int .i64 S.stand.running, ec] 0).next = μ4.next + 1 := rfl
  unfold defersGood at hgood
  simp only [Bool.and_eq_true, beq_iff_eq, decide_eq_true_eq] at hgood
  obtain ⟨⟨⟨⟨gc, gst⟩, grl⟩, gt⟩, gs⟩ := hgood
  obtain ⟨t0, t1, htk⟩ : ∃ t0 t1, S.tasks = [t0, t1] := by
    split at gt
    · rename_i a b hh; exact ⟨_, _, hh⟩
    · cases gt
  rw [htk] at gt
  simp only [Bool.and_eq_true, beq_iff_eq] at gt
  obtain ⟨⟨gt1, gt2⟩, gt3⟩ := gt
  have hv : S.stand.tasks[1]? = some t1.view := by simp [PM.stand, htk]
  obtain ⟨eb, eo, a1, a2, a3, a4⟩ := hE5.row (sz := 7) (fun _ _ => rfl) (by omega) hv
  obtain ⟨ea, ecap, hec⟩ := hE5.slc
  have hel : S.stand.tasks.length = 2 := by simp [PM.stand, htk]
  rw [hel] at hec
  have b1 := a4 1 (by omega)
  have b5 := a4 5 (by omega)
  have b6 := a4 6 (by omega)
  simp only [List.getElem?_cons_succ, List.getElem?_cons_zero, Option.map_some, PTk.view, gt1, gt2, gt3] at b1 b5 b6
  have hgc : S.report.code = 0 := gc
  obtain ⟨ra, rcap, hrc⟩ := hRr5.slc
  have hrl : S.report.recs = S.recs := rfl
  rw [hrl] at hrc hRr5
  have a1' : ∀ kd : IntKind, aidx (.c ec) (.c (.int kd 1)) 7 = some (pt eb eo) := a1
  clear a1
  simp only [w1, w2, AV.isTup, AV.cells, ↓reduceIte, Nat.reduceEqDiff, Nat.reduceAdd, Int.reduceLT, Int.reduceLE, Int.reduceNeg, Int.reduceBEq, Int.reduceBNe, e4]
  generalize μ4.new [.bool S.stand.ok, .int .i64 S.stand.running, ec] 0 = μ6 at *
  subst hec
  simp only [hgc] at q0
  have c1 : ((0 : Int) != 0) = false := rfl
  have c2 : (((2 : Nat) : Int) != 2) = false := rfl
  have c3 : ((4 : Int) != 4) = false := rfl
  have c4 : (((m0 + 1 : Nat) : Int) != ((m0 + 1 : Nat) : Int)) = false := by simp
  simp only [w1, w2, AV.isTup, AV.cells, ↓reduceIte, Nat.reduceEqDiff, Nat.reduceAdd, Int.reduceLT, Int.reduceLE, Int.reduceNeg, Int.reduceBEq, Int.reduceBNe, q0, c1, q2, c2, a1', b1, c3, b5, b6, c4]
  rw [hrc] at q1 hRr5
  have hh6 : μ2.next ≤ μ6.next := by have := hs5.2; omega
  by_cases h4 : m1 = 4
  · rw [if_pos h4] at gs
    have h4b : ((m1 : Int) == 4) = true := beq_tt (by omega)
    have hw4 : IntKind.i64.wrap (((m0 + 1 : Nat) : Int) - 1) = ((m0 + 1 : Nat) : Int) - 1 := small (by omega)
    simp only [w1, w2, AV.isTup, AV.cells, ↓reduceIte, Nat.reduceEqDiff, Nat.reduceAdd, Int.reduceLT, Int.reduceLE, Int.reduceNeg, Int.reduceBEq, Int.reduceBNe, h4b, q1, hw4]
    refine loop7 hRr5 hh6 grl S.recs.length 0 (((m0 + 1 : Nat) : Int) - 1) _ μ6 (by omega) gs Same.refl ?_ ?_ ?_ ?_ ?_
    · simp only [w1, w2, AV.isTup, AV.cells, ↓reduceIte, Nat.reduceEqDiff, Nat.reduceAdd, Int.reduceLT, Int.reduceLE, Int.reduceNeg, Int.reduceBEq, Int.reduceBNe]
    · simp only [w1, w2, AV.isTup, AV.cells, ↓reduceIte, Nat.reduceEqDiff, Nat.reduceAdd, Int.reduceLT, Int.reduceLE, Int.reduceNeg, Int.reduceBEq, Int.reduceBNe]
    · simp only [w1, w2, AV.isTup, AV.cells, ↓reduceIte, Nat.reduceEqDiff, Nat.reduceAdd, Int.reduceLT, Int.reduceLE, Int.reduceNeg, Int.reduceBEq, Int.reduceBNe]; rfl
    · simp only [w1, w2, AV.isTup, AV.cells, ↓reduceIte, Nat.reduceEqDiff, Nat.reduceAdd, Int.reduceLT, Int.reduceLE, Int.reduceNeg, Int.reduceBEq, Int.reduceBNe]
    · intro fr' μ' f8
      simp only [w1, w2, AV.isTup, AV.cells, ↓reduceIte, Nat.reduceEqDiff, Nat.reduceAdd, Int.reduceLT, Int.reduceLE, Int.reduceNeg, Int.reduceBEq, Int.reduceBNe, f8, aRet, aRes, aRes1]
      exact ⟨_, rfl, rfl⟩
  · rw [if_neg h4] at gs
    have h4b : ((m1 : Int) == 4) = false := beq_ff (by omega)
    simp only [w1, w2, AV.isTup, AV.cells, ↓reduceIte, Nat.reduceEqDiff, Nat.reduceAdd, Int.reduceLT, Int.reduceLE, Int.reduceNeg, Int.reduceBEq, Int.reduceBNe, h4b, q1]
    refine loop7 hRr5 hh6 grl S.recs.length 0 ((m0 + 1 : Nat) : Int) _ μ6 (by omega) gs Same.refl ?_ ?_ ?_ ?_ ?_
    · simp only [w1, w2, AV.isTup, AV.cells, ↓reduceIte, Nat.reduceEqDiff, Nat.reduceAdd, Int.reduceLT, Int.reduceLE, Int.reduceNeg, Int.reduceBEq, Int.reduceBNe]
    · simp only [w1, w2, AV.isTup, AV.cells, ↓reduceIte, Nat.reduceEqDiff, Nat.reduceAdd, Int.reduceLT, Int.reduceLE, Int.reduceNeg, Int.reduceBEq, Int.reduceBNe]
    · simp only [w1, w2, AV.isTup, AV.cells, ↓reduceIte, Nat.reduceEqDiff, Nat.reduceAdd, Int.reduceLT, Int.reduceLE, Int.reduceNeg, Int.reduceBEq, Int.reduceBNe]; rfl
    · simp only [w1, w2, AV.isTup, AV.cells, ↓reduceIte, Nat.reduceEqDiff, Nat.reduceAdd, Int.reduceLT, Int.reduceLE, Int.reduceNeg, Int.reduceBEq, Int.reduceBNe]
    · intro fr' μ' f8
      simp only [w1, w2, AV.isTup, AV.cells, ↓reduceIte, Nat.reduceEqDiff, Nat.reduceAdd, Int.reduceLT, Int.reduceLE, Int.reduceNeg, Int.reduceBEq, Int.reduceBNe, f8, aRet, aRes, aRes1]
      exact ⟨_, rfl, rfl⟩
end Go.Proofs.Ytibmnlijoeppaaa
