/-
  The law FnRelay returns true: its own code walked.
-/
import Derived.Test.YtibmnlijoeppaaaMRelay
namespace Go.Proofs.Ytibmnlijoeppaaa
set_option linter.unusedSimpArgs false
set_option linter.unusedVariables false

/-! 25: spec.MadeRelay -/
def r25 : RFun := ⟨25, [.cell 2 (some 1)],
 (.seq
  (.reg [⟨0, .alc [.slc none 0 0], some 2, none, []⟩])
  (.seq
   (.reg [⟨0, .bld [.int .i64 0, .int .i64 0, .int .i64 0, .int .i64 0, .int .i64 0] [(0, 1, .k (.int .i64 4)), (1, 1, .k (.int .i64 1)), (2, 1, .k (.int .i64 1))], some 5, none, []⟩,
     ⟨1, .mv (.t 0), some 6, none, []⟩,
     ⟨2, .bld [.int .i64 0, .int .i64 0, .int .i64 0, .int .i64 0, .int .i64 0] [(0, 1, .k (.int .i64 1)), (1, 1, .k (.int .i64 2)), (3, 1, .t 6)], some 7, none, []⟩,
     ⟨3, .bld [.int .i64 0, .int .i64 0, .int .i64 0, .int .i64 0, .int .i64 0] [(0, 1, .k (.int .i64 14)), (1, 1, .k (.int .i64 2)), (4, 1, .k (.int .i64 2))], some 8, none, []⟩,
     ⟨4, .bld [.int .i64 0, .int .i64 0, .int .i64 0, .int .i64 0, .int .i64 0] [(0, 1, .k (.int .i64 2)), (1, 1, .k (.int .i64 0)), (2, 1, .k (.int .i64 0)), (3, 1, .k (.int .i64 1))], some 9, none, []⟩,
     ⟨5, .bld [.int .i64 0, .int .i64 0, .int .i64 0, .int .i64 0, .int .i64 0] [(0, 1, .k (.int .i64 5)), (1, 1, .k (.int .i64 0)), (2, 1, .k (.int .i64 1))], some 10, none, []⟩,
     ⟨6, .bld [.int .i64 0, .int .i64 0, .int .i64 0, .int .i64 0, .int .i64 0] [(0, 1, .k (.int .i64 3)), (1, 1, .k (.int .i64 0))], some 11, none, []⟩,
     ⟨7, .bsl [.int .i64 0, .int .i64 0, .int .i64 0, .int .i64 0, .int .i64 0] 6 [(0, .t 5), (1, .t 7), (2, .t 8), (3, .t 9), (4, .t 10), (5, .t 11)], some 12, none, []⟩,
     ⟨8, .bld [.slc none 0 0] [(0, 1, .t 12)], some 13, none, []⟩,
     ⟨9, .alc [.slc none 0 0], some 3, none, []⟩,
     ⟨10, .st (.t 3) (.t 13) 1, none, none, []⟩])
   (.seq
    (.reg [⟨0, .bld [.int .i64 0, .int .i64 0, .int .i64 0, .int .i64 0, .int .i64 0] [(0, 1, .k (.int .i64 1)), (1, 1, .k (.int .i64 1)), (3, 1, .k (.int .i64 1))], some 14, none, []⟩,
      ⟨1, .bld [.int .i64 0, .int .i64 0, .int .i64 0, .int .i64 0, .int .i64 0] [(0, 1, .k (.int .i64 14)), (1, 1, .k (.int .i64 1)), (4, 1, .k (.int .i64 3))], some 15, none, []⟩,
      ⟨2, .bld [.int .i64 0, .int .i64 0, .int .i64 0, .int .i64 0, .int .i64 0] [(0, 1, .k (.int .i64 2)), (1, 1, .k (.int .i64 0)), (2, 1, .k (.int .i64 0)), (3, 1, .k (.int .i64 1))], some 16, none, []⟩,
      ⟨3, .bld [.int .i64 0, .int .i64 0, .int .i64 0, .int .i64 0, .int .i64 0] [(0, 1, .k (.int .i64 6)), (1, 1, .k (.int .i64 0))], some 17, none, []⟩,
      ⟨4, .bld [.int .i64 0, .int .i64 0, .int .i64 0, .int .i64 0, .int .i64 0] [(0, 1, .k (.int .i64 1)), (1, 1, .k (.int .i64 1)), (3, 1, .k (.int .i64 1))], some 18, none, []⟩,
      ⟨5, .bsl [.int .i64 0, .int .i64 0, .int .i64 0, .int .i64 0, .int .i64 0] 5 [(0, .t 14), (1, .t 15), (2, .t 16), (3, .t 17), (4, .t 18)], some 19, none, []⟩,
      ⟨6, .bld [.slc none 0 0] [(0, 1, .t 19)], some 20, none, []⟩,
      ⟨7, .alc [.slc none 0 0], some 4, none, []⟩,
      ⟨8, .st (.t 4) (.t 20) 1, none, none, []⟩])
    (.seq
     (.reg [⟨0, .ld (some 1) (.t 3), some 21, none, []⟩,
       ⟨1, .ld (some 1) (.t 4), some 22, none, []⟩,
       ⟨2, .bsl [.slc none 0 0] 2 [(0, .t 21), (1, .t 22)], some 23, none, []⟩,
       ⟨3, .bld [.slc none 0 0] [(0, 1, .t 23)], some 24, none, []⟩,
       ⟨4, .st (.t 2) (.t 24) 1, none, none, []⟩])
     .ret))))⟩
theorem p25 : prog 25 = some r25 := by kernel_rfl

/-! 5: laws.FnRelay -/
def b5_0 : RCode :=
 (.seq
  (.reg [⟨0, .bin .lss (.t 23) (.t 22), some 24, none, []⟩])
  (.seq
   (.ite (.t 24)
    .skip
    (.exit 0))
   (.seq
    (.blk 1
     (.seq
      (.reg [⟨0, .ias (.t 21) (.t 23) 4, some 25, none, []⟩,
        ⟨1, .ld (some 4) (.t 25), some 26, none, []⟩,
        ⟨2, .alc [.int .i64 0, .int .i64 0, .int .i64 0, .int .i64 0], some 8, none, []⟩,
        ⟨3, .st (.t 8) (.t 26) 4, none, none, []⟩])
      (.seq
       (.reg [⟨0, .fa (.t 8) 0, some 27, none, []⟩,
         ⟨1, .ld none (.t 27), some 28, none, []⟩,
         ⟨2, .bin .eql (.t 28) (.k (.int .i64 2)), some 29, none, []⟩])
       (.ite (.t 29)
        (.reg [⟨0, .mv (.t 6), some 30, none, []⟩,
          ⟨1, .bin .add (.t 30) (.k (.int .i64 1)), some 31, none, []⟩,
          ⟨2, .mv (.t 31), some 6, none, []⟩])
        .skip))))
    (.reg [⟨0, .bin .add (.t 23) (.k (.int .i64 1)), some 32, none, []⟩,
      ⟨1, .mv (.t 32), some 23, none, []⟩]))))
def r5 : RFun := ⟨84, [.tmp 2],
 (.seq
  (.reg [⟨0, .mv (.k (.bool false)), some 2, none, []⟩])
  (.seq
   (.seq
    (.reg [⟨0, .mv (.t 0), some 10, none, []⟩,
      ⟨1, .len (.t 10), some 11, none, []⟩,
      ⟨2, .bin .gtr (.t 11) (.k (.int .i64 1048576)), some 12, none, []⟩])
    (.ite (.t 12)
     (.seq
      (.reg [⟨0, .mv (.k (.bool true)), some 2, none, []⟩])
      .ret)
     .skip))
   (.seq
    (.reg [⟨0, .mv (.t 0), some 13, none, []⟩,
      ⟨1, .call 24 [.t 13, .k (.int .i64 0)], some 14, none, []⟩,
      ⟨2, .bin .rem (.t 14) (.k (.int .i64 151)), some 15, none, []⟩,
      ⟨3, .mv (.t 15), some 3, none, []⟩])
    (.seq
     (.reg [⟨0, .mv (.t 3), some 16, none, []⟩,
       ⟨1, .call 25 [.t 16], some 17, none, []⟩,
       ⟨2, .alc [.slc none 0 0], some 4, none, []⟩,
       ⟨3, .st (.t 4) (.t 17) 1, none, none, []⟩])
     (.seq
      (.reg [⟨0, .ld (some 1) (.t 4), some 18, none, []⟩,
        ⟨1, .call 26 [.t 18, .k (.int .i64 5000)], some 19, none, []⟩,
        ⟨2, .alc [.int .i64 0, .slc none 0 0, .int .i64 0, .int .i64 0, .slc none 0 0], some 5, none, []⟩,
        ⟨3, .st (.t 5) (.t 19) 5, none, none, []⟩])
      (.seq
       (.reg [⟨0, .mv (.k (.int .i64 0)), some 6, none, []⟩])
       (.seq
        (.seq
         (.reg [⟨0, .fa (.t 5) 1, some 20, none, []⟩,
           ⟨1, .ld none (.t 20), some 21, none, []⟩,
           ⟨2, .len (.t 21), some 22, none, []⟩,
           ⟨3, .mv (.k (.int .i64 0)), some 23, none, []⟩])
         (.blk 0
          (.loop b5_0)))
        (.seq
         (.seq
          (.reg [⟨0, .fa (.t 5) 0, some 33, none, []⟩,
            ⟨1, .ld none (.t 33), some 34, none, []⟩,
            ⟨2, .bin .neq (.t 34) (.k (.int .i64 0)), some 35, none, []⟩,
            ⟨3, .mv (.t 35), some 36, none, []⟩,
            ⟨4, .mv (.t 6), some 37, some (36, false), []⟩,
            ⟨5, .mv (.t 3), some 38, some (36, false), []⟩,
            ⟨6, .bin .mul (.k (.int .i64 2)) (.t 38), some 39, some (36, false), []⟩,
            ⟨7, .bin .neq (.t 37) (.t 39), some 40, some (36, false), []⟩,
            ⟨8, .pick (.t 36) (.k (.bool true)) (.t 40), some 41, none, []⟩,
            ⟨9, .mv (.t 41), some 42, none, []⟩,
            ⟨10, .fa (.t 5) 1, some 43, some (42, false), []⟩,
            ⟨11, .ld none (.t 43), some 44, some (42, false), []⟩,
            ⟨12, .len (.t 44), some 45, some (42, false), []⟩,
            ⟨13, .mv (.t 3), some 46, some (42, false), []⟩,
            ⟨14, .bin .mul (.k (.int .i64 2)) (.t 46), some 47, some (42, false), []⟩,
            ⟨15, .bin .add (.t 47) (.k (.int .i64 1)), some 48, some (42, false), []⟩,
            ⟨16, .bin .neq (.t 45) (.t 48), some 49, some (42, false), []⟩,
            ⟨17, .pick (.t 42) (.k (.bool true)) (.t 49), some 50, none, []⟩,
            ⟨18, .mv (.t 50), some 51, none, []⟩,
            ⟨19, .fa (.t 5) 4, some 52, some (51, false), []⟩,
            ⟨20, .ld none (.t 52), some 53, some (51, false), []⟩,
            ⟨21, .len (.t 53), some 54, some (51, false), []⟩,
            ⟨22, .bin .neq (.t 54) (.k (.int .i64 2)), some 55, some (51, false), []⟩,
            ⟨23, .pick (.t 51) (.k (.bool true)) (.t 55), some 56, none, []⟩])
          (.ite (.t 56)
           (.seq
            (.reg [⟨0, .mv (.k (.bool false)), some 2, none, []⟩])
            .ret)
           .skip))
         (.seq
          (.reg [⟨0, .mv (.k (.int .i64 1)), some 9, none, []⟩])
          (.seq
           (.seq
            (.reg [⟨0, .mv (.t 3), some 57, none, []⟩,
              ⟨1, .bin .eql (.t 57) (.k (.int .i64 0)), some 58, none, []⟩])
            (.ite (.t 58)
             (.reg [⟨0, .mv (.k (.int .i64 0)), some 9, none, []⟩])
             .skip))
           (.seq
            (.reg [⟨0, .fa (.t 5) 1, some 59, none, []⟩,
              ⟨1, .ld none (.t 59), some 60, none, []⟩,
              ⟨2, .mv (.t 3), some 61, none, []⟩,
              ⟨3, .bin .mul (.k (.int .i64 2)) (.t 61), some 62, none, []⟩,
              ⟨4, .ias (.t 60) (.t 62) 4, some 63, none, []⟩,
              ⟨5, .ld (some 4) (.t 63), some 64, none, []⟩,
              ⟨6, .mv (.t 3), some 65, none, []⟩,
              ⟨7, .bin .mul (.k (.int .i64 2)) (.t 65), some 66, none, []⟩,
              ⟨8, .bld [.int .i64 0, .int .i64 0, .int .i64 0, .int .i64 0] [(0, 1, .k (.int .i64 1)), (3, 1, .t 66)], some 67, none, []⟩,
              ⟨9, .eq false (.ints 4) (.t 64) (.t 67), some 68, none, []⟩,
              ⟨10, .mv (.t 68), some 69, none, []⟩,
              ⟨11, .fa (.t 5) 4, some 70, some (69, true), []⟩,
              ⟨12, .ld none (.t 70), some 71, some (69, true), []⟩,
              ⟨13, .ias (.t 71) (.k (.int .i64 1)) 1, some 72, some (69, true), []⟩,
              ⟨14, .ld none (.t 72), some 73, some (69, true), []⟩,
              ⟨15, .mv (.t 9), some 74, some (69, true), []⟩,
              ⟨16, .bin .eql (.t 73) (.t 74), some 75, some (69, true), []⟩,
              ⟨17, .pick (.t 69) (.t 75) (.k (.bool false)), some 76, none, []⟩,
              ⟨18, .mv (.t 76), some 77, none, []⟩,
              ⟨19, .fa (.t 5) 4, some 78, some (77, true), []⟩,
              ⟨20, .ld none (.t 78), some 79, some (77, true), []⟩,
              ⟨21, .ias (.t 79) (.k (.int .i64 0)) 1, some 80, some (77, true), []⟩,
              ⟨22, .ld none (.t 80), some 81, some (77, true), []⟩,
              ⟨23, .bin .eql (.t 81) (.k (.int .i64 4)), some 82, some (77, true), []⟩,
              ⟨24, .pick (.t 77) (.t 82) (.k (.bool false)), some 83, none, []⟩,
              ⟨25, .mv (.t 83), some 2, none, []⟩])
            .ret)))))))))))⟩
theorem p5 : prog 5 = some r5 := by kernel_rfl



/-- The plan that a function without calls makes. -/
def madeOfR (rf : RFun) (args : List AV) (fuel : Nat) (f : Nat → Option AObj) : Option PPlan := (madeEv rf args f fuel).bind fun x => decPlan x.2 x.1

theorem madeOfR_call {g : Nat} {rf : RFun} (hp : prog g = some rf) {args : List AV} (hl : args.length ≤ rf.ntmps) {μ : Mem} (hn : μ.next = 1) {fuel : Nat} {p : PPlan} (h : ∀ f, madeOfR rf args fuel f = some p) :
    Ret g args μ fun v μ' => ∃ c, v = .agg [c] ∧ PlanR μ'.next μ' c p := by
  obtain ⟨f, n⟩ := μ
  simp only at hn
  subst hn
  obtain ⟨⟨c, μ'⟩, h1, h2⟩ := Option.bind_eq_some_iff.1 (h f)
  exact ⟨_, _, madeEv_ok hp hl h1, c, rfl, decPlan_ok h2⟩

theorem relay_made : ∀ (f : Nat → Option AObj) (n : Int), madeOfR r25 [.c (.int .i64 n)] 100 f = some (madeRelay n) := by intro f n; kernel_rfl

def relayOks : Bool := (List.range 151).all fun n => (okP (madeRelay n)).1 == 0
theorem relay_oks : relayOks = true := by kernel_rfl

theorem relay_goes {n : Nat} (hn : n ≤ 150) : ∃ S, Goes (madeRelay n) 5000 none S ∧ relayEnd n S := by
  obtain ⟨S, fuel, h1, h2⟩ := relay_run hn
  refine ⟨S, ⟨⟨fuel, h1⟩, by omega, ?_, ?_, h2.2.1⟩, h2⟩
  · have h := relay_oks
    unfold relayOks at h
    rw [List.all_eq_true] at h
    have := h n (List.mem_range.2 (by omega))
    simpa using this
  · obtain ⟨_, _, _, t0, t1, e, _⟩ := h2
    rw [e]; simp [roomy]

def cntT : List PRec → Nat
  | [] => 0
  | x :: l => if x.kind = 2 then cntT l + 1 else cntT l
theorem cntT_le : ∀ {l : List PRec}, cntT l ≤ l.length
  | [] => Nat.le_refl _
  | x :: l => by
    have := cntT_le (l := l)
    simp only [cntT, List.length_cons]
    split <;> omega
theorem cntT_rounds {x : PRec} (hx : x.kind = 1) : ∀ k, cntT (rounds k ++ [x]) = 2 * k
  | 0 => by simp [rounds, cntT, hx]
  | k + 1 => by
    simp only [rounds, List.cons_append, List.nil_append, cntT, if_true, cntT_rounds hx k]
    omega

theorem loop5 {n : Nat} {S : PM} {rc : Cell} {br : Nat} {hi : Nat} {μ0 : Mem} (hR : Rd hi μ0 4 rc S.recs.length (cat recrow 0 S.recs)) (hh : hi ≤ μ0.next) (hroom : S.recs.length < 1000) {s : List It} {Q : Fr → Mem → Prop} :
    ∀ (d i a : Nat) (fr : Fr) (μ : Mem), i + d = S.recs.length → a + cntT (S.recs.drop i) = cntT S.recs → Same hi μ0 μ → fr 21 = .c rc → fr 22 = .c (.int .i64 S.recs.length) → fr 23 = .c (.int .i64 i) →
      fr 6 = .c (.int .i64 a) → fr 3 = .c (.int .i64 n) → fr 5 = pt br 0 →
      (∀ fr' μ', Same hi μ0 μ' → fr' 6 = .c (.int .i64 (cntT S.recs)) → fr' 3 = .c (.int .i64 n) → fr' 5 = pt br 0 → R s fr' μ' Q) → R (.c (.loop b5_0) :: .blk 0 :: s) fr μ Q := by
  intro d
  induction d with
  | zero =>
    intro i a fr μ hd ha hsm f21 f22 f23 f6 f3 f5 hend
    rw [R_loop]
    simp only [b5_0]
    simp only [w1, w2, AV.isTup, AV.cells, ↓reduceIte, Nat.reduceEqDiff, Nat.reduceAdd, Int.reduceLT, Int.reduceLE, Int.reduceNeg, Int.reduceBEq, Int.reduceBNe, f22, f23]
    rw [decide_eq_false (by omega)]
    simp only [w1, w2, AV.isTup, AV.cells, ↓reduceIte, Nat.reduceEqDiff, Nat.reduceAdd, Int.reduceLT, Int.reduceLE, Int.reduceNeg, Int.reduceBEq, Int.reduceBNe]
    rw [R_exit rfl]
    rw [List.drop_eq_nil_of_le (by omega)] at ha
    simp only [cntT, Nat.add_zero] at ha
    subst ha
    refine hend _ _ hsm ?_ ?_ ?_
    · simp only [w1, w2, AV.isTup, AV.cells, ↓reduceIte, Nat.reduceEqDiff, Nat.reduceAdd, Int.reduceLT, Int.reduceLE, Int.reduceNeg, Int.reduceBEq, Int.reduceBNe, f6]
    · simp only [w1, w2, AV.isTup, AV.cells, ↓reduceIte, Nat.reduceEqDiff, Nat.reduceAdd, Int.reduceLT, Int.reduceLE, Int.reduceNeg, Int.reduceBEq, Int.reduceBNe, f3]
    · simp only [w1, w2, AV.isTup, AV.cells, ↓reduceIte, Nat.reduceEqDiff, Nat.reduceAdd, Int.reduceLT, Int.reduceLE, Int.reduceNeg, Int.reduceBEq, Int.reduceBNe, f5]
  | succ d ih =>
    intro i a fr μ hd ha hsm f21 f22 f23 f6 f3 f5 hend
    have hlt : i < S.recs.length := by omega
    have hget : S.recs[i]? = some S.recs[i] := List.getElem?_eq_getElem hlt
    have hdrop : S.recs.drop i = S.recs[i] :: S.recs.drop (i + 1) := List.drop_eq_getElem_cons hlt
    obtain ⟨b, o, e1, e2⟩ := recAt hR hsm hget
    rw [hdrop] at ha
    simp only [cntT] at ha
    have la := cntT_le (l := S.recs)
    have es : (μ.new [.int .i64 0, .int .i64 0, .int .i64 0, .int .i64 0] 0).st μ.next 0 [.int .i64 S.recs[i].kind, .int .i64 S.recs[i].task, .int .i64 S.recs[i].how, .int .i64 S.recs[i].num] =
      some (μ.new [.int .i64 S.recs[i].kind, .int .i64 S.recs[i].task, .int .i64 S.recs[i].how, .int .i64 S.recs[i].num] 0) := new_st0 rfl
    have l0 : (μ.new [.int .i64 S.recs[i].kind, .int .i64 S.recs[i].task, .int .i64 S.recs[i].how, .int .i64 S.recs[i].num] 0).ld none μ.next 0 = some (.c (.int .i64 S.recs[i].kind)) := new_ld0 rfl
    have hsm2 := hsm.new (Nat.le_trans hh hsm.2) (cs := [.int .i64 S.recs[i].kind, .int .i64 S.recs[i].task, .int .i64 S.recs[i].how, .int .i64 S.recs[i].num]) (e := 0)
    have x6 : IntKind.i64.wrap ((i : Int) + 1) = ((i + 1 : Nat) : Int) := by rw [small (by omega)]; omega
    have xa : IntKind.i64.wrap ((a : Int) + 1) = ((a + 1 : Nat) : Int) := by rw [small (by omega)]; omega
    generalize μ.new [.int .i64 S.recs[i].kind, .int .i64 S.recs[i].task, .int .i64 S.recs[i].how, .int .i64 S.recs[i].num] 0 = μ2 at *
    rw [R_loop]
    simp only [b5_0]
    simp only [w1, w2, AV.isTup, AV.cells, ↓reduceIte, Nat.reduceEqDiff, Nat.reduceAdd, Int.reduceLT, Int.reduceLE, Int.reduceNeg, Int.reduceBEq, Int.reduceBNe, f22, f23]
    rw [decide_eq_true (by omega)]
    simp only [w1, w2, AV.isTup, AV.cells, ↓reduceIte, Nat.reduceEqDiff, Nat.reduceAdd, Int.reduceLT, Int.reduceLE, Int.reduceNeg, Int.reduceBEq, Int.reduceBNe, f21, f23, e1, e2, es, l0]
    by_cases k2 : S.recs[i].kind = 2
    · rw [if_pos k2] at ha
      simp only [w1, w2, AV.isTup, AV.cells, ↓reduceIte, Nat.reduceEqDiff, Nat.reduceAdd, Int.reduceLT, Int.reduceLE, Int.reduceNeg, Int.reduceBEq, Int.reduceBNe, beq_tt k2, f6, xa, f23, x6]
      rw [R_lp]
      refine ih (i + 1) (a + 1) _ μ2 (by omega) (by omega) hsm2 ?_ ?_ ?_ ?_ ?_ ?_ hend <;> simp only [w1, w2, AV.isTup, AV.cells, ↓reduceIte, Nat.reduceEqDiff, Nat.reduceAdd, Int.reduceLT, Int.reduceLE, Int.reduceNeg, Int.reduceBEq, Int.reduceBNe, f21, f22, f6, f3, f5]
    · rw [if_neg k2] at ha
      simp only [w1, w2, AV.isTup, AV.cells, ↓reduceIte, Nat.reduceEqDiff, Nat.reduceAdd, Int.reduceLT, Int.reduceLE, Int.reduceNeg, Int.reduceBEq, Int.reduceBNe, beq_ff k2, f23, x6]
      rw [R_lp]
      refine ih (i + 1) a _ μ2 (by omega) ha hsm2 ?_ ?_ ?_ ?_ ?_ ?_ hend <;> simp only [w1, w2, AV.isTup, AV.cells, ↓reduceIte, Nat.reduceEqDiff, Nat.reduceAdd, Int.reduceLT, Int.reduceLE, Int.reduceNeg, Int.reduceBEq, Int.reduceBNe, f21, f22, f6, f3, f5]

theorem law5 {hi : Nat} {μ : Mem} {c : Cell} {b : List Int} (hR : Rd hi μ 1 c b.length (cat brow 0 b)) (hhi : hi ≤ μ.next) (hn : μ.next = 1) (hr : ∀ y ∈ b, 0 ≤ y ∧ y ≤ 255) : Ret 5 [.c c] μ fun v μ' => v = .c (.bool true) := by
  obtain ⟨a, cap, hc, _⟩ := id hR
  refine Ret_of p5 (by simp [r5]) ?_
  simp only [r5, frOf_1]
  have w0 := wByte_ok hR hr 0
  have g0 := pB_range hr 0
  generalize pB b 0 = x0 at *
  obtain ⟨n, hm0, hm0l⟩ := tmod_nat (a := x0) (n := 151) g0.1
  have hm0l := hm0l (by omega)
  have hm0' : x0.tmod 151 = n := hm0
  have hv0 : vbin .rem (.c (.int .i64 x0)) (.c (.int .i64 151)) = some (.c (.int .i64 (n : Int))) := by rw [vbin_rem (by omega), hm0']
  have hn1 : n ≤ 150 := by omega
  subst hc
  simp only [w1, w2, AV.isTup, AV.cells, ↓reduceIte, Nat.reduceEqDiff, Nat.reduceAdd, Int.reduceLT, Int.reduceLE, Int.reduceNeg, Int.reduceBEq, Int.reduceBNe]
  by_cases hlen : (b.length : Int) > 1048576
  · rw [decide_eq_true hlen]
    simp only [w1, w2, AV.isTup, AV.cells, ↓reduceIte, Nat.reduceEqDiff, Nat.reduceAdd, Int.reduceLT, Int.reduceLE, Int.reduceNeg, Int.reduceBEq, Int.reduceBNe, aRet, aRes, aRes1]
    exact ⟨_, rfl, rfl⟩
  rw [decide_eq_false hlen]
  simp only [w1, w2, AV.isTup, AV.cells, ↓reduceIte, Nat.reduceEqDiff, Nat.reduceAdd, Int.reduceLT, Int.reduceLE, Int.reduceNeg, Int.reduceBEq, Int.reduceBNe]
  refine R_calls (l := [.c (.slc a b.length cap), .c (.int .i64 ((0 : Nat) : Int))]) (by simp only [w1, w2, AV.isTup, AV.cells, ↓reduceIte, Nat.reduceEqDiff, Nat.reduceAdd, Int.reduceLT, Int.reduceLE, Int.reduceNeg, Int.reduceBEq, Int.reduceBNe]; rfl) w0 ?_
  rintro v μa ⟨rfl, rfl⟩
  simp only [w1, w2, AV.isTup, AV.cells, ↓reduceIte, Nat.reduceEqDiff, Nat.reduceAdd, Int.reduceLT, Int.reduceLE, Int.reduceNeg, Int.reduceBEq, Int.reduceBNe, hv0]
  obtain ⟨S, hgo, hgood⟩ := relay_goes hn1
  have hmade := madeOfR_call (g := 25) (args := [.c (.int .i64 (n : Int))]) p25 (by simp [r25]) hn (fun f => relay_made f n)
  refine R_calls (l := [.c (.int .i64 (n : Int))]) (by simp only [w1, w2, AV.isTup, AV.cells, ↓reduceIte, Nat.reduceEqDiff, Nat.reduceAdd, Int.reduceLT, Int.reduceLE, Int.reduceNeg, Int.reduceBEq, Int.reduceBNe]) hmade ?_
  rintro v μ1 ⟨pc, rfl, hP⟩
  have e1 : (μ1.new [.slc none 0 0] 0).st μ1.next 0 [pc] = some (μ1.new [pc] 0) := new_st0 rfl
  have hP2 : PlanR μ1.next (μ1.new [pc] 0) pc (madeRelay n) := hP.same (Same.tmp (Nat.le_refl _)) (Nat.le_refl _)
  have l1 : (μ1.new [pc] 0).ld (some 1) μ1.next 0 = some (.agg [pc]) := by rw [Mem.new_ld, if_pos rfl]; rfl
  simp only [w1, w2, AV.isTup, AV.cells, ↓reduceIte, Nat.reduceEqDiff, Nat.reduceAdd, Int.reduceLT, Int.reduceLE, Int.reduceNeg, Int.reduceBEq, Int.reduceBNe, e1, l1]
  refine R_calls (l := [.agg [pc], .c (.int .i64 5000)]) (by simp only [w1, w2, AV.isTup, AV.cells, ↓reduceIte, Nat.reduceEqDiff, Nat.reduceAdd, Int.reduceLT, Int.reduceLE, Int.reduceNeg, Int.reduceBEq, Int.reduceBNe]) (runPlan_ok hP2 (Nat.le_succ _) hgo.plan hgo) ?_
  rintro v μ2 ⟨⟨rc, sc, rfl, hRr, hRs⟩, hs2⟩
  have e2 : (μ2.new [.int .i64 0, .slc none 0 0, .int .i64 0, .int .i64 0, .slc none 0 0] 0).st μ2.next 0 [.int .i64 S.report.code, rc, .int .i64 S.report.num, .int .i64 S.report.ticks, sc] =
    some (μ2.new [.int .i64 S.report.code, rc, .int .i64 S.report.num, .int .i64 S.report.ticks, sc] 0) := new_st0 rfl
  have r0 : (μ2.new [.int .i64 S.report.code, rc, .int .i64 S.report.num, .int .i64 S.report.ticks, sc] 0).ld none μ2.next 0 = some (.c (.int .i64 S.report.code)) := new_ld0 rfl
  have r1 : (μ2.new [.int .i64 S.report.code, rc, .int .i64 S.report.num, .int .i64 S.report.ticks, sc] 0).ld none μ2.next 1 = some (.c rc) := new_ld0 rfl
  have r4 : (μ2.new [.int .i64 S.report.code, rc, .int .i64 S.report.num, .int .i64 S.report.ticks, sc] 0).ld none μ2.next 4 = some (.c sc) := new_ld0 rfl
  have hS3 := Same.tmp (cs := [.int .i64 S.report.code, rc, .int .i64 S.report.num, .int .i64 S.report.ticks, sc]) (sz := 0) (Nat.le_refl μ2.next)
  have hRr3 := (hRr.same hS3 (Nat.le_refl _)).mono (Nat.le_succ _)
  have hRs3 := (hRs.same hS3 (Nat.le_refl _)).mono (Nat.le_succ _)
  have n3 : (μ2.new [.int .i64 S.report.code, rc, .int .i64 S.report.num, .int .i64 S.report.ticks, sc] 0).next = μ2.next + 1 := rfl
  obtain ⟨gc, gst, grec, t0, t1, gtk, gt0, gt1⟩ := hgood
  have hrl : S.report.recs = S.recs := rfl
  have hrc0 : S.report.code = S.code := rfl
  have hst : S.report.states = [4, if n = 0 then 0 else 1] := by simp [PM.report, gtk, gt0, gt1]
  rw [hrl] at hRr3
  rw [hst] at hRs3
  have hcode : S.report.code = 0 := gc
  simp only [w1, w2, AV.isTup, AV.cells, ↓reduceIte, Nat.reduceEqDiff, Nat.reduceAdd, Int.reduceLT, Int.reduceLE, Int.reduceNeg, Int.reduceBEq, Int.reduceBNe, e2]
  generalize hM : μ2.new [.int .i64 S.report.code, rc, .int .i64 S.report.num, .int .i64 S.report.ticks, sc] 0 = μ3 at *
  rw [hcode] at r0
  have hlenr : S.recs.length = 2 * n + 1 := by rw [grec, List.length_append, rounds_len]; rfl
  have hcnt : cntT S.recs = 2 * n := by rw [grec]; exact cntT_rounds rfl n
  obtain ⟨ra, rcap, hrc⟩ := hRr3.slc
  obtain ⟨sa, scap, hsc⟩ := hRs3.slc
  have r1' := r1
  rw [hrc] at r1'
  simp only [w1, w2, AV.isTup, AV.cells, ↓reduceIte, Nat.reduceEqDiff, Nat.reduceAdd, Int.reduceLT, Int.reduceLE, Int.reduceNeg, Int.reduceBEq, Int.reduceBNe, r1']
  refine loop5 (n := n) (S := S) (br := μ2.next) hRr3 (by omega) (by omega) S.recs.length 0 0 _ μ3 (by omega) (by rw [List.drop_zero]; omega) Same.refl ?_ ?_ ?_ ?_ ?_ ?_ ?_
  · simp only [w1, w2, AV.isTup, AV.cells, ↓reduceIte, Nat.reduceEqDiff, Nat.reduceAdd, Int.reduceLT, Int.reduceLE, Int.reduceNeg, Int.reduceBEq, Int.reduceBNe, hrc]
  · simp only [w1, w2, AV.isTup, AV.cells, ↓reduceIte, Nat.reduceEqDiff, Nat.reduceAdd, Int.reduceLT, Int.reduceLE, Int.reduceNeg, Int.reduceBEq, Int.reduceBNe]
  · simp only [w1, w2, AV.isTup, AV.cells, ↓reduceIte, Nat.reduceEqDiff, Nat.reduceAdd, Int.reduceLT, Int.reduceLE, Int.reduceNeg, Int.reduceBEq, Int.reduceBNe]; rfl
  · simp only [w1, w2, AV.isTup, AV.cells, ↓reduceIte, Nat.reduceEqDiff, Nat.reduceAdd, Int.reduceLT, Int.reduceLE, Int.reduceNeg, Int.reduceBEq, Int.reduceBNe]; rfl
  · simp only [w1, w2, AV.isTup, AV.cells, ↓reduceIte, Nat.reduceEqDiff, Nat.reduceAdd, Int.reduceLT, Int.reduceLE, Int.reduceNeg, Int.reduceBEq, Int.reduceBNe]
  · simp only [w1, w2, AV.isTup, AV.cells, ↓reduceIte, Nat.reduceEqDiff, Nat.reduceAdd, Int.reduceLT, Int.reduceLE, Int.reduceNeg, Int.reduceBEq, Int.reduceBNe]
  · intro fr' μ4 hs4 h6 h3 h5
    have q0 := (hs4.ld (n := none) (i := μ2.next) (o := 0) (by omega)).trans r0
    have q1 := (hs4.ld (n := none) (i := μ2.next) (o := 1) (by omega)).trans r1'
    have q4 := (hs4.ld (n := none) (i := μ2.next) (o := 4) (by omega)).trans r4
    have hRr4 := hRr3.same hs4 (Nat.le_refl _)
    have hRs4 := hRs3.same hs4 (Nat.le_refl _)
    have hget : S.recs[2 * n]? = some ⟨1, 0, 0, ((2 * n : Nat) : Int)⟩ := by
      rw [show ((2 * n : Nat) : Int) = 2 * (n : Int) by omega, grec, List.getElem?_append_right (by rw [rounds_len]; omega), rounds_len]
      simp
    obtain ⟨b5, o5, e5, e6⟩ := recAt hRr4 Same.refl hget
    obtain ⟨s0, so0, a1, a2, a3, a4⟩ := hRs4.row irow_len (by omega) (show [4, if n = 0 then (0 : Int) else 1][0]? = some 4 from rfl)
    obtain ⟨s1, so1, d1, d2, d3, d4⟩ := hRs4.row irow_len (by omega) (show [4, if n = 0 then (0 : Int) else 1][1]? = some (if n = 0 then (0 : Int) else 1) from rfl)
    have a5 := a4 0 (by omega)
    have d5 := d4 0 (by omega)
    simp only [irow, List.getElem?_cons_zero, Option.map_some, Nat.add_zero] at a5 d5
    have a1' : ∀ kd : IntKind, aidx (.c sc) (.c (.int kd 0)) 1 = some (pt s0 so0) := a1
    have d1' : ∀ kd : IntKind, aidx (.c sc) (.c (.int kd 1)) 1 = some (pt s1 so1) := d1
    have hl2 : ([4, if n = 0 then (0 : Int) else 1] : List Int).length = 2 := rfl
    rw [hl2] at hsc
    subst hsc
    rw [hrc] at e5
    rw [hcnt] at h6
    have y0 : ((0 : Int) != 0) = false := rfl
    have y1 : IntKind.i64.wrap (2 * (n : Int)) = ((2 * n : Nat) : Int) := by rw [small (by omega)]; omega
    have y2 : (((2 * n : Nat) : Int) != ((2 * n : Nat) : Int)) = false := by simp
    have y3 : IntKind.i64.wrap (((2 * n : Nat) : Int) + 1) = ((2 * n + 1 : Nat) : Int) := by rw [small (by omega)]; omega
    have y4 : ((S.recs.length : Int) != ((2 * n + 1 : Nat) : Int)) = false := by rw [hlenr]; simp
    have y5 : (((2 : Nat) : Int) != 2) = false := rfl
    have y7 : ((4 : Int) == 4) = true := rfl
    simp only [w1, w2, AV.isTup, AV.cells, ↓reduceIte, Nat.reduceEqDiff, Nat.reduceAdd, Int.reduceLT, Int.reduceLE, Int.reduceNeg, Int.reduceBEq, Int.reduceBNe, h6, h3, h5, q0, y0, y1, y2, q1, y3, y4, q4, y5]
    by_cases hz : n = 0
    · have hzb : ((n : Int) == 0) = true := beq_tt (by omega)
      rw [if_pos hz] at d5
      have y8 : ((0 : Int) == 0) = true := rfl
      simp only [w1, w2, AV.isTup, AV.cells, ↓reduceIte, Nat.reduceEqDiff, Nat.reduceAdd, Int.reduceLT, Int.reduceLE, Int.reduceNeg, Int.reduceBEq, Int.reduceBNe, h3, h5, hzb, q1, y1, e5, e6, m2, fillc, wr, rep, Nat.reduceLeDiff, Nat.reduceAdd, Nat.reduceMul, List.append_nil, aeq, eqInts, q4, d1', d5, y8, a1', a5, y7, aRet, aRes, aRes1]
      exact ⟨_, rfl, rfl⟩
    · have hzb : ((n : Int) == 0) = false := beq_ff (by omega)
      rw [if_neg hz] at d5
      have y8 : ((1 : Int) == 1) = true := rfl
      simp only [w1, w2, AV.isTup, AV.cells, ↓reduceIte, Nat.reduceEqDiff, Nat.reduceAdd, Int.reduceLT, Int.reduceLE, Int.reduceNeg, Int.reduceBEq, Int.reduceBNe, h3, h5, hzb, q1, y1, e5, e6, m2, fillc, wr, rep, Nat.reduceLeDiff, Nat.reduceAdd, Nat.reduceMul, List.append_nil, aeq, eqInts, q4, d1', d5, y8, a1', a5, y7, aRet, aRes, aRes1]
      exact ⟨_, rfl, rfl⟩
end Go.Proofs.Ytibmnlijoeppaaa
