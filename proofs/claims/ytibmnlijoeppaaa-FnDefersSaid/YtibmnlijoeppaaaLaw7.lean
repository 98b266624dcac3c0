/-
  The law FnDefers returns true: its plans, made and run by the kernel; its own code walked.
-/
import Derived.Test.YtibmnlijoeppaaaMade
namespace Go.Proofs.Ytibmnlijoeppaaa
set_option linter.unusedSimpArgs false
set_option linter.unusedVariables false

/-! 29: spec.MadeDefers -/
def b29_0 : RCode :=
 (.seq
  (.seq
   (.reg [⟨0, .mv (.t 6), some 10, none, []⟩,
     ⟨1, .mv (.t 0), some 11, none, []⟩,
     ⟨2, .bin .leq (.t 10) (.t 11), some 12, none, []⟩])
   (.ite (.t 12)
    .skip
    (.exit 0)))
  (.seq
   (.blk 1
    (.seq
     (.reg [⟨0, .mv (.k (.int .i64 3)), some 7, none, []⟩])
     (.seq
      (.seq
       (.reg [⟨0, .mv (.t 1), some 15, none, []⟩,
         ⟨1, .bin .eql (.t 15) (.k (.int .i64 4)), some 16, none, []⟩,
         ⟨2, .mv (.t 16), some 17, none, []⟩,
         ⟨3, .mv (.t 6), some 18, some (17, true), []⟩,
         ⟨4, .mv (.t 0), some 19, some (17, true), []⟩,
         ⟨5, .bin .eql (.t 18) (.t 19), some 20, some (17, true), []⟩,
         ⟨6, .pick (.t 17) (.t 20) (.k (.bool false)), some 21, none, []⟩])
       (.ite (.t 21)
        (.reg [⟨0, .mv (.k (.int .i64 4)), some 7, none, []⟩])
        .skip))
      (.seq
       (.reg [⟨0, .fa (.t 5) 0, some 22, none, []⟩,
         ⟨1, .ld none (.t 22), some 23, none, []⟩,
         ⟨2, .bld [.int .i64 0, .int .i64 0, .int .i64 0, .int .i64 0, .int .i64 0] [(0, 1, .k (.int .i64 12))], some 24, none, []⟩,
         ⟨3, .mv (.t 7), some 25, none, []⟩,
         ⟨4, .bin .sub (.t 25) (.k (.int .i64 1)), some 26, none, []⟩,
         ⟨5, .bld [.int .i64 0, .int .i64 0, .int .i64 0, .int .i64 0, .int .i64 0] [(0, 1, .k (.int .i64 13)), (4, 1, .t 26)], some 27, none, []⟩,
         ⟨6, .mv (.t 6), some 28, none, []⟩,
         ⟨7, .bld [.int .i64 0, .int .i64 0, .int .i64 0, .int .i64 0, .int .i64 0] [(0, 1, .k (.int .i64 1)), (1, 1, .k (.int .i64 1)), (3, 1, .t 28)], some 29, none, []⟩,
         ⟨8, .bsl [.int .i64 0, .int .i64 0, .int .i64 0, .int .i64 0, .int .i64 0] 3 [(0, .t 24), (1, .t 27), (2, .t 29)], some 30, none, []⟩,
         ⟨9, .app 5 40 (.t 23) (.t 30), some 31, none, []⟩,
         ⟨10, .fa (.t 5) 0, some 32, none, []⟩,
         ⟨11, .st (.t 32) (.t 31) 1, none, none, []⟩])
       (.seq
        (.seq
         (.reg [⟨0, .mv (.t 7), some 33, none, []⟩,
           ⟨1, .bin .eql (.t 33) (.k (.int .i64 4)), some 34, none, []⟩])
         (.ite (.t 34)
          (.reg [⟨0, .fa (.t 5) 0, some 35, none, []⟩,
            ⟨1, .ld none (.t 35), some 36, none, []⟩,
            ⟨2, .bld [.int .i64 0, .int .i64 0, .int .i64 0, .int .i64 0, .int .i64 0] [(0, 1, .k (.int .i64 6)), (1, 1, .k (.int .i64 2))], some 37, none, []⟩,
            ⟨3, .bsl [.int .i64 0, .int .i64 0, .int .i64 0, .int .i64 0, .int .i64 0] 1 [(0, .t 37)], some 38, none, []⟩,
            ⟨4, .app 5 40 (.t 36) (.t 38), some 39, none, []⟩,
            ⟨5, .fa (.t 5) 0, some 40, none, []⟩,
            ⟨6, .st (.t 40) (.t 39) 1, none, none, []⟩])
          .skip))
        (.reg [⟨0, .fa (.t 5) 0, some 41, none, []⟩,
          ⟨1, .ld none (.t 41), some 42, none, []⟩,
          ⟨2, .bld [.int .i64 0, .int .i64 0, .int .i64 0, .int .i64 0, .int .i64 0] [(0, 1, .k (.int .i64 3)), (1, 1, .k (.int .i64 1))], some 43, none, []⟩,
          ⟨3, .bsl [.int .i64 0, .int .i64 0, .int .i64 0, .int .i64 0, .int .i64 0] 1 [(0, .t 43)], some 44, none, []⟩,
          ⟨4, .app 5 40 (.t 42) (.t 44), some 45, none, []⟩,
          ⟨5, .fa (.t 5) 0, some 46, none, []⟩,
          ⟨6, .st (.t 46) (.t 45) 1, none, none, []⟩]))))))
   (.reg [⟨0, .mv (.t 6), some 13, none, []⟩,
     ⟨1, .bin .add (.t 13) (.k (.int .i64 1)), some 14, none, []⟩,
     ⟨2, .mv (.t 14), some 6, none, []⟩])))
def b29_1 : RCode :=
 (.seq
  (.reg [⟨0, .bin .lss (.t 75) (.t 74), some 76, none, []⟩])
  (.seq
   (.ite (.t 76)
    .skip
    (.exit 3))
   (.seq
    (.blk 4
     (.seq
      (.reg [⟨0, .mv (.t 75), some 77, none, []⟩,
        ⟨1, .mv (.t 77), some 8, none, []⟩])
      (.seq
       (.reg [⟨0, .fa (.t 5) 0, some 78, none, []⟩,
         ⟨1, .ld none (.t 78), some 79, none, []⟩,
         ⟨2, .mv (.t 8), some 80, none, []⟩,
         ⟨3, .ias (.t 79) (.t 80) 5, some 81, none, []⟩,
         ⟨4, .fa (.t 81) 0, some 82, none, []⟩,
         ⟨5, .ld none (.t 82), some 83, none, []⟩,
         ⟨6, .bin .eql (.t 83) (.k (.int .i64 12)), some 84, none, []⟩])
       (.ite (.t 84)
        (.reg [⟨0, .fa (.t 5) 0, some 85, none, []⟩,
          ⟨1, .ld none (.t 85), some 86, none, []⟩,
          ⟨2, .mv (.t 8), some 87, none, []⟩,
          ⟨3, .fa (.t 5) 0, some 88, none, []⟩,
          ⟨4, .ld none (.t 88), some 89, none, []⟩,
          ⟨5, .len (.t 89), some 90, none, []⟩,
          ⟨6, .mv (.t 8), some 91, none, []⟩,
          ⟨7, .bin .sub (.t 90) (.t 91), some 92, none, []⟩,
          ⟨8, .bin .sub (.t 92) (.k (.int .i64 1)), some 93, none, []⟩,
          ⟨9, .ias (.t 86) (.t 87) 5, some 94, none, []⟩,
          ⟨10, .fa (.t 94) 4, some 95, none, []⟩,
          ⟨11, .st (.t 95) (.t 93) 1, none, none, []⟩])
        .skip))))
    (.reg [⟨0, .bin .add (.t 75) (.k (.int .i64 1)), some 96, none, []⟩,
      ⟨1, .mv (.t 96), some 75, none, []⟩]))))
def r29 : RFun := ⟨114, [.cell 4 (some 1)],
 (.seq
  (.reg [⟨0, .alc [.slc none 0 0], some 4, none, []⟩])
  (.seq
   (.reg [⟨0, .alc [.slc none 0 0], some 5, none, []⟩])
   (.seq
    (.seq
     (.reg [⟨0, .mv (.k (.int .i64 1)), some 6, none, []⟩])
     (.blk 0
      (.loop b29_0)))
    (.seq
     (.seq
      (.reg [⟨0, .mv (.t 1), some 47, none, []⟩])
      (.blk 2
       (.seq
        (.reg [⟨0, .bin .eql (.t 47) (.k (.int .i64 1)), some 49, none, []⟩,
          ⟨1, .mv (.t 49), some 48, none, []⟩])
        (.ite (.t 48)
         (.reg [⟨0, .fa (.t 5) 0, some 50, none, []⟩,
           ⟨1, .ld none (.t 50), some 51, none, []⟩,
           ⟨2, .bld [.int .i64 0, .int .i64 0, .int .i64 0, .int .i64 0, .int .i64 0] [(0, 1, .k (.int .i64 10)), (1, 1, .k (.int .i64 1))], some 52, none, []⟩,
           ⟨3, .bsl [.int .i64 0, .int .i64 0, .int .i64 0, .int .i64 0, .int .i64 0] 1 [(0, .t 52)], some 53, none, []⟩,
           ⟨4, .app 5 40 (.t 51) (.t 53), some 54, none, []⟩,
           ⟨5, .fa (.t 5) 0, some 55, none, []⟩,
           ⟨6, .st (.t 55) (.t 54) 1, none, none, []⟩])
         (.seq
          (.reg [⟨0, .bin .eql (.t 47) (.k (.int .i64 2)), some 57, none, []⟩,
            ⟨1, .mv (.t 57), some 56, none, []⟩])
          (.ite (.t 56)
           (.reg [⟨0, .fa (.t 5) 0, some 58, none, []⟩,
             ⟨1, .ld none (.t 58), some 59, none, []⟩,
             ⟨2, .bld [.int .i64 0, .int .i64 0, .int .i64 0, .int .i64 0, .int .i64 0] [(0, 1, .k (.int .i64 9)), (1, 1, .k (.int .i64 1))], some 60, none, []⟩,
             ⟨3, .bsl [.int .i64 0, .int .i64 0, .int .i64 0, .int .i64 0, .int .i64 0] 1 [(0, .t 60)], some 61, none, []⟩,
             ⟨4, .app 5 40 (.t 59) (.t 61), some 62, none, []⟩,
             ⟨5, .fa (.t 5) 0, some 63, none, []⟩,
             ⟨6, .st (.t 63) (.t 62) 1, none, none, []⟩])
           (.seq
            (.reg [⟨0, .bin .eql (.t 47) (.k (.int .i64 3)), some 65, none, []⟩,
              ⟨1, .mv (.t 65), some 64, none, []⟩])
            (.ite (.t 64)
             (.reg [⟨0, .fa (.t 5) 0, some 66, none, []⟩,
               ⟨1, .ld none (.t 66), some 67, none, []⟩,
               ⟨2, .bld [.int .i64 0, .int .i64 0, .int .i64 0, .int .i64 0, .int .i64 0] [(0, 1, .k (.int .i64 6)), (1, 1, .k (.int .i64 1))], some 68, none, []⟩,
               ⟨3, .bsl [.int .i64 0, .int .i64 0, .int .i64 0, .int .i64 0, .int .i64 0] 1 [(0, .t 68)], some 69, none, []⟩,
               ⟨4, .app 5 40 (.t 67) (.t 69), some 70, none, []⟩,
               ⟨5, .fa (.t 5) 0, some 71, none, []⟩,
               ⟨6, .st (.t 71) (.t 70) 1, none, none, []⟩])
             .skip))))))))
     (.seq
      (.seq
       (.reg [⟨0, .fa (.t 5) 0, some 72, none, []⟩,
         ⟨1, .ld none (.t 72), some 73, none, []⟩,
         ⟨2, .len (.t 73), some 74, none, []⟩,
         ⟨3, .mv (.k (.int .i64 0)), some 75, none, []⟩])
       (.blk 3
        (.loop b29_1)))
      (.seq
       (.reg [⟨0, .bld [.int .i64 0, .int .i64 0, .int .i64 0, .int .i64 0, .int .i64 0] [(0, 1, .k (.int .i64 4)), (1, 1, .k (.int .i64 0)), (2, 1, .k (.int .i64 1))], some 97, none, []⟩,
         ⟨1, .bld [.int .i64 0, .int .i64 0, .int .i64 0, .int .i64 0, .int .i64 0] [(0, 1, .k (.int .i64 1)), (1, 1, .k (.int .i64 1)), (3, 1, .k (.int .i64 1))], some 98, none, []⟩,
         ⟨2, .bld [.int .i64 0, .int .i64 0, .int .i64 0, .int .i64 0, .int .i64 0] [(0, 1, .k (.int .i64 5)), (1, 1, .k (.int .i64 0)), (2, 1, .k (.int .i64 1))], some 99, none, []⟩,
         ⟨3, .bsl [.int .i64 0, .int .i64 0, .int .i64 0, .int .i64 0, .int .i64 0] 3 [(0, .t 97), (1, .t 98), (2, .t 99)], some 100, none, []⟩,
         ⟨4, .bld [.slc none 0 0] [(0, 1, .t 100)], some 101, none, []⟩,
         ⟨5, .alc [.slc none 0 0], some 9, none, []⟩,
         ⟨6, .st (.t 9) (.t 101) 1, none, none, []⟩])
       (.seq
        (.seq
         (.reg [⟨0, .mv (.t 1), some 102, none, []⟩,
           ⟨1, .bin .geq (.t 102) (.k (.int .i64 3)), some 103, none, []⟩])
         (.ite (.t 103)
          (.reg [⟨0, .fa (.t 9) 0, some 104, none, []⟩,
            ⟨1, .ld none (.t 104), some 105, none, []⟩,
            ⟨2, .bld [.int .i64 0, .int .i64 0, .int .i64 0, .int .i64 0, .int .i64 0] [(0, 1, .k (.int .i64 7)), (1, 1, .k (.int .i64 0)), (2, 1, .k (.int .i64 1))], some 106, none, []⟩,
            ⟨3, .bsl [.int .i64 0, .int .i64 0, .int .i64 0, .int .i64 0, .int .i64 0] 1 [(0, .t 106)], some 107, none, []⟩,
            ⟨4, .app 5 40 (.t 105) (.t 107), some 108, none, []⟩,
            ⟨5, .fa (.t 9) 0, some 109, none, []⟩,
            ⟨6, .st (.t 109) (.t 108) 1, none, none, []⟩])
          .skip))
        (.seq
         (.reg [⟨0, .ld (some 1) (.t 9), some 110, none, []⟩,
           ⟨1, .ld (some 1) (.t 5), some 111, none, []⟩,
           ⟨2, .bsl [.slc none 0 0] 2 [(0, .t 110), (1, .t 111)], some 112, none, []⟩,
           ⟨3, .bld [.slc none 0 0] [(0, 1, .t 112)], some 113, none, []⟩,
           ⟨4, .st (.t 4) (.t 113) 1, none, none, []⟩])
         .ret))))))))⟩
theorem p29 : prog 29 = some r29 := by kernel_rfl



/-- The plan of n defers, and an ending. -/
def defersBody (n : Nat) (how : Nat) : List PStep :=
  let raw : List PStep := ((List.range n).flatMap fun (i : Nat) =>
    if how = 4 ∧ i + 1 = n then [⟨12, 0, 0, 0, 0⟩, ⟨13, 0, 0, 0, 3⟩, ⟨1, 1, 0, ((i + 1 : Nat) : Int), 0⟩, ⟨6, 2, 0, 0, 0⟩, ⟨3, 1, 0, 0, 0⟩]
    else [⟨12, 0, 0, 0, 0⟩, ⟨13, 0, 0, 0, 2⟩, ⟨1, 1, 0, ((i + 1 : Nat) : Int), 0⟩, ⟨3, 1, 0, 0, 0⟩]) ++
    (if how = 1 then [⟨10, 1, 0, 0, 0⟩] else if how = 2 then [⟨9, 1, 0, 0, 0⟩] else if how = 3 then [⟨6, 1, 0, 0, 0⟩] else [])
  raw.zipIdx.map fun (s, i) => if s.op = 12 then { s with size := (raw.length : Int) - i - 1 } else s
def madeDefers (n how : Nat) : PPlan :=
  [[⟨4, 0, 1, 0, 0⟩, ⟨1, 1, 0, 1, 0⟩, ⟨5, 0, 1, 0, 0⟩] ++ (if how ≥ 3 then [⟨7, 0, 1, 0, 0⟩] else []), defersBody n how]

def sayRun : List PRec → Int → Option Int
  | [], nx => some nx
  | x :: l, nx => if x.kind = 1 then (if x.num = nx ∧ x.task = 1 then sayRun l (wr64 (nx - 1)) else none) else sayRun l nx

def defersGood (n how : Nat) (S : PM) : Bool :=
  S.code == 0 && S.states == [] && decide (S.recs.length < 1000) &&
  (match S.tasks with
   | [_, t] => t.state == 4 && t.kept == n && t.begun == n
   | _ => false) && sayRun S.recs (if how = 4 then (n : Int) - 1 else n) == some 0

def defersChk (n how : Nat) : Bool := (okP (madeDefers n how)).1 == 0 && match runEnd (madeDefers n how) 500 none 1000 with | some S => defersGood n how S | none => false
def defersMade (n how : Nat) (f : Nat → Option AObj) : Bool := makes r29 [.c (.int .i64 n), .c (.int .i64 how)] 600 (madeDefers n how) f
def defersAll : Bool := (List.range 10).all fun n => (List.range 5).all fun k => defersChk (n + 1) k
def defersMades (n : Nat) (f : Nat → Option AObj) : Bool := (List.range 5).all fun k => defersMade n k f
theorem defers_all : defersAll = true := by kernel_rfl
theorem defers_m1 : ∀ f, defersMades 1 f = true := by intro f; kernel_rfl
theorem defers_m2 : ∀ f, defersMades 2 f = true := by intro f; kernel_rfl
theorem defers_m3 : ∀ f, defersMades 3 f = true := by intro f; kernel_rfl
theorem defers_m4 : ∀ f, defersMades 4 f = true := by intro f; kernel_rfl
theorem defers_m5 : ∀ f, defersMades 5 f = true := by intro f; kernel_rfl
theorem defers_m6 : ∀ f, defersMades 6 f = true := by intro f; kernel_rfl
theorem defers_m7 : ∀ f, defersMades 7 f = true := by intro f; kernel_rfl
theorem defers_m8 : ∀ f, defersMades 8 f = true := by intro f; kernel_rfl
theorem defers_m9 : ∀ f, defersMades 9 f = true := by intro f; kernel_rfl
theorem defers_m10 : ∀ f, defersMades 10 f = true := by intro f; kernel_rfl

theorem defers_made {n how : Nat} (hn : 1 ≤ n ∧ n ≤ 10) (hh : how < 5) (f : Nat → Option AObj) : defersMade n how f = true := by
  have key : defersMades n f = true := by
    obtain ⟨h1, h2⟩ := hn
    have : n = 1 ∨ n = 2 ∨ n = 3 ∨ n = 4 ∨ n = 5 ∨ n = 6 ∨ n = 7 ∨ n = 8 ∨ n = 9 ∨ n = 10 := by omega
    rcases this with rfl | rfl | rfl | rfl | rfl | rfl | rfl | rfl | rfl | rfl
    · exact defers_m1 f
    · exact defers_m2 f
    · exact defers_m3 f
    · exact defers_m4 f
    · exact defers_m5 f
    · exact defers_m6 f
    · exact defers_m7 f
    · exact defers_m8 f
    · exact defers_m9 f
    · exact defers_m10 f
  unfold defersMades at key
  rw [List.all_eq_true] at key
  exact key how (List.mem_range.2 hh)

theorem defers_run {n how : Nat} (hn : 1 ≤ n ∧ n ≤ 10) (hh : how < 5) : ∃ S, Goes (madeDefers n how) 500 none S ∧ defersGood n how S = true := by
  have key : defersChk n how = true := by
    have h := defers_all
    unfold defersAll at h
    rw [List.all_eq_true] at h
    have h2 := h (n - 1) (List.mem_range.2 (by omega))
    rw [List.all_eq_true] at h2
    have h3 := h2 how (List.mem_range.2 hh)
    rwa [show n - 1 + 1 = n by omega] at h3
  unfold defersChk at key
  simp only [Bool.and_eq_true, beq_iff_eq] at key
  obtain ⟨hok, key⟩ := key
  cases hr : runEnd (madeDefers n how) 500 none 1000 with
  | none => rw [hr] at key; cases key
  | some S =>
    rw [hr] at key
    simp only at key
    refine ⟨S, ⟨⟨1000, hr⟩, by omega, hok, ?_, ?_⟩, key⟩
    · unfold defersGood at key
      simp only [Bool.and_eq_true] at key
      have := key.1.2
      split at this
      · rename_i h; rw [h]; simp [roomy]
      · cases this
    · unfold defersGood at key
      simp only [Bool.and_eq_true, beq_iff_eq] at key
      exact key.1.1.1.2

theorem Goes.lens {p : PPlan} {ticks : Int} {hook : Option PHk} {S : PM} (h : Goes p ticks hook S) : Lens p := by
  have h1 := h.ok
  unfold okP at h1
  split at h1
  · cases h1
  · rename_i hl
    split at h1
    · cases h1
    · rename_i hlong
      refine ⟨by omega, fun b hb => ?_⟩
      have := longP_none hlong b hb
      omega
end Go.Proofs.Ytibmnlijoeppaaa
