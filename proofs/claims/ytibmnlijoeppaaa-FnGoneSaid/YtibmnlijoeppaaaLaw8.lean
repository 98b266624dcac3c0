/-
  The law FnGone: its plans, made and run by the kernel.
-/
import Derived.Test.YtibmnlijoeppaaaMade
namespace Go.Proofs.Ytibmnlijoeppaaa
set_option linter.unusedSimpArgs false
set_option linter.unusedVariables false

/-! 31: spec.MadeDeepReturn -/
def b31_0 : RCode :=
 (.seq
  (.seq
   (.reg [⟨0, .mv (.t 4), some 15, none, []⟩,
     ⟨1, .bin .gtr (.t 15) (.k (.int .i64 0)), some 16, none, []⟩])
   (.ite (.t 16)
    .skip
    (.exit 0)))
  (.seq
   (.blk 1
    (.reg [⟨0, .fa (.t 3) 0, some 19, none, []⟩,
      ⟨1, .ld none (.t 19), some 20, none, []⟩,
      ⟨2, .mv (.t 4), some 21, none, []⟩,
      ⟨3, .bld [.int .i64 0, .int .i64 0, .int .i64 0, .int .i64 0, .int .i64 0] [(0, 1, .k (.int .i64 12)), (4, 1, .t 21)], some 22, none, []⟩,
      ⟨4, .bsl [.int .i64 0, .int .i64 0, .int .i64 0, .int .i64 0, .int .i64 0] 1 [(0, .t 22)], some 23, none, []⟩,
      ⟨5, .app 5 40 (.t 20) (.t 23), some 24, none, []⟩,
      ⟨6, .fa (.t 3) 0, some 25, none, []⟩,
      ⟨7, .st (.t 25) (.t 24) 1, none, none, []⟩]))
   (.reg [⟨0, .mv (.t 4), some 17, none, []⟩,
     ⟨1, .bin .sub (.t 17) (.k (.int .i64 1)), some 18, none, []⟩,
     ⟨2, .mv (.t 18), some 4, none, []⟩])))
def r31 : RFun := ⟨36, [.cell 2 (some 1)],
 (.seq
  (.reg [⟨0, .alc [.slc none 0 0], some 2, none, []⟩])
  (.seq
   (.reg [⟨0, .alc [.slc none 0 0], some 3, none, []⟩])
   (.seq
    (.reg [⟨0, .fa (.t 3) 0, some 5, none, []⟩,
      ⟨1, .ld none (.t 5), some 6, none, []⟩,
      ⟨2, .bld [.int .i64 0, .int .i64 0, .int .i64 0, .int .i64 0, .int .i64 0] [(0, 1, .k (.int .i64 3))], some 7, none, []⟩,
      ⟨3, .mv (.t 0), some 8, none, []⟩,
      ⟨4, .bin .add (.t 8) (.k (.int .i64 1)), some 9, none, []⟩,
      ⟨5, .bld [.int .i64 0, .int .i64 0, .int .i64 0, .int .i64 0, .int .i64 0] [(0, 1, .k (.int .i64 13)), (4, 1, .t 9)], some 10, none, []⟩,
      ⟨6, .bsl [.int .i64 0, .int .i64 0, .int .i64 0, .int .i64 0, .int .i64 0] 2 [(0, .t 7), (1, .t 10)], some 11, none, []⟩,
      ⟨7, .app 5 40 (.t 6) (.t 11), some 12, none, []⟩,
      ⟨8, .fa (.t 3) 0, some 13, none, []⟩,
      ⟨9, .st (.t 13) (.t 12) 1, none, none, []⟩])
    (.seq
     (.seq
      (.reg [⟨0, .mv (.t 0), some 14, none, []⟩,
        ⟨1, .mv (.t 14), some 4, none, []⟩])
      (.blk 0
       (.loop b31_0)))
     (.seq
      (.reg [⟨0, .fa (.t 3) 0, some 26, none, []⟩,
        ⟨1, .ld none (.t 26), some 27, none, []⟩,
        ⟨2, .bld [.int .i64 0, .int .i64 0, .int .i64 0, .int .i64 0, .int .i64 0] [(0, 1, .k (.int .i64 10))], some 28, none, []⟩,
        ⟨3, .bsl [.int .i64 0, .int .i64 0, .int .i64 0, .int .i64 0, .int .i64 0] 1 [(0, .t 28)], some 29, none, []⟩,
        ⟨4, .app 5 40 (.t 27) (.t 29), some 30, none, []⟩,
        ⟨5, .fa (.t 3) 0, some 31, none, []⟩,
        ⟨6, .st (.t 31) (.t 30) 1, none, none, []⟩])
      (.seq
       (.reg [⟨0, .bld [.slc none 0 0] [], some 32, none, []⟩,
         ⟨1, .ld (some 1) (.t 3), some 33, none, []⟩,
         ⟨2, .bsl [.slc none 0 0] 2 [(0, .t 32), (1, .t 33)], some 34, none, []⟩,
         ⟨3, .bld [.slc none 0 0] [(0, 1, .t 34)], some 35, none, []⟩,
         ⟨4, .st (.t 2) (.t 35) 1, none, none, []⟩])
       .ret))))))⟩
theorem p31 : prog 31 = some r31 := by kernel_rfl

/-! 32: spec.MadeGone -/
def b32_0 : RCode :=
 (.seq
  (.seq
   (.reg [⟨0, .mv (.t 6), some 8, none, []⟩,
     ⟨1, .mv (.t 1), some 9, none, []⟩,
     ⟨2, .bin .leq (.t 8) (.t 9), some 10, none, []⟩])
   (.ite (.t 10)
    .skip
    (.exit 0)))
  (.seq
   (.blk 1
    (.seq
     (.reg [⟨0, .fa (.t 5) 0, some 13, none, []⟩,
       ⟨1, .ld none (.t 13), some 14, none, []⟩,
       ⟨2, .bld [.int .i64 0, .int .i64 0, .int .i64 0, .int .i64 0, .int .i64 0] [(0, 1, .k (.int .i64 13)), (4, 1, .k (.int .i64 2))], some 15, none, []⟩,
       ⟨3, .mv (.t 6), some 16, none, []⟩,
       ⟨4, .bld [.int .i64 0, .int .i64 0, .int .i64 0, .int .i64 0, .int .i64 0] [(0, 1, .k (.int .i64 1)), (1, 1, .k (.int .i64 1)), (3, 1, .t 16)], some 17, none, []⟩,
       ⟨5, .bsl [.int .i64 0, .int .i64 0, .int .i64 0, .int .i64 0, .int .i64 0] 2 [(0, .t 15), (1, .t 17)], some 18, none, []⟩,
       ⟨6, .app 5 40 (.t 14) (.t 18), some 19, none, []⟩,
       ⟨7, .fa (.t 5) 0, some 20, none, []⟩,
       ⟨8, .st (.t 20) (.t 19) 1, none, none, []⟩])
     (.seq
      (.reg [⟨0, .mv (.t 0), some 21, none, []⟩])
      (.blk 2
       (.seq
        (.reg [⟨0, .bin .eql (.t 21) (.k (.int .i64 0)), some 29, none, []⟩,
          ⟨1, .mv (.t 29), some 28, none, []⟩])
        (.ite (.t 28)
         (.reg [⟨0, .fa (.t 5) 0, some 30, none, []⟩,
           ⟨1, .ld none (.t 30), some 31, none, []⟩,
           ⟨2, .bld [.int .i64 0, .int .i64 0, .int .i64 0, .int .i64 0, .int .i64 0] [(0, 1, .k (.int .i64 9)), (1, 1, .k (.int .i64 1))], some 32, none, []⟩,
           ⟨3, .bsl [.int .i64 0, .int .i64 0, .int .i64 0, .int .i64 0, .int .i64 0] 1 [(0, .t 32)], some 33, none, []⟩,
           ⟨4, .app 5 40 (.t 31) (.t 33), some 34, none, []⟩,
           ⟨5, .fa (.t 5) 0, some 35, none, []⟩,
           ⟨6, .st (.t 35) (.t 34) 1, none, none, []⟩])
         (.seq
          (.reg [⟨0, .bin .eql (.t 21) (.k (.int .i64 1)), some 37, none, []⟩,
            ⟨1, .mv (.t 37), some 36, none, []⟩])
          (.ite (.t 36)
           (.reg [⟨0, .fa (.t 5) 0, some 38, none, []⟩,
             ⟨1, .ld none (.t 38), some 39, none, []⟩,
             ⟨2, .bld [.int .i64 0, .int .i64 0, .int .i64 0, .int .i64 0, .int .i64 0] [(0, 1, .k (.int .i64 3)), (1, 1, .k (.int .i64 1))], some 40, none, []⟩,
             ⟨3, .bsl [.int .i64 0, .int .i64 0, .int .i64 0, .int .i64 0, .int .i64 0] 1 [(0, .t 40)], some 41, none, []⟩,
             ⟨4, .app 5 40 (.t 39) (.t 41), some 42, none, []⟩,
             ⟨5, .fa (.t 5) 0, some 43, none, []⟩,
             ⟨6, .st (.t 43) (.t 42) 1, none, none, []⟩])
           (.reg [⟨0, .fa (.t 5) 0, some 22, none, []⟩,
             ⟨1, .ld none (.t 22), some 23, none, []⟩,
             ⟨2, .bld [.int .i64 0, .int .i64 0, .int .i64 0, .int .i64 0, .int .i64 0] [(0, 1, .k (.int .i64 12))], some 24, none, []⟩,
             ⟨3, .bsl [.int .i64 0, .int .i64 0, .int .i64 0, .int .i64 0, .int .i64 0] 1 [(0, .t 24)], some 25, none, []⟩,
             ⟨4, .app 5 40 (.t 23) (.t 25), some 26, none, []⟩,
             ⟨5, .fa (.t 5) 0, some 27, none, []⟩,
             ⟨6, .st (.t 27) (.t 26) 1, none, none, []⟩])))))))))
   (.reg [⟨0, .mv (.t 6), some 11, none, []⟩,
     ⟨1, .bin .add (.t 11) (.k (.int .i64 1)), some 12, none, []⟩,
     ⟨2, .mv (.t 12), some 6, none, []⟩])))
def r32 : RFun := ⟨83, [.cell 4 (some 1)],
 (.seq
  (.reg [⟨0, .alc [.slc none 0 0], some 4, none, []⟩])
  (.seq
   (.reg [⟨0, .alc [.slc none 0 0], some 5, none, []⟩])
   (.seq
    (.seq
     (.reg [⟨0, .mv (.k (.int .i64 1)), some 6, none, []⟩])
     (.blk 0
      (.loop b32_0)))
    (.seq
     (.seq
      (.reg [⟨0, .mv (.t 0), some 44, none, []⟩])
      (.blk 3
       (.seq
        (.reg [⟨0, .bin .eql (.t 44) (.k (.int .i64 0)), some 54, none, []⟩,
          ⟨1, .mv (.t 54), some 53, none, []⟩])
        (.ite (.t 53)
         (.reg [⟨0, .fa (.t 5) 0, some 55, none, []⟩,
           ⟨1, .ld none (.t 55), some 56, none, []⟩,
           ⟨2, .bld [.int .i64 0, .int .i64 0, .int .i64 0, .int .i64 0, .int .i64 0] [(0, 1, .k (.int .i64 6)), (1, 1, .k (.int .i64 0))], some 57, none, []⟩,
           ⟨3, .bsl [.int .i64 0, .int .i64 0, .int .i64 0, .int .i64 0, .int .i64 0] 1 [(0, .t 57)], some 58, none, []⟩,
           ⟨4, .app 5 40 (.t 56) (.t 58), some 59, none, []⟩,
           ⟨5, .fa (.t 5) 0, some 60, none, []⟩,
           ⟨6, .st (.t 60) (.t 59) 1, none, none, []⟩])
         (.seq
          (.reg [⟨0, .bin .eql (.t 44) (.k (.int .i64 1)), some 62, none, []⟩,
            ⟨1, .mv (.t 62), some 61, none, []⟩])
          (.ite (.t 61)
           (.reg [⟨0, .fa (.t 5) 0, some 63, none, []⟩,
             ⟨1, .ld none (.t 63), some 64, none, []⟩,
             ⟨2, .bld [.int .i64 0, .int .i64 0, .int .i64 0, .int .i64 0, .int .i64 0] [(0, 1, .k (.int .i64 13)), (4, 1, .k (.int .i64 1))], some 65, none, []⟩,
             ⟨3, .bld [.int .i64 0, .int .i64 0, .int .i64 0, .int .i64 0, .int .i64 0] [(0, 1, .k (.int .i64 6)), (1, 1, .k (.int .i64 0))], some 66, none, []⟩,
             ⟨4, .bld [.int .i64 0, .int .i64 0, .int .i64 0, .int .i64 0, .int .i64 0] [(0, 1, .k (.int .i64 10)), (1, 1, .k (.int .i64 0))], some 67, none, []⟩,
             ⟨5, .bsl [.int .i64 0, .int .i64 0, .int .i64 0, .int .i64 0, .int .i64 0] 3 [(0, .t 65), (1, .t 66), (2, .t 67)], some 68, none, []⟩,
             ⟨6, .app 5 40 (.t 64) (.t 68), some 69, none, []⟩,
             ⟨7, .fa (.t 5) 0, some 70, none, []⟩,
             ⟨8, .st (.t 70) (.t 69) 1, none, none, []⟩])
           (.reg [⟨0, .fa (.t 5) 0, some 45, none, []⟩,
             ⟨1, .ld none (.t 45), some 46, none, []⟩,
             ⟨2, .bld [.int .i64 0, .int .i64 0, .int .i64 0, .int .i64 0, .int .i64 0] [(0, 1, .k (.int .i64 13)), (4, 1, .k (.int .i64 1))], some 47, none, []⟩,
             ⟨3, .bld [.int .i64 0, .int .i64 0, .int .i64 0, .int .i64 0, .int .i64 0] [(0, 1, .k (.int .i64 6)), (1, 1, .k (.int .i64 2))], some 48, none, []⟩,
             ⟨4, .bld [.int .i64 0, .int .i64 0, .int .i64 0, .int .i64 0, .int .i64 0] [(0, 1, .k (.int .i64 6)), (1, 1, .k (.int .i64 0))], some 49, none, []⟩,
             ⟨5, .bsl [.int .i64 0, .int .i64 0, .int .i64 0, .int .i64 0, .int .i64 0] 3 [(0, .t 47), (1, .t 48), (2, .t 49)], some 50, none, []⟩,
             ⟨6, .app 5 40 (.t 46) (.t 50), some 51, none, []⟩,
             ⟨7, .fa (.t 5) 0, some 52, none, []⟩,
             ⟨8, .st (.t 52) (.t 51) 1, none, none, []⟩])))))))
     (.seq
      (.reg [⟨0, .bld [.int .i64 0, .int .i64 0, .int .i64 0, .int .i64 0, .int .i64 0] [(0, 1, .k (.int .i64 4)), (1, 1, .k (.int .i64 0)), (2, 1, .k (.int .i64 1))], some 71, none, []⟩,
        ⟨1, .bld [.int .i64 0, .int .i64 0, .int .i64 0, .int .i64 0, .int .i64 0] [(0, 1, .k (.int .i64 1)), (1, 1, .k (.int .i64 1)), (3, 1, .k (.int .i64 1))], some 72, none, []⟩,
        ⟨2, .bld [.int .i64 0, .int .i64 0, .int .i64 0, .int .i64 0, .int .i64 0] [(0, 1, .k (.int .i64 5)), (1, 1, .k (.int .i64 0)), (2, 1, .k (.int .i64 1))], some 73, none, []⟩,
        ⟨3, .bld [.int .i64 0, .int .i64 0, .int .i64 0, .int .i64 0, .int .i64 0] [(0, 1, .k (.int .i64 7)), (1, 1, .k (.int .i64 0)), (2, 1, .k (.int .i64 1))], some 74, none, []⟩,
        ⟨4, .bld [.int .i64 0, .int .i64 0, .int .i64 0, .int .i64 0, .int .i64 0] [(0, 1, .k (.int .i64 3)), (1, 1, .k (.int .i64 0))], some 75, none, []⟩,
        ⟨5, .bld [.int .i64 0, .int .i64 0, .int .i64 0, .int .i64 0, .int .i64 0] [(0, 1, .k (.int .i64 3)), (1, 1, .k (.int .i64 3))], some 76, none, []⟩,
        ⟨6, .bsl [.int .i64 0, .int .i64 0, .int .i64 0, .int .i64 0, .int .i64 0] 6 [(0, .t 71), (1, .t 72), (2, .t 73), (3, .t 74), (4, .t 75), (5, .t 76)], some 77, none, []⟩,
        ⟨7, .bld [.slc none 0 0] [(0, 1, .t 77)], some 78, none, []⟩,
        ⟨8, .alc [.slc none 0 0], some 7, none, []⟩,
        ⟨9, .st (.t 7) (.t 78) 1, none, none, []⟩])
      (.seq
       (.reg [⟨0, .ld (some 1) (.t 7), some 79, none, []⟩,
         ⟨1, .ld (some 1) (.t 5), some 80, none, []⟩,
         ⟨2, .bsl [.slc none 0 0] 2 [(0, .t 79), (1, .t 80)], some 81, none, []⟩,
         ⟨3, .bld [.slc none 0 0] [(0, 1, .t 81)], some 82, none, []⟩,
         ⟨4, .st (.t 4) (.t 82) 1, none, none, []⟩])
       .ret))))))⟩
theorem p32 : prog 32 = some r32 := by kernel_rfl



def goneBody (kind n : Nat) : List PStep :=
  ((List.range n).flatMap fun (i : Nat) => [⟨13, 0, 0, 0, 2⟩, ⟨1, 1, 0, ((i + 1 : Nat) : Int), 0⟩, if kind = 0 then ⟨9, 1, 0, 0, 0⟩ else if kind = 1 then ⟨3, 1, 0, 0, 0⟩ else ⟨12, 0, 0, 0, 0⟩]) ++
    (if kind = 0 then [⟨6, 0, 0, 0, 0⟩] else if kind = 1 then [⟨13, 0, 0, 0, 1⟩, ⟨6, 0, 0, 0, 0⟩, ⟨10, 0, 0, 0, 0⟩] else [⟨13, 0, 0, 0, 1⟩, ⟨6, 2, 0, 0, 0⟩, ⟨6, 0, 0, 0, 0⟩])
def madeGone (kind n : Nat) : PPlan :=
  [[⟨4, 0, 1, 0, 0⟩, ⟨1, 1, 0, 1, 0⟩, ⟨5, 0, 1, 0, 0⟩, ⟨7, 0, 1, 0, 0⟩, ⟨3, 0, 0, 0, 0⟩, ⟨3, 3, 0, 0, 0⟩], goneBody kind n]
def madeDeep (n : Nat) : PPlan :=
  [[], [⟨3, 0, 0, 0, 0⟩, ⟨13, 0, 0, 0, ((n + 1 : Nat) : Int)⟩] ++ ((List.range n).map fun (i : Nat) => (⟨12, 0, 0, 0, ((n - i : Nat) : Int)⟩ : PStep)) ++ [⟨10, 0, 0, 0, 0⟩]]

def wantOf (kind n : Nat) : List Int :=
  if kind = 1 then ((List.range n).map fun i => ((n - i : Nat) : Int)) ++ [0, 1] else if kind = 2 then [-10, 0] else [1, 0]

def goneRun (want : List Int) : List PRec → Bool → Nat → Option (Bool × Nat)
  | [], g, i => some (g, i)
  | x :: l, g, i =>
    let g' := g || (x.kind == 2 && x.how == 6)
    if x.kind = 1 then (if want[i]? = some x.num then goneRun want l g' (i + 1) else none) else goneRun want l g' i

def goneGood (kind n : Nat) (S : PM) : Bool :=
  S.code == 0 && S.states == [] && decide (S.recs.length < 1000) &&
  (match S.tasks with
   | [u, t] => t.kept == t.begun && t.state == 4 && u.state == 4
   | _ => false) && goneRun (wantOf kind n) S.recs false 0 == some (true, (wantOf kind n).length)

def goneChk (kind n : Nat) : Bool := (okP (madeGone kind n)).1 == 0 && match runEnd (madeGone kind n) 500 none 1000 with | some S => goneGood kind n S | none => false
def goneMade (kind n : Nat) (f : Nat → Option AObj) : Bool := makes r32 [.c (.int .i64 kind), .c (.int .i64 n)] 600 (madeGone kind n) f
def goneAll : Bool := (List.range 10).all fun n => (List.range 3).all fun k => goneChk k (n + 1)
def goneMades (n : Nat) (f : Nat → Option AObj) : Bool := (List.range 3).all fun k => goneMade k n f
def deepMade (n : Nat) (f : Nat → Option AObj) : Bool := makes r31 [.c (.int .i64 n)] 600 (madeDeep n) f
def deepChk (n : Nat) : Bool := okP (madeDeep n) == (6, 1, (n : Int) + 2) && (madeDeep n).all fun b => decide (b.length < 100)
def deepAll : Bool := (List.range 10).all fun n => deepChk (n + 1)
theorem gone_all : goneAll = true := by kernel_rfl
theorem deep_all : deepAll = true := by kernel_rfl
theorem gone_m1 : ∀ f, goneMades 1 f = true := by intro f; kernel_rfl
theorem gone_m2 : ∀ f, goneMades 2 f = true := by intro f; kernel_rfl
theorem gone_m3 : ∀ f, goneMades 3 f = true := by intro f; kernel_rfl
theorem gone_m4 : ∀ f, goneMades 4 f = true := by intro f; kernel_rfl
theorem gone_m5 : ∀ f, goneMades 5 f = true := by intro f; kernel_rfl
theorem gone_m6 : ∀ f, goneMades 6 f = true := by intro f; kernel_rfl
theorem gone_m7 : ∀ f, goneMades 7 f = true := by intro f; kernel_rfl
theorem gone_m8 : ∀ f, goneMades 8 f = true := by intro f; kernel_rfl
theorem gone_m9 : ∀ f, goneMades 9 f = true := by intro f; kernel_rfl
theorem gone_m10 : ∀ f, goneMades 10 f = true := by intro f; kernel_rfl
theorem deep_m1 : ∀ f, deepMade 1 f = true := by intro f; kernel_rfl
theorem deep_m2 : ∀ f, deepMade 2 f = true := by intro f; kernel_rfl
theorem deep_m3 : ∀ f, deepMade 3 f = true := by intro f; kernel_rfl
theorem deep_m4 : ∀ f, deepMade 4 f = true := by intro f; kernel_rfl
theorem deep_m5 : ∀ f, deepMade 5 f = true := by intro f; kernel_rfl
theorem deep_m6 : ∀ f, deepMade 6 f = true := by intro f; kernel_rfl
theorem deep_m7 : ∀ f, deepMade 7 f = true := by intro f; kernel_rfl
theorem deep_m8 : ∀ f, deepMade 8 f = true := by intro f; kernel_rfl
theorem deep_m9 : ∀ f, deepMade 9 f = true := by intro f; kernel_rfl
theorem deep_m10 : ∀ f, deepMade 10 f = true := by intro f; kernel_rfl

theorem gone_made {kind n : Nat} (hn : 1 ≤ n ∧ n ≤ 10) (hk : kind < 3) (f : Nat → Option AObj) : goneMade kind n f = true := by
  have key : goneMades n f = true := by
    obtain ⟨h1, h2⟩ := hn
    have : n = 1 ∨ n = 2 ∨ n = 3 ∨ n = 4 ∨ n = 5 ∨ n = 6 ∨ n = 7 ∨ n = 8 ∨ n = 9 ∨ n = 10 := by omega
    rcases this with rfl | rfl | rfl | rfl | rfl | rfl | rfl | rfl | rfl | rfl
    · exact gone_m1 f
    · exact gone_m2 f
    · exact gone_m3 f
    · exact gone_m4 f
    · exact gone_m5 f
    · exact gone_m6 f
    · exact gone_m7 f
    · exact gone_m8 f
    · exact gone_m9 f
    · exact gone_m10 f
  unfold goneMades at key
  rw [List.all_eq_true] at key
  exact key kind (List.mem_range.2 hk)

theorem deep_made {n : Nat} (hn : 1 ≤ n ∧ n ≤ 10) (f : Nat → Option AObj) : deepMade n f = true := by
  obtain ⟨h1, h2⟩ := hn
  have : n = 1 ∨ n = 2 ∨ n = 3 ∨ n = 4 ∨ n = 5 ∨ n = 6 ∨ n = 7 ∨ n = 8 ∨ n = 9 ∨ n = 10 := by omega
  rcases this with rfl | rfl | rfl | rfl | rfl | rfl | rfl | rfl | rfl | rfl
  · exact deep_m1 f
  · exact deep_m2 f
  · exact deep_m3 f
  · exact deep_m4 f
  · exact deep_m5 f
  · exact deep_m6 f
  · exact deep_m7 f
  · exact deep_m8 f
  · exact deep_m9 f
  · exact deep_m10 f

theorem deep_ok {n : Nat} (hn : 1 ≤ n ∧ n ≤ 10) : okP (madeDeep n) = (6, 1, (n : Int) + 2) ∧ Lens (madeDeep n) := by
  have h := deep_all
  unfold deepAll at h
  rw [List.all_eq_true] at h
  have h2 := h (n - 1) (List.mem_range.2 (by omega))
  rw [show n - 1 + 1 = n by omega] at h2
  unfold deepChk at h2
  simp only [Bool.and_eq_true, beq_iff_eq, List.all_eq_true, decide_eq_true_eq] at h2
  refine ⟨h2.1, by simp [madeDeep], fun b hb => ?_⟩
  have := h2.2 b hb
  omega

theorem gone_run {kind n : Nat} (hn : 1 ≤ n ∧ n ≤ 10) (hk : kind < 3) : ∃ S, Goes (madeGone kind n) 500 none S ∧ goneGood kind n S = true := by
  have key : goneChk kind n = true := by
    have h := gone_all
    unfold goneAll at h
    rw [List.all_eq_true] at h
    have h2 := h (n - 1) (List.mem_range.2 (by omega))
    rw [List.all_eq_true] at h2
    have h3 := h2 kind (List.mem_range.2 hk)
    rwa [show n - 1 + 1 = n by omega] at h3
  unfold goneChk at key
  simp only [Bool.and_eq_true, beq_iff_eq] at key
  obtain ⟨hok, key⟩ := key
  cases hr : runEnd (madeGone kind n) 500 none 1000 with
  | none => rw [hr] at key; cases key
  | some S =>
    rw [hr] at key
    simp only at key
    refine ⟨S, ⟨⟨1000, hr⟩, by omega, hok, ?_, ?_⟩, key⟩
    · unfold goneGood at key
      simp only [Bool.and_eq_true] at key
      have := key.1.2
      split at this
      · rename_i h; rw [h]; simp [roomy]
      · cases this
    · unfold goneGood at key
      simp only [Bool.and_eq_true, beq_iff_eq] at key
      exact key.1.1.1.2
end Go.Proofs.Ytibmnlijoeppaaa
