/-
  The plan of a ring, made and run.
-/
import Derived.Test.YtibmnlijoeppaaaMadeC
namespace Go.Proofs.Ytibmnlijoeppaaa
set_option linter.unusedSimpArgs false
set_option linter.unusedVariables false

/-! 27: spec.MadeRing -/
def b27_0 : RCode :=
 (.seq
  (.seq
   (.reg [⟨0, .mv (.t 7), some 10, none, []⟩,
     ⟨1, .mv (.t 0), some 11, none, []⟩,
     ⟨2, .bin .leq (.t 10) (.t 11), some 12, none, []⟩])
   (.ite (.t 12)
    .skip
    (.exit 0)))
  (.seq
   (.blk 1
    (.reg [⟨0, .fa (.t 6) 0, some 15, none, []⟩,
      ⟨1, .ld none (.t 15), some 16, none, []⟩,
      ⟨2, .mv (.t 7), some 17, none, []⟩,
      ⟨3, .bld [.int .i64 0, .int .i64 0, .int .i64 0, .int .i64 0, .int .i64 0] [(0, 1, .k (.int .i64 4)), (1, 1, .k (.int .i64 0)), (2, 1, .t 17)], some 18, none, []⟩,
      ⟨4, .bsl [.int .i64 0, .int .i64 0, .int .i64 0, .int .i64 0, .int .i64 0] 1 [(0, .t 18)], some 19, none, []⟩,
      ⟨5, .app 5 40 (.t 16) (.t 19), some 20, none, []⟩,
      ⟨6, .fa (.t 6) 0, some 21, none, []⟩,
      ⟨7, .st (.t 21) (.t 20) 1, none, none, []⟩]))
   (.reg [⟨0, .mv (.t 7), some 13, none, []⟩,
     ⟨1, .bin .add (.t 13) (.k (.int .i64 1)), some 14, none, []⟩,
     ⟨2, .mv (.t 14), some 7, none, []⟩])))
def b27_1 : RCode :=
 (.seq
  (.seq
   (.reg [⟨0, .mv (.t 8), some 35, none, []⟩,
     ⟨1, .mv (.t 0), some 36, none, []⟩,
     ⟨2, .bin .leq (.t 35) (.t 36), some 37, none, []⟩])
   (.ite (.t 37)
    .skip
    (.exit 2)))
  (.seq
   (.blk 3
    (.seq
     (.reg [⟨0, .mv (.t 8), some 40, none, []⟩,
       ⟨1, .bin .add (.t 40) (.k (.int .i64 1)), some 41, none, []⟩,
       ⟨2, .mv (.t 41), some 9, none, []⟩])
     (.seq
      (.seq
       (.reg [⟨0, .mv (.t 8), some 42, none, []⟩,
         ⟨1, .mv (.t 0), some 43, none, []⟩,
         ⟨2, .bin .eql (.t 42) (.t 43), some 44, none, []⟩])
       (.ite (.t 44)
        (.reg [⟨0, .mv (.t 1), some 45, none, []⟩,
          ⟨1, .mv (.t 45), some 9, none, []⟩])
        .skip))
      (.reg [⟨0, .fa (.t 5) 0, some 46, none, []⟩,
        ⟨1, .ld none (.t 46), some 47, none, []⟩,
        ⟨2, .mv (.t 9), some 48, none, []⟩,
        ⟨3, .bld [.int .i64 0, .int .i64 0, .int .i64 0, .int .i64 0, .int .i64 0] [(0, 1, .k (.int .i64 1)), (1, 1, .k (.int .i64 1)), (3, 1, .t 48)], some 49, none, []⟩,
        ⟨4, .bld [.int .i64 0, .int .i64 0, .int .i64 0, .int .i64 0, .int .i64 0] [(0, 1, .k (.int .i64 11)), (1, 1, .k (.int .i64 2)), (4, 1, .k (.int .i64 1))], some 50, none, []⟩,
        ⟨5, .bld [.int .i64 0, .int .i64 0, .int .i64 0, .int .i64 0, .int .i64 0] [(0, 1, .k (.int .i64 5)), (1, 1, .k (.int .i64 0)), (2, 1, .k (.int .i64 1))], some 51, none, []⟩,
        ⟨6, .bld [.int .i64 0, .int .i64 0, .int .i64 0, .int .i64 0, .int .i64 0] [(0, 1, .k (.int .i64 3)), (1, 1, .k (.int .i64 2))], some 52, none, []⟩,
        ⟨7, .bsl [.int .i64 0, .int .i64 0, .int .i64 0, .int .i64 0, .int .i64 0] 4 [(0, .t 49), (1, .t 50), (2, .t 51), (3, .t 52)], some 53, none, []⟩,
        ⟨8, .bld [.slc none 0 0] [(0, 1, .t 53)], some 54, none, []⟩,
        ⟨9, .bsl [.slc none 0 0] 1 [(0, .t 54)], some 55, none, []⟩,
        ⟨10, .app 1 24 (.t 47) (.t 55), some 56, none, []⟩,
        ⟨11, .fa (.t 5) 0, some 57, none, []⟩,
        ⟨12, .st (.t 57) (.t 56) 1, none, none, []⟩]))))
   (.reg [⟨0, .mv (.t 8), some 38, none, []⟩,
     ⟨1, .bin .add (.t 38) (.k (.int .i64 1)), some 39, none, []⟩,
     ⟨2, .mv (.t 39), some 8, none, []⟩])))
def r27 : RFun := ⟨59, [.cell 4 (some 1)],
 (.seq
  (.reg [⟨0, .alc [.slc none 0 0], some 4, none, []⟩])
  (.seq
   (.reg [⟨0, .alc [.slc none 0 0], some 5, none, []⟩])
   (.seq
    (.reg [⟨0, .alc [.slc none 0 0], some 6, none, []⟩])
    (.seq
     (.seq
      (.reg [⟨0, .mv (.k (.int .i64 1)), some 7, none, []⟩])
      (.blk 0
       (.loop b27_0)))
     (.seq
      (.reg [⟨0, .fa (.t 6) 0, some 22, none, []⟩,
        ⟨1, .ld none (.t 22), some 23, none, []⟩,
        ⟨2, .bld [.int .i64 0, .int .i64 0, .int .i64 0, .int .i64 0, .int .i64 0] [(0, 1, .k (.int .i64 1)), (1, 1, .k (.int .i64 1)), (3, 1, .k (.int .i64 1))], some 24, none, []⟩,
        ⟨3, .bld [.int .i64 0, .int .i64 0, .int .i64 0, .int .i64 0, .int .i64 0] [(0, 1, .k (.int .i64 5)), (1, 1, .k (.int .i64 0)), (2, 1, .k (.int .i64 1))], some 25, none, []⟩,
        ⟨4, .bsl [.int .i64 0, .int .i64 0, .int .i64 0, .int .i64 0, .int .i64 0] 2 [(0, .t 24), (1, .t 25)], some 26, none, []⟩,
        ⟨5, .app 5 40 (.t 23) (.t 26), some 27, none, []⟩,
        ⟨6, .fa (.t 6) 0, some 28, none, []⟩,
        ⟨7, .st (.t 28) (.t 27) 1, none, none, []⟩])
      (.seq
       (.reg [⟨0, .fa (.t 5) 0, some 29, none, []⟩,
         ⟨1, .ld none (.t 29), some 30, none, []⟩,
         ⟨2, .ld (some 1) (.t 6), some 31, none, []⟩,
         ⟨3, .bsl [.slc none 0 0] 1 [(0, .t 31)], some 32, none, []⟩,
         ⟨4, .app 1 24 (.t 30) (.t 32), some 33, none, []⟩,
         ⟨5, .fa (.t 5) 0, some 34, none, []⟩,
         ⟨6, .st (.t 34) (.t 33) 1, none, none, []⟩])
       (.seq
        (.seq
         (.reg [⟨0, .mv (.k (.int .i64 1)), some 8, none, []⟩])
         (.blk 2
          (.loop b27_1)))
        (.seq
         (.reg [⟨0, .ld (some 1) (.t 5), some 58, none, []⟩,
           ⟨1, .st (.t 4) (.t 58) 1, none, none, []⟩])
         .ret))))))))⟩
theorem p27 : prog 27 = some r27 := by kernel_rfl



/-- The plan that a function without calls makes. -/
def madeOf (rf : RFun) (args : List AV) (fuel : Nat) (f : Nat → Option AObj) : Option PPlan := (madeEv rf args f fuel).bind fun x => decPlan x.2 x.1

theorem madeOf_call {g : Nat} {rf : RFun} (hp : prog g = some rf) {args : List AV} (hl : args.length ≤ rf.ntmps) {μ : Mem} (hn : μ.next = 1) {fuel : Nat} {p : PPlan} (h : ∀ f, madeOf rf args fuel f = some p) :
    Ret g args μ fun v μ' => ∃ c, v = .agg [c] ∧ PlanR μ'.next μ' c p := by
  obtain ⟨f, n⟩ := μ
  simp only at hn
  subst hn
  obtain ⟨⟨c, μ'⟩, h1, h2⟩ := Option.bind_eq_some_iff.1 (h f)
  exact ⟨_, _, madeEv_ok hp hl h1, c, rfl, decPlan_ok h2⟩

def ringBody (next : Int) : List PStep := [⟨1, 1, 0, next, 0⟩, ⟨11, 2, 0, 0, 1⟩, ⟨5, 0, 1, 0, 0⟩, ⟨3, 2, 0, 0, 0⟩]
def madeRing (n : Nat) (k : Int) : PPlan :=
  ((List.range n).map (fun (i : Nat) => (⟨4, 0, ((i + 1 : Nat) : Int), 0, 0⟩ : PStep)) ++ [⟨1, 1, 0, 1, 0⟩, ⟨5, 0, 1, 0, 0⟩]) ::
    (List.range n).map fun (i : Nat) => ringBody (if i + 1 = n then k else ((i + 2 : Nat) : Int))

def cntR (kd : Int) : List PRec → Nat
  | [] => 0
  | x :: l => if x.kind = kd then cntR kd l + 1 else cntR kd l

/-- What the law asks of the records. -/
def ringRec (n : Nat) (x : PRec) : Bool := (x.kind != 3 || (x.task == n && x.num == -10)) && (x.kind != 1 || ((x.num == -10) == (x.task == n)))
def ringRow (n k : Nat) (S : PM) (r : PRing) (i : Nat) : Bool := decide (r.pos.toNat + i < S.recs.length) && r.tasks[i]? == some ((k + i : Nat) : Int) && S.recs[r.pos.toNat + i]? == some ⟨5, n, 0, ((k + i : Nat) : Int)⟩

/-- What the law asks of the run. -/
def ringGood (n k : Nat) (S : PM) : Bool :=
  S.code == 0 && S.states == [] && decide (S.tasks.length < 100) && decide (S.recs.length < 1000) &&
  (match S.rings with
   | [r] => decide (0 ≤ r.pos) && r.tasks.length == n - k + 1 && (List.range (n - k + 1)).all (ringRow n k S r)
   | _ => false) &&
  cntR 5 S.recs == n - k + 1 && cntR 1 S.recs == n && S.recs.all (ringRec n)

def ringChk (n k : Nat) : Bool := (okP (madeRing n k)).1 == 0 && match runEnd (madeRing n k) 500 none 1000 with | some S => ringGood n k S | none => false
def ringChks (n lo len : Nat) : Bool := (List.range len).all fun k => ringChk n (lo + k)

theorem ringGoes {n k : Nat} (key : ringChk n k = true) : ∃ S, Goes (madeRing n k) 500 none S ∧ ringGood n k S = true := by
  unfold ringChk at key
  simp only [Bool.and_eq_true, beq_iff_eq] at key
  obtain ⟨hok, key⟩ := key
  cases hr : runEnd (madeRing n k) 500 none 1000 with
  | none => rw [hr] at key; cases key
  | some S =>
    rw [hr] at key
    simp only at key
    have key2 := key
    unfold ringGood at key2
    simp only [Bool.and_eq_true, beq_iff_eq, decide_eq_true_eq] at key2
    obtain ⟨⟨⟨⟨⟨⟨⟨_, k1⟩, k2⟩, _⟩, _⟩, _⟩, _⟩, _⟩ := key2
    exact ⟨S, ⟨⟨1000, hr⟩, by omega, hok, by unfold roomy; omega, k1⟩, key⟩

theorem ring_m1 : ∀ (f : Nat → Option AObj) (k : Int), madeOf r27 [.c (.int .i64 ((1 : Nat) : Int)), .c (.int .i64 k)] 300 f = some (madeRing 1 k) := by intro f k; kernel_rfl
theorem ring_m2 : ∀ (f : Nat → Option AObj) (k : Int), madeOf r27 [.c (.int .i64 ((2 : Nat) : Int)), .c (.int .i64 k)] 300 f = some (madeRing 2 k) := by intro f k; kernel_rfl
theorem ring_m3 : ∀ (f : Nat → Option AObj) (k : Int), madeOf r27 [.c (.int .i64 ((3 : Nat) : Int)), .c (.int .i64 k)] 300 f = some (madeRing 3 k) := by intro f k; kernel_rfl
theorem ring_m4 : ∀ (f : Nat → Option AObj) (k : Int), madeOf r27 [.c (.int .i64 ((4 : Nat) : Int)), .c (.int .i64 k)] 300 f = some (madeRing 4 k) := by intro f k; kernel_rfl
theorem ring_m5 : ∀ (f : Nat → Option AObj) (k : Int), madeOf r27 [.c (.int .i64 ((5 : Nat) : Int)), .c (.int .i64 k)] 300 f = some (madeRing 5 k) := by intro f k; kernel_rfl
theorem ring_m6 : ∀ (f : Nat → Option AObj) (k : Int), madeOf r27 [.c (.int .i64 ((6 : Nat) : Int)), .c (.int .i64 k)] 300 f = some (madeRing 6 k) := by intro f k; kernel_rfl
theorem ring_m7 : ∀ (f : Nat → Option AObj) (k : Int), madeOf r27 [.c (.int .i64 ((7 : Nat) : Int)), .c (.int .i64 k)] 300 f = some (madeRing 7 k) := by intro f k; kernel_rfl
theorem ring_m8 : ∀ (f : Nat → Option AObj) (k : Int), madeOf r27 [.c (.int .i64 ((8 : Nat) : Int)), .c (.int .i64 k)] 300 f = some (madeRing 8 k) := by intro f k; kernel_rfl
theorem ring_m9 : ∀ (f : Nat → Option AObj) (k : Int), madeOf r27 [.c (.int .i64 ((9 : Nat) : Int)), .c (.int .i64 k)] 300 f = some (madeRing 9 k) := by intro f k; kernel_rfl
theorem ring_m10 : ∀ (f : Nat → Option AObj) (k : Int), madeOf r27 [.c (.int .i64 ((10 : Nat) : Int)), .c (.int .i64 k)] 300 f = some (madeRing 10 k) := by intro f k; kernel_rfl
theorem ring_m11 : ∀ (f : Nat → Option AObj) (k : Int), madeOf r27 [.c (.int .i64 ((11 : Nat) : Int)), .c (.int .i64 k)] 300 f = some (madeRing 11 k) := by intro f k; kernel_rfl
theorem ring_m12 : ∀ (f : Nat → Option AObj) (k : Int), madeOf r27 [.c (.int .i64 ((12 : Nat) : Int)), .c (.int .i64 k)] 300 f = some (madeRing 12 k) := by intro f k; kernel_rfl
theorem ring_m13 : ∀ (f : Nat → Option AObj) (k : Int), madeOf r27 [.c (.int .i64 ((13 : Nat) : Int)), .c (.int .i64 k)] 300 f = some (madeRing 13 k) := by intro f k; kernel_rfl
theorem ring_m14 : ∀ (f : Nat → Option AObj) (k : Int), madeOf r27 [.c (.int .i64 ((14 : Nat) : Int)), .c (.int .i64 k)] 300 f = some (madeRing 14 k) := by intro f k; kernel_rfl
theorem ring_m15 : ∀ (f : Nat → Option AObj) (k : Int), madeOf r27 [.c (.int .i64 ((15 : Nat) : Int)), .c (.int .i64 k)] 300 f = some (madeRing 15 k) := by intro f k; kernel_rfl
theorem ring_m16 : ∀ (f : Nat → Option AObj) (k : Int), madeOf r27 [.c (.int .i64 ((16 : Nat) : Int)), .c (.int .i64 k)] 300 f = some (madeRing 16 k) := by intro f k; kernel_rfl
theorem ring_m17 : ∀ (f : Nat → Option AObj) (k : Int), madeOf r27 [.c (.int .i64 ((17 : Nat) : Int)), .c (.int .i64 k)] 300 f = some (madeRing 17 k) := by intro f k; kernel_rfl
theorem ring_m18 : ∀ (f : Nat → Option AObj) (k : Int), madeOf r27 [.c (.int .i64 ((18 : Nat) : Int)), .c (.int .i64 k)] 300 f = some (madeRing 18 k) := by intro f k; kernel_rfl
theorem ring_m19 : ∀ (f : Nat → Option AObj) (k : Int), madeOf r27 [.c (.int .i64 ((19 : Nat) : Int)), .c (.int .i64 k)] 300 f = some (madeRing 19 k) := by intro f k; kernel_rfl
theorem ring_m20 : ∀ (f : Nat → Option AObj) (k : Int), madeOf r27 [.c (.int .i64 ((20 : Nat) : Int)), .c (.int .i64 k)] 300 f = some (madeRing 20 k) := by intro f k; kernel_rfl

theorem ring_made {n : Nat} (hn : 1 ≤ n ∧ n ≤ 20) (k : Int) (f : Nat → Option AObj) : madeOf r27 [.c (.int .i64 (n : Int)), .c (.int .i64 k)] 300 f = some (madeRing n k) := by
  obtain ⟨h1, h2⟩ := hn
  have : n = 1 ∨ n = 2 ∨ n = 3 ∨ n = 4 ∨ n = 5 ∨ n = 6 ∨ n = 7 ∨ n = 8 ∨ n = 9 ∨ n = 10 ∨ n = 11 ∨ n = 12 ∨ n = 13 ∨ n = 14 ∨ n = 15 ∨ n = 16 ∨ n = 17 ∨ n = 18 ∨ n = 19 ∨ n = 20 := by omega
  rcases this with rfl | rfl | rfl | rfl | rfl | rfl | rfl | rfl | rfl | rfl | rfl | rfl | rfl | rfl | rfl | rfl | rfl | rfl | rfl | rfl
  · exact ring_m1 f k
  · exact ring_m2 f k
  · exact ring_m3 f k
  · exact ring_m4 f k
  · exact ring_m5 f k
  · exact ring_m6 f k
  · exact ring_m7 f k
  · exact ring_m8 f k
  · exact ring_m9 f k
  · exact ring_m10 f k
  · exact ring_m11 f k
  · exact ring_m12 f k
  · exact ring_m13 f k
  · exact ring_m14 f k
  · exact ring_m15 f k
  · exact ring_m16 f k
  · exact ring_m17 f k
  · exact ring_m18 f k
  · exact ring_m19 f k
  · exact ring_m20 f k
end Go.Proofs.Ytibmnlijoeppaaa
