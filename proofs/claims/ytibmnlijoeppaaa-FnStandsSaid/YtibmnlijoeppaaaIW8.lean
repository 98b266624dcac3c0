/-
 The program's runs: where they go, what is answered.
-/
import Derived.Test.YtibmnlijoeppaaaIW7
namespace Go.Proofs.Ytibmnlijoeppaaa
set_option linter.unusedSimpArgs false
set_option linter.unusedVariables false

structure PReport where
 code : Int
 recs : List PRec
 num : Int
 ticks : Int
 states : List Int
 deriving DecidableEq, Repr, Inhabited

/-- The machine at the end of a run. -/
def runEnd (p : PPlan) (ticks : Int) (hook : Option PHk) (fuel : Nat) : Option PM := (PM.fresh p ticks hook).bind fun S => PM.runs p fuel S

def PM.report (S : PM) : PReport := ⟨S.code, S.recs, S.num, S.used, S.tasks.map (·.state)⟩

def RepV (hi : Nat) (μ : Mem) (v : AV) (r : PReport) : Prop :=
 ∃ rc sc, v = .agg [.int .i64 r.code, rc, .int .i64 r.num, .int .i64 r.ticks, sc] ∧ Rd hi μ 4 rc r.recs.length (cat recrow 0 r.recs) ∧ Rd hi μ 1 sc r.states.length (cat irow 0 r.states)

def RingsV (hi : Nat) (μ : Mem) (c : Cell) (l : List PRing) : Prop :=
 ∃ g : Nat → Cell, Rd hi μ 2 c l.length (cat (fun i (r : PRing) => [.int .i64 r.pos, g i]) 0 l) ∧ ∀ (i : Nat) (r : PRing), l[i]? = some r → Rd hi μ 1 (g i) r.tasks.length (cat irow 0 r.tasks)

def StandV (hi : Nat) (μ : Mem) (v : AV) (s : PStand) : Prop :=
 ∃ sc, ∃ g : Nat → Cell, v = .agg [.bool s.ok, .int .i64 s.running, sc] ∧
  Rd hi μ 7 sc s.tasks.length (cat (fun i (v : PView) => [.int .i64 v.body, .int .i64 v.state, g i, .int .i64 v.waiter, .int .i64 v.blocks, .int .i64 v.kept, .int .i64 v.begun]) 0 s.tasks) ∧
  ∀ (i : Nat) (v : PView), s.tasks[i]? = some v → Rd hi μ 1 (g i) v.regs.length (cat irow 0 v.regs)

theorem Rd.nil {hi : Nat} {μ : Mem} {sz : Nat} : Rd hi μ sz (.slc none 0 0) 0 [] := ⟨none, 0, rfl, by simp, rfl⟩

section
variable {E : IEnv} {L L' : Lay IR} {S S' : PM} {μ μ' : Mem}

def L00 : Lay IR := ⟨fun _ => 0, fun _ => false, fun _ => 0⟩
theorem hcon_none {lo : Nat} : Has L00 (hcon L00 none) lo μ := by
 refine (Has.start (fun _ => rfl)).weaken' fun y sz cs hy => ?_
 unfold hcon at hy
 split at hy
 ·rename_i hk
  cases y <;> simp only [IR.ofHook, Bool.false_eq_true] at hk <;> simp [icon, hookSt] at hy
 ·cases hy

/-- What a run asks of a plan. -/
structure Goes (p : PPlan) (ticks : Int) (hook : Option PHk) (S : PM) : Prop where
 ex : ∃ fuel, runEnd p ticks hook fuel = some S
 ticks : 0 ≤ ticks ∧ ticks ≤ 5000
 ok : (okP p).1 = 0
 room : S.tasks.length < roomy
 states : S.states = []

theorem drive_end {hi : Nat} {c : Cell} {p : PPlan} {ticks : Int} (hR : PlanR hi μ c p) (hh : hi ≤ μ.next) (hl : Lens p) (hg : Goes p ticks none S) :
  Ret 66 [.agg [c], .c (.int .i64 ticks), .c .nilfn] μ fun v μ' => ∃ E L', E.lo = μ.next ∧ v = pt E.m 0 ∧ Rep E L' S.done μ' ∧ Same μ.next μ μ' := by
 obtain ⟨⟨fuel, he⟩, ht, hok, hr, hst⟩ := hg
 obtain ⟨S0, h0, h1⟩ := Option.bind_eq_some_iff.1 he
 refine (drive_ok (lo := μ.next) (out := μ) (m := 0) (hook := none) (L0 := L00) (hR.mono hh) Same.refl (Nat.le_refl _) hl ht hok hcon_none (fun _ _ => rfl) h0 h1 hr hst).mono ?_
 rintro v μ' ⟨E, L', e1, e2, _, _, rfl, h, _, _⟩
 refine ⟨E, L', e1, rfl, h, ?_⟩
 have := h.same
 rw [e1, e2] at this
 exact this

/-! 26: impl.RunPlan -/
def r26 : RFun := ⟨16, [.cell 4 (some 5)], (.seq (.reg [rI 0 (.box (.t 0) 1) 2, rI 1 (.alc [.int .i64 0, .slc none 0 0, .int .i64 0, .int .i64 0, .slc none 0 0]) 4]) (.seq (.reg [rI 0 (.ld (some 1) (.t 2)) 6, rI 1 (.mv (.t 1)) 7, rI 2 (.call 66 [.t 6, .t 7, .k .nilfn]) 8, rI 3 (.mv (.t 8)) 5]) (.seq (.seq (.reg [rI 0 (.mv (.t 5)) 9, rI 1 (.eq false .ptr (.t 9) (.k (.ptr none))) 10]) (.ite (.t 10) (.seq (.reg [rI 0 (.bld [.int .i64 0, .slc none 0 0, .int .i64 0, .int .i64 0, .slc none 0 0] [(0, 1, .k (.int .i64 3))]) 11, ⟨1, .st (.t 4) (.t 11) 5, none, none, []⟩]) .ret) .skip)) (.seq (.reg [rI 0 (.mv (.t 5)) 12, rI 1 (.nc (.t 12)) 13, rI 2 (.fa (.t 13) 5) 14, rI 3 (.ld (some 5) (.t 14)) 15, ⟨4, .st (.t 4) (.t 15) 5, none, none, []⟩]) .ret))))⟩
theorem p26 : prog 26 = some r26 := by kernel_rfl

/-! 28: impl.Rings -/
def r28 : RFun := ⟨15, [.tmp 4], (.seq (.reg [rI 0 (.box (.t 0) 1) 2, rI 1 (.mv (.k (.slc none 0 0))) 4]) (.seq (.reg [rI 0 (.ld (some 1) (.t 2)) 6, rI 1 (.mv (.t 1)) 7, rI 2 (.call 66 [.t 6, .t 7, .k .nilfn]) 8, rI 3 (.mv (.t 8)) 5]) (.seq (.seq (.reg [rI 0 (.mv (.t 5)) 9, rI 1 (.eq false .ptr (.t 9) (.k (.ptr none))) 10]) (.ite (.t 10) (.seq (.reg [rI 0 (.mv (.k (.slc none 0 0))) 4]) .ret) .skip)) (.seq (.reg [rI 0 (.mv (.t 5)) 11, rI 1 (.nc (.t 11)) 12, rI 2 (.fa (.t 12) 12) 13, rI 3 (.ld none (.t 13)) 14, rI 4 (.mv (.t 14)) 4]) .ret))))⟩
theorem p28 : prog 28 = some r28 := by kernel_rfl

/-! 30: impl.EndOf -/
def r30 : RFun := ⟨14, [.cell 4 (some 3)], (.seq (.reg [rI 0 (.box (.t 0) 1) 2, rI 1 (.alc [.bool false, .int .i64 0, .slc none 0 0]) 4]) (.seq (.reg [rI 0 (.ld (some 1) (.t 2)) 6, rI 1 (.mv (.t 1)) 7, rI 2 (.call 66 [.t 6, .t 7, .k .nilfn]) 8, rI 3 (.mv (.t 8)) 5]) (.seq (.seq (.reg [rI 0 (.mv (.t 5)) 9, rI 1 (.eq false .ptr (.t 9) (.k (.ptr none))) 10]) (.ite (.t 10) (.seq (.reg [rI 0 (.bld [.bool false, .int .i64 0, .slc none 0 0] []) 11, ⟨1, .st (.t 4) (.t 11) 3, none, none, []⟩]) .ret) .skip)) (.seq (.reg [rI 0 (.mv (.t 5)) 12, rI 1 (.call 67 [.t 12]) 13, ⟨2, .st (.t 4) (.t 13) 3, none, none, []⟩]) .ret))))⟩
theorem p30 : prog 30 = some r30 := by kernel_rfl


end
end Go.Proofs.Ytibmnlijoeppaaa
