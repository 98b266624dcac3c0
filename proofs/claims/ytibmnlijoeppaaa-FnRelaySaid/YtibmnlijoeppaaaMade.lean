/-
  Plans that are made: a function without calls is run by the kernel, in a memory of which only the number of its blocks is known.
-/
import Derived.Test.YtibmnlijoeppaaaIW8
import Derived.Test.YtibmnlijoeppaaaInB
namespace Go.Proofs.Ytibmnlijoeppaaa
set_option linter.unusedSimpArgs false
set_option linter.unusedVariables false

def toSteps : List Cell → Option (List PStep)
  | [] => some []
  | .int .i64 a :: .int .i64 b :: .int .i64 c :: .int .i64 d :: .int .i64 e :: l => (toSteps l).map (⟨a, b, c, d, e⟩ :: ·)
  | _ => none

def decSteps (μ : Mem) : Cell → Option (List PStep)
  | .slc none 0 0 => some []
  | .slc (some (i, o)) n _ => if i < μ.next then (μ.obj i).bind fun ob => if ob.ro = false then (rd ob.cells o (n * 5)).bind toSteps else none else none
  | _ => none

def decBodies (μ : Mem) : List Cell → Option PPlan
  | [] => some []
  | c :: l => match decSteps μ c, decBodies μ l with
    | some b, some p => some (b :: p)
    | _, _ => none

def decPlan (μ : Mem) : Cell → Option PPlan
  | .slc (some (i, o)) n _ => if i < μ.next then (μ.obj i).bind fun ob => if ob.ro = false then (rd ob.cells o (n * 1)).bind (decBodies μ) else none else none
  | _ => none

theorem toSteps_cat : ∀ (l : List Cell) (b : List PStep) (i : Nat), toSteps l = some b → cat scells i b = l
  | [], b, i, h => by simp only [toSteps, Option.some.injEq] at h; subst h; rfl
  | c0 :: l, b, i, h => by
    unfold toSteps at h
    split at h
    · simp only [Option.some.injEq] at h; subst h; rename_i hh; cases hh
    · rename_i a b' c d e l' hh
      obtain ⟨b2, h2, rfl⟩ := Option.map_eq_some_iff.1 h
      simp only [List.cons.injEq] at hh
      obtain ⟨rfl, rfl⟩ := hh
      simp only [cat, scells, List.cons_append, List.nil_append]
      rw [toSteps_cat l' b2 (i + 1) h2]
    · cases h
termination_by l => l.length

theorem rd_len1 : ∀ {n o : Nat} {l x : List Cell}, rd l o n = some x → x.length = n
  | 0, o, l, x, h => by simp only [rd, Option.some.injEq] at h; subst h; rfl
  | n + 1, o, l, x, h => by
    simp only [rd] at h
    split at h
    · obtain ⟨y, h1, rfl⟩ := Option.map_eq_some_iff.1 h
      simp only [List.length_cons, rd_len1 h1]
    · cases h

theorem decSteps_ok {μ : Mem} {c : Cell} {b : List PStep} (h : decSteps μ c = some b) : Rd μ.next μ 5 c b.length (cat scells 0 b) := by
  unfold decSteps at h
  split at h
  · simp only [Option.some.injEq] at h; subst h; exact Rd.nil
  · rename_i i o n cap
    split at h
    · rename_i hi
      obtain ⟨ob, hob, h⟩ := Option.bind_eq_some_iff.1 h
      split at h
      · rename_i hro
        obtain ⟨x, hx, h⟩ := Option.bind_eq_some_iff.1 h
        have hc := toSteps_cat x b 0 h
        have hl : b.length * 5 = n * 5 := by rw [← rd_len1 hx, ← hc, cat_length scells_len]
        have hn : n = b.length := by omega
        subst hn
        refine ⟨some (i, o), cap, rfl, cat_length scells_len, hi, ob, hob, by rw [hc]; exact hx, by rw [hro]; rfl⟩
      · cases h
    · cases h
  · cases h

theorem crow_cat : ∀ (l : List Cell) (i : Nat), cat crow i l = l
  | [], _ => rfl
  | c :: l, i => by simp only [cat, crow, crow_cat l]; rfl

theorem decBodies_ok {μ : Mem} : ∀ {l : List Cell} {p : PPlan}, decBodies μ l = some p → l.length = p.length ∧ ∀ (i : Nat) (b : List PStep), p[i]? = some b → ∃ x, l[i]? = some x ∧ Rd μ.next μ 5 x b.length (cat scells 0 b)
  | [], p, h => by simp only [decBodies, Option.some.injEq] at h; subst h; exact ⟨rfl, fun i b hb => by simp at hb⟩
  | c :: l, p, h => by
    simp only [decBodies] at h
    split at h
    · rename_i b0 p0 h1 h2
      simp only [Option.some.injEq] at h
      subst h
      obtain ⟨e1, e2⟩ := decBodies_ok h2
      refine ⟨by simp [e1], fun i b hb => ?_⟩
      rcases i with _ | i
      · simp only [List.getElem?_cons_zero, Option.some.injEq] at hb
        subst hb
        exact ⟨c, rfl, decSteps_ok h1⟩
      · simp only [List.getElem?_cons_succ] at hb ⊢
        exact e2 i b hb
    · cases h

theorem decPlan_ok {μ : Mem} {c : Cell} {p : PPlan} (h : decPlan μ c = some p) : PlanR μ.next μ c p := by
  unfold decPlan at h
  split at h
  · rename_i i o n cap
    split at h
    · rename_i hi
      obtain ⟨ob, hob, h⟩ := Option.bind_eq_some_iff.1 h
      split at h
      · rename_i hro
        obtain ⟨x, hx, h⟩ := Option.bind_eq_some_iff.1 h
        obtain ⟨e1, e2⟩ := decBodies_ok h
        have hn : n = x.length := by rw [rd_len1 hx]; omega
        subst hn
        exact ⟨x, e1, ⟨some (i, o), cap, rfl, by rw [crow_cat]; omega, hi, ob, hob, by rw [crow_cat]; exact hx, by rw [hro]; rfl⟩, e2⟩
      · cases h
    · cases h
  · cases h

/-- A function without calls, run. -/
def madeEv (rf : RFun) (args : List AV) (f : Nat → Option AObj) (fuel : Nat) : Option (Cell × Mem) :=
  match aCode noCall fuel rf.body (frOf args) ⟨f, 1⟩ with
  | some (.exit _, _, _) => none
  | some (_, fr', μ') => match aRet fr' μ' rf.res with
    | some (.agg [c]) => some (c, μ')
    | _ => none
  | none => none

theorem madeEv_ok {g : Nat} {rf : RFun} (hp : prog g = some rf) {args : List AV} (hl : args.length ≤ rf.ntmps) {f : Nat → Option AObj} {fuel : Nat} {c : Cell} {μ' : Mem} (h : madeEv rf args f fuel = some (c, μ')) :
    Ev g args ⟨f, 1⟩ (.agg [c]) μ' := by
  unfold madeEv at h
  have hle : CallT.Le noCall (acall prog fuel) := fun _ _ _ _ hh => by cases hh
  cases ha : aCode noCall fuel rf.body (frOf args) ⟨f, 1⟩ with
  | none => rw [ha] at h; cases h
  | some y =>
    obtain ⟨o, fr', μ1⟩ := y
    rw [ha] at h
    have ha' := aCode_mono hle (Nat.le_refl fuel) ha
    refine ⟨fuel + 1, ?_⟩
    simp only [acall, hp, if_pos hl, ha']
    cases o with
    | exit i => cases h
    | normal =>
      simp only at h ⊢
      split at h
      · rename_i c1 hc1
        simp only [Option.some.injEq, Prod.mk.injEq] at h
        obtain ⟨rfl, rfl⟩ := h
        rw [hc1]; rfl
      · cases h
    | ret =>
      simp only at h ⊢
      split at h
      · rename_i c1 hc1
        simp only [Option.some.injEq, Prod.mk.injEq] at h
        obtain ⟨rfl, rfl⟩ := h
        rw [hc1]; rfl
      · cases h

/-- It makes this plan. -/
def makes (rf : RFun) (args : List AV) (fuel : Nat) (p : PPlan) (f : Nat → Option AObj) : Bool :=
  match madeEv rf args f fuel with
  | some (c, μ') => decPlan μ' c == some p && decide (1 ≤ μ'.next)
  | none => false

theorem makes_ok {g : Nat} {rf : RFun} (hp : prog g = some rf) {args : List AV} (hl : args.length ≤ rf.ntmps) {f : Nat → Option AObj} {fuel : Nat} {p : PPlan} (h : makes rf args fuel p f = true) :
    Ret g args ⟨f, 1⟩ fun v μ' => ∃ c, v = .agg [c] ∧ PlanR μ'.next μ' c p := by
  unfold makes at h
  split at h
  · rename_i c μ' he
    simp only [Bool.and_eq_true, beq_iff_eq, decide_eq_true_eq] at h
    exact ⟨_, _, madeEv_ok hp hl he, c, rfl, decPlan_ok h.1⟩
  · cases h

/-! 24: laws.wByte -/
def r24 : RFun := ⟨16, [.tmp 4],
 (.seq
  (.reg [⟨0, .mv (.k (.int .i64 0)), some 4, none, []⟩])
  (.seq
   (.seq
    (.reg [⟨0, .mv (.t 0), some 5, none, []⟩,
      ⟨1, .len (.t 5), some 6, none, []⟩,
      ⟨2, .bin .eql (.t 6) (.k (.int .i64 0)), some 7, none, []⟩])
    (.ite (.t 7)
     (.seq
      (.reg [⟨0, .mv (.k (.int .i64 0)), some 4, none, []⟩])
      .ret)
     .skip))
   (.seq
    (.reg [⟨0, .mv (.t 0), some 8, none, []⟩,
      ⟨1, .mv (.t 1), some 9, none, []⟩,
      ⟨2, .mv (.t 0), some 10, none, []⟩,
      ⟨3, .len (.t 10), some 11, none, []⟩,
      ⟨4, .bin .rem (.t 9) (.t 11), some 12, none, []⟩,
      ⟨5, .ias (.t 8) (.t 12) 1, some 13, none, []⟩,
      ⟨6, .ld none (.t 13), some 14, none, []⟩,
      ⟨7, .cv .i64 (.t 14), some 15, none, []⟩,
      ⟨8, .mv (.t 15), some 4, none, []⟩])
    .ret)))⟩
theorem p24 : prog 24 = some r24 := by kernel_rfl



def pB (b : List Int) (i : Nat) : Int := b.getD (i % b.length) 0

theorem pB_range {b : List Int} (h : ∀ y ∈ b, 0 ≤ y ∧ y ≤ 255) (i : Nat) : 0 ≤ pB b i ∧ pB b i ≤ 255 := by
  unfold pB
  by_cases hb : b = []
  · subst hb; simp
  · have hlt : i % b.length < b.length := Nat.mod_lt _ (List.length_pos_iff.2 hb)
    rw [List.getD_eq_getElem?_getD, List.getElem?_eq_getElem hlt]
    exact h _ (List.getElem_mem hlt)

theorem wByte_ok {hi : Nat} {μ : Mem} {c : Cell} {b : List Int} (h : Rd hi μ 1 c b.length (cat brow 0 b)) (hr : ∀ y ∈ b, 0 ≤ y ∧ y ≤ 255) (i : Nat) :
    Ret 24 [.c c, .c (.int .i64 i)] μ fun v μ' => v = .c (.int .i64 (pB b i)) ∧ μ' = μ := by
  obtain ⟨a, cap, hc, _⟩ := id h
  refine Ret_of p24 (by simp [r24]) ?_
  simp only [r24, frOf_2]
  by_cases hb : b = []
  · subst hb
    subst hc
    have h0 : ((([] : List Int).length : Nat) : Int) = 0 := rfl
    simp only [w1, w2, AV.isTup, AV.cells, ↓reduceIte, Nat.reduceEqDiff, Nat.reduceAdd, Int.reduceLT, Int.reduceLE, Int.reduceNeg, Int.reduceBEq, Int.reduceBNe, h0, aRet, aRes, aRes1]
    have hb0 : (((0 : Nat) : Int) == 0) = true := rfl
    simp only [w1, w2, AV.isTup, AV.cells, ↓reduceIte, Nat.reduceEqDiff, Nat.reduceAdd, Int.reduceLT, Int.reduceLE, Int.reduceNeg, Int.reduceBEq, Int.reduceBNe, hb0, aRet, aRes, aRes1]
    simp [pB]
  · have hlen : 0 < b.length := List.length_pos_iff.2 hb
    have hlt : i % b.length < b.length := Nat.mod_lt _ hlen
    obtain ⟨bb, o, e1, e2, e3, e4⟩ := h.row brow_len (by omega) (List.getElem?_eq_getElem hlt)
    have e5 := e4 0 (by omega)
    simp only [brow, List.getElem?_cons_zero, Option.map_some, Nat.add_zero] at e5
    have hb0 : ((b.length : Int) == 0) = false := beq_ff (by omega)
    have hrem : vbin .rem (.c (.int .i64 (i : Int))) (.c (.int .i64 (b.length : Int))) = some (.c (.int .i64 ((i % b.length : Nat) : Int))) := by
      rw [vbin_rem (by omega), Int.tmod_eq_emod_of_nonneg (by omega), Int.natCast_emod]
    have hg := hr _ (List.getElem_mem hlt)
    have hw : IntKind.i64.wrap b[i % b.length] = b[i % b.length] := small (by omega)
    subst hc
    simp only [w1, w2, AV.isTup, AV.cells, ↓reduceIte, Nat.reduceEqDiff, Nat.reduceAdd, Int.reduceLT, Int.reduceLE, Int.reduceNeg, Int.reduceBEq, Int.reduceBNe, hb0, hrem, e1, e5, hw, aRet, aRes, aRes1]
    unfold pB
    rw [List.getD_eq_getElem?_getD, List.getElem?_eq_getElem hlt]
    simp

theorem tmod_nat {a : Int} {n : Nat} (ha : 0 ≤ a) : ∃ m : Nat, a.tmod n = m ∧ (0 < n → m < n) := by
  refine ⟨(a.tmod n).toNat, ?_, fun h => ?_⟩
  · have := Int.tmod_nonneg (n : Int) ha; omega
  · have h1 := Int.tmod_nonneg (n : Int) ha
    have h2 := Int.tmod_lt_of_pos a (b := (n : Int)) (by omega)
    omega

theorem recAt {hi : Nat} {μ μ' : Mem} {c : Cell} {l : List PRec} (h : Rd hi μ 4 c l.length (cat recrow 0 l)) (hs : Same hi μ μ') {i : Nat} {x : PRec} (hx : l[i]? = some x) :
    ∃ b o, (∀ kd, aidx (.c c) (.c (.int kd (i : Int))) 4 = some (pt b o)) ∧ μ'.ld (some 4) b o = some (.agg [.int .i64 x.kind, .int .i64 x.task, .int .i64 x.how, .int .i64 x.num]) := by
  obtain ⟨b, o, e1, e2, e3, _⟩ := h.row recrow_len (by omega) hx
  exact ⟨b, o, e1, (hs.ld e2).trans e3⟩
end Go.Proofs.Ytibmnlijoeppaaa
