/-
 Rings whose parts lie apart.
 The reference's Rings: what it answers.
 The exact law of Rings: what both sides answer.
-/
import Derived.Test.YtibmnlijoeppaaaH2
import Derived.Test.YtibmnlijoeppaaaXW8
import Derived.Test.YtibmnlijoeppaaaGrow
import Derived.Test.YtibmnlijoeppaaaBoth
namespace Go.Proofs.Ytibmnlijoeppaaa
open Nat renaming reduceEqDiff → zA, reduceAdd → zB, reduceLeDiff → zJ, reduceMul → zK
open Int renaming reduceLT → zC, reduceLE → zD, reduceNeg → zE, reduceBEq → zF, reduceBNe → zG
open AV renaming isTup → zH, cells → zI
set_option linter.unusedSimpArgs false
set_option linter.unusedVariables false

def grow (g : Nat → Cell) (i : Nat) (r : PRing) : List Cell := [.int .i64 r.pos, g i]

theorem grow_len (g : Nat → Cell) (i : Nat) (r : PRing) : (grow g i r).length = 2 := rfl

def rgTot : List PRing → Nat
 | [] => 0
 | r :: l => 1 + r.tasks.length + rgTot l

/-- Rings whose parts lie above 'lo' and apart. -/
structure RingsH (lo : Nat) (μ : Mem) (L : Lay IR) (C : Con IR) (l : List PRing) : Prop where
 has : Has L C lo μ
 rows : C .rings = some (2, cat (ringrow L) 0 l)
 each : ∀ (i : Nat) (r : PRing), l[i]? = some r → C (.ring i) = some (1, cat irow 0 r.tasks)

theorem RingsH.v {lo : Nat} {μ : Mem} {L : Lay IR} {C : Con IR} {l : List PRing} (h : RingsH lo μ L C l) : RingsV μ.next μ (L.sc .rings l.length) l := by
 refine ⟨fun i => match l[i]? with | some r => L.sc (.ring i) r.tasks.length | none => .slc none 0 0, ?_, fun i r hr => ?_⟩
 ·have := h.has.rd h.rows (n := l.length) (by rw [cat_length (ringrow_len L)]) (by omega)
  rw [cat_congr (g := fun i (r : PRing) => [Cell.int .i64 r.pos, match l[i]? with | some r => L.sc (.ring i) r.tasks.length | none => .slc none 0 0]) (g' := ringrow L) fun j g hj => by
   simp only [Nat.zero_add, hj, ringrow]]
  exact this
 ·simp only [hr]
  exact h.has.rd (h.each i r hr) (by rw [cat_length irow_len]) (by omega)
end Go.Proofs.Ytibmnlijoeppaaa
namespace Go.Proofs.Ytibmnlijoeppaaa.X
open Nat renaming reduceEqDiff → zA, reduceAdd → zB, reduceLeDiff → zJ, reduceMul → zK
open Int renaming reduceLT → zC, reduceLE → zD, reduceNeg → zE, reduceBEq → zF, reduceBNe → zG
open AV renaming isTup → zH, cells → zI
set_option linter.unusedSimpArgs false
set_option linter.unusedVariables false

/-! 43: spec.Rings -/
def r43 : RFun := ⟨17, [.tmp 4], (.seq (.reg [rI 0 (.box (.t 0) 1) 2, rI 1 (.mv (.k (.slc none 0 0))) 4]) (.seq (.seq (.reg [rI 0 (.ld (some 1) (.t 2)) 6, rI 1 (.mv (.t 1)) 7, rI 2 (.call 69 [.t 6, .t 7]) 8, rI 3 (.nt (.t 8)) 9]) (.ite (.t 9) (.seq (.reg [rI 0 (.mv (.k (.slc none 0 0))) 4]) .ret) .skip)) (.seq (.reg [rI 0 (.ld (some 1) (.t 2)) 10, rI 1 (.mv (.t 1)) 11, rI 2 (.call 70 [.t 10, .t 11, .k (.int .i64 (-1))]) 12, rI 3 (.mv (.t 12)) 5]) (.seq (.reg [rI 0 (.mv (.t 5)) 13, rI 1 (.nc (.t 13)) 14, rI 2 (.fa (.t 14) 10) 15, rI 3 (.ld none (.t 15)) 16, rI 4 (.mv (.t 16)) 4]) .ret))))⟩
theorem p43 : prog 43 = some r43 := by kernel_rfl



section
variable {E : IEnv} {L L' : Lay IR} {S S' : PM} {μ μ' : Mem}

theorem rings_no {hi : Nat} {c : Cell} {p : PPlan} {ticks : Int} (hR : PlanR hi μ c p) (hh : hi ≤ μ.next) (hl : Lens p) (hg : runnable p ticks = false) :
  Ret 43 [.agg [c], .c (.int .i64 ticks)] μ fun v μ' => (∃ x, v = .c x ∧ RingsV μ'.next μ' x []) ∧ Same μ.next μ μ' := by
 have hA : Same μ.next μ (μ.new [c] 0) := Same.tmp (Nat.le_refl _)
 have lA : (μ.new [c] 0).ld (some 1) μ.next 0 = some (.agg [c]) := by rw [Mem.new_ld, if_pos rfl]; rfl
 refine Ret_of p43 (by simp [r43]) ?_
 simp only [rI, r43, frOf_2]
 simp only [w1, w2, zH, zI, ↓reduceIte, zA, zE, lA]
 refine R_calls (l := [.agg [c], .c (.int .i64 ticks)]) (by simp only [w1, w2, ↓reduceIte, zA]) (sok_ok (hR.same hA hh) (by simp only [Mem.new_next]; omega) hl) ?_
 rintro v μ1 ⟨rfl, hs⟩
 simp only [Mem.new_next] at hs
 simp only [w1, w2, ↓reduceIte, zE, hg, aRet, aRes, aRes1]
 exact ⟨_, rfl, ⟨_, rfl, fun _ => .slc none 0 0, Rd.nil, fun i r hr => by simp at hr⟩, hA.trans (hs.mono (by omega))⟩

theorem rings_ok {hi : Nat} {c : Cell} {p : PPlan} {ticks : Int} (hR : PlanR hi μ c p) (hh : hi ≤ μ.next) (hl : Lens p) (hn : runnable p ticks = true) (hg : Goes p ticks (-1) S) :
  Ret 43 [.agg [c], .c (.int .i64 ticks)] μ fun v μ' => (∃ x, v = .c x ∧ RingsV μ'.next μ' x S.rings) ∧ Same μ.next μ μ' := by
 have hA : Same μ.next μ (μ.new [c] 0) := Same.tmp (Nat.le_refl _)
 have lA : (μ.new [c] 0).ld (some 1) μ.next 0 = some (.agg [c]) := by rw [Mem.new_ld, if_pos rfl]; rfl
 refine Ret_of p43 (by simp [r43]) ?_
 simp only [rI, r43, frOf_2]
 simp only [w1, w2, zH, zI, ↓reduceIte, zA, zE, lA]
 refine R_calls (l := [.agg [c], .c (.int .i64 ticks)]) (by simp only [w1, w2, ↓reduceIte, zA]) (sok_ok (hR.same hA hh) (by simp only [Mem.new_next]; omega) hl) ?_
 rintro v μ0 ⟨rfl, hs0⟩
 simp only [Mem.new_next] at hs0
 have lB : μ0.ld (some 1) μ.next 0 = some (.agg [c]) := (hs0.ld (by omega)).trans lA
 have hR0 : PlanR hi μ0 c p := (hR.same hA hh).same hs0 (by omega)
 have hnx : μ.next + 1 ≤ μ0.next := hs0.2
 simp only [w1, w2, ↓reduceIte, zA, zE, hn, lB]
 refine R_calls (l := [.agg [c], .c (.int .i64 ticks), .c (.int .i64 (-1))]) (by simp only [w1, w2, ↓reduceIte, zA, zE]) (goes_run hR0 (by omega) hg) ?_
 rintro v μ1 ⟨E, L, hlo, rfl, h, hs1⟩
 have hs := hs0.trans (hs1.mono hnx)
 have hm := h.mfacts
 simp only [w1, w2, ↓reduceIte, hm, aRet, aRes, aRes1]
 refine ⟨_, rfl, ⟨_, rfl, fun i => match S.rings[i]? with | some r => L.sc (.ring i) r.tasks.length | none => .slc none 0 0, ?_, ?_⟩, hA.trans (hs.mono (by omega))⟩
 ·have := h.has.rd (r := .rings) (sz := 2) (n := S.rings.length) (cs := cat (ringrow L) 0 S.rings) rfl (by rw [cat_length (ringrow_len L)]) (by omega)
  rw [cat_congr (g := fun i (r : PRing) => [Cell.int .i64 r.pos, match S.rings[i]? with | some r => L.sc (.ring i) r.tasks.length | none => .slc none 0 0]) (g' := ringrow L) fun j g hj => by
   simp only [Nat.zero_add, hj, ringrow]]
  exact this
 ·intro i r hr
  simp only [hr]
  refine h.has.rd (r := .ring i) (sz := 1) ?_ (by simp [cat_length irow_len]) (by omega)
  show (S.rings[i]?).map _ = _
  rw [hr]; rfl

end
end Go.Proofs.Ytibmnlijoeppaaa.X
namespace Go.Proofs.Ytibmnlijoeppaaa
open Nat renaming reduceEqDiff → zA, reduceAdd → zB, reduceLeDiff → zJ, reduceMul → zK
open Int renaming reduceLT → zC, reduceLE → zD, reduceNeg → zE, reduceBEq → zF, reduceBNe → zG
open AV renaming isTup → zH, cells → zI
set_option linter.unusedSimpArgs false
set_option linter.unusedVariables false

section
variable {E : IEnv} {L L' : Lay IR} {S S' : PM} {μ μ' : Mem}

theorem rings_h {hi : Nat} {c : Cell} {p : PPlan} {ticks : Int} (hR : PlanR hi μ c p) (hh : hi ≤ μ.next) (hl : Lens p) (hg : Goes p ticks none S) :
  Ret 28 [.agg [c], .c (.int .i64 ticks)] μ fun v μ' => (∃ L C, RingsH μ.next μ' L C S.rings ∧ v = .c (L.sc .rings S.rings.length)) ∧ Same μ.next μ μ' := by
 have hA : Same μ.next μ (μ.new [c] 0) := Same.tmp (Nat.le_refl _)
 have lA : (μ.new [c] 0).ld (some 1) μ.next 0 = some (.agg [c]) := by rw [Mem.new_ld, if_pos rfl]; rfl
 refine Ret_of p28 (by simp [r28]) ?_
 simp only [rI, r28, frOf_2]
 simp only [w1, w2, zH, zI, ↓reduceIte, zA, lA]
 refine R_calls (l := [.agg [c], .c (.int .i64 ticks), .c .nilfn]) (by simp only [w1, w2, ↓reduceIte, zA]) (drive_end (hR.same hA hh) (by simp only [Mem.new_next]; omega) hl hg) ?_
 rintro v μ1 ⟨E, L, hlo, rfl, h, hs⟩
 have hm := h.mfacts
 simp only [Mem.new_next] at hs hlo
 simp only [w1, w2, ↓reduceIte, zA, aeq, hm, aRet, aRes, aRes1]
 refine ⟨_, rfl, ⟨L, icon E L S.done, ⟨⟨h.has.inj, h.has.lt, fun r hr => by have := h.has.ge r hr; omega, h.has.obj⟩, rfl, fun i r hr => ?_⟩, rfl⟩, hA.trans (hs.mono (by omega))⟩
 have hlt := (List.getElem?_eq_some_iff.1 hr).1
 show (if i = S.rings.length then _ else _) = _
 rw [if_neg (by omega)]
 show (S.rings[i]?).map _ = _
 rw [hr]; rfl

theorem rings_no {hi : Nat} {c : Cell} {p : PPlan} {ticks : Int} (hR : PlanR hi μ c p) (hh : hi ≤ μ.next) (hl : Lens p) (hn : noRun p ticks) :
  Ret 28 [.agg [c], .c (.int .i64 ticks)] μ fun v μ' => (∃ L C, RingsH μ.next μ' L C [] ∧ v = .c (L.sc .rings 0)) ∧ Same μ.next μ μ' := by
 have hA : Same μ.next μ (μ.new [c] 0) := Same.tmp (Nat.le_refl _)
 have lA : (μ.new [c] 0).ld (some 1) μ.next 0 = some (.agg [c]) := by rw [Mem.new_ld, if_pos rfl]; rfl
 refine Ret_of p28 (by simp [r28]) ?_
 simp only [rI, r28, frOf_2]
 simp only [w1, w2, zH, zI, ↓reduceIte, zA, lA]
 refine R_calls (l := [.agg [c], .c (.int .i64 ticks), .c .nilfn]) (by simp only [w1, w2, ↓reduceIte, zA]) (drive_nil (hR.same hA hh) (by simp only [Mem.new_next]; omega) hl hn) ?_
 rintro v μ1 ⟨rfl, hs⟩
 simp only [Mem.new_next] at hs
 simp only [w1, w2, ↓reduceIte, aeq, Option.isNone_none, aRet, aRes, aRes1]
 refine ⟨_, rfl, ⟨L00, fun y => match y with | .rings => some (2, []) | _ => none, ⟨?_, rfl, fun i r hr => by simp at hr⟩, rfl⟩, hA.trans (hs.mono (by omega))⟩
 refine (Has.start (fun _ => rfl)).weaken' fun y sz cs hy => .inr ?_
 cases y <;> simp only [reduceCtorEq, Option.some.injEq, Prod.mk.injEq] at hy
 exact ⟨rfl, by omega, hy.2.symm⟩
end

theorem rgTot_le : ∀ {l : List PRing}, (∀ r ∈ l, r.tasks.length ≤ 61) → rgTot l ≤ l.length * 62
 | [], _ => by simp [rgTot]
 | r :: l, h => by
  have := h r (by simp)
  have := rgTot_le (l := l) fun x hx => h x (by simp [hx])
  simp only [rgTot, List.length_cons]; omega

/-- For each plan and number of ticks one list of rings, that both sides answer. -/
theorem ringsAll' (p : PPlan) (ticks : Int) (hl : Lens p) : ∃ l : List PRing, l.length ≤ 600000 ∧ rgTot l ≤ 60000000 ∧ (∀ r ∈ l, r.tasks.length ≤ 61) ∧
  (∀ {μ : Mem} {hi : Nat} {c : Cell}, PlanR hi μ c p → hi ≤ μ.next → Ret 28 [.agg [c], .c (.int .i64 ticks)] μ fun v μ' => (∃ L C, RingsH μ.next μ' L C l ∧ v = .c (L.sc .rings l.length)) ∧ Same μ.next μ μ') ∧
  (∀ {μ : Mem} {hi : Nat} {c : Cell}, PlanR hi μ c p → hi ≤ μ.next → Ret 43 [.agg [c], .c (.int .i64 ticks)] μ fun v μ' => (∃ x, v = .c x ∧ RingsV μ'.next μ' x l) ∧ Same μ.next μ μ') ∧
  ((X.runnable p ticks = false ∧ l = []) ∨ ∃ S m, X.runnable p ticks = true ∧ ((PM.fresh p ticks none).bind fun S => PM.runs p m S) = some S ∧ S.rings = l) := by
 by_cases hr : X.runnable p ticks = true
 ·have hr' := hr
  unfold X.runnable at hr'
  simp only [Bool.and_eq_true, decide_eq_true_eq] at hr'
  obtain ⟨⟨hok, ht0⟩, ht1⟩ := hr'
  obtain ⟨S, T, ⟨m, hm⟩, ⟨m', hm'⟩, hf⟩ := both_end hok ⟨ht0, ht1⟩
  have hv := hf.views
  have hlen : T.tasks.length = S.tasks.length := by have := congrArg List.length hv; simpa using this
  have hg : Goes p ticks none S := ⟨⟨m, hm⟩, ⟨ht0, ht1⟩, hok, by have := hf.few; unfold roomy; omega, hf.statesS⟩
  have hgX : X.Goes p ticks (-1) T := ⟨⟨m', hm'⟩, by have := hf.few; rw [hlen]; unfold roomy; omega, hf.statesT⟩
  have h61 : ∀ r ∈ S.rings, r.tasks.length ≤ 61 := fun r hr => by
   have := (run_grow hm).2 r hr
   have := hf.few
   omega
  refine ⟨S.rings, hf.room.2, ?_, h61, fun hR hh => rings_h hR hh hl hg, fun hR hh => ?_, .inr ⟨S, m, hr, hm, rfl⟩⟩
  ·have := rgTot_le h61
   have := hf.room.2
   omega
  ·rw [← hf.rings]
   exact X.rings_ok hR hh hl hr hgX
 ·have hr' : X.runnable p ticks = false := by simpa using hr
  have hn : noRun p ticks := by
   unfold X.runnable at hr
   simp only [Bool.and_eq_true, decide_eq_true_eq] at hr
   unfold noRun
   by_cases h1 : (okP p).1 = 0
   ·omega
   ·exact .inr (.inr h1)
  exact ⟨[], by simp, by simp [rgTot], by simp, fun hR hh => rings_no hR hh hl hn, fun hR hh => X.rings_no hR hh hl hr', .inl ⟨hr', rfl⟩⟩

theorem ringsAll (p : PPlan) (ticks : Int) (hl : Lens p) : ∃ l : List PRing, l.length ≤ 600000 ∧ rgTot l ≤ 60000000 ∧ (∀ r ∈ l, r.tasks.length ≤ 61) ∧
  (∀ {μ : Mem} {hi : Nat} {c : Cell}, PlanR hi μ c p → hi ≤ μ.next → Ret 28 [.agg [c], .c (.int .i64 ticks)] μ fun v μ' => (∃ L C, RingsH μ.next μ' L C l ∧ v = .c (L.sc .rings l.length)) ∧ Same μ.next μ μ') ∧
  (∀ {μ : Mem} {hi : Nat} {c : Cell}, PlanR hi μ c p → hi ≤ μ.next → Ret 43 [.agg [c], .c (.int .i64 ticks)] μ fun v μ' => (∃ x, v = .c x ∧ RingsV μ'.next μ' x l) ∧ Same μ.next μ μ') := by
 obtain ⟨l, a, b, c, d, e, _⟩ := ringsAll' p ticks hl
 exact ⟨l, a, b, c, d, e⟩
end Go.Proofs.Ytibmnlijoeppaaa
