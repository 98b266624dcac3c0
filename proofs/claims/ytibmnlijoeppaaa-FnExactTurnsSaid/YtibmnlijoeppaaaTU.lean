/-
 Turns, the program's and the reference's: both are one function of the records.
-/
import Derived.Test.YtibmnlijoeppaaaE3
import Derived.Test.YtibmnlijoeppaaaBoth
import Derived.Test.YtibmnlijoeppaaaXW8
import Derived.Test.YtibmnlijoeppaaaGrow
namespace Go.Proofs.Ytibmnlijoeppaaa
open Nat renaming reduceEqDiff → zA, reduceAdd → zB, reduceLeDiff → zJ, reduceMul → zK
open Int renaming reduceLT → zC, reduceLE → zD, reduceNeg → zE, reduceBEq → zF, reduceBNe → zG
open AV renaming isTup → zH, cells → zI
set_option linter.unusedSimpArgs false
set_option linter.unusedVariables false

/-! 34: impl.Turns -/
def b34_0 : RCode := (.seq (.reg [rI 0 (.bin .lss (.t 20) (.t 19)) 21]) (.seq (.ite (.t 21) .skip (.exit 0)) (.seq (.blk 1 (.seq (.reg [rI 0 (.mv (.t 20)) 22, rI 1 (.ias (.t 18) (.t 20) 4) 23, rI 2 (.ld (some 4) (.t 23)) 24, rI 3 (.alc [.int .i64 0, .int .i64 0, .int .i64 0, .int .i64 0]) 8, rI 4 (.mv (.t 22)) 7, ⟨5, .st (.t 8) (.t 24) 4, none, none, []⟩]) (.seq (.reg [rI 0 (.fa (.t 8) 0) 25, rI 1 (.ld none (.t 25)) 26, rI 2 (.bin .eql (.t 26) (.k (.int .i64 2))) 27]) (.ite (.t 27) (.seq (.reg [rI 0 (.mv (.t 6)) 28, rI 1 (.mv (.t 6)) 29, rI 2 (.len (.t 29)) 30, rI 3 (.bin .sub (.t 30) (.k (.int .i64 1))) 31, rI 4 (.mv (.t 7)) 32, rI 5 (.ias (.t 28) (.t 31) 4) 33, rI 6 (.fa (.t 33) 3) 34, ⟨7, .st (.t 34) (.t 32) 1, none, none, []⟩]) (.reg [rI 0 (.mv (.t 6)) 35, rI 1 (.fa (.t 8) 1) 36, rI 2 (.ld none (.t 36)) 37, rI 3 (.fa (.t 8) 2) 38, rI 4 (.ld none (.t 38)) 39, rI 5 (.mv (.t 7)) 40, rI 6 (.bld [.int .i64 0, .int .i64 0, .int .i64 0, .int .i64 0] [(0, 1, .t 37), (1, 1, .t 39), (2, 1, .t 40)]) 41, rI 7 (.bsl [.int .i64 0, .int .i64 0, .int .i64 0, .int .i64 0] 1 [(0, .t 41)]) 42, rI 8 (.app 4 32 (.t 35) (.t 42)) 43, rI 9 (.mv (.t 43)) 6])) .skip)))) (.reg [rI 0 (.bin .add (.t 20) (.k (.int .i64 1))) 44, rI 1 (.mv (.t 44)) 20]))))
def r34 : RFun := ⟨55, [.tmp 4], (.seq (.reg [rI 0 (.box (.t 0) 1) 2, rI 1 (.mv (.k (.slc none 0 0))) 4]) (.seq (.reg [rI 0 (.ld (some 1) (.t 2)) 9, rI 1 (.mv (.t 1)) 10, rI 2 (.call 26 [.t 9, .t 10]) 11, rI 3 (.alc [.int .i64 0, .slc none 0 0, .int .i64 0, .int .i64 0, .slc none 0 0]) 5, ⟨4, .st (.t 5) (.t 11) 5, none, none, []⟩]) (.seq (.seq (.reg [rI 0 (.fa (.t 5) 0) 12, rI 1 (.ld none (.t 12)) 13, rI 2 (.bin .eql (.t 13) (.k (.int .i64 3))) 14]) (.ite (.t 14) (.seq (.reg [rI 0 (.mv (.k (.slc none 0 0))) 4]) .ret) .skip)) (.seq (.reg [rI 0 (.bld [.int .i64 0, .int .i64 0, .int .i64 0, .int .i64 0] []) 15, rI 1 (.bsl [.int .i64 0, .int .i64 0, .int .i64 0, .int .i64 0] 1 [(0, .t 15)]) 16, rI 2 (.mv (.t 16)) 6]) (.seq (.seq (.reg [rI 0 (.fa (.t 5) 1) 17, rI 1 (.ld none (.t 17)) 18, rI 2 (.len (.t 18)) 19, rI 3 (.mv (.k (.int .i64 0))) 20]) (.blk 0 (.loop b34_0))) (.seq (.reg [rI 0 (.mv (.t 6)) 45, rI 1 (.mv (.t 6)) 46, rI 2 (.len (.t 46)) 47, rI 3 (.bin .sub (.t 47) (.k (.int .i64 1))) 48, rI 4 (.fa (.t 5) 1) 49, rI 5 (.ld none (.t 49)) 50, rI 6 (.len (.t 50)) 51, rI 7 (.ias (.t 45) (.t 48) 4) 52, rI 8 (.fa (.t 52) 3) 53, ⟨9, .st (.t 53) (.t 51) 1, none, none, []⟩]) (.seq (.reg [rI 0 (.mv (.t 6)) 54, rI 1 (.mv (.t 54)) 4]) .ret)))))))⟩
theorem p34 : prog 34 = some r34 := by kernel_rfl



inductive TRo where
 | out
 | now
 deriving DecidableEq

/-- Turns told from the records on, those before and the one that goes on; a turn is a row of four numbers: task, how, from, to. -/
def tgo : List PRec → Nat → List PRec → PRec → List PRec
 | [], i, d, x => d ++ [{ x with num := (i : Nat) }]
 | r :: rs, i, d, x => if r.kind = 2 then tgo rs (i + 1) (d ++ [{ x with num := (i : Nat) }]) ⟨r.task, r.how, (i : Nat), 0⟩ else tgo rs (i + 1) d x
def turnsP (l : List PRec) : List PRec := tgo l 0 [] ⟨0, 0, 0, 0⟩
theorem tgo_len : ∀ {l : List PRec} {i : Nat} {d : List PRec} {x : PRec}, (tgo l i d x).length ≤ d.length + l.length + 1
 | [], i, d, x => by simp [tgo]
 | r :: l, i, d, x => by
  unfold tgo
  split
  ·have := tgo_len (l := l) (i := i + 1) (d := d ++ [{ x with num := (i : Nat) }]) (x := ⟨r.task, r.how, (i : Nat), 0⟩)
   simp only [List.length_append, List.length_cons, List.length_nil] at this ⊢; omega
  ·have := tgo_len (l := l) (i := i + 1) (d := d) (x := x)
   simp only [List.length_cons]; omega

/-- Rows of four that lie above 'lo'. -/
def TurnsH (lo : Nat) (μ : Mem) (v : AV) (l : List PRec) : Prop := ∃ (L : Lay TRo) (C : Con TRo), Has L C lo μ ∧ C TRo.out = some (4, cat recrow 0 l) ∧ v = .c (L.sc TRo.out l.length)

section
variable {L : Lay TRo} {C : Con TRo} {lo : Nat} {μ μ0 : Mem}

/-- A row is put at the end. -/
theorem Has.pushRow' (h : Has L C lo μ) (hlo : lo ≤ μ.next) {l : List PRec} (e : C TRo.out = some (4, cat recrow 0 l)) (hl : l.length < 10000000) (x : PRec) :
  ∃ L' μ', aapp 4 32 (.c (L.sc TRo.out l.length)) (.c (.slc (some (μ.next, 0)) 1 1)) (μ.new (recrow 0 x) 4) = some (.c (L'.sc TRo.out (l.length + 1)), μ') ∧ Has L' (C.upd TRo.out (4, cat recrow 0 (l ++ [x]))) lo μ' ∧ Same lo μ μ' ∧ L'.on TRo.now = L.on TRo.now ∧
   (∀ b, b < μ.next → (L.on TRo.out = true → b ≠ L.id TRo.out) → μ'.obj b = μ.obj b) ∧ L'.id TRo.now = L.id TRo.now := by
 obtain ⟨L1, μ1, ea, hL1, hs1, hoth, hob, _⟩ := (h.tmp (cs := recrow 0 x) (sz := 4)).app (Nat.le_succ_of_le hlo) (r := TRo.out) (bytes := 32) (n := l.length) (k := 1) (c := 1)
  (b := some (μ.next, 0)) (new := recrow 0 x) e (by omega) (by rw [cat_length recrow_len]) (SlcVal.fresh rfl) ⟨by unfold most; omega, by unfold most; omega⟩ (.inl (Nat.le_refl _))
 refine ⟨L1, μ1, ea, ?_, (Same.tmp hlo).trans hs1, (hoth TRo.now (by simp)).2.1, fun b hb hf => ?_, (hoth TRo.now (by simp)).1⟩
 ·have : cat recrow 0 (l ++ [x]) = cat recrow 0 l ++ recrow 0 x := by rw [cat_append]; rfl
  rw [this]; exact hL1
 ·refine (hob b hf (Nat.lt_succ_of_lt hb)).trans ?_
  simp only [Mem.new]; rw [if_neg (by omega)]

theorem turnsLoop {recs : List PRec} {rc v5 : Cell} {hi : Nat} (hrd : Rd hi μ0 4 rc recs.length (cat recrow 0 recs)) (hh : hi ≤ lo) (hlo : lo ≤ μ0.next) (hlen : recs.length ≤ 600000) {T : List PRec} {s : List It} {Q : Fr → Mem → Prop} :
  ∀ (k i : Nat) (d : List PRec) (x : PRec) (L : Lay TRo) (C : Con TRo) (fr : Fr) (μ : Mem), i + k = recs.length → Has L C lo μ → C TRo.out = some (4, cat recrow 0 (d ++ [x])) → d.length ≤ i → Same lo μ0 μ → tgo (recs.drop i) i d x = T →
   fr 6 = .c (L.sc TRo.out (d.length + 1)) → fr 18 = .c rc → fr 19 = .c (.int .i64 recs.length) → fr 20 = .c (.int .i64 i) → fr 5 = .c v5 →
   (∀ fr' L' C' μ' d' x', Has L' C' lo μ' → C' TRo.out = some (4, cat recrow 0 (d' ++ [x'])) → d'.length ≤ recs.length → Same lo μ0 μ' → d' ++ [{ x' with num := (recs.length : Nat) }] = T → fr' 6 = .c (L'.sc TRo.out (d'.length + 1)) → fr' 5 = .c v5 → R s fr' μ' Q) →
   R (.c (.loop b34_0) :: .blk 0 :: s) fr μ Q := by
 intro k
 induction k with
 | zero =>
  intro i d x L C fr μ hk h e hd hs ht f6 f18 f19 f20 f5 hend
  obtain rfl : i = recs.length := by omega
  rw [List.drop_length] at ht
  rw [R_loop]
  simp only [rI, b34_0]
  simp only [w1, w2, ↓reduceIte, f19, f20]
  rw [decide_eq_false (by omega)]
  simp only [w1]
  rw [R_exit rfl]
  exact hend _ L C μ d x h e hd hs ht (by simp only [w1, ↓reduceIte, zA, f6]) (by simp only [w1, ↓reduceIte, zA, f5])
 | succ k ih =>
  intro i d x L C fr μ hk h e hd hs ht f6 f18 f19 f20 f5 hend
  have hi : i < recs.length := by omega
  have hget : recs[i]? = some recs[i] := List.getElem?_eq_getElem hi
  rw [List.drop_eq_getElem_cons hi, tgo] at ht
  generalize recs[i] = r at hget ht
  obtain ⟨b, o, e1, _, e3, _⟩ := (hrd.same hs hh).row recrow_len (by omega) hget
  obtain ⟨ra, rcap, hrc⟩ := hrd.slc
  have hdl : (d ++ [x]).length = d.length + 1 := by simp
  have hclen : (cat recrow 0 (d ++ [x])).length = (d.length + 1) * 4 := by rw [cat_length recrow_len, hdl]
  obtain ⟨a, cc, hsc⟩ := h.scf e (n := d.length + 1) hclen (by omega)
  have hlo1 : lo ≤ μ.next := Nat.le_trans hlo hs.2
  have e4 : (recrow i r).length = 4 := rfl
  have hx : Has L C lo (μ.new (recrow i r) 0) := h.tmp
  have hsx : Same lo μ0 (μ.new (recrow i r) 0) := hs.trans (Same.tmp hlo1)
  have l0 : (μ.new (recrow i r) 0).ld none μ.next 0 = some (.c (.int .i64 r.kind)) := new_ld0 rfl
  have l1 : (μ.new (recrow i r) 0).ld none μ.next 1 = some (.c (.int .i64 r.task)) := new_ld0 rfl
  have l2 : (μ.new (recrow i r) 0).ld none μ.next 2 = some (.c (.int .i64 r.how)) := new_ld0 rfl
  have hnx : (μ.new (recrow i r) 0).next = μ.next + 1 := by simp only [Mem.new_next]
  rw [hrc] at f18 e1
  rw [R_loop]
  simp only [rI, b34_0]
  simp only [w1, w2, ↓reduceIte, f19, f20]
  rw [decide_eq_true (by omega)]
  simp only [w1, w2, zH, zI, ↓reduceIte, zA, f18, f20, e1, e3, e4, new_st0 (μ := μ) (cs := [.int .i64 0, .int .i64 0, .int .i64 0, .int .i64 0]) (x := recrow i r) (e := 0) rfl, l0]
  generalize μ.new (recrow i r) 0 = μ1 at *
  by_cases h2 : r.kind = 2
  ·rw [if_pos h2] at ht
   have hslot := hx.slot e hclen (by omega) (j := d.length) (by omega)
   obtain ⟨μ2, s2, g2, o2⟩ := hx.put1 recrow_len e (j := d.length) (k := 3) (a := x) (a' := { x with num := (i : Nat) }) (x := .int .i64 i) (by rw [List.getElem?_append_right (Nat.le_refl _), Nat.sub_self]; rfl) (by omega) rfl
   have hset : (d ++ [x]).set d.length { x with num := (i : Nat) } = d ++ [{ x with num := (i : Nat) }] := by
    rw [List.set_append_right _ _ (Nat.le_refl _), Nat.sub_self]; rfl
   rw [hset] at g2
   have hob : μ2.obj μ.next = μ1.obj μ.next := o2.2 _ fun hon hh => by have := h.lt _ hon; omega
   have l1' : μ2.ld none μ.next 1 = some (.c (.int .i64 r.task)) := by rw [← l1]; simp only [Mem.ld, hob]
   have l2' : μ2.ld none μ.next 2 = some (.c (.int .i64 r.how)) := by rw [← l2]; simp only [Mem.ld, hob]
   have n2 : μ2.next = μ1.next := o2.1
   obtain ⟨L3, μ3, s3, g3, hs3, _⟩ := g2.pushRow' (by omega) (l := d ++ [{ x with num := (i : Nat) }]) (by simp only [Con.upd, if_true]) (by simp; omega) ⟨r.task, r.how, (i : Nat), 0⟩
   have hdl' : (d ++ [({ x with num := (i : Nat) } : PRec)]).length = d.length + 1 := by simp
   rw [hdl', hsc, n2] at s3
   simp only [recrow] at s3
   rw [hsc] at hslot f6
   have q1 : IntKind.i64.wrap (((d.length + 1 : Nat) : Int) - 1) = (d.length : Int) := by rw [small (by omega)]; omega
   have hs2 : Same lo μ1 μ2 := ⟨fun b hb => o2.2 b fun hon hh => by have := h.ge _ hon; omega, by omega⟩
   simp only [w1, w2, zH, zI, ↓reduceIte, zA, zB, beq_tt h2, f6, q1, hslot, s2, l1', l2', m2, fillc, wr, rep, zJ, zB, zK, List.append_nil, n2, s3, f20]
   rw [small (by omega), R_lp]
   refine ih (i + 1) (d ++ [{ x with num := (i : Nat) }]) ⟨r.task, r.how, (i : Nat), 0⟩ L3 _ _ μ3 (by omega) g3 (by simp only [Con.upd, if_true]) (by simp; omega) (hsx.trans (hs2.trans hs3)) ht ?_ ?_ ?_ ?_ ?_ hend
   ·simp only [w1, ↓reduceIte, zA, hdl']
   ·simp only [w1, ↓reduceIte, zA, f18, hrc]
   ·simp only [w1, ↓reduceIte, zA, f19]
   ·simp only [w1, ↓reduceIte]; rfl
   ·simp only [w1, ↓reduceIte, zA, f5]
  ·rw [if_neg h2] at ht
   simp only [w1, w2, ↓reduceIte, zA, beq_ff h2, f20]
   rw [small (by omega), R_lp]
   refine ih (i + 1) d x L C _ μ1 (by omega) hx e (by omega) hsx ht ?_ ?_ ?_ ?_ ?_ hend
   ·simp only [w1, ↓reduceIte, zA, f6]
   ·simp only [w1, ↓reduceIte, zA, f18, hrc]
   ·simp only [w1, ↓reduceIte, zA, f19]
   ·simp only [w1, ↓reduceIte]; rfl
   ·simp only [w1, ↓reduceIte, zA, f5]

theorem turns_h {hi : Nat} {c : Cell} {p : PPlan} {ticks : Int} {r : PReport} (hR : PlanR hi μ c p) (hh : hi ≤ μ.next) (hrl : r.recs.length ≤ 600000) (hc : r.code ≠ 3)
  (himpl : ∀ {μ : Mem} {hi : Nat} {c : Cell}, PlanR hi μ c p → hi ≤ μ.next → Ret 26 [.agg [c], .c (.int .i64 ticks)] μ fun v μ' => (∃ L C, RepH μ.next μ' L C v r) ∧ Same μ.next μ μ') :
  Ret 34 [.agg [c], .c (.int .i64 ticks)] μ fun v μ' => TurnsH μ.next μ' v (turnsP r.recs) ∧ Same μ.next μ μ' := by
 have hA : Same μ.next μ (μ.new [c] 0) := Same.tmp (Nat.le_refl _)
 have lA : (μ.new [c] 0).ld (some 1) μ.next 0 = some (.agg [c]) := by rw [Mem.new_ld, if_pos rfl]; rfl
 refine Ret_of p34 (by simp [r34]) ?_
 simp only [rI, r34, frOf_2]
 simp only [w1, w2, zH, zI, ↓reduceIte, zA, lA]
 refine R_calls (l := [.agg [c], .c (.int .i64 ticks)]) (by simp only [w1, w2, ↓reduceIte, zA]) (himpl (hR.same hA hh) (by simp only [Mem.new_next]; omega)) ?_
 rintro v μ1 ⟨⟨Lr, Cr, hr⟩, hs⟩
 have hv := hr.v
 obtain ⟨rc, sc, rfl, v1, v2⟩ := hv
 simp only [Mem.new_next] at hs
 have hs1 : Same μ.next μ μ1 := hA.trans (hs.mono (by omega))
 have e5 : ([.int .i64 r.code, rc, .int .i64 r.num, .int .i64 r.ticks, sc] : List Cell).length = 5 := rfl
 have lc : (μ1.new [.int .i64 r.code, rc, .int .i64 r.num, .int .i64 r.ticks, sc] 0).ld none μ1.next 0 = some (.c (.int .i64 r.code)) := new_ld0 rfl
 have lr : (μ1.new [.int .i64 r.code, rc, .int .i64 r.num, .int .i64 r.ticks, sc] 0).ld none μ1.next 1 = some (.c rc) := new_ld0 rfl
 have hs2 : Same μ1.next μ1 (μ1.new [.int .i64 r.code, rc, .int .i64 r.num, .int .i64 r.ticks, sc] 0) := Same.tmp (Nat.le_refl _)
 have n2 : (μ1.new [.int .i64 r.code, rc, .int .i64 r.num, .int .i64 r.ticks, sc] 0).next = μ1.next + 1 := by simp only [Mem.new_next]
 simp only [w1, w2, zH, zI, ↓reduceIte, zA, e5, new_st0 (μ := μ1) (cs := [.int .i64 0, .slc none 0 0, .int .i64 0, .int .i64 0, .slc none 0 0]) (x := [.int .i64 r.code, rc, .int .i64 r.num, .int .i64 r.ticks, sc]) (e := 0) rfl, lc]
 generalize μ1.new [.int .i64 r.code, rc, .int .i64 r.num, .int .i64 r.ticks, sc] 0 = μ2 at *
 obtain ⟨ra, rcap, hrc⟩ := v1.slc
 have hst : Has (Lay.put ⟨fun _ => 0, fun _ => false, fun _ => 0⟩ TRo.out μ2.next 1) (Con.upd (fun _ => none) TRo.out (4, cat recrow 0 [⟨0, 0, 0, 0⟩])) μ2.next (μ2.new [.int .i64 0, .int .i64 0, .int .i64 0, .int .i64 0] 4) :=
  (Has.start (fun _ => rfl)).new (Nat.le_refl _) (by rw [if_neg (by decide)]; rfl)
 have hs3 : Same μ2.next μ2 (μ2.new [.int .i64 0, .int .i64 0, .int .i64 0, .int .i64 0] 4) := Same.tmp (Nat.le_refl _)
 have n3 : (μ2.new [.int .i64 0, .int .i64 0, .int .i64 0, .int .i64 0] 4).next = μ2.next + 1 := by simp only [Mem.new_next]
 have lr3 := (hs3.ld (n := none) (i := μ1.next) (o := 1) (by omega)).trans lr
 simp only [w1, w2, zH, zI, ↓reduceIte, zA, zB, beq_ff hc, m2, fillc, wr, rep, zJ, zB, zK, List.append_nil, lr3, hrc]
 generalize μ2.new [.int .i64 0, .int .i64 0, .int .i64 0, .int .i64 0] 4 = μ3 at *
 refine turnsLoop (lo := μ2.next) (μ0 := μ3) (T := turnsP r.recs) (v5 := .ptr (some (μ1.next, 0))) ((v1.same hs2 (Nat.le_refl _)).same hs3 (by omega)) (by omega) (by omega) hrl r.recs.length 0 [] ⟨0, 0, 0, 0⟩ _ _ _ μ3 (by omega) hst (by simp only [Con.upd, if_true]; rfl) (by simp) Same.refl rfl ?_ ?_ ?_ ?_ ?_ ?_
 ·simp only [w1, w2, ↓reduceIte, zA]; rfl
 ·simp only [w1, ↓reduceIte, zA, hrc]
 ·simp only [w1, ↓reduceIte, zA]
 ·simp only [w1, ↓reduceIte]; rfl
 ·simp only [w1, ↓reduceIte, zA]
 ·intro fr' L' C' μ4 d x h4 e4 hd hs4 ht f6 f5
  have hdl : (d ++ [x]).length = d.length + 1 := by simp
  have hclen : (cat recrow 0 (d ++ [x])).length = (d.length + 1) * 4 := by rw [cat_length recrow_len, hdl]
  obtain ⟨a, cc, hsc⟩ := h4.scf e4 (n := d.length + 1) hclen (by omega)
  have hslot := h4.slot e4 hclen (by omega) (j := d.length) (by omega)
  have lr4 := (hs4.ld (n := none) (i := μ1.next) (o := 1) (by omega)).trans lr3
  obtain ⟨μ5, s5, g5, o5⟩ := h4.put1 recrow_len e4 (j := d.length) (k := 3) (a := x) (a' := { x with num := (r.recs.length : Nat) }) (x := .int .i64 r.recs.length) (by rw [List.getElem?_append_right (Nat.le_refl _), Nat.sub_self]; rfl) (by omega) rfl
  have hset : (d ++ [x]).set d.length { x with num := (r.recs.length : Nat) } = turnsP r.recs := by
   rw [List.set_append_right _ _ (Nat.le_refl _), Nat.sub_self, ← ht]; rfl
  rw [hset] at g5
  rw [hsc] at hslot f6
  have q1 : IntKind.i64.wrap (((d.length + 1 : Nat) : Int) - 1) = (d.length : Int) := by rw [small (by omega)]; omega
  have hs5 : Same μ2.next μ4 μ5 := ⟨fun b hb => o5.2 b fun hon hh => by have := h4.ge _ hon; omega, by have := o5.1; omega⟩
  rw [hrc] at lr4
  simp only [w1, w2, zH, zI, ↓reduceIte, zA, f6, f5, q1, hslot, lr4, s5, aRet, aRes, aRes1]
  have hlen : (turnsP r.recs).length = d.length + 1 := by rw [← ht]; simp
  have hs1n := hs1.2
  refine ⟨_, rfl, ⟨L', _, ⟨g5.inj, g5.lt, fun r hr => by have := g5.ge r hr; omega, g5.obj⟩, by simp only [Con.upd, if_true], by rw [hlen, hsc]⟩, ?_⟩
  exact hs1.trans ((hs2.mono (by omega)).trans ((hs3.mono (by omega)).trans ((hs4.mono (by omega)).trans (hs5.mono (by omega)))))

theorem turnsH_nil {lo : Nat} : TurnsH lo μ (.c (.slc none 0 0)) [] := by
 refine ⟨⟨fun _ => 0, fun _ => false, fun _ => 0⟩, fun y => match y with | TRo.out => some (4, []) | _ => none, ?_, rfl, rfl⟩
 refine (Has.start (fun _ => rfl)).weaken' fun y sz cs hy => .inr ?_
 cases y <;> simp only [reduceCtorEq, Option.some.injEq, Prod.mk.injEq] at hy
 exact ⟨rfl, by omega, hy.2.symm⟩

theorem turns_no {hi : Nat} {c : Cell} {p : PPlan} {ticks : Int} {r : PReport} (hR : PlanR hi μ c p) (hh : hi ≤ μ.next) (hc : r.code = 3)
  (himpl : ∀ {μ : Mem} {hi : Nat} {c : Cell}, PlanR hi μ c p → hi ≤ μ.next → Ret 26 [.agg [c], .c (.int .i64 ticks)] μ fun v μ' => (∃ L C, RepH μ.next μ' L C v r) ∧ Same μ.next μ μ') :
  Ret 34 [.agg [c], .c (.int .i64 ticks)] μ fun v μ' => TurnsH μ.next μ' v [] ∧ Same μ.next μ μ' := by
 have hA : Same μ.next μ (μ.new [c] 0) := Same.tmp (Nat.le_refl _)
 have lA : (μ.new [c] 0).ld (some 1) μ.next 0 = some (.agg [c]) := by rw [Mem.new_ld, if_pos rfl]; rfl
 refine Ret_of p34 (by simp [r34]) ?_
 simp only [rI, r34, frOf_2]
 simp only [w1, w2, zH, zI, ↓reduceIte, zA, lA]
 refine R_calls (l := [.agg [c], .c (.int .i64 ticks)]) (by simp only [w1, w2, ↓reduceIte, zA]) (himpl (hR.same hA hh) (by simp only [Mem.new_next]; omega)) ?_
 rintro v μ1 ⟨⟨Lr, Cr, hr⟩, hs⟩
 have hv := hr.v
 obtain ⟨rc, sc, rfl, v1, v2⟩ := hv
 simp only [Mem.new_next] at hs
 have hs1 : Same μ.next μ μ1 := hA.trans (hs.mono (by omega))
 have e5 : ([.int .i64 r.code, rc, .int .i64 r.num, .int .i64 r.ticks, sc] : List Cell).length = 5 := rfl
 have lc : (μ1.new [.int .i64 r.code, rc, .int .i64 r.num, .int .i64 r.ticks, sc] 0).ld none μ1.next 0 = some (.c (.int .i64 r.code)) := new_ld0 rfl
 have hs2 : Same μ1.next μ1 (μ1.new [.int .i64 r.code, rc, .int .i64 r.num, .int .i64 r.ticks, sc] 0) := Same.tmp (Nat.le_refl _)
 simp only [w1, w2, zH, zI, ↓reduceIte, zA, e5, new_st0 (μ := μ1) (cs := [.int .i64 0, .slc none 0 0, .int .i64 0, .int .i64 0, .slc none 0 0]) (x := [.int .i64 r.code, rc, .int .i64 r.num, .int .i64 r.ticks, sc]) (e := 0) rfl, lc, beq_tt hc, aRet, aRes, aRes1]
 have hs1n := hs1.2
 exact ⟨_, rfl, turnsH_nil, hs1.trans (hs2.mono hs1n)⟩
end
end Go.Proofs.Ytibmnlijoeppaaa
namespace Go.Proofs.Ytibmnlijoeppaaa.X
open Nat renaming reduceEqDiff → zA, reduceAdd → zB, reduceLeDiff → zJ, reduceMul → zK
open Int renaming reduceLT → zC, reduceLE → zD, reduceNeg → zE, reduceBEq → zF, reduceBNe → zG
open AV renaming isTup → zH, cells → zI
set_option linter.unusedSimpArgs false
set_option linter.unusedVariables false

/-! 35: spec.Turns -/
def b35_0 : RCode := (.seq (.reg [rI 0 (.bin .lss (.t 24) (.t 23)) 25]) (.seq (.ite (.t 25) .skip (.exit 0)) (.seq (.blk 1 (.seq (.reg [rI 0 (.mv (.t 24)) 26, rI 1 (.ias (.t 22) (.t 24) 4) 27, rI 2 (.ld (some 4) (.t 27)) 28, rI 3 (.alc [.int .i64 0, .int .i64 0, .int .i64 0, .int .i64 0]) 9, rI 4 (.mv (.t 26)) 8, ⟨5, .st (.t 9) (.t 28) 4, none, none, []⟩]) (.seq (.reg [rI 0 (.fa (.t 9) 0) 29, rI 1 (.ld none (.t 29)) 30, rI 2 (.bin .eql (.t 30) (.k (.int .i64 2))) 31]) (.ite (.t 31) (.seq (.reg [rI 0 (.mv (.t 8)) 32, rI 1 (.fa (.t 7) 3) 33, ⟨2, .st (.t 33) (.t 32) 1, none, none, []⟩]) (.seq (.reg [rI 0 (.mv (.t 6)) 34, rI 1 (.ld (some 4) (.t 7)) 35, rI 2 (.bsl [.int .i64 0, .int .i64 0, .int .i64 0, .int .i64 0] 1 [(0, .t 35)]) 36, rI 3 (.app 4 32 (.t 34) (.t 36)) 37, rI 4 (.mv (.t 37)) 6]) (.reg [rI 0 (.fa (.t 9) 1) 38, rI 1 (.ld none (.t 38)) 39, rI 2 (.fa (.t 9) 2) 40, rI 3 (.ld none (.t 40)) 41, rI 4 (.mv (.t 8)) 42, rI 5 (.bld [.int .i64 0, .int .i64 0, .int .i64 0, .int .i64 0] [(0, 1, .t 39), (1, 1, .t 41), (2, 1, .t 42)]) 43, ⟨6, .st (.t 7) (.t 43) 4, none, none, []⟩]))) .skip)))) (.reg [rI 0 (.bin .add (.t 24) (.k (.int .i64 1))) 44, rI 1 (.mv (.t 44)) 24]))))
def r35 : RFun := ⟨56, [.tmp 4], (.seq (.reg [rI 0 (.box (.t 0) 1) 2, rI 1 (.mv (.k (.slc none 0 0))) 4]) (.seq (.seq (.reg [rI 0 (.ld (some 1) (.t 2)) 10, rI 1 (.mv (.t 1)) 11, rI 2 (.call 69 [.t 10, .t 11]) 12, rI 3 (.nt (.t 12)) 13]) (.ite (.t 13) (.seq (.reg [rI 0 (.mv (.k (.slc none 0 0))) 4]) .ret) .skip)) (.seq (.reg [rI 0 (.ld (some 1) (.t 2)) 14, rI 1 (.mv (.t 1)) 15, rI 2 (.call 70 [.t 14, .t 15, .k (.int .i64 (-1))]) 16, rI 3 (.mv (.t 16)) 5]) (.seq (.reg [rI 0 (.mv (.k (.slc none 0 0))) 6]) (.seq (.reg [rI 0 (.bld [.int .i64 0, .int .i64 0, .int .i64 0, .int .i64 0] []) 17, rI 1 (.alc [.int .i64 0, .int .i64 0, .int .i64 0, .int .i64 0]) 7, ⟨2, .st (.t 7) (.t 17) 4, none, none, []⟩]) (.seq (.seq (.reg [rI 0 (.mv (.t 5)) 18, rI 1 (.nc (.t 18)) 19, rI 2 (.fa (.t 19) 5) 20, rI 3 (.fa (.t 20) 1) 21, rI 4 (.ld none (.t 21)) 22, rI 5 (.len (.t 22)) 23, rI 6 (.mv (.k (.int .i64 0))) 24]) (.blk 0 (.loop b35_0))) (.seq (.reg [rI 0 (.mv (.t 5)) 45, rI 1 (.nc (.t 45)) 46, rI 2 (.fa (.t 46) 5) 47, rI 3 (.fa (.t 47) 1) 48, rI 4 (.ld none (.t 48)) 49, rI 5 (.len (.t 49)) 50, rI 6 (.fa (.t 7) 3) 51, ⟨7, .st (.t 51) (.t 50) 1, none, none, []⟩]) (.seq (.reg [rI 0 (.mv (.t 6)) 52, rI 1 (.ld (some 4) (.t 7)) 53, rI 2 (.bsl [.int .i64 0, .int .i64 0, .int .i64 0, .int .i64 0] 1 [(0, .t 53)]) 54, rI 3 (.app 4 32 (.t 52) (.t 54)) 55, rI 4 (.mv (.t 55)) 4]) .ret))))))))⟩
theorem p35 : prog 35 = some r35 := by kernel_rfl



section
variable {L : Lay TRo} {C : Con TRo} {lo : Nat} {μ μ0 : Mem} {S : PM}

theorem turnsLoop {recs : List PRec} {rc v5 : Cell} {hi : Nat} (hrd : Rd hi μ0 4 rc recs.length (cat recrow 0 recs)) (hh : hi ≤ lo) (hlo : lo ≤ μ0.next) (hlen : recs.length ≤ 600000) {T : List PRec} {s : List It} {Q : Fr → Mem → Prop} :
  ∀ (k i : Nat) (d : List PRec) (x : PRec) (L : Lay TRo) (C : Con TRo) (fr : Fr) (μ : Mem), i + k = recs.length → Has L C lo μ → C TRo.out = some (4, cat recrow 0 d) → C TRo.now = some (0, recrow 0 x) → d.length ≤ i → Same lo μ0 μ → tgo (recs.drop i) i d x = T →
   fr 6 = .c (L.sc TRo.out d.length) → fr 7 = pt (L.id TRo.now) 0 → fr 22 = .c rc → fr 23 = .c (.int .i64 recs.length) → fr 24 = .c (.int .i64 i) → fr 5 = .c v5 →
   (∀ fr' L' C' μ' d' x', Has L' C' lo μ' → C' TRo.out = some (4, cat recrow 0 d') → C' TRo.now = some (0, recrow 0 x') → d'.length ≤ recs.length → Same lo μ0 μ' → d' ++ [{ x' with num := (recs.length : Nat) }] = T → fr' 6 = .c (L'.sc TRo.out d'.length) → fr' 7 = pt (L'.id TRo.now) 0 → fr' 5 = .c v5 → R s fr' μ' Q) →
   R (.c (.loop b35_0) :: .blk 0 :: s) fr μ Q := by
 intro k
 induction k with
 | zero =>
  intro i d x L C fr μ hk h e en hd hs ht f6 f7 f22 f23 f24 f5 hend
  obtain rfl : i = recs.length := by omega
  rw [List.drop_length] at ht
  rw [R_loop]
  simp only [rI, b35_0]
  simp only [w1, w2, ↓reduceIte, f23, f24]
  rw [decide_eq_false (by omega)]
  simp only [w1]
  rw [R_exit rfl]
  exact hend _ L C μ d x h e en hd hs ht (by simp only [w1, ↓reduceIte, zA, f6]) (by simp only [w1, ↓reduceIte, zA, f7]) (by simp only [w1, ↓reduceIte, zA, f5])
 | succ k ih =>
  intro i d x L C fr μ hk h e en hd hs ht f6 f7 f22 f23 f24 f5 hend
  have hi : i < recs.length := by omega
  have hget : recs[i]? = some recs[i] := List.getElem?_eq_getElem hi
  rw [List.drop_eq_getElem_cons hi, tgo] at ht
  generalize recs[i] = r at hget ht
  obtain ⟨b, o, e1, _, e3, _⟩ := (hrd.same hs hh).row recrow_len (by omega) hget
  obtain ⟨ra, rcap, hrc⟩ := hrd.slc
  have hlo1 : lo ≤ μ.next := Nat.le_trans hlo hs.2
  have e4 : (recrow i r).length = 4 := rfl
  have hx : Has L C lo (μ.new (recrow i r) 0) := h.tmp
  have hsx : Same lo μ0 (μ.new (recrow i r) 0) := hs.trans (Same.tmp hlo1)
  have l0 : (μ.new (recrow i r) 0).ld none μ.next 0 = some (.c (.int .i64 r.kind)) := new_ld0 rfl
  have l1 : (μ.new (recrow i r) 0).ld none μ.next 1 = some (.c (.int .i64 r.task)) := new_ld0 rfl
  have l2 : (μ.new (recrow i r) 0).ld none μ.next 2 = some (.c (.int .i64 r.how)) := new_ld0 rfl
  have hnx : (μ.new (recrow i r) 0).next = μ.next + 1 := by simp only [Mem.new_next]
  rw [hrc] at f22 e1
  rw [R_loop]
  simp only [rI, b35_0]
  simp only [w1, w2, ↓reduceIte, f23, f24]
  rw [decide_eq_true (by omega)]
  simp only [w1, w2, zH, zI, ↓reduceIte, zA, f22, f24, e1, e3, e4, new_st0 (μ := μ) (cs := [.int .i64 0, .int .i64 0, .int .i64 0, .int .i64 0]) (x := recrow i r) (e := 0) rfl, l0]
  generalize μ.new (recrow i r) 0 = μ1 at *
  by_cases h2 : r.kind = 2
  ·rw [if_pos h2] at ht
   obtain ⟨μ2, s2, g2, hs2, n2, o2⟩ := hx.st en (o := 3) (new := [.int .i64 i]) (.inl rfl) (by simp [recrow])
   have e5 : wr (recrow 0 x) 3 [.int .i64 i] = recrow 0 { x with num := (i : Nat) } := rfl
   rw [e5] at g2
   have hon : L.on TRo.now = true := hx.on en (.inl rfl)
   have hne : μ.next ≠ L.id TRo.now := fun hh => by have := h.lt _ hon; omega
   have hob : μ2.obj μ.next = μ1.obj μ.next := o2 _ hne
   have l1' : μ2.ld none μ.next 1 = some (.c (.int .i64 r.task)) := by rw [← l1]; simp only [Mem.ld, hob]
   have l2' : μ2.ld none μ.next 2 = some (.c (.int .i64 r.how)) := by rw [← l2]; simp only [Mem.ld, hob]
   have ln : μ2.ld (some 4) (L.id TRo.now) 0 = some (.agg (recrow 0 { x with num := (i : Nat) })) := g2.ldn (r := TRo.now) (by simp only [Con.upd, if_true]; rfl) rfl (.inl rfl)
   have hid : L.on TRo.out = true → L.id TRo.out ≠ μ.next := fun ho hh => by have := h.lt _ ho; omega
   obtain ⟨L3, μ3, s3, g3, hs3, hkeep, hoth, hid3⟩ := g2.pushRow' (by omega) (l := d) (by simp only [Con.upd]; rw [if_neg (by intro hh; cases hh)]; exact e) (by omega) { x with num := (i : Nat) }
   have hob3 : μ3.obj μ.next = μ2.obj μ.next := hoth _ (by omega) fun ho hh => hid ho hh.symm
   have l1'' : μ3.ld none μ.next 1 = some (.c (.int .i64 r.task)) := by rw [← l1']; simp only [Mem.ld, hob3]
   have l2'' : μ3.ld none μ.next 2 = some (.c (.int .i64 r.how)) := by rw [← l2']; simp only [Mem.ld, hob3]
   obtain ⟨μ4, s4, g4, hs4, n4, o4⟩ := g3.st (r := TRo.now) (by simp only [Con.upd]; rw [if_neg (by intro hh; cases hh), if_pos trivial]) (o := 0) (new := [.int .i64 r.task, .int .i64 r.how, .int .i64 i, .int .i64 0]) (.inl rfl) (by simp [recrow])
   have e6 : wr (recrow 0 { x with num := (i : Nat) }) 0 [.int .i64 r.task, .int .i64 r.how, .int .i64 i, .int .i64 0] = recrow 0 ⟨r.task, r.how, (i : Nat), 0⟩ := rfl
   rw [e6] at g4
   rw [n2, hnx] at s3
   rw [hid3] at s4
   simp only [recrow] at s3 ln
   simp only [w1, w2, zH, zI, ↓reduceIte, zA, zB, beq_tt h2, f24, f7, s2, ln, m2, fillc, wr, rep, zJ, zB, zK, List.append_nil, n2, hnx, f6, s3, l1'', l2'', s4]
   rw [small (by omega), R_lp]
   refine ih (i + 1) (d ++ [{ x with num := (i : Nat) }]) ⟨r.task, r.how, (i : Nat), 0⟩ L3 _ _ μ4 (by omega) g4 ?_ (by simp only [Con.upd, if_true]) (by simp; omega) (hsx.trans (hs2.trans (hs3.trans hs4))) ht ?_ ?_ ?_ ?_ ?_ ?_ hend
   ·simp only [Con.upd]; rw [if_neg (by intro hh; cases hh), if_pos trivial]
   ·simp only [w1, w2, ↓reduceIte, zA, List.length_append]
   ·simp only [w1, ↓reduceIte, zA, hid3, f7]
   ·simp only [w1, ↓reduceIte, zA, f22, hrc]
   ·simp only [w1, ↓reduceIte, zA, f23]
   ·simp only [w1, ↓reduceIte]; rfl
   ·simp only [w1, ↓reduceIte, zA, f5]
  ·rw [if_neg h2] at ht
   simp only [w1, w2, ↓reduceIte, zA, beq_ff h2, f24]
   rw [small (by omega), R_lp]
   refine ih (i + 1) d x L C _ μ1 (by omega) hx e en (by omega) hsx ht ?_ ?_ ?_ ?_ ?_ ?_ hend
   ·simp only [w1, ↓reduceIte, zA, f6]
   ·simp only [w1, ↓reduceIte, zA, f7]
   ·simp only [w1, ↓reduceIte, zA, f22, hrc]
   ·simp only [w1, ↓reduceIte, zA, f23]
   ·simp only [w1, ↓reduceIte]; rfl
   ·simp only [w1, ↓reduceIte, zA, f5]

theorem turns_ok {hi : Nat} {c : Cell} {p : PPlan} {ticks : Int} (hR : PlanR hi μ c p) (hh : hi ≤ μ.next) (hl : Lens p) (hn : runnable p ticks = true) (hg : Goes p ticks (-1) S) (hrl : S.recs.length ≤ 600000) :
  Ret 35 [.agg [c], .c (.int .i64 ticks)] μ fun v μ' => TurnsH μ.next μ' v (turnsP S.recs) ∧ Same μ.next μ μ' := by
 have hA : Same μ.next μ (μ.new [c] 0) := Same.tmp (Nat.le_refl _)
 have lA : (μ.new [c] 0).ld (some 1) μ.next 0 = some (.agg [c]) := by rw [Mem.new_ld, if_pos rfl]; rfl
 refine Ret_of p35 (by simp [r35]) ?_
 simp only [rI, r35, frOf_2]
 simp only [w1, w2, zH, zI, ↓reduceIte, zA, zE, lA]
 refine R_calls (l := [.agg [c], .c (.int .i64 ticks)]) (by simp only [w1, w2, ↓reduceIte, zA]) (sok_ok (hR.same hA hh) (by simp only [Mem.new_next]; omega) hl) ?_
 rintro v μ1 ⟨rfl, hs0⟩
 simp only [Mem.new_next] at hs0
 have lB : μ1.ld (some 1) μ.next 0 = some (.agg [c]) := (hs0.ld (by omega)).trans lA
 have hR0 : PlanR hi μ1 c p := (hR.same hA hh).same hs0 (by omega)
 have hnx : μ.next + 1 ≤ μ1.next := hs0.2
 simp only [w1, w2, ↓reduceIte, zA, zE, hn, lB]
 refine R_calls (l := [.agg [c], .c (.int .i64 ticks), .c (.int .i64 (-1))]) (by simp only [w1, w2, ↓reduceIte, zA, zE]) (goes_run hR0 (by omega) hg) ?_
 rintro v μ2 ⟨E, Lm, hlo, rfl, h, hs1⟩
 have hs := hA.trans ((hs0.trans (hs1.mono hnx)).mono (by omega))
 have hm := h.mfacts
 have hv : Rd μ2.next μ2 4 (Lm.sc .recs S.recs.length) S.recs.length (cat recrow 0 S.recs) := h.has.rd (r := .recs) rfl (by rw [cat_length recrow_len]) (by omega)
 have hEm : E.m < μ2.next := by rw [← h.m]; exact h.has.lt _ (h.has.on (r := .mach) rfl (.inl rfl))
 obtain ⟨ra, rcap, hrc⟩ := hv.slc
 have lr : μ2.ld none E.m 6 = some (.c (Lm.sc .recs S.recs.length)) := hm.2.2.2.2.2.2.1
 have hst : Has (Lay.put ⟨fun _ => 0, fun _ => false, fun _ => 0⟩ TRo.now μ2.next 0) (Con.upd (fun y => match y with | .out => some (4, []) | _ => none) TRo.now (0, recrow 0 ⟨0, 0, 0, 0⟩)) μ2.next (μ2.new (recrow 0 ⟨0, 0, 0, 0⟩) 0) := by
  refine Has.new (L := ⟨fun _ => 0, fun _ => false, fun _ => 0⟩) ?_ (Nat.le_refl _) (by simp)
  refine (Has.start (fun _ => rfl)).weaken' fun y sz cs hy => .inr ?_
  cases y <;> simp only [reduceCtorEq, Option.some.injEq, Prod.mk.injEq] at hy
  exact ⟨rfl, by omega, hy.2.symm⟩
 have hs3 : Same μ2.next μ2 (μ2.new (recrow 0 ⟨0, 0, 0, 0⟩) 0) := Same.tmp (Nat.le_refl _)
 have n3 : (μ2.new (recrow 0 ⟨0, 0, 0, 0⟩) 0).next = μ2.next + 1 := by simp only [Mem.new_next]
 have lr3 := (hs3.ld (n := none) (i := E.m) (o := 6) hEm).trans lr
 have est : (μ2.new [.int .i64 0, .int .i64 0, .int .i64 0, .int .i64 0] 0).st μ2.next 0 [.int .i64 0, .int .i64 0, .int .i64 0, .int .i64 0] = some (μ2.new (recrow 0 ⟨0, 0, 0, 0⟩) 0) := new_st0 rfl
 have e4 : ([.int .i64 0, .int .i64 0, .int .i64 0, .int .i64 0] : List Cell).length = 4 := rfl
 simp only [w1, w2, zH, zI, ↓reduceIte, zA, zB, fillc, zB, e4, est, lr3, hrc]
 generalize μ2.new (recrow 0 ⟨0, 0, 0, 0⟩) 0 = μ3 at *
 refine turnsLoop (lo := μ2.next) (μ0 := μ3) (T := turnsP S.recs) (v5 := .ptr (some (E.m, 0))) (hv.same hs3 (Nat.le_refl _)) (Nat.le_refl _) (by omega) hrl S.recs.length 0 [] ⟨0, 0, 0, 0⟩ _ _ _ μ3 (by omega) hst rfl (by simp only [Con.upd, if_true]) (by simp) Same.refl rfl ?_ ?_ ?_ ?_ ?_ ?_ ?_
 ·simp only [w1, w2, ↓reduceIte, zA]; first | done | rfl
 ·simp only [w1, ↓reduceIte, zA]; first | done | rfl
 ·simp only [w1, ↓reduceIte, zA, hrc]
 ·simp only [w1, ↓reduceIte, zA]
 ·simp only [w1, ↓reduceIte]; rfl
 ·simp only [w1, ↓reduceIte, zA]
 ·intro fr' L' C' μ4 d x h4 e5 en hd hs4 ht f6 f7 f5
  have lr4 := (hs4.ld (n := none) (i := E.m) (o := 6) hEm).trans lr3
  obtain ⟨μ5, s5, g5, hs5, n5, o5⟩ := h4.st en (o := 3) (new := [.int .i64 S.recs.length]) (.inl rfl) (by simp [recrow])
  have e6 : wr (recrow 0 x) 3 [.int .i64 S.recs.length] = recrow 0 { x with num := (S.recs.length : Nat) } := rfl
  rw [e6] at g5
  have ln : μ5.ld (some 4) (L'.id TRo.now) 0 = some (.agg (recrow 0 { x with num := (S.recs.length : Nat) })) := g5.ldn (r := TRo.now) (by simp only [Con.upd, if_true]; rfl) rfl (.inl rfl)
  have hs4n := hs4.2
  obtain ⟨L6, μ6, s6, g6, hs6, _⟩ := g5.pushRow' (by omega) (l := d) (by simp only [Con.upd]; rw [if_neg (by intro hh; cases hh)]; exact e5) (by omega) { x with num := (S.recs.length : Nat) }
  rw [hrc] at lr4
  rw [n5] at s6
  simp only [recrow] at s6 ln
  simp only [w1, w2, zH, zI, ↓reduceIte, zA, zB, f5, f6, f7, lr4, s5, ln, m2, fillc, wr, rep, zJ, zB, zK, List.append_nil, n5, s6, aRet, aRes, aRes1]
  have hlen : (turnsP S.recs).length = d.length + 1 := by rw [← ht]; simp
  have hsn := hs.2
  rw [ht] at g6
  refine ⟨_, rfl, ⟨L6, _, ⟨g6.inj, g6.lt, fun r hr => by have := g6.ge r hr; omega, g6.obj⟩, by simp only [Con.upd, if_true], by rw [hlen]⟩, ?_⟩
  exact hs.trans ((hs3.mono hsn).trans ((hs4.mono hsn).trans ((hs5.mono hsn).trans (hs6.mono hsn))))

theorem turns_no {hi : Nat} {c : Cell} {p : PPlan} {ticks : Int} (hR : PlanR hi μ c p) (hh : hi ≤ μ.next) (hl : Lens p) (hn : runnable p ticks = false) :
  Ret 35 [.agg [c], .c (.int .i64 ticks)] μ fun v μ' => TurnsH μ.next μ' v [] ∧ Same μ.next μ μ' := by
 have hA : Same μ.next μ (μ.new [c] 0) := Same.tmp (Nat.le_refl _)
 have lA : (μ.new [c] 0).ld (some 1) μ.next 0 = some (.agg [c]) := by rw [Mem.new_ld, if_pos rfl]; rfl
 refine Ret_of p35 (by simp [r35]) ?_
 simp only [rI, r35, frOf_2]
 simp only [w1, w2, zH, zI, ↓reduceIte, zA, zE, lA]
 refine R_calls (l := [.agg [c], .c (.int .i64 ticks)]) (by simp only [w1, w2, ↓reduceIte, zA]) (sok_ok (hR.same hA hh) (by simp only [Mem.new_next]; omega) hl) ?_
 rintro v μ1 ⟨rfl, hs0⟩
 simp only [Mem.new_next] at hs0
 simp only [w1, w2, ↓reduceIte, zE, hn, aRet, aRes, aRes1]
 exact ⟨_, rfl, turnsH_nil, hA.trans (hs0.mono (by omega))⟩
end
end Go.Proofs.Ytibmnlijoeppaaa.X
namespace Go.Proofs.Ytibmnlijoeppaaa
set_option linter.unusedSimpArgs false
set_option linter.unusedVariables false

/-- For each plan and number of ticks one list of turns, that both sides answer. -/
theorem turnsAll (p : PPlan) (ticks : Int) (hl : Lens p) : ∃ l : List PRec, l.length ≤ 600001 ∧
  (∀ {μ : Mem} {hi : Nat} {c : Cell}, PlanR hi μ c p → hi ≤ μ.next → Ret 34 [.agg [c], .c (.int .i64 ticks)] μ fun v μ' => TurnsH μ.next μ' v l ∧ Same μ.next μ μ') ∧
  (∀ {μ : Mem} {hi : Nat} {c : Cell}, PlanR hi μ c p → hi ≤ μ.next → Ret 35 [.agg [c], .c (.int .i64 ticks)] μ fun v μ' => TurnsH μ.next μ' v l ∧ Same μ.next μ μ') := by
 by_cases hr : X.runnable p ticks = true
 ·have hr' := hr
  unfold X.runnable at hr'
  simp only [Bool.and_eq_true, decide_eq_true_eq] at hr'
  obtain ⟨⟨hok, ht0⟩, ht1⟩ := hr'
  obtain ⟨S, T, ⟨m, hm⟩, ⟨m', hm'⟩, hf⟩ := both_end hok ⟨ht0, ht1⟩
  have hv := hf.views
  have hlen : T.tasks.length = S.tasks.length := by have := congrArg List.length hv; simpa using this
  have hg : Goes p ticks none S := ⟨⟨m, hm⟩, ⟨ht0, ht1⟩, hok, by have := hf.few; unfold roomy; omega, hf.statesS⟩
  have hgX : X.Goes p ticks (-1) T := ⟨⟨m', hm'⟩, by have := hf.few; rw [hlen]; unfold roomy; omega, hf.statesT⟩
  refine ⟨turnsP S.recs, ?_, fun hR hh => turns_h (r := S.report) hR hh hf.room.1 (run_grow hm).1 fun hR hh => runPlan_h hR hh hl hg, fun hR hh => ?_⟩
  ·have := tgo_len (l := S.recs) (i := 0) (d := []) (x := ⟨0, 0, 0, 0⟩)
   have := hf.room.1
   simp only [List.length_nil] at *
   unfold turnsP; omega
  ·rw [← hf.recs]
   exact X.turns_ok hR hh hl hr hgX (by rw [hf.recs]; exact hf.room.1)
 ·have hr' : X.runnable p ticks = false := by simpa using hr
  have hn : noRun p ticks := by
   unfold X.runnable at hr
   simp only [Bool.and_eq_true, decide_eq_true_eq] at hr
   unfold noRun
   by_cases h1 : (okP p).1 = 0
   ·omega
   ·exact .inr (.inr h1)
  exact ⟨[], by simp, fun hR hh => turns_no (r := ⟨3, [], 0, 0, []⟩) hR hh rfl fun hR hh => runPlan_no hR hh hl hn, fun hR hh => X.turns_no hR hh hl hr'⟩

end Go.Proofs.Ytibmnlijoeppaaa
