/-
 The law FnRings returns true.
-/
import Derived.Test.YtibmnlijoeppaaaDAll
import Derived.Test.YtibmnlijoeppaaaWR
import Derived.Test.YtibmnlijoeppaaaWS
import Derived.Test.YtibmnlijoeppaaaE3P
import Derived.Test.YtibmnlijoeppaaaE7
import Derived.Test.YtibmnlijoeppaaaE15
import Derived.Test.YtibmnlijoeppaaaHookRun
namespace Go.Proofs.Ytibmnlijoeppaaa
open Nat renaming reduceEqDiff → zA, reduceAdd → zB, reduceLeDiff → zJ, reduceMul → zK
open Int renaming reduceLT → zC, reduceLE → zD, reduceNeg → zE, reduceBEq → zF, reduceBNe → zG
open AV renaming isTup → zH, cells → zI
set_option linter.unusedSimpArgs false
set_option linter.unusedVariables false

/-! 14: laws.FnRings -/
def b14_0 : RCode := (.seq (.seq (.reg [rI 0 (.mv (.t 9)) 104, rI 1 (.mv (.t 8)) 105, rI 2 (.bin .lss (.t 104) (.t 105)) 106]) (.ite (.t 106) .skip (.exit 2))) (.seq (.blk 3 (.seq (.reg [rI 0 (.fa (.t 7) 2) 109, rI 2 (.mv (.t 4)) 111, rI 3 (.mv (.t 6)) 112, rI 4 (.ias (.t 111) (.t 112) 2) 113, rI 5 (.fa (.t 113) 1) 114, rI 7 (.mv (.t 9)) 116, rI 13 (.mv (.t 4)) 122, rI 14 (.mv (.t 6)) 123, rI 15 (.ias (.t 122) (.t 123) 2) 124, rI 16 (.fa (.t 124) 1) 125, rI 18 (.mv (.t 9)) 127, rI 19 (.bin .sub (.t 127) (.k (.int .i64 1))) 128, rI 1 (.ld none (.t 109)) 110, rI 6 (.ld none (.t 114)) 115, rI 8 (.ias (.t 115) (.t 116) 1) 117, rI 9 (.ld none (.t 117)) 118, rI 10 (.ias (.t 110) (.t 118) 7) 119, rI 11 (.fa (.t 119) 3) 120, rI 12 (.ld none (.t 120)) 121, rI 17 (.ld none (.t 125)) 126, rI 20 (.ias (.t 126) (.t 128) 1) 129, rI 21 (.ld none (.t 129)) 130, rI 22 (.bin .neq (.t 121) (.t 130)) 131]) (.ite (.t 131) (.seq (.reg [rI 0 (.mv (.k (.bool false))) 2]) .ret) .skip))) (.reg [rI 0 (.mv (.t 9)) 107, rI 1 (.bin .add (.t 107) (.k (.int .i64 1))) 108, rI 2 (.mv (.t 108)) 9])))
def b14_1 : RCode := (.seq (.reg [rI 0 (.bin .lss (.t 34) (.t 33)) 35]) (.seq (.ite (.t 35) .skip (.exit 0)) (.seq (.blk 1 (.seq (.reg [rI 0 (.mv (.t 34)) 36, rI 1 (.mv (.t 36)) 6]) (.seq (.seq (.reg [rI 0 (.mv (.t 4)) 37, rI 1 (.mv (.t 6)) 38, rI 2 (.ias (.t 37) (.t 38) 2) 39, rI 3 (.fa (.t 39) 0) 40, rI 5 (.mv (.t 5)) 42, rI 6 (.mv (.t 6)) 43, rI 7 (.ias (.t 42) (.t 43) 2) 44, rI 8 (.fa (.t 44) 0) 45, rI 4 (.ld none (.t 40)) 41, rI 9 (.ld none (.t 45)) 46, rI 10 (.bin .neq (.t 41) (.t 46)) 47, rI 11 (.mv (.t 47)) 48, ⟨12, .mv (.t 4), some 49, some (48, false), []⟩, ⟨13, .mv (.t 6), some 50, some (48, false), []⟩, ⟨14, .ias (.t 49) (.t 50) 2, some 51, some (48, false), []⟩, ⟨15, .fa (.t 51) 1, some 52, some (48, false), []⟩, ⟨17, .mv (.t 5), some 54, some (48, false), []⟩, ⟨18, .mv (.t 6), some 55, some (48, false), []⟩, ⟨19, .ias (.t 54) (.t 55) 2, some 56, some (48, false), []⟩, ⟨20, .fa (.t 56) 1, some 57, some (48, false), []⟩, ⟨16, .ld none (.t 52), some 53, some (48, false), []⟩, ⟨21, .ld none (.t 57), some 58, some (48, false), []⟩, ⟨22, .call 51 [.t 53, .t 58], some 59, some (48, false), []⟩, ⟨23, .nt (.t 59), some 60, some (48, false), []⟩, rI 24 (.pick (.t 48) (.k (.bool true)) (.t 60)) 61]) (.ite (.t 61) (.seq (.reg [rI 0 (.mv (.k (.bool false))) 2]) .ret) .skip)) (.seq (.seq (.reg [rI 0 (.mv (.t 6)) 62, rI 1 (.bin .gtr (.t 62) (.k (.int .i64 5))) 63]) (.ite (.t 63) (.exit 1) .skip)) (.seq (.reg [rI 7 (.alc [.bool false, .int .i64 0, .slc none 0 0]) 7, rI 1 (.mv (.t 4)) 65, rI 2 (.mv (.t 6)) 66, rI 3 (.ias (.t 65) (.t 66) 2) 67, rI 4 (.fa (.t 67) 0) 68, rI 0 (.ld (some 1) (.t 3)) 64, rI 5 (.ld none (.t 68)) 69, ⟨6, .call 39 [.t 64, .k (.int .i64 600), .t 69], some 70, none, [.al 7 [.bool false, .int .i64 0, .slc none 0 0]]⟩, ⟨8, .st (.t 7) (.t 70) 3, none, none, []⟩]) (.seq (.seq (.reg [rI 2 (.mv (.t 4)) 73, rI 3 (.mv (.t 6)) 74, rI 4 (.ias (.t 73) (.t 74) 2) 75, rI 5 (.fa (.t 75) 0) 76, rI 0 (.ld (some 3) (.t 7)) 71, rI 1 (.ld (some 1) (.t 3)) 72, rI 6 (.ld none (.t 76)) 77, ⟨7, .call 41 [.t 72, .k (.int .i64 600), .t 77], some 78, none, [.ld 71 (some 3) (.t 7)]⟩, rI 8 (.call 40 [.t 71, .t 78]) 79, rI 9 (.nt (.t 79)) 80]) (.ite (.t 80) (.seq (.reg [rI 0 (.mv (.k (.bool false))) 2]) .ret) .skip)) (.seq (.reg [rI 0 (.mv (.t 4)) 81, rI 1 (.mv (.t 6)) 82, rI 2 (.ias (.t 81) (.t 82) 2) 83, rI 3 (.fa (.t 83) 1) 84, rI 4 (.ld none (.t 84)) 85, rI 5 (.len (.t 85)) 86, rI 6 (.mv (.t 86)) 8]) (.seq (.seq (.reg [rI 0 (.fa (.t 7) 0) 87, rI 1 (.ld none (.t 87)) 88, rI 2 (.nt (.t 88)) 89, rI 3 (.mv (.t 89)) 90, ⟨4, .mv (.t 4), some 91, some (90, false), []⟩, ⟨5, .mv (.t 6), some 92, some (90, false), []⟩, ⟨6, .ias (.t 91) (.t 92) 2, some 93, some (90, false), []⟩, ⟨7, .fa (.t 93) 1, some 94, some (90, false), []⟩, ⟨9, .mv (.t 8), some 96, some (90, false), []⟩, ⟨10, .bin .sub (.t 96) (.k (.int .i64 1)), some 97, some (90, false), []⟩, ⟨13, .fa (.t 7) 1, some 100, some (90, false), []⟩, ⟨8, .ld none (.t 94), some 95, some (90, false), []⟩, ⟨11, .ias (.t 95) (.t 97) 1, some 98, some (90, false), []⟩, ⟨12, .ld none (.t 98), some 99, some (90, false), []⟩, ⟨14, .ld none (.t 100), some 101, some (90, false), []⟩, ⟨15, .bin .neq (.t 99) (.t 101), some 102, some (90, false), []⟩, rI 16 (.pick (.t 90) (.k (.bool true)) (.t 102)) 103]) (.ite (.t 103) (.seq (.reg [rI 0 (.mv (.k (.bool false))) 2]) .ret) .skip)) (.seq (.reg [rI 0 (.mv (.k (.int .i64 1))) 9]) (.blk 2 (.loop b14_0))))))))))) (.reg [rI 0 (.bin .add (.t 34) (.k (.int .i64 1))) 132, rI 1 (.mv (.t 132)) 34]))))
def r14 : RFun := ⟨133, [.tmp 2], (.seq (.reg [rI 0 (.mv (.k (.bool false))) 2]) (.seq (.seq (.reg [rI 0 (.mv (.t 0)) 10, rI 1 (.len (.t 10)) 11, rI 2 (.bin .gtr (.t 11) (.k (.int .i64 1048576))) 12]) (.ite (.t 12) (.seq (.reg [rI 0 (.mv (.k (.bool true))) 2]) .ret) .skip)) (.seq (.reg [rI 0 (.mv (.t 0)) 13, rI 1 (.call 33 [.t 13]) 14, rI 2 (.alc [.slc none 0 0]) 3, ⟨3, .st (.t 3) (.t 14) 1, none, none, []⟩]) (.seq (.reg [rI 0 (.ld (some 1) (.t 3)) 15, rI 1 (.call 28 [.t 15, .k (.int .i64 600)]) 16, rI 2 (.mv (.t 16)) 4]) (.seq (.reg [rI 0 (.ld (some 1) (.t 3)) 17, rI 1 (.call 43 [.t 17, .k (.int .i64 600)]) 18, rI 2 (.mv (.t 18)) 5]) (.seq (.seq (.reg [rI 0 (.mv (.t 4)) 19, rI 1 (.len (.t 19)) 20, rI 2 (.mv (.t 5)) 21, rI 3 (.len (.t 21)) 22, rI 4 (.bin .neq (.t 20) (.t 22)) 23, rI 5 (.mv (.t 23)) 24, ⟨6, .ld (some 1) (.t 3), some 25, some (24, false), []⟩, ⟨8, .ld (some 1) (.t 3), some 27, some (24, false), []⟩, ⟨7, .call 26 [.t 25, .k (.int .i64 600)], some 26, some (24, false), [.ld 27 (some 1) (.t 3)]⟩, ⟨9, .call 37 [.t 27, .k (.int .i64 600)], some 28, some (24, false), []⟩, ⟨10, .call 36 [.t 26, .t 28], some 29, some (24, false), []⟩, ⟨11, .nt (.t 29), some 30, some (24, false), []⟩, rI 12 (.pick (.t 24) (.k (.bool true)) (.t 30)) 31]) (.ite (.t 31) (.seq (.reg [rI 0 (.mv (.k (.bool false))) 2]) .ret) .skip)) (.seq (.seq (.reg [rI 0 (.mv (.t 4)) 32, rI 1 (.len (.t 32)) 33, rI 2 (.mv (.k (.int .i64 0))) 34]) (.blk 0 (.loop b14_1))) (.seq (.reg [rI 0 (.mv (.k (.bool true))) 2]) .ret))))))))⟩
theorem p14 : prog 14 = some r14 := by kernel_rfl



theorem StandV.same {hi hi' : Nat} {μ μ' : Mem} {v : AV} {s : PStand} (h : StandV hi μ v s) (hs : Same hi' μ μ') (hh : hi ≤ hi') : StandV hi μ' v s := by
 obtain ⟨sc, g, e, h1, h2⟩ := h
 exact ⟨sc, g, e, h1.same hs hh, fun i v hv => (h2 i v hv).same hs hh⟩
theorem StandV.mono {hi hi' : Nat} {μ : Mem} {v : AV} {s : PStand} (h : StandV hi μ v s) (hh : hi ≤ hi') : StandV hi' μ v s := by
 obtain ⟨sc, g, e, h1, h2⟩ := h
 exact ⟨sc, g, e, h1.mono hh, fun i v hv => (h2 i v hv).mono hh⟩
theorem RingsV.same {hi hi' : Nat} {μ μ' : Mem} {c : Cell} {l : List PRing} (h : RingsV hi μ c l) (hs : Same hi' μ μ') (hh : hi ≤ hi') : RingsV hi μ' c l := by
 obtain ⟨g, h1, h2⟩ := h
 exact ⟨g, h1.same hs hh, fun i v hv => (h2 i v hv).same hs hh⟩
theorem RingsV.mono {hi hi' : Nat} {μ : Mem} {c : Cell} {l : List PRing} (h : RingsV hi μ c l) (hh : hi ≤ hi') : RingsV hi' μ c l := by
 obtain ⟨g, h1, h2⟩ := h
 exact ⟨g, h1.mono hh, fun i v hv => (h2 i v hv).mono hh⟩

/-- What the law wants of a ring and the stand at its record. -/
def Fits (r : PRing) (s : PStand) : Prop := s.ok = true ∧ ∃ n : Nat, r.tasks.length = n + 1 ∧ r.tasks[n]? = some s.running ∧
 ∀ (j : Nat) (x y : Int), r.tasks[j + 1]? = some x → r.tasks[j]? = some y → ∃ (z : Nat) (v : PView), x = z ∧ s.tasks[z]? = some v ∧ v.waiter = y

/-- All that the law asks of a plan's rings. -/
theorem rings14 (p : PPlan) (hl : Lens p) : ∃ l : List PRing, l.length ≤ 600000 ∧ (∀ r ∈ l, r.tasks.length ≤ 61) ∧
  (∀ {μ : Mem} {hi : Nat} {c : Cell}, PlanR hi μ c p → hi ≤ μ.next → Ret 28 [.agg [c], .c (.int .i64 600)] μ fun v μ' => (∃ L C, RingsH μ.next μ' L C l ∧ v = .c (L.sc .rings l.length)) ∧ Same μ.next μ μ') ∧
  (∀ {μ : Mem} {hi : Nat} {c : Cell}, PlanR hi μ c p → hi ≤ μ.next → Ret 43 [.agg [c], .c (.int .i64 600)] μ fun v μ' => (∃ x, v = .c x ∧ RingsV μ'.next μ' x l) ∧ Same μ.next μ μ') ∧
  ∀ r ∈ l, ∃ s : PStand, s.tasks.length ≤ 60 ∧ (∀ v ∈ s.tasks, v.regs.length = 4) ∧ Fits r s ∧
   (∀ {μ : Mem} {hi : Nat} {c : Cell}, PlanR hi μ c p → hi ≤ μ.next → Ret 39 [.agg [c], .c (.int .i64 600), .c (.int .i64 r.pos)] μ fun v μ' => AnsH IR.std IR.stdr μ.next μ' v s ∧ Same μ.next μ μ') ∧
   (∀ {μ : Mem} {hi : Nat} {c : Cell}, PlanR hi μ c p → hi ≤ μ.next → Ret 41 [.agg [c], .c (.int .i64 600), .c (.int .i64 r.pos)] μ fun v μ' => StandV μ'.next μ' v s ∧ Same μ.next μ μ') := by
 obtain ⟨l, h1, _, h2, h3, h4, h5⟩ := ringsAll' p 600 hl
 refine ⟨l, h1, h2, h3, h4, fun r hr => ?_⟩
 obtain ⟨s, g1, g2, g3, g4, g5⟩ := standsAll' p 600 r.pos hl
 refine ⟨s, g1, g4, ?_, g2, g3⟩
 rcases h5 with ⟨_, rfl⟩ | ⟨S0, m0, hrun, hm0, rfl⟩
 ·cases hr
 have hrun' := hrun
 unfold X.runnable at hrun'
 simp only [Bool.and_eq_true, decide_eq_true_eq] at hrun'
 obtain ⟨⟨hok, ht0⟩, ht1⟩ := hrun'
 obtain ⟨S, st, ⟨m, hm⟩, _, _, f1, f2, _, f4⟩ := hookRun hok ⟨ht0, ht1⟩ r.pos hm0
 obtain ⟨f5, f6, f7⟩ := f4 r hr
 rcases g5 with ⟨e, _⟩ | ⟨S', m', n', _, q1, q2⟩
 ·rw [hrun] at e; cases e
 obtain rfl := det1 q1 hm
 rw [f1] at q2
 simp only [Option.some.injEq, PHk.mk.injEq] at q2
 obtain ⟨_, _, rfl⟩ := q2
 exact ⟨(f2 f5 f6).ok, (f7 rfl).fit⟩

theorem loop14 {hi n7 b o : Nat} {μ : Mem} {c gi sc : Cell} {r : PRing} {st : PStand} {gs : Nat → Cell} {i : Int} (e1 : aidx (.c c) (.c (.int .i64 i)) 2 = some (.c (.ptr (some (b, o))))) (d1 : μ.ld none b (o + 1) = some (.c gi)) (hT : Rd hi μ 1 gi r.tasks.length (cat irow 0 r.tasks))
  (l7 : μ.ld none n7 2 = some (.c sc)) (hS : Rd hi μ 7 sc st.tasks.length (cat (vrow gs) 0 st.tasks)) (hfit : ∀ (j : Nat) (x y : Int), r.tasks[j + 1]? = some x → r.tasks[j]? = some y → ∃ (z : Nat) (v : PView), x = z ∧ st.tasks[z]? = some v ∧ v.waiter = y) (hl : r.tasks.length ≤ 61)
  {Q : Fr → Mem → Prop} {s : List It} {v3 v5 v33 v34 : AV} :
 ∀ (k j : Nat) (fr : Fr), j + 1 + k = r.tasks.length → fr 4 = .c c → fr 6 = .c (.int .i64 i) → fr 7 = pt n7 0 → fr 8 = .c (.int .i64 r.tasks.length) → fr 9 = .c (.int .i64 ((j + 1 : Nat) : Int)) → fr 3 = v3 → fr 5 = v5 → fr 33 = v33 → fr 34 = v34 →
  (∀ fr', fr' 4 = .c c → fr' 3 = v3 → fr' 5 = v5 → fr' 33 = v33 → fr' 34 = v34 → R s fr' μ Q) → R (.c (.loop b14_0) :: .blk 2 :: s) fr μ Q := by
 obtain ⟨ta, tcap, ht⟩ := hT.slc
 obtain ⟨sa, scap, hs⟩ := hS.slc
 intro k
 induction k with
 | zero =>
  intro j fr hk h4 h6 h7 h8 h9 h3 h5 h33 h34 hend
  rw [R_loop]
  simp only [rI, b14_0]
  simp only [w1, w2, ↓reduceIte, zA, h8, h9]
  rw [decide_eq_false (by omega)]
  simp only [w1]
  rw [R_exit rfl]
  refine hend _ ?_ ?_ ?_ ?_ ?_
  ·simp only [w1, ↓reduceIte, zA, h4]
  ·simp only [w1, ↓reduceIte, zA, h3]
  ·simp only [w1, ↓reduceIte, zA, h5]
  ·simp only [w1, ↓reduceIte, zA, h33]
  ·simp only [w1, ↓reduceIte, zA, h34]
 | succ k ih =>
  intro j fr hk h4 h6 h7 h8 h9 h3 h5 h33 h34 hend
  have hx : r.tasks[j + 1]? = some r.tasks[j + 1] := List.getElem?_eq_getElem (by omega)
  have hy : r.tasks[j]? = some r.tasks[j] := List.getElem?_eq_getElem (by omega)
  obtain ⟨z, v, hz, hv, hw⟩ := hfit j _ _ hx hy
  generalize r.tasks[j] = y at hy hw
  rw [hz] at hx
  obtain ⟨b1, o1, f1, _, _, f4⟩ := hT.row irow_len (by omega) hx
  obtain ⟨b2, o2, g1, _, _, g4⟩ := hT.row irow_len (by omega) hy
  obtain ⟨b3, o3, k1, _, _, k4⟩ := hS.row (vrow_len gs) (by omega) hv
  have q1 := f4 0 (by omega)
  have q2 := g4 0 (by omega)
  have q3 := k4 3 (by omega)
  simp only [irow, vrow, List.getElem?_cons_zero, List.getElem?_cons_succ, Option.map_some, Nat.add_zero] at q1 q2 q3
  rw [hw] at q3
  rw [ht] at f1 g1 d1
  rw [hs] at k1 l7
  have hw1 : IntKind.i64.wrap (((j + 1 : Nat) : Int) - 1) = (j : Int) := by rw [small (by omega)]; omega
  rw [R_loop]
  simp only [rI, b14_0]
  simp only [w1, w2, ↓reduceIte, zA, h8, h9]
  rw [decide_eq_true (by omega)]
  simp only [w1, w2, ↓reduceIte, zA, h4, h6, h7, h9, e1, d1, l7, f1, q1, k1, q3, hw1, g1, q2, bneq rfl]
  rw [small (by omega), R_lp]
  refine ih (j + 1) _ (by omega) ?_ ?_ ?_ ?_ ?_ ?_ ?_ ?_ ?_ hend
  ·simp only [w1, ↓reduceIte, zA, h4]
  ·simp only [w1, ↓reduceIte, zA, h6]
  ·simp only [w1, ↓reduceIte, zA, h7]
  ·simp only [w1, ↓reduceIte, zA, h8]
  ·simp only [w1, ↓reduceIte]; rfl
  ·simp only [w1, ↓reduceIte, zA, h3]
  ·simp only [w1, ↓reduceIte, zA, h5]
  ·simp only [w1, ↓reduceIte, zA, h33]
  ·simp only [w1, ↓reduceIte, zA, h34]

theorem al3 {μ μ' : Mem} {d : Nat} {fr : Fr} (hs : Same (μ.next + 1) (μ.new [.bool false, .int .i64 0, .slc none 0 0] 0) μ') (h : fr d = pt μ.next 0) : (Re.al d [.bool false, .int .i64 0, .slc none 0 0]).holds fr μ' = true := by
 have e : μ'.ld (some 3) μ.next 0 = some (.agg [.bool false, .int .i64 0, .slc none 0 0]) := by
  rw [hs.ld (Nat.lt_succ_self _), Mem.new_ld, if_pos rfl]; rfl
 have o : μ'.obj μ.next = some ⟨[.bool false, .int .i64 0, .slc none 0 0], 0, false⟩ := by
  rw [hs.1 _ (Nat.lt_succ_self _)]; simp only [Mem.new, if_true]
 simp only [Re.holds, h, List.length_cons, List.length_nil, Nat.zero_add, Nat.reduceAdd, e, o, beq_self_eq_true, Bool.not_false, Bool.and_self]

theorem listLoop14 {hi n1 : Nat} {μ0 : Mem} {c c' x : Cell} {p : PPlan} {l : List PRing} (hV : RingsV hi μ0 c l) (hV' : RingsV hi μ0 c' l) (hP : PlanR hi μ0 x p) (hh : hi ≤ μ0.next) (hn1 : n1 < μ0.next) (lX : μ0.ld (some 1) n1 0 = some (.agg [x])) (hl : l.length ≤ 600000) (hlr : ∀ r ∈ l, r.tasks.length ≤ 61)
  (hall : ∀ r ∈ l, ∃ s : PStand, s.tasks.length ≤ 60 ∧ (∀ v ∈ s.tasks, v.regs.length = 4) ∧ Fits r s ∧
   (∀ {μ : Mem} {hi : Nat} {c : Cell}, PlanR hi μ c p → hi ≤ μ.next → Ret 39 [.agg [c], .c (.int .i64 600), .c (.int .i64 r.pos)] μ fun v μ' => AnsH IR.std IR.stdr μ.next μ' v s ∧ Same μ.next μ μ') ∧
   (∀ {μ : Mem} {hi : Nat} {c : Cell}, PlanR hi μ c p → hi ≤ μ.next → Ret 41 [.agg [c], .c (.int .i64 600), .c (.int .i64 r.pos)] μ fun v μ' => StandV μ'.next μ' v s ∧ Same μ.next μ μ'))
  {Q : Fr → Mem → Prop} {s : List It} :
 ∀ (k i : Nat) (fr : Fr) (μ : Mem), i + k = l.length → Same μ0.next μ0 μ → fr 3 = pt n1 0 → fr 4 = .c c → fr 5 = .c c' → fr 33 = .c (.int .i64 l.length) → fr 34 = .c (.int .i64 i) → (∀ fr' μ', R s fr' μ' Q) → R (.c (.loop b14_1) :: .blk 0 :: s) fr μ Q := by
 obtain ⟨g, hg, hgr⟩ := hV
 obtain ⟨g', hg', hgr'⟩ := hV'
 obtain ⟨a, cap, hc⟩ := hg.slc
 obtain ⟨a', cap', hc'⟩ := hg'.slc
 intro k
 induction k with
 | zero =>
  intro i fr μ hk hs h3 h4 h5 h33 h34 hend
  rw [R_loop]
  simp only [rI, b14_1]
  simp only [w1, w2, ↓reduceIte, h33, h34]
  rw [decide_eq_false (by omega)]
  simp only [w1]
  rw [R_exit rfl]
  exact hend _ _
 | succ k ih =>
  intro i fr μ hk hs h3 h4 h5 h33 h34 hend
  have hi1 : i < l.length := by omega
  have hi' : l[i]? = some l[i] := List.getElem?_eq_getElem hi1
  obtain ⟨st, s60, s4, ⟨sok, nn, hn, hlast, hfit⟩, h39, h41⟩ := hall _ (List.mem_of_getElem? hi')
  have hT := hgr i _ hi'
  have hT' := hgr' i _ hi'
  have hr61 := hlr _ (List.mem_of_getElem? hi')
  generalize l[i] = r at *
  obtain ⟨b, o, e1, b1, _, e4⟩ := hg.row (sz := 2) (fun _ _ => rfl) (by decide) hi'
  obtain ⟨b', o', e1', b1', _, e4'⟩ := hg'.row (sz := 2) (fun _ _ => rfl) (by decide) hi'
  have d0 := e4 0 (by omega)
  have d1 := e4 1 (by omega)
  have d0' := e4' 0 (by omega)
  have d1' := e4' 1 (by omega)
  simp only [List.getElem?_cons_zero, List.getElem?_cons_succ, Option.map_some] at d0 d1 d0' d1'
  have e1c := e1 .i64
  rw [hc] at e1
  rw [hc'] at e1'
  have at1 : ∀ {m : Mem}, Same μ0.next μ0 m → m.ld none b (o + 0) = some (.c (.int .i64 r.pos)) ∧ m.ld none b (o + 1) = some (.c (g i)) ∧ m.ld (some 1) n1 0 = some (.agg [x]) := fun hm => ⟨ldo d0 hm (by omega), ldo d1 hm (by omega), ldo lX hm hn1⟩
  have a0 := ldo d0 hs (by omega)
  have a1 := ldo d1 hs (by omega)
  have a0' := ldo d0' hs (by omega)
  have a1' := ldo d1' hs (by omega)
  rw [R_loop]
  simp only [rI, b14_1]
  simp only [w1, w2, ↓reduceIte, h33, h34]
  rw [decide_eq_true (by omega)]
  simp only [w1, w2, ↓reduceIte, zA, h4, h5, h34, hc, hc', e1, e1', a0, a0', a1, a1', bneq rfl]
  refine R_calls (l := [.c (g i), .c (g' i)]) (by first | rfl | simp only [w1, w2, zH, zI, ↓reduceIte, zA, zB, zC, zD, zE, zF, zG]) (wInts_ok (hT.same hs hh) (hT'.same hs hh) (by omega)) ?_
  rintro v μ' ⟨rfl, hμ'⟩
  subst hμ'
  simp only [w1, w2, ↓reduceIte, zA]
  by_cases hi5 : (i : Int) > 5
  ·rw [decide_eq_true hi5]
   simp only [w1]
   rw [R_exit rfl]
   simp only [w1, w2, ↓reduceIte, zA, h34]
   rw [small (by omega), R_lp]
   refine ih (i + 1) _ _ (by omega) hs ?_ ?_ ?_ ?_ ?_ hend
   ·simp only [w1, ↓reduceIte, zA, h3]
   ·simp only [w1, ↓reduceIte, zA, h4, hc]
   ·simp only [w1, ↓reduceIte, zA, h5, hc']
   ·simp only [w1, ↓reduceIte, zA, h33]
   ·simp only [w1, ↓reduceIte]; rfl
  rw [decide_eq_false hi5]
  have hA : Same μ'.next μ' (μ'.new [.bool false, .int .i64 0, .slc none 0 0] 0) := Same.tmp (Nat.le_refl _)
  have nA : (μ'.new [.bool false, .int .i64 0, .slc none 0 0] 0).next = μ'.next + 1 := rfl
  have n0 := hs.2
  obtain ⟨A0, _, A3⟩ := at1 (hs.trans (hA.mono n0))
  have hPA := hP.same (hs.trans (hA.mono n0)) hh
  simp only [w1, w2, ↓reduceIte, zA, h3, h4, hc, e1, A0, A3]
  refine R_callre (l := [.agg [x], .c (.int .i64 600), .c (.int .i64 r.pos)]) (by first | rfl | simp only [w1, w2, zH, zI, ↓reduceIte, zA, zB, zC, zD, zE, zF, zG]) (h39 hPA (by omega)) ?_
  rintro _ μ2 ⟨⟨L, C, hSt, rfl⟩, hs2⟩
  rw [nA] at hs2 hSt
  refine ⟨by simp only [List.all_cons, List.all_nil, Bool.and_true]; exact al3 hs2 (by simp only [w1, ↓reduceIte, zA]), ?_⟩
  have s3 := new_st0 (μ := μ') (cs := [.bool false, .int .i64 0, .slc none 0 0]) (x := [.bool st.ok, .int .i64 st.running, L.sc IR.std st.tasks.length]) (e := 0) rfl
  obtain ⟨μ3, e3, hs3, n3, o3⟩ := hs2.st (i := μ'.next) (by omega) s3
  have hSt3 : StandH IR.std IR.stdr (μ'.next + 1) μ3 L C st.tasks := ⟨hSt.has.frame (by rw [n3]; exact Nat.le_refl _) fun y hy => o3 _ (by have := hSt.has.ge y hy; omega), hSt.rows, hSt.each⟩
  have hV3 : StandV μ3.next μ3 (.agg [.bool st.ok, .int .i64 st.running, L.sc IR.std st.tasks.length]) st := hSt3.v
  have n23 : μ'.next + 1 ≤ μ2.next := hs2.2
  have hB : Same μ'.next μ' (μ'.new [.bool st.ok, .int .i64 st.running, L.sc IR.std st.tasks.length] 0) := Same.tmp (Nat.le_refl _)
  have l0 : (μ'.new [.bool st.ok, .int .i64 st.running, L.sc IR.std st.tasks.length] 0).ld (some 3) μ'.next 0 = some (.agg [.bool st.ok, .int .i64 st.running, L.sc IR.std st.tasks.length]) := by rw [Mem.new_ld, if_pos rfl]; rfl
  have l3 := ldo l0 hs3 (Nat.lt_succ_self _)
  have lf : ∀ o y, [Cell.bool st.ok, .int .i64 st.running, L.sc IR.std st.tasks.length][o]? = some y → μ3.ld none μ'.next o = some (.c y) := fun o y e => ldo (new_ld0 e) hs3 (Nat.lt_succ_self _)
  have h03 : Same μ0.next μ0 μ3 := hs.trans ((hB.trans (hs3.mono (by omega))).mono n0)
  obtain ⟨B0, _, B3⟩ := at1 h03
  have e33 : ∀ q : Cell, ([.bool st.ok, .int .i64 st.running, q] : List Cell).length = 3 := fun _ => rfl
  simp only [w1, w2, zH, zI, ↓reduceIte, zA, h3, h4, hc, e1, e3, e33, l3, B0, B3]
  refine R_callre (l := [.agg [x], .c (.int .i64 600), .c (.int .i64 r.pos)]) (by first | rfl | simp only [w1, w2, zH, zI, ↓reduceIte, zA, zB, zC, zD, zE, zF, zG]) (h41 (hP.same h03 hh) (by omega)) ?_
  rintro vs μ4 ⟨hV4, hs4⟩
  have n4 := hs4.2
  refine ⟨by simp only [List.all_cons, List.all_nil, Bool.and_true, Re.holds, w1, ↓reduceIte, zA, ldo l3 hs4 (by omega), beq_self_eq_true], ?_⟩
  simp only [w1]
  refine R_calls (l := [.agg [.bool st.ok, .int .i64 st.running, L.sc IR.std st.tasks.length], vs]) (by first | rfl | simp only [w1, w2, zH, zI, ↓reduceIte, zA, zB, zC, zD, zE, zF, zG]) (wStand_ok ((hV3.same hs4 (Nat.le_refl _)).mono (hi' := μ4.next) n4) hV4 (Nat.le_refl _) (by omega) (fun v hv => by rw [s4 v hv]; omega)) ?_
  rintro v μ5 ⟨rfl, hs5⟩
  have h35 : Same μ3.next μ3 μ5 := hs4.trans (hs5.mono n4)
  have h05 : Same μ0.next μ0 μ5 := h03.trans (h35.mono h03.2)
  obtain ⟨_, C1, _⟩ := at1 h05
  have hT5 := hT.same h05 hh
  obtain ⟨ta, tcap, ht⟩ := hT5.slc
  have C1' := C1
  rw [ht] at C1
  have hw1 : IntKind.i64.wrap (((r.tasks.length : Nat) : Int) - 1) = (nn : Int) := by rw [hn, small (by omega)]; omega
  obtain ⟨b5, o5, f1, _, _, f4⟩ := hT5.row irow_len (by omega) hlast
  have q1 := f4 0 (by omega)
  simp only [irow, List.getElem?_cons_zero, Option.map_some, Nat.add_zero] at q1
  rw [ht] at f1
  have g0 := ldo (lf 0 _ rfl) h35 (by omega)
  have g1 := ldo (lf 1 _ rfl) h35 (by omega)
  have g2 := ldo (lf 2 _ rfl) h35 (by omega)
  rw [sok] at g0
  simp only [w1, w2, ↓reduceIte, zA, h4, hc, e1, C1, g0, g1, hw1, f1, q1, bneq rfl]
  obtain ⟨_, each⟩ := hSt3.each, hSt3.rows
  have hS5 : Rd μ3.next μ5 7 (L.sc IR.std st.tasks.length) st.tasks.length (cat (vrow fun i => L.sc (IR.stdr i) 4) 0 st.tasks) := (hSt3.has.rd hSt3.rows (n := st.tasks.length) (by rw [cat_length (vrow_len fun i => L.sc (IR.stdr i) 4)]) (by omega)).same h35 (Nat.le_refl _)
  refine loop14 (hi := μ3.next) (n7 := μ'.next) (c := c) (i := i) (v3 := pt n1 0) (v5 := .c c') (v33 := .c (.int .i64 l.length)) (v34 := .c (.int .i64 i)) e1c C1' (hT5.mono (by have := h03.2; omega)) g2 hS5 hfit hr61 nn 0 _ (by omega) ?_ ?_ ?_ ?_ ?_ ?_ ?_ ?_ ?_ ?_
  ·simp only [w1, ↓reduceIte, zA, h4, hc]
  ·simp only [w1, ↓reduceIte, zA]
  ·simp only [w1, ↓reduceIte, zA]
  ·simp only [w1, ↓reduceIte, zA]
  ·simp only [w1, ↓reduceIte]; rfl
  ·simp only [w1, ↓reduceIte, zA, h3]
  ·simp only [w1, ↓reduceIte, zA, h5, hc']
  ·simp only [w1, ↓reduceIte, zA, h33]
  ·simp only [w1, ↓reduceIte, zA, h34]
  ·intro fr' k4 k3 k5 k33 k34
   simp only [w1, w2, ↓reduceIte, k34]
   rw [small (by omega), R_lp]
   refine ih (i + 1) _ _ (by omega) h05 ?_ ?_ ?_ ?_ ?_ hend
   ·simp only [w1, ↓reduceIte, zA, k3]
   ·simp only [w1, ↓reduceIte, zA, k4]
   ·simp only [w1, ↓reduceIte, zA, k5]
   ·simp only [w1, ↓reduceIte, zA, k33]
   ·simp only [w1, ↓reduceIte]; rfl

theorem law14 {hi : Nat} {μ : Mem} {c0 : Cell} {b0 : List Int} (hR0 : Rd hi μ 1 c0 b0.length (cat brow 0 b0)) (hh : hi ≤ μ.next) (hn : μ.next = 1) (r0 : ∀ y ∈ b0, 0 ≤ y ∧ y ≤ 255) :
 Ret 14 [.c c0] μ fun v μ' => v = .c (.bool true) := by
 obtain ⟨a0, k0, e0⟩ := hR0.slc
 refine Ret_of p14 (by simp [r14]) ?_
 simp only [rI, r14, frOf_1]
 simp only [w1, w2, ↓reduceIte, zA, e0]
 by_cases hl0 : (b0.length : Int) > 1048576
 ·rw [decide_eq_true hl0]
  simp only [w1, w2, ↓reduceIte, m1, m2, aRet, aRes, aRes1]
 rw [decide_eq_false hl0]
 simp only [w1, w2, ↓reduceIte, zA]
 rw [← e0]
 refine R_calls (l := [.c c0]) (by first | rfl | simp only [w1, w2, zH, zI, ↓reduceIte, zA, zB, zC, zD, zE, zF, zG, e0]) (drawn_ok (bs := b0) hR0 hh r0) ?_
 rintro v μ1 ⟨x, p, rfl, hP, hL, hs1⟩
 have n1 := hs1.2
 simp only [w1, w2, zH, zI, ↓reduceIte, zA, new_st0 (μ := μ1) (cs := [.slc none 0 0]) (x := [x]) (e := 0) rfl, show ([x] : List Cell).length = 1 from rfl]
 have hs2 : Same μ1.next μ1 (μ1.new [x] 0) := Same.tmp (Nat.le_refl _)
 have n2 : (μ1.new [x] 0).next = μ1.next + 1 := rfl
 have lX : (μ1.new [x] 0).ld (some 1) μ1.next 0 = some (.agg [x]) := by rw [Mem.new_ld, if_pos rfl]; rfl
 have hP2 := hP.same hs2 (Nat.le_refl _)
 generalize μ1.new [x] 0 = μ2 at *
 obtain ⟨l, hl1, hl2, h28, h43, hall⟩ := rings14 p hL
 obtain ⟨r, hr1, hr2, himpl, hspec, _⟩ := reports' p 600 hL
 simp only [w2, lX]
 refine R_calls (l := [.agg [x], .c (.int .i64 600)]) (by first | rfl | simp only [w1, w2, zH, zI, ↓reduceIte, zA, zB, zC, zD, zE, zF, zG]) (h28 hP2 (by omega)) ?_
 rintro _ μ3 ⟨⟨Lg, Cg, hG, rfl⟩, hs3⟩
 have n3 := hs3.2
 have lX3 := ldo lX hs3 (by omega)
 have hP3 := hP2.same hs3 (by omega)
 have hV3 : RingsV μ3.next μ3 (Lg.sc .rings l.length) l := hG.v
 simp only [w1, w2, ↓reduceIte, zA, lX3]
 refine R_calls (l := [.agg [x], .c (.int .i64 600)]) (by first | rfl | simp only [w1, w2, zH, zI, ↓reduceIte, zA, zB, zC, zD, zE, zF, zG]) (h43 hP3 (by omega)) ?_
 rintro _ μ4 ⟨⟨y, rfl, hV4⟩, hs4⟩
 have n4 := hs4.2
 have lX4 := ldo lX3 hs4 (by omega)
 have hP4 := hP3.same hs4 (by omega)
 have hV34 : RingsV μ4.next μ4 (Lg.sc .rings l.length) l := (hV3.same hs4 (Nat.le_refl _)).mono n4
 obtain ⟨ga, gcap, hg1⟩ : ∃ a cap, Lg.sc IR.rings l.length = .slc a l.length cap := by obtain ⟨g, h1, _⟩ := hV34; exact h1.slc
 obtain ⟨ya, ycap, hy1⟩ : ∃ a cap, y = .slc a l.length cap := by obtain ⟨g, h1, _⟩ := hV4; exact h1.slc
 simp only [w1, w2, ↓reduceIte, zA, hg1, hy1, bneq rfl, lX4]
 refine R_callre (l := [.agg [x], .c (.int .i64 600)]) (by first | rfl | simp only [w1, w2, zH, zI, ↓reduceIte, zA, zB, zC, zD, zE, zF, zG]) (himpl hP4 (by omega)) ?_
 rintro vi μ5 ⟨⟨Lr, Cr, hr⟩, hs5⟩
 have n5 := hs5.2
 have lX5 := ldo lX4 hs5 (by omega)
 refine ⟨by simp only [List.all_cons, List.all_nil, Bool.and_true, Re.holds, w1, ↓reduceIte, zA, lX5, beq_self_eq_true], ?_⟩
 simp only [w1, ↓reduceIte, zA]
 refine R_calls (l := [.agg [x], .c (.int .i64 600)]) (by first | rfl | simp only [w1, w2, zH, zI, ↓reduceIte, zA, zB, zC, zD, zE, zF, zG]) (hspec (hP4.same hs5 (by omega)) (by omega)) ?_
 rintro vs μ6 ⟨hVs, hs6⟩
 have n6 := hs6.2
 simp only [w1, ↓reduceIte, zA]
 refine R_calls (l := [vi, vs]) (by first | rfl | simp only [w1, w2, zH, zI, ↓reduceIte, zA, zB, zC, zD, zE, zF, zG]) (wReport_ok ((hr.v.same hs6 (Nat.le_refl _)).mono' (hi' := μ6.next) n6) hVs (Nat.le_refl _) (by omega) (by omega)) ?_
 rintro v μ7 ⟨rfl, hs7⟩
 have s47 : Same μ4.next μ4 μ7 := hs5.trans ((hs6.mono n5).trans (hs7.mono (by omega)))
 have n47 := s47.2
 simp only [w1, w2, ↓reduceIte, zA]
 refine listLoop14 (hi := μ4.next) (n1 := μ1.next) (hV34.same s47 (Nat.le_refl _)) (hV4.same s47 (Nat.le_refl _)) ((hP4.mono (hi' := μ4.next) (by omega)).same s47 (Nat.le_refl _)) n47 (by omega) (ldo lX4 s47 (by omega)) hl1 hl2 hall l.length 0 _ μ7 (by omega) Same.refl ?_ ?_ ?_ ?_ ?_ ?_
 ·simp only [w1, ↓reduceIte, zA]
 ·simp only [w1, ↓reduceIte, zA, hg1]
 ·simp only [w1, ↓reduceIte, zA, hy1]
 ·simp only [w1, ↓reduceIte, zA]
 ·simp only [w1, ↓reduceIte]; rfl
 ·intro fr' μ'
  simp only [w1, w2, ↓reduceIte, aRet, aRes, aRes1]
  first | exact ⟨_, rfl, rfl⟩ | trivial | rfl
end Go.Proofs.Ytibmnlijoeppaaa
