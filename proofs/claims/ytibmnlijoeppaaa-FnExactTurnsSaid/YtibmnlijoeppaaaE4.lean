/-
 The exact law of RunPlan: reports are compared, marked, looked at again.
-/
import Derived.Test.YtibmnlijoeppaaaE3P
import Derived.Test.YtibmnlijoeppaaaE2
import Derived.Test.YtibmnlijoeppaaaE1R
namespace Go.Proofs.Ytibmnlijoeppaaa
open Nat renaming reduceEqDiff → zA, reduceAdd → zB, reduceLeDiff → zJ, reduceMul → zK
open Int renaming reduceLT → zC, reduceLE → zD, reduceNeg → zE, reduceBEq → zF, reduceBNe → zG
open AV renaming isTup → zH, cells → zI
set_option linter.unusedSimpArgs false
set_option linter.unusedVariables false

/-! 52: laws.eqReport -/
def r52 : RFun := ⟨32, [.tmp 4], (.seq (.reg [rI 0 (.box (.t 0) 5) 2, rI 1 (.box (.t 1) 5) 3, rI 2 (.mv (.k (.bool false))) 4]) (.seq (.seq (.reg [rI 0 (.fa (.t 2) 0) 5, rI 1 (.ld none (.t 5)) 6, rI 2 (.fa (.t 3) 0) 7, rI 3 (.ld none (.t 7)) 8, rI 4 (.bin .neq (.t 6) (.t 8)) 9]) (.ite (.t 9) (.seq (.reg [rI 0 (.mv (.k (.bool false))) 4]) .ret) .skip)) (.seq (.seq (.reg [rI 0 (.fa (.t 2) 1) 10, rI 1 (.ld none (.t 10)) 11, rI 2 (.fa (.t 3) 1) 12, rI 3 (.ld none (.t 12)) 13, rI 4 (.call 78 [.t 11, .t 13]) 14, rI 5 (.nt (.t 14)) 15]) (.ite (.t 15) (.seq (.reg [rI 0 (.mv (.k (.bool false))) 4]) .ret) .skip)) (.seq (.seq (.reg [rI 0 (.fa (.t 2) 2) 16, rI 1 (.ld none (.t 16)) 17, rI 2 (.fa (.t 3) 2) 18, rI 3 (.ld none (.t 18)) 19, rI 4 (.bin .neq (.t 17) (.t 19)) 20]) (.ite (.t 20) (.seq (.reg [rI 0 (.mv (.k (.bool false))) 4]) .ret) .skip)) (.seq (.seq (.reg [rI 0 (.fa (.t 2) 3) 21, rI 1 (.ld none (.t 21)) 22, rI 2 (.fa (.t 3) 3) 23, rI 3 (.ld none (.t 23)) 24, rI 4 (.bin .neq (.t 22) (.t 24)) 25]) (.ite (.t 25) (.seq (.reg [rI 0 (.mv (.k (.bool false))) 4]) .ret) .skip)) (.seq (.seq (.reg [rI 0 (.fa (.t 2) 4) 26, rI 1 (.ld none (.t 26)) 27, rI 2 (.fa (.t 3) 4) 28, rI 3 (.ld none (.t 28)) 29, rI 4 (.call 79 [.t 27, .t 29]) 30, rI 5 (.nt (.t 30)) 31]) (.ite (.t 31) (.seq (.reg [rI 0 (.mv (.k (.bool false))) 4]) .ret) .skip)) (.seq (.reg [rI 0 (.mv (.k (.bool true))) 4]) .ret)))))))⟩
theorem p52 : prog 52 = some r52 := by kernel_rfl

/-! 53: laws.markReport -/
def r53 : RFun := ⟨14, [.tmp 4], (.seq (.reg [rI 0 (.box (.t 0) 5) 2, rI 1 (.mv (.k (.int .i64 0))) 4]) (.seq (.reg [rI 0 (.fa (.t 2) 1) 5, rI 1 (.ld none (.t 5)) 6, rI 2 (.mv (.t 1)) 7, rI 3 (.call 80 [.t 6, .t 7]) 8, rI 4 (.mv (.t 8)) 1]) (.seq (.reg [rI 0 (.fa (.t 2) 4) 9, rI 1 (.ld none (.t 9)) 10, rI 2 (.mv (.t 1)) 11, rI 3 (.call 75 [.t 10, .t 11]) 12, rI 4 (.mv (.t 12)) 1]) (.seq (.reg [rI 0 (.mv (.t 1)) 13, rI 1 (.mv (.t 13)) 4]) .ret))))⟩
theorem p53 : prog 53 = some r53 := by kernel_rfl

/-! 54: laws.heldReport -/
def r54 : RFun := ⟨18, [.tmp 4], (.seq (.reg [rI 0 (.box (.t 0) 5) 2, rI 1 (.mv (.k (.int .i64 0))) 4]) (.seq (.reg [rI 0 (.fa (.t 2) 1) 5, rI 1 (.ld none (.t 5)) 6, rI 2 (.mv (.t 1)) 7, rI 3 (.call 81 [.t 6, .t 7]) 8, rI 4 (.mv (.t 8)) 1]) (.seq (.seq (.reg [rI 0 (.mv (.t 1)) 9, rI 1 (.bin .lss (.t 9) (.k (.int .i64 0))) 10]) (.ite (.t 10) (.seq (.reg [rI 0 (.mv (.k (.int .i64 (-1)))) 4]) .ret) .skip)) (.seq (.reg [rI 0 (.fa (.t 2) 4) 11, rI 1 (.ld none (.t 11)) 12, rI 2 (.mv (.t 1)) 13, rI 3 (.call 76 [.t 12, .t 13]) 14, rI 4 (.mv (.t 14)) 1]) (.seq (.seq (.reg [rI 0 (.mv (.t 1)) 15, rI 1 (.bin .lss (.t 15) (.k (.int .i64 0))) 16]) (.ite (.t 16) (.seq (.reg [rI 0 (.mv (.k (.int .i64 (-1)))) 4]) .ret) .skip)) (.seq (.reg [rI 0 (.mv (.t 1)) 17, rI 1 (.mv (.t 17)) 4]) .ret))))))⟩
theorem p54 : prog 54 = some r54 := by kernel_rfl



theorem eqReport_ok {hi : Nat} {μ : Mem} {v w : AV} {r : PReport} (h : RepV hi μ v r) (h' : RepV hi μ w r) (hh : hi ≤ μ.next) (h1 : r.recs.length ≤ 1000000000) (h2 : r.states.length ≤ 1000000000) :
  Ret 52 [v, w] μ fun z μ' => z = .c (.bool true) ∧ Same μ.next μ μ' := by
 obtain ⟨rc, sc, rfl, a1, a2⟩ := h
 obtain ⟨rc', sc', rfl, b1, b2⟩ := h'
 have hs : Same μ.next μ ((μ.new [.int .i64 r.code, rc, .int .i64 r.num, .int .i64 r.ticks, sc] 0).new [.int .i64 r.code, rc', .int .i64 r.num, .int .i64 r.ticks, sc'] 0) := (Same.tmp (Nat.le_refl _)).new (Nat.le_succ _)
 have hl : ∀ o x, [Cell.int .i64 r.code, rc, .int .i64 r.num, .int .i64 r.ticks, sc][o]? = some x → ((μ.new [.int .i64 r.code, rc, .int .i64 r.num, .int .i64 r.ticks, sc] 0).new [.int .i64 r.code, rc', .int .i64 r.num, .int .i64 r.ticks, sc'] 0).ld none μ.next o = some (.c x) := by
  intro o x e
  rw [Mem.new_ld, if_neg (by simp [Mem.new_next])]; exact new_ld0 e
 have hl' : ∀ o x, [Cell.int .i64 r.code, rc', .int .i64 r.num, .int .i64 r.ticks, sc'][o]? = some x → ((μ.new [.int .i64 r.code, rc, .int .i64 r.num, .int .i64 r.ticks, sc] 0).new [.int .i64 r.code, rc', .int .i64 r.num, .int .i64 r.ticks, sc'] 0).ld none (μ.next + 1) o = some (.c x) :=
  fun o x e => new_ld0 (μ := μ.new [.int .i64 r.code, rc, .int .i64 r.num, .int .i64 r.ticks, sc] 0) e
 have c0 := hl 0 _ rfl
 have c1 := hl 1 _ rfl
 have c2 := hl 2 _ rfl
 have c3 := hl 3 _ rfl
 have d0 := hl' 0 _ rfl
 have d1 := hl' 1 _ rfl
 have d2 := hl' 2 _ rfl
 have d3 := hl' 3 _ rfl
 have c4 := hl 4 _ rfl
 have d4 := hl' 4 _ rfl
 have hlt : μ.next + 1 < ((μ.new [.int .i64 r.code, rc, .int .i64 r.num, .int .i64 r.ticks, sc] 0).new [.int .i64 r.code, rc', .int .i64 r.num, .int .i64 r.ticks, sc'] 0).next := by simp only [Mem.new_next]; omega
 refine Ret_of p52 (by simp [r52]) ?_
 simp only [rI, r52, frOf_2]
 simp only [w1, w2, zH, zI, ↓reduceIte, zA, zB, Mem.new_next, c0, d0, bneq rfl, c1, d1]
 generalize (μ.new [.int .i64 r.code, rc, .int .i64 r.num, .int .i64 r.ticks, sc] 0).new [.int .i64 r.code, rc', .int .i64 r.num, .int .i64 r.ticks, sc'] 0 = μ1 at *
 have a1' := a1.same hs hh
 have b1' := b1.same hs hh
 have hn := hs.2
 refine R_calls (l := [.c rc, .c rc']) (by simp only [w1, w2, ↓reduceIte, zA]) (eqRecS_ok p78 p104 a1' b1' (by omega) h1) ?_
 rintro z μ2 ⟨rfl, hs2⟩
 have k : ∀ {b o : Nat} {x : AV}, b < μ1.next → μ1.ld none b o = some x → μ2.ld none b o = some x := fun hb e => (hs2.ld hb).trans e
 have c2' := k (by omega) c2
 have c3' := k (by omega) c3
 have c4' := k (by omega) c4
 have d2' := k hlt d2
 have d3' := k hlt d3
 have d4' := k hlt d4
 simp only [w1, w2, ↓reduceIte, zA, c2', d2', c3', d3', c4', d4', bneq rfl]
 have hs12 := hs.trans (hs2.mono hn)
 refine R_calls (l := [.c sc, .c sc']) (by simp only [w1, w2, ↓reduceIte, zA]) (eqInt_ok p79 (a2.same hs12 hh) (b2.same hs12 hh) h2) ?_
 rintro z μ3 ⟨rfl, rfl⟩
 simp only [w1, w2, ↓reduceIte, aRet, aRes, aRes1]
 exact ⟨_, rfl, rfl, hs12⟩

def rmarked (n : Nat) (r : PReport) : PReport := ⟨r.code, (List.range r.recs.length).map (rmark n), r.num, r.ticks, (List.range r.states.length).map (imark (n + 4 * r.recs.length))⟩

theorem markReport_ok {lo : Nat} {μ : Mem} {L : Lay IR} {C : Con IR} {v : AV} {r : PReport} {n : Nat} (h : RepH lo μ L C v r) (hb : n + 4 * r.recs.length + r.states.length ≤ 1000000000) :
  Ret 53 [v, .c (.int .i64 n)] μ fun z μ' => z = .c (.int .i64 ((n + 4 * r.recs.length + r.states.length : Nat) : Int)) ∧ (∃ C', RepH lo μ' L C' v (rmarked n r)) ∧ μ'.next = μ.next + 1 ∧ ∀ b, b < μ.next → (∀ x, L.on x = true → L.id x ≠ b) → μ'.obj b = μ.obj b := by
 obtain ⟨h1, h2, h3, rfl⟩ := h
 have hl : ∀ o x, [Cell.int .i64 r.code, L.sc .recs r.recs.length, .int .i64 r.num, .int .i64 r.ticks, L.sc .states r.states.length][o]? = some x → (μ.new [.int .i64 r.code, L.sc .recs r.recs.length, .int .i64 r.num, .int .i64 r.ticks, L.sc .states r.states.length] 0).ld none μ.next o = some (.c x) := fun o x e => new_ld0 e
 have c1 := hl 1 _ rfl
 have c4 := hl 4 _ rfl
 have ht : Has L C lo (μ.new [.int .i64 r.code, L.sc .recs r.recs.length, .int .i64 r.num, .int .i64 r.ticks, L.sc .states r.states.length] 0) := h1.tmp
 have hnx : (μ.new [.int .i64 r.code, L.sc .recs r.recs.length, .int .i64 r.num, .int .i64 r.ticks, L.sc .states r.states.length] 0).next = μ.next + 1 := by simp only [Mem.new_next]
 have hob : ∀ b, b < μ.next → (μ.new [.int .i64 r.code, L.sc .recs r.recs.length, .int .i64 r.num, .int .i64 r.ticks, L.sc .states r.states.length] 0).obj b = μ.obj b := fun b hb => by simp only [Mem.new]; rw [if_neg (by omega)]
 refine Ret_of p53 (by simp [r53]) ?_
 simp only [rI, r53, frOf_2]
 simp only [w1, w2, zH, zI, ↓reduceIte, zA, zB, c1]
 generalize μ.new [.int .i64 r.code, L.sc .recs r.recs.length, .int .i64 r.num, .int .i64 r.ticks, L.sc .states r.states.length] 0 = μ1 at *
 refine R_calls (l := [.c (L.sc .recs r.recs.length), .c (.int .i64 n)]) (by simp only [w1, w2, ↓reduceIte, zA]) (markRec_ok p80 (n := n) (by omega) ht h2) ?_
 rintro z μ2 ⟨rfl, hm2, n2, o2⟩
 have c4' : μ2.ld none μ.next 4 = some (.c (L.sc .states r.states.length)) := by
  rw [← c4]; simp only [Mem.ld]; rw [o2 _ (fun hon e => by have := h1.lt _ hon; omega)]
 simp only [w1, w2, ↓reduceIte, zA, c4']
 refine R_calls (l := [.c (L.sc .states r.states.length), .c (.int .i64 ((n + 4 * r.recs.length : Nat) : Int))]) (by simp only [w1, w2, ↓reduceIte, zA]) (markInt_ok p75 (n := n + 4 * r.recs.length) (by omega) hm2 (r := .states) (by simp only [Con.upd]; rw [if_neg (by intro hh; cases hh)]; exact h3)) ?_
 rintro z μ3 ⟨rfl, hm3, n3, o3⟩
 simp only [w1, w2, ↓reduceIte, aRet, aRes, aRes1]
 refine ⟨_, rfl, rfl, ⟨_, hm3, ?_, ?_, ?_⟩, by rw [n3, n2, hnx], fun b hb hf => ?_⟩
 ·simp only [Con.upd]; rw [if_neg (by intro hh; cases hh), if_pos trivial]; rfl
 ·simp only [Con.upd]; rw [if_pos trivial]; rfl
 ·simp only [rmarked, List.length_map, List.length_range]
 ·rw [o3 b (fun hon e => hf _ hon e.symm), o2 b (fun hon e => hf _ hon e.symm), hob b hb]

theorem heldReport_ok {hi : Nat} {μ : Mem} {v : AV} {r : PReport} {n : Nat} (h : RepV hi μ v (rmarked n r)) (hh : hi ≤ μ.next) (hb : n + 4 * r.recs.length + r.states.length ≤ 1000000000) :
  Ret 54 [v, .c (.int .i64 n)] μ fun z μ' => z = .c (.int .i64 ((n + 4 * r.recs.length + r.states.length : Nat) : Int)) ∧ Same μ.next μ μ' := by
 obtain ⟨rc, sc, rfl, a1, a2⟩ := h
 simp only [rmarked, List.length_map, List.length_range] at a1 a2
 have hs : Same μ.next μ (μ.new [.int .i64 r.code, rc, .int .i64 r.num, .int .i64 r.ticks, sc] 0) := Same.tmp (Nat.le_refl _)
 have c1 : (μ.new [.int .i64 r.code, rc, .int .i64 r.num, .int .i64 r.ticks, sc] 0).ld none μ.next 1 = some (.c rc) := new_ld0 rfl
 have c4 : (μ.new [.int .i64 r.code, rc, .int .i64 r.num, .int .i64 r.ticks, sc] 0).ld none μ.next 4 = some (.c sc) := new_ld0 rfl
 refine Ret_of p54 (by simp [r54]) ?_
 simp only [rI, r54, frOf_2, rmarked]
 simp only [w1, w2, zH, zI, ↓reduceIte, zA, zB, zE, c1]
 generalize μ.new [.int .i64 r.code, rc, .int .i64 r.num, .int .i64 r.ticks, sc] 0 = μ1 at *
 refine R_calls (l := [.c rc, .c (.int .i64 n)]) (by simp only [w1, w2, ↓reduceIte, zA]) (heldRec_ok p81 (n := n) (m := r.recs.length) (by omega) (a1.same hs hh)) ?_
 rintro z μ2 ⟨rfl, rfl⟩
 simp only [w1, w2, ↓reduceIte, zE]
 rw [decide_eq_false (by omega)]
 simp only [w1, w2, ↓reduceIte, zA, zE, c4]
 refine R_calls (l := [.c sc, .c (.int .i64 ((n + 4 * r.recs.length : Nat) : Int))]) (by simp only [w1, w2, ↓reduceIte, zA]) (heldInt_ok p76 (n := n + 4 * r.recs.length) (m := r.states.length) (by omega) (a2.same hs hh)) ?_
 rintro z μ3 ⟨rfl, rfl⟩
 simp only [w1, w2, ↓reduceIte, zE]
 rw [decide_eq_false (by omega)]
 simp only [w1, w2, ↓reduceIte, zA, zE, aRet, aRes, aRes1]
 exact ⟨_, rfl, rfl, hs⟩
end Go.Proofs.Ytibmnlijoeppaaa
