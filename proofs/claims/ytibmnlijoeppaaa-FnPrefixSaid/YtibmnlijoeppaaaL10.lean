/-
 The law FnPrefix returns true.
-/
import Derived.Test.YtibmnlijoeppaaaDAll
import Derived.Test.YtibmnlijoeppaaaWR
import Derived.Test.YtibmnlijoeppaaaE3P
import Derived.Test.YtibmnlijoeppaaaPre
namespace Go.Proofs.Ytibmnlijoeppaaa
open Nat renaming reduceEqDiff → zA, reduceAdd → zB, reduceLeDiff → zJ, reduceMul → zK
open Int renaming reduceLT → zC, reduceLE → zD, reduceNeg → zE, reduceBEq → zF, reduceBNe → zG
open AV renaming isTup → zH, cells → zI
set_option linter.unusedSimpArgs false
set_option linter.unusedVariables false

/-! 10: laws.FnPrefix -/
def r10 : RFun := ⟨75, [.tmp 4], (.seq (.reg [rI 0 (.mv (.k (.bool false))) 4]) (.seq (.seq (.reg [rI 0 (.mv (.t 0)) 9, rI 1 (.len (.t 9)) 10, rI 2 (.bin .gtr (.t 10) (.k (.int .i64 1048576))) 11, rI 3 (.mv (.t 11)) 12, ⟨4, .mv (.t 1), some 13, some (12, false), []⟩, ⟨5, .len (.t 13), some 14, some (12, false), []⟩, ⟨6, .bin .gtr (.t 14) (.k (.int .i64 1048576)), some 15, some (12, false), []⟩, rI 7 (.pick (.t 12) (.k (.bool true)) (.t 15)) 16]) (.ite (.t 16) (.seq (.reg [rI 0 (.mv (.k (.bool true))) 4]) .ret) .skip)) (.seq (.reg [rI 0 (.mv (.t 0)) 17, rI 1 (.call 33 [.t 17]) 18, rI 2 (.alc [.slc none 0 0]) 5, ⟨3, .st (.t 5) (.t 18) 1, none, none, []⟩]) (.seq (.reg [rI 0 (.ld (some 1) (.t 5)) 19, rI 1 (.call 26 [.t 19, .k (.int .i64 600)]) 20, rI 2 (.alc [.int .i64 0, .slc none 0 0, .int .i64 0, .int .i64 0, .slc none 0 0]) 6, ⟨3, .st (.t 6) (.t 20) 5, none, none, []⟩]) (.seq (.seq (.reg [rI 0 (.ld (some 5) (.t 6)) 21, rI 1 (.ld (some 1) (.t 5)) 22, ⟨2, .call 37 [.t 22, .k (.int .i64 600)], some 23, none, [.ld 21 (some 5) (.t 6)]⟩, rI 3 (.call 36 [.t 21, .t 23]) 24, rI 4 (.nt (.t 24)) 25]) (.ite (.t 25) (.seq (.reg [rI 0 (.mv (.k (.bool false))) 4]) .ret) .skip)) (.seq (.seq (.reg [rI 0 (.fa (.t 6) 3) 26, rI 1 (.ld none (.t 26)) 27, rI 2 (.bin .eql (.t 27) (.k (.int .i64 0))) 28]) (.ite (.t 28) (.seq (.reg [rI 0 (.mv (.k (.bool true))) 4]) .ret) .skip)) (.seq (.reg [rI 0 (.mv (.t 1)) 29, rI 2 (.mv (.t 1)) 31, rI 6 (.fa (.t 6) 3) 35, rI 7 (.ld none (.t 35)) 36, ⟨1, .call 24 [.t 29, .k (.int .i64 0)], some 30, none, [.ld 36 none (.t 35)]⟩, ⟨3, .call 24 [.t 31, .k (.int .i64 1)], some 32, none, [.ld 36 none (.t 35)]⟩, rI 4 (.bin .mul (.k (.int .i64 256)) (.t 32)) 33, rI 5 (.bin .add (.t 30) (.t 33)) 34, rI 8 (.bin .rem (.t 34) (.t 36)) 37, rI 9 (.mv (.t 37)) 7]) (.seq (.reg [rI 0 (.ld (some 1) (.t 5)) 38, rI 1 (.mv (.t 7)) 39, rI 2 (.call 26 [.t 38, .t 39]) 40, rI 3 (.alc [.int .i64 0, .slc none 0 0, .int .i64 0, .int .i64 0, .slc none 0 0]) 8, ⟨4, .st (.t 8) (.t 40) 5, none, none, []⟩]) (.seq (.reg [rI 0 (.fa (.t 8) 0) 41, rI 1 (.ld none (.t 41)) 42, rI 2 (.bin .eql (.t 42) (.k (.int .i64 2))) 43, rI 3 (.mv (.t 43)) 44, ⟨4, .fa (.t 8) 3, some 45, some (44, true), []⟩, ⟨6, .mv (.t 7), some 47, some (44, true), []⟩, ⟨5, .ld none (.t 45), some 46, some (44, true), []⟩, ⟨7, .bin .eql (.t 46) (.t 47), some 48, some (44, true), []⟩, rI 8 (.pick (.t 44) (.t 48) (.k (.bool false))) 49, rI 9 (.mv (.t 49)) 50, ⟨10, .fa (.t 8) 2, some 51, some (50, true), []⟩, ⟨11, .ld none (.t 51), some 52, some (50, true), []⟩, ⟨12, .bin .eql (.t 52) (.k (.int .i64 0)), some 53, some (50, true), []⟩, rI 13 (.pick (.t 50) (.t 53) (.k (.bool false))) 54, rI 14 (.mv (.t 54)) 55, ⟨15, .fa (.t 8) 1, some 56, some (55, true), []⟩, ⟨18, .fa (.t 6) 1, some 59, some (55, true), []⟩, ⟨16, .ld none (.t 56), some 57, some (55, true), []⟩, ⟨17, .len (.t 57), some 58, some (55, true), []⟩, ⟨19, .ld none (.t 59), some 60, some (55, true), []⟩, ⟨20, .len (.t 60), some 61, some (55, true), []⟩, ⟨21, .bin .leq (.t 58) (.t 61), some 62, some (55, true), []⟩, rI 22 (.pick (.t 55) (.t 62) (.k (.bool false))) 63, rI 23 (.mv (.t 63)) 64, ⟨24, .fa (.t 8) 1, some 65, some (64, true), []⟩, ⟨26, .fa (.t 6) 1, some 67, some (64, true), []⟩, ⟨28, .fa (.t 8) 1, some 69, some (64, true), []⟩, ⟨25, .ld none (.t 65), some 66, some (64, true), []⟩, ⟨27, .ld none (.t 67), some 68, some (64, true), []⟩, ⟨29, .ld none (.t 69), some 70, some (64, true), []⟩, ⟨30, .len (.t 70), some 71, some (64, true), []⟩, ⟨31, .slc 4 (.t 68) none (some (.t 71)), some 72, some (64, true), []⟩, ⟨32, .call 38 [.t 66, .t 72], some 73, some (64, true), []⟩, rI 33 (.pick (.t 64) (.t 73) (.k (.bool false))) 74, rI 34 (.mv (.t 74)) 4]) .ret)))))))))⟩
theorem p10 : prog 10 = some r10 := by kernel_rfl



theorem RepH.agg {lo : Nat} {μ : Mem} {L : Lay IR} {C : Con IR} {v : AV} {r : PReport} (h : RepH lo μ L C v r) : v = .agg [.int .i64 r.code, L.sc .recs r.recs.length, .int .i64 r.num, .int .i64 r.ticks, L.sc .states r.states.length] := h.2.2.2

theorem ld_of {μ μ' : Mem} {i o : Nat} {n : Option Nat} {v : AV} (h : μ.ld n i o = some v) {lo : Nat} (hs : Same lo μ μ') (hl : i < lo) : μ'.ld n i o = some v := (hs.ld hl).trans h

theorem runs_det {p : PPlan} : ∀ (m n : Nat) (S A B : PM), PM.runs p m S = some A → PM.runs p n S = some B → A = B
 | 0, _, _, _, _, h, _ => by cases h
 | _ + 1, 0, _, _, _, _, h => by cases h
 | m + 1, n + 1, S, A, B, h, h' => by
  unfold PM.runs at h h'
  split at h
  ·rename_i ho
   rw [if_pos ho] at h'
   exact (Option.some.inj h).symm.trans (Option.some.inj h')
  ·rename_i ho
   rw [if_neg ho] at h'
   split at h
   ·rename_i hr
    rw [if_pos hr] at h'
    obtain ⟨S1, a1, a2⟩ := Option.bind_eq_some_iff.1 h
    obtain ⟨S2, b1, b2⟩ := Option.bind_eq_some_iff.1 h'
    rw [a1] at b1
    obtain rfl := Option.some.inj b1
    exact runs_det m n S1 A B a2 b2
   ·cases h

theorem law10 {hi : Nat} {μ : Mem} {c0 c1 : Cell} {b0 b1 : List Int} (hR0 : Rd hi μ 1 c0 b0.length (cat brow 0 b0)) (hR1 : Rd hi μ 1 c1 b1.length (cat brow 0 b1)) (hh : hi ≤ μ.next) (hn : μ.next = 2) (r0 : ∀ y ∈ b0, 0 ≤ y ∧ y ≤ 255) (r1 : ∀ y ∈ b1, 0 ≤ y ∧ y ≤ 255) :
  Ret 10 [.c c0, .c c1] μ fun v μ' => v = .c (.bool true) := by
 obtain ⟨a0, k0, e0⟩ := hR0.slc
 obtain ⟨a1, k1, e1⟩ := hR1.slc
 refine Ret_of p10 (by simp [r10]) ?_
 simp only [rI, r10, frOf_2]
 simp only [w1, w2, ↓reduceIte, zA, e0]
 by_cases hl0 : (b0.length : Int) > 1048576
 ·rw [decide_eq_true hl0]
  simp only [w1, w2, ↓reduceIte, zA, m1, m2, aRet, aRes, aRes1]
 rw [decide_eq_false hl0]
 simp only [w1, w2, ↓reduceIte, zA, e1]
 by_cases hl1 : (b1.length : Int) > 1048576
 ·rw [decide_eq_true hl1]
  simp only [w1, w2, ↓reduceIte, m1, m2, aRet, aRes, aRes1]
 rw [decide_eq_false hl1]
 simp only [w1, w2, ↓reduceIte, zA]
 -- the plan
 rw [← e0, ← e1]
 refine R_calls (l := [.c c0]) (by first | rfl | simp only [w1, w2, zH, zI, ↓reduceIte, zA, zB, zC, zD, zE, zF, zG, e0]) (drawn_ok (bs := b0) hR0 hh r0) ?_
 rintro v μ1 ⟨x, p, rfl, hP, hL, hs1⟩
 have n1 := hs1.2
 simp only [w1, w2, zH, zI, ↓reduceIte, zA, new_st0 (μ := μ1) (cs := [.slc none 0 0]) (x := [x]) (e := 0) rfl, show ([x] : List Cell).length = 1 from rfl]
 have hs2 : Same μ1.next μ1 (μ1.new [x] 0) := Same.tmp (Nat.le_refl _)
 have n2 : (μ1.new [x] 0).next = μ1.next + 1 := rfl
 have lX : (μ1.new [x] 0).ld (some 1) μ1.next 0 = some (.agg [x]) := by rw [Mem.new_ld, if_pos rfl]; rfl
 have hP2 := hP.same hs2 (Nat.le_refl _)
 generalize μ1.new [x] 0 = μ2 at *
 simp only [w2, lX]
 obtain ⟨r, hrl, hsl, himpl, hspec, hcase⟩ := reports' p 600 hL
 refine R_calls (l := [.agg [x], .c (.int .i64 600)]) (by first | rfl | simp only [w1, w2, zH, zI, ↓reduceIte, zA, zB, zC, zD, zE, zF, zG]) (himpl hP2 (by omega)) ?_
 rintro _ μ3 ⟨⟨Lg, Cg, hG⟩, hs3⟩
 have n3 := hs3.2
 obtain rfl := hG.agg
 have e5 : ∀ (q w : Cell), ([.int .i64 r.code, q, .int .i64 r.num, .int .i64 r.ticks, w] : List Cell).length = 5 := fun _ _ => rfl
 simp only [w1, w2, zH, zI, ↓reduceIte, zA, e5, new_st0 (μ := μ3) (cs := [.int .i64 0, .slc none 0 0, .int .i64 0, .int .i64 0, .slc none 0 0]) (x := [.int .i64 r.code, Lg.sc .recs r.recs.length, .int .i64 r.num, .int .i64 r.ticks, Lg.sc .states r.states.length]) (e := 0) rfl]
 have hG4 := hG.1.tmp (cs := [.int .i64 r.code, Lg.sc .recs r.recs.length, .int .i64 r.num, .int .i64 r.ticks, Lg.sc .states r.states.length]) (sz := 0)
 have hV3 := hG.v
 have hs4 : Same μ3.next μ3 (μ3.new [.int .i64 r.code, Lg.sc .recs r.recs.length, .int .i64 r.num, .int .i64 r.ticks, Lg.sc .states r.states.length] 0) := Same.tmp (Nat.le_refl _)
 have n4 : (μ3.new [.int .i64 r.code, Lg.sc .recs r.recs.length, .int .i64 r.num, .int .i64 r.ticks, Lg.sc .states r.states.length] 0).next = μ3.next + 1 := rfl
 have lG : (μ3.new [.int .i64 r.code, Lg.sc .recs r.recs.length, .int .i64 r.num, .int .i64 r.ticks, Lg.sc .states r.states.length] 0).ld (some 5) μ3.next 0 = some (.agg [.int .i64 r.code, Lg.sc .recs r.recs.length, .int .i64 r.num, .int .i64 r.ticks, Lg.sc .states r.states.length]) := by rw [Mem.new_ld, if_pos rfl]; rfl
 have lG1 : (μ3.new [.int .i64 r.code, Lg.sc .recs r.recs.length, .int .i64 r.num, .int .i64 r.ticks, Lg.sc .states r.states.length] 0).ld none μ3.next 1 = some (.c (Lg.sc .recs r.recs.length)) := new_ld0 rfl
 have lG3 : (μ3.new [.int .i64 r.code, Lg.sc .recs r.recs.length, .int .i64 r.num, .int .i64 r.ticks, Lg.sc .states r.states.length] 0).ld none μ3.next 3 = some (.c (.int .i64 r.ticks)) := new_ld0 rfl
 have hV4 := hV3.same hs4 (Nat.le_refl _)
 have lX4 := ld_of (ld_of lX hs3 (by omega)) hs4 (by omega)
 have hP4 := (hP2.same hs3 (by omega)).same hs4 (by omega)
 generalize μ3.new [.int .i64 r.code, Lg.sc .recs r.recs.length, .int .i64 r.num, .int .i64 r.ticks, Lg.sc .states r.states.length] 0 = μ4 at *
 simp only [w2, lG, lX4]
 -- the reference
 refine R_callre (l := [.agg [x], .c (.int .i64 600)]) (by first | rfl | simp only [w1, w2, zH, zI, ↓reduceIte, zA, zB, zC, zD, zE, zF, zG]) (hspec hP4 (by omega)) ?_
 rintro vs μ5 ⟨hVs, hs5⟩
 have n5 := hs5.2
 have lG5 := ld_of lG hs5 (by omega)
 refine ⟨by simp only [List.all_cons, List.all_nil, Bool.and_true, Re.holds, w1, ↓reduceIte, zA, lG5, beq_self_eq_true], ?_⟩
 simp only [w1]
 refine R_calls (l := [.agg [.int .i64 r.code, Lg.sc .recs r.recs.length, .int .i64 r.num, .int .i64 r.ticks, Lg.sc .states r.states.length], vs]) (by first | rfl | simp only [w1, w2, zH, zI, ↓reduceIte, zA, zB, zC, zD, zE, zF, zG]) (wReport_ok ((hV4.same hs5 (by omega)).mono' (hi' := μ5.next) (by omega)) hVs (Nat.le_refl _) (by omega) (by omega)) ?_
 rintro v μ6 ⟨rfl, hs6⟩
 have n6 := hs6.2
 have s46 : Same μ4.next μ4 μ6 := hs5.trans (hs6.mono (by omega))
 have t6 := ld_of lG3 s46 (by omega)
 simp only [w1, w2, ↓reduceIte, zA, t6]
 by_cases ht0 : r.ticks = 0
 ·simp only [w1, w2, ↓reduceIte, beq_tt ht0, m1, m2, aRet, aRes, aRes1]
 simp only [w1, w2, ↓reduceIte, zA, beq_ff ht0, t6]
 rcases hcase with ⟨rfl, _⟩ | ⟨S, T, m, hrun, hm, hf, rfl⟩
 ·exact absurd rfl ht0
 have hrun' := hrun
 unfold X.runnable at hrun'
 simp only [Bool.and_eq_true, decide_eq_true_eq] at hrun'
 obtain ⟨⟨hok, _⟩, _⟩ := hrun'
 have hS0 : (S.report).ticks = S.used := rfl
 obtain ⟨S0, q0, q1⟩ := Option.bind_eq_some_iff.1 hm
 have hpos : 0 < S.used ∧ S.used ≤ 600 := by
  have := run_ticks hm ⟨by omega, by omega⟩
  rw [hS0] at ht0
  omega
 -- bytes
 have hB1 : Rd hi μ6 1 c1 b1.length (cat brow 0 b1) := hR1.same (hs1.trans ((hs2.mono n1).trans ((hs3.mono (by omega)).trans ((hs4.mono (by omega)).trans (s46.mono (by omega)))))) hh
 have hre : ∀ {fr : Fr}, fr 35 = pt μ3.next 3 → fr 36 = .c (.int .i64 (S.report).ticks) → ([Re.ld 36 none (.t 35)].all fun x => x.holds fr μ6) = true := fun f35 f36 => by
  simp only [List.all_cons, List.all_nil, Bool.and_true, Re.holds, Opd.ev_t, f35, f36, pt, t6, beq_self_eq_true]
 refine R_callre (l := [.c c1, .c (.int .i64 ((0 : Nat) : Int))]) (by first | rfl | simp only [w1, w2, zH, zI, ↓reduceIte, zA, zB, zC, zD, zE, zF, zG]) (wByte_ok hB1 r1 0) ?_
 rintro v μ7 ⟨⟨y0, rfl, hy0⟩, hμ7⟩
 subst hμ7
 refine ⟨hre (by simp only [w1, ↓reduceIte, zA]) (by simp only [w1, ↓reduceIte]), ?_⟩
 refine R_callre (l := [.c c1, .c (.int .i64 ((1 : Nat) : Int))]) (by first | rfl | simp only [w1, w2, zH, zI, ↓reduceIte, zA, zB, zC, zD, zE, zF, zG]) (wByte_ok hB1 r1 1) ?_
 rintro v μ7 ⟨⟨y1, rfl, hy1⟩, hμ7⟩
 subst hμ7
 refine ⟨hre (by simp only [w1, ↓reduceIte, zA]) (by simp only [w1, ↓reduceIte, zA]), ?_⟩
 simp only [w1, w2, ↓reduceIte, zA]
 rw [small (n := 256 * y1) (by omega), small (n := y0 + 256 * y1) (by omega), vbin_rem ht0]
 have hX7 := ld_of lX4 s46 (by omega)
 have htl : 0 ≤ (y0 + 256 * y1).tmod (S.report).ticks ∧ (y0 + 256 * y1).tmod (S.report).ticks < S.used := ⟨Int.tmod_nonneg _ (by omega), Int.tmod_lt_of_pos _ (by rw [hS0]; omega)⟩
 generalize (y0 + 256 * y1).tmod (S.report).ticks = t at htl
 -- fewer ticks
 obtain ⟨mB, B, g1, g2, g3, g4, l, g5⟩ := run_prefix (t := t) hm ⟨by omega, by omega⟩ htl
 obtain ⟨SB, TB, ⟨mb, hmb⟩, _, hfB⟩ := both_end hok (ticks := t) ⟨htl.1, by omega⟩
 have hSB : SB = B := by
  obtain ⟨z1, u1, u2⟩ := Option.bind_eq_some_iff.1 hmb
  obtain ⟨z2, u3, u4⟩ := Option.bind_eq_some_iff.1 g1
  rw [u1] at u3
  obtain rfl := Option.some.inj u3
  exact runs_det _ _ _ _ _ u2 u4
 subst hSB
 have hgB : Goes p t none SB := ⟨⟨mb, hmb⟩, ⟨htl.1, by omega⟩, hok, by have := hfB.few; unfold roomy; omega, hfB.statesS⟩
 simp only [w2, hX7]
 have hP7 : PlanR μ1.next μ7 x p := hP4.same s46 (by omega)
 refine R_calls (l := [.agg [x], .c (.int .i64 t)]) (by first | rfl | simp only [w1, w2, zH, zI, ↓reduceIte, zA, zB, zC, zD, zE, zF, zG]) (runPlan_h hP7 (by omega) hL hgB) ?_
 rintro _ μ8 ⟨⟨Lb, Cb, hB⟩, hs8⟩
 have n8 := hs8.2
 obtain rfl := hB.agg
 have e5' : ∀ (q w : Cell), ([.int .i64 (SB.report).code, q, .int .i64 (SB.report).num, .int .i64 (SB.report).ticks, w] : List Cell).length = 5 := fun _ _ => rfl
 simp only [w1, w2, zH, zI, ↓reduceIte, zA, e5', new_st0 (μ := μ8) (cs := [.int .i64 0, .slc none 0 0, .int .i64 0, .int .i64 0, .slc none 0 0]) (x := [.int .i64 (SB.report).code, Lb.sc .recs (SB.report).recs.length, .int .i64 (SB.report).num, .int .i64 (SB.report).ticks, Lb.sc .states (SB.report).states.length]) (e := 0) rfl]
 have hs9 : Same μ8.next μ8 (μ8.new [.int .i64 (SB.report).code, Lb.sc .recs (SB.report).recs.length, .int .i64 (SB.report).num, .int .i64 (SB.report).ticks, Lb.sc .states (SB.report).states.length] 0) := Same.tmp (Nat.le_refl _)
 have n9 : (μ8.new [.int .i64 (SB.report).code, Lb.sc .recs (SB.report).recs.length, .int .i64 (SB.report).num, .int .i64 (SB.report).ticks, Lb.sc .states (SB.report).states.length] 0).next = μ8.next + 1 := rfl
 have lB : ∀ o y, [Cell.int .i64 (SB.report).code, Lb.sc .recs (SB.report).recs.length, .int .i64 (SB.report).num, .int .i64 (SB.report).ticks, Lb.sc .states (SB.report).states.length][o]? = some y → (μ8.new [.int .i64 (SB.report).code, Lb.sc .recs (SB.report).recs.length, .int .i64 (SB.report).num, .int .i64 (SB.report).ticks, Lb.sc .states (SB.report).states.length] 0).ld none μ8.next o = some (.c y) := fun o y e => new_ld0 e
 have l0 := lB 0 _ rfl
 have l1 := lB 1 _ rfl
 have l2 := lB 2 _ rfl
 have l3 := lB 3 _ rfl
 have hVB := hB.1.rd hB.2.1 (n := (SB.report).recs.length) (by rw [cat_length recrow_len]) (by omega)
 have hVB9 := hVB.same hs9 (Nat.le_refl _)
 have hG6 : Has Lg Cg μ2.next μ7 := hG4.same s46 (Nat.le_refl _)
 have s68 : Same μ7.next μ7 (μ8.new [.int .i64 (SB.report).code, Lb.sc .recs (SB.report).recs.length, .int .i64 (SB.report).num, .int .i64 (SB.report).ticks, Lb.sc .states (SB.report).states.length] 0) := hs8.trans (hs9.mono n8)
 have hG9 := hG6.same s68 (Nat.le_refl _)
 have lW1 := ld_of (ld_of lG1 s46 (by omega)) s68 (by omega)
 generalize μ8.new [.int .i64 (SB.report).code, Lb.sc .recs (SB.report).recs.length, .int .i64 (SB.report).num, .int .i64 (SB.report).ticks, Lb.sc .states (SB.report).states.length] 0 = μ9 at *
 have v0 : (SB.report).code = 2 := g2
 have v2 : (SB.report).num = 0 := g4
 have v3 : (SB.report).ticks = t := g3
 have vr : (S.report).recs = (SB.report).recs ++ l := g5
 have hle : (SB.report).recs.length ≤ (S.report).recs.length := by rw [vr]; simp
 have hrl' : (S.report).recs.length ≤ 600000 := hrl
 obtain ⟨xa, xc, hxs⟩ := hVB9.slc
 have hcat : cat recrow 0 (S.report).recs = cat recrow 0 (SB.report).recs ++ cat recrow (0 + (SB.report).recs.length) l := by rw [vr, cat_append]
 have hup := hG9.upto hG.2.1 (n := (S.report).recs.length) (m := (SB.report).recs.length) (by rw [cat_length recrow_len]) (by omega) hle (kd := .i64)
 have hcut := hG9.cut (r := .recs) (sz := 4) (cs := cat recrow 0 (SB.report).recs) (cs' := cat recrow (0 + (SB.report).recs.length) l) (by rw [← hcat]; exact hG.2.1) (by omega)
 have hVW := hcut.rd (r := .recs) (sz := 4) (n := (SB.report).recs.length) (cs := cat recrow 0 (SB.report).recs) (by simp only [Con.upd, if_true]) (by rw [cat_length recrow_len]) (by omega)
 obtain ⟨ya, yc, hys⟩ := hG9.scf hG.2.1 (n := (S.report).recs.length) (by rw [cat_length recrow_len]) (by omega)
 have f0 : ((SB.report).code == 2) = true := beq_tt v0
 have f3 : ((SB.report).ticks == t) = true := beq_tt v3
 have f2 : ((SB.report).num == 0) = true := beq_tt v2
 rw [hxs] at l1
 rw [hys] at lW1 hup
 simp only [w1, w2, ↓reduceIte, zA, l0, f0, l3, f3, l2, f2, l1, lW1]
 rw [decide_eq_true (show ((SB.report).recs.length : Int) ≤ (S.report).recs.length by omega)]
 simp only [w1, w2, ↓reduceIte, zA, l1, lW1, hup]
 refine R_calls (l := [.c (.slc xa (SB.report).recs.length xc), .c (Lg.sc .recs (SB.report).recs.length)]) (by first | rfl | simp only [w1, w2, zH, zI, ↓reduceIte, zA, zB, zC, zD, zE, zF, zG]) (wRecs_ok (by rw [← hxs]; exact hVB9.mono (hi' := μ9.next) (by omega)) hVW (by omega)) ?_
 rintro v μ10 ⟨rfl, _⟩
 simp only [w1, ↓reduceIte, zA, aRet, aRes, aRes1]
 first | exact ⟨_, rfl, rfl⟩ | trivial | rfl
end Go.Proofs.Ytibmnlijoeppaaa
