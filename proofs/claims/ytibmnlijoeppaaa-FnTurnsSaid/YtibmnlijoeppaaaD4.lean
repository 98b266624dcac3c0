/-
 Drawn plans: a body is written.
-/
import Derived.Test.YtibmnlijoeppaaaD3
namespace Go.Proofs.Ytibmnlijoeppaaa
open Nat renaming reduceEqDiff → zA, reduceAdd → zB, reduceLeDiff → zJ, reduceMul → zK
open Int renaming reduceLT → zC, reduceLE → zD, reduceNeg → zE, reduceBEq → zF, reduceBNe → zG
open AV renaming isTup → zH, cells → zI
set_option linter.unusedSimpArgs false
set_option linter.unusedVariables false

/-! 68: spec.l4Cur).plan -/
def b68_0 : RCode := (.seq (.seq (.reg [rI 0 (.mv (.t 7)) 27, rI 1 (.mv (.t 4)) 28, rI 2 (.bin .lss (.t 27) (.t 28)) 29]) (.ite (.t 29) .skip (.exit 2))) (.seq (.blk 3 (.reg [rI 0 (.mv (.t 6)) 32, rI 1 (.mv (.t 0)) 33, rI 3 (.mv (.t 7)) 35, rI 4 (.bin .add (.t 35) (.k (.int .i64 1))) 36, rI 5 (.mv (.t 4)) 37, rI 6 (.bin .rem (.t 36) (.t 37)) 38, rI 2 (.call 94 [.t 33, .k (.int .i64 3)]) 34, rI 7 (.bld [.int .i64 0, .int .i64 0, .int .i64 0, .int .i64 0, .int .i64 0] [(0, 1, .k (.int .i64 4)), (1, 1, .t 34), (2, 1, .t 38)]) 39, rI 8 (.call 95 [.t 32, .t 39]) 40])) (.reg [rI 0 (.mv (.t 7)) 30, rI 1 (.bin .add (.t 30) (.k (.int .i64 1))) 31, rI 2 (.mv (.t 31)) 7])))
def u68 : RCode := (.seq (.reg [rI 0 (.mv (.t 5)) 97, rI 1 (.bin .gtr (.t 97) (.k (.int .i64 0))) 98, rI 2 (.mv (.t 98)) 99, ⟨3, .mv (.t 0), some 100, some (99, true), []⟩, ⟨4, .call 94 [.t 100, .k (.int .i64 3)], some 101, some (99, true), []⟩, ⟨5, .bin .eql (.t 101) (.k (.int .i64 0)), some 102, some (99, true), []⟩, rI 6 (.pick (.t 99) (.t 102) (.k (.bool false))) 103]) (.ite (.t 103) (.seq (.reg [rI 0 (.mv (.t 6)) 104, rI 1 (.mv (.t 0)) 105, rI 2 (.call 94 [.t 105, .k (.int .i64 3)]) 106, rI 3 (.bld [.int .i64 0, .int .i64 0, .int .i64 0, .int .i64 0, .int .i64 0] [(0, 1, .k (.int .i64 6)), (1, 1, .t 106)]) 107, rI 4 (.call 95 [.t 104, .t 107]) 108]) (.reg [rI 0 (.mv (.t 6)) 109, rI 1 (.nc (.t 109)) 110, rI 2 (.fa (.t 110) 3) 111, rI 3 (.ld none (.t 111)) 112, rI 4 (.bin .sub (.t 112) (.k (.int .i64 1))) 113, rI 5 (.nc (.t 109)) 114, rI 6 (.fa (.t 114) 3) 115, ⟨7, .st (.t 115) (.t 113) 1, none, none, []⟩])) (.reg [rI 0 (.mv (.t 6)) 116, rI 1 (.call 96 [.t 116, .k (.int .i64 3), .k (.bool false)]) 117])))
def t68 : RCode := (.reg [rI 0 (.mv (.t 6)) 118, rI 1 (.nc (.t 118)) 119, rI 2 (.fa (.t 119) 2) 120, rI 4 (.mv (.t 8)) 122, rI 5 (.mv (.t 6)) 123, rI 6 (.nc (.t 123)) 124, rI 7 (.fa (.t 124) 2) 125, rI 10 (.mv (.t 8)) 128, rI 3 (.ld none (.t 120)) 121, rI 8 (.ld none (.t 125)) 126, rI 9 (.len (.t 126)) 127, rI 11 (.bin .sub (.t 127) (.t 128)) 129, rI 12 (.bin .sub (.t 129) (.k (.int .i64 1))) 130, rI 13 (.ias (.t 121) (.t 122) 5) 131, rI 14 (.fa (.t 131) 4) 132, ⟨15, .st (.t 132) (.t 130) 1, none, none, []⟩])
def b68_1 : RCode := (.seq (.seq (.reg [rI 0 (.mv (.t 6)) 48, rI 1 (.nc (.t 48)) 49, rI 2 (.fa (.t 49) 3) 50, rI 3 (.ld none (.t 50)) 51, rI 4 (.bin .gtr (.t 51) (.k (.int .i64 0))) 52]) (.ite (.t 52) .skip (.exit 4))) (.blk 5 (.seq (.seq (.reg [rI 0 (.mv (.t 0)) 53, rI 1 (.call 94 [.t 53, .k (.int .i64 4)]) 54, rI 2 (.bin .eql (.t 54) (.k (.int .i64 0))) 55]) (.ite (.t 55) (.seq (.reg [rI 0 (.mv (.t 6)) 56, rI 1 (.call 96 [.t 56, .k (.int .i64 4), .k (.bool false)]) 57]) (.exit 5)) .skip)) (.seq (.reg [rI 0 (.mv (.t 6)) 58, rI 1 (.nc (.t 58)) 59, rI 2 (.fa (.t 59) 2) 60, rI 3 (.ld none (.t 60)) 61, rI 4 (.len (.t 61)) 62, rI 5 (.mv (.t 62)) 8]) (.seq (.reg [rI 0 (.mv (.t 6)) 63, rI 1 (.mv (.t 0)) 64, rI 2 (.call 94 [.t 64, .k (.int .i64 3)]) 65, rI 3 (.bld [.int .i64 0, .int .i64 0, .int .i64 0, .int .i64 0, .int .i64 0] [(0, 1, .k (.int .i64 11)), (1, 1, .t 65)]) 66, rI 4 (.call 95 [.t 63, .t 66]) 67]) (.seq (.seq (.reg [rI 0 (.mv (.t 5)) 68, rI 1 (.bin .eql (.t 68) (.k (.int .i64 0))) 69, rI 2 (.mv (.t 69)) 70, ⟨3, .mv (.t 0), some 71, some (70, true), []⟩, ⟨4, .call 94 [.t 71, .k (.int .i64 2)], some 72, some (70, true), []⟩, ⟨5, .bin .eql (.t 72) (.k (.int .i64 0)), some 73, some (70, true), []⟩, rI 6 (.pick (.t 70) (.t 73) (.k (.bool false))) 74]) (.ite (.t 74) (.seq (.reg [rI 0 (.mv (.t 6)) 75, rI 1 (.mv (.t 0)) 76, rI 2 (.call 94 [.t 76, .k (.int .i64 4)]) 77, rI 3 (.bin .add (.k (.int .i64 1)) (.t 77)) 78, rI 4 (.bld [.int .i64 0, .int .i64 0, .int .i64 0, .int .i64 0, .int .i64 0] [(0, 1, .k (.int .i64 1)), (1, 1, .k (.int .i64 1)), (3, 1, .t 78)]) 79, rI 5 (.call 95 [.t 75, .t 79]) 80]) (.seq (.reg [rI 0 (.bsl [.int .i64 0] 4 [(0, .k (.int .i64 5)), (1, .k (.int .i64 5)), (2, .k (.int .i64 5)), (3, .k (.int .i64 7))]) 81, rI 1 (.mv (.t 81)) 9]) (.seq (.reg [rI 0 (.mv (.t 6)) 82, rI 1 (.mv (.t 9)) 83, rI 2 (.mv (.t 0)) 84, rI 3 (.call 94 [.t 84, .k (.int .i64 4)]) 85, rI 4 (.ias (.t 83) (.t 85) 1) 86, rI 5 (.ld none (.t 86)) 87, rI 6 (.bld [.int .i64 0, .int .i64 0, .int .i64 0, .int .i64 0, .int .i64 0] [(0, 1, .t 87), (1, 1, .k (.int .i64 0)), (2, 1, .k (.int .i64 1))]) 88, rI 7 (.call 95 [.t 82, .t 88]) 89]) (.reg [rI 0 (.mv (.t 6)) 90, rI 1 (.nc (.t 90)) 91, rI 2 (.fa (.t 91) 3) 92, rI 3 (.ld none (.t 92)) 93, rI 4 (.bin .sub (.t 93) (.k (.int .i64 1))) 94, rI 5 (.nc (.t 90)) 95, rI 6 (.fa (.t 95) 3) 96, ⟨7, .st (.t 96) (.t 94) 1, none, none, []⟩])))) u68)) t68))))))
def t680 : RCode := (.reg [rI 0 (.fa (.t 3) 0) 133, rI 2 (.mv (.t 6)) 135, rI 3 (.nc (.t 135)) 136, rI 4 (.fa (.t 136) 2) 137, rI 1 (.ld none (.t 133)) 134, rI 5 (.ld none (.t 137)) 138, rI 6 (.bld [.slc none 0 0] [(0, 1, .t 138)]) 139, rI 7 (.bsl [.slc none 0 0] 1 [(0, .t 139)]) 140, rI 8 (.app 1 24 (.t 134) (.t 140)) 141, rI 9 (.fa (.t 3) 0) 142, ⟨10, .st (.t 142) (.t 141) 1, none, none, []⟩])
def b68_2 : RCode := (.seq (.seq (.reg [rI 0 (.mv (.t 5)) 13, rI 1 (.mv (.t 4)) 14, rI 2 (.bin .lss (.t 13) (.t 14)) 15]) (.ite (.t 15) .skip (.exit 0))) (.seq (.blk 1 (.seq (.reg [rI 0 (.mv (.t 0)) 18, rI 1 (.mv (.t 4)) 19, rI 2 (.mv (.t 0)) 20, rI 3 (.call 94 [.t 20, .k (.int .i64 20)]) 21, rI 4 (.bin .add (.k (.int .i64 3)) (.t 21)) 22, rI 5 (.bld [.ptr none, .int .i64 0, .slc none 0 0, .int .i64 0] [(0, 1, .t 18), (1, 1, .t 19), (3, 1, .t 22)]) 23, rI 6 (.box (.t 23) 4) 24, rI 7 (.mv (.t 24)) 6]) (.seq (.seq (.reg [rI 0 (.mv (.t 5)) 25, rI 1 (.bin .eql (.t 25) (.k (.int .i64 0))) 26]) (.ite (.t 26) (.seq (.seq (.reg [rI 0 (.mv (.k (.int .i64 0))) 7]) (.blk 2 (.loop b68_0))) (.reg [rI 0 (.mv (.t 6)) 41, rI 1 (.nc (.t 41)) 42, rI 2 (.fa (.t 42) 3) 43, rI 3 (.ld none (.t 43)) 44, rI 4 (.bin .add (.t 44) (.k (.int .i64 6))) 45, rI 5 (.nc (.t 41)) 46, rI 6 (.fa (.t 46) 3) 47, ⟨7, .st (.t 47) (.t 45) 1, none, none, []⟩])) .skip)) (.seq (.blk 4 (.loop b68_1)) t680)))) (.reg [rI 0 (.mv (.t 5)) 16, rI 1 (.bin .add (.t 16) (.k (.int .i64 1))) 17, rI 2 (.mv (.t 17)) 5])))
def r68 : RFun := ⟨144, [.cell 2 (some 1)], (.seq (.reg [rI 0 (.alc [.slc none 0 0]) 2]) (.seq (.reg [rI 0 (.alc [.slc none 0 0]) 3]) (.seq (.reg [rI 0 (.mv (.t 0)) 10, rI 1 (.call 94 [.t 10, .k (.int .i64 5)]) 11, rI 2 (.bin .add (.k (.int .i64 1)) (.t 11)) 12, rI 3 (.mv (.t 12)) 4]) (.seq (.seq (.reg [rI 0 (.mv (.k (.int .i64 0))) 5]) (.blk 0 (.loop b68_2))) (.seq (.reg [rI 0 (.ld (some 1) (.t 3)) 143, ⟨1, .st (.t 2) (.t 143) 1, none, none, []⟩]) .ret)))))⟩
theorem p68 : prog 68 = some r68 := by kernel_rfl



section
variable {lo : Nat} {code : Cell} {bs : List Int} {L L' L'' : Lay DRo} {σ σ' σ'' : DS} {μ μ' μ'' : Mem} {K K' : Nat}

/-- What the plan's function keeps in its frame. -/
structure Kp (fr : Fr) (L : Lay DRo) (n i : Int) : Prop where
 f0 : fr 0 = pt (L.id .cur) 0
 f2 : fr 2 = pt (L.id .res) 0
 f3 : fr 3 = pt (L.id .out) 0
 f4 : fr 4 = .c (.int .i64 n)
 f5 : fr 5 = .c (.int .i64 i)
theorem Kp.ids {fr : Fr} {n i : Int} (h : Kp fr L n i) (e : L'.id .cur = L.id .cur ∧ L'.id .out = L.id .out ∧ L'.id .res = L.id .res) : Kp fr L' n i :=
 ⟨by rw [e.1]; exact h.f0, by rw [e.2.2]; exact h.f2, by rw [e.2.1]; exact h.f3, h.f4, h.f5⟩

theorem newLoop {n m0 : Nat} (hn : n ≤ 100) {s : List It} {Q : Fr → Mem → Prop} :
  ∀ (m k : Nat) (fr : Fr) (L : Lay DRo) (σ : DS) (μ : Mem), k + m = n → DR lo code bs L σ μ → Fit σ (m * 3) → 0 < n → Kp fr L n m0 → fr 6 = pt (L.id .b) 0 → fr 7 = .c (.int .i64 k) →
   (∀ fr' L' σ' μ', DA (m * 3) lo code bs L σ μ L' σ' μ' → σ'.left = σ.left → Kp fr' L' n m0 → fr' 6 = pt (L'.id .b) 0 → R s fr' μ' Q) → R (.c (.loop b68_0) :: .blk 2 :: s) fr μ Q := by
 intro m
 induction m with
 | zero =>
  intro k fr L σ μ hk h hf hn0 hp f6 f7 hend
  obtain ⟨f0, f2, f3, f4, f5⟩ := hp
  rw [R_loop]
  simp only [rI, b68_0]
  simp only [w1, w2, ↓reduceIte, zA, f4, f7]
  rw [decide_eq_false (by omega)]
  simp only [w1]
  rw [R_exit rfl]
  exact hend _ L σ μ ((DA.refl h).mono (by omega)) rfl ⟨by simp only [w1, ↓reduceIte, zA, f0], by simp only [w1, ↓reduceIte, zA, f2], by simp only [w1, ↓reduceIte, zA, f3], by simp only [w1, ↓reduceIte, zA, f4], by simp only [w1, ↓reduceIte, zA, f5]⟩ (by simp only [w1, ↓reduceIte, zA, f6])
 | succ m ih =>
  intro k fr L σ μ hk h hf hn0 hp f6 f7 hend
  obtain ⟨f0, f2, f3, f4, f5⟩ := hp
  rw [R_loop]
  simp only [rI, b68_0]
  simp only [w1, w2, ↓reduceIte, zA, f4, f7]
  rw [decide_eq_true (by omega)]
  simp only [w1, w2, ↓reduceIte, zA, f0, f4, f6, f7]
  rw [small (n := (k : Int) + 1) (by omega), vbin_rem (show (n : Int) ≠ 0 by omega)]
  simp only [w2]
  refine R_calls (l := [pt (L.id .cur) 0, .c (.int .i64 3)]) (by first | rfl | simp only [w1, w2, zH, zI, ↓reduceIte, zA, zB, zC, zD, zE, zF, zG, f0]) (dpick_ok h (hf.mono (by omega)) 3) ?_
  rintro v μ1 ⟨x, σ1, rfl, _, h1, hl1⟩
  simp only [w1, w2, zH, zI, ↓reduceIte, zA, zB, m2, fillc, wr, zJ, zB]
  refine R_calls (l := [pt (L.id .b) 0, .agg (scells 0 ⟨4, x, ((k : Int) + 1).tmod n, 0, 0⟩)]) (by first | rfl | simp only [w1, w2, zH, zI, ↓reduceIte, zA, zB, zC, zD, zE, zF, zG, scells]) (put_ok h1.rep (Fit.next (K := 2) (hf.mono (by omega)) h1) _) ?_
  rintro v μ2 ⟨L2, σ2, h2, hl2, _⟩
  have a2 := h1.trans h2
  simp only [w1, w2, ↓reduceIte, zA, f7]
  rw [small (by omega), R_lp]
  refine ih (k + 1) _ L2 σ2 μ2 (by omega) a2.rep (Fit.next (K := 3) (hf.mono (by omega)) a2) hn0 ⟨?_, ?_, ?_, ?_, ?_⟩ ?_ ?_ fun fr' L' σ' μ' h3 hl3 => hend fr' L' σ' μ' ((a2.trans h3).mono (by omega)) (by omega)
  ·simp only [w1, ↓reduceIte, zA, f0, a2.ids.1]
  ·simp only [w1, ↓reduceIte, zA, f2, a2.ids.2.2.2]
  ·simp only [w1, ↓reduceIte, zA, f3, a2.ids.2.2.1]
  ·simp only [w1, ↓reduceIte, zA, f4]
  ·simp only [w1, ↓reduceIte, zA, f5]
  ·simp only [w1, ↓reduceIte, zA, f6, a2.ids.2.1]
  ·simp only [w1, ↓reduceIte]; congr 2

theorem G3 : G 3 = 2560 := rfl
theorem G4 : G 4 = 10240 := rfl

theorem writeLoop {n i : Int} {s : List It} {Q : Fr → Mem → Prop} :
  ∀ (m : Nat) (fr : Fr) (L : Lay DRo) (σ : DS) (μ : Mem), DR lo code bs L σ μ → σ.left ≤ m → Fit σ (m * 10300) → Kp fr L n i → fr 6 = pt (L.id .b) 0 →
   (∀ fr' L' σ' μ', DA (m * 10300) lo code bs L σ μ L' σ' μ' → Kp fr' L' n i → fr' 6 = pt (L'.id .b) 0 → R s fr' μ' Q) → R (.c (.loop b68_1) :: .blk 4 :: s) fr μ Q := by
 intro m
 induction m with
 | zero =>
  intro fr L σ μ h hl hf hp f6 hend
  obtain ⟨f0, f2, f3, f4, f5⟩ := hp
  have hb := h.bf
  rw [R_loop]
  simp only [rI, b68_1]
  simp only [w1, w2, ↓reduceIte, f6, hb]
  rw [decide_eq_false (by omega)]
  simp only [w1]
  rw [R_exit rfl]
  exact hend _ L σ μ ((DA.refl h).mono (by omega)) ⟨by simp only [w1, ↓reduceIte, zA, f0], by simp only [w1, ↓reduceIte, zA, f2], by simp only [w1, ↓reduceIte, zA, f3], by simp only [w1, ↓reduceIte, zA, f4], by simp only [w1, ↓reduceIte, zA, f5]⟩ (by simp only [w1, ↓reduceIte, zA, f6])
 | succ m ih =>
  intro fr L σ μ h hl hf hp f6 hend
  obtain ⟨f0, f2, f3, f4, f5⟩ := hp
  have hb := h.bf
  rw [Nat.add_mul, Nat.one_mul] at hf
  rw [R_loop]
  simp only [rI, b68_1]
  simp only [w1, w2, ↓reduceIte, f6, hb]
  by_cases hl0 : σ.left > 0
  ·rw [decide_eq_true hl0]
   simp only [w1, w2, ↓reduceIte, zA, f0]
   -- how the loop goes on
   have more : ∀ {fr1 : Fr} {L1 : Lay DRo} {σ1 : DS} {μ1 : Mem}, DA 10300 lo code bs L σ μ L1 σ1 μ1 → σ1.left < σ.left → Kp fr1 L1 n i → fr1 6 = pt (L1.id .b) 0 → R (.c (.loop b68_1) :: .blk 4 :: s) fr1 μ1 Q := by
    intro fr1 L1 σ1 μ1 h1 hl1 k1 g6
    refine ih fr1 L1 σ1 μ1 h1.rep (by omega) (Fit.next (K := 10300) (hf.mono (by omega)) h1) k1 g6 fun fr' L' σ' μ' h2 => hend fr' L' σ' μ' ((h1.trans h2).mono (by omega))
   refine R_calls (l := [pt (L.id .cur) 0, .c (.int .i64 4)]) (by first | rfl | simp only [w1, w2, zH, zI, ↓reduceIte, zA, zB, zC, zD, zE, zF, zG, f0]) (dpick_ok h (hf.mono (by omega)) 4) ?_
   rintro v μ1 ⟨x, σ1, rfl, _, h1, hl1⟩
   simp only [w1, w2, ↓reduceIte]
   by_cases hx : x = 0
   ·simp only [w1, w2, ↓reduceIte, zA, beq_tt hx, f6]
    refine R_calls (l := [pt (L.id .b) 0, .c (.int .i64 ((4 : Nat) : Int)), .c (.bool false)]) (by first | rfl | simp only [w1, w2, zH, zI, ↓reduceIte, zA, zB, zC, zD, zE, zF, zG, f6]) (dstep_ok 4 (by omega) false h1.rep (Fit.next (K := 2) (hf.mono (by rw [G4]; omega)) h1)) ?_
    rintro v μ2 ⟨L2, σ2, h2, hl2⟩
    have a2 := h1.trans h2
    simp only [w1]
    rw [R_exit rfl, R_lp]
    refine more (a2.mono (by rw [G4]; omega)) (by omega) ⟨?_, ?_, ?_, ?_, ?_⟩ ?_
    ·simp only [w1, ↓reduceIte, zA, f0, a2.ids.1]
    ·simp only [w1, ↓reduceIte, zA, f2, a2.ids.2.2.2]
    ·simp only [w1, ↓reduceIte, zA, f3, a2.ids.2.2.1]
    ·simp only [w1, ↓reduceIte, zA, f4]
    ·simp only [w1, ↓reduceIte, zA, f5]
    ·simp only [w1, ↓reduceIte, zA, f6, a2.ids.2.1]
   have hb1 := h1.rep.bf
   obtain ⟨q1, q2, hq⟩ := h1.rep.has.scf (r := .steps σ1.done.length) (sz := 5) (n := σ1.steps.length) (cs := cat scells 0 σ1.steps) (by simp only [dcon, if_true]) (by rw [cat_length scells_len]) (by omega)
   rw [hq] at hb1
   simp only [w1, w2, ↓reduceIte, zA, beq_ff hx, f0, f6, hb1]
   refine R_calls (l := [pt (L.id .cur) 0, .c (.int .i64 3)]) (by first | rfl | simp only [w1, w2, zH, zI, ↓reduceIte, zA, zB, zC, zD, zE, zF, zG, f0]) (dpick_ok h1.rep (Fit.next (K := 2) (hf.mono (by omega)) h1) 3) ?_
   rintro v μ2 ⟨y, σ2, rfl, _, h2, hl2⟩
   have a2 := h1.trans h2
   simp only [w1, w2, zH, zI, ↓reduceIte, zB, m2, fillc, wr, zJ, zB]
   refine R_calls (l := [pt (L.id .b) 0, .agg (scells 0 ⟨11, y, 0, 0, 0⟩)]) (by first | rfl | simp only [w1, w2, zH, zI, ↓reduceIte, zA, zB, zC, zD, zE, zF, zG, scells]) (put_ok a2.rep (Fit.next (K := 4) (hf.mono (by omega)) a2) _) ?_
   rintro v μ3 ⟨L3, σ3, h3, hl3, hst3⟩
   have a3 := a2.trans h3
   have hat : σ1.steps.length < σ3.steps.length := by rw [hst3]; have := h2.len.1; simp; omega
   -- the size, and round
   have fin : ∀ {fr4 : Fr} {L4 : Lay DRo} {σ4 : DS} {μ4 : Mem}, DA 10290 lo code bs L σ μ L4 σ4 μ4 → σ4.left < σ.left → σ3.steps.length ≤ σ4.steps.length → Kp fr4 L4 n i → fr4 6 = pt (L4.id .b) 0 → fr4 8 = .c (.int .i64 σ1.steps.length) → R (.c t68 :: .blk 5 :: .lp b68_1 :: .blk 4 :: s) fr4 μ4 Q := by
    intro fr4 L4 σ4 μ4 h4 hl4 hle k4 g6 g8
    obtain ⟨g0, g2, g3, g4, g5⟩ := k4
    have hb4 := h4.rep.bf
    obtain ⟨μ5, σ5, e5, h5, hl5⟩ := h4.rep.size (show σ1.steps.length < σ4.steps.length by omega) (IntKind.i64.wrap (IntKind.i64.wrap ((σ4.steps.length : Int) - σ1.steps.length) - 1))
    have hslot := h4.rep.has.slot (r := .steps σ4.done.length) (sz := 5) (n := σ4.steps.length) (cs := cat scells 0 σ4.steps) (by simp only [dcon, if_true]) (by rw [cat_length scells_len]) (by omega) (show σ1.steps.length < σ4.steps.length by omega)
    obtain ⟨p1, p2, hp4⟩ := h4.rep.has.scf (r := .steps σ4.done.length) (sz := 5) (n := σ4.steps.length) (cs := cat scells 0 σ4.steps) (by simp only [dcon, if_true]) (by rw [cat_length scells_len]) (by omega)
    rw [hp4] at hb4 hslot
    have a5 := h4.trans h5
    simp only [rI, t68]
    simp only [w1, w2, zH, zI, ↓reduceIte, zA, g6, g8, hb4, hslot, e5]
    rw [R_lp]
    refine more (a5.mono (by omega)) (by omega) ⟨?_, ?_, ?_, ?_, ?_⟩ ?_
    ·simp only [w1, ↓reduceIte, zA, g0]
    ·simp only [w1, ↓reduceIte, zA, g2]
    ·simp only [w1, ↓reduceIte, zA, g3]
    ·simp only [w1, ↓reduceIte, zA, g4]
    ·simp only [w1, ↓reduceIte, zA, g5]
    ·simp only [w1, ↓reduceIte, zA, g6]
   -- one less is left
   have dec : ∀ {L4 : Lay DRo} {σ4 : DS} {μ4 : Mem}, DA 60 lo code bs L σ μ L4 σ4 μ4 → ∃ μ5 σ5, μ4.st (L4.id .b) 3 [.int .i64 (σ4.left - 1)] = some μ5 ∧ IntKind.i64.wrap (σ4.left - 1) = σ4.left - 1 ∧ DA 61 lo code bs L σ μ L4 σ5 μ5 ∧ σ5.left < σ.left ∧ σ5.steps = σ4.steps := by
    intro L4 σ4 μ4 h4
    obtain ⟨μ5, e5, h5, hs5⟩ := h4.rep.left (σ4.left - 1)
    have hl4 := h4.left
    have hfl := hf.2.2
    have a5 : DA 1 lo code bs L4 σ4 μ4 L4 { σ4 with left := σ4.left - 1 } μ5 := ⟨h5, hs5, ⟨rfl, rfl, rfl, rfl⟩, ⟨rfl, rfl⟩, by simp only; omega, ⟨Nat.le_refl _, by simp only; omega⟩, ⟨by simp only; omega, by simp only; omega⟩⟩
    exact ⟨μ5, _, e5, small (by omega), h4.trans a5, by simp only; omega, rfl⟩
   have oth : ∀ {fr4 : Fr} {σ4 : DS} {μ4 : Mem}, DA 7 lo code bs L σ μ L3 σ4 μ4 → σ4.steps = σ3.steps → Kp fr4 L3 n i → fr4 6 = pt (L3.id .b) 0 → fr4 8 = .c (.int .i64 σ1.steps.length) → R (.c u68 :: .c t68 :: .blk 5 :: .lp b68_1 :: .blk 4 :: s) fr4 μ4 Q := by
    intro fr4 σ4 μ4 h4 hst4 k4 g6 g8
    obtain ⟨g0, g2, g3, g4, g5⟩ := k4
    -- a step three deep
    have three : ∀ {fr5 : Fr} {σ5 : DS} {μ5 : Mem}, DA 9 lo code bs L σ μ L3 σ5 μ5 → σ5.steps = σ3.steps → Kp fr5 L3 n i → fr5 6 = pt (L3.id .b) 0 → fr5 8 = .c (.int .i64 σ1.steps.length) → fr5 116 = pt (L3.id .b) 0 →
      R (.o ⟨1, .call 96 [.t 116, .k (.int .i64 3), .k (.bool false)], some 117, none, []⟩ :: .c t68 :: .blk 5 :: .lp b68_1 :: .blk 4 :: s) fr5 μ5 Q := by
     intro fr5 σ5 μ5 h5 hst5 k5 g6 g8 g116
     obtain ⟨g0, g2, g3, g4, g5⟩ := k5
     refine R_calls (l := [pt (L3.id .b) 0, .c (.int .i64 ((3 : Nat) : Int)), .c (.bool false)]) (by simp only [List.map_cons, List.map_nil, Opd.ev_t, Opd.ev_k, g116]; rfl) (dstep_ok 3 (by omega) false h5.rep (Fit.next (K := 9) (hf.mono (by rw [G3]; omega)) h5)) ?_
     rintro v μ6 ⟨L6, σ6, h6, hl6⟩
     have a6 := h5.trans h6
     simp only [w1]
     refine fin (a6.mono (by rw [G3]; omega)) (by have := h5.left.1; omega) (by rw [← hst5]; exact h6.len.1) ⟨?_, ?_, ?_, ?_, ?_⟩ ?_ ?_
     ·simp only [w1, ↓reduceIte, zA, g0, h6.ids.1]
     ·simp only [w1, ↓reduceIte, zA, g2, h6.ids.2.2.2]
     ·simp only [w1, ↓reduceIte, zA, g3, h6.ids.2.2.1]
     ·simp only [w1, ↓reduceIte, zA, g4]
     ·simp only [w1, ↓reduceIte, zA, g5]
     ·simp only [w1, ↓reduceIte, zA, g6, h6.ids.2.1]
     ·simp only [w1, ↓reduceIte, zA, g8]
    simp only [rI, u68]
    simp only [w1, w2, ↓reduceIte, g5]
    by_cases hi : i > 0
    ·rw [decide_eq_true hi]
     simp only [w1, ↓reduceIte, zA, g0]
     refine R_calls (l := [pt (L3.id .cur) 0, .c (.int .i64 3)]) (by first | rfl | simp only [w1, w2, zH, zI, ↓reduceIte, zA, zB, zC, zD, zE, zF, zG, g0]) (dpick_ok' h4.rep (Fit.next (K := 7) (hf.mono (by omega)) h4) 3) ?_
     rintro v μ5 ⟨z, σ5, rfl, _, h5, ⟨_, hst5⟩, _⟩
     have a5 := h4.trans h5
     simp only [w1, w2, ↓reduceIte, zA]
     by_cases hz : z = 0
     ·simp only [w1, w2, ↓reduceIte, zA, beq_tt hz, g0, g6]
      refine R_calls (l := [pt (L3.id .cur) 0, .c (.int .i64 3)]) (by first | rfl | simp only [w1, w2, zH, zI, ↓reduceIte, zA, zB, zC, zD, zE, zF, zG, g0]) (dpick_ok' a5.rep (Fit.next (K := 9) (hf.mono (by omega)) a5) 3) ?_
      rintro v μ6 ⟨w, σ6, rfl, _, h6, ⟨_, hst6⟩, _⟩
      have a6 := a5.trans h6
      simp only [w1, w2, zH, zI, ↓reduceIte, zB, m2, fillc, wr, zJ, zB]
      refine R_calls (l := [pt (L3.id .b) 0, .agg (scells 0 ⟨6, w, 0, 0, 0⟩)]) (by first | rfl | simp only [w1, w2, zH, zI, ↓reduceIte, zA, zB, zC, zD, zE, zF, zG, scells]) (put_ok a6.rep (Fit.next (K := 11) (hf.mono (by omega)) a6) _) ?_
      rintro v μ7 ⟨L7, σ7, h7, _, hst7⟩
      have a7 := a6.trans h7
      obtain ⟨μ8, σ8, e8, w8, h8, hl8, hst8⟩ := dec (a7.mono (by omega))
      have hb7 := a7.rep.bf
      rw [h7.ids.2.1] at hb7 e8
      simp only [w1, w2, zH, zI, ↓reduceIte, zA, g6, hb7, w8, e8]
      refine fin (h8.mono (by omega)) hl8 (by rw [hst8, hst7, hst6, hst5, hst4]; simp) ⟨?_, ?_, ?_, ?_, ?_⟩ ?_ ?_
      ·simp only [w1, ↓reduceIte, zA, g0, h7.ids.1]
      ·simp only [w1, ↓reduceIte, zA, g2, h7.ids.2.2.2]
      ·simp only [w1, ↓reduceIte, zA, g3, h7.ids.2.2.1]
      ·simp only [w1, ↓reduceIte, zA, g4]
      ·simp only [w1, ↓reduceIte, zA, g5]
      ·simp only [w1, ↓reduceIte, zA, g6, h7.ids.2.1]
      ·simp only [w1, ↓reduceIte, zA, g8]
     ·simp only [w1, w2, ↓reduceIte, zA, beq_ff hz]
      refine three a5 (hst5.trans hst4) ⟨?_, ?_, ?_, ?_, ?_⟩ ?_ ?_ ?_ <;> simp only [w1, ↓reduceIte, zA, g0, g2, g3, g4, g5, g6, g8]
    ·rw [decide_eq_false hi]
     simp only [w1, w2, ↓reduceIte, zA]
     refine three (h4.mono (by omega)) hst4 ⟨?_, ?_, ?_, ?_, ?_⟩ ?_ ?_ ?_ <;> simp only [w1, ↓reduceIte, zA, g0, g2, g3, g4, g5, g6, g8]
   simp only [w1, w2, ↓reduceIte, zA, f5]
   by_cases hi0 : i = 0
   ·simp only [w1, ↓reduceIte, zA, beq_tt hi0, f0]
    have hp4 := dpick_ok' a3.rep (Fit.next (K := 5) (hf.mono (by omega)) a3) 2
    rw [a3.ids.1] at hp4
    refine R_calls (l := [pt (L.id .cur) 0, .c (.int .i64 2)]) (by first | rfl | simp only [w1, w2, zH, zI, ↓reduceIte, zA, zB, zC, zD, zE, zF, zG, f0]) hp4 ?_
    rintro v μ4 ⟨y2, σ4, rfl, _, h4, ⟨_, hst4⟩, _⟩
    have a4 := a3.trans h4
    simp only [w1, w2, ↓reduceIte, zA]
    by_cases hy : y2 = 0
    ·simp only [w1, w2, ↓reduceIte, zA, beq_tt hy, f0, f6]
     have hp5 := dpick_ok' a4.rep (Fit.next (K := 7) (hf.mono (by omega)) a4) 4
     rw [a3.ids.1] at hp5
     refine R_calls (l := [pt (L.id .cur) 0, .c (.int .i64 4)]) (by first | rfl | simp only [w1, w2, zH, zI, ↓reduceIte, zA, zB, zC, zD, zE, zF, zG, f0]) hp5 ?_
     rintro v μ5 ⟨z, σ5, rfl, _, h5, ⟨_, hst5⟩, _⟩
     have a5 := a4.trans h5
     simp only [w1, w2, zH, zI, ↓reduceIte, zB, m2, fillc, wr, zJ, zB]
     have hp6 := put_ok a5.rep (Fit.next (K := 9) (hf.mono (by omega)) a5) ⟨1, 1, 0, IntKind.i64.wrap (1 + z), 0⟩
     rw [a3.ids.2.1] at hp6
     refine R_calls (l := [pt (L.id .b) 0, .agg (scells 0 ⟨1, 1, 0, IntKind.i64.wrap (1 + z), 0⟩)]) (by first | rfl | simp only [w1, w2, zH, zI, ↓reduceIte, zA, zB, zC, zD, zE, zF, zG, scells]) hp6 ?_
     rintro v μ6 ⟨L6, σ6, h6, _, hst6⟩
     have a6 := a5.trans h6
     simp only [w1, w2, zH, zI, ↓reduceIte, zA, zB, f0, f6, m2, fillc, wr, rep, zJ, zB, zK, List.append_nil]
     have hs7 : Same lo μ6 (μ6.new [.int .i64 5, .int .i64 5, .int .i64 5, .int .i64 7] 1) := Same.tmp a6.rep.low
     have r7 : DR lo code bs L6 σ6 (μ6.new [.int .i64 5, .int .i64 5, .int .i64 5, .int .i64 7] 1) := ⟨a6.rep.has.tmp, Nat.le_trans a6.rep.low hs7.2, a6.rep.code.same hs7 (Nat.le_refl _), a6.rep.bytes, a6.rep.pos, a6.rep.off⟩
     have a7 : DA 10 lo code bs L σ μ L6 σ6 (μ6.new [.int .i64 5, .int .i64 5, .int .i64 5, .int .i64 7] 1) := ⟨r7, a6.same.trans hs7, a6.ids, a6.done, a6.pos, a6.len, a6.left⟩
     have hp8 := dpick_ok' r7 (Fit.next (K := 10) (hf.mono (by omega)) a7) 4
     rw [a6.ids.1] at hp8
     refine R_calls (l := [pt (L.id .cur) 0, .c (.int .i64 4)]) (by first | rfl | simp only [w1, w2, zH, zI, ↓reduceIte, zA, zB, zC, zD, zE, zF, zG, f0]) hp8 ?_
     rintro v μ8 ⟨w, σ8, rfl, hw, h8, ⟨_, hst8⟩, ho8⟩
     have a8 := a7.trans h8
     have hw4 := hw.2 (by omega)
     obtain ⟨j, rfl⟩ : ∃ j : Nat, w = j := ⟨w.toNat, by omega⟩
     have hne : μ6.next ≠ L.id .cur := by
      have := a6.rep.has.lt .cur (a6.rep.has.on (r := .cur) rfl (.inl rfl))
      rw [a6.ids.1] at this; omega
     obtain ⟨op, hop⟩ : ∃ op : Int, μ8.ld none μ6.next (j * 1) = some (.c (.int .i64 op)) := by
      have e : μ8.ld none μ6.next (j * 1) = (μ6.new [.int .i64 5, .int .i64 5, .int .i64 5, .int .i64 7] 1).ld none μ6.next (j * 1) := by simp only [Mem.ld, ho8 _ hne]
      rw [e]
      have : j = 0 ∨ j = 1 ∨ j = 2 ∨ j = 3 := by omega
      rcases this with rfl | rfl | rfl | rfl <;> exact ⟨_, new_ld0 rfl⟩
     have hidx := aidx_in (k := .i64) (b := μ6.next) (o := 0) (len := 4) (cap := 4) (sz := 1) (i := (j : Int)) (by omega)
     rw [Int.toNat_natCast] at hidx
     simp only [w1, w2, zH, zI, ↓reduceIte, zA, zB, hidx, hop, m2, fillc, wr, zJ, zB]
     have hp9 := put_ok a8.rep (Fit.next (K := 12) (hf.mono (by omega)) a8) ⟨op, 0, 1, 0, 0⟩
     rw [a6.ids.2.1] at hp9
     refine R_calls (l := [pt (L.id .b) 0, .agg (scells 0 ⟨op, 0, 1, 0, 0⟩)]) (by first | rfl | simp only [w1, w2, zH, zI, ↓reduceIte, zA, zB, zC, zD, zE, zF, zG, scells]) hp9 ?_
     rintro v μ9 ⟨L9, σ9, h9, _, hst9⟩
     have a9 := a8.trans h9
     obtain ⟨μ10, σ10, e10, w10, h10, hl10, hst10⟩ := dec (a9.mono (by omega))
     have hb9 := a9.rep.bf
     rw [a9.ids.2.1] at hb9 e10
     simp only [w1, w2, zH, zI, ↓reduceIte, zA, f6, hb9, w10, e10]
     refine fin (h10.mono (by omega)) hl10 (by rw [hst10, hst9, hst8, hst6, hst5, hst4]; simp) ⟨?_, ?_, ?_, ?_, ?_⟩ ?_ ?_ <;> simp only [w1, ↓reduceIte, zA, f0, f2, f3, f4, f5, f6, a9.ids]
    ·simp only [w1, beq_ff hy]
     refine oth a4 hst4 ⟨?_, ?_, ?_, ?_, ?_⟩ ?_ ?_ <;> simp only [w1, ↓reduceIte, zA, f0, f2, f3, f4, f5, f6, a3.ids]
   ·simp only [w1, ↓reduceIte, zA, beq_ff hi0]
    refine oth (a3.mono (by omega)) rfl ⟨?_, ?_, ?_, ?_, ?_⟩ ?_ ?_ <;> simp only [w1, ↓reduceIte, zA, f0, f2, f3, f4, f5, f6, a3.ids]
  ·rw [decide_eq_false hl0]
   simp only [w1]
   rw [R_exit rfl]
   exact hend _ L σ μ ((DA.refl h).mono (by omega)) ⟨by simp only [w1, ↓reduceIte, zA, f0], by simp only [w1, ↓reduceIte, zA, f2], by simp only [w1, ↓reduceIte, zA, f3], by simp only [w1, ↓reduceIte, zA, f4], by simp only [w1, ↓reduceIte, zA, f5]⟩ (by simp only [w1, ↓reduceIte, zA, f6])
end
end Go.Proofs.Ytibmnlijoeppaaa
