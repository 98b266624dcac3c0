/-
 Drawn plans: the writer of a body's steps, its small functions.
-/
import Derived.Test.YtibmnlijoeppaaaD1
namespace Go.Proofs.Ytibmnlijoeppaaa
open Nat renaming reduceEqDiff → zA, reduceAdd → zB, reduceLeDiff → zJ, reduceMul → zK
open Int renaming reduceLT → zC, reduceLE → zD, reduceNeg → zE, reduceBEq → zF, reduceBNe → zG
open AV renaming isTup → zH, cells → zI
set_option linter.unusedSimpArgs false
set_option linter.unusedVariables false

/-! 95: spec.l4B).put -/
def r95 : RFun := ⟨14, [], (.seq (.reg [rI 0 (.box (.t 1) 5) 3]) (.reg [rI 0 (.mv (.t 0)) 4, rI 1 (.mv (.t 0)) 5, rI 2 (.nc (.t 5)) 6, rI 3 (.fa (.t 6) 2) 7, rI 4 (.ld none (.t 7)) 8, rI 5 (.ld (some 5) (.t 3)) 9, rI 6 (.bsl [.int .i64 0, .int .i64 0, .int .i64 0, .int .i64 0, .int .i64 0] 1 [(0, .t 9)]) 10, rI 7 (.app 5 40 (.t 8) (.t 10)) 11, rI 8 (.nc (.t 4)) 12, rI 9 (.fa (.t 12) 2) 13, ⟨10, .st (.t 13) (.t 11) 1, none, none, []⟩]))⟩
theorem p95 : prog 95 = some r95 := by kernel_rfl

/-! 124: spec.l4B).low -/
def r124 : RFun := ⟨8, [.tmp 2], (.seq (.reg [rI 0 (.mv (.k (.int .i64 0))) 2]) (.seq (.reg [rI 0 (.mv (.t 0)) 3, rI 1 (.nc (.t 3)) 4, rI 2 (.fa (.t 4) 0) 5, rI 3 (.ld none (.t 5)) 6, rI 4 (.call 94 [.t 6, .k (.int .i64 3)]) 7, rI 5 (.mv (.t 7)) 2]) .ret))⟩
theorem p124 : prog 124 = some r124 := by kernel_rfl

/-! 125: spec.l4B).reg -/
def r125 : RFun := ⟨8, [.tmp 2], (.seq (.reg [rI 0 (.mv (.k (.int .i64 0))) 2]) (.seq (.reg [rI 0 (.mv (.t 0)) 3, rI 1 (.nc (.t 3)) 4, rI 2 (.fa (.t 4) 0) 5, rI 3 (.ld none (.t 5)) 6, rI 4 (.call 94 [.t 6, .k (.int .i64 4)]) 7, rI 5 (.mv (.t 7)) 2]) .ret))⟩
theorem p125 : prog 125 = some r125 := by kernel_rfl

/-! 126: spec.l4B).num -/
def r126 : RFun := ⟨19, [.tmp 2], (.seq (.reg [rI 0 (.mv (.k (.int .i64 0))) 2]) (.seq (.seq (.reg [rI 0 (.mv (.t 0)) 3, rI 1 (.nc (.t 3)) 4, rI 2 (.fa (.t 4) 0) 5, rI 3 (.ld none (.t 5)) 6, rI 4 (.call 94 [.t 6, .k (.int .i64 14)]) 7, rI 5 (.bin .eql (.t 7) (.k (.int .i64 0))) 8]) (.ite (.t 8) (.seq (.reg [rI 0 (.mv (.t 0)) 9, rI 1 (.nc (.t 9)) 10, rI 2 (.fa (.t 10) 0) 11, rI 3 (.ld none (.t 11)) 12, rI 4 (.call 144 [.t 12]) 13, rI 5 (.mv (.t 13)) 2]) .ret) .skip)) (.seq (.reg [rI 0 (.mv (.t 0)) 14, rI 1 (.nc (.t 14)) 15, rI 2 (.fa (.t 15) 0) 16, rI 3 (.ld none (.t 16)) 17, rI 4 (.call 94 [.t 17, .k (.int .i64 7)]) 18, rI 5 (.mv (.t 18)) 2]) .ret)))⟩
theorem p126 : prog 126 = some r126 := by kernel_rfl

/-! 127: spec.l4B).task -/
def r127 : RFun := ⟨27, [], (.seq (.seq (.reg [rI 0 (.mv (.t 0)) 5, rI 1 (.nc (.t 5)) 6, rI 2 (.fa (.t 6) 0) 7, rI 3 (.ld none (.t 7)) 8, rI 4 (.call 94 [.t 8, .k (.int .i64 3)]) 9, rI 5 (.bin .eql (.t 9) (.k (.int .i64 0))) 10]) (.ite (.t 10) .ret .skip)) (.seq (.reg [rI 0 (.mv (.t 0)) 11, rI 1 (.nc (.t 11)) 12, rI 2 (.fa (.t 12) 0) 13, rI 3 (.ld none (.t 13)) 14, rI 4 (.call 94 [.t 14, .k (.int .i64 5)]) 15, rI 5 (.mv (.t 15)) 4]) (.seq (.seq (.reg [rI 0 (.mv (.t 0)) 16, rI 1 (.nc (.t 16)) 17, rI 2 (.fa (.t 17) 0) 18, rI 3 (.ld none (.t 18)) 19, rI 4 (.call 94 [.t 19, .k (.int .i64 20)]) 20, rI 5 (.bin .eql (.t 20) (.k (.int .i64 0))) 21]) (.ite (.t 21) (.reg [rI 0 (.mv (.k (.int .i64 (-1)))) 4]) .skip)) (.reg [rI 0 (.mv (.t 0)) 22, rI 1 (.mv (.t 1)) 23, rI 2 (.mv (.t 4)) 24, rI 3 (.bld [.int .i64 0, .int .i64 0, .int .i64 0, .int .i64 0, .int .i64 0] [(0, 1, .k (.int .i64 1)), (1, 1, .t 23), (3, 1, .t 24)]) 25, rI 4 (.call 95 [.t 22, .t 25]) 26]))))⟩
theorem p127 : prog 127 = some r127 := by kernel_rfl

/-! 128: spec.l4B).into -/
def r128 : RFun := ⟨12, [.tmp 4], (.seq (.reg [rI 0 (.mv (.k (.int .i64 0))) 4]) (.seq (.seq (.reg [rI 0 (.mv (.t 0)) 5, rI 1 (.nc (.t 5)) 6, rI 2 (.fa (.t 6) 0) 7, rI 3 (.ld none (.t 7)) 8, rI 4 (.call 94 [.t 8, .k (.int .i64 9)]) 9, rI 5 (.bin .eql (.t 9) (.k (.int .i64 0))) 10]) (.ite (.t 10) (.seq (.reg [rI 0 (.mv (.k (.int .i64 3))) 4]) .ret) .skip)) (.seq (.reg [rI 0 (.mv (.t 1)) 11, rI 1 (.mv (.t 11)) 4]) .ret)))⟩
theorem p128 : prog 128 = some r128 := by kernel_rfl

/-! 144: spec.l4Cur).whole -/
def r144 : RFun := ⟨23, [.tmp 2], (.seq (.reg [rI 0 (.mv (.k (.int .i64 0))) 2]) (.seq (.seq (.reg [rI 0 (.mv (.t 0)) 3, rI 1 (.call 94 [.t 3, .k (.int .i64 6)]) 4]) (.blk 0 (.seq (.reg [rI 0 (.bin .eql (.t 4) (.k (.int .i64 0))) 6, rI 1 (.mv (.t 6)) 5]) (.ite (.t 5) (.seq (.reg [rI 0 (.mv (.t 0)) 7, rI 1 (.call 94 [.t 7, .k (.int .i64 3)]) 8, rI 2 (.bin .sub (.k (.int .i64 9223372036854775807)) (.t 8)) 9, rI 3 (.mv (.t 9)) 2]) .ret) (.seq (.reg [rI 0 (.bin .eql (.t 4) (.k (.int .i64 1))) 11, rI 1 (.mv (.t 11)) 10]) (.ite (.t 10) (.seq (.reg [rI 0 (.mv (.t 0)) 12, rI 1 (.call 94 [.t 12, .k (.int .i64 3)]) 13, rI 2 (.bin .add (.k (.int .i64 (-9223372036854775808))) (.t 13)) 14, rI 3 (.mv (.t 14)) 2]) .ret) (.seq (.reg [rI 0 (.bin .eql (.t 4) (.k (.int .i64 2))) 16, rI 1 (.mv (.t 16)) 15]) (.ite (.t 15) (.seq (.reg [rI 0 (.mv (.t 0)) 17, rI 1 (.call 94 [.t 17, .k (.int .i64 70000)]) 18, rI 2 (.bin .sub (.t 18) (.k (.int .i64 35000))) 19, rI 3 (.mv (.t 19)) 2]) .ret) .skip)))))))) (.seq (.reg [rI 0 (.mv (.t 0)) 20, rI 1 (.call 94 [.t 20, .k (.int .i64 12)]) 21, rI 2 (.bin .sub (.t 21) (.k (.int .i64 3))) 22, rI 3 (.mv (.t 22)) 2]) .ret)))⟩
theorem p144 : prog 144 = some r144 := by kernel_rfl



inductive DRo where
 | cur
 | res
 | out
 | bods
 | b
 | steps (i : Nat)
 deriving DecidableEq

/-- The writer: where the reader stands, the bodies that are done, the steps of the one that is written, what is left to do. -/
structure DS where
 pos : Int
 seed : Int
 done : List (List PStep)
 bodies : Int
 steps : List PStep
 left : Int

def drow (L : Lay DRo) (i : Nat) (l : List PStep) : List Cell := [L.sc (.steps i) l.length]
theorem drow_len (L : Lay DRo) (i : Nat) (l : List PStep) : (drow L i l).length = 1 := rfl

def bcells (L : Lay DRo) (σ : DS) : List Cell := [.ptr (some (L.id .cur, 0)), .int .i64 σ.bodies, L.sc (.steps σ.done.length) σ.steps.length, .int .i64 σ.left]
def dcon (code : Cell) (L : Lay DRo) (σ : DS) : Con DRo
 | .cur => some (curc code σ.pos σ.seed)
 | .res => some (0, [.slc none 0 0])
 | .out => some (0, [L.sc .bods σ.done.length])
 | .bods => some (1, cat (drow L) 0 σ.done)
 | .b => some (0, bcells L σ)
 | .steps i => if i = σ.done.length then some (5, cat scells 0 σ.steps) else (σ.done[i]?).map fun l => (5, cat scells 0 l)

structure DR (lo : Nat) (code : Cell) (bs : List Int) (L : Lay DRo) (σ : DS) (μ : Mem) : Prop where
 has : Has L (dcon code L σ) lo μ
 low : lo ≤ μ.next
 code : Rd lo μ 1 code bs.length (cat byrow 0 bs)
 bytes : ∀ y ∈ bs, 0 ≤ y ∧ y ≤ 255
 pos : 0 ≤ σ.pos
 off : ∀ i, σ.done.length < i → L.on (.steps i) = false

/-- There is room for so much more. -/
def Fit (σ : DS) (K : Nat) : Prop := σ.pos + K ≤ 100000000 ∧ (σ.steps.length : Int) + K ≤ 100000000 ∧ -100000000 ≤ σ.left - K ∧ σ.left ≤ 100000000

/-- What a function leaves that does at most so much. -/
structure DA (K : Nat) (lo : Nat) (code : Cell) (bs : List Int) (L : Lay DRo) (σ : DS) (μ : Mem) (L' : Lay DRo) (σ' : DS) (μ' : Mem) : Prop where
 rep : DR lo code bs L' σ' μ'
 same : Same lo μ μ'
 ids : L'.id .cur = L.id .cur ∧ L'.id .b = L.id .b ∧ L'.id .out = L.id .out ∧ L'.id .res = L.id .res
 done : σ'.done = σ.done ∧ σ'.bodies = σ.bodies
 pos : σ'.pos ≤ σ.pos + K
 len : σ.steps.length ≤ σ'.steps.length ∧ σ'.steps.length ≤ σ.steps.length + K
 left : σ'.left ≤ σ.left ∧ σ.left - K ≤ σ'.left

section
variable {lo : Nat} {code : Cell} {bs : List Int} {L L' L'' : Lay DRo} {σ σ' σ'' : DS} {μ μ' μ'' : Mem} {K K' : Nat}

theorem DA.trans (h : DA K lo code bs L σ μ L' σ' μ') (h' : DA K' lo code bs L' σ' μ' L'' σ'' μ'') : DA (K + K') lo code bs L σ μ L'' σ'' μ'' := by
 obtain ⟨a1, a2, ⟨a3, a4, a5, a6⟩, ⟨a7, a8⟩, a9, ⟨a10, a11⟩, a12, a13⟩ := h
 obtain ⟨b1, b2, ⟨b3, b4, b5, b6⟩, ⟨b7, b8⟩, b9, ⟨b10, b11⟩, b12, b13⟩ := h'
 exact ⟨b1, a2.trans b2, ⟨b3.trans a3, b4.trans a4, b5.trans a5, b6.trans a6⟩, ⟨b7.trans a7, b8.trans a8⟩, by omega, by omega, by omega⟩
theorem DA.mono (h : DA K lo code bs L σ μ L' σ' μ') (hk : K ≤ K') : DA K' lo code bs L σ μ L' σ' μ' := by
 obtain ⟨a1, a2, a3, a4, a9, ⟨a10, a11⟩, a12, a13⟩ := h
 exact ⟨a1, a2, a3, a4, by omega, by omega, by omega⟩
theorem Fit.next (h : Fit σ (K + K')) (h' : DA K lo code bs L σ μ L' σ' μ') : Fit σ' K' := by
 obtain ⟨a1, a2, a3, a4⟩ := h
 obtain ⟨_, _, _, _, a9, ⟨a10, a11⟩, a12, a13⟩ := h'
 unfold Fit; omega
theorem Fit.mono (h : Fit σ K) (hk : K' ≤ K) : Fit σ K' := by
 obtain ⟨a1, a2, a3, a4⟩ := h
 unfold Fit; omega
theorem DA.refl (h : DR lo code bs L σ μ) : DA 0 lo code bs L σ μ L σ μ := ⟨h, Same.refl, ⟨rfl, rfl, rfl, rfl⟩, ⟨rfl, rfl⟩, by omega, by omega, by omega⟩

theorem dcon_cur {pos seed : Int} : (dcon code L σ).upd .cur (curc code pos seed) = dcon code L { σ with pos := pos, seed := seed } := by
 funext y
 simp only [Con.upd]
 split
 ·rename_i e; subst e; rfl
 ·cases y <;> first | rfl | (rename_i h; exact absurd rfl h)

theorem DR.bf (h : DR lo code bs L σ μ) : μ.ld none (L.id .b) 0 = some (.c (.ptr (some (L.id .cur, 0)))) ∧ μ.ld none (L.id .b) 1 = some (.c (.int .i64 σ.bodies)) ∧
  μ.ld none (L.id .b) 2 = some (.c (L.sc (.steps σ.done.length) σ.steps.length)) ∧ μ.ld none (L.id .b) 3 = some (.c (.int .i64 σ.left)) :=
 ⟨h.has.ldc (r := .b) rfl rfl, h.has.ldc (r := .b) rfl rfl, h.has.ldc (r := .b) rfl rfl, h.has.ldc (r := .b) rfl rfl⟩

theorem dpick_ok' (h : DR lo code bs L σ μ) (hf : Fit σ 2) (n : Int) :
  Ret 94 [pt (L.id .cur) 0, .c (.int .i64 n)] μ fun v μ' => ∃ x σ', v = .c (.int .i64 x) ∧ (0 ≤ x ∧ (1 ≤ n → x < n)) ∧ DA 2 lo code bs L σ μ L σ' μ' ∧ (σ'.left = σ.left ∧ σ'.steps = σ.steps) ∧ ∀ b, b ≠ L.id .cur → μ'.obj b = μ.obj b := by
 refine (pick_ok h.has (r := .cur) rfl h.code h.bytes ⟨h.pos, by have := hf.1; omega⟩ n).mono ?_
 rintro v μ' ⟨x, pos', seed', rfl, hx, hp, h1, hs, ho⟩
 rw [dcon_cur] at h1
 exact ⟨x, _, rfl, hx, ⟨⟨h1, Nat.le_trans h.low hs.2, h.code.same hs (Nat.le_refl _), h.bytes, by have := h.pos; simp only; omega, h.off⟩, hs, ⟨rfl, rfl, rfl, rfl⟩, ⟨rfl, rfl⟩, hp.2, ⟨Nat.le_refl _, by simp only; omega⟩, ⟨Int.le_refl _, by simp only; omega⟩⟩, ⟨rfl, rfl⟩, ho⟩
theorem dpick_ok (h : DR lo code bs L σ μ) (hf : Fit σ 2) (n : Int) :
  Ret 94 [pt (L.id .cur) 0, .c (.int .i64 n)] μ fun v μ' => ∃ x σ', v = .c (.int .i64 x) ∧ (0 ≤ x ∧ (1 ≤ n → x < n)) ∧ DA 2 lo code bs L σ μ L σ' μ' ∧ σ'.left = σ.left :=
 (dpick_ok' h hf n).mono fun v μ' ⟨x, σ', a, b, c, d, _⟩ => ⟨x, σ', a, b, c, d.1⟩

theorem low_ok (h : DR lo code bs L σ μ) (hf : Fit σ 2) :
  Ret 124 [pt (L.id .b) 0] μ fun v μ' => ∃ x σ', v = .c (.int .i64 x) ∧ DA 2 lo code bs L σ μ L σ' μ' ∧ σ'.left = σ.left := by
 refine Ret_of p124 (by simp [r124]) ?_
 simp only [rI, r124, frOf_1]
 simp only [w1, w2, ↓reduceIte, zA, h.bf]
 refine R_calls (l := [pt (L.id .cur) 0, .c (.int .i64 3)]) (by first | rfl | simp only [w1, w2, zH, zI, ↓reduceIte, zA, zB, zC, zD, zE, zF, zG]) (dpick_ok h hf 3) ?_
 rintro v μ1 ⟨x, σ1, rfl, _, h1, hl⟩
 simp only [w1, ↓reduceIte, aRet, aRes, aRes1]
 exact ⟨_, rfl, x, σ1, rfl, h1, hl⟩

theorem reg_ok (h : DR lo code bs L σ μ) (hf : Fit σ 2) :
  Ret 125 [pt (L.id .b) 0] μ fun v μ' => ∃ x σ', v = .c (.int .i64 x) ∧ DA 2 lo code bs L σ μ L σ' μ' ∧ σ'.left = σ.left := by
 refine Ret_of p125 (by simp [r125]) ?_
 simp only [rI, r125, frOf_1]
 simp only [w1, w2, ↓reduceIte, zA, h.bf]
 refine R_calls (l := [pt (L.id .cur) 0, .c (.int .i64 4)]) (by first | rfl | simp only [w1, w2, zH, zI, ↓reduceIte, zA, zB, zC, zD, zE, zF, zG]) (dpick_ok h hf 4) ?_
 rintro v μ1 ⟨x, σ1, rfl, _, h1, hl⟩
 simp only [w1, ↓reduceIte, aRet, aRes, aRes1]
 exact ⟨_, rfl, x, σ1, rfl, h1, hl⟩

theorem into_ok (h : DR lo code bs L σ μ) (hf : Fit σ 2) (a : Int) :
  Ret 128 [pt (L.id .b) 0, .c (.int .i64 a)] μ fun v μ' => ∃ x σ', v = .c (.int .i64 x) ∧ DA 2 lo code bs L σ μ L σ' μ' ∧ σ'.left = σ.left := by
 refine Ret_of p128 (by simp [r128]) ?_
 simp only [rI, r128, frOf_2]
 simp only [w1, w2, ↓reduceIte, zA, h.bf]
 refine R_calls (l := [pt (L.id .cur) 0, .c (.int .i64 9)]) (by first | rfl | simp only [w1, w2, zH, zI, ↓reduceIte, zA, zB, zC, zD, zE, zF, zG]) (dpick_ok h hf 9) ?_
 rintro v μ1 ⟨x, σ1, rfl, _, h1, hl⟩
 simp only [w1, w2, ↓reduceIte]
 by_cases hx : x = 0
 ·simp only [w1, w2, ↓reduceIte, beq_tt hx, aRet, aRes, aRes1]
  exact ⟨_, rfl, _, σ1, rfl, h1, hl⟩
 ·simp only [w1, w2, ↓reduceIte, zA, beq_ff hx, aRet, aRes, aRes1]
  exact ⟨_, rfl, _, σ1, rfl, h1, hl⟩

theorem whole_ok (h : DR lo code bs L σ μ) (hf : Fit σ 4) :
  Ret 144 [pt (L.id .cur) 0] μ fun v μ' => ∃ x σ', v = .c (.int .i64 x) ∧ DA 4 lo code bs L σ μ L σ' μ' ∧ σ'.left = σ.left := by
 refine Ret_of p144 (by simp [r144]) ?_
 simp only [rI, r144, frOf_1]
 simp only [w1, w2, ↓reduceIte, zA, zE]
 refine R_calls (l := [pt (L.id .cur) 0, .c (.int .i64 6)]) (by first | rfl | simp only [w1, w2, zH, zI, ↓reduceIte, zA, zB, zC, zD, zE, zF, zG]) (dpick_ok h (hf.mono (by omega)) 6) ?_
 rintro v μ1 ⟨k, σ1, rfl, _, h1, hl⟩
 have hf1 : Fit σ1 2 := Fit.next (K := 2) (hf.mono (by omega)) h1
 simp only [w1, w2, ↓reduceIte, zE]
 by_cases k0 : k = 0
 ·simp only [w1, w2, ↓reduceIte, zA, beq_tt k0]
  refine R_calls (l := [pt (L.id .cur) 0, .c (.int .i64 3)]) (by first | rfl | simp only [w1, w2, zH, zI, ↓reduceIte, zA, zB, zC, zD, zE, zF, zG]) (dpick_ok h1.rep hf1 3) ?_
  rintro v μ2 ⟨x, σ2, rfl, _, h2, hl2⟩
  simp only [w1, w2, ↓reduceIte, aRet, aRes, aRes1]
  exact ⟨_, rfl, _, σ2, rfl, h1.trans h2, hl2.trans hl⟩
 by_cases k1 : k = 1
 ·simp only [w1, w2, ↓reduceIte, zA, zE, beq_ff k0, beq_tt k1]
  refine R_calls (l := [pt (L.id .cur) 0, .c (.int .i64 3)]) (by first | rfl | simp only [w1, w2, zH, zI, ↓reduceIte, zA, zB, zC, zD, zE, zF, zG]) (dpick_ok h1.rep hf1 3) ?_
  rintro v μ2 ⟨x, σ2, rfl, _, h2, hl2⟩
  simp only [w1, w2, ↓reduceIte, zE, aRet, aRes, aRes1]
  exact ⟨_, rfl, _, σ2, rfl, h1.trans h2, hl2.trans hl⟩
 by_cases k2 : k = 2
 ·simp only [w1, w2, ↓reduceIte, zA, zE, beq_ff k0, beq_ff k1, beq_tt k2]
  refine R_calls (l := [pt (L.id .cur) 0, .c (.int .i64 70000)]) (by first | rfl | simp only [w1, w2, zH, zI, ↓reduceIte, zA, zB, zC, zD, zE, zF, zG]) (dpick_ok h1.rep hf1 70000) ?_
  rintro v μ2 ⟨x, σ2, rfl, _, h2, hl2⟩
  simp only [w1, w2, ↓reduceIte, aRet, aRes, aRes1]
  exact ⟨_, rfl, _, σ2, rfl, h1.trans h2, hl2.trans hl⟩
 ·simp only [w1, w2, ↓reduceIte, zA, zE, beq_ff k0, beq_ff k1, beq_ff k2]
  refine R_calls (l := [pt (L.id .cur) 0, .c (.int .i64 12)]) (by first | rfl | simp only [w1, w2, zH, zI, ↓reduceIte, zA, zB, zC, zD, zE, zF, zG]) (dpick_ok h1.rep hf1 12) ?_
  rintro v μ2 ⟨x, σ2, rfl, _, h2, hl2⟩
  simp only [w1, w2, ↓reduceIte, aRet, aRes, aRes1]
  exact ⟨_, rfl, _, σ2, rfl, h1.trans h2, hl2.trans hl⟩

theorem num_ok (h : DR lo code bs L σ μ) (hf : Fit σ 6) :
  Ret 126 [pt (L.id .b) 0] μ fun v μ' => ∃ x σ', v = .c (.int .i64 x) ∧ DA 6 lo code bs L σ μ L σ' μ' ∧ σ'.left = σ.left := by
 refine Ret_of p126 (by simp [r126]) ?_
 simp only [rI, r126, frOf_1]
 simp only [w1, w2, ↓reduceIte, zA, h.bf]
 refine R_calls (l := [pt (L.id .cur) 0, .c (.int .i64 14)]) (by first | rfl | simp only [w1, w2, zH, zI, ↓reduceIte, zA, zB, zC, zD, zE, zF, zG]) (dpick_ok h (hf.mono (by omega)) 14) ?_
 rintro v μ1 ⟨k, σ1, rfl, _, h1, hl⟩
 have hf1 : Fit σ1 4 := Fit.next (K := 2) (hf.mono (by omega)) h1
 have b1 := h1.rep.bf
 simp only [w1, w2, ↓reduceIte]
 by_cases k0 : k = 0
 ·simp only [w1, w2, ↓reduceIte, zA, beq_tt k0, b1]
  refine R_calls (l := [pt (L.id .cur) 0]) (by first | rfl | simp only [w1, w2, zH, zI, ↓reduceIte, zA, zB, zC, zD, zE, zF, zG]) (whole_ok h1.rep hf1) ?_
  rintro v μ2 ⟨x, σ2, rfl, h2, hl2⟩
  simp only [w1, ↓reduceIte, aRet, aRes, aRes1]
  exact ⟨_, rfl, _, σ2, rfl, h1.trans h2, hl2.trans hl⟩
 ·simp only [w1, w2, ↓reduceIte, zA, beq_ff k0, b1]
  refine R_calls (l := [pt (L.id .cur) 0, .c (.int .i64 7)]) (by first | rfl | simp only [w1, w2, zH, zI, ↓reduceIte, zA, zB, zC, zD, zE, zF, zG]) (dpick_ok h1.rep (hf1.mono (by omega)) 7) ?_
  rintro v μ2 ⟨x, σ2, rfl, _, h2, hl2⟩
  simp only [w1, ↓reduceIte, aRet, aRes, aRes1]
  exact ⟨_, rfl, _, σ2, rfl, (h1.trans h2).mono (by omega), hl2.trans hl⟩

/-- A step is put at the end. -/
theorem put_ok (h : DR lo code bs L σ μ) (hf : Fit σ 1) (x : PStep) :
  Ret 95 [pt (L.id .b) 0, .agg (scells 0 x)] μ fun v μ' => ∃ L' σ', DA 1 lo code bs L σ μ L' σ' μ' ∧ σ'.left = σ.left ∧ σ'.steps = σ.steps ++ [x] := by
 have ht : Has L (dcon code L σ) lo (μ.new (scells 0 x) 0) := h.has.tmp
 have hs0 : Same lo μ (μ.new (scells 0 x) 0) := Same.tmp h.low
 have hb := h.bf
 have hb2 : (μ.new (scells 0 x) 0).ld none (L.id .b) 2 = some (.c (L.sc (.steps σ.done.length) σ.steps.length)) := ht.ldc (r := .b) rfl rfl
 have hx : (μ.new (scells 0 x) 0).ld (some 5) μ.next 0 = some (.agg (scells 0 x)) := by rw [Mem.new_ld, if_pos rfl]; rfl
 have hlo : lo ≤ (μ.new (scells 0 x) 0).next := Nat.le_trans h.low hs0.2
 have e1 : dcon code L σ (.steps σ.done.length) = some (5, cat scells 0 σ.steps) := by simp only [dcon, if_true]
 have hfl := hf.2.1
 obtain ⟨L1, μ1, ea, hL1, hs1, hoth, hob, hon, hc1, hid⟩ := (ht.tmp (cs := scells 0 x) (sz := 5)).app (Nat.le_succ_of_le hlo) (r := .steps σ.done.length) (bytes := 40) (n := σ.steps.length) (k := 1) (c := 1)
  (b := some ((μ.new (scells 0 x) 0).next, 0)) (new := scells 0 x) e1 (by omega) (by rw [cat_length scells_len]) (SlcVal.fresh rfl) ⟨by unfold most; omega, by unfold most; omega⟩ (.inl (Nat.le_refl _))
 have hcat : cat scells 0 σ.steps ++ scells 0 x = cat scells 0 (σ.steps ++ [x]) := by rw [cat_append]; rfl
 rw [hcat] at hL1
 have hid1 : ∀ y, y ≠ .steps σ.done.length → ∀ n, L1.sc y n = L.sc y n := fun y hy n => sc_eq (hoth y hy).1 (hoth y hy).2.1 (hoth y hy).2.2 n
 obtain ⟨μ2, e2, h2, hs2, n2, _⟩ := hL1.st (r := .b) (by simp only [Con.upd]; rw [if_neg (by intro hh; cases hh)]; rfl) (o := 2) (new := [L1.sc (.steps σ.done.length) (σ.steps.length + 1)]) (.inl rfl) (by simp [bcells])
 rw [(hoth .b (by simp)).1] at e2
 have hcon : Has L1 (dcon code L1 { σ with steps := σ.steps ++ [x] }) lo μ2 := by
  refine h2.weaken fun y c hy => ?_
  simp only [Con.upd]
  cases y with
  | b =>
   rw [if_pos rfl, ← hy]
   simp only [dcon, bcells, wr, List.length_append, List.length_cons, List.length_nil, (hoth .cur (by simp)).1]
   rfl
  | steps i =>
   rw [if_neg (by intro hh; cases hh)]
   by_cases hi : i = σ.done.length
   ·subst hi; rw [if_pos rfl, ← hy]; simp only [dcon, if_true]
   ·rw [if_neg (by intro hh; injection hh with hh; exact hi hh), ← hy]; simp only [dcon, if_neg hi]
  | cur => rw [if_neg (by intro hh; cases hh), if_neg (by intro hh; cases hh), ← hy]; rfl
  | res => rw [if_neg (by intro hh; cases hh), if_neg (by intro hh; cases hh), ← hy]; rfl
  | out =>
   rw [if_neg (by intro hh; cases hh), if_neg (by intro hh; cases hh), ← hy]
   simp only [dcon, hid1 .bods (by simp)]
  | bods =>
   rw [if_neg (by intro hh; cases hh), if_neg (by intro hh; cases hh), ← hy]
   simp only [dcon]
   rw [cat_congr (g := drow L) (g' := drow L1) fun j g hj => by
    have hlt := (List.getElem?_eq_some_iff.1 hj).1
    simp only [drow]
    rw [hid1 (.steps (0 + j)) (by intro hh; injection hh with hh; omega)]]
 have hsall : Same lo μ μ2 := hs0.trans ((Same.tmp hlo).trans (hs1.trans hs2))
 have e5 : (scells 0 x).length = 5 := rfl
 have hb2' : ((μ.new (scells 0 x) 0).new (scells 0 x) 5).ld none (L.id .b) 2 = some (.c (L.sc (.steps σ.done.length) σ.steps.length)) := (ht.tmp (cs := scells 0 x) (sz := 5)).ldc (r := .b) rfl rfl
 simp only [Mem.new_next] at ea
 refine Ret_of p95 (by simp [r95]) ?_
 simp only [rI, r95, frOf_2]
 simp only [scells] at hx ea hb2 e5 ⊢
 simp only [w1, w2, zH, zI, ↓reduceIte, zA, zB, e5, hb2, hx, m2, fillc, wr, rep, zJ, zB, zK, List.append_nil, Mem.new_next, ea, e2, aRet, aRes]
 refine ⟨_, rfl, L1, { σ with steps := σ.steps ++ [x] }, ⟨⟨hcon, Nat.le_trans h.low hsall.2, h.code.same hsall (Nat.le_refl _), h.bytes, h.pos, fun i hi => ?_⟩, hsall, ⟨(hoth .cur (by simp)).1, (hoth .b (by simp)).1, (hoth .out (by simp)).1, (hoth .res (by simp)).1⟩, ⟨rfl, rfl⟩, by simp only; omega, ⟨by simp, by simp⟩, ⟨Int.le_refl _, by simp only; omega⟩⟩, rfl, rfl⟩
 rw [(hoth (.steps i) (by intro hh; injection hh with hh; simp only at hi; omega)).2.1]
 exact h.off i hi

theorem dtask_ok (h : DR lo code bs L σ μ) (hf : Fit σ 7) (r : Int) :
  Ret 127 [pt (L.id .b) 0, .c (.int .i64 r)] μ fun v μ' => ∃ L' σ', DA 7 lo code bs L σ μ L' σ' μ' ∧ σ'.left = σ.left := by
 refine Ret_of p127 (by simp [r127]) ?_
 simp only [rI, r127, frOf_2]
 simp only [w1, w2, ↓reduceIte, zE, h.bf]
 refine R_calls (l := [pt (L.id .cur) 0, .c (.int .i64 3)]) (by first | rfl | simp only [w1, w2, zH, zI, ↓reduceIte, zA, zB, zC, zD, zE, zF, zG]) (dpick_ok h (hf.mono (by omega)) 3) ?_
 rintro v μ1 ⟨k, σ1, rfl, _, h1, hl⟩
 have hf1 : Fit σ1 5 := Fit.next (K := 2) hf h1
 have b1 := h1.rep.bf
 simp only [w1, w2, ↓reduceIte, zE]
 by_cases k0 : k = 0
 ·simp only [w1, beq_tt k0, aRet, aRes]
  exact ⟨_, rfl, L, σ1, h1.mono (by omega), hl⟩
 simp only [w1, w2, ↓reduceIte, zA, zE, beq_ff k0, b1]
 refine R_calls (l := [pt (L.id .cur) 0, .c (.int .i64 5)]) (by first | rfl | simp only [w1, w2, zH, zI, ↓reduceIte, zA, zB, zC, zD, zE, zF, zG]) (dpick_ok h1.rep (hf1.mono (by omega)) 5) ?_
 rintro v μ2 ⟨x, σ2, rfl, _, h2, hl2⟩
 have hf2 : Fit σ2 3 := Fit.next (K := 2) hf1 h2
 have b2 := h2.rep.bf
 simp only [w1, w2, ↓reduceIte, zA, zE, b2]
 refine R_calls (l := [pt (L.id .cur) 0, .c (.int .i64 20)]) (by first | rfl | simp only [w1, w2, zH, zI, ↓reduceIte, zA, zB, zC, zD, zE, zF, zG]) (dpick_ok h2.rep (hf2.mono (by omega)) 20) ?_
 rintro v μ3 ⟨y, σ3, rfl, _, h3, hl3⟩
 have hf3 : Fit σ3 1 := Fit.next (K := 2) hf2 h3
 simp only [w1, w2, ↓reduceIte, zE]
 by_cases y0 : y = 0
 ·simp only [w1, w2, zH, zI, ↓reduceIte, zA, zB, zE, beq_tt y0, m2, fillc, wr, zJ, zB, List.append_nil]
  refine R_calls (l := [pt (L.id .b) 0, .agg (scells 0 ⟨1, r, 0, -1, 0⟩)]) (by first | rfl | simp only [w1, w2, zH, zI, ↓reduceIte, zA, zB, zC, zD, zE, zF, zG, scells]) (put_ok h3.rep hf3 _) ?_
  rintro v μ4 ⟨L4, σ4, h4, hl4, _⟩
  simp only [w1, zE, aRet, aRes]
  exact ⟨_, rfl, L4, σ4, ((h1.trans h2).trans h3).trans h4, hl4.trans (hl3.trans (hl2.trans hl))⟩
 ·simp only [w1, w2, zH, zI, ↓reduceIte, zA, zB, beq_ff y0, m2, fillc, wr, zJ, zB, List.append_nil]
  refine R_calls (l := [pt (L.id .b) 0, .agg (scells 0 ⟨1, r, 0, x, 0⟩)]) (by first | rfl | simp only [w1, w2, zH, zI, ↓reduceIte, zA, zB, zC, zD, zE, zF, zG, scells]) (put_ok h3.rep hf3 _) ?_
  rintro v μ4 ⟨L4, σ4, h4, hl4, _⟩
  simp only [w1, aRet, aRes]
  exact ⟨_, rfl, L4, σ4, ((h1.trans h2).trans h3).trans h4, hl4.trans (hl3.trans (hl2.trans hl))⟩
end
end Go.Proofs.Ytibmnlijoeppaaa
