/-
 Drawn plans: for all bytes Drawn answers some plan.
-/
import Derived.Test.YtibmnlijoeppaaaD4
namespace Go.Proofs.Ytibmnlijoeppaaa
open Nat renaming reduceEqDiff → zA, reduceAdd → zB, reduceLeDiff → zJ, reduceMul → zK
open Int renaming reduceLT → zC, reduceLE → zD, reduceNeg → zE, reduceBEq → zF, reduceBNe → zG
open AV renaming isTup → zH, cells → zI
set_option linter.unusedSimpArgs false
set_option linter.unusedVariables false

/-! 33: spec.Drawn -/
def r33 : RFun := ⟨9, [.cell 2 (some 1)], (.seq (.reg [rI 0 (.alc [.slc none 0 0]) 2]) (.seq (.reg [rI 0 (.mv (.t 0)) 4, rI 1 (.bld [.slc none 0 0, .int .i64 0, .int .u64 0] [(0, 1, .t 4)]) 5, rI 2 (.box (.t 5) 3) 6, rI 3 (.mv (.t 6)) 3]) (.seq (.reg [rI 0 (.mv (.t 3)) 7, rI 1 (.call 68 [.t 7]) 8, ⟨2, .st (.t 2) (.t 8) 1, none, none, []⟩]) .ret)))⟩
theorem p33 : prog 33 = some r33 := by kernel_rfl



section
variable {lo : Nat} {code : Cell} {bs : List Int} {L L' L'' : Lay DRo} {σ σ' σ'' : DS} {μ μ' μ'' : Mem} {K K' : Nat}

/-- Between two bodies there is no writer. -/
def pcon0 (code : Cell) (L : Lay DRo) (σ : DS) : Con DRo := fun y => if y = DRo.b then none else dcon code L σ y

structure DP (lo : Nat) (code : Cell) (bs : List Int) (L : Lay DRo) (σ : DS) (μ : Mem) : Prop where
 has : Has L (pcon0 code L σ) lo μ
 low : lo ≤ μ.next
 code : Rd lo μ 1 code bs.length (cat byrow 0 bs)
 bytes : ∀ y ∈ bs, 0 ≤ y ∧ y ≤ 255
 pos : 0 ≤ σ.pos
 off : ∀ i, σ.done.length ≤ i → L.on (.steps i) = false
 empty : σ.steps = []
 lens : ∀ l ∈ σ.done, l.length ≤ 100000000

theorem pcon0_cur {pos seed : Int} : (pcon0 code L σ).upd .cur (curc code pos seed) = pcon0 code L { σ with pos := pos, seed := seed } := by
 funext y
 simp only [Con.upd, pcon0]
 cases y <;> rfl

/-- A body is done. -/
theorem DR.finish (h : DR lo code bs L σ μ) (hk : σ.done.length ≤ 100) (hl : ∀ l ∈ σ.done, l.length ≤ 100000000) (hst : σ.steps.length ≤ 100000000) :
  ∃ L' μ1 μ2, aapp 1 24 (.c (L.sc .bods σ.done.length)) (.c (.slc (some (μ.next, 0)) 1 1)) (μ.new [L.sc (.steps σ.done.length) σ.steps.length] 1) = some (.c (L'.sc .bods (σ.done.length + 1)), μ1) ∧ μ1.st (L.id .out) 0 [L'.sc .bods (σ.done.length + 1)] = some μ2 ∧
   DP lo code bs L' { σ with done := σ.done ++ [σ.steps], steps := [] } μ2 ∧ Same lo μ μ2 ∧ L'.id .cur = L.id .cur ∧ L'.id .out = L.id .out ∧ L'.id .res = L.id .res := by
 obtain ⟨L1, μ1, ea, hL1, hs1, hoth, hob, hon, hc1, hid⟩ := (h.has.tmp (cs := [L.sc (.steps σ.done.length) σ.steps.length]) (sz := 1)).app (Nat.le_succ_of_le h.low) (r := .bods) (bytes := 24) (n := σ.done.length) (k := 1) (c := 1)
  (b := some (μ.next, 0)) (new := [L.sc (.steps σ.done.length) σ.steps.length]) rfl (by omega) (by rw [cat_length (drow_len L)]) (SlcVal.fresh rfl) ⟨by unfold most; omega, by unfold most; omega⟩ (.inl (Nat.le_refl _))
 have hsc : ∀ y, y ≠ DRo.bods → ∀ n, L1.sc y n = L.sc y n := fun y hy n => sc_eq (hoth y hy).1 (hoth y hy).2.1 (hoth y hy).2.2 n
 obtain ⟨μ2, e2, h2, hs2, n2, _⟩ := hL1.st (r := .out) (by simp only [Con.upd]; rw [if_neg (by intro hh; cases hh)]; rfl) (o := 0) (new := [L1.sc .bods (σ.done.length + 1)]) (.inl rfl) (by simp)
 rw [(hoth .out (by simp)).1] at e2
 have hsall : Same lo μ μ2 := (Same.tmp h.low).trans (hs1.trans hs2)
 refine ⟨L1, μ1, μ2, ea, e2, ⟨?_, Nat.le_trans h.low hsall.2, h.code.same hsall (Nat.le_refl _), h.bytes, h.pos, fun i hi => ?_, rfl, fun l hl' => ?_⟩, hsall, (hoth .cur (by simp)).1, (hoth .out (by simp)).1, (hoth .res (by simp)).1⟩
 ·refine h2.weaken' fun y sz cs hy => ?_
  simp only [pcon0] at hy
  split at hy
  ·cases hy
  rename_i hyb
  simp only [Con.upd]
  cases y with
  | b => exact absurd rfl hyb
  | cur => left; rw [if_neg (by intro hh; cases hh), if_neg (by intro hh; cases hh), ← hy]; rfl
  | res => left; rw [if_neg (by intro hh; cases hh), if_neg (by intro hh; cases hh), ← hy]; rfl
  | out =>
   left; rw [if_pos rfl, ← hy]
   simp only [dcon, wr, List.length_append, List.length_cons, List.length_nil]
   rfl
  | bods =>
   left; rw [if_neg (by intro hh; cases hh), if_pos rfl, ← hy]
   simp only [dcon]
   rw [cat_append]
   have e3 : cat (drow L1) 0 σ.done = cat (drow L) 0 σ.done := cat_congr fun j g hj => by simp only [drow, hsc (.steps (0 + j)) (by simp)]
   rw [e3]
   simp only [cat, drow, Nat.zero_add, hsc (.steps σ.done.length) (by simp), List.append_nil]
  | steps i =>
   rw [if_neg (by intro hh; cases hh), if_neg (by intro hh; cases hh)]
   simp only [dcon, List.length_append, List.length_cons, List.length_nil] at hy ⊢
   by_cases hi : i = σ.done.length + 1
   ·rw [if_pos (by omega)] at hy
    simp only [Option.some.injEq, Prod.mk.injEq] at hy
    obtain ⟨rfl, rfl⟩ := hy
    exact .inr ⟨by rw [(hoth (.steps i) (by simp)).2.1]; exact h.off i (by omega), by omega, rfl⟩
   ·rw [if_neg (by omega)] at hy
    left
    by_cases hi2 : i = σ.done.length
    ·subst hi2
     rw [List.getElem?_append_right (Nat.le_refl _), Nat.sub_self] at hy
     rw [if_pos rfl, ← hy]; rfl
    ·rw [if_neg hi2, ← hy]
     by_cases hi3 : i < σ.done.length
     ·rw [List.getElem?_append_left hi3]
     ·have z1 : (σ.done ++ [σ.steps])[i]? = none := List.getElem?_eq_none (by rw [List.length_append]; simp only [List.length_cons, List.length_nil]; omega)
      have z2 : σ.done[i]? = none := List.getElem?_eq_none (by omega)
      rw [z1, z2]
 ·simp only [List.length_append, List.length_cons, List.length_nil] at hi
  rw [(hoth (.steps i) (by simp)).2.1]
  exact h.off i (by omega)
 ·simp only [List.mem_append, List.mem_singleton] at hl'
  rcases hl' with h1 | rfl
  ·exact hl l h1
  ·exact hst

/-- A writer begins. -/
theorem DP.begin (h : DP lo code bs L σ μ) (n left : Int) : DR lo code bs (L.put .b μ.next 0) { σ with bodies := n, left := left } (μ.new [.ptr (some (L.id .cur, 0)), .int .i64 n, .slc none 0 0, .int .i64 left] 0) := by
 have h1 := h.has.new h.low (r := DRo.b) (sz := 0) (cs := [.ptr (some (L.id .cur, 0)), .int .i64 n, .slc none 0 0, .int .i64 left]) (cap := 0) trivial
 have hs : Same lo μ (μ.new [.ptr (some (L.id .cur, 0)), .int .i64 n, .slc none 0 0, .int .i64 left] 0) := Same.tmp h.low
 have hid : ∀ y, y ≠ DRo.b → (L.put .b μ.next 0).id y = L.id y := fun y hy => by simp only [Lay.put, if_neg hy]
 have hon : ∀ y, y ≠ DRo.b → (L.put .b μ.next 0).on y = L.on y := fun y hy => by simp only [Lay.put, if_neg hy]
 have hcp : ∀ y, y ≠ DRo.b → (L.put .b μ.next 0).cap y = L.cap y := fun y hy => by simp only [Lay.put, if_neg hy]
 have hsc : ∀ y, y ≠ DRo.b → ∀ n, (L.put .b μ.next 0).sc y n = L.sc y n := fun y hy n => sc_eq (hid y hy) (hon y hy) (hcp y hy) n
 refine ⟨h1.weaken fun y c hy => ?_, Nat.le_trans h.low hs.2, h.code.same hs (Nat.le_refl _), h.bytes, h.pos, fun i hi => by rw [hon _ (by simp)]; exact h.off i (by simp only at hi; omega)⟩
 simp only [Con.upd, pcon0]
 cases y with
 | b =>
  rw [if_pos rfl, ← hy]
  simp only [dcon, bcells, h.empty, hid .cur (by simp), List.length_nil]
  rw [hsc _ (by simp)]
  unfold Lay.sc
  rw [if_neg (by rw [h.off _ (Nat.le_refl _)]; simp)]
 | cur => rw [if_neg (by intro hh; cases hh), if_neg (by intro hh; cases hh), ← hy]; rfl
 | res => rw [if_neg (by intro hh; cases hh), if_neg (by intro hh; cases hh), ← hy]; rfl
 | out => rw [if_neg (by intro hh; cases hh), if_neg (by intro hh; cases hh), ← hy]; simp only [dcon, hsc .bods (by simp)]
 | bods =>
  rw [if_neg (by intro hh; cases hh), if_neg (by intro hh; cases hh), ← hy]
  simp only [dcon]
  rw [cat_congr (g := drow L) (g' := drow (L.put .b μ.next 0)) fun j g hj => by simp only [drow, hsc (.steps (0 + j)) (by simp)]]
 | steps i => rw [if_neg (by intro hh; cases hh), if_neg (by intro hh; cases hh), ← hy]; rfl

theorem DP.pick (h : DP lo code bs L σ μ) (hp : σ.pos ≤ 50000000) (n : Int) :
  Ret 94 [pt (L.id .cur) 0, .c (.int .i64 n)] μ fun v μ' => ∃ x σ', v = .c (.int .i64 x) ∧ (0 ≤ x ∧ (1 ≤ n → x < n)) ∧ DP lo code bs L σ' μ' ∧ Same lo μ μ' ∧ σ'.done = σ.done ∧ σ'.pos ≤ σ.pos + 2 := by
 have e : pcon0 code L σ .cur = some (curc code σ.pos σ.seed) := rfl
 refine (pick_ok h.has e h.code h.bytes ⟨h.pos, by omega⟩ n).mono ?_
 rintro v μ' ⟨x, pos', seed', rfl, hx, hpp, h1, hs, _⟩
 rw [pcon0_cur] at h1
 exact ⟨x, { σ with pos := pos', seed := seed' }, rfl, hx, ⟨h1, Nat.le_trans h.low hs.2, h.code.same hs (Nat.le_refl _), h.bytes, by have := h.pos; simp only; omega, h.off, h.empty, h.lens⟩, hs, rfl, hpp.2⟩

/-- From a writer at its work to the end of its body. -/
theorem body_end {n i : Int} {fr : Fr} {s : List It} {Q : Fr → Mem → Prop} (h : DR lo code bs L σ μ) (hleft : σ.left ≤ 30) (hf : Fit σ 310000) (hk : σ.done.length ≤ 100) (hl : ∀ l ∈ σ.done, l.length ≤ 100000000) (hp : Kp fr L n i) (f6 : fr 6 = pt (L.id .b) 0)
  (hend : ∀ fr' L' σ' μ', DP lo code bs L' σ' μ' → Same lo μ μ' → σ'.done.length = σ.done.length + 1 → σ'.pos ≤ σ.pos + 309000 → Kp fr' L' n i → R s fr' μ' Q) : R (.c (.loop b68_1) :: .blk 4 :: .c t680 :: s) fr μ Q := by
 refine writeLoop (n := n) (i := i) 30 fr L σ μ h (by omega) (hf.mono (by omega)) hp f6 ?_
 intro fr1 L1 σ1 μ1 h1 k1 g6
 obtain ⟨g0, g2, g3, g4, g5⟩ := k1
 have hb1 := h1.rep.bf
 have lo1 : μ1.ld none (L1.id .out) 0 = some (.c (L1.sc .bods σ1.done.length)) := h1.rep.has.ldc (r := .out) rfl rfl
 have hlen := h1.len.2
 have hfl := hf.2.1
 obtain ⟨L2, μ2, μ3, e2, e3, h3, hs3, i1, i2, i3⟩ := h1.rep.finish (by rw [h1.done.1]; exact hk) (by rw [h1.done.1]; exact hl) (by omega)
 simp only [rI, t680]
 simp only [w1, w2, zH, zI, ↓reduceIte, zA, g3, g6, lo1, hb1, m2, fillc, wr, rep, zJ, zK, List.append_nil, e2, e3]
 refine hend _ L2 _ μ3 h3 (h1.same.trans hs3) (by simp [h1.done.1]) (by have := h1.pos; simp only; omega) ⟨?_, ?_, ?_, ?_, ?_⟩ <;> simp only [w1, ↓reduceIte, zA, g0, g2, g3, g4, g5, i1, i2, i3]

theorem planLoop {n : Nat} (hn : 0 < n ∧ n ≤ 5) {s : List It} {Q : Fr → Mem → Prop} :
  ∀ (m i : Nat) (fr : Fr) (L : Lay DRo) (σ : DS) (μ : Mem), i + m = n → DP lo code bs L σ μ → σ.done.length = i → σ.pos ≤ 10 + i * 310000 → Kp fr L n i →
   (∀ fr' L' σ' μ', DP lo code bs L' σ' μ' → Same lo μ μ' → σ'.done.length = n → Kp fr' L' n n → R s fr' μ' Q) → R (.c (.loop b68_2) :: .blk 0 :: s) fr μ Q := by
 intro m
 induction m with
 | zero =>
  intro i fr L σ μ hi h hd hpos hp hend
  obtain rfl : i = n := by omega
  obtain ⟨f0, f2, f3, f4, f5⟩ := hp
  rw [R_loop]
  simp only [rI, b68_2]
  simp only [w1, w2, ↓reduceIte, zA, f4, f5]
  rw [decide_eq_false (by omega)]
  simp only [w1]
  rw [R_exit rfl]
  refine hend _ L σ μ h Same.refl hd ⟨?_, ?_, ?_, ?_, ?_⟩ <;> simp only [w1, ↓reduceIte, zA, f0, f2, f3, f4, f5]
 | succ m ih =>
  intro i fr L σ μ hi h hd hpos hp hend
  obtain ⟨f0, f2, f3, f4, f5⟩ := hp
  have hi5 : i * 310000 ≤ 4 * 310000 := Nat.mul_le_mul_right _ (by omega)
  rw [R_loop]
  simp only [rI, b68_2]
  simp only [w1, w2, ↓reduceIte, zA, f4, f5]
  rw [decide_eq_true (by omega)]
  simp only [w1, w2, ↓reduceIte, zA, f0, f4]
  refine R_calls (l := [pt (L.id .cur) 0, .c (.int .i64 20)]) (by first | rfl | simp only [w1, w2, zH, zI, ↓reduceIte, zA, zB, zC, zD, zE, zF, zG, f0]) (h.pick (by omega) 20) ?_
  rintro v μ1 ⟨x, σ1, rfl, hx, h1, hs1, hd1, hp1⟩
  have hx20 := hx.2 (by omega)
  have hcp : ∀ y, y ≠ DRo.b → (L.put .b μ1.next 0).id y = L.id y := fun y hy => by simp only [Lay.put, if_neg hy]
  have hidb : (L.put .b μ1.next 0).id .b = μ1.next := by simp only [Lay.put, if_true]
  have hb := h1.begin n (3 + x)
  have hsb : Same lo μ1 (μ1.new [.ptr (some (L.id .cur, 0)), .int .i64 n, .slc none 0 0, .int .i64 (3 + x)] 0) := Same.tmp h1.low
  have e4 : ([.ptr (some (L.id .cur, 0)), .int .i64 n, .slc none 0 0, .int .i64 (3 + x)] : List Cell).length = 4 := rfl
  simp only [w1, w2, zH, zI, ↓reduceIte, zA]
  rw [small (n := 3 + x) (by omega)]
  simp only [w1, w2, zH, zI, ↓reduceIte, zA, zB, m2, fillc, wr, zJ, zB, f5, e4]
  generalize μ1.new [.ptr (some (L.id .cur, 0)), .int .i64 n, .slc none 0 0, .int .i64 (3 + x)] 0 = μ2 at *
  have hst1 := h1.empty
  -- the rest of the body
  have rest : ∀ {fr1 : Fr} {L1 : Lay DRo} {σ2 : DS} {μ3 : Mem}, DR lo code bs L1 σ2 μ3 → Same lo μ2 μ3 → σ2.left ≤ 30 → σ2.done = σ.done → σ2.pos ≤ 500 + i * 310000 → σ2.steps.length ≤ 500 → -500 ≤ σ2.left → Kp fr1 L1 n i → fr1 6 = pt (L1.id .b) 0 →
    R (.c (.loop b68_1) :: .blk 4 :: .c t680 :: .blk 1 :: .c (.reg [rI 0 (.mv (.t 5)) 16, rI 1 (.bin .add (.t 16) (.k (.int .i64 1))) 17, rI 2 (.mv (.t 17)) 5]) :: .lp b68_2 :: .blk 0 :: s) fr1 μ3 Q := by
   intro fr1 L1 σ2 μ3 r1 sm hl2 hd2 hp2 hsl hl3 k1 g6
   refine body_end r1 hl2 (by unfold Fit; omega) (by rw [hd2, hd]; omega) (by rw [hd2, ← hd1]; exact h1.lens) k1 g6 ?_
   intro fr2 L3 σ3 μ4 r3 sm3 hd3 hp3 k3
   obtain ⟨g0, g2, g3, g4, g5⟩ := k3
   simp only [rI]
   simp only [w1, w2, ↓reduceIte, g5]
   rw [small (by omega), R_lp]
   refine ih (i + 1) _ L3 σ3 μ4 (by omega) r3 (by rw [hd3, hd2, hd]) ?_ ⟨?_, ?_, ?_, ?_, ?_⟩ fun fr' L' σ' μ' a b => hend fr' L' σ' μ' a (((hs1.trans hsb).trans sm).trans (sm3.trans b))
   ·have := Nat.add_mul i 1 310000; omega
   ·simp only [w1, ↓reduceIte, zA, g0]
   ·simp only [w1, ↓reduceIte, zA, g2]
   ·simp only [w1, ↓reduceIte, zA, g3]
   ·simp only [w1, ↓reduceIte, zA, g4]
   ·simp only [w1, ↓reduceIte]; congr 2
  by_cases hi0 : i = 0
  ·have hi0' : (i : Int) = 0 := by omega
   simp only [w1, w2, beq_tt hi0']
   refine newLoop (n := n) (m0 := i) (by omega) n 0 _ _ _ μ2 (by omega) hb (by unfold Fit; simp only [hst1, List.length_nil]; omega) hn.1 ⟨?_, ?_, ?_, ?_, ?_⟩ ?_ ?_ ?_
   ·simp only [w1, ↓reduceIte, zA, f0, hcp DRo.cur (by simp)]
   ·simp only [w1, ↓reduceIte, zA, f2, hcp DRo.res (by simp)]
   ·simp only [w1, ↓reduceIte, zA, f3, hcp DRo.out (by simp)]
   ·simp only [w1, ↓reduceIte, zA, f4]
   ·simp only [w1, ↓reduceIte, zA, f5]
   ·simp only [w1, ↓reduceIte, zA, hidb]
   ·simp only [w1, ↓reduceIte]; rfl
   ·intro fr1 L1 σ2 μ3 h3 hl3 k3 g6
    obtain ⟨g0, g2, g3, g4, g5⟩ := k3
    have hb3 := h3.rep.bf
    obtain ⟨μ4, e4', h4, hs4⟩ := h3.rep.left (σ2.left + 6)
    have hl3' : σ2.left = 3 + x := hl3
    have hwr : IntKind.i64.wrap (σ2.left + 6) = σ2.left + 6 := small (by omega)
    simp only [w1, w2, zH, zI, ↓reduceIte, zA, g6, hb3, hwr, e4']
    have h3l := h3.len.2
    have h3p := h3.pos
    simp only [hst1, List.length_nil] at h3l
    simp only at h3p
    refine rest h4 (h3.same.trans hs4) (by simp only; omega) (h3.done.1.trans hd1) (by simp only; omega) (by simp only; omega) (by simp only; omega) ⟨?_, ?_, ?_, ?_, ?_⟩ ?_ <;> simp only [w1, ↓reduceIte, zA, g0, g2, g3, g4, g5, g6]
  ·have hi0' : (i : Int) ≠ 0 := by omega
   simp only [w1, beq_ff hi0']
   refine rest hb Same.refl (by simp only; omega) hd1 (by simp only; omega) (by simp only [hst1, List.length_nil]; omega) (by simp only; omega) ⟨?_, ?_, ?_, ?_, ?_⟩ ?_ <;> simp only [w1, ↓reduceIte, zA, f0, f2, f3, f4, f5, hidb, hcp DRo.cur (by simp), hcp DRo.res (by simp), hcp DRo.out (by simp)]

/-- A drawn plan reads as a plan. -/
theorem drawn_has {C : Con DRo} (h : Has L C lo μ) (h1 : C .bods = some (1, cat (drow L) 0 σ.done)) (h2 : ∀ i (l : List PStep), σ.done[i]? = some l → C (.steps i) = some (5, cat scells 0 l)) : ∃ LP : Lay PR, Has LP (pcon LP σ.done) lo μ ∧ LP.sc .bodies σ.done.length = L.sc .bods σ.done.length := by
 have hf : Has (⟨fun r => match r with | .bodies => L.id .bods | .steps i => L.id (.steps i), fun r => match r with | .bodies => L.on .bods | .steps i => L.on (.steps i), fun r => match r with | .bodies => L.cap .bods | .steps i => L.cap (.steps i)⟩ : Lay PR)
   (pcon ⟨fun r => match r with | .bodies => L.id .bods | .steps i => L.id (.steps i), fun r => match r with | .bodies => L.on .bods | .steps i => L.on (.steps i), fun r => match r with | .bodies => L.cap .bods | .steps i => L.cap (.steps i)⟩ σ.done) lo μ := by
  refine ⟨fun r r' a b e => ?_, fun r hr => ?_, fun r hr => ?_, fun r sz cs e => ?_⟩
  ·cases r <;> cases r'
   ·rfl
   ·have := h.inj _ _ a b e; cases this
   ·have := h.inj _ _ a b e; cases this
   ·have := h.inj _ _ a b e; injection this with this; rw [this]
  ·cases r <;> exact h.lt _ hr
  ·cases r <;> exact h.ge _ hr
  ·cases r with
   | bodies =>
    have := h.obj .bods sz cs (by rw [h1, ← e]; rfl)
    exact this
   | steps i =>
    simp only [pcon] at e
    obtain ⟨l, hl, e2⟩ := Option.map_eq_some_iff.1 e
    have := h.obj (.steps i) sz cs (by rw [h2 i l hl, e2])
    exact this
 exact ⟨_, hf, rfl⟩

theorem plan_ok {b : Nat} (hcur : Has (Lay.put ⟨fun _ => 0, fun _ => false, fun _ => 0⟩ DRo.cur b 0) (Con.upd (fun _ => none) DRo.cur (curc code 0 0)) lo μ) (hlo : lo ≤ μ.next) (hc : Rd lo μ 1 code bs.length (cat byrow 0 bs)) (hb : ∀ y ∈ bs, 0 ≤ y ∧ y ≤ 255) :
  Ret 68 [pt b 0] μ fun v μ' => ∃ (LP : Lay PR) (p : PPlan), v = .agg [LP.sc .bodies p.length] ∧ Has LP (pcon LP p) lo μ' ∧ Lens p ∧ Same lo μ μ' := by
 have g1 := hcur.new hlo (r := DRo.res) (sz := 0) (cs := [.slc none 0 0]) (cap := 0) trivial
 have s1 : Same lo μ (μ.new [.slc none 0 0] 0) := Same.tmp hlo
 have g2 := g1.new (Nat.le_trans hlo s1.2) (r := DRo.out) (sz := 0) (cs := [.slc none 0 0]) (cap := 0) trivial
 have s2 : Same lo μ ((μ.new [.slc none 0 0] 0).new [.slc none 0 0] 0) := s1.trans (Same.tmp (Nat.le_trans hlo s1.2))
 have hdp : DP lo code bs (((Lay.put ⟨fun _ => 0, fun _ => false, fun _ => 0⟩ DRo.cur b 0).put DRo.res μ.next 0).put DRo.out (μ.next + 1) 0) ⟨0, 0, [], 0, [], 0⟩ ((μ.new [.slc none 0 0] 0).new [.slc none 0 0] 0) := by
  refine ⟨g2.weaken' fun y sz cs hy => ?_, Nat.le_trans hlo s2.2, hc.same s2 (Nat.le_refl _), hb, Int.le_refl _, fun i _ => rfl, rfl, fun l hl => by simp at hl⟩
  simp only [pcon0] at hy
  split at hy
  ·cases hy
  rename_i hyb
  cases y with
  | b => exact absurd rfl hyb
  | cur => left; rw [← hy]; rfl
  | res => left; rw [← hy]; rfl
  | out => left; rw [← hy]; rfl
  | bods =>
   simp only [dcon, cat, Option.some.injEq, Prod.mk.injEq] at hy
   obtain ⟨rfl, rfl⟩ := hy
   exact .inr ⟨rfl, by omega, rfl⟩
  | steps i =>
   simp only [dcon, List.length_nil] at hy
   split at hy
   ·simp only [cat, Option.some.injEq, Prod.mk.injEq] at hy
    obtain ⟨rfl, rfl⟩ := hy
    exact .inr ⟨rfl, by omega, rfl⟩
   ·simp at hy
 refine Ret_of p68 (by simp [r68]) ?_
 simp only [rI, r68, frOf_1]
 simp only [w1, w2, ↓reduceIte, zA, Mem.new_next]
 generalize hL0 : ((Lay.put ⟨fun _ => 0, fun _ => false, fun _ => 0⟩ DRo.cur b 0).put DRo.res μ.next 0).put DRo.out (μ.next + 1) 0 = L0 at *
 have i1 : L0.id .cur = b := by rw [← hL0]; rfl
 have i2 : L0.id .res = μ.next := by rw [← hL0]; rfl
 have i3 : L0.id .out = μ.next + 1 := by rw [← hL0]; rfl
 generalize (μ.new [.slc none 0 0] 0).new [.slc none 0 0] 0 = μ2 at *
 have hp := hdp.pick (by simp only; omega) 5
 rw [i1] at hp
 refine R_calls (l := [pt b 0, .c (.int .i64 5)]) (by first | rfl | simp only [w1, w2, zH, zI, ↓reduceIte, zA, zB, zC, zD, zE, zF, zG]) hp ?_
 rintro v μ3 ⟨x, σ3, rfl, hx, h3, hs3, hd3, hp3⟩
 have hx5 := hx.2 (by omega)
 obtain ⟨n, rfl⟩ : ∃ n : Nat, x = n := ⟨x.toNat, by omega⟩
 simp only [w1, w2, ↓reduceIte]
 rw [small (by omega)]
 have en : (1 : Int) + (n : Int) = ((1 + n : Nat) : Int) := by omega
 rw [en]
 refine planLoop (n := 1 + n) (by omega) (1 + n) 0 _ L0 σ3 μ3 (by omega) h3 (by rw [hd3]; rfl) (by simp only at hp3; omega) ⟨?_, ?_, ?_, ?_, ?_⟩ ?_
 ·simp only [w1, ↓reduceIte, zA, i1]
 ·simp only [w1, ↓reduceIte, zA, i2]
 ·simp only [w1, ↓reduceIte, zA, i3]
 ·simp only [w1, ↓reduceIte, zA]
 ·simp only [w1, ↓reduceIte]; rfl
 ·intro fr' L4 σ4 μ4 h4 hs4 hd4 k4
  obtain ⟨g0, g2, g3, g4, g5⟩ := k4
  have lo1 : μ4.ld (some 1) (L4.id .out) 0 = some (.agg [L4.sc .bods σ4.done.length]) := h4.has.ldn (r := .out) rfl rfl (.inl rfl)
  obtain ⟨μ5, e5, h5, hs5, n5, o5⟩ := h4.has.st (r := .res) rfl (o := 0) (new := [L4.sc .bods σ4.done.length]) (.inl rfl) (by simp)
  have l5 : μ5.ld (some 1) (L4.id .res) 0 = some (.agg [L4.sc .bods σ4.done.length]) := h5.ldn (r := .res) (sz := 0) (cs := [L4.sc .bods σ4.done.length]) (by simp only [Con.upd, if_true]; rfl) rfl (.inl rfl)
  simp only [w1, w2, zH, zI, ↓reduceIte, zA, g2, g3, lo1, e5, aRet, aRes, aRes1, l5]
  obtain ⟨LP, hP, eP⟩ := drawn_has h5 (by simp only [Con.upd]; rw [if_neg (by intro hh; cases hh)]; rfl) (fun i l hl => by
   simp only [Con.upd]
   rw [if_neg (by intro hh; cases hh)]
   have hlt := (List.getElem?_eq_some_iff.1 hl).1
   simp only [pcon0, dcon]
   rw [if_neg (by intro hh; cases hh), if_neg (by omega), hl]; rfl)
  exact ⟨_, rfl, LP, σ4.done, by rw [eP], hP, ⟨by rw [hd4]; omega, fun l hl => by have := h4.lens l hl; omega⟩, s2.trans (hs3.trans (hs4.trans hs5))⟩

theorem drawn_ok {hi : Nat} {c : Cell} (hc : Rd hi μ 1 c bs.length (cat byrow 0 bs)) (hh : hi ≤ μ.next) (hb : ∀ y ∈ bs, 0 ≤ y ∧ y ≤ 255) :
  Ret 33 [.c c] μ fun v μ' => ∃ x p, v = .agg [x] ∧ PlanR μ'.next μ' x p ∧ Lens p ∧ Same μ.next μ μ' := by
 have s1 : Same (μ.next + 1) (μ.new [.slc none 0 0] 0) ((μ.new [.slc none 0 0] 0).new [c, .int .i64 0, .int .u64 0] 0) := Same.tmp (by simp only [Mem.new_next]; omega)
 have s0 : Same μ.next μ (μ.new [.slc none 0 0] 0) := Same.tmp (Nat.le_refl _)
 have g1 : Has (Lay.put ⟨fun _ => 0, fun _ => false, fun _ => 0⟩ DRo.cur (μ.next + 1) 0) (Con.upd (fun _ => none) DRo.cur (curc c 0 0)) (μ.next + 1) ((μ.new [.slc none 0 0] 0).new [c, .int .i64 0, .int .u64 0] 0) :=
  (Has.start (lo := μ.next + 1) (μ := μ.new [.slc none 0 0] 0) (fun _ => rfl)).new (by simp only [Mem.new_next]; omega) (r := DRo.cur) (sz := 0) (cs := [c, .int .i64 0, .int .u64 0]) (cap := 0) trivial
 have hp := plan_ok g1 (by simp only [Mem.new_next]; omega) (((hc.same s0 hh).mono (show hi ≤ μ.next + 1 by omega)).same s1 (Nat.le_refl _)) hb
 have e3 : ([c, .int .i64 0, .int .u64 0] : List Cell).length = 3 := rfl
 refine Ret_of p33 (by simp [r33]) ?_
 simp only [rI, r33, frOf_1]
 simp only [w1, w2, zH, zI, ↓reduceIte, zA, zB, m2, fillc, wr, zJ, zB, Mem.new_next, e3]
 refine R_calls (l := [pt (μ.next + 1) 0]) (by first | rfl | simp only [w1, w2, zH, zI, ↓reduceIte, zA, zB, zC, zD, zE, zF, zG]) hp ?_
 rintro v μ3 ⟨LP, p, rfl, hR, hL, hs3⟩
 generalize hxx : LP.sc .bodies p.length = x at *
 have hs03 : Same (μ.next + 1) (μ.new [.slc none 0 0] 0) μ3 := s1.trans hs3
 obtain ⟨μ4, e4, hs4, n4, o4⟩ := hs03.st (i := μ.next) (o := 0) (x := [x]) (μ1 := μ.new [x] 0) (by omega) (new_st0 rfl)
 have l4 : μ4.ld (some 1) μ.next 0 = some (.agg [x]) := by rw [hs4.ld (by omega), Mem.new_ld, if_pos rfl]; rfl
 simp only [w1, w2, zH, zI, ↓reduceIte, zA, e4, aRet, aRes, aRes1, l4]
 refine ⟨_, rfl, x, p, rfl, ?_, hL, (Same.tmp (Nat.le_refl _)).trans (hs4.mono (Nat.le_succ _))⟩
 have h5 : Has LP (pcon LP p) (μ.next + 1) μ4 := hR.frame (by rw [n4]; exact Nat.le_refl _) fun r hr => o4 _ (by have := hR.ge r hr; omega)
 rw [← hxx]
 exact h5.planR
end
end Go.Proofs.Ytibmnlijoeppaaa
