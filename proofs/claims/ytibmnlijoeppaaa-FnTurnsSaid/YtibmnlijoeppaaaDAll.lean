/-
 Drawn plans: the reader of choices, and the writer of a body's steps.
 Drawn plans: the writer of a body's steps, its small functions.
 Drawn plans: a step and a block.
 Drawn plans: a body is written.
 Drawn plans: for all bytes Drawn answers some plan.
-/
import Derived.Test.YtibmnlijoeppaaaH2
namespace Go.Proofs.Ytibmnlijoeppaaa
open Nat renaming reduceEqDiff → zA, reduceAdd → zB, reduceLeDiff → zJ, reduceMul → zK
open Int renaming reduceLT → zC, reduceLE → zD, reduceNeg → zE, reduceBEq → zF, reduceBNe → zG
open AV renaming isTup → zH, cells → zI
set_option linter.unusedSimpArgs false
set_option linter.unusedVariables false

/-! 94: spec.l4Cur).pick -/
def r94 : RFun := ⟨20, [.tmp 4], (.seq (.reg [rI 0 (.mv (.k (.int .i64 0))) 4]) (.seq (.seq (.reg [rI 0 (.mv (.t 1)) 6, rI 1 (.bin .leq (.t 6) (.k (.int .i64 1))) 7]) (.ite (.t 7) (.seq (.reg [rI 0 (.mv (.k (.int .i64 0))) 4]) .ret) .skip)) (.seq (.reg [rI 0 (.mv (.t 0)) 8, rI 1 (.call 123 [.t 8]) 9, rI 2 (.mv (.t 9)) 5]) (.seq (.seq (.reg [rI 0 (.mv (.t 1)) 10, rI 1 (.bin .gtr (.t 10) (.k (.int .i64 200))) 11]) (.ite (.t 11) (.reg [rI 0 (.mv (.t 5)) 12, rI 1 (.bin .mul (.t 12) (.k (.int .i64 256))) 13, rI 2 (.mv (.t 0)) 14, rI 3 (.call 123 [.t 14]) 15, rI 4 (.bin .add (.t 13) (.t 15)) 16, rI 5 (.mv (.t 16)) 5]) .skip)) (.seq (.reg [rI 0 (.mv (.t 5)) 17, rI 1 (.mv (.t 1)) 18, rI 2 (.bin .rem (.t 17) (.t 18)) 19, rI 3 (.mv (.t 19)) 4]) .ret)))))⟩
theorem p94 : prog 94 = some r94 := by kernel_rfl

/-! 123: spec.l4Cur).next -/
def r123 : RFun := ⟨68, [.tmp 2], (.seq (.reg [rI 0 (.mv (.k (.int .i64 0))) 2]) (.seq (.seq (.reg [rI 0 (.mv (.t 0)) 4, rI 1 (.nc (.t 4)) 5, rI 2 (.fa (.t 5) 1) 6, rI 4 (.mv (.t 0)) 8, rI 5 (.nc (.t 8)) 9, rI 6 (.fa (.t 9) 0) 10, rI 3 (.ld none (.t 6)) 7, rI 7 (.ld none (.t 10)) 11, rI 8 (.len (.t 11)) 12, rI 9 (.bin .lss (.t 7) (.t 12)) 13]) (.ite (.t 13) (.seq (.reg [rI 0 (.mv (.t 0)) 14, rI 1 (.nc (.t 14)) 15, rI 2 (.fa (.t 15) 0) 16, rI 4 (.mv (.t 0)) 18, rI 5 (.nc (.t 18)) 19, rI 6 (.fa (.t 19) 1) 20, rI 3 (.ld none (.t 16)) 17, rI 7 (.ld none (.t 20)) 21, rI 8 (.ias (.t 17) (.t 21) 1) 22, rI 9 (.ld none (.t 22)) 23, rI 10 (.mv (.t 23)) 3]) (.seq (.reg [rI 0 (.mv (.t 0)) 24, rI 1 (.nc (.t 24)) 25, rI 2 (.fa (.t 25) 1) 26, rI 3 (.ld none (.t 26)) 27, rI 4 (.bin .add (.t 27) (.k (.int .i64 1))) 28, rI 5 (.nc (.t 24)) 29, rI 6 (.fa (.t 29) 1) 30, ⟨7, .st (.t 30) (.t 28) 1, none, none, []⟩]) (.seq (.reg [rI 0 (.mv (.t 0)) 31, rI 1 (.mv (.t 0)) 32, rI 2 (.nc (.t 32)) 33, rI 3 (.fa (.t 33) 2) 34, rI 4 (.ld none (.t 34)) 35, rI 5 (.bin .mul (.t 35) (.k (.int .u64 6364136223846793005))) 36, rI 6 (.mv (.t 3)) 37, rI 7 (.cv .u64 (.t 37)) 38, rI 8 (.bin .add (.t 36) (.t 38)) 39, rI 9 (.bin .add (.t 39) (.k (.int .u64 1442695040888963407))) 40, rI 10 (.nc (.t 31)) 41, rI 11 (.fa (.t 41) 2) 42, ⟨12, .st (.t 42) (.t 40) 1, none, none, []⟩]) (.seq (.reg [rI 0 (.mv (.t 3)) 43, rI 1 (.cv .i64 (.t 43)) 44, rI 2 (.mv (.t 44)) 2]) .ret)))) .skip)) (.seq (.reg [rI 0 (.mv (.t 0)) 45, rI 1 (.mv (.t 0)) 46, rI 2 (.nc (.t 46)) 47, rI 3 (.fa (.t 47) 2) 48, rI 4 (.ld none (.t 48)) 49, rI 5 (.bin .mul (.t 49) (.k (.int .u64 6364136223846793005))) 50, rI 6 (.bin .add (.t 50) (.k (.int .u64 1442695040888963407))) 51, rI 7 (.nc (.t 45)) 52, rI 8 (.fa (.t 52) 2) 53, ⟨9, .st (.t 53) (.t 51) 1, none, none, []⟩]) (.seq (.reg [rI 0 (.mv (.t 0)) 54, rI 1 (.nc (.t 54)) 55, rI 2 (.fa (.t 55) 1) 56, rI 3 (.ld none (.t 56)) 57, rI 4 (.bin .add (.t 57) (.k (.int .i64 1))) 58, rI 5 (.nc (.t 54)) 59, rI 6 (.fa (.t 59) 1) 60, ⟨7, .st (.t 60) (.t 58) 1, none, none, []⟩]) (.seq (.reg [rI 0 (.mv (.t 0)) 61, rI 1 (.nc (.t 61)) 62, rI 2 (.fa (.t 62) 2) 63, rI 3 (.ld none (.t 63)) 64, rI 4 (.bin .shr (.t 64) (.k (.int .u64 40))) 65, rI 5 (.bin .and (.t 65) (.k (.int .u64 255))) 66, rI 6 (.cv .i64 (.t 66)) 67, rI 7 (.mv (.t 67)) 2]) .ret)))))⟩
theorem p123 : prog 123 = some r123 := by kernel_rfl



def byrow (_ : Nat) (n : Int) : List Cell := [.int .u8 n]
theorem byrow_len (i : Nat) (n : Int) : (byrow i n).length = 1 := rfl

theorem and255 {a : Int} : ∃ y : Int, vbin .and (.c (.int .u64 a)) (.c (.int .u64 255)) = some (.c (.int .u64 y)) ∧ 0 ≤ y ∧ y ≤ 255 := by
 refine ⟨IntKind.u64.wrap ((BitVec.ofInt 64 a &&& BitVec.ofInt 64 255).toNat), rfl, ?_⟩
 have h : (BitVec.ofInt 64 a &&& BitVec.ofInt 64 255).toNat ≤ 255 := by
  rw [BitVec.toNat_and]
  exact Nat.and_le_right
 have e : IntKind.u64.wrap ((BitVec.ofInt 64 a &&& BitVec.ofInt 64 255).toNat : Int) = ((BitVec.ofInt 64 a &&& BitVec.ofInt 64 255).toNat : Int) := by
  rw [IntKind.wrap_u64]; omega
 rw [e]; omega
theorem shr40 {a : Int} : ∃ y : Int, vbin .shr (.c (.int .u64 a)) (.c (.int .u64 40)) = some (.c (.int .u64 y)) := ⟨_, rfl⟩

section
variable {ι : Type} [DecidableEq ι] {L : Lay ι} {C : Con ι} {lo : Nat} {μ : Mem} {r : ι} {code : Cell} {bs : List Int} {pos seed : Int}

/-- What the reader is: bytes, a place, a number. -/
def curc (code : Cell) (pos seed : Int) : Nat × List Cell := (0, [code, .int .i64 pos, .int .u64 seed])

theorem next_ok (h : Has L C lo μ) (e : C r = some (curc code pos seed)) (hc : Rd lo μ 1 code bs.length (cat byrow 0 bs)) (hb : ∀ y ∈ bs, 0 ≤ y ∧ y ≤ 255) (hp : 0 ≤ pos ∧ pos ≤ 1000000000) :
  Ret 123 [pt (L.id r) 0] μ fun v μ' => ∃ x seed', v = .c (.int .i64 x) ∧ (0 ≤ x ∧ x ≤ 255) ∧ Has L (C.upd r (curc code (pos + 1) seed')) lo μ' ∧ Same lo μ μ' ∧ ∀ b, b ≠ L.id r → μ'.obj b = μ.obj b := by
 have l0 : μ.ld none (L.id r) 0 = some (.c code) := h.ldc (cs := (curc code pos seed).2) (sz := 0) e rfl
 have l1 : μ.ld none (L.id r) 1 = some (.c (.int .i64 pos)) := h.ldc (cs := (curc code pos seed).2) (sz := 0) e rfl
 have l2 : μ.ld none (L.id r) 2 = some (.c (.int .u64 seed)) := h.ldc (cs := (curc code pos seed).2) (sz := 0) e rfl
 obtain ⟨a, cap, hsl⟩ := hc.slc
 have up : ∀ (x y : Nat × List Cell), (C.upd r x).upd r y = C.upd r y := fun _ _ => Con.upd_upd
 have us : ∀ (x : Nat × List Cell), (C.upd r x) r = some x := fun x => by simp only [Con.upd, if_true]
 have wp : IntKind.i64.wrap (pos + 1) = pos + 1 := small (by omega)
 refine Ret_of p123 (by simp [r123]) ?_
 simp only [rI, r123, frOf_1]
 rw [hsl] at l0
 simp only [w1, w2, ↓reduceIte, zA, l0, l1]
 by_cases hlt : pos < bs.length
 ·rw [decide_eq_true hlt]
  obtain ⟨n, rfl⟩ : ∃ n : Nat, pos = n := ⟨pos.toNat, by omega⟩
  have hn : bs[n]? = some bs[n] := List.getElem?_eq_getElem (by omega)
  obtain ⟨bi, bo, q1, q2, _, q4⟩ := hc.row byrow_len (by omega) hn
  have q4 := q4 0 (by omega)
  simp only [byrow, List.getElem?_cons_zero, Option.map_some, Nat.add_zero] at q4
  have hx := hb bs[n] (List.getElem_mem _)
  generalize bs[n] = y at hn q4 hx
  obtain ⟨μ1, s1, h1, hs1, n1, o1⟩ := h.st e (o := 1) (new := [.int .i64 ((n : Int) + 1)]) (.inl rfl) (by simp [])
  have l2' : μ1.ld none (L.id r) 2 = some (.c (.int .u64 seed)) := h1.ldc (us _) rfl
  obtain ⟨μ2, s2, h2, hs2, n2, o2⟩ := h1.st (us _) (o := 2) (new := [.int .u64 (IntKind.u64.wrap (IntKind.u64.wrap (IntKind.u64.wrap (seed * 6364136223846793005) + IntKind.u64.wrap y) + 1442695040888963407))]) (.inl rfl) (by simp [wr])
  rw [up] at h2
  rw [hsl] at q1
  simp only [w1, w2, zH, zI, ↓reduceIte, zA, l0, l1, q1, q4, wp, s1, l2', s2, aRet, aRes, aRes1]
  rw [small (n := y) (by omega)]
  exact ⟨_, rfl, y, _, rfl, hx, h2, hs1.trans hs2, fun b hb => (o2 b hb).trans (o1 b hb)⟩
 ·rw [decide_eq_false hlt]
  obtain ⟨μ1, s1, h1, hs1, n1, o1⟩ := h.st e (o := 2) (new := [.int .u64 (IntKind.u64.wrap (IntKind.u64.wrap (seed * 6364136223846793005) + 1442695040888963407))]) (.inl rfl) (by simp [])
  have l1' : μ1.ld none (L.id r) 1 = some (.c (.int .i64 pos)) := h1.ldc (us _) rfl
  obtain ⟨μ2, s2, h2, hs2, n2, o2⟩ := h1.st (us _) (o := 1) (new := [.int .i64 (pos + 1)]) (.inl rfl) (by simp [wr])
  rw [up] at h2
  have l2' : μ2.ld none (L.id r) 2 = some (.c (.int .u64 (IntKind.u64.wrap (IntKind.u64.wrap (seed * 6364136223846793005) + 1442695040888963407)))) := h2.ldc (us _) rfl
  obtain ⟨y1, e1⟩ := shr40 (a := IntKind.u64.wrap (IntKind.u64.wrap (seed * 6364136223846793005) + 1442695040888963407))
  obtain ⟨y2, e2, hy⟩ := and255 (a := y1)
  simp only [w1, w2, zH, zI, ↓reduceIte, zA, l2, s1, l1', wp, s2, l2', e1, e2, aRet, aRes, aRes1]
  rw [small (n := y2) (by omega)]
  exact ⟨_, rfl, y2, _, rfl, hy, h2, hs1.trans hs2, fun b hb => (o2 b hb).trans (o1 b hb)⟩

theorem pick_ok (h : Has L C lo μ) (e : C r = some (curc code pos seed)) (hc : Rd lo μ 1 code bs.length (cat byrow 0 bs)) (hb : ∀ y ∈ bs, 0 ≤ y ∧ y ≤ 255) (hp : 0 ≤ pos ∧ pos ≤ 900000000) (n : Int) :
  Ret 94 [pt (L.id r) 0, .c (.int .i64 n)] μ fun v μ' => ∃ x pos' seed', v = .c (.int .i64 x) ∧ (0 ≤ x ∧ (1 ≤ n → x < n)) ∧ (pos ≤ pos' ∧ pos' ≤ pos + 2) ∧ Has L (C.upd r (curc code pos' seed')) lo μ' ∧ Same lo μ μ' ∧ ∀ b, b ≠ L.id r → μ'.obj b = μ.obj b := by
 have up : ∀ (x y : Nat × List Cell), (C.upd r x).upd r y = C.upd r y := fun _ _ => Con.upd_upd
 have us : ∀ (x : Nat × List Cell), (C.upd r x) r = some x := fun x => by simp only [Con.upd, if_true]
 refine Ret_of p94 (by simp [r94]) ?_
 simp only [rI, r94, frOf_2]
 simp only [w1, w2, ↓reduceIte, zA]
 by_cases h1 : n ≤ 1
 ·rw [decide_eq_true h1]
  simp only [w1, w2, ↓reduceIte, aRet, aRes, aRes1]
  refine ⟨_, rfl, 0, pos, seed, rfl, ⟨Int.le_refl _, fun _ => by omega⟩, ⟨Int.le_refl _, by omega⟩, ?_, Same.refl, fun _ _ => by first | trivial | rfl⟩
  rw [Con.upd_self e]; exact h
 ·rw [decide_eq_false h1]
  simp only [w1, w2, ↓reduceIte, zA]
  refine R_calls (l := [pt (L.id r) 0]) (by first | rfl | simp only [w1, w2, zH, zI, ↓reduceIte, zA, zB, zC, zD, zE, zF, zG]) (next_ok h e hc hb (by omega)) ?_
  rintro v μ1 ⟨x, seed1, rfl, hx, h1', hs1, o1⟩
  simp only [w1, w2, ↓reduceIte, zA]
  by_cases h2 : n > 200
  ·rw [decide_eq_true h2]
   simp only [w1, w2, ↓reduceIte, zA]
   refine R_calls (l := [pt (L.id r) 0]) (by first | rfl | simp only [w1, w2, zH, zI, ↓reduceIte, zA, zB, zC, zD, zE, zF, zG]) (next_ok h1' (us _) (hc.same hs1 (Nat.le_refl _)) hb (by omega)) ?_
   rintro v μ2 ⟨y, seed2, rfl, hy, h2', hs2, o2⟩
   rw [up] at h2'
   simp only [w1, w2, ↓reduceIte, zA]
   rw [small (n := x * 256) (by omega), small (n := x * 256 + y) (by omega)]
   rw [vbin_rem (show n ≠ 0 by omega)]
   simp only [w1, w2, ↓reduceIte, aRet, aRes, aRes1]
   exact ⟨_, rfl, _, pos + 1 + 1, seed2, rfl, ⟨Int.tmod_nonneg _ (by omega), fun _ => Int.tmod_lt_of_pos _ (by omega)⟩, ⟨by omega, by omega⟩, h2', hs1.trans hs2, fun b hb => (o2 b hb).trans (o1 b hb)⟩
  ·rw [decide_eq_false h2]
   simp only [w1, w2, ↓reduceIte, zA]
   rw [vbin_rem (show n ≠ 0 by omega)]
   simp only [w1, w2, ↓reduceIte, aRet, aRes, aRes1]
   exact ⟨_, rfl, _, pos + 1, seed1, rfl, ⟨Int.tmod_nonneg _ (by omega), fun _ => Int.tmod_lt_of_pos _ (by omega)⟩, ⟨by omega, by omega⟩, h1', hs1, o1⟩
end
end Go.Proofs.Ytibmnlijoeppaaa
namespace Go.Proofs.Ytibmnlijoeppaaa
open Nat renaming reduceEqDiff → zA, reduceAdd → zB, reduceLeDiff → zJ, reduceMul → zK
open Int renaming reduceLT → zC, reduceLE → zD, reduceNeg → zE, reduceBEq → zF, reduceBNe → zG
open AV renaming isTup → zH, cells → zI
set_option linter.unusedSimpArgs false
set_option linter.unusedVariables false

/-! 95: spec.l4B).put -/
def r95 : RFun := ⟨14, [], (.seq (.reg [rI 0 (.box (.t 1) 5) 3]) (.reg [rI 0 (.mv (.t 0)) 4, rI 1 (.mv (.t 0)) 5, rI 2 (.nc (.t 5)) 6, rI 3 (.fa (.t 6) 2) 7, rI 4 (.ld none (.t 7)) 8, rI 5 (.ld (some 5) (.t 3)) 9, rI 6 (.bsl [.int .i64 0, .int .i64 0, .int .i64 0, .int .i64 0, .int .i64 0] 1 [(0, .t 9)]) 10, rI 7 (.app 5 40 (.t 8) (.t 10)) 11, rI 8 (.nc (.t 4)) 12, rI 9 (.fa (.t 12) 2) 13, ⟨10, .st (.t 13) (.t 11) 1, none, none, []⟩]))⟩
theorem p95 : prog 95 = some r95 := by kernel_rfl

/-! 124: spec.l4B).low -/
def r124 : RFun := ⟨8, [.tmp 2], (.seq (.reg [rI 0 (.mv (.k (.int .i64 0))) 2]) (.seq (.reg [rI 0 (.mv (.t 0)) 3, rI 1 (.nc (.t 3)) 4, rI 2 (.fa (.t 4) 0) 5, rI 3 (.ld none (.t 5)) 6, rI 4 (.call 94 [.t 6, .k (.int .i64 3)]) 7, rI 5 (.mv (.t 7)) 2]) .ret))⟩
theorem p124 : prog 124 = some r124 := by kernel_rfl

/-! 125: spec.l4B).reg -/
def r125 : RFun := ⟨8, [.tmp 2], (.seq (.reg [rI 0 (.mv (.k (.int .i64 0))) 2]) (.seq (.reg [rI 0 (.mv (.t 0)) 3, rI 1 (.nc (.t 3)) 4, rI 2 (.fa (.t 4) 0) 5, rI 3 (.ld none (.t 5)) 6, rI 4 (.call 94 [.t 6, .k (.int .i64 4)]) 7, rI 5 (.mv (.t 7)) 2]) .ret))⟩
theorem p125 : prog 125 = some r125 := by kernel_rfl

/-! 126: spec.l4B).num -/
def r126 : RFun := ⟨19, [.tmp 2], (.seq (.reg [rI 0 (.mv (.k (.int .i64 0))) 2]) (.seq (.seq (.reg [rI 0 (.mv (.t 0)) 3, rI 1 (.nc (.t 3)) 4, rI 2 (.fa (.t 4) 0) 5, rI 3 (.ld none (.t 5)) 6, rI 4 (.call 94 [.t 6, .k (.int .i64 14)]) 7, rI 5 (.bin .eql (.t 7) (.k (.int .i64 0))) 8]) (.ite (.t 8) (.seq (.reg [rI 0 (.mv (.t 0)) 9, rI 1 (.nc (.t 9)) 10, rI 2 (.fa (.t 10) 0) 11, rI 3 (.ld none (.t 11)) 12, rI 4 (.call 144 [.t 12]) 13, rI 5 (.mv (.t 13)) 2]) .ret) .skip)) (.seq (.reg [rI 0 (.mv (.t 0)) 14, rI 1 (.nc (.t 14)) 15, rI 2 (.fa (.t 15) 0) 16, rI 3 (.ld none (.t 16)) 17, rI 4 (.call 94 [.t 17, .k (.int .i64 7)]) 18, rI 5 (.mv (.t 18)) 2]) .ret)))⟩
theorem p126 : prog 126 = some r126 := by kernel_rfl

/-! 127: spec.l4B).task -/
def r127 : RFun := ⟨27, [], (.seq (.seq (.reg [rI 0 (.mv (.t 0)) 5, rI 1 (.nc (.t 5)) 6, rI 2 (.fa (.t 6) 0) 7, rI 3 (.ld none (.t 7)) 8, rI 4 (.call 94 [.t 8, .k (.int .i64 3)]) 9, rI 5 (.bin .eql (.t 9) (.k (.int .i64 0))) 10]) (.ite (.t 10) .ret .skip)) (.seq (.reg [rI 0 (.mv (.t 0)) 11, rI 1 (.nc (.t 11)) 12, rI 2 (.fa (.t 12) 0) 13, rI 3 (.ld none (.t 13)) 14, rI 4 (.call 94 [.t 14, .k (.int .i64 5)]) 15, rI 5 (.mv (.t 15)) 4]) (.seq (.seq (.reg [rI 0 (.mv (.t 0)) 16, rI 1 (.nc (.t 16)) 17, rI 2 (.fa (.t 17) 0) 18, rI 3 (.ld none (.t 18)) 19, rI 4 (.call 94 [.t 19, .k (.int .i64 20)]) 20, rI 5 (.bin .eql (.t 20) (.k (.int .i64 0))) 21]) (.ite (.t 21) (.reg [rI 0 (.mv (.k (.int .i64 (-1)))) 4]) .skip)) (.reg [rI 0 (.mv (.t 0)) 22, rI 1 (.mv (.t 1)) 23, rI 2 (.mv (.t 4)) 24, rI 3 (.bld [.int .i64 0, .int .i64 0, .int .i64 0, .int .i64 0, .int .i64 0] [(0, 1, .k (.int .i64 1)), (1, 1, .t 23), (3, 1, .t 24)]) 25, rI 4 (.call 95 [.t 22, .t 25]) 26]))))⟩
theorem p127 : prog 127 = some r127 := by kernel_rfl

/-! 128: spec.l4B).into -/
def r128 : RFun := ⟨12, [.tmp 4], (.seq (.reg [rI 0 (.mv (.k (.int .i64 0))) 4]) (.seq (.seq (.reg [rI 0 (.mv (.t 0)) 5, rI 1 (.nc (.t 5)) 6, rI 2 (.fa (.t 6) 0) 7, rI 3 (.ld none (.t 7)) 8, rI 4 (.call 94 [.t 8, .k (.int .i64 9)]) 9, rI 5 (.bin .eql (.t 9) (.k (.int .i64 0))) 10]) (.ite (.t 10) (.seq (.reg [rI 0 (.mv (.k (.int .i64 3))) 4]) .ret) .skip)) (.seq (.reg [rI 0 (.mv (.t 1)) 11, rI 1 (.mv (.t 11)) 4]) .ret)))⟩
theorem p128 : prog 128 = some r128 := by kernel_rfl

/-! 144: spec.l4Cur).whole -/
def r144 : RFun := ⟨23, [.tmp 2], (.seq (.reg [rI 0 (.mv (.k (.int .i64 0))) 2]) (.seq (.seq (.reg [rI 0 (.mv (.t 0)) 3, rI 1 (.call 94 [.t 3, .k (.int .i64 6)]) 4]) (.blk 0 (.seq (.reg [rI 0 (.bin .eql (.t 4) (.k (.int .i64 0))) 6, rI 1 (.mv (.t 6)) 5]) (.ite (.t 5) (.seq (.reg [rI 0 (.mv (.t 0)) 7, rI 1 (.call 94 [.t 7, .k (.int .i64 3)]) 8, rI 2 (.bin .sub (.k (.int .i64 9223372036854775807)) (.t 8)) 9, rI 3 (.mv (.t 9)) 2]) .ret) (.seq (.reg [rI 0 (.bin .eql (.t 4) (.k (.int .i64 1))) 11, rI 1 (.mv (.t 11)) 10]) (.ite (.t 10) (.seq (.reg [rI 0 (.mv (.t 0)) 12, rI 1 (.call 94 [.t 12, .k (.int .i64 3)]) 13, rI 2 (.bin .add (.k (.int .i64 (-9223372036854775808))) (.t 13)) 14, rI 3 (.mv (.t 14)) 2]) .ret) (.seq (.reg [rI 0 (.bin .eql (.t 4) (.k (.int .i64 2))) 16, rI 1 (.mv (.t 16)) 15]) (.ite (.t 15) (.seq (.reg [rI 0 (.mv (.t 0)) 17, rI 1 (.call 94 [.t 17, .k (.int .i64 70000)]) 18, rI 2 (.bin .sub (.t 18) (.k (.int .i64 35000))) 19, rI 3 (.mv (.t 19)) 2]) .ret) .skip)))))))) (.seq (.reg [rI 0 (.mv (.t 0)) 20, rI 1 (.call 94 [.t 20, .k (.int .i64 12)]) 21, rI 2 (.bin .sub (.t 21) (.k (.int .i64 3))) 22, rI 3 (.mv (.t 22)) 2]) .ret)))⟩
theorem p144 : prog 144 = some r144 := by kernel_rfl



inductive DRo where
 | cur
 | res
 | out
 | bods
 | b
 | steps (i : Nat)
 deriving DecidableEq

/-- The writer: where the reader stands, the bodies that are done, the steps of the one that is written, what is left to do. -/
structure DS where
 pos : Int
 seed : Int
 done : List (List PStep)
 bodies : Int
 steps : List PStep
 left : Int

def drow (L : Lay DRo) (i : Nat) (l : List PStep) : List Cell := [L.sc (.steps i) l.length]
theorem drow_len (L : Lay DRo) (i : Nat) (l : List PStep) : (drow L i l).length = 1 := rfl

def bcells (L : Lay DRo) (σ : DS) : List Cell := [.ptr (some (L.id .cur, 0)), .int .i64 σ.bodies, L.sc (.steps σ.done.length) σ.steps.length, .int .i64 σ.left]
def dcon (code : Cell) (L : Lay DRo) (σ : DS) : Con DRo
 | .cur => some (curc code σ.pos σ.seed)
 | .res => some (0, [.slc none 0 0])
 | .out => some (0, [L.sc .bods σ.done.length])
 | .bods => some (1, cat (drow L) 0 σ.done)
 | .b => some (0, bcells L σ)
 | .steps i => if i = σ.done.length then some (5, cat scells 0 σ.steps) else (σ.done[i]?).map fun l => (5, cat scells 0 l)

structure DR (lo : Nat) (code : Cell) (bs : List Int) (L : Lay DRo) (σ : DS) (μ : Mem) : Prop where
 has : Has L (dcon code L σ) lo μ
 low : lo ≤ μ.next
 code : Rd lo μ 1 code bs.length (cat byrow 0 bs)
 bytes : ∀ y ∈ bs, 0 ≤ y ∧ y ≤ 255
 pos : 0 ≤ σ.pos
 off : ∀ i, σ.done.length < i → L.on (.steps i) = false

/-- There is room for so much more. -/
def Fit (σ : DS) (K : Nat) : Prop := σ.pos + K ≤ 100000000 ∧ (σ.steps.length : Int) + K ≤ 100000000 ∧ -100000000 ≤ σ.left - K ∧ σ.left ≤ 100000000

/-- What a function leaves that does at most so much. -/
structure DA (K : Nat) (lo : Nat) (code : Cell) (bs : List Int) (L : Lay DRo) (σ : DS) (μ : Mem) (L' : Lay DRo) (σ' : DS) (μ' : Mem) : Prop where
 rep : DR lo code bs L' σ' μ'
 same : Same lo μ μ'
 ids : L'.id .cur = L.id .cur ∧ L'.id .b = L.id .b ∧ L'.id .out = L.id .out ∧ L'.id .res = L.id .res
 done : σ'.done = σ.done ∧ σ'.bodies = σ.bodies
 pos : σ'.pos ≤ σ.pos + K
 len : σ.steps.length ≤ σ'.steps.length ∧ σ'.steps.length ≤ σ.steps.length + K
 left : σ'.left ≤ σ.left ∧ σ.left - K ≤ σ'.left

section
variable {lo : Nat} {code : Cell} {bs : List Int} {L L' L'' : Lay DRo} {σ σ' σ'' : DS} {μ μ' μ'' : Mem} {K K' : Nat}

theorem DA.trans (h : DA K lo code bs L σ μ L' σ' μ') (h' : DA K' lo code bs L' σ' μ' L'' σ'' μ'') : DA (K + K') lo code bs L σ μ L'' σ'' μ'' := by
 obtain ⟨a1, a2, ⟨a3, a4, a5, a6⟩, ⟨a7, a8⟩, a9, ⟨a10, a11⟩, a12, a13⟩ := h
 obtain ⟨b1, b2, ⟨b3, b4, b5, b6⟩, ⟨b7, b8⟩, b9, ⟨b10, b11⟩, b12, b13⟩ := h'
 exact ⟨b1, a2.trans b2, ⟨b3.trans a3, b4.trans a4, b5.trans a5, b6.trans a6⟩, ⟨b7.trans a7, b8.trans a8⟩, by omega, by omega, by omega⟩
theorem DA.mono (h : DA K lo code bs L σ μ L' σ' μ') (hk : K ≤ K') : DA K' lo code bs L σ μ L' σ' μ' := by
 obtain ⟨a1, a2, a3, a4, a9, ⟨a10, a11⟩, a12, a13⟩ := h
 exact ⟨a1, a2, a3, a4, by omega, by omega, by omega⟩
theorem Fit.next (h : Fit σ (K + K')) (h' : DA K lo code bs L σ μ L' σ' μ') : Fit σ' K' := by
 obtain ⟨a1, a2, a3, a4⟩ := h
 obtain ⟨_, _, _, _, a9, ⟨a10, a11⟩, a12, a13⟩ := h'
 unfold Fit; omega
theorem Fit.mono (h : Fit σ K) (hk : K' ≤ K) : Fit σ K' := by
 obtain ⟨a1, a2, a3, a4⟩ := h
 unfold Fit; omega
theorem DA.refl (h : DR lo code bs L σ μ) : DA 0 lo code bs L σ μ L σ μ := ⟨h, Same.refl, ⟨rfl, rfl, rfl, rfl⟩, ⟨rfl, rfl⟩, by omega, by omega, by omega⟩

theorem dcon_cur {pos seed : Int} : (dcon code L σ).upd .cur (curc code pos seed) = dcon code L { σ with pos := pos, seed := seed } := by
 funext y
 simp only [Con.upd]
 split
 ·rename_i e; subst e; rfl
 ·cases y <;> first | rfl | (rename_i h; exact absurd rfl h)

theorem DR.bf (h : DR lo code bs L σ μ) : μ.ld none (L.id .b) 0 = some (.c (.ptr (some (L.id .cur, 0)))) ∧ μ.ld none (L.id .b) 1 = some (.c (.int .i64 σ.bodies)) ∧
  μ.ld none (L.id .b) 2 = some (.c (L.sc (.steps σ.done.length) σ.steps.length)) ∧ μ.ld none (L.id .b) 3 = some (.c (.int .i64 σ.left)) :=
 ⟨h.has.ldc (r := .b) rfl rfl, h.has.ldc (r := .b) rfl rfl, h.has.ldc (r := .b) rfl rfl, h.has.ldc (r := .b) rfl rfl⟩

theorem dpick_ok' (h : DR lo code bs L σ μ) (hf : Fit σ 2) (n : Int) :
  Ret 94 [pt (L.id .cur) 0, .c (.int .i64 n)] μ fun v μ' => ∃ x σ', v = .c (.int .i64 x) ∧ (0 ≤ x ∧ (1 ≤ n → x < n)) ∧ DA 2 lo code bs L σ μ L σ' μ' ∧ (σ'.left = σ.left ∧ σ'.steps = σ.steps) ∧ ∀ b, b ≠ L.id .cur → μ'.obj b = μ.obj b := by
 refine (pick_ok h.has (r := .cur) rfl h.code h.bytes ⟨h.pos, by have := hf.1; omega⟩ n).mono ?_
 rintro v μ' ⟨x, pos', seed', rfl, hx, hp, h1, hs, ho⟩
 rw [dcon_cur] at h1
 exact ⟨x, _, rfl, hx, ⟨⟨h1, Nat.le_trans h.low hs.2, h.code.same hs (Nat.le_refl _), h.bytes, by have := h.pos; simp only; omega, h.off⟩, hs, ⟨rfl, rfl, rfl, rfl⟩, ⟨rfl, rfl⟩, hp.2, ⟨Nat.le_refl _, by simp only; omega⟩, ⟨Int.le_refl _, by simp only; omega⟩⟩, ⟨rfl, rfl⟩, ho⟩
theorem dpick_ok (h : DR lo code bs L σ μ) (hf : Fit σ 2) (n : Int) :
  Ret 94 [pt (L.id .cur) 0, .c (.int .i64 n)] μ fun v μ' => ∃ x σ', v = .c (.int .i64 x) ∧ (0 ≤ x ∧ (1 ≤ n → x < n)) ∧ DA 2 lo code bs L σ μ L σ' μ' ∧ σ'.left = σ.left :=
 (dpick_ok' h hf n).mono fun v μ' ⟨x, σ', a, b, c, d, _⟩ => ⟨x, σ', a, b, c, d.1⟩

theorem low_ok (h : DR lo code bs L σ μ) (hf : Fit σ 2) :
  Ret 124 [pt (L.id .b) 0] μ fun v μ' => ∃ x σ', v = .c (.int .i64 x) ∧ DA 2 lo code bs L σ μ L σ' μ' ∧ σ'.left = σ.left := by
 refine Ret_of p124 (by simp [r124]) ?_
 simp only [rI, r124, frOf_1]
 simp only [w1, w2, ↓reduceIte, zA, h.bf]
 refine R_calls (l := [pt (L.id .cur) 0, .c (.int .i64 3)]) (by first | rfl | simp only [w1, w2, zH, zI, ↓reduceIte, zA, zB, zC, zD, zE, zF, zG]) (dpick_ok h hf 3) ?_
 rintro v μ1 ⟨x, σ1, rfl, _, h1, hl⟩
 simp only [w1, ↓reduceIte, aRet, aRes, aRes1]
 exact ⟨_, rfl, x, σ1, rfl, h1, hl⟩

theorem reg_ok (h : DR lo code bs L σ μ) (hf : Fit σ 2) :
  Ret 125 [pt (L.id .b) 0] μ fun v μ' => ∃ x σ', v = .c (.int .i64 x) ∧ DA 2 lo code bs L σ μ L σ' μ' ∧ σ'.left = σ.left := by
 refine Ret_of p125 (by simp [r125]) ?_
 simp only [rI, r125, frOf_1]
 simp only [w1, w2, ↓reduceIte, zA, h.bf]
 refine R_calls (l := [pt (L.id .cur) 0, .c (.int .i64 4)]) (by first | rfl | simp only [w1, w2, zH, zI, ↓reduceIte, zA, zB, zC, zD, zE, zF, zG]) (dpick_ok h hf 4) ?_
 rintro v μ1 ⟨x, σ1, rfl, _, h1, hl⟩
 simp only [w1, ↓reduceIte, aRet, aRes, aRes1]
 exact ⟨_, rfl, x, σ1, rfl, h1, hl⟩

theorem into_ok (h : DR lo code bs L σ μ) (hf : Fit σ 2) (a : Int) :
  Ret 128 [pt (L.id .b) 0, .c (.int .i64 a)] μ fun v μ' => ∃ x σ', v = .c (.int .i64 x) ∧ DA 2 lo code bs L σ μ L σ' μ' ∧ σ'.left = σ.left := by
 refine Ret_of p128 (by simp [r128]) ?_
 simp only [rI, r128, frOf_2]
 simp only [w1, w2, ↓reduceIte, zA, h.bf]
 refine R_calls (l := [pt (L.id .cur) 0, .c (.int .i64 9)]) (by first | rfl | simp only [w1, w2, zH, zI, ↓reduceIte, zA, zB, zC, zD, zE, zF, zG]) (dpick_ok h hf 9) ?_
 rintro v μ1 ⟨x, σ1, rfl, _, h1, hl⟩
 simp only [w1, w2, ↓reduceIte]
 by_cases hx : x = 0
 ·simp only [w1, w2, ↓reduceIte, beq_tt hx, aRet, aRes, aRes1]
  exact ⟨_, rfl, _, σ1, rfl, h1, hl⟩
 ·simp only [w1, w2, ↓reduceIte, zA, beq_ff hx, aRet, aRes, aRes1]
  exact ⟨_, rfl, _, σ1, rfl, h1, hl⟩

theorem whole_ok (h : DR lo code bs L σ μ) (hf : Fit σ 4) :
  Ret 144 [pt (L.id .cur) 0] μ fun v μ' => ∃ x σ', v = .c (.int .i64 x) ∧ DA 4 lo code bs L σ μ L σ' μ' ∧ σ'.left = σ.left := by
 refine Ret_of p144 (by simp [r144]) ?_
 simp only [rI, r144, frOf_1]
 simp only [w1, w2, ↓reduceIte, zA, zE]
 refine R_calls (l := [pt (L.id .cur) 0, .c (.int .i64 6)]) (by first | rfl | simp only [w1, w2, zH, zI, ↓reduceIte, zA, zB, zC, zD, zE, zF, zG]) (dpick_ok h (hf.mono (by omega)) 6) ?_
 rintro v μ1 ⟨k, σ1, rfl, _, h1, hl⟩
 have hf1 : Fit σ1 2 := Fit.next (K := 2) (hf.mono (by omega)) h1
 simp only [w1, w2, ↓reduceIte, zE]
 by_cases k0 : k = 0
 ·simp only [w1, w2, ↓reduceIte, zA, beq_tt k0]
  refine R_calls (l := [pt (L.id .cur) 0, .c (.int .i64 3)]) (by first | rfl | simp only [w1, w2, zH, zI, ↓reduceIte, zA, zB, zC, zD, zE, zF, zG]) (dpick_ok h1.rep hf1 3) ?_
  rintro v μ2 ⟨x, σ2, rfl, _, h2, hl2⟩
  simp only [w1, w2, ↓reduceIte, aRet, aRes, aRes1]
  exact ⟨_, rfl, _, σ2, rfl, h1.trans h2, hl2.trans hl⟩
 by_cases k1 : k = 1
 ·simp only [w1, w2, ↓reduceIte, zA, zE, beq_ff k0, beq_tt k1]
  refine R_calls (l := [pt (L.id .cur) 0, .c (.int .i64 3)]) (by first | rfl | simp only [w1, w2, zH, zI, ↓reduceIte, zA, zB, zC, zD, zE, zF, zG]) (dpick_ok h1.rep hf1 3) ?_
  rintro v μ2 ⟨x, σ2, rfl, _, h2, hl2⟩
  simp only [w1, w2, ↓reduceIte, zE, aRet, aRes, aRes1]
  exact ⟨_, rfl, _, σ2, rfl, h1.trans h2, hl2.trans hl⟩
 by_cases k2 : k = 2
 ·simp only [w1, w2, ↓reduceIte, zA, zE, beq_ff k0, beq_ff k1, beq_tt k2]
  refine R_calls (l := [pt (L.id .cur) 0, .c (.int .i64 70000)]) (by first | rfl | simp only [w1, w2, zH, zI, ↓reduceIte, zA, zB, zC, zD, zE, zF, zG]) (dpick_ok h1.rep hf1 70000) ?_
  rintro v μ2 ⟨x, σ2, rfl, _, h2, hl2⟩
  simp only [w1, w2, ↓reduceIte, aRet, aRes, aRes1]
  exact ⟨_, rfl, _, σ2, rfl, h1.trans h2, hl2.trans hl⟩
 ·simp only [w1, w2, ↓reduceIte, zA, zE, beq_ff k0, beq_ff k1, beq_ff k2]
  refine R_calls (l := [pt (L.id .cur) 0, .c (.int .i64 12)]) (by first | rfl | simp only [w1, w2, zH, zI, ↓reduceIte, zA, zB, zC, zD, zE, zF, zG]) (dpick_ok h1.rep hf1 12) ?_
  rintro v μ2 ⟨x, σ2, rfl, _, h2, hl2⟩
  simp only [w1, w2, ↓reduceIte, aRet, aRes, aRes1]
  exact ⟨_, rfl, _, σ2, rfl, h1.trans h2, hl2.trans hl⟩

theorem num_ok (h : DR lo code bs L σ μ) (hf : Fit σ 6) :
  Ret 126 [pt (L.id .b) 0] μ fun v μ' => ∃ x σ', v = .c (.int .i64 x) ∧ DA 6 lo code bs L σ μ L σ' μ' ∧ σ'.left = σ.left := by
 refine Ret_of p126 (by simp [r126]) ?_
 simp only [rI, r126, frOf_1]
 simp only [w1, w2, ↓reduceIte, zA, h.bf]
 refine R_calls (l := [pt (L.id .cur) 0, .c (.int .i64 14)]) (by first | rfl | simp only [w1, w2, zH, zI, ↓reduceIte, zA, zB, zC, zD, zE, zF, zG]) (dpick_ok h (hf.mono (by omega)) 14) ?_
 rintro v μ1 ⟨k, σ1, rfl, _, h1, hl⟩
 have hf1 : Fit σ1 4 := Fit.next (K := 2) (hf.mono (by omega)) h1
 have b1 := h1.rep.bf
 simp only [w1, w2, ↓reduceIte]
 by_cases k0 : k = 0
 ·simp only [w1, w2, ↓reduceIte, zA, beq_tt k0, b1]
  refine R_calls (l := [pt (L.id .cur) 0]) (by first | rfl | simp only [w1, w2, zH, zI, ↓reduceIte, zA, zB, zC, zD, zE, zF, zG]) (whole_ok h1.rep hf1) ?_
  rintro v μ2 ⟨x, σ2, rfl, h2, hl2⟩
  simp only [w1, ↓reduceIte, aRet, aRes, aRes1]
  exact ⟨_, rfl, _, σ2, rfl, h1.trans h2, hl2.trans hl⟩
 ·simp only [w1, w2, ↓reduceIte, zA, beq_ff k0, b1]
  refine R_calls (l := [pt (L.id .cur) 0, .c (.int .i64 7)]) (by first | rfl | simp only [w1, w2, zH, zI, ↓reduceIte, zA, zB, zC, zD, zE, zF, zG]) (dpick_ok h1.rep (hf1.mono (by omega)) 7) ?_
  rintro v μ2 ⟨x, σ2, rfl, _, h2, hl2⟩
  simp only [w1, ↓reduceIte, aRet, aRes, aRes1]
  exact ⟨_, rfl, _, σ2, rfl, (h1.trans h2).mono (by omega), hl2.trans hl⟩

/-- A step is put at the end. -/
theorem put_ok (h : DR lo code bs L σ μ) (hf : Fit σ 1) (x : PStep) :
  Ret 95 [pt (L.id .b) 0, .agg (scells 0 x)] μ fun v μ' => ∃ L' σ', DA 1 lo code bs L σ μ L' σ' μ' ∧ σ'.left = σ.left ∧ σ'.steps = σ.steps ++ [x] := by
 have ht : Has L (dcon code L σ) lo (μ.new (scells 0 x) 0) := h.has.tmp
 have hs0 : Same lo μ (μ.new (scells 0 x) 0) := Same.tmp h.low
 have hb := h.bf
 have hb2 : (μ.new (scells 0 x) 0).ld none (L.id .b) 2 = some (.c (L.sc (.steps σ.done.length) σ.steps.length)) := ht.ldc (r := .b) rfl rfl
 have hx : (μ.new (scells 0 x) 0).ld (some 5) μ.next 0 = some (.agg (scells 0 x)) := by rw [Mem.new_ld, if_pos rfl]; rfl
 have hlo : lo ≤ (μ.new (scells 0 x) 0).next := Nat.le_trans h.low hs0.2
 have e1 : dcon code L σ (.steps σ.done.length) = some (5, cat scells 0 σ.steps) := by simp only [dcon, if_true]
 have hfl := hf.2.1
 obtain ⟨L1, μ1, ea, hL1, hs1, hoth, hob, hon, hc1, hid⟩ := (ht.tmp (cs := scells 0 x) (sz := 5)).app (Nat.le_succ_of_le hlo) (r := .steps σ.done.length) (bytes := 40) (n := σ.steps.length) (k := 1) (c := 1)
  (b := some ((μ.new (scells 0 x) 0).next, 0)) (new := scells 0 x) e1 (by omega) (by rw [cat_length scells_len]) (SlcVal.fresh rfl) ⟨by unfold most; omega, by unfold most; omega⟩ (.inl (Nat.le_refl _))
 have hcat : cat scells 0 σ.steps ++ scells 0 x = cat scells 0 (σ.steps ++ [x]) := by rw [cat_append]; rfl
 rw [hcat] at hL1
 have hid1 : ∀ y, y ≠ .steps σ.done.length → ∀ n, L1.sc y n = L.sc y n := fun y hy n => sc_eq (hoth y hy).1 (hoth y hy).2.1 (hoth y hy).2.2 n
 obtain ⟨μ2, e2, h2, hs2, n2, _⟩ := hL1.st (r := .b) (by simp only [Con.upd]; rw [if_neg (by intro hh; cases hh)]; rfl) (o := 2) (new := [L1.sc (.steps σ.done.length) (σ.steps.length + 1)]) (.inl rfl) (by simp [bcells])
 rw [(hoth .b (by simp)).1] at e2
 have hcon : Has L1 (dcon code L1 { σ with steps := σ.steps ++ [x] }) lo μ2 := by
  refine h2.weaken fun y c hy => ?_
  simp only [Con.upd]
  cases y with
  | b =>
   rw [if_pos rfl, ← hy]
   simp only [dcon, bcells, wr, List.length_append, List.length_cons, List.length_nil, (hoth .cur (by simp)).1]
   rfl
  | steps i =>
   rw [if_neg (by intro hh; cases hh)]
   by_cases hi : i = σ.done.length
   ·subst hi; rw [if_pos rfl, ← hy]; simp only [dcon, if_true]
   ·rw [if_neg (by intro hh; injection hh with hh; exact hi hh), ← hy]; simp only [dcon, if_neg hi]
  | cur => rw [if_neg (by intro hh; cases hh), if_neg (by intro hh; cases hh), ← hy]; rfl
  | res => rw [if_neg (by intro hh; cases hh), if_neg (by intro hh; cases hh), ← hy]; rfl
  | out =>
   rw [if_neg (by intro hh; cases hh), if_neg (by intro hh; cases hh), ← hy]
   simp only [dcon, hid1 .bods (by simp)]
  | bods =>
   rw [if_neg (by intro hh; cases hh), if_neg (by intro hh; cases hh), ← hy]
   simp only [dcon]
   rw [cat_congr (g := drow L) (g' := drow L1) fun j g hj => by
    have hlt := (List.getElem?_eq_some_iff.1 hj).1
    simp only [drow]
    rw [hid1 (.steps (0 + j)) (by intro hh; injection hh with hh; omega)]]
 have hsall : Same lo μ μ2 := hs0.trans ((Same.tmp hlo).trans (hs1.trans hs2))
 have e5 : (scells 0 x).length = 5 := rfl
 have hb2' : ((μ.new (scells 0 x) 0).new (scells 0 x) 5).ld none (L.id .b) 2 = some (.c (L.sc (.steps σ.done.length) σ.steps.length)) := (ht.tmp (cs := scells 0 x) (sz := 5)).ldc (r := .b) rfl rfl
 simp only [Mem.new_next] at ea
 refine Ret_of p95 (by simp [r95]) ?_
 simp only [rI, r95, frOf_2]
 simp only [scells] at hx ea hb2 e5 ⊢
 simp only [w1, w2, zH, zI, ↓reduceIte, zA, zB, e5, hb2, hx, m2, fillc, wr, rep, zJ, zB, zK, List.append_nil, Mem.new_next, ea, e2, aRet, aRes]
 refine ⟨_, rfl, L1, { σ with steps := σ.steps ++ [x] }, ⟨⟨hcon, Nat.le_trans h.low hsall.2, h.code.same hsall (Nat.le_refl _), h.bytes, h.pos, fun i hi => ?_⟩, hsall, ⟨(hoth .cur (by simp)).1, (hoth .b (by simp)).1, (hoth .out (by simp)).1, (hoth .res (by simp)).1⟩, ⟨rfl, rfl⟩, by simp only; omega, ⟨by simp, by simp⟩, ⟨Int.le_refl _, by simp only; omega⟩⟩, rfl, rfl⟩
 rw [(hoth (.steps i) (by intro hh; injection hh with hh; simp only at hi; omega)).2.1]
 exact h.off i hi

theorem dtask_ok (h : DR lo code bs L σ μ) (hf : Fit σ 7) (r : Int) :
  Ret 127 [pt (L.id .b) 0, .c (.int .i64 r)] μ fun v μ' => ∃ L' σ', DA 7 lo code bs L σ μ L' σ' μ' ∧ σ'.left = σ.left := by
 refine Ret_of p127 (by simp [r127]) ?_
 simp only [rI, r127, frOf_2]
 simp only [w1, w2, ↓reduceIte, zE, h.bf]
 refine R_calls (l := [pt (L.id .cur) 0, .c (.int .i64 3)]) (by first | rfl | simp only [w1, w2, zH, zI, ↓reduceIte, zA, zB, zC, zD, zE, zF, zG]) (dpick_ok h (hf.mono (by omega)) 3) ?_
 rintro v μ1 ⟨k, σ1, rfl, _, h1, hl⟩
 have hf1 : Fit σ1 5 := Fit.next (K := 2) hf h1
 have b1 := h1.rep.bf
 simp only [w1, w2, ↓reduceIte, zE]
 by_cases k0 : k = 0
 ·simp only [w1, beq_tt k0, aRet, aRes]
  exact ⟨_, rfl, L, σ1, h1.mono (by omega), hl⟩
 simp only [w1, w2, ↓reduceIte, zA, zE, beq_ff k0, b1]
 refine R_calls (l := [pt (L.id .cur) 0, .c (.int .i64 5)]) (by first | rfl | simp only [w1, w2, zH, zI, ↓reduceIte, zA, zB, zC, zD, zE, zF, zG]) (dpick_ok h1.rep (hf1.mono (by omega)) 5) ?_
 rintro v μ2 ⟨x, σ2, rfl, _, h2, hl2⟩
 have hf2 : Fit σ2 3 := Fit.next (K := 2) hf1 h2
 have b2 := h2.rep.bf
 simp only [w1, w2, ↓reduceIte, zA, zE, b2]
 refine R_calls (l := [pt (L.id .cur) 0, .c (.int .i64 20)]) (by first | rfl | simp only [w1, w2, zH, zI, ↓reduceIte, zA, zB, zC, zD, zE, zF, zG]) (dpick_ok h2.rep (hf2.mono (by omega)) 20) ?_
 rintro v μ3 ⟨y, σ3, rfl, _, h3, hl3⟩
 have hf3 : Fit σ3 1 := Fit.next (K := 2) hf2 h3
 simp only [w1, w2, ↓reduceIte, zE]
 by_cases y0 : y = 0
 ·simp only [w1, w2, zH, zI, ↓reduceIte, zA, zB, zE, beq_tt y0, m2, fillc, wr, zJ, zB, List.append_nil]
  refine R_calls (l := [pt (L.id .b) 0, .agg (scells 0 ⟨1, r, 0, -1, 0⟩)]) (by first | rfl | simp only [w1, w2, zH, zI, ↓reduceIte, zA, zB, zC, zD, zE, zF, zG, scells]) (put_ok h3.rep hf3 _) ?_
  rintro v μ4 ⟨L4, σ4, h4, hl4, _⟩
  simp only [w1, zE, aRet, aRes]
  exact ⟨_, rfl, L4, σ4, ((h1.trans h2).trans h3).trans h4, hl4.trans (hl3.trans (hl2.trans hl))⟩
 ·simp only [w1, w2, zH, zI, ↓reduceIte, zA, zB, beq_ff y0, m2, fillc, wr, zJ, zB, List.append_nil]
  refine R_calls (l := [pt (L.id .b) 0, .agg (scells 0 ⟨1, r, 0, x, 0⟩)]) (by first | rfl | simp only [w1, w2, zH, zI, ↓reduceIte, zA, zB, zC, zD, zE, zF, zG, scells]) (put_ok h3.rep hf3 _) ?_
  rintro v μ4 ⟨L4, σ4, h4, hl4, _⟩
  simp only [w1, aRet, aRes]
  exact ⟨_, rfl, L4, σ4, ((h1.trans h2).trans h3).trans h4, hl4.trans (hl3.trans (hl2.trans hl))⟩
end
end Go.Proofs.Ytibmnlijoeppaaa
namespace Go.Proofs.Ytibmnlijoeppaaa
open Nat renaming reduceEqDiff → zA, reduceAdd → zB, reduceLeDiff → zJ, reduceMul → zK
open Int renaming reduceLT → zC, reduceLE → zD, reduceNeg → zE, reduceBEq → zF, reduceBNe → zG
open AV renaming isTup → zH, cells → zI
set_option linter.unusedSimpArgs false
set_option linter.unusedVariables false

/-! 129: spec.l4B).block -/
def b129_0 : RCode := (.seq (.seq (.reg [rI 0 (.mv (.t 9)) 23, rI 1 (.bin .gtr (.t 23) (.k (.int .i64 0))) 24, rI 2 (.mv (.t 24)) 25, ⟨3, .mv (.t 0), some 26, some (25, true), []⟩, ⟨4, .nc (.t 26), some 27, some (25, true), []⟩, ⟨5, .fa (.t 27) 3, some 28, some (25, true), []⟩, ⟨6, .ld none (.t 28), some 29, some (25, true), []⟩, ⟨7, .bin .gtr (.t 29) (.k (.int .i64 0)), some 30, some (25, true), []⟩, rI 8 (.pick (.t 25) (.t 30) (.k (.bool false))) 31]) (.ite (.t 31) .skip (.exit 0))) (.seq (.blk 1 (.reg [rI 0 (.mv (.t 0)) 34, rI 1 (.mv (.t 2)) 35, rI 2 (.bin .sub (.t 35) (.k (.int .i64 1))) 36, rI 3 (.mv (.t 3)) 37, rI 4 (.call 96 [.t 34, .t 36, .t 37]) 38])) (.reg [rI 0 (.mv (.t 9)) 32, rI 1 (.bin .sub (.t 32) (.k (.int .i64 1))) 33, rI 2 (.mv (.t 33)) 9])))
def r129 : RFun := ⟨54, [], (.seq (.reg [rI 0 (.box (.t 1) 5) 5]) (.seq (.reg [rI 0 (.mv (.t 0)) 10, rI 1 (.nc (.t 10)) 11, rI 2 (.fa (.t 11) 2) 12, rI 3 (.ld none (.t 12)) 13, rI 4 (.len (.t 13)) 14, rI 5 (.mv (.t 14)) 8]) (.seq (.reg [rI 0 (.mv (.t 0)) 15, rI 1 (.ld (some 5) (.t 5)) 16, rI 2 (.call 95 [.t 15, .t 16]) 17]) (.seq (.seq (.reg [rI 0 (.mv (.t 0)) 18, rI 1 (.nc (.t 18)) 19, rI 2 (.fa (.t 19) 0) 20, rI 3 (.ld none (.t 20)) 21, rI 4 (.call 94 [.t 21, .k (.int .i64 4)]) 22, rI 5 (.mv (.t 22)) 9]) (.blk 0 (.loop b129_0))) (.reg [rI 0 (.mv (.t 0)) 39, rI 1 (.nc (.t 39)) 40, rI 2 (.fa (.t 40) 2) 41, rI 4 (.mv (.t 8)) 43, rI 5 (.mv (.t 0)) 44, rI 6 (.nc (.t 44)) 45, rI 7 (.fa (.t 45) 2) 46, rI 10 (.mv (.t 8)) 49, rI 3 (.ld none (.t 41)) 42, rI 8 (.ld none (.t 46)) 47, rI 9 (.len (.t 47)) 48, rI 11 (.bin .sub (.t 48) (.t 49)) 50, rI 12 (.bin .sub (.t 50) (.k (.int .i64 1))) 51, rI 13 (.ias (.t 42) (.t 43) 5) 52, rI 14 (.fa (.t 52) 4) 53, ⟨15, .st (.t 53) (.t 51) 1, none, none, []⟩])))))⟩
theorem p129 : prog 129 = some r129 := by kernel_rfl


/-! 96: spec.l4B).step -/
def t96 : RCode := (.seq (.reg [rI 0 (.mv (.t 9)) 35]) (.blk 0 (.seq (.reg [rI 0 (.bin .eql (.t 35) (.k (.int .i64 0))) 44, rI 1 (.mv (.t 44)) 43]) (.ite (.t 43) (.reg [rI 0 (.mv (.t 0)) 45, rI 1 (.mv (.t 0)) 46, rI 2 (.call 125 [.t 46]) 47, rI 3 (.mv (.t 0)) 48, rI 4 (.call 126 [.t 48]) 49, rI 5 (.bld [.int .i64 0, .int .i64 0, .int .i64 0, .int .i64 0, .int .i64 0] [(0, 1, .k (.int .i64 1)), (1, 1, .t 47), (3, 1, .t 49)]) 50, rI 6 (.call 95 [.t 45, .t 50]) 51]) (.seq (.reg [rI 0 (.bin .eql (.t 35) (.k (.int .i64 1))) 53, rI 1 (.mv (.t 53)) 52]) (.ite (.t 52) (.reg [rI 0 (.mv (.t 0)) 54, rI 1 (.mv (.t 7)) 55, rI 2 (.mv (.t 0)) 56, rI 3 (.call 125 [.t 56]) 57, rI 4 (.mv (.t 0)) 58, rI 5 (.call 126 [.t 58]) 59, rI 6 (.bin .sub (.t 59) (.k (.int .i64 2))) 60, rI 7 (.bld [.int .i64 0, .int .i64 0, .int .i64 0, .int .i64 0, .int .i64 0] [(0, 1, .k (.int .i64 2)), (1, 1, .t 55), (2, 1, .t 57), (3, 1, .t 60)]) 61, rI 8 (.call 95 [.t 54, .t 61]) 62]) (.seq (.seq (.reg [rI 0 (.bin .eql (.t 35) (.k (.int .i64 2))) 64, rI 1 (.mv (.t 64)) 63]) (.ite (.t 63) .skip (.seq (.reg [rI 0 (.bin .eql (.t 35) (.k (.int .i64 3))) 65, rI 1 (.mv (.t 65)) 63]) (.ite (.t 63) .skip (.reg [rI 0 (.bin .eql (.t 35) (.k (.int .i64 4))) 66, rI 1 (.mv (.t 66)) 63]))))) (.ite (.t 63) (.reg [rI 0 (.mv (.t 0)) 67, rI 1 (.mv (.t 0)) 68, rI 2 (.call 125 [.t 68]) 69, rI 3 (.bld [.int .i64 0, .int .i64 0, .int .i64 0, .int .i64 0, .int .i64 0] [(0, 1, .k (.int .i64 3)), (1, 1, .t 69)]) 70, rI 4 (.call 95 [.t 67, .t 70]) 71]) (.seq (.seq (.reg [rI 0 (.bin .eql (.t 35) (.k (.int .i64 5))) 73, rI 1 (.mv (.t 73)) 72]) (.ite (.t 72) .skip (.reg [rI 0 (.bin .eql (.t 35) (.k (.int .i64 6))) 74, rI 1 (.mv (.t 74)) 72]))) (.ite (.t 72) (.reg [rI 0 (.mv (.t 0)) 75, rI 1 (.mv (.t 7)) 76, rI 2 (.mv (.t 6)) 77, rI 3 (.mv (.t 0)) 78, rI 4 (.nc (.t 78)) 79, rI 5 (.fa (.t 79) 1) 80, rI 6 (.ld none (.t 80)) 81, rI 7 (.call 94 [.t 77, .t 81]) 82, rI 8 (.bld [.int .i64 0, .int .i64 0, .int .i64 0, .int .i64 0, .int .i64 0] [(0, 1, .k (.int .i64 4)), (1, 1, .t 76), (2, 1, .t 82)]) 83, rI 9 (.call 95 [.t 75, .t 83]) 84]) (.seq (.seq (.reg [rI 0 (.bin .eql (.t 35) (.k (.int .i64 7))) 86, rI 1 (.mv (.t 86)) 85]) (.ite (.t 85) .skip (.seq (.reg [rI 0 (.bin .eql (.t 35) (.k (.int .i64 8))) 87, rI 1 (.mv (.t 87)) 85]) (.ite (.t 85) .skip (.reg [rI 0 (.bin .eql (.t 35) (.k (.int .i64 9))) 88, rI 1 (.mv (.t 88)) 85]))))) (.ite (.t 85) (.seq (.reg [rI 0 (.mv (.t 0)) 89, rI 1 (.mv (.t 8)) 90, rI 2 (.call 127 [.t 89, .t 90]) 91]) (.reg [rI 0 (.mv (.t 0)) 92, rI 1 (.mv (.t 0)) 93, rI 2 (.mv (.t 7)) 94, rI 3 (.call 128 [.t 93, .t 94]) 95, rI 4 (.mv (.t 8)) 96, rI 5 (.bld [.int .i64 0, .int .i64 0, .int .i64 0, .int .i64 0, .int .i64 0] [(0, 1, .k (.int .i64 5)), (1, 1, .t 95), (2, 1, .t 96)]) 97, rI 6 (.call 95 [.t 92, .t 97]) 98])) (.seq (.seq (.reg [rI 0 (.bin .eql (.t 35) (.k (.int .i64 10))) 100, rI 1 (.mv (.t 100)) 99]) (.ite (.t 99) .skip (.reg [rI 0 (.bin .eql (.t 35) (.k (.int .i64 11))) 101, rI 1 (.mv (.t 101)) 99]))) (.ite (.t 99) (.reg [rI 0 (.mv (.t 0)) 102, rI 1 (.mv (.t 0)) 103, rI 2 (.mv (.t 7)) 104, rI 3 (.call 128 [.t 103, .t 104]) 105, rI 4 (.bld [.int .i64 0, .int .i64 0, .int .i64 0, .int .i64 0, .int .i64 0] [(0, 1, .k (.int .i64 6)), (1, 1, .t 105)]) 106, rI 5 (.call 95 [.t 102, .t 106]) 107]) (.seq (.reg [rI 0 (.bin .eql (.t 35) (.k (.int .i64 12))) 109, rI 1 (.mv (.t 109)) 108]) (.ite (.t 108) (.seq (.reg [rI 0 (.mv (.t 0)) 110, rI 1 (.mv (.t 8)) 111, rI 2 (.call 127 [.t 110, .t 111]) 112]) (.reg [rI 0 (.mv (.t 0)) 113, rI 1 (.mv (.t 0)) 114, rI 2 (.mv (.t 7)) 115, rI 3 (.call 128 [.t 114, .t 115]) 116, rI 4 (.mv (.t 8)) 117, rI 5 (.bld [.int .i64 0, .int .i64 0, .int .i64 0, .int .i64 0, .int .i64 0] [(0, 1, .k (.int .i64 7)), (1, 1, .t 116), (2, 1, .t 117)]) 118, rI 6 (.call 95 [.t 113, .t 118]) 119])) (.seq (.reg [rI 0 (.bin .eql (.t 35) (.k (.int .i64 13))) 121, rI 1 (.mv (.t 121)) 120]) (.ite (.t 120) (.seq (.reg [rI 0 (.mv (.t 0)) 122, rI 1 (.mv (.t 8)) 123, rI 2 (.call 127 [.t 122, .t 123]) 124]) (.reg [rI 0 (.mv (.t 0)) 125, rI 1 (.mv (.t 7)) 126, rI 2 (.mv (.t 8)) 127, rI 3 (.bld [.int .i64 0, .int .i64 0, .int .i64 0, .int .i64 0, .int .i64 0] [(0, 1, .k (.int .i64 8)), (1, 1, .t 126), (2, 1, .t 127)]) 128, rI 4 (.call 95 [.t 125, .t 128]) 129])) (.seq (.reg [rI 0 (.bin .eql (.t 35) (.k (.int .i64 14))) 131, rI 1 (.mv (.t 131)) 130]) (.ite (.t 130) (.reg [rI 0 (.mv (.t 0)) 132, rI 1 (.mv (.t 7)) 133, rI 2 (.bld [.int .i64 0, .int .i64 0, .int .i64 0, .int .i64 0, .int .i64 0] [(0, 1, .k (.int .i64 9)), (1, 1, .t 133)]) 134, rI 3 (.call 95 [.t 132, .t 134]) 135]) (.seq (.reg [rI 0 (.bin .eql (.t 35) (.k (.int .i64 15))) 137, rI 1 (.mv (.t 137)) 136]) (.ite (.t 136) (.seq (.reg [rI 0 (.mv (.t 2)) 138]) (.ite (.t 138) (.reg [rI 0 (.mv (.t 0)) 139, rI 1 (.mv (.t 7)) 140, rI 2 (.bld [.int .i64 0, .int .i64 0, .int .i64 0, .int .i64 0, .int .i64 0] [(0, 1, .k (.int .i64 3)), (1, 1, .t 140)]) 141, rI 3 (.call 95 [.t 139, .t 141]) 142]) (.reg [rI 0 (.mv (.t 0)) 143, rI 1 (.mv (.t 7)) 144, rI 2 (.bld [.int .i64 0, .int .i64 0, .int .i64 0, .int .i64 0, .int .i64 0] [(0, 1, .k (.int .i64 10)), (1, 1, .t 144)]) 145, rI 3 (.call 95 [.t 143, .t 145]) 146]))) (.seq (.seq (.reg [rI 0 (.bin .eql (.t 35) (.k (.int .i64 16))) 148, rI 1 (.mv (.t 148)) 147]) (.ite (.t 147) .skip (.seq (.reg [rI 0 (.bin .eql (.t 35) (.k (.int .i64 17))) 149, rI 1 (.mv (.t 149)) 147]) (.ite (.t 147) .skip (.reg [rI 0 (.bin .eql (.t 35) (.k (.int .i64 18))) 150, rI 1 (.mv (.t 150)) 147]))))) (.ite (.t 147) (.reg [rI 0 (.mv (.t 0)) 151, rI 1 (.mv (.t 7)) 152, rI 2 (.bld [.int .i64 0, .int .i64 0, .int .i64 0, .int .i64 0, .int .i64 0] [(0, 1, .k (.int .i64 11)), (1, 1, .t 152)]) 153, rI 3 (.mv (.t 1)) 154, rI 4 (.mv (.t 2)) 155, rI 5 (.call 129 [.t 151, .t 153, .t 154, .t 155]) 156]) (.seq (.reg [rI 0 (.bin .eql (.t 35) (.k (.int .i64 19))) 158, rI 1 (.mv (.t 158)) 157]) (.ite (.t 157) (.reg [rI 0 (.mv (.t 0)) 159, rI 1 (.bld [.int .i64 0, .int .i64 0, .int .i64 0, .int .i64 0, .int .i64 0] [(0, 1, .k (.int .i64 12))]) 160, rI 2 (.mv (.t 1)) 161, rI 3 (.mv (.t 2)) 162, rI 4 (.call 129 [.t 159, .t 160, .t 161, .t 162]) 163]) (.seq (.seq (.reg [rI 0 (.bin .eql (.t 35) (.k (.int .i64 20))) 165, rI 1 (.mv (.t 165)) 164]) (.ite (.t 164) .skip (.reg [rI 0 (.bin .eql (.t 35) (.k (.int .i64 21))) 166, rI 1 (.mv (.t 166)) 164]))) (.ite (.t 164) (.reg [rI 0 (.mv (.t 0)) 167, rI 1 (.bld [.int .i64 0, .int .i64 0, .int .i64 0, .int .i64 0, .int .i64 0] [(0, 1, .k (.int .i64 13))]) 168, rI 2 (.mv (.t 1)) 169, rI 3 (.call 129 [.t 167, .t 168, .t 169, .k (.bool true)]) 170]) (.seq (.reg [rI 0 (.bin .eql (.t 35) (.k (.int .i64 22))) 172, rI 1 (.mv (.t 172)) 171]) (.ite (.t 171) (.seq (.reg [rI 0 (.mv (.t 0)) 173, rI 1 (.mv (.t 7)) 174, rI 2 (.mv (.t 6)) 175, rI 3 (.call 94 [.t 175, .k (.int .i64 4)]) 176, rI 4 (.bld [.int .i64 0, .int .i64 0, .int .i64 0, .int .i64 0, .int .i64 0] [(0, 1, .k (.int .i64 1)), (1, 1, .t 174), (3, 1, .t 176)]) 177, rI 5 (.call 95 [.t 173, .t 177]) 178]) (.reg [rI 0 (.mv (.t 0)) 179, rI 1 (.mv (.t 7)) 180, rI 2 (.bld [.int .i64 0, .int .i64 0, .int .i64 0, .int .i64 0, .int .i64 0] [(0, 1, .k (.int .i64 14)), (1, 1, .t 180)]) 181, rI 3 (.mv (.t 1)) 182, rI 4 (.mv (.t 2)) 183, rI 5 (.call 129 [.t 179, .t 181, .t 182, .t 183]) 184])) (.reg [rI 0 (.mv (.t 0)) 36, rI 1 (.mv (.t 0)) 37, rI 2 (.call 125 [.t 37]) 38, rI 3 (.bld [.int .i64 0, .int .i64 0, .int .i64 0, .int .i64 0, .int .i64 0] [(0, 1, .k (.int .i64 15)), (1, 1, .t 38)]) 39, rI 4 (.mv (.t 1)) 40, rI 5 (.mv (.t 2)) 41, rI 6 (.call 129 [.t 36, .t 39, .t 40, .t 41]) 42])))))))))))))))))))))))))))))))
def r96 : RFun := ⟨185, [], (.seq (.reg [rI 0 (.mv (.t 0)) 10, rI 1 (.nc (.t 10)) 11, rI 2 (.fa (.t 11) 0) 12, rI 3 (.ld none (.t 12)) 13, rI 4 (.mv (.t 13)) 6]) (.seq (.reg [rI 0 (.mv (.t 0)) 14, rI 1 (.nc (.t 14)) 15, rI 2 (.fa (.t 15) 3) 16, rI 3 (.ld none (.t 16)) 17, rI 4 (.bin .sub (.t 17) (.k (.int .i64 1))) 18, rI 5 (.nc (.t 14)) 19, rI 6 (.fa (.t 19) 3) 20, ⟨7, .st (.t 20) (.t 18) 1, none, none, []⟩]) (.seq (.reg [rI 0 (.mv (.t 0)) 21, rI 1 (.call 124 [.t 21]) 22, rI 2 (.mv (.t 22)) 7]) (.seq (.reg [rI 0 (.mv (.t 0)) 23, rI 1 (.call 124 [.t 23]) 24, rI 2 (.mv (.t 24)) 8]) (.seq (.reg [rI 0 (.mv (.t 6)) 25, rI 1 (.call 94 [.t 25, .k (.int .i64 24)]) 26, rI 2 (.mv (.t 26)) 9]) (.seq (.seq (.reg [rI 0 (.mv (.t 1)) 27, rI 1 (.bin .leq (.t 27) (.k (.int .i64 0))) 28, rI 2 (.mv (.t 28)) 29, ⟨3, .mv (.t 9), some 30, some (29, true), []⟩, ⟨4, .bin .gtr (.t 30) (.k (.int .i64 15)), some 31, some (29, true), []⟩, rI 5 (.pick (.t 29) (.t 31) (.k (.bool false))) 32]) (.ite (.t 32) (.reg [rI 0 (.mv (.t 6)) 33, rI 1 (.call 94 [.t 33, .k (.int .i64 16)]) 34, rI 2 (.mv (.t 34)) 9]) .skip)) t96))))))⟩
theorem p96 : prog 96 = some r96 := by kernel_rfl



section
variable {lo : Nat} {code : Cell} {bs : List Int} {L L' L'' : Lay DRo} {σ σ' σ'' : DS} {μ μ' μ'' : Mem} {K K' : Nat}

theorem dcon_left {x : Int} : (dcon code L σ).upd .b (0, wr (bcells L σ) 3 [.int .i64 x]) = dcon code L { σ with left := x } := by
 funext y
 simp only [Con.upd]
 split
 ·rename_i e; subst e; rfl
 ·cases y <;> first | rfl | (rename_i h; exact absurd rfl h)

theorem dcon_steps {l : List PStep} (hl : l.length = σ.steps.length) : (dcon code L σ).upd (.steps σ.done.length) (5, cat scells 0 l) = dcon code L { σ with steps := l } := by
 funext y
 simp only [Con.upd]
 split
 ·rename_i e; subst e; simp only [dcon, if_true]
 ·cases y with
  | steps i => rename_i h; simp only [dcon]; rw [if_neg (fun e => h (by rw [e])), if_neg (fun e => h (by rw [e]))]
  | b => simp only [dcon, bcells, hl]
  | _ => rfl

/-- What is left changes. -/
theorem DR.left (h : DR lo code bs L σ μ) (x : Int) : ∃ μ', μ.st (L.id .b) 3 [.int .i64 x] = some μ' ∧ DR lo code bs L { σ with left := x } μ' ∧ Same lo μ μ' := by
 obtain ⟨μ1, e1, h1, hs, _⟩ := h.has.st (r := .b) rfl (o := 3) (new := [.int .i64 x]) (.inl rfl) (by simp [bcells])
 rw [dcon_left] at h1
 exact ⟨μ1, e1, ⟨h1, Nat.le_trans h.low hs.2, h.code.same hs (Nat.le_refl _), h.bytes, h.pos, h.off⟩, hs⟩

/-- The size of a step is set. -/
theorem DR.size (h : DR lo code bs L σ μ) {j : Nat} (hj : j < σ.steps.length) (x : Int) : ∃ μ' σ', μ.st (L.id (.steps σ.done.length)) (j * 5 + 4) [.int .i64 x] = some μ' ∧ DA 0 lo code bs L σ μ L σ' μ' ∧ σ'.left = σ.left := by
 obtain ⟨μ1, e1, h1, o1⟩ := h.has.put1 scells_len (r := .steps σ.done.length) (l := σ.steps) (by simp only [dcon, if_true]) (j := j) (k := 4) (a := σ.steps[j]) (a' := { σ.steps[j] with size := x }) (x := .int .i64 x) (List.getElem?_eq_getElem hj) (by omega) rfl
 rw [dcon_steps (by rw [List.length_set])] at h1
 have hs : Same lo μ μ1 := ⟨fun b hb => o1.2 b fun hr e => by have := h.has.ge _ hr; omega, by rw [o1.1]; exact Nat.le_refl _⟩
 exact ⟨μ1, _, e1, ⟨⟨h1, Nat.le_trans h.low hs.2, h.code.same hs (Nat.le_refl _), h.bytes, h.pos, h.off⟩, hs, ⟨rfl, rfl, rfl, rfl⟩, ⟨rfl, rfl⟩, by simp only; omega, ⟨by simp, by simp⟩, ⟨Int.le_refl _, by simp only; omega⟩⟩, rfl⟩

/-- The bound of a step that is so deep. -/
def G (d : Nat) : Nat := 40 * 4 ^ d
theorem G_pos (d : Nat) : 40 ≤ G d := by unfold G; have : 0 < 4 ^ d := Nat.pow_pos (by omega); omega
theorem G_succ (d : Nat) : G (d + 1) = 4 * G d := by unfold G; rw [Nat.pow_succ]; omega

def StepOk (d : Nat) : Prop := ∀ {lo : Nat} {code : Cell} {bs : List Int} {L : Lay DRo} {σ : DS} {μ : Mem} (f : Bool), DR lo code bs L σ μ → Fit σ (G d) →
 Ret 96 [pt (L.id .b) 0, .c (.int .i64 d), .c (.bool f)] μ fun v μ' => ∃ L' σ', DA (G d) lo code bs L σ μ L' σ' μ' ∧ σ'.left < σ.left

theorem blockLoop {d : Nat} (hd : d ≤ 100) (hstep : StepOk d) {f : Bool} {v8 : AV} {s : List It} {Q : Fr → Mem → Prop} :
  ∀ (n : Nat) (fr : Fr) (L : Lay DRo) (σ : DS) (μ : Mem), DR lo code bs L σ μ → Fit σ (n * G d) → fr 0 = pt (L.id .b) 0 → fr 2 = .c (.int .i64 ((d + 1 : Nat) : Int)) → fr 3 = .c (.bool f) → fr 9 = .c (.int .i64 n) → fr 8 = v8 → n ≤ 100 →
   (∀ fr' L' σ' μ', DA (n * G d) lo code bs L σ μ L' σ' μ' → fr' 0 = pt (L'.id .b) 0 → fr' 8 = v8 → R s fr' μ' Q) → R (.c (.loop b129_0) :: .blk 0 :: s) fr μ Q := by
 intro n
 induction n with
 | zero =>
  intro fr L σ μ h hf f0 f2 f3 f9 f8 hn hend
  rw [R_loop]
  simp only [rI, b129_0]
  simp only [w1, w2, ↓reduceIte, f9]
  rw [decide_eq_false (by omega)]
  simp only [w1, ↓reduceIte, zA]
  rw [R_exit rfl]
  exact hend _ L σ μ ((DA.refl h).mono (by omega)) (by simp only [w1, ↓reduceIte, zA, f0]) (by simp only [w1, ↓reduceIte, zA, f8])
 | succ n ih =>
  intro fr L σ μ h hf f0 f2 f3 f9 f8 hn hend
  have hb := h.bf
  rw [Nat.add_mul, Nat.one_mul] at hf
  rw [R_loop]
  simp only [rI, b129_0]
  simp only [w1, w2, ↓reduceIte, f9]
  rw [decide_eq_true (by omega)]
  simp only [w1, w2, ↓reduceIte, zA, f0, hb]
  by_cases hl : σ.left > 0
  ·rw [decide_eq_true hl]
   simp only [w1, w2, ↓reduceIte, zA, f0, f2, f3]
   rw [small (by omega)]
   have e : ((d + 1 : Nat) : Int) - 1 = (d : Int) := by omega
   rw [e]
   refine R_calls (l := [pt (L.id .b) 0, .c (.int .i64 d), .c (.bool f)]) (by first | rfl | simp only [w1, w2, zH, zI, ↓reduceIte, zA, zB, zC, zD, zE, zF, zG]) (hstep f h (hf.mono (by omega))) ?_
   rintro v μ1 ⟨L1, σ1, h1, hl1⟩
   have hf1 : Fit σ1 (n * G d) := Fit.next (K := G d) (hf.mono (by omega)) h1
   simp only [w1, w2, ↓reduceIte, zA, f9]
   rw [small (by omega), R_lp]
   refine ih _ L1 σ1 μ1 h1.rep hf1 ?_ ?_ ?_ ?_ ?_ (by omega) ?_
   ·simp only [w1, ↓reduceIte, zA, f0, h1.ids.2.1]
   ·simp only [w1, ↓reduceIte, zA, f2]
   ·simp only [w1, ↓reduceIte, zA, f3]
   ·simp only [w1, ↓reduceIte]; congr 2; omega
   ·simp only [w1, ↓reduceIte, zA, f8]
   ·intro fr' L' σ' μ' h2 g0 g8
    refine hend fr' L' σ' μ' ((h1.trans h2).mono ?_) g0 g8
    rw [Nat.add_mul, Nat.one_mul]; omega
  ·rw [decide_eq_false hl]
   simp only [w1]
   rw [R_exit rfl]
   exact hend _ L σ μ ((DA.refl h).mono (by omega)) (by simp only [w1, ↓reduceIte, zA, f0]) (by simp only [w1, ↓reduceIte, zA, f8])

theorem block_ok {d : Nat} (hd : d ≤ 100) (hstep : StepOk d) (h : DR lo code bs L σ μ) (hf : Fit σ (3 + 3 * G d)) (x : PStep) (f : Bool) :
  Ret 129 [pt (L.id .b) 0, .agg (scells 0 x), .c (.int .i64 ((d + 1 : Nat) : Int)), .c (.bool f)] μ fun v μ' => ∃ L' σ', DA (3 + 3 * G d) lo code bs L σ μ L' σ' μ' := by
 have hs0 : Same lo μ (μ.new (scells 0 x) 0) := Same.tmp h.low
 have h0 : DR lo code bs L σ (μ.new (scells 0 x) 0) := ⟨h.has.tmp, Nat.le_trans h.low hs0.2, h.code.same hs0 (Nat.le_refl _), h.bytes, h.pos, h.off⟩
 have hx : (μ.new (scells 0 x) 0).ld (some 5) μ.next 0 = some (.agg (scells 0 x)) := by rw [Mem.new_ld, if_pos rfl]; rfl
 have hb0 := h0.bf
 have hput := put_ok h0 (hf.mono (by omega)) x
 have e5 : (scells 0 x).length = 5 := rfl
 obtain ⟨a0, c0, hsc0⟩ := h0.has.scf (r := .steps σ.done.length) (sz := 5) (n := σ.steps.length) (cs := cat scells 0 σ.steps) (by simp only [dcon, if_true]) (by rw [cat_length scells_len]) (by omega)
 rw [hsc0] at hb0
 refine Ret_of p129 (by simp [r129]) ?_
 simp only [rI, r129, frOf_4]
 simp only [scells] at hx hb0 hput e5 ⊢
 simp only [w1, w2, zH, zI, ↓reduceIte, zA, e5, hb0, hx]
 refine R_calls rfl (by simp only [w1, w2, ↓reduceIte, zA]; exact hput) ?_
 rintro v μ1 ⟨L1, σ1, h1, hl1, hst1⟩
 have hf1 : Fit σ1 (2 + 3 * G d) := Fit.next (K := 1) (hf.mono (by omega)) h1
 have hb1 := h1.rep.bf
 rw [h1.ids.2.1, h1.ids.1] at hb1
 simp only [w1, w2, ↓reduceIte, zA, hb1]
 have hp := dpick_ok h1.rep (hf1.mono (by omega)) 4
 rw [h1.ids.1] at hp
 refine R_calls (l := [pt (L.id .cur) 0, .c (.int .i64 4)]) (by first | rfl | simp only [w1, w2, zH, zI, ↓reduceIte, zA, zB, zC, zD, zE, zF, zG]) hp ?_
 rintro v μ2 ⟨n, σ2, rfl, hn, h2, hl2⟩
 have hf2 : Fit σ2 (3 * G d) := Fit.next (K := 2) hf1 h2
 obtain ⟨n, rfl⟩ : ∃ m : Nat, n = m := ⟨n.toNat, by omega⟩
 have hn4 := hn.2 (by omega)
 simp only [w1, ↓reduceIte]
 refine blockLoop hd hstep n _ L1 σ2 μ2 h2.rep (hf2.mono (Nat.mul_le_mul_right _ (by omega))) (f := f) (v8 := .c (.int .i64 σ.steps.length)) ?_ ?_ ?_ ?_ ?_ (by omega) ?_
 ·simp only [w1, ↓reduceIte, zA, h1.ids.2.1]
 ·simp only [w1, ↓reduceIte, zA]
 ·simp only [w1, ↓reduceIte, zA]
 ·simp only [w1, ↓reduceIte]
 ·simp only [w1, ↓reduceIte, zA]
 ·intro fr' L3 σ3 μ3 h3 g0 g8
  have hb3 := h3.rep.bf
  have hlen1 : σ1.steps.length = σ.steps.length + 1 := by rw [hst1]; simp
  have hj : σ.steps.length < σ3.steps.length := by have := h3.len.1; have := h2.len.1; omega
  obtain ⟨μ4, σ4, e4, h4, hl4⟩ := h3.rep.size hj (IntKind.i64.wrap (IntKind.i64.wrap ((σ3.steps.length : Int) - σ.steps.length) - 1))
  have hslot := h3.rep.has.slot (r := .steps σ3.done.length) (sz := 5) (n := σ3.steps.length) (cs := cat scells 0 σ3.steps) (by simp only [dcon, if_true]) (by rw [cat_length scells_len]) (by omega) hj
  obtain ⟨a3, c3, hsc3⟩ := h3.rep.has.scf (r := .steps σ3.done.length) (sz := 5) (n := σ3.steps.length) (cs := cat scells 0 σ3.steps) (by simp only [dcon, if_true]) (by rw [cat_length scells_len]) (by omega)
  rw [hsc3] at hb3 hslot
  simp only [w1, w2, zH, zI, ↓reduceIte, zA, g0, g8, hb3, hslot, e4, aRet, aRes]
  have h01 : DA 1 lo code bs L σ μ L1 σ1 μ1 := ⟨h1.rep, hs0.trans h1.same, h1.ids, h1.done, h1.pos, h1.len, h1.left⟩
  refine ⟨_, rfl, L3, σ4, (((h01.trans h2).trans h3).trans h4).mono ?_⟩
  have := Nat.mul_le_mul_right (G d) (show n ≤ 3 by omega)
  omega

theorem step_tail {d : Nat} (hd : d ≤ 100) (hblk : ∀ e, d = e + 1 → StepOk e) {f : Bool} {a r k : Int} {fr : Fr} {s : List It} {Q : Fr → Mem → Prop} (h : DR lo code bs L σ μ) (hf : Fit σ (G d - 9)) (hk : 0 ≤ k ∧ k < 24) (hk0 : d = 0 → k < 16)
  (f0 : fr 0 = pt (L.id .b) 0) (f1 : fr 1 = .c (.int .i64 d)) (f2 : fr 2 = .c (.bool f)) (f6 : fr 6 = pt (L.id .cur) 0) (f7 : fr 7 = .c (.int .i64 a)) (f8 : fr 8 = .c (.int .i64 r)) (f9 : fr 9 = .c (.int .i64 k))
  (hend : ∀ fr' L' σ' μ', DA (G d - 9) lo code bs L σ μ L' σ' μ' → R s fr' μ' Q) : R (.c t96 :: s) fr μ Q := by
 have hG := G_pos d
 have blk : ∀ {L1 : Lay DRo} {σ1 : DS} {μ1 : Mem} (x : PStep) (g : Bool), d ≠ 0 → DR lo code bs L1 σ1 μ1 → Fit σ1 (G d - 12) →
   Ret 129 [pt (L1.id .b) 0, .agg (scells 0 x), .c (.int .i64 d), .c (.bool g)] μ1 fun v μ' => ∃ L' σ', DA (G d - 12) lo code bs L1 σ1 μ1 L' σ' μ' := by
  intro L1 σ1 μ1 x g hd0 h1 hf1
  obtain ⟨e, rfl⟩ : ∃ e, d = e + 1 := ⟨d - 1, by omega⟩
  have hG1 := G_pos e
  have hGs := G_succ e
  exact (block_ok (by omega) (hblk e rfl) h1 (hf1.mono (by omega)) x g).mono fun v μ' ⟨L', σ', h2⟩ => ⟨L', σ', h2.mono (by omega)⟩
 have put : ∀ {L1 : Lay DRo} {σ1 : DS} {μ1 : Mem} {fr1 : Fr} {ix : Nat} {dst : Option Nat} {args : List Opd} {s1 : List It} (x : PStep), DA 15 lo code bs L σ μ L1 σ1 μ1 → args.map (Opd.ev fr1) = [pt (L.id .b) 0, .agg (scells 0 x)] →
   (∀ v μ2 L2 σ2, DA 16 lo code bs L σ μ L2 σ2 μ2 → R s1 (fr1.put dst v) μ2 Q) → R (.o ⟨ix, .call 95 args, dst, none, []⟩ :: s1) fr1 μ1 Q := by
  intro L1 σ1 μ1 fr1 ix dst args s1 x h1 ha hq
  have hp := put_ok h1.rep (Fit.next (K := 15) (hf.mono (by omega)) h1) x
  rw [h1.ids.2.1] at hp
  exact R_calls ha hp fun v μ2 ⟨L2, σ2, h2, _⟩ => hq v μ2 L2 σ2 (h1.trans h2)
 have reg : ∀ {σ1 : DS} {μ1 : Mem} {fr1 : Fr} {ix : Nat} {dst : Option Nat} {args : List Opd} {s1 : List It}, DA 2 lo code bs L σ μ L σ1 μ1 → args.map (Opd.ev fr1) = [pt (L.id .b) 0] →
   (∀ x μ2 σ2, DA 4 lo code bs L σ μ L σ2 μ2 → R s1 (fr1.put dst (.c (.int .i64 x))) μ2 Q) → R (.o ⟨ix, .call 125 args, dst, none, []⟩ :: s1) fr1 μ1 Q := by
  intro σ1 μ1 fr1 ix dst args s1 h1 ha hq
  exact R_calls ha (reg_ok h1.rep (Fit.next (K := 2) (hf.mono (by omega)) h1)) fun v μ2 ⟨x, σ2, e, h2, _⟩ => by subst e; exact hq x μ2 σ2 (h1.trans h2)
 have into : ∀ {L1 : Lay DRo} {σ1 : DS} {μ1 : Mem} {fr1 : Fr} {ix : Nat} {dst : Option Nat} {args : List Opd} {s1 : List It}, DA 7 lo code bs L σ μ L1 σ1 μ1 → args.map (Opd.ev fr1) = [pt (L.id .b) 0, .c (.int .i64 a)] →
   (∀ x μ2 σ2, DA 9 lo code bs L σ μ L1 σ2 μ2 → R s1 (fr1.put dst (.c (.int .i64 x))) μ2 Q) → R (.o ⟨ix, .call 128 args, dst, none, []⟩ :: s1) fr1 μ1 Q := by
  intro L1 σ1 μ1 fr1 ix dst args s1 h1 ha hq
  have hp := into_ok h1.rep (Fit.next (K := 7) (hf.mono (by omega)) h1) a
  rw [h1.ids.2.1] at hp
  exact R_calls ha hp fun v μ2 ⟨x, σ2, e, h2, _⟩ => by subst e; exact hq x μ2 σ2 (h1.trans h2)
 have task : ∀ {fr1 : Fr} {ix : Nat} {dst : Option Nat} {args : List Opd} {s1 : List It}, args.map (Opd.ev fr1) = [pt (L.id .b) 0, .c (.int .i64 r)] →
   (∀ v L2 μ2 σ2, DA 7 lo code bs L σ μ L2 σ2 μ2 → R s1 (fr1.put dst v) μ2 Q) → R (.o ⟨ix, .call 127 args, dst, none, []⟩ :: s1) fr1 μ Q := by
  intro fr1 ix dst args s1 ha hq
  exact R_calls ha (dtask_ok h (hf.mono (by omega)) r) fun v μ2 ⟨L2, σ2, h2, _⟩ => hq v L2 μ2 σ2 h2
 have block : ∀ {L1 : Lay DRo} {σ1 : DS} {μ1 : Mem} {fr1 : Fr} {ix : Nat} {dst : Option Nat} {args : List Opd} {s1 : List It} (x : PStep) (g : Bool), d ≠ 0 → DA 3 lo code bs L σ μ L1 σ1 μ1 → args.map (Opd.ev fr1) = [pt (L.id .b) 0, .agg (scells 0 x), .c (.int .i64 d), .c (.bool g)] →
   (∀ v μ2 L2 σ2, DA (G d - 9) lo code bs L σ μ L2 σ2 μ2 → R s1 (fr1.put dst v) μ2 Q) → R (.o ⟨ix, .call 129 args, dst, none, []⟩ :: s1) fr1 μ1 Q := by
  intro L1 σ1 μ1 fr1 ix dst args s1 x g hd0 h1 ha hq
  have hp := blk x g hd0 h1.rep (Fit.next (K := 3) (hf.mono (by omega)) h1)
  rw [h1.ids.2.1] at hp
  exact R_calls ha hp fun v μ2 ⟨L2, σ2, h2⟩ => hq v μ2 L2 σ2 ((h1.trans h2).mono (by omega))
 have h0 := DA.refl h
 have hk' : k = 0 ∨ k = 1 ∨ (k = 2 ∨ k = 3 ∨ k = 4) ∨ (k = 5 ∨ k = 6) ∨ (k = 7 ∨ k = 8 ∨ k = 9) ∨ (k = 10 ∨ k = 11) ∨ k = 12 ∨ k = 13 ∨ k = 14 ∨ k = 15 ∨ (k = 16 ∨ k = 17 ∨ k = 18) ∨ k = 19 ∨ (k = 20 ∨ k = 21) ∨ k = 22 ∨ k = 23 := by omega
 have hb := h.bf
 rcases hk' with rfl | rfl | hk' | hk' | hk' | hk' | rfl | rfl | rfl | rfl | hk' | rfl | hk' | rfl | rfl
 ·simp only [rI, t96]
  simp only [w1, w2, ↓reduceIte, zA, f0, f9]
  refine reg (h0.mono (by omega)) (by first | rfl | simp only [w1, w2, zH, zI, ↓reduceIte, zA, zB, zC, zD, zE, zF, zG, f0]) fun x μ1 σ1 h1 => ?_
  simp only [w1, ↓reduceIte, zA, f0]
  refine R_calls (l := [pt (L.id .b) 0]) (by first | rfl | simp only [w1, w2, zH, zI, ↓reduceIte, zA, zB, zC, zD, zE, zF, zG, f0]) (num_ok h1.rep (Fit.next (K := 4) (hf.mono (by omega)) h1)) ?_
  rintro v μ2 ⟨y, σ2, rfl, h2, _⟩
  simp only [w1, w2, zH, zI, ↓reduceIte, zA, zB, m2, fillc, wr, zJ, zB]
  refine put ⟨1, x, 0, y, 0⟩ ((h1.trans h2).mono (by omega)) (by first | rfl | simp only [w1, w2, zH, zI, ↓reduceIte, zA, zB, zC, zD, zE, zF, zG, f0, scells]) fun v μ3 L3 σ3 h3 => ?_
  simp only [w1]
  exact hend _ L3 σ3 μ3 (h3.mono (by omega))
 ·simp only [rI, t96]
  simp only [w1, w2, ↓reduceIte, zA, zF, f0, f7, f9]
  refine reg (h0.mono (by omega)) (by first | rfl | simp only [w1, w2, zH, zI, ↓reduceIte, zA, zB, zC, zD, zE, zF, zG, f0]) fun x μ1 σ1 h1 => ?_
  simp only [w1, ↓reduceIte, zA, f0]
  refine R_calls (l := [pt (L.id .b) 0]) (by first | rfl | simp only [w1, w2, zH, zI, ↓reduceIte, zA, zB, zC, zD, zE, zF, zG, f0]) (num_ok h1.rep (Fit.next (K := 4) (hf.mono (by omega)) h1)) ?_
  rintro v μ2 ⟨y, σ2, rfl, h2, _⟩
  simp only [w1, w2, zH, zI, ↓reduceIte, zA, zB, m2, fillc, wr, zJ, zB]
  refine put ⟨2, a, x, IntKind.i64.wrap (y - 2), 0⟩ ((h1.trans h2).mono (by omega)) (by first | rfl | simp only [w1, w2, zH, zI, ↓reduceIte, zA, zB, zC, zD, zE, zF, zG, f0, scells]) fun v μ3 L3 σ3 h3 => ?_
  simp only [w1]
  exact hend _ L3 σ3 μ3 (h3.mono (by omega))
 ·rcases hk' with rfl | rfl | rfl <;>
  (simp only [rI, t96]
   simp only [w1, w2, ↓reduceIte, zA, zF, f0, f9]
   refine reg (h0.mono (by omega)) (by first | rfl | simp only [w1, w2, zH, zI, ↓reduceIte, zA, zB, zC, zD, zE, zF, zG, f0]) fun x μ1 σ1 h1 => ?_
   simp only [w1, w2, zH, zI, ↓reduceIte, zB, m2, fillc, wr, zJ, zB]
   refine put ⟨3, x, 0, 0, 0⟩ (h1.mono (by omega)) (by first | rfl | simp only [w1, w2, zH, zI, ↓reduceIte, zA, zB, zC, zD, zE, zF, zG, f0, scells]) fun v μ3 L3 σ3 h3 => ?_
   simp only [w1]
   exact hend _ L3 σ3 μ3 (h3.mono (by omega)))
 ·rcases hk' with rfl | rfl <;>
  (simp only [rI, t96]
   simp only [w1, w2, ↓reduceIte, zA, zF, f0, f6, f7, f9, hb]
   refine R_calls (l := [pt (L.id .cur) 0, .c (.int .i64 σ.bodies)]) (by first | rfl | simp only [w1, w2, zH, zI, ↓reduceIte, zA, zB, zC, zD, zE, zF, zG, f6]) (dpick_ok h (hf.mono (by omega)) _) ?_
   rintro v μ2 ⟨y, σ2, rfl, _, h2, _⟩
   simp only [w1, w2, zH, zI, ↓reduceIte, zA, zB, m2, fillc, wr, zJ, zB]
   refine put ⟨4, a, y, 0, 0⟩ (h2.mono (by omega)) (by first | rfl | simp only [w1, w2, zH, zI, ↓reduceIte, zA, zB, zC, zD, zE, zF, zG, f0, scells]) fun v μ3 L3 σ3 h3 => ?_
   simp only [w1]
   exact hend _ L3 σ3 μ3 (h3.mono (by omega)))
 ·rcases hk' with rfl | rfl | rfl <;>
  (simp only [rI, t96]
   simp only [w1, w2, ↓reduceIte, zA, zF, f0, f8, f9]
   refine task (by first | rfl | simp only [w1, w2, zH, zI, ↓reduceIte, zA, zB, zC, zD, zE, zF, zG, f0, f8]) fun v L1 μ1 σ1 h1 => ?_
   simp only [w1, w2, ↓reduceIte, zA, f0, f7]
   refine into h1 (by first | rfl | simp only [w1, w2, zH, zI, ↓reduceIte, zA, zB, zC, zD, zE, zF, zG, f0, f7]) fun x μ2 σ2 h2 => ?_
   simp only [w1, w2, zH, zI, ↓reduceIte, zA, zB, f8, m2, fillc, wr, zJ, zB]
   refine put ⟨5, x, r, 0, 0⟩ (h2.mono (by omega)) (by first | rfl | simp only [w1, w2, zH, zI, ↓reduceIte, zA, zB, zC, zD, zE, zF, zG, f0, scells]) fun v μ3 L3 σ3 h3 => ?_
   simp only [w1]
   exact hend _ L3 σ3 μ3 (h3.mono (by omega)))
 ·rcases hk' with rfl | rfl <;>
  (simp only [rI, t96]
   simp only [w1, w2, ↓reduceIte, zA, zF, f0, f7, f9]
   refine into (h0.mono (by omega)) (by first | rfl | simp only [w1, w2, zH, zI, ↓reduceIte, zA, zB, zC, zD, zE, zF, zG, f0, f7]) fun x μ2 σ2 h2 => ?_
   simp only [w1, w2, zH, zI, ↓reduceIte, zB, m2, fillc, wr, zJ, zB]
   refine put ⟨6, x, 0, 0, 0⟩ (h2.mono (by omega)) (by first | rfl | simp only [w1, w2, zH, zI, ↓reduceIte, zA, zB, zC, zD, zE, zF, zG, f0, scells]) fun v μ3 L3 σ3 h3 => ?_
   simp only [w1]
   exact hend _ L3 σ3 μ3 (h3.mono (by omega)))
 ·simp only [rI, t96]
  simp only [w1, w2, ↓reduceIte, zA, zF, f0, f8, f9]
  refine task (by first | rfl | simp only [w1, w2, zH, zI, ↓reduceIte, zA, zB, zC, zD, zE, zF, zG, f0, f8]) fun v L1 μ1 σ1 h1 => ?_
  simp only [w1, w2, ↓reduceIte, zA, f0, f7]
  refine into h1 (by first | rfl | simp only [w1, w2, zH, zI, ↓reduceIte, zA, zB, zC, zD, zE, zF, zG, f0, f7]) fun x μ2 σ2 h2 => ?_
  simp only [w1, w2, zH, zI, ↓reduceIte, zA, zB, f8, m2, fillc, wr, zJ, zB]
  refine put ⟨7, x, r, 0, 0⟩ (h2.mono (by omega)) (by first | rfl | simp only [w1, w2, zH, zI, ↓reduceIte, zA, zB, zC, zD, zE, zF, zG, f0, scells]) fun v μ3 L3 σ3 h3 => ?_
  simp only [w1]
  exact hend _ L3 σ3 μ3 (h3.mono (by omega))
 ·simp only [rI, t96]
  simp only [w1, w2, ↓reduceIte, zA, zF, f0, f8, f9]
  refine task (by first | rfl | simp only [w1, w2, zH, zI, ↓reduceIte, zA, zB, zC, zD, zE, zF, zG, f0, f8]) fun v L1 μ1 σ1 h1 => ?_
  simp only [w1, w2, zH, zI, ↓reduceIte, zA, zB, f0, f7, f8, m2, fillc, wr, zJ, zB]
  refine put ⟨8, a, r, 0, 0⟩ (h1.mono (by omega)) (by first | rfl | simp only [w1, w2, zH, zI, ↓reduceIte, zA, zB, zC, zD, zE, zF, zG, f0, scells]) fun v μ3 L3 σ3 h3 => ?_
  simp only [w1]
  exact hend _ L3 σ3 μ3 (h3.mono (by omega))
 ·simp only [rI, t96]
  simp only [w1, w2, zH, zI, ↓reduceIte, zA, zB, zF, f0, f7, f9, m2, fillc, wr, zJ, zB]
  refine put ⟨9, a, 0, 0, 0⟩ (h0.mono (by omega)) (by first | rfl | simp only [w1, w2, zH, zI, ↓reduceIte, zA, zB, zC, zD, zE, zF, zG, f0, scells]) fun v μ3 L3 σ3 h3 => ?_
  simp only [w1]
  exact hend _ L3 σ3 μ3 (h3.mono (by omega))
 ·simp only [rI, t96]
  cases f with
  | true =>
   simp only [w1, w2, zH, zI, ↓reduceIte, zA, zB, zF, f0, f2, f7, f9, m2, fillc, wr, zJ, zB]
   refine put ⟨3, a, 0, 0, 0⟩ (h0.mono (by omega)) (by first | rfl | simp only [w1, w2, zH, zI, ↓reduceIte, zA, zB, zC, zD, zE, zF, zG, f0, scells]) fun v μ3 L3 σ3 h3 => ?_
   simp only [w1]
   exact hend _ L3 σ3 μ3 (h3.mono (by omega))
  | false =>
   simp only [w1, w2, zH, zI, ↓reduceIte, zA, zB, zF, f0, f2, f7, f9, m2, fillc, wr, zJ, zB]
   refine put ⟨10, a, 0, 0, 0⟩ (h0.mono (by omega)) (by first | rfl | simp only [w1, w2, zH, zI, ↓reduceIte, zA, zB, zC, zD, zE, zF, zG, f0, scells]) fun v μ3 L3 σ3 h3 => ?_
   simp only [w1]
   exact hend _ L3 σ3 μ3 (h3.mono (by omega))
 ·rcases hk' with rfl | rfl | rfl <;>
  (simp only [rI, t96]
   simp only [w1, w2, zH, zI, ↓reduceIte, zA, zB, zF, f0, f1, f2, f7, f9, m2, fillc, wr, zJ, zB]
   refine block ⟨11, a, 0, 0, 0⟩ f (fun e => by have := hk0 e; omega) (h0.mono (by omega)) (by first | rfl | simp only [w1, w2, zH, zI, ↓reduceIte, zA, zB, zC, zD, zE, zF, zG, f0, scells]) fun v μ3 L3 σ3 h3 => ?_
   simp only [w1]
   exact hend _ L3 σ3 μ3 h3)
 ·simp only [rI, t96]
  simp only [w1, w2, zH, zI, ↓reduceIte, zA, zB, zF, f0, f1, f2, f9, m2, fillc, wr, zJ, zB]
  refine block ⟨12, 0, 0, 0, 0⟩ f (fun e => by have := hk0 e; omega) (h0.mono (by omega)) (by first | rfl | simp only [w1, w2, zH, zI, ↓reduceIte, zA, zB, zC, zD, zE, zF, zG, f0, scells]) fun v μ3 L3 σ3 h3 => ?_
  simp only [w1]
  exact hend _ L3 σ3 μ3 h3
 ·rcases hk' with rfl | rfl <;>
  (simp only [rI, t96]
   simp only [w1, w2, zH, zI, ↓reduceIte, zA, zB, zF, f0, f1, f9, m2, fillc, wr, zJ, zB]
   refine block ⟨13, 0, 0, 0, 0⟩ true (fun e => by have := hk0 e; omega) (h0.mono (by omega)) (by first | rfl | simp only [w1, w2, zH, zI, ↓reduceIte, zA, zB, zC, zD, zE, zF, zG, f0, scells]) fun v μ3 L3 σ3 h3 => ?_
   simp only [w1]
   exact hend _ L3 σ3 μ3 h3)
 ·simp only [rI, t96]
  simp only [w1, w2, ↓reduceIte, zA, zF, f0, f6, f7, f9]
  refine R_calls (l := [pt (L.id .cur) 0, .c (.int .i64 4)]) (by first | rfl | simp only [w1, w2, zH, zI, ↓reduceIte, zA, zB, zC, zD, zE, zF, zG, f6]) (dpick_ok h (hf.mono (by omega)) 4) ?_
  rintro v μ2 ⟨y, σ2, rfl, _, h2, _⟩
  simp only [w1, w2, zH, zI, ↓reduceIte, zA, zB, m2, fillc, wr, zJ, zB]
  refine R_calls (l := [pt (L.id .b) 0, .agg (scells 0 ⟨1, a, 0, y, 0⟩)]) (by first | rfl | simp only [w1, w2, zH, zI, ↓reduceIte, zA, zB, zC, zD, zE, zF, zG, f0, scells]) (put_ok h2.rep (Fit.next (K := 2) (hf.mono (by omega)) h2) _) ?_
  rintro v μ3 ⟨L3, σ3, h3, _⟩
  simp only [w1, w2, zH, zI, ↓reduceIte, zA, zB, f0, f1, f2, f7, m2, fillc, wr, zJ, zB]
  refine block ⟨14, a, 0, 0, 0⟩ f (fun e => by have := hk0 e; omega) (h2.trans h3) (by first | rfl | simp only [w1, w2, zH, zI, ↓reduceIte, zA, zB, zC, zD, zE, zF, zG, f0, scells]) fun v μ4 L4 σ4 h4 => ?_
  simp only [w1]
  exact hend _ L4 σ4 μ4 h4
 ·simp only [rI, t96]
  simp only [w1, w2, ↓reduceIte, zA, zF, f0, f9]
  refine R_calls (l := [pt (L.id .b) 0]) (by first | rfl | simp only [w1, w2, zH, zI, ↓reduceIte, zA, zB, zC, zD, zE, zF, zG, f0]) (reg_ok h (hf.mono (by omega))) ?_
  rintro v μ2 ⟨y, σ2, rfl, h2, _⟩
  simp only [w1, w2, zH, zI, ↓reduceIte, zA, zB, f1, f2, m2, fillc, wr, zJ, zB]
  refine block ⟨15, y, 0, 0, 0⟩ f (fun e => by have := hk0 e; omega) (h2.mono (by omega)) (by first | rfl | simp only [w1, w2, zH, zI, ↓reduceIte, zA, zB, zC, zD, zE, zF, zG, f0, scells]) fun v μ4 L4 σ4 h4 => ?_
  simp only [w1]
  exact hend _ L4 σ4 μ4 h4

theorem step_body {d : Nat} (hd : d ≤ 100) (hblk : ∀ e, d = e + 1 → StepOk e) (f : Bool) (h : DR lo code bs L σ μ) (hf : Fit σ (G d)) :
  Ret 96 [pt (L.id .b) 0, .c (.int .i64 d), .c (.bool f)] μ fun v μ' => ∃ L' σ', DA (G d) lo code bs L σ μ L' σ' μ' ∧ σ'.left < σ.left := by
 have hG := G_pos d
 have hb := h.bf
 obtain ⟨μ1, e1, h1, hs1⟩ := h.left (σ.left - 1)
 have hfl := hf.2.2
 have a1 : DA 1 lo code bs L σ μ L { σ with left := σ.left - 1 } μ1 := ⟨h1, hs1, ⟨rfl, rfl, rfl, rfl⟩, ⟨rfl, rfl⟩, by simp only; omega, ⟨Nat.le_refl _, by simp only; omega⟩, ⟨by simp only; omega, by simp only; omega⟩⟩
 have hwr : IntKind.i64.wrap (σ.left - 1) = σ.left - 1 := small (by omega)
 refine Ret_of p96 (by simp [r96]) ?_
 simp only [rI, r96, frOf_3]
 simp only [w1, w2, zH, zI, ↓reduceIte, zA, hb, hwr, e1]
 refine R_calls (l := [pt (L.id .b) 0]) (by first | rfl | simp only [w1, w2, zH, zI, ↓reduceIte, zA, zB, zC, zD, zE, zF, zG]) (low_ok h1 (Fit.next (K := 1) (hf.mono (by omega)) a1)) ?_
 rintro v μ2 ⟨a, σ2, rfl, h2, _⟩
 have a2 := a1.trans h2
 simp only [w1, w2, ↓reduceIte, zA]
 refine R_calls (l := [pt (L.id .b) 0]) (by first | rfl | simp only [w1, w2, zH, zI, ↓reduceIte, zA, zB, zC, zD, zE, zF, zG]) (low_ok a2.rep (Fit.next (K := 3) (hf.mono (by omega)) a2)) ?_
 rintro v μ3 ⟨r, σ3, rfl, h3, _⟩
 have a3 := a2.trans h3
 simp only [w1, w2, ↓reduceIte, zA]
 refine R_calls (l := [pt (L.id .cur) 0, .c (.int .i64 24)]) (by first | rfl | simp only [w1, w2, zH, zI, ↓reduceIte, zA, zB, zC, zD, zE, zF, zG]) (dpick_ok a3.rep (Fit.next (K := 5) (hf.mono (by omega)) a3) 24) ?_
 rintro v μ4 ⟨k, σ4, rfl, hk, h4, _⟩
 have a4 := a3.trans h4
 have hk24 := hk.2 (by omega)
 have hl1 : σ4.left < σ.left := by have := h2.left.1; have := h3.left.1; have := h4.left.1; simp only at *; omega
 simp only [w1, w2, ↓reduceIte, zA]
 by_cases hd0 : d = 0
 ·rw [decide_eq_true (show (d : Int) ≤ 0 by omega)]
  simp only [w1, w2, ↓reduceIte, zA]
  by_cases hk15 : k > 15
  ·rw [decide_eq_true hk15]
   simp only [w1, w2, ↓reduceIte, zA]
   refine R_calls (l := [pt (L.id .cur) 0, .c (.int .i64 16)]) (by first | rfl | simp only [w1, w2, zH, zI, ↓reduceIte, zA, zB, zC, zD, zE, zF, zG]) (dpick_ok a4.rep (Fit.next (K := 7) (hf.mono (by omega)) a4) 16) ?_
   rintro v μ5 ⟨k', σ5, rfl, hk', h5, _⟩
   have a5 := a4.trans h5
   simp only [w1, ↓reduceIte]
   refine step_tail (d := d) hd hblk (f := f) (a := a) (r := r) (k := k') a5.rep (Fit.next (K := 9) (hf.mono (by omega)) a5) ⟨hk'.1, by have := hk'.2 (by omega); omega⟩ (fun _ => hk'.2 (by omega)) ?_ ?_ ?_ ?_ ?_ ?_ ?_ ?_
   ·simp only [w1, ↓reduceIte, zA]
   ·simp only [w1, ↓reduceIte, zA]
   ·simp only [w1, ↓reduceIte, zA]
   ·simp only [w1, ↓reduceIte, zA]
   ·simp only [w1, ↓reduceIte, zA]
   ·simp only [w1, ↓reduceIte, zA]
   ·simp only [w1, ↓reduceIte]
   ·intro fr' L' σ' μ' h6
    simp only [w1, aRet, aRes]
    exact ⟨_, rfl, L', σ', (a5.trans h6).mono (by omega), by have := h6.left.1; have := h5.left.1; omega⟩
  ·rw [decide_eq_false hk15]
   simp only [w1]
   refine step_tail (d := d) hd hblk (f := f) (a := a) (r := r) (k := k) a4.rep (Fit.next (K := 7) (hf.mono (by omega)) a4) ⟨hk.1, hk24⟩ (fun _ => by omega) ?_ ?_ ?_ ?_ ?_ ?_ ?_ ?_
   ·simp only [w1, ↓reduceIte, zA]
   ·simp only [w1, ↓reduceIte, zA]
   ·simp only [w1, ↓reduceIte, zA]
   ·simp only [w1, ↓reduceIte, zA]
   ·simp only [w1, ↓reduceIte, zA]
   ·simp only [w1, ↓reduceIte, zA]
   ·simp only [w1, ↓reduceIte, zA]
   ·intro fr' L' σ' μ' h6
    simp only [w1, aRet, aRes]
    exact ⟨_, rfl, L', σ', (a4.trans h6).mono (by omega), by have := h6.left.1; omega⟩
 ·rw [decide_eq_false (show ¬ (d : Int) ≤ 0 by omega)]
  simp only [w1, ↓reduceIte, zA]
  refine step_tail (d := d) hd hblk (f := f) (a := a) (r := r) (k := k) a4.rep (Fit.next (K := 7) (hf.mono (by omega)) a4) ⟨hk.1, hk24⟩ (fun e => absurd e hd0) ?_ ?_ ?_ ?_ ?_ ?_ ?_ ?_
  ·simp only [w1, ↓reduceIte, zA]
  ·simp only [w1, ↓reduceIte, zA]
  ·simp only [w1, ↓reduceIte, zA]
  ·simp only [w1, ↓reduceIte, zA]
  ·simp only [w1, ↓reduceIte, zA]
  ·simp only [w1, ↓reduceIte, zA]
  ·simp only [w1, ↓reduceIte, zA]
  ·intro fr' L' σ' μ' h6
   simp only [w1, aRet, aRes]
   exact ⟨_, rfl, L', σ', (a4.trans h6).mono (by omega), by have := h6.left.1; omega⟩

theorem dstep_ok : ∀ (d : Nat), d ≤ 100 → StepOk d := by
 intro d
 induction d with
 | zero => exact fun hd lo code bs L σ μ f h hf => step_body hd (fun e he => by omega) f h hf
 | succ d ih =>
  intro hd lo code bs L σ μ f h hf
  refine step_body hd (fun e he => ?_) f h hf
  obtain rfl : d = e := by omega
  exact ih (by omega)
end
end Go.Proofs.Ytibmnlijoeppaaa
namespace Go.Proofs.Ytibmnlijoeppaaa
open Nat renaming reduceEqDiff → zA, reduceAdd → zB, reduceLeDiff → zJ, reduceMul → zK
open Int renaming reduceLT → zC, reduceLE → zD, reduceNeg → zE, reduceBEq → zF, reduceBNe → zG
open AV renaming isTup → zH, cells → zI
set_option linter.unusedSimpArgs false
set_option linter.unusedVariables false

/-! 68: spec.l4Cur).plan -/
def b68_0 : RCode := (.seq (.seq (.reg [rI 0 (.mv (.t 7)) 27, rI 1 (.mv (.t 4)) 28, rI 2 (.bin .lss (.t 27) (.t 28)) 29]) (.ite (.t 29) .skip (.exit 2))) (.seq (.blk 3 (.reg [rI 0 (.mv (.t 6)) 32, rI 1 (.mv (.t 0)) 33, rI 3 (.mv (.t 7)) 35, rI 4 (.bin .add (.t 35) (.k (.int .i64 1))) 36, rI 5 (.mv (.t 4)) 37, rI 6 (.bin .rem (.t 36) (.t 37)) 38, rI 2 (.call 94 [.t 33, .k (.int .i64 3)]) 34, rI 7 (.bld [.int .i64 0, .int .i64 0, .int .i64 0, .int .i64 0, .int .i64 0] [(0, 1, .k (.int .i64 4)), (1, 1, .t 34), (2, 1, .t 38)]) 39, rI 8 (.call 95 [.t 32, .t 39]) 40])) (.reg [rI 0 (.mv (.t 7)) 30, rI 1 (.bin .add (.t 30) (.k (.int .i64 1))) 31, rI 2 (.mv (.t 31)) 7])))
def u68 : RCode := (.seq (.reg [rI 0 (.mv (.t 5)) 97, rI 1 (.bin .gtr (.t 97) (.k (.int .i64 0))) 98, rI 2 (.mv (.t 98)) 99, ⟨3, .mv (.t 0), some 100, some (99, true), []⟩, ⟨4, .call 94 [.t 100, .k (.int .i64 3)], some 101, some (99, true), []⟩, ⟨5, .bin .eql (.t 101) (.k (.int .i64 0)), some 102, some (99, true), []⟩, rI 6 (.pick (.t 99) (.t 102) (.k (.bool false))) 103]) (.ite (.t 103) (.seq (.reg [rI 0 (.mv (.t 6)) 104, rI 1 (.mv (.t 0)) 105, rI 2 (.call 94 [.t 105, .k (.int .i64 3)]) 106, rI 3 (.bld [.int .i64 0, .int .i64 0, .int .i64 0, .int .i64 0, .int .i64 0] [(0, 1, .k (.int .i64 6)), (1, 1, .t 106)]) 107, rI 4 (.call 95 [.t 104, .t 107]) 108]) (.reg [rI 0 (.mv (.t 6)) 109, rI 1 (.nc (.t 109)) 110, rI 2 (.fa (.t 110) 3) 111, rI 3 (.ld none (.t 111)) 112, rI 4 (.bin .sub (.t 112) (.k (.int .i64 1))) 113, rI 5 (.nc (.t 109)) 114, rI 6 (.fa (.t 114) 3) 115, ⟨7, .st (.t 115) (.t 113) 1, none, none, []⟩])) (.reg [rI 0 (.mv (.t 6)) 116, rI 1 (.call 96 [.t 116, .k (.int .i64 3), .k (.bool false)]) 117])))
def t68 : RCode := (.reg [rI 0 (.mv (.t 6)) 118, rI 1 (.nc (.t 118)) 119, rI 2 (.fa (.t 119) 2) 120, rI 4 (.mv (.t 8)) 122, rI 5 (.mv (.t 6)) 123, rI 6 (.nc (.t 123)) 124, rI 7 (.fa (.t 124) 2) 125, rI 10 (.mv (.t 8)) 128, rI 3 (.ld none (.t 120)) 121, rI 8 (.ld none (.t 125)) 126, rI 9 (.len (.t 126)) 127, rI 11 (.bin .sub (.t 127) (.t 128)) 129, rI 12 (.bin .sub (.t 129) (.k (.int .i64 1))) 130, rI 13 (.ias (.t 121) (.t 122) 5) 131, rI 14 (.fa (.t 131) 4) 132, ⟨15, .st (.t 132) (.t 130) 1, none, none, []⟩])
def b68_1 : RCode := (.seq (.seq (.reg [rI 0 (.mv (.t 6)) 48, rI 1 (.nc (.t 48)) 49, rI 2 (.fa (.t 49) 3) 50, rI 3 (.ld none (.t 50)) 51, rI 4 (.bin .gtr (.t 51) (.k (.int .i64 0))) 52]) (.ite (.t 52) .skip (.exit 4))) (.blk 5 (.seq (.seq (.reg [rI 0 (.mv (.t 0)) 53, rI 1 (.call 94 [.t 53, .k (.int .i64 4)]) 54, rI 2 (.bin .eql (.t 54) (.k (.int .i64 0))) 55]) (.ite (.t 55) (.seq (.reg [rI 0 (.mv (.t 6)) 56, rI 1 (.call 96 [.t 56, .k (.int .i64 4), .k (.bool false)]) 57]) (.exit 5)) .skip)) (.seq (.reg [rI 0 (.mv (.t 6)) 58, rI 1 (.nc (.t 58)) 59, rI 2 (.fa (.t 59) 2) 60, rI 3 (.ld none (.t 60)) 61, rI 4 (.len (.t 61)) 62, rI 5 (.mv (.t 62)) 8]) (.seq (.reg [rI 0 (.mv (.t 6)) 63, rI 1 (.mv (.t 0)) 64, rI 2 (.call 94 [.t 64, .k (.int .i64 3)]) 65, rI 3 (.bld [.int .i64 0, .int .i64 0, .int .i64 0, .int .i64 0, .int .i64 0] [(0, 1, .k (.int .i64 11)), (1, 1, .t 65)]) 66, rI 4 (.call 95 [.t 63, .t 66]) 67]) (.seq (.seq (.reg [rI 0 (.mv (.t 5)) 68, rI 1 (.bin .eql (.t 68) (.k (.int .i64 0))) 69, rI 2 (.mv (.t 69)) 70, ⟨3, .mv (.t 0), some 71, some (70, true), []⟩, ⟨4, .call 94 [.t 71, .k (.int .i64 2)], some 72, some (70, true), []⟩, ⟨5, .bin .eql (.t 72) (.k (.int .i64 0)), some 73, some (70, true), []⟩, rI 6 (.pick (.t 70) (.t 73) (.k (.bool false))) 74]) (.ite (.t 74) (.seq (.reg [rI 0 (.mv (.t 6)) 75, rI 1 (.mv (.t 0)) 76, rI 2 (.call 94 [.t 76, .k (.int .i64 4)]) 77, rI 3 (.bin .add (.k (.int .i64 1)) (.t 77)) 78, rI 4 (.bld [.int .i64 0, .int .i64 0, .int .i64 0, .int .i64 0, .int .i64 0] [(0, 1, .k (.int .i64 1)), (1, 1, .k (.int .i64 1)), (3, 1, .t 78)]) 79, rI 5 (.call 95 [.t 75, .t 79]) 80]) (.seq (.reg [rI 0 (.bsl [.int .i64 0] 4 [(0, .k (.int .i64 5)), (1, .k (.int .i64 5)), (2, .k (.int .i64 5)), (3, .k (.int .i64 7))]) 81, rI 1 (.mv (.t 81)) 9]) (.seq (.reg [rI 0 (.mv (.t 6)) 82, rI 1 (.mv (.t 9)) 83, rI 2 (.mv (.t 0)) 84, rI 3 (.call 94 [.t 84, .k (.int .i64 4)]) 85, rI 4 (.ias (.t 83) (.t 85) 1) 86, rI 5 (.ld none (.t 86)) 87, rI 6 (.bld [.int .i64 0, .int .i64 0, .int .i64 0, .int .i64 0, .int .i64 0] [(0, 1, .t 87), (1, 1, .k (.int .i64 0)), (2, 1, .k (.int .i64 1))]) 88, rI 7 (.call 95 [.t 82, .t 88]) 89]) (.reg [rI 0 (.mv (.t 6)) 90, rI 1 (.nc (.t 90)) 91, rI 2 (.fa (.t 91) 3) 92, rI 3 (.ld none (.t 92)) 93, rI 4 (.bin .sub (.t 93) (.k (.int .i64 1))) 94, rI 5 (.nc (.t 90)) 95, rI 6 (.fa (.t 95) 3) 96, ⟨7, .st (.t 96) (.t 94) 1, none, none, []⟩])))) u68)) t68))))))
def t680 : RCode := (.reg [rI 0 (.fa (.t 3) 0) 133, rI 2 (.mv (.t 6)) 135, rI 3 (.nc (.t 135)) 136, rI 4 (.fa (.t 136) 2) 137, rI 1 (.ld none (.t 133)) 134, rI 5 (.ld none (.t 137)) 138, rI 6 (.bld [.slc none 0 0] [(0, 1, .t 138)]) 139, rI 7 (.bsl [.slc none 0 0] 1 [(0, .t 139)]) 140, rI 8 (.app 1 24 (.t 134) (.t 140)) 141, rI 9 (.fa (.t 3) 0) 142, ⟨10, .st (.t 142) (.t 141) 1, none, none, []⟩])
def b68_2 : RCode := (.seq (.seq (.reg [rI 0 (.mv (.t 5)) 13, rI 1 (.mv (.t 4)) 14, rI 2 (.bin .lss (.t 13) (.t 14)) 15]) (.ite (.t 15) .skip (.exit 0))) (.seq (.blk 1 (.seq (.reg [rI 0 (.mv (.t 0)) 18, rI 1 (.mv (.t 4)) 19, rI 2 (.mv (.t 0)) 20, rI 3 (.call 94 [.t 20, .k (.int .i64 20)]) 21, rI 4 (.bin .add (.k (.int .i64 3)) (.t 21)) 22, rI 5 (.bld [.ptr none, .int .i64 0, .slc none 0 0, .int .i64 0] [(0, 1, .t 18), (1, 1, .t 19), (3, 1, .t 22)]) 23, rI 6 (.box (.t 23) 4) 24, rI 7 (.mv (.t 24)) 6]) (.seq (.seq (.reg [rI 0 (.mv (.t 5)) 25, rI 1 (.bin .eql (.t 25) (.k (.int .i64 0))) 26]) (.ite (.t 26) (.seq (.seq (.reg [rI 0 (.mv (.k (.int .i64 0))) 7]) (.blk 2 (.loop b68_0))) (.reg [rI 0 (.mv (.t 6)) 41, rI 1 (.nc (.t 41)) 42, rI 2 (.fa (.t 42) 3) 43, rI 3 (.ld none (.t 43)) 44, rI 4 (.bin .add (.t 44) (.k (.int .i64 6))) 45, rI 5 (.nc (.t 41)) 46, rI 6 (.fa (.t 46) 3) 47, ⟨7, .st (.t 47) (.t 45) 1, none, none, []⟩])) .skip)) (.seq (.blk 4 (.loop b68_1)) t680)))) (.reg [rI 0 (.mv (.t 5)) 16, rI 1 (.bin .add (.t 16) (.k (.int .i64 1))) 17, rI 2 (.mv (.t 17)) 5])))
def r68 : RFun := ⟨144, [.cell 2 (some 1)], (.seq (.reg [rI 0 (.alc [.slc none 0 0]) 2]) (.seq (.reg [rI 0 (.alc [.slc none 0 0]) 3]) (.seq (.reg [rI 0 (.mv (.t 0)) 10, rI 1 (.call 94 [.t 10, .k (.int .i64 5)]) 11, rI 2 (.bin .add (.k (.int .i64 1)) (.t 11)) 12, rI 3 (.mv (.t 12)) 4]) (.seq (.seq (.reg [rI 0 (.mv (.k (.int .i64 0))) 5]) (.blk 0 (.loop b68_2))) (.seq (.reg [rI 0 (.ld (some 1) (.t 3)) 143, ⟨1, .st (.t 2) (.t 143) 1, none, none, []⟩]) .ret)))))⟩
theorem p68 : prog 68 = some r68 := by kernel_rfl



section
variable {lo : Nat} {code : Cell} {bs : List Int} {L L' L'' : Lay DRo} {σ σ' σ'' : DS} {μ μ' μ'' : Mem} {K K' : Nat}

/-- What the plan's function keeps in its frame. -/
structure Kp (fr : Fr) (L : Lay DRo) (n i : Int) : Prop where
 f0 : fr 0 = pt (L.id .cur) 0
 f2 : fr 2 = pt (L.id .res) 0
 f3 : fr 3 = pt (L.id .out) 0
 f4 : fr 4 = .c (.int .i64 n)
 f5 : fr 5 = .c (.int .i64 i)
theorem Kp.ids {fr : Fr} {n i : Int} (h : Kp fr L n i) (e : L'.id .cur = L.id .cur ∧ L'.id .out = L.id .out ∧ L'.id .res = L.id .res) : Kp fr L' n i :=
 ⟨by rw [e.1]; exact h.f0, by rw [e.2.2]; exact h.f2, by rw [e.2.1]; exact h.f3, h.f4, h.f5⟩

theorem newLoop {n m0 : Nat} (hn : n ≤ 100) {s : List It} {Q : Fr → Mem → Prop} :
  ∀ (m k : Nat) (fr : Fr) (L : Lay DRo) (σ : DS) (μ : Mem), k + m = n → DR lo code bs L σ μ → Fit σ (m * 3) → 0 < n → Kp fr L n m0 → fr 6 = pt (L.id .b) 0 → fr 7 = .c (.int .i64 k) →
   (∀ fr' L' σ' μ', DA (m * 3) lo code bs L σ μ L' σ' μ' → σ'.left = σ.left → Kp fr' L' n m0 → fr' 6 = pt (L'.id .b) 0 → R s fr' μ' Q) → R (.c (.loop b68_0) :: .blk 2 :: s) fr μ Q := by
 intro m
 induction m with
 | zero =>
  intro k fr L σ μ hk h hf hn0 hp f6 f7 hend
  obtain ⟨f0, f2, f3, f4, f5⟩ := hp
  rw [R_loop]
  simp only [rI, b68_0]
  simp only [w1, w2, ↓reduceIte, zA, f4, f7]
  rw [decide_eq_false (by omega)]
  simp only [w1]
  rw [R_exit rfl]
  exact hend _ L σ μ ((DA.refl h).mono (by omega)) rfl ⟨by simp only [w1, ↓reduceIte, zA, f0], by simp only [w1, ↓reduceIte, zA, f2], by simp only [w1, ↓reduceIte, zA, f3], by simp only [w1, ↓reduceIte, zA, f4], by simp only [w1, ↓reduceIte, zA, f5]⟩ (by simp only [w1, ↓reduceIte, zA, f6])
 | succ m ih =>
  intro k fr L σ μ hk h hf hn0 hp f6 f7 hend
  obtain ⟨f0, f2, f3, f4, f5⟩ := hp
  rw [R_loop]
  simp only [rI, b68_0]
  simp only [w1, w2, ↓reduceIte, zA, f4, f7]
  rw [decide_eq_true (by omega)]
  simp only [w1, w2, ↓reduceIte, zA, f0, f4, f6, f7]
  rw [small (n := (k : Int) + 1) (by omega), vbin_rem (show (n : Int) ≠ 0 by omega)]
  simp only [w2]
  refine R_calls (l := [pt (L.id .cur) 0, .c (.int .i64 3)]) (by first | rfl | simp only [w1, w2, zH, zI, ↓reduceIte, zA, zB, zC, zD, zE, zF, zG, f0]) (dpick_ok h (hf.mono (by omega)) 3) ?_
  rintro v μ1 ⟨x, σ1, rfl, _, h1, hl1⟩
  simp only [w1, w2, zH, zI, ↓reduceIte, zA, zB, m2, fillc, wr, zJ, zB]
  refine R_calls (l := [pt (L.id .b) 0, .agg (scells 0 ⟨4, x, ((k : Int) + 1).tmod n, 0, 0⟩)]) (by first | rfl | simp only [w1, w2, zH, zI, ↓reduceIte, zA, zB, zC, zD, zE, zF, zG, scells]) (put_ok h1.rep (Fit.next (K := 2) (hf.mono (by omega)) h1) _) ?_
  rintro v μ2 ⟨L2, σ2, h2, hl2, _⟩
  have a2 := h1.trans h2
  simp only [w1, w2, ↓reduceIte, zA, f7]
  rw [small (by omega), R_lp]
  refine ih (k + 1) _ L2 σ2 μ2 (by omega) a2.rep (Fit.next (K := 3) (hf.mono (by omega)) a2) hn0 ⟨?_, ?_, ?_, ?_, ?_⟩ ?_ ?_ fun fr' L' σ' μ' h3 hl3 => hend fr' L' σ' μ' ((a2.trans h3).mono (by omega)) (by omega)
  ·simp only [w1, ↓reduceIte, zA, f0, a2.ids.1]
  ·simp only [w1, ↓reduceIte, zA, f2, a2.ids.2.2.2]
  ·simp only [w1, ↓reduceIte, zA, f3, a2.ids.2.2.1]
  ·simp only [w1, ↓reduceIte, zA, f4]
  ·simp only [w1, ↓reduceIte, zA, f5]
  ·simp only [w1, ↓reduceIte, zA, f6, a2.ids.2.1]
  ·simp only [w1, ↓reduceIte]; congr 2

theorem G3 : G 3 = 2560 := rfl
theorem G4 : G 4 = 10240 := rfl

theorem writeLoop {n i : Int} {s : List It} {Q : Fr → Mem → Prop} :
  ∀ (m : Nat) (fr : Fr) (L : Lay DRo) (σ : DS) (μ : Mem), DR lo code bs L σ μ → σ.left ≤ m → Fit σ (m * 10300) → Kp fr L n i → fr 6 = pt (L.id .b) 0 →
   (∀ fr' L' σ' μ', DA (m * 10300) lo code bs L σ μ L' σ' μ' → Kp fr' L' n i → fr' 6 = pt (L'.id .b) 0 → R s fr' μ' Q) → R (.c (.loop b68_1) :: .blk 4 :: s) fr μ Q := by
 intro m
 induction m with
 | zero =>
  intro fr L σ μ h hl hf hp f6 hend
  obtain ⟨f0, f2, f3, f4, f5⟩ := hp
  have hb := h.bf
  rw [R_loop]
  simp only [rI, b68_1]
  simp only [w1, w2, ↓reduceIte, f6, hb]
  rw [decide_eq_false (by omega)]
  simp only [w1]
  rw [R_exit rfl]
  exact hend _ L σ μ ((DA.refl h).mono (by omega)) ⟨by simp only [w1, ↓reduceIte, zA, f0], by simp only [w1, ↓reduceIte, zA, f2], by simp only [w1, ↓reduceIte, zA, f3], by simp only [w1, ↓reduceIte, zA, f4], by simp only [w1, ↓reduceIte, zA, f5]⟩ (by simp only [w1, ↓reduceIte, zA, f6])
 | succ m ih =>
  intro fr L σ μ h hl hf hp f6 hend
  obtain ⟨f0, f2, f3, f4, f5⟩ := hp
  have hb := h.bf
  rw [Nat.add_mul, Nat.one_mul] at hf
  rw [R_loop]
  simp only [rI, b68_1]
  simp only [w1, w2, ↓reduceIte, f6, hb]
  by_cases hl0 : σ.left > 0
  ·rw [decide_eq_true hl0]
   simp only [w1, w2, ↓reduceIte, zA, f0]
   -- how the loop goes on
   have more : ∀ {fr1 : Fr} {L1 : Lay DRo} {σ1 : DS} {μ1 : Mem}, DA 10300 lo code bs L σ μ L1 σ1 μ1 → σ1.left < σ.left → Kp fr1 L1 n i → fr1 6 = pt (L1.id .b) 0 → R (.c (.loop b68_1) :: .blk 4 :: s) fr1 μ1 Q := by
    intro fr1 L1 σ1 μ1 h1 hl1 k1 g6
    refine ih fr1 L1 σ1 μ1 h1.rep (by omega) (Fit.next (K := 10300) (hf.mono (by omega)) h1) k1 g6 fun fr' L' σ' μ' h2 => hend fr' L' σ' μ' ((h1.trans h2).mono (by omega))
   refine R_calls (l := [pt (L.id .cur) 0, .c (.int .i64 4)]) (by first | rfl | simp only [w1, w2, zH, zI, ↓reduceIte, zA, zB, zC, zD, zE, zF, zG, f0]) (dpick_ok h (hf.mono (by omega)) 4) ?_
   rintro v μ1 ⟨x, σ1, rfl, _, h1, hl1⟩
   simp only [w1, w2, ↓reduceIte]
   by_cases hx : x = 0
   ·simp only [w1, w2, ↓reduceIte, zA, beq_tt hx, f6]
    refine R_calls (l := [pt (L.id .b) 0, .c (.int .i64 ((4 : Nat) : Int)), .c (.bool false)]) (by first | rfl | simp only [w1, w2, zH, zI, ↓reduceIte, zA, zB, zC, zD, zE, zF, zG, f6]) (dstep_ok 4 (by omega) false h1.rep (Fit.next (K := 2) (hf.mono (by rw [G4]; omega)) h1)) ?_
    rintro v μ2 ⟨L2, σ2, h2, hl2⟩
    have a2 := h1.trans h2
    simp only [w1]
    rw [R_exit rfl, R_lp]
    refine more (a2.mono (by rw [G4]; omega)) (by omega) ⟨?_, ?_, ?_, ?_, ?_⟩ ?_
    ·simp only [w1, ↓reduceIte, zA, f0, a2.ids.1]
    ·simp only [w1, ↓reduceIte, zA, f2, a2.ids.2.2.2]
    ·simp only [w1, ↓reduceIte, zA, f3, a2.ids.2.2.1]
    ·simp only [w1, ↓reduceIte, zA, f4]
    ·simp only [w1, ↓reduceIte, zA, f5]
    ·simp only [w1, ↓reduceIte, zA, f6, a2.ids.2.1]
   have hb1 := h1.rep.bf
   obtain ⟨q1, q2, hq⟩ := h1.rep.has.scf (r := .steps σ1.done.length) (sz := 5) (n := σ1.steps.length) (cs := cat scells 0 σ1.steps) (by simp only [dcon, if_true]) (by rw [cat_length scells_len]) (by omega)
   rw [hq] at hb1
   simp only [w1, w2, ↓reduceIte, zA, beq_ff hx, f0, f6, hb1]
   refine R_calls (l := [pt (L.id .cur) 0, .c (.int .i64 3)]) (by first | rfl | simp only [w1, w2, zH, zI, ↓reduceIte, zA, zB, zC, zD, zE, zF, zG, f0]) (dpick_ok h1.rep (Fit.next (K := 2) (hf.mono (by omega)) h1) 3) ?_
   rintro v μ2 ⟨y, σ2, rfl, _, h2, hl2⟩
   have a2 := h1.trans h2
   simp only [w1, w2, zH, zI, ↓reduceIte, zB, m2, fillc, wr, zJ, zB]
   refine R_calls (l := [pt (L.id .b) 0, .agg (scells 0 ⟨11, y, 0, 0, 0⟩)]) (by first | rfl | simp only [w1, w2, zH, zI, ↓reduceIte, zA, zB, zC, zD, zE, zF, zG, scells]) (put_ok a2.rep (Fit.next (K := 4) (hf.mono (by omega)) a2) _) ?_
   rintro v μ3 ⟨L3, σ3, h3, hl3, hst3⟩
   have a3 := a2.trans h3
   have hat : σ1.steps.length < σ3.steps.length := by rw [hst3]; have := h2.len.1; simp; omega
   -- the size, and round
   have fin : ∀ {fr4 : Fr} {L4 : Lay DRo} {σ4 : DS} {μ4 : Mem}, DA 10290 lo code bs L σ μ L4 σ4 μ4 → σ4.left < σ.left → σ3.steps.length ≤ σ4.steps.length → Kp fr4 L4 n i → fr4 6 = pt (L4.id .b) 0 → fr4 8 = .c (.int .i64 σ1.steps.length) → R (.c t68 :: .blk 5 :: .lp b68_1 :: .blk 4 :: s) fr4 μ4 Q := by
    intro fr4 L4 σ4 μ4 h4 hl4 hle k4 g6 g8
    obtain ⟨g0, g2, g3, g4, g5⟩ := k4
    have hb4 := h4.rep.bf
    obtain ⟨μ5, σ5, e5, h5, hl5⟩ := h4.rep.size (show σ1.steps.length < σ4.steps.length by omega) (IntKind.i64.wrap (IntKind.i64.wrap ((σ4.steps.length : Int) - σ1.steps.length) - 1))
    have hslot := h4.rep.has.slot (r := .steps σ4.done.length) (sz := 5) (n := σ4.steps.length) (cs := cat scells 0 σ4.steps) (by simp only [dcon, if_true]) (by rw [cat_length scells_len]) (by omega) (show σ1.steps.length < σ4.steps.length by omega)
    obtain ⟨p1, p2, hp4⟩ := h4.rep.has.scf (r := .steps σ4.done.length) (sz := 5) (n := σ4.steps.length) (cs := cat scells 0 σ4.steps) (by simp only [dcon, if_true]) (by rw [cat_length scells_len]) (by omega)
    rw [hp4] at hb4 hslot
    have a5 := h4.trans h5
    simp only [rI, t68]
    simp only [w1, w2, zH, zI, ↓reduceIte, zA, g6, g8, hb4, hslot, e5]
    rw [R_lp]
    refine more (a5.mono (by omega)) (by omega) ⟨?_, ?_, ?_, ?_, ?_⟩ ?_
    ·simp only [w1, ↓reduceIte, zA, g0]
    ·simp only [w1, ↓reduceIte, zA, g2]
    ·simp only [w1, ↓reduceIte, zA, g3]
    ·simp only [w1, ↓reduceIte, zA, g4]
    ·simp only [w1, ↓reduceIte, zA, g5]
    ·simp only [w1, ↓reduceIte, zA, g6]
   -- one less is left
   have dec : ∀ {L4 : Lay DRo} {σ4 : DS} {μ4 : Mem}, DA 60 lo code bs L σ μ L4 σ4 μ4 → ∃ μ5 σ5, μ4.st (L4.id .b) 3 [.int .i64 (σ4.left - 1)] = some μ5 ∧ IntKind.i64.wrap (σ4.left - 1) = σ4.left - 1 ∧ DA 61 lo code bs L σ μ L4 σ5 μ5 ∧ σ5.left < σ.left ∧ σ5.steps = σ4.steps := by
    intro L4 σ4 μ4 h4
    obtain ⟨μ5, e5, h5, hs5⟩ := h4.rep.left (σ4.left - 1)
    have hl4 := h4.left
    have hfl := hf.2.2
    have a5 : DA 1 lo code bs L4 σ4 μ4 L4 { σ4 with left := σ4.left - 1 } μ5 := ⟨h5, hs5, ⟨rfl, rfl, rfl, rfl⟩, ⟨rfl, rfl⟩, by simp only; omega, ⟨Nat.le_refl _, by simp only; omega⟩, ⟨by simp only; omega, by simp only; omega⟩⟩
    exact ⟨μ5, _, e5, small (by omega), h4.trans a5, by simp only; omega, rfl⟩
   have oth : ∀ {fr4 : Fr} {σ4 : DS} {μ4 : Mem}, DA 7 lo code bs L σ μ L3 σ4 μ4 → σ4.steps = σ3.steps → Kp fr4 L3 n i → fr4 6 = pt (L3.id .b) 0 → fr4 8 = .c (.int .i64 σ1.steps.length) → R (.c u68 :: .c t68 :: .blk 5 :: .lp b68_1 :: .blk 4 :: s) fr4 μ4 Q := by
    intro fr4 σ4 μ4 h4 hst4 k4 g6 g8
    obtain ⟨g0, g2, g3, g4, g5⟩ := k4
    -- a step three deep
    have three : ∀ {fr5 : Fr} {σ5 : DS} {μ5 : Mem}, DA 9 lo code bs L σ μ L3 σ5 μ5 → σ5.steps = σ3.steps → Kp fr5 L3 n i → fr5 6 = pt (L3.id .b) 0 → fr5 8 = .c (.int .i64 σ1.steps.length) → fr5 116 = pt (L3.id .b) 0 →
      R (.o ⟨1, .call 96 [.t 116, .k (.int .i64 3), .k (.bool false)], some 117, none, []⟩ :: .c t68 :: .blk 5 :: .lp b68_1 :: .blk 4 :: s) fr5 μ5 Q := by
     intro fr5 σ5 μ5 h5 hst5 k5 g6 g8 g116
     obtain ⟨g0, g2, g3, g4, g5⟩ := k5
     refine R_calls (l := [pt (L3.id .b) 0, .c (.int .i64 ((3 : Nat) : Int)), .c (.bool false)]) (by simp only [List.map_cons, List.map_nil, Opd.ev_t, Opd.ev_k, g116]; rfl) (dstep_ok 3 (by omega) false h5.rep (Fit.next (K := 9) (hf.mono (by rw [G3]; omega)) h5)) ?_
     rintro v μ6 ⟨L6, σ6, h6, hl6⟩
     have a6 := h5.trans h6
     simp only [w1]
     refine fin (a6.mono (by rw [G3]; omega)) (by have := h5.left.1; omega) (by rw [← hst5]; exact h6.len.1) ⟨?_, ?_, ?_, ?_, ?_⟩ ?_ ?_
     ·simp only [w1, ↓reduceIte, zA, g0, h6.ids.1]
     ·simp only [w1, ↓reduceIte, zA, g2, h6.ids.2.2.2]
     ·simp only [w1, ↓reduceIte, zA, g3, h6.ids.2.2.1]
     ·simp only [w1, ↓reduceIte, zA, g4]
     ·simp only [w1, ↓reduceIte, zA, g5]
     ·simp only [w1, ↓reduceIte, zA, g6, h6.ids.2.1]
     ·simp only [w1, ↓reduceIte, zA, g8]
    simp only [rI, u68]
    simp only [w1, w2, ↓reduceIte, g5]
    by_cases hi : i > 0
    ·rw [decide_eq_true hi]
     simp only [w1, ↓reduceIte, zA, g0]
     refine R_calls (l := [pt (L3.id .cur) 0, .c (.int .i64 3)]) (by first | rfl | simp only [w1, w2, zH, zI, ↓reduceIte, zA, zB, zC, zD, zE, zF, zG, g0]) (dpick_ok' h4.rep (Fit.next (K := 7) (hf.mono (by omega)) h4) 3) ?_
     rintro v μ5 ⟨z, σ5, rfl, _, h5, ⟨_, hst5⟩, _⟩
     have a5 := h4.trans h5
     simp only [w1, w2, ↓reduceIte, zA]
     by_cases hz : z = 0
     ·simp only [w1, w2, ↓reduceIte, zA, beq_tt hz, g0, g6]
      refine R_calls (l := [pt (L3.id .cur) 0, .c (.int .i64 3)]) (by first | rfl | simp only [w1, w2, zH, zI, ↓reduceIte, zA, zB, zC, zD, zE, zF, zG, g0]) (dpick_ok' a5.rep (Fit.next (K := 9) (hf.mono (by omega)) a5) 3) ?_
      rintro v μ6 ⟨w, σ6, rfl, _, h6, ⟨_, hst6⟩, _⟩
      have a6 := a5.trans h6
      simp only [w1, w2, zH, zI, ↓reduceIte, zB, m2, fillc, wr, zJ, zB]
      refine R_calls (l := [pt (L3.id .b) 0, .agg (scells 0 ⟨6, w, 0, 0, 0⟩)]) (by first | rfl | simp only [w1, w2, zH, zI, ↓reduceIte, zA, zB, zC, zD, zE, zF, zG, scells]) (put_ok a6.rep (Fit.next (K := 11) (hf.mono (by omega)) a6) _) ?_
      rintro v μ7 ⟨L7, σ7, h7, _, hst7⟩
      have a7 := a6.trans h7
      obtain ⟨μ8, σ8, e8, w8, h8, hl8, hst8⟩ := dec (a7.mono (by omega))
      have hb7 := a7.rep.bf
      rw [h7.ids.2.1] at hb7 e8
      simp only [w1, w2, zH, zI, ↓reduceIte, zA, g6, hb7, w8, e8]
      refine fin (h8.mono (by omega)) hl8 (by rw [hst8, hst7, hst6, hst5, hst4]; simp) ⟨?_, ?_, ?_, ?_, ?_⟩ ?_ ?_
      ·simp only [w1, ↓reduceIte, zA, g0, h7.ids.1]
      ·simp only [w1, ↓reduceIte, zA, g2, h7.ids.2.2.2]
      ·simp only [w1, ↓reduceIte, zA, g3, h7.ids.2.2.1]
      ·simp only [w1, ↓reduceIte, zA, g4]
      ·simp only [w1, ↓reduceIte, zA, g5]
      ·simp only [w1, ↓reduceIte, zA, g6, h7.ids.2.1]
      ·simp only [w1, ↓reduceIte, zA, g8]
     ·simp only [w1, w2, ↓reduceIte, zA, beq_ff hz]
      refine three a5 (hst5.trans hst4) ⟨?_, ?_, ?_, ?_, ?_⟩ ?_ ?_ ?_ <;> simp only [w1, ↓reduceIte, zA, g0, g2, g3, g4, g5, g6, g8]
    ·rw [decide_eq_false hi]
     simp only [w1, w2, ↓reduceIte, zA]
     refine three (h4.mono (by omega)) hst4 ⟨?_, ?_, ?_, ?_, ?_⟩ ?_ ?_ ?_ <;> simp only [w1, ↓reduceIte, zA, g0, g2, g3, g4, g5, g6, g8]
   simp only [w1, w2, ↓reduceIte, zA, f5]
   by_cases hi0 : i = 0
   ·simp only [w1, ↓reduceIte, zA, beq_tt hi0, f0]
    have hp4 := dpick_ok' a3.rep (Fit.next (K := 5) (hf.mono (by omega)) a3) 2
    rw [a3.ids.1] at hp4
    refine R_calls (l := [pt (L.id .cur) 0, .c (.int .i64 2)]) (by first | rfl | simp only [w1, w2, zH, zI, ↓reduceIte, zA, zB, zC, zD, zE, zF, zG, f0]) hp4 ?_
    rintro v μ4 ⟨y2, σ4, rfl, _, h4, ⟨_, hst4⟩, _⟩
    have a4 := a3.trans h4
    simp only [w1, w2, ↓reduceIte, zA]
    by_cases hy : y2 = 0
    ·simp only [w1, w2, ↓reduceIte, zA, beq_tt hy, f0, f6]
     have hp5 := dpick_ok' a4.rep (Fit.next (K := 7) (hf.mono (by omega)) a4) 4
     rw [a3.ids.1] at hp5
     refine R_calls (l := [pt (L.id .cur) 0, .c (.int .i64 4)]) (by first | rfl | simp only [w1, w2, zH, zI, ↓reduceIte, zA, zB, zC, zD, zE, zF, zG, f0]) hp5 ?_
     rintro v μ5 ⟨z, σ5, rfl, _, h5, ⟨_, hst5⟩, _⟩
     have a5 := a4.trans h5
     simp only [w1, w2, zH, zI, ↓reduceIte, zB, m2, fillc, wr, zJ, zB]
     have hp6 := put_ok a5.rep (Fit.next (K := 9) (hf.mono (by omega)) a5) ⟨1, 1, 0, IntKind.i64.wrap (1 + z), 0⟩
     rw [a3.ids.2.1] at hp6
     refine R_calls (l := [pt (L.id .b) 0, .agg (scells 0 ⟨1, 1, 0, IntKind.i64.wrap (1 + z), 0⟩)]) (by first | rfl | simp only [w1, w2, zH, zI, ↓reduceIte, zA, zB, zC, zD, zE, zF, zG, scells]) hp6 ?_
     rintro v μ6 ⟨L6, σ6, h6, _, hst6⟩
     have a6 := a5.trans h6
     simp only [w1, w2, zH, zI, ↓reduceIte, zA, zB, f0, f6, m2, fillc, wr, rep, zJ, zB, zK, List.append_nil]
     have hs7 : Same lo μ6 (μ6.new [.int .i64 5, .int .i64 5, .int .i64 5, .int .i64 7] 1) := Same.tmp a6.rep.low
     have r7 : DR lo code bs L6 σ6 (μ6.new [.int .i64 5, .int .i64 5, .int .i64 5, .int .i64 7] 1) := ⟨a6.rep.has.tmp, Nat.le_trans a6.rep.low hs7.2, a6.rep.code.same hs7 (Nat.le_refl _), a6.rep.bytes, a6.rep.pos, a6.rep.off⟩
     have a7 : DA 10 lo code bs L σ μ L6 σ6 (μ6.new [.int .i64 5, .int .i64 5, .int .i64 5, .int .i64 7] 1) := ⟨r7, a6.same.trans hs7, a6.ids, a6.done, a6.pos, a6.len, a6.left⟩
     have hp8 := dpick_ok' r7 (Fit.next (K := 10) (hf.mono (by omega)) a7) 4
     rw [a6.ids.1] at hp8
     refine R_calls (l := [pt (L.id .cur) 0, .c (.int .i64 4)]) (by first | rfl | simp only [w1, w2, zH, zI, ↓reduceIte, zA, zB, zC, zD, zE, zF, zG, f0]) hp8 ?_
     rintro v μ8 ⟨w, σ8, rfl, hw, h8, ⟨_, hst8⟩, ho8⟩
     have a8 := a7.trans h8
     have hw4 := hw.2 (by omega)
     obtain ⟨j, rfl⟩ : ∃ j : Nat, w = j := ⟨w.toNat, by omega⟩
     have hne : μ6.next ≠ L.id .cur := by
      have := a6.rep.has.lt .cur (a6.rep.has.on (r := .cur) rfl (.inl rfl))
      rw [a6.ids.1] at this; omega
     obtain ⟨op, hop⟩ : ∃ op : Int, μ8.ld none μ6.next (j * 1) = some (.c (.int .i64 op)) := by
      have e : μ8.ld none μ6.next (j * 1) = (μ6.new [.int .i64 5, .int .i64 5, .int .i64 5, .int .i64 7] 1).ld none μ6.next (j * 1) := by simp only [Mem.ld, ho8 _ hne]
      rw [e]
      have : j = 0 ∨ j = 1 ∨ j = 2 ∨ j = 3 := by omega
      rcases this with rfl | rfl | rfl | rfl <;> exact ⟨_, new_ld0 rfl⟩
     have hidx := aidx_in (k := .i64) (b := μ6.next) (o := 0) (len := 4) (cap := 4) (sz := 1) (i := (j : Int)) (by omega)
     rw [Int.toNat_natCast] at hidx
     simp only [w1, w2, zH, zI, ↓reduceIte, zA, zB, hidx, hop, m2, fillc, wr, zJ, zB]
     have hp9 := put_ok a8.rep (Fit.next (K := 12) (hf.mono (by omega)) a8) ⟨op, 0, 1, 0, 0⟩
     rw [a6.ids.2.1] at hp9
     refine R_calls (l := [pt (L.id .b) 0, .agg (scells 0 ⟨op, 0, 1, 0, 0⟩)]) (by first | rfl | simp only [w1, w2, zH, zI, ↓reduceIte, zA, zB, zC, zD, zE, zF, zG, scells]) hp9 ?_
     rintro v μ9 ⟨L9, σ9, h9, _, hst9⟩
     have a9 := a8.trans h9
     obtain ⟨μ10, σ10, e10, w10, h10, hl10, hst10⟩ := dec (a9.mono (by omega))
     have hb9 := a9.rep.bf
     rw [a9.ids.2.1] at hb9 e10
     simp only [w1, w2, zH, zI, ↓reduceIte, zA, f6, hb9, w10, e10]
     refine fin (h10.mono (by omega)) hl10 (by rw [hst10, hst9, hst8, hst6, hst5, hst4]; simp) ⟨?_, ?_, ?_, ?_, ?_⟩ ?_ ?_ <;> simp only [w1, ↓reduceIte, zA, f0, f2, f3, f4, f5, f6, a9.ids]
    ·simp only [w1, beq_ff hy]
     refine oth a4 hst4 ⟨?_, ?_, ?_, ?_, ?_⟩ ?_ ?_ <;> simp only [w1, ↓reduceIte, zA, f0, f2, f3, f4, f5, f6, a3.ids]
   ·simp only [w1, ↓reduceIte, zA, beq_ff hi0]
    refine oth (a3.mono (by omega)) rfl ⟨?_, ?_, ?_, ?_, ?_⟩ ?_ ?_ <;> simp only [w1, ↓reduceIte, zA, f0, f2, f3, f4, f5, f6, a3.ids]
  ·rw [decide_eq_false hl0]
   simp only [w1]
   rw [R_exit rfl]
   exact hend _ L σ μ ((DA.refl h).mono (by omega)) ⟨by simp only [w1, ↓reduceIte, zA, f0], by simp only [w1, ↓reduceIte, zA, f2], by simp only [w1, ↓reduceIte, zA, f3], by simp only [w1, ↓reduceIte, zA, f4], by simp only [w1, ↓reduceIte, zA, f5]⟩ (by simp only [w1, ↓reduceIte, zA, f6])
end
end Go.Proofs.Ytibmnlijoeppaaa
namespace Go.Proofs.Ytibmnlijoeppaaa
open Nat renaming reduceEqDiff → zA, reduceAdd → zB, reduceLeDiff → zJ, reduceMul → zK
open Int renaming reduceLT → zC, reduceLE → zD, reduceNeg → zE, reduceBEq → zF, reduceBNe → zG
open AV renaming isTup → zH, cells → zI
set_option linter.unusedSimpArgs false
set_option linter.unusedVariables false

/-! 33: spec.Drawn -/
def r33 : RFun := ⟨9, [.cell 2 (some 1)], (.seq (.reg [rI 0 (.alc [.slc none 0 0]) 2]) (.seq (.reg [rI 0 (.mv (.t 0)) 4, rI 1 (.bld [.slc none 0 0, .int .i64 0, .int .u64 0] [(0, 1, .t 4)]) 5, rI 2 (.box (.t 5) 3) 6, rI 3 (.mv (.t 6)) 3]) (.seq (.reg [rI 0 (.mv (.t 3)) 7, rI 1 (.call 68 [.t 7]) 8, ⟨2, .st (.t 2) (.t 8) 1, none, none, []⟩]) .ret)))⟩
theorem p33 : prog 33 = some r33 := by kernel_rfl



section
variable {lo : Nat} {code : Cell} {bs : List Int} {L L' L'' : Lay DRo} {σ σ' σ'' : DS} {μ μ' μ'' : Mem} {K K' : Nat}

/-- Between two bodies there is no writer. -/
def pcon0 (code : Cell) (L : Lay DRo) (σ : DS) : Con DRo := fun y => if y = DRo.b then none else dcon code L σ y

structure DP (lo : Nat) (code : Cell) (bs : List Int) (L : Lay DRo) (σ : DS) (μ : Mem) : Prop where
 has : Has L (pcon0 code L σ) lo μ
 low : lo ≤ μ.next
 code : Rd lo μ 1 code bs.length (cat byrow 0 bs)
 bytes : ∀ y ∈ bs, 0 ≤ y ∧ y ≤ 255
 pos : 0 ≤ σ.pos
 off : ∀ i, σ.done.length ≤ i → L.on (.steps i) = false
 empty : σ.steps = []
 lens : ∀ l ∈ σ.done, l.length ≤ 100000000

theorem pcon0_cur {pos seed : Int} : (pcon0 code L σ).upd .cur (curc code pos seed) = pcon0 code L { σ with pos := pos, seed := seed } := by
 funext y
 simp only [Con.upd, pcon0]
 cases y <;> rfl

/-- A body is done. -/
theorem DR.finish (h : DR lo code bs L σ μ) (hk : σ.done.length ≤ 100) (hl : ∀ l ∈ σ.done, l.length ≤ 100000000) (hst : σ.steps.length ≤ 100000000) :
  ∃ L' μ1 μ2, aapp 1 24 (.c (L.sc .bods σ.done.length)) (.c (.slc (some (μ.next, 0)) 1 1)) (μ.new [L.sc (.steps σ.done.length) σ.steps.length] 1) = some (.c (L'.sc .bods (σ.done.length + 1)), μ1) ∧ μ1.st (L.id .out) 0 [L'.sc .bods (σ.done.length + 1)] = some μ2 ∧
   DP lo code bs L' { σ with done := σ.done ++ [σ.steps], steps := [] } μ2 ∧ Same lo μ μ2 ∧ L'.id .cur = L.id .cur ∧ L'.id .out = L.id .out ∧ L'.id .res = L.id .res := by
 obtain ⟨L1, μ1, ea, hL1, hs1, hoth, hob, hon, hc1, hid⟩ := (h.has.tmp (cs := [L.sc (.steps σ.done.length) σ.steps.length]) (sz := 1)).app (Nat.le_succ_of_le h.low) (r := .bods) (bytes := 24) (n := σ.done.length) (k := 1) (c := 1)
  (b := some (μ.next, 0)) (new := [L.sc (.steps σ.done.length) σ.steps.length]) rfl (by omega) (by rw [cat_length (drow_len L)]) (SlcVal.fresh rfl) ⟨by unfold most; omega, by unfold most; omega⟩ (.inl (Nat.le_refl _))
 have hsc : ∀ y, y ≠ DRo.bods → ∀ n, L1.sc y n = L.sc y n := fun y hy n => sc_eq (hoth y hy).1 (hoth y hy).2.1 (hoth y hy).2.2 n
 obtain ⟨μ2, e2, h2, hs2, n2, _⟩ := hL1.st (r := .out) (by simp only [Con.upd]; rw [if_neg (by intro hh; cases hh)]; rfl) (o := 0) (new := [L1.sc .bods (σ.done.length + 1)]) (.inl rfl) (by simp)
 rw [(hoth .out (by simp)).1] at e2
 have hsall : Same lo μ μ2 := (Same.tmp h.low).trans (hs1.trans hs2)
 refine ⟨L1, μ1, μ2, ea, e2, ⟨?_, Nat.le_trans h.low hsall.2, h.code.same hsall (Nat.le_refl _), h.bytes, h.pos, fun i hi => ?_, rfl, fun l hl' => ?_⟩, hsall, (hoth .cur (by simp)).1, (hoth .out (by simp)).1, (hoth .res (by simp)).1⟩
 ·refine h2.weaken' fun y sz cs hy => ?_
  simp only [pcon0] at hy
  split at hy
  ·cases hy
  rename_i hyb
  simp only [Con.upd]
  cases y with
  | b => exact absurd rfl hyb
  | cur => left; rw [if_neg (by intro hh; cases hh), if_neg (by intro hh; cases hh), ← hy]; rfl
  | res => left; rw [if_neg (by intro hh; cases hh), if_neg (by intro hh; cases hh), ← hy]; rfl
  | out =>
   left; rw [if_pos rfl, ← hy]
   simp only [dcon, wr, List.length_append, List.length_cons, List.length_nil]
   rfl
  | bods =>
   left; rw [if_neg (by intro hh; cases hh), if_pos rfl, ← hy]
   simp only [dcon]
   rw [cat_append]
   have e3 : cat (drow L1) 0 σ.done = cat (drow L) 0 σ.done := cat_congr fun j g hj => by simp only [drow, hsc (.steps (0 + j)) (by simp)]
   rw [e3]
   simp only [cat, drow, Nat.zero_add, hsc (.steps σ.done.length) (by simp), List.append_nil]
  | steps i =>
   rw [if_neg (by intro hh; cases hh), if_neg (by intro hh; cases hh)]
   simp only [dcon, List.length_append, List.length_cons, List.length_nil] at hy ⊢
   by_cases hi : i = σ.done.length + 1
   ·rw [if_pos (by omega)] at hy
    simp only [Option.some.injEq, Prod.mk.injEq] at hy
    obtain ⟨rfl, rfl⟩ := hy
    exact .inr ⟨by rw [(hoth (.steps i) (by simp)).2.1]; exact h.off i (by omega), by omega, rfl⟩
   ·rw [if_neg (by omega)] at hy
    left
    by_cases hi2 : i = σ.done.length
    ·subst hi2
     rw [List.getElem?_append_right (Nat.le_refl _), Nat.sub_self] at hy
     rw [if_pos rfl, ← hy]; rfl
    ·rw [if_neg hi2, ← hy]
     by_cases hi3 : i < σ.done.length
     ·rw [List.getElem?_append_left hi3]
     ·have z1 : (σ.done ++ [σ.steps])[i]? = none := List.getElem?_eq_none (by rw [List.length_append]; simp only [List.length_cons, List.length_nil]; omega)
      have z2 : σ.done[i]? = none := List.getElem?_eq_none (by omega)
      rw [z1, z2]
 ·simp only [List.length_append, List.length_cons, List.length_nil] at hi
  rw [(hoth (.steps i) (by simp)).2.1]
  exact h.off i (by omega)
 ·simp only [List.mem_append, List.mem_singleton] at hl'
  rcases hl' with h1 | rfl
  ·exact hl l h1
  ·exact hst

/-- A writer begins. -/
theorem DP.begin (h : DP lo code bs L σ μ) (n left : Int) : DR lo code bs (L.put .b μ.next 0) { σ with bodies := n, left := left } (μ.new [.ptr (some (L.id .cur, 0)), .int .i64 n, .slc none 0 0, .int .i64 left] 0) := by
 have h1 := h.has.new h.low (r := DRo.b) (sz := 0) (cs := [.ptr (some (L.id .cur, 0)), .int .i64 n, .slc none 0 0, .int .i64 left]) (cap := 0) trivial
 have hs : Same lo μ (μ.new [.ptr (some (L.id .cur, 0)), .int .i64 n, .slc none 0 0, .int .i64 left] 0) := Same.tmp h.low
 have hid : ∀ y, y ≠ DRo.b → (L.put .b μ.next 0).id y = L.id y := fun y hy => by simp only [Lay.put, if_neg hy]
 have hon : ∀ y, y ≠ DRo.b → (L.put .b μ.next 0).on y = L.on y := fun y hy => by simp only [Lay.put, if_neg hy]
 have hcp : ∀ y, y ≠ DRo.b → (L.put .b μ.next 0).cap y = L.cap y := fun y hy => by simp only [Lay.put, if_neg hy]
 have hsc : ∀ y, y ≠ DRo.b → ∀ n, (L.put .b μ.next 0).sc y n = L.sc y n := fun y hy n => sc_eq (hid y hy) (hon y hy) (hcp y hy) n
 refine ⟨h1.weaken fun y c hy => ?_, Nat.le_trans h.low hs.2, h.code.same hs (Nat.le_refl _), h.bytes, h.pos, fun i hi => by rw [hon _ (by simp)]; exact h.off i (by simp only at hi; omega)⟩
 simp only [Con.upd, pcon0]
 cases y with
 | b =>
  rw [if_pos rfl, ← hy]
  simp only [dcon, bcells, h.empty, hid .cur (by simp), List.length_nil]
  rw [hsc _ (by simp)]
  unfold Lay.sc
  rw [if_neg (by rw [h.off _ (Nat.le_refl _)]; simp)]
 | cur => rw [if_neg (by intro hh; cases hh), if_neg (by intro hh; cases hh), ← hy]; rfl
 | res => rw [if_neg (by intro hh; cases hh), if_neg (by intro hh; cases hh), ← hy]; rfl
 | out => rw [if_neg (by intro hh; cases hh), if_neg (by intro hh; cases hh), ← hy]; simp only [dcon, hsc .bods (by simp)]
 | bods =>
  rw [if_neg (by intro hh; cases hh), if_neg (by intro hh; cases hh), ← hy]
  simp only [dcon]
  rw [cat_congr (g := drow L) (g' := drow (L.put .b μ.next 0)) fun j g hj => by simp only [drow, hsc (.steps (0 + j)) (by simp)]]
 | steps i => rw [if_neg (by intro hh; cases hh), if_neg (by intro hh; cases hh), ← hy]; rfl

theorem DP.pick (h : DP lo code bs L σ μ) (hp : σ.pos ≤ 50000000) (n : Int) :
  Ret 94 [pt (L.id .cur) 0, .c (.int .i64 n)] μ fun v μ' => ∃ x σ', v = .c (.int .i64 x) ∧ (0 ≤ x ∧ (1 ≤ n → x < n)) ∧ DP lo code bs L σ' μ' ∧ Same lo μ μ' ∧ σ'.done = σ.done ∧ σ'.pos ≤ σ.pos + 2 := by
 have e : pcon0 code L σ .cur = some (curc code σ.pos σ.seed) := rfl
 refine (pick_ok h.has e h.code h.bytes ⟨h.pos, by omega⟩ n).mono ?_
 rintro v μ' ⟨x, pos', seed', rfl, hx, hpp, h1, hs, _⟩
 rw [pcon0_cur] at h1
 exact ⟨x, { σ with pos := pos', seed := seed' }, rfl, hx, ⟨h1, Nat.le_trans h.low hs.2, h.code.same hs (Nat.le_refl _), h.bytes, by have := h.pos; simp only; omega, h.off, h.empty, h.lens⟩, hs, rfl, hpp.2⟩

/-- From a writer at its work to the end of its body. -/
theorem body_end {n i : Int} {fr : Fr} {s : List It} {Q : Fr → Mem → Prop} (h : DR lo code bs L σ μ) (hleft : σ.left ≤ 30) (hf : Fit σ 310000) (hk : σ.done.length ≤ 100) (hl : ∀ l ∈ σ.done, l.length ≤ 100000000) (hp : Kp fr L n i) (f6 : fr 6 = pt (L.id .b) 0)
  (hend : ∀ fr' L' σ' μ', DP lo code bs L' σ' μ' → Same lo μ μ' → σ'.done.length = σ.done.length + 1 → σ'.pos ≤ σ.pos + 309000 → Kp fr' L' n i → R s fr' μ' Q) : R (.c (.loop b68_1) :: .blk 4 :: .c t680 :: s) fr μ Q := by
 refine writeLoop (n := n) (i := i) 30 fr L σ μ h (by omega) (hf.mono (by omega)) hp f6 ?_
 intro fr1 L1 σ1 μ1 h1 k1 g6
 obtain ⟨g0, g2, g3, g4, g5⟩ := k1
 have hb1 := h1.rep.bf
 have lo1 : μ1.ld none (L1.id .out) 0 = some (.c (L1.sc .bods σ1.done.length)) := h1.rep.has.ldc (r := .out) rfl rfl
 have hlen := h1.len.2
 have hfl := hf.2.1
 obtain ⟨L2, μ2, μ3, e2, e3, h3, hs3, i1, i2, i3⟩ := h1.rep.finish (by rw [h1.done.1]; exact hk) (by rw [h1.done.1]; exact hl) (by omega)
 simp only [rI, t680]
 simp only [w1, w2, zH, zI, ↓reduceIte, zA, g3, g6, lo1, hb1, m2, fillc, wr, rep, zJ, zK, List.append_nil, e2, e3]
 refine hend _ L2 _ μ3 h3 (h1.same.trans hs3) (by simp [h1.done.1]) (by have := h1.pos; simp only; omega) ⟨?_, ?_, ?_, ?_, ?_⟩ <;> simp only [w1, ↓reduceIte, zA, g0, g2, g3, g4, g5, i1, i2, i3]

theorem planLoop {n : Nat} (hn : 0 < n ∧ n ≤ 5) {s : List It} {Q : Fr → Mem → Prop} :
  ∀ (m i : Nat) (fr : Fr) (L : Lay DRo) (σ : DS) (μ : Mem), i + m = n → DP lo code bs L σ μ → σ.done.length = i → σ.pos ≤ 10 + i * 310000 → Kp fr L n i →
   (∀ fr' L' σ' μ', DP lo code bs L' σ' μ' → Same lo μ μ' → σ'.done.length = n → Kp fr' L' n n → R s fr' μ' Q) → R (.c (.loop b68_2) :: .blk 0 :: s) fr μ Q := by
 intro m
 induction m with
 | zero =>
  intro i fr L σ μ hi h hd hpos hp hend
  obtain rfl : i = n := by omega
  obtain ⟨f0, f2, f3, f4, f5⟩ := hp
  rw [R_loop]
  simp only [rI, b68_2]
  simp only [w1, w2, ↓reduceIte, zA, f4, f5]
  rw [decide_eq_false (by omega)]
  simp only [w1]
  rw [R_exit rfl]
  refine hend _ L σ μ h Same.refl hd ⟨?_, ?_, ?_, ?_, ?_⟩ <;> simp only [w1, ↓reduceIte, zA, f0, f2, f3, f4, f5]
 | succ m ih =>
  intro i fr L σ μ hi h hd hpos hp hend
  obtain ⟨f0, f2, f3, f4, f5⟩ := hp
  have hi5 : i * 310000 ≤ 4 * 310000 := Nat.mul_le_mul_right _ (by omega)
  rw [R_loop]
  simp only [rI, b68_2]
  simp only [w1, w2, ↓reduceIte, zA, f4, f5]
  rw [decide_eq_true (by omega)]
  simp only [w1, w2, ↓reduceIte, zA, f0, f4]
  refine R_calls (l := [pt (L.id .cur) 0, .c (.int .i64 20)]) (by first | rfl | simp only [w1, w2, zH, zI, ↓reduceIte, zA, zB, zC, zD, zE, zF, zG, f0]) (h.pick (by omega) 20) ?_
  rintro v μ1 ⟨x, σ1, rfl, hx, h1, hs1, hd1, hp1⟩
  have hx20 := hx.2 (by omega)
  have hcp : ∀ y, y ≠ DRo.b → (L.put .b μ1.next 0).id y = L.id y := fun y hy => by simp only [Lay.put, if_neg hy]
  have hidb : (L.put .b μ1.next 0).id .b = μ1.next := by simp only [Lay.put, if_true]
  have hb := h1.begin n (3 + x)
  have hsb : Same lo μ1 (μ1.new [.ptr (some (L.id .cur, 0)), .int .i64 n, .slc none 0 0, .int .i64 (3 + x)] 0) := Same.tmp h1.low
  have e4 : ([.ptr (some (L.id .cur, 0)), .int .i64 n, .slc none 0 0, .int .i64 (3 + x)] : List Cell).length = 4 := rfl
  simp only [w1, w2, zH, zI, ↓reduceIte, zA]
  rw [small (n := 3 + x) (by omega)]
  simp only [w1, w2, zH, zI, ↓reduceIte, zA, zB, m2, fillc, wr, zJ, zB, f5, e4]
  generalize μ1.new [.ptr (some (L.id .cur, 0)), .int .i64 n, .slc none 0 0, .int .i64 (3 + x)] 0 = μ2 at *
  have hst1 := h1.empty
  -- the rest of the body
  have rest : ∀ {fr1 : Fr} {L1 : Lay DRo} {σ2 : DS} {μ3 : Mem}, DR lo code bs L1 σ2 μ3 → Same lo μ2 μ3 → σ2.left ≤ 30 → σ2.done = σ.done → σ2.pos ≤ 500 + i * 310000 → σ2.steps.length ≤ 500 → -500 ≤ σ2.left → Kp fr1 L1 n i → fr1 6 = pt (L1.id .b) 0 →
    R (.c (.loop b68_1) :: .blk 4 :: .c t680 :: .blk 1 :: .c (.reg [rI 0 (.mv (.t 5)) 16, rI 1 (.bin .add (.t 16) (.k (.int .i64 1))) 17, rI 2 (.mv (.t 17)) 5]) :: .lp b68_2 :: .blk 0 :: s) fr1 μ3 Q := by
   intro fr1 L1 σ2 μ3 r1 sm hl2 hd2 hp2 hsl hl3 k1 g6
   refine body_end r1 hl2 (by unfold Fit; omega) (by rw [hd2, hd]; omega) (by rw [hd2, ← hd1]; exact h1.lens) k1 g6 ?_
   intro fr2 L3 σ3 μ4 r3 sm3 hd3 hp3 k3
   obtain ⟨g0, g2, g3, g4, g5⟩ := k3
   simp only [rI]
   simp only [w1, w2, ↓reduceIte, g5]
   rw [small (by omega), R_lp]
   refine ih (i + 1) _ L3 σ3 μ4 (by omega) r3 (by rw [hd3, hd2, hd]) ?_ ⟨?_, ?_, ?_, ?_, ?_⟩ fun fr' L' σ' μ' a b => hend fr' L' σ' μ' a (((hs1.trans hsb).trans sm).trans (sm3.trans b))
   ·have := Nat.add_mul i 1 310000; omega
   ·simp only [w1, ↓reduceIte, zA, g0]
   ·simp only [w1, ↓reduceIte, zA, g2]
   ·simp only [w1, ↓reduceIte, zA, g3]
   ·simp only [w1, ↓reduceIte, zA, g4]
   ·simp only [w1, ↓reduceIte]; congr 2
  by_cases hi0 : i = 0
  ·have hi0' : (i : Int) = 0 := by omega
   simp only [w1, w2, beq_tt hi0']
   refine newLoop (n := n) (m0 := i) (by omega) n 0 _ _ _ μ2 (by omega) hb (by unfold Fit; simp only [hst1, List.length_nil]; omega) hn.1 ⟨?_, ?_, ?_, ?_, ?_⟩ ?_ ?_ ?_
   ·simp only [w1, ↓reduceIte, zA, f0, hcp DRo.cur (by simp)]
   ·simp only [w1, ↓reduceIte, zA, f2, hcp DRo.res (by simp)]
   ·simp only [w1, ↓reduceIte, zA, f3, hcp DRo.out (by simp)]
   ·simp only [w1, ↓reduceIte, zA, f4]
   ·simp only [w1, ↓reduceIte, zA, f5]
   ·simp only [w1, ↓reduceIte, zA, hidb]
   ·simp only [w1, ↓reduceIte]; rfl
   ·intro fr1 L1 σ2 μ3 h3 hl3 k3 g6
    obtain ⟨g0, g2, g3, g4, g5⟩ := k3
    have hb3 := h3.rep.bf
    obtain ⟨μ4, e4', h4, hs4⟩ := h3.rep.left (σ2.left + 6)
    have hl3' : σ2.left = 3 + x := hl3
    have hwr : IntKind.i64.wrap (σ2.left + 6) = σ2.left + 6 := small (by omega)
    simp only [w1, w2, zH, zI, ↓reduceIte, zA, g6, hb3, hwr, e4']
    have h3l := h3.len.2
    have h3p := h3.pos
    simp only [hst1, List.length_nil] at h3l
    simp only at h3p
    refine rest h4 (h3.same.trans hs4) (by simp only; omega) (h3.done.1.trans hd1) (by simp only; omega) (by simp only; omega) (by simp only; omega) ⟨?_, ?_, ?_, ?_, ?_⟩ ?_ <;> simp only [w1, ↓reduceIte, zA, g0, g2, g3, g4, g5, g6]
  ·have hi0' : (i : Int) ≠ 0 := by omega
   simp only [w1, beq_ff hi0']
   refine rest hb Same.refl (by simp only; omega) hd1 (by simp only; omega) (by simp only [hst1, List.length_nil]; omega) (by simp only; omega) ⟨?_, ?_, ?_, ?_, ?_⟩ ?_ <;> simp only [w1, ↓reduceIte, zA, f0, f2, f3, f4, f5, hidb, hcp DRo.cur (by simp), hcp DRo.res (by simp), hcp DRo.out (by simp)]

/-- A drawn plan reads as a plan. -/
theorem drawn_has {C : Con DRo} (h : Has L C lo μ) (h1 : C .bods = some (1, cat (drow L) 0 σ.done)) (h2 : ∀ i (l : List PStep), σ.done[i]? = some l → C (.steps i) = some (5, cat scells 0 l)) : ∃ LP : Lay PR, Has LP (pcon LP σ.done) lo μ ∧ LP.sc .bodies σ.done.length = L.sc .bods σ.done.length := by
 have hf : Has (⟨fun r => match r with | .bodies => L.id .bods | .steps i => L.id (.steps i), fun r => match r with | .bodies => L.on .bods | .steps i => L.on (.steps i), fun r => match r with | .bodies => L.cap .bods | .steps i => L.cap (.steps i)⟩ : Lay PR)
   (pcon ⟨fun r => match r with | .bodies => L.id .bods | .steps i => L.id (.steps i), fun r => match r with | .bodies => L.on .bods | .steps i => L.on (.steps i), fun r => match r with | .bodies => L.cap .bods | .steps i => L.cap (.steps i)⟩ σ.done) lo μ := by
  refine ⟨fun r r' a b e => ?_, fun r hr => ?_, fun r hr => ?_, fun r sz cs e => ?_⟩
  ·cases r <;> cases r'
   ·rfl
   ·have := h.inj _ _ a b e; cases this
   ·have := h.inj _ _ a b e; cases this
   ·have := h.inj _ _ a b e; injection this with this; rw [this]
  ·cases r <;> exact h.lt _ hr
  ·cases r <;> exact h.ge _ hr
  ·cases r with
   | bodies =>
    have := h.obj .bods sz cs (by rw [h1, ← e]; rfl)
    exact this
   | steps i =>
    simp only [pcon] at e
    obtain ⟨l, hl, e2⟩ := Option.map_eq_some_iff.1 e
    have := h.obj (.steps i) sz cs (by rw [h2 i l hl, e2])
    exact this
 exact ⟨_, hf, rfl⟩

theorem plan_ok {b : Nat} (hcur : Has (Lay.put ⟨fun _ => 0, fun _ => false, fun _ => 0⟩ DRo.cur b 0) (Con.upd (fun _ => none) DRo.cur (curc code 0 0)) lo μ) (hlo : lo ≤ μ.next) (hc : Rd lo μ 1 code bs.length (cat byrow 0 bs)) (hb : ∀ y ∈ bs, 0 ≤ y ∧ y ≤ 255) :
  Ret 68 [pt b 0] μ fun v μ' => ∃ (LP : Lay PR) (p : PPlan), v = .agg [LP.sc .bodies p.length] ∧ Has LP (pcon LP p) lo μ' ∧ Lens p ∧ Same lo μ μ' := by
 have g1 := hcur.new hlo (r := DRo.res) (sz := 0) (cs := [.slc none 0 0]) (cap := 0) trivial
 have s1 : Same lo μ (μ.new [.slc none 0 0] 0) := Same.tmp hlo
 have g2 := g1.new (Nat.le_trans hlo s1.2) (r := DRo.out) (sz := 0) (cs := [.slc none 0 0]) (cap := 0) trivial
 have s2 : Same lo μ ((μ.new [.slc none 0 0] 0).new [.slc none 0 0] 0) := s1.trans (Same.tmp (Nat.le_trans hlo s1.2))
 have hdp : DP lo code bs (((Lay.put ⟨fun _ => 0, fun _ => false, fun _ => 0⟩ DRo.cur b 0).put DRo.res μ.next 0).put DRo.out (μ.next + 1) 0) ⟨0, 0, [], 0, [], 0⟩ ((μ.new [.slc none 0 0] 0).new [.slc none 0 0] 0) := by
  refine ⟨g2.weaken' fun y sz cs hy => ?_, Nat.le_trans hlo s2.2, hc.same s2 (Nat.le_refl _), hb, Int.le_refl _, fun i _ => rfl, rfl, fun l hl => by simp at hl⟩
  simp only [pcon0] at hy
  split at hy
  ·cases hy
  rename_i hyb
  cases y with
  | b => exact absurd rfl hyb
  | cur => left; rw [← hy]; rfl
  | res => left; rw [← hy]; rfl
  | out => left; rw [← hy]; rfl
  | bods =>
   simp only [dcon, cat, Option.some.injEq, Prod.mk.injEq] at hy
   obtain ⟨rfl, rfl⟩ := hy
   exact .inr ⟨rfl, by omega, rfl⟩
  | steps i =>
   simp only [dcon, List.length_nil] at hy
   split at hy
   ·simp only [cat, Option.some.injEq, Prod.mk.injEq] at hy
    obtain ⟨rfl, rfl⟩ := hy
    exact .inr ⟨rfl, by omega, rfl⟩
   ·simp at hy
 refine Ret_of p68 (by simp [r68]) ?_
 simp only [rI, r68, frOf_1]
 simp only [w1, w2, ↓reduceIte, zA, Mem.new_next]
 generalize hL0 : ((Lay.put ⟨fun _ => 0, fun _ => false, fun _ => 0⟩ DRo.cur b 0).put DRo.res μ.next 0).put DRo.out (μ.next + 1) 0 = L0 at *
 have i1 : L0.id .cur = b := by rw [← hL0]; rfl
 have i2 : L0.id .res = μ.next := by rw [← hL0]; rfl
 have i3 : L0.id .out = μ.next + 1 := by rw [← hL0]; rfl
 generalize (μ.new [.slc none 0 0] 0).new [.slc none 0 0] 0 = μ2 at *
 have hp := hdp.pick (by simp only; omega) 5
 rw [i1] at hp
 refine R_calls (l := [pt b 0, .c (.int .i64 5)]) (by first | rfl | simp only [w1, w2, zH, zI, ↓reduceIte, zA, zB, zC, zD, zE, zF, zG]) hp ?_
 rintro v μ3 ⟨x, σ3, rfl, hx, h3, hs3, hd3, hp3⟩
 have hx5 := hx.2 (by omega)
 obtain ⟨n, rfl⟩ : ∃ n : Nat, x = n := ⟨x.toNat, by omega⟩
 simp only [w1, w2, ↓reduceIte]
 rw [small (by omega)]
 have en : (1 : Int) + (n : Int) = ((1 + n : Nat) : Int) := by omega
 rw [en]
 refine planLoop (n := 1 + n) (by omega) (1 + n) 0 _ L0 σ3 μ3 (by omega) h3 (by rw [hd3]; rfl) (by simp only at hp3; omega) ⟨?_, ?_, ?_, ?_, ?_⟩ ?_
 ·simp only [w1, ↓reduceIte, zA, i1]
 ·simp only [w1, ↓reduceIte, zA, i2]
 ·simp only [w1, ↓reduceIte, zA, i3]
 ·simp only [w1, ↓reduceIte, zA]
 ·simp only [w1, ↓reduceIte]; rfl
 ·intro fr' L4 σ4 μ4 h4 hs4 hd4 k4
  obtain ⟨g0, g2, g3, g4, g5⟩ := k4
  have lo1 : μ4.ld (some 1) (L4.id .out) 0 = some (.agg [L4.sc .bods σ4.done.length]) := h4.has.ldn (r := .out) rfl rfl (.inl rfl)
  obtain ⟨μ5, e5, h5, hs5, n5, o5⟩ := h4.has.st (r := .res) rfl (o := 0) (new := [L4.sc .bods σ4.done.length]) (.inl rfl) (by simp)
  have l5 : μ5.ld (some 1) (L4.id .res) 0 = some (.agg [L4.sc .bods σ4.done.length]) := h5.ldn (r := .res) (sz := 0) (cs := [L4.sc .bods σ4.done.length]) (by simp only [Con.upd, if_true]; rfl) rfl (.inl rfl)
  simp only [w1, w2, zH, zI, ↓reduceIte, zA, g2, g3, lo1, e5, aRet, aRes, aRes1, l5]
  obtain ⟨LP, hP, eP⟩ := drawn_has h5 (by simp only [Con.upd]; rw [if_neg (by intro hh; cases hh)]; rfl) (fun i l hl => by
   simp only [Con.upd]
   rw [if_neg (by intro hh; cases hh)]
   have hlt := (List.getElem?_eq_some_iff.1 hl).1
   simp only [pcon0, dcon]
   rw [if_neg (by intro hh; cases hh), if_neg (by omega), hl]; rfl)
  exact ⟨_, rfl, LP, σ4.done, by rw [eP], hP, ⟨by rw [hd4]; omega, fun l hl => by have := h4.lens l hl; omega⟩, s2.trans (hs3.trans (hs4.trans hs5))⟩

theorem drawn_ok {hi : Nat} {c : Cell} (hc : Rd hi μ 1 c bs.length (cat byrow 0 bs)) (hh : hi ≤ μ.next) (hb : ∀ y ∈ bs, 0 ≤ y ∧ y ≤ 255) :
  Ret 33 [.c c] μ fun v μ' => ∃ x p, v = .agg [x] ∧ PlanR μ'.next μ' x p ∧ Lens p ∧ Same μ.next μ μ' := by
 have s1 : Same (μ.next + 1) (μ.new [.slc none 0 0] 0) ((μ.new [.slc none 0 0] 0).new [c, .int .i64 0, .int .u64 0] 0) := Same.tmp (by simp only [Mem.new_next]; omega)
 have s0 : Same μ.next μ (μ.new [.slc none 0 0] 0) := Same.tmp (Nat.le_refl _)
 have g1 : Has (Lay.put ⟨fun _ => 0, fun _ => false, fun _ => 0⟩ DRo.cur (μ.next + 1) 0) (Con.upd (fun _ => none) DRo.cur (curc c 0 0)) (μ.next + 1) ((μ.new [.slc none 0 0] 0).new [c, .int .i64 0, .int .u64 0] 0) :=
  (Has.start (lo := μ.next + 1) (μ := μ.new [.slc none 0 0] 0) (fun _ => rfl)).new (by simp only [Mem.new_next]; omega) (r := DRo.cur) (sz := 0) (cs := [c, .int .i64 0, .int .u64 0]) (cap := 0) trivial
 have hp := plan_ok g1 (by simp only [Mem.new_next]; omega) (((hc.same s0 hh).mono (show hi ≤ μ.next + 1 by omega)).same s1 (Nat.le_refl _)) hb
 have e3 : ([c, .int .i64 0, .int .u64 0] : List Cell).length = 3 := rfl
 refine Ret_of p33 (by simp [r33]) ?_
 simp only [rI, r33, frOf_1]
 simp only [w1, w2, zH, zI, ↓reduceIte, zA, zB, m2, fillc, wr, zJ, zB, Mem.new_next, e3]
 refine R_calls (l := [pt (μ.next + 1) 0]) (by first | rfl | simp only [w1, w2, zH, zI, ↓reduceIte, zA, zB, zC, zD, zE, zF, zG]) hp ?_
 rintro v μ3 ⟨LP, p, rfl, hR, hL, hs3⟩
 generalize hxx : LP.sc .bodies p.length = x at *
 have hs03 : Same (μ.next + 1) (μ.new [.slc none 0 0] 0) μ3 := s1.trans hs3
 obtain ⟨μ4, e4, hs4, n4, o4⟩ := hs03.st (i := μ.next) (o := 0) (x := [x]) (μ1 := μ.new [x] 0) (by omega) (new_st0 rfl)
 have l4 : μ4.ld (some 1) μ.next 0 = some (.agg [x]) := by rw [hs4.ld (by omega), Mem.new_ld, if_pos rfl]; rfl
 simp only [w1, w2, zH, zI, ↓reduceIte, zA, e4, aRet, aRes, aRes1, l4]
 refine ⟨_, rfl, x, p, rfl, ?_, hL, (Same.tmp (Nat.le_refl _)).trans (hs4.mono (Nat.le_succ _))⟩
 have h5 : Has LP (pcon LP p) (μ.next + 1) μ4 := hR.frame (by rw [n4]; exact Nat.le_refl _) fun r hr => o4 _ (by have := hR.ge r hr; omega)
 rw [← hxx]
 exact h5.planR
end
end Go.Proofs.Ytibmnlijoeppaaa
