/-
 Drawn plans: the reader of choices, and the writer of a body's steps.
-/
import Derived.Test.YtibmnlijoeppaaaH2
namespace Go.Proofs.Ytibmnlijoeppaaa
open Nat renaming reduceEqDiff → zA, reduceAdd → zB, reduceLeDiff → zJ, reduceMul → zK
open Int renaming reduceLT → zC, reduceLE → zD, reduceNeg → zE, reduceBEq → zF, reduceBNe → zG
open AV renaming isTup → zH, cells → zI
set_option linter.unusedSimpArgs false
set_option linter.unusedVariables false

/-! 94: spec.l4Cur).pick -/
def r94 : RFun := ⟨20, [.tmp 4], (.seq (.reg [rI 0 (.mv (.k (.int .i64 0))) 4]) (.seq (.seq (.reg [rI 0 (.mv (.t 1)) 6, rI 1 (.bin .leq (.t 6) (.k (.int .i64 1))) 7]) (.ite (.t 7) (.seq (.reg [rI 0 (.mv (.k (.int .i64 0))) 4]) .ret) .skip)) (.seq (.reg [rI 0 (.mv (.t 0)) 8, rI 1 (.call 123 [.t 8]) 9, rI 2 (.mv (.t 9)) 5]) (.seq (.seq (.reg [rI 0 (.mv (.t 1)) 10, rI 1 (.bin .gtr (.t 10) (.k (.int .i64 200))) 11]) (.ite (.t 11) (.reg [rI 0 (.mv (.t 5)) 12, rI 1 (.bin .mul (.t 12) (.k (.int .i64 256))) 13, rI 2 (.mv (.t 0)) 14, rI 3 (.call 123 [.t 14]) 15, rI 4 (.bin .add (.t 13) (.t 15)) 16, rI 5 (.mv (.t 16)) 5]) .skip)) (.seq (.reg [rI 0 (.mv (.t 5)) 17, rI 1 (.mv (.t 1)) 18, rI 2 (.bin .rem (.t 17) (.t 18)) 19, rI 3 (.mv (.t 19)) 4]) .ret)))))⟩
theorem p94 : prog 94 = some r94 := by kernel_rfl

/-! 123: spec.l4Cur).next -/
def r123 : RFun := ⟨68, [.tmp 2], (.seq (.reg [rI 0 (.mv (.k (.int .i64 0))) 2]) (.seq (.seq (.reg [rI 0 (.mv (.t 0)) 4, rI 1 (.nc (.t 4)) 5, rI 2 (.fa (.t 5) 1) 6, rI 4 (.mv (.t 0)) 8, rI 5 (.nc (.t 8)) 9, rI 6 (.fa (.t 9) 0) 10, rI 3 (.ld none (.t 6)) 7, rI 7 (.ld none (.t 10)) 11, rI 8 (.len (.t 11)) 12, rI 9 (.bin .lss (.t 7) (.t 12)) 13]) (.ite (.t 13) (.seq (.reg [rI 0 (.mv (.t 0)) 14, rI 1 (.nc (.t 14)) 15, rI 2 (.fa (.t 15) 0) 16, rI 4 (.mv (.t 0)) 18, rI 5 (.nc (.t 18)) 19, rI 6 (.fa (.t 19) 1) 20, rI 3 (.ld none (.t 16)) 17, rI 7 (.ld none (.t 20)) 21, rI 8 (.ias (.t 17) (.t 21) 1) 22, rI 9 (.ld none (.t 22)) 23, rI 10 (.mv (.t 23)) 3]) (.seq (.reg [rI 0 (.mv (.t 0)) 24, rI 1 (.nc (.t 24)) 25, rI 2 (.fa (.t 25) 1) 26, rI 3 (.ld none (.t 26)) 27, rI 4 (.bin .add (.t 27) (.k (.int .i64 1))) 28, rI 5 (.nc (.t 24)) 29, rI 6 (.fa (.t 29) 1) 30, ⟨7, .st (.t 30) (.t 28) 1, none, none, []⟩]) (.seq (.reg [rI 0 (.mv (.t 0)) 31, rI 1 (.mv (.t 0)) 32, rI 2 (.nc (.t 32)) 33, rI 3 (.fa (.t 33) 2) 34, rI 4 (.ld none (.t 34)) 35, rI 5 (.bin .mul (.t 35) (.k (.int .u64 6364136223846793005))) 36, rI 6 (.mv (.t 3)) 37, rI 7 (.cv .u64 (.t 37)) 38, rI 8 (.bin .add (.t 36) (.t 38)) 39, rI 9 (.bin .add (.t 39) (.k (.int .u64 1442695040888963407))) 40, rI 10 (.nc (.t 31)) 41, rI 11 (.fa (.t 41) 2) 42, ⟨12, .st (.t 42) (.t 40) 1, none, none, []⟩]) (.seq (.reg [rI 0 (.mv (.t 3)) 43, rI 1 (.cv .i64 (.t 43)) 44, rI 2 (.mv (.t 44)) 2]) .ret)))) .skip)) (.seq (.reg [rI 0 (.mv (.t 0)) 45, rI 1 (.mv (.t 0)) 46, rI 2 (.nc (.t 46)) 47, rI 3 (.fa (.t 47) 2) 48, rI 4 (.ld none (.t 48)) 49, rI 5 (.bin .mul (.t 49) (.k (.int .u64 6364136223846793005))) 50, rI 6 (.bin .add (.t 50) (.k (.int .u64 1442695040888963407))) 51, rI 7 (.nc (.t 45)) 52, rI 8 (.fa (.t 52) 2) 53, ⟨9, .st (.t 53) (.t 51) 1, none, none, []⟩]) (.seq (.reg [rI 0 (.mv (.t 0)) 54, rI 1 (.nc (.t 54)) 55, rI 2 (.fa (.t 55) 1) 56, rI 3 (.ld none (.t 56)) 57, rI 4 (.bin .add (.t 57) (.k (.int .i64 1))) 58, rI 5 (.nc (.t 54)) 59, rI 6 (.fa (.t 59) 1) 60, ⟨7, .st (.t 60) (.t 58) 1, none, none, []⟩]) (.seq (.reg [rI 0 (.mv (.t 0)) 61, rI 1 (.nc (.t 61)) 62, rI 2 (.fa (.t 62) 2) 63, rI 3 (.ld none (.t 63)) 64, rI 4 (.bin .shr (.t 64) (.k (.int .u64 40))) 65, rI 5 (.bin .and (.t 65) (.k (.int .u64 255))) 66, rI 6 (.cv .i64 (.t 66)) 67, rI 7 (.mv (.t 67)) 2]) .ret)))))⟩
theorem p123 : prog 123 = some r123 := by kernel_rfl



def byrow (_ : Nat) (n : Int) : List Cell := [.int .u8 n]
theorem byrow_len (i : Nat) (n : Int) : (byrow i n).length = 1 := rfl

theorem and255 {a : Int} : ∃ y : Int, vbin .and (.c (.int .u64 a)) (.c (.int .u64 255)) = some (.c (.int .u64 y)) ∧ 0 ≤ y ∧ y ≤ 255 := by
 refine ⟨IntKind.u64.wrap ((BitVec.ofInt 64 a &&& BitVec.ofInt 64 255).toNat), rfl, ?_⟩
 have h : (BitVec.ofInt 64 a &&& BitVec.ofInt 64 255).toNat ≤ 255 := by
  rw [BitVec.toNat_and]
  exact Nat.and_le_right
 have e : IntKind.u64.wrap ((BitVec.ofInt 64 a &&& BitVec.ofInt 64 255).toNat : Int) = ((BitVec.ofInt 64 a &&& BitVec.ofInt 64 255).toNat : Int) := by
  rw [IntKind.wrap_u64]; omega
 rw [e]; omega
theorem shr40 {a : Int} : ∃ y : Int, vbin .shr (.c (.int .u64 a)) (.c (.int .u64 40)) = some (.c (.int .u64 y)) := ⟨_, rfl⟩

section
variable {ι : Type} [DecidableEq ι] {L : Lay ι} {C : Con ι} {lo : Nat} {μ : Mem} {r : ι} {code : Cell} {bs : List Int} {pos seed : Int}

/-- What the reader is: bytes, a place, a number. -/
def curc (code : Cell) (pos seed : Int) : Nat × List Cell := (0, [code, .int .i64 pos, .int .u64 seed])

theorem next_ok (h : Has L C lo μ) (e : C r = some (curc code pos seed)) (hc : Rd lo μ 1 code bs.length (cat byrow 0 bs)) (hb : ∀ y ∈ bs, 0 ≤ y ∧ y ≤ 255) (hp : 0 ≤ pos ∧ pos ≤ 1000000000) :
  Ret 123 [pt (L.id r) 0] μ fun v μ' => ∃ x seed', v = .c (.int .i64 x) ∧ (0 ≤ x ∧ x ≤ 255) ∧ Has L (C.upd r (curc code (pos + 1) seed')) lo μ' ∧ Same lo μ μ' ∧ ∀ b, b ≠ L.id r → μ'.obj b = μ.obj b := by
 have l0 : μ.ld none (L.id r) 0 = some (.c code) := h.ldc (cs := (curc code pos seed).2) (sz := 0) e rfl
 have l1 : μ.ld none (L.id r) 1 = some (.c (.int .i64 pos)) := h.ldc (cs := (curc code pos seed).2) (sz := 0) e rfl
 have l2 : μ.ld none (L.id r) 2 = some (.c (.int .u64 seed)) := h.ldc (cs := (curc code pos seed).2) (sz := 0) e rfl
 obtain ⟨a, cap, hsl⟩ := hc.slc
 have up : ∀ (x y : Nat × List Cell), (C.upd r x).upd r y = C.upd r y := fun _ _ => Con.upd_upd
 have us : ∀ (x : Nat × List Cell), (C.upd r x) r = some x := fun x => by simp only [Con.upd, if_true]
 have wp : IntKind.i64.wrap (pos + 1) = pos + 1 := small (by omega)
 refine Ret_of p123 (by simp [r123]) ?_
 simp only [rI, r123, frOf_1]
 rw [hsl] at l0
 simp only [w1, w2, ↓reduceIte, zA, l0, l1]
 by_cases hlt : pos < bs.length
 ·rw [decide_eq_true hlt]
  obtain ⟨n, rfl⟩ : ∃ n : Nat, pos = n := ⟨pos.toNat, by omega⟩
  have hn : bs[n]? = some bs[n] := List.getElem?_eq_getElem (by omega)
  obtain ⟨bi, bo, q1, q2, _, q4⟩ := hc.row byrow_len (by omega) hn
  have q4 := q4 0 (by omega)
  simp only [byrow, List.getElem?_cons_zero, Option.map_some, Nat.add_zero] at q4
  have hx := hb bs[n] (List.getElem_mem _)
  generalize bs[n] = y at hn q4 hx
  obtain ⟨μ1, s1, h1, hs1, n1, o1⟩ := h.st e (o := 1) (new := [.int .i64 ((n : Int) + 1)]) (.inl rfl) (by simp [])
  have l2' : μ1.ld none (L.id r) 2 = some (.c (.int .u64 seed)) := h1.ldc (us _) rfl
  obtain ⟨μ2, s2, h2, hs2, n2, o2⟩ := h1.st (us _) (o := 2) (new := [.int .u64 (IntKind.u64.wrap (IntKind.u64.wrap (IntKind.u64.wrap (seed * 6364136223846793005) + IntKind.u64.wrap y) + 1442695040888963407))]) (.inl rfl) (by simp [wr])
  rw [up] at h2
  rw [hsl] at q1
  simp only [w1, w2, zH, zI, ↓reduceIte, zA, l0, l1, q1, q4, wp, s1, l2', s2, aRet, aRes, aRes1]
  rw [small (n := y) (by omega)]
  exact ⟨_, rfl, y, _, rfl, hx, h2, hs1.trans hs2, fun b hb => (o2 b hb).trans (o1 b hb)⟩
 ·rw [decide_eq_false hlt]
  obtain ⟨μ1, s1, h1, hs1, n1, o1⟩ := h.st e (o := 2) (new := [.int .u64 (IntKind.u64.wrap (IntKind.u64.wrap (seed * 6364136223846793005) + 1442695040888963407))]) (.inl rfl) (by simp [])
  have l1' : μ1.ld none (L.id r) 1 = some (.c (.int .i64 pos)) := h1.ldc (us _) rfl
  obtain ⟨μ2, s2, h2, hs2, n2, o2⟩ := h1.st (us _) (o := 1) (new := [.int .i64 (pos + 1)]) (.inl rfl) (by simp [wr])
  rw [up] at h2
  have l2' : μ2.ld none (L.id r) 2 = some (.c (.int .u64 (IntKind.u64.wrap (IntKind.u64.wrap (seed * 6364136223846793005) + 1442695040888963407)))) := h2.ldc (us _) rfl
  obtain ⟨y1, e1⟩ := shr40 (a := IntKind.u64.wrap (IntKind.u64.wrap (seed * 6364136223846793005) + 1442695040888963407))
  obtain ⟨y2, e2, hy⟩ := and255 (a := y1)
  simp only [w1, w2, zH, zI, ↓reduceIte, zA, l2, s1, l1', wp, s2, l2', e1, e2, aRet, aRes, aRes1]
  rw [small (n := y2) (by omega)]
  exact ⟨_, rfl, y2, _, rfl, hy, h2, hs1.trans hs2, fun b hb => (o2 b hb).trans (o1 b hb)⟩

theorem pick_ok (h : Has L C lo μ) (e : C r = some (curc code pos seed)) (hc : Rd lo μ 1 code bs.length (cat byrow 0 bs)) (hb : ∀ y ∈ bs, 0 ≤ y ∧ y ≤ 255) (hp : 0 ≤ pos ∧ pos ≤ 900000000) (n : Int) :
  Ret 94 [pt (L.id r) 0, .c (.int .i64 n)] μ fun v μ' => ∃ x pos' seed', v = .c (.int .i64 x) ∧ (0 ≤ x ∧ (1 ≤ n → x < n)) ∧ (pos ≤ pos' ∧ pos' ≤ pos + 2) ∧ Has L (C.upd r (curc code pos' seed')) lo μ' ∧ Same lo μ μ' ∧ ∀ b, b ≠ L.id r → μ'.obj b = μ.obj b := by
 have up : ∀ (x y : Nat × List Cell), (C.upd r x).upd r y = C.upd r y := fun _ _ => Con.upd_upd
 have us : ∀ (x : Nat × List Cell), (C.upd r x) r = some x := fun x => by simp only [Con.upd, if_true]
 refine Ret_of p94 (by simp [r94]) ?_
 simp only [rI, r94, frOf_2]
 simp only [w1, w2, ↓reduceIte, zA]
 by_cases h1 : n ≤ 1
 ·rw [decide_eq_true h1]
  simp only [w1, w2, ↓reduceIte, aRet, aRes, aRes1]
  refine ⟨_, rfl, 0, pos, seed, rfl, ⟨Int.le_refl _, fun _ => by omega⟩, ⟨Int.le_refl _, by omega⟩, ?_, Same.refl, fun _ _ => by first | trivial | rfl⟩
  rw [Con.upd_self e]; exact h
 ·rw [decide_eq_false h1]
  simp only [w1, w2, ↓reduceIte, zA]
  refine R_calls (l := [pt (L.id r) 0]) (by first | rfl | simp only [w1, w2, zH, zI, ↓reduceIte, zA, zB, zC, zD, zE, zF, zG]) (next_ok h e hc hb (by omega)) ?_
  rintro v μ1 ⟨x, seed1, rfl, hx, h1', hs1, o1⟩
  simp only [w1, w2, ↓reduceIte, zA]
  by_cases h2 : n > 200
  ·rw [decide_eq_true h2]
   simp only [w1, w2, ↓reduceIte, zA]
   refine R_calls (l := [pt (L.id r) 0]) (by first | rfl | simp only [w1, w2, zH, zI, ↓reduceIte, zA, zB, zC, zD, zE, zF, zG]) (next_ok h1' (us _) (hc.same hs1 (Nat.le_refl _)) hb (by omega)) ?_
   rintro v μ2 ⟨y, seed2, rfl, hy, h2', hs2, o2⟩
   rw [up] at h2'
   simp only [w1, w2, ↓reduceIte, zA]
   rw [small (n := x * 256) (by omega), small (n := x * 256 + y) (by omega)]
   rw [vbin_rem (show n ≠ 0 by omega)]
   simp only [w1, w2, ↓reduceIte, aRet, aRes, aRes1]
   exact ⟨_, rfl, _, pos + 1 + 1, seed2, rfl, ⟨Int.tmod_nonneg _ (by omega), fun _ => Int.tmod_lt_of_pos _ (by omega)⟩, ⟨by omega, by omega⟩, h2', hs1.trans hs2, fun b hb => (o2 b hb).trans (o1 b hb)⟩
  ·rw [decide_eq_false h2]
   simp only [w1, w2, ↓reduceIte, zA]
   rw [vbin_rem (show n ≠ 0 by omega)]
   simp only [w1, w2, ↓reduceIte, aRet, aRes, aRes1]
   exact ⟨_, rfl, _, pos + 1, seed1, rfl, ⟨Int.tmod_nonneg _ (by omega), fun _ => Int.tmod_lt_of_pos _ (by omega)⟩, ⟨by omega, by omega⟩, h1', hs1, o1⟩
end
end Go.Proofs.Ytibmnlijoeppaaa
