/-
 Drawn plans: a step and a block.
-/
import Derived.Test.YtibmnlijoeppaaaD2
namespace Go.Proofs.Ytibmnlijoeppaaa
open Nat renaming reduceEqDiff → zA, reduceAdd → zB, reduceLeDiff → zJ, reduceMul → zK
open Int renaming reduceLT → zC, reduceLE → zD, reduceNeg → zE, reduceBEq → zF, reduceBNe → zG
open AV renaming isTup → zH, cells → zI
set_option linter.unusedSimpArgs false
set_option linter.unusedVariables false

/-! 129: spec.l4B).block -/
def b129_0 : RCode := (.seq (.seq (.reg [rI 0 (.mv (.t 9)) 23, rI 1 (.bin .gtr (.t 23) (.k (.int .i64 0))) 24, rI 2 (.mv (.t 24)) 25, ⟨3, .mv (.t 0), some 26, some (25, true), []⟩, ⟨4, .nc (.t 26), some 27, some (25, true), []⟩, ⟨5, .fa (.t 27) 3, some 28, some (25, true), []⟩, ⟨6, .ld none (.t 28), some 29, some (25, true), []⟩, ⟨7, .bin .gtr (.t 29) (.k (.int .i64 0)), some 30, some (25, true), []⟩, rI 8 (.pick (.t 25) (.t 30) (.k (.bool false))) 31]) (.ite (.t 31) .skip (.exit 0))) (.seq (.blk 1 (.reg [rI 0 (.mv (.t 0)) 34, rI 1 (.mv (.t 2)) 35, rI 2 (.bin .sub (.t 35) (.k (.int .i64 1))) 36, rI 3 (.mv (.t 3)) 37, rI 4 (.call 96 [.t 34, .t 36, .t 37]) 38])) (.reg [rI 0 (.mv (.t 9)) 32, rI 1 (.bin .sub (.t 32) (.k (.int .i64 1))) 33, rI 2 (.mv (.t 33)) 9])))
def r129 : RFun := ⟨54, [], (.seq (.reg [rI 0 (.box (.t 1) 5) 5]) (.seq (.reg [rI 0 (.mv (.t 0)) 10, rI 1 (.nc (.t 10)) 11, rI 2 (.fa (.t 11) 2) 12, rI 3 (.ld none (.t 12)) 13, rI 4 (.len (.t 13)) 14, rI 5 (.mv (.t 14)) 8]) (.seq (.reg [rI 0 (.mv (.t 0)) 15, rI 1 (.ld (some 5) (.t 5)) 16, rI 2 (.call 95 [.t 15, .t 16]) 17]) (.seq (.seq (.reg [rI 0 (.mv (.t 0)) 18, rI 1 (.nc (.t 18)) 19, rI 2 (.fa (.t 19) 0) 20, rI 3 (.ld none (.t 20)) 21, rI 4 (.call 94 [.t 21, .k (.int .i64 4)]) 22, rI 5 (.mv (.t 22)) 9]) (.blk 0 (.loop b129_0))) (.reg [rI 0 (.mv (.t 0)) 39, rI 1 (.nc (.t 39)) 40, rI 2 (.fa (.t 40) 2) 41, rI 4 (.mv (.t 8)) 43, rI 5 (.mv (.t 0)) 44, rI 6 (.nc (.t 44)) 45, rI 7 (.fa (.t 45) 2) 46, rI 10 (.mv (.t 8)) 49, rI 3 (.ld none (.t 41)) 42, rI 8 (.ld none (.t 46)) 47, rI 9 (.len (.t 47)) 48, rI 11 (.bin .sub (.t 48) (.t 49)) 50, rI 12 (.bin .sub (.t 50) (.k (.int .i64 1))) 51, rI 13 (.ias (.t 42) (.t 43) 5) 52, rI 14 (.fa (.t 52) 4) 53, ⟨15, .st (.t 53) (.t 51) 1, none, none, []⟩])))))⟩
theorem p129 : prog 129 = some r129 := by kernel_rfl


/-! 96: spec.l4B).step -/
def t96 : RCode := (.seq (.reg [rI 0 (.mv (.t 9)) 35]) (.blk 0 (.seq (.reg [rI 0 (.bin .eql (.t 35) (.k (.int .i64 0))) 44, rI 1 (.mv (.t 44)) 43]) (.ite (.t 43) (.reg [rI 0 (.mv (.t 0)) 45, rI 1 (.mv (.t 0)) 46, rI 2 (.call 125 [.t 46]) 47, rI 3 (.mv (.t 0)) 48, rI 4 (.call 126 [.t 48]) 49, rI 5 (.bld [.int .i64 0, .int .i64 0, .int .i64 0, .int .i64 0, .int .i64 0] [(0, 1, .k (.int .i64 1)), (1, 1, .t 47), (3, 1, .t 49)]) 50, rI 6 (.call 95 [.t 45, .t 50]) 51]) (.seq (.reg [rI 0 (.bin .eql (.t 35) (.k (.int .i64 1))) 53, rI 1 (.mv (.t 53)) 52]) (.ite (.t 52) (.reg [rI 0 (.mv (.t 0)) 54, rI 1 (.mv (.t 7)) 55, rI 2 (.mv (.t 0)) 56, rI 3 (.call 125 [.t 56]) 57, rI 4 (.mv (.t 0)) 58, rI 5 (.call 126 [.t 58]) 59, rI 6 (.bin .sub (.t 59) (.k (.int .i64 2))) 60, rI 7 (.bld [.int .i64 0, .int .i64 0, .int .i64 0, .int .i64 0, .int .i64 0] [(0, 1, .k (.int .i64 2)), (1, 1, .t 55), (2, 1, .t 57), (3, 1, .t 60)]) 61, rI 8 (.call 95 [.t 54, .t 61]) 62]) (.seq (.seq (.reg [rI 0 (.bin .eql (.t 35) (.k (.int .i64 2))) 64, rI 1 (.mv (.t 64)) 63]) (.ite (.t 63) .skip (.seq (.reg [rI 0 (.bin .eql (.t 35) (.k (.int .i64 3))) 65, rI 1 (.mv (.t 65)) 63]) (.ite (.t 63) .skip (.reg [rI 0 (.bin .eql (.t 35) (.k (.int .i64 4))) 66, rI 1 (.mv (.t 66)) 63]))))) (.ite (.t 63) (.reg [rI 0 (.mv (.t 0)) 67, rI 1 (.mv (.t 0)) 68, rI 2 (.call 125 [.t 68]) 69, rI 3 (.bld [.int .i64 0, .int .i64 0, .int .i64 0, .int .i64 0, .int .i64 0] [(0, 1, .k (.int .i64 3)), (1, 1, .t 69)]) 70, rI 4 (.call 95 [.t 67, .t 70]) 71]) (.seq (.seq (.reg [rI 0 (.bin .eql (.t 35) (.k (.int .i64 5))) 73, rI 1 (.mv (.t 73)) 72]) (.ite (.t 72) .skip (.reg [rI 0 (.bin .eql (.t 35) (.k (.int .i64 6))) 74, rI 1 (.mv (.t 74)) 72]))) (.ite (.t 72) (.reg [rI 0 (.mv (.t 0)) 75, rI 1 (.mv (.t 7)) 76, rI 2 (.mv (.t 6)) 77, rI 3 (.mv (.t 0)) 78, rI 4 (.nc (.t 78)) 79, rI 5 (.fa (.t 79) 1) 80, rI 6 (.ld none (.t 80)) 81, rI 7 (.call 94 [.t 77, .t 81]) 82, rI 8 (.bld [.int .i64 0, .int .i64 0, .int .i64 0, .int .i64 0, .int .i64 0] [(0, 1, .k (.int .i64 4)), (1, 1, .t 76), (2, 1, .t 82)]) 83, rI 9 (.call 95 [.t 75, .t 83]) 84]) (.seq (.seq (.reg [rI 0 (.bin .eql (.t 35) (.k (.int .i64 7))) 86, rI 1 (.mv (.t 86)) 85]) (.ite (.t 85) .skip (.seq (.reg [rI 0 (.bin .eql (.t 35) (.k (.int .i64 8))) 87, rI 1 (.mv (.t 87)) 85]) (.ite (.t 85) .skip (.reg [rI 0 (.bin .eql (.t 35) (.k (.int .i64 9))) 88, rI 1 (.mv (.t 88)) 85]))))) (.ite (.t 85) (.seq (.reg [rI 0 (.mv (.t 0)) 89, rI 1 (.mv (.t 8)) 90, rI 2 (.call 127 [.t 89, .t 90]) 91]) (.reg [rI 0 (.mv (.t 0)) 92, rI 1 (.mv (.t 0)) 93, rI 2 (.mv (.t 7)) 94, rI 3 (.call 128 [.t 93, .t 94]) 95, rI 4 (.mv (.t 8)) 96, rI 5 (.bld [.int .i64 0, .int .i64 0, .int .i64 0, .int .i64 0, .int .i64 0] [(0, 1, .k (.int .i64 5)), (1, 1, .t 95), (2, 1, .t 96)]) 97, rI 6 (.call 95 [.t 92, .t 97]) 98])) (.seq (.seq (.reg [rI 0 (.bin .eql (.t 35) (.k (.int .i64 10))) 100, rI 1 (.mv (.t 100)) 99]) (.ite (.t 99) .skip (.reg [rI 0 (.bin .eql (.t 35) (.k (.int .i64 11))) 101, rI 1 (.mv (.t 101)) 99]))) (.ite (.t 99) (.reg [rI 0 (.mv (.t 0)) 102, rI 1 (.mv (.t 0)) 103, rI 2 (.mv (.t 7)) 104, rI 3 (.call 128 [.t 103, .t 104]) 105, rI 4 (.bld [.int .i64 0, .int .i64 0, .int .i64 0, .int .i64 0, .int .i64 0] [(0, 1, .k (.int .i64 6)), (1, 1, .t 105)]) 106, rI 5 (.call 95 [.t 102, .t 106]) 107]) (.seq (.reg [rI 0 (.bin .eql (.t 35) (.k (.int .i64 12))) 109, rI 1 (.mv (.t 109)) 108]) (.ite (.t 108) (.seq (.reg [rI 0 (.mv (.t 0)) 110, rI 1 (.mv (.t 8)) 111, rI 2 (.call 127 [.t 110, .t 111]) 112]) (.reg [rI 0 (.mv (.t 0)) 113, rI 1 (.mv (.t 0)) 114, rI 2 (.mv (.t 7)) 115, rI 3 (.call 128 [.t 114, .t 115]) 116, rI 4 (.mv (.t 8)) 117, rI 5 (.bld [.int .i64 0, .int .i64 0, .int .i64 0, .int .i64 0, .int .i64 0] [(0, 1, .k (.int .i64 7)), (1, 1, .t 116), (2, 1, .t 117)]) 118, rI 6 (.call 95 [.t 113, .t 118]) 119])) (.seq (.reg [rI 0 (.bin .eql (.t 35) (.k (.int .i64 13))) 121, rI 1 (.mv (.t 121)) 120]) (.ite (.t 120) (.seq (.reg [rI 0 (.mv (.t 0)) 122, rI 1 (.mv (.t 8)) 123, rI 2 (.call 127 [.t 122, .t 123]) 124]) (.reg [rI 0 (.mv (.t 0)) 125, rI 1 (.mv (.t 7)) 126, rI 2 (.mv (.t 8)) 127, rI 3 (.bld [.int .i64 0, .int .i64 0, .int .i64 0, .int .i64 0, .int .i64 0] [(0, 1, .k (.int .i64 8)), (1, 1, .t 126), (2, 1, .t 127)]) 128, rI 4 (.call 95 [.t 125, .t 128]) 129])) (.seq (.reg [rI 0 (.bin .eql (.t 35) (.k (.int .i64 14))) 131, rI 1 (.mv (.t 131)) 130]) (.ite (.t 130) (.reg [rI 0 (.mv (.t 0)) 132, rI 1 (.mv (.t 7)) 133, rI 2 (.bld [.int .i64 0, .int .i64 0, .int .i64 0, .int .i64 0, .int .i64 0] [(0, 1, .k (.int .i64 9)), (1, 1, .t 133)]) 134, rI 3 (.call 95 [.t 132, .t 134]) 135]) (.seq (.reg [rI 0 (.bin .eql (.t 35) (.k (.int .i64 15))) 137, rI 1 (.mv (.t 137)) 136]) (.ite (.t 136) (.seq (.reg [rI 0 (.mv (.t 2)) 138]) (.ite (.t 138) (.reg [rI 0 (.mv (.t 0)) 139, rI 1 (.mv (.t 7)) 140, rI 2 (.bld [.int .i64 0, .int .i64 0, .int .i64 0, .int .i64 0, .int .i64 0] [(0, 1, .k (.int .i64 3)), (1, 1, .t 140)]) 141, rI 3 (.call 95 [.t 139, .t 141]) 142]) (.reg [rI 0 (.mv (.t 0)) 143, rI 1 (.mv (.t 7)) 144, rI 2 (.bld [.int .i64 0, .int .i64 0, .int .i64 0, .int .i64 0, .int .i64 0] [(0, 1, .k (.int .i64 10)), (1, 1, .t 144)]) 145, rI 3 (.call 95 [.t 143, .t 145]) 146]))) (.seq (.seq (.reg [rI 0 (.bin .eql (.t 35) (.k (.int .i64 16))) 148, rI 1 (.mv (.t 148)) 147]) (.ite (.t 147) .skip (.seq (.reg [rI 0 (.bin .eql (.t 35) (.k (.int .i64 17))) 149, rI 1 (.mv (.t 149)) 147]) (.ite (.t 147) .skip (.reg [rI 0 (.bin .eql (.t 35) (.k (.int .i64 18))) 150, rI 1 (.mv (.t 150)) 147]))))) (.ite (.t 147) (.reg [rI 0 (.mv (.t 0)) 151, rI 1 (.mv (.t 7)) 152, rI 2 (.bld [.int .i64 0, .int .i64 0, .int .i64 0, .int .i64 0, .int .i64 0] [(0, 1, .k (.int .i64 11)), (1, 1, .t 152)]) 153, rI 3 (.mv (.t 1)) 154, rI 4 (.mv (.t 2)) 155, rI 5 (.call 129 [.t 151, .t 153, .t 154, .t 155]) 156]) (.seq (.reg [rI 0 (.bin .eql (.t 35) (.k (.int .i64 19))) 158, rI 1 (.mv (.t 158)) 157]) (.ite (.t 157) (.reg [rI 0 (.mv (.t 0)) 159, rI 1 (.bld [.int .i64 0, .int .i64 0, .int .i64 0, .int .i64 0, .int .i64 0] [(0, 1, .k (.int .i64 12))]) 160, rI 2 (.mv (.t 1)) 161, rI 3 (.mv (.t 2)) 162, rI 4 (.call 129 [.t 159, .t 160, .t 161, .t 162]) 163]) (.seq (.seq (.reg [rI 0 (.bin .eql (.t 35) (.k (.int .i64 20))) 165, rI 1 (.mv (.t 165)) 164]) (.ite (.t 164) .skip (.reg [rI 0 (.bin .eql (.t 35) (.k (.int .i64 21))) 166, rI 1 (.mv (.t 166)) 164]))) (.ite (.t 164) (.reg [rI 0 (.mv (.t 0)) 167, rI 1 (.bld [.int .i64 0, .int .i64 0, .int .i64 0, .int .i64 0, .int .i64 0] [(0, 1, .k (.int .i64 13))]) 168, rI 2 (.mv (.t 1)) 169, rI 3 (.call 129 [.t 167, .t 168, .t 169, .k (.bool true)]) 170]) (.seq (.reg [rI 0 (.bin .eql (.t 35) (.k (.int .i64 22))) 172, rI 1 (.mv (.t 172)) 171]) (.ite (.t 171) (.seq (.reg [rI 0 (.mv (.t 0)) 173, rI 1 (.mv (.t 7)) 174, rI 2 (.mv (.t 6)) 175, rI 3 (.call 94 [.t 175, .k (.int .i64 4)]) 176, rI 4 (.bld [.int .i64 0, .int .i64 0, .int .i64 0, .int .i64 0, .int .i64 0] [(0, 1, .k (.int .i64 1)), (1, 1, .t 174), (3, 1, .t 176)]) 177, rI 5 (.call 95 [.t 173, .t 177]) 178]) (.reg [rI 0 (.mv (.t 0)) 179, rI 1 (.mv (.t 7)) 180, rI 2 (.bld [.int .i64 0, .int .i64 0, .int .i64 0, .int .i64 0, .int .i64 0] [(0, 1, .k (.int .i64 14)), (1, 1, .t 180)]) 181, rI 3 (.mv (.t 1)) 182, rI 4 (.mv (.t 2)) 183, rI 5 (.call 129 [.t 179, .t 181, .t 182, .t 183]) 184])) (.reg [rI 0 (.mv (.t 0)) 36, rI 1 (.mv (.t 0)) 37, rI 2 (.call 125 [.t 37]) 38, rI 3 (.bld [.int .i64 0, .int .i64 0, .int .i64 0, .int .i64 0, .int .i64 0] [(0, 1, .k (.int .i64 15)), (1, 1, .t 38)]) 39, rI 4 (.mv (.t 1)) 40, rI 5 (.mv (.t 2)) 41, rI 6 (.call 129 [.t 36, .t 39, .t 40, .t 41]) 42])))))))))))))))))))))))))))))))
def r96 : RFun := ⟨185, [], (.seq (.reg [rI 0 (.mv (.t 0)) 10, rI 1 (.nc (.t 10)) 11, rI 2 (.fa (.t 11) 0) 12, rI 3 (.ld none (.t 12)) 13, rI 4 (.mv (.t 13)) 6]) (.seq (.reg [rI 0 (.mv (.t 0)) 14, rI 1 (.nc (.t 14)) 15, rI 2 (.fa (.t 15) 3) 16, rI 3 (.ld none (.t 16)) 17, rI 4 (.bin .sub (.t 17) (.k (.int .i64 1))) 18, rI 5 (.nc (.t 14)) 19, rI 6 (.fa (.t 19) 3) 20, ⟨7, .st (.t 20) (.t 18) 1, none, none, []⟩]) (.seq (.reg [rI 0 (.mv (.t 0)) 21, rI 1 (.call 124 [.t 21]) 22, rI 2 (.mv (.t 22)) 7]) (.seq (.reg [rI 0 (.mv (.t 0)) 23, rI 1 (.call 124 [.t 23]) 24, rI 2 (.mv (.t 24)) 8]) (.seq (.reg [rI 0 (.mv (.t 6)) 25, rI 1 (.call 94 [.t 25, .k (.int .i64 24)]) 26, rI 2 (.mv (.t 26)) 9]) (.seq (.seq (.reg [rI 0 (.mv (.t 1)) 27, rI 1 (.bin .leq (.t 27) (.k (.int .i64 0))) 28, rI 2 (.mv (.t 28)) 29, ⟨3, .mv (.t 9), some 30, some (29, true), []⟩, ⟨4, .bin .gtr (.t 30) (.k (.int .i64 15)), some 31, some (29, true), []⟩, rI 5 (.pick (.t 29) (.t 31) (.k (.bool false))) 32]) (.ite (.t 32) (.reg [rI 0 (.mv (.t 6)) 33, rI 1 (.call 94 [.t 33, .k (.int .i64 16)]) 34, rI 2 (.mv (.t 34)) 9]) .skip)) t96))))))⟩
theorem p96 : prog 96 = some r96 := by kernel_rfl



section
variable {lo : Nat} {code : Cell} {bs : List Int} {L L' L'' : Lay DRo} {σ σ' σ'' : DS} {μ μ' μ'' : Mem} {K K' : Nat}

theorem dcon_left {x : Int} : (dcon code L σ).upd .b (0, wr (bcells L σ) 3 [.int .i64 x]) = dcon code L { σ with left := x } := by
 funext y
 simp only [Con.upd]
 split
 ·rename_i e; subst e; rfl
 ·cases y <;> first | rfl | (rename_i h; exact absurd rfl h)

theorem dcon_steps {l : List PStep} (hl : l.length = σ.steps.length) : (dcon code L σ).upd (.steps σ.done.length) (5, cat scells 0 l) = dcon code L { σ with steps := l } := by
 funext y
 simp only [Con.upd]
 split
 ·rename_i e; subst e; simp only [dcon, if_true]
 ·cases y with
  | steps i => rename_i h; simp only [dcon]; rw [if_neg (fun e => h (by rw [e])), if_neg (fun e => h (by rw [e]))]
  | b => simp only [dcon, bcells, hl]
  | _ => rfl

/-- What is left changes. -/
theorem DR.left (h : DR lo code bs L σ μ) (x : Int) : ∃ μ', μ.st (L.id .b) 3 [.int .i64 x] = some μ' ∧ DR lo code bs L { σ with left := x } μ' ∧ Same lo μ μ' := by
 obtain ⟨μ1, e1, h1, hs, _⟩ := h.has.st (r := .b) rfl (o := 3) (new := [.int .i64 x]) (.inl rfl) (by simp [bcells])
 rw [dcon_left] at h1
 exact ⟨μ1, e1, ⟨h1, Nat.le_trans h.low hs.2, h.code.same hs (Nat.le_refl _), h.bytes, h.pos, h.off⟩, hs⟩

/-- The size of a step is set. -/
theorem DR.size (h : DR lo code bs L σ μ) {j : Nat} (hj : j < σ.steps.length) (x : Int) : ∃ μ' σ', μ.st (L.id (.steps σ.done.length)) (j * 5 + 4) [.int .i64 x] = some μ' ∧ DA 0 lo code bs L σ μ L σ' μ' ∧ σ'.left = σ.left := by
 obtain ⟨μ1, e1, h1, o1⟩ := h.has.put1 scells_len (r := .steps σ.done.length) (l := σ.steps) (by simp only [dcon, if_true]) (j := j) (k := 4) (a := σ.steps[j]) (a' := { σ.steps[j] with size := x }) (x := .int .i64 x) (List.getElem?_eq_getElem hj) (by omega) rfl
 rw [dcon_steps (by rw [List.length_set])] at h1
 have hs : Same lo μ μ1 := ⟨fun b hb => o1.2 b fun hr e => by have := h.has.ge _ hr; omega, by rw [o1.1]; exact Nat.le_refl _⟩
 exact ⟨μ1, _, e1, ⟨⟨h1, Nat.le_trans h.low hs.2, h.code.same hs (Nat.le_refl _), h.bytes, h.pos, h.off⟩, hs, ⟨rfl, rfl, rfl, rfl⟩, ⟨rfl, rfl⟩, by simp only; omega, ⟨by simp, by simp⟩, ⟨Int.le_refl _, by simp only; omega⟩⟩, rfl⟩

/-- The bound of a step that is so deep. -/
def G (d : Nat) : Nat := 40 * 4 ^ d
theorem G_pos (d : Nat) : 40 ≤ G d := by unfold G; have : 0 < 4 ^ d := Nat.pow_pos (by omega); omega
theorem G_succ (d : Nat) : G (d + 1) = 4 * G d := by unfold G; rw [Nat.pow_succ]; omega

def StepOk (d : Nat) : Prop := ∀ {lo : Nat} {code : Cell} {bs : List Int} {L : Lay DRo} {σ : DS} {μ : Mem} (f : Bool), DR lo code bs L σ μ → Fit σ (G d) →
 Ret 96 [pt (L.id .b) 0, .c (.int .i64 d), .c (.bool f)] μ fun v μ' => ∃ L' σ', DA (G d) lo code bs L σ μ L' σ' μ' ∧ σ'.left < σ.left

theorem blockLoop {d : Nat} (hd : d ≤ 100) (hstep : StepOk d) {f : Bool} {v8 : AV} {s : List It} {Q : Fr → Mem → Prop} :
  ∀ (n : Nat) (fr : Fr) (L : Lay DRo) (σ : DS) (μ : Mem), DR lo code bs L σ μ → Fit σ (n * G d) → fr 0 = pt (L.id .b) 0 → fr 2 = .c (.int .i64 ((d + 1 : Nat) : Int)) → fr 3 = .c (.bool f) → fr 9 = .c (.int .i64 n) → fr 8 = v8 → n ≤ 100 →
   (∀ fr' L' σ' μ', DA (n * G d) lo code bs L σ μ L' σ' μ' → fr' 0 = pt (L'.id .b) 0 → fr' 8 = v8 → R s fr' μ' Q) → R (.c (.loop b129_0) :: .blk 0 :: s) fr μ Q := by
 intro n
 induction n with
 | zero =>
  intro fr L σ μ h hf f0 f2 f3 f9 f8 hn hend
  rw [R_loop]
  simp only [rI, b129_0]
  simp only [w1, w2, ↓reduceIte, f9]
  rw [decide_eq_false (by omega)]
  simp only [w1, ↓reduceIte, zA]
  rw [R_exit rfl]
  exact hend _ L σ μ ((DA.refl h).mono (by omega)) (by simp only [w1, ↓reduceIte, zA, f0]) (by simp only [w1, ↓reduceIte, zA, f8])
 | succ n ih =>
  intro fr L σ μ h hf f0 f2 f3 f9 f8 hn hend
  have hb := h.bf
  rw [Nat.add_mul, Nat.one_mul] at hf
  rw [R_loop]
  simp only [rI, b129_0]
  simp only [w1, w2, ↓reduceIte, f9]
  rw [decide_eq_true (by omega)]
  simp only [w1, w2, ↓reduceIte, zA, f0, hb]
  by_cases hl : σ.left > 0
  ·rw [decide_eq_true hl]
   simp only [w1, w2, ↓reduceIte, zA, f0, f2, f3]
   rw [small (by omega)]
   have e : ((d + 1 : Nat) : Int) - 1 = (d : Int) := by omega
   rw [e]
   refine R_calls (l := [pt (L.id .b) 0, .c (.int .i64 d), .c (.bool f)]) (by first | rfl | simp only [w1, w2, zH, zI, ↓reduceIte, zA, zB, zC, zD, zE, zF, zG]) (hstep f h (hf.mono (by omega))) ?_
   rintro v μ1 ⟨L1, σ1, h1, hl1⟩
   have hf1 : Fit σ1 (n * G d) := Fit.next (K := G d) (hf.mono (by omega)) h1
   simp only [w1, w2, ↓reduceIte, zA, f9]
   rw [small (by omega), R_lp]
   refine ih _ L1 σ1 μ1 h1.rep hf1 ?_ ?_ ?_ ?_ ?_ (by omega) ?_
   ·simp only [w1, ↓reduceIte, zA, f0, h1.ids.2.1]
   ·simp only [w1, ↓reduceIte, zA, f2]
   ·simp only [w1, ↓reduceIte, zA, f3]
   ·simp only [w1, ↓reduceIte]; congr 2; omega
   ·simp only [w1, ↓reduceIte, zA, f8]
   ·intro fr' L' σ' μ' h2 g0 g8
    refine hend fr' L' σ' μ' ((h1.trans h2).mono ?_) g0 g8
    rw [Nat.add_mul, Nat.one_mul]; omega
  ·rw [decide_eq_false hl]
   simp only [w1]
   rw [R_exit rfl]
   exact hend _ L σ μ ((DA.refl h).mono (by omega)) (by simp only [w1, ↓reduceIte, zA, f0]) (by simp only [w1, ↓reduceIte, zA, f8])

theorem block_ok {d : Nat} (hd : d ≤ 100) (hstep : StepOk d) (h : DR lo code bs L σ μ) (hf : Fit σ (3 + 3 * G d)) (x : PStep) (f : Bool) :
  Ret 129 [pt (L.id .b) 0, .agg (scells 0 x), .c (.int .i64 ((d + 1 : Nat) : Int)), .c (.bool f)] μ fun v μ' => ∃ L' σ', DA (3 + 3 * G d) lo code bs L σ μ L' σ' μ' := by
 have hs0 : Same lo μ (μ.new (scells 0 x) 0) := Same.tmp h.low
 have h0 : DR lo code bs L σ (μ.new (scells 0 x) 0) := ⟨h.has.tmp, Nat.le_trans h.low hs0.2, h.code.same hs0 (Nat.le_refl _), h.bytes, h.pos, h.off⟩
 have hx : (μ.new (scells 0 x) 0).ld (some 5) μ.next 0 = some (.agg (scells 0 x)) := by rw [Mem.new_ld, if_pos rfl]; rfl
 have hb0 := h0.bf
 have hput := put_ok h0 (hf.mono (by omega)) x
 have e5 : (scells 0 x).length = 5 := rfl
 obtain ⟨a0, c0, hsc0⟩ := h0.has.scf (r := .steps σ.done.length) (sz := 5) (n := σ.steps.length) (cs := cat scells 0 σ.steps) (by simp only [dcon, if_true]) (by rw [cat_length scells_len]) (by omega)
 rw [hsc0] at hb0
 refine Ret_of p129 (by simp [r129]) ?_
 simp only [rI, r129, frOf_4]
 simp only [scells] at hx hb0 hput e5 ⊢
 simp only [w1, w2, zH, zI, ↓reduceIte, zA, e5, hb0, hx]
 refine R_calls rfl (by simp only [w1, w2, ↓reduceIte, zA]; exact hput) ?_
 rintro v μ1 ⟨L1, σ1, h1, hl1, hst1⟩
 have hf1 : Fit σ1 (2 + 3 * G d) := Fit.next (K := 1) (hf.mono (by omega)) h1
 have hb1 := h1.rep.bf
 rw [h1.ids.2.1, h1.ids.1] at hb1
 simp only [w1, w2, ↓reduceIte, zA, hb1]
 have hp := dpick_ok h1.rep (hf1.mono (by omega)) 4
 rw [h1.ids.1] at hp
 refine R_calls (l := [pt (L.id .cur) 0, .c (.int .i64 4)]) (by first | rfl | simp only [w1, w2, zH, zI, ↓reduceIte, zA, zB, zC, zD, zE, zF, zG]) hp ?_
 rintro v μ2 ⟨n, σ2, rfl, hn, h2, hl2⟩
 have hf2 : Fit σ2 (3 * G d) := Fit.next (K := 2) hf1 h2
 obtain ⟨n, rfl⟩ : ∃ m : Nat, n = m := ⟨n.toNat, by omega⟩
 have hn4 := hn.2 (by omega)
 simp only [w1, ↓reduceIte]
 refine blockLoop hd hstep n _ L1 σ2 μ2 h2.rep (hf2.mono (Nat.mul_le_mul_right _ (by omega))) (f := f) (v8 := .c (.int .i64 σ.steps.length)) ?_ ?_ ?_ ?_ ?_ (by omega) ?_
 ·simp only [w1, ↓reduceIte, zA, h1.ids.2.1]
 ·simp only [w1, ↓reduceIte, zA]
 ·simp only [w1, ↓reduceIte, zA]
 ·simp only [w1, ↓reduceIte]
 ·simp only [w1, ↓reduceIte, zA]
 ·intro fr' L3 σ3 μ3 h3 g0 g8
  have hb3 := h3.rep.bf
  have hlen1 : σ1.steps.length = σ.steps.length + 1 := by rw [hst1]; simp
  have hj : σ.steps.length < σ3.steps.length := by have := h3.len.1; have := h2.len.1; omega
  obtain ⟨μ4, σ4, e4, h4, hl4⟩ := h3.rep.size hj (IntKind.i64.wrap (IntKind.i64.wrap ((σ3.steps.length : Int) - σ.steps.length) - 1))
  have hslot := h3.rep.has.slot (r := .steps σ3.done.length) (sz := 5) (n := σ3.steps.length) (cs := cat scells 0 σ3.steps) (by simp only [dcon, if_true]) (by rw [cat_length scells_len]) (by omega) hj
  obtain ⟨a3, c3, hsc3⟩ := h3.rep.has.scf (r := .steps σ3.done.length) (sz := 5) (n := σ3.steps.length) (cs := cat scells 0 σ3.steps) (by simp only [dcon, if_true]) (by rw [cat_length scells_len]) (by omega)
  rw [hsc3] at hb3 hslot
  simp only [w1, w2, zH, zI, ↓reduceIte, zA, g0, g8, hb3, hslot, e4, aRet, aRes]
  have h01 : DA 1 lo code bs L σ μ L1 σ1 μ1 := ⟨h1.rep, hs0.trans h1.same, h1.ids, h1.done, h1.pos, h1.len, h1.left⟩
  refine ⟨_, rfl, L3, σ4, (((h01.trans h2).trans h3).trans h4).mono ?_⟩
  have := Nat.mul_le_mul_right (G d) (show n ≤ 3 by omega)
  omega

theorem step_tail {d : Nat} (hd : d ≤ 100) (hblk : ∀ e, d = e + 1 → StepOk e) {f : Bool} {a r k : Int} {fr : Fr} {s : List It} {Q : Fr → Mem → Prop} (h : DR lo code bs L σ μ) (hf : Fit σ (G d - 9)) (hk : 0 ≤ k ∧ k < 24) (hk0 : d = 0 → k < 16)
  (f0 : fr 0 = pt (L.id .b) 0) (f1 : fr 1 = .c (.int .i64 d)) (f2 : fr 2 = .c (.bool f)) (f6 : fr 6 = pt (L.id .cur) 0) (f7 : fr 7 = .c (.int .i64 a)) (f8 : fr 8 = .c (.int .i64 r)) (f9 : fr 9 = .c (.int .i64 k))
  (hend : ∀ fr' L' σ' μ', DA (G d - 9) lo code bs L σ μ L' σ' μ' → R s fr' μ' Q) : R (.c t96 :: s) fr μ Q := by
 have hG := G_pos d
 have blk : ∀ {L1 : Lay DRo} {σ1 : DS} {μ1 : Mem} (x : PStep) (g : Bool), d ≠ 0 → DR lo code bs L1 σ1 μ1 → Fit σ1 (G d - 12) →
   Ret 129 [pt (L1.id .b) 0, .agg (scells 0 x), .c (.int .i64 d), .c (.bool g)] μ1 fun v μ' => ∃ L' σ', DA (G d - 12) lo code bs L1 σ1 μ1 L' σ' μ' := by
  intro L1 σ1 μ1 x g hd0 h1 hf1
  obtain ⟨e, rfl⟩ : ∃ e, d = e + 1 := ⟨d - 1, by omega⟩
  have hG1 := G_pos e
  have hGs := G_succ e
  exact (block_ok (by omega) (hblk e rfl) h1 (hf1.mono (by omega)) x g).mono fun v μ' ⟨L', σ', h2⟩ => ⟨L', σ', h2.mono (by omega)⟩
 have put : ∀ {L1 : Lay DRo} {σ1 : DS} {μ1 : Mem} {fr1 : Fr} {ix : Nat} {dst : Option Nat} {args : List Opd} {s1 : List It} (x : PStep), DA 15 lo code bs L σ μ L1 σ1 μ1 → args.map (Opd.ev fr1) = [pt (L.id .b) 0, .agg (scells 0 x)] →
   (∀ v μ2 L2 σ2, DA 16 lo code bs L σ μ L2 σ2 μ2 → R s1 (fr1.put dst v) μ2 Q) → R (.o ⟨ix, .call 95 args, dst, none, []⟩ :: s1) fr1 μ1 Q := by
  intro L1 σ1 μ1 fr1 ix dst args s1 x h1 ha hq
  have hp := put_ok h1.rep (Fit.next (K := 15) (hf.mono (by omega)) h1) x
  rw [h1.ids.2.1] at hp
  exact R_calls ha hp fun v μ2 ⟨L2, σ2, h2, _⟩ => hq v μ2 L2 σ2 (h1.trans h2)
 have reg : ∀ {σ1 : DS} {μ1 : Mem} {fr1 : Fr} {ix : Nat} {dst : Option Nat} {args : List Opd} {s1 : List It}, DA 2 lo code bs L σ μ L σ1 μ1 → args.map (Opd.ev fr1) = [pt (L.id .b) 0] →
   (∀ x μ2 σ2, DA 4 lo code bs L σ μ L σ2 μ2 → R s1 (fr1.put dst (.c (.int .i64 x))) μ2 Q) → R (.o ⟨ix, .call 125 args, dst, none, []⟩ :: s1) fr1 μ1 Q := by
  intro σ1 μ1 fr1 ix dst args s1 h1 ha hq
  exact R_calls ha (reg_ok h1.rep (Fit.next (K := 2) (hf.mono (by omega)) h1)) fun v μ2 ⟨x, σ2, e, h2, _⟩ => by subst e; exact hq x μ2 σ2 (h1.trans h2)
 have into : ∀ {L1 : Lay DRo} {σ1 : DS} {μ1 : Mem} {fr1 : Fr} {ix : Nat} {dst : Option Nat} {args : List Opd} {s1 : List It}, DA 7 lo code bs L σ μ L1 σ1 μ1 → args.map (Opd.ev fr1) = [pt (L.id .b) 0, .c (.int .i64 a)] →
   (∀ x μ2 σ2, DA 9 lo code bs L σ μ L1 σ2 μ2 → R s1 (fr1.put dst (.c (.int .i64 x))) μ2 Q) → R (.o ⟨ix, .call 128 args, dst, none, []⟩ :: s1) fr1 μ1 Q := by
  intro L1 σ1 μ1 fr1 ix dst args s1 h1 ha hq
  have hp := into_ok h1.rep (Fit.next (K := 7) (hf.mono (by omega)) h1) a
  rw [h1.ids.2.1] at hp
  exact R_calls ha hp fun v μ2 ⟨x, σ2, e, h2, _⟩ => by subst e; exact hq x μ2 σ2 (h1.trans h2)
 have task : ∀ {fr1 : Fr} {ix : Nat} {dst : Option Nat} {args : List Opd} {s1 : List It}, args.map (Opd.ev fr1) = [pt (L.id .b) 0, .c (.int .i64 r)] →
   (∀ v L2 μ2 σ2, DA 7 lo code bs L σ μ L2 σ2 μ2 → R s1 (fr1.put dst v) μ2 Q) → R (.o ⟨ix, .call 127 args, dst, none, []⟩ :: s1) fr1 μ Q := by
  intro fr1 ix dst args s1 ha hq
  exact R_calls ha (dtask_ok h (hf.mono (by omega)) r) fun v μ2 ⟨L2, σ2, h2, _⟩ => hq v L2 μ2 σ2 h2
 have block : ∀ {L1 : Lay DRo} {σ1 : DS} {μ1 : Mem} {fr1 : Fr} {ix : Nat} {dst : Option Nat} {args : List Opd} {s1 : List It} (x : PStep) (g : Bool), d ≠ 0 → DA 3 lo code bs L σ μ L1 σ1 μ1 → args.map (Opd.ev fr1) = [pt (L.id .b) 0, .agg (scells 0 x), .c (.int .i64 d), .c (.bool g)] →
   (∀ v μ2 L2 σ2, DA (G d - 9) lo code bs L σ μ L2 σ2 μ2 → R s1 (fr1.put dst v) μ2 Q) → R (.o ⟨ix, .call 129 args, dst, none, []⟩ :: s1) fr1 μ1 Q := by
  intro L1 σ1 μ1 fr1 ix dst args s1 x g hd0 h1 ha hq
  have hp := blk x g hd0 h1.rep (Fit.next (K := 3) (hf.mono (by omega)) h1)
  rw [h1.ids.2.1] at hp
  exact R_calls ha hp fun v μ2 ⟨L2, σ2, h2⟩ => hq v μ2 L2 σ2 ((h1.trans h2).mono (by omega))
 have h0 := DA.refl h
 have hk' : k = 0 ∨ k = 1 ∨ (k = 2 ∨ k = 3 ∨ k = 4) ∨ (k = 5 ∨ k = 6) ∨ (k = 7 ∨ k = 8 ∨ k = 9) ∨ (k = 10 ∨ k = 11) ∨ k = 12 ∨ k = 13 ∨ k = 14 ∨ k = 15 ∨ (k = 16 ∨ k = 17 ∨ k = 18) ∨ k = 19 ∨ (k = 20 ∨ k = 21) ∨ k = 22 ∨ k = 23 := by omega
 have hb := h.bf
 rcases hk' with rfl | rfl | hk' | hk' | hk' | hk' | rfl | rfl | rfl | rfl | hk' | rfl | hk' | rfl | rfl
 ·simp only [rI, t96]
  simp only [w1, w2, ↓reduceIte, zA, f0, f9]
  refine reg (h0.mono (by omega)) (by first | rfl | simp only [w1, w2, zH, zI, ↓reduceIte, zA, zB, zC, zD, zE, zF, zG, f0]) fun x μ1 σ1 h1 => ?_
  simp only [w1, ↓reduceIte, zA, f0]
  refine R_calls (l := [pt (L.id .b) 0]) (by first | rfl | simp only [w1, w2, zH, zI, ↓reduceIte, zA, zB, zC, zD, zE, zF, zG, f0]) (num_ok h1.rep (Fit.next (K := 4) (hf.mono (by omega)) h1)) ?_
  rintro v μ2 ⟨y, σ2, rfl, h2, _⟩
  simp only [w1, w2, zH, zI, ↓reduceIte, zA, zB, m2, fillc, wr, zJ, zB]
  refine put ⟨1, x, 0, y, 0⟩ ((h1.trans h2).mono (by omega)) (by first | rfl | simp only [w1, w2, zH, zI, ↓reduceIte, zA, zB, zC, zD, zE, zF, zG, f0, scells]) fun v μ3 L3 σ3 h3 => ?_
  simp only [w1]
  exact hend _ L3 σ3 μ3 (h3.mono (by omega))
 ·simp only [rI, t96]
  simp only [w1, w2, ↓reduceIte, zA, zF, f0, f7, f9]
  refine reg (h0.mono (by omega)) (by first | rfl | simp only [w1, w2, zH, zI, ↓reduceIte, zA, zB, zC, zD, zE, zF, zG, f0]) fun x μ1 σ1 h1 => ?_
  simp only [w1, ↓reduceIte, zA, f0]
  refine R_calls (l := [pt (L.id .b) 0]) (by first | rfl | simp only [w1, w2, zH, zI, ↓reduceIte, zA, zB, zC, zD, zE, zF, zG, f0]) (num_ok h1.rep (Fit.next (K := 4) (hf.mono (by omega)) h1)) ?_
  rintro v μ2 ⟨y, σ2, rfl, h2, _⟩
  simp only [w1, w2, zH, zI, ↓reduceIte, zA, zB, m2, fillc, wr, zJ, zB]
  refine put ⟨2, a, x, IntKind.i64.wrap (y - 2), 0⟩ ((h1.trans h2).mono (by omega)) (by first | rfl | simp only [w1, w2, zH, zI, ↓reduceIte, zA, zB, zC, zD, zE, zF, zG, f0, scells]) fun v μ3 L3 σ3 h3 => ?_
  simp only [w1]
  exact hend _ L3 σ3 μ3 (h3.mono (by omega))
 ·rcases hk' with rfl | rfl | rfl <;>
  (simp only [rI, t96]
   simp only [w1, w2, ↓reduceIte, zA, zF, f0, f9]
   refine reg (h0.mono (by omega)) (by first | rfl | simp only [w1, w2, zH, zI, ↓reduceIte, zA, zB, zC, zD, zE, zF, zG, f0]) fun x μ1 σ1 h1 => ?_
   simp only [w1, w2, zH, zI, ↓reduceIte, zB, m2, fillc, wr, zJ, zB]
   refine put ⟨3, x, 0, 0, 0⟩ (h1.mono (by omega)) (by first | rfl | simp only [w1, w2, zH, zI, ↓reduceIte, zA, zB, zC, zD, zE, zF, zG, f0, scells]) fun v μ3 L3 σ3 h3 => ?_
   simp only [w1]
   exact hend _ L3 σ3 μ3 (h3.mono (by omega)))
 ·rcases hk' with rfl | rfl <;>
  (simp only [rI, t96]
   simp only [w1, w2, ↓reduceIte, zA, zF, f0, f6, f7, f9, hb]
   refine R_calls (l := [pt (L.id .cur) 0, .c (.int .i64 σ.bodies)]) (by first | rfl | simp only [w1, w2, zH, zI, ↓reduceIte, zA, zB, zC, zD, zE, zF, zG, f6]) (dpick_ok h (hf.mono (by omega)) _) ?_
   rintro v μ2 ⟨y, σ2, rfl, _, h2, _⟩
   simp only [w1, w2, zH, zI, ↓reduceIte, zA, zB, m2, fillc, wr, zJ, zB]
   refine put ⟨4, a, y, 0, 0⟩ (h2.mono (by omega)) (by first | rfl | simp only [w1, w2, zH, zI, ↓reduceIte, zA, zB, zC, zD, zE, zF, zG, f0, scells]) fun v μ3 L3 σ3 h3 => ?_
   simp only [w1]
   exact hend _ L3 σ3 μ3 (h3.mono (by omega)))
 ·rcases hk' with rfl | rfl | rfl <;>
  (simp only [rI, t96]
   simp only [w1, w2, ↓reduceIte, zA, zF, f0, f8, f9]
   refine task (by first | rfl | simp only [w1, w2, zH, zI, ↓reduceIte, zA, zB, zC, zD, zE, zF, zG, f0, f8]) fun v L1 μ1 σ1 h1 => ?_
   simp only [w1, w2, ↓reduceIte, zA, f0, f7]
   refine into h1 (by first | rfl | simp only [w1, w2, zH, zI, ↓reduceIte, zA, zB, zC, zD, zE, zF, zG, f0, f7]) fun x μ2 σ2 h2 => ?_
   simp only [w1, w2, zH, zI, ↓reduceIte, zA, zB, f8, m2, fillc, wr, zJ, zB]
   refine put ⟨5, x, r, 0, 0⟩ (h2.mono (by omega)) (by first | rfl | simp only [w1, w2, zH, zI, ↓reduceIte, zA, zB, zC, zD, zE, zF, zG, f0, scells]) fun v μ3 L3 σ3 h3 => ?_
   simp only [w1]
   exact hend _ L3 σ3 μ3 (h3.mono (by omega)))
 ·rcases hk' with rfl | rfl <;>
  (simp only [rI, t96]
   simp only [w1, w2, ↓reduceIte, zA, zF, f0, f7, f9]
   refine into (h0.mono (by omega)) (by first | rfl | simp only [w1, w2, zH, zI, ↓reduceIte, zA, zB, zC, zD, zE, zF, zG, f0, f7]) fun x μ2 σ2 h2 => ?_
   simp only [w1, w2, zH, zI, ↓reduceIte, zB, m2, fillc, wr, zJ, zB]
   refine put ⟨6, x, 0, 0, 0⟩ (h2.mono (by omega)) (by first | rfl | simp only [w1, w2, zH, zI, ↓reduceIte, zA, zB, zC, zD, zE, zF, zG, f0, scells]) fun v μ3 L3 σ3 h3 => ?_
   simp only [w1]
   exact hend _ L3 σ3 μ3 (h3.mono (by omega)))
 ·simp only [rI, t96]
  simp only [w1, w2, ↓reduceIte, zA, zF, f0, f8, f9]
  refine task (by first | rfl | simp only [w1, w2, zH, zI, ↓reduceIte, zA, zB, zC, zD, zE, zF, zG, f0, f8]) fun v L1 μ1 σ1 h1 => ?_
  simp only [w1, w2, ↓reduceIte, zA, f0, f7]
  refine into h1 (by first | rfl | simp only [w1, w2, zH, zI, ↓reduceIte, zA, zB, zC, zD, zE, zF, zG, f0, f7]) fun x μ2 σ2 h2 => ?_
  simp only [w1, w2, zH, zI, ↓reduceIte, zA, zB, f8, m2, fillc, wr, zJ, zB]
  refine put ⟨7, x, r, 0, 0⟩ (h2.mono (by omega)) (by first | rfl | simp only [w1, w2, zH, zI, ↓reduceIte, zA, zB, zC, zD, zE, zF, zG, f0, scells]) fun v μ3 L3 σ3 h3 => ?_
  simp only [w1]
  exact hend _ L3 σ3 μ3 (h3.mono (by omega))
 ·simp only [rI, t96]
  simp only [w1, w2, ↓reduceIte, zA, zF, f0, f8, f9]
  refine task (by first | rfl | simp only [w1, w2, zH, zI, ↓reduceIte, zA, zB, zC, zD, zE, zF, zG, f0, f8]) fun v L1 μ1 σ1 h1 => ?_
  simp only [w1, w2, zH, zI, ↓reduceIte, zA, zB, f0, f7, f8, m2, fillc, wr, zJ, zB]
  refine put ⟨8, a, r, 0, 0⟩ (h1.mono (by omega)) (by first | rfl | simp only [w1, w2, zH, zI, ↓reduceIte, zA, zB, zC, zD, zE, zF, zG, f0, scells]) fun v μ3 L3 σ3 h3 => ?_
  simp only [w1]
  exact hend _ L3 σ3 μ3 (h3.mono (by omega))
 ·simp only [rI, t96]
  simp only [w1, w2, zH, zI, ↓reduceIte, zA, zB, zF, f0, f7, f9, m2, fillc, wr, zJ, zB]
  refine put ⟨9, a, 0, 0, 0⟩ (h0.mono (by omega)) (by first | rfl | simp only [w1, w2, zH, zI, ↓reduceIte, zA, zB, zC, zD, zE, zF, zG, f0, scells]) fun v μ3 L3 σ3 h3 => ?_
  simp only [w1]
  exact hend _ L3 σ3 μ3 (h3.mono (by omega))
 ·simp only [rI, t96]
  cases f with
  | true =>
   simp only [w1, w2, zH, zI, ↓reduceIte, zA, zB, zF, f0, f2, f7, f9, m2, fillc, wr, zJ, zB]
   refine put ⟨3, a, 0, 0, 0⟩ (h0.mono (by omega)) (by first | rfl | simp only [w1, w2, zH, zI, ↓reduceIte, zA, zB, zC, zD, zE, zF, zG, f0, scells]) fun v μ3 L3 σ3 h3 => ?_
   simp only [w1]
   exact hend _ L3 σ3 μ3 (h3.mono (by omega))
  | false =>
   simp only [w1, w2, zH, zI, ↓reduceIte, zA, zB, zF, f0, f2, f7, f9, m2, fillc, wr, zJ, zB]
   refine put ⟨10, a, 0, 0, 0⟩ (h0.mono (by omega)) (by first | rfl | simp only [w1, w2, zH, zI, ↓reduceIte, zA, zB, zC, zD, zE, zF, zG, f0, scells]) fun v μ3 L3 σ3 h3 => ?_
   simp only [w1]
   exact hend _ L3 σ3 μ3 (h3.mono (by omega))
 ·rcases hk' with rfl | rfl | rfl <;>
  (simp only [rI, t96]
   simp only [w1, w2, zH, zI, ↓reduceIte, zA, zB, zF, f0, f1, f2, f7, f9, m2, fillc, wr, zJ, zB]
   refine block ⟨11, a, 0, 0, 0⟩ f (fun e => by have := hk0 e; omega) (h0.mono (by omega)) (by first | rfl | simp only [w1, w2, zH, zI, ↓reduceIte, zA, zB, zC, zD, zE, zF, zG, f0, scells]) fun v μ3 L3 σ3 h3 => ?_
   simp only [w1]
   exact hend _ L3 σ3 μ3 h3)
 ·simp only [rI, t96]
  simp only [w1, w2, zH, zI, ↓reduceIte, zA, zB, zF, f0, f1, f2, f9, m2, fillc, wr, zJ, zB]
  refine block ⟨12, 0, 0, 0, 0⟩ f (fun e => by have := hk0 e; omega) (h0.mono (by omega)) (by first | rfl | simp only [w1, w2, zH, zI, ↓reduceIte, zA, zB, zC, zD, zE, zF, zG, f0, scells]) fun v μ3 L3 σ3 h3 => ?_
  simp only [w1]
  exact hend _ L3 σ3 μ3 h3
 ·rcases hk' with rfl | rfl <;>
  (simp only [rI, t96]
   simp only [w1, w2, zH, zI, ↓reduceIte, zA, zB, zF, f0, f1, f9, m2, fillc, wr, zJ, zB]
   refine block ⟨13, 0, 0, 0, 0⟩ true (fun e => by have := hk0 e; omega) (h0.mono (by omega)) (by first | rfl | simp only [w1, w2, zH, zI, ↓reduceIte, zA, zB, zC, zD, zE, zF, zG, f0, scells]) fun v μ3 L3 σ3 h3 => ?_
   simp only [w1]
   exact hend _ L3 σ3 μ3 h3)
 ·simp only [rI, t96]
  simp only [w1, w2, ↓reduceIte, zA, zF, f0, f6, f7, f9]
  refine R_calls (l := [pt (L.id .cur) 0, .c (.int .i64 4)]) (by first | rfl | simp only [w1, w2, zH, zI, ↓reduceIte, zA, zB, zC, zD, zE, zF, zG, f6]) (dpick_ok h (hf.mono (by omega)) 4) ?_
  rintro v μ2 ⟨y, σ2, rfl, _, h2, _⟩
  simp only [w1, w2, zH, zI, ↓reduceIte, zA, zB, m2, fillc, wr, zJ, zB]
  refine R_calls (l := [pt (L.id .b) 0, .agg (scells 0 ⟨1, a, 0, y, 0⟩)]) (by first | rfl | simp only [w1, w2, zH, zI, ↓reduceIte, zA, zB, zC, zD, zE, zF, zG, f0, scells]) (put_ok h2.rep (Fit.next (K := 2) (hf.mono (by omega)) h2) _) ?_
  rintro v μ3 ⟨L3, σ3, h3, _⟩
  simp only [w1, w2, zH, zI, ↓reduceIte, zA, zB, f0, f1, f2, f7, m2, fillc, wr, zJ, zB]
  refine block ⟨14, a, 0, 0, 0⟩ f (fun e => by have := hk0 e; omega) (h2.trans h3) (by first | rfl | simp only [w1, w2, zH, zI, ↓reduceIte, zA, zB, zC, zD, zE, zF, zG, f0, scells]) fun v μ4 L4 σ4 h4 => ?_
  simp only [w1]
  exact hend _ L4 σ4 μ4 h4
 ·simp only [rI, t96]
  simp only [w1, w2, ↓reduceIte, zA, zF, f0, f9]
  refine R_calls (l := [pt (L.id .b) 0]) (by first | rfl | simp only [w1, w2, zH, zI, ↓reduceIte, zA, zB, zC, zD, zE, zF, zG, f0]) (reg_ok h (hf.mono (by omega))) ?_
  rintro v μ2 ⟨y, σ2, rfl, h2, _⟩
  simp only [w1, w2, zH, zI, ↓reduceIte, zA, zB, f1, f2, m2, fillc, wr, zJ, zB]
  refine block ⟨15, y, 0, 0, 0⟩ f (fun e => by have := hk0 e; omega) (h2.mono (by omega)) (by first | rfl | simp only [w1, w2, zH, zI, ↓reduceIte, zA, zB, zC, zD, zE, zF, zG, f0, scells]) fun v μ4 L4 σ4 h4 => ?_
  simp only [w1]
  exact hend _ L4 σ4 μ4 h4

theorem step_body {d : Nat} (hd : d ≤ 100) (hblk : ∀ e, d = e + 1 → StepOk e) (f : Bool) (h : DR lo code bs L σ μ) (hf : Fit σ (G d)) :
  Ret 96 [pt (L.id .b) 0, .c (.int .i64 d), .c (.bool f)] μ fun v μ' => ∃ L' σ', DA (G d) lo code bs L σ μ L' σ' μ' ∧ σ'.left < σ.left := by
 have hG := G_pos d
 have hb := h.bf
 obtain ⟨μ1, e1, h1, hs1⟩ := h.left (σ.left - 1)
 have hfl := hf.2.2
 have a1 : DA 1 lo code bs L σ μ L { σ with left := σ.left - 1 } μ1 := ⟨h1, hs1, ⟨rfl, rfl, rfl, rfl⟩, ⟨rfl, rfl⟩, by simp only; omega, ⟨Nat.le_refl _, by simp only; omega⟩, ⟨by simp only; omega, by simp only; omega⟩⟩
 have hwr : IntKind.i64.wrap (σ.left - 1) = σ.left - 1 := small (by omega)
 refine Ret_of p96 (by simp [r96]) ?_
 simp only [rI, r96, frOf_3]
 simp only [w1, w2, zH, zI, ↓reduceIte, zA, hb, hwr, e1]
 refine R_calls (l := [pt (L.id .b) 0]) (by first | rfl | simp only [w1, w2, zH, zI, ↓reduceIte, zA, zB, zC, zD, zE, zF, zG]) (low_ok h1 (Fit.next (K := 1) (hf.mono (by omega)) a1)) ?_
 rintro v μ2 ⟨a, σ2, rfl, h2, _⟩
 have a2 := a1.trans h2
 simp only [w1, w2, ↓reduceIte, zA]
 refine R_calls (l := [pt (L.id .b) 0]) (by first | rfl | simp only [w1, w2, zH, zI, ↓reduceIte, zA, zB, zC, zD, zE, zF, zG]) (low_ok a2.rep (Fit.next (K := 3) (hf.mono (by omega)) a2)) ?_
 rintro v μ3 ⟨r, σ3, rfl, h3, _⟩
 have a3 := a2.trans h3
 simp only [w1, w2, ↓reduceIte, zA]
 refine R_calls (l := [pt (L.id .cur) 0, .c (.int .i64 24)]) (by first | rfl | simp only [w1, w2, zH, zI, ↓reduceIte, zA, zB, zC, zD, zE, zF, zG]) (dpick_ok a3.rep (Fit.next (K := 5) (hf.mono (by omega)) a3) 24) ?_
 rintro v μ4 ⟨k, σ4, rfl, hk, h4, _⟩
 have a4 := a3.trans h4
 have hk24 := hk.2 (by omega)
 have hl1 : σ4.left < σ.left := by have := h2.left.1; have := h3.left.1; have := h4.left.1; simp only at *; omega
 simp only [w1, w2, ↓reduceIte, zA]
 by_cases hd0 : d = 0
 ·rw [decide_eq_true (show (d : Int) ≤ 0 by omega)]
  simp only [w1, w2, ↓reduceIte, zA]
  by_cases hk15 : k > 15
  ·rw [decide_eq_true hk15]
   simp only [w1, w2, ↓reduceIte, zA]
   refine R_calls (l := [pt (L.id .cur) 0, .c (.int .i64 16)]) (by first | rfl | simp only [w1, w2, zH, zI, ↓reduceIte, zA, zB, zC, zD, zE, zF, zG]) (dpick_ok a4.rep (Fit.next (K := 7) (hf.mono (by omega)) a4) 16) ?_
   rintro v μ5 ⟨k', σ5, rfl, hk', h5, _⟩
   have a5 := a4.trans h5
   simp only [w1, ↓reduceIte]
   refine step_tail (d := d) hd hblk (f := f) (a := a) (r := r) (k := k') a5.rep (Fit.next (K := 9) (hf.mono (by omega)) a5) ⟨hk'.1, by have := hk'.2 (by omega); omega⟩ (fun _ => hk'.2 (by omega)) ?_ ?_ ?_ ?_ ?_ ?_ ?_ ?_
   ·simp only [w1, ↓reduceIte, zA]
   ·simp only [w1, ↓reduceIte, zA]
   ·simp only [w1, ↓reduceIte, zA]
   ·simp only [w1, ↓reduceIte, zA]
   ·simp only [w1, ↓reduceIte, zA]
   ·simp only [w1, ↓reduceIte, zA]
   ·simp only [w1, ↓reduceIte]
   ·intro fr' L' σ' μ' h6
    simp only [w1, aRet, aRes]
    exact ⟨_, rfl, L', σ', (a5.trans h6).mono (by omega), by have := h6.left.1; have := h5.left.1; omega⟩
  ·rw [decide_eq_false hk15]
   simp only [w1]
   refine step_tail (d := d) hd hblk (f := f) (a := a) (r := r) (k := k) a4.rep (Fit.next (K := 7) (hf.mono (by omega)) a4) ⟨hk.1, hk24⟩ (fun _ => by omega) ?_ ?_ ?_ ?_ ?_ ?_ ?_ ?_
   ·simp only [w1, ↓reduceIte, zA]
   ·simp only [w1, ↓reduceIte, zA]
   ·simp only [w1, ↓reduceIte, zA]
   ·simp only [w1, ↓reduceIte, zA]
   ·simp only [w1, ↓reduceIte, zA]
   ·simp only [w1, ↓reduceIte, zA]
   ·simp only [w1, ↓reduceIte, zA]
   ·intro fr' L' σ' μ' h6
    simp only [w1, aRet, aRes]
    exact ⟨_, rfl, L', σ', (a4.trans h6).mono (by omega), by have := h6.left.1; omega⟩
 ·rw [decide_eq_false (show ¬ (d : Int) ≤ 0 by omega)]
  simp only [w1, ↓reduceIte, zA]
  refine step_tail (d := d) hd hblk (f := f) (a := a) (r := r) (k := k) a4.rep (Fit.next (K := 7) (hf.mono (by omega)) a4) ⟨hk.1, hk24⟩ (fun e => absurd e hd0) ?_ ?_ ?_ ?_ ?_ ?_ ?_ ?_
  ·simp only [w1, ↓reduceIte, zA]
  ·simp only [w1, ↓reduceIte, zA]
  ·simp only [w1, ↓reduceIte, zA]
  ·simp only [w1, ↓reduceIte, zA]
  ·simp only [w1, ↓reduceIte, zA]
  ·simp only [w1, ↓reduceIte, zA]
  ·simp only [w1, ↓reduceIte, zA]
  ·intro fr' L' σ' μ' h6
   simp only [w1, aRet, aRes]
   exact ⟨_, rfl, L', σ', (a4.trans h6).mono (by omega), by have := h6.left.1; omega⟩

theorem dstep_ok : ∀ (d : Nat), d ≤ 100 → StepOk d := by
 intro d
 induction d with
 | zero => exact fun hd lo code bs L σ μ f h hf => step_body hd (fun e he => by omega) f h hf
 | succ d ih =>
  intro hd lo code bs L σ μ f h hf
  refine step_body hd (fun e he => ?_) f h hf
  obtain rfl : d = e := by omega
  exact ih (by omega)
end
end Go.Proofs.Ytibmnlijoeppaaa
