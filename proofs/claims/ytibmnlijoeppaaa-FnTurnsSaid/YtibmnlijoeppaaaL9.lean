/-
 The law FnTurns returns true.
-/
import Derived.Test.YtibmnlijoeppaaaDAll
import Derived.Test.YtibmnlijoeppaaaTU
import Derived.Test.YtibmnlijoeppaaaLog
import Derived.Test.YtibmnlijoeppaaaInB
namespace Go.Proofs.Ytibmnlijoeppaaa
open Nat renaming reduceEqDiff → zA, reduceAdd → zB, reduceLeDiff → zJ, reduceMul → zK
open Int renaming reduceLT → zC, reduceLE → zD, reduceNeg → zE, reduceBEq → zF, reduceBNe → zG
open AV renaming isTup → zH, cells → zI
set_option linter.unusedSimpArgs false
set_option linter.unusedVariables false

/-! 9: laws.FnTurns -/
def b9_0 : RCode := (.seq (.reg [rI 0 (.bin .lss (.t 32) (.t 31)) 33]) (.seq (.ite (.t 33) .skip (.exit 0)) (.seq (.blk 1 (.seq (.reg [rI 0 (.mv (.t 32)) 34, rI 1 (.mv (.t 34)) 8]) (.seq (.seq (.reg [rI 0 (.mv (.t 5)) 35, rI 1 (.mv (.t 8)) 36, rI 2 (.ias (.t 35) (.t 36) 4) 37, rI 4 (.mv (.t 6)) 39, rI 5 (.mv (.t 8)) 40, rI 6 (.ias (.t 39) (.t 40) 4) 41, rI 3 (.ld (some 4) (.t 37)) 38, rI 7 (.ld (some 4) (.t 41)) 42, rI 8 (.eq true (.ints 4) (.t 38) (.t 42)) 43, rI 9 (.mv (.t 43)) 44, ⟨10, .mv (.t 5), some 45, some (44, false), []⟩, ⟨11, .mv (.t 8), some 46, some (44, false), []⟩, ⟨12, .ias (.t 45) (.t 46) 4, some 47, some (44, false), []⟩, ⟨13, .fa (.t 47) 2, some 48, some (44, false), []⟩, ⟨15, .mv (.t 7), some 50, some (44, false), []⟩, ⟨14, .ld none (.t 48), some 49, some (44, false), []⟩, ⟨16, .bin .neq (.t 49) (.t 50), some 51, some (44, false), []⟩, rI 17 (.pick (.t 44) (.k (.bool true)) (.t 51)) 52, rI 18 (.mv (.t 52)) 53, ⟨19, .mv (.t 5), some 54, some (53, false), []⟩, ⟨20, .mv (.t 8), some 55, some (53, false), []⟩, ⟨21, .ias (.t 54) (.t 55) 4, some 56, some (53, false), []⟩, ⟨22, .fa (.t 56) 3, some 57, some (53, false), []⟩, ⟨24, .mv (.t 7), some 59, some (53, false), []⟩, ⟨23, .ld none (.t 57), some 58, some (53, false), []⟩, ⟨25, .bin .lss (.t 58) (.t 59), some 60, some (53, false), []⟩, rI 26 (.pick (.t 53) (.k (.bool true)) (.t 60)) 61, rI 27 (.mv (.t 61)) 62, ⟨28, .mv (.t 5), some 63, some (62, false), []⟩, ⟨29, .mv (.t 8), some 64, some (62, false), []⟩, ⟨30, .ias (.t 63) (.t 64) 4, some 65, some (62, false), []⟩, ⟨31, .fa (.t 65) 3, some 66, some (62, false), []⟩, ⟨33, .fa (.t 4) 1, some 68, some (62, false), []⟩, ⟨32, .ld none (.t 66), some 67, some (62, false), []⟩, ⟨34, .ld none (.t 68), some 69, some (62, false), []⟩, ⟨35, .len (.t 69), some 70, some (62, false), []⟩, ⟨36, .bin .gtr (.t 67) (.t 70), some 71, some (62, false), []⟩, rI 37 (.pick (.t 62) (.k (.bool true)) (.t 71)) 72]) (.ite (.t 72) (.seq (.reg [rI 0 (.mv (.k (.bool false))) 2]) .ret) .skip)) (.reg [rI 0 (.mv (.t 5)) 73, rI 1 (.mv (.t 8)) 74, rI 2 (.ias (.t 73) (.t 74) 4) 75, rI 3 (.fa (.t 75) 3) 76, rI 4 (.ld none (.t 76)) 77, rI 5 (.mv (.t 77)) 7])))) (.reg [rI 0 (.bin .add (.t 32) (.k (.int .i64 1))) 78, rI 1 (.mv (.t 78)) 32]))))
def b9_1 : RCode := (.seq (.reg [rI 0 (.bin .lss (.t 87) (.t 86)) 88]) (.seq (.ite (.t 88) .skip (.exit 2)) (.seq (.blk 3 (.seq (.reg [rI 0 (.mv (.t 87)) 89, rI 1 (.mv (.t 89)) 10]) (.reg [rI 0 (.mv (.t 9)) 90, rI 1 (.mv (.t 10)) 91, rI 2 (.ias (.t 90) (.t 91) 1) 92, ⟨3, .st (.t 92) (.k (.int .i64 (-1))) 1, none, none, []⟩]))) (.reg [rI 0 (.bin .add (.t 87) (.k (.int .i64 1))) 93, rI 1 (.mv (.t 93)) 87]))))
def b9_2 : RCode := (.seq (.reg [rI 0 (.bin .lss (.t 97) (.t 96)) 98]) (.seq (.ite (.t 98) .skip (.exit 4)) (.seq (.blk 5 (.seq (.reg [rI 0 (.ias (.t 95) (.t 97) 4) 99, rI 1 (.ld (some 4) (.t 99)) 100, rI 2 (.alc [.int .i64 0, .int .i64 0, .int .i64 0, .int .i64 0]) 13, ⟨3, .st (.t 13) (.t 100) 4, none, none, []⟩]) (.seq (.seq (.reg [rI 0 (.fa (.t 13) 0) 101, rI 1 (.ld none (.t 101)) 102, rI 2 (.bin .neq (.t 102) (.k (.int .i64 2))) 103]) (.ite (.t 103) (.seq (.seq (.reg [rI 0 (.fa (.t 13) 1) 104, rI 1 (.ld none (.t 104)) 105, rI 2 (.mv (.t 11)) 106, rI 3 (.bin .neq (.t 105) (.t 106)) 107]) (.ite (.t 107) (.seq (.reg [rI 0 (.mv (.k (.bool false))) 2]) .ret) .skip)) (.exit 5)) .skip)) (.seq (.seq (.reg [rI 0 (.fa (.t 13) 2) 108, rI 1 (.ld none (.t 108)) 109, rI 2 (.bin .eql (.t 109) (.k (.int .i64 1))) 110, rI 3 (.mv (.t 110)) 111, ⟨4, .fa (.t 13) 2, some 112, some (111, false), []⟩, ⟨5, .ld none (.t 112), some 113, some (111, false), []⟩, ⟨6, .bin .eql (.t 113) (.k (.int .i64 5)), some 114, some (111, false), []⟩, rI 7 (.pick (.t 111) (.k (.bool true)) (.t 114)) 115]) (.ite (.t 115) (.seq (.seq (.reg [rI 0 (.mv (.t 9)) 116, rI 1 (.fa (.t 13) 1) 117, rI 2 (.ld none (.t 117)) 118, rI 3 (.ias (.t 116) (.t 118) 1) 119, rI 4 (.ld none (.t 119)) 120, rI 5 (.bin .neq (.t 120) (.k (.int .i64 (-1)))) 121, rI 6 (.mv (.t 121)) 122, ⟨7, .fa (.t 13) 1, some 123, some (122, false), []⟩, ⟨8, .ld none (.t 123), some 124, some (122, false), []⟩, ⟨9, .bin .eql (.t 124) (.k (.int .i64 0)), some 125, some (122, false), []⟩, rI 10 (.pick (.t 122) (.k (.bool true)) (.t 125)) 126]) (.ite (.t 126) (.seq (.reg [rI 0 (.mv (.k (.bool false))) 2]) .ret) .skip)) (.reg [rI 0 (.mv (.t 9)) 127, rI 1 (.fa (.t 13) 1) 128, rI 2 (.ld none (.t 128)) 129, rI 3 (.mv (.t 11)) 130, rI 4 (.ias (.t 127) (.t 129) 1) 131, ⟨5, .st (.t 131) (.t 130) 1, none, none, []⟩])) (.seq (.seq (.reg [rI 0 (.mv (.t 9)) 132, rI 1 (.mv (.t 11)) 133, rI 2 (.ias (.t 132) (.t 133) 1) 134, rI 4 (.fa (.t 13) 1) 136, rI 3 (.ld none (.t 134)) 135, rI 5 (.ld none (.t 136)) 137, rI 6 (.bin .neq (.t 135) (.t 137)) 138]) (.ite (.t 138) (.seq (.reg [rI 0 (.mv (.k (.bool false))) 2]) .ret) .skip)) (.reg [rI 0 (.mv (.t 9)) 139, rI 1 (.mv (.t 11)) 140, rI 2 (.ias (.t 139) (.t 140) 1) 141, ⟨3, .st (.t 141) (.k (.int .i64 (-1))) 1, none, none, []⟩])))) (.reg [rI 0 (.fa (.t 13) 1) 142, rI 1 (.ld none (.t 142)) 143, rI 2 (.mv (.t 143)) 11]))))) (.reg [rI 0 (.bin .add (.t 97) (.k (.int .i64 1))) 144, rI 1 (.mv (.t 144)) 97]))))
def r9 : RFun := ⟨145, [.tmp 2], (.seq (.reg [rI 0 (.mv (.k (.bool false))) 2]) (.seq (.seq (.reg [rI 0 (.mv (.t 0)) 14, rI 1 (.len (.t 14)) 15, rI 2 (.bin .gtr (.t 15) (.k (.int .i64 1048576))) 16]) (.ite (.t 16) (.seq (.reg [rI 0 (.mv (.k (.bool true))) 2]) .ret) .skip)) (.seq (.reg [rI 0 (.mv (.t 0)) 17, rI 1 (.call 33 [.t 17]) 18, rI 2 (.alc [.slc none 0 0]) 3, ⟨3, .st (.t 3) (.t 18) 1, none, none, []⟩]) (.seq (.reg [rI 0 (.ld (some 1) (.t 3)) 19, rI 1 (.call 26 [.t 19, .k (.int .i64 600)]) 20, rI 2 (.alc [.int .i64 0, .slc none 0 0, .int .i64 0, .int .i64 0, .slc none 0 0]) 4, ⟨3, .st (.t 4) (.t 20) 5, none, none, []⟩]) (.seq (.reg [rI 0 (.ld (some 1) (.t 3)) 21, rI 1 (.call 34 [.t 21, .k (.int .i64 600)]) 22, rI 2 (.mv (.t 22)) 5]) (.seq (.reg [rI 0 (.ld (some 1) (.t 3)) 23, rI 1 (.call 35 [.t 23, .k (.int .i64 600)]) 24, rI 2 (.mv (.t 24)) 6]) (.seq (.seq (.reg [rI 0 (.mv (.t 5)) 25, rI 1 (.len (.t 25)) 26, rI 2 (.mv (.t 6)) 27, rI 3 (.len (.t 27)) 28, rI 4 (.bin .neq (.t 26) (.t 28)) 29]) (.ite (.t 29) (.seq (.reg [rI 0 (.mv (.k (.bool false))) 2]) .ret) .skip)) (.seq (.reg [rI 0 (.mv (.k (.int .i64 0))) 7]) (.seq (.seq (.reg [rI 0 (.mv (.t 5)) 30, rI 1 (.len (.t 30)) 31, rI 2 (.mv (.k (.int .i64 0))) 32]) (.blk 0 (.loop b9_0))) (.seq (.seq (.reg [rI 0 (.mv (.t 7)) 79, rI 1 (.fa (.t 4) 1) 80, rI 2 (.ld none (.t 80)) 81, rI 3 (.len (.t 81)) 82, rI 4 (.bin .neq (.t 79) (.t 82)) 83]) (.ite (.t 83) (.seq (.reg [rI 0 (.mv (.k (.bool false))) 2]) .ret) .skip)) (.seq (.reg [rI 0 (.mks [.int .i64 0] 8 (.k (.int .i64 60)) (.k (.int .i64 60))) 84, rI 1 (.mv (.t 84)) 9]) (.seq (.seq (.reg [rI 0 (.mv (.t 9)) 85, rI 1 (.len (.t 85)) 86, rI 2 (.mv (.k (.int .i64 0))) 87]) (.blk 2 (.loop b9_1))) (.seq (.reg [rI 0 (.mv (.k (.int .i64 0))) 11]) (.seq (.seq (.reg [rI 0 (.fa (.t 4) 1) 94, rI 1 (.ld none (.t 94)) 95, rI 2 (.len (.t 95)) 96, rI 3 (.mv (.k (.int .i64 0))) 97]) (.blk 4 (.loop b9_2))) (.seq (.reg [rI 0 (.mv (.k (.bool true))) 2]) .ret)))))))))))))))⟩
theorem p9 : prog 9 = some r9 := by kernel_rfl



/-- Turns that cover from a number to N. -/
def Cov (N : Int) : Int → List PRec → Prop
 | a, [] => a = N
 | a, x :: l => x.how = a ∧ a ≤ x.num ∧ x.num ≤ N ∧ Cov N x.num l
theorem tgo_app : ∀ (rs : List PRec) (i : Nat) (d : List PRec) (x : PRec), tgo rs i d x = d ++ tgo rs i [] x
 | [], i, d, x => rfl
 | r :: rs, i, d, x => by
  unfold tgo
  split
  ·rw [tgo_app rs _ (d ++ _), tgo_app rs _ ([] ++ _)]; simp
  ·exact tgo_app rs _ d x
theorem cov_tgo : ∀ (rs : List PRec) (i : Nat) (x : PRec), x.how ≤ i → Cov ((i + rs.length : Nat) : Int) x.how (tgo rs i [] x)
 | [], i, x, h => ⟨rfl, h, by simp, by simp [Cov]⟩
 | r :: rs, i, x, h => by
  unfold tgo
  have e : i + (r :: rs).length = i + 1 + rs.length := by simp; omega
  rw [e]
  split
  ·rw [tgo_app]
   exact ⟨rfl, h, by simp only; omega, cov_tgo rs (i + 1) ⟨r.task, r.how, (i : Nat), 0⟩ (by simp only; omega)⟩
  ·exact cov_tgo rs (i + 1) x (by omega)
theorem cov_turns (rs : List PRec) : Cov rs.length 0 (turnsP rs) := by
 have := cov_tgo rs 0 ⟨0, 0, 0, 0⟩ (Int.le_refl _)
 rw [Nat.zero_add] at this
 exact this

/-- Both lists of turns, and what the records tell. -/
theorem turnsAll9 (p : PPlan) (hl : Lens p) : ∃ (r : PReport) (l : List PRec), r.recs.length ≤ 600000 ∧ l.length ≤ 600001 ∧ Cov r.recs.length 0 l ∧ (∃ s, r.recs.foldlM wstep (List.replicate 60 (-1), 0) = some s) ∧
  (∀ {μ : Mem} {hi : Nat} {c : Cell}, PlanR hi μ c p → hi ≤ μ.next → Ret 26 [.agg [c], .c (.int .i64 600)] μ fun v μ' => (∃ L C, RepH μ.next μ' L C v r) ∧ Same μ.next μ μ') ∧
  (∀ {μ : Mem} {hi : Nat} {c : Cell}, PlanR hi μ c p → hi ≤ μ.next → Ret 34 [.agg [c], .c (.int .i64 600)] μ fun v μ' => TurnsH μ.next μ' v l ∧ Same μ.next μ μ') ∧
  (∀ {μ : Mem} {hi : Nat} {c : Cell}, PlanR hi μ c p → hi ≤ μ.next → Ret 35 [.agg [c], .c (.int .i64 600)] μ fun v μ' => TurnsH μ.next μ' v l ∧ Same μ.next μ μ') := by
 by_cases hr : X.runnable p 600 = true
 ·have hr' := hr
  unfold X.runnable at hr'
  simp only [Bool.and_eq_true, decide_eq_true_eq] at hr'
  obtain ⟨⟨hok, ht0⟩, ht1⟩ := hr'
  obtain ⟨S, T, ⟨m, hm⟩, ⟨m', hm'⟩, hf⟩ := both_end hok ⟨ht0, ht1⟩
  have hv := hf.views
  have hlen : T.tasks.length = S.tasks.length := by have := congrArg List.length hv; simpa using this
  have hg : Goes p 600 none S := ⟨⟨m, hm⟩, ⟨ht0, ht1⟩, hok, by have := hf.few; unfold roomy; omega, hf.statesS⟩
  have hgX : X.Goes p 600 (-1) T := ⟨⟨m', hm'⟩, by have := hf.few; rw [hlen]; unfold roomy; omega, hf.statesT⟩
  refine ⟨S.report, turnsP S.recs, hf.room.1, ?_, cov_turns _, ⟨_, run_log hok ⟨ht0, ht1⟩ hm⟩, fun hR hh => runPlan_h hR hh hl hg, fun hR hh => turns_h (r := S.report) hR hh hf.room.1 (run_grow hm).1 fun hR hh => runPlan_h hR hh hl hg, fun hR hh => ?_⟩
  ·have := tgo_len (l := S.recs) (i := 0) (d := []) (x := ⟨0, 0, 0, 0⟩)
   have := hf.room.1
   simp only [List.length_nil] at *
   unfold turnsP; omega
  ·rw [← hf.recs]
   exact X.turns_ok hR hh hl hr hgX (by rw [hf.recs]; exact hf.room.1)
 ·have hr' : X.runnable p 600 = false := by simpa using hr
  have hn : noRun p 600 := by
   unfold X.runnable at hr
   simp only [Bool.and_eq_true, decide_eq_true_eq] at hr
   unfold noRun
   by_cases h1 : (okP p).1 = 0
   ·omega
   ·exact .inr (.inr h1)
  exact ⟨⟨3, [], 0, 0, []⟩, [], by simp, by simp, rfl, ⟨_, rfl⟩, fun hR hh => runPlan_no hR hh hl hn, fun hR hh => turns_no (r := ⟨3, [], 0, 0, []⟩) hR hh rfl fun hR hh => runPlan_no hR hh hl hn, fun hR hh => X.turns_no hR hh hl hr'⟩

theorem listLoop {hi : Nat} {μ : Mem} {c c' rc : Cell} {N n4 : Nat} {T : List PRec} (h : Rd hi μ 4 c T.length (cat recrow 0 T)) (h' : Rd hi μ 4 c' T.length (cat recrow 0 T)) (hN : N ≤ 600000) (hT : T.length ≤ 1000000) (lr : μ.ld none n4 1 = some (.c rc)) (hrc : ∃ a cap, rc = .slc a N cap) {s : List It} {Q : Fr → Mem → Prop} :
  ∀ (k i : Nat) (a : Int) (fr : Fr), i + k = T.length → Cov N a (T.drop i) → fr 5 = .c c → fr 6 = .c c' → fr 7 = .c (.int .i64 a) → fr 31 = .c (.int .i64 T.length) → fr 32 = .c (.int .i64 i) → fr 4 = pt n4 0 →
   (∀ fr', fr' 7 = .c (.int .i64 N) → fr' 4 = pt n4 0 → R s fr' μ Q) → R (.c (.loop b9_0) :: .blk 0 :: s) fr μ Q := by
 obtain ⟨a1, cap1, hc⟩ := h.slc
 obtain ⟨a2, cap2, hc'⟩ := h'.slc
 obtain ⟨a3, cap3, hrc⟩ := hrc
 intro k
 induction k with
 | zero =>
  intro i a fr hk hcov f5 f6 f7 f31 f32 f4 hend
  obtain rfl : i = T.length := by omega
  rw [List.drop_length] at hcov
  have ha : a = N := hcov
  rw [R_loop]
  simp only [rI, b9_0]
  simp only [w1, w2, ↓reduceIte, f31, f32]
  rw [decide_eq_false (by omega)]
  simp only [w1]
  rw [R_exit rfl]
  exact hend _ (by simp only [w1, ↓reduceIte, zA, f7, ha]) (by simp only [w1, ↓reduceIte, zA, f4])
 | succ k ih =>
  intro i a fr hk hcov f5 f6 f7 f31 f32 f4 hend
  have hi' : i < T.length := by omega
  have hget : T[i]? = some T[i] := List.getElem?_eq_getElem hi'
  rw [List.drop_eq_getElem_cons hi'] at hcov
  generalize T[i] = x at hget hcov
  obtain ⟨hx1, hx2, hx3, hcov'⟩ := hcov
  obtain ⟨b, o, e1, _, e3, e4⟩ := h.row recrow_len (by omega) hget
  obtain ⟨b', o', e1', _, e3', _⟩ := h'.row recrow_len (by omega) hget
  have d2 := e4 2 (by omega)
  have d3 := e4 3 (by omega)
  simp only [recrow, List.getElem?_cons_zero, List.getElem?_cons_succ, Option.map_some] at e3 e3' d2 d3
  rw [hc] at e1 f5
  rw [hc'] at e1' f6
  rw [hrc] at lr
  have ex : (x.how != a) = false := bneq hx1
  rw [R_loop]
  simp only [rI, b9_0]
  simp only [w1, w2, ↓reduceIte, f31, f32]
  rw [decide_eq_true (by omega)]
  simp only [w1, w2, ↓reduceIte, zA, zB, f5, f6, f7, f32, e1, e1', e3, e3', aeq, eqInts, d2, d3, ex]
  rw [decide_eq_false (show ¬ x.num < a by omega)]
  simp only [w1, w2, ↓reduceIte, zA, f4, f5, e1, d3, lr]
  rw [decide_eq_false (show ¬ x.num > (N : Int) by omega)]
  simp only [w1, w2, ↓reduceIte, zA, f5, f32, e1, d3]
  rw [small (by omega), R_lp]
  refine ih (i + 1) x.num _ (by omega) hcov' ?_ ?_ ?_ ?_ ?_ ?_ hend
  ·simp only [w1, ↓reduceIte, zA, f5, hc]
  ·simp only [w1, ↓reduceIte, zA, f6, hc']
  ·simp only [w1, ↓reduceIte, zA]
  ·simp only [w1, ↓reduceIte, zA, f31]
  ·simp only [w1, ↓reduceIte]; congr 2
  ·simp only [w1, ↓reduceIte, zA, f4]

section
variable {L : Lay Unit} {C : Con Unit} {lo : Nat} {μ0 : Mem}

theorem clearLoop {s : List It} {Q : Fr → Mem → Prop} {v4 : AV} (v5 : AV) :
  ∀ (k i : Nat) (C : Con Unit) (W : List Int) (fr : Fr) (μ : Mem), i + k = 60 → Has L C lo μ → C () = some (1, cat irow 0 W) → W.length = 60 → (∀ j, j < i → W[j]? = some (-1)) → Same lo μ0 μ → fr 9 = .c (L.sc () 60) → fr 86 = .c (.int .i64 60) → fr 87 = .c (.int .i64 i) → fr 4 = v4 →
   (∀ fr' μ' C', Has L C' lo μ' → C' () = some (1, cat irow 0 (List.replicate 60 (-1))) → Same lo μ0 μ' → fr' 9 = .c (L.sc () 60) → fr' 4 = v4 → R s fr' μ' Q) → R (.c (.loop b9_1) :: .blk 2 :: s) fr μ Q := by
 intro k
 induction k with
 | zero =>
  intro i C W fr μ hk h hC hW hm hs f9 f86 f87 f4 hend
  obtain rfl : i = 60 := by omega
  have hWe : W = List.replicate 60 (-1) := by
   refine List.ext_getElem? fun j => ?_
   by_cases hj : j < 60
   ·rw [hm j hj, List.getElem?_replicate, if_pos hj]
   ·rw [List.getElem?_eq_none (by omega), List.getElem?_eq_none (by simp; omega)]
  subst hWe
  rw [R_loop]
  simp only [rI, b9_1]
  simp only [w1, w2, ↓reduceIte, zE, f86, f87]
  rw [decide_eq_false (by omega)]
  simp only [w1, zE]
  rw [R_exit rfl]
  exact hend _ μ C h hC hs (by simp only [w1, ↓reduceIte, zA, f9]) (by simp only [w1, ↓reduceIte, zA, f4])
 | succ k ih =>
  intro i C W fr μ hk h hC hW hm hs f9 f86 f87 f4 hend
  have hlen : (cat irow 0 W).length = 60 * 1 := by rw [cat_length irow_len, hW]
  have hslot := h.slot hC hlen (by omega) (j := i) (by omega)
  obtain ⟨a, c, hsc⟩ := h.scf hC hlen (by omega)
  obtain ⟨μ1, e1, h1, o1⟩ := h.put1 irow_len hC (j := i) (k := 0) (a := W[i]) (a' := -1) (x := .int .i64 (-1)) (List.getElem?_eq_getElem (by omega)) (by omega) rfl
  have hs1 : Same lo μ μ1 := ⟨fun b hb => o1.2 b fun hon hh => by have := h.ge _ hon; omega, by have := o1.1; omega⟩
  rw [hsc] at hslot f9
  rw [R_loop]
  simp only [rI, b9_1]
  simp only [w1, w2, ↓reduceIte, zE, f86, f87]
  rw [decide_eq_true (by omega)]
  simp only [w1, w2, zH, zI, ↓reduceIte, zA, zE, f9, f87, hslot]
  simp only [Nat.add_zero] at e1
  simp only [w2, zE, e1]
  rw [small (by omega), R_lp]
  refine ih (i + 1) _ (W.set i (-1)) _ μ1 (by omega) h1 (by simp only [Con.upd, if_true]) (by rw [List.length_set]; exact hW) (fun j hj => ?_) (hs.trans hs1) ?_ ?_ ?_ ?_ hend
  ·rw [List.getElem?_set]
   split
   ·rename_i e; rw [if_pos (by omega)]
   ·exact hm j (by omega)
  ·simp only [w1, ↓reduceIte, zA, f9, hsc]
  ·simp only [w1, ↓reduceIte, zA, f86]
  ·simp only [w1, ↓reduceIte]; rfl
  ·simp only [w1, ↓reduceIte, zA, f4]

theorem wtLoop {hi : Nat} {rc : Cell} {recs : List PRec} (hrd : Rd hi μ0 4 rc recs.length (cat recrow 0 recs)) (hh : hi ≤ lo) (hlo : lo ≤ μ0.next) (hlen : recs.length ≤ 600000) {sF : List Int × Int} {s : List It} {Q : Fr → Mem → Prop} :
  ∀ (k i : Nat) (C : Con Unit) (W : List Int) (cur : Int) (fr : Fr) (μ : Mem), i + k = recs.length → Has L C lo μ → C () = some (1, cat irow 0 W) → W.length = 60 → Same lo μ0 μ → (recs.drop i).foldlM wstep (W, cur) = some sF →
   fr 9 = .c (L.sc () 60) → fr 11 = .c (.int .i64 cur) → fr 95 = .c rc → fr 96 = .c (.int .i64 recs.length) → fr 97 = .c (.int .i64 i) →
   (∀ fr' μ', R s fr' μ' Q) → R (.c (.loop b9_2) :: .blk 4 :: s) fr μ Q := by
 obtain ⟨ra, rcap, hrc⟩ := hrd.slc
 intro k
 induction k with
 | zero =>
  intro i C W cur fr μ hk h hC hW hs hf f9 f11 f95 f96 f97 hend
  rw [R_loop]
  simp only [rI, b9_2]
  simp only [w1, w2, ↓reduceIte, zE, f96, f97]
  rw [decide_eq_false (by omega)]
  simp only [w1, zE]
  rw [R_exit rfl]
  exact hend _ _
 | succ k ih =>
  intro i C W cur fr μ hk h hC hW hs hf f9 f11 f95 f96 f97 hend
  have hi' : i < recs.length := by omega
  have hget : recs[i]? = some recs[i] := List.getElem?_eq_getElem hi'
  rw [List.drop_eq_getElem_cons hi', List.foldlM_cons] at hf
  generalize recs[i] = r at hget hf
  obtain ⟨sn, hst, hf⟩ := Option.bind_eq_some_iff.1 hf
  obtain ⟨b, o, e1, _, e3, _⟩ := (hrd.same hs hh).row recrow_len (by omega) hget
  have hlo1 : lo ≤ μ.next := Nat.le_trans hlo hs.2
  have e4 : (recrow i r).length = 4 := rfl
  have hx : Has L C lo (μ.new (recrow i r) 0) := h.tmp
  have hsx : Same lo μ0 (μ.new (recrow i r) 0) := hs.trans (Same.tmp hlo1)
  have l0 : (μ.new (recrow i r) 0).ld none μ.next 0 = some (.c (.int .i64 r.kind)) := new_ld0 rfl
  have l1 : (μ.new (recrow i r) 0).ld none μ.next 1 = some (.c (.int .i64 r.task)) := new_ld0 rfl
  have l2 : (μ.new (recrow i r) 0).ld none μ.next 2 = some (.c (.int .i64 r.how)) := new_ld0 rfl
  have hlen60 : (cat irow 0 W).length = 60 * 1 := by rw [cat_length irow_len, hW]
  obtain ⟨a, cc, hsc⟩ := h.scf hC hlen60 (by omega)
  have nid : L.on () = true → μ.next ≠ L.id () := fun hon hh => by have := h.lt _ hon; omega
  rw [hrc] at f95 e1
  rw [R_loop]
  simp only [rI, b9_2]
  simp only [w1, w2, ↓reduceIte, zE, f96, f97]
  rw [decide_eq_true (by omega)]
  simp only [w1, w2, zH, zI, ↓reduceIte, zA, zE, f95, f97, e1, e3, e4, new_st0 (μ := μ) (cs := [.int .i64 0, .int .i64 0, .int .i64 0, .int .i64 0]) (x := recrow i r) (e := 0) rfl, l0]
  generalize μ.new (recrow i r) 0 = μ1 at *
  -- how the loop goes on
  have more : ∀ {C1 : Con Unit} {W1 : List Int} {cur1 : Int} {fr1 : Fr} {μ2 : Mem}, Has L C1 lo μ2 → C1 () = some (1, cat irow 0 W1) → W1.length = 60 → Same lo μ0 μ2 → sn = (W1, cur1) → fr1 9 = .c (L.sc () 60) → fr1 11 = .c (.int .i64 cur1) → fr1 95 = .c rc → fr1 96 = .c (.int .i64 recs.length) → fr1 97 = .c (.int .i64 ((i + 1 : Nat) : Int)) →
    R (.c (.loop b9_2) :: .blk 4 :: s) fr1 μ2 Q := fun {C1 W1 cur1 fr1 μ2} h1 h2 h3 h4 h5 g9 g11 g95 g96 g97 => by
   rw [h5] at hf
   exact ih (i + 1) C1 W1 cur1 fr1 μ2 (by omega) h1 h2 h3 h4 hf g9 g11 g95 g96 g97 hend
  -- one number of those who wait is written
  have wr1 : ∀ (j : Nat) (y : Int), j < 60 → ∃ μ2, μ1.st (L.id ()) (j * 1) [.int .i64 y] = some μ2 ∧ Has L (C.upd () (1, cat irow 0 (W.set j y))) lo μ2 ∧ Same lo μ0 μ2 ∧ μ2.ld none μ.next 1 = some (.c (.int .i64 r.task)) := fun j y hj => by
   obtain ⟨μ2, s2, g2, o2⟩ := hx.put1 irow_len hC (j := j) (k := 0) (a := W[j]) (a' := y) (x := .int .i64 y) (List.getElem?_eq_getElem (by omega)) (by omega) rfl
   simp only [Nat.add_zero] at s2
   refine ⟨μ2, s2, g2, hsx.trans ⟨fun b hb => o2.2 b fun hon hh => by have := h.ge _ hon; omega, by have := o2.1; omega⟩, ?_⟩
   rw [← l1]
   simp only [Mem.ld]
   rw [o2.2 _ fun hon => nid hon]
  unfold wstep at hst
  by_cases hk2 : r.kind = 2
  ·rw [if_neg (by simpa using hk2)] at hst
   simp only [w1, w2, ↓reduceIte, zA, zE, bneq hk2, l2]
   by_cases hh15 : r.how = 1 ∨ r.how = 5
   ·rw [if_pos hh15] at hst
    split at hst
    ·rename_i hcond
     obtain ⟨hr0, hrW, hrn⟩ := hcond
     obtain ⟨j, hj⟩ : ∃ j : Nat, r.task = j := ⟨r.task.toNat, by omega⟩
     rw [hj, Int.toNat_natCast] at hrW
     have hj60 : j < 60 := by have : j < W.length := (List.getElem?_eq_some_iff.1 hrW).1; omega
     have hslot := hx.slot hC hlen60 (by omega) hj60
     have lj : μ1.ld none (L.id ()) (j * 1) = some (.c (.int .i64 (-1))) := by
      refine hx.ldc hC ?_
      have := cat_get irow_len (i := 0) hrW (k := 0) (by omega)
      rw [Nat.add_zero] at this
      rw [this]; rfl
     obtain ⟨μ2, s2, g2, hs2, l1'⟩ := wr1 j cur hj60
     have ej : sn = (W.set j cur, r.task) := by
      have := (Option.some.inj hst).symm
      rw [this, hj, Int.toNat_natCast]
     have ez : (r.task == 0) = false := beq_ff hrn
     rw [hj] at l1 ez
     have hs' := hslot .i64
     rw [hsc] at hs' f9
     rw [hj] at l1'
     have fin : ∀ {fr1 : Fr}, fr1 9 = .c (.slc a 60 cc) → fr1 11 = .c (.int .i64 (j : Int)) → fr1 95 = .c (.slc ra recs.length rcap) → fr1 96 = .c (.int .i64 recs.length) → fr1 97 = .c (.int .i64 ((i + 1 : Nat) : Int)) → R (.c (.loop b9_2) :: .blk 4 :: s) fr1 μ2 Q := fun {fr1} g9 g11 g95 g96 g97 =>
      more (cur1 := r.task) (W1 := W.set j cur) g2 (by simp only [Con.upd, if_true]) (by rw [List.length_set]; exact hW) hs2 ej (by rw [g9, hsc]) (by rw [g11, hj]) (by rw [g95, hrc]) g96 g97
     rcases hh15 with h1 | h5
     ·simp only [w1, w2, zH, zI, ↓reduceIte, zA, zE, beq_tt h1, f9, f11, f97, l1, hs', lj, ez, s2, l1']
      rw [small (by omega), R_lp]
      refine fin ?_ ?_ ?_ ?_ ?_
      ·simp only [w1, ↓reduceIte, zA, zE, f9]
      ·simp only [w1, ↓reduceIte, zA, zE]
      ·simp only [w1, ↓reduceIte, zA, zE, f95]
      ·simp only [w1, ↓reduceIte, zA, zE, f96]
      ·simp only [w1, ↓reduceIte, zE]; congr 2
     ·simp only [w1, w2, zH, zI, ↓reduceIte, zA, zE, beq_ff (show r.how ≠ 1 by omega), l2, beq_tt h5, f9, f11, f97, l1, hs', lj, ez, s2, l1']
      rw [small (by omega), R_lp]
      refine fin ?_ ?_ ?_ ?_ ?_
      ·simp only [w1, ↓reduceIte, zA, zE, f9]
      ·simp only [w1, ↓reduceIte, zA, zE]
      ·simp only [w1, ↓reduceIte, zA, zE, f95]
      ·simp only [w1, ↓reduceIte, zA, zE, f96]
      ·simp only [w1, ↓reduceIte, zE]; congr 2
    ·cases hst
   ·rw [if_neg hh15] at hst
    split at hst
    ·rename_i hcond
     obtain ⟨hc0, hcW⟩ := hcond
     obtain ⟨j, rfl⟩ : ∃ j : Nat, cur = j := ⟨cur.toNat, by omega⟩
     rw [Int.toNat_natCast] at hcW
     have hj60 : j < 60 := by have : j < W.length := (List.getElem?_eq_some_iff.1 hcW).1; omega
     have hslot := hx.slot hC hlen60 (by omega) hj60
     have lj : μ1.ld none (L.id ()) (j * 1) = some (.c (.int .i64 r.task)) := by
      refine hx.ldc hC ?_
      have := cat_get irow_len (i := 0) hcW (k := 0) (by omega)
      rw [Nat.add_zero] at this
      rw [this]; rfl
     obtain ⟨μ2, s2, g2, hs2, l1'⟩ := wr1 j (-1) hj60
     have ej : sn = (W.set j (-1), r.task) := by
      have := (Option.some.inj hst).symm
      rw [this, Int.toNat_natCast]
     have hs' := hslot .i64
     rw [hsc] at hs' f9
     simp only [w1, w2, zH, zI, ↓reduceIte, zA, zE, beq_ff (show r.how ≠ 1 by omega), l2, beq_ff (show r.how ≠ 5 by omega), f9, f11, f97, l1, hs', lj, bneq rfl, s2, l1']
     rw [small (by omega), R_lp]
     refine more (cur1 := r.task) (W1 := W.set j (-1)) g2 (by simp only [Con.upd, if_true]) (by rw [List.length_set]; exact hW) hs2 ej ?_ ?_ ?_ ?_ ?_
     ·simp only [w1, ↓reduceIte, zA, f9, hsc]
     ·simp only [w1, ↓reduceIte, zA]
     ·simp only [w1, ↓reduceIte, zA, f95, hrc]
     ·simp only [w1, ↓reduceIte, zA, f96]
     ·simp only [w1, ↓reduceIte]; congr 2
    ·cases hst
  ·rw [if_pos (by simpa using hk2)] at hst
   split at hst
   ·rename_i hcur
    have e2 : (r.kind != 2) = true := by simpa using hk2
    simp only [w1, w2, ↓reduceIte, zA, zE, e2, l1, f11, bneq hcur]
    rw [R_exit rfl]
    simp only [w1, w2, ↓reduceIte, zA, zE, f97]
    rw [small (by omega), R_lp]
    refine more hx hC hW hsx (Option.some.inj hst).symm ?_ ?_ ?_ ?_ ?_
    ·simp only [w1, ↓reduceIte, zA, f9]
    ·simp only [w1, ↓reduceIte, zA, f11]
    ·simp only [w1, ↓reduceIte, zA, f95, hrc]
    ·simp only [w1, ↓reduceIte, zA, f96]
    ·simp only [w1, ↓reduceIte]; congr 2
   ·cases hst
end

theorem law9 {hi : Nat} {μ : Mem} {c0 : Cell} {b0 : List Int} (hR0 : Rd hi μ 1 c0 b0.length (cat brow 0 b0)) (hh : hi ≤ μ.next) (hn : μ.next = 1) (r0 : ∀ y ∈ b0, 0 ≤ y ∧ y ≤ 255) :
  Ret 9 [.c c0] μ fun v μ' => v = .c (.bool true) := by
 obtain ⟨a0, k0, e0⟩ := hR0.slc
 refine Ret_of p9 (by simp [r9]) ?_
 simp only [rI, r9, frOf_1]
 simp only [w1, w2, ↓reduceIte, zA, e0]
 by_cases hl0 : (b0.length : Int) > 1048576
 ·rw [decide_eq_true hl0]
  simp only [w1, w2, ↓reduceIte, m1, m2, aRet, aRes, aRes1]
 rw [decide_eq_false hl0]
 simp only [w1, w2, ↓reduceIte, zA]
 rw [← e0]
 refine R_calls (l := [.c c0]) (by first | rfl | simp only [w1, w2, zH, zI, ↓reduceIte, zA, zB, zC, zD, zE, zF, zG, e0]) (drawn_ok (bs := b0) hR0 hh r0) ?_
 rintro v μ1 ⟨x, p, rfl, hP, hL, hs1⟩
 have n1 := hs1.2
 simp only [w1, w2, zH, zI, ↓reduceIte, zA, new_st0 (μ := μ1) (cs := [.slc none 0 0]) (x := [x]) (e := 0) rfl, show ([x] : List Cell).length = 1 from rfl]
 have hs2 : Same μ1.next μ1 (μ1.new [x] 0) := Same.tmp (Nat.le_refl _)
 have n2 : (μ1.new [x] 0).next = μ1.next + 1 := rfl
 have lX : (μ1.new [x] 0).ld (some 1) μ1.next 0 = some (.agg [x]) := by rw [Mem.new_ld, if_pos rfl]; rfl
 have hP2 := hP.same hs2 (Nat.le_refl _)
 generalize μ1.new [x] 0 = μ2 at *
 obtain ⟨r, T, hrl, hTl, hcov, ⟨sF, hsF⟩, himpl, hturn, hturnX⟩ := turnsAll9 p hL
 simp only [w2, lX]
 refine R_calls (l := [.agg [x], .c (.int .i64 600)]) (by first | rfl | simp only [w1, w2, zH, zI, ↓reduceIte, zA, zB, zC, zD, zE, zF, zG]) (himpl hP2 (by omega)) ?_
 rintro _ μ3 ⟨⟨Lg, Cg, hG⟩, hs3⟩
 have n3 := hs3.2
 have hv := hG.v
 obtain ⟨rc, sc, rfl, v1, v2⟩ := hv
 have e5 : ([.int .i64 r.code, rc, .int .i64 r.num, .int .i64 r.ticks, sc] : List Cell).length = 5 := rfl
 simp only [w1, w2, zH, zI, ↓reduceIte, zA, e5, new_st0 (μ := μ3) (cs := [.int .i64 0, .slc none 0 0, .int .i64 0, .int .i64 0, .slc none 0 0]) (x := [.int .i64 r.code, rc, .int .i64 r.num, .int .i64 r.ticks, sc]) (e := 0) rfl]
 have hs4 : Same μ3.next μ3 (μ3.new [.int .i64 r.code, rc, .int .i64 r.num, .int .i64 r.ticks, sc] 0) := Same.tmp (Nat.le_refl _)
 have n4 : (μ3.new [.int .i64 r.code, rc, .int .i64 r.num, .int .i64 r.ticks, sc] 0).next = μ3.next + 1 := rfl
 have lr4 : (μ3.new [.int .i64 r.code, rc, .int .i64 r.num, .int .i64 r.ticks, sc] 0).ld none μ3.next 1 = some (.c rc) := new_ld0 rfl
 have v14 := v1.same hs4 (Nat.le_refl _)
 have lX4 := (hs4.ld (n := some 1) (i := μ1.next) (o := 0) (by omega)).trans ((hs3.ld (by omega)).trans lX)
 have hP4 := (hP2.same hs3 (by omega)).same hs4 (by omega)
 generalize μ3.new [.int .i64 r.code, rc, .int .i64 r.num, .int .i64 r.ticks, sc] 0 = μ4 at *
 simp only [w2, lX4]
 refine R_calls (l := [.agg [x], .c (.int .i64 600)]) (by first | rfl | simp only [w1, w2, zH, zI, ↓reduceIte, zA, zB, zC, zD, zE, zF, zG]) (hturn hP4 (by omega)) ?_
 rintro _ μ5 ⟨⟨L5, C5, h5, c5, rfl⟩, hs5⟩
 have n5 := hs5.2
 have lX5 := (hs5.ld (n := some 1) (i := μ1.next) (o := 0) (by omega)).trans lX4
 have hP5 := hP4.same hs5 (by omega)
 simp only [w1, w2, ↓reduceIte, zA, lX5]
 refine R_calls (l := [.agg [x], .c (.int .i64 600)]) (by first | rfl | simp only [w1, w2, zH, zI, ↓reduceIte, zA, zB, zC, zD, zE, zF, zG]) (hturnX hP5 (by omega)) ?_
 rintro _ μ6 ⟨⟨L6, C6, h6, c6, rfl⟩, hs6⟩
 have n6 := hs6.2
 have t5 : Rd μ6.next μ6 4 (L5.sc TRo.out T.length) T.length (cat recrow 0 T) := ((h5.rd c5 (by rw [cat_length recrow_len]) (by omega)).same hs6 (Nat.le_refl _)).mono n6
 have t6 : Rd μ6.next μ6 4 (L6.sc TRo.out T.length) T.length (cat recrow 0 T) := h6.rd c6 (by rw [cat_length recrow_len]) (by omega)
 have s46 : Same μ4.next μ4 μ6 := hs5.trans (hs6.mono (by omega))
 have lr6 := (s46.ld (n := none) (i := μ3.next) (o := 1) (by omega)).trans lr4
 have v16 := v14.same s46 (by omega)
 obtain ⟨ra, rcap, hrc⟩ := v16.slc
 obtain ⟨qa, qc, hq5⟩ := t5.slc
 obtain ⟨wa, wc, hq6⟩ := t6.slc
 simp only [w1, w2, ↓reduceIte, zA, hq5, hq6, bneq rfl]
 rw [← hq5, ← hq6]
 refine listLoop (N := r.recs.length) (n4 := μ3.next) t5 t6 (by omega) (by omega) lr6 ⟨ra, rcap, hrc⟩ T.length 0 0 _ (by omega) (by rw [List.drop_zero]; exact hcov) ?_ ?_ ?_ ?_ ?_ ?_ ?_
 ·simp only [w1, ↓reduceIte, zA, hq5]
 ·simp only [w1, ↓reduceIte, zA, hq6]
 ·simp only [w1, ↓reduceIte, zA]
 ·simp only [w1, ↓reduceIte, zA]
 ·simp only [w1, ↓reduceIte]; rfl
 ·simp only [w1, ↓reduceIte, zA]
 ·intro fr7 f7 f4
  have em : amks [.int .i64 0] 8 (.c (.int .i64 60)) (.c (.int .i64 60)) μ6 = some (.c (.slc (some (μ6.next, 0)) 60 60), μ6.new (cat irow 0 (List.replicate 60 0)) 1) := by
   unfold amks; simp only; rw [if_pos ⟨by omega, trivial, by decide, by decide⟩]; rfl
  rw [hrc] at lr6
  simp only [w1, w2, ↓reduceIte, zA, f7, f4, lr6, bneq rfl, em]
  have hW0 : Has (Lay.put ⟨fun _ => 0, fun _ => false, fun _ => 0⟩ () μ6.next 60) (Con.upd (fun _ => none) () (1, cat irow 0 (List.replicate 60 0))) μ6.next (μ6.new (cat irow 0 (List.replicate 60 0)) 1) :=
   (Has.start (fun _ => rfl)).new (Nat.le_refl _) (by rw [if_neg (by decide)]; rfl)
  have hs7 : Same μ6.next μ6 (μ6.new (cat irow 0 (List.replicate 60 0)) 1) := Same.tmp (Nat.le_refl _)
  have n7 : (μ6.new (cat irow 0 (List.replicate 60 0)) 1).next = μ6.next + 1 := rfl
  have v17 := v16.same hs7 (by omega)
  have lr7 := (hs7.ld (n := none) (i := μ3.next) (o := 1) (by omega)).trans lr6
  generalize μ6.new (cat irow 0 (List.replicate 60 0)) 1 = μ7 at *
  refine clearLoop (lo := μ6.next) (μ0 := μ7) (v4 := pt μ3.next 0) (.c .nilfn) 60 0 _ (List.replicate 60 0) _ μ7 (by omega) hW0 (by simp only [Con.upd, if_true]) rfl (fun j hj => by omega) Same.refl ?_ ?_ ?_ ?_ ?_
  ·simp only [w1, ↓reduceIte, zA]; rfl
  ·simp only [w1, ↓reduceIte, zA]; rfl
  ·simp only [w1, ↓reduceIte]; rfl
  ·simp only [w1, ↓reduceIte, zA, f4]
  ·intro fr8 μ8 C8 h8 c8 hs8 f9 f4
   have lr8 := (hs8.ld (n := none) (i := μ3.next) (o := 1) (by omega)).trans lr7
   have v18 := v17.same hs8 (by omega)
   simp only [w1, w2, ↓reduceIte, zA, f4, lr8]
   rw [← hrc]
   refine wtLoop (lo := μ6.next) (μ0 := μ8) (recs := r.recs) (rc := rc) (sF := sF) v18 (by omega) (by have := hs8.2; omega) (by omega) r.recs.length 0 C8 (List.replicate 60 (-1)) 0 _ μ8 (by omega) h8 c8 rfl Same.refl (by rw [List.drop_zero]; exact hsF) ?_ ?_ ?_ ?_ ?_ ?_
   ·simp only [w1, ↓reduceIte, zA, f9]
   ·simp only [w1, ↓reduceIte, zA]
   ·simp only [w1, ↓reduceIte, zA, hrc]
   ·simp only [w1, ↓reduceIte, zA]
   ·simp only [w1, ↓reduceIte]; rfl
   ·intro fr' μ'
    simp only [w1, w2, ↓reduceIte, aRet, aRes, aRes1]
    first | exact ⟨_, rfl, rfl⟩ | trivial | rfl
end Go.Proofs.Ytibmnlijoeppaaa
