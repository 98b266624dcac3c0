/-
 The reference's machine: the ring of those that wait, the task that a register names, what lends and hands over.
-/
import Derived.Test.YtibmnlijoeppaaaXW2
namespace Go.Proofs.Ytibmnlijoeppaaa.X
open Nat renaming reduceEqDiff → zA, reduceAdd → zB, reduceLeDiff → zJ, reduceMul → zK
open Int renaming reduceLT → zC, reduceLE → zD, reduceNeg → zE, reduceBEq → zF, reduceBNe → zG
open AV renaming isTup → zH, cells → zI
set_option linter.unusedSimpArgs false
set_option linter.unusedVariables false

/-! 149: spec.l2M).ring -/
def b149_0 : RCode := (.seq (.seq (.reg [rI 0 (.mv (.t 6)) 13, rI 1 (.mv (.t 1)) 14, rI 2 (.bin .neq (.t 13) (.t 14)) 15]) (.ite (.t 15) .skip (.exit 0))) (.seq (.blk 1 (.reg [rI 0 (.mv (.t 5)) 26, rI 1 (.mv (.t 6)) 27, rI 2 (.bsl [.int .i64 0] 1 [(0, .t 27)]) 28, rI 3 (.app 1 8 (.t 26) (.t 28)) 29, rI 4 (.mv (.t 29)) 5])) (.reg [rI 0 (.mv (.t 0)) 16, rI 1 (.nc (.t 16)) 17, rI 2 (.fa (.t 17) 2) 18, rI 3 (.ld none (.t 18)) 19, rI 4 (.mv (.t 6)) 20, rI 5 (.ias (.t 19) (.t 20) 1) 21, rI 6 (.ld none (.t 21)) 22, rI 7 (.nc (.t 22)) 23, rI 8 (.fa (.t 23) 3) 24, rI 9 (.ld none (.t 24)) 25, rI 10 (.mv (.t 25)) 6])))
def b149_1 : RCode := (.seq (.seq (.reg [rI 0 (.mv (.t 8)) 35, rI 1 (.bin .geq (.t 35) (.k (.int .i64 0))) 36]) (.ite (.t 36) .skip (.exit 2))) (.seq (.blk 3 (.reg [rI 0 (.mv (.t 7)) 39, rI 1 (.mv (.t 5)) 40, rI 2 (.mv (.t 8)) 41, rI 3 (.ias (.t 40) (.t 41) 1) 42, rI 4 (.ld none (.t 42)) 43, rI 5 (.bsl [.int .i64 0] 1 [(0, .t 43)]) 44, rI 6 (.app 1 8 (.t 39) (.t 44)) 45, rI 7 (.mv (.t 45)) 7])) (.reg [rI 0 (.mv (.t 8)) 37, rI 1 (.bin .sub (.t 37) (.k (.int .i64 1))) 38, rI 2 (.mv (.t 38)) 8])))
def r149 : RFun := ⟨47, [.tmp 4], (.seq (.reg [rI 0 (.mv (.k (.slc none 0 0))) 4]) (.seq (.reg [rI 0 (.mv (.k (.slc none 0 0))) 5]) (.seq (.seq (.reg [rI 0 (.mv (.t 0)) 9, rI 1 (.nc (.t 9)) 10, rI 2 (.fa (.t 10) 3) 11, rI 3 (.ld none (.t 11)) 12, rI 4 (.mv (.t 12)) 6]) (.blk 0 (.loop b149_0))) (.seq (.reg [rI 0 (.mv (.t 1)) 30, rI 1 (.bsl [.int .i64 0] 1 [(0, .t 30)]) 31, rI 2 (.mv (.t 31)) 7]) (.seq (.seq (.reg [rI 0 (.mv (.t 5)) 32, rI 1 (.len (.t 32)) 33, rI 2 (.bin .sub (.t 33) (.k (.int .i64 1))) 34, rI 3 (.mv (.t 34)) 8]) (.blk 2 (.loop b149_1))) (.seq (.reg [rI 0 (.mv (.t 7)) 46, rI 1 (.mv (.t 46)) 4]) .ret))))))⟩
theorem p149 : prog 149 = some r149 := by kernel_rfl

/-! 146: spec.l2M).other -/
def b146_0 : RCode := (.seq (.reg [rI 0 (.bin .lss (.t 74) (.t 73)) 75]) (.seq (.ite (.t 75) .skip (.exit 0)) (.seq (.blk 1 (.seq (.reg [rI 0 (.ias (.t 72) (.t 74) 1) 76, rI 1 (.ld none (.t 76)) 77, rI 2 (.mv (.t 77)) 10]) (.reg [rI 0 (.mv (.t 0)) 78, rI 1 (.mv (.t 10)) 79, rI 2 (.call 133 [.t 78, .k (.int .i64 5), .k (.int .i64 0), .t 79]) 80]))) (.reg [rI 0 (.bin .add (.t 74) (.k (.int .i64 1))) 81, rI 1 (.mv (.t 81)) 74]))))
def r146 : RFun := ⟨84, [.tmp 4], (.seq (.reg [rI 0 (.mv (.k (.int .i64 0))) 4]) (.seq (.reg [rI 0 (.mv (.t 0)) 11, rI 1 (.call 130 [.t 11]) 12, rI 2 (.nc (.t 12)) 13, rI 3 (.fa (.t 13) 2) 14, rI 4 (.ld none (.t 14)) 15, rI 5 (.mv (.t 1)) 16, rI 6 (.ias (.t 15) (.t 16) 1) 17, rI 7 (.ld none (.t 17)) 18, rI 8 (.mv (.t 18)) 5]) (.seq (.seq (.reg [rI 0 (.mv (.t 5)) 19, rI 1 (.bin .lss (.t 19) (.k (.int .i64 0))) 20, rI 2 (.mv (.t 20)) 21, ⟨3, .mv (.t 5), some 22, some (21, false), []⟩, ⟨4, .mv (.t 0), some 23, some (21, false), []⟩, ⟨5, .nc (.t 23), some 24, some (21, false), []⟩, ⟨6, .fa (.t 24) 2, some 25, some (21, false), []⟩, ⟨7, .ld none (.t 25), some 26, some (21, false), []⟩, ⟨8, .len (.t 26), some 27, some (21, false), []⟩, ⟨9, .bin .geq (.t 22) (.t 27), some 28, some (21, false), []⟩, rI 10 (.pick (.t 21) (.k (.bool true)) (.t 28)) 29]) (.ite (.t 29) (.seq (.reg [rI 0 (.mv (.t 0)) 30, rI 1 (.call 134 [.t 30, .k (.int .i64 (-12))]) 31]) (.seq (.reg [rI 0 (.mv (.k (.int .i64 (-1)))) 4]) .ret)) .skip)) (.seq (.reg [rI 0 (.mv (.t 5)) 32, rI 1 (.mv (.t 32)) 6]) (.seq (.reg [rI 0 (.mv (.t 0)) 33, rI 1 (.nc (.t 33)) 34, rI 2 (.fa (.t 34) 2) 35, rI 3 (.ld none (.t 35)) 36, rI 4 (.mv (.t 6)) 37, rI 5 (.ias (.t 36) (.t 37) 1) 38, rI 6 (.ld none (.t 38)) 39, rI 7 (.nc (.t 39)) 40, rI 8 (.fa (.t 40) 1) 41, rI 9 (.ld none (.t 41)) 42, rI 10 (.mv (.t 42)) 7]) (.seq (.seq (.reg [rI 0 (.mv (.t 7)) 43, rI 1 (.bin .eql (.t 43) (.k (.int .i64 0))) 44, rI 2 (.mv (.t 44)) 45, ⟨3, .mv (.t 7), some 46, some (45, false), []⟩, ⟨4, .bin .eql (.t 46) (.k (.int .i64 1)), some 47, some (45, false), []⟩, rI 5 (.pick (.t 45) (.k (.bool true)) (.t 47)) 48]) (.ite (.t 48) (.seq (.reg [rI 0 (.mv (.t 6)) 49, rI 1 (.mv (.t 49)) 4]) .ret) .skip)) (.seq (.seq (.reg [rI 0 (.mv (.t 7)) 50, rI 1 (.bin .neq (.t 50) (.k (.int .i64 4))) 51]) (.ite (.t 51) (.seq (.reg [rI 0 (.mv (.t 0)) 52, rI 1 (.mv (.t 6)) 53, rI 2 (.call 149 [.t 52, .t 53]) 54, rI 3 (.mv (.t 54)) 8]) (.seq (.reg [rI 0 (.mv (.t 0)) 55, rI 1 (.mv (.t 0)) 56, rI 2 (.nc (.t 56)) 57, rI 3 (.fa (.t 57) 10) 58, rI 5 (.mv (.t 0)) 60, rI 6 (.nc (.t 60)) 61, rI 7 (.fa (.t 61) 5) 62, rI 8 (.fa (.t 62) 1) 63, rI 11 (.mv (.t 8)) 66, rI 4 (.ld none (.t 58)) 59, rI 9 (.ld none (.t 63)) 64, rI 10 (.len (.t 64)) 65, rI 12 (.bld [.int .i64 0, .slc none 0 0] [(0, 1, .t 65), (1, 1, .t 66)]) 67, rI 13 (.bsl [.int .i64 0, .slc none 0 0] 1 [(0, .t 67)]) 68, rI 14 (.app 2 32 (.t 59) (.t 68)) 69, rI 15 (.nc (.t 55)) 70, rI 16 (.fa (.t 70) 10) 71, ⟨17, .st (.t 71) (.t 69) 1, none, none, []⟩]) (.seq (.reg [rI 0 (.mv (.t 8)) 72, rI 1 (.len (.t 72)) 73, rI 2 (.mv (.k (.int .i64 0))) 74]) (.blk 0 (.loop b146_0))))) .skip)) (.seq (.reg [rI 0 (.mv (.t 0)) 82, rI 1 (.call 134 [.t 82, .k (.int .i64 (-10))]) 83]) (.seq (.reg [rI 0 (.mv (.k (.int .i64 (-1)))) 4]) .ret)))))))))⟩
theorem p146 : prog 146 = some r146 := by kernel_rfl

/-! 147: spec.l2M).lend -/
def r147 : RFun := ⟨39, [], (.seq (.reg [rI 0 (.mv (.t 0)) 6, rI 1 (.call 130 [.t 6]) 7, rI 2 (.nc (.t 7)) 8, rI 3 (.fa (.t 8) 1) 9, ⟨4, .st (.t 9) (.k (.int .i64 3)) 1, none, none, []⟩]) (.seq (.reg [rI 0 (.mv (.t 0)) 10, rI 1 (.nc (.t 10)) 11, rI 2 (.fa (.t 11) 2) 12, rI 4 (.mv (.t 1)) 14, rI 7 (.mv (.t 0)) 17, rI 8 (.nc (.t 17)) 18, rI 9 (.fa (.t 18) 3) 19, rI 3 (.ld none (.t 12)) 13, rI 5 (.ias (.t 13) (.t 14) 1) 15, rI 6 (.ld none (.t 15)) 16, rI 10 (.ld none (.t 19)) 20, rI 11 (.nc (.t 16)) 21, rI 12 (.fa (.t 21) 3) 22, ⟨13, .st (.t 22) (.t 20) 1, none, none, []⟩]) (.seq (.reg [rI 0 (.mv (.t 0)) 23, rI 1 (.nc (.t 23)) 24, rI 2 (.fa (.t 24) 2) 25, rI 3 (.ld none (.t 25)) 26, rI 4 (.mv (.t 1)) 27, rI 5 (.ias (.t 26) (.t 27) 1) 28, rI 6 (.ld none (.t 28)) 29, rI 7 (.nc (.t 29)) 30, rI 8 (.fa (.t 30) 1) 31, ⟨9, .st (.t 31) (.k (.int .i64 2)) 1, none, none, []⟩]) (.seq (.reg [rI 0 (.mv (.t 0)) 32, rI 1 (.mv (.t 1)) 33, rI 2 (.nc (.t 32)) 34, rI 3 (.fa (.t 34) 3) 35, ⟨4, .st (.t 35) (.t 33) 1, none, none, []⟩]) (.reg [rI 0 (.mv (.t 0)) 36, rI 1 (.mv (.t 2)) 37, rI 2 (.call 133 [.t 36, .k (.int .i64 2), .t 37, .k (.int .i64 0)]) 38])))))⟩
theorem p147 : prog 147 = some r147 := by kernel_rfl

/-! 145: spec.l2M).hand -/
def r145 : RFun := ⟨52, [], (.seq (.reg [rI 0 (.mv (.t 0)) 12, rI 1 (.call 130 [.t 12]) 13, rI 2 (.mv (.t 13)) 10]) (.seq (.reg [rI 0 (.mv (.t 10)) 14, rI 1 (.mv (.t 1)) 15, rI 2 (.nc (.t 14)) 16, rI 3 (.fa (.t 16) 1) 17, ⟨4, .st (.t 17) (.t 15) 1, none, none, []⟩]) (.seq (.reg [rI 0 (.mv (.t 0)) 18, rI 1 (.mv (.t 10)) 19, rI 2 (.nc (.t 19)) 20, rI 3 (.fa (.t 20) 3) 21, rI 4 (.ld none (.t 21)) 22, rI 5 (.nc (.t 18)) 23, rI 6 (.fa (.t 23) 3) 24, ⟨7, .st (.t 24) (.t 22) 1, none, none, []⟩]) (.seq (.reg [rI 0 (.mv (.t 10)) 25, rI 1 (.nc (.t 25)) 26, rI 2 (.fa (.t 26) 3) 27, ⟨3, .st (.t 27) (.k (.int .i64 (-1))) 1, none, none, []⟩]) (.seq (.reg [rI 0 (.mv (.t 0)) 28, rI 1 (.call 130 [.t 28]) 29, rI 2 (.mv (.t 29)) 11]) (.seq (.reg [rI 0 (.mv (.t 11)) 30, rI 1 (.nc (.t 30)) 31, rI 2 (.fa (.t 31) 1) 32, ⟨3, .st (.t 32) (.k (.int .i64 2)) 1, none, none, []⟩]) (.seq (.reg [rI 0 (.mv (.t 0)) 33, rI 1 (.mv (.t 2)) 34, rI 2 (.call 133 [.t 33, .k (.int .i64 2), .t 34, .k (.int .i64 0)]) 35]) (.seq (.reg [rI 0 (.mv (.t 11)) 36, rI 1 (.nc (.t 36)) 37, rI 2 (.fa (.t 37) 2) 38, rI 4 (.mv (.t 11)) 40, rI 5 (.nc (.t 40)) 41, rI 6 (.fa (.t 41) 4) 42, rI 8 (.mv (.t 3)) 44, rI 3 (.ld none (.t 38)) 39, rI 7 (.ld none (.t 42)) 43, rI 9 (.ias (.t 39) (.t 43) 1) 45, ⟨10, .st (.t 45) (.t 44) 1, none, none, []⟩]) (.reg [rI 0 (.mv (.t 11)) 46, rI 1 (.nc (.t 46)) 47, rI 2 (.fa (.t 47) 2) 48, rI 3 (.ld none (.t 48)) 49, rI 4 (.mv (.t 4)) 50, rI 5 (.ias (.t 49) (.k (.int .i64 3)) 1) 51, ⟨6, .st (.t 51) (.t 50) 1, none, none, []⟩])))))))))⟩
theorem p145 : prog 145 = some r145 := by kernel_rfl



theorem bne_tt {a b : Int} (h : a ≠ b) : (a != b) = true := by simpa using h
theorem bne_ff {a b : Int} (h : a = b) : (a != b) = false := by simpa using h

theorem Nums.one {lo : Nat} {μ : Mem} (hlo : lo ≤ μ.next) (x : Int) : Nums lo (μ.new [.int .i64 x] 1) (.slc (some (μ.next, 0)) 1 1) [x] := by
 have h := (Has.start (L := (⟨fun _ => 0, fun _ => false, fun _ => 0⟩ : Lay Unit)) (lo := lo) (μ := μ) (fun _ => rfl)).new hlo (r := ()) (sz := 1) (cs := cat irow 0 [x]) (cap := 1) (by simp [cat, irow])
 refine ⟨_, h.weaken fun r y e => ?_, Nat.le_succ_of_le hlo, ?_, fun _ => ?_⟩
 ·simp only [Con.upd, if_true]; exact e
 ·simp [Lay.sc, Lay.put]
 ·simp [Lay.put]

section
variable {E : IEnv} {L L' : Lay IR} {S S' : PM} {μ0 μ μ' : Mem}

theorem backLoop (h0 : Rep E L S μ0) {t : Int} {s : List It} {Q : Fr → Mem → Prop} :
  ∀ (n : Nat) (k : Int) (b acc : List Int) (fr : Fr) (μ : Mem) (c : Cell), ringBack S.tasks t n k = some b → acc.length + b.length < roomy → Nums μ0.next μ c acc → Same μ0.next μ0 μ →
  fr 0 = pt E.m 0 → fr 1 = .c (.int .i64 t) → fr 5 = .c c → fr 6 = .c (.int .i64 k) →
  (∀ fr' μ' c', Nums μ0.next μ' c' (acc ++ b) → Same μ0.next μ0 μ' → fr' 0 = pt E.m 0 → fr' 1 = .c (.int .i64 t) → fr' 5 = .c c' → R s fr' μ' Q) →
  R (.c (.loop b149_0) :: .blk 0 :: s) fr μ Q := by
 intro n
 induction n with
 | zero => intro k b acc fr μ c hb; simp [ringBack] at hb
 | succ n ih =>
  intro k b acc fr μ c hb hl hN hs f0 f1 f5 f6 hend
  unfold ringBack at hb
  rw [R_loop]
  simp only [rI, b149_0]
  by_cases hk : k = t
  ·rw [if_pos hk] at hb
   simp only [Option.some.injEq] at hb
   subst hb
   simp only [w1, w2, ↓reduceIte, zA, f1, f6, bne_ff hk]
   rw [R_exit rfl]
   refine hend _ _ c (by simpa using hN) hs ?_ ?_ ?_
   ·simp only [w1, ↓reduceIte, zA, f0]
   ·simp only [w1, ↓reduceIte, zA, f1]
   ·simp only [w1, ↓reduceIte, zA, f5]
  ·rw [if_neg hk] at hb
   obtain ⟨u, hi, hb⟩ := Option.bind_eq_some_iff.1 hb
   obtain ⟨b', hb', hb⟩ := Option.map_eq_some_iff.1 hb
   subst hb
   obtain ⟨j, rfl, hget⟩ := idx_some hi
   simp only [List.length_cons] at hl
   obtain ⟨c2, μ2, ea, hN2, hs2⟩ := hN.app [(j : Int)] (by simp only [List.length_cons, List.length_nil]; omega)
   simp only [cat, irow, List.append_nil, List.length_cons, List.length_nil, Nat.zero_add] at ea
   have hs02 : Same μ0.next μ0 μ2 := hs.trans hs2
   have h := h0.next hs02
   have hm := h.mfacts
   have htf := h.tfacts hget
   obtain ⟨tb, to, e1, e2⟩ := h.tasksAt hget
   simp only [w1, w2, zH, zI, ↓reduceIte, zA, f1, f6, f5, f0, bne_tt hk, m2, fillc, wr, rep, zJ, zK, List.append_nil]
   refine (OptK_of ea ?_)
   simp only [w1, w2, hm, e1, e2, htf]
   rw [R_lp]
   refine ih u.waiter b' (acc ++ [(j : Int)]) _ μ2 c2 hb' (by simp only [List.length_append, List.length_cons, List.length_nil]; omega) hN2 hs02 ?_ ?_ ?_ ?_ ?_
   ·simp only [w1, ↓reduceIte, zA, f0]
   ·simp only [w1, ↓reduceIte, zA, f1]
   ·simp only [w1, ↓reduceIte, zA]
   ·simp only [w1, ↓reduceIte]
   ·intro fr' μ' c' a1
    rw [List.append_assoc] at a1
    exact hend fr' μ' c' a1

theorem fwdLoop {t : Int} {b : List Int} {cb : Cell} {hi : Nat} (hb : Rd hi μ0 1 cb b.length (cat irow 0 b)) (hhi : hi ≤ μ0.next) (hlb : b.length + 1 < roomy) {s : List It} {Q : Fr → Mem → Prop} :
  ∀ (m : Nat) (fr : Fr) (μ : Mem) (c : Cell) (z : Int), m ≤ b.length → z = (m : Int) - 1 → Nums μ0.next μ c (t :: (b.drop m).reverse) → Same μ0.next μ0 μ →
  fr 5 = .c cb → fr 7 = .c c → fr 8 = .c (.int .i64 z) →
  (∀ fr' μ' c', Nums μ0.next μ' c' (t :: b.reverse) → Same μ0.next μ0 μ' → fr' 7 = .c c' → R s fr' μ' Q) →
  R (.c (.loop b149_1) :: .blk 2 :: s) fr μ Q := by
 intro m
 induction m with
 | zero =>
  intro fr μ c z hm hz hN hs f5 f7 f8 hend
  rw [R_loop]
  simp only [rI, b149_1]
  simp only [w1, w2, ↓reduceIte, f8]
  rw [decide_eq_false (by omega)]
  simp only [w1]
  rw [R_exit rfl]
  exact hend _ _ c (by simpa using hN) hs (by simp only [w1, ↓reduceIte, zA, f7])
 | succ m ih =>
  intro fr μ c z hm hz hN hs f5 f7 f8 hend
  obtain rfl : z = (m : Int) := by omega
  have hget : b[m]? = some b[m] := List.getElem?_eq_getElem (by omega)
  obtain ⟨i, o, e1, e2, _, e4⟩ := (hb.same hs hhi).row irow_len (by omega) hget
  have e4' := e4 0 (by omega)
  simp only [irow, List.getElem?_cons_zero, Option.map_some, Nat.add_zero] at e4'
  obtain ⟨c2, μ2, ea, hN2, hs2⟩ := hN.app [b[m]] (by simp; omega)
  simp only [cat, irow, List.append_nil, List.length_cons, List.length_nil, Nat.zero_add] at ea
  rw [R_loop]
  simp only [rI, b149_1]
  simp only [w1, w2, ↓reduceIte, f8]
  rw [decide_eq_true (by omega)]
  simp only [w1, w2, zH, zI, ↓reduceIte, zA, f5, f7, f8, e1, e4', m2, fillc, wr, rep, zJ, zK, List.append_nil]
  refine (OptK_of ea ?_)
  simp only []
  rw [small (by unfold roomy at hlb; omega), R_lp]
  refine ih _ μ2 c2 _ (by omega) rfl ?_ (hs.trans hs2) ?_ ?_ ?_ hend
  ·have e : b.drop m = b[m] :: b.drop (m + 1) := List.drop_eq_getElem_cons (by omega)
   rw [e, List.reverse_cons]
   exact hN2
  ·simp only [w1, ↓reduceIte, zA, f5]
  ·simp only [w1, ↓reduceIte, zA]
  ·simp only [w1, ↓reduceIte]

theorem ring_ok (h : Rep E L S μ) {t : Int} {l : List Int} (hr : S.ring t = some l) (hl : l.length < roomy) :
  Ret 149 [pt E.m 0, .c (.int .i64 t)] μ fun v μ' => ∃ c, v = .c c ∧ Nums μ.next μ' c l ∧ Same μ.next μ μ' := by
 unfold PM.ring at hr
 obtain ⟨b, hb, rfl⟩ := Option.map_eq_some_iff.1 hr
 simp only [List.length_cons, List.length_reverse] at hl
 have hm := h.mfacts
 refine Ret_of p149 (by simp [r149]) ?_
 simp only [rI, r149, frOf_2]
 simp only [w1, w2, ↓reduceIte, zA, hm]
 refine backLoop h _ _ b [] _ μ (.slc none 0 0) hb (by simp; omega) (Nums.nil (Nat.le_refl _)) Same.refl ?_ ?_ ?_ ?_ ?_
 ·simp only [w1, ↓reduceIte, zA]
 ·simp only [w1, ↓reduceIte, zA]
 ·simp only [w1, ↓reduceIte, zA]
 ·simp only [w1, ↓reduceIte]
 intro fr' μ1 c1 hN1 hs1 g0 g1 g5
 rw [List.nil_append] at hN1
 have hrd := hN1.rd
 obtain ⟨a, cap, rfl⟩ := hrd.slc
 simp only [w1, w2, zH, zI, ↓reduceIte, zA, g1, g5, m2, fillc, wr, rep, zJ, zK, List.append_nil]
 have e3 : IntKind.i64.wrap (((b.length : Nat) : Int) - 1) = ((b.length : Nat) : Int) - 1 := small (by unfold roomy at hl; omega)
 rw [e3]
 refine fwdLoop (t := t) (μ0 := μ1) hrd (Nat.le_refl _) (by omega) b.length _ _ (.slc (some (μ1.next, 0)) 1 1) _ (Nat.le_refl _) rfl ?_ (Same.tmp (Nat.le_refl _)) ?_ ?_ ?_ ?_
 ·rw [List.drop_length]; exact Nums.one (Nat.le_refl _) t
 ·simp only [w1, ↓reduceIte, zA, g5]
 ·simp only [w1, ↓reduceIte, zA]
 ·simp only [w1, ↓reduceIte]
 intro fr'' μ2 c2 hN2 hs2 k7
 simp only [w1, w2, ↓reduceIte, k7, aRet, aRes, aRes1]
 refine ⟨_, rfl, c2, rfl, ?_, hs1.trans (hs2.mono hs1.2)⟩
 obtain ⟨Lu, u1, u2, u3, u4⟩ := hN2
 exact ⟨Lu, ⟨u1.inj, u1.lt, fun r hr => Nat.le_trans hs1.2 (u1.ge r hr), u1.obj⟩, Nat.le_trans hs1.2 u2, u3, u4⟩

theorem Rep.ringrd (h : Rep E L S μ) {q : Nat} {x : PRing} (hq : S.rings[q]? = some x) : Rd μ.next μ 1 (L.sc (.ring q) x.tasks.length) x.tasks.length (cat irow 0 x.tasks) :=
 h.has.rd (r := .ring q) (sz := 1) (n := x.tasks.length) (by simp only [icon, hq, Option.map_some]) (by rw [cat_length irow_len]) (by omega)

theorem tells_keeps : ∀ {l : List Int} {S S' : PM}, S.tells l = some S' → S'.rings = S.rings ∧ S'.tasks = S.tasks ∧ S'.run = S.run := by
 intro l
 induction l with
 | nil => intro S S' h; simp only [PM.tells, Option.some.injEq] at h; subst h; exact ⟨rfl, rfl, rfl⟩
 | cons x l ih =>
  intro S S' h
  unfold PM.tells at h
  obtain ⟨S1, h1, h2⟩ := Option.bind_eq_some_iff.1 h
  obtain ⟨a, b, c⟩ := tell_keeps h1
  obtain ⟨a', b', c'⟩ := ih h2
  exact ⟨a'.trans a, b'.trans b, c'.trans c⟩

theorem tellsLoop {q : Nat} {x : PRing} {c : Cell} {L0 : Lay IR} {s : List It} {Q : Fr → Mem → Prop} (hl : x.tasks.length < roomy) :
  ∀ (k j : Nat) (S : PM) (L : Lay IR) (μ : Mem) (fr : Fr) (S' : PM), j + k = x.tasks.length → S.tells (x.tasks.drop j) = some S' → S.rings[q]? = some x → Rep E L S μ → Stay S L0 L → Keep L0 μ0 L μ → L.sc (.ring q) x.tasks.length = c →
   fr 0 = pt E.m 0 → fr 72 = .c c → fr 73 = .c (.int .i64 x.tasks.length) → fr 74 = .c (.int .i64 j) →
   (∀ fr' L' μ', Rep E L' S' μ' → Stay S L0 L' → Keep L0 μ0 L' μ' → fr' 0 = pt E.m 0 → R s fr' μ' Q) →
   R (.c (.loop b146_0) :: .blk 0 :: s) fr μ Q := by
 intro k
 induction k with
 | zero =>
  intro j S L μ fr S' hj hs hq h st kp hc f0 f72 f73 f74 hend
  obtain rfl : j = x.tasks.length := by omega
  rw [List.drop_length] at hs
  simp only [PM.tells, Option.some.injEq] at hs
  subst hs
  rw [R_loop]
  simp only [rI, b146_0]
  simp only [w1, w2, ↓reduceIte, f73, f74]
  rw [decide_eq_false (by omega)]
  simp only [w1]
  rw [R_exit rfl]
  exact hend _ L μ h st kp (by simp only [w1, ↓reduceIte, zA, f0])
 | succ k ih =>
  intro j S L μ fr S' hj hs hq h st kp hc f0 f72 f73 f74 hend
  have hget : x.tasks[j]? = some x.tasks[j] := List.getElem?_eq_getElem (by omega)
  have e : x.tasks.drop j = x.tasks[j] :: x.tasks.drop (j + 1) := List.drop_eq_getElem_cons (by omega)
  rw [e] at hs
  unfold PM.tells at hs
  obtain ⟨S1, ht, hs⟩ := Option.bind_eq_some_iff.1 hs
  obtain ⟨k1, k2, k3⟩ := tell_keeps ht
  obtain ⟨b, o, e1, e2, _, e4⟩ := (h.ringrd hq).row irow_len (by omega) hget
  have e4' := e4 0 (by omega)
  simp only [irow, List.getElem?_cons_zero, Option.map_some, Nat.add_zero] at e4'
  rw [hc] at e1
  rw [R_loop]
  simp only [rI, b146_0]
  simp only [w1, w2, ↓reduceIte, f73, f74]
  rw [decide_eq_true (by omega)]
  simp only [w1, w2, ↓reduceIte, zA, f0, f72, f74, e1, e4']
  refine R_calls (l := [pt E.m 0, .c (.int .i64 5), .c (.int .i64 0), .c (.int .i64 x.tasks[j])]) (by simp only [w1, w2, ↓reduceIte, zA]) (tell_ok' h ht) ?_
  rintro v μ1 ⟨L1, h1, s1, kp1, g1⟩
  simp only [w1, w2, ↓reduceIte, zA, f74]
  rw [small (by unfold roomy at hl; omega), R_lp]
  refine ih (j + 1) S1 L1 μ1 _ S' (by omega) hs (by rw [k1]; exact hq) h1 ((st.trans s1 (Nat.le_refl _)).cast (by rw [k2])) (kp.trans kp1) ((g1 q _).trans hc) ?_ ?_ ?_ ?_ ?_
  ·simp only [w1, ↓reduceIte, zA, f0]
  ·simp only [w1, ↓reduceIte, zA, f72]
  ·simp only [w1, ↓reduceIte, zA, f73]
  ·simp only [w1, ↓reduceIte]; rfl
  ·intro fr' L' μ' a1 a2 a3 a4
   exact hend fr' L' μ' a1 (a2.cast (by rw [k2])) a3 a4

theorem throw_len {num : Int} (hs : S.throw num = some S') : S'.tasks.length = S.tasks.length := by
 unfold PM.throw at hs
 obtain ⟨S1, ht, hs⟩ := Option.bind_eq_some_iff.1 hs
 unfold PM.mark at hs
 obtain ⟨t, _, hs⟩ := Option.bind_eq_some_iff.1 hs
 obtain ⟨t', _, hs⟩ := Option.map_eq_some_iff.1 hs
 subst hs
 simp only [PM.put, List.length_set, (tell_keeps ht).2.1]

theorem other_ok (h : Rep E L S μ) {r n : Int} (hs : S.other r = some (n, S')) :
  Ret 146 [pt E.m 0, .c (.int .i64 r)] μ fun v μ' => v = .c (.int .i64 n) ∧ After E L S μ S' μ' := by
 unfold PM.other at hs
 obtain ⟨t, hi, hs⟩ := Option.bind_eq_some_iff.1 hs
 obtain ⟨y, hy, hs⟩ := Option.bind_eq_some_iff.1 hs
 obtain ⟨k, hk, hget⟩ := idx_some hi
 have hm := h.mfacts
 have htf := h.tfacts hget
 obtain ⟨e1, e2⟩ := h.ldreg hget hy
 obtain ⟨ta, tc, hts⟩ := h.tsc
 refine Ret_of p146 (by simp [r146]) ?_
 simp only [rI, r146, frOf_2]
 simp only [w1, w2, ↓reduceIte, zA, zE]
 refine R_calls (l := [pt E.m 0]) (by simp only [w1, w2, ↓reduceIte]) (task_ok h hk hget) ?_
 rintro v μ1 ⟨rfl, rfl⟩
 simp only [w1, w2, ↓reduceIte, zA, zE, htf, e1, e2]
 by_cases hneg : y < 0
 ·rw [if_pos (.inl hneg)] at hs
  obtain ⟨S1, ht, hs⟩ := Option.map_eq_some_iff.1 hs
  simp only [Prod.mk.injEq] at hs
  obtain ⟨rfl, rfl⟩ := hs
  simp only [w1, w2, ↓reduceIte, zA, zE, decide_eq_true hneg]
  refine R_calls (l := [pt E.m 0, .c (.int .i64 (-12))]) (by simp only [w1, w2, ↓reduceIte, zE]) (throw_ok h ht) ?_
  rintro v μ2 ha
  simp only [w1, w2, ↓reduceIte, zE, aRet, aRes, aRes1]
  exact ⟨_, rfl, rfl, ha⟩
 by_cases hge : y ≥ (S.tasks.length : Int)
 ·rw [if_pos (.inr hge)] at hs
  obtain ⟨S1, ht, hs⟩ := Option.map_eq_some_iff.1 hs
  simp only [Prod.mk.injEq] at hs
  obtain ⟨rfl, rfl⟩ := hs
  rw [hts] at hm
  simp only [w1, w2, ↓reduceIte, zA, zE, decide_eq_false hneg, decide_eq_true hge, hm]
  refine R_calls (l := [pt E.m 0, .c (.int .i64 (-12))]) (by simp only [w1, w2, ↓reduceIte, zE]) (throw_ok h ht) ?_
  rintro v μ2 ha
  simp only [w1, w2, ↓reduceIte, zE, aRet, aRes, aRes1]
  exact ⟨_, rfl, rfl, ha⟩
 rw [if_neg (by intro hh; rcases hh with hh | hh; exact hneg hh; exact hge hh)] at hs
 obtain ⟨u, hu, hs⟩ := Option.bind_eq_some_iff.1 hs
 obtain ⟨j, rfl, hgj⟩ := idx_some hu
 have huf := h.tfacts hgj
 obtain ⟨tb, to, e3, e4⟩ := h.tasksAt hgj
 rw [hts] at hm e3
 simp only [w1, w2, ↓reduceIte, zA, zE, decide_eq_false hneg, decide_eq_false hge, hm, e3, e4, huf]
 by_cases h0 : u.state = 0
 ·rw [if_pos (.inl h0)] at hs
  simp only [Option.some.injEq, Prod.mk.injEq] at hs
  obtain ⟨rfl, rfl⟩ := hs
  simp only [w1, w2, ↓reduceIte, zA, zE, beq_tt h0, aRet, aRes, aRes1]
  exact ⟨_, rfl, rfl, L, h, Stay.refl, Keep.refl⟩
 by_cases h1 : u.state = 1
 ·rw [if_pos (.inr h1)] at hs
  simp only [Option.some.injEq, Prod.mk.injEq] at hs
  obtain ⟨rfl, rfl⟩ := hs
  simp only [w1, w2, ↓reduceIte, zA, zE, beq_ff h0, beq_tt h1, aRet, aRes, aRes1]
  exact ⟨_, rfl, rfl, L, h, Stay.refl, Keep.refl⟩
 rw [if_neg (by intro hh; rcases hh with hh | hh; exact h0 hh; exact h1 hh)] at hs
 simp only [w1, w2, ↓reduceIte, zA, zE, beq_ff h0, beq_ff h1]
 by_cases h4 : u.state = 4
 ·rw [if_neg (by simpa using h4)] at hs
  obtain ⟨S1, ht, hs⟩ := Option.map_eq_some_iff.1 hs
  simp only [Prod.mk.injEq] at hs
  obtain ⟨rfl, rfl⟩ := hs
  simp only [w1, w2, ↓reduceIte, zA, zE, bne_ff h4]
  refine R_calls (l := [pt E.m 0, .c (.int .i64 (-10))]) (by simp only [w1, w2, ↓reduceIte, zE]) (throw_ok h ht) ?_
  rintro v μ2 ha
  simp only [w1, w2, ↓reduceIte, zE, aRet, aRes, aRes1]
  exact ⟨_, rfl, rfl, ha⟩
 ·rw [if_pos h4] at hs
  obtain ⟨l, hr, hs⟩ := Option.bind_eq_some_iff.1 hs
  split at hs
  ·rename_i hll
   obtain ⟨S1, htl, hs⟩ := Option.bind_eq_some_iff.1 hs
   obtain ⟨S2, ht, hs⟩ := Option.map_eq_some_iff.1 hs
   simp only [Prod.mk.injEq] at hs
   obtain ⟨rfl, rfl⟩ := hs
   simp only [w1, w2, ↓reduceIte, zA, zE, bne_tt h4]
   refine R_calls (l := [pt E.m 0, .c (.int .i64 j)]) (by simp only [w1, w2, ↓reduceIte, zA]) (ring_ok h hr hll.1) ?_
   rintro v μ2 ⟨c, rfl, hN, hs2⟩
   have hm2 := (h.next hs2).mfacts
   obtain ⟨ra, rc, hrs⟩ : ∃ a c, L.sc .recs S.recs.length = .slc a S.recs.length c := h.has.scf (r := .recs) (sz := 4) (cs := cat recrow 0 S.recs) rfl (by rw [cat_length recrow_len]) (by omega)
   rw [hrs] at hm2
   obtain ⟨L3, μ3, μ4, e5, e6, h6, s6, k6, hc⟩ := h.pushRing hs2 hN S.recs.length hll.2
   have hq : ({ S with rings := S.rings ++ [⟨S.recs.length, l⟩] } : PM).rings[S.rings.length]? = some ⟨S.recs.length, l⟩ := by simp
   obtain ⟨ca, cc, hcs⟩ := hN.rd.slc
   simp only [w1, w2, zH, zI, ↓reduceIte, zA, zB, zE, hm2, m2, fillc, wr, rep, zJ, zB, zK, List.append_nil, e5, e6]
   rw [hcs] at hc
   simp only [w1, zE, hcs]
   refine tellsLoop (E := E) (μ0 := μ1) (L0 := L) (x := ⟨S.recs.length, l⟩) (q := S.rings.length) hll.1 l.length 0 _ L3 μ4 _ S1 (by simp) (by rw [List.drop_zero]; exact htl) hq h6 s6 k6 hc.symm ?_ ?_ ?_ ?_ ?_
   ·simp only [w1, ↓reduceIte, zA]
   ·simp only [w1, ↓reduceIte, zA]
   ·simp only [w1, ↓reduceIte, zA]
   ·simp only [w1, ↓reduceIte]; rfl
   ·intro fr' L' μ' a1 a2 a3 a4
    simp only [w1, w2, zE, a4]
    refine R_calls (l := [pt E.m 0, .c (.int .i64 (-10))]) (by simp only [w1, w2, ↓reduceIte, zE]) (throw_ok a1 ht) ?_
    rintro v μ5 ⟨L5, h5, s5, k5⟩
    simp only [w1, w2, ↓reduceIte, zE, aRet, aRes, aRes1]
    exact ⟨_, rfl, rfl, L5, h5, (a2.trans s5 (by rw [(tells_keeps htl).2.1]; exact Nat.le_refl _)), a3.trans k5⟩
  ·cases hs

theorem lend_ok (h : Rep E L S μ) {t how : Int} (hs : S.lend t how = some S') : Ret 147 [pt E.m 0, .c (.int .i64 t), .c (.int .i64 how)] μ fun v μ' => After E L S μ S' μ' := by
 unfold PM.lend at hs
 obtain ⟨a, hi, hs⟩ := Option.bind_eq_some_iff.1 hs
 obtain ⟨b, hj, hs⟩ := Option.bind_eq_some_iff.1 hs
 obtain ⟨k, hk, hget⟩ := idx_some hi
 obtain ⟨j, rfl, hgj⟩ := idx_some hj
 rw [hk] at hs hgj
 have hm := h.mfacts
 obtain ⟨μ1, e1, h1, k1⟩ := h.setTask (t' := { a with state := 3 }) hget (o := 1) (new := [.int .i64 3]) rfl (by simp) rfl rfl
 have hm1 := h1.mfacts
 have er1 : (S.put k { a with state := 3 }).run = (k : Int) := hk
 rw [er1] at hm1
 obtain ⟨tb, to, e2, e3⟩ := h1.tasksAt hgj
 obtain ⟨μ2, e4, h2, k2⟩ := h1.setTask (t' := { b with waiter := k }) hgj (o := 3) (new := [.int .i64 k]) rfl (by simp) rfl rfl
 have hm2 := h2.mfacts
 obtain ⟨tb2, to2, e5, e6⟩ := h2.tasksAt (put_at hgj)
 obtain ⟨μ3, e7, h3, k3⟩ := h2.setTask (t' := { b with waiter := k, state := 2 }) (put_at hgj) (o := 1) (new := [.int .i64 2]) rfl (by simp) rfl rfl
 rw [put_put] at h3
 obtain ⟨μ4, e8, h4, k4⟩ := h3.setMach (S' := { (S.put k { a with state := 3 }).put j { b with waiter := k, state := 2 } with run := j }) (o := 3) (new := [.int .i64 j]) rfl (by simp) rfl rfl rfl rfl rfl
 refine Ret_of p147 (by simp [r147]) ?_
 simp only [rI, r147, frOf_3]
 simp only [w1, w2, ↓reduceIte]
 refine R_calls (l := [pt E.m 0]) (by simp only [w1, w2, ↓reduceIte]) (task_ok h hk hget) ?_
 rintro v μ5 ⟨rfl, rfl⟩
 simp only [w1, w2, zH, zI, ↓reduceIte, zA, e1, hm1, e2, e3, e4, hm2, e5, e6, e7, e8]
 refine R_calls (l := [pt E.m 0, .c (.int .i64 2), .c (.int .i64 how), .c (.int .i64 0)]) (by simp only [w1, w2, ↓reduceIte, zA]) (tell_ok h4 hs) ?_
 rintro v μ6 ⟨L6, h6, s6, k6⟩
 simp only [w1, w2, aRet, aRes, toCells]
 exact ⟨_, rfl, L6, h6, s6.cast (by simp only [PM.put, List.length_set]), k1.trans (k2.trans (k3.trans (k4.trans k6)))⟩

theorem hand_ok (h : Rep E L S μ) {state how num flag : Int} (hs : S.hand state how num flag = some S') :
  Ret 145 [pt E.m 0, .c (.int .i64 state), .c (.int .i64 how), .c (.int .i64 num), .c (.int .i64 flag)] μ fun v μ' => After E L S μ S' μ' := by
 unfold PM.hand at hs
 obtain ⟨t, hi, hs⟩ := Option.bind_eq_some_iff.1 hs
 obtain ⟨w, hj, hs⟩ := Option.bind_eq_some_iff.1 hs
 obtain ⟨S2, ht, hs⟩ := Option.bind_eq_some_iff.1 hs
 obtain ⟨x2, hj2, hs⟩ := Option.bind_eq_some_iff.1 hs
 obtain ⟨x3, hw3, hs⟩ := Option.bind_eq_some_iff.1 hs
 obtain ⟨x4, hw4, hs⟩ := Option.map_eq_some_iff.1 hs
 subst hs
 obtain ⟨k, hk, hget⟩ := idx_some hi
 obtain ⟨j, hjw, hgj⟩ := idx_some hj
 obtain ⟨j', hjw', hgj2⟩ := idx_some hj2
 obtain rfl : j' = j := by omega
 rw [hk] at ht hgj
 obtain ⟨μ1, e1, h1, k1⟩ := h.setTask (t' := { t with state := state }) hget (o := 1) (new := [.int .i64 state]) rfl (by simp) rfl rfl
 have htf1 := h1.tfacts (put_at hget)
 obtain ⟨μ2, e2, h2, k2⟩ := h1.setMach (S' := { S.put k { t with state := state } with run := t.waiter }) (o := 3) (new := [.int .i64 t.waiter]) rfl (by simp) rfl rfl rfl rfl rfl
 obtain ⟨μ3, e3, h3, k3⟩ := h2.setTask (t' := { t with state := state, waiter := -1 }) (i := k) (put_at hget) (o := 3) (new := [.int .i64 (-1)]) rfl (by simp) rfl rfl
 have e : ({ S.put k { t with state := state } with run := t.waiter } : PM).put k { t with state := state, waiter := -1 } = { S.put k { t with state := state, waiter := -1 } with run := t.waiter } := by simp [PM.put]
 rw [e] at h3
 obtain ⟨μ4, e4, h4, k4⟩ := h3.setTask (t' := { w with state := 2 }) (i := j') hgj (o := 1) (new := [.int .i64 2]) rfl (by simp) rfl rfl
 refine Ret_of p145 (by simp [r145]) ?_
 simp only [rI, r145, frOf_5]
 simp only [w1, w2, ↓reduceIte, zE]
 refine R_calls (l := [pt E.m 0]) (by simp only [w1, w2, ↓reduceIte]) (task_ok h hk hget) ?_
 rintro v μ5 ⟨rfl, rfl⟩
 simp only [w1, w2, zH, zI, ↓reduceIte, zA, zE, e1, htf1, e2, e3]
 refine R_calls (l := [pt E.m 0]) (by simp only [w1, w2, ↓reduceIte]) (task_ok h3 (k := j') hjw hgj) ?_
 rintro v μ6 ⟨rfl, rfl⟩
 simp only [w1, w2, zH, zI, ↓reduceIte, zA, e4]
 rw [hjw] at ht
 rw [← hjw] at ht
 refine R_calls (l := [pt E.m 0, .c (.int .i64 2), .c (.int .i64 how), .c (.int .i64 0)]) (by simp only [w1, w2, ↓reduceIte, zA]) (tell_ok h4 (by rw [hjw] at ht; rw [hjw]; exact ht)) ?_
 rintro v μ7 ⟨L7, h7, s7, k7⟩
 have hid : L7.id (.task j') = L.id (.task j') := s7.2 j' (by
  have := (List.getElem?_eq_some_iff.1 hgj).1
  simp only [PM.put, List.length_set] at this ⊢; exact this)
 have htf7 := h7.tfacts hgj2
 obtain ⟨a1, μ8, e8, h8, k8⟩ := h7.setReg hgj2 hw3
 have hgj3 := put_at (S := S2) (t' := x3) hgj2
 have htf8 := h8.tfacts hgj3
 obtain ⟨a2, μ9, e9, h9, k9⟩ := h8.setReg hgj3 hw4
 rw [put_put] at h9
 rw [hid] at htf7 htf8
 have e33 : (3 : Int).toNat = 3 := rfl
 rw [e33] at e9 a2
 simp only [w1, w2, zH, zI, ↓reduceIte, zA, htf7, a1, e8, htf8, a2, e9, aRet, aRes, toCells]
 refine ⟨_, rfl, L7, ?_, s7.cast (by simp only [PM.put, List.length_set]), k1.trans (k2.trans (k3.trans (k4.trans (k7.trans (k8.trans k9)))))⟩
 rw [hjw]; exact h9
end
end Go.Proofs.Ytibmnlijoeppaaa.X
