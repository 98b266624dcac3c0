/-
 The reference's machine: resume, giving up, yield, and a task that has ended.
-/
import Derived.Test.YtibmnlijoeppaaaXW3
namespace Go.Proofs.Ytibmnlijoeppaaa.X
open Nat renaming reduceEqDiff → zA, reduceAdd → zB, reduceLeDiff → zJ, reduceMul → zK
open Int renaming reduceLT → zC, reduceLE → zD, reduceNeg → zE, reduceBEq → zF, reduceBNe → zG
open AV renaming isTup → zH, cells → zI
set_option linter.unusedSimpArgs false
set_option linter.unusedVariables false

/-! 135: spec.l2M).resume -/
def r135 : RFun := ⟨66, [], (.seq (.reg [rI 0 (.box (.t 1) 5) 3]) (.seq (.reg [rI 0 (.mv (.t 0)) 8, rI 1 (.fa (.t 3) 2) 9, rI 2 (.ld none (.t 9)) 10, rI 3 (.call 146 [.t 8, .t 10]) 11, rI 4 (.mv (.t 11)) 4]) (.seq (.seq (.reg [rI 0 (.mv (.t 4)) 12, rI 1 (.bin .lss (.t 12) (.k (.int .i64 0))) 13]) (.ite (.t 13) .ret .skip)) (.seq (.reg [rI 0 (.mv (.t 0)) 14, rI 1 (.nc (.t 14)) 15, rI 2 (.fa (.t 15) 2) 16, rI 3 (.ld none (.t 16)) 17, rI 4 (.mv (.t 4)) 18, rI 5 (.ias (.t 17) (.t 18) 1) 19, rI 6 (.ld none (.t 19)) 20, rI 7 (.mv (.t 20)) 5]) (.seq (.reg [rI 0 (.mv (.t 0)) 21, rI 5 (.fa (.t 3) 1) 26, rI 6 (.ld none (.t 26)) 27, ⟨1, .call 130 [.t 21], some 22, none, [.ld 27 none (.t 26)]⟩, rI 2 (.nc (.t 22)) 23, rI 3 (.fa (.t 23) 2) 24, rI 4 (.ld none (.t 24)) 25, rI 7 (.ias (.t 25) (.t 27) 1) 28, rI 8 (.ld none (.t 28)) 29, rI 9 (.mv (.t 29)) 6]) (.seq (.reg [rI 0 (.mv (.t 0)) 30, rI 2 (.fa (.t 3) 1) 32, rI 3 (.ld none (.t 32)) 33, ⟨1, .call 130 [.t 30], some 31, none, [.ld 33 none (.t 32)]⟩, rI 4 (.nc (.t 31)) 34, rI 5 (.fa (.t 34) 4) 35, ⟨6, .st (.t 35) (.t 33) 1, none, none, []⟩]) (.seq (.reg [rI 0 (.mv (.t 5)) 36, rI 1 (.nc (.t 36)) 37, rI 2 (.fa (.t 37) 1) 38, rI 3 (.ld none (.t 38)) 39, rI 4 (.bin .eql (.t 39) (.k (.int .i64 0))) 40, rI 5 (.mv (.t 40)) 7]) (.seq (.reg [rI 0 (.mv (.t 0)) 41, rI 1 (.mv (.t 4)) 42, rI 2 (.call 147 [.t 41, .t 42, .k (.int .i64 1)]) 43]) (.seq (.seq (.reg [rI 0 (.mv (.t 7)) 44]) (.ite (.t 44) (.seq (.reg [rI 0 (.mv (.t 5)) 45, rI 1 (.nc (.t 45)) 46, rI 2 (.fa (.t 46) 2) 47, rI 3 (.ld none (.t 47)) 48, rI 4 (.mv (.t 6)) 49, rI 5 (.ias (.t 48) (.k (.int .i64 0)) 1) 50, ⟨6, .st (.t 50) (.t 49) 1, none, none, []⟩]) (.seq (.reg [rI 0 (.mv (.t 0)) 51, rI 1 (.mv (.t 0)) 52, rI 2 (.call 98 [.t 52]) 53, rI 3 (.len (.t 53)) 54, rI 4 (.call 97 [.t 51, .k (.int .i64 0), .k (.int .i64 0), .k (.int .i64 0), .t 54]) 55]) .ret)) .skip)) (.reg [rI 0 (.mv (.t 5)) 56, rI 1 (.nc (.t 56)) 57, rI 2 (.fa (.t 57) 2) 58, rI 4 (.mv (.t 5)) 60, rI 5 (.nc (.t 60)) 61, rI 6 (.fa (.t 61) 4) 62, rI 8 (.mv (.t 6)) 64, rI 3 (.ld none (.t 58)) 59, rI 7 (.ld none (.t 62)) 63, rI 9 (.ias (.t 59) (.t 63) 1) 65, ⟨10, .st (.t 65) (.t 64) 1, none, none, []⟩]))))))))))⟩
theorem p135 : prog 135 = some r135 := by kernel_rfl

/-! 136: spec.l2M).yield -/
def r136 : RFun := ⟨35, [], (.seq (.reg [rI 0 (.box (.t 1) 5) 3]) (.seq (.reg [rI 0 (.mv (.t 0)) 5, rI 1 (.call 130 [.t 5]) 6, rI 2 (.mv (.t 6)) 4]) (.seq (.seq (.reg [rI 0 (.mv (.t 0)) 7, rI 1 (.nc (.t 7)) 8, rI 2 (.fa (.t 8) 3) 9, rI 3 (.ld none (.t 9)) 10, rI 4 (.bin .eql (.t 10) (.k (.int .i64 0))) 11, rI 5 (.mv (.t 11)) 12, ⟨6, .mv (.t 4), some 13, some (12, false), []⟩, ⟨7, .nc (.t 13), some 14, some (12, false), []⟩, ⟨8, .fa (.t 14) 5, some 15, some (12, false), []⟩, ⟨9, .ld none (.t 15), some 16, some (12, false), []⟩, rI 10 (.pick (.t 12) (.k (.bool true)) (.t 16)) 17]) (.ite (.t 17) (.seq (.reg [rI 0 (.mv (.t 0)) 18, rI 1 (.call 134 [.t 18, .k (.int .i64 (-10))]) 19]) .ret) .skip)) (.seq (.reg [rI 0 (.mv (.t 4)) 20, rI 1 (.fa (.t 3) 1) 21, rI 2 (.ld none (.t 21)) 22, rI 3 (.nc (.t 20)) 23, rI 4 (.fa (.t 23) 4) 24, ⟨5, .st (.t 24) (.t 22) 1, none, none, []⟩]) (.reg [rI 0 (.mv (.t 0)) 25, rI 1 (.mv (.t 4)) 26, rI 2 (.nc (.t 26)) 27, rI 3 (.fa (.t 27) 2) 28, rI 5 (.fa (.t 3) 1) 30, rI 4 (.ld none (.t 28)) 29, rI 6 (.ld none (.t 30)) 31, rI 7 (.ias (.t 29) (.t 31) 1) 32, rI 8 (.ld none (.t 32)) 33, rI 9 (.call 145 [.t 25, .k (.int .i64 1), .k (.int .i64 2), .t 33, .k (.int .i64 1)]) 34])))))⟩
theorem p136 : prog 136 = some r136 := by kernel_rfl

/-! 137: spec.l2M).giveup -/
def r137 : RFun := ⟨56, [], (.seq (.reg [rI 0 (.box (.t 1) 5) 3]) (.seq (.reg [rI 0 (.mv (.t 0)) 6, rI 1 (.fa (.t 3) 2) 7, rI 2 (.ld none (.t 7)) 8, rI 3 (.call 146 [.t 6, .t 8]) 9, rI 4 (.mv (.t 9)) 4]) (.seq (.seq (.reg [rI 0 (.mv (.t 4)) 10, rI 1 (.bin .lss (.t 10) (.k (.int .i64 0))) 11]) (.ite (.t 11) .ret .skip)) (.seq (.reg [rI 0 (.mv (.t 0)) 12, rI 1 (.nc (.t 12)) 13, rI 2 (.fa (.t 13) 2) 14, rI 3 (.ld none (.t 14)) 15, rI 4 (.mv (.t 4)) 16, rI 5 (.ias (.t 15) (.t 16) 1) 17, rI 6 (.ld none (.t 17)) 18, rI 7 (.mv (.t 18)) 5]) (.seq (.seq (.reg [rI 0 (.mv (.t 5)) 19, rI 1 (.nc (.t 19)) 20, rI 2 (.fa (.t 20) 1) 21, rI 3 (.ld none (.t 21)) 22, rI 4 (.bin .eql (.t 22) (.k (.int .i64 0))) 23]) (.ite (.t 23) (.seq (.reg [rI 0 (.mv (.t 5)) 24, rI 1 (.nc (.t 24)) 25, rI 2 (.fa (.t 25) 1) 26, ⟨3, .st (.t 26) (.k (.int .i64 4)) 1, none, none, []⟩]) (.seq (.reg [rI 0 (.mv (.t 0)) 27, rI 5 (.fa (.t 3) 1) 32, rI 6 (.ld none (.t 32)) 33, ⟨1, .call 130 [.t 27], some 28, none, [.ld 33 none (.t 32)]⟩, rI 2 (.nc (.t 28)) 29, rI 3 (.fa (.t 29) 2) 30, rI 4 (.ld none (.t 30)) 31, rI 7 (.ias (.t 31) (.t 33) 1) 34, ⟨8, .st (.t 34) (.k (.int .i64 0)) 1, none, none, []⟩]) (.seq (.reg [rI 0 (.mv (.t 0)) 35, rI 1 (.call 130 [.t 35]) 36, rI 2 (.nc (.t 36)) 37, rI 3 (.fa (.t 37) 2) 38, rI 4 (.ld none (.t 38)) 39, rI 5 (.ias (.t 39) (.k (.int .i64 3)) 1) 40, ⟨6, .st (.t 40) (.k (.int .i64 1)) 1, none, none, []⟩]) .ret))) .skip)) (.seq (.reg [rI 0 (.mv (.t 0)) 41, rI 2 (.fa (.t 3) 1) 43, rI 3 (.ld none (.t 43)) 44, ⟨1, .call 130 [.t 41], some 42, none, [.ld 44 none (.t 43)]⟩, rI 4 (.nc (.t 42)) 45, rI 5 (.fa (.t 45) 4) 46, ⟨6, .st (.t 46) (.t 44) 1, none, none, []⟩]) (.seq (.reg [rI 0 (.mv (.t 5)) 47, rI 1 (.nc (.t 47)) 48, rI 2 (.fa (.t 48) 5) 49, ⟨3, .st (.t 49) (.k (.bool true)) 1, none, none, []⟩]) (.seq (.reg [rI 0 (.mv (.t 0)) 50, rI 1 (.mv (.t 4)) 51, rI 2 (.call 147 [.t 50, .t 51, .k (.int .i64 5)]) 52]) (.reg [rI 0 (.mv (.t 0)) 53, rI 1 (.bld [.int .i64 0, .int .i64 0] [(0, 1, .k (.int .i64 3))]) 54, rI 2 (.call 101 [.t 53, .t 54]) 55])))))))))⟩
theorem p137 : prog 137 = some r137 := by kernel_rfl

/-! 132: spec.l2M).ended -/
def r132 : RFun := ⟨61, [], (.seq (.reg [rI 0 (.box (.t 1) 2) 3]) (.seq (.reg [rI 0 (.mv (.t 0)) 6, rI 1 (.call 130 [.t 6]) 7, rI 2 (.mv (.t 7)) 4]) (.seq (.seq (.reg [rI 0 (.mv (.t 0)) 8, rI 1 (.nc (.t 8)) 9, rI 2 (.fa (.t 9) 3) 10, rI 3 (.ld none (.t 10)) 11, rI 4 (.bin .eql (.t 11) (.k (.int .i64 0))) 12]) (.ite (.t 12) (.seq (.reg [rI 0 (.mv (.t 4)) 13, rI 1 (.nc (.t 13)) 14, rI 2 (.fa (.t 14) 1) 15, ⟨3, .st (.t 15) (.k (.int .i64 4)) 1, none, none, []⟩]) (.seq (.reg [rI 0 (.mv (.t 0)) 16, rI 1 (.nc (.t 16)) 17, rI 2 (.fa (.t 17) 4) 18, ⟨3, .st (.t 18) (.k (.bool true)) 1, none, none, []⟩]) (.seq (.reg [rI 0 (.mv (.t 0)) 19, rI 1 (.fa (.t 3) 1) 20, rI 2 (.ld none (.t 20)) 21, rI 3 (.nc (.t 19)) 22, rI 4 (.fa (.t 22) 5) 23, rI 5 (.fa (.t 23) 2) 24, ⟨6, .st (.t 24) (.t 21) 1, none, none, []⟩]) (.seq (.seq (.reg [rI 0 (.fa (.t 3) 0) 25, rI 1 (.ld none (.t 25)) 26, rI 2 (.bin .eql (.t 26) (.k (.int .i64 2))) 27]) (.ite (.t 27) (.reg [rI 0 (.mv (.t 0)) 28, rI 1 (.nc (.t 28)) 29, rI 2 (.fa (.t 29) 5) 30, rI 3 (.fa (.t 30) 0) 31, ⟨4, .st (.t 31) (.k (.int .i64 1)) 1, none, none, []⟩]) .skip)) .ret)))) .skip)) (.seq (.seq (.reg [rI 0 (.mv (.t 4)) 32, rI 1 (.nc (.t 32)) 33, rI 2 (.fa (.t 33) 5) 34, rI 3 (.ld none (.t 34)) 35]) (.ite (.t 35) (.seq (.reg [rI 0 (.mv (.t 4)) 36, rI 1 (.nc (.t 36)) 37, rI 2 (.fa (.t 37) 5) 38, ⟨3, .st (.t 38) (.k (.bool false)) 1, none, none, []⟩]) (.seq (.reg [rI 0 (.mv (.k (.int .i64 1))) 5]) (.seq (.seq (.reg [rI 0 (.mv (.t 4)) 39, rI 1 (.nc (.t 39)) 40, rI 2 (.fa (.t 40) 6) 41, rI 3 (.ld none (.t 41)) 42]) (.ite (.t 42) (.reg [rI 0 (.mv (.k (.int .i64 0))) 5]) .skip)) (.seq (.reg [rI 0 (.mv (.t 0)) 43, rI 1 (.mv (.t 4)) 44, rI 2 (.nc (.t 44)) 45, rI 3 (.fa (.t 45) 7) 46, rI 4 (.ld none (.t 46)) 47, rI 5 (.mv (.t 5)) 48, rI 6 (.call 145 [.t 43, .k (.int .i64 4), .k (.int .i64 6), .t 47, .t 48]) 49]) .ret)))) .skip)) (.seq (.seq (.reg [rI 0 (.fa (.t 3) 0) 50, rI 1 (.ld none (.t 50)) 51, rI 2 (.bin .eql (.t 51) (.k (.int .i64 2))) 52]) (.ite (.t 52) (.seq (.reg [rI 0 (.mv (.t 0)) 53, rI 1 (.fa (.t 3) 1) 54, rI 2 (.ld none (.t 54)) 55, rI 3 (.call 145 [.t 53, .k (.int .i64 4), .k (.int .i64 4), .t 55, .k (.int .i64 0)]) 56]) .ret) .skip)) (.reg [rI 0 (.mv (.t 0)) 57, rI 1 (.fa (.t 3) 1) 58, rI 2 (.ld none (.t 58)) 59, rI 3 (.call 145 [.t 57, .k (.int .i64 4), .k (.int .i64 3), .t 59, .k (.int .i64 2)]) 60]))))))⟩
theorem p132 : prog 132 = some r132 := by kernel_rfl



section
variable {E : IEnv} {L L' : Lay IR} {S S' : PM} {μ μ' : Mem}

/-- A step kept in a variable. -/
def XAt (μ : Mem) (b : Nat) (x : PStep) : Prop :=
 μ.ld none b 0 = some (.c (.int .i64 x.op)) ∧ μ.ld none b 1 = some (.c (.int .i64 x.a)) ∧ μ.ld none b 2 = some (.c (.int .i64 x.b)) ∧ μ.ld none b 3 = some (.c (.int .i64 x.n)) ∧ μ.ld none b 4 = some (.c (.int .i64 x.size)) ∧
  μ.ld (some 5) b 0 = some (.agg (xcells x))
theorem XAt.new {x : PStep} : XAt (μ.new (xcells x) 0) μ.next x :=
 ⟨new_ld0 rfl, new_ld0 rfl, new_ld0 rfl, new_ld0 rfl, new_ld0 rfl, by rw [Mem.new_ld, if_pos rfl]; rfl⟩
theorem XAt.keep {b : Nat} {x : PStep} (h : XAt μ b x) (k : Keep L μ L' μ') (hb : b < μ.next) (hf : Free L b) : XAt μ' b x := by
 obtain ⟨h0, h1, h2, h3, h4, h5⟩ := h
 exact ⟨(k.ld hb hf).trans h0, (k.ld hb hf).trans h1, (k.ld hb hf).trans h2, (k.ld hb hf).trans h3, (k.ld hb hf).trans h4, (k.ld hb hf).trans h5⟩

theorem mark_keeps {way num : Int} (hs : S.mark way num = some S') : S'.tasks.length = S.tasks.length ∧ S'.run = S.run := by
 unfold PM.mark at hs
 obtain ⟨t, _, hs⟩ := Option.bind_eq_some_iff.1 hs
 obtain ⟨t', _, hs⟩ := Option.map_eq_some_iff.1 hs
 subst hs
 exact ⟨by simp only [PM.put, List.length_set], rfl⟩

theorem lend_keeps {t how : Int} (hs : S.lend t how = some S') : S'.tasks.length = S.tasks.length ∧ S'.run = t := by
 unfold PM.lend at hs
 obtain ⟨a, _, hs⟩ := Option.bind_eq_some_iff.1 hs
 obtain ⟨b, _, hs⟩ := Option.bind_eq_some_iff.1 hs
 obtain ⟨_, e, r⟩ := tell_keeps hs
 exact ⟨by rw [e]; simp only [PM.put, List.length_set], r⟩

theorem throw_run {num : Int} (hs : S.throw num = some S') : S'.run = S.run := by
 unfold PM.throw at hs
 obtain ⟨S1, ht, hs⟩ := Option.bind_eq_some_iff.1 hs
 rw [(mark_keeps hs).2, (tell_keeps ht).2.2]

theorem other_keeps {r n : Int} (hs : S.other r = some (n, S')) : S'.tasks.length = S.tasks.length ∧ S'.run = S.run ∧ (0 ≤ n → S' = S) := by
 unfold PM.other at hs
 obtain ⟨t, _, hs⟩ := Option.bind_eq_some_iff.1 hs
 obtain ⟨y, _, hs⟩ := Option.bind_eq_some_iff.1 hs
 split at hs
 ·obtain ⟨S1, ht, hs⟩ := Option.map_eq_some_iff.1 hs
  simp only [Prod.mk.injEq] at hs
  obtain ⟨rfl, rfl⟩ := hs
  exact ⟨throw_len ht, throw_run ht, fun hh => by omega⟩
 ·obtain ⟨u, _, hs⟩ := Option.bind_eq_some_iff.1 hs
  split at hs
  ·simp only [Option.some.injEq, Prod.mk.injEq] at hs
   obtain ⟨rfl, rfl⟩ := hs
   exact ⟨rfl, rfl, fun _ => rfl⟩
  ·split at hs
   ·obtain ⟨l, _, hs⟩ := Option.bind_eq_some_iff.1 hs
    split at hs
    ·obtain ⟨S1, htl, hs⟩ := Option.bind_eq_some_iff.1 hs
     obtain ⟨S2, ht, hs⟩ := Option.map_eq_some_iff.1 hs
     simp only [Prod.mk.injEq] at hs
     obtain ⟨rfl, rfl⟩ := hs
     obtain ⟨_, a, b⟩ := tells_keeps htl
     exact ⟨by rw [throw_len ht, a], by rw [throw_run ht, b], fun hh => by omega⟩
    ·cases hs
   ·obtain ⟨S2, ht, hs⟩ := Option.map_eq_some_iff.1 hs
    simp only [Prod.mk.injEq] at hs
    obtain ⟨rfl, rfl⟩ := hs
    exact ⟨throw_len ht, throw_run ht, fun hh => by omega⟩

theorem resume_ok (h : Rep E L S μ) {x : PStep} (hs : S.resume E.plan x = some S') : Ret 135 [pt E.m 0, .agg (xcells x)] μ fun v μ' => After E L S μ S' μ' := by
 unfold PM.resume at hs
 obtain ⟨⟨y, S1⟩, ho, hs1⟩ := Option.bind_eq_some_iff.1 hs
 simp only at hs1
 refine Ret_of p135 (by simp [r135]) ?_
 simp only [rI, r135, frOf_2]
 simp only [w1, w2, zH, zI, ↓reduceIte, zA, zB]
 have h1 : Rep E L S (μ.new (xcells x) 0) := h.tmp
 have hx1 : XAt (μ.new (xcells x) 0) μ.next x := XAt.new
 have hf1 : Free L μ.next := h.free (Nat.le_refl _)
 have hb1 : μ.next < (μ.new (xcells x) 0).next := Nat.lt_succ_self _
 have k1 : Keep L μ L (μ.new (xcells x) 0) := Keep.tmp
 simp only [xcells] at h1 hx1 hb1 k1
 generalize μ.new [.int .i64 x.op, .int .i64 x.a, .int .i64 x.b, .int .i64 x.n, .int .i64 x.size] 0 = μ1 at *
 have hx1' := hx1
 unfold XAt at hx1'
 simp only [w2, hx1']
 refine R_calls (l := [pt E.m 0, .c (.int .i64 x.b)]) (by simp only [w1, w2, ↓reduceIte, zA]) (other_ok h1 ho) ?_
 rintro v μ2 ⟨rfl, L2, h2, s2, k2⟩
 by_cases hy : y < 0
 ·rw [if_pos hy] at hs1
  simp only [Option.some.injEq] at hs1
  subst hs1
  simp only [w1, w2, ↓reduceIte, decide_eq_true hy, aRet, aRes, toCells]
  exact ⟨_, rfl, L2, h2, s2, k1.trans k2⟩
 rw [if_neg hy] at hs1
 obtain rfl : S1 = S := (other_keeps ho).2.2 (by omega)
 obtain ⟨u, hiu, hs2⟩ := Option.bind_eq_some_iff.1 hs1
 obtain ⟨t, hit, hs3⟩ := Option.bind_eq_some_iff.1 hs2
 obtain ⟨v, hv, hs4⟩ := Option.bind_eq_some_iff.1 hs3
 obtain ⟨u1, hiu1, hs5⟩ := Option.bind_eq_some_iff.1 hs4
 obtain ⟨S2, hlend, hs6⟩ := Option.bind_eq_some_iff.1 hs5
 obtain ⟨j, rfl, hgu⟩ := idx_some hiu
 obtain ⟨k, hk, hgt⟩ := idx_some hit
 obtain ⟨j', hj', hgu1⟩ := idx_some hiu1
 obtain rfl : j' = j := by omega
 rw [hk] at hgu1 hlend
 have hx2 := hx1.keep k2 hb1 hf1
 have hx2' := hx2
 unfold XAt at hx2'
 have hf2 := k2.free hb1 hf1
 have hb2 : μ.next < μ2.next := Nat.lt_of_lt_of_le hb1 k2.next
 have hmf := h2.mfacts
 have htf := h2.tfacts hgt
 obtain ⟨tb, to, e1, e2⟩ := h2.tasksAt hgu
 obtain ⟨a1, l1⟩ := h2.ldreg hgt hv
 obtain ⟨μ3, e3, h3, k3⟩ := h2.setTask (t' := { t with into := x.a }) hgt (o := 4) (new := [.int .i64 x.a]) rfl (by simp) rfl rfl
 have huf := h3.tfacts hgu1
 simp only [w1, w2, ↓reduceIte, zA, decide_eq_false hy, hmf, e1, e2, hx2']
 refine R_callre (l := [pt E.m 0]) (by simp only [w1, w2, ↓reduceIte, zA]) (task_ok h2 hk hgt) ?_
 rintro v' μ4 ⟨rfl, rfl⟩
 refine ⟨by simp only [List.all_cons, List.all_nil, Bool.and_true, Re.holds, w1, ↓reduceIte, zA, hx2', beq_self_eq_true], ?_⟩
 simp only [w1, w2, ↓reduceIte, zA, htf, a1, l1, hx2']
 refine R_callre (l := [pt E.m 0]) (by simp only [w1, w2, ↓reduceIte, zA]) (task_ok h2 hk hgt) ?_
 rintro v' μ5 ⟨rfl, rfl⟩
 refine ⟨by simp only [List.all_cons, List.all_nil, Bool.and_true, Re.holds, w1, ↓reduceIte, zA, hx2', beq_self_eq_true], ?_⟩
 simp only [w1, w2, zH, zI, ↓reduceIte, zA, e3, huf]
 refine R_calls (l := [pt E.m 0, .c (.int .i64 j'), .c (.int .i64 1)]) (by simp only [w1, w2, ↓reduceIte, zA]) (lend_ok h3 hlend) ?_
 rintro v' μ6 ⟨L6, h6, s6, k6⟩
 have hid6 : L6.id (.task j') = L2.id (.task j') := s6.2 j' (List.getElem?_eq_some_iff.1 hgu1).1
 have kall := k1.trans (k2.trans (k3.trans k6))
 have sall : Stay S1 L L6 := (s2.trans s6.put (Nat.le_refl _))
 have hlen2 : S2.tasks.length = S1.tasks.length := by rw [(lend_keeps hlend).1]; simp only [PM.put, List.length_set]
 by_cases hu0 : u1.state = 0
 ·rw [if_pos hu0] at hs6
  obtain ⟨q, hiq, hs7⟩ := Option.bind_eq_some_iff.1 hs6
  obtain ⟨q1, hsq, hs8⟩ := Option.bind_eq_some_iff.1 hs7
  obtain ⟨w, hiw, hs9⟩ := Option.bind_eq_some_iff.1 hs8
  obtain ⟨l, hl, hs10⟩ := Option.bind_eq_some_iff.1 hs9
  obtain ⟨j2, hj2, hgq⟩ := idx_some hiq
  obtain rfl : j2 = j' := by omega
  have hqf := h6.tfacts hgq
  obtain ⟨a3, μ7, e7, h7, k7⟩ := h6.setReg hgq hsq
  obtain ⟨kw, hkw, hgw⟩ := idx_some hiw
  obtain ⟨xs, hxs, hst⟩ := steps_ok h7 hkw hgw hl
  obtain ⟨xa, xc, rfl⟩ := hxs.slc
  rw [hid6] at hqf
  have e00 : (0 : Int).toNat = 0 := rfl
  rw [e00] at e7 a3
  simp only [w1, w2, zH, zI, ↓reduceIte, zA, beq_tt hu0, hqf, a3, e7]
  refine R_calls (l := [pt E.m 0]) (by simp only [w1, w2, ↓reduceIte]) hst ?_
  rintro v' μ8 ⟨rfl, rfl⟩
  simp only [w1, ↓reduceIte]
  refine R_calls (l := [pt E.m 0, .c (.int .i64 0), .c (.int .i64 0), .c (.int .i64 0), .c (.int .i64 l.length)]) (by simp only [w1, w2, ↓reduceIte, zA]) (opens_ok h7 hs10) ?_
  rintro v' μ9 ⟨L9, h9, s9, k9⟩
  simp only [w1, w2, aRet, aRes, toCells]
  exact ⟨_, rfl, L9, h9, sall.trans s9.put (by rw [hlen2]; exact Nat.le_refl _), kall.trans (k7.trans k9)⟩
 ·rw [if_neg hu0] at hs6
  obtain ⟨q, hiq, hs7⟩ := Option.bind_eq_some_iff.1 hs6
  obtain ⟨q1, hsq, hs8⟩ := Option.map_eq_some_iff.1 hs7
  subst hs8
  obtain ⟨j2, hj2, hgq⟩ := idx_some hiq
  obtain rfl : j2 = j' := by omega
  have hqf := h6.tfacts hgq
  obtain ⟨a3, μ7, e7, h7, k7⟩ := h6.setReg hgq hsq
  rw [hid6] at hqf
  simp only [w1, w2, zH, zI, ↓reduceIte, zA, beq_ff hu0, hqf, a3, e7, aRet, aRes, toCells]
  exact ⟨_, rfl, L6, h7, sall, kall.trans k7⟩

theorem giveUp_ok (h : Rep E L S μ) {x : PStep} (hs : S.giveUp x = some S') : Ret 137 [pt E.m 0, .agg (xcells x)] μ fun v μ' => After E L S μ S' μ' := by
 unfold PM.giveUp at hs
 obtain ⟨⟨y, S1⟩, ho, hs1⟩ := Option.bind_eq_some_iff.1 hs
 simp only at hs1
 refine Ret_of p137 (by simp [r137]) ?_
 simp only [rI, r137, frOf_2]
 simp only [w1, w2, zH, zI, ↓reduceIte, zA, zB]
 have h1 : Rep E L S (μ.new (xcells x) 0) := h.tmp
 have hx1 : XAt (μ.new (xcells x) 0) μ.next x := XAt.new
 have hf1 : Free L μ.next := h.free (Nat.le_refl _)
 have hb1 : μ.next < (μ.new (xcells x) 0).next := Nat.lt_succ_self _
 have k1 : Keep L μ L (μ.new (xcells x) 0) := Keep.tmp
 simp only [xcells] at h1 hx1 hb1 k1
 generalize μ.new [.int .i64 x.op, .int .i64 x.a, .int .i64 x.b, .int .i64 x.n, .int .i64 x.size] 0 = μ1 at *
 have hx1' := hx1
 unfold XAt at hx1'
 simp only [w2, hx1']
 refine R_calls (l := [pt E.m 0, .c (.int .i64 x.b)]) (by simp only [w1, w2, ↓reduceIte, zA]) (other_ok h1 ho) ?_
 rintro v μ2 ⟨rfl, L2, h2, s2, k2⟩
 by_cases hy : y < 0
 ·rw [if_pos hy] at hs1
  simp only [Option.some.injEq] at hs1
  subst hs1
  simp only [w1, w2, ↓reduceIte, decide_eq_true hy, aRet, aRes, toCells]
  exact ⟨_, rfl, L2, h2, s2, k1.trans k2⟩
 rw [if_neg hy] at hs1
 obtain rfl : S1 = S := (other_keeps ho).2.2 (by omega)
 obtain ⟨u, hiu, hs2⟩ := Option.bind_eq_some_iff.1 hs1
 obtain ⟨j, rfl, hgu⟩ := idx_some hiu
 have hx2 := hx1.keep k2 hb1 hf1
 have hx2' := hx2
 unfold XAt at hx2'
 have hf2 := k2.free hb1 hf1
 have hb2 : μ.next < μ2.next := Nat.lt_of_lt_of_le hb1 k2.next
 have hmf := h2.mfacts
 have huf := h2.tfacts hgu
 obtain ⟨tb, to, e1, e2⟩ := h2.tasksAt hgu
 simp only [w1, w2, ↓reduceIte, zA, decide_eq_false hy, hmf, e1, e2, huf]
 by_cases hu0 : u.state = 0
 ·rw [if_pos hu0] at hs2
  obtain ⟨t, hit, hs3⟩ := Option.bind_eq_some_iff.1 hs2
  obtain ⟨t1, hr1, hs4⟩ := Option.bind_eq_some_iff.1 hs3
  obtain ⟨t2, hr2, hs5⟩ := Option.map_eq_some_iff.1 hs4
  subst hs5
  obtain ⟨k, hk, hgt⟩ := idx_some hit
  obtain ⟨μ3, e3, h3, k3⟩ := h2.setTask (t' := { u with state := 4 }) hgu (o := 1) (new := [.int .i64 4]) rfl (by simp) rfl rfl
  have hx3 := hx2.keep k3 hb2 hf2
  have hx3' := hx3
  unfold XAt at hx3'
  have htf := h3.tfacts hgt
  obtain ⟨a4, μ4, e4, h4, k4⟩ := h3.setReg hgt hr1
  have htf4 := h4.tfacts (put_at hgt)
  obtain ⟨a5, μ5, e5, h5, k5⟩ := h4.setReg (put_at hgt) hr2
  rw [put_put] at h5
  have e33 : (3 : Int).toNat = 3 := rfl
  rw [e33] at e5 a5
  simp only [w1, w2, zH, zI, ↓reduceIte, zA, beq_tt hu0, e3, hx3']
  refine R_callre (l := [pt E.m 0]) (by simp only [w1, w2, ↓reduceIte, zA]) (task_ok h3 hk hgt) ?_
  rintro v' μ6 ⟨rfl, rfl⟩
  refine ⟨by simp only [List.all_cons, List.all_nil, Bool.and_true, Re.holds, w1, ↓reduceIte, zA, hx3', beq_self_eq_true], ?_⟩
  simp only [w1, w2, zH, zI, ↓reduceIte, zA, htf, a4, e4]
  refine R_calls (l := [pt E.m 0]) (by simp only [w1, w2, ↓reduceIte]) (task_ok h4 (k := k) hk (put_at hgt)) ?_
  rintro v' μ7 ⟨rfl, rfl⟩
  simp only [w1, w2, zH, zI, ↓reduceIte, htf4, a5, e5, aRet, aRes, toCells]
  rw [hk]
  exact ⟨_, rfl, L2, h5, s2, k1.trans (k2.trans (k3.trans (k4.trans k5)))⟩
 ·rw [if_neg hu0] at hs2
  obtain ⟨t, hit, hs3⟩ := Option.bind_eq_some_iff.1 hs2
  obtain ⟨q, hiq, hs4⟩ := Option.bind_eq_some_iff.1 hs3
  obtain ⟨S2, hlend, hmark⟩ := Option.bind_eq_some_iff.1 hs4
  obtain ⟨k, hk, hgt⟩ := idx_some hit
  obtain ⟨j', hj', hgq⟩ := idx_some hiq
  obtain rfl : j' = j := by omega
  rw [hk] at hgq hlend
  obtain ⟨μ3, e3, h3, k3⟩ := h2.setTask (t' := { t with into := x.a }) hgt (o := 4) (new := [.int .i64 x.a]) rfl (by simp) rfl rfl
  obtain ⟨μ4, e4, h4, k4⟩ := h3.setTask (t' := { q with given := true }) hgq (o := 5) (new := [.bool true]) rfl (by simp) rfl rfl
  simp only [w1, w2, ↓reduceIte, zA, beq_ff hu0, hx2']
  refine R_callre (l := [pt E.m 0]) (by simp only [w1, w2, ↓reduceIte, zA]) (task_ok h2 hk hgt) ?_
  rintro v' μ6 ⟨rfl, rfl⟩
  refine ⟨by simp only [List.all_cons, List.all_nil, Bool.and_true, Re.holds, w1, ↓reduceIte, zA, hx2', beq_self_eq_true], ?_⟩
  simp only [w1, w2, zH, zI, ↓reduceIte, zA, e3, e4]
  refine R_calls (l := [pt E.m 0, .c (.int .i64 j'), .c (.int .i64 5)]) (by simp only [w1, w2, ↓reduceIte, zA]) (lend_ok h4 hlend) ?_
  rintro v' μ7 ⟨L7, h7, s7, k7⟩
  simp only [w1, w2, ↓reduceIte, zA]
  refine R_calls (l := [pt E.m 0, .agg [.int .i64 3, .int .i64 0]]) (by simp only [w1, w2, zI, ↓reduceIte, zA, m2, wr]) (mark_ok h7 hmark) ?_
  rintro v' μ8 ⟨h8, k8⟩
  simp only [w1, w2, zI, aRet, aRes, toCells]
  exact ⟨_, rfl, L7, h8, s2.trans s7.put.put (Nat.le_refl _), k1.trans (k2.trans (k3.trans (k4.trans (k7.trans k8))))⟩

theorem yield_ok (h : Rep E L S μ) {x : PStep} (hs : S.yield x = some S') : Ret 136 [pt E.m 0, .agg (xcells x)] μ fun v μ' => After E L S μ S' μ' := by
 unfold PM.yield at hs
 obtain ⟨t, hit, hs1⟩ := Option.bind_eq_some_iff.1 hs
 obtain ⟨k, hk, hgt⟩ := idx_some hit
 refine Ret_of p136 (by simp [r136]) ?_
 simp only [rI, r136, frOf_2]
 simp only [w1, w2, zH, zI, ↓reduceIte, zA, zB, zE]
 have h1 : Rep E L S (μ.new (xcells x) 0) := h.tmp
 have hx1 : XAt (μ.new (xcells x) 0) μ.next x := XAt.new
 have hf1 : Free L μ.next := h.free (Nat.le_refl _)
 have hb1 : μ.next < (μ.new (xcells x) 0).next := Nat.lt_succ_self _
 have k1 : Keep L μ L (μ.new (xcells x) 0) := Keep.tmp
 simp only [xcells] at h1 hx1 hb1 k1
 generalize μ.new [.int .i64 x.op, .int .i64 x.a, .int .i64 x.b, .int .i64 x.n, .int .i64 x.size] 0 = μ1 at *
 have hmf := h1.mfacts
 have htf := h1.tfacts hgt
 refine R_calls (l := [pt E.m 0]) (by simp only [w1, w2, ↓reduceIte]) (task_ok h1 hk hgt) ?_
 rintro v μ2 ⟨rfl, rfl⟩
 have thr : ∀ (fr : Fr), S.throw (-10) = some S' → fr 0 = pt E.m 0 → Ret 134 [pt E.m 0, .c (.int .i64 (-10))] μ2 fun v μ' => After E L S μ2 S' μ' := fun fr ht _ => throw_ok h1 ht
 by_cases hz : S.run = 0
 ·rw [if_pos (.inl hz)] at hs1
  simp only [w1, w2, ↓reduceIte, zA, zE, hmf, beq_tt hz]
  refine R_calls (l := [pt E.m 0, .c (.int .i64 (-10))]) (by simp only [w1, w2, ↓reduceIte, zE]) (throw_ok h1 hs1) ?_
  rintro v μ3 ⟨L3, h3, s3, k3⟩
  simp only [w1, w2, aRet, aRes, toCells]
  exact ⟨_, rfl, L3, h3, s3, k1.trans k3⟩
 by_cases hg : t.given = true
 ·rw [if_pos (.inr hg)] at hs1
  simp only [w1, w2, ↓reduceIte, zA, zE, hmf, beq_ff hz, htf, hg]
  refine R_calls (l := [pt E.m 0, .c (.int .i64 (-10))]) (by simp only [w1, w2, ↓reduceIte, zE]) (throw_ok h1 hs1) ?_
  rintro v μ3 ⟨L3, h3, s3, k3⟩
  simp only [w1, w2, aRet, aRes, toCells]
  exact ⟨_, rfl, L3, h3, s3, k1.trans k3⟩
 rw [if_neg (by intro hh; rcases hh with hh | hh; exact hz hh; exact hg hh)] at hs1
 obtain ⟨v, hv, hs2⟩ := Option.bind_eq_some_iff.1 hs1
 have hg' : t.given = false := by simpa using hg
 rw [hk] at hs2
 obtain ⟨μ3, e3, h3, k3⟩ := h1.setTask (t' := { t with into := x.a }) hgt (o := 4) (new := [.int .i64 x.a]) rfl (by simp) rfl rfl
 have htf3 := h3.tfacts (put_at hgt)
 have hx1' := hx1
 unfold XAt at hx1'
 have hx3 := hx1.keep k3 hb1 hf1
 have hx3' := hx3
 unfold XAt at hx3'
 obtain ⟨a1, l1⟩ := h3.ldreg (put_at hgt) (a := x.a) (v := v) hv
 simp only [w1, w2, zH, zI, ↓reduceIte, zA, zE, hmf, beq_ff hz, htf, hg', hx1', e3, htf3, hx3', a1, l1]
 refine R_calls (l := [pt E.m 0, .c (.int .i64 1), .c (.int .i64 2), .c (.int .i64 v), .c (.int .i64 1)]) (by simp only [w1, w2, ↓reduceIte, zA]) (hand_ok h3 hs2) ?_
 rintro v' μ4 ⟨L4, h4, s4, k4⟩
 simp only [w1, w2, aRet, aRes, toCells]
 exact ⟨_, rfl, L4, h4, s4.put, k1.trans (k3.trans k4)⟩

/-- A task has no block left. -/
theorem ended_ok (h : Rep E L S μ) {way num : Int} (hs : S.ended way num = some S') : Ret 132 [pt E.m 0, .agg [.int .i64 way, .int .i64 num]] μ fun v μ' => After E L S μ S' μ' := by
 unfold PM.ended at hs
 obtain ⟨t, hit, hs1⟩ := Option.bind_eq_some_iff.1 hs
 obtain ⟨k, hk, hgt⟩ := idx_some hit
 refine Ret_of p132 (by simp [r132]) ?_
 simp only [rI, r132, frOf_2]
 simp only [w1, w2, zH, zI, ↓reduceIte, zA, zB]
 have h1 : Rep E L S (μ.new [.int .i64 way, .int .i64 num] 0) := h.tmp
 have l0 : (μ.new [.int .i64 way, .int .i64 num] 0).ld none μ.next 0 = some (.c (.int .i64 way)) := new_ld0 rfl
 have l1 : (μ.new [.int .i64 way, .int .i64 num] 0).ld none μ.next 1 = some (.c (.int .i64 num)) := new_ld0 rfl
 have hf1 : Free L μ.next := h.free (Nat.le_refl _)
 have hb1 : μ.next < (μ.new [.int .i64 way, .int .i64 num] 0).next := Nat.lt_succ_self _
 have k1 : Keep L μ L (μ.new [.int .i64 way, .int .i64 num] 0) := Keep.tmp
 generalize μ.new [.int .i64 way, .int .i64 num] 0 = μ1 at *
 have hmf := h1.mfacts
 have htf := h1.tfacts hgt
 refine R_calls (l := [pt E.m 0]) (by simp only [w1, w2, ↓reduceIte]) (task_ok h1 hk hgt) ?_
 rintro v μ2 ⟨rfl, rfl⟩
 by_cases hz : S.run = 0
 ·rw [if_pos hz, hk] at hs1
  simp only [Option.some.injEq] at hs1
  subst hs1
  obtain ⟨μ3, e3, h3, k3⟩ := h1.setTask (t' := { t with state := 4 }) hgt (o := 1) (new := [.int .i64 4]) rfl (by simp) rfl rfl
  obtain ⟨μ4, e4, h4, k4⟩ := h3.setMach (S' := { S.put k { t with state := 4 } with over := true }) (o := 4) (new := [.bool true]) rfl (by simp) rfl rfl rfl rfl rfl
  obtain ⟨μ5, e5, h5, k5⟩ := h4.setMach (S' := { S.put k { t with state := 4 } with over := true, num := num }) (o := 7) (new := [.int .i64 num]) rfl (by simp) rfl rfl rfl rfl rfl
  have l4 := ((k3.trans k4).ld (n := none) (o := 1) hb1 hf1).trans l1
  have l5 := ((k3.trans (k4.trans k5)).ld (n := none) (o := 0) hb1 hf1).trans l0
  simp only [w1, w2, zH, zI, ↓reduceIte, zA, zB, hmf, beq_tt hz, e3, e4, l4, e5, l5]
  by_cases hw : way = 2
  ·rw [if_pos hw]
   obtain ⟨μ6, e6, h6, k6⟩ := h5.setMach (S' := { S.put k { t with state := 4 } with over := true, num := num, code := 1 }) (o := 5) (new := [.int .i64 1]) rfl (by simp) rfl rfl rfl rfl rfl
   simp only [w1, w2, zH, zI, ↓reduceIte, zA, zB, beq_tt hw, e6, aRet, aRes, toCells]
   exact ⟨_, rfl, L, h6, Stay.refl, k1.trans (k3.trans (k4.trans (k5.trans k6)))⟩
  ·rw [if_neg hw]
   simp only [w1, w2, beq_ff hw, aRet, aRes, toCells]
   exact ⟨_, rfl, L, h5, Stay.refl, k1.trans (k3.trans (k4.trans k5))⟩
 rw [if_neg hz] at hs1
 simp only [w1, w2, ↓reduceIte, zA, hmf, beq_ff hz, htf]
 by_cases hg : t.given = true
 ·rw [if_pos hg, hk] at hs1
  obtain ⟨μ3, e3, h3, k3⟩ := h1.setTask (t' := { t with given := false }) hgt (o := 5) (new := [.bool false]) rfl (by simp) rfl rfl
  have htf3 := h3.tfacts (put_at hgt)
  simp only [w1, w2, zH, zI, ↓reduceIte, zA, hg, e3, htf3]
  by_cases hd : t.drops = true
  ·rw [if_pos hd] at hs1
   simp only [w1, w2, ↓reduceIte, zA, hd, htf3]
   refine R_calls (l := [pt E.m 0, .c (.int .i64 4), .c (.int .i64 6), .c (.int .i64 t.drop), .c (.int .i64 0)]) (by simp only [w1, w2, ↓reduceIte, zA]) (hand_ok h3 hs1) ?_
   rintro v μ4 ⟨L4, h4, s4, k4⟩
   simp only [w1, w2, aRet, aRes, toCells]
   exact ⟨_, rfl, L4, h4, s4.put, k1.trans (k3.trans k4)⟩
  ·rw [if_neg hd] at hs1
   have hd' : t.drops = false := by simpa using hd
   simp only [w1, w2, ↓reduceIte, zA, hd', htf3]
   refine R_calls (l := [pt E.m 0, .c (.int .i64 4), .c (.int .i64 6), .c (.int .i64 t.drop), .c (.int .i64 1)]) (by simp only [w1, w2, ↓reduceIte, zA]) (hand_ok h3 hs1) ?_
   rintro v μ4 ⟨L4, h4, s4, k4⟩
   simp only [w1, w2, aRet, aRes, toCells]
   exact ⟨_, rfl, L4, h4, s4.put, k1.trans (k3.trans k4)⟩
 ·rw [if_neg hg] at hs1
  have hg' : t.given = false := by simpa using hg
  simp only [w1, w2, ↓reduceIte, zA, hg', l0]
  by_cases hw : way = 2
  ·rw [if_pos hw] at hs1
   simp only [w1, w2, ↓reduceIte, zA, beq_tt hw, l1]
   refine R_calls (l := [pt E.m 0, .c (.int .i64 4), .c (.int .i64 4), .c (.int .i64 num), .c (.int .i64 0)]) (by simp only [w1, w2, ↓reduceIte, zA]) (hand_ok h1 hs1) ?_
   rintro v μ4 ⟨L4, h4, s4, k4⟩
   simp only [w1, w2, aRet, aRes, toCells]
   exact ⟨_, rfl, L4, h4, s4, k1.trans k4⟩
  ·rw [if_neg hw] at hs1
   simp only [w1, w2, ↓reduceIte, zA, beq_ff hw, l1]
   refine R_calls (l := [pt E.m 0, .c (.int .i64 4), .c (.int .i64 3), .c (.int .i64 num), .c (.int .i64 2)]) (by simp only [w1, w2, ↓reduceIte, zA]) (hand_ok h1 hs1) ?_
   rintro v μ4 ⟨L4, h4, s4, k4⟩
   simp only [w1, w2, aRet, aRes, toCells]
   exact ⟨_, rfl, L4, h4, s4, k1.trans k4⟩
end
end Go.Proofs.Ytibmnlijoeppaaa.X
