/-
 The program's machine: resume, yield and giving up.
-/
import Derived.Test.YtibmnlijoeppaaaIW4
namespace Go.Proofs.Ytibmnlijoeppaaa
open Nat renaming reduceEqDiff → zA, reduceAdd → zB, reduceLeDiff → zJ, reduceMul → zK
open Int renaming reduceLT → zC, reduceLE → zD, reduceNeg → zE, reduceBEq → zF, reduceBNe → zG
open AV renaming isTup → zH, cells → zI
set_option linter.unusedSimpArgs false
set_option linter.unusedVariables false

/-! 118: impl.machine).resume -/
def r118 : RFun := ⟨77, [], (.seq (.reg [rI 0 (.box (.t 1) 5) 3]) (.seq (.reg [rI 0 (.mv (.t 0)) 9, rI 1 (.call 112 [.t 9]) 10, rI 2 (.mv (.t 10)) 4]) (.seq (.reg [rI 0 (.mv (.t 4)) 11, rI 1 (.fa (.t 3) 2) 12, rI 3 (.nc (.t 11)) 14, rI 4 (.fa (.t 14) 2) 15, rI 2 (.ld none (.t 12)) 13, rI 5 (.iaa (.t 15) (.t 13) 4 1) 16, rI 6 (.ld none (.t 16)) 17, rI 7 (.mv (.t 17)) 5]) (.seq (.seq (.reg [rI 0 (.mv (.t 0)) 18, rI 1 (.mv (.t 5)) 19, rI 2 (.call 142 [.t 18, .t 19]) 20, rI 3 (.nt (.t 20)) 21]) (.ite (.t 21) .ret .skip)) (.seq (.reg [rI 0 (.mv (.t 4)) 22, rI 1 (.fa (.t 3) 1) 23, rI 3 (.nc (.t 22)) 25, rI 4 (.fa (.t 25) 2) 26, rI 2 (.ld none (.t 23)) 24, rI 5 (.iaa (.t 26) (.t 24) 4 1) 27, rI 6 (.ld none (.t 27)) 28, rI 7 (.mv (.t 28)) 6]) (.seq (.reg [rI 0 (.mv (.t 0)) 29, rI 1 (.nc (.t 29)) 30, rI 2 (.fa (.t 30) 3) 31, rI 3 (.ld none (.t 31)) 32, rI 4 (.mv (.t 5)) 33, rI 5 (.ias (.t 32) (.t 33) 1) 34, rI 6 (.ld none (.t 34)) 35, rI 7 (.mv (.t 35)) 7]) (.seq (.reg [rI 0 (.mv (.t 7)) 36, rI 1 (.nc (.t 36)) 37, rI 2 (.fa (.t 37) 1) 38, rI 3 (.ld none (.t 38)) 39, rI 4 (.bin .eql (.t 39) (.k (.int .i64 0))) 40, rI 5 (.mv (.t 40)) 8]) (.seq (.reg [rI 0 (.mv (.t 4)) 41, rI 1 (.mv (.t 4)) 42, rI 2 (.mv (.t 7)) 43, rI 4 (.mv (.t 0)) 45, rI 5 (.nc (.t 45)) 46, rI 6 (.fa (.t 46) 4) 47, rI 3 (.ld (some 5) (.t 3)) 44, rI 7 (.ld none (.t 47)) 48, rI 8 (.nc (.t 41)) 49, rI 9 (.fa (.t 49) 1) 50, ⟨10, .st (.t 50) (.k (.int .i64 3)) 1, none, none, [.ld 44 (some 5) (.t 3)]⟩, rI 11 (.nc (.t 42)) 51, rI 12 (.fa (.t 51) 7) 52, ⟨13, .st (.t 52) (.t 44) 5, none, none, []⟩, rI 14 (.nc (.t 43)) 53, rI 15 (.fa (.t 53) 6) 54, ⟨16, .st (.t 54) (.t 48) 1, none, none, []⟩]) (.seq (.reg [rI 0 (.mv (.t 0)) 55, rI 1 (.mv (.t 5)) 56, rI 2 (.call 143 [.t 55, .t 56, .k (.int .i64 1)]) 57]) (.seq (.seq (.reg [rI 0 (.mv (.t 8)) 58]) (.ite (.t 58) (.seq (.reg [rI 0 (.mv (.t 0)) 59, rI 1 (.mv (.t 7)) 60, rI 2 (.call 92 [.t 59, .t 60]) 61]) (.seq (.reg [rI 0 (.mv (.t 7)) 62, rI 1 (.mv (.t 6)) 63, rI 2 (.nc (.t 62)) 64, rI 3 (.fa (.t 64) 2) 65, rI 4 (.iaa (.t 65) (.k (.int .i64 0)) 4 1) 66, ⟨5, .st (.t 66) (.t 63) 1, none, none, []⟩]) .ret)) .skip)) (.reg [rI 0 (.mv (.t 7)) 67, rI 1 (.mv (.t 7)) 68, rI 2 (.nc (.t 68)) 69, rI 3 (.fa (.t 69) 7) 70, rI 4 (.fa (.t 70) 1) 71, rI 6 (.mv (.t 6)) 73, rI 7 (.nc (.t 67)) 74, rI 8 (.fa (.t 74) 2) 75, rI 5 (.ld none (.t 71)) 72, rI 9 (.iaa (.t 75) (.t 72) 4 1) 76, ⟨10, .st (.t 76) (.t 73) 1, none, none, []⟩])))))))))))⟩
theorem p118 : prog 118 = some r118 := by kernel_rfl

/-! 119: impl.machine).yield -/
def r119 : RFun := ⟨68, [], (.seq (.reg [rI 0 (.box (.t 1) 5) 3]) (.seq (.reg [rI 0 (.mv (.t 0)) 8, rI 1 (.call 112 [.t 8]) 9, rI 2 (.mv (.t 9)) 4]) (.seq (.seq (.reg [rI 0 (.mv (.t 0)) 10, rI 1 (.nc (.t 10)) 11, rI 2 (.fa (.t 11) 4) 12, rI 3 (.ld none (.t 12)) 13, rI 4 (.bin .eql (.t 13) (.k (.int .i64 0))) 14, rI 5 (.mv (.t 14)) 15, ⟨6, .mv (.t 4), some 16, some (15, false), []⟩, ⟨7, .nc (.t 16), some 17, some (15, false), []⟩, ⟨8, .fa (.t 17) 13, some 18, some (15, false), []⟩, ⟨9, .ld none (.t 18), some 19, some (15, false), []⟩, rI 10 (.pick (.t 15) (.k (.bool true)) (.t 19)) 20]) (.ite (.t 20) (.seq (.reg [rI 0 (.mv (.t 0)) 21, rI 1 (.call 117 [.t 21, .k (.int .i64 (-10))]) 22]) .ret) .skip)) (.seq (.reg [rI 0 (.mv (.t 4)) 23, rI 1 (.fa (.t 3) 1) 24, rI 3 (.nc (.t 23)) 26, rI 4 (.fa (.t 26) 2) 27, rI 2 (.ld none (.t 24)) 25, rI 5 (.iaa (.t 27) (.t 25) 4 1) 28, rI 6 (.ld none (.t 28)) 29, rI 7 (.mv (.t 29)) 5]) (.seq (.reg [rI 0 (.mv (.t 4)) 30, rI 1 (.nc (.t 30)) 31, rI 2 (.fa (.t 31) 6) 32, rI 3 (.ld none (.t 32)) 33, rI 4 (.mv (.t 33)) 6]) (.seq (.reg [rI 0 (.mv (.t 4)) 34, rI 1 (.mv (.t 4)) 35, rI 2 (.mv (.t 4)) 36, rI 4 (.nc (.t 34)) 38, rI 5 (.fa (.t 38) 1) 39, rI 3 (.ld (some 5) (.t 3)) 37, ⟨6, .st (.t 39) (.k (.int .i64 1)) 1, none, none, [.ld 37 (some 5) (.t 3)]⟩, rI 7 (.nc (.t 35)) 40, rI 8 (.fa (.t 40) 7) 41, ⟨9, .st (.t 41) (.t 37) 5, none, none, []⟩, rI 10 (.nc (.t 36)) 42, rI 11 (.fa (.t 42) 6) 43, ⟨12, .st (.t 43) (.k (.int .i64 (-1))) 1, none, none, []⟩]) (.seq (.reg [rI 0 (.mv (.t 0)) 44, rI 1 (.mv (.t 6)) 45, rI 2 (.call 143 [.t 44, .t 45, .k (.int .i64 2)]) 46]) (.seq (.reg [rI 0 (.mv (.t 0)) 47, rI 1 (.nc (.t 47)) 48, rI 2 (.fa (.t 48) 3) 49, rI 3 (.ld none (.t 49)) 50, rI 4 (.mv (.t 6)) 51, rI 5 (.ias (.t 50) (.t 51) 1) 52, rI 6 (.ld none (.t 52)) 53, rI 7 (.mv (.t 53)) 7]) (.seq (.reg [rI 0 (.mv (.t 7)) 54, rI 1 (.mv (.t 7)) 55, rI 2 (.nc (.t 55)) 56, rI 3 (.fa (.t 56) 7) 57, rI 4 (.fa (.t 57) 1) 58, rI 6 (.mv (.t 5)) 60, rI 7 (.nc (.t 54)) 61, rI 8 (.fa (.t 61) 2) 62, rI 5 (.ld none (.t 58)) 59, rI 9 (.iaa (.t 62) (.t 59) 4 1) 63, ⟨10, .st (.t 63) (.t 60) 1, none, none, []⟩]) (.reg [rI 0 (.mv (.t 7)) 64, rI 1 (.nc (.t 64)) 65, rI 2 (.fa (.t 65) 2) 66, rI 3 (.iaa (.t 66) (.k (.int .i64 3)) 4 1) 67, ⟨4, .st (.t 67) (.k (.int .i64 1)) 1, none, none, []⟩]))))))))))⟩
theorem p119 : prog 119 = some r119 := by kernel_rfl

/-! 120: impl.machine).giveUp -/
def r120 : RFun := ⟨74, [], (.seq (.reg [rI 0 (.box (.t 1) 5) 3]) (.seq (.reg [rI 0 (.mv (.t 0)) 8, rI 1 (.call 112 [.t 8]) 9, rI 2 (.mv (.t 9)) 4]) (.seq (.reg [rI 0 (.mv (.t 4)) 10, rI 1 (.fa (.t 3) 2) 11, rI 3 (.nc (.t 10)) 13, rI 4 (.fa (.t 13) 2) 14, rI 2 (.ld none (.t 11)) 12, rI 5 (.iaa (.t 14) (.t 12) 4 1) 15, rI 6 (.ld none (.t 15)) 16, rI 7 (.mv (.t 16)) 5]) (.seq (.seq (.reg [rI 0 (.mv (.t 0)) 17, rI 1 (.mv (.t 5)) 18, rI 2 (.call 142 [.t 17, .t 18]) 19, rI 3 (.nt (.t 19)) 20]) (.ite (.t 20) .ret .skip)) (.seq (.reg [rI 0 (.mv (.t 0)) 21, rI 1 (.nc (.t 21)) 22, rI 2 (.fa (.t 22) 3) 23, rI 3 (.ld none (.t 23)) 24, rI 4 (.mv (.t 5)) 25, rI 5 (.ias (.t 24) (.t 25) 1) 26, rI 6 (.ld none (.t 26)) 27, rI 7 (.mv (.t 27)) 6]) (.seq (.seq (.reg [rI 0 (.mv (.t 6)) 28, rI 1 (.nc (.t 28)) 29, rI 2 (.fa (.t 29) 1) 30, rI 3 (.ld none (.t 30)) 31, rI 4 (.bin .eql (.t 31) (.k (.int .i64 0))) 32]) (.ite (.t 32) (.seq (.reg [rI 0 (.mv (.t 6)) 33, rI 1 (.nc (.t 33)) 34, rI 2 (.fa (.t 34) 1) 35, ⟨3, .st (.t 35) (.k (.int .i64 4)) 1, none, none, []⟩]) (.seq (.reg [rI 0 (.mv (.t 4)) 36, rI 1 (.fa (.t 3) 1) 37, rI 3 (.nc (.t 36)) 39, rI 4 (.fa (.t 39) 2) 40, rI 2 (.ld none (.t 37)) 38, rI 5 (.iaa (.t 40) (.t 38) 4 1) 41, ⟨6, .st (.t 41) (.k (.int .i64 0)) 1, none, none, []⟩]) (.seq (.reg [rI 0 (.mv (.t 4)) 42, rI 1 (.nc (.t 42)) 43, rI 2 (.fa (.t 43) 2) 44, rI 3 (.iaa (.t 44) (.k (.int .i64 3)) 4 1) 45, ⟨4, .st (.t 45) (.k (.int .i64 1)) 1, none, none, []⟩]) .ret))) .skip)) (.seq (.reg [rI 0 (.mv (.t 4)) 46, rI 1 (.mv (.t 4)) 47, rI 2 (.mv (.t 6)) 48, rI 4 (.mv (.t 0)) 50, rI 5 (.nc (.t 50)) 51, rI 6 (.fa (.t 51) 4) 52, rI 3 (.ld (some 5) (.t 3)) 49, rI 7 (.ld none (.t 52)) 53, rI 8 (.nc (.t 46)) 54, rI 9 (.fa (.t 54) 1) 55, ⟨10, .st (.t 55) (.k (.int .i64 3)) 1, none, none, [.ld 49 (some 5) (.t 3)]⟩, rI 11 (.nc (.t 47)) 56, rI 12 (.fa (.t 56) 7) 57, ⟨13, .st (.t 57) (.t 49) 5, none, none, []⟩, rI 14 (.nc (.t 48)) 58, rI 15 (.fa (.t 58) 6) 59, ⟨16, .st (.t 59) (.t 53) 1, none, none, []⟩]) (.seq (.reg [rI 0 (.mv (.t 6)) 60, rI 1 (.nc (.t 60)) 61, rI 2 (.fa (.t 61) 13) 62, ⟨3, .st (.t 62) (.k (.bool true)) 1, none, none, []⟩]) (.seq (.reg [rI 0 (.mv (.t 6)) 63, rI 1 (.call 113 [.t 63]) 64, rI 2 (.mv (.t 64)) 7]) (.seq (.reg [rI 0 (.mv (.t 7)) 65, rI 1 (.mv (.t 7)) 66, rI 2 (.nc (.t 65)) 67, rI 3 (.fa (.t 67) 5) 68, ⟨4, .st (.t 68) (.k (.bool true)) 1, none, none, []⟩, rI 5 (.nc (.t 66)) 69, rI 6 (.fa (.t 69) 6) 70, ⟨7, .st (.t 70) (.k (.int .i64 3)) 1, none, none, []⟩]) (.reg [rI 0 (.mv (.t 0)) 71, rI 1 (.mv (.t 5)) 72, rI 2 (.call 143 [.t 71, .t 72, .k (.int .i64 5)]) 73])))))))))))⟩
theorem p120 : prog 120 = some r120 := by kernel_rfl



section
variable {E : IEnv} {L L' : Lay IR} {S S' : PM} {μ μ' : Mem}

theorem may_true {n : Int} (h : S.may n = some (true, S')) : S' = S := by
 unfold PM.may at h
 split at h
 ·obtain ⟨S1, hf, hs⟩ := Option.map_eq_some_iff.1 h; simp at hs
 ·obtain ⟨u, hi, h⟩ := Option.bind_eq_some_iff.1 h
  split at h
  ·simp only [Option.some.injEq, Prod.mk.injEq, true_and] at h; exact h.symm
  ·split at h
   ·obtain ⟨x, hr, h⟩ := Option.bind_eq_some_iff.1 h
    split at h
    ·obtain ⟨S1, hf, hs⟩ := Option.map_eq_some_iff.1 h; simp at hs
    ·cases h
   ·obtain ⟨S1, hf, hs⟩ := Option.map_eq_some_iff.1 h; simp at hs

abbrev xcells (x : PStep) : List Cell := [.int .i64 x.op, .int .i64 x.a, .int .i64 x.b, .int .i64 x.n, .int .i64 x.size]

/-- A step kept in a variable. -/
def XAt (μ : Mem) (b : Nat) (x : PStep) : Prop :=
 μ.ld none b 0 = some (.c (.int .i64 x.op)) ∧ μ.ld none b 1 = some (.c (.int .i64 x.a)) ∧ μ.ld none b 2 = some (.c (.int .i64 x.b)) ∧ μ.ld none b 3 = some (.c (.int .i64 x.n)) ∧ μ.ld none b 4 = some (.c (.int .i64 x.size)) ∧
  μ.ld (some 5) b 0 = some (.agg (xcells x))
theorem XAt.new {x : PStep} : XAt (μ.new (xcells x) 0) μ.next x :=
 ⟨new_ld0 rfl, new_ld0 rfl, new_ld0 rfl, new_ld0 rfl, new_ld0 rfl, by rw [Mem.new_ld, if_pos rfl]; rfl⟩
theorem XAt.keep {b : Nat} {x : PStep} (h : XAt μ b x) (k : Keep L μ L' μ') (hb : b < μ.next) (hf : Free L b) : XAt μ' b x := by
 obtain ⟨h0, h1, h2, h3, h4, h5⟩ := h
 exact ⟨(k.ld hb hf).trans h0, (k.ld hb hf).trans h1, (k.ld hb hf).trans h2, (k.ld hb hf).trans h3, (k.ld hb hf).trans h4, (k.ld hb hf).trans h5⟩

theorem turn_run {to how : Int} (h : S.turn to how = some S') : S'.run = to ∧ S'.tasks.length = S.tasks.length := by
 refine ⟨?_, turn_tasks h⟩
 unfold PM.turn at h
 obtain ⟨t, hi, h⟩ := Option.bind_eq_some_iff.1 h
 exact (tell_tasks h).2

theorem start_frames {p : PPlan} {i : Int} (h : S.start p i = some S') : S'.tasks.length = S.tasks.length := by
 unfold PM.start at h
 obtain ⟨t, hi, h⟩ := Option.bind_eq_some_iff.1 h
 split at h
 ·obtain ⟨l, hl, h⟩ := Option.map_eq_some_iff.1 h
  subst h; simp [PM.put]
 ·cases h

theorem iaa0 {b o : Nat} {kd : IntKind} : viaa (pt b o) (.c (.int kd 0)) 4 1 = some (pt b o) := by simp [viaa]
theorem iaa3 {b o : Nat} {kd : IntKind} : viaa (pt b o) (.c (.int kd 3)) 4 1 = some (pt b (o + 3)) := by simp [viaa]

theorem resume_ok (h : Rep E L S μ) (hp : E.pend = none) (hroom : S.tasks.length < roomy) {x : PStep} (hs : S.resume E.plan x = some S') :
  Ret 118 [pt E.m 0, .agg (xcells x)] μ fun v μ' => After E L S μ S' μ' := by
 unfold PM.resume at hs
 obtain ⟨t, hn, hs1⟩ := Option.bind_eq_some_iff.1 hs
 obtain ⟨n, hrb, hs2⟩ := Option.bind_eq_some_iff.1 hs1
 obtain ⟨⟨b, S1⟩, hmay, hs3⟩ := Option.bind_eq_some_iff.1 hs2
 simp only at hs3
 refine Ret_of p118 (by simp [r118]) ?_
 simp only [rI, r118, frOf_2]
 simp only [w1, w2, zH, zI, ↓reduceIte, zA, zB]
 have h1 : Rep E L S (μ.new (xcells x) 0) := h.tmp
 have hx1 : XAt (μ.new (xcells x) 0) μ.next x := XAt.new
 have hf1 : Free L μ.next := h.free (Nat.le_refl _)
 have hb1 : μ.next < (μ.new (xcells x) 0).next := Nat.lt_succ_self _
 have k1 : Keep L μ L (μ.new (xcells x) 0) := Keep.tmp
 simp only [xcells] at h1 hx1 hb1 k1
 generalize μ.new [.int .i64 x.op, .int .i64 x.a, .int .i64 x.b, .int .i64 x.n, .int .i64 x.size] 0 = μ1 at *
 obtain ⟨k, hk, hget, hfl, hnow⟩ := now_ok h1 hn
 obtain ⟨hab, l1⟩ := h1.ldreg hget hrb
 refine R_calls (l := [pt E.m 0]) (by simp only [w1, w2, ↓reduceIte]) hnow ?_
 rintro v μ2 ⟨rfl, rfl⟩
 have hx1' := hx1
 unfold XAt at hx1'
 simp only [w1, w2, ↓reduceIte, zA, hx1', viaa_in hab, l1]
 refine R_calls (l := [pt E.m 0, .c (.int .i64 n)]) (by simp only [w1, w2, ↓reduceIte, zA]) (may_ok h1 hp hroom hmay) ?_
 rintro v μ3 ⟨rfl, L3, h3, s3, k3⟩
 cases b with
 | false =>
  simp only [if_true, Option.some.injEq] at hs3
  subst hs3
  simp only [w1, w2, ↓reduceIte, aRet, aRes, toCells]
  exact ⟨_, rfl, L3, h3, s3, k1.trans k3⟩
 | true =>
  have hSS : S = S1 := (may_true hmay).symm
  subst hSS
  simp only [Bool.true_eq_false, if_false] at hs3
  obtain ⟨t', hi, hs4⟩ := Option.bind_eq_some_iff.1 hs3
  obtain ⟨v, hra, hs5⟩ := Option.bind_eq_some_iff.1 hs4
  obtain ⟨u, hiu, hs6⟩ := Option.bind_eq_some_iff.1 hs5
  obtain ⟨u1, hiu1, hs7⟩ := Option.bind_eq_some_iff.1 hs6
  obtain ⟨S2, hturn, hs8⟩ := Option.bind_eq_some_iff.1 hs7
  obtain ⟨k', hk', hgk⟩ := idx_some hi
  obtain rfl : k = k' := by omega
  rw [hget] at hgk
  simp only [Option.some.injEq] at hgk
  subst hgk
  obtain ⟨m, rfl, hgu⟩ := idx_some hiu
  obtain ⟨m', hm', hgu1⟩ := idx_some hiu1
  obtain rfl : m = m' := by omega
  have hx3 := hx1.keep k3 hb1 hf1
  have hf3 := k3.free hb1 hf1
  have hb3 : μ.next < μ3.next := Nat.lt_of_lt_of_le hb1 k3.next
  have hid : L3.id (.task k) = L.id (.task k) := s3.2 k (List.getElem?_eq_some_iff.1 hget).1
  have hx3' := hx3
  unfold XAt at hx3'
  obtain ⟨haa, l3⟩ := h3.ldreg hget hra
  have hm3 := h3.mfacts
  obtain ⟨tb, tp, e1, e2⟩ := h3.tasksAt hgu
  have htu := h3.tfacts hgu
  have hreg := h.regs t (List.mem_of_getElem? hget)
  obtain ⟨μ4, e4, h4, k4⟩ := h3.setTask (t' := { t with state := 3 }) hget (o := 1) (new := [.int .i64 3]) rfl (by simp) rfl hreg
  obtain ⟨μ5, e5, h5, k5⟩ := h4.setTask (t' := { t with state := 3, ask := x }) (put_at hget) (o := 7) (new := xcells x) rfl (by simp) rfl hreg
  rw [put_put] at h5
  rw [hk] at hgu1 hm3
  have hregu : u1.regs.length = 4 := h5.regs u1 (List.mem_of_getElem? hgu1)
  obtain ⟨μ6, e6, h6, k6⟩ := h5.setTask (t' := { u1 with waiter := k }) hgu1 (o := 6) (new := [.int .i64 k]) rfl (by simp) rfl hregu
  rw [hid] at l3 e4 e5
  have hx4 := (hx3.keep k4 hb3 hf3).2.2.2.2.2
  simp only [w1, w2, ↓reduceIte, zA, hx3', viaa_in haa, l3, hm3, e1, e2, htu]
  refine R_stre (i := L.id (.task k)) (o := 1) (by simp only [w1, ↓reduceIte]) (by simp only [w1, w2, zH, zI]) e4 ?_ ?_
  ·simp only [List.all_cons, List.all_nil, Bool.and_true, Re.holds, w1, ↓reduceIte, zA, hx4, beq_self_eq_true]
  simp only [w1, w2, zH, zI, ↓reduceIte, zA, zB, e5, e6]
  rw [hk] at hturn
  refine R_calls (l := [pt E.m 0, .c (.int .i64 m), .c (.int .i64 1)]) (by simp only [w1, w2, ↓reduceIte, zA]) (turn_ok h6 hturn) ?_
  rintro v' μ7 ⟨L7, h7, s7, k7⟩
  have kall := k1.trans (k3.trans (k4.trans (k5.trans (k6.trans k7))))
  have s7' : Stay S L3 L7 := s7.put.put
  have hidu : L7.id (.task m) = L3.id (.task m) := s7'.2 m (List.getElem?_eq_some_iff.1 hgu).1
  have htl : S2.tasks.length = S.tasks.length := by rw [turn_tasks hturn]; simp [PM.put]
  by_cases hu0 : u.state = 0
  ·rw [if_pos hu0] at hs8
   obtain ⟨S3, hst, hs9⟩ := Option.bind_eq_some_iff.1 hs8
   obtain ⟨u2, hiu2, hs10⟩ := Option.bind_eq_some_iff.1 hs9
   obtain ⟨u3, hsr, hs11⟩ := Option.map_eq_some_iff.1 hs10
   subst hs11
   obtain ⟨m', hm', hgu2⟩ := idx_some hiu2
   obtain rfl : m = m' := by omega
   simp only [w1, w2, ↓reduceIte, zA, beq_tt hu0]
   have hstart := start_ok h7 hst
   rw [hidu] at hstart
   refine R_calls (l := [pt E.m 0, pt (L3.id (.task m)) 0]) (by simp only [w1, w2, ↓reduceIte, zA]) hstart ?_
   rintro v'' μ8 ⟨L8, h8, s8, k8⟩
   obtain ⟨_, μ9, e9, h9, k9⟩ := h8.setReg hgu2 hsr
   have hid8 : L8.id (.task m) = L3.id (.task m) := (s8.2 m (by rw [htl]; exact (List.getElem?_eq_some_iff.1 hgu).1)).trans hidu
   rw [hid8] at e9
   simp only [w1, w2, zH, zI, ↓reduceIte, zA, iaa0, Int.toNat_zero, Nat.zero_mul, Nat.add_zero] at e9 ⊢
   simp only [w2, e9, aRet, aRes, toCells]
   exact ⟨_, rfl, L8, h9, (s3.trans s7' (Nat.le_refl _)).trans s8 (by rw [htl]; exact Nat.le_refl _), kall.trans (k8.trans k9)⟩
  ·rw [if_neg hu0] at hs8
   obtain ⟨u2, hiu2, hs12⟩ := Option.bind_eq_some_iff.1 hs8
   obtain ⟨u3, hsr, hs13⟩ := Option.map_eq_some_iff.1 hs12
   subst hs13
   obtain ⟨m', hm', hgu2⟩ := idx_some hiu2
   obtain rfl : m = m' := by omega
   obtain ⟨ha9, μ9, e9, h9, k9⟩ := h7.setReg hgu2 hsr
   have htu2 := h7.tfacts hgu2
   rw [hidu] at e9 htu2
   simp only [w1, w2, zH, zI, ↓reduceIte, zA, zB, beq_ff hu0, htu2, viaa_in ha9, e9, aRet, aRes, toCells]
   exact ⟨_, rfl, L7, h9, s3.trans s7' (Nat.le_refl _), kall.trans k9⟩

theorem yield_ok (h : Rep E L S μ) {x : PStep} (hs : S.yield x = some S') :
  Ret 119 [pt E.m 0, .agg (xcells x)] μ fun v μ' => After E L S μ S' μ' := by
 unfold PM.yield at hs
 obtain ⟨t, hn, hs1⟩ := Option.bind_eq_some_iff.1 hs
 refine Ret_of p119 (by simp [r119]) ?_
 simp only [rI, r119, frOf_2]
 simp only [w1, w2, zH, zI, ↓reduceIte, zA, zB, zE]
 have h1 : Rep E L S (μ.new (xcells x) 0) := h.tmp
 have hx1 : XAt (μ.new (xcells x) 0) μ.next x := XAt.new
 have hf1 : Free L μ.next := h.free (Nat.le_refl _)
 have hb1 : μ.next < (μ.new (xcells x) 0).next := Nat.lt_succ_self _
 have k1 : Keep L μ L (μ.new (xcells x) 0) := Keep.tmp
 simp only [xcells] at h1 hx1 hb1 k1
 generalize μ.new [.int .i64 x.op, .int .i64 x.a, .int .i64 x.b, .int .i64 x.n, .int .i64 x.size] 0 = μ1 at *
 obtain ⟨k, hk, hget, hfl, hnow⟩ := now_ok h1 hn
 have hm1 := h1.mfacts
 have htf := h1.tfacts hget
 rw [hk] at hm1
 refine R_calls (l := [pt E.m 0]) (by simp only [w1, w2, ↓reduceIte]) hnow ?_
 rintro v μ2 ⟨rfl, rfl⟩
 have hx1' := hx1
 unfold XAt at hx1'
 have failing : S.run = 0 ∨ t.given = true → ∀ (s : List It) (fr : Fr), fr 21 = pt E.m 0 → R (.o ⟨1, .call 117 [.t 21, .k (.int .i64 (-10))], some 22, none, []⟩ :: .c .ret :: s) fr μ2 (fun fr' μ1 => ∃ v, aRet fr' μ1 [] = some v ∧ After E L S μ S' μ1) := by
  intro hc s fr f21
  rw [if_pos hc] at hs1
  refine R_calls (l := [pt E.m 0, .c (.int .i64 (-10))]) (by simp only [w1, w2, zE, f21]) (fail_ok h1 hs1) ?_
  rintro v μ3 ⟨L3, h3, s3, k3⟩
  simp only [w1, w2, aRet, aRes, toCells]
  exact ⟨_, rfl, L3, h3, s3, k1.trans k3⟩
 simp only [w1, w2, ↓reduceIte, zA, zE, hm1]
 by_cases hz : S.run = 0
 ·have hz' : ((k : Int) == 0) = true := beq_tt (by omega)
  simp only [w1, w2, ↓reduceIte, zA, zE, hz']
  refine failing (.inl hz) _ _ ?_
  simp only [w1, ↓reduceIte]
 ·have hz' : ((k : Int) == 0) = false := beq_ff (by omega)
  simp only [w1, w2, ↓reduceIte, zA, zE, hz', htf]
  by_cases hg : t.given = true
  ·simp only [w1, w2, ↓reduceIte, zA, zE, hg]
   refine failing (.inr hg) _ _ ?_
   simp only [w1, ↓reduceIte]
  ·have hg' : t.given = false := by simpa using hg
   rw [if_neg (fun hh => hh.elim hz hg)] at hs1
   obtain ⟨v, hra, hs2⟩ := Option.bind_eq_some_iff.1 hs1
   obtain ⟨S1, hturn, hs3⟩ := Option.bind_eq_some_iff.1 hs2
   obtain ⟨u, hiu, hs4⟩ := Option.bind_eq_some_iff.1 hs3
   obtain ⟨u1, hr1, hs5⟩ := Option.bind_eq_some_iff.1 hs4
   obtain ⟨u2, hr2, hs6⟩ := Option.map_eq_some_iff.1 hs5
   subst hs6
   obtain ⟨w, hw, hgu⟩ := idx_some hiu
   obtain ⟨haa, l3⟩ := h1.ldreg hget hra
   have hreg := h.regs t (List.mem_of_getElem? hget)
   obtain ⟨μ4, e4, h4, k4⟩ := h1.setTask (t' := { t with state := 1 }) hget (o := 1) (new := [.int .i64 1]) rfl (by simp) rfl hreg
   obtain ⟨μ5, e5, h5, k5⟩ := h4.setTask (t' := { t with state := 1, ask := x }) (put_at hget) (o := 7) (new := xcells x) rfl (by simp) rfl hreg
   obtain ⟨μ6, e6, h6, k6⟩ := h5.setTask (t' := { t with state := 1, ask := x, waiter := -1 }) (put_at (put_at hget)) (o := 6) (new := [.int .i64 (-1)]) rfl (by simp) rfl hreg
   rw [put_put, put_put] at h6
   rw [hk, hw] at hturn
   have hx4 := (hx1.keep k4 hb1 hf1).2.2.2.2.2
   simp only [w1, w2, ↓reduceIte, zA, zE, hg', hx1', viaa_in haa, l3, htf]
   refine R_stre (i := L.id (.task k)) (o := 1) (by simp only [w1, ↓reduceIte, zA]) (by simp only [w1, w2, zH, zI]) e4 ?_ ?_
   ·simp only [List.all_cons, List.all_nil, Bool.and_true, Re.holds, w1, ↓reduceIte, zA, hx4, beq_self_eq_true]
   simp only [w1, w2, zH, zI, ↓reduceIte, zA, zB, zE, e5, e6, hw]
   refine R_calls (l := [pt E.m 0, .c (.int .i64 w), .c (.int .i64 2)]) (by simp only [w1, w2, ↓reduceIte, zA]) (turn_ok h6 hturn) ?_
   rintro v' μ7 ⟨L7, h7, s7, k7⟩
   have hm7 := h7.mfacts
   obtain ⟨tb, tp, e8, e9⟩ := h7.tasksAt hgu
   have htu := h7.tfacts hgu
   obtain ⟨ha10, μ10, e10, h10, k10⟩ := h7.setReg hgu hr1
   obtain ⟨_, μ11, e11, h11, k11⟩ := h10.setReg (put_at hgu) hr2
   rw [put_put] at h11
   have e11' : μ10.st (L7.id (.task w)) (2 + 3) [.int .i64 1] = some μ11 := e11
   simp only [w1, w2, zH, zI, ↓reduceIte, zA, zB, hm7, e8, e9, htu, viaa_in ha10, e10, iaa3, e11', aRet, aRes, toCells]
   exact ⟨_, rfl, L7, h11, s7.put, k1.trans (k4.trans (k5.trans (k6.trans (k7.trans (k10.trans k11)))))⟩

theorem giveUp_ok (h : Rep E L S μ) (hp : E.pend = none) (hroom : S.tasks.length < roomy) {x : PStep} (hs : S.giveUp x = some S') :
  Ret 120 [pt E.m 0, .agg (xcells x)] μ fun v μ' => After E L S μ S' μ' := by
 unfold PM.giveUp at hs
 obtain ⟨t, hn, hs1⟩ := Option.bind_eq_some_iff.1 hs
 obtain ⟨n, hrb, hs2⟩ := Option.bind_eq_some_iff.1 hs1
 obtain ⟨⟨b, S1⟩, hmay, hs3⟩ := Option.bind_eq_some_iff.1 hs2
 simp only at hs3
 refine Ret_of p120 (by simp [r120]) ?_
 simp only [rI, r120, frOf_2]
 simp only [w1, w2, zH, zI, ↓reduceIte, zA, zB]
 have h1 : Rep E L S (μ.new (xcells x) 0) := h.tmp
 have hx1 : XAt (μ.new (xcells x) 0) μ.next x := XAt.new
 have hf1 : Free L μ.next := h.free (Nat.le_refl _)
 have hb1 : μ.next < (μ.new (xcells x) 0).next := Nat.lt_succ_self _
 have k1 : Keep L μ L (μ.new (xcells x) 0) := Keep.tmp
 simp only [xcells] at h1 hx1 hb1 k1
 generalize μ.new [.int .i64 x.op, .int .i64 x.a, .int .i64 x.b, .int .i64 x.n, .int .i64 x.size] 0 = μ1 at *
 obtain ⟨k, hk, hget, hfl, hnow⟩ := now_ok h1 hn
 obtain ⟨hab, l1⟩ := h1.ldreg hget hrb
 refine R_calls (l := [pt E.m 0]) (by simp only [w1, w2, ↓reduceIte]) hnow ?_
 rintro v μ2 ⟨rfl, rfl⟩
 have hx1' := hx1
 unfold XAt at hx1'
 simp only [w1, w2, ↓reduceIte, zA, hx1', viaa_in hab, l1]
 refine R_calls (l := [pt E.m 0, .c (.int .i64 n)]) (by simp only [w1, w2, ↓reduceIte, zA]) (may_ok h1 hp hroom hmay) ?_
 rintro v μ3 ⟨rfl, L3, h3, s3, k3⟩
 cases b with
 | false =>
  simp only [if_true, Option.some.injEq] at hs3
  subst hs3
  simp only [w1, w2, ↓reduceIte, aRet, aRes, toCells]
  exact ⟨_, rfl, L3, h3, s3, k1.trans k3⟩
 | true =>
  have hSS : S = S1 := (may_true hmay).symm
  subst hSS
  simp only [Bool.true_eq_false, if_false] at hs3
  obtain ⟨u, hiu, hs4⟩ := Option.bind_eq_some_iff.1 hs3
  obtain ⟨m, rfl, hgu⟩ := idx_some hiu
  have hx3 := hx1.keep k3 hb1 hf1
  have hf3 := k3.free hb1 hf1
  have hb3 : μ.next < μ3.next := Nat.lt_of_lt_of_le hb1 k3.next
  have hid : L3.id (.task k) = L.id (.task k) := s3.2 k (List.getElem?_eq_some_iff.1 hget).1
  have hx3' := hx3
  unfold XAt at hx3'
  have hm3 := h3.mfacts
  obtain ⟨tb, tp, e1, e2⟩ := h3.tasksAt hgu
  have htu := h3.tfacts hgu
  have hreg := h.regs t (List.mem_of_getElem? hget)
  have hregu := h.regs u (List.mem_of_getElem? hgu)
  simp only [w1, w2, ↓reduceIte, zA, hm3, e1, e2, htu]
  by_cases hu0 : u.state = 0
  ·rw [if_pos hu0] at hs4
   obtain ⟨t', hi', hs5⟩ := Option.bind_eq_some_iff.1 hs4
   obtain ⟨t1, hr1, hs6⟩ := Option.bind_eq_some_iff.1 hs5
   obtain ⟨t2, hr2, hs7⟩ := Option.map_eq_some_iff.1 hs6
   subst hs7
   obtain ⟨k', hk', hgk⟩ := idx_some hi'
   obtain rfl : k = k' := by omega
   obtain ⟨μ4, e4, h4, k4⟩ := h3.setTask (t' := { u with state := 4 }) hgu (o := 1) (new := [.int .i64 4]) rfl (by simp) rfl hregu
   obtain ⟨ha5, μ5, e5, h5, k5⟩ := h4.setReg hgk hr1
   obtain ⟨_, μ6, e6, h6, k6⟩ := h5.setReg (put_at hgk) hr2
   rw [put_put] at h6
   have hx4 := hx3.keep k4 hb3 hf3
   have hx5 := hx4.keep k5 (Nat.lt_of_lt_of_le hb3 k4.next) (k4.free hb3 hf3)
   unfold XAt at hx4 hx5
   have e6' : μ5.st (L3.id (.task k)) (2 + 3) [.int .i64 1] = some μ6 := e6
   rw [hid] at e5 e6'
   simp only [w1, w2, zH, zI, ↓reduceIte, zA, zB, beq_tt hu0, e4, hx4, viaa_in ha5, e5, iaa3, e6', aRet, aRes, toCells]
   rw [hk]
   exact ⟨_, rfl, L3, h6, s3, k1.trans (k3.trans (k4.trans (k5.trans k6)))⟩
  ·rw [if_neg hu0] at hs4
   obtain ⟨t', hi', hs5⟩ := Option.bind_eq_some_iff.1 hs4
   obtain ⟨u1, hiu1, hs6⟩ := Option.bind_eq_some_iff.1 hs5
   obtain ⟨u2, htop, hturn⟩ := Option.bind_eq_some_iff.1 hs6
   obtain ⟨k', hk', hgk⟩ := idx_some hi'
   obtain rfl : k = k' := by omega
   rw [hget] at hgk
   simp only [Option.some.injEq] at hgk
   subst hgk
   obtain ⟨m', hm', hgu1⟩ := idx_some hiu1
   obtain rfl : m = m' := by omega
   rw [hk] at hgu1 hm3 htop hturn
   obtain ⟨μ4, e4, h4, k4⟩ := h3.setTask (t' := { t with state := 3 }) hget (o := 1) (new := [.int .i64 3]) rfl (by simp) rfl hreg
   obtain ⟨μ5, e5, h5, k5⟩ := h4.setTask (t' := { t with state := 3, ask := x }) (put_at hget) (o := 7) (new := xcells x) rfl (by simp) rfl hreg
   rw [put_put] at h5
   have hregu1 : u1.regs.length = 4 := h5.regs u1 (List.mem_of_getElem? hgu1)
   obtain ⟨μ6, e6, h6, k6⟩ := h5.setTask (t' := { u1 with waiter := k }) hgu1 (o := 6) (new := [.int .i64 k]) rfl (by simp) rfl hregu1
   obtain ⟨μ7, e7, h7, k7⟩ := h6.setTask (t' := { u1 with waiter := k, given := true }) (put_at hgu1) (o := 13) (new := [.bool true]) rfl (by simp) rfl hregu1
   rw [put_put] at h7
   have hg7 := put_at (t' := { u1 with waiter := k, given := true }) hgu1
   unfold PTk.onTop at htop
   simp only at htop
   cases hf : u1.frames with
   | nil => rw [hf] at htop; cases htop
   | cons f r =>
    rw [hf] at htop
    simp only at htop
    split at htop
    ·rename_i hfl7
     simp only [Option.some.injEq] at htop
     subst htop
     obtain ⟨μ8, e8, h8, k8⟩ := h7.setTop hg7 hf (f' := { f with leaving := true }) (k := 5) (new := [.bool true]) rfl (by simp) rfl
     obtain ⟨μ9, e9, h9, k9⟩ := h8.setTop (put_at hg7) rfl (f' := { f with leaving := true, way := 3 }) (k := 6) (new := [.int .i64 3]) rfl (by simp) rfl
     rw [put_put, put_put] at h9
     rw [hid] at e4 e5
     have hx4 := (hx3.keep k4 hb3 hf3).2.2.2.2.2
     simp only [w1, w2, ↓reduceIte, zA, beq_ff hu0, hx3', hm3]
     refine R_stre (i := L.id (.task k)) (o := 1) (by simp only [w1, ↓reduceIte]) (by simp only [w1, w2, zH, zI]) e4 ?_ ?_
     ·simp only [List.all_cons, List.all_nil, Bool.and_true, Re.holds, w1, ↓reduceIte, zA, hx4, beq_self_eq_true]
     simp only [w1, w2, zH, zI, ↓reduceIte, zA, zB, e5, e6, e7]
     refine R_calls (l := [pt (L3.id (.task m)) 0]) (by simp only [w1, w2, ↓reduceIte]) (top_ok h7 hg7 hf (by rw [hf]; exact hfl7)) ?_
     rintro v' μ10 ⟨rfl, rfl⟩
     simp only [w1, w2, zH, zI, ↓reduceIte, zA, e8, e9]
     refine R_calls (l := [pt E.m 0, .c (.int .i64 m), .c (.int .i64 5)]) (by simp only [w1, w2, ↓reduceIte, zA]) (turn_ok h9 hturn) ?_
     rintro v' μ11 ⟨L11, h11, s11, k11⟩
     simp only [w1, w2, aRet, aRes, toCells]
     exact ⟨_, rfl, L11, h11, s3.trans s11.put.put (Nat.le_refl _), k1.trans (k3.trans (k4.trans (k5.trans (k6.trans (k7.trans (k8.trans (k9.trans k11)))))))⟩
    ·cases htop
end
end Go.Proofs.Ytibmnlijoeppaaa
