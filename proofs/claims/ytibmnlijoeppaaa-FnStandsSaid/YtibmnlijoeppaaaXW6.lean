/-
 The reference's machine: a block that is being left.
-/
import Derived.Test.YtibmnlijoeppaaaXW5
namespace Go.Proofs.Ytibmnlijoeppaaa.X
open Nat renaming reduceEqDiff → zA, reduceAdd → zB, reduceLeDiff → zJ, reduceMul → zK
open Int renaming reduceLT → zC, reduceLE → zD, reduceNeg → zE, reduceBEq → zF, reduceBNe → zG
open AV renaming isTup → zH, cells → zI
set_option linter.unusedSimpArgs false
set_option linter.unusedVariables false

/-! 100: spec.l2M).close -/
def r100 : RFun := ⟨151, [], (.seq (.reg [rI 0 (.mv (.t 0)) 11, rI 1 (.call 99 [.t 11]) 12, rI 2 (.mv (.t 12)) 2]) (.seq (.reg [rI 0 (.mv (.t 2)) 13, rI 1 (.nc (.t 13)) 14, rI 2 (.fa (.t 14) 4) 15, rI 3 (.ld none (.t 15)) 16, rI 4 (.len (.t 16)) 17, rI 5 (.mv (.t 17)) 3]) (.seq (.seq (.reg [rI 0 (.mv (.t 3)) 18, rI 1 (.bin .gtr (.t 18) (.k (.int .i64 0))) 19]) (.ite (.t 19) (.seq (.seq (.reg [rI 0 (.mv (.t 0)) 20, rI 1 (.call 131 [.t 20]) 21, rI 2 (.nt (.t 21)) 22]) (.ite (.t 22) .ret .skip)) (.seq (.reg [rI 0 (.mv (.t 2)) 23, rI 1 (.nc (.t 23)) 24, rI 2 (.fa (.t 24) 4) 25, rI 3 (.ld none (.t 25)) 26, rI 4 (.mv (.t 3)) 27, rI 5 (.bin .sub (.t 27) (.k (.int .i64 1))) 28, rI 6 (.ias (.t 26) (.t 28) 1) 29, rI 7 (.ld none (.t 29)) 30, rI 8 (.mv (.t 30)) 4]) (.seq (.reg [rI 0 (.mv (.t 2)) 31, rI 1 (.mv (.t 2)) 32, rI 2 (.nc (.t 32)) 33, rI 3 (.fa (.t 33) 4) 34, rI 4 (.ld none (.t 34)) 35, rI 5 (.mv (.t 3)) 36, rI 6 (.bin .sub (.t 36) (.k (.int .i64 1))) 37, rI 7 (.slc 1 (.t 35) none (some (.t 37))) 38, rI 8 (.nc (.t 31)) 39, rI 9 (.fa (.t 39) 4) 40, ⟨10, .st (.t 40) (.t 38) 1, none, none, []⟩]) (.seq (.reg [rI 0 (.mv (.t 0)) 41, rI 1 (.call 130 [.t 41]) 42, rI 2 (.nc (.t 42)) 43, rI 3 (.fa (.t 43) 9) 44, rI 4 (.ld none (.t 44)) 45, rI 5 (.bin .add (.t 45) (.k (.int .i64 1))) 46, rI 6 (.nc (.t 42)) 47, rI 7 (.fa (.t 47) 9) 48, ⟨8, .st (.t 48) (.t 46) 1, none, none, []⟩]) (.seq (.reg [rI 0 (.mv (.t 0)) 49, rI 1 (.mv (.t 4)) 50, rI 2 (.mv (.t 4)) 51, rI 3 (.bin .add (.t 51) (.k (.int .i64 1))) 52, rI 4 (.mv (.t 4)) 53, rI 5 (.bin .add (.t 53) (.k (.int .i64 1))) 54, rI 6 (.mv (.t 0)) 55, rI 7 (.call 98 [.t 55]) 56, rI 8 (.mv (.t 4)) 57, rI 9 (.ias (.t 56) (.t 57) 5) 58, rI 10 (.fa (.t 58) 4) 59, rI 11 (.ld none (.t 59)) 60, rI 12 (.bin .add (.t 54) (.t 60)) 61, rI 13 (.call 97 [.t 49, .t 50, .k (.int .i64 13), .t 52, .t 61]) 62]) .ret))))) .skip)) (.seq (.reg [rI 0 (.mv (.t 0)) 63, rI 1 (.call 130 [.t 63]) 64, rI 2 (.mv (.t 64)) 5]) (.seq (.reg [rI 0 (.mv (.t 2)) 65, rI 1 (.nc (.t 65)) 66, rI 2 (.fa (.t 66) 6) 67, rI 3 (.ld (some 2) (.t 67)) 68, rI 4 (.alc [.int .i64 0, .int .i64 0]) 6, ⟨5, .st (.t 6) (.t 68) 2, none, none, []⟩]) (.seq (.reg [rI 0 (.mv (.t 2)) 69, rI 1 (.nc (.t 69)) 70, rI 2 (.fa (.t 70) 0) 71, rI 3 (.ld none (.t 71)) 72, rI 4 (.mv (.t 72)) 7]) (.seq (.reg [rI 0 (.mv (.t 2)) 73, rI 1 (.nc (.t 73)) 74, rI 2 (.fa (.t 74) 1) 75, rI 3 (.ld none (.t 75)) 76, rI 4 (.mv (.t 76)) 8]) (.seq (.reg [rI 0 (.mv (.t 5)) 77, rI 1 (.mv (.t 5)) 78, rI 2 (.nc (.t 78)) 79, rI 3 (.fa (.t 79) 10) 80, rI 5 (.mv (.t 5)) 82, rI 6 (.nc (.t 82)) 83, rI 7 (.fa (.t 83) 10) 84, rI 4 (.ld none (.t 80)) 81, rI 8 (.ld none (.t 84)) 85, rI 9 (.len (.t 85)) 86, rI 10 (.bin .sub (.t 86) (.k (.int .i64 1))) 87, rI 11 (.slc 8 (.t 81) none (some (.t 87))) 88, rI 12 (.nc (.t 77)) 89, rI 13 (.fa (.t 89) 10) 90, ⟨14, .st (.t 90) (.t 88) 1, none, none, []⟩]) (.seq (.seq (.reg [rI 0 (.mv (.t 5)) 91, rI 1 (.nc (.t 91)) 92, rI 2 (.fa (.t 92) 10) 93, rI 3 (.ld none (.t 93)) 94, rI 4 (.len (.t 94)) 95, rI 5 (.bin .eql (.t 95) (.k (.int .i64 0))) 96]) (.ite (.t 96) (.seq (.reg [rI 0 (.mv (.t 0)) 97, rI 1 (.ld (some 2) (.t 6)) 98, rI 2 (.call 132 [.t 97, .t 98]) 99]) .ret) .skip)) (.seq (.seq (.reg [rI 0 (.mv (.t 8)) 100, rI 1 (.bin .eql (.t 100) (.k (.int .i64 11))) 101, rI 2 (.mv (.t 101)) 102, ⟨3, .fa (.t 6) 0, some 103, some (102, true), []⟩, ⟨4, .ld none (.t 103), some 104, some (102, true), []⟩, ⟨5, .bin .eql (.t 104) (.k (.int .i64 2)), some 105, some (102, true), []⟩, rI 6 (.pick (.t 102) (.t 105) (.k (.bool false))) 106]) (.ite (.t 106) (.seq (.reg [rI 0 (.mv (.t 0)) 107, rI 1 (.call 98 [.t 107]) 108, rI 2 (.mv (.t 7)) 109, rI 3 (.ias (.t 108) (.t 109) 5) 110, rI 4 (.ld (some 5) (.t 110)) 111, rI 5 (.alc [.int .i64 0, .int .i64 0, .int .i64 0, .int .i64 0, .int .i64 0]) 9, ⟨6, .st (.t 9) (.t 111) 5, none, none, []⟩]) (.seq (.reg [rI 0 (.mv (.t 0)) 112, rI 1 (.fa (.t 6) 1) 113, rI 2 (.ld none (.t 113)) 114, rI 3 (.call 133 [.t 112, .k (.int .i64 4), .k (.int .i64 0), .t 114]) 115]) (.seq (.reg [rI 0 (.mv (.t 5)) 116, rI 1 (.nc (.t 116)) 117, rI 2 (.fa (.t 117) 2) 118, rI 4 (.fa (.t 9) 1) 120, rI 6 (.fa (.t 6) 1) 122, rI 3 (.ld none (.t 118)) 119, rI 5 (.ld none (.t 120)) 121, rI 7 (.ld none (.t 122)) 123, rI 8 (.ias (.t 119) (.t 121) 1) 124, ⟨9, .st (.t 124) (.t 123) 1, none, none, []⟩]) .ret))) .skip)) (.seq (.seq (.reg [rI 0 (.fa (.t 6) 0) 125, rI 1 (.ld none (.t 125)) 126, rI 2 (.bin .eql (.t 126) (.k (.int .i64 0))) 127]) (.ite (.t 127) .ret .skip)) (.seq (.reg [rI 0 (.mv (.t 0)) 128, rI 1 (.call 99 [.t 128]) 129, rI 2 (.mv (.t 129)) 10]) (.seq (.seq (.reg [rI 0 (.mv (.t 8)) 130, rI 1 (.bin .eql (.t 130) (.k (.int .i64 13))) 131, rI 2 (.mv (.t 131)) 132, ⟨3, .mv (.t 10), some 133, some (132, true), []⟩, ⟨4, .nc (.t 133), some 134, some (132, true), []⟩, ⟨5, .fa (.t 134) 6, some 135, some (132, true), []⟩, ⟨6, .fa (.t 135) 0, some 136, some (132, true), []⟩, ⟨7, .ld none (.t 136), some 137, some (132, true), []⟩, ⟨8, .bin .eql (.t 137) (.k (.int .i64 3)), some 138, some (132, true), []⟩, rI 9 (.pick (.t 132) (.t 138) (.k (.bool false))) 139]) (.ite (.t 139) (.seq (.reg [rI 0 (.mv (.t 5)) 140, rI 1 (.nc (.t 140)) 141, rI 2 (.fa (.t 141) 6) 142, ⟨3, .st (.t 142) (.k (.bool true)) 1, none, none, []⟩]) (.seq (.reg [rI 0 (.mv (.t 5)) 143, rI 1 (.fa (.t 6) 1) 144, rI 2 (.ld none (.t 144)) 145, rI 3 (.nc (.t 143)) 146, rI 4 (.fa (.t 146) 7) 147, ⟨5, .st (.t 147) (.t 145) 1, none, none, []⟩]) .ret)) .skip)) (.reg [rI 0 (.mv (.t 0)) 148, rI 1 (.ld (some 2) (.t 6)) 149, rI 2 (.call 101 [.t 148, .t 149]) 150]))))))))))))))⟩
theorem p100 : prog 100 = some r100 := by kernel_rfl



section
variable {E : IEnv} {L L' : Lay IR} {S S' : PM} {μ μ' : Mem}

theorem close_ok (h : Rep E L S μ) (hs : S.close E.plan = some S') : Ret 100 [pt E.m 0] μ fun v μ' => After E L S μ S' μ' := by
 unfold PM.close at hs
 obtain ⟨t, hn, hs1⟩ := Option.bind_eq_some_iff.1 hs
 obtain ⟨k, hk, hget, hfl⟩ := now_some hn
 cases hf : t.frames with
 | nil => rw [hf] at hs1; cases hs1
 | cons f r =>
 rw [hf] at hs1
 simp only at hs1
 obtain ⟨_, hrow, hmany⟩ := h.topAt hget hf
 have r0 := hrow 0 _ rfl
 have r1 := hrow 1 _ rfl
 have r4 := hrow 4 _ rfl
 refine Ret_of p100 (by simp [r100]) ?_
 simp only [rI, r100, frOf_1]
 simp only [w1, w2, ↓reduceIte]
 refine R_calls (l := [pt E.m 0]) (by simp only [w1, w2, ↓reduceIte]) (top_ok h hk hget hf hfl) ?_
 rintro v μ0 ⟨rfl, rfl⟩
 have hmc : ∀ (S1 : PM) (μ1 : Mem), Rep E L S1 μ1 → S1.tasks[k]? = some t → icon E L S1 (.met k r.length) = some (1, cat irow 0 f.met.reverse) := by
  intro S1 μ1 _ hg
  simp only [icon, hg, Option.bind_some, hf, get_top, Option.map_some]
 have hml : (cat irow 0 f.met.reverse).length = f.met.length * 1 := by rw [cat_length irow_len]; simp
 obtain ⟨ma, mc, hms⟩ := h.has.scf (hmc S μ0 h hget) hml (by omega)
 have r4s := r4
 rw [hms] at r4s
 cases hmet : f.met with
 | cons hd met =>
  rw [hmet] at hs1
  simp only at hs1
  have hpos : decide (((f.met.length : Nat) : Int) > 0) = true := decide_eq_true (by rw [hmet]; simp only [List.length_cons]; omega)
  simp only [w1, w2, ↓reduceIte, zA, r4s, hpos]
  refine R_calls (l := [pt E.m 0]) (by simp only [w1, w2, ↓reduceIte]) (tick_ok h) ?_
  rintro v μ1 ⟨rfl, h1, k1⟩
  by_cases ht : S.tick.1 = false
  ·rw [if_pos ht] at hs1
   simp only [Option.some.injEq] at hs1
   subst hs1
   simp only [w1, w2, ↓reduceIte, ht, aRet, aRes, toCells]
   exact ⟨_, rfl, L, h1, Stay.refl, k1⟩
  rw [if_neg ht] at hs1
  have ht' : S.tick.1 = true := by simpa using ht
  split at hs1
  ·cases hs1
  rename_i hroomy
  obtain ⟨l, hsl, hs2⟩ := Option.bind_eq_some_iff.1 hs1
  obtain ⟨x, hx, hs3⟩ := Option.bind_eq_some_iff.1 hs2
  have hk1 : S.tick.2.run = (k : Int) := tick_tasks.2.trans hk
  have hget1 : S.tick.2.tasks[k]? = some t := by rw [tick_tasks.1]; exact hget
  obtain ⟨_, hrow1, _⟩ := h1.topAt hget1 hf
  have q4 := hrow1 4 _ rfl
  have hrd := h1.has.rd (hmc S.tick.2 μ1 h1 hget1) hml (by omega)
  have hup : ∀ kd : IntKind, aslc 1 (.c (L.sc (.met k r.length) f.met.length)) none (some (.c (.int kd (met.length : Int)))) = some (.c (L.sc (.met k r.length) met.length)) := fun kd => h1.has.upto (hmc S.tick.2 μ1 h1 hget1) hml (by omega) (by rw [hmet]; simp)
  have hgl : f.met.reverse[met.length]? = some hd := by rw [hmet, List.reverse_cons, List.getElem?_append_right (by simp)]; simp
  have hrd' : Rd μ1.next μ1 1 (L.sc (.met k r.length) f.met.length) f.met.reverse.length (cat irow 0 f.met.reverse) := by rw [List.length_reverse]; exact hrd
  obtain ⟨b, o, e1, _, _, e4⟩ := hrd'.row irow_len (by omega) hgl
  have e4' := e4 0 (by omega)
  simp only [irow, List.getElem?_cons_zero, Option.map_some, Nat.add_zero] at e4'
  have hw : IntKind.i64.wrap (((f.met.length : Nat) : Int) - 1) = ((met.length : Nat) : Int) := by
   unfold roomy at hroomy
   rw [hmet, List.length_cons, small (by omega)]; omega
  obtain ⟨μ2, e2, h2, k2⟩ := h1.popMet hget1 hf hmet
  have htf2 := h2.tfacts (put_at hget1)
  obtain ⟨μ3, e3, h3, k3⟩ := h2.setTask (put_at hget1) (t' := { t with frames := { f with met := met } :: r, begun := wr64 (t.begun + 1) }) (o := 9) (new := [.int .i64 (wr64 (t.begun + 1))]) rfl (by simp) rfl rfl
  rw [put_put] at h3
  unfold wr64 at e3
  obtain ⟨c, hc, hst⟩ := steps_ok h3 (k := k) hk1 (put_at hget1) hsl
  obtain ⟨j, hj, hjx⟩ := idx_some hx
  obtain ⟨sb, so, a1, a2, a3, a4⟩ := h3.stepAt hc hjx
  have a4' := a4 4 (by omega)
  simp only [scells, List.getElem?_cons_succ, List.getElem?_cons_zero, Option.map_some] at a4'
  rw [← hj] at a1
  rw [hms] at q4 e1 hup
  simp only [w1, w2, zH, zI, ↓reduceIte, zA, ht', q4, hw, e1, e4', hup, e2]
  refine R_calls (l := [pt E.m 0]) (by simp only [w1, w2, ↓reduceIte]) (task_ok h2 (k := k) hk1 (put_at hget1)) ?_
  rintro v μ4 ⟨rfl, rfl⟩
  simp only [w1, w2, zH, zI, ↓reduceIte, zA, htf2, e3]
  refine R_calls (l := [pt E.m 0]) (by simp only [w1, w2, ↓reduceIte]) hst ?_
  rintro v μ5 ⟨rfl, rfl⟩
  simp only [w1, w2, ↓reduceIte, zA, a1, a4']
  have er : S.tick.2.put S.run { t with frames := { f with met := met } :: r, begun := wr64 (t.begun + 1) } = S.tick.2.put k { t with frames := { f with met := met } :: r, begun := wr64 (t.begun + 1) } := by rw [hk]
  rw [er] at hs3
  refine R_calls (l := [pt E.m 0, .c (.int .i64 hd), .c (.int .i64 13), .c (.int .i64 (wr64 (hd + 1))), .c (.int .i64 (wr64 (wr64 (hd + 1) + x.size)))]) (by simp only [w1, w2, ↓reduceIte, zA, wr64]) (opens_ok h3 hs3) ?_
  rintro v μ6 ⟨L6, h6, s6, k6⟩
  simp only [w1, w2, aRet, aRes, toCells]
  exact ⟨_, rfl, L6, h6, s6.put.cast (by rw [tick_tasks.1]), k1.trans (k2.trans (k3.trans k6))⟩
 | nil =>
  rw [hmet] at hs1
  simp only at hs1
  have hz0 : decide (((f.met.length : Nat) : Int) > 0) = false := decide_eq_false (by rw [hmet]; simp)
  have many : μ0.ld (some 2) (L.id (.frames k)) (r.length * 8 + 6) = some (.agg [.int .i64 f.way, .int .i64 f.num]) := hmany 2 6 _ rfl
  simp only [w1, w2, ↓reduceIte, zA, r4s, hz0]
  refine R_calls (l := [pt E.m 0]) (by simp only [w1, w2, ↓reduceIte]) (task_ok h hk hget) ?_
  rintro v μ1 ⟨rfl, rfl⟩
  have es : (μ1.new [.int .i64 0, .int .i64 0] 0).st μ1.next 0 [.int .i64 f.way, .int .i64 f.num] = some (μ1.new [.int .i64 f.way, .int .i64 f.num] 0) := new_st0 rfl
  have h2 : Rep E L S (μ1.new [.int .i64 f.way, .int .i64 f.num] 0) := h.tmp
  have k2 : Keep L μ1 L (μ1.new [.int .i64 f.way, .int .i64 f.num] 0) := Keep.tmp
  have hf2 : Free L μ1.next := h.free (Nat.le_refl _)
  have hn2 : μ1.next < (μ1.new [.int .i64 f.way, .int .i64 f.num] 0).next := Nat.lt_succ_self _
  have hl0 : (μ1.new [.int .i64 f.way, .int .i64 f.num] 0).ld none μ1.next 0 = some (.c (.int .i64 f.way)) := new_ld0 rfl
  have hl1 : (μ1.new [.int .i64 f.way, .int .i64 f.num] 0).ld none μ1.next 1 = some (.c (.int .i64 f.num)) := new_ld0 rfl
  have hl2 : (μ1.new [.int .i64 f.way, .int .i64 f.num] 0).ld (some 2) μ1.next 0 = some (.agg [.int .i64 f.way, .int .i64 f.num]) := by rw [Mem.new_ld, if_pos rfl]; rfl
  simp only [w1, w2, zH, zI, ↓reduceIte, zA, zB, many, es]
  generalize μ1.new [.int .i64 f.way, .int .i64 f.num] 0 = μ2 at *
  obtain ⟨_, hrow2, _⟩ := h2.topAt hget hf
  have q0 := hrow2 0 _ rfl
  have q1 := hrow2 1 _ rfl
  have htf := h2.tfacts hget
  have hcf : icon E L S (.frames k) = some (8, cat (frow L k) 0 t.frames.reverse) := by simp only [icon, hget, Option.map_some]
  have hlf : (cat (frow L k) 0 t.frames.reverse).length = t.frames.length * 8 := by rw [cat_length (frow_len L k)]; simp
  obtain ⟨fa, fc, hfs⟩ := h2.has.scf hcf hlf (by omega)
  have hup : ∀ kd : IntKind, aslc 8 (.c (L.sc (.frames k) t.frames.length)) none (some (.c (.int kd (r.length : Int)))) = some (.c (L.sc (.frames k) r.length)) := fun kd => h2.has.upto hcf hlf (by omega) (by rw [hf]; simp)
  have hw := wlen hf hfl
  rw [hfs] at htf hup
  obtain ⟨μ3, e3, h3, k3⟩ := h2.pop hget hf
  have hg3 : (S.put k { t with frames := r }).tasks[k]? = some { t with frames := r } := put_at hget
  have htf3 := h3.tfacts hg3
  obtain ⟨ga, gc, hgs⟩ := h3.fsc hg3
  simp only [hgs] at htf3
  have j0 : μ3.ld none μ1.next 0 = some (.c (.int .i64 f.way)) := (k3.ld hn2 hf2).trans hl0
  have j1 : μ3.ld none μ1.next 1 = some (.c (.int .i64 f.num)) := (k3.ld hn2 hf2).trans hl1
  have j2 : μ3.ld (some 2) μ1.next 0 = some (.agg [.int .i64 f.way, .int .i64 f.num]) := (k3.ld hn2 hf2).trans hl2
  have kk := k2.trans k3
  have hn3 : μ1.next < μ3.next := Nat.lt_of_lt_of_le hn2 k3.next
  have hf3 : Free L μ1.next := k3.free hn2 hf2
  simp only [w1, w2, q0, q1, htf, hw, hup, e3, htf3]
  rw [hk] at hs1
  cases r with
  | nil =>
   simp only at hs1
   have hb0 : (((0 : Nat) : Int) == 0) = true := rfl
   simp only [w1, w2, ↓reduceIte, zA, hb0, j2]
   refine R_calls (l := [pt E.m 0, .agg [.int .i64 f.way, .int .i64 f.num]]) (by simp only [w1, w2, ↓reduceIte, zA]) (ended_ok h3 hs1) ?_
   rintro v μ4 ⟨L4, h4, s4, k4⟩
   simp only [w1, w2, aRet, aRes, toCells]
   exact ⟨_, rfl, L4, h4, s4.put, kk.trans k4⟩
  | cons up r' =>
   simp only at hs1
   have hb1 : (((r'.length + 1 : Nat) : Int) == 0) = false := beq_ff (by omega)
   have hfl' : ({ t with frames := up :: r' } : PTk).frames.length < roomy := by rw [hf] at hfl; simp only [List.length_cons] at hfl ⊢; omega
   have hk3 : (S.put k { t with frames := up :: r' }).run = (k : Int) := hk
   simp only [w1, w2, ↓reduceIte, zA, hb1]
   by_cases h11 : f.op = 11 ∧ f.way = 2
   ·rw [if_pos h11] at hs1
    obtain ⟨l, hsl, hs2⟩ := Option.bind_eq_some_iff.1 hs1
    obtain ⟨x, hx, hs3⟩ := Option.bind_eq_some_iff.1 hs2
    obtain ⟨S2, htl, hs4⟩ := Option.bind_eq_some_iff.1 hs3
    obtain ⟨t2, hi2, hs5⟩ := Option.bind_eq_some_iff.1 hs4
    obtain ⟨t3, hr3, hs6⟩ := Option.map_eq_some_iff.1 hs5
    subst hs6
    obtain ⟨k', hk', hg2⟩ := idx_some hi2
    obtain rfl : k' = k := by omega
    obtain ⟨c, hc, hst⟩ := steps_ok h3 hk3 hg3 hsl
    obtain ⟨j, hj, hjx⟩ := idx_some hx
    obtain ⟨sb, so, a1, a2, a3, a4⟩ := h3.stepAt hc hjx
    rw [← hj] at a1
    have es2 : (μ3.new [.int .i64 0, .int .i64 0, .int .i64 0, .int .i64 0, .int .i64 0] 0).st μ3.next 0 [.int .i64 x.op, .int .i64 x.a, .int .i64 x.b, .int .i64 x.n, .int .i64 x.size] = some (μ3.new [.int .i64 x.op, .int .i64 x.a, .int .i64 x.b, .int .i64 x.n, .int .i64 x.size] 0) := new_st0 rfl
    have h4 : Rep E L (S.put k' { t with frames := up :: r' }) (μ3.new (xcells x) 0) := h3.tmp
    have hx4 : XAt (μ3.new (xcells x) 0) μ3.next x := XAt.new
    have hf4 : Free L μ3.next := h3.free (Nat.le_refl _)
    have hb4 : μ3.next < (μ3.new (xcells x) 0).next := Nat.lt_succ_self _
    have k4 : Keep L μ3 L (μ3.new (xcells x) 0) := Keep.tmp
    simp only [xcells] at h4 hx4 hb4 k4 a3
    have i1 := (k4.ld (n := none) (o := 1) hn3 hf3).trans j1
    simp only [w1, w2, ↓reduceIte, zA, beq_tt h11.1, beq_tt h11.2, j0]
    refine R_calls (l := [pt E.m 0]) (by simp only [w1, w2, ↓reduceIte]) hst ?_
    rintro v μ4 ⟨rfl, rfl⟩
    simp only [w1, w2, zH, zI, ↓reduceIte, zA, zB, a1, a3, es2]
    generalize μ4.new [.int .i64 x.op, .int .i64 x.a, .int .i64 x.b, .int .i64 x.n, .int .i64 x.size] 0 = μ5 at *
    simp only [w2, i1]
    refine R_calls (l := [pt E.m 0, .c (.int .i64 4), .c (.int .i64 0), .c (.int .i64 f.num)]) (by simp only [w1, w2, ↓reduceIte, zA]) (tell_ok h4 htl) ?_
    rintro v μ6 ⟨L6, h6, s6, k6⟩
    have hx6 := hx4.keep k6 hb4 hf4
    unfold XAt at hx6
    have hid : L6.id (.task k') = L.id (.task k') := s6.put.2 k' (List.getElem?_eq_some_iff.1 hget).1
    have htf6 := h6.tfacts hg2
    rw [hid] at htf6
    obtain ⟨b1, μ7, e7, h7, k7⟩ := h6.setReg hg2 hr3
    have i6 := (k6.ld (n := none) (o := 1) (Nat.lt_of_lt_of_le hn3 k4.next) (k4.free hn3 hf3)).trans i1
    simp only [w1, w2, zH, zI, ↓reduceIte, zA, htf6, hx6, i6, b1, e7, aRet, aRes, toCells]
    exact ⟨_, rfl, L6, h7, s6.put, kk.trans (k4.trans (k6.trans k7))⟩
   rw [if_neg h11] at hs1
   by_cases hw0 : f.way = 0
   ·rw [if_pos hw0] at hs1
    simp only [Option.some.injEq] at hs1
    subst hs1
    by_cases h11' : f.op = 11
    ·have hw2 : ¬ f.way = 2 := by omega
     simp only [w1, w2, ↓reduceIte, zA, beq_tt h11', beq_ff hw2, j0, beq_tt hw0, aRet, aRes, toCells]
     exact ⟨_, rfl, L, h3, Stay.refl, kk⟩
    ·simp only [w1, w2, ↓reduceIte, zA, beq_ff h11', j0, beq_tt hw0, aRet, aRes, toCells]
     exact ⟨_, rfl, L, h3, Stay.refl, kk⟩
   rw [if_neg hw0] at hs1
   obtain ⟨_, hrow3, _⟩ := h3.topAt hg3 rfl
   have q6 := hrow3 6 _ rfl
   by_cases h11' : f.op = 11
   ·have hw2 : ¬ f.way = 2 := fun hh => h11 ⟨h11', hh⟩
    have h13 : ¬ f.op = 13 := by omega
    rw [if_neg (fun hh => h13 hh.1)] at hs1
    simp only [w1, w2, ↓reduceIte, zA, beq_tt h11', beq_ff hw2, j0, beq_ff hw0]
    refine R_calls (l := [pt E.m 0]) (by simp only [w1, w2, ↓reduceIte]) (top_ok h3 hk3 hg3 rfl hfl') ?_
    rintro v μ4 ⟨rfl, rfl⟩
    simp only [w1, w2, ↓reduceIte, zA, beq_ff h13, j2]
    refine R_calls (l := [pt E.m 0, .agg [.int .i64 f.way, .int .i64 f.num]]) (by simp only [w1, w2, ↓reduceIte, zA]) (mark_ok h3 hs1) ?_
    rintro v μ5 ⟨h5, k5⟩
    simp only [w1, w2, aRet, aRes, toCells]
    exact ⟨_, rfl, L, h5, Stay.refl, kk.trans k5⟩
   by_cases h13 : f.op = 13 ∧ up.way = 3
   ·rw [if_pos h13, put_put] at hs1
    simp only [Option.some.injEq] at hs1
    subst hs1
    obtain ⟨μ5, e5, h5, k5⟩ := h3.setTask hg3 (t' := { t with frames := up :: r', drops := true }) (o := 6) (new := [.bool true]) rfl (by simp) rfl rfl
    obtain ⟨μ6, e6, h6, k6⟩ := h5.setTask (put_at hg3) (t' := { t with frames := up :: r', drops := true, drop := f.num }) (o := 7) (new := [.int .i64 f.num]) rfl (by simp) rfl rfl
    rw [put_put, put_put] at h6
    have i1 := (k5.ld (n := none) (o := 1) hn3 hf3).trans j1
    simp only [w1, w2, ↓reduceIte, zA, beq_ff h11', j0, beq_ff hw0]
    refine R_calls (l := [pt E.m 0]) (by simp only [w1, w2, ↓reduceIte]) (top_ok h3 hk3 hg3 rfl hfl') ?_
    rintro v μ4 ⟨rfl, rfl⟩
    simp only [w1, w2, zH, zI, ↓reduceIte, zA, beq_tt h13.1, q6, beq_tt h13.2, e5, i1, e6, aRet, aRes, toCells]
    exact ⟨_, rfl, L, h6, Stay.refl, kk.trans (k5.trans k6)⟩
   rw [if_neg h13] at hs1
   simp only [w1, w2, ↓reduceIte, zA, beq_ff h11', j0, beq_ff hw0]
   refine R_calls (l := [pt E.m 0]) (by simp only [w1, w2, ↓reduceIte]) (top_ok h3 hk3 hg3 rfl hfl') ?_
   rintro v μ4 ⟨rfl, rfl⟩
   by_cases h13' : f.op = 13
   ·have hu3 : ¬ up.way = 3 := fun hh => h13 ⟨h13', hh⟩
    simp only [w1, w2, ↓reduceIte, zA, beq_tt h13', q6, beq_ff hu3, j2]
    refine R_calls (l := [pt E.m 0, .agg [.int .i64 f.way, .int .i64 f.num]]) (by simp only [w1, w2, ↓reduceIte, zA]) (mark_ok h3 hs1) ?_
    rintro v μ5 ⟨h5, k5⟩
    simp only [w1, w2, aRet, aRes, toCells]
    exact ⟨_, rfl, L, h5, Stay.refl, kk.trans k5⟩
   ·simp only [w1, w2, ↓reduceIte, zA, beq_ff h13', j2]
    refine R_calls (l := [pt E.m 0, .agg [.int .i64 f.way, .int .i64 f.num]]) (by simp only [w1, w2, ↓reduceIte, zA]) (mark_ok h3 hs1) ?_
    rintro v μ5 ⟨h5, k5⟩
    simp only [w1, w2, aRet, aRes, toCells]
    exact ⟨_, rfl, L, h5, Stay.refl, kk.trans k5⟩
end
end Go.Proofs.Ytibmnlijoeppaaa.X
