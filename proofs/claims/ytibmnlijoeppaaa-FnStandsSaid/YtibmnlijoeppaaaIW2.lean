/-
 The program's machine: what tells a record, makes a task, opens a body, fails, turns, looks at a loop.
-/
import Derived.Test.YtibmnlijoeppaaaIRep2
namespace Go.Proofs.Ytibmnlijoeppaaa
open Nat renaming reduceEqDiff → zA, reduceAdd → zB, reduceLeDiff → zJ, reduceMul → zK
open Int renaming reduceLT → zC, reduceLE → zD, reduceNeg → zE, reduceBEq → zF, reduceBNe → zG
open AV renaming isTup → zH, cells → zI
set_option linter.unusedSimpArgs false
set_option linter.unusedVariables false

/-! 71: impl.StandAt$1 -/
def r71 : RFun := ⟨12, [], (.seq (.seq (.reg [rI 0 (.ld none (.t 1)) 5, rI 1 (.ld none (.t 2)) 6, rI 2 (.bin .eql (.t 5) (.t 6)) 7]) (.ite (.t 7) (.reg [rI 0 (.mv (.t 0)) 8, rI 1 (.call 67 [.t 8]) 9, ⟨2, .st (.t 3) (.t 9) 3, none, none, []⟩]) .skip)) (.reg [rI 0 (.ld none (.t 1)) 10, rI 1 (.bin .add (.t 10) (.k (.int .i64 1))) 11, ⟨2, .st (.t 1) (.t 11) 1, none, none, []⟩]))⟩
theorem p71 : prog 71 = some r71 := by kernel_rfl

/-! 91: impl.machine).create -/
def r91 : RFun := ⟨23, [.tmp 4], (.seq (.reg [rI 0 (.mv (.k (.int .i64 0))) 4]) (.seq (.reg [rI 0 (.mv (.t 0)) 5, rI 1 (.mv (.t 0)) 6, rI 2 (.nc (.t 6)) 7, rI 3 (.fa (.t 7) 3) 8, rI 4 (.ld none (.t 8)) 9, rI 5 (.mv (.t 1)) 10, rI 6 (.bld [.int .i64 0, .int .i64 0, .int .i64 0, .int .i64 0, .int .i64 0, .int .i64 0, .int .i64 0, .int .i64 0, .int .i64 0, .int .i64 0, .int .i64 0, .int .i64 0, .slc none 0 0, .bool false, .bool false, .int .i64 0, .int .i64 0, .int .i64 0] [(0, 1, .t 10), (6, 1, .k (.int .i64 (-1)))]) 11, rI 7 (.box (.t 11) 18) 12, rI 8 (.bsl [.ptr none] 1 [(0, .t 12)]) 13, rI 9 (.app 1 8 (.t 9) (.t 13)) 14, rI 10 (.nc (.t 5)) 15, rI 11 (.fa (.t 15) 3) 16, ⟨12, .st (.t 16) (.t 14) 1, none, none, []⟩]) (.seq (.reg [rI 0 (.mv (.t 0)) 17, rI 1 (.nc (.t 17)) 18, rI 2 (.fa (.t 18) 3) 19, rI 3 (.ld none (.t 19)) 20, rI 4 (.len (.t 20)) 21, rI 5 (.bin .sub (.t 21) (.k (.int .i64 1))) 22, rI 6 (.mv (.t 22)) 4]) .ret)))⟩
theorem p91 : prog 91 = some r91 := by kernel_rfl

/-! 92: impl.machine).start -/
def r92 : RFun := ⟨13, [], (.reg [rI 0 (.mv (.t 1)) 4, rI 1 (.mv (.t 0)) 5, rI 2 (.mv (.t 1)) 6, rI 3 (.call 111 [.t 5, .t 6]) 7, rI 4 (.len (.t 7)) 8, rI 5 (.bld [.int .i64 0, .int .i64 0, .int .i64 0, .int .i64 0, .slc none 0 0, .bool false, .int .i64 0, .int .i64 0] [(1, 1, .k (.int .i64 (-1))), (3, 1, .t 8)]) 9, rI 6 (.bsl [.int .i64 0, .int .i64 0, .int .i64 0, .int .i64 0, .slc none 0 0, .bool false, .int .i64 0, .int .i64 0] 1 [(0, .t 9)]) 10, rI 7 (.nc (.t 4)) 11, rI 8 (.fa (.t 11) 12) 12, ⟨9, .st (.t 12) (.t 10) 1, none, none, []⟩])⟩
theorem p92 : prog 92 = some r92 := by kernel_rfl

/-! 116: impl.machine).tell -/
def r116 : RFun := ⟨38, [], (.seq (.seq (.reg [rI 0 (.mv (.t 0)) 8, rI 1 (.nc (.t 8)) 9, rI 2 (.fa (.t 9) 11) 10, rI 3 (.ld none (.t 10)) 11, rI 4 (.eq true .fn (.t 11) (.k .nilfn)) 12]) (.ite (.t 12) (.reg [rI 0 (.mv (.t 0)) 13, rI 1 (.nc (.t 13)) 14, rI 2 (.fa (.t 14) 11) 15, rI 3 (.ld none (.t 15)) 16, rI 4 (.mv (.t 0)) 17, rI 5 (.callv (.t 16) [.t 17]) 18]) .skip)) (.reg [rI 0 (.mv (.t 0)) 19, rI 1 (.mv (.t 0)) 20, rI 2 (.nc (.t 20)) 21, rI 3 (.fa (.t 21) 5) 22, rI 4 (.fa (.t 22) 1) 23, rI 6 (.mv (.t 1)) 25, rI 7 (.mv (.t 0)) 26, rI 8 (.nc (.t 26)) 27, rI 9 (.fa (.t 27) 4) 28, rI 11 (.mv (.t 2)) 30, rI 12 (.mv (.t 3)) 31, rI 5 (.ld none (.t 23)) 24, rI 10 (.ld none (.t 28)) 29, rI 13 (.bld [.int .i64 0, .int .i64 0, .int .i64 0, .int .i64 0] [(0, 1, .t 25), (1, 1, .t 29), (2, 1, .t 30), (3, 1, .t 31)]) 32, rI 14 (.bsl [.int .i64 0, .int .i64 0, .int .i64 0, .int .i64 0] 1 [(0, .t 32)]) 33, rI 15 (.app 4 32 (.t 24) (.t 33)) 34, rI 16 (.nc (.t 19)) 35, rI 17 (.fa (.t 35) 5) 36, rI 18 (.fa (.t 36) 1) 37, ⟨19, .st (.t 37) (.t 34) 1, none, none, []⟩]))⟩
theorem p116 : prog 116 = some r116 := by kernel_rfl

/-! 117: impl.machine).fail -/
def r117 : RFun := ⟨21, [], (.seq (.reg [rI 0 (.mv (.t 0)) 5, rI 1 (.mv (.t 1)) 6, rI 2 (.call 116 [.t 5, .k (.int .i64 3), .k (.int .i64 0), .t 6]) 7]) (.seq (.reg [rI 0 (.mv (.t 0)) 8, rI 1 (.call 112 [.t 8]) 9, rI 2 (.call 113 [.t 9]) 10, rI 3 (.mv (.t 10)) 4]) (.reg [rI 0 (.mv (.t 4)) 11, rI 1 (.mv (.t 4)) 12, rI 2 (.mv (.t 4)) 13, rI 3 (.mv (.t 1)) 14, rI 4 (.nc (.t 11)) 15, rI 5 (.fa (.t 15) 5) 16, ⟨6, .st (.t 16) (.k (.bool true)) 1, none, none, []⟩, rI 7 (.nc (.t 12)) 17, rI 8 (.fa (.t 17) 6) 18, ⟨9, .st (.t 18) (.k (.int .i64 2)) 1, none, none, []⟩, rI 10 (.nc (.t 13)) 19, rI 11 (.fa (.t 19) 7) 20, ⟨12, .st (.t 20) (.t 14) 1, none, none, []⟩])))⟩
theorem p117 : prog 117 = some r117 := by kernel_rfl

/-! 121: impl.machine).other -/
def r121 : RFun := ⟨23, [.tmp 4], (.seq (.reg [rI 0 (.mv (.k (.ptr none))) 4]) (.seq (.seq (.reg [rI 0 (.mv (.t 1)) 5, rI 1 (.bin .lss (.t 5) (.k (.int .i64 0))) 6, rI 2 (.mv (.t 6)) 7, ⟨3, .mv (.t 1), some 8, some (7, false), []⟩, ⟨4, .mv (.t 0), some 9, some (7, false), []⟩, ⟨5, .nc (.t 9), some 10, some (7, false), []⟩, ⟨6, .fa (.t 10) 3, some 11, some (7, false), []⟩, ⟨7, .ld none (.t 11), some 12, some (7, false), []⟩, ⟨8, .len (.t 12), some 13, some (7, false), []⟩, ⟨9, .bin .geq (.t 8) (.t 13), some 14, some (7, false), []⟩, rI 10 (.pick (.t 7) (.k (.bool true)) (.t 14)) 15]) (.ite (.t 15) (.seq (.reg [rI 0 (.mv (.k (.ptr none))) 4]) .ret) .skip)) (.seq (.reg [rI 0 (.mv (.t 0)) 16, rI 1 (.nc (.t 16)) 17, rI 2 (.fa (.t 17) 3) 18, rI 3 (.ld none (.t 18)) 19, rI 4 (.mv (.t 1)) 20, rI 5 (.ias (.t 19) (.t 20) 1) 21, rI 6 (.ld none (.t 21)) 22, rI 7 (.mv (.t 22)) 4]) .ret)))⟩
theorem p121 : prog 121 = some r121 := by kernel_rfl

/-! 122: impl.machine).look -/
def r122 : RFun := ⟨53, [], (.seq (.seq (.reg [rI 0 (.mv (.t 0)) 7, rI 1 (.call 115 [.t 7]) 8, rI 2 (.nt (.t 8)) 9]) (.ite (.t 9) .ret .skip)) (.seq (.reg [rI 0 (.mv (.t 0)) 10, rI 1 (.mv (.t 1)) 11, rI 2 (.call 111 [.t 10, .t 11]) 12, rI 3 (.mv (.t 2)) 13, rI 4 (.ias (.t 12) (.t 13) 5) 14, rI 5 (.ld (some 5) (.t 14)) 15, rI 6 (.alc [.int .i64 0, .int .i64 0, .int .i64 0, .int .i64 0, .int .i64 0]) 6, ⟨7, .st (.t 6) (.t 15) 5, none, none, []⟩]) (.seq (.reg [rI 0 (.mv (.t 1)) 16, rI 1 (.fa (.t 6) 1) 17, rI 3 (.nc (.t 16)) 19, rI 4 (.fa (.t 19) 2) 20, rI 2 (.ld none (.t 17)) 18, rI 5 (.iaa (.t 20) (.t 18) 4 1) 21, rI 6 (.ld none (.t 21)) 22, rI 7 (.bin .gtr (.t 22) (.k (.int .i64 0))) 23]) (.ite (.t 23) (.seq (.reg [rI 0 (.mv (.t 1)) 24, rI 1 (.fa (.t 6) 1) 25, rI 3 (.nc (.t 24)) 27, rI 4 (.fa (.t 27) 2) 28, rI 8 (.nc (.t 24)) 32, rI 9 (.fa (.t 32) 2) 33, rI 2 (.ld none (.t 25)) 26, rI 5 (.iaa (.t 28) (.t 26) 4 1) 29, rI 6 (.ld none (.t 29)) 30, rI 7 (.bin .sub (.t 30) (.k (.int .i64 1))) 31, rI 10 (.iaa (.t 33) (.t 26) 4 1) 34, ⟨11, .st (.t 34) (.t 31) 1, none, none, []⟩]) (.reg [rI 0 (.mv (.t 1)) 35, rI 1 (.mv (.t 1)) 36, rI 2 (.nc (.t 36)) 37, rI 3 (.fa (.t 37) 12) 38, rI 5 (.mv (.t 2)) 40, rI 6 (.mv (.t 2)) 41, rI 7 (.bin .add (.t 41) (.k (.int .i64 1))) 42, rI 8 (.mv (.t 2)) 43, rI 9 (.bin .add (.t 43) (.k (.int .i64 1))) 44, rI 10 (.fa (.t 6) 4) 45, rI 4 (.ld none (.t 38)) 39, rI 11 (.ld none (.t 45)) 46, rI 12 (.bin .add (.t 44) (.t 46)) 47, rI 13 (.bld [.int .i64 0, .int .i64 0, .int .i64 0, .int .i64 0, .slc none 0 0, .bool false, .int .i64 0, .int .i64 0] [(0, 1, .k (.int .i64 14)), (1, 1, .t 40), (2, 1, .t 42), (3, 1, .t 47)]) 48, rI 14 (.bsl [.int .i64 0, .int .i64 0, .int .i64 0, .int .i64 0, .slc none 0 0, .bool false, .int .i64 0, .int .i64 0] 1 [(0, .t 48)]) 49, rI 15 (.app 8 80 (.t 39) (.t 49)) 50, rI 16 (.nc (.t 35)) 51, rI 17 (.fa (.t 51) 12) 52, ⟨18, .st (.t 52) (.t 50) 1, none, none, []⟩])) .skip))))⟩
theorem p122 : prog 122 = some r122 := by kernel_rfl

/-! 143: impl.machine).turn -/
def r143 : RFun := ⟨22, [], (.seq (.reg [rI 0 (.mv (.t 0)) 6, rI 1 (.mv (.t 1)) 7, rI 2 (.nc (.t 6)) 8, rI 3 (.fa (.t 8) 4) 9, ⟨4, .st (.t 9) (.t 7) 1, none, none, []⟩]) (.seq (.reg [rI 0 (.mv (.t 0)) 10, rI 1 (.nc (.t 10)) 11, rI 2 (.fa (.t 11) 3) 12, rI 3 (.ld none (.t 12)) 13, rI 4 (.mv (.t 1)) 14, rI 5 (.ias (.t 13) (.t 14) 1) 15, rI 6 (.ld none (.t 15)) 16, rI 7 (.nc (.t 16)) 17, rI 8 (.fa (.t 17) 1) 18, ⟨9, .st (.t 18) (.k (.int .i64 2)) 1, none, none, []⟩]) (.reg [rI 0 (.mv (.t 0)) 19, rI 1 (.mv (.t 2)) 20, rI 2 (.call 116 [.t 19, .k (.int .i64 2), .t 20, .k (.int .i64 0)]) 21])))⟩
theorem p143 : prog 143 = some r143 := by kernel_rfl



section
variable {E : IEnv} {L L' : Lay IR} {S S' : PM} {μ μ' : Mem}

theorem Rep.free (h : Rep E L S μ) {b : Nat} (hb : μ.next ≤ b) : Free L b := fun r hr e => by have := h.has.lt r hr; omega

theorem Keep.ld (k : Keep L μ L' μ') {b : Nat} (hb : b < μ.next) (hf : Free L b) {n : Option Nat} {o : Nat} : μ'.ld n b o = μ.ld n b o := by
 simp only [Mem.ld, (k.keep b hb hf).1]

theorem Keep.free (k : Keep L μ L' μ') {b : Nat} (hb : b < μ.next) (hf : Free L b) : Free L' b := (k.keep b hb hf).2

theorem new_st0 {cs x : List Cell} {e : Nat} (h : x.length = cs.length) : (μ.new cs e).st μ.next 0 x = some (μ.new x e) := by
 rw [Mem.new_st, if_pos rfl, stl, if_pos (by omega)]
 congr 2
 have := wr_append (j := []) (new := x) (l := cs) (o := 0) (by omega)
 have h2 : ∀ (x l : List Cell), x.length = l.length → ∀ p : List Cell, wr (p ++ l) p.length x = p ++ x := by
  intro x
  induction x with
  | nil => intro l hl p; have : l = [] := List.eq_nil_of_length_eq_zero (by simpa using hl.symm); subst this; rfl
  | cons c x ih =>
   intro l hl p
   rcases l with _ | ⟨d, l⟩
   ·simp at hl
   ·simp only [wr]
    rw [List.set_append_right _ _ (Nat.le_refl _)]
    simp only [Nat.sub_self, List.set_cons_zero]
    have e1 : p ++ c :: l = (p ++ [c]) ++ l := by simp
    have e2 : p.length + 1 = (p ++ [c]).length := by simp
    rw [e1, e2, ih l (by simpa using hl)]
    simp
 exact h2 x cs h []

theorem new_ld0 {cs : List Cell} {e o : Nat} {c : Cell} (h : cs[o]? = some c) : (μ.new cs e).ld none μ.next o = some (.c c) := by
 rw [Mem.new_ld, if_pos rfl, ldl_none, h]; rfl

theorem After.of {L' : Lay IR} (h : Rep E L' S' μ') (s : Stay S L L') (k : Keep L μ L' μ') : After E L S μ S' μ' := ⟨L', h, s, k⟩

/-- As 'After'; the rings lie where they lay. -/
def AfterT (E : IEnv) (L : Lay IR) (S : PM) (μ : Mem) (S' : PM) (μ' : Mem) : Prop := ∃ L', Rep E L' S' μ' ∧ Stay S L L' ∧ Keep L μ L' μ' ∧ ∀ i n, L'.sc (.ring i) n = L.sc (.ring i) n

theorem hook_ok (h : Rep E L S μ) (hroom : S.tasks.length < roomy) {hk : PHk} (hh : S.hook = some hk) :
  Ret 71 [pt E.m 0, pt (L.id .hn) 0, pt (L.id .hk) 0, pt (L.id .hs) 0] μ fun v μ' => AfterT E L S μ S.hooked μ' := by
 obtain ⟨h1, h2⟩ := h.hfacts hh
 refine Ret_of p71 (by simp [r71]) ?_
 simp only [rI, r71, frOf_4]
 simp only [w1, w2, ↓reduceIte, zA, h1, h2]
 unfold PM.hooked
 rw [hh]
 dsimp only
 by_cases he : hk.n = hk.k
 ·rw [if_pos he]
  have hb : (hk.n == hk.k) = true := by simpa using he
  simp only [hb, w1, w2, ↓reduceIte, zA]
  refine R_calls (l := [pt E.m 0]) (by simp only [w1, w2, ↓reduceIte]) (stand_ok h hroom) ?_
  rintro v μ1 ⟨Ls, rfl, hL, hs⟩
  obtain ⟨L1, μ2, e1, hr1, s1, k1, ehn, erg⟩ := h.setStand hs hh hL true S.run
  obtain ⟨h3, _⟩ := hr1.hfacts (k := { hk with stand := ⟨true, S.run, S.tasks.map PTk.view⟩ }) rfl
  obtain ⟨μ3, e2, hr2, k2⟩ := hr1.setHn (k := { hk with stand := ⟨true, S.run, S.tasks.map PTk.view⟩ }) rfl (wr64 (hk.n + 1))
  rw [List.length_map] at e1
  rw [ehn] at h3 e2
  unfold wr64 at e2
  simp only [w1, w2, zH, zI, ↓reduceIte, zA, zB, e1, h3, e2, aRet, aRes, toCells]
  exact ⟨_, rfl, L1, hr2, s1, k1.trans k2, erg⟩
 ·rw [if_neg he]
  have hb : (hk.n == hk.k) = false := beq_ff he
  obtain ⟨μ3, e2, hr2, k2⟩ := h.setHn hh (wr64 (hk.n + 1))
  unfold wr64 at e2
  simp only [hb, w1, w2, zH, zI, ↓reduceIte, zA, h1, e2, aRet, aRes, toCells]
  exact ⟨_, rfl, L, hr2, Stay.refl, k2, fun _ _ => rfl⟩

theorem R_callvs {ix : Nat} {f : Opd} {args : List Opd} {d : Option Nat} {s : List It} {fr : Fr} {Q : Fr → Mem → Prop} {g : Nat} {caps : List (Nat × Nat)} (hf : f.ev fr = .c (.fn g caps)) {l : List AV} {K : AV → Mem → Prop}
  (ha : (args.map (Opd.ev fr) ++ caps.map fun a => .c (.ptr (some a))) = l) (h : Ret g l μ K) (hr : ∀ v μ', K v μ' → R s (fr.put d v) μ' Q) : R (.o ⟨ix, .callv f args, d, none, []⟩ :: s) fr μ Q := by
 obtain ⟨v, μ', h1, h2⟩ := h
 exact R_callv hf (by rw [ha]; exact h1) (hr v μ' h2)

theorem tell_ok' (h : Rep E L S μ) {kind how num : Int} (ht : S.tell kind how num = some S') :
  Ret 116 [pt E.m 0, .c (.int .i64 kind), .c (.int .i64 how), .c (.int .i64 num)] μ fun v μ' => AfterT E L S μ S' μ' := by
 unfold PM.tell at ht
 split at ht
 ·rename_i hl
  simp only [Option.some.injEq] at ht
  subst ht
  have hm := h.mfacts
  refine Ret_of p116 (by simp [r116]) ?_
  simp only [rI, r116, frOf_4]
  simp only [w1, w2, ↓reduceIte, hm]
  cases hh : S.hook with
  | none =>
   have e : hookc L S.hook = .nilfn := by rw [hh]; rfl
   have e2 : S.hooked = S := by unfold PM.hooked; rw [hh]
   rw [hh] at e
   rw [e2]
   obtain ⟨L2, μ2, μ3, e1, e2, h2, ag, k2⟩ := h.pushRec ⟨kind, S.run, how, num⟩ hl.1
   simp only [recrow] at e1
   simp only [e, w1, w2, zH, zI, ↓reduceIte, zA, zB, aeq, hm, m2, fillc, wr, rep, zJ, zB, zK, List.append_nil, e1, e2, aRet, aRes, toCells]
   exact ⟨_, rfl, L2, h2, ⟨⟨(ag _ (by simp)).1, (ag _ (by simp)).1⟩, fun i hi => (ag _ (by simp)).1⟩, k2, fun i n => sc_eq (ag (.ring i) (by simp)).1 (ag (.ring i) (by simp)).2.1 (ag (.ring i) (by simp)).2.2 n⟩
  | some hk =>
   have e : hookc L (some hk) = .fn 71 [(L.id .hn, 0), (L.id .hk, 0), (L.id .hs, 0)] := rfl
   simp only [e, w1, w2, ↓reduceIte, zA, aeq, hm, hh]
   refine R_callvs rfl (l := [pt E.m 0, pt (L.id .hn) 0, pt (L.id .hk) 0, pt (L.id .hs) 0]) (by simp only [w1, w2, ↓reduceIte]) (hook_ok h hl.2 hh) ?_
   rintro v μ1 ⟨L1, h1, s1, k1, g1⟩
   have er : S.hooked.recs = S.recs := by unfold PM.hooked; rw [hh]
   have eru : S.hooked.run = S.run := by unfold PM.hooked; rw [hh]
   have hm1 := h1.mfacts
   obtain ⟨L2, μ2, μ3, e1, e2, h2, ag, k2⟩ := h1.pushRec ⟨kind, S.run, how, num⟩ (by rw [er]; exact hl.1)
   simp only [recrow] at e1
   rw [er] at e1 e2 h2
   rw [er, eru] at hm1
   simp only [w1, w2, zH, zI, ↓reduceIte, zA, zB, hm1, m2, fillc, wr, rep, zJ, zB, zK, List.append_nil, e1, e2, aRet, aRes, toCells]
   exact ⟨_, rfl, L2, h2, ⟨⟨(ag _ (by simp)).1.trans s1.1.1, (ag _ (by simp)).1.trans s1.1.2⟩, fun i hi => (ag _ (by simp)).1.trans (s1.2 i hi)⟩, k1.trans k2, fun i n => (sc_eq (ag (.ring i) (by simp)).1 (ag (.ring i) (by simp)).2.1 (ag (.ring i) (by simp)).2.2 n).trans (g1 i n)⟩
 ·cases ht

theorem tell_ok (h : Rep E L S μ) {kind how num : Int} (ht : S.tell kind how num = some S') :
  Ret 116 [pt E.m 0, .c (.int .i64 kind), .c (.int .i64 how), .c (.int .i64 num)] μ fun v μ' => After E L S μ S' μ' :=
 (tell_ok' h ht).mono fun v μ' ⟨L', h1, h2, h3, _⟩ => ⟨L', h1, h2, h3⟩

theorem put_put {i : Nat} {t t' : PTk} : (S.put i t).put i t' = S.put i t' := by simp [PM.put]
theorem put_at {i : Nat} {t t' : PTk} (ht : S.tasks[i]? = some t) : (S.put i t').tasks[i]? = some t' := by rw [put_get ht, if_pos rfl]
theorem Stay.put {i : Nat} {t : PTk} (s : Stay (S.put i t) L L') : Stay S L L' := ⟨s.1, fun j hj => s.2 j (by simp only [PM.put, List.length_set]; exact hj)⟩

theorem Stay.cast (s : Stay S' L L') (e : S.tasks.length = S'.tasks.length) : Stay S L L' := ⟨s.1, fun j hj => s.2 j (by omega)⟩
theorem tick_tasks : S.tick.2.tasks = S.tasks := by unfold PM.tick; split <;> rfl

theorem create_ok (h : Rep E L S μ) {body : Int} (hc : S.create body = some S') :
  Ret 91 [pt E.m 0, .c (.int .i64 body)] μ fun v μ' => v = .c (.int .i64 S.tasks.length) ∧ After E L S μ S' μ' := by
 unfold PM.create at hc
 split at hc
 ·rename_i hl
  simp only [Option.some.injEq] at hc
  subst hc
  have hm := h.mfacts
  obtain ⟨L1, μ1, μ2, e1, e2, h1, s1, k1⟩ := h.pushTask body hl
  have hm1 := h1.mfacts
  simp only [List.length_append, List.length_cons, List.length_nil, Nat.zero_add] at hm1
  obtain ⟨a, c, hsc⟩ := h1.has.scf (r := .tasks) (sz := 1) (n := S.tasks.length + 1) (cs := cat (trow L1) 0 (S.tasks ++ [newTask body])) rfl (by rw [cat_length (trow_len L1)]; simp) (by omega)
  rw [hsc] at hm1 e2
  rw [hsc] at e1
  refine Ret_of p91 (by simp [r91]) ?_
  simp only [rI, r91, frOf_2]
  simp only [ntk] at e1
  simp only [w1, w2, zH, zI, ↓reduceIte, zA, zB, zE, hm, m2, fillc, wr, rep, zJ, zB, zK, List.append_nil, Mem.new_next, e1, e2, hm1, aRet, aRes, aRes1]
  have e3 : IntKind.i64.wrap (((S.tasks.length + 1 : Nat) : Int) - 1) = (S.tasks.length : Int) := by
   unfold roomy at hl
   rw [small (by omega)]; omega
  rw [e3]
  exact ⟨_, rfl, rfl, L1, h1, s1, k1⟩
 ·cases hc

theorem Rd.slc {hi : Nat} {sz n : Nat} {c : Cell} {cs : List Cell} (h : Rd hi μ sz c n cs) : ∃ a cap, c = .slc a n cap := by
 obtain ⟨a, cap, h1, _⟩ := h; exact ⟨a, cap, h1⟩

theorem start_ok (h : Rep E L S μ) {i : Nat} (hs : S.start E.plan i = some S') :
  Ret 92 [pt E.m 0, pt (L.id (.task i)) 0] μ fun v μ' => After E L S μ S' μ' := by
 unfold PM.start at hs
 cases ht : S.tasks[i]? with
 | none => simp [idx, ht] at hs
 | some t =>
  have hi : idx S.tasks (i : Int) = some t := by simp [idx, ht]
  rw [hi] at hs
  simp only [Option.bind_some] at hs
  split at hs
  ·rename_i hf
   cases hl : t.steps E.plan with
   | none => rw [hl] at hs; cases hs
   | some l =>
    rw [hl] at hs
    simp only [Option.map_some, Option.some.injEq] at hs
    subst hs
    obtain ⟨x, hx, hr⟩ := steps_ok h ht hl
    obtain ⟨a, cap, rfl⟩ := hx.slc
    obtain ⟨L1, μ1, e1, h1, s1, k1⟩ := h.start ht hf ⟨0, -1, 0, l.length, [], false, 0, 0⟩ rfl
    simp only [nfr] at e1
    refine Ret_of p92 (by simp [r92]) ?_
    simp only [rI, r92, frOf_2]
    simp only [w1, w2, ↓reduceIte, zA, zE]
    refine R_calls (l := [pt E.m 0, pt (L.id (.task i)) 0]) (by simp only [w1, w2, ↓reduceIte, zA]) hr ?_
    rintro v μ' ⟨rfl, rfl⟩
    simp only [w1, w2, zH, zI, ↓reduceIte, zA, zB, zE, m2, fillc, wr, rep, zJ, zB, zK, List.append_nil, e1, aRet, aRes, toCells]
    exact ⟨_, rfl, L1, h1, s1, k1⟩
  ·cases hs

theorem fail_ok (h : Rep E L S μ) {num : Int} (hs : S.fail num = some S') :
  Ret 117 [pt E.m 0, .c (.int .i64 num)] μ fun v μ' => After E L S μ S' μ' := by
 unfold PM.fail at hs
 obtain ⟨S1, ht, hs⟩ := Option.bind_eq_some_iff.1 hs
 obtain ⟨t, hn, hs⟩ := Option.bind_eq_some_iff.1 hs
 obtain ⟨t', ho, hs⟩ := Option.map_eq_some_iff.1 hs
 subst hs
 refine Ret_of p117 (by simp [r117]) ?_
 simp only [rI, r117, frOf_2]
 simp only [w1, w2, ↓reduceIte, zA]
 refine R_calls (l := [pt E.m 0, .c (.int .i64 3), .c (.int .i64 0), .c (.int .i64 num)]) (by simp only [w1, w2, ↓reduceIte, zA]) (tell_ok h ht) ?_
 rintro v μ1 ⟨L1, h1, s1, k1⟩
 obtain ⟨k, hk, hget, hfl, hnow⟩ := now_ok h1 hn
 simp only [w1, w2, ↓reduceIte, zA]
 refine R_calls (l := [pt E.m 0]) (by simp only [w1, w2, ↓reduceIte]) hnow ?_
 rintro v μ2 ⟨rfl, rfl⟩
 unfold PTk.onTop at ho
 cases hf : t.frames with
 | nil => rw [hf] at ho; cases ho
 | cons f r =>
  rw [hf] at ho
  simp only at ho
  rw [← hf, if_pos hfl] at ho
  simp only [Option.some.injEq] at ho
  subst ho
  simp only [w1]
  refine R_calls (l := [pt (L1.id (.task k)) 0]) (by simp only [w1, w2, ↓reduceIte]) (top_ok h1 hget hf hfl) ?_
  rintro v μ3 ⟨rfl, rfl⟩
  obtain ⟨μ4, e1, h2, k2⟩ := h1.setTop hget hf (f' := { f with leaving := true }) (k := 5) (new := [.bool true]) rfl (by simp) rfl
  obtain ⟨μ5, e2, h3, k3⟩ := h2.setTop (put_at hget) rfl (f' := { f with leaving := true, way := 2 }) (k := 6) (new := [.int .i64 2]) rfl (by simp) rfl
  obtain ⟨μ6, e3, h4, k4⟩ := h3.setTop (put_at (put_at hget)) rfl (f' := { f with leaving := true, way := 2, num := num }) (k := 7) (new := [.int .i64 num]) rfl (by simp) rfl
  rw [put_put, put_put] at h4
  simp only [w1, w2, zH, zI, ↓reduceIte, zA, e1, e2, e3, aRet, aRes, toCells]
  rw [hk]
  exact ⟨_, rfl, L1, h4, s1, k1.trans (k2.trans (k3.trans k4))⟩

theorem turn_ok (h : Rep E L S μ) {to : Nat} {how : Int} (hs : S.turn to how = some S') :
  Ret 143 [pt E.m 0, .c (.int .i64 to), .c (.int .i64 how)] μ fun v μ' => After E L S μ S' μ' := by
 unfold PM.turn at hs
 obtain ⟨t, hi, hs⟩ := Option.bind_eq_some_iff.1 hs
 obtain ⟨k, hk, hget⟩ := idx_some hi
 obtain rfl : to = k := by omega
 obtain ⟨μ1, e1, h1, k1⟩ := h.setMach (S' := { S with run := to }) (o := 4) (new := [.int .i64 to]) rfl (by simp) rfl rfl rfl rfl rfl
 have hm1 := h1.mfacts
 obtain ⟨tb, tp, e2, e3⟩ := h1.tasksAt (k := to) hget
 obtain ⟨μ2, e4, h2, k2⟩ := h1.setTask (i := to) (t' := { t with state := 2 }) hget (o := 1) (new := [.int .i64 2]) rfl (by simp) rfl (h.regs t (List.mem_of_getElem? hget))
 refine Ret_of p143 (by simp [r143]) ?_
 simp only [rI, r143, frOf_3]
 simp only [w1, w2, zH, zI, ↓reduceIte, zA, e1, hm1, e2, e3, e4]
 refine R_calls (l := [pt E.m 0, .c (.int .i64 2), .c (.int .i64 how), .c (.int .i64 0)]) (by simp only [w1, w2, ↓reduceIte, zA]) (tell_ok h2 hs) ?_
 rintro v μ3 ⟨L1, h3, s3, k3⟩
 simp only [w1, w2, aRet, aRes, toCells]
 refine ⟨_, rfl, L1, h3, ?_, k1.trans (k2.trans k3)⟩
 exact s3.put

theorem other_no (h : Rep E L S μ) {n : Int} (ho : S.other n = false) : Ret 121 [pt E.m 0, .c (.int .i64 n)] μ fun v μ' => v = .c (.ptr none) ∧ μ' = μ := by
 have hm := h.mfacts
 obtain ⟨a, c, hsc⟩ := h.has.scf (r := .tasks) (sz := 1) (n := S.tasks.length) (cs := cat (trow L) 0 S.tasks) rfl (by rw [cat_length (trow_len L)]) (by omega)
 rw [hsc] at hm
 unfold PM.other at ho
 refine Ret_of p121 (by simp [r121]) ?_
 simp only [rI, r121, frOf_2]
 by_cases hn : n < 0
 ·simp only [w1, w2, ↓reduceIte, zA, hn, aRet, aRes, aRes1]
  exact ⟨_, rfl, rfl⟩
 ·have h1 : decide (n < 0) = false := decide_eq_false hn
  have h2 : decide (n ≥ (S.tasks.length : Int)) = true := by
   have : 0 ≤ n := by omega
   simp [this] at ho
   exact decide_eq_true ho
  simp only [w1, w2, ↓reduceIte, zA, h1, hm, h2, aRet, aRes, aRes1]
  exact ⟨_, rfl, rfl⟩

theorem other_yes (h : Rep E L S μ) {n : Nat} {t : PTk} (ht : S.tasks[n]? = some t) : Ret 121 [pt E.m 0, .c (.int .i64 n)] μ fun v μ' => v = pt (L.id (.task n)) 0 ∧ μ' = μ := by
 have hm := h.mfacts
 obtain ⟨a, c, hsc⟩ := h.has.scf (r := .tasks) (sz := 1) (n := S.tasks.length) (cs := cat (trow L) 0 S.tasks) rfl (by rw [cat_length (trow_len L)]) (by omega)
 have hlt := (List.getElem?_eq_some_iff.1 ht).1
 obtain ⟨tb, tp, e2, e3⟩ := h.tasksAt ht
 rw [hsc] at hm e2
 have h1 : decide ((n : Int) < 0) = false := decide_eq_false (by omega)
 have h2 : decide ((n : Int) ≥ (S.tasks.length : Int)) = false := decide_eq_false (by omega)
 refine Ret_of p121 (by simp [r121]) ?_
 simp only [rI, r121, frOf_2]
 simp only [w1, w2, ↓reduceIte, zA, h1, hm, h2, e2, e3, aRet, aRes, aRes1]
 exact ⟨_, rfl, rfl⟩

/-- A step of a body, read. -/
theorem Rep.stepAt (h : Rep E L S μ) {l : List PStep} {c : Cell} (hx : Rd E.lo E.out 5 c l.length (cat scells 0 l)) {j : Nat} {x : PStep} (hj : l[j]? = some x) :
  ∃ b o, (∀ kd, aidx (.c c) (.c (.int kd (j : Int))) 5 = some (pt b o)) ∧ b < E.lo ∧ μ.ld (some 5) b o = some (.agg (scells j x)) ∧ (∀ k, k < 5 → μ.ld none b (o + k) = ((scells j x)[k]?).map .c) := by
 obtain ⟨b, o, e1, e2, e3, e4⟩ := hx.row scells_len (by omega) hj
 exact ⟨b, o, e1, e2, (h.same.ld e2).trans e3, fun k hk => (h.same.ld e2).trans (e4 k hk)⟩

theorem Rep.setReg (h : Rep E L S μ) {i : Nat} {t t' : PTk} (ht : S.tasks[i]? = some t) {a v : Int} (hv : t.setReg a v = some t') :
  (0 ≤ a ∧ a < ((4 : Nat) : Int)) ∧ ∃ μ', μ.st (L.id (.task i)) (2 + a.toNat * 1) [.int .i64 v] = some μ' ∧ Rep E L (S.put i t') μ' ∧ Keep L μ L μ' := by
 unfold PTk.setReg at hv
 split at hv
 ·rename_i ha
  simp only [Option.some.injEq] at hv
  subst hv
  refine ⟨ha, ?_⟩
  have hr := h.regs _ (List.mem_of_getElem? ht)
  obtain ⟨r0, r1, r2, r3, e⟩ : ∃ a b c d, t.regs = [a, b, c, d] := by
   rcases hh : t.regs with _ | ⟨a, _ | ⟨b, _ | ⟨c, _ | ⟨d, _ | ⟨e, l⟩⟩⟩⟩⟩ <;> rw [hh] at hr <;> simp at hr
   exact ⟨a, b, c, d, rfl⟩
  refine h.setTask ht ?_ (by simp; omega) rfl (by simp [hr])
  obtain ⟨k, rfl⟩ : ∃ k : Nat, a = k := ⟨a.toNat, by omega⟩
  simp only [Int.toNat_natCast]
  have hk : k < 4 := by omega
  rcases k with _ | _ | _ | _ | k
  ·simp only [tcells, e]; rfl
  ·simp only [tcells, e]; rfl
  ·simp only [tcells, e]; rfl
  ·simp only [tcells, e]; rfl
  ·omega
 ·cases hv

theorem look_ok (h : Rep E L S μ) {k : Nat} {at' : Int} (hs : S.look E.plan k at' = some S') :
  Ret 122 [pt E.m 0, pt (L.id (.task k)) 0, .c (.int .i64 at')] μ fun v μ' => After E L S μ S' μ' := by
 refine Ret_of p122 (by simp [r122]) ?_
 simp only [rI, r122, frOf_3]
 simp only [w1, w2, ↓reduceIte]
 refine R_calls (l := [pt E.m 0]) (by simp only [w1, w2, ↓reduceIte]) (tick_ok h) ?_
 rintro v μ1 ⟨rfl, h1, k1⟩
 unfold PM.look at hs
 by_cases hb : S.tick.1 = false
 ·rw [if_pos hb] at hs
  simp only [Option.some.injEq] at hs
  subst hs
  simp only [w1, w2, ↓reduceIte, hb, aRet, aRes, toCells]
  exact ⟨_, rfl, L, h1, Stay.refl, k1⟩
 ·rw [if_neg hb] at hs
  have hb' : S.tick.1 = true := by simpa using hb
  obtain ⟨t, hi, hs⟩ := Option.bind_eq_some_iff.1 hs
  obtain ⟨l, hl, hs⟩ := Option.bind_eq_some_iff.1 hs
  obtain ⟨x, hx, hs⟩ := Option.bind_eq_some_iff.1 hs
  obtain ⟨r, hr, hs⟩ := Option.bind_eq_some_iff.1 hs
  obtain ⟨k', hk', hget⟩ := idx_some hi
  obtain rfl : k = k' := by omega
  obtain ⟨j, rfl, hj⟩ := idx_some hx
  obtain ⟨c, hc, hst⟩ := steps_ok h1 hget hl
  obtain ⟨b, o, e1, e2, e3, e4⟩ := h1.stepAt hc hj
  simp only [w1, w2, ↓reduceIte, zA, hb']
  refine R_calls (l := [pt E.m 0, pt (L.id (.task k)) 0]) (by simp only [w1, w2, ↓reduceIte, zA]) hst ?_
  rintro v μ2 ⟨rfl, rfl⟩
  have es : (μ2.new [.int .i64 0, .int .i64 0, .int .i64 0, .int .i64 0, .int .i64 0] 0).st μ2.next 0 [.int .i64 x.op, .int .i64 x.a, .int .i64 x.b, .int .i64 x.n, .int .i64 x.size] = some (μ2.new [.int .i64 x.op, .int .i64 x.a, .int .i64 x.b, .int .i64 x.n, .int .i64 x.size] 0) := new_st0 rfl
  have h2 : Rep E L S.tick.2 (μ2.new [.int .i64 x.op, .int .i64 x.a, .int .i64 x.b, .int .i64 x.n, .int .i64 x.size] 0) := h1.tmp
  have l1 : (μ2.new [.int .i64 x.op, .int .i64 x.a, .int .i64 x.b, .int .i64 x.n, .int .i64 x.size] 0).ld none μ2.next 1 = some (.c (.int .i64 x.a)) := new_ld0 rfl
  have l4 : (μ2.new [.int .i64 x.op, .int .i64 x.a, .int .i64 x.b, .int .i64 x.n, .int .i64 x.size] 0).ld none μ2.next 4 = some (.c (.int .i64 x.size)) := new_ld0 rfl
  have hf2 : Free L μ2.next := h1.free (Nat.le_refl _)
  have hn2 : μ2.next < (μ2.new [.int .i64 x.op, .int .i64 x.a, .int .i64 x.b, .int .i64 x.n, .int .i64 x.size] 0).next := Nat.lt_succ_self _
  have kt : Keep L μ L (μ2.new [.int .i64 x.op, .int .i64 x.a, .int .i64 x.b, .int .i64 x.n, .int .i64 x.size] 0) := k1.trans Keep.tmp
  generalize μ2.new [.int .i64 x.op, .int .i64 x.a, .int .i64 x.b, .int .i64 x.n, .int .i64 x.size] 0 = μ3 at *
  obtain ⟨ha, l2⟩ := h2.ldreg hget hr
  simp only [scells] at e3
  simp only [w1, w2, zH, zI, ↓reduceIte, zA, zB, e1, e3, es, l1, viaa_in ha, l2]
  by_cases hr0 : r > 0
  ·rw [if_pos hr0] at hs
   obtain ⟨t1, hs1, hs⟩ := Option.bind_eq_some_iff.1 hs
   obtain ⟨t2, hs2, hs⟩ := Option.map_eq_some_iff.1 hs
   subst hs
   obtain ⟨_, μ4, e5, h4, k4⟩ := h2.setReg hget hs1
   have htf := h4.tfacts (put_at hget)
   unfold PTk.push at hs2
   split at hs2
   ·rename_i hlen
    simp only [Option.some.injEq] at hs2
    subst hs2
    obtain ⟨L5, μ5, μ6, e6, e7, h6, s6, k6⟩ := h4.push (f := block 14 j x.size) (put_at hget) rfl hlen
    rw [put_put] at h6
    simp only [nfr, block] at e6
    unfold wr64 at e5 e6
    rw [decide_eq_true hr0]
    have l4' := (k4.ld (n := none) (o := 4) hn2 hf2).trans l4
    simp only [w1, w2, zH, zI, ↓reduceIte, zA, zB, l1, viaa_in ha, l2, e5, l4', htf, m2, fillc, wr, rep, zJ, zB, zK, List.append_nil, e6, e7, aRet, aRes, toCells]
    exact ⟨_, rfl, L5, h6, s6.put.cast (by rw [tick_tasks]), kt.trans (k4.trans k6)⟩
   ·cases hs2
  ·rw [if_neg hr0] at hs
   simp only [Option.some.injEq] at hs
   subst hs
   rw [decide_eq_false hr0]
   simp only [w1, w2, aRet, aRes, toCells]
   exact ⟨_, rfl, L, h2, Stay.refl, kt⟩
end
end Go.Proofs.Ytibmnlijoeppaaa
