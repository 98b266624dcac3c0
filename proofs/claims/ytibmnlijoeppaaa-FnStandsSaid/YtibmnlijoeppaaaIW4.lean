/-
 The program's machine: what asks for another task.
-/
import Derived.Test.YtibmnlijoeppaaaIW3
namespace Go.Proofs.Ytibmnlijoeppaaa
open Nat renaming reduceEqDiff → zA, reduceAdd → zB, reduceLeDiff → zJ, reduceMul → zK
open Int renaming reduceLT → zC, reduceLE → zD, reduceNeg → zE, reduceBEq → zF, reduceBNe → zG
open AV renaming isTup → zH, cells → zI
set_option linter.unusedSimpArgs false
set_option linter.unusedVariables false

/-! 142: impl.machine).may -/
def b142_0 : RCode := (.seq (.reg [rI 0 (.bin .lss (.t 62) (.t 61)) 63]) (.seq (.ite (.t 63) .skip (.exit 2)) (.seq (.blk 3 (.seq (.reg [rI 0 (.mv (.t 62)) 64, rI 1 (.ias (.t 60) (.t 62) 1) 65, rI 2 (.ld none (.t 65)) 66, rI 3 (.mv (.t 64)) 8, rI 4 (.mv (.t 66)) 9]) (.seq (.reg [rI 0 (.mv (.t 9)) 67, rI 1 (.nc (.t 67)) 68, rI 2 (.fa (.t 68) 6) 69, rI 3 (.ld none (.t 69)) 70, rI 4 (.mv (.t 7)) 71, rI 5 (.bin .eql (.t 70) (.t 71)) 72, rI 6 (.mv (.t 72)) 73, ⟨7, .mv (.t 9), some 74, some (73, true), []⟩, ⟨8, .nc (.t 74), some 75, some (73, true), []⟩, ⟨9, .fa (.t 75) 1, some 76, some (73, true), []⟩, ⟨10, .ld none (.t 76), some 77, some (73, true), []⟩, ⟨11, .bin .neq (.t 77) (.k (.int .i64 4)), some 78, some (73, true), []⟩, rI 12 (.pick (.t 73) (.t 78) (.k (.bool false))) 79]) (.ite (.t 79) (.seq (.reg [rI 0 (.mv (.t 8)) 80, rI 1 (.mv (.t 80)) 7]) (.exit 2)) .skip)))) (.reg [rI 0 (.bin .add (.t 62) (.k (.int .i64 1))) 81, rI 1 (.mv (.t 81)) 62]))))
def b142_1 : RCode := (.blk 1 (.seq (.reg [rI 0 (.fa (.t 6) 1) 42, rI 1 (.ld none (.t 42)) 43, rI 2 (.mv (.t 7)) 44, rI 3 (.bsl [.int .i64 0] 1 [(0, .t 44)]) 45, rI 4 (.app 1 8 (.t 43) (.t 45)) 46, rI 5 (.fa (.t 6) 1) 47, ⟨6, .st (.t 47) (.t 46) 1, none, none, []⟩]) (.seq (.reg [rI 0 (.mv (.t 0)) 48, rI 1 (.mv (.t 7)) 49, rI 2 (.call 116 [.t 48, .k (.int .i64 5), .k (.int .i64 0), .t 49]) 50]) (.seq (.seq (.reg [rI 0 (.mv (.t 7)) 51, rI 1 (.mv (.t 0)) 52, rI 2 (.nc (.t 52)) 53, rI 3 (.fa (.t 53) 4) 54, rI 4 (.ld none (.t 54)) 55, rI 5 (.bin .eql (.t 51) (.t 55)) 56]) (.ite (.t 56) (.exit 0) .skip)) (.seq (.reg [rI 0 (.mv (.t 0)) 57, rI 1 (.nc (.t 57)) 58, rI 2 (.fa (.t 58) 3) 59, rI 3 (.ld none (.t 59)) 60, rI 4 (.len (.t 60)) 61, rI 5 (.mv (.k (.int .i64 0))) 62]) (.blk 2 (.loop b142_0)))))))
def r142 : RFun := ⟨94, [.tmp 4], (.seq (.reg [rI 0 (.mv (.k (.bool false))) 4]) (.seq (.reg [rI 0 (.mv (.t 0)) 10, rI 1 (.mv (.t 1)) 11, rI 2 (.call 121 [.t 10, .t 11]) 12, rI 3 (.mv (.t 12)) 5]) (.seq (.seq (.reg [rI 0 (.mv (.t 5)) 13, rI 1 (.eq false .ptr (.t 13) (.k (.ptr none))) 14]) (.ite (.t 14) (.seq (.reg [rI 0 (.mv (.t 0)) 15, rI 1 (.call 117 [.t 15, .k (.int .i64 (-12))]) 16]) (.seq (.reg [rI 0 (.mv (.k (.bool false))) 4]) .ret)) .skip)) (.seq (.seq (.reg [rI 0 (.mv (.t 5)) 17, rI 1 (.nc (.t 17)) 18, rI 2 (.fa (.t 18) 1) 19, rI 3 (.ld none (.t 19)) 20, rI 4 (.bin .eql (.t 20) (.k (.int .i64 0))) 21, rI 5 (.mv (.t 21)) 22, ⟨6, .mv (.t 5), some 23, some (22, false), []⟩, ⟨7, .nc (.t 23), some 24, some (22, false), []⟩, ⟨8, .fa (.t 24) 1, some 25, some (22, false), []⟩, ⟨9, .ld none (.t 25), some 26, some (22, false), []⟩, ⟨10, .bin .eql (.t 26) (.k (.int .i64 1)), some 27, some (22, false), []⟩, rI 11 (.pick (.t 22) (.k (.bool true)) (.t 27)) 28]) (.ite (.t 28) (.seq (.reg [rI 0 (.mv (.k (.bool true))) 4]) .ret) .skip)) (.seq (.seq (.reg [rI 0 (.mv (.t 5)) 29, rI 1 (.nc (.t 29)) 30, rI 2 (.fa (.t 30) 1) 31, rI 3 (.ld none (.t 31)) 32, rI 4 (.bin .neq (.t 32) (.k (.int .i64 4))) 33]) (.ite (.t 33) (.seq (.reg [rI 0 (.mv (.t 0)) 34, rI 1 (.nc (.t 34)) 35, rI 2 (.fa (.t 35) 5) 36, rI 3 (.fa (.t 36) 1) 37, rI 4 (.ld none (.t 37)) 38, rI 5 (.len (.t 38)) 39, rI 6 (.bld [.int .i64 0, .slc none 0 0] [(0, 1, .t 39)]) 40, rI 7 (.alc [.int .i64 0, .slc none 0 0]) 6, ⟨8, .st (.t 6) (.t 40) 2, none, none, []⟩]) (.seq (.seq (.reg [rI 0 (.mv (.t 1)) 41, rI 1 (.mv (.t 41)) 7]) (.blk 0 (.loop b142_1))) (.reg [rI 0 (.mv (.t 0)) 82, rI 1 (.mv (.t 0)) 83, rI 2 (.nc (.t 83)) 84, rI 3 (.fa (.t 84) 12) 85, rI 4 (.ld none (.t 85)) 86, rI 5 (.ld (some 2) (.t 6)) 87, rI 6 (.bsl [.int .i64 0, .slc none 0 0] 1 [(0, .t 87)]) 88, rI 7 (.app 2 32 (.t 86) (.t 88)) 89, rI 8 (.nc (.t 82)) 90, rI 9 (.fa (.t 90) 12) 91, ⟨10, .st (.t 91) (.t 89) 1, none, none, []⟩]))) .skip)) (.seq (.reg [rI 0 (.mv (.t 0)) 92, rI 1 (.call 117 [.t 92, .k (.int .i64 (-10))]) 93]) (.seq (.reg [rI 0 (.mv (.k (.bool false))) 4]) .ret)))))))⟩
theorem p142 : prog 142 = some r142 := by kernel_rfl



section
variable {E : IEnv} {L L' : Lay IR} {S S' : PM} {μ μ' : Mem}

theorem obj_st {b o : Nat} {cs x : List Cell} {e : Nat} (h : μ.obj b = some ⟨cs, e, false⟩) (hl : o + x.length ≤ cs.length) :
  ∃ μ', μ.st b o x = some μ' ∧ μ'.obj b = some ⟨wr cs o x, e, false⟩ ∧ (∀ y, y ≠ b → μ'.obj y = μ.obj y) ∧ μ'.next = μ.next := by
 refine ⟨μ.setObj b (some ⟨wr cs o x, e, false⟩), by simp only [Mem.st, h]; rw [if_pos ⟨trivial, hl⟩], ?_, fun y hy => ?_, rfl⟩
 ·simp only [Mem.setObj, if_true]
 ·simp only [Mem.setObj]; rw [if_neg hy]

theorem obj_ld {b o : Nat} {cs : List Cell} {c : Cell} {e : Nat} (h : μ.obj b = some ⟨cs, e, false⟩) (hc : cs[o]? = some c) : μ.ld none b o = some (.c c) := by
 simp only [Mem.ld, h, hc]; rfl

theorem obj_ldn {b o n : Nat} {cs l : List Cell} {e : Nat} (h : μ.obj b = some ⟨cs, e, false⟩) (hc : rd cs o n = some l) : μ.ld (some n) b o = some (.agg l) := by
 simp only [Mem.ld, h, hc]; rfl

theorem Rep.local (h : Rep E L S μ) {b : Nat} (hf : Free L b) (hb : E.lo ≤ b) (ho : ∀ y, y ≠ b → μ'.obj y = μ.obj y) (hn : μ'.next = μ.next) : Rep E L S μ' :=
 ⟨h.has.frame (by omega) fun r hr => ho _ (hf r hr), ⟨fun y hy => (ho y (by omega)).trans (h.same.1 y hy), by rw [hn]; exact h.same.2⟩, h.low, h.m, h.plan, h.regs⟩

theorem Keep.local {μ0 : Mem} (k : Keep L μ0 L' μ) {b : Nat} (hb : μ0.next ≤ b) (ho : ∀ y, y ≠ b → μ'.obj y = μ.obj y) (hn : μ'.next = μ.next) : Keep L μ0 L' μ' :=
 ⟨by rw [hn]; exact k.next, fun y hy hf => ⟨(ho y (by omega)).trans (k.keep y hy hf).1, (k.keep y hy hf).2⟩⟩

theorem waitLoop (h : Rep E L S μ) (hroom : S.tasks.length < roomy) {kk : Int} {s : List It} {Q : Fr → Mem → Prop} {b : Nat} :
  ∀ (d i : Nat) (fr : Fr), i + d = S.tasks.length → fr 0 = pt E.m 0 → fr 6 = pt b 0 → fr 7 = .c (.int .i64 kk) → fr 60 = .c (L.sc .tasks S.tasks.length) → fr 61 = .c (.int .i64 S.tasks.length) → fr 62 = .c (.int .i64 i) →
   (∀ fr', fr' 0 = pt E.m 0 → fr' 6 = pt b 0 → fr' 7 = .c (.int .i64 (match waits kk (S.tasks.drop i) i with | some j => (j : Int) | none => kk)) → R s fr' μ Q) →
   R (.c (.loop b142_0) :: .blk 2 :: s) fr μ Q := by
 intro d
 induction d with
 | zero =>
  intro i fr hi f0 f6 f7 f60 f61 f62 hend
  rw [R_loop]
  simp only [rI, b142_0]
  simp only [w1, w2, ↓reduceIte, f61, f62]
  rw [decide_eq_false (by omega)]
  simp only [w1]
  rw [R_exit rfl]
  refine hend _ ?_ ?_ ?_
  ·simp only [w1, ↓reduceIte, zA, f0]
  ·simp only [w1, ↓reduceIte, zA, f6]
  ·rw [List.drop_eq_nil_of_le (by omega)]
   simp only [w1, ↓reduceIte, zA, f7, waits]
 | succ d ih =>
  intro i fr hi f0 f6 f7 f60 f61 f62 hend
  have hlt : i < S.tasks.length := by omega
  have hget : S.tasks[i]? = some S.tasks[i] := List.getElem?_eq_getElem hlt
  have hdrop : S.tasks.drop i = S.tasks[i] :: S.tasks.drop (i + 1) := List.drop_eq_getElem_cons hlt
  obtain ⟨tb, tp, e1, e2⟩ := h.tasksAt hget
  have htf := h.tfacts hget
  rw [R_loop]
  simp only [rI, b142_0]
  simp only [w1, w2, ↓reduceIte, f61, f62]
  rw [decide_eq_true (by omega)]
  simp only [w1, w2, ↓reduceIte, zA, f60, f62, f7, e1, e2, htf]
  have next : ∀ fr : Fr, (S.tasks[i].waiter = kk → S.tasks[i].state = 4) → fr 0 = pt E.m 0 → fr 6 = pt b 0 → fr 7 = .c (.int .i64 kk) → fr 60 = .c (L.sc .tasks S.tasks.length) → fr 61 = .c (.int .i64 S.tasks.length) → fr 62 = .c (.int .i64 (i + 1 : Nat)) →
    R (.c (.loop b142_0) :: .blk 2 :: s) fr μ Q := by
   intro fr hno g0 g6 g7 g60 g61 g62
   refine ih (i + 1) fr (by omega) g0 g6 g7 g60 g61 g62 fun fr' h0 h6 h7 => hend fr' h0 h6 ?_
   rw [h7, hdrop]
   simp only [waits]
   rw [if_neg (fun hh => hh.2 (hno hh.1))]
  by_cases hw : S.tasks[i].waiter = kk
  ·by_cases hs : S.tasks[i].state = 4
   ·simp only [w1, w2, ↓reduceIte, zA, beq_tt hw, htf, f62, (show (S.tasks[i].state != 4) = false by simp [hs])]
    rw [small (by unfold roomy at hroom; omega), R_lp]
    refine next _ (fun _ => hs) ?_ ?_ ?_ ?_ ?_ ?_ <;> simp only [w1, ↓reduceIte, zA, f0, f6, f7, f60, f61]
    rfl
   ·simp only [w1, w2, ↓reduceIte, zA, beq_tt hw, htf, (show (S.tasks[i].state != 4) = true by simp [hs])]
    rw [R_exit rfl]
    refine hend _ ?_ ?_ ?_
    ·simp only [w1, ↓reduceIte, zA, f0]
    ·simp only [w1, ↓reduceIte, zA, f6]
    ·simp only [w1, ↓reduceIte]
     rw [hdrop]
     simp only [waits]
     rw [if_pos ⟨hw, hs⟩]
  ·simp only [w1, w2, ↓reduceIte, zA, beq_ff hw, f62]
   rw [small (by unfold roomy at hroom; omega), R_lp]
   refine next _ (fun hh => absurd hh hw) ?_ ?_ ?_ ?_ ?_ ?_ <;> simp only [w1, ↓reduceIte, zA, f0, f6, f7, f60, f61]
   rfl

theorem Rep.pend_lo (h : Rep E L S μ) (p : Option (List Int)) : ({ E with pend := p } : IEnv).lo = E.lo := rfl

theorem tell_rings {kind how num : Int} (h : S.tell kind how num = some S') : S'.rings = S.rings ∧ S'.tasks = S.tasks ∧ S'.run = S.run := by
 unfold PM.tell at h
 split at h
 ·simp only [Option.some.injEq] at h
  subst h
  unfold PM.hooked
  split <;> exact ⟨rfl, rfl, rfl⟩
 ·cases h

/-- A ring is told. 'μ0', 'L0', 'S0': as the function began. -/
theorem ringLoop {μ0 : Mem} {L0 : Lay IR} {b : Nat} {ln : Int} (hlo : E.lo ≤ μ0.next) (hb : μ0.next ≤ b) {s : List It} {Q : Fr → Mem → Prop} :
  ∀ (n : Nat) (S : PM) (L : Lay IR) (μ : Mem) (k : Int) (l : List Int) (fr : Fr) (S' : PM) (l' : List Int), PM.ringing n S k l = some (S', l') → S.tasks.length < roomy →
   Rep { E with pend := some l } L S μ → Stay S L0 L → Keep L0 μ0 L μ → b < μ.next → Free L b → μ.obj b = some ⟨[.int .i64 ln, L.sc (.ring S.rings.length) l.length], 0, false⟩ →
   fr 0 = pt E.m 0 → fr 6 = pt b 0 → fr 7 = .c (.int .i64 k) →
   (∀ fr' L' μ', Rep { E with pend := some l' } L' S' μ' → Stay S L0 L' → Keep L0 μ0 L' μ' → b < μ'.next → Free L' b → μ'.obj b = some ⟨[.int .i64 ln, L'.sc (.ring S'.rings.length) l'.length], 0, false⟩ →
    S'.tasks = S.tasks → S'.rings = S.rings → S'.run = S.run → fr' 0 = pt E.m 0 → fr' 6 = pt b 0 → R s fr' μ' Q) →
   R (.c (.loop b142_1) :: .blk 0 :: s) fr μ Q := by
 intro n
 induction n with
 | zero => intro S L μ k l fr S' l' hr; simp [PM.ringing] at hr
 | succ n ih =>
  intro S L μ k l fr S' l' hr hroom h st kp hbl hfree hob f0 f6 f7 hend
  unfold PM.ringing at hr
  split at hr
  ·rename_i hll
   obtain ⟨S1, ht, hr⟩ := Option.bind_eq_some_iff.1 hr
   obtain ⟨trn, ttk, tru⟩ := tell_rings ht
   have l1 := obj_ld (o := 1) hob rfl
   obtain ⟨L2, μ2, e2, h2, ag, k2⟩ := h.pushPend (l := l) rfl k hll
   have hob2 := hob
   rw [← (k2.keep b hbl hfree).1] at hob2
   have hfree2 := (k2.keep b hbl hfree).2
   obtain ⟨μ3, e3, hob3, ho3, hn3⟩ := obj_st (o := 1) (x := [L2.sc (.ring S.rings.length) (l.length + 1)]) hob2 (by simp)
   have h3 := h2.local hfree2 (show ({ E with pend := some (l ++ [k]) } : IEnv).lo ≤ b by show E.lo ≤ b; omega) ho3 hn3
   have k3 := (kp.trans k2).local hb ho3 hn3
   have hbl3 : b < μ3.next := by rw [hn3]; exact Nat.lt_of_lt_of_le hbl k2.next
   have st2 : Stay S L0 L2 := ⟨⟨(ag .mach (by intro hh; cases hh)).1.trans st.1.1, (ag .hs (by intro hh; cases hh)).1.trans st.1.2⟩, fun i hi => (ag (.task i) (by intro hh; cases hh)).1.trans (st.2 i hi)⟩
   rw [R_loop]
   simp only [rI, b142_1]
   simp only [w1, w2, zH, zI, ↓reduceIte, zA, f0, f6, f7, l1, m2, fillc, wr, rep, zJ, zK, List.append_nil, e2, e3]
   refine R_calls (l := [pt E.m 0, .c (.int .i64 5), .c (.int .i64 0), .c (.int .i64 k)]) (by simp only [w1, w2, ↓reduceIte, zA]) (tell_ok' h3 ht) ?_
   rintro v μ4 ⟨L4, h4, s4, k4, g4⟩
   have hob4 := hob3
   rw [← (k4.keep b hbl3 hfree2).1] at hob4
   have hfree4 := (k4.keep b hbl3 hfree2).2
   have hbl4 : b < μ4.next := Nat.lt_of_lt_of_le hbl3 k4.next
   have hsc4 : L2.sc (.ring S.rings.length) (l.length + 1) = L4.sc (.ring S1.rings.length) (l ++ [k]).length := by
    rw [g4, trn]; simp
   have hm4 := h4.mfacts
   simp only [w1, w2, ↓reduceIte, zA, f0, f7, hm4]
   by_cases hk : k = S1.run
   ·rw [if_pos hk] at hr
    simp only [Option.some.injEq, Prod.mk.injEq] at hr
    obtain ⟨rfl, rfl⟩ := hr
    simp only [w1, beq_tt hk]
    rw [R_exit rfl]
    refine hend _ L4 μ4 h4 (st2.trans s4 (Nat.le_refl _)) (k3.trans k4) hbl4 hfree4 ?_ ttk trn tru ?_ ?_
    ·rw [hob4]; simp only [wr, List.set_cons_succ, List.set_cons_zero, hsc4]
    ·simp only [w1, ↓reduceIte, zA, f0]
    ·simp only [w1, ↓reduceIte, zA, f6]
   ·rw [if_neg hk] at hr
    obtain ⟨a, c, hts⟩ := h4.has.scf (r := .tasks) (sz := 1) (n := S1.tasks.length) (cs := cat (trow L4) 0 S1.tasks) rfl (by rw [cat_length (trow_len L4)]) (by omega)
    rw [hts] at hm4
    simp only [w1, w2, ↓reduceIte, zA, beq_ff hk, f0, hm4]
    refine waitLoop h4 (by rw [ttk]; exact hroom) (kk := k) (b := b) S1.tasks.length 0 _ (by omega) ?_ ?_ ?_ ?_ ?_ ?_ ?_
    ·simp only [w1, ↓reduceIte, zA, f0]
    ·simp only [w1, ↓reduceIte, zA, f6]
    ·simp only [w1, ↓reduceIte, zA, f7]
    ·simp only [w1, ↓reduceIte, zA, hts]
    ·simp only [w1, ↓reduceIte, zA]
    ·simp only [w1, ↓reduceIte]; rfl
    ·intro fr' g0 g6 g7
     rw [List.drop_zero] at g7
     rw [R_endblk, R_lp]
     refine ih S1 L4 μ4 _ (l ++ [k]) fr' S' l' hr (by rw [ttk]; exact hroom) h4 ((st2.trans s4 (Nat.le_refl _)).cast (by rw [ttk])) (k3.trans k4) hbl4 hfree4 ?_ g0 g6 ?_ ?_
     ·rw [hob4]; simp only [wr, List.set_cons_succ, List.set_cons_zero, hsc4]
     ·rw [g7]; cases waits k S1.tasks 0 <;> rfl
     ·intro fr'' L' μ' a1 a2 a3 a4 a5 a6 a7 a8 a9 a10 a11
      exact hend fr'' L' μ' a1 (a2.cast (by rw [ttk])) a3 a4 a5 a6 (a7.trans ttk) (a8.trans trn) (a9.trans tru) a10 a11
  ·cases hr

theorem may_ok (h : Rep E L S μ) (hp : E.pend = none) (hroom : S.tasks.length < roomy) {n : Int} {b : Bool} (hs : S.may n = some (b, S')) :
  Ret 142 [pt E.m 0, .c (.int .i64 n)] μ fun v μ' => v = .c (.bool b) ∧ After E L S μ S' μ' := by
 refine Ret_of p142 (by simp [r142]) ?_
 simp only [rI, r142, frOf_2]
 simp only [w1, w2, ↓reduceIte, zA, zE]
 unfold PM.may at hs
 by_cases ho : S.other n = false
 ·rw [if_pos ho] at hs
  obtain ⟨S1, hf, hs⟩ := Option.map_eq_some_iff.1 hs
  simp only [Prod.mk.injEq] at hs
  obtain ⟨rfl, rfl⟩ := hs
  refine R_calls (l := [pt E.m 0, .c (.int .i64 n)]) (by simp only [w1, w2, ↓reduceIte, zA]) (other_no h ho) ?_
  rintro v μ1 ⟨rfl, rfl⟩
  simp only [w1, w2, ↓reduceIte, zA, zE, aeq, Option.isNone_none]
  refine R_calls (l := [pt E.m 0, .c (.int .i64 (-12))]) (by simp only [w1, w2, ↓reduceIte, zE]) (fail_ok h hf) ?_
  rintro v μ2 ha
  simp only [w1, w2, ↓reduceIte, zE, aRet, aRes, aRes1]
  exact ⟨_, rfl, rfl, ha⟩
 ·rw [if_neg ho] at hs
  obtain ⟨u, hi, hs⟩ := Option.bind_eq_some_iff.1 hs
  obtain ⟨k, rfl, hget⟩ := idx_some hi
  refine R_calls (l := [pt E.m 0, .c (.int .i64 k)]) (by simp only [w1, w2, ↓reduceIte, zA]) (other_yes h hget) ?_
  rintro v μ1 ⟨rfl, rfl⟩
  have htf := h.tfacts hget
  have hm := h.mfacts
  simp only [w1, w2, ↓reduceIte, zA, zE, aeq, htf]
  have fin : ∀ (fr : Fr) (S1 : PM) (L1 : Lay IR) (μ2 : Mem), Rep E L1 S1 μ2 → Stay S L L1 → Keep L μ1 L1 μ2 → S.tasks.length ≤ S1.tasks.length → S1.fail (-10) = some S' → fr 92 = pt E.m 0 →
    R [.o ⟨1, .call 117 [.t 92, .k (.int .i64 (-10))], some 93, none, []⟩,
     .c (.seq (.reg [⟨0, .mv (.k (.bool false)), some 4, none, []⟩]) .ret)] fr μ2 (fun fr' μ1_1 => ∃ v, aRet fr' μ1_1 [.tmp 4] = some v ∧ v = .c (.bool false) ∧ After E L S μ1 S' μ1_1) := by
   intro fr S1 L1 μ2 h1 s1 k1 hlt hf f92
   refine R_calls (l := [pt E.m 0, .c (.int .i64 (-10))]) (by simp only [w1, w2, zE, f92]) (fail_ok h1 hf) ?_
   rintro v μ3 ⟨L3, h3, s3, k3⟩
   simp only [w1, w2, ↓reduceIte, aRet, aRes, aRes1]
   exact ⟨_, rfl, rfl, L3, h3, s1.trans s3 hlt, k1.trans k3⟩
  by_cases h0 : u.state = 0
  ·rw [if_pos (.inl h0)] at hs
   simp only [Option.some.injEq, Prod.mk.injEq] at hs
   obtain ⟨rfl, rfl⟩ := hs
   simp only [w1, w2, ↓reduceIte, zA, zE, beq_tt h0, aRet, aRes, aRes1]
   exact ⟨_, rfl, rfl, L, h, Stay.refl, Keep.refl⟩
  ·by_cases h1 : u.state = 1
   ·rw [if_pos (.inr h1)] at hs
    simp only [Option.some.injEq, Prod.mk.injEq] at hs
    obtain ⟨rfl, rfl⟩ := hs
    simp only [w1, w2, ↓reduceIte, zA, zE, beq_ff h0, beq_tt h1, htf, aRet, aRes, aRes1]
    exact ⟨_, rfl, rfl, L, h, Stay.refl, Keep.refl⟩
   ·rw [if_neg (fun hh => hh.elim h0 h1)] at hs
    by_cases h4 : u.state = 4
    ·rw [if_neg (fun hh => hh h4)] at hs
     obtain ⟨S1, hf, hs⟩ := Option.map_eq_some_iff.1 hs
     simp only [Prod.mk.injEq] at hs
     obtain ⟨rfl, rfl⟩ := hs
     have h4b : (u.state != 4) = false := by simp [h4]
     simp only [w1, w2, ↓reduceIte, zA, zE, beq_ff h0, beq_ff h1, htf, h4b]
     exact fin _ S L μ1 h Stay.refl Keep.refl (Nat.le_refl _) hf (by simp only [w1, ↓reduceIte])
    ·rw [if_pos h4] at hs
     have h4b : (u.state != 4) = true := by simp [h4]
     obtain ⟨⟨S1, l1⟩, hr, hs⟩ := Option.bind_eq_some_iff.1 hs
     simp only at hs
     split at hs
     ·rename_i hrl
      obtain ⟨S2, hf, hs⟩ := Option.map_eq_some_iff.1 hs
      simp only [Prod.mk.injEq] at hs
      obtain ⟨rfl, rfl⟩ := hs
      obtain ⟨ra, rc, hrs⟩ := h.has.scf (r := .recs) (sz := 4) (n := S.recs.length) (cs := cat recrow 0 S.recs) rfl (by rw [cat_length recrow_len]) (by omega)
      rw [hrs] at hm
      simp only [w1, w2, zH, zI, ↓reduceIte, zA, zB, zE, beq_ff h0, beq_ff h1, htf, h4b, hm, m2, fillc, wr, zJ, zB, new_st0]
      have h5 : Rep E L S (μ1.new [.int .i64 S.recs.length, .slc none 0 0] 0) := h.tmp
      obtain ⟨L6, h6, ag6, hsc6, k6⟩ := h5.pend0
      have hfree := k6.free (Nat.lt_succ_self μ1.next) (h.free (Nat.le_refl _))
      refine ringLoop (E := E) (μ0 := μ1) (L0 := L) (b := μ1.next) (ln := S.recs.length) h.lo (Nat.le_refl _) _ S L6 _ k [] _ S1 l1 hr hroom h6
       ⟨⟨(ag6 .mach (by intro hh; cases hh)).1, (ag6 .hs (by intro hh; cases hh)).1⟩, fun i hi => (ag6 (.task i) (by intro hh; cases hh)).1⟩ (Keep.tmp.trans k6) (Nat.lt_succ_self _) hfree ?_ ?_ ?_ ?_ ?_
      ·simp only [Mem.new, if_true, List.length_nil, hsc6]
      ·simp only [w1, ↓reduceIte, zA]
      ·simp only [w1, ↓reduceIte, zA]
      ·simp only [w1, ↓reduceIte]
      ·intro fr' L7 μ7 h7 s7 k7 hbl7 hfree7 hob7 ttk trn tru g0 g6
       have hm7 := h7.mfacts
       have hob := obj_ldn (o := 0) (n := 2) hob7 rfl
       obtain ⟨L8, μ8, μ9, e8, e9, h9, ag9, k9⟩ := h7.pushRing (l := l1) rfl S.recs.length hrl
       have hE : ({ ({ E with pend := some l1 } : IEnv) with pend := none } : IEnv) = E := by
        cases E; simp only at hp; subst hp; rfl
       rw [hE] at h9
       simp only [w1, w2, zH, zI, ↓reduceIte, zA, zB, zE, g0, g6, hm7, hob, m2, fillc, wr, rep, zJ, zB, zK, List.append_nil, e8, e9]
       refine fin _ _ L8 μ9 h9 ⟨⟨(ag9 .mach (by intro hh; cases hh)).1.trans s7.1.1, (ag9 .hs (by intro hh; cases hh)).1.trans s7.1.2⟩, fun i hi => (ag9 (.task i) (by intro hh; cases hh)).1.trans (s7.2 i hi)⟩ (k7.trans k9) (by simp only [ttk]; exact Nat.le_refl _) hf ?_
       simp only [w1, ↓reduceIte]
     ·cases hs
end
end Go.Proofs.Ytibmnlijoeppaaa
