/-
 The reference's machine: its small functions, walked.
-/
import Derived.Test.YtibmnlijoeppaaaXRep2
import Derived.Test.YtibmnlijoeppaaaIW5
namespace Go.Proofs.Ytibmnlijoeppaaa.X
open Nat renaming reduceEqDiff → zA, reduceAdd → zB, reduceLeDiff → zJ, reduceMul → zK
open Int renaming reduceLT → zC, reduceLE → zD, reduceNeg → zE, reduceBEq → zF, reduceBNe → zG
open AV renaming isTup → zH, cells → zI
set_option linter.unusedSimpArgs false
set_option linter.unusedVariables false

/-! 130: spec.l2M).task -/
def r130 : RFun := ⟨13, [.tmp 2], (.seq (.reg [rI 0 (.mv (.k (.ptr none))) 2]) (.seq (.reg [rI 0 (.mv (.t 0)) 3, rI 1 (.nc (.t 3)) 4, rI 2 (.fa (.t 4) 2) 5, rI 4 (.mv (.t 0)) 7, rI 5 (.nc (.t 7)) 8, rI 6 (.fa (.t 8) 3) 9, rI 3 (.ld none (.t 5)) 6, rI 7 (.ld none (.t 9)) 10, rI 8 (.ias (.t 6) (.t 10) 1) 11, rI 9 (.ld none (.t 11)) 12, rI 10 (.mv (.t 12)) 2]) .ret))⟩
theorem p130 : prog 130 = some r130 := by kernel_rfl

/-! 99: spec.l2M).top -/
def r99 : RFun := ⟨17, [.tmp 2], (.seq (.reg [rI 0 (.mv (.k (.ptr none))) 2]) (.seq (.reg [rI 0 (.mv (.t 0)) 4, rI 1 (.call 130 [.t 4]) 5, rI 2 (.mv (.t 5)) 3]) (.seq (.reg [rI 0 (.mv (.t 3)) 6, rI 1 (.nc (.t 6)) 7, rI 2 (.fa (.t 7) 10) 8, rI 4 (.mv (.t 3)) 10, rI 5 (.nc (.t 10)) 11, rI 6 (.fa (.t 11) 10) 12, rI 3 (.ld none (.t 8)) 9, rI 7 (.ld none (.t 12)) 13, rI 8 (.len (.t 13)) 14, rI 9 (.bin .sub (.t 14) (.k (.int .i64 1))) 15, rI 10 (.ias (.t 9) (.t 15) 8) 16, rI 11 (.mv (.t 16)) 2]) .ret)))⟩
theorem p99 : prog 99 = some r99 := by kernel_rfl

/-! 98: spec.l2M).steps -/
def r98 : RFun := ⟨16, [.tmp 2], (.seq (.reg [rI 0 (.mv (.k (.slc none 0 0))) 2]) (.seq (.reg [rI 0 (.mv (.t 0)) 3, rI 1 (.nc (.t 3)) 4, rI 2 (.fa (.t 4) 0) 5, rI 3 (.fa (.t 5) 0) 6, rI 5 (.mv (.t 0)) 8, rI 4 (.ld none (.t 6)) 7, ⟨6, .call 130 [.t 8], some 9, none, [.ld 7 none (.t 6)]⟩, rI 7 (.nc (.t 9)) 10, rI 8 (.fa (.t 10) 0) 11, rI 9 (.ld none (.t 11)) 12, rI 10 (.ias (.t 7) (.t 12) 1) 13, rI 11 (.fa (.t 13) 0) 14, rI 12 (.ld none (.t 14)) 15, rI 13 (.mv (.t 15)) 2]) .ret))⟩
theorem p98 : prog 98 = some r98 := by kernel_rfl

/-! 131: spec.l2M).tick -/
def r131 : RFun := ⟨35, [.tmp 2], (.seq (.reg [rI 0 (.mv (.k (.bool false))) 2]) (.seq (.seq (.reg [rI 0 (.mv (.t 0)) 3, rI 1 (.nc (.t 3)) 4, rI 2 (.fa (.t 4) 4) 5, rI 3 (.ld none (.t 5)) 6]) (.ite (.t 6) (.seq (.reg [rI 0 (.mv (.k (.bool false))) 2]) .ret) .skip)) (.seq (.seq (.reg [rI 0 (.mv (.t 0)) 7, rI 1 (.nc (.t 7)) 8, rI 2 (.fa (.t 8) 1) 9, rI 3 (.ld none (.t 9)) 10, rI 4 (.bin .eql (.t 10) (.k (.int .i64 0))) 11]) (.ite (.t 11) (.seq (.reg [rI 0 (.mv (.t 0)) 12, rI 1 (.nc (.t 12)) 13, rI 2 (.fa (.t 13) 4) 14, ⟨3, .st (.t 14) (.k (.bool true)) 1, none, none, []⟩]) (.seq (.reg [rI 0 (.mv (.t 0)) 15, rI 1 (.nc (.t 15)) 16, rI 2 (.fa (.t 16) 5) 17, rI 3 (.fa (.t 17) 0) 18, ⟨4, .st (.t 18) (.k (.int .i64 2)) 1, none, none, []⟩]) (.seq (.reg [rI 0 (.mv (.k (.bool false))) 2]) .ret))) .skip)) (.seq (.reg [rI 0 (.mv (.t 0)) 19, rI 1 (.nc (.t 19)) 20, rI 2 (.fa (.t 20) 1) 21, rI 3 (.ld none (.t 21)) 22, rI 4 (.bin .sub (.t 22) (.k (.int .i64 1))) 23, rI 5 (.nc (.t 19)) 24, rI 6 (.fa (.t 24) 1) 25, ⟨7, .st (.t 25) (.t 23) 1, none, none, []⟩]) (.seq (.reg [rI 0 (.mv (.t 0)) 26, rI 1 (.nc (.t 26)) 27, rI 2 (.fa (.t 27) 5) 28, rI 3 (.fa (.t 28) 3) 29, rI 4 (.ld none (.t 29)) 30, rI 5 (.bin .add (.t 30) (.k (.int .i64 1))) 31, rI 6 (.nc (.t 26)) 32, rI 7 (.fa (.t 32) 5) 33, rI 8 (.fa (.t 33) 3) 34, ⟨9, .st (.t 34) (.t 31) 1, none, none, []⟩]) (.seq (.reg [rI 0 (.mv (.k (.bool true))) 2]) .ret))))))⟩
theorem p131 : prog 131 = some r131 := by kernel_rfl

/-! 101: spec.l2M).leave -/
def r101 : RFun := ⟨14, [], (.seq (.reg [rI 0 (.box (.t 1) 2) 3]) (.seq (.reg [rI 0 (.mv (.t 0)) 5, rI 1 (.call 99 [.t 5]) 6, rI 2 (.mv (.t 6)) 4]) (.seq (.reg [rI 0 (.mv (.t 4)) 7, rI 1 (.nc (.t 7)) 8, rI 2 (.fa (.t 8) 5) 9, ⟨3, .st (.t 9) (.k (.bool true)) 1, none, none, []⟩]) (.reg [rI 0 (.mv (.t 4)) 10, rI 1 (.ld (some 2) (.t 3)) 11, rI 2 (.nc (.t 10)) 12, rI 3 (.fa (.t 12) 6) 13, ⟨4, .st (.t 13) (.t 11) 2, none, none, []⟩]))))⟩
theorem p101 : prog 101 = some r101 := by kernel_rfl

/-! 97: spec.l2M).open -/
def r97 : RFun := ⟨27, [], (.seq (.reg [rI 0 (.mv (.t 0)) 11, rI 1 (.call 130 [.t 11]) 12, rI 2 (.mv (.t 12)) 10]) (.reg [rI 0 (.mv (.t 10)) 13, rI 1 (.mv (.t 10)) 14, rI 2 (.nc (.t 14)) 15, rI 3 (.fa (.t 15) 10) 16, rI 4 (.ld none (.t 16)) 17, rI 5 (.mv (.t 1)) 18, rI 6 (.mv (.t 2)) 19, rI 7 (.mv (.t 3)) 20, rI 8 (.mv (.t 4)) 21, rI 9 (.bld [.int .i64 0, .int .i64 0, .int .i64 0, .int .i64 0, .slc none 0 0, .bool false, .int .i64 0, .int .i64 0] [(0, 1, .t 18), (1, 1, .t 19), (2, 1, .t 20), (3, 1, .t 21)]) 22, rI 10 (.bsl [.int .i64 0, .int .i64 0, .int .i64 0, .int .i64 0, .slc none 0 0, .bool false, .int .i64 0, .int .i64 0] 1 [(0, .t 22)]) 23, rI 11 (.app 8 80 (.t 17) (.t 23)) 24, rI 12 (.nc (.t 13)) 25, rI 13 (.fa (.t 25) 10) 26, ⟨14, .st (.t 26) (.t 24) 1, none, none, []⟩]))⟩
theorem p97 : prog 97 = some r97 := by kernel_rfl



section
variable {E : IEnv} {L L' : Lay IR} {S S' : PM} {μ μ' : Mem}

theorem Rep.free (h : Rep E L S μ) {b : Nat} (hb : μ.next ≤ b) : Free L b := fun r hr e => by have := h.has.lt r hr; omega
theorem Keep.ld (k : Keep L μ L' μ') {b : Nat} (hb : b < μ.next) (hf : Free L b) {n : Option Nat} {o : Nat} : μ'.ld n b o = μ.ld n b o := by
 simp only [Mem.ld, (k.keep b hb hf).1]
theorem Keep.free (k : Keep L μ L' μ') {b : Nat} (hb : b < μ.next) (hf : Free L b) : Free L' b := (k.keep b hb hf).2

theorem Rep.mfacts (h : Rep E L S μ) : μ.ld none E.m 0 = some (.c E.pl) ∧ μ.ld none E.m 1 = some (.c (.int .i64 S.left)) ∧ μ.ld none E.m 2 = some (.c (L.sc .tasks S.tasks.length)) ∧
  μ.ld none E.m 3 = some (.c (.int .i64 S.run)) ∧ μ.ld none E.m 4 = some (.c (.bool S.over)) ∧ μ.ld none E.m 5 = some (.c (.int .i64 S.code)) ∧
  μ.ld none E.m 6 = some (.c (L.sc .recs S.recs.length)) ∧ μ.ld none E.m 7 = some (.c (.int .i64 S.num)) ∧ μ.ld none E.m 8 = some (.c (.int .i64 S.ticks)) ∧
  μ.ld none E.m 9 = some (.c (L.sc .states S.states.length)) ∧ μ.ld none E.m 10 = some (.c (L.sc .rings S.rings.length)) ∧ μ.ld none E.m 11 = some (.c (.int .i64 S.stop)) :=
 ⟨h.ldm rfl, h.ldm rfl, h.ldm rfl, h.ldm rfl, h.ldm rfl, h.ldm rfl, h.ldm rfl, h.ldm rfl, h.ldm rfl, h.ldm rfl, h.ldm rfl, h.ldm rfl⟩

theorem Rep.tfacts (h : Rep E L S μ) {i : Nat} {t : PTk} (ht : S.tasks[i]? = some t) : μ.ld none (L.id (.task i)) 0 = some (.c (.int .i64 t.body)) ∧ μ.ld none (L.id (.task i)) 1 = some (.c (.int .i64 t.state)) ∧
  μ.ld none (L.id (.task i)) 2 = some (.c (L.sc (.regs i) 4)) ∧ μ.ld none (L.id (.task i)) 3 = some (.c (.int .i64 t.waiter)) ∧ μ.ld none (L.id (.task i)) 4 = some (.c (.int .i64 t.into)) ∧
  μ.ld none (L.id (.task i)) 5 = some (.c (.bool t.given)) ∧ μ.ld none (L.id (.task i)) 6 = some (.c (.bool t.drops)) ∧ μ.ld none (L.id (.task i)) 7 = some (.c (.int .i64 t.drop)) ∧
  μ.ld none (L.id (.task i)) 8 = some (.c (.int .i64 t.kept)) ∧ μ.ld none (L.id (.task i)) 9 = some (.c (.int .i64 t.begun)) ∧ μ.ld none (L.id (.task i)) 10 = some (.c (L.sc (.frames i) t.frames.length)) :=
 ⟨h.ldt ht rfl, h.ldt ht rfl, h.ldt ht rfl, h.ldt ht rfl, h.ldt ht rfl, h.ldt ht rfl, h.ldt ht rfl, h.ldt ht rfl, h.ldt ht rfl, h.ldt ht rfl, h.ldt ht rfl⟩

/-- What a machine's function leaves. -/
def After (E : IEnv) (L : Lay IR) (S : PM) (μ : Mem) (S' : PM) (μ' : Mem) : Prop := ∃ L', Rep E L' S' μ' ∧ Stay S L L' ∧ Keep L μ L' μ'
/-- The same; rings and registers lie where they lay. -/
def AfterT (E : IEnv) (L : Lay IR) (S : PM) (μ : Mem) (S' : PM) (μ' : Mem) : Prop := ∃ L', Rep E L' S' μ' ∧ Stay S L L' ∧ Keep L μ L' μ' ∧ ∀ i n, L'.sc (.ring i) n = L.sc (.ring i) n

theorem tick_tasks : S.tick.2.tasks = S.tasks ∧ S.tick.2.run = S.run := by unfold PM.tick; split; exact ⟨rfl, rfl⟩; split <;> exact ⟨rfl, rfl⟩

theorem tick_ok (h : Rep E L S μ) : Ret 131 [pt E.m 0] μ fun v μ' => v = .c (.bool S.tick.1) ∧ Rep E L S.tick.2 μ' ∧ Keep L μ L μ' := by
 have hm := h.mfacts
 refine Ret_of p131 (by simp [r131]) ?_
 simp only [rI, r131, frOf_1]
 simp only [w1, w2, ↓reduceIte, zA, hm]
 unfold PM.tick
 by_cases ho : S.over = true
 ·rw [if_pos ho]
  simp only [w1, w2, ↓reduceIte, ho, aRet, aRes, aRes1]
  exact ⟨_, rfl, rfl, h, Keep.refl⟩
 ·rw [if_neg ho]
  simp only [Bool.not_eq_true] at ho
  simp only [w1, w2, ↓reduceIte, zA, ho, hm]
  by_cases hu : S.left = 0
  ·rw [if_pos hu]
   obtain ⟨μ1, e1, h1, k1⟩ := h.setMach (S' := { S with over := true }) (o := 4) (new := [.bool true]) rfl (by simp) rfl rfl rfl rfl rfl
   obtain ⟨μ2, e2, h2, k2⟩ := h1.setMach (S' := { S with over := true, code := 2 }) (o := 5) (new := [.int .i64 2]) rfl (by simp) rfl rfl rfl rfl rfl
   simp only [w1, w2, zH, zI, ↓reduceIte, zA, zB, beq_tt hu, e1, e2, aRet, aRes, aRes1]
   exact ⟨_, rfl, rfl, h2, k1.trans k2⟩
  ·rw [if_neg hu]
   obtain ⟨μ1, e1, h1, k1⟩ := h.setMach (S' := { S with left := wr64 (S.left - 1) }) (o := 1) (new := [.int .i64 (wr64 (S.left - 1))]) rfl (by simp) rfl rfl rfl rfl rfl
   obtain ⟨μ2, e2, h2, k2⟩ := h1.setMach (S' := { S with left := wr64 (S.left - 1), ticks := wr64 (S.ticks + 1) }) (o := 8) (new := [.int .i64 (wr64 (S.ticks + 1))]) rfl (by simp) rfl rfl rfl rfl rfl
   have hm1 := h1.mfacts
   unfold wr64 at e1 e2
   simp only [w1, w2, zH, zI, ↓reduceIte, zA, zB, beq_ff hu, hm, e1, hm1, e2, aRet, aRes, aRes1]
   refine ⟨_, rfl, rfl, ?_, k1.trans k2⟩
   rw [ho] at h2; exact h2

theorem Rep.tasksAt (h : Rep E L S μ) {k : Nat} {t : PTk} (ht : S.tasks[k]? = some t) : ∃ b o, (∀ kd, aidx (.c (L.sc .tasks S.tasks.length)) (.c (.int kd (k : Int))) 1 = some (pt b o)) ∧
  μ.ld none b o = some (pt (L.id (.task k)) 0) := by
 have hr := h.has.rd (r := .tasks) (sz := 1) (n := S.tasks.length) (cs := cat (trow L) 0 S.tasks) rfl (by rw [cat_length (trow_len L)]) (by omega)
 obtain ⟨b, o, e1, _, _, e4⟩ := hr.row (trow_len L) (by omega) ht
 exact ⟨b, o, e1, by have := e4 0 (by omega); simpa [trow] using this⟩

theorem task_ok (h : Rep E L S μ) {k : Nat} {t : PTk} (hk : S.run = k) (ht : S.tasks[k]? = some t) : Ret 130 [pt E.m 0] μ fun v μ' => v = pt (L.id (.task k)) 0 ∧ μ' = μ := by
 have hm := h.mfacts
 obtain ⟨b, o, e1, e2⟩ := h.tasksAt ht
 refine Ret_of p130 (by simp [r130]) ?_
 simp only [rI, r130, frOf_1]
 simp only [w1, w2, ↓reduceIte, zA, hm, hk, e1, e2, aRet, aRes, aRes1]
 exact ⟨_, rfl, rfl⟩

theorem now_some {t : PTk} (hn : S.now = some t) : ∃ k : Nat, S.run = k ∧ S.tasks[k]? = some t ∧ t.frames.length < roomy := by
 unfold PM.now at hn
 obtain ⟨u, hi, hn⟩ := Option.bind_eq_some_iff.1 hn
 split at hn
 ·rename_i hl
  simp only [Option.some.injEq] at hn
  subst hn
  obtain ⟨k, hk, ht⟩ := idx_some hi
  exact ⟨k, hk, ht, hl⟩
 ·cases hn

theorem Rep.topAt (h : Rep E L S μ) {i : Nat} {t : PTk} {f : PFr} {r : List PFr} (ht : S.tasks[i]? = some t) (hf : t.frames = f :: r) :
  (∀ kd, aidx (.c (L.sc (.frames i) t.frames.length)) (.c (.int kd (r.length : Int))) 8 = some (pt (L.id (.frames i)) (r.length * 8))) ∧
  (∀ k c, (frow L i r.length f)[k]? = some c → μ.ld none (L.id (.frames i)) (r.length * 8 + k) = some (.c c)) ∧ ∀ n o l, rd (frow L i r.length f) o n = some l → μ.ld (some n) (L.id (.frames i)) (r.length * 8 + o) = some (.agg l) := by
 obtain ⟨hc, hlen, hne⟩ := h.framesc ht hf
 have hon := h.has.on hc (.inr hne)
 refine ⟨fun kd => ?_, fun k c hk => ?_, fun n o l hl => ?_⟩
 ·rw [Lay.sc_slc hon, hf, aidx_in (by simp only [List.length_cons]; omega)]; simp
 ·have hk8 : k < 8 := by have := (List.getElem?_eq_some_iff.1 hk).1; rw [frow_len] at this; exact this
  refine h.has.ldc hc ?_
  rw [cat_get (frow_len L i) get_top hk8, Nat.zero_add]; exact hk
 ·have := cat_row (frow_len L i) (i := 0) (get_top (f := f) (r := r))
  rw [Nat.zero_add] at this
  refine h.has.ldn hc ?_ (.inr hne)
  rcases n with _ | n
  ·simpa [rd] using hl
  ·have ho : o + (n + 1) ≤ 8 := by
    have : ∀ (n o : Nat) (x l : List Cell), rd x o (n + 1) = some l → o + (n + 1) ≤ x.length := by
     intro n
     induction n with
     | zero =>
      intro o x l h
      simp only [rd] at h
      split at h
      ·rename_i c hc; have := (List.getElem?_eq_some_iff.1 hc).1; omega
      ·cases h
     | succ n ih =>
      intro o x l h
      rw [rd] at h
      split at h
      ·obtain ⟨y, hy, _⟩ := Option.map_eq_some_iff.1 h
       have := ih _ _ _ hy; omega
      ·cases h
    have := this _ _ _ _ hl
    rw [frow_len] at this; exact this
   rw [rd_rd this ho]; exact hl

theorem Rep.fsc (h : Rep E L S μ) {i : Nat} {t : PTk} (ht : S.tasks[i]? = some t) : ∃ a c, L.sc (.frames i) t.frames.length = .slc a t.frames.length c :=
 h.has.scf (r := .frames i) (sz := 8) (cs := cat (frow L i) 0 t.frames.reverse) (by simp only [icon, ht, Option.map_some]) (by rw [cat_length (frow_len L i)]; simp) (by omega)
theorem Rep.tsc (h : Rep E L S μ) : ∃ a c, L.sc .tasks S.tasks.length = .slc a S.tasks.length c :=
 h.has.scf (r := .tasks) (sz := 1) (cs := cat (trow L) 0 S.tasks) rfl (by rw [cat_length (trow_len L)]) (by omega)

theorem wlen {f : PFr} {r : List PFr} {l : List PFr} (hf : l = f :: r) (hl : l.length < roomy) : IntKind.i64.wrap ((l.length : Int) - 1) = ((r.length : Nat) : Int) := by
 unfold roomy at hl
 rw [hf] at hl ⊢
 simp only [List.length_cons] at hl ⊢
 rw [small (by omega)]; omega

theorem top_ok (h : Rep E L S μ) {k : Nat} {t : PTk} {f : PFr} {r : List PFr} (hk : S.run = k) (ht : S.tasks[k]? = some t) (hf : t.frames = f :: r) (hl : t.frames.length < roomy) :
  Ret 99 [pt E.m 0] μ fun v μ' => v = pt (L.id (.frames k)) (r.length * 8) ∧ μ' = μ := by
 have htf := h.tfacts ht
 obtain ⟨e1, _, _⟩ := h.topAt ht hf
 obtain ⟨a, c, hsc⟩ := h.fsc ht
 have hw := wlen hf hl
 refine Ret_of p99 (by simp [r99]) ?_
 simp only [rI, r99, frOf_1]
 rw [hsc] at htf e1
 simp only [w1, w2, ↓reduceIte, zA]
 refine R_calls (l := [pt E.m 0]) (by simp only [w1, w2, ↓reduceIte]) (task_ok h hk ht) ?_
 rintro v μ1 ⟨rfl, rfl⟩
 simp only [w1, w2, ↓reduceIte, zA, htf, hw, e1, aRet, aRes, aRes1]
 exact ⟨_, rfl, rfl⟩

theorem steps_ok (h : Rep E L S μ) {k : Nat} {t : PTk} (hk : S.run = k) (ht : S.tasks[k]? = some t) {l : List PStep} (hl : t.steps E.plan = some l) :
  ∃ x, Rd E.lo E.out 5 x l.length (cat scells 0 l) ∧ Ret 98 [pt E.m 0] μ fun v μ' => v = .c x ∧ μ' = μ := by
 obtain ⟨j, hj, hp⟩ := idx_some hl
 have hm := h.mfacts
 have htf := h.tfacts ht
 obtain ⟨b, o, x, e1, e2, e3, e4, e5⟩ := h.plan.at hp
 refine ⟨x, e5, ?_⟩
 rw [← h.same.ld e2] at e4
 refine Ret_of p98 (by simp [r98]) ?_
 simp only [rI, r98, frOf_1]
 simp only [w1, w2, ↓reduceIte, zA, hm]
 refine R_callre (l := [pt E.m 0]) (by simp only [w1, w2, ↓reduceIte, zA]) (task_ok h hk ht) ?_
 rintro v μ1 ⟨rfl, rfl⟩
 refine ⟨by simp only [List.all_cons, List.all_nil, Bool.and_true, Re.holds, w1, ↓reduceIte, zA, hm, beq_self_eq_true], ?_⟩
 simp only [w1, w2, ↓reduceIte, zA, htf, hj, e1, e4, Nat.add_zero, aRet, aRes, aRes1]
 exact ⟨_, rfl, rfl⟩

theorem Rep.stepAt (h : Rep E L S μ) {l : List PStep} {c : Cell} (hx : Rd E.lo E.out 5 c l.length (cat scells 0 l)) {j : Nat} {x : PStep} (hj : l[j]? = some x) :
  ∃ b o, (∀ kd, aidx (.c c) (.c (.int kd (j : Int))) 5 = some (pt b o)) ∧ b < E.lo ∧ μ.ld (some 5) b o = some (.agg (xcells x)) ∧ (∀ k, k < 5 → μ.ld none b (o + k) = ((scells j x)[k]?).map .c) := by
 obtain ⟨b, o, e1, e2, e3, e4⟩ := hx.row scells_len (by omega) hj
 exact ⟨b, o, e1, e2, (h.same.ld e2).trans e3, fun k hk => (h.same.ld e2).trans (e4 k hk)⟩

/-- 'leave' of the reference: the innermost block is marked. -/
theorem mark_ok (h : Rep E L S μ) {way num : Int} (hs : S.mark way num = some S') : Ret 101 [pt E.m 0, .agg [.int .i64 way, .int .i64 num]] μ fun v μ' => Rep E L S' μ' ∧ Keep L μ L μ' := by
 unfold PM.mark at hs
 obtain ⟨t, hn, hs1⟩ := Option.bind_eq_some_iff.1 hs
 obtain ⟨t', ho, hs2⟩ := Option.map_eq_some_iff.1 hs1
 subst hs2
 obtain ⟨k, hk, ht, hfl⟩ := now_some hn
 unfold PTk.onTop at ho
 cases hf : t.frames with
 | nil => rw [hf] at ho; cases ho
 | cons f r =>
  rw [hf] at ho
  simp only at ho
  rw [← hf, if_pos hfl] at ho
  simp only [Option.some.injEq] at ho
  subst ho
  have h1 : Rep E L S (μ.new [.int .i64 way, .int .i64 num] 0) := h.tmp
  have l1 : (μ.new [.int .i64 way, .int .i64 num] 0).ld (some 2) μ.next 0 = some (.agg [.int .i64 way, .int .i64 num]) := by rw [Mem.new_ld, if_pos rfl]; rfl
  have hf1 : Free L μ.next := h.free (Nat.le_refl _)
  have hb1 : μ.next < (μ.new [.int .i64 way, .int .i64 num] 0).next := Nat.lt_succ_self _
  have k1 : Keep L μ L (μ.new [.int .i64 way, .int .i64 num] 0) := Keep.tmp
  refine Ret_of p101 (by simp [r101]) ?_
  simp only [rI, r101, frOf_2]
  simp only [w1, w2, zH, zI, ↓reduceIte, zA, zB]
  generalize μ.new [.int .i64 way, .int .i64 num] 0 = μ1 at *
  refine R_calls (l := [pt E.m 0]) (by simp only [w1, w2, ↓reduceIte]) (top_ok h1 hk ht hf hfl) ?_
  rintro v μ2 ⟨rfl, rfl⟩
  obtain ⟨μ4, e1, h2, k2⟩ := h1.setTop ht hf (f' := { f with leaving := true }) (k := 5) (new := [.bool true]) rfl (by simp) rfl
  obtain ⟨μ5, e2, h3, k3⟩ := h2.setTop (put_at ht) rfl (f' := { f with leaving := true, way := way, num := num }) (k := 6) (new := [.int .i64 way, .int .i64 num]) rfl (by simp) rfl
  rw [put_put] at h3
  have l2 := (k2.ld (n := some 2) (o := 0) hb1 hf1).trans l1
  simp only [w1, w2, zH, zI, ↓reduceIte, zA, zB, e1, l2, e2, aRet, aRes, toCells]
  rw [hk]
  exact ⟨_, rfl, h3, k1.trans (k2.trans k3)⟩

theorem opens_ok (h : Rep E L S μ) {hd op pc fin : Int} (hs : S.opens hd op pc fin = some S') :
  Ret 97 [pt E.m 0, .c (.int .i64 hd), .c (.int .i64 op), .c (.int .i64 pc), .c (.int .i64 fin)] μ fun v μ' => After E L S μ S' μ' := by
 unfold PM.opens at hs
 obtain ⟨t, hi, hs1⟩ := Option.bind_eq_some_iff.1 hs
 obtain ⟨k, hk, ht⟩ := idx_some hi
 split at hs1
 ·rename_i hlen
  simp only [Option.some.injEq] at hs1
  subst hs1
  have htf := h.tfacts ht
  obtain ⟨L1, μ1, μ2, e1, e2, h1, s1, k1⟩ := h.push (f := ⟨hd, op, pc, fin, [], false, 0, 0⟩) ht rfl hlen
  simp only [nfr] at e1
  refine Ret_of p97 (by simp [r97]) ?_
  simp only [rI, r97, frOf_5]
  simp only [w1, w2, ↓reduceIte]
  refine R_calls (l := [pt E.m 0]) (by simp only [w1, w2, ↓reduceIte]) (task_ok h hk ht) ?_
  rintro v μ3 ⟨rfl, rfl⟩
  simp only [w1, w2, zH, zI, ↓reduceIte, zA, zB, htf, m2, fillc, wr, rep, zJ, zB, zK, List.append_nil, e1, e2, aRet, aRes, toCells]
  rw [hk]
  exact ⟨_, rfl, L1, h1, s1, k1⟩
 ·cases hs1
end
end Go.Proofs.Ytibmnlijoeppaaa.X
