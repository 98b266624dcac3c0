/-
 The program's machine: its small functions, walked.
-/
import Derived.Test.YtibmnlijoeppaaaIRep
import Derived.Test.YtibmnlijoeppaaaOkAll
namespace Go.Proofs.Ytibmnlijoeppaaa
open Nat renaming reduceEqDiff → zA, reduceAdd → zB, reduceLeDiff → zJ, reduceMul → zK
open Int renaming reduceLT → zC, reduceLE → zD, reduceNeg → zE, reduceBEq → zF, reduceBNe → zG
open AV renaming isTup → zH, cells → zI
set_option linter.unusedSimpArgs false
set_option linter.unusedVariables false

/-! ### Operations with what is looked at again -/
section
variable {s : List It} {fr : Fr} {μ : Mem} {Q : Fr → Mem → Prop} {ix : Nat} {d : Option Nat} {re : List Re}

theorem R_appre {sz bytes : Nat} {x y : Opd} {v : AV} {μ' : Mem} (h : aapp sz bytes (x.ev fr) (y.ev fr) μ = some (v, μ')) (hre : (re.all fun z => z.holds fr μ') = true) (hr : R s (fr.put d v) μ' Q) :
  R (.o ⟨ix, .app sz bytes x y, d, none, re⟩ :: s) fr μ Q := by
 rw [R_opg rfl]
 simp only [awanted, aop, h]
 exact ⟨hre, hr⟩

theorem R_stre {a x : Opd} {n i o : Nat} {μ' : Mem} (ha : a.ev fr = .c (.ptr (some (i, o)))) (hx : (x.ev fr).isTup = false ∧ (x.ev fr).cells.length = n) (h : μ.st i o (x.ev fr).cells = some μ')
  (hre : (re.all fun z => z.holds fr μ') = true) (hr : R s (fr.put d .undef) μ' Q) : R (.o ⟨ix, .st a x n, d, none, re⟩ :: s) fr μ Q := by
 rw [R_opg rfl]
 simp only [awanted, aop, ha, if_pos hx, h, Option.map_some]
 exact ⟨hre, hr⟩

/-- A load that is looked at again reads the same. -/
theorem holds_ld {e : Nat} {n : Option Nat} {a : Opd} {i o : Nat} {v : AV} (ha : a.ev fr = .c (.ptr (some (i, o)))) (hd : fr e = v) (hl : μ.ld n i o = some v) : (Re.ld e n a).holds fr μ = true := by
 simp only [Re.holds, ha, hd, hl, beq_self_eq_true]
end

abbrev pt (b o : Nat) : AV := .c (.ptr (some (b, o)))

section
variable {E : IEnv} {L : Lay IR} {S : PM} {μ : Mem}

theorem Rep.mfacts (h : Rep E L S μ) : μ.ld none E.m 0 = some (.c E.pl) ∧ μ.ld none E.m 1 = some (.c (.int .i64 S.left)) ∧ μ.ld none E.m 2 = some (.c (.int .i64 S.used)) ∧
  μ.ld none E.m 3 = some (.c (L.sc .tasks S.tasks.length)) ∧ μ.ld none E.m 4 = some (.c (.int .i64 S.run)) ∧ μ.ld none E.m 5 = some (.c (.int .i64 S.code)) ∧
  μ.ld none E.m 6 = some (.c (L.sc .recs S.recs.length)) ∧ μ.ld none E.m 7 = some (.c (.int .i64 S.num)) ∧ μ.ld none E.m 8 = some (.c (.int .i64 S.ticks)) ∧
  μ.ld none E.m 9 = some (.c (L.sc .states S.states.length)) ∧ μ.ld none E.m 10 = some (.c (.bool S.over)) ∧ μ.ld none E.m 11 = some (.c (hookc L S.hook)) ∧ μ.ld none E.m 12 = some (.c (L.sc .rings S.rings.length)) :=
 ⟨h.ldm rfl, h.ldm rfl, h.ldm rfl, h.ldm rfl, h.ldm rfl, h.ldm rfl, h.ldm rfl, h.ldm rfl, h.ldm rfl, h.ldm rfl, h.ldm rfl, h.ldm rfl, h.ldm rfl⟩

theorem Rep.tfacts (h : Rep E L S μ) {i : Nat} {t : PTk} (ht : S.tasks[i]? = some t) : μ.ld none (L.id (.task i)) 0 = some (.c (.int .i64 t.body)) ∧ μ.ld none (L.id (.task i)) 1 = some (.c (.int .i64 t.state)) ∧
  μ.ld none (L.id (.task i)) 6 = some (.c (.int .i64 t.waiter)) ∧ μ.ld none (L.id (.task i)) 8 = some (.c (.int .i64 t.ask.a)) ∧ μ.ld none (L.id (.task i)) 12 = some (.c (L.sc (.frames i) t.frames.length)) ∧
  μ.ld none (L.id (.task i)) 13 = some (.c (.bool t.given)) ∧ μ.ld none (L.id (.task i)) 14 = some (.c (.bool t.drops)) ∧ μ.ld none (L.id (.task i)) 15 = some (.c (.int .i64 t.drop)) ∧
  μ.ld none (L.id (.task i)) 16 = some (.c (.int .i64 t.kept)) ∧ μ.ld none (L.id (.task i)) 17 = some (.c (.int .i64 t.begun)) :=
 ⟨h.ldt ht rfl, h.ldt ht rfl, h.ldt ht rfl, h.ldt ht rfl, h.ldt ht rfl, h.ldt ht rfl, h.ldt ht rfl, h.ldt ht rfl, h.ldt ht rfl, h.ldt ht rfl⟩

/-- What a machine's function leaves. -/
def After (E : IEnv) (L : Lay IR) (S : PM) (μ : Mem) (S' : PM) (μ' : Mem) : Prop := ∃ L', Rep E L' S' μ' ∧ Stay S L L' ∧ Keep L μ L' μ'

/-- A register. -/
theorem Rep.ldreg (h : Rep E L S μ) {i : Nat} {t : PTk} (ht : S.tasks[i]? = some t) {a v : Int} (hv : t.reg a = some v) :
  (0 ≤ a ∧ a < ((4 : Nat) : Int)) ∧ μ.ld none (L.id (.task i)) (2 + a.toNat * 1) = some (.c (.int .i64 v)) := by
 unfold PTk.reg at hv
 split at hv
 ·rename_i ha
  refine ⟨ha, ?_⟩
  obtain ⟨k, rfl⟩ : ∃ k : Nat, a = k := ⟨a.toNat, by omega⟩
  simp only [Int.toNat_natCast] at hv ⊢
  have hk : k < 4 := by omega
  have hd : t.regs.getD k 0 = v := by simp [List.getD, hv]
  rcases k with _ | _ | _ | _ | k
  ·exact h.ldt ht (by simp only [tcells]; rw [← hd]; rfl)
  ·exact h.ldt ht (by simp only [tcells]; rw [← hd]; rfl)
  ·exact h.ldt ht (by simp only [tcells]; rw [← hd]; rfl)
  ·exact h.ldt ht (by simp only [tcells]; rw [← hd]; rfl)
  ·omega
 ·cases hv

/-! 115: impl.machine).tick -/
def r115 : RFun := ⟨26, [.tmp 2], (.seq (.reg [rI 0 (.mv (.k (.bool false))) 2]) (.seq (.seq (.reg [rI 0 (.mv (.t 0)) 3, rI 1 (.nc (.t 3)) 4, rI 2 (.fa (.t 4) 2) 5, rI 4 (.mv (.t 0)) 7, rI 5 (.nc (.t 7)) 8, rI 6 (.fa (.t 8) 1) 9, rI 3 (.ld none (.t 5)) 6, rI 7 (.ld none (.t 9)) 10, rI 8 (.bin .eql (.t 6) (.t 10)) 11]) (.ite (.t 11) (.seq (.reg [rI 0 (.mv (.t 0)) 12, rI 1 (.nc (.t 12)) 13, rI 2 (.fa (.t 13) 10) 14, ⟨3, .st (.t 14) (.k (.bool true)) 1, none, none, []⟩]) (.seq (.reg [rI 0 (.mv (.t 0)) 15, rI 1 (.nc (.t 15)) 16, rI 2 (.fa (.t 16) 5) 17, rI 3 (.fa (.t 17) 0) 18, ⟨4, .st (.t 18) (.k (.int .i64 2)) 1, none, none, []⟩]) (.seq (.reg [rI 0 (.mv (.k (.bool false))) 2]) .ret))) .skip)) (.seq (.reg [rI 0 (.mv (.t 0)) 19, rI 1 (.nc (.t 19)) 20, rI 2 (.fa (.t 20) 2) 21, rI 3 (.ld none (.t 21)) 22, rI 4 (.bin .add (.t 22) (.k (.int .i64 1))) 23, rI 5 (.nc (.t 19)) 24, rI 6 (.fa (.t 24) 2) 25, ⟨7, .st (.t 25) (.t 23) 1, none, none, []⟩]) (.seq (.reg [rI 0 (.mv (.k (.bool true))) 2]) .ret))))⟩
theorem p115 : prog 115 = some r115 := by kernel_rfl

/-! 112: impl.machine).now -/
def r112 : RFun := ⟨13, [.tmp 2], (.seq (.reg [rI 0 (.mv (.k (.ptr none))) 2]) (.seq (.reg [rI 0 (.mv (.t 0)) 3, rI 1 (.nc (.t 3)) 4, rI 2 (.fa (.t 4) 3) 5, rI 4 (.mv (.t 0)) 7, rI 5 (.nc (.t 7)) 8, rI 6 (.fa (.t 8) 4) 9, rI 3 (.ld none (.t 5)) 6, rI 7 (.ld none (.t 9)) 10, rI 8 (.ias (.t 6) (.t 10) 1) 11, rI 9 (.ld none (.t 11)) 12, rI 10 (.mv (.t 12)) 2]) .ret))⟩
theorem p112 : prog 112 = some r112 := by kernel_rfl

/-! 113: impl.task).top -/
def r113 : RFun := ⟨14, [.tmp 2], (.seq (.reg [rI 0 (.mv (.k (.ptr none))) 2]) (.seq (.reg [rI 0 (.mv (.t 0)) 3, rI 1 (.nc (.t 3)) 4, rI 2 (.fa (.t 4) 12) 5, rI 4 (.mv (.t 0)) 7, rI 5 (.nc (.t 7)) 8, rI 6 (.fa (.t 8) 12) 9, rI 3 (.ld none (.t 5)) 6, rI 7 (.ld none (.t 9)) 10, rI 8 (.len (.t 10)) 11, rI 9 (.bin .sub (.t 11) (.k (.int .i64 1))) 12, rI 10 (.ias (.t 6) (.t 12) 8) 13, rI 11 (.mv (.t 13)) 2]) .ret))⟩
theorem p113 : prog 113 = some r113 := by kernel_rfl

/-! 111: impl.machine).steps -/
def r111 : RFun := ⟨17, [.tmp 4], (.seq (.reg [rI 0 (.mv (.k (.slc none 0 0))) 4]) (.seq (.reg [rI 0 (.mv (.t 0)) 5, rI 1 (.nc (.t 5)) 6, rI 2 (.fa (.t 6) 0) 7, rI 3 (.fa (.t 7) 0) 8, rI 5 (.mv (.t 1)) 10, rI 6 (.nc (.t 10)) 11, rI 7 (.fa (.t 11) 0) 12, rI 4 (.ld none (.t 8)) 9, rI 8 (.ld none (.t 12)) 13, rI 9 (.ias (.t 9) (.t 13) 1) 14, rI 10 (.fa (.t 14) 0) 15, rI 11 (.ld none (.t 15)) 16, rI 12 (.mv (.t 16)) 4]) .ret))⟩
theorem p111 : prog 111 = some r111 := by kernel_rfl



theorem tick_ok (h : Rep E L S μ) : Ret 115 [pt E.m 0] μ fun v μ' => v = .c (.bool S.tick.1) ∧ Rep E L S.tick.2 μ' ∧ Keep L μ L μ' := by
 have hm := h.mfacts
 refine Ret_of p115 (by simp [r115]) ?_
 simp only [rI, r115, frOf_1]
 simp only [w1, w2, ↓reduceIte, zA, hm]
 unfold PM.tick
 by_cases hu : S.used = S.left
 ·rw [if_pos hu]
  have hb : (S.used == S.left) = true := by simpa using hu
  obtain ⟨μ1, e1, h1, k1⟩ := h.setMach (S' := { S with over := true }) (o := 10) (new := [.bool true]) rfl (by simp) rfl rfl rfl rfl rfl
  obtain ⟨μ2, e2, h2, k2⟩ := h1.setMach (S' := { S with over := true, code := 2 }) (o := 5) (new := [.int .i64 2]) rfl (by simp) rfl rfl rfl rfl rfl
  simp only [hb, w1, w2, zH, zI, ↓reduceIte, zA, zB, e1, e2, aRet, aRes, aRes1]
  exact ⟨_, rfl, rfl, h2, k1.trans k2⟩
 ·rw [if_neg hu]
  have hb : (S.used == S.left) = false := beq_ff hu
  obtain ⟨μ1, e1, h1, k1⟩ := h.setMach (S' := { S with used := wr64 (S.used + 1) }) (o := 2) (new := [.int .i64 (wr64 (S.used + 1))]) rfl (by simp) rfl rfl rfl rfl rfl
  unfold wr64 at e1
  simp only [hb, w1, w2, zH, zI, ↓reduceIte, zA, hm, e1, aRet, aRes, aRes1]
  exact ⟨_, rfl, rfl, h1, k1⟩

theorem idx_some {α : Type} {l : List α} {i : Int} {x : α} (h : idx l i = some x) : ∃ k : Nat, i = k ∧ l[k]? = some x := by
 unfold idx at h
 split at h
 ·exact ⟨i.toNat, by omega, h⟩
 ·cases h

/-- The address of a task, read out of the machine's list. -/
theorem Rep.tasksAt (h : Rep E L S μ) {k : Nat} {t : PTk} (ht : S.tasks[k]? = some t) : ∃ b o, (∀ kd, aidx (.c (L.sc .tasks S.tasks.length)) (.c (.int kd (k : Int))) 1 = some (pt b o)) ∧
  μ.ld none b o = some (pt (L.id (.task k)) 0) := by
 have hr := h.has.rd (r := .tasks) (sz := 1) (n := S.tasks.length) (cs := cat (trow L) 0 S.tasks) rfl (by rw [cat_length (trow_len L)]) (by omega)
 obtain ⟨b, o, e1, _, _, e4⟩ := hr.row (trow_len L) (by omega) ht
 exact ⟨b, o, e1, by have := e4 0 (by omega); simpa [trow] using this⟩

theorem now_some {t : PTk} (hn : S.now = some t) : idx S.tasks S.run = some t ∧ t.frames.length < roomy := by
 unfold PM.now at hn
 cases hi : idx S.tasks S.run with
 | none => rw [hi] at hn; cases hn
 | some u =>
  rw [hi] at hn
  simp only [Option.bind_some] at hn
  split at hn
  ·rename_i hl
   simp only [Option.some.injEq] at hn
   subst hn
   exact ⟨rfl, hl⟩
  ·cases hn

theorem now_ok (h : Rep E L S μ) {t : PTk} (hn : S.now = some t) : ∃ k : Nat, S.run = k ∧ S.tasks[k]? = some t ∧ t.frames.length < roomy ∧ Ret 112 [pt E.m 0] μ fun v μ' => v = pt (L.id (.task k)) 0 ∧ μ' = μ := by
 obtain ⟨hn, hfl⟩ := now_some hn
 obtain ⟨k, hk, ht⟩ := idx_some hn
 refine ⟨k, hk, ht, hfl, ?_⟩
 have hm := h.mfacts
 obtain ⟨b, o, e1, e2⟩ := h.tasksAt ht
 refine Ret_of p112 (by simp [r112]) ?_
 simp only [rI, r112, frOf_1]
 simp only [w1, w2, ↓reduceIte, zA, hm, hk, e1, e2, aRet, aRes, aRes1]
 exact ⟨_, rfl, rfl⟩

/-- The address of a task's innermost block. -/
theorem Rep.topAt (h : Rep E L S μ) {i : Nat} {t : PTk} {f : PFr} {r : List PFr} (ht : S.tasks[i]? = some t) (hf : t.frames = f :: r) :
  (∀ kd, aidx (.c (L.sc (.frames i) t.frames.length)) (.c (.int kd (r.length : Int))) 8 = some (pt (L.id (.frames i)) (r.length * 8))) ∧
  (∀ k c, (frow L i r.length f)[k]? = some c → μ.ld none (L.id (.frames i)) (r.length * 8 + k) = some (.c c)) ∧ μ.ld (some 8) (L.id (.frames i)) (r.length * 8) = some (.agg (frow L i r.length f)) := by
 have hc : icon E L S (.frames i) = some (8, cat (frow L i) 0 (f :: r).reverse) := by simp only [icon, ht, Option.map_some, hf]
 have hlen : (cat (frow L i) 0 (f :: r).reverse).length = (r.length + 1) * 8 := by rw [cat_length (frow_len L i)]; simp
 have hne : cat (frow L i) 0 (f :: r).reverse ≠ [] := by intro hh; rw [hh] at hlen; simp at hlen
 have hon := h.has.on hc (.inr hne)
 refine ⟨fun kd => ?_, fun k c hk => ?_, ?_⟩
 ·rw [Lay.sc_slc hon, hf, aidx_in (by simp only [List.length_cons]; omega)]; simp
 ·have hk8 : k < 8 := by have := (List.getElem?_eq_some_iff.1 hk).1; rw [frow_len] at this; exact this
  refine h.has.ldc hc ?_
  rw [cat_get (frow_len L i) get_top hk8, Nat.zero_add]; exact hk
 ·have := cat_row (frow_len L i) (i := 0) (get_top (f := f) (r := r))
  rw [Nat.zero_add] at this
  exact h.has.ldn hc this (.inr hne)

theorem top_ok (h : Rep E L S μ) {i : Nat} {t : PTk} {f : PFr} {r : List PFr} (ht : S.tasks[i]? = some t) (hf : t.frames = f :: r) (hl : t.frames.length < roomy) :
  Ret 113 [pt (L.id (.task i)) 0] μ fun v μ' => v = pt (L.id (.frames i)) (r.length * 8) ∧ μ' = μ := by
 have htf := h.tfacts ht
 obtain ⟨e1, _, _⟩ := h.topAt ht hf
 have hsc : ∃ a n c, L.sc (.frames i) t.frames.length = .slc a t.frames.length c ∧ n = c := by
  unfold Lay.sc
  split
  ·exact ⟨_, _, _, rfl, rfl⟩
  ·rename_i hoff
   have hc : icon E L S (.frames i) = some (8, cat (frow L i) 0 (f :: r).reverse) := by simp only [icon, ht, Option.map_some, hf]
   have hlen : (cat (frow L i) 0 (f :: r).reverse).length = (r.length + 1) * 8 := by rw [cat_length (frow_len L i)]; simp
   exact absurd (h.has.on hc (.inr (by intro hh; rw [hh] at hlen; simp at hlen))) hoff
 obtain ⟨a, n, c, hsc, _⟩ := hsc
 have hw : IntKind.i64.wrap ((t.frames.length : Int) - 1) = ((r.length : Nat) : Int) := by
  unfold roomy at hl
  rw [hf] at hl ⊢
  simp only [List.length_cons] at hl ⊢
  rw [small (by omega)]; omega
 refine Ret_of p113 (by simp [r113]) ?_
 simp only [rI, r113, frOf_1]
 rw [hsc] at htf e1
 simp only [w1, w2, ↓reduceIte, zA, htf, hw, e1, aRet, aRes, aRes1]
 exact ⟨_, rfl, rfl⟩

theorem steps_ok (h : Rep E L S μ) {i : Nat} {t : PTk} (ht : S.tasks[i]? = some t) {l : List PStep} (hl : t.steps E.plan = some l) :
  ∃ x, Rd E.lo E.out 5 x l.length (cat scells 0 l) ∧ Ret 111 [pt E.m 0, pt (L.id (.task i)) 0] μ fun v μ' => v = .c x ∧ μ' = μ := by
 obtain ⟨k, hk, hp⟩ := idx_some hl
 have hm := h.mfacts
 have htf := h.tfacts ht
 obtain ⟨b, o, x, e1, e2, e3, e4, e5⟩ := h.plan.at hp
 refine ⟨x, e5, ?_⟩
 rw [← h.same.ld e2] at e4
 refine Ret_of p111 (by simp [r111]) ?_
 simp only [rI, r111, frOf_2]
 simp only [w1, w2, ↓reduceIte, zA, hm, htf, hk, e1, e4, Nat.add_zero, aRet, aRes, aRes1]
 exact ⟨_, rfl, rfl⟩
end
end Go.Proofs.Ytibmnlijoeppaaa
