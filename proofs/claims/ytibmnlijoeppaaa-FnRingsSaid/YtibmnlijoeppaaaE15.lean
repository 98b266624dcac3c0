/-
 The exact law of StandAt: what both sides answer.
-/
import Derived.Test.YtibmnlijoeppaaaE9H
import Derived.Test.YtibmnlijoeppaaaBoth
import Derived.Test.YtibmnlijoeppaaaXW8S
import Derived.Test.YtibmnlijoeppaaaHookRun
namespace Go.Proofs.Ytibmnlijoeppaaa
open Nat renaming reduceEqDiff → zA, reduceAdd → zB, reduceLeDiff → zJ, reduceMul → zK
open Int renaming reduceLT → zC, reduceLE → zD, reduceNeg → zE, reduceBEq → zF, reduceBNe → zG
open AV renaming isTup → zH, cells → zI
set_option linter.unusedSimpArgs false
set_option linter.unusedVariables false

/-! 39: impl.StandAt -/
def r39 : RFun := ⟨14, [.cell 6 (some 3)], (.seq (.reg [rI 0 (.box (.t 0) 1) 3, rI 1 (.box (.t 2) 1) 5, rI 2 (.alc [.bool false, .int .i64 0, .slc none 0 0]) 6]) (.seq (.reg [rI 0 (.alc [.bool false, .int .i64 0, .slc none 0 0]) 7]) (.seq (.reg [rI 0 (.alc [.int .i64 0]) 8, ⟨1, .st (.t 8) (.k (.int .i64 0)) 1, none, none, []⟩]) (.seq (.reg [rI 0 (.ld (some 1) (.t 3)) 9, rI 1 (.mv (.t 1)) 10, rI 2 (.mkf 71 [.t 8, .t 5, .t 7]) 11, rI 3 (.call 66 [.t 9, .t 10, .t 11]) 12]) (.seq (.reg [rI 0 (.ld (some 3) (.t 7)) 13, ⟨1, .st (.t 6) (.t 13) 3, none, none, []⟩]) .ret)))))⟩
theorem p39 : prog 39 = some r39 := by kernel_rfl



section
variable {E : IEnv} {L L' : Lay IR} {S S' : PM} {μ μ' : Mem}

theorem ansH_no {lo : Nat} : AnsH IR.std IR.stdr lo μ (.agg [.bool false, .int .i64 0, .slc none 0 0]) ⟨false, 0, []⟩ := by
 refine ⟨⟨fun _ => 0, fun _ => false, fun _ => 0⟩, fun y => match y with | .std => some (7, []) | _ => none, ⟨?_, rfl, fun i r hr => by simp at hr⟩, rfl⟩
 refine (Has.start (fun _ => rfl)).weaken' fun y sz cs hy => .inr ?_
 cases y <;> simp only [reduceCtorEq, Option.some.injEq, Prod.mk.injEq] at hy
 exact ⟨rfl, by omega, hy.2.symm⟩

/-- Memory when StandAt's run begins. -/
def mem39 (μ : Mem) (c : Cell) (k : Int) : Mem := ((((μ.new [c] 0).new [.int .i64 k] 0).new [.bool false, .int .i64 0, .slc none 0 0] 0).new [.bool false, .int .i64 0, .slc none 0 0] 0).new [.int .i64 0] 0
def lay39 (n : Nat) : Lay IR := ((Lay.put ⟨fun _ => 0, fun _ => false, fun _ => 0⟩ IR.hk (n + 1) 0).put IR.hs (n + 3) 0).put IR.hn (n + 4) 0

theorem has39 {c : Cell} {k : Int} : Has (lay39 μ.next) (hcon (lay39 μ.next) (some ⟨0, k, ⟨false, 0, []⟩⟩)) μ.next (mem39 μ c k) := by
 have h0 : Has (⟨fun _ => 0, fun _ => false, fun _ => 0⟩ : Lay IR) (fun _ => none) μ.next (μ.new [c] 0) := Has.start (fun _ => rfl)
 have h1 := h0.new (Nat.le_succ _) (r := IR.hk) (sz := 0) (cs := [.int .i64 k]) (cap := 0) trivial
 have h2 := h1.tmp (cs := [.bool false, .int .i64 0, .slc none 0 0]) (sz := 0)
 have h3 := h2.new (by simp only [Mem.new_next]; omega) (r := IR.hs) (sz := 0) (cs := [.bool false, .int .i64 0, .slc none 0 0]) (cap := 0) trivial
 have h4 := h3.new (by simp only [Mem.new_next]; omega) (r := IR.hn) (sz := 0) (cs := [.int .i64 0]) (cap := 0) trivial
 refine h4.weaken' fun y sz cs hy => ?_
 unfold hcon at hy
 split at hy
 ·rename_i hk
  cases y <;> simp only [IR.ofHook, Bool.false_eq_true] at hk <;> simp only [icon, hookSt, Option.map_some, Option.bind_some, List.getElem?_nil, Option.map_none, reduceCtorEq, Option.some.injEq, Prod.mk.injEq] at hy
  ·left; obtain ⟨rfl, rfl⟩ := hy; rfl
  ·left; obtain ⟨rfl, rfl⟩ := hy; rfl
  ·left; obtain ⟨rfl, rfl⟩ := hy; rfl
  ·right; obtain ⟨rfl, rfl⟩ := hy; exact ⟨rfl, by omega, rfl⟩
 ·cases hy

theorem standAt_h {hi : Nat} {c : Cell} {p : PPlan} {ticks n k : Int} {st : PStand} (hR : PlanR hi μ c p) (hh : hi ≤ μ.next) (hl : Lens p) (hg : Goes p ticks (some ⟨0, k, ⟨false, 0, []⟩⟩) S) (hS : S.hook = some ⟨n, k, st⟩) (hr4 : ∀ v ∈ st.tasks, v.regs.length = 4) :
  Ret 39 [.agg [c], .c (.int .i64 ticks), .c (.int .i64 k)] μ fun v μ' => AnsH IR.std IR.stdr μ.next μ' v st ∧ Same μ.next μ μ' := by
 have hsm : Same μ.next μ (mem39 μ c k) := ((((Same.tmp (Nat.le_refl _)).new (Nat.le_succ _)).new (by simp only [Mem.new_next]; omega)).new (by simp only [Mem.new_next]; omega)).new (by simp only [Mem.new_next]; omega)
 have lA : (mem39 μ c k).ld (some 1) μ.next 0 = some (.agg [c]) := by
  simp only [mem39, Mem.new_ld, Mem.new_next]
  rw [if_neg (by omega), if_neg (by omega), if_neg (by omega), if_neg (by omega), if_pos trivial]; rfl
 have o6 : (mem39 μ c k).obj (μ.next + 2) = some ⟨[.bool false, .int .i64 0, .slc none 0 0], 0, false⟩ := by simp [mem39, Mem.new]
 have nx : (mem39 μ c k).next = μ.next + 5 := rfl
 obtain ⟨⟨fuel, he⟩, ht, hok, hroom, hst⟩ := hg
 obtain ⟨S0, h0, h1⟩ := Option.bind_eq_some_iff.1 he
 have hdr := drive_ok (lo := μ.next) (out := μ) (m := 0) (hook := some ⟨0, k, ⟨false, 0, []⟩⟩) (L0 := lay39 μ.next) (hR.mono hh) hsm (Nat.le_refl _) hl ht hok has39 (fun r hr => by cases r <;> simp [IR.ofHook] at hr <;> rfl) h0 h1 hroom hst
 refine Ret_of p39 (by simp [r39]) ?_
 simp only [rI, r39, frOf_3]
 have e8 : ((((μ.new [c] 0).new [.int .i64 k] 0).new [.bool false, .int .i64 0, .slc none 0 0] 0).new [.bool false, .int .i64 0, .slc none 0 0] 0).next = μ.next + 4 := rfl
 have es := new_st0 (μ := (((μ.new [c] 0).new [.int .i64 k] 0).new [.bool false, .int .i64 0, .slc none 0 0] 0).new [.bool false, .int .i64 0, .slc none 0 0] 0) (cs := [.int .i64 0]) (x := [.int .i64 0]) (e := 0) rfl
 rw [e8] at es
 have em : (((((μ.new [c] 0).new [.int .i64 k] 0).new [.bool false, .int .i64 0, .slc none 0 0] 0).new [.bool false, .int .i64 0, .slc none 0 0] 0).new [.int .i64 0] 0) = mem39 μ c k := rfl
 rw [em] at es
 simp only [w1, w2, zH, zI, ↓reduceIte, zA, Mem.new_next, em, es, lA, toPlaces]
 have ef : (.c (.fn 71 [(μ.next + 4, 0), (μ.next + 1, 0), (μ.next + 3, 0)]) : AV) = .c (hookc (lay39 μ.next) (some ⟨0, k, ⟨false, 0, []⟩⟩)) := rfl
 refine R_calls (l := [.agg [c], .c (.int .i64 ticks), .c (hookc (lay39 μ.next) (some ⟨0, k, ⟨false, 0, []⟩⟩))]) (by first | rfl | simp only [w1, w2, zH, zI, ↓reduceIte, zA, zB, zC, zD, zE, zF, zG]) hdr ?_
 rintro v μ6 ⟨E, L', hlo, hout, _, _, rfl, h, hhs, kp⟩
 have hfree : Free (lay39 μ.next) (μ.next + 2) := fun r hr e => by
  cases r <;> simp [lay39, Lay.put] at hr e <;> omega
 obtain ⟨kob, kfr⟩ := kp.keep (μ.next + 2) (by rw [nx]; omega) hfree
 have n6 : μ.next + 5 ≤ μ6.next := by have := kp.next; rw [nx] at this; exact this
 have l7 : μ6.ld (some 3) (μ.next + 3) 0 = some (.agg [.bool st.ok, .int .i64 st.running, L'.sc .std st.tasks.length]) := by
  have e1 : L'.id IR.hs = μ.next + 3 := hhs.trans rfl
  rw [← e1]
  refine h.has.ldn (r := IR.hs) (sz := 0) (cs := [.bool st.ok, .int .i64 st.running, L'.sc .std st.tasks.length]) ?_ rfl (.inl rfl)
  show (S.done.hook).map _ = _
  rw [show S.done.hook = S.hook from rfl, hS]; rfl
 have hU : Has (Lay.put ⟨fun _ => 0, fun _ => false, fun _ => 0⟩ () (μ.next + 2) 0) (Con.upd (fun _ => none) () (0, [.bool false, .int .i64 0, .slc none 0 0])) μ.next μ6 :=
  (Has.start (fun _ => rfl)).adopt (by omega) (by omega) (fun x hx => by cases hx) (kob.trans o6) (by simp)
 obtain ⟨μ7, e7, h7, hs7, n7, ob7⟩ := hU.st (r := ()) (by simp only [Con.upd, if_true]; rfl) (o := 0) (new := [.bool st.ok, .int .i64 st.running, L'.sc .std st.tasks.length]) (.inl rfl) (by simp)
 have eid : (Lay.put (⟨fun _ => 0, fun _ => false, fun _ => 0⟩ : Lay Unit) () (μ.next + 2) 0).id () = μ.next + 2 := rfl
 rw [eid] at e7 ob7
 have l8 : μ7.ld (some 3) (μ.next + 2) 0 = some (.agg [.bool st.ok, .int .i64 st.running, L'.sc .std st.tasks.length]) :=
  h7.ldn (r := ()) (sz := 0) (cs := [.bool st.ok, .int .i64 st.running, L'.sc .std st.tasks.length]) (by simp only [Con.upd, if_true]; rfl) rfl (.inl rfl)
 simp only [w1, w2, zH, zI, ↓reduceIte, zA, zB, l7, e7, aRet, aRes, aRes1, l8]
 have hf : Has L' (icon E L' S.done) μ.next μ7 := by
  have := h.has.frame (by rw [n7]; exact Nat.le_refl _) fun r hr => ob7 _ (fun e => kfr r hr e)
  rw [hlo] at this; exact this
 have hsame := h.same
 rw [hlo, hout] at hsame
 refine ⟨_, rfl, ⟨L', icon E L' S.done, ⟨hf, ?_, fun i v hv => ⟨hr4 v (List.mem_of_getElem? hv), ?_⟩⟩, rfl⟩, hsame.trans (hs7.mono (by have := hsame.2; omega))⟩
 ·show (S.done.hook).map _ = _
  rw [show S.done.hook = S.hook from rfl, hS]
  show some (7, cat (viewrow L') 0 st.tasks) = _
  rw [cat_congr (g := viewrow L') (g' := vrow fun i => L'.sc (IR.stdr i) 4) fun j g hj => by simp only [viewrow, vrow, hr4 g (List.mem_of_getElem? hj), Nat.zero_add]]
 ·show (S.done.hook).bind _ = _
  rw [show S.done.hook = S.hook from rfl, hS]
  show (st.tasks[i]?).map _ = _
  rw [hv]; rfl

theorem standAt_no {hi : Nat} {c : Cell} {p : PPlan} {ticks k : Int} (hR : PlanR hi μ c p) (hh : hi ≤ μ.next) (hl : Lens p) (hn : noRun p ticks) :
  Ret 39 [.agg [c], .c (.int .i64 ticks), .c (.int .i64 k)] μ fun v μ' => AnsH IR.std IR.stdr μ.next μ' v ⟨false, 0, []⟩ ∧ Same μ.next μ μ' := by
 have hsm : Same μ.next μ (mem39 μ c k) := ((((Same.tmp (Nat.le_refl _)).new (Nat.le_succ _)).new (by simp only [Mem.new_next]; omega)).new (by simp only [Mem.new_next]; omega)).new (by simp only [Mem.new_next]; omega)
 have lA : (mem39 μ c k).ld (some 1) μ.next 0 = some (.agg [c]) := by
  simp only [mem39, Mem.new_ld, Mem.new_next]
  rw [if_neg (by omega), if_neg (by omega), if_neg (by omega), if_neg (by omega), if_pos trivial]; rfl
 have l7 : (mem39 μ c k).ld (some 3) (μ.next + 3) 0 = some (.agg [.bool false, .int .i64 0, .slc none 0 0]) := by simp [mem39, Mem.new_ld, Mem.new_next, ldl, rd]
 have nx : (mem39 μ c k).next = μ.next + 5 := rfl
 have hU : Has (Lay.put ⟨fun _ => 0, fun _ => false, fun _ => 0⟩ () (μ.next + 2) 0) (Con.upd (fun _ => none) () (0, [.bool false, .int .i64 0, .slc none 0 0])) μ.next (mem39 μ c k) :=
  (Has.start (fun _ => rfl)).adopt (by omega) (by rw [nx]; omega) (fun x hx => by cases hx) (by simp [mem39, Mem.new]) (by simp)
 obtain ⟨μs, s6, h6, hs6, _, _⟩ := hU.st (r := ()) (by simp only [Con.upd, if_true]; rfl) (o := 0) (new := [.bool false, .int .i64 0, .slc none 0 0]) (.inl rfl) (by simp)
 have eid : (Lay.put (⟨fun _ => 0, fun _ => false, fun _ => 0⟩ : Lay Unit) () (μ.next + 2) 0).id () = μ.next + 2 := rfl
 rw [eid] at s6
 have l6 : μs.ld (some 3) (μ.next + 2) 0 = some (.agg [.bool false, .int .i64 0, .slc none 0 0]) :=
  h6.ldn (r := ()) (sz := 0) (cs := [.bool false, .int .i64 0, .slc none 0 0]) (by simp only [Con.upd, if_true]; rfl) rfl (.inl rfl)
 refine Ret_of p39 (by simp [r39]) ?_
 simp only [rI, r39, frOf_3]
 have e8 : ((((μ.new [c] 0).new [.int .i64 k] 0).new [.bool false, .int .i64 0, .slc none 0 0] 0).new [.bool false, .int .i64 0, .slc none 0 0] 0).next = μ.next + 4 := rfl
 have es := new_st0 (μ := (((μ.new [c] 0).new [.int .i64 k] 0).new [.bool false, .int .i64 0, .slc none 0 0] 0).new [.bool false, .int .i64 0, .slc none 0 0] 0) (cs := [.int .i64 0]) (x := [.int .i64 0]) (e := 0) rfl
 rw [e8] at es
 have em : (((((μ.new [c] 0).new [.int .i64 k] 0).new [.bool false, .int .i64 0, .slc none 0 0] 0).new [.bool false, .int .i64 0, .slc none 0 0] 0).new [.int .i64 0] 0) = mem39 μ c k := rfl
 rw [em] at es
 simp only [w1, w2, zH, zI, ↓reduceIte, zA, Mem.new_next, em, es, lA, toPlaces]
 refine R_calls (l := [.agg [c], .c (.int .i64 ticks), .c (.fn 71 [(μ.next + 4, 0), (μ.next + 1, 0), (μ.next + 3, 0)])]) (by first | rfl | simp only [w1, w2, zH, zI, ↓reduceIte, zA, zB, zC, zD, zE, zF, zG]) (drive_nil (hR.same hsm hh) (by rw [nx]; omega) hl hn) ?_
 rintro v μ6 ⟨rfl, hs⟩
 rw [nx] at hs
 have l7' := (hs.ld (n := some 3) (i := μ.next + 3) (o := 0) (by omega)).trans l7
 obtain ⟨μ7, e7, hs7, n7, ob7⟩ := hs.st (i := μ.next + 2) (by omega) s6
 have l8 : μ7.ld (some 3) (μ.next + 2) 0 = some (.agg [.bool false, .int .i64 0, .slc none 0 0]) := by
  exact (hs7.ld (n := some 3) (i := μ.next + 2) (o := 0) (by omega)).trans l6
 simp only [w1, w2, zH, zI, ↓reduceIte, zA, zB, l7', e7, aRet, aRes, aRes1, l8]
 exact ⟨_, rfl, ansH_no, hsm.trans (hs6.trans (hs7.mono (by omega)))⟩
end

/-- For each plan, number of ticks and number of a record one stand, that both sides answer. -/
theorem standsAll' (p : PPlan) (ticks k : Int) (hl : Lens p) : ∃ s : PStand, s.tasks.length ≤ 60 ∧
  (∀ {μ : Mem} {hi : Nat} {c : Cell}, PlanR hi μ c p → hi ≤ μ.next → Ret 39 [.agg [c], .c (.int .i64 ticks), .c (.int .i64 k)] μ fun v μ' => AnsH IR.std IR.stdr μ.next μ' v s ∧ Same μ.next μ μ') ∧
  (∀ {μ : Mem} {hi : Nat} {c : Cell}, PlanR hi μ c p → hi ≤ μ.next → Ret 41 [.agg [c], .c (.int .i64 ticks), .c (.int .i64 k)] μ fun v μ' => StandV μ'.next μ' v s ∧ Same μ.next μ μ') ∧
  (∀ v ∈ s.tasks, v.regs.length = 4) ∧
  ((X.runnable p ticks = false ∧ s = ⟨false, 0, []⟩) ∨ ∃ S m n, X.runnable p ticks = true ∧ ((PM.fresh p ticks (some ⟨0, k, ⟨false, 0, []⟩⟩)).bind fun S => PM.runs p m S) = some S ∧ S.hook = some ⟨n, k, s⟩) := by
 by_cases hr : X.runnable p ticks = true
 ·have hr' := hr
  unfold X.runnable at hr'
  simp only [Bool.and_eq_true, decide_eq_true_eq] at hr'
  obtain ⟨⟨hok, ht0⟩, ht1⟩ := hr'
  by_cases hk : 0 ≤ k
  ·obtain ⟨kn, rfl⟩ : ∃ n : Nat, k = n := ⟨k.toNat, by omega⟩
   obtain ⟨S0, S, T0, T, ⟨m, hm⟩, e2, e3, e4, hH, hf, ⟨m', hm'⟩, he⟩ := both_run hok ⟨ht0, ht1⟩ (hook := some ⟨0, kn, ⟨false, 0, []⟩⟩) (stop := kn) (.inr ⟨kn, rfl, rfl⟩)
   obtain ⟨st, f1, f2, f3, f4, f5, f6⟩ := hH.2 0 kn _ e3 (by rw [e4]; rfl)
   have hstop := X.run_stop hm'
   have hTs : T.stand = st ∧ T.states = [] ∧ T.tasks.length ≤ 60 := by
    cases he with
    | same h =>
     refine ⟨?_, h.statesT, by have := congrArg List.length h.views; have := h.few; simp at *; omega⟩
     rw [h.stand]
     rcases h.stop with h1 | ⟨q, h1, h2⟩
     ·omega
     ·rw [f1] at h2
      simp only [Option.some.injEq, PHk.mk.injEq] at h2
      exact h2.2.2.symm
    | stopped n q a b c =>
     rw [f1] at a
     simp only [Option.some.injEq, PHk.mk.injEq] at a
     exact ⟨a.2.2.symm, b, c⟩
   have hst : (∀ v ∈ st.tasks, v.regs.length = 4) ∧ st.tasks.length ≤ 60 := by
    by_cases hlt : (kn : Int) < S.recs.length
    ·have := f4 (by omega) hlt
     exact ⟨this.regs, this.few⟩
    ·rw [f5 (by omega)]; exact ⟨fun v hv => by simp at hv, by simp⟩
   have hg : Goes p ticks (some ⟨0, kn, ⟨false, 0, []⟩⟩) S := ⟨⟨m, hm⟩, ⟨ht0, ht1⟩, hok, by have := hf.few; unfold roomy; omega, hf.statesS⟩
   have hgX : X.Goes p ticks kn T := ⟨⟨m', hm'⟩, by unfold roomy; omega, hTs.2.1⟩
   refine ⟨st, hst.2, fun hR hh => standAt_h hR hh hl hg f1 hst.1, fun hR hh => ?_, hst.1, .inr ⟨S, m, _, hr, hm, f1⟩⟩
   rw [← hTs.1]
   exact X.standAt_ok hR hh hl hr hk hgX (by rw [hTs.1]; exact hst.1)
  ·obtain ⟨S0, S, T0, T, ⟨m, hm⟩, e2, e3, e4, hH, hf, _, _⟩ := both_run hok ⟨ht0, ht1⟩ (hook := some ⟨0, k, ⟨false, 0, []⟩⟩) (stop := -1) (.inl ⟨rfl, .inr ⟨k, _, rfl⟩⟩)
   obtain ⟨st, f1, f2, _⟩ := hH.2 0 k _ e3 (by rw [e4]; rfl)
   have hst := f2 (by omega)
   subst hst
   have hg : Goes p ticks (some ⟨0, k, ⟨false, 0, []⟩⟩) S := ⟨⟨m, hm⟩, ⟨ht0, ht1⟩, hok, by have := hf.few; unfold roomy; omega, hf.statesS⟩
   exact ⟨⟨false, 0, []⟩, by simp, fun hR hh => standAt_h hR hh hl hg f1 (fun v hv => by simp at hv), fun hR hh => X.standAt_no hR hh hl (.inr (by omega)), fun v hv => by simp at hv, .inr ⟨S, m, _, hr, hm, f1⟩⟩
 ·have hr' : X.runnable p ticks = false := by simpa using hr
  have hn : noRun p ticks := by
   unfold X.runnable at hr
   simp only [Bool.and_eq_true, decide_eq_true_eq] at hr
   unfold noRun
   by_cases h1 : (okP p).1 = 0
   ·omega
   ·exact .inr (.inr h1)
  exact ⟨⟨false, 0, []⟩, by simp, fun hR hh => standAt_no hR hh hl hn, fun hR hh => X.standAt_no hR hh hl (.inl hr'), fun v hv => by simp at hv, .inl ⟨hr', rfl⟩⟩

theorem standsAll (p : PPlan) (ticks k : Int) (hl : Lens p) : ∃ s : PStand, s.tasks.length ≤ 60 ∧
  (∀ {μ : Mem} {hi : Nat} {c : Cell}, PlanR hi μ c p → hi ≤ μ.next → Ret 39 [.agg [c], .c (.int .i64 ticks), .c (.int .i64 k)] μ fun v μ' => AnsH IR.std IR.stdr μ.next μ' v s ∧ Same μ.next μ μ') ∧
  (∀ {μ : Mem} {hi : Nat} {c : Cell}, PlanR hi μ c p → hi ≤ μ.next → Ret 41 [.agg [c], .c (.int .i64 ticks), .c (.int .i64 k)] μ fun v μ' => StandV μ'.next μ' v s ∧ Same μ.next μ μ') := by
 obtain ⟨s, a, b, c, _⟩ := standsAll' p ticks k hl
 exact ⟨s, a, b, c⟩
end Go.Proofs.Ytibmnlijoeppaaa
