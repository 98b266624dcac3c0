/-
 What the law FnStands asks of a plan: its report, its end, its stands.
-/
import Derived.Test.YtibmnlijoeppaaaE3P
import Derived.Test.YtibmnlijoeppaaaE10
import Derived.Test.YtibmnlijoeppaaaE15
import Derived.Test.YtibmnlijoeppaaaHookRun
import Derived.Test.YtibmnlijoeppaaaKB
namespace Go.Proofs.Ytibmnlijoeppaaa
set_option linter.unusedSimpArgs false
set_option linter.unusedVariables false

/-- A stand as the law wants it. -/
def GS (s : PStand) : Prop := Std s ∧ ∀ v ∈ s.tasks, v.state = 4 → v.kept = v.begun

theorem stands11 (p : PPlan) (hl : Lens p) : ∃ (r : PReport) (e : PStand), r.recs.length ≤ 600000 ∧ e.tasks.length ≤ 60 ∧
  (∀ {μ : Mem} {hi : Nat} {c : Cell}, PlanR hi μ c p → hi ≤ μ.next → Ret 37 [.agg [c], .c (.int .i64 600)] μ fun v μ' => RepV μ'.next μ' v r ∧ Same μ.next μ μ') ∧
  (∀ {μ : Mem} {hi : Nat} {c : Cell}, PlanR hi μ c p → hi ≤ μ.next → Ret 30 [.agg [c], .c (.int .i64 600)] μ fun v μ' => AnsH SR.std SR.stdr μ.next μ' v e ∧ Same μ.next μ μ') ∧
  (∀ {μ : Mem} {hi : Nat} {c : Cell}, PlanR hi μ c p → hi ≤ μ.next → Ret 42 [.agg [c], .c (.int .i64 600)] μ fun v μ' => StandV μ'.next μ' v e ∧ Same μ.next μ μ') ∧
  (r.code = 2 → GS e) ∧
  ∀ k : Nat, k ≤ r.recs.length → ∃ s : PStand, s.tasks.length ≤ 60 ∧
   (∀ {μ : Mem} {hi : Nat} {c : Cell}, PlanR hi μ c p → hi ≤ μ.next → Ret 39 [.agg [c], .c (.int .i64 600), .c (.int .i64 k)] μ fun v μ' => AnsH IR.std IR.stdr μ.next μ' v s ∧ Same μ.next μ μ') ∧
   (∀ {μ : Mem} {hi : Nat} {c : Cell}, PlanR hi μ c p → hi ≤ μ.next → Ret 41 [.agg [c], .c (.int .i64 600), .c (.int .i64 k)] μ fun v μ' => StandV μ'.next μ' v s ∧ Same μ.next μ μ') ∧
   (k < r.recs.length → GS s) ∧ (k = r.recs.length → s.ok = false) := by
 obtain ⟨r, a1, _, _, a4, a5⟩ := reports' p 600 hl
 obtain ⟨e, b1, b2, b3, b4⟩ := endsAll' p 600 hl
 refine ⟨r, e, a1, b1, a4, b2, b3, fun hc => ?_, fun k hk => ?_⟩
 ·rcases a5 with ⟨rfl, _⟩ | ⟨S, T, m, hrun, hm, _, rfl⟩
  ·cases hc
  ·rcases b4 with h | ⟨S', m', hm', rfl, hstd⟩
   ·rw [hrun] at h; cases h
   ·obtain rfl := det1 hm hm'
    have hk := run_kept (fun h e => by cases e) hm
    refine ⟨hstd hc, fun v hv h4 => ?_⟩
    have h0 := (hstd hc).done v hv h4
    obtain ⟨t, ht, rfl⟩ := List.mem_map.1 hv
    exact (hk.tk t ht).done (List.eq_nil_of_length_eq_zero (by simpa [PTk.view] using h0))
 ·obtain ⟨s, c1, c2, c3, c4, c5⟩ := standsAll' p 600 k hl
  refine ⟨s, c1, c2, c3, ?_⟩
  rcases a5 with ⟨rfl, hnr⟩ | ⟨S, T, m, hrun, hm, _, rfl⟩
  ·rcases c5 with ⟨_, rfl⟩ | ⟨S', m', n', h, _⟩
   ·exact ⟨fun h => by simp at h, fun _ => rfl⟩
   ·rw [hnr] at h; cases h
  ·rcases c5 with ⟨h, _⟩ | ⟨S', m', n', _, hm', hhk⟩
   ·rw [hrun] at h; cases h
   have hrun' := hrun
   unfold X.runnable at hrun'
   simp only [Bool.and_eq_true, decide_eq_true_eq] at hrun'
   obtain ⟨⟨hok, ht0⟩, ht1⟩ := hrun'
   obtain ⟨S2, st, ⟨m2, hm2⟩, _, _, f1, f2, f3, _⟩ := hookRun hok ⟨ht0, ht1⟩ k hm
   obtain rfl := det1 hm' hm2
   rw [f1] at hhk
   simp only [Option.some.injEq, PHk.mk.injEq] at hhk
   obtain ⟨_, _, rfl⟩ := hhk
   have hkk := run_kept (fun h e => by rw [← Option.some.inj e]) hm2
   refine ⟨fun h => ?_, fun h => ?_⟩
   ·have hstd := f2 (by omega) (by have : k < S.recs.length := h; omega)
    exact ⟨hstd, fun v hv h4 => hkk.hk _ f1 v hv (by have := hstd.done v hv h4; omega)⟩
   ·have h' : k = S.recs.length := h
    rw [f3 (by omega)]
end Go.Proofs.Ytibmnlijoeppaaa
