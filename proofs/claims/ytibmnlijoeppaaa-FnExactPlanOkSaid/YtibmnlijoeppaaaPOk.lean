/-
  For every plan laws.FnExactPlanOk returns true.
-/
import Derived.Test.YtibmnlijoeppaaaRows
import Derived.Test.YtibmnlijoeppaaaL4
import Derived.Test.YtibmnlijoeppaaaIn
import Derived.WalkKit
import Derived.ProofKit
import Derived.OpenShut
import Derived.ChangeOld
import Derived.Below
namespace Go.Proofs.Ytibmnlijoeppaaa.fnExactPlanOk
open Go.ChangeShapes Go.WideShapes Go.ChangeAt Go.RowKit
set_option linter.unusedVariables false

theorem own : ownKnob Try.prog.godebug = none := by kernel_rfl
theorem laidOut : laidOutB Try.prog = true := by kernel_rfl

theorem walk (W : World) (v0 v : Value) (p : PPlan) (h0 : v0 = .agg #[v]) (hp : PW W v p) (hl : Lens p) :
    Calls Try.prog 4 #[v0] W fun e w' => e = .returned (.bool true) ∧ Below W.heap.size W w' := by
  obtain ⟨ρ, μ, c, hs, hc, hR⟩ := inPlan hp
  subst h0
  obtain ⟨r, μ', ⟨k, hk⟩, hr⟩ := law4 hR (Nat.le_refl _) hl
  subst hr
  exact law_calls (args := [.agg [c]]) (cargs := [.agg #[v]]) hs ⟨⟨[v], rfl, hc, trivial⟩, trivial⟩ ⟨k, μ', hk⟩

set_option maxRecDepth 100000 in
theorem lifted (os : Os) (started : os.Started) (H : Type) (enc : TypeId × Value → H) :
    ReturnsInHanded {} Try.checked os 4 .any (Rows.fnExactPlanOkSpec.pre6 enc Try.prog Try.f4 Rows.fnExactPlanOkRow.domain false) (Rows.fnExactPlanOkSpec.post enc Try.prog Try.f4 false true false false) := by
  refine returnsInHanded_of_change (C := Try.checked) own started (by kernel_rfl) Try.func4
    (ChangeSpec.witness6 (enc := enc) (C := Try.checked) false ⟨#[], #[.agg #[.slice none 0 0]], []⟩ 8 (by kernel_rfl) (by kernel_rfl) (by kernel_rfl) (by kernel_rfl)) ?_
  intro W base args ds gs before hval0 hW hcnd _
  have hval : ∀ (j : Nat) t v, Try.f4.params[j]? = some t → args[j]? = some v → Value.okWide Try.prog W .any base t v := hval0
  have hW' := hW
  obtain ⟨p, q, hA0, hV, rfl, hfz, hnd⟩ := hW
  have hA : DataW.TrodAll enc Try.prog W 0 (fun _ => true) true Try.f4.params.toList args.toList ds p := hA0
  rw [Try.params4] at hA hval
  obtain ⟨v0, vs0, d0, ds0, p0, q0, hargs, rfl, rfl, h0, r0⟩ := trodAll_cons hA
  obtain ⟨rfl, rfl, rfl⟩ := trodAll_nil r0
  obtain rfl : args = #[v0] := by cases args; simp_all
  obtain ⟨rfl, rfl⟩ := trodVars_none hV
  have k0 := h0
  have lt0 : ∀ x ∈ p0, x.block < W.heap.size := by obtain ⟨m, hm⟩ := k0; exact DataW.trod_lt m _ _ _ hm
  obtain ⟨fuel, hf⟩ := h0
  obtain ⟨v, pl, hcs, hP, hl⟩ := open_plan hf
  have hv0 : v0 = .agg #[v] := by
    have h1 := hval 0 25 v0 rfl rfl
    simp only [Value.okWide, Try.underlying25] at h1
    obtain ⟨cs, e, _, _⟩ := h1
    subst e
    simp only [Value.cells] at hcs
    have : cs = #[v] := by cases cs; simp_all
    rw [this]
  clear hA0 hval0
  refine (walk W v0 v pl hv0 hP hl).mono fun e W' ⟨he, bel⟩ => ?_
  subst he
  exact ⟨_, rfl, _, _, _, [], _, [], hW', trodAll_mk1 (shut_bool Try.underlying4 _), (trodAll_cons_mk (Below.trod laidOut (by kernel_rfl) (of_decide_eq_true (by kernel_rfl)) k0 bel lt0) trodAll_mk0), rfl, bel.frame _, fun h => by cases h⟩

theorem over : Rows.fnExactPlanOkRow.holds Try.pinned (OpenSpec.ofChange Rows.fnExactPlanOkSpec) :=
  OpenClaim.holds_of_wide 4 Try.f4 rfl rfl rfl rfl rfl rfl rfl ⟨rfl, rfl, rfl, rfl, rfl⟩ rfl rfl rfl rfl rfl (by kernel_rfl) Try.func4 (by kernel_rfl)
    (of_decide_eq_true (by kernel_rfl)) (by unfold Func.isWrapper; first | (rw [if_pos (by decide +kernel)]; kernel_rfl) | (rw [if_neg (by decide +kernel)]; exact ⟨rfl, rfl⟩))
    (fun os started H enc _ => lifted os started H enc)

theorem proved : Rows.FnExactPlanOkSaid :=
  over
end Go.Proofs.Ytibmnlijoeppaaa.fnExactPlanOk
