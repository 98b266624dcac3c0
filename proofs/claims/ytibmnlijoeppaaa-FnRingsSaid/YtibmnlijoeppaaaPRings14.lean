/-
 For all bytes laws.FnRings returns true.
-/
import Derived.Test.YtibmnlijoeppaaaRows
import Derived.Test.YtibmnlijoeppaaaL14
import Derived.Test.YtibmnlijoeppaaaInB
import Derived.WalkKit
import Derived.ProofKit
import Derived.OpenShut
import Derived.ChangeOld
import Derived.Below
namespace Go.Proofs.Ytibmnlijoeppaaa.fnRings
open Go.ChangeShapes Go.WideShapes Go.ChangeAt Go.RowKit
set_option linter.unusedVariables false

theorem own : ownKnob Try.prog.godebug = none := by kernel_rfl
theorem laidOut : laidOutB Try.prog = true := by kernel_rfl

theorem walk (W : World) (v0 : Value) (b0 : List Int) (h0 : BW W v0 b0) (r0 : ∀ y ∈ b0, 0 ≤ y ∧ y ≤ 255) :
  Calls Try.prog 14 #[v0] W fun e w' => e = .returned (.bool true) ∧ Below W.heap.size W w' := by
 obtain ⟨ρ, μ, cs, hs, hn, hcl, hc⟩ := inBytes [(v0, b0)] (fun i x b hx => by
  rcases i with _ | i
  ·simp only [List.getElem?_cons_zero, Option.some.injEq, Prod.mk.injEq] at hx
   obtain ⟨rfl, rfl⟩ := hx; exact h0
  ·simp at hx)
 obtain ⟨c0, rfl⟩ : ∃ c0, cs = [c0] := by
  rcases cs with _ | ⟨c0, _ | ⟨c1, cs⟩⟩ <;> simp at hcl
  exact ⟨c0, rfl⟩
 obtain ⟨hc0, hR0⟩ := hc 0 v0 b0 c0 rfl rfl
 obtain ⟨r, μ', ⟨k, hk⟩, hr⟩ := law14 hR0 (Nat.le_refl _) hn r0
 subst hr
 exact law_calls (args := [.c c0]) (cargs := [v0]) hs ⟨hc0, trivial⟩ ⟨k, μ', hk⟩

set_option maxRecDepth 100000 in
theorem lifted (os : Os) (started : os.Started) (H : Type) (enc : TypeId × Value → H) :
  ReturnsInHanded {} Try.checked os 14 .any (Rows.fnRingsSpec.pre6 enc Try.prog Try.f14 Rows.fnRingsRow.domain false) (Rows.fnRingsSpec.post enc Try.prog Try.f14 false true false false) := by
 refine returnsInHanded_of_change (C := Try.checked) own started (by kernel_rfl) Try.func14
  (ChangeSpec.witness6 (enc := enc) (C := Try.checked) false ⟨#[], #[.slice none 0 0], []⟩ 8 (by kernel_rfl) (by kernel_rfl) (by kernel_rfl) (by kernel_rfl)) ?_
 intro W base args ds gs before hval0 hW hcnd _
 have hval : ∀ (j : Nat) t v, Try.f14.params[j]? = some t → args[j]? = some v → Value.okWide Try.prog W .any base t v := hval0
 have hW' := hW
 obtain ⟨p, q, hA0, hV, rfl, hfz, hnd⟩ := hW
 have hA : DataW.TrodAll enc Try.prog W 0 (fun _ => true) true Try.f14.params.toList args.toList ds p := hA0
 rw [Try.params14] at hA hval
 obtain ⟨v0, vs0, d0, ds0, p0, q0, hargs, rfl, rfl, h0, r0⟩ := trodAll_cons hA
 obtain ⟨rfl, rfl, rfl⟩ := trodAll_nil r0
 obtain rfl : args = #[v0] := by cases args; simp_all
 obtain ⟨rfl, rfl⟩ := trodVars_none hV
 obtain ⟨a0, len0, cap0, rfl⟩ := okWide_slice Try.underlying37 (hval 0 37 v0 rfl rfl)
 have k0 := h0
 have lt0 : ∀ x ∈ p0, x.block < W.heap.size := by obtain ⟨m, hm⟩ := k0; exact DataW.trod_lt m _ _ _ hm
 obtain ⟨fuel0, hf0⟩ := h0
 obtain ⟨w0, b0, hcs0, hB0, _, hr0⟩ := open_bytes hf0
 simp [Value.cells] at hcs0
 subst hcs0
 clear hA0 hval0
 refine (walk W _ b0 hB0 hr0).mono fun e W' ⟨he, bel⟩ => ?_
 subst he
 exact ⟨_, rfl, _, _, _, [], _, [], hW', trodAll_mk1 (shut_bool Try.underlying4 _), (trodAll_cons_mk (Below.trod laidOut (by kernel_rfl) (of_decide_eq_true (by kernel_rfl)) k0 bel lt0) trodAll_mk0), rfl, bel.frame _, fun h => by cases h⟩

theorem over : Rows.fnRingsRow.holds Try.pinned (OpenSpec.ofChange Rows.fnRingsSpec) :=
 OpenClaim.holds_of_wide 14 Try.f14 rfl rfl rfl rfl rfl rfl rfl ⟨rfl, rfl, rfl, rfl, rfl⟩ rfl rfl rfl rfl rfl (by kernel_rfl) Try.func14 (by kernel_rfl)
  (of_decide_eq_true (by kernel_rfl)) (by unfold Func.isWrapper; first | (rw [if_pos (by decide +kernel)]; kernel_rfl) | (rw [if_neg (by decide +kernel)]; exact ⟨rfl, rfl⟩))
  (fun os started H enc _ => lifted os started H enc)

theorem proved : Rows.FnRingsSaid :=
 over
end Go.Proofs.Ytibmnlijoeppaaa.fnRings
