/-
 The program at hand: what the abstract interpreter answers of one of its laws is what the law returns.
-/
import Derived.Test.YtibmnlijoeppaaaCode
import Derived.Test.YtibmnlijoeppaaaChecked
import Derived.Below
namespace Go.Proofs.Ytibmnlijoeppaaa
open Go.RowKit

noncomputable def prog : Nat → Option RFun := progOf Try.prog

theorem follows : Try.prog.follows .mixedOrders = true := by kernel_rfl

theorem prog_spec (f : Nat) (rf : RFun) (h : prog f = some rf) : ∃ fn, Try.prog.funcs[f]? = some fn ∧ rfun Try.prog fn = some rf := by
 unfold prog progOf at h
 rw [Option.bind_eq_some_iff] at h
 exact h

theorem below_of {w w' : World} (h : Keeps (· < w.heap.size) w w') : Below w.heap.size w w' := ⟨h.os, h.tape, h.output, h.size, fun k hk => h.block k hk⟩

/-- A law whose abstract run answers true. -/
theorem law_calls {f : Nat} {args : List AV} {cargs : List Value} {μ : Mem} {ρ : Emb} {w : World} (hs : Sim (· < w.heap.size) ρ μ w) (hargs : LRel (AVRel ρ) args cargs)
  (h : ∃ k μ', acall prog k f args μ = some (.c (.bool true), μ')) : Calls Try.prog f cargs.toArray w fun e w' => e = .returned (.bool true) ∧ Below w.heap.size w w' := by
 obtain ⟨k, μ', h⟩ := h
 refine ((acall_ok follows prog_spec k).sim _ _ _ _ _ h _ ρ w cargs hs hargs).mono fun e w' ⟨ρ', v', h1, h2, h3⟩ => ?_
 have h2' : v' = .bool true := h2
 subst h2'
 exact ⟨h1, below_of h3.keeps⟩

theorem sim_empty (w : World) : Sim (· < w.heap.size) (fun _ => none) ⟨fun _ => none, 0⟩ w :=
 ⟨fun i b x h => (by cases h), fun i o b x h => (by cases h), fun i j oi oj b x y h => (by cases h), fun i o h => (by cases h), fun b h => h⟩

end Go.Proofs.Ytibmnlijoeppaaa
