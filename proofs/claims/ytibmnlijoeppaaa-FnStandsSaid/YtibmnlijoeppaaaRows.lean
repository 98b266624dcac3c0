/-
  No cell of these rows narrows 'for every input' (looked for: loops, veiled, ifaces, maps, wideKeys, modest, calm, conditions, laid).
  DERIVED. THE GIVEN ROWS OF THIS SEAT. 15 by the template 'for every input the law returns true; each argument reads behind the call as it read before'; 0 by the template 'total and deterministic' (their statements: YtibmnlijoeppaaaTotals.lean).
  GIVEN WITH THE SEED: the statements are not yours to turn. If you find one false, say at which input.
  Laid BY PROGRAM, IN A SANDBOX (cutbox-rows.mjs): the forced cells as the released guide's own fill.sh prints them over the translation b0b6289073f12134… (all of the seat's roots in one cut). By AI agents, Wed Nov 11 2026. No macro, syntax, notation, axiom, sorry.
-/
import Derived.Test.YtibmnlijoeppaaaChecked
import GoSem.Claim
import GoSem.ClaimJoined
import GoSem.ClaimMapViews
import Derived.JoinedTies
import Derived.KernelRfl
namespace Go.Proofs.Ytibmnlijoeppaaa
/- THE CELL 'sum', in the pinned program and in every row, IS THE sha256 OF THE DUMP (.gsa) THAT YtibmnlijoeppaaaProg.lean LOADS. Nothing in Lean hashes anything: it is a label: what it is worth is what the hold of that sum in a sandbox is worth. -/
noncomputable def Try.pinned : Pinned := { name := "ytibmnlijoeppaaa", sum := "b0b6289073f1213409f5168c077432b89c1aa516c80cf6e8367dcfb41f5af014", checked := Try.checked }
namespace Rows
def none {H : Type} : Left H := { results := [], args := [] }

/-- 'laws.FnExactConstants': WHATEVER THE INPUT: true; the input reads as it did. -/
def fnExactConstantsSpec : ChangeSpec := { name := "fnExactConstants", fn := fun _ => fun
  | [] => { results := [.lit (.bool true)], args := [] }
  | _ => none }
def fnExactConstantsRow : OpenClaim := { program := "ytibmnlijoeppaaa", sum := "b0b6289073f1213409f5168c077432b89c1aa516c80cf6e8367dcfb41f5af014", func := "loop.example/thread/laws.FnExactConstants", spec := "fnExactConstants", apart := false }
def FnExactConstantsSaid : Prop := fnExactConstantsRow.holds Try.pinned (OpenSpec.ofChange fnExactConstantsSpec)

/-- ITS FALSE NEIGHBOUR: 'it returns false'. Refute it at one input. -/
def fnExactConstantsWrong : ChangeSpec := { name := "fnExactConstants", fn := fun _ => fun
  | [] => { results := [.lit (.bool false)], args := [] }
  | _ => none }
def FnExactConstantsWrongFalsely : Prop := fnExactConstantsRow.holds Try.pinned (OpenSpec.ofChange fnExactConstantsWrong)

/-- 'laws.FnExactPlanOk': WHATEVER THE INPUT: true; the input reads as it did. -/
def fnExactPlanOkSpec : ChangeSpec := { name := "fnExactPlanOk", fn := fun _ => fun
  | [d] => { results := [.lit (.bool true)], args := [d] }
  | _ => none }
def fnExactPlanOkRow : OpenClaim := { program := "ytibmnlijoeppaaa", sum := "b0b6289073f1213409f5168c077432b89c1aa516c80cf6e8367dcfb41f5af014", func := "loop.example/thread/laws.FnExactPlanOk", spec := "fnExactPlanOk", recurses := true, apart := false }
def FnExactPlanOkSaid : Prop := fnExactPlanOkRow.holds Try.pinned (OpenSpec.ofChange fnExactPlanOkSpec)

/-- ITS FALSE NEIGHBOUR: 'it returns false'. Refute it at one input. -/
def fnExactPlanOkWrong : ChangeSpec := { name := "fnExactPlanOk", fn := fun _ => fun
  | [d] => { results := [.lit (.bool false)], args := [d] }
  | _ => none }
def FnExactPlanOkWrongFalsely : Prop := fnExactPlanOkRow.holds Try.pinned (OpenSpec.ofChange fnExactPlanOkWrong)

/-- 'laws.FnRelay': WHATEVER THE INPUT: true; the input reads as it did. -/
def fnRelaySpec : ChangeSpec := { name := "fnRelay", fn := fun _ => fun
  | [d] => { results := [.lit (.bool true)], args := [d] }
  | _ => none }
def fnRelayRow : OpenClaim := { program := "ytibmnlijoeppaaa", sum := "b0b6289073f1213409f5168c077432b89c1aa516c80cf6e8367dcfb41f5af014", func := "loop.example/thread/laws.FnRelay", spec := "fnRelay", unfollowed := true, recurses := true, apart := false }
def FnRelaySaid : Prop := fnRelayRow.holds Try.pinned (OpenSpec.ofChange fnRelaySpec)

/-- ITS FALSE NEIGHBOUR: 'it returns false'. Refute it at one input. -/
def fnRelayWrong : ChangeSpec := { name := "fnRelay", fn := fun _ => fun
  | [d] => { results := [.lit (.bool false)], args := [d] }
  | _ => none }
def FnRelayWrongFalsely : Prop := fnRelayRow.holds Try.pinned (OpenSpec.ofChange fnRelayWrong)

/-- 'laws.FnRing': WHATEVER THE INPUT: true; the input reads as it did. -/
def fnRingSpec : ChangeSpec := { name := "fnRing", fn := fun _ => fun
  | [d] => { results := [.lit (.bool true)], args := [d] }
  | _ => none }
def fnRingRow : OpenClaim := { program := "ytibmnlijoeppaaa", sum := "b0b6289073f1213409f5168c077432b89c1aa516c80cf6e8367dcfb41f5af014", func := "loop.example/thread/laws.FnRing", spec := "fnRing", unfollowed := true, recurses := true, apart := false }
def FnRingSaid : Prop := fnRingRow.holds Try.pinned (OpenSpec.ofChange fnRingSpec)

/-- ITS FALSE NEIGHBOUR: 'it returns false'. Refute it at one input. -/
def fnRingWrong : ChangeSpec := { name := "fnRing", fn := fun _ => fun
  | [d] => { results := [.lit (.bool false)], args := [d] }
  | _ => none }
def FnRingWrongFalsely : Prop := fnRingRow.holds Try.pinned (OpenSpec.ofChange fnRingWrong)

/-- 'laws.FnDefers': WHATEVER THE INPUT: true; the input reads as it did. -/
def fnDefersSpec : ChangeSpec := { name := "fnDefers", fn := fun _ => fun
  | [d] => { results := [.lit (.bool true)], args := [d] }
  | _ => none }
def fnDefersRow : OpenClaim := { program := "ytibmnlijoeppaaa", sum := "b0b6289073f1213409f5168c077432b89c1aa516c80cf6e8367dcfb41f5af014", func := "loop.example/thread/laws.FnDefers", spec := "fnDefers", unfollowed := true, recurses := true, apart := false }
def FnDefersSaid : Prop := fnDefersRow.holds Try.pinned (OpenSpec.ofChange fnDefersSpec)

/-- ITS FALSE NEIGHBOUR: 'it returns false'. Refute it at one input. -/
def fnDefersWrong : ChangeSpec := { name := "fnDefers", fn := fun _ => fun
  | [d] => { results := [.lit (.bool false)], args := [d] }
  | _ => none }
def FnDefersWrongFalsely : Prop := fnDefersRow.holds Try.pinned (OpenSpec.ofChange fnDefersWrong)

/-- 'laws.FnGone': WHATEVER THE INPUT: true; the input reads as it did. -/
def fnGoneSpec : ChangeSpec := { name := "fnGone", fn := fun _ => fun
  | [d] => { results := [.lit (.bool true)], args := [d] }
  | _ => none }
def fnGoneRow : OpenClaim := { program := "ytibmnlijoeppaaa", sum := "b0b6289073f1213409f5168c077432b89c1aa516c80cf6e8367dcfb41f5af014", func := "loop.example/thread/laws.FnGone", spec := "fnGone", unfollowed := true, recurses := true, apart := false }
def FnGoneSaid : Prop := fnGoneRow.holds Try.pinned (OpenSpec.ofChange fnGoneSpec)

/-- ITS FALSE NEIGHBOUR: 'it returns false'. Refute it at one input. -/
def fnGoneWrong : ChangeSpec := { name := "fnGone", fn := fun _ => fun
  | [d] => { results := [.lit (.bool false)], args := [d] }
  | _ => none }
def FnGoneWrongFalsely : Prop := fnGoneRow.holds Try.pinned (OpenSpec.ofChange fnGoneWrong)

/-- 'laws.FnTurns': WHATEVER THE INPUT: true; the input reads as it did. -/
def fnTurnsSpec : ChangeSpec := { name := "fnTurns", fn := fun _ => fun
  | [d] => { results := [.lit (.bool true)], args := [d] }
  | _ => none }
def fnTurnsRow : OpenClaim := { program := "ytibmnlijoeppaaa", sum := "b0b6289073f1213409f5168c077432b89c1aa516c80cf6e8367dcfb41f5af014", func := "loop.example/thread/laws.FnTurns", spec := "fnTurns", unfollowed := true, recurses := true, apart := false }
def FnTurnsSaid : Prop := fnTurnsRow.holds Try.pinned (OpenSpec.ofChange fnTurnsSpec)

/-- ITS FALSE NEIGHBOUR: 'it returns false'. Refute it at one input. -/
def fnTurnsWrong : ChangeSpec := { name := "fnTurns", fn := fun _ => fun
  | [d] => { results := [.lit (.bool false)], args := [d] }
  | _ => none }
def FnTurnsWrongFalsely : Prop := fnTurnsRow.holds Try.pinned (OpenSpec.ofChange fnTurnsWrong)

/-- 'laws.FnPrefix': WHATEVER THE INPUT: true; the input reads as it did. -/
def fnPrefixSpec : ChangeSpec := { name := "fnPrefix", fn := fun _ => fun
  | [d1, d2] => { results := [.lit (.bool true)], args := [d1, d2] }
  | _ => none }
def fnPrefixRow : OpenClaim := { program := "ytibmnlijoeppaaa", sum := "b0b6289073f1213409f5168c077432b89c1aa516c80cf6e8367dcfb41f5af014", func := "loop.example/thread/laws.FnPrefix", spec := "fnPrefix", unfollowed := true, recurses := true, apart := false }
def FnPrefixSaid : Prop := fnPrefixRow.holds Try.pinned (OpenSpec.ofChange fnPrefixSpec)

/-- ITS FALSE NEIGHBOUR: 'it returns false'. Refute it at one input. -/
def fnPrefixWrong : ChangeSpec := { name := "fnPrefix", fn := fun _ => fun
  | [d1, d2] => { results := [.lit (.bool false)], args := [d1, d2] }
  | _ => none }
def FnPrefixWrongFalsely : Prop := fnPrefixRow.holds Try.pinned (OpenSpec.ofChange fnPrefixWrong)

/-- 'laws.FnStands': WHATEVER THE INPUT: true; the input reads as it did. -/
def fnStandsSpec : ChangeSpec := { name := "fnStands", fn := fun _ => fun
  | [d1, d2] => { results := [.lit (.bool true)], args := [d1, d2] }
  | _ => none }
def fnStandsRow : OpenClaim := { program := "ytibmnlijoeppaaa", sum := "b0b6289073f1213409f5168c077432b89c1aa516c80cf6e8367dcfb41f5af014", func := "loop.example/thread/laws.FnStands", spec := "fnStands", unfollowed := true, recurses := true, apart := false }
def FnStandsSaid : Prop := fnStandsRow.holds Try.pinned (OpenSpec.ofChange fnStandsSpec)

/-- ITS FALSE NEIGHBOUR: 'it returns false'. Refute it at one input. -/
def fnStandsWrong : ChangeSpec := { name := "fnStands", fn := fun _ => fun
  | [d1, d2] => { results := [.lit (.bool false)], args := [d1, d2] }
  | _ => none }
def FnStandsWrongFalsely : Prop := fnStandsRow.holds Try.pinned (OpenSpec.ofChange fnStandsWrong)

/-- 'laws.FnExactRings': WHATEVER THE INPUT: true; the input reads as it did. -/
def fnExactRingsSpec : ChangeSpec := { name := "fnExactRings", fn := fun _ => fun
  | [d1, d2] => { results := [.lit (.bool true)], args := [d1, d2] }
  | _ => none }
def fnExactRingsRow : OpenClaim := { program := "ytibmnlijoeppaaa", sum := "b0b6289073f1213409f5168c077432b89c1aa516c80cf6e8367dcfb41f5af014", func := "loop.example/thread/laws.FnExactRings", spec := "fnExactRings", unfollowed := true, recurses := true, apart := false }
def FnExactRingsSaid : Prop := fnExactRingsRow.holds Try.pinned (OpenSpec.ofChange fnExactRingsSpec)

/-- ITS FALSE NEIGHBOUR: 'it returns false'. Refute it at one input. -/
def fnExactRingsWrong : ChangeSpec := { name := "fnExactRings", fn := fun _ => fun
  | [d1, d2] => { results := [.lit (.bool false)], args := [d1, d2] }
  | _ => none }
def FnExactRingsWrongFalsely : Prop := fnExactRingsRow.holds Try.pinned (OpenSpec.ofChange fnExactRingsWrong)

/-- 'laws.FnExactTurns': WHATEVER THE INPUT: true; the input reads as it did. -/
def fnExactTurnsSpec : ChangeSpec := { name := "fnExactTurns", fn := fun _ => fun
  | [d1, d2] => { results := [.lit (.bool true)], args := [d1, d2] }
  | _ => none }
def fnExactTurnsRow : OpenClaim := { program := "ytibmnlijoeppaaa", sum := "b0b6289073f1213409f5168c077432b89c1aa516c80cf6e8367dcfb41f5af014", func := "loop.example/thread/laws.FnExactTurns", spec := "fnExactTurns", unfollowed := true, recurses := true, apart := false }
def FnExactTurnsSaid : Prop := fnExactTurnsRow.holds Try.pinned (OpenSpec.ofChange fnExactTurnsSpec)

/-- ITS FALSE NEIGHBOUR: 'it returns false'. Refute it at one input. -/
def fnExactTurnsWrong : ChangeSpec := { name := "fnExactTurns", fn := fun _ => fun
  | [d1, d2] => { results := [.lit (.bool false)], args := [d1, d2] }
  | _ => none }
def FnExactTurnsWrongFalsely : Prop := fnExactTurnsRow.holds Try.pinned (OpenSpec.ofChange fnExactTurnsWrong)

/-- 'laws.FnRings': WHATEVER THE INPUT: true; the input reads as it did. -/
def fnRingsSpec : ChangeSpec := { name := "fnRings", fn := fun _ => fun
  | [d] => { results := [.lit (.bool true)], args := [d] }
  | _ => none }
def fnRingsRow : OpenClaim := { program := "ytibmnlijoeppaaa", sum := "b0b6289073f1213409f5168c077432b89c1aa516c80cf6e8367dcfb41f5af014", func := "loop.example/thread/laws.FnRings", spec := "fnRings", unfollowed := true, recurses := true, apart := false }
def FnRingsSaid : Prop := fnRingsRow.holds Try.pinned (OpenSpec.ofChange fnRingsSpec)

/-- ITS FALSE NEIGHBOUR: 'it returns false'. Refute it at one input. -/
def fnRingsWrong : ChangeSpec := { name := "fnRings", fn := fun _ => fun
  | [d] => { results := [.lit (.bool false)], args := [d] }
  | _ => none }
def FnRingsWrongFalsely : Prop := fnRingsRow.holds Try.pinned (OpenSpec.ofChange fnRingsWrong)

/-- 'laws.FnExactRunPlan': WHATEVER THE INPUT: true; the input reads as it did. -/
def fnExactRunPlanSpec : ChangeSpec := { name := "fnExactRunPlan", fn := fun _ => fun
  | [d1, d2] => { results := [.lit (.bool true)], args := [d1, d2] }
  | _ => none }
def fnExactRunPlanRow : OpenClaim := { program := "ytibmnlijoeppaaa", sum := "b0b6289073f1213409f5168c077432b89c1aa516c80cf6e8367dcfb41f5af014", func := "loop.example/thread/laws.FnExactRunPlan", spec := "fnExactRunPlan", unfollowed := true, recurses := true, apart := false }
def FnExactRunPlanSaid : Prop := fnExactRunPlanRow.holds Try.pinned (OpenSpec.ofChange fnExactRunPlanSpec)

/-- ITS FALSE NEIGHBOUR: 'it returns false'. Refute it at one input. -/
def fnExactRunPlanWrong : ChangeSpec := { name := "fnExactRunPlan", fn := fun _ => fun
  | [d1, d2] => { results := [.lit (.bool false)], args := [d1, d2] }
  | _ => none }
def FnExactRunPlanWrongFalsely : Prop := fnExactRunPlanRow.holds Try.pinned (OpenSpec.ofChange fnExactRunPlanWrong)

/-- 'laws.FnExactEndOf': WHATEVER THE INPUT: true; the input reads as it did. -/
def fnExactEndOfSpec : ChangeSpec := { name := "fnExactEndOf", fn := fun _ => fun
  | [d1, d2] => { results := [.lit (.bool true)], args := [d1, d2] }
  | _ => none }
def fnExactEndOfRow : OpenClaim := { program := "ytibmnlijoeppaaa", sum := "b0b6289073f1213409f5168c077432b89c1aa516c80cf6e8367dcfb41f5af014", func := "loop.example/thread/laws.FnExactEndOf", spec := "fnExactEndOf", unfollowed := true, recurses := true, apart := false }
def FnExactEndOfSaid : Prop := fnExactEndOfRow.holds Try.pinned (OpenSpec.ofChange fnExactEndOfSpec)

/-- ITS FALSE NEIGHBOUR: 'it returns false'. Refute it at one input. -/
def fnExactEndOfWrong : ChangeSpec := { name := "fnExactEndOf", fn := fun _ => fun
  | [d1, d2] => { results := [.lit (.bool false)], args := [d1, d2] }
  | _ => none }
def FnExactEndOfWrongFalsely : Prop := fnExactEndOfRow.holds Try.pinned (OpenSpec.ofChange fnExactEndOfWrong)

/-- 'laws.FnExactStandAt': WHATEVER THE INPUT: true; the input reads as it did. -/
def fnExactStandAtSpec : ChangeSpec := { name := "fnExactStandAt", fn := fun _ => fun
  | [d1, d2, d3] => { results := [.lit (.bool true)], args := [d1, d2, d3] }
  | _ => none }
def fnExactStandAtRow : OpenClaim := { program := "ytibmnlijoeppaaa", sum := "b0b6289073f1213409f5168c077432b89c1aa516c80cf6e8367dcfb41f5af014", func := "loop.example/thread/laws.FnExactStandAt", spec := "fnExactStandAt", unfollowed := true, recurses := true, apart := false }
def FnExactStandAtSaid : Prop := fnExactStandAtRow.holds Try.pinned (OpenSpec.ofChange fnExactStandAtSpec)

/-- ITS FALSE NEIGHBOUR: 'it returns false'. Refute it at one input. -/
def fnExactStandAtWrong : ChangeSpec := { name := "fnExactStandAt", fn := fun _ => fun
  | [d1, d2, d3] => { results := [.lit (.bool false)], args := [d1, d2, d3] }
  | _ => none }
def FnExactStandAtWrongFalsely : Prop := fnExactStandAtRow.holds Try.pinned (OpenSpec.ofChange fnExactStandAtWrong)

/- THE SECOND FORM. 'bulk': how many values and letters a reading holds, each counted each time it is reached (what is shared counts as often as it is met; a slice's spare places count too). A statement '..UptoSaid' is the law's where the arguments, and the package variables that the reading takes, are together of bulk at most 1048576: NARROWER than '..Said'. Prove '..Said' where nothing that the law and all that it calls make is longer than what came in: it says more and counts as full. Else prove '..UptoSaid'. A law counts once. -/
mutual
def uptoBulk {H : Type} : DataW H → Nat
  | .lit (.string bytes) => bytes.length + 1
  | .lit _ => 1
  | .nil => 1
  | .ptr d => uptoBulk d + 1
  | .slice elems spare => uptoBulkAll elems + uptoBulkAll spare + 1
  | .agg parts => uptoBulkAll parts + 1
  | .iface _ d => uptoBulk d + 1
  | .map entries => uptoBulkEntries entries + 1
  | .held _ => 1
def uptoBulkAll {H : Type} : List (DataW H) → Nat
  | [] => 0
  | d :: r => uptoBulk d + uptoBulkAll r
def uptoBulkEntries {H : Type} : List (Lit × DataW H) → Nat
  | [] => 0
  | x :: r => uptoBulkEntry x + uptoBulkEntries r
def uptoBulkEntry {H : Type} : Lit × DataW H → Nat
  | (.string bytes, d) => bytes.length + uptoBulk d + 1
  | (_, d) => uptoBulk d + 1
 end
def uptoSmall : (H : Type) → List (DataW H) → Bool := fun _ ds => decide (uptoBulkAll ds ≤ 1048576)
def OpenSpec.upto (s : _root_.Go.ChangeSpec) : _root_.Go.OpenSpec := { _root_.Go.OpenSpec.ofChange s with cond := some uptoSmall }

/-- 'laws.FnExactConstants', WHERE WHAT IT READS IS OF BULK AT MOST 1048576: true; the input reads as it did. -/
def fnExactConstantsUptoRow : OpenClaim := { program := "ytibmnlijoeppaaa", sum := "b0b6289073f1213409f5168c077432b89c1aa516c80cf6e8367dcfb41f5af014", func := "loop.example/thread/laws.FnExactConstants", spec := "fnExactConstants", apart := false, narrowed := true }
def FnExactConstantsUptoSaid : Prop := fnExactConstantsUptoRow.holds Try.pinned (OpenSpec.upto fnExactConstantsSpec)

/-- 'laws.FnExactPlanOk', WHERE WHAT IT READS IS OF BULK AT MOST 1048576: true; the input reads as it did. -/
def fnExactPlanOkUptoRow : OpenClaim := { program := "ytibmnlijoeppaaa", sum := "b0b6289073f1213409f5168c077432b89c1aa516c80cf6e8367dcfb41f5af014", func := "loop.example/thread/laws.FnExactPlanOk", spec := "fnExactPlanOk", recurses := true, apart := false, narrowed := true }
def FnExactPlanOkUptoSaid : Prop := fnExactPlanOkUptoRow.holds Try.pinned (OpenSpec.upto fnExactPlanOkSpec)

/-- 'laws.FnRelay', WHERE WHAT IT READS IS OF BULK AT MOST 1048576: true; the input reads as it did. -/
def fnRelayUptoRow : OpenClaim := { program := "ytibmnlijoeppaaa", sum := "b0b6289073f1213409f5168c077432b89c1aa516c80cf6e8367dcfb41f5af014", func := "loop.example/thread/laws.FnRelay", spec := "fnRelay", unfollowed := true, recurses := true, apart := false, narrowed := true }
def FnRelayUptoSaid : Prop := fnRelayUptoRow.holds Try.pinned (OpenSpec.upto fnRelaySpec)

/-- 'laws.FnRing', WHERE WHAT IT READS IS OF BULK AT MOST 1048576: true; the input reads as it did. -/
def fnRingUptoRow : OpenClaim := { program := "ytibmnlijoeppaaa", sum := "b0b6289073f1213409f5168c077432b89c1aa516c80cf6e8367dcfb41f5af014", func := "loop.example/thread/laws.FnRing", spec := "fnRing", unfollowed := true, recurses := true, apart := false, narrowed := true }
def FnRingUptoSaid : Prop := fnRingUptoRow.holds Try.pinned (OpenSpec.upto fnRingSpec)

/-- 'laws.FnDefers', WHERE WHAT IT READS IS OF BULK AT MOST 1048576: true; the input reads as it did. -/
def fnDefersUptoRow : OpenClaim := { program := "ytibmnlijoeppaaa", sum := "b0b6289073f1213409f5168c077432b89c1aa516c80cf6e8367dcfb41f5af014", func := "loop.example/thread/laws.FnDefers", spec := "fnDefers", unfollowed := true, recurses := true, apart := false, narrowed := true }
def FnDefersUptoSaid : Prop := fnDefersUptoRow.holds Try.pinned (OpenSpec.upto fnDefersSpec)

/-- 'laws.FnGone', WHERE WHAT IT READS IS OF BULK AT MOST 1048576: true; the input reads as it did. -/
def fnGoneUptoRow : OpenClaim := { program := "ytibmnlijoeppaaa", sum := "b0b6289073f1213409f5168c077432b89c1aa516c80cf6e8367dcfb41f5af014", func := "loop.example/thread/laws.FnGone", spec := "fnGone", unfollowed := true, recurses := true, apart := false, narrowed := true }
def FnGoneUptoSaid : Prop := fnGoneUptoRow.holds Try.pinned (OpenSpec.upto fnGoneSpec)

/-- 'laws.FnTurns', WHERE WHAT IT READS IS OF BULK AT MOST 1048576: true; the input reads as it did. -/
def fnTurnsUptoRow : OpenClaim := { program := "ytibmnlijoeppaaa", sum := "b0b6289073f1213409f5168c077432b89c1aa516c80cf6e8367dcfb41f5af014", func := "loop.example/thread/laws.FnTurns", spec := "fnTurns", unfollowed := true, recurses := true, apart := false, narrowed := true }
def FnTurnsUptoSaid : Prop := fnTurnsUptoRow.holds Try.pinned (OpenSpec.upto fnTurnsSpec)

/-- 'laws.FnPrefix', WHERE WHAT IT READS IS OF BULK AT MOST 1048576: true; the input reads as it did. -/
def fnPrefixUptoRow : OpenClaim := { program := "ytibmnlijoeppaaa", sum := "b0b6289073f1213409f5168c077432b89c1aa516c80cf6e8367dcfb41f5af014", func := "loop.example/thread/laws.FnPrefix", spec := "fnPrefix", unfollowed := true, recurses := true, apart := false, narrowed := true }
def FnPrefixUptoSaid : Prop := fnPrefixUptoRow.holds Try.pinned (OpenSpec.upto fnPrefixSpec)

/-- 'laws.FnStands', WHERE WHAT IT READS IS OF BULK AT MOST 1048576: true; the input reads as it did. -/
def fnStandsUptoRow : OpenClaim := { program := "ytibmnlijoeppaaa", sum := "b0b6289073f1213409f5168c077432b89c1aa516c80cf6e8367dcfb41f5af014", func := "loop.example/thread/laws.FnStands", spec := "fnStands", unfollowed := true, recurses := true, apart := false, narrowed := true }
def FnStandsUptoSaid : Prop := fnStandsUptoRow.holds Try.pinned (OpenSpec.upto fnStandsSpec)

/-- 'laws.FnExactRings', WHERE WHAT IT READS IS OF BULK AT MOST 1048576: true; the input reads as it did. -/
def fnExactRingsUptoRow : OpenClaim := { program := "ytibmnlijoeppaaa", sum := "b0b6289073f1213409f5168c077432b89c1aa516c80cf6e8367dcfb41f5af014", func := "loop.example/thread/laws.FnExactRings", spec := "fnExactRings", unfollowed := true, recurses := true, apart := false, narrowed := true }
def FnExactRingsUptoSaid : Prop := fnExactRingsUptoRow.holds Try.pinned (OpenSpec.upto fnExactRingsSpec)

/-- 'laws.FnExactTurns', WHERE WHAT IT READS IS OF BULK AT MOST 1048576: true; the input reads as it did. -/
def fnExactTurnsUptoRow : OpenClaim := { program := "ytibmnlijoeppaaa", sum := "b0b6289073f1213409f5168c077432b89c1aa516c80cf6e8367dcfb41f5af014", func := "loop.example/thread/laws.FnExactTurns", spec := "fnExactTurns", unfollowed := true, recurses := true, apart := false, narrowed := true }
def FnExactTurnsUptoSaid : Prop := fnExactTurnsUptoRow.holds Try.pinned (OpenSpec.upto fnExactTurnsSpec)

/-- 'laws.FnRings', WHERE WHAT IT READS IS OF BULK AT MOST 1048576: true; the input reads as it did. -/
def fnRingsUptoRow : OpenClaim := { program := "ytibmnlijoeppaaa", sum := "b0b6289073f1213409f5168c077432b89c1aa516c80cf6e8367dcfb41f5af014", func := "loop.example/thread/laws.FnRings", spec := "fnRings", unfollowed := true, recurses := true, apart := false, narrowed := true }
def FnRingsUptoSaid : Prop := fnRingsUptoRow.holds Try.pinned (OpenSpec.upto fnRingsSpec)

/-- 'laws.FnExactRunPlan', WHERE WHAT IT READS IS OF BULK AT MOST 1048576: true; the input reads as it did. -/
def fnExactRunPlanUptoRow : OpenClaim := { program := "ytibmnlijoeppaaa", sum := "b0b6289073f1213409f5168c077432b89c1aa516c80cf6e8367dcfb41f5af014", func := "loop.example/thread/laws.FnExactRunPlan", spec := "fnExactRunPlan", unfollowed := true, recurses := true, apart := false, narrowed := true }
def FnExactRunPlanUptoSaid : Prop := fnExactRunPlanUptoRow.holds Try.pinned (OpenSpec.upto fnExactRunPlanSpec)

/-- 'laws.FnExactEndOf', WHERE WHAT IT READS IS OF BULK AT MOST 1048576: true; the input reads as it did. -/
def fnExactEndOfUptoRow : OpenClaim := { program := "ytibmnlijoeppaaa", sum := "b0b6289073f1213409f5168c077432b89c1aa516c80cf6e8367dcfb41f5af014", func := "loop.example/thread/laws.FnExactEndOf", spec := "fnExactEndOf", unfollowed := true, recurses := true, apart := false, narrowed := true }
def FnExactEndOfUptoSaid : Prop := fnExactEndOfUptoRow.holds Try.pinned (OpenSpec.upto fnExactEndOfSpec)

/-- 'laws.FnExactStandAt', WHERE WHAT IT READS IS OF BULK AT MOST 1048576: true; the input reads as it did. -/
def fnExactStandAtUptoRow : OpenClaim := { program := "ytibmnlijoeppaaa", sum := "b0b6289073f1213409f5168c077432b89c1aa516c80cf6e8367dcfb41f5af014", func := "loop.example/thread/laws.FnExactStandAt", spec := "fnExactStandAt", unfollowed := true, recurses := true, apart := false, narrowed := true }
def FnExactStandAtUptoSaid : Prop := fnExactStandAtUptoRow.holds Try.pinned (OpenSpec.upto fnExactStandAtSpec)

end Rows
end Go.Proofs.Ytibmnlijoeppaaa
