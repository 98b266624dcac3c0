/-
 Stands whose parts lie apart.
-/
import Derived.Test.YtibmnlijoeppaaaH2
namespace Go.Proofs.Ytibmnlijoeppaaa
open Nat renaming reduceEqDiff → zA, reduceAdd → zB, reduceLeDiff → zJ, reduceMul → zK
open Int renaming reduceLT → zC, reduceLE → zD, reduceNeg → zE, reduceBEq → zF, reduceBNe → zG
open AV renaming isTup → zH, cells → zI
set_option linter.unusedSimpArgs false
set_option linter.unusedVariables false

def vrow (g : Nat → Cell) (i : Nat) (v : PView) : List Cell := [.int .i64 v.body, .int .i64 v.state, g i, .int .i64 v.waiter, .int .i64 v.blocks, .int .i64 v.kept, .int .i64 v.begun]

theorem vrow_len (g : Nat → Cell) (i : Nat) (v : PView) : (vrow g i v).length = 7 := rfl

/-- Views whose parts lie above 'lo' and apart. -/
structure StandH {ι : Type} [DecidableEq ι] (std : ι) (stdr : Nat → ι) (lo : Nat) (μ : Mem) (L : Lay ι) (C : Con ι) (l : List PView) : Prop where
 has : Has L C lo μ
 rows : C std = some (7, cat (vrow fun i => L.sc (stdr i) 4) 0 l)
 each : ∀ (i : Nat) (v : PView), l[i]? = some v → v.regs.length = 4 ∧ C (stdr i) = some (1, cat irow 0 v.regs)

section
variable {ι : Type} [DecidableEq ι] {L : Lay ι} {C : Con ι} {lo : Nat} {μ μ0 : Mem} {std : ι} {stdr : Nat → ι}

theorem StandH.v {l : List PView} (h : StandH std stdr lo μ L C l) {ok : Bool} {run : Int} : StandV μ.next μ (.agg [.bool ok, .int .i64 run, L.sc std l.length]) ⟨ok, run, l⟩ := by
 have hr := h.has.rd h.rows (n := l.length) (by rw [cat_length (vrow_len fun i => L.sc (stdr i) 4)]) (by omega)
 refine ⟨_, fun i => L.sc (stdr i) 4, rfl, hr, fun i v hv => ?_⟩
 obtain ⟨e1, e2⟩ := h.each i v hv
 have := h.has.rd e2 (n := 4) (by rw [cat_length irow_len, e1]) (by omega)
 rw [e1]; exact this
end

/-- A stand whose parts lie above 'lo' and apart. -/
def AnsH {ι : Type} [DecidableEq ι] (std : ι) (stdr : Nat → ι) (lo : Nat) (μ : Mem) (v : AV) (s : PStand) : Prop :=
 ∃ L C, StandH std stdr lo μ L C s.tasks ∧ v = .agg [.bool s.ok, .int .i64 s.running, L.sc std s.tasks.length]
end Go.Proofs.Ytibmnlijoeppaaa
