/-
  The plan of a relay, made and run.
-/
import Derived.Test.YtibmnlijoeppaaaMadeC
namespace Go.Proofs.Ytibmnlijoeppaaa
set_option linter.unusedSimpArgs false
set_option linter.unusedVariables false

def madeRelay (n : Int) : PPlan :=
  [[⟨4, 1, 1, 0, 0⟩, ⟨1, 2, 0, n, 0⟩, ⟨14, 2, 0, 0, 2⟩, ⟨2, 0, 0, 1, 0⟩, ⟨5, 0, 1, 0, 0⟩, ⟨3, 0, 0, 0, 0⟩],
   [⟨1, 1, 0, 1, 0⟩, ⟨14, 1, 0, 0, 3⟩, ⟨2, 0, 0, 1, 0⟩, ⟨6, 0, 0, 0, 0⟩, ⟨1, 1, 0, 1, 0⟩]]

def RS (u run : Int) (t0 t1 : PTk) (R : List PRec) : PM := ⟨5000, u, [t0, t1], run, 0, R, 0, 0, [], false, none, []⟩
/-- The main task: its state, number, counter and flag, the pc of its loop's block. -/
def tM (st s c flag w : Int) (ask : PStep) (fr : List PFr) : PTk := ⟨0, st, [s, 1, c, flag], w, ask, fr, false, false, 0, 0, 0⟩
def tO (st s r w : Int) (ask : PStep) (fr : List PFr) : PTk := ⟨1, st, [s, r, 0, 0], w, ask, fr, false, false, 0, 0, 0⟩
def fM (pc : Int) : List PFr := [⟨14, 2, pc, 5, [], false, 0, 0⟩, ⟨0, -1, 5, 6, [], false, 0, 0⟩]
def fO (pc : Int) : List PFr := [⟨14, 1, pc, 5, [], false, 0, 0⟩, ⟨0, -1, 5, 5, [], false, 0, 0⟩]
def aR : PStep := ⟨5, 0, 1, 0, 0⟩
def aY : PStep := ⟨6, 0, 0, 0, 0⟩


theorem wl : wr64 0 = 0 ∧ wr64 1 = 1 ∧ wr64 2 = 2 ∧ wr64 3 = 3 ∧ wr64 4 = 4 ∧ wr64 5 = 5 ∧ wr64 6 = 6 := by decide

section
variable {n u s c flag v s1 : Int} {ask : PStep} {t1 : PTk} {R : List PRec}

theorem relay1 (hu : 0 ≤ u ∧ u < 4990) (hs : 0 ≤ s ∧ s < 1000) :
    PM.step (madeRelay n) (RS u 0 (tM 2 s c flag (-1) ask (fM 3)) t1 R) = some (RS (u + 1) 0 (tM 2 (s + 1) c flag (-1) ask (fM 4)) t1 R) := by
  have h1 : ¬ u = 5000 := by omega
  have h2 : wr64 (u + 1) = u + 1 := small (by omega)
  have h3 : wr64 (s + 1) = s + 1 := small (by omega)
  simp [RS, tM, fM, PM.step, PM.now, idx, roomy, PTk.steps, madeRelay, PM.tick, PM.put, PM.act, PTk.reg, PTk.setReg, h1, h2, h3, wl]

theorem relay2 (hu : 0 ≤ u ∧ u < 4990) (hR : R.length < 10000) :
    PM.step (madeRelay n) (RS u 0 (tM 2 s c flag (-1) ask (fM 4)) (tO 1 s1 0 (-1) aY (fO 4)) R) = some (RS (u + 1) 1 (tM 3 s c flag (-1) aR (fM 5)) (tO 2 s 0 0 aY (fO 4)) (R ++ [⟨2, 1, 1, 0⟩])) := by
  have h1 : ¬ u = 5000 := by omega
  have h2 : wr64 (u + 1) = u + 1 := small (by omega)
  have h3 : R.length < 16777216 := by omega
  simp [RS, tM, tO, fM, fO, aR, aY, PM.step, PM.now, idx, roomy, PTk.steps, madeRelay, PM.tick, PM.put, PM.act, PM.resume, PM.may, PM.other, PM.turn, PM.tell, PM.hooked, PTk.reg, PTk.setReg, h1, h2, h3, wl]

theorem relay3 {t0 : PTk} (hu : 0 ≤ u ∧ u < 4990) :
    PM.step (madeRelay n) (RS u 1 t0 (tO 2 s 0 0 aY (fO 4)) R) = some (RS (u + 1) 1 t0 (tO 2 s 1 0 aY (fO 5)) R) := by
  have h1 : ¬ u = 5000 := by omega
  have h2 : wr64 (u + 1) = u + 1 := small (by omega)
  simp [RS, tO, fO, aY, PM.step, PM.now, idx, roomy, PTk.steps, madeRelay, PM.tick, PM.put, PM.act, PTk.reg, PTk.setReg, h1, h2, wl]

theorem relay4 {t0 : PTk} (hu : 0 ≤ u ∧ u < 4990) :
    PM.step (madeRelay n) (RS u 1 t0 (tO 2 s 1 0 aY (fO 5)) R) = some (RS (u + 1) 1 t0 (tO 2 s 0 0 aY (fO 2)) R) := by
  have h1 : ¬ u = 5000 := by omega
  have h2 : wr64 (u + 1) = u + 1 := small (by omega)
  simp [RS, tO, fO, aY, PM.step, PM.leave, PM.close, PM.look, PM.now, idx, roomy, PTk.steps, madeRelay, PM.tick, PM.put, PM.act, PTk.reg, PTk.setReg, PTk.push, block, h1, h2, wl]

theorem relay5 {t0 : PTk} (hu : 0 ≤ u ∧ u < 4990) (hs : 0 ≤ s ∧ s < 1000) :
    PM.step (madeRelay n) (RS u 1 t0 (tO 2 s 0 0 ask (fO 2)) R) = some (RS (u + 1) 1 t0 (tO 2 (s + 1) 0 0 ask (fO 3)) R) := by
  have h1 : ¬ u = 5000 := by omega
  have h2 : wr64 (u + 1) = u + 1 := small (by omega)
  have h3 : wr64 (s + 1) = s + 1 := small (by omega)
  simp [RS, tO, fO, PM.step, PM.now, idx, roomy, PTk.steps, madeRelay, PM.tick, PM.put, PM.act, PTk.reg, PTk.setReg, h1, h2, h3, wl]

theorem relay6 (hu : 0 ≤ u ∧ u < 4990) (hR : R.length < 10000) :
    PM.step (madeRelay n) (RS u 1 (tM 3 v c flag (-1) aR (fM 5)) (tO 2 s 0 0 ask (fO 3)) R) = some (RS (u + 1) 0 (tM 2 s c 1 (-1) aR (fM 5)) (tO 1 s 0 (-1) aY (fO 4)) (R ++ [⟨2, 0, 2, 0⟩])) := by
  have h1 : ¬ u = 5000 := by omega
  have h2 : wr64 (u + 1) = u + 1 := small (by omega)
  have h3 : R.length < 16777216 := by omega
  simp [RS, tM, tO, fM, fO, aR, aY, PM.step, PM.now, idx, roomy, PTk.steps, madeRelay, PM.tick, PM.put, PM.act, PM.yield, PM.turn, PM.tell, PM.hooked, PTk.reg, PTk.setReg, h1, h2, h3, wl]

theorem relay7 {c : Nat} (hu : 0 ≤ u ∧ u < 4990) (hc : c < 1000) :
    PM.step (madeRelay n) (RS u 0 (tM 2 s ((c + 1 : Nat) : Int) flag (-1) ask (fM 5)) t1 R) = some (RS (u + 1) 0 (tM 2 s (c : Int) flag (-1) ask (fM 3)) t1 R) := by
  have h1 : ¬ u = 5000 := by omega
  have h2 : wr64 (u + 1) = u + 1 := small (by omega)
  have h3 : wr64 (c : Int) = c := small (by omega)
  have h4 : (0 : Int) < (c : Int) + 1 := by omega
  simp [RS, tM, fM, PM.step, PM.leave, PM.close, PM.look, PM.now, idx, roomy, PTk.steps, madeRelay, PM.tick, PM.put, PM.act, PTk.reg, PTk.setReg, PTk.push, block, h1, h2, h3, h4, wl]

theorem relay8 (hu : 0 ≤ u ∧ u < 4990) :
    PM.step (madeRelay n) (RS u 0 (tM 2 s 0 flag (-1) ask (fM 5)) t1 R) = some (RS (u + 1) 0 (tM 2 s 0 flag (-1) ask [⟨0, -1, 5, 6, [], false, 0, 0⟩]) t1 R) := by
  have h1 : ¬ u = 5000 := by omega
  have h2 : wr64 (u + 1) = u + 1 := small (by omega)
  simp [RS, tM, fM, PM.step, PM.leave, PM.close, PM.look, PM.now, idx, roomy, PTk.steps, madeRelay, PM.tick, PM.put, PM.act, PTk.reg, PTk.setReg, PTk.push, block, h1, h2, wl]

theorem relay9 (hu : 0 ≤ u ∧ u < 4990) (hR : R.length < 10000) :
    PM.step (madeRelay n) (RS u 0 (tM 2 s 0 flag (-1) ask [⟨0, -1, 5, 6, [], false, 0, 0⟩]) t1 R) = some (RS (u + 1) 0 (tM 2 s 0 flag (-1) ask [⟨0, -1, 6, 6, [], false, 0, 0⟩]) t1 (R ++ [⟨1, 0, 0, s⟩])) := by
  have h1 : ¬ u = 5000 := by omega
  have h2 : wr64 (u + 1) = u + 1 := small (by omega)
  have h3 : R.length < 16777216 := by omega
  simp [RS, tM, PM.step, PM.now, idx, roomy, PTk.steps, madeRelay, PM.tick, PM.put, PM.act, PM.tell, PM.hooked, PTk.reg, PTk.setReg, h1, h2, h3, wl]

theorem relay10 (hu : 0 ≤ u ∧ u < 4990) :
    PM.step (madeRelay n) (RS u 0 (tM 2 s 0 flag (-1) ask [⟨0, -1, 6, 6, [], false, 0, 0⟩]) t1 R) = some { RS u 0 (tM 4 s 0 flag (-1) ask []) t1 R with over := true } := by
  simp [RS, tM, PM.step, PM.leave, PM.close, PM.finish, PM.now, idx, roomy, PM.put]

/-- The first round. -/
theorem relayA : PM.fresh (madeRelay n) 5000 none = some ⟨5000, 0, [⟨0, 2, [0, 0, 0, 0], -1, ⟨0, 0, 0, 0, 0⟩, [⟨0, -1, 0, 6, [], false, 0, 0⟩], false, false, 0, 0, 0⟩], 0, 0, [], 0, 0, [], false, none, []⟩ := by
  simp [PM.fresh, PM.create, PM.start, PTk.steps, idx, roomy, madeRelay, PM.put]

theorem relayB : PM.step (madeRelay n) ⟨5000, 0, [⟨0, 2, [0, 0, 0, 0], -1, ⟨0, 0, 0, 0, 0⟩, [⟨0, -1, 0, 6, [], false, 0, 0⟩], false, false, 0, 0, 0⟩], 0, 0, [], 0, 0, [], false, none, []⟩ =
    some (RS 1 0 (tM 2 0 0 0 (-1) ⟨0, 0, 0, 0, 0⟩ [⟨0, -1, 1, 6, [], false, 0, 0⟩]) (tO 0 0 0 (-1) ⟨0, 0, 0, 0, 0⟩ []) []) := by
  simp [RS, tM, tO, PM.step, PM.now, idx, roomy, PTk.steps, madeRelay, PM.tick, PM.put, PM.act, PM.create, PTk.reg, PTk.setReg, wl]

theorem relayC : PM.step (madeRelay n) (RS 1 0 (tM 2 0 0 0 (-1) ask [⟨0, -1, 1, 6, [], false, 0, 0⟩]) t1 []) = some (RS 2 0 (tM 2 0 n 0 (-1) ask [⟨0, -1, 2, 6, [], false, 0, 0⟩]) t1 []) := by
  simp [RS, tM, PM.step, PM.now, idx, roomy, PTk.steps, madeRelay, PM.tick, PM.put, PM.act, PTk.reg, PTk.setReg, wl]

theorem relayD {c : Nat} (hc : c < 1000) : PM.step (madeRelay n) (RS 2 0 (tM 2 0 ((c + 1 : Nat) : Int) 0 (-1) ask [⟨0, -1, 2, 6, [], false, 0, 0⟩]) t1 []) = some (RS 3 0 (tM 2 0 (c : Int) 0 (-1) ask (fM 3)) t1 []) := by
  have h3 : wr64 (c : Int) = c := small (by omega)
  have h4 : (0 : Int) < (c : Int) + 1 := by omega
  simp [RS, tM, fM, PM.step, PM.look, PM.now, idx, roomy, PTk.steps, madeRelay, PM.tick, PM.put, PM.act, PTk.reg, PTk.setReg, PTk.push, block, h3, h4, wl]

theorem relayE : PM.step (madeRelay n) (RS 2 0 (tM 2 0 0 0 (-1) ask [⟨0, -1, 2, 6, [], false, 0, 0⟩]) t1 []) = some (RS 3 0 (tM 2 0 0 0 (-1) ask [⟨0, -1, 5, 6, [], false, 0, 0⟩]) t1 []) := by
  simp [RS, tM, PM.step, PM.look, PM.now, idx, roomy, PTk.steps, madeRelay, PM.tick, PM.put, PM.act, PTk.reg, PTk.setReg, PTk.push, block, wl]

theorem relayF (hu : 0 ≤ u ∧ u < 4990) :
    PM.step (madeRelay n) (RS u 0 (tM 2 s c flag (-1) ask (fM 4)) (tO 0 0 0 (-1) ⟨0, 0, 0, 0, 0⟩ []) []) = some (RS (u + 1) 1 (tM 3 s c flag (-1) aR (fM 5)) (tO 2 s 0 0 ⟨0, 0, 0, 0, 0⟩ [⟨0, -1, 0, 5, [], false, 0, 0⟩]) [⟨2, 1, 1, 0⟩]) := by
  have h1 : ¬ u = 5000 := by omega
  have h2 : wr64 (u + 1) = u + 1 := small (by omega)
  simp [RS, tM, tO, fM, aR, PM.step, PM.now, idx, roomy, PTk.steps, madeRelay, PM.tick, PM.put, PM.act, PM.resume, PM.may, PM.other, PM.turn, PM.tell, PM.hooked, PM.start, PTk.reg, PTk.setReg, h1, h2, wl]

theorem relayG {t0 : PTk} (hu : 0 ≤ u ∧ u < 4990) :
    PM.step (madeRelay n) (RS u 1 t0 (tO 2 s 0 0 ask [⟨0, -1, 0, 5, [], false, 0, 0⟩]) R) = some (RS (u + 1) 1 t0 (tO 2 s 1 0 ask [⟨0, -1, 1, 5, [], false, 0, 0⟩]) R) := by
  have h1 : ¬ u = 5000 := by omega
  have h2 : wr64 (u + 1) = u + 1 := small (by omega)
  simp [RS, tO, PM.step, PM.now, idx, roomy, PTk.steps, madeRelay, PM.tick, PM.put, PM.act, PTk.reg, PTk.setReg, h1, h2, wl]

theorem relayH {t0 : PTk} (hu : 0 ≤ u ∧ u < 4990) :
    PM.step (madeRelay n) (RS u 1 t0 (tO 2 s 1 0 ask [⟨0, -1, 1, 5, [], false, 0, 0⟩]) R) = some (RS (u + 1) 1 t0 (tO 2 s 0 0 ask (fO 2)) R) := by
  have h1 : ¬ u = 5000 := by omega
  have h2 : wr64 (u + 1) = u + 1 := small (by omega)
  simp [RS, tO, fO, PM.step, PM.look, PM.now, idx, roomy, PTk.steps, madeRelay, PM.tick, PM.put, PM.act, PTk.reg, PTk.setReg, PTk.push, block, h1, h2, wl]
end

theorem runs_step {p : PPlan} {k : Nat} {S S' : PM} (h : S.step p = some S') (ho : S.over = false) (hr : S.tasks.length < roomy) : PM.runs p (k + 1) S = PM.runs p k S' := by
  simp only [PM.runs, ho, Bool.false_eq_true, if_false, if_pos hr, h, Option.bind_some]

theorem RS_over {u run : Int} {t0 t1 : PTk} {R : List PRec} : (RS u run t0 t1 R).over = false := rfl
theorem RS_room {u run : Int} {t0 t1 : PTk} {R : List PRec} : (RS u run t0 t1 R).tasks.length < roomy := by simp [RS, roomy]

/-- The records of so many rounds. -/
def rounds : Nat → List PRec
  | 0 => []
  | k + 1 => [⟨2, 1, 1, 0⟩, ⟨2, 0, 2, 0⟩] ++ rounds k
theorem rounds_len : ∀ k, (rounds k).length = 2 * k
  | 0 => rfl
  | k + 1 => by simp only [rounds, List.length_append, rounds_len k, List.length_cons, List.length_nil]; omega

/-- What the law asks of the run. -/
def relayEnd (n : Nat) (S : PM) : Prop := S.code = 0 ∧ S.states = [] ∧ S.recs = rounds n ++ [⟨1, 0, 0, 2 * n⟩] ∧ ∃ t0 t1, S.tasks = [t0, t1] ∧ t0.state = 4 ∧ t1.state = if n = 0 then 0 else 1

/-- The rounds behind the first one. -/
theorem relayRounds {n : Int} : ∀ (c : Nat) (u s s1 : Int) (R : List PRec), c < 200 → 0 ≤ u → u + 7 * c + 7 < 4990 → 0 ≤ s → s + 2 * c < 1000 → R.length + 2 * c < 9000 →
    ∃ S fuel, PM.runs (madeRelay n) fuel (RS u 0 (tM 2 s (c : Int) 1 (-1) aR (fM 5)) (tO 1 s1 0 (-1) aY (fO 4)) R) = some S ∧ S.code = 0 ∧ S.states = [] ∧ S.recs = R ++ rounds c ++ [⟨1, 0, 0, s + 2 * c⟩] ∧ ∃ t0 t1, S.tasks = [t0, t1] ∧ t0.state = 4 ∧ t1.state = 1
  | 0, u, s, s1, R, hc, hu, hu2, hs, hs2, hR => by
    refine ⟨{ RS (u + 1 + 1) 0 (tM 4 s 0 1 (-1) aR []) (tO 1 s1 0 (-1) aY (fO 4)) (R ++ [⟨1, 0, 0, s⟩]) with over := true }, 4, ?_, rfl, rfl, ?_, _, _, rfl, rfl, rfl⟩
    · simp only [Int.natCast_zero]
      rw [runs_step (k := 3) (relay8 (by omega)) rfl RS_room, runs_step (k := 2) (relay9 (by omega) (by omega)) rfl RS_room, runs_step (k := 1) (relay10 (by omega)) rfl RS_room]
      simp only [PM.runs, if_true]
    · simp [RS, rounds]
  | c + 1, u, s, s1, R, hc, hu, hu2, hs, hs2, hR => by
    obtain ⟨S, fuel, h1, h2, h3, h4, h5⟩ := relayRounds (n := n) c (u + 1 + 1 + 1 + 1 + 1 + 1 + 1) (s + 1 + 1) (s + 1 + 1) (R ++ [⟨2, 1, 1, 0⟩] ++ [⟨2, 0, 2, 0⟩]) (by omega) (by omega) (by omega) (by omega) (by omega) (by simp; omega)
    refine ⟨S, fuel + 7, ?_, h2, h3, ?_, h5⟩
    · rw [← h1]
      rw [runs_step (k := fuel + 6) (relay7 (by omega) (by omega)) rfl RS_room, runs_step (k := fuel + 5) (relay1 (by omega) (by omega)) rfl RS_room, runs_step (k := fuel + 4) (relay2 (by omega) (by omega)) rfl RS_room,
        runs_step (k := fuel + 3) (relay3 (by omega)) rfl RS_room, runs_step (k := fuel + 2) (relay4 (by omega)) rfl RS_room, runs_step (k := fuel + 1) (relay5 (by omega) (by omega)) rfl RS_room,
        runs_step (k := fuel) (relay6 (by omega) (by simp; omega)) rfl RS_room]
    · have e : s + 1 + 1 + 2 * (c : Int) = s + 2 * ((c + 1 : Nat) : Int) := by omega
      rw [h4, e]
      simp only [rounds, List.append_assoc, List.cons_append, List.nil_append]

theorem relay_run {n : Nat} (hn : n ≤ 150) : ∃ S fuel, runEnd (madeRelay n) 5000 none fuel = some S ∧ relayEnd n S := by
  unfold runEnd
  rcases n with _ | n
  · refine ⟨{ RS (3 + 1) 0 (tM 4 0 0 0 (-1) ⟨0, 0, 0, 0, 0⟩ []) (tO 0 0 0 (-1) ⟨0, 0, 0, 0, 0⟩ []) ([] ++ [⟨1, 0, 0, 0⟩]) with over := true }, 6, ?_, rfl, rfl, rfl, _, _, rfl, rfl, rfl⟩
    rw [relayA, Option.bind_some, runs_step relayB rfl (by simp [roomy]), runs_step relayC rfl RS_room]
    simp only [Int.natCast_zero]
    rw [runs_step relayE rfl RS_room, runs_step (relay9 (by omega) (by simp)) rfl RS_room, runs_step (relay10 (by omega)) rfl RS_room]
    simp only [PM.runs, if_true]
  · obtain ⟨S, fuel, h1, h2, h3, h4, h5⟩ := relayRounds (n := ((n + 1 : Nat) : Int)) n (3 + 1 + 1 + 1 + 1 + 1 + 1) (0 + 1 + 1) (0 + 1 + 1) ([⟨2, 1, 1, 0⟩] ++ [⟨2, 0, 2, 0⟩]) (by omega) (by omega) (by omega) (by omega) (by omega) (by simp; omega)
    refine ⟨S, fuel + 9, ?_, h2, h3, ?_, ?_⟩
    · rw [← h1]
      rw [relayA, Option.bind_some, runs_step (k := fuel + 8) relayB rfl (by simp [roomy]), runs_step (k := fuel + 7) relayC rfl RS_room, runs_step (k := fuel + 6) (relayD (by omega)) rfl RS_room, runs_step (k := fuel + 5) (relay1 (by omega) (by omega)) rfl RS_room,
        runs_step (k := fuel + 4) (relayF (by omega)) rfl RS_room, runs_step (k := fuel + 3) (relayG (by omega)) rfl RS_room, runs_step (k := fuel + 2) (relayH (by omega)) rfl RS_room, runs_step (k := fuel + 1) (relay5 (by omega) (by omega)) rfl RS_room,
        runs_step (k := fuel) (relay6 (by omega) (by simp)) rfl RS_room]
    · have e : 0 + 1 + 1 + 2 * (n : Int) = 2 * ((n + 1 : Nat) : Int) := by omega
      rw [h4, e]
      simp only [rounds, List.append_assoc, List.cons_append, List.nil_append]
    · obtain ⟨t0, t1, e1, e2, e3⟩ := h5
      exact ⟨t0, t1, e1, e2, by rw [e3, if_neg (by omega)]⟩
end Go.Proofs.Ytibmnlijoeppaaa
