/-
 The reference's machine as plain Lean: what its functions do, 'none' where they would panic (or where a list grows beyond any size that a run has).
-/
import Derived.Test.YtibmnlijoeppaaaIM
namespace Go.Proofs.Ytibmnlijoeppaaa.X

structure PFr where
 hd : Int
 op : Int
 pc : Int
 fin : Int
 met : List Int
 leaving : Bool
 way : Int
 num : Int
 deriving DecidableEq, Repr, Inhabited

structure PTk where
 body : Int
 state : Int
 regs : List Int
 waiter : Int
 into : Int
 given : Bool
 drops : Bool
 drop : Int
 kept : Int
 begun : Int
 frames : List PFr
 deriving DecidableEq, Repr, Inhabited

structure PM where
 left : Int
 tasks : List PTk
 run : Int
 over : Bool
 code : Int
 recs : List PRec
 num : Int
 ticks : Int
 states : List Int
 rings : List PRing
 stop : Int
 stand : PStand
 deriving DecidableEq, Repr, Inhabited

def PM.now (S : PM) : Option PTk := (idx S.tasks S.run).bind fun t => if t.frames.length < roomy then some t else none
def PM.put (S : PM) (i : Int) (t : PTk) : PM := { S with tasks := S.tasks.set i.toNat t }

def PM.tick (S : PM) : Bool × PM :=
 if S.over = true then (false, S) else if S.left = 0 then (false, { S with over := true, code := 2 }) else (true, { S with left := wr64 (S.left - 1), ticks := wr64 (S.ticks + 1) })

def PTk.view (t : PTk) : PView := ⟨t.body, t.state, t.regs, t.waiter, t.frames.length, t.kept, t.begun⟩
def PM.see (S : PM) : PStand := ⟨true, S.run, S.tasks.map PTk.view⟩

def PM.tell (S : PM) (kind how num : Int) : Option PM :=
 if S.over = true then some S else
 if S.recs.length < roomy ∧ S.tasks.length < roomy then
  some { (if S.stop = S.recs.length then { S with stand := S.see, over := true } else S) with recs := S.recs ++ [⟨kind, S.run, how, num⟩] }
 else none

def PTk.onTop (t : PTk) (g : PFr → PFr) : Option PTk :=
 match t.frames with
 | f :: r => if t.frames.length < roomy then some { t with frames := g f :: r } else none
 | [] => none

/-- The innermost block is one that is being left. -/
def PM.mark (S : PM) (way num : Int) : Option PM := S.now.bind fun t => (t.onTop fun f => { f with leaving := true, way := way, num := num }).map fun t => S.put S.run t

def PM.throw (S : PM) (num : Int) : Option PM := (S.tell 3 0 num).bind fun S => S.mark 2 num

def PTk.steps (p : PPlan) (t : PTk) : Option (List PStep) := idx p t.body
def PTk.reg (t : PTk) (a : Int) : Option Int := if 0 ≤ a ∧ a < 4 then t.regs[a.toNat]? else none
def PTk.setReg (t : PTk) (a v : Int) : Option PTk := if 0 ≤ a ∧ a < 4 then some { t with regs := t.regs.set a.toNat v } else none

def PM.opens (S : PM) (hd op pc fin : Int) : Option PM :=
 (idx S.tasks S.run).bind fun t => if t.frames.length < roomy then some (S.put S.run { t with frames := ⟨hd, op, pc, fin, [], false, 0, 0⟩ :: t.frames }) else none

def PM.create (S : PM) (body : Int) : Option PM :=
 if S.tasks.length < roomy then some { S with tasks := S.tasks ++ [⟨body, 0, [0, 0, 0, 0], -1, 0, false, false, 0, 0, 0, []⟩] } else none

/-- From a task back along those who wait. -/
def ringBack (tasks : List PTk) (t : Int) : Nat → Int → Option (List Int)
 | 0, _ => none
 | n + 1, k => if k = t then some [] else (idx tasks k).bind fun u => (ringBack tasks t n u.waiter).map (k :: ·)

def PM.ring (S : PM) (t : Int) : Option (List Int) := (ringBack S.tasks t (S.tasks.length + 1) S.run).map fun b => t :: b.reverse

def PM.tells (S : PM) : List Int → Option PM
 | [] => some S
 | x :: l => (S.tell 5 0 x).bind fun S => S.tells l

/-- The task that a register names: its number, or -1 behind an error. -/
def PM.other (S : PM) (r : Int) : Option (Int × PM) :=
 (idx S.tasks S.run).bind fun t => (t.reg r).bind fun n =>
  if n < 0 ∨ n ≥ S.tasks.length then (S.throw (-12)).map fun S => (-1, S) else
  (idx S.tasks n).bind fun u =>
   if u.state = 0 ∨ u.state = 1 then some (n, S)
   else if u.state ≠ 4 then
    (S.ring n).bind fun l => if l.length < roomy ∧ S.rings.length < roomy then
     (PM.tells { S with rings := S.rings ++ [⟨S.recs.length, l⟩] } l).bind fun S => (S.throw (-10)).map fun S => (-1, S)
    else none
   else (S.throw (-10)).map fun S => (-1, S)

def PM.lend (S : PM) (t how : Int) : Option PM :=
 (idx S.tasks S.run).bind fun a =>
  let S1 := S.put S.run { a with state := 3 }
  (idx S1.tasks t).bind fun b => PM.tell { S1.put t { b with waiter := S.run, state := 2 } with run := t } 2 how 0

def PM.hand (S : PM) (state how num flag : Int) : Option PM :=
 (idx S.tasks S.run).bind fun t =>
  let S1 := { S.put S.run { t with state := state, waiter := -1 } with run := t.waiter }
  (idx S1.tasks t.waiter).bind fun w => (PM.tell (S1.put t.waiter { w with state := 2 }) 2 how 0).bind fun S2 =>
   (idx S2.tasks t.waiter).bind fun w => (w.setReg w.into num).bind fun w => (w.setReg 3 flag).map fun w => S2.put t.waiter w

def PM.resume (p : PPlan) (S : PM) (x : PStep) : Option PM :=
 (S.other x.b).bind fun y =>
  if y.1 < 0 then some y.2 else
  (idx y.2.tasks y.1).bind fun _ => (idx y.2.tasks y.2.run).bind fun t => (t.reg x.a).bind fun v =>
   let S1 := y.2.put y.2.run { t with into := x.a }
   (idx S1.tasks y.1).bind fun u1 => (S1.lend y.1 1).bind fun S2 =>
    if u1.state = 0 then
     (idx S2.tasks y.1).bind fun u => (u.setReg 0 v).bind fun u =>
      let S3 := S2.put y.1 u
      (idx S3.tasks S3.run).bind fun w => (w.steps p).bind fun l => S3.opens 0 0 0 l.length
    else (idx S2.tasks y.1).bind fun u => (u.setReg u.into v).map fun u => S2.put y.1 u

def PM.giveUp (S : PM) (x : PStep) : Option PM :=
 (S.other x.b).bind fun y =>
  if y.1 < 0 then some y.2 else
  (idx y.2.tasks y.1).bind fun u =>
   if u.state = 0 then
    let S1 := y.2.put y.1 { u with state := 4 }
    (idx S1.tasks S1.run).bind fun t => (t.setReg x.a 0).bind fun t => (t.setReg 3 1).map fun t => S1.put S1.run t
   else
    (idx y.2.tasks y.2.run).bind fun t =>
     let S1 := y.2.put y.2.run { t with into := x.a }
     (idx S1.tasks y.1).bind fun u => (PM.lend (S1.put y.1 { u with given := true }) y.1 5).bind fun S2 => S2.mark 3 0

def PM.yield (S : PM) (x : PStep) : Option PM :=
 (idx S.tasks S.run).bind fun t =>
  if S.run = 0 ∨ t.given = true then S.throw (-10) else
  (t.reg x.a).bind fun v => PM.hand (S.put S.run { t with into := x.a }) 1 2 v 1

/-- What a step does; 'hd' is its place. -/
def PM.act (p : PPlan) (S : PM) (t : PTk) (f : PFr) (r : List PFr) (x : PStep) (hd : Int) : Option PM :=
 if x.op = 1 then (t.setReg x.a x.n).map fun t => S.put S.run t
 else if x.op = 2 then (t.reg x.b).bind fun v => (t.setReg x.a (wr64 (v + x.n))).map fun t => S.put S.run t
 else if x.op = 3 then (t.reg x.a).bind fun v => S.tell 1 0 v
 else if x.op = 4 then
  if S.tasks.length = 60 then S.throw (-10)
  else (S.create x.b).bind fun S1 => (t.setReg x.a (wr64 ((S.tasks.length + 1 : Nat) - 1))).map fun t => S1.put S.run t
 else if x.op = 5 then S.resume p x
 else if x.op = 6 then S.yield x
 else if x.op = 7 then S.giveUp x
 else if x.op = 8 then
  (t.reg x.b).bind fun n => if n < 0 ∨ n ≥ S.tasks.length then S.throw (-12) else (idx S.tasks n).bind fun u => (t.setReg x.a u.state).map fun t => S.put S.run t
 else if x.op = 9 then (t.reg x.a).bind fun v => S.throw v
 else if x.op = 10 then (t.reg x.a).bind fun v => S.mark 1 v
 else if x.op = 13 then
  if f.met.length < roomy then some (S.put S.run { t with frames := { f with met := hd :: f.met } :: r, kept := wr64 (t.kept + 1) }) else none
 else if x.op = 14 then
  (t.reg x.a).bind fun v => if v > 0 then (t.setReg x.a (wr64 (v - 1))).bind fun t =>
   PM.opens (S.put S.run { t with frames := { f with pc := hd } :: r }) hd x.op (wr64 (hd + 1)) (wr64 (wr64 (hd + 1) + x.size)) else some S
 else if x.op = 15 then (t.reg x.a).bind fun v => if v ≠ 0 then S.opens hd x.op (wr64 (hd + 1)) (wr64 (wr64 (hd + 1) + x.size)) else some S
 else S.opens hd x.op (wr64 (hd + 1)) (wr64 (wr64 (hd + 1) + x.size))

def PM.step (p : PPlan) (S : PM) : Option PM :=
 S.now.bind fun t0 => match t0.frames with
 | [] => none
 | _ =>
 if S.tick.1 = false then some S.tick.2 else
 S.tick.2.now.bind fun t => match t.frames with
 | [] => none
 | f :: r =>
  (t.steps p).bind fun l => (idx l f.pc).bind fun x =>
   PM.act p (S.tick.2.put S.run { t with frames := { f with pc := wr64 (f.pc + wr64 (1 + x.size)) } :: r }) { t with frames := { f with pc := wr64 (f.pc + wr64 (1 + x.size)) } :: r }
    { f with pc := wr64 (f.pc + wr64 (1 + x.size)) } r x f.pc

/-- A task has no block left. -/
def PM.ended (S : PM) (way num : Int) : Option PM :=
 (idx S.tasks S.run).bind fun t =>
  if S.run = 0 then some { S.put S.run { t with state := 4 } with over := true, num := num, code := if way = 2 then 1 else S.code }
  else if t.given = true then PM.hand (S.put S.run { t with given := false }) 4 6 t.drop (if t.drops = true then 0 else 1)
  else if way = 2 then S.hand 4 4 num 0
  else S.hand 4 3 num 2

def PM.close (p : PPlan) (S : PM) : Option PM :=
 S.now.bind fun t => match t.frames with
 | [] => none
 | f :: r =>
  match f.met with
  | hd :: met =>
   if S.tick.1 = false then some S.tick.2 else
   if roomy ≤ met.length then none else
   let t := { t with frames := { f with met := met } :: r, begun := wr64 (t.begun + 1) }
   (t.steps p).bind fun l => (idx l hd).bind fun x => PM.opens (S.tick.2.put S.run t) hd 13 (wr64 (hd + 1)) (wr64 (wr64 (hd + 1) + x.size))
  | [] =>
   let t := { t with frames := r }
   let S1 := S.put S.run t
   match r with
   | [] => S1.ended f.way f.num
   | up :: _ =>
    if f.op = 11 ∧ f.way = 2 then
     (t.steps p).bind fun l => (idx l f.hd).bind fun x => (S1.tell 4 0 f.num).bind fun S2 => (idx S2.tasks S.run).bind fun t => (t.setReg x.a f.num).map fun t => S2.put S.run t
    else if f.way = 0 then some S1
    else if f.op = 13 ∧ up.way = 3 then some (S1.put S.run { t with drops := true, drop := f.num })
    else S1.mark f.way f.num

/-- One turn of the run's loop. -/
def PM.turn1 (p : PPlan) (S : PM) : Option PM :=
 S.now.bind fun t => match t.frames with
 | [] => none
 | f :: _ => if f.leaving = true then S.close p else if f.pc = f.fin then S.mark 0 0 else S.step p

def PM.runs (p : PPlan) : Nat → PM → Option PM
 | 0, _ => none
 | n + 1, S => if S.over = true then some S else if S.tasks.length < roomy then (S.turn1 p).bind (PM.runs p n) else none

def PM.fresh (p : PPlan) (ticks stop : Int) : Option PM :=
 (idx p 0).bind fun l => PM.opens ⟨ticks, [⟨0, 2, [0, 0, 0, 0], -1, 0, false, false, 0, 0, 0, []⟩], 0, false, 0, [], 0, 0, [], [], stop, ⟨false, 0, []⟩⟩ 0 0 0 l.length

def PM.done (S : PM) : PM := { S with states := S.states ++ S.tasks.map (·.state) }
end Go.Proofs.Ytibmnlijoeppaaa.X
