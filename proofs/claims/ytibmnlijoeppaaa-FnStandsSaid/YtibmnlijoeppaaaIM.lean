/-
 The program's machine as plain Lean: what its functions do, 'none' where they would panic (or where a list grows beyond any size that a run has).
-/
import Derived.Test.YtibmnlijoeppaaaPlan
namespace Go.Proofs.Ytibmnlijoeppaaa

def wr64 (n : Int) : Int := IntKind.i64.wrap n

/-- The element at a number, if there is one. -/
def idx {α : Type} (l : List α) (i : Int) : Option α := if 0 ≤ i then l[i.toNat]? else none

structure PFr where
 op : Int
 hd : Int
 pc : Int
 fin : Int
 met : List Int
 leaving : Bool
 way : Int
 num : Int
 deriving DecidableEq, Repr, Inhabited

structure PTk where
 body : Int
 state : Int
 regs : List Int
 waiter : Int
 ask : PStep
 frames : List PFr
 given : Bool
 drops : Bool
 drop : Int
 kept : Int
 begun : Int
 deriving DecidableEq, Repr, Inhabited

structure PRec where
 kind : Int
 task : Int
 how : Int
 num : Int
 deriving DecidableEq, Repr, Inhabited

structure PRing where
 pos : Int
 tasks : List Int
 deriving DecidableEq, Repr, Inhabited

structure PView where
 body : Int
 state : Int
 regs : List Int
 waiter : Int
 blocks : Int
 kept : Int
 begun : Int
 deriving DecidableEq, Repr, Inhabited

structure PStand where
 ok : Bool
 running : Int
 tasks : List PView
 deriving DecidableEq, Repr, Inhabited

/-- What StandAt's hook keeps. -/
structure PHk where
 n : Int
 k : Int
 stand : PStand
 deriving DecidableEq, Repr, Inhabited

structure PM where
 left : Int
 used : Int
 tasks : List PTk
 run : Int
 code : Int
 recs : List PRec
 num : Int
 ticks : Int
 states : List Int
 over : Bool
 hook : Option PHk
 rings : List PRing
 deriving DecidableEq, Repr, Inhabited

def roomy : Nat := 16777216

def PM.now (S : PM) : Option PTk := (idx S.tasks S.run).bind fun t => if t.frames.length < roomy then some t else none
def PM.put (S : PM) (i : Int) (t : PTk) : PM := { S with tasks := S.tasks.set i.toNat t }

def PM.tick (S : PM) : Bool × PM :=
 if S.used = S.left then (false, { S with over := true, code := 2 }) else (true, { S with used := wr64 (S.used + 1) })

def PTk.view (t : PTk) : PView := ⟨t.body, t.state, t.regs, t.waiter, t.frames.length, t.kept, t.begun⟩
def PM.stand (S : PM) : PStand := ⟨true, S.run, S.tasks.map PTk.view⟩

def PM.hooked (S : PM) : PM :=
 match S.hook with
 | none => S
 | some h => { S with hook := some { h with stand := if h.n = h.k then S.stand else h.stand, n := wr64 (h.n + 1) } }

def PM.tell (S : PM) (kind how num : Int) : Option PM :=
 if S.recs.length < roomy ∧ S.tasks.length < roomy then some { S.hooked with recs := S.recs ++ [⟨kind, S.run, how, num⟩] } else none

def PTk.onTop (t : PTk) (g : PFr → PFr) : Option PTk :=
 match t.frames with
 | f :: r => if t.frames.length < roomy then some { t with frames := g f :: r } else none
 | [] => none

def PM.fail (S : PM) (num : Int) : Option PM :=
 (S.tell 3 0 num).bind fun S => S.now.bind fun t => (t.onTop fun f => { f with leaving := true, way := 2, num := num }).map fun t => S.put S.run t

def PM.turn (S : PM) (to how : Int) : Option PM :=
 (idx S.tasks to).bind fun t => PM.tell { S.put to { t with state := 2 } with run := to } 2 how 0

def PTk.steps (p : PPlan) (t : PTk) : Option (List PStep) := idx p t.body

def PTk.reg (t : PTk) (a : Int) : Option Int := if 0 ≤ a ∧ a < 4 then t.regs[a.toNat]? else none
def PTk.setReg (t : PTk) (a v : Int) : Option PTk := if 0 ≤ a ∧ a < 4 then some { t with regs := t.regs.set a.toNat v } else none

def PTk.push (t : PTk) (f : PFr) : Option PTk := if t.frames.length < roomy then some { t with frames := f :: t.frames } else none

def block (op hd size : Int) : PFr := ⟨op, hd, wr64 (hd + 1), wr64 (wr64 (hd + 1) + size), [], false, 0, 0⟩

/-- A new task; its number. -/
def PM.create (S : PM) (body : Int) : Option PM :=
 if S.tasks.length < roomy then some { S with tasks := S.tasks ++ [⟨body, 0, [0, 0, 0, 0], -1, ⟨0, 0, 0, 0, 0⟩, [], false, false, 0, 0, 0⟩] } else none

def PM.start (p : PPlan) (S : PM) (i : Int) : Option PM :=
 (idx S.tasks i).bind fun t => if t.frames = [] then (t.steps p).map fun l => S.put i { t with frames := [⟨0, -1, 0, l.length, [], false, 0, 0⟩] } else none

def PM.look (p : PPlan) (S : PM) (i at' : Int) : Option PM :=
 if S.tick.1 = false then some S.tick.2 else
 (idx S.tick.2.tasks i).bind fun t => (t.steps p).bind fun l => (idx l at').bind fun x => (t.reg x.a).bind fun r =>
  if r > 0 then (t.setReg x.a (wr64 (r - 1))).bind fun t => (t.push (block 14 at' x.size)).map fun t => S.tick.2.put i t
  else some S.tick.2

/-- The running task is done. -/
def PM.finish (S : PM) (way num : Int) : Option PM :=
 S.now.bind fun t0 =>
  let t := { t0 with state := 4 }
  if S.run = 0 then
   let S := S.put S.run t
   some { S with over := true, num := num, code := if way = 2 then 1 else S.code }
  else
   let w := t.waiter
   let t := { t with waiter := -1 }
   let v := if way = 3 then (if t.drops then t.drop else 0) else num
   let flag : Int := if way = 2 then 0 else if way = 3 then (if t.drops then 0 else 1) else 2
   let how : Int := if way = 2 then 4 else if way = 3 then 6 else 3
   let S1 := S.put S.run t
   (idx S1.tasks w).bind fun _ => (S1.turn w how).bind fun S2 => (idx S2.tasks w).bind fun u => (u.setReg u.ask.a v).bind fun u => (u.setReg 3 flag).map fun u => S2.put w u

def PM.close (p : PPlan) (S : PM) : Option PM :=
 S.now.bind fun t =>
  match t.frames with
  | [] => none
  | f :: r =>
   let t := { t with frames := r }
   let S1 := S.put S.run t
   match r with
   | [] => S1.finish f.way f.num
   | up :: r' =>
    if f.op = 13 then
     if f.way = 3 then some (S1.put S.run { t with frames := { up with way := 3 } :: r' })
     else if f.way = 2 ∧ up.way = 3 then some (S1.put S.run { t with drops := true, drop := f.num })
     else if f.way = 2 then some (S1.put S.run { t with frames := { up with way := 2, num := f.num } :: r' })
     else some S1
    else if f.way = 0 ∧ f.op = 14 then S1.look p S.run f.hd
    else if f.way = 0 then some S1
    else if f.way = 2 ∧ f.op = 11 then
     (S1.tell 4 0 f.num).bind fun S2 => (idx S2.tasks S.run).bind fun t => (t.steps p).bind fun l => (idx l f.hd).bind fun x => (t.setReg x.a f.num).map fun t => S2.put S.run t
    else some (S1.put S.run { t with frames := { up with leaving := true, way := f.way, num := f.num } :: r' })

def PM.leave (p : PPlan) (S : PM) : Option PM :=
 S.now.bind fun t =>
  match t.frames with
  | [] => none
  | f :: r =>
   match f.met with
   | [] => S.close p
   | hd :: met =>
    if S.tick.1 = false then some S.tick.2 else
    if roomy ≤ met.length then none else
    let t := { t with frames := { f with met := met } :: r, begun := wr64 (t.begun + 1) }
    (t.steps p).bind fun l => (idx l hd).bind fun x => (t.push (block 13 hd x.size)).map fun t => S.tick.2.put S.run t

/-- The task that a step speaks of: its number. -/
def PM.other (S : PM) (n : Int) : Bool := decide (0 ≤ n) && decide (n < S.tasks.length)

/-- The first task that waits for k's end: whom k waits for. -/
def waits (k : Int) : List PTk → Nat → Option Nat
 | [], _ => none
 | t :: l, j => if t.waiter = k ∧ t.state ≠ 4 then some j else waits k l (j + 1)

/-- A ring is told, from k on; 'fuel' bounds its length. -/
def PM.ringing : Nat → PM → Int → List Int → Option (PM × List Int)
 | 0, _, _, _ => none
 | n + 1, S, k, l =>
  if l.length < roomy then
   (S.tell 5 0 k).bind fun S =>
    if k = S.run then some (S, l ++ [k])
    else PM.ringing n S (match waits k S.tasks 0 with | some j => j | none => k) (l ++ [k])
  else none

def PM.may (S : PM) (n : Int) : Option (Bool × PM) :=
 if S.other n = false then (S.fail (-12)).map fun S => (false, S) else
 (idx S.tasks n).bind fun u =>
  if u.state = 0 ∨ u.state = 1 then some (true, S)
  else if u.state ≠ 4 then
   (PM.ringing (S.tasks.length + 1) S n []).bind fun x =>
    if x.1.rings.length < roomy then (PM.fail { x.1 with rings := x.1.rings ++ [⟨S.recs.length, x.2⟩] } (-10)).map fun S => (false, S) else none
  else (S.fail (-10)).map fun S => (false, S)

def PM.resume (p : PPlan) (S : PM) (x : PStep) : Option PM :=
 S.now.bind fun t => (t.reg x.b).bind fun n => (S.may n).bind fun y =>
  if y.1 = false then some y.2 else
  (idx y.2.tasks S.run).bind fun t => (t.reg x.a).bind fun v => (idx y.2.tasks n).bind fun u =>
   let S1 := y.2.put S.run { t with state := 3, ask := x }
   (idx S1.tasks n).bind fun u1 =>
    (PM.turn (S1.put n { u1 with waiter := S.run }) n 1).bind fun S2 =>
     if u.state = 0 then (S2.start p n).bind fun S3 => (idx S3.tasks n).bind fun u => (u.setReg 0 v).map fun u => S3.put n u
     else (idx S2.tasks n).bind fun u => (u.setReg u.ask.a v).map fun u => S2.put n u

def PM.yield (S : PM) (x : PStep) : Option PM :=
 S.now.bind fun t =>
  if S.run = 0 ∨ t.given = true then S.fail (-10) else
  (t.reg x.a).bind fun v =>
   (PM.turn (S.put S.run { t with state := 1, ask := x, waiter := -1 }) t.waiter 2).bind fun S1 =>
    (idx S1.tasks t.waiter).bind fun u => (u.setReg u.ask.a v).bind fun u => (u.setReg 3 1).map fun u => S1.put t.waiter u

def PM.giveUp (S : PM) (x : PStep) : Option PM :=
 S.now.bind fun t => (t.reg x.b).bind fun n => (S.may n).bind fun y =>
  if y.1 = false then some y.2 else
  (idx y.2.tasks n).bind fun u =>
   if u.state = 0 then
    let S1 := y.2.put n { u with state := 4 }
    (idx S1.tasks S.run).bind fun t => (t.setReg x.a 0).bind fun t => (t.setReg 3 1).map fun t => S1.put S.run t
   else
    (idx y.2.tasks S.run).bind fun t =>
     let S1 := y.2.put S.run { t with state := 3, ask := x }
     (idx S1.tasks n).bind fun u => ({ u with waiter := S.run, given := true } : PTk).onTop (fun f => { f with leaving := true, way := 3 }) |>.bind fun u =>
      PM.turn (S1.put n u) n 5

/-- What a step does; 'hd' is its place. -/
def PM.act (p : PPlan) (S : PM) (t : PTk) (f : PFr) (r : List PFr) (x : PStep) (hd : Int) : Option PM :=
 if x.op = 1 then (t.setReg x.a x.n).map fun t => S.put S.run t
 else if x.op = 2 then (t.reg x.b).bind fun v => (t.setReg x.a (wr64 (v + x.n))).map fun t => S.put S.run t
 else if x.op = 3 then (t.reg x.a).bind fun v => S.tell 1 0 v
 else if x.op = 4 then
  if S.tasks.length = 60 then S.fail (-10)
  else (S.create x.b).bind fun S1 => (t.setReg x.a (wr64 S.tasks.length)).map fun t => S1.put S.run t
 else if x.op = 5 then S.resume p x
 else if x.op = 6 then S.yield x
 else if x.op = 7 then S.giveUp x
 else if x.op = 8 then
  (t.reg x.b).bind fun n => if S.other n = true then (idx S.tasks n).bind fun u => (t.setReg x.a u.state).map fun t => S.put S.run t else S.fail (-12)
 else if x.op = 9 then (t.reg x.a).bind fun v => S.fail v
 else if x.op = 10 then (t.reg x.a).map fun v => S.put S.run { t with frames := { f with leaving := true, way := 1, num := v } :: r }
 else if x.op = 13 then
  if f.met.length < roomy then some (S.put S.run { t with frames := { f with met := hd :: f.met } :: r, kept := wr64 (t.kept + 1) }) else none
 else if x.op = 14 then S.look p S.run hd
 else if x.op = 11 ∨ x.op = 12 then (t.push (block x.op hd x.size)).map fun t => S.put S.run t
 else if x.op = 15 then (t.reg x.a).bind fun v => if v ≠ 0 then (t.push (block x.op hd x.size)).map fun t => S.put S.run t else some S
 else some S

/-- One step of a run. -/
def PM.step (p : PPlan) (S : PM) : Option PM :=
 S.now.bind fun t =>
  match t.frames with
  | [] => none
  | f :: r =>
   if f.leaving = true then S.leave p
   else if f.pc = f.fin then (S.put S.run { t with frames := { f with leaving := true } :: r }).leave p
   else
    (t.steps p).bind fun l => (idx l f.pc).bind fun x =>
     if x.op = 14 then
      PM.act p (S.put S.run { t with frames := { f with pc := wr64 (f.pc + wr64 (1 + x.size)) } :: r }) { t with frames := { f with pc := wr64 (f.pc + wr64 (1 + x.size)) } :: r }
       { f with pc := wr64 (f.pc + wr64 (1 + x.size)) } r x f.pc
     else if S.tick.1 = false then some S.tick.2
     else
      PM.act p (S.tick.2.put S.run { t with frames := { f with pc := wr64 (f.pc + wr64 (1 + x.size)) } :: r }) { t with frames := { f with pc := wr64 (f.pc + wr64 (1 + x.size)) } :: r }
       { f with pc := wr64 (f.pc + wr64 (1 + x.size)) } r x f.pc

/-- The machine before its first step. -/
def PM.fresh (p : PPlan) (ticks : Int) (hook : Option PHk) : Option PM :=
 (PM.create ⟨ticks, 0, [], 0, 0, [], 0, 0, [], false, hook, []⟩ 0).bind fun S => (S.start p 0).bind fun S => (idx S.tasks 0).map fun t => S.put 0 { t with state := 2 }

def PM.runs (p : PPlan) : Nat → PM → Option PM
 | 0, _ => none
 | n + 1, S => if S.over = true then some S else if S.tasks.length < roomy then (S.step p).bind (PM.runs p n) else none

def PM.done (S : PM) : PM := { S with ticks := S.used, states := S.states ++ S.tasks.map (·.state) }
end Go.Proofs.Ytibmnlijoeppaaa
