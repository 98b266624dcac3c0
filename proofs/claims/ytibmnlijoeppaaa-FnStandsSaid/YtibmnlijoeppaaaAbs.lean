/-
 The abstract machine: cells, memory, resolved operations and their meaning, and the translation of the program's code into resolved operations. Definitions alone; nothing is proved here.
-/
import Derived.Test.YtibmnlijoeppaaaProg
import Derived.Orders
namespace Go.Proofs.Ytibmnlijoeppaaa

/-- One cell of memory, with addresses by abstract block numbers. -/
inductive Cell where
 | bool (b : Bool)
 | int (k : IntKind) (n : Int)
 | ptr (a : Option (Nat × Nat))
 | slc (a : Option (Nat × Nat)) (len cap : Nat)
 | fn (f : Nat) (caps : List (Nat × Nat))
 | nilfn
 deriving DecidableEq, Repr, Inhabited

/-- The value of a slot. -/
inductive AV where
 | c (x : Cell)
 | agg (l : List Cell)
 | tup (l : List Cell)
 deriving DecidableEq, Repr, Inhabited

abbrev AV.undef : AV := .tup []

structure AObj where
 cells : List Cell
 esz : Nat
 ro : Bool
 deriving Inhabited

structure Mem where
 obj : Nat → Option AObj
 next : Nat

abbrev Fr := Nat → AV
def Fr.set (fr : Fr) (d : Nat) (v : AV) : Fr := fun t => if t = d then v else fr t
def Fr.put (fr : Fr) (d : Option Nat) (v : AV) : Fr := match d with | some d => fr.set d v | none => fr

inductive Opd where
 | t (n : Nat)
 | k (c : Cell)
 deriving DecidableEq, Repr, Inhabited

def Opd.ev (fr : Fr) : Opd → AV
 | .t n => fr n
 | .k c => .c c

/-- What '==' compares: bools, a pointer and nil, a function and nil, structs of so many ints. -/
inductive EqK where | bool | ptr | fn | ints (n : Nat)
 deriving DecidableEq, Repr, Inhabited

inductive ROp where
 | mv (x : Opd)
 | pick (c a b : Opd)
 | ld (n : Option Nat) (a : Opd)
 | st (a x : Opd) (n : Nat)
 | nc (x : Opd)
 | fa (x : Opd) (off : Nat)
 | ias (x i : Opd) (sz : Nat)
 | iaa (x i : Opd) (len sz : Nat)
 | bin (op : BinOp) (x y : Opd)
 | eq (neg : Bool) (k : EqK) (x y : Opd)
 | nt (x : Opd)
 | cv (k : IntKind) (x : Opd)
 | bld (zero : List Cell) (parts : List (Nat × Nat × Opd))
 | bsl (zero : List Cell) (len : Nat) (parts : List (Nat × Opd))
 | alc (zero : List Cell)
 | box (x : Opd) (n : Nat)
 | mks (zero : List Cell) (bytes : Nat) (l c : Opd)
 | slc (sz : Nat) (x : Opd) (lo hi : Option Opd)
 | sla (n : Nat) (x : Opd)
 | ext (x : Opd) (i : Nat)
 | fld (x : Opd) (off : Nat) (n : Option Nat)
 | len (x : Opd)
 | app (sz bytes : Nat) (s x : Opd)
 | call (f : Nat) (args : List Opd)
 | callv (f : Opd) (args : List Opd)
 | mkf (f : Nat) (caps : List Opd)
 deriving DecidableEq, Repr, Inhabited

/-- What is looked at again behind an operation that changes memory: an earlier load (its slot, its size, its address), or an earlier new variable (its slot, its zero). -/
inductive Re where
 | ld (d : Nat) (n : Option Nat) (a : Opd)
 | al (d : Nat) (zero : List Cell)
 deriving DecidableEq, Repr, Inhabited

structure RI where
 ix : Nat
 op : ROp
 dst : Option Nat
 guard : Option (Nat × Bool)
 re : List Re
 deriving DecidableEq, Repr, Inhabited

inductive RCode where
 | skip
 | reg (l : List RI)
 | seq (a b : RCode)
 | ite (c : Opd) (a b : RCode)
 | blk (id : Nat) (b : RCode)
 | loop (b : RCode)
 | exit (id : Nat)
 | ret
 deriving Repr, Inhabited

/-! ### Memory -/

def rd : List Cell → Nat → Nat → Option (List Cell)
 | _, _, 0 => some []
 | l, o, n + 1 => match l[o]? with
  | some c => (rd l (o + 1) n).map (c :: ·)
  | none => none

def wr : List Cell → Nat → List Cell → List Cell
 | l, _, [] => l
 | l, o, c :: cs => wr (l.set o c) (o + 1) cs

def AV.cells : AV → List Cell
 | .c x => [x]
 | .agg l => l
 | .tup _ => []

def AV.isTup : AV → Bool
 | .tup _ => true
 | _ => false

def Mem.setObj (μ : Mem) (i : Nat) (o : Option AObj) : Mem := { μ with obj := fun j => if j = i then o else μ.obj j }

/-- What is not known of a row that is read alone. -/
def hole : Cell := .slc none 1 0
def clean (ro : Bool) (l : List Cell) : Bool := !ro || !l.contains hole

def Mem.ld (μ : Mem) (n : Option Nat) (i o : Nat) : Option AV :=
 match μ.obj i with
 | none => none
 | some ob => match n with
  | none => (ob.cells[o]?).bind fun c => bif clean ob.ro [c] then some (.c c) else none
  | some n => (rd ob.cells o n).bind fun l => bif clean ob.ro l then some (.agg l) else none

def Mem.st (μ : Mem) (i o : Nat) (cs : List Cell) : Option Mem :=
 match μ.obj i with
 | none => none
 | some ob => if ob.ro = false ∧ o + cs.length ≤ ob.cells.length then some (μ.setObj i (some { ob with cells := wr ob.cells o cs })) else none

def Mem.new (μ : Mem) (cs : List Cell) (esz : Nat) : Mem :=
 { obj := fun j => if j = μ.next then some { cells := cs, esz := esz, ro := false } else μ.obj j, next := μ.next + 1 }

/-- The bound on what grows. -/
def most : Nat := 1099511627776

/-! ### The operations' meaning -/

def abin (op : BinOp) (k : IntKind) (a b : Int) : Option Cell :=
 match op with
 | .add => some (.int k (k.wrap (a + b)))
 | .sub => some (.int k (k.wrap (a - b)))
 | .mul => some (.int k (k.wrap (a * b)))
 | .rem => if b = 0 then none else some (.int k (a.tmod b))
 | .shr => if b < 0 then none else some (.int k (a.fdiv (2 ^ (min b.toNat k.bits))))
 | .and => some (.int k (k.wrap ((BitVec.ofInt k.bits a &&& BitVec.ofInt k.bits b).toNat)))
 | .eql => some (.bool (a == b))
 | .neq => some (.bool (a != b))
 | .lss => some (.bool (decide (a < b)))
 | .leq => some (.bool (decide (a ≤ b)))
 | .gtr => some (.bool (decide (a > b)))
 | .geq => some (.bool (decide (a ≥ b)))
 | _ => none

def eqInts : List Cell → List Cell → Option Bool
 | [], [] => some true
 | .int k a :: xs, .int k' b :: ys => if k = k' then (if a = b then eqInts xs ys else some false) else none
 | _, _ => none

def aeq : EqK → AV → AV → Option Bool
 | .bool, .c (.bool a), .c (.bool b) => some (a == b)
 | .ptr, .c (.ptr none), .c (.ptr b) => some b.isNone
 | .ptr, .c (.ptr (some _)), .c (.ptr none) => some false
 | .fn, .c .nilfn, .c .nilfn => some true
 | .fn, .c (.fn _ _), .c .nilfn => some false
 | .ints n, .agg xs, .agg ys => if xs.length = n ∧ ys.length = n then eqInts xs ys else none
 | _, _, _ => none

def toCells : List AV → Option (List Cell)
 | [] => some []
 | .c x :: l => (toCells l).map (x :: ·)
 | _ :: _ => none

def toPlaces : List AV → Option (List (Nat × Nat))
 | [] => some []
 | .c (.ptr (some a)) :: l => (toPlaces l).map (a :: ·)
 | _ :: _ => none

def fillc (fr : Fr) : List Cell → List (Nat × Nat × Opd) → Option (List Cell)
 | cs, [] => some cs
 | cs, (o, n, x) :: l => if (x.ev fr).isTup = false ∧ (x.ev fr).cells.length = n ∧ o + n ≤ cs.length then fillc fr (wr cs o (x.ev fr).cells) l else none

def rep (zero : List Cell) : Nat → List Cell
 | 0 => []
 | n + 1 => zero ++ rep zero n

def aidx (x i : AV) (sz : Nat) : Option AV :=
 match x, i with
 | .c (.slc (some (b, o)) len _), .c (.int _ i) => if 0 ≤ i ∧ i < (len : Int) then some (.c (.ptr (some (b, o + i.toNat * sz)))) else none
 | _, _ => none

def aslc (sz : Nat) (x : AV) (lo hi : Option AV) : Option AV :=
 match x with
 | .c (.slc a len cap) =>
  if a = none ∧ cap ≠ 0 then none else
  match (match hi with | none => some len | some (.c (.int _ h)) => if 0 ≤ h ∧ h ≤ (cap : Int) then some h.toNat else none | _ => none) with
  | none => none
  | some h => match (match lo with | none => some 0 | some (.c (.int _ l)) => if 0 ≤ l ∧ l ≤ (h : Int) then some l.toNat else none | _ => none) with
   | none => none
   | some l => if l = 0 then some (.c (.slc a h cap)) else
    match a with
    | some (b, o) => if l < cap then some (.c (.slc (some (b, o + l * sz)) (h - l) (cap - l))) else none
    | none => none
 | _ => none

def aapp (sz bytes : Nat) (s x : AV) (μ : Mem) : Option (AV × Mem) :=
 match s, x with
 | .c (.slc a len cap), .c (.slc b n xc) =>
  match (match b with | none => (if xc = 0 then some [] else none) | some (i, o) => (match μ.obj i with | none => none | some ob => (rd ob.cells o (n * sz)).bind fun l => bif clean ob.ro l then some l else none)) with
  | none => none
  | some new =>
   if new.length = n * sz ∧ 0 < sz ∧ (len + n) * bytes ≤ most ∧ len + n ≤ most then
    match a with
    | none => if len = 0 ∧ cap = 0 then (if n = 0 then some (.c (.slc none 0 0), μ) else some (.c (.slc (some (μ.next, 0)) n n), μ.new new sz)) else none
    | some (i, o) =>
     if len + n ≤ cap then (μ.st i (o + len * sz) new).map fun μ' => (.c (.slc (some (i, o)) (len + n) cap), μ')
     else match μ.obj i with
      | none => none
      | some ob => if ob.ro = false ∧ o = 0 ∧ len = cap ∧ ob.cells.length = len * sz ∧ ob.esz = sz then
        some (.c (.slc (some (μ.next, 0)) (len + n) (len + n)), (μ.setObj i none).new (ob.cells ++ new) sz)
       else none
   else none
 | _, _ => none

def amks (zero : List Cell) (bytes : Nat) (l c : AV) (μ : Mem) : Option (AV × Mem) :=
 match l, c with
 | .c (.int .i64 l), .c (.int .i64 c) =>
  if 0 ≤ l ∧ l = c ∧ l ≤ (most : Int) ∧ (bytes : Int) * l ≤ (most : Int) then some (.c (.slc (some (μ.next, 0)) l.toNat l.toNat), μ.new (rep zero l.toNat) zero.length) else none
 | _, _ => none

abbrev CallT := Nat → List AV → Mem → Option (AV × Mem)

def aop (call : CallT) (r : ROp) (fr : Fr) (μ : Mem) : Option (AV × Mem) :=
 match r with
 | .mv x => some (x.ev fr, μ)
 | .pick c a b => match c.ev fr with
  | .c (.bool t) => some (bif t then a.ev fr else b.ev fr, μ)
  | _ => none
 | .ld n a => match a.ev fr with
  | .c (.ptr (some (i, o))) => (μ.ld n i o).map fun v => (v, μ)
  | _ => none
 | .st a x n => match a.ev fr with
  | .c (.ptr (some (i, o))) => if (x.ev fr).isTup = false ∧ (x.ev fr).cells.length = n then (μ.st i o (x.ev fr).cells).map fun μ' => (.undef, μ') else none
  | _ => none
 | .nc x => match x.ev fr with
  | .c (.ptr (some a)) => some (.c (.ptr (some a)), μ)
  | _ => none
 | .fa x off => match x.ev fr with
  | .c (.ptr (some (i, o))) => some (.c (.ptr (some (i, o + off))), μ)
  | _ => none
 | .ias x i sz => (aidx (x.ev fr) (i.ev fr) sz).map fun v => (v, μ)
 | .iaa x i len sz => match x.ev fr, i.ev fr with
  | .c (.ptr (some (b, o))), .c (.int _ i) => if 0 ≤ i ∧ i < (len : Int) then some (.c (.ptr (some (b, o + i.toNat * sz))), μ) else none
  | _, _ => none
 | .bin op x y => match x.ev fr, y.ev fr with
  | .c (.int k a), .c (.int k' b) => if k = k' ∨ op = .shr then (abin op k a b).map fun v => (.c v, μ) else none
  | _, _ => none
 | .eq neg n x y => (aeq n (x.ev fr) (y.ev fr)).map fun b => (.c (.bool (bif neg then !b else b)), μ)
 | .nt x => match x.ev fr with
  | .c (.bool b) => some (.c (.bool (!b)), μ)
  | _ => none
 | .cv k x => match x.ev fr with
  | .c (.int _ n) => some (.c (.int k (k.wrap n)), μ)
  | _ => none
 | .bld zero parts => (fillc fr zero parts).map fun l => (.agg l, μ)
 | .bsl zero len parts => (fillc fr (rep zero len) (parts.map fun p => (p.1 * zero.length, zero.length, p.2))).map fun l => (.c (.slc (some (μ.next, 0)) len len), μ.new l zero.length)
 | .alc zero => some (.c (.ptr (some (μ.next, 0))), μ.new zero 0)
 | .box x n => if (x.ev fr).isTup = false ∧ (x.ev fr).cells.length = n then some (.c (.ptr (some (μ.next, 0))), μ.new (x.ev fr).cells 0) else none
 | .mks zero bytes l c => amks zero bytes (l.ev fr) (c.ev fr) μ
 | .slc sz x lo hi => (aslc sz (x.ev fr) (lo.map (Opd.ev fr)) (hi.map (Opd.ev fr))).map fun v => (v, μ)
 | .sla n x => match x.ev fr with
  | .c (.ptr (some a)) => match μ.obj a.1 with
   | some ob => if ob.esz = 0 then some (.c (.slc (some a) n n), μ) else none
   | none => none
  | _ => none
 | .ext x i => match x.ev fr with
  | .tup l => (l[i]?).map fun c => (.c c, μ)
  | _ => none
 | .fld x off n => match x.ev fr with
  | .agg l => match n with
   | none => (l[off]?).map fun c => (.c c, μ)
   | some n => (rd l off n).map fun l => (.agg l, μ)
  | _ => none
 | .len x => match x.ev fr with
  | .c (.slc _ n _) => some (.c (.int .i64 n), μ)
  | _ => none
 | .app sz bytes s x => aapp sz bytes (s.ev fr) (x.ev fr) μ
 | .call f args => call f (args.map (Opd.ev fr)) μ
 | .callv f args => match f.ev fr with
  | .c (.fn f caps) => call f (args.map (Opd.ev fr) ++ caps.map fun a => .c (.ptr (some a))) μ
  | _ => none
 | .mkf f caps => (toPlaces (caps.map (Opd.ev fr))).map fun l => (.c (.fn f l), μ)

def awanted (g : Option (Nat × Bool)) (fr : Fr) : Bool :=
 match g with
 | none => true
 | some (d, want) => match fr d with
  | .c (.bool b) => b == want
  | _ => false

def Re.holds (r : Re) (fr : Fr) (μ : Mem) : Bool :=
 match r with
 | .ld d n a => match a.ev fr with
  | .c (.ptr (some (i, o))) => μ.ld n i o == some (fr d)
  | _ => false
 | .al d zero => match fr d with
  | .c (.ptr (some (i, 0))) => μ.ld (some zero.length) i 0 == some (.agg zero) && (match μ.obj i with | some ob => ob.cells.length == zero.length && ob.esz == 0 && !ob.ro | none => false)
  | _ => false

/-- One operation of a region. -/
def aRI (call : CallT) (r : RI) (fr : Fr) (μ : Mem) : Option (Fr × Mem) :=
 bif awanted r.guard fr then
  match aop call r.op fr μ with
  | none => none
  | some (v, μ') => bif r.re.all fun x => x.holds fr μ' then some (fr.put r.dst v, μ') else none
 else some (fr.put r.dst .undef, μ)

def aReg (call : CallT) : List RI → Fr → Mem → Option (Fr × Mem)
 | [], fr, μ => some (fr, μ)
 | r :: l, fr, μ => match aRI call r fr μ with
  | none => none
  | some (fr', μ') => aReg call l fr' μ'

inductive Out where
 | normal
 | exit (id : Nat)
 | ret
 deriving DecidableEq, Repr, Inhabited

/-- The code's meaning: 'k' bounds the depth of loops. -/
def aCode (call : CallT) : Nat → RCode → Fr → Mem → Option (Out × Fr × Mem)
 | 0, _, _, _ => none
 | _ + 1, .skip, fr, μ => some (.normal, fr, μ)
 | _ + 1, .reg l, fr, μ => (aReg call l fr μ).map fun p => (.normal, p.1, p.2)
 | k + 1, .seq a b, fr, μ => match aCode call k a fr μ with
  | none => none
  | some (.normal, fr', μ') => aCode call k b fr' μ'
  | some r => some r
 | k + 1, .ite c a b, fr, μ => match c.ev fr with
  | .c (.bool t) => bif t then aCode call k a fr μ else aCode call k b fr μ
  | _ => none
 | k + 1, .blk id b, fr, μ => match aCode call k b fr μ with
  | none => none
  | some (.exit i, fr', μ') => some (if i = id then .normal else .exit i, fr', μ')
  | some r => some r
 | k + 1, .loop b, fr, μ => match aCode call k b fr μ with
  | none => none
  | some (.normal, fr', μ') => aCode call k (.loop b) fr' μ'
  | some r => some r
 | _ + 1, .exit id, fr, μ => some (.exit id, fr, μ)
 | _ + 1, .ret, fr, μ => some (.ret, fr, μ)

inductive RRes where
 | tmp (t : Nat)
 | cell (t : Nat) (n : Option Nat)
 deriving DecidableEq, Repr, Inhabited

structure RFun where
 ntmps : Nat
 res : List RRes
 body : RCode
 deriving Repr, Inhabited

def aRes1 (fr : Fr) (μ : Mem) : RRes → Option AV
 | .tmp t => some (fr t)
 | .cell t n => match fr t with
  | .c (.ptr (some (i, o))) => μ.ld n i o
  | _ => none

def aRes (fr : Fr) (μ : Mem) : List RRes → Option (List AV)
 | [] => some []
 | r :: l => match aRes1 fr μ r, aRes fr μ l with
  | some v, some vs => some (v :: vs)
  | _, _ => none

def aRet (fr : Fr) (μ : Mem) (l : List RRes) : Option AV :=
 match aRes fr μ l with
 | some [v] => some v
 | some vs => (toCells vs).map .tup
 | none => none

def frOf : List AV → Fr
 | l => fun t => match l[t]? with | some v => v | none => .undef

/-- A call: 'k' bounds the depth of calls and of loops. -/
def acall (prog : Nat → Option RFun) : Nat → CallT
 | 0, _, _, _ => none
 | k + 1, f, args, μ => match prog f with
  | none => none
  | some rf =>
   if args.length ≤ rf.ntmps then
    match aCode (acall prog k) k rf.body (frOf args) μ with
    | some (.exit _, _, _) => none
    | some (_, fr', μ') => (aRet fr' μ' rf.res).map fun v => (v, μ')
    | none => none
   else none

/-! ### The translation -/

def ofCell : Cell → Value
 | .bool b => .bool b
 | .int k n => .int k n
 | .ptr _ => .pointer none
 | .slc _ _ _ => .slice none 0 0
 | .fn _ _ => .nilFunc
 | .nilfn => .nilFunc

def toCell : Value → Option Cell
 | .bool b => some (.bool b)
 | .int k n => some (.int k n)
 | .pointer none => some (.ptr none)
 | .slice none 0 0 => some (.slc none 0 0)
 | .nilFunc => some .nilfn
 | _ => none

def toCellL : List Value → Option (List Cell)
 | [] => some []
 | v :: l => match toCell v, toCellL l with
  | some c, some cs => some (c :: cs)
  | _, _ => none

def opd : Operand → Option Opd
 | .tmp t => some (.t t)
 | .const v => (toCell v).map .k
 | _ => none

def opds : List Operand → Option (List Opd)
 | [] => some []
 | x :: l => match opd x, opds l with
  | some y, some ys => some (y :: ys)
  | _, _ => none

/-- How a variable of a type is loaded: one cell, or so many. -/
def ldN (P : Program) (t : TypeId) : Option (Option Nat) :=
 match P.underlying t, P.info? t with
 | some (.struct _), some i => some (some i.size)
 | some (.array _ _), some i => some (some i.size)
 | some _, some _ => some none
 | _, _ => none

def szN (P : Program) (t : TypeId) : Option Nat := (P.info? t).map (·.size)

def zeroN (P : Program) (t : TypeId) : Option (List Cell) :=
 match P.info? t with
 | some i => match i.zero with
  | some v => match toCellL v.cells.toList with
   | some l => if l.length = i.size ∧ 0 < l.length then some l else none
   | none => none
  | none => none
 | none => none

def fieldN (P : Program) (t : TypeId) (f : Nat) : Option Field :=
 match P.underlying t with
 | some (.struct fs) => fs[f]?
 | _ => none

def partsN (P : Program) (t : TypeId) : List (Nat × Operand) → Option (List (Nat × Nat × Opd))
 | [] => some []
 | (i, x) :: l => match fieldN P t i, opd x, partsN P t l with
  | some f, some y, some ys => (szN P f.type).map fun n => (f.offset, n, y) :: ys
  | _, _, _ => none

def partsS : List (Nat × Operand) → Option (List (Nat × Opd))
 | [] => some []
 | (i, x) :: l => match opd x, partsS l with
  | some y, some ys => some ((i, y) :: ys)
  | _, _ => none

def intField (P : Program) (f : Field) (k : Nat) : Bool :=
 f.offset == k && f.name != "_" && (match P.underlying f.type with | some (.int _) => true | _ => false)

def intFields (P : Program) : List Field → Nat → Bool
 | [], _ => true
 | f :: l, k => intField P f k && intFields P l (k + 1)

/-- Types whose values '==' compares here. -/
def eqN (P : Program) (t : TypeId) : Option EqK :=
 match P.underlying t with
 | some .bool => some .bool
 | some (.pointer _) => some .ptr
 | some (.func _ _ _) => some .fn
 | some (.struct fs) => if intFields P fs.toList 0 && !P.stoodInHeld t && !P.eqGuardType P.depth t then some (.ints fs.size) else none
 | _ => none

def goFn (P : Program) (f : FuncId) : Bool :=
 match P.funcs[f]? with
 | some fn => fn.name != "runtime.NumGoroutine" && fn.body.isSome
 | none => false

def ropCall (P : Program) (c : Call) : Option ROp :=
 match c.callee with
 | .builtin .len => match c.args.toList, c.argTypes.toList with
  | [x], [t] => match P.underlying t, opd x with
   | some (.slice _), some x => some (.len x)
   | _, _ => none
  | _, _ => none
 | .builtin .append => match c.args.toList, c.argTypes.toList with
  | [s, x], [t, u] => match P.underlying t, P.underlying u, opd s, opd x with
   | some (.slice e), some (.slice _), some s, some x => match zeroN P e, P.info? e with
    | some z, some i => some (.app z.length i.bytes s x)
    | _, _ => none
   | _, _, _, _ => none
  | _, _ => none
 | .value (.func f) => if goFn P f then (opds c.args.toList).map fun l => .call f l else none
 | .value x => match opd x, opds c.args.toList with
  | some x, some l => some (.callv x l)
  | _, _ => none
 | _ => none

def rop (P : Program) : Op → Option ROp
 | .move x => (opd x).map .mv
 | .assign x => (opd x).map .mv
 | .pick c a b => match opd c, opd a, opd b with
  | some c, some a, some b => some (.pick c a b)
  | _, _, _ => none
 | .load t a => match ldN P t, opd a with
  | some n, some a => some (.ld n a)
  | _, _ => none
 | .store t a x => match szN P t, opd a, opd x with
  | some n, some a, some x => some (.st a x n)
  | _, _, _ => none
 | .nilCheck x => (opd x).map .nc
 | .fieldAddr s x f => match fieldN P s f, opd x with
  | some f, some x => match szN P f.type with
   | some n => if n = 0 then none else some (.fa x f.offset)
   | none => none
  | _, _ => none
 | .indexAddr t x i => match opd x, opd i, P.underlying t with
  | some x, some i, some (.slice e) => (szN P e).map fun n => .ias x i n
  | some x, some i, some (.array len e) => (szN P e).map fun n => .iaa x i len n
  | _, _, _ => none
 | .binOp op t x y _ => match opd x, opd y, P.underlying t with
  | some x, some y, some (.int _) => some (.bin op x y)
  | some x, some y, some _ => match op, eqN P t with
   | .eql, some n => some (.eq false n x y)
   | .neq, some n => some (.eq true n x y)
   | _, _ => none
  | _, _, _ => none
 | .unOp .not _ x => (opd x).map .nt
 | .convert src dst x => match P.underlying src, P.underlying dst, opd x with
  | some (.int _), some (.int k), some x => some (.cv k x)
  | _, _, _ => none
 | .build t ps => match P.underlying t, zeroN P t, partsN P t ps.toList with
  | some (.struct fs), some z, some l => if fs.toList.all fun f => (szN P f.type).isSome then some (.bld z l) else none
  | _, _, _ => none
 | .buildSlice t len ps => match P.underlying t with
  | some (.slice e) => match zeroN P e, partsS ps.toList with
   | some z, some l => if len * z.length ≤ 16777216 ∧ 0 < z.length then some (.bsl z len l) else none
   | _, _ => none
  | _ => none
 | .alloc t => (zeroN P t).map .alc
 | .box t x => match szN P t, opd x with
  | some n, some x => some (.box x n)
  | _, _ => none
 | .makeSlice t l c => match P.underlying t with
  | some (.slice e) => match zeroN P e, P.info? e, opd l, opd c with
   | some z, some i, some l, some c => some (.mks z i.bytes l c)
   | _, _, _, _ => none
  | _ => none
 | .slice t x lo hi none => match P.underlying t, opd x with
  | some (.slice e), some x => match szN P e with
   | some n => match (match lo with | none => some none | some o => (opd o).map some), (match hi with | none => some none | some o => (opd o).map some) with
    | some lo, some hi => some (.slc n x lo hi)
    | _, _ => none
   | none => none
  | some (.array n e), some x => match szN P e, lo, hi with
   | some _, none, none => some (.sla n x)
   | _, _, _ => none
  | _, _ => none
 | .extract x i => (opd x).map fun x => .ext x i
 | .field t x f => match fieldN P t f, opd x with
  | some f, some x => (ldN P f.type).map fun n => .fld x f.offset n
  | _, _ => none
 | .call c => ropCall P c
 | .makeFunc fn first caps => match fn with
  | .func f => if goFn P f = true ∧ first.size = 0 then (opds caps.toList).map fun l => .mkf f l else none
  | _ => none
 | _ => none

/-- What an operation has to do with memory: nothing, it reads, it changes it, it makes new memory, it makes a new variable of zeros. -/
inductive Kd where | p | l | m | n | a
 deriving DecidableEq, Repr

def ROp.kd : ROp → Kd
 | .ld _ _ => .l
 | .st _ _ _ | .app _ _ _ _ | .call _ _ | .callv _ _ => .m
 | .bsl _ _ _ | .box _ _ | .mks _ _ _ _ => .n
 | .sla _ _ => .l
 | .alc _ => .a
 | _ => .p

def Opd.slots : Opd → List Nat
 | .t n => [n]
 | .k _ => []

def ROp.opds : ROp → List Opd
 | .mv x | .ld _ x | .nc x | .fa x _ | .nt x | .cv _ x | .box x _ | .sla _ x | .ext x _ | .fld x _ _ | .len x => [x]
 | .pick a b c => [a, b, c]
 | .st a x _ | .ias a x _ | .iaa a x _ _ | .bin _ a x | .eq _ _ a x | .mks _ _ a x | .app _ _ a x => [a, x]
 | .bld _ l => l.map fun p => p.2.2
 | .bsl _ _ l => l.map fun p => p.2
 | .alc _ => []
 | .slc _ x lo hi => x :: (lo.toList ++ hi.toList)
 | .call _ l | .mkf _ l => l
 | .callv x l => x :: l

/-- The slots that an operation looks at. -/
def RI.looks (r : RI) : List Nat := (r.op.opds.flatMap Opd.slots) ++ (match r.guard with | some (d, _) => [d] | none => [])

def dstOk (d : Option Nat) (n : Nat) : Bool := match d with | some d => decide (d < n) | none => true

/-- One operation, without what is looked at again. -/
def ri0 (P : Program) (ops : Array Oper) (ntmps : Nat) (i : Nat) : Option RI :=
 match ops[i]? with
 | none => none
 | some o => match rop P o.op with
  | none => none
  | some r =>
   if dstOk o.dst ntmps = true then
    match o.guard with
    | none => some { ix := i, op := r, dst := o.dst, guard := none, re := [] }
    | some (j, w) => match (ops[j]?).bind (·.dst) with
     | some d => some { ix := i, op := r, dst := o.dst, guard := some (d, w), re := [] }
     | none => none
   else none

def ri0s (P : Program) (ops : Array Oper) (ntmps : Nat) : List Nat → Option (List RI)
 | [] => some []
 | i :: l => match ri0 P ops ntmps i, ri0s P ops ntmps l with
  | some r, some rs => some (r :: rs)
  | _, _ => none

/-- The edges that bind whatever way the order is drawn, by places in the list. -/
def posOf : List RI → Nat → Nat → Nat
 | [], _, _ => 0
 | r :: l, i, k => if r.ix = i then k else posOf l i (k + 1)

def edgesOf (ops : Array Oper) (i : Nat) : List Nat :=
 match ops[i]? with
 | some o => (o.after.toList.filter (Region.binds .any)).map (·.on)
 | none => []

/-- For each place of the list: the places that every order has ahead of it. -/
def befs (ops : Array Oper) (l : List RI) : List RI → List (List Nat) → List (List Nat)
 | [], acc => acc
 | r :: rest, acc =>
  let ps := (edgesOf ops r.ix).map fun e => posOf l e 0
  befs ops l rest (acc ++ [(ps.flatMap fun p => p :: acc.getD p []).eraseDups])

def clash (a b : RI) : Bool :=
 (match a.dst with | some d => b.looks.contains d || b.dst == some d | none => false) ||
 (match b.dst with | some d => a.looks.contains d | none => false)

def writes (r : RI) (d : Nat) : Bool := r.dst == some d

/-- What has to be looked at again behind the operation 'b', for the earlier operation 'a' that may come up behind it. -/
def again (a b : RI) : Option Re :=
 if a.guard = none ∨ a.guard = b.guard then
  match a.op, a.dst with
  | .ld n x, some d => if x.slots.contains d then none else some (.ld d n x)
  | .alc z, some d => some (.al d z)
  | _, _ => none
 else none

def needsAgain (a b : RI) (bef : Bool) : Bool := !bef && b.op.kd == .m && (a.op.kd == .l || a.op.kd == .a)

def fillRe (l : List RI) (bs : List (List Nat)) (j : Nat) (r : RI) : RI :=
 { r with re := (List.range j).filterMap fun i => match l[i]? with
  | some a => if needsAgain a r ((bs.getD j []).contains i) then again a r else none
  | none => none }

/-- What is asked of two places i < j of the list. -/
def okPair (l : List RI) (bs : List (List Nat)) (i j : Nat) : Bool :=
 match l[i]?, l[j]? with
 | some a, some b =>
  let bef := (bs.getD j []).contains i
  a.ix != b.ix && (!(clash a b) || bef) &&
  (!((a.op.kd == .m || a.op.kd == .n) && b.op.kd != .p) || bef) &&
  (!(needsAgain a b bef) || (match again a b with
   | some x => b.re.contains x && (List.range j).all fun k => decide (k ≤ i) || (match l[k]? with
    | some c => !(((match x with | .ld d _ y => d :: y.slots | .al d _ => [d]) ++ (match a.guard with | some (g, _) => [g] | none => [])).any (writes c))
    | none => false)
   | none => false))
 | _, _ => false

def okOrder (ops : Array Oper) (l : List RI) (bs : List (List Nat)) : Bool :=
 l.length == ops.size &&
 (List.range ops.size).all (fun i => (l.map (·.ix)).contains i) &&
 (List.range l.length).all fun j => match l[j]? with
  | none => false
  | some r => (edgesOf ops r.ix).all (fun e => match l[posOf l e 0]? with | some s => s.ix == e && decide (posOf l e 0 < j) | none => false) &&
   (bs.getD j []).all (fun i => (edgesOf ops r.ix).any fun e => posOf l e 0 == i || (bs.getD (posOf l e 0) []).contains i) &&
   (List.range j).all fun i => okPair l bs i j

/-- An order: what is ready, new zero variables and what does not change memory first. -/
def prio : Kd → Nat
 | .a => 0
 | .p => 1
 | .l => 2
 | .n => 3
 | .m => 4

def pickNext (ops : Array Oper) (rs : List RI) (done : List Nat) : Option RI :=
 let ready := rs.filter fun r => !done.contains r.ix && (edgesOf ops r.ix).all done.contains
 ready.foldl (fun best r => match best with
  | none => some r
  | some b => if prio r.op.kd < prio b.op.kd then some r else some b) none

def orderOf (ops : Array Oper) (rs : List RI) : Nat → List Nat → List Nat
 | 0, done => done.reverse
 | k + 1, done => match pickNext ops rs done with
  | none => done.reverse
  | some r => orderOf ops rs k (r.ix :: done)

def rregL (P : Program) (ops : Array Oper) (ntmps : Nat) (draw : Bool) : Option (List RI) :=
 match ri0s P ops ntmps (List.range ops.size) with
 | none => none
 | some rs =>
  if draw = false then some rs else
  match ri0s P ops ntmps (orderOf ops rs ops.size []) with
  | none => none
  | some l =>
   let bs := befs ops l l []
   let l' := l.zipIdx.map fun p => fillRe l bs p.2 p.1
   if okOrder ops l' bs then some l' else none

def rcode (P : Program) (ntmps : Nat) : Code → Option RCode
 | .skip => some .skip
 | .region _ ops draw => (rregL P ops ntmps draw).map .reg
 | .seq a b => match rcode P ntmps a, rcode P ntmps b with
  | some a, some b => some (.seq a b)
  | _, _ => none
 | .cond c a b => match opd c, rcode P ntmps a, rcode P ntmps b with
  | some c, some a, some b => some (.ite c a b)
  | _, _, _ => none
 | .block id b => (rcode P ntmps b).map (.blk id)
 | .loop b => (rcode P ntmps b).map .loop
 | .exit id => some (.exit id)
 | .ret => some .ret
 | _ => none

def rres (P : Program) : List ResultVar → Option (List RRes)
 | [] => some []
 | .tmp t :: l => (rres P l).map (.tmp t :: ·)
 | .cell t ty :: l => match ldN P ty, rres P l with
  | some n, some rs => some (.cell t n :: rs)
  | _, _ => none

def rfun (P : Program) (fn : Func) : Option RFun :=
 match fn.body with
 | none => none
 | some c => match rcode P fn.ntmps c, rres P fn.results.toList with
  | some b, some r => if fn.name != "runtime.NumGoroutine" then some { ntmps := fn.ntmps, res := r, body := b } else none
  | _, _ => none

end Go.Proofs.Ytibmnlijoeppaaa
