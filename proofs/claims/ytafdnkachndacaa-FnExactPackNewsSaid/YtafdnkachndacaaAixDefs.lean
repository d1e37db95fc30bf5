/-
  THE CALCULUS, FIRST TEXT: what is known of a call's slots and memory (values by their content, memory of its own by name), and how each operation turns it.
-/
import Derived.Calls
set_option linter.unusedSimpArgs false
set_option linter.unusedVariables false
namespace Go.Aix

/-- Immutable values, read deep: a scalar, a nil slice, or a slice's elements (each a list of cells). 'un': nobody else holds it. 'dd': nothing known. -/
inductive PV where
  | sc (v : Value)
  | nl
  | dd
  | sl (un : Bool) (sz : Nat) (es : List (List PV))
  deriving Inhabited

/-- One cell: an immutable value; an address in a chunk (element i, cell j); a slice of a chunk (from element o on, n long); an address of immutable cells; a function with captured addresses; nothing known. -/
inductive Cell where
  | pv (p : PV)
  | ptr (c i j : Nat)
  | arr (c o n : Nat)
  | ep (cs : List PV)
  | fn (f : FuncId) (caps : List (Nat × Nat × Nat))
  | top
  deriving Inhabited

inductive AV where
  | one (c : Cell)
  | ag (cs : List Cell)
  | tp (vs : List (Bool × List Cell))
  deriving Inhabited

/-- What a call holds in memory of its own: a variable's cells, or an array's elements; or these with the cells of element i at hand. -/
inductive Chunk where
  | box (cs : List Cell)
  | row (sz : Nat) (es : List (List PV))
  | foc (sz : Nat) (es : List (List PV)) (i : Nat) (cs : List Cell)
  deriving Inhabited

abbrev Store := List (Nat × Chunk)

structure St where
  T : List (Nat × AV)
  σ : Store
  next : Nat
  deriving Inhabited

/-- All that is done with numbers, strings and lists of elements, behind names. -/
structure Ops where
  ar : BinOp → IntKind → Int → Int → Int
  cmp : BinOp → Int → Int → Bool
  conv : IntKind → Int → Int
  uno : UnOp → IntKind → Int → Int
  bnot : Bool → Bool
  beq : BinOp → Bool → Bool → Bool
  scat : ByteArray → ByteArray → ByteArray
  scmp : BinOp → ByteArray → ByteArray → Bool
  slen : ByteArray → Nat
  sget : ByteArray → Nat → Int
  sext : ByteArray → Nat → Nat → ByteArray
  inb : Int → Nat → Bool
  inle : Int → Nat → Bool
  nle : Nat → Nat → Bool
  neq : Nat → Nat → Bool
  tn : Int → Nat
  ofn : Nat → Int
  add : Nat → Nat → Nat
  sub : Nat → Nat → Nat
  len : List (List PV) → Nat
  nth : List (List PV) → Nat → Nat → PV
  ext : List (List PV) → Nat → Nat → List (List PV)
  app : List (List PV) → List (List PV) → List (List PV)
  set : List (List PV) → Nat → List PV → List (List PV)
  rep : Nat → List PV → List (List PV)
  downs : List (List PV) → List (List PV)
  deads : List (List PV) → List (List PV)
  isSh : Nat → PV → Bool
  isOne : PV → Bool
  isOwn : Nat → PV → Bool
  isNo : PV → Bool
  pur : List (List PV) → Bool
  isInt : IntKind → PV → Bool
  asInt : PV → Int
  isBool : PV → Bool
  asBool : PV → Bool
  isStr : PV → Bool
  asStr : PV → ByteArray
  isSl : Nat → PV → Bool
  els : PV → List (List PV)
  mn : Int → Int → Int
  mx : Int → Int → Int

/-- What is asked of a type. -/
inductive TyU where
  | slice (e : TypeId)
  | struct (fs : List (Nat × Nat × Bool))
  | str
  | int (k : IntKind)
  | bool
  | other
  deriving Inhabited
/-- What a cell of it is thought to hold: a hint, asked for when it is read out of an element. -/
inductive Kd where
  | int (k : IntKind)
  | bool
  | str
  | sl (sz : Nat)
  | other
  deriving Inhabited
structure TyI where
  agg : Bool
  size : Nat
  bytes : Nat
  zero : List Cell
  u : TyU
  kinds : List Kd
  deriving Inhabited
abbrev Ctx := TypeId → Option TyI

/-- A reckoning that may ask a Bool, and may demand one. -/
inductive R (α : Type) where
  | ok (a : α)
  | ask (b : Bool) (k : Bool → R α)
  | must (b : Bool) (k : R α)
  | stuck
def R.bind {α β : Type} : R α → (α → R β) → R β
  | .ok a, f => f a
  | .ask b k, f => .ask b fun t => (k t).bind f
  | .must b k, f => .must b (k.bind f)
  | .stuck, _ => .stuck
instance : Monad R where
  pure := R.ok
  bind := R.bind
/-- What it comes to. -/
def R.val {α : Type} : R α → Option α
  | .ok a => some a
  | .ask b k => (k b).val
  | .must b k => if b = true then k.val else none
  | .stuck => none
def R.of {α : Type} : Option α → R α
  | some a => .ok a
  | none => .stuck
def demand (b : Bool) : R Unit := .must b (.ok ())

def lk {α : Type} (k : Nat) : List (Nat × α) → Option α
  | [] => none
  | (j, a) :: r => match Nat.beq k j with
    | true => some a
    | false => lk k r
def put {α : Type} (k : Nat) (a : α) : List (Nat × α) → List (Nat × α)
  | [] => [(k, a)]
  | (j, b) :: r => match Nat.beq k j with
    | true => (k, a) :: r
    | false => (j, b) :: put k a r
def rm {α : Type} (k : Nat) : List (Nat × α) → List (Nat × α)
  | [] => []
  | (j, b) :: r => match Nat.beq k j with
    | true => rm k r
    | false => (j, b) :: rm k r

/-- A constant's cell. -/
def cellOf : Value → R Cell
  | .bool b => .ok (.pv (.sc (.bool b)))
  | .int k n => .ok (.pv (.sc (.int k n)))
  | .string s => .ok (.pv (.sc (.string s)))
  | .nilFunc => .ok (.pv (.sc .nilFunc))
  | .pointer a => match a with
    | none => .ok (.pv (.sc (.pointer none)))
    | some _ => .stuck
  | .slice a n m => match a, n, m with
    | none, 0, 0 => .ok (.pv .nl)
    | _, _, _ => .stuck
  | _ => .stuck
def cellsOf : List Value → R (List Cell)
  | [] => .ok []
  | v :: r => do
    let c ← cellOf v
    let cs ← cellsOf r
    .ok (c :: cs)
def avOf : Value → R AV
  | .agg cs => do
    let cs ← cellsOf cs.toList
    .ok (.ag cs)
  | v => do
    let c ← cellOf v
    .ok (.one c)
def AV.cells : AV → R (List Cell)
  | .one c => .ok [c]
  | .ag cs => .ok cs
  | .tp _ => .stuck
def mk (agg : Bool) (cs : List Cell) : R AV := match agg with
  | true => .ok (.ag cs)
  | false => match cs with
    | [c] => .ok (.one c)
    | _ => .stuck
def scal (v : Value) : AV := .one (.pv (.sc v))

section
variable (X : Ctx) (I : Ops)

def evalO (S : St) : Operand → R AV
  | .tmp t => .of (lk t S.T)
  | .const v => avOf v
  | .func f => .ok (.one (.fn f []))
  | .global _ => .stuck

/-- Nobody else's any more. -/
def dn : PV → PV
  | .sc v => .sc v
  | .nl => .nl
  | .dd => .dd
  | .sl _ sz es => .sl false sz (I.downs es)
def dnC : Cell → Cell
  | .pv p => .pv (dn I p)
  | c => c

/-- Chunk c is known no longer. -/
def killC (c : Nat) : Cell → Cell
  | .ptr d i j => match Nat.beq c d with
    | true => .top
    | false => .ptr d i j
  | .arr d o n => match Nat.beq c d with
    | true => .top
    | false => .arr d o n
  | .fn f caps => match caps.any (fun x => Nat.beq c x.1) with
    | true => .top
    | false => .fn f caps
  | x => x
def killA (c : Nat) : AV → AV
  | .one x => .one (killC c x)
  | .ag xs => .ag (xs.map (killC c))
  | .tp vs => .tp (vs.map fun v => (v.1, v.2.map (killC c)))
def killK (c : Nat) : Chunk → Chunk
  | .box cs => .box (cs.map (killC c))
  | .row sz es => .row sz es
  | .foc sz es i cs => .foc sz es i (cs.map (killC c))
/-- Chunk c goes, and all that leads to it. -/
def kill (c : Nat) (S : St) : St := ⟨S.T.map fun e => (e.1, killA c e.2), (rm c S.σ).map fun e => (e.1, killK c e.2), S.next⟩

/-- A cell becomes an element's: a slice of a chunk is given away with it. -/
def freeze (S : St) : Cell → R (PV × St)
  | .pv p => .ok (p, S)
  | .arr c 0 n => match lk c S.σ with
    | some (.row sz es) => .ok (.sl true sz (I.ext es 0 n), kill c S)
    | _ => .stuck
  | .top => .ok (.dd, S)
  | _ => .stuck
def freezes : St → List Cell → R (List PV × St)
  | S, [] => .ok ([], S)
  | S, c :: r => do
    let (p, S) ← freeze I S c
    let (ps, S) ← freezes S r
    .ok (p :: ps, S)

def setDst (S : St) (d : Option Tmp) (v : AV) : St := match d with
  | some t => ⟨put t v S.T, S.σ, S.next⟩
  | none => S

def arithA (op : BinOp) (k k' : IntKind) (a b : Int) : R Value := match decide (k = k') with
  | true => .ok (.int k (I.ar op k a b))
  | false => .stuck
def cmpA (op : BinOp) (k k' : IntKind) (a b : Int) : R Value := match decide (k = k') with
  | true => .ok (.bool (I.cmp op a b))
  | false => .stuck
def intA (op : BinOp) (k : IntKind) (a : Int) (k' : IntKind) (b : Int) : R Value := match op with
  | .add => arithA I .add k k' a b
  | .sub => arithA I .sub k k' a b
  | .mul => arithA I .mul k k' a b
  | .and => arithA I .and k k' a b
  | .or => arithA I .or k k' a b
  | .quo => do demand (I.cmp .neq b 0); arithA I .quo k k' a b
  | .rem => do demand (I.cmp .neq b 0); arithA I .rem k k' a b
  | .shl => do demand (I.cmp .geq b 0); .ok (.int k (I.ar .shl k a b))
  | .shr => do demand (I.cmp .geq b 0); .ok (.int k (I.ar .shr k a b))
  | .eql => cmpA I .eql k k' a b
  | .neq => cmpA I .neq k k' a b
  | .lss => cmpA I .lss k k' a b
  | .leq => cmpA I .leq k k' a b
  | .gtr => cmpA I .gtr k k' a b
  | .geq => cmpA I .geq k k' a b
  | _ => .stuck
def strA (op : BinOp) (a b : ByteArray) : R Value := match op with
  | .add => do demand (I.nle (I.add (I.slen a) (I.slen b)) 9223372036854775807); .ok (.string (I.scat a b))
  | .eql => .ok (.bool (I.scmp .eql a b))
  | .neq => .ok (.bool (I.scmp .neq a b))
  | .lss => .ok (.bool (I.scmp .lss a b))
  | _ => .stuck
def boolA (op : BinOp) (a b : Bool) : R Value := match op with
  | .eql => .ok (.bool (I.beq .eql a b))
  | .neq => .ok (.bool (I.beq .neq a b))
  | _ => .stuck
def binA (t : TypeId) (op : BinOp) (x y : Value) : R Value := match x with
  | .int k a => match y with
    | .int k' b => intA I op k a k' b
    | _ => .stuck
  | .string a => match y with
    | .string b => strA I op a b
    | _ => .stuck
  | .bool a => match y with
    | .bool b => match X t with
      | some i => match i.u with
        | .bool => boolA I op a b
        | _ => .stuck
      | none => .stuck
    | _ => .stuck
  | _ => .stuck

def unA (op : UnOp) (x : Value) : R Value := match op with
  | .neg => match x with
    | .int k n => .ok (.int k (I.ar .sub k 0 n))
    | _ => .stuck
  | .not => match x with
    | .bool b => .ok (.bool (I.bnot b))
    | _ => .stuck
  | _ => .stuck

/-- An element's cell, read as a cell of its kind. -/
def castP (k : Kd) (p : PV) : R Cell := match k with
  | .int k => .must (I.isInt k p) (.ok (.pv (.sc (.int k (I.asInt p)))))
  | .bool => .must (I.isBool p) (.ok (.pv (.sc (.bool (I.asBool p)))))
  | .str => .must (I.isStr p) (.ok (.pv (.sc (.string (I.asStr p)))))
  | .sl sz => .must (I.isSh sz p) (.ok (.pv (.sl false sz (I.els p))))
  | .other => .must (I.isOne p) (.ok (.pv p))
def castL : List Kd → List PV → R (List Cell)
  | [], ps => match ps with
    | [] => .ok []
    | p :: ps => do
      let c ← castP I .other p
      let cs ← castL [] ps
      .ok (c :: cs)
  | k :: ks, ps => match ps with
    | [] => .ok []
    | p :: ps => do
      let c ← castP I k p
      let cs ← castL ks ps
      .ok (c :: cs)

def loadA (S : St) (y : TyI) : AV → R AV
  | .one (.ptr c i j) => match lk c S.σ with
    | some (.box cs) => match Nat.ble (j + y.size) cs.length with
      | true => mk y.agg ((cs.drop j).take y.size)
      | false => .stuck
    | some (.row sz es) => match Nat.ble (j + y.size) sz with
      | true => do
        let cs ← castL I y.kinds ((List.range y.size).map fun q => I.nth es i (j + q))
        mk y.agg cs
      | false => .stuck
    | some (.foc _ _ i' cs) => match Nat.ble (j + y.size) cs.length with
      | true => .must (I.neq i i') (mk y.agg ((cs.drop j).take y.size))
      | false => .stuck
    | none => .stuck
  | .one (.ep cs) => match Nat.blt 0 y.size && Nat.ble y.size cs.length with
    | true => do
      let cs ← castL I y.kinds (cs.take y.size)
      mk y.agg cs
    | false => .stuck
  | _ => .stuck

def setAt {α : Type} : List α → Nat → List α → List α
  | cs, 0, vs => vs ++ cs.drop vs.length
  | c :: cs, j + 1, vs => c :: setAt cs j vs
  | [], _ + 1, _ => []

def storeA (S : St) (a : AV) (vs : List Cell) : R St := match a with
  | .one (.ptr c i j) => match lk c S.σ with
    | some (.box cs) => match Nat.ble (j + vs.length) cs.length with
      | true => .ok ⟨S.T, put c (.box (setAt cs j vs)) S.σ, S.next⟩
      | false => .stuck
    | some (.row _ _) => do
      let (ps, S) ← freezes I S vs
      match lk c S.σ with
      | some (.row sz es) => match Nat.ble (j + ps.length) sz with
        | true => .ok ⟨S.T, put c (.row sz (I.set es i (setAt ((List.range sz).map fun q => I.nth es i q) j ps))) S.σ, S.next⟩
        | false => .stuck
      | _ => .stuck
    | some (.foc sz es i' cs) => match Nat.ble (j + vs.length) cs.length with
      | true => .must (I.neq i i') (.ok ⟨S.T, put c (.foc sz es i' (setAt cs j vs)) S.σ, S.next⟩)
      | false => .stuck
    | none => .stuck
  | _ => .stuck

/-- Parts laid over zeros. -/
def fillA : List Cell → List (Nat × Nat × List Cell) → R (List Cell)
  | cs, [] => .ok cs
  | cs, (off, sz, v) :: r => match Nat.beq v.length sz && Nat.ble (off + sz) cs.length with
    | true => fillA (setAt cs off v) r
    | false => .stuck
def partsA (S : St) (place : Nat → Option (Nat × Nat)) : List (Nat × Operand) → R (List (Nat × Nat × List Cell))
  | [] => .ok []
  | (i, x) :: r => do
    let (off, sz) ← .of (place i)
    let v ← evalO S x
    let cs ← v.cells
    let ps ← partsA S place r
    .ok ((off, sz, cs) :: ps)

def chopP (sz : Nat) : Nat → List PV → List (List PV)
  | 0, _ => []
  | n + 1, ps => ps.take sz :: chopP sz n (ps.drop sz)

def newBox (S : St) (d : Option Tmp) (cs : List Cell) : St :=
  setDst ⟨S.T, S.σ ++ [(S.next, .box cs)], S.next + 1⟩ d (.one (.ptr S.next 0 0))
def newRow (S : St) (d : Option Tmp) (sz : Nat) (es : List (List PV)) (n : Nat) : St :=
  setDst ⟨S.T, S.σ ++ [(S.next, .row sz es)], S.next + 1⟩ d (.one (.arr S.next 0 n))

/-- What an append's second operand gives: the elements, how many, and the state: what they held of their own goes with them. -/
def takeEs (S : St) (y : TyI) : AV → R (List (List PV) × Nat × St)
  | .one (.arr c o n) => match lk c S.σ with
    | some (.row sz es) => match Nat.beq sz y.size with
      | true => .ok (I.ext es o n, n, ⟨S.T, put c (.row sz (I.deads es)) S.σ, S.next⟩)
      | false => .stuck
    | _ => .stuck
  | .one (.pv .nl) => .ok ([], 0, S)
  | .one (.pv (.sl _ sz es)) => match Nat.beq sz y.size with
    | true => .ok (I.downs es, I.len es, S)
    | false => .stuck
  | _ => .stuck

/-- The greatest number of bytes that an append is let make. -/
def roomOf (y : TyI) (n : Nat) : Bool := I.nle n (140737488355328 / y.bytes)

/-- pos: the second operand is thought to be longer than nothing. -/
def appendA (S : St) (d : Option Tmp) (y : TyI) (pos : Bool) (s x : AV) : R St := do
  let (new, m, S) ← takeEs I S y x
  match s with
  | .one (.pv .nl) => match pos with
    | true => do
      demand (I.nle 1 m)
      demand (roomOf I y m)
      .ok (newRow S d y.size new m)
    | false => .ask (I.nle 1 m) fun t => match t with
      | true => do
        demand (roomOf I y m)
        .ok (newRow S d y.size new m)
      | false => .ok (setDst S d (.one (.pv .nl)))
  | .one (.arr c 0 n) => match lk c S.σ with
    | some (.row sz es) => match Nat.beq sz y.size with
      | true => do
        demand (I.neq n (I.len es))
        demand (roomOf I y (I.add n m))
        .ok (newRow (kill c S) d sz (I.app es new) (I.add n m))
      | false => .stuck
    | _ => .stuck
  | _ => .stuck

def lenA (u : TyU) (x : AV) : R Value := match u with
  | .slice _ => match x with
    | .one (.arr _ _ n) => .ok (.int .i64 (I.ofn n))
    | .one (.pv .nl) => .ok (.int .i64 0)
    | .one (.pv (.sl _ _ es)) => .ok (.int .i64 (I.ofn (I.len es)))
    | _ => .stuck
  | .str => match x with
    | .one (.pv (.sc (.string s))) => .ok (.int .i64 (I.ofn (I.slen s)))
    | _ => .stuck
  | _ => .stuck

def asI : AV → R Int
  | .one (.pv (.sc (.int _ i))) => .ok i
  | _ => .stuck

def rowSz (S : St) (c sz : Nat) : R Unit := match lk c S.σ with
  | some (.row sz' _) => match Nat.beq sz' sz with
    | true => .ok ()
    | false => .stuck
  | some (.foc sz' _ _ _) => match Nat.beq sz' sz with
    | true => .ok ()
    | false => .stuck
  | _ => .stuck
def indexAddrA (S : St) (y : TyI) (x : AV) (i : Int) : R AV := match x with
  | .one (.arr c o n) => do
    rowSz S c y.size
    demand (I.inb i n)
    .ok (.one (.ptr c (I.add o (I.tn i)) 0))
  | .one (.pv (.sl _ sz es)) => do
    demand (I.inb i (I.len es))
    match Nat.beq sz y.size with
    | true => .ok (.one (.ep ((List.range y.size).map fun q => I.nth es (I.tn i) q)))
    | false => .stuck
  | _ => .stuck

def fieldAddrA (off : Nat) (x : AV) : R AV := match x with
  | .one (.ptr c i j) => .ok (.one (.ptr c i (j + off)))
  | .one (.ep cs) => .ok (.one (.ep (cs.drop off)))
  | _ => .stuck

def boundA (x : Option AV) (dflt top : Nat) : R Nat := match x with
  | none => .ok dflt
  | some v => do
    let i ← asI v
    demand (I.inle i top)
    .ok (I.tn i)
def sliceNlA (lo hi : Option AV) : R AV := do
  let h ← boundA I hi 0 0
  let _ ← boundA I lo 0 h
  .ok (.one (.pv .nl))
def sliceA (S : St) (y : TyI) (x : AV) (lo hi : Option AV) : R AV := match x with
  | .one (.arr c o n) => do
    rowSz S c y.size
    let h ← boundA I hi n n
    let l ← boundA I lo 0 h
    .ok (.one (.arr c (I.add o l) (I.sub h l)))
  | .one (.pv (.sl _ sz es)) => match Nat.beq sz y.size with
    | true => do
      let h ← boundA I hi (I.len es) (I.len es)
      let l ← boundA I lo 0 h
      .ok (.one (.pv (.sl false sz (I.downs (I.ext es l (I.sub h l))))))
    | false => .stuck
  | .one (.pv .nl) => sliceNlA I lo hi
  | _ => .stuck
def sliceStrA (x : AV) (lo hi : Option AV) : R AV := match x with
  | .one (.pv (.sc (.string s))) => do
    let h ← boundA I hi (I.slen s) (I.slen s)
    let l ← boundA I lo 0 h
    .ok (.one (.pv (.sc (.string (I.sext s l h)))))
  | _ => .stuck

def capsA (S : St) : List Operand → R (List (Nat × Nat × Nat))
  | [] => .ok []
  | x :: r => do
    let v ← evalO S x
    match v with
    | .one (.ptr c i j) => do
      let ps ← capsA S r
      .ok ((c, i, j) :: ps)
    | _ => .stuck
def evalOO (S : St) : Option Operand → R (Option AV)
  | none => .ok none
  | some x => do
    let v ← evalO S x
    .ok (some v)

def typ (t : TypeId) : R TyI := .of (X t)
def sliceOf (t : TypeId) : R TyI := do
  let y ← typ X t
  match y.u with
  | .slice e => typ X e
  | _ => .stuck
def fieldOf (t : TypeId) (f : Nat) : R (Nat × Nat × Bool) := do
  let y ← typ X t
  match y.u with
  | .struct fs => match fs[f]? with
    | some (off, sz, g) => match Nat.beq sz 0 with
      | false => .ok (off, sz, g)
      | true => .stuck
    | none => .stuck
  | _ => .stuck
def placeOf (fs : List (Nat × Nat × Bool)) (i : Nat) : Option (Nat × Nat) := match fs[i]? with
  | some (off, sz, _) => some (off, sz)
  | none => none
def i64Of : AV → R Int
  | .one (.pv (.sc (.int .i64 i))) => .ok i
  | _ => .stuck

def pvsOf : List Cell → R (List PV)
  | [] => .ok []
  | c :: r => match c with
    | .pv p => do
      let ps ← pvsOf r
      .ok (p :: ps)
    | _ => .stuck

def builtinA (pos : Bool) (S : St) (o : Oper) (b : Builtin) (args : List Operand) (ts : List TypeId) : R St := match b with
  | .len => match args with
    | [x] => match ts with
      | [t] => do
        let y ← typ X t
        let v ← evalO S x
        let n ← lenA I y.u v
        .ok (setDst S o.dst (scal n))
      | _ => .stuck
    | _ => .stuck
  | .append => match args with
    | [s, x] => match ts with
      | [t, t'] => do
        let y ← sliceOf X t
        let _ ← sliceOf X t'
        let s ← evalO S s
        let x ← evalO S x
        match Nat.beq y.zero.length y.size with
        | true => appendA I S o.dst y pos s x
        | false => .stuck
      | _ => .stuck
    | _ => .stuck
  | .min => match args with
    | [x, y] => do
      let a ← evalO S x
      let b ← evalO S y
      match a with
      | .one (.pv (.sc (.int k a))) => match b with
        | .one (.pv (.sc (.int _ b))) => .ok (setDst S o.dst (scal (.int k (I.mn a b))))
        | _ => .stuck
      | _ => .stuck
    | _ => .stuck
  | .max => match args with
    | [x, y] => do
      let a ← evalO S x
      let b ← evalO S y
      match a with
      | .one (.pv (.sc (.int k a))) => match b with
        | .one (.pv (.sc (.int _ b))) => .ok (setDst S o.dst (scal (.int k (I.mx a b))))
        | _ => .stuck
      | _ => .stuck
    | _ => .stuck
  | _ => .stuck

/-- One operation that is no call of a function. -/
def stepOp (pos : Bool) (S : St) (o : Oper) : R St := match o.op with
  | .move x => do
    let v ← evalO S x
    .ok (setDst S o.dst v)
  | .assign x => do
    let v ← evalO S x
    .ok (setDst S o.dst v)
  | .pick c a b => do
    let t ← evalO S c
    match t with
    | .one (.pv (.sc (.bool t))) => .ask t fun t => match t with
      | true => do
        let v ← evalO S a
        .ok (setDst S o.dst v)
      | false => do
        let v ← evalO S b
        .ok (setDst S o.dst v)
    | _ => .stuck
  | .alloc e => do
    let y ← typ X e
    .ok (newBox S o.dst y.zero)
  | .box _ x => do
    let v ← evalO S x
    let cs ← v.cells
    .ok (newBox S o.dst cs)
  | .build t parts => do
    let y ← typ X t
    match y.u with
    | .struct fs => do
      let ps ← partsA S (placeOf fs) parts.toList
      let cs ← fillA y.zero ps
      .ok (setDst S o.dst (.ag cs))
    | _ => .stuck
  | .buildSlice t n parts => do
    let y ← sliceOf X t
    match Nat.beq y.zero.length y.size && Nat.ble (n * y.size) 16777216 with
    | true => do
      let ps ← partsA S (fun i => some (i * y.size, y.size)) parts.toList
      let cs ← fillA ((List.replicate n y.zero).flatten) ps
      let (vs, S) ← freezes I S cs
      .ok (newRow S o.dst y.size (chopP y.size n vs) n)
    | false => .stuck
  | .load t a => do
    let y ← typ X t
    let a ← evalO S a
    let v ← loadA I S y a
    .ok (setDst S o.dst v)
  | .store t a x => do
    let y ← typ X t
    let a ← evalO S a
    let v ← evalO S x
    let cs ← v.cells
    match Nat.beq cs.length y.size with
    | true => do
      let S ← storeA I S a cs
      .ok (setDst S o.dst (.tp []))
    | false => .stuck
  | .nilCheck x => do
    let v ← evalO S x
    match v with
    | .one (.ptr c i j) => .ok (setDst S o.dst (.one (.ptr c i j)))
    | .one (.ep cs) => .ok (setDst S o.dst (.one (.ep cs)))
    | _ => .stuck
  | .binOp op t x y _ => do
    let a ← evalO S x
    let b ← evalO S y
    match a with
    | .one (.pv (.sc a)) => match b with
      | .one (.pv (.sc b)) => do
        let v ← binA X I t op a b
        .ok (setDst S o.dst (scal v))
      | _ => .stuck
    | _ => .stuck
  | .unOp op _ x => do
    let a ← evalO S x
    match a with
    | .one (.pv (.sc a)) => do
      let v ← unA I op a
      .ok (setDst S o.dst (scal v))
    | _ => .stuck
  | .convert s t x => do
    let _ ← typ X s
    let y ← typ X t
    let a ← evalO S x
    match y.u with
    | .int k => match a with
      | .one (.pv (.sc (.int _ n))) => .ok (setDst S o.dst (scal (.int k (I.conv k n))))
      | _ => .stuck
    | _ => .stuck
  | .makeFunc fn first caps => match fn with
    | .func f => match first.toList with
      | [] => do
        let ps ← capsA S caps.toList
        .ok (setDst S o.dst (.one (.fn f ps)))
      | _ => .stuck
    | _ => .stuck
  | .makeSlice t l c => do
    let y ← sliceOf X t
    let n ← evalO S l
    let m ← evalO S c
    let n ← i64Of n
    let m ← i64Of m
    demand (I.cmp .eql n m)
    demand (I.inle n (140737488355328 / y.bytes))
    match Nat.beq y.zero.length y.size with
    | true => do
      let z ← pvsOf y.zero
      .ok (newRow S o.dst y.size (I.rep (I.tn n) z) (I.tn n))
    | false => .stuck
  | .slice t x lo hi mx => match mx with
    | none => do
      let a ← evalO S x
      let lo ← evalOO S lo
      let hi ← evalOO S hi
      let y ← typ X t
      match y.u with
      | .slice e => do
        let y ← typ X e
        let v ← sliceA I S y a lo hi
        .ok (setDst S o.dst v)
      | .str => do
        let v ← sliceStrA I a lo hi
        .ok (setDst S o.dst v)
      | _ => .stuck
    | some _ => .stuck
  | .fieldAddr t x f => do
    let (off, _) ← fieldOf X t f
    let a ← evalO S x
    let v ← fieldAddrA off a
    .ok (setDst S o.dst v)
  | .field t x f => do
    let (off, sz, g) ← fieldOf X t f
    let a ← evalO S x
    match a with
    | .ag cs => match Nat.ble (off + sz) cs.length with
      | true => do
        let v ← mk g ((cs.drop off).take sz)
        .ok (setDst S o.dst v)
      | false => .stuck
    | _ => .stuck
  | .indexAddr t x i => do
    let y ← sliceOf X t
    let a ← evalO S x
    let i ← evalO S i
    let i ← asI i
    let v ← indexAddrA I S y a i
    .ok (setDst S o.dst v)
  | .index t x i => do
    let y ← typ X t
    let a ← evalO S x
    let i ← evalO S i
    let i ← asI i
    match y.u with
    | .str => match a with
      | .one (.pv (.sc (.string s))) => do
        demand (I.inb i (I.slen s))
        .ok (setDst S o.dst (scal (.int .u8 (I.sget s (I.tn i)))))
      | _ => .stuck
    | _ => .stuck
  | .extract x i => do
    let a ← evalO S x
    match a with
    | .tp vs => match vs[i]? with
      | some (g, cs) => do
        let v ← mk g cs
        .ok (setDst S o.dst v)
      | none => .stuck
    | _ => .stuck
  | .call c => match c.callee with
    | .builtin b => builtinA X I pos S o b c.args.toList c.argTypes.toList
    | _ => .stuck
  | _ => .stuck

/-- Is the operation wanted? -/
def wantA (ops : Array Oper) (S : St) (o : Oper) : R Bool := match o.guard with
  | none => .ok true
  | some (j, want) => do
    let p ← .of ops[j]?
    let t ← .of p.dst
    let v ← .of (lk t S.T)
    match v with
    | .one (.pv (.sc v)) => match v with
      | .bool b => .ask b fun b => .ok (match b, want with
        | true, true => true
        | false, false => true
        | _, _ => false)
      | _ => .ok false
    | .tp _ => .ok false
    | _ => .stuck

end
end Go.Aix
