/- Own framework, part 1: abstract values, compiled code, the compiler from the program's code, the abstract interpreter. No statement is proved here. -/
import Derived.Calls
import Derived.KernelRfl
set_option linter.unusedVariables false
namespace Go.Abs

/-- What a memory cell that never turns again holds: a value without addresses, or a slice of such cells (n elements). -/
inductive P where
  | v (x : Value)
  | sl (n : Nat) (cs : List P)
  deriving Inhabited

/-- What a slot holds. fs: a slice whose capacity is its length (or nil); ow: a slice that may be appended to, at this turn of its token;
    ip: an address of cells that never turn; mp: an address in variable number id; fn: a closure. -/
inductive D where
  | c (p : P)
  | ag (cs : List D)
  | tu (vs : List D)
  | fs (n : Nat) (cs : List P)
  | ow (id ver n : Nat) (cs : List P)
  | ip (cs : List P)
  | mp (id off : Nat)
  | fn (f : FuncId) (cap : List D)
  | ifc (t : TypeId) (x : D)
  deriving Inhabited

abbrev Env := Nat → D
def und : D := .tu []
def upd (e : Env) (d : Nat) (x : D) : Env := fun t => if t = d then x else e t

/-- A variable: its type, whether it never turns again, its cells. 'it': an iterator over a string: its cells are the string and the place. -/
structure VO where
  t : TypeId
  it : Bool
  fz : Bool
  cs : List D
  deriving Inhabited

structure St where
  e : Env
  V : List VO
  T : List Nat

/-! ### compiled code -/
inductive Opd where
  | t (n : Nat)
  | k (d : D)
  | f (g : FuncId)
  deriving Inhabited

structure Part where
  off : Nat
  sz : Nat
  x : Opd
  deriving Inhabited

inductive SK where
  | str
  | sl (esz : Nat)
  | arr (n esz : Nat)
  deriving Inhabited

inductive CK where
  | int (k : IntKind)
  | flt (k : FloatKind)
  | s2b (e : TypeId)
  | b2s
  | ss
  | id
  deriving Inhabited

inductive LK where
  | arr (n : Nat)
  | str
  | sl
  deriving Inhabited

/-- A cell's kind. -/
inductive EK where
  | b
  | i
  | s
  deriving Inhabited
/-- How operands are held against each other: by their kinds alone; bools; cell for cell. -/
inductive BK where
  | sc
  | bl
  | ag (ks : List EK)
  deriving Inhabited

inductive AOp where
  | mv (x : Opd)
  | pick (c a b : Opd)
  | alloc (t : TypeId) (zero : List P)
  | box (t : TypeId) (sz : Nat) (x : Opd)
  | build (zero : List P) (parts : List Part)
  | bsl (e : TypeId) (n : Nat) (zero : List P) (parts : List Part)
  | load (ag : Bool) (sz : Nat) (a : Opd)
  | store (sz : Nat) (a x : Opd)
  | nilck (x : Opd)
  | bin (op : BinOp) (k : BK) (x y : Opd)
  | fnil (neg : Bool) (x : Opd)
  | snil (neg : Bool) (x : Opd)
  | inil (neg : Bool) (x : Opd)
  | tas (t : TypeId) (x : Opd)
  | un (op : UnOp) (x : Opd)
  | conv (k : CK) (x : Opd)
  | mki (t : TypeId) (x : Opd)
  | mkf (f : FuncId) (caps : List Opd)
  | slc (k : SK) (x : Opd) (lo hi mx : Option Opd)
  | fld (ag : Bool) (off sz : Nat) (x : Opd)
  | fad (off : Nat) (x : Opd)
  | iad (k : SK) (x i : Opd)
  | idx (ag : Bool) (k : SK) (x i : Opd)
  | ext (x : Opd) (i : Nat)
  | len (k : LK) (x : Opd)
  | app (e : TypeId) (esz bytes : Nat) (str : Bool) (x y : Opd)
  | mks (e : TypeId) (n : Nat) (zero : List P)
  | rng (x : Opd)
  | nxt (x : Opd)
  | mx (xs : List Opd)
  | mn (xs : List Opd)
  | call (f : FuncId) (args : List Opd)
  | dyn (x : Opd) (args : List Opd)
  | panic (x : Opd)
  deriving Inhabited

structure AOper where
  d : Option Nat
  g : Option (Nat × Bool)
  op : AOp
  deriving Inhabited

inductive ACode where
  | skip
  | reg (ops : List AOper)
  | drw (ops : List AOper) (pairs : List (Nat × Nat))
  | seq (a b : ACode)
  | cond (c : Opd) (a b : ACode)
  | block (id : Nat) (c : ACode)
  | loop (c : ACode)
  | exit (id : Nat)
  | ret
  deriving Inhabited

inductive ARes where
  | t (n : Nat)
  | cell (ag : Bool) (sz : Nat) (a : Nat)
  deriving Inhabited

structure AFn where
  nt : Nat
  res : List ARes
  body : ACode
  deriving Inhabited

/-! ### the compiler -/
def cellP : Value → Option P
  | .slice none 0 0 => some (.sl 0 [])
  | .slice .. => none
  | .bool b => some (.v (.bool b))
  | .int k n => some (.v (.int k n))
  | .float k n => some (.v (.float k n))
  | .string s => some (.v (.string s))
  | .pointer none => some (.v (.pointer none))
  | .nilFunc => some (.v .nilFunc)
  | .nilIface => some (.v .nilIface)
  | .map none => some (.v (.map none))
  | _ => none

def mapO {α β : Type} (f : α → Option β) : List α → Option (List β)
  | [] => some []
  | x :: r => match f x with
    | none => none
    | some y => match mapO f r with
      | none => none
      | some ys => some (y :: ys)

/-- A cell of a zero value: a nil slice may be appended to. -/
def zD : P → D
  | .sl 0 [] => .fs 0 []
  | p => .c p
def mkV (ag : Bool) : List D → Option D
  | [x] => if ag then some (.ag [x]) else some x
  | l => if ag then some (.ag l) else none

def constD : Value → Option D
  | .slice none 0 0 => some (.fs 0 [])
  | .agg cs => (mapO cellP cs.toList).map fun l => .ag (l.map .c)
  | x => (cellP x).map .c

def opd : Operand → Option Opd
  | .tmp t => some (.t t)
  | .const v => (constD v).map .k
  | .func f => some (.f f)
  | .global _ => none

section
variable (P : Program)

def aggT (t : TypeId) : Option Bool :=
  match P.underlying t with
  | some (.struct _) | some (.array _ _) => some true
  | some _ => some false
  | none => none

def sizeT (t : TypeId) : Option Nat := (P.info? t).map (·.size)
def bytesT (t : TypeId) : Option Nat := (P.info? t).map (·.bytes)
def zeroT (t : TypeId) : Option (List Go.Abs.P) := do
  let i ← P.info? t
  let z ← i.zero
  if z.cells.size = i.size then mapO cellP z.cells.toList else none

def plainFs (pe : TypeId → Option (List EK)) : List Field → Nat → Option (List EK)
  | [], _ => some []
  | f :: fs, off =>
    if f.name != "_" && f.offset == off then
      match pe f.type with
      | some ks => match plainFs pe fs (off + ks.length) with
        | some r => some (ks ++ r)
        | none => none
      | none => none
    else none
/-- '==' at this type is 'cell for cell', all cells being bools, ints, strings: their kinds. -/
def plainEq : Nat → TypeId → Option (List EK)
  | 0, _ => none
  | n + 1, t =>
    match P.underlying t with
    | some .bool => if sizeT P t = some 1 then some [.b] else none
    | some (.int _) => if sizeT P t = some 1 then some [.i] else none
    | some .string => if sizeT P t = some 1 then some [.s] else none
    | some (.struct fs) => if P.stoodInHeld t then none else match plainFs (plainEq n) fs.toList 0 with
      | some ks => if sizeT P t = some ks.length then some ks else none
      | none => none
    | some (.array len e) => match plainEq n e with
      | some ks => if sizeT P t = some (len * ks.length) then some (List.replicate len ks).flatten else none
      | none => none
    | _ => none
def agOf (t : TypeId) : Option (List EK) := if P.eqGuardType P.depth t then none else plainEq P 30 t

def partsOf (place : Nat → Option (Nat × Nat)) : List (Nat × Operand) → Option (List Part)
  | [] => some []
  | (i, x) :: r => do
    let (off, sz) ← place i
    let x ← opd x
    let r ← partsOf place r
    some (⟨off, sz, x⟩ :: r)

def skOf (t : TypeId) : Option SK :=
  match P.underlying t with
  | some .string => some .str
  | some (.slice e) => (sizeT P e).bind fun s => if s = 0 then none else some (.sl s)
  | some (.array n e) => (sizeT P e).bind fun s => if s = 0 then none else some (.arr n s)
  | _ => none

def fieldOf (t : TypeId) (i : Nat) : Option (Bool × Nat × Nat) :=
  match P.underlying t with
  | some (.struct fs) => do
    let f ← fs[i]?
    let a ← aggT P f.type
    let s ← sizeT P f.type
    if s = 0 then none else some (a, f.offset, s)
  | _ => none

def elAg (t : TypeId) : Option Bool :=
  match P.underlying t with
  | some (.array _ e) => aggT P e
  | _ => some false
def isU8 : Option TypeDesc → Bool
  | some (.int .u8) => true
  | _ => false
def convOf (src dst : TypeId) : Option CK :=
  match P.underlying src, P.underlying dst with
  | some (.int _), some (.int k) => some (.int k)
  | some (.int _), some (.float k) => some (.flt k)
  | some .string, some .string => some .id
  | some .string, some (.slice e) => if isU8 (P.underlying e) = true ∧ bytesT P e = some 1 then some (.s2b e) else none
  | some (.slice e), some (.slice _) => if src = dst ∧ isU8 (P.underlying e) = true then some .ss else none
  | some (.slice e), some .string => if isU8 (P.underlying e) = true then some .b2s else none
  | _, _ => none

def optO : Option Operand → Option (Option Opd)
  | none => some none
  | some y => (opd y).map some
def opds (l : List Operand) : Option (List Opd) := mapO opd l

def trCall (c : Call) : Option AOp :=
  match c.callee with
  | .value (.func f) => (opds c.args.toList).map (.call f)
  | .value (.tmp t) => (opds c.args.toList).map (.dyn (.t t))
  | .value _ => none
  | .invoke _ _ => none
  | .builtin b =>
    match b, c.args.toList, c.argTypes.toList with
    | .len, [x], [t] => do
      let x ← opd x
      match P.underlying t with
      | some (.array n _) => some (.len (.arr n) x)
      | some .string => some (.len .str x)
      | some (.slice _) => some (.len .sl x)
      | _ => none
    | .append, [x, y], [t, u] => do
      let x ← opd x
      let y ← opd y
      match P.underlying t, P.underlying u with
      | some (.slice e), some (.slice e') => do
        let s ← sizeT P e
        let b ← bytesT P e
        let z ← zeroT P e
        if s = 0 || z.length != s then none else if sizeT P e' = some s then some (.app e s b false x y) else none
      | some (.slice e), some .string => do
        let s ← sizeT P e
        let b ← bytesT P e
        let z ← zeroT P e
        if s != 1 || z.length != s then none else some (.app e s b true x y)
      | _, _ => none
    | .max, xs, _ => (opds xs).map .mx
    | .min, xs, _ => (opds xs).map .mn
    | _, _, _ => none

def mksOf (t : TypeId) (lo hi : Operand) : Option AOp :=
  match lo, hi with
  | .const (.int .i64 n), .const (.int .i64 m) =>
    match P.underlying t with
    | some (.slice e) => do
      let s ← sizeT P e
      let b ← bytesT P e
      let z ← zeroT P e
      if n != m || n < 0 || s = 0 || b * n > 2 ^ 40 || n.toNat > 2 ^ 20 || z.length != s then none else
      some (.mks e n.toNat (List.replicate n.toNat z).flatten)
    | _ => none
  | _, _ => none

def trOp (o : Oper) : Option AOp :=
  match o.op with
  | .move x | .assign x => (opd x).map .mv
  | .pick c a b => do some (.pick (← opd c) (← opd a) (← opd b))
  | .alloc t => (zeroT P t).map (.alloc t)
  | .box t x => do some (.box t (← sizeT P t) (← opd x))
  | .build t parts =>
    match P.underlying t with
    | some (.struct fs) => do
      let z ← zeroT P t
      let places ← mapO (fun f : Field => (sizeT P f.type).map fun s => (f.offset, s)) fs.toList
      let ps ← partsOf (places[·]?) parts.toList
      some (.build z ps)
    | some (.array _ e) => do
      let z ← zeroT P t
      let s ← sizeT P e
      let ps ← partsOf (fun i => some (i * s, s)) parts.toList
      some (.build z ps)
    | _ => none
  | .buildSlice t n parts =>
    match P.underlying t with
    | some (.slice e) => do
      let s ← sizeT P e
      let z ← zeroT P e
      if s = 0 || n * s > 2 ^ 24 || z.length != s then none else
      let ps ← partsOf (fun i => some (i * s, s)) parts.toList
      some (.bsl e n (List.replicate n z).flatten ps)
    | _ => none
  | .load t a => do some (.load (← aggT P t) (← sizeT P t) (← opd a))
  | .store t a x => do some (.store (← sizeT P t) (← opd a) (← opd x))
  | .nilCheck x => (opd x).map .nilck
  | .binOp op t x y _ =>
    match P.underlying t with
    | some .bool => do some (.bin op .bl (← opd x) (← opd y))
    | some (.struct _) | some (.array _ _) => do some (.bin op (.ag (← agOf P t)) (← opd x) (← opd y))
    | some (.func _ _ _) => match op, y with
      | .eql, .const .nilFunc => (opd x).map (.fnil false)
      | .neq, .const .nilFunc => (opd x).map (.fnil true)
      | _, _ => none
    | some (.slice _) => match op, y with
      | .eql, .const (.slice none 0 0) => (opd x).map (.snil false)
      | .neq, .const (.slice none 0 0) => (opd x).map (.snil true)
      | _, _ => none
    | some (.interface _) => match op, y with
      | .eql, .const .nilIface => (opd x).map (.inil false)
      | .neq, .const .nilIface => (opd x).map (.inil true)
      | _, _ => none
    | some (.int _) | some (.float _) | some .string => do some (.bin op .sc (← opd x) (← opd y))
    | _ => none
  | .unOp op _ x => (opd x).map (.un op)
  | .convert src dst x => do some (.conv (← convOf P src dst) (← opd x))
  | .makeInterface t x =>
    match P.underlying t with
    | some (.interface _) => none
    | some _ => (opd x).map (.mki t)
    | none => none
  | .makeFunc (.func f) first caps => if first.size = 0 then (opds caps.toList).map (.mkf f) else none
  | .slice t x lo hi mx => do
    let k ← skOf P t
    let x ← opd x
    let lo ← optO lo
    let hi ← optO hi
    let mx ← optO mx
    some (.slc k x lo hi mx)
  | .makeSlice t lo hi => mksOf P t lo hi
  | .range t x =>
    match P.underlying t with
    | some .string => (opd x).map .rng
    | _ => none
  | .next x true => (opd x).map .nxt
  | .field t x i => do
    let (a, o, s) ← fieldOf P t i
    some (.fld a o s (← opd x))
  | .fieldAddr t x i => do
    let (_, o, _) ← fieldOf P t i
    some (.fad o (← opd x))
  | .indexAddr t x i => do some (.iad (← skOf P t) (← opd x) (← opd i))
  | .index t x i => do some (.idx (← elAg P t) (← skOf P t) (← opd x) (← opd i))
  | .extract x i => (opd x).map (.ext · i)
  | .typeAssert x _ t true =>
    match P.underlying t with
    | some (.interface _) => none
    | some _ => (opd x).map (.tas t)
    | none => none
  | .call c => trCall P c
  | .panic x => (opd x).map .panic
  | _ => none

def trGuard (ops : Array Oper) (nt : Nat) (o : Oper) : Option (Option (Nat × Bool)) :=
  match o.guard with
  | none => some none
  | some (j, w) => ((ops[j]?).bind (·.dst)).bind fun d => if d < nt then some (some (d, w)) else none
def trOper (ops : Array Oper) (nt : Nat) (o : Oper) : Option AOper := do
  let op ← trOp P o
  let g ← trGuard ops nt o
  match o.dst with
  | some d => if d < nt then some ⟨some d, g, op⟩ else none
  | none => some ⟨none, g, op⟩

def Opd.reads : Opd → List Nat
  | .t n => [n]
  | _ => []
def optReads : Option Opd → List Nat
  | some x => x.reads
  | none => []
def AOp.reads : AOp → List Nat
  | .mv x | .box _ _ x | .load _ _ x | .nilck x | .un _ x | .conv _ x | .mki _ x | .fld _ _ _ x | .fad _ x | .ext x _ | .len _ x | .panic x | .fnil _ x | .snil _ x | .inil _ x | .tas _ x | .rng x | .nxt x => x.reads
  | .pick a b c => a.reads ++ (b.reads ++ c.reads)
  | .alloc _ _ | .mks _ _ _ => []
  | .build _ ps | .bsl _ _ _ ps => ps.flatMap fun p => p.x.reads
  | .store _ a x | .bin _ _ a x | .iad _ a x | .idx _ _ a x | .app _ _ _ _ a x => a.reads ++ x.reads
  | .mkf _ xs | .mx xs | .mn xs | .call _ xs => xs.flatMap Opd.reads
  | .dyn x xs => x.reads ++ xs.flatMap Opd.reads
  | .slc _ x a b c => x.reads ++ (optReads a ++ (optReads b ++ optReads c))
def AOper.reads (o : AOper) : List Nat := o.op.reads ++ (match o.g with | some (t, _) => [t] | none => [])
/-- Neither looks at, nor writes, what the other one writes. -/
def AOper.apart (x y : AOper) : Bool :=
  (match x.d with | some d => !y.reads.contains d && y.d != some d | none => true) &&
  (match y.d with | some d => !x.reads.contains d | none => true)

/-- The pairs k < j for which j does not wait for k itself. -/
def freePairs (ops : Array Oper) : List (Nat × Nat) :=
  (List.range ops.size).flatMap fun j => ((List.range j).filter fun k =>
    !((ops[j]?).map fun o => o.after.any fun e => Region.binds .any e && e.on == k).getD false).map fun k => (k, j)

/-- Each operation's edges that bind lead to earlier ones. -/
def edgesBack (ops : Array Oper) : Bool :=
  (List.range ops.size).all fun j => ((ops[j]?).map fun o => o.after.all fun e => !Region.binds .any e || e.on < j).getD false

def trCode (nt : Nat) : Code → Option ACode
  | .skip => some .skip
  | .region _ ops false => (mapO (trOper P ops nt) ops.toList).map .reg
  | .region _ ops true => do
    let l ← mapO (trOper P ops nt) ops.toList
    let ps := freePairs ops
    if edgesBack ops && ps.all (fun (k, j) => (l.getD k default).apart (l.getD j default)) then
      some (.drw l ps) else none
  | .seq a b => do some (.seq (← trCode nt a) (← trCode nt b))
  | .cond c a b => do some (.cond (← opd c) (← trCode nt a) (← trCode nt b))
  | .block id c => do some (.block id (← trCode nt c))
  | .loop c => do some (.loop (← trCode nt c))
  | .exit id => some (.exit id)
  | .ret => some .ret
  | _ => none

def trRes : ResultVar → Option ARes
  | .tmp t => some (.t t)
  | .cell a t => do some (.cell (← aggT P t) (← sizeT P t) a)

def trFn (f : FuncId) : Option AFn := do
  let fn ← P.funcs[f]?
  if fn.name == "runtime.NumGoroutine" then none else
  let b ← fn.body
  let c ← trCode P fn.ntmps b
  let r ← mapO (trRes P) fn.results.toList
  some ⟨fn.ntmps, r, c⟩
end

/-! ### the abstract operations -/
def ev (e : Env) : Opd → D
  | .t n => e n
  | .k d => d
  | .f g => .fn g []

mutual
/-- What leaves a frame: slices lose their token. -/
def D.frz : D → D
  | .fs n cs => .c (.sl n cs)
  | .ow _ _ n cs => .c (.sl n cs)
  | .ag cs => .ag (frzL cs)
  | .tu cs => .tu (frzL cs)
  | .fn f cs => .fn f (frzL cs)
  | .ifc t x => .ifc t x.frz
  | d => d
def frzL : List D → List D
  | [] => []
  | x :: r => x.frz :: frzL r
/-- No address of a variable, no token. -/
def D.closed : D → Bool
  | .c _ | .fs _ _ | .ip _ => true
  | .ow .. | .mp .. => false
  | .ag cs => closedL cs
  | .tu cs => closedL cs
  | .fn _ cs => closedL cs
  | .ifc _ x => x.closed
def closedL : List D → Bool
  | [] => true
  | x :: r => x.closed && closedL r
/-- Addresses of variables and tokens below these numbers alone. -/
def D.low (nv nt : Nat) : D → Bool
  | .c _ | .fs _ _ | .ip _ => true
  | .ow id .. => id < nt
  | .mp id _ => id < nv
  | .ag cs => lowL nv nt cs
  | .tu cs => lowL nv nt cs
  | .fn _ cs => lowL nv nt cs
  | .ifc _ x => x.low nv nt
def lowL (nv nt : Nat) : List D → Bool
  | [] => true
  | x :: r => x.low nv nt && lowL nv nt r
end

mutual
/-- What another frame's variables and tokens are called here. -/
def D.shift (nv nt : Nat) : D → D
  | .ow id ver n cs => .ow (id + nt) ver n cs
  | .mp id off => .mp (id + nv) off
  | .ag cs => .ag (shiftL nv nt cs)
  | .tu cs => .tu (shiftL nv nt cs)
  | .fn f cs => .fn f (shiftL nv nt cs)
  | .ifc t x => .ifc t (x.shift nv nt)
  | d => d
def shiftL (nv nt : Nat) : List D → List D
  | [] => []
  | x :: r => x.shift nv nt :: shiftL nv nt r
end

/-- The cells of a value: each of one cell. -/
def D.cells : D → List D
  | .ag cs => cs
  | d => [d]
/-- It has so many cells (a tuple has none). -/
def D.fits : D → Nat → Bool
  | .ag cs, n => cs.length == n
  | .tu _, _ => false
  | _, n => n == 1
def cellPure : D → Option P
  | .c p => some p
  | .fs n cs => some (.sl n cs)
  | .ow _ _ n cs => some (.sl n cs)
  | _ => none
def D.pcells (d : D) : Option (List P) := mapO cellPure d.cells

/-- What a slice's value holds: how many elements, and their cells. -/
def D.slc : D → Option (Nat × List P)
  | .c (.sl n cs) | .fs n cs | .ow _ _ n cs => some (n, cs)
  | _ => none

def setAt {α : Type} : List α → Nat → List α → List α
  | l, 0, [] => l
  | [], _, _ => []
  | _ :: l, 0, y :: ys => y :: setAt l 0 ys
  | x :: l, n + 1, ys => x :: setAt l n ys

def fillD (e : Env) : List D → List Part → Option (List D)
  | cs, [] => some cs
  | cs, p :: r =>
    if (ev e p.x).fits p.sz = true ∧ p.off + p.sz ≤ cs.length then fillD e (setAt cs p.off (ev e p.x).cells) r else none
def fillP (e : Env) : List P → List Part → Option (List P)
  | cs, [] => some cs
  | cs, p :: r => match (ev e p.x).pcells with
    | none => none
    | some x => if x.length = p.sz ∧ p.off + p.sz ≤ cs.length then fillP e (setAt cs p.off x) r else none

def intBin (op : BinOp) (k : IntKind) (a b : Int) : Option Value :=
  match op with
  | .add => some (.int k (k.wrap (a + b)))
  | .sub => some (.int k (k.wrap (a - b)))
  | .mul => some (.int k (k.wrap (a * b)))
  | .quo => if b = 0 then none else some (.int k (k.wrap (a.tdiv b)))
  | .rem => if b = 0 then none else some (.int k (a.tmod b))
  | .and => some (.int k (k.wrap (BitVec.ofInt k.bits a &&& BitVec.ofInt k.bits b).toNat))
  | .or => some (.int k (k.wrap (BitVec.ofInt k.bits a ||| BitVec.ofInt k.bits b).toNat))
  | .xor => some (.int k (k.wrap (BitVec.ofInt k.bits a ^^^ BitVec.ofInt k.bits b).toNat))
  | .andNot => some (.int k (k.wrap (BitVec.ofInt k.bits a &&& ~~~(BitVec.ofInt k.bits b)).toNat))
  | .eql => some (.bool (a == b))
  | .neq => some (.bool (a != b))
  | .lss => some (.bool (a < b))
  | .leq => some (.bool (a ≤ b))
  | .gtr => some (.bool (a > b))
  | .geq => some (.bool (a ≥ b))
  | _ => none
def strBin (op : BinOp) (a b : ByteArray) : Option Value :=
  match op with
  | .add => if ((a.size + b.size : Nat) : Int) > IntKind.i64.max then none else some (.string (a ++ b))
  | .eql => some (.bool (a.toList == b.toList))
  | .neq => some (.bool (!(a.toList == b.toList)))
  | .lss => some (.bool (Op.bytesLess a.toList b.toList))
  | .leq => some (.bool (Op.bytesLess a.toList b.toList || a.toList == b.toList))
  | .gtr => some (.bool (!(Op.bytesLess a.toList b.toList || a.toList == b.toList)))
  | .geq => some (.bool (!Op.bytesLess a.toList b.toList))
  | _ => none
def fltBin (op : BinOp) (k : FloatKind) (a b : Nat) : Option Value :=
  match op with
  | .eql => some (.bool (k.format.order a b == some .eq))
  | .neq => some (.bool (k.format.order a b != some .eq))
  | .lss => some (.bool (k.format.order a b == some .lt))
  | .gtr => some (.bool (k.format.order a b == some .gt))
  | .mul => (k.format.mul a b).map (.float k)
  | .quo => (k.format.div a b).map (.float k)
  | _ => none
def scBin (op : BinOp) (a b : Value) : Option Value :=
  match a, b with
  | .int k x, .int k' y =>
    match op with
    | .shl => if y < 0 then none else some (.int k (k.wrap (x * 2 ^ (min y.toNat k.bits))))
    | .shr => if y < 0 then none else some (.int k (x.fdiv (2 ^ (min y.toNat k.bits))))
    | op => if k = k' then intBin op k x y else none
  | .string x, .string y => strBin op x y
  | .float k x, .float k' y => if k = k' then fltBin op k x y else none
  | _, _ => none
/-- Cell for cell. -/
def eqCell : EK → D → D → Option Bool
  | .b, .c (.v (.bool a)), .c (.v (.bool b)) => some (a == b)
  | .i, .c (.v (.int k a)), .c (.v (.int k' b)) => if k = k' then some (a == b) else none
  | .s, .c (.v (.string a)), .c (.v (.string b)) => some (a.toList == b.toList)
  | _, _, _ => none
def eqCells : List EK → List D → List D → Option Bool
  | [], [], [] => some true
  | k :: ks, x :: xs, y :: ys => match eqCell k x y with
    | some b => match eqCells ks xs ys with
      | some r => some (b && r)
      | none => none
    | none => none
  | _, _, _ => none
def blBin (op : BinOp) (a b : Value) : Option Value :=
  match a, b with
  | .bool x, .bool y => match op with | .eql => some (.bool (x == y)) | .neq => some (.bool (!(x == y))) | _ => none
  | _, _ => none
def scD (op : BinOp) (x y : D) : Option D :=
  match x, y with
  | .c (.v a), .c (.v b) => (scBin op a b).map fun r => .c (.v r)
  | _, _ => none
def blD (op : BinOp) (x y : D) : Option D :=
  match x, y with
  | .c (.v a), .c (.v b) => (blBin op a b).map fun r => .c (.v r)
  | _, _ => none
def agD (op : BinOp) (ks : List EK) (x y : D) : Option D :=
  match x, y with
  | .ag xs, .ag ys => match op with
      | .eql => (eqCells ks xs ys).map fun r => .c (.v (.bool r))
      | .neq => (eqCells ks xs ys).map fun r => .c (.v (.bool (!r)))
      | _ => none
  | _, _ => none
def binD (op : BinOp) (k : BK) (x y : D) : Option D :=
  match k with
  | .sc => scD op x y
  | .bl => blD op x y
  | .ag ks => agD op ks x y
def fnilD (neg : Bool) (x : D) : Option D :=
  match x with
  | .fn _ _ => some (.c (.v (.bool neg)))
  | .c (.v .nilFunc) => some (.c (.v (.bool (!neg))))
  | _ => none
/-- Held against nil: of an empty slice nothing is known. -/
def snilD (neg : Bool) (x : D) : Option D :=
  match x.slc with
  | some (n, _) => if n = 0 then none else some (.c (.v (.bool neg)))
  | none => none
def inilD (neg : Bool) (x : D) : Option D :=
  match x with
  | .ifc _ _ => some (.c (.v (.bool neg)))
  | .c (.v .nilIface) => some (.c (.v (.bool (!neg))))
  | _ => none
/-- A type assertion that holds. -/
def tasD (t : TypeId) (x : D) : Option D :=
  match x with
  | .ifc u d => if u = t then some (.tu [d, .c (.v (.bool true))]) else none
  | _ => none
def unD (op : UnOp) (x : D) : Option D :=
  match op, x with
  | .not, .c (.v (.bool b)) => some (.c (.v (.bool (!b))))
  | .neg, .c (.v (.int k n)) => some (.c (.v (.int k (k.wrap (0 - n)))))
  | .neg, .c (.v (.float k n)) => some (.c (.v (.float k (Op.negFloat k n))))
  | _, _ => none

def byteP (b : UInt8) : P := .v (.int .u8 b.toNat)
def bytesP (l : List UInt8) : List P := l.map byteP
def unByte : P → Option UInt8
  | .v (.int .u8 n) => some (UInt8.ofNat n.toNat)
  | _ => none
def unBytes (l : List P) : Option (List UInt8) := mapO unByte l
def convD (k : CK) (x : D) : Option D :=
  match k with
  | .int k => match x with | .c (.v (.int _ n)) => some (.c (.v (.int k (k.wrap n)))) | _ => none
  | .flt k => match x with | .c (.v (.int _ n)) => some (.c (.v (.float k (k.nearest n)))) | _ => none
  | .id => match x with | .c (.v (.string s)) => some (.c (.v (.string s))) | _ => none
  | .ss => match x with | .fs n cs => if n = 0 then none else some (.fs n cs) | _ => none
  | .b2s => match x.slc with
    | some (n, cs) => if cs.length = n then (unBytes cs).map fun l => .c (.v (.string ⟨l.toArray⟩)) else none
    | none => none
  | .s2b _ => none

def asI : D → Option Int
  | .c (.v (.int _ n)) => some n
  | _ => none
/-- A bound of a slice expression: given, and in 0 .. y; or this. -/
def bnd (e : Env) (o : Option Opd) (dflt y : Nat) : Option Nat :=
  match o with
  | none => some dflt
  | some x => match asI (ev e x) with
    | some n => if 0 ≤ n ∧ n ≤ (y : Int) then some n.toNat else none
    | none => none

/-- What an operation does. q: it yields this, and nothing turns; rd: what stands in a variable; fz: the same, and the variable never turns again;
    wr: a variable's cells turn; push: a new variable; tw: a token goes on; tp: a new token; pan: a panic; call. -/
inductive Ac where
  | q (d : D)
  | rd (id : Nat) (f : List D → Option D)
  | fz (id : Nat) (f : List P → Option D)
  | wr (id : Nat) (f : List D → Option (List D))
  | push (t : TypeId) (it : Bool) (cs : List D)
  | nx (id : Nat)
  | tw (id ver : Nat) (d : D)
  | tp (mk : Nat → D)
  | pan (d : D)
  | call (f : FuncId) (args : List D)

def qo : Option D → Option Ac
  | some d => some (.q d)
  | none => none

/-- The operations of the library (or of one's own) that are taken from a table. -/
abbrev Orc := FuncId → Option (List D → Option Ac)

/-- A bound that is 0. -/
def zeroO (e : Env) : Option Opd → Bool
  | some x => asI (ev e x) == some 0
  | none => false

def slcD (e : Env) (k : SK) (x : D) (lo hi mx : Option Opd) : Option Ac :=
  match k with
  | .str => match x, mx with
    | .c (.v (.string s)), none =>
      match bnd e hi s.size s.size with
      | some h => match bnd e lo 0 h with
        | some l => some (.q (.c (.v (.string (s.extract l h)))))
        | none => none
      | none => none
    | _, _ => none
  | .sl esz => match x.slc with
    | some (n, cs) => match mx with
      | none => match bnd e hi n n with
        | some h => match bnd e lo 0 h with
          | some l => some (.q (.c (.sl (h - l) ((cs.drop (l * esz)).take ((h - l) * esz)))))
          | none => none
        | none => none
      | some _ => if zeroO e lo && (zeroO e hi && zeroO e mx) then some (.q (.fs 0 [])) else none
    | none => none
  | .arr n esz => match x, mx with
    | .mp id off, none => match bnd e hi n n with
      | some h => match bnd e lo 0 h with
        | some l => some (.fz id fun cs => if off + n * esz ≤ cs.length then some (.c (.sl (h - l) ((cs.drop (off + l * esz)).take ((h - l) * esz)))) else none)
        | none => none
      | none => none
    | _, _ => none

def iadD (k : SK) (x i : D) : Option Ac :=
  match asI i with
  | none => none
  | some i => match k with
    | .sl esz => match x.slc with
      | some (n, cs) => if 0 ≤ i ∧ i < (n : Int) then some (.q (.ip (cs.drop (i.toNat * esz)))) else none
      | none => none
    | .arr n esz => match x with
      | .mp id off => if 0 ≤ i ∧ i < (n : Int) then some (.q (.mp id (off + i.toNat * esz))) else none
      | .ip cs => if 0 ≤ i ∧ i < (n : Int) then some (.q (.ip (cs.drop (i.toNat * esz)))) else none
      | _ => none
    | .str => none

def partD (ag : Bool) (cs : List D) (off sz : Nat) : Option D :=
  if off + sz ≤ cs.length then mkV ag ((cs.drop off).take sz) else none

def idxD (ag : Bool) (k : SK) (x i : D) : Option D :=
  match asI i with
  | none => none
  | some i => match k, x with
    | .arr n esz, .ag cs => if 0 ≤ i ∧ i < (n : Int) then partD ag cs (i.toNat * esz) esz else none
    | .str, .c (.v (.string s)) => if 0 ≤ i then match s.data.toList[i.toNat]? with
        | some b => some (.c (.v (.int .u8 b.toNat)))
        | none => none
      else none
    | _, _ => none

/-- What is appended: how many elements, their cells. -/
def appSrc (str : Bool) (y : D) : Option (Nat × List P) :=
  match str with
  | true => match y with
    | .c (.v (.string s)) => some (s.size, bytesP s.data.toList)
    | _ => none
  | false => y.slc

/-- The bytes that an append may come to. -/
def room : Nat := 2 ^ 46

def appD (esz bytes : Nat) (str : Bool) (x y : D) : Option Ac :=
  match appSrc str y with
  | none => none
  | some (m, ys) => match x with
    | .fs n cs => if m = 0 then some (.q x) else
        if (n + m) * bytes ≤ room ∧ n + m ≤ room ∧ cs.length = n * esz ∧ ys.length = m * esz then some (.tp fun id => .ow id 0 (n + m) (cs ++ ys)) else none
    | .c (.sl n cs) => if m = 0 then some (.q x) else if n = 0 then none else none
    | .ow id ver n cs =>
        if n ≠ 0 ∧ (n + m) * bytes ≤ room ∧ n + m ≤ room ∧ cs.length = n * esz ∧ ys.length = m * esz then some (.tw id ver (.ow id (ver + 1) (n + m) (cs ++ ys))) else none
    | _ => none

def max2D (a b : D) : Option D :=
  match a, b with
  | .c (.v (.int k x)), .c (.v (.int _ y)) => some (.c (.v (.int k (if y > x then y else x))))
  | _, _ => none
def min2D (a b : D) : Option D :=
  match a, b with
  | .c (.v (.int k x)), .c (.v (.int _ y)) => some (.c (.v (.int k (if y < x then y else x))))
  | _, _ => none
def foldO (f : D → D → Option D) : D → List D → Option D
  | a, [] => some a
  | a, x :: r => match f a x with
    | some b => foldO f b r
    | none => none

def callA (orc : Orc) (f : FuncId) (args : List D) : Option Ac :=
  match orc f with
  | some g => g (frzL args)
  | none => some (.call f (frzL args))

def act (orc : Orc) (e : Env) : AOp → Option Ac
  | .mv x => some (.q (ev e x))
  | .pick c a b => match ev e c with
    | .c (.v (.bool t)) => some (.q (if t then ev e a else ev e b))
    | _ => none
  | .alloc t z => some (.push t false (z.map zD))
  | .box t sz x => if (ev e x).fits sz = true then some (.push t false (ev e x).cells) else none
  | .build z ps => (fillD e (z.map zD) ps).map fun cs => .q (.ag cs)
  | .bsl _ n z ps => (fillP e z ps).map fun cs => .q (.fs n cs)
  | .mks _ n z => some (.q (.fs n z))
  | .rng x => match ev e x with
    | .c (.v (.string s)) => some (.push 0 true [.c (.v (.string s)), .c (.v (.int .i64 0))])
    | _ => none
  | .nxt x => match ev e x with
    | .mp id 0 => some (.nx id)
    | _ => none
  | .load ag sz a => match ev e a with
    | .ip cs => if sz ≤ cs.length then qo (mkV ag ((cs.take sz).map .c)) else none
    | .mp id off => some (.rd id fun cs => partD ag cs off sz)
    | _ => none
  | .store sz a x => match ev e a with
    | .mp id off => if (ev e x).fits sz = true then some (.wr id fun cs => if off + sz ≤ cs.length then some (setAt cs off (ev e x).cells) else none) else none
    | _ => none
  | .nilck x => match ev e x with
    | .ip cs => some (.q (.ip cs))
    | .mp id off => some (.q (.mp id off))
    | _ => none
  | .bin op k x y => qo (binD op k (ev e x) (ev e y))
  | .fnil n x => qo (fnilD n (ev e x))
  | .snil n x => qo (snilD n (ev e x))
  | .inil n x => qo (inilD n (ev e x))
  | .tas t x => qo (tasD t (ev e x))
  | .un op x => qo (unD op (ev e x))
  | .conv k x => match k with
    | .s2b _ => match ev e x with
      | .c (.v (.string s)) => some (.tp fun id => .ow id 0 s.size (bytesP s.data.toList))
      | _ => none
    | k => qo (convD k (ev e x))
  | .mki t x => some (.q (.ifc t (ev e x)))
  | .mkf f cs => some (.q (.fn f (cs.map (ev e))))
  | .slc k x lo hi mx => slcD e k (ev e x) lo hi mx
  | .fld ag off sz x => match ev e x with
    | .ag cs => qo (partD ag cs off sz)
    | _ => none
  | .fad off x => match ev e x with
    | .ip cs => some (.q (.ip (cs.drop off)))
    | .mp id o => some (.q (.mp id (o + off)))
    | _ => none
  | .iad k x i => iadD k (ev e x) (ev e i)
  | .idx ag k x i => qo (idxD ag k (ev e x) (ev e i))
  | .ext x i => match ev e x with
    | .tu vs => match vs[i]? with
      | some d => some (.q d)
      | none => none
    | _ => none
  | .len k x => match k with
    | .arr n => some (.q (.c (.v (.int .i64 n))))
    | .str => match ev e x with
      | .c (.v (.string s)) => some (.q (.c (.v (.int .i64 s.size))))
      | _ => none
    | .sl => match (ev e x).slc with
      | some (n, _) => some (.q (.c (.v (.int .i64 n))))
      | none => none
  | .app _ esz b str x y => appD esz b str (ev e x) (ev e y)
  | .mx xs => match xs with
    | [] => none
    | x :: r => qo (foldO max2D (ev e x) (r.map (ev e)))
  | .mn xs => match xs with
    | [] => none
    | x :: r => qo (foldO min2D (ev e x) (r.map (ev e)))
  | .call f args => callA orc f (args.map (ev e))
  | .dyn x args => match ev e x with
    | .fn f cap => callA orc f (args.map (ev e) ++ cap)
    | _ => none
  | .panic x => match ev e x with
    | .ifc t d => some (.pan (.ifc t d.frz))
    | _ => none

/-! ### states -/
inductive Res where
  | ret (d : D)
  | pan (d : D)
abbrev CallF := FuncId → List D → List VO → List Nat → Option (Res × List VO × List Nat)

def setV (V : List VO) (id : Nat) (o : VO) : List VO := V.set id o

inductive Lab where
  | q
  | rd (id : Nat)
  | wr (id : Nat)
  | ps (id : Nat)
  | tw (id : Nat)
  | tp (id : Nat)
  | pan
  | open

/-- One step. Some (inl (v, V', T')) | some (inr panic). -/
inductive Out1 where
  | ok (d : D) (V : List VO) (T : List Nat)
  | pan (d : D) (V : List VO) (T : List Nat)

def pureL : List D → Option (List P) := mapO cellPure

def doAc (call : CallF) (V : List VO) (T : List Nat) : Ac → Option (Out1 × Lab)
  | .q d => some (.ok d V T, .q)
  | .rd id f => match V[id]? with
    | some o => if o.it then none else match f o.cs with
      | some d => some (.ok d V T, .rd id)
      | none => none
    | none => none
  | .fz id f => match V[id]? with
    | some o => if o.it then none else match pureL o.cs with
      | some cs => match f cs with
        | some d => some (.ok d (V.set id ⟨o.t, false, true, cs.map .c⟩) T, .wr id)
        | none => none
      | none => none
    | none => none
  | .wr id f => match V[id]? with
    | some o => if o.fz || o.it then none else match f o.cs with
      | some cs => some (.ok und (V.set id ⟨o.t, false, false, cs⟩) T, .wr id)
      | none => none
    | none => none
  | .push t it cs => some (.ok (.mp V.length 0) (V ++ [⟨t, it, false, cs⟩]) T, .ps V.length)
  | .nx id => match V[id]? with
    | some o => match o.it, o.cs with
      | true, [.c (.v (.string s)), .c (.v (.int .i64 (.ofNat p)))] =>
        if p < s.size then
          some (.ok (.tu [.c (.v (.bool true)), .c (.v (.int .i64 p)), .c (.v (.int .i32 (Utf8.decode s p).1))])
            (V.set id ⟨o.t, true, false, [.c (.v (.string s)), .c (.v (.int .i64 (p + (Utf8.decode s p).2 : Nat)))]⟩) T, .wr id)
        else some (.ok (.tu [.c (.v (.bool false))]) V T, .rd id)
      | _, _ => none
    | none => none
  | .tw id ver d => match T[id]? with
    | some k => if k = ver then some (.ok d V (T.set id (ver + 1)), .tw id) else none
    | none => none
  | .tp mk => some (.ok (mk T.length) V (T ++ [0]), .tp T.length)
  | .pan d => if d.closed then some (.pan d V T, .pan) else none
  | .call f args =>
    if closedL args then
      match call f args [] [] with
      | some (.ret d, V', T') => if d.closed then some (.ok d V T, .q)
          else some (.ok (d.shift V.length T.length) (V ++ V'.map fun o => ⟨o.t, o.it, o.fz, shiftL V.length T.length o.cs⟩) (T ++ T'), .open)
      | some (.pan d, _, _) => if d.closed then some (.pan d V T, .pan) else none
      | none => none
    else
      match call f args V T with
      | some (.ret d, V', T') =>
        if d.closed && (V'.take V.length).all (fun o => lowL V.length T.length o.cs) && V.length ≤ V'.length && T.length ≤ T'.length then some (.ok d (V'.take V.length) (T'.take T.length), .open) else none
      | _ => none

def guardD (e : Env) : Option (Nat × Bool) → Option Bool
  | none => some true
  | some (t, w) => match e t with
    | .c (.v (.bool b)) => some (b == w)
    | .tu [] => some false
    | _ => none

def putE (e : Env) : Option Nat → D → Env
  | some d, x => upd e d x
  | none, _ => e

inductive Out where
  | nrm
  | ext (id : Nat)
  | ret
  | pan (d : D)

def runOps (orc : Orc) (call : CallF) : List AOper → St → Option (Out × St)
  | [], s => some (.nrm, s)
  | o :: r, s => match guardD s.e o.g with
    | none => none
    | some false => runOps orc call r ⟨putE s.e o.d und, s.V, s.T⟩
    | some true => match act orc s.e o.op with
      | none => none
      | some a => match doAc call s.V s.T a with
        | none => none
        | some (.ok x V T, _) => runOps orc call r ⟨putE s.e o.d x, V, T⟩
        | some (.pan x V T, _) => some (.pan x, ⟨s.e, V, T⟩)

/-! ### regions whose order is open -/
def conf : Lab → Lab → Bool
  | .q, _ | _, .q => true
  | .rd _, .rd _ => true
  | .rd i, .wr j | .wr j, .rd i => i != j
  | .rd i, .ps j | .ps j, .rd i => i < j
  | .wr i, .wr j => i != j
  | .wr i, .ps j | .ps j, .wr i => i < j
  | .tw i, .tw j => i != j
  | .tw i, .tp j | .tp j, .tw i => i < j
  | .tw _, .rd _ | .tw _, .wr _ | .tw _, .ps _ | .rd _, .tw _ | .wr _, .tw _ | .ps _, .tw _ => true
  | .tp _, .rd _ | .tp _, .wr _ | .tp _, .ps _ | .rd _, .tp _ | .wr _, .tp _ | .ps _, .tp _ => true
  | .pan, .rd _ | .rd _, .pan => true
  | _, _ => false

/-- One operation of such a region; no panic. -/
def stepO (orc : Orc) (call : CallF) (o : AOper) (s : St) : Option (Lab × St) :=
  match guardD s.e o.g with
  | none => none
  | some false => some (.q, ⟨putE s.e o.d und, s.V, s.T⟩)
  | some true => match act orc s.e o.op with
    | none => none
    | some a => match doAc call s.V s.T a with
      | some (.ok x V T, l) => some (l, ⟨putE s.e o.d x, V, T⟩)
      | _ => none
/-- In the order of the text; the labels. -/
def runDrw (orc : Orc) (call : CallF) : List AOper → St → Option (List Lab × St)
  | [], s => some ([], s)
  | o :: r, s => match stepO orc call o s with
    | none => none
    | some (l, s1) => match runDrw orc call r s1 with
      | none => none
      | some (ls, s2) => some (l :: ls, s2)

def confAll (ls : List Lab) (pairs : List (Nat × Nat)) : Bool :=
  pairs.all fun (k, j) => match ls[k]?, ls[j]? with
    | some a, some b => conf a b
    | _, _ => false

/-! A panic inside such a region: what waits for it is not done; whatever else may be done ahead of it, in any order. -/
def blk (ps : List (Nat × Nat)) (bl : List Nat) (i : Nat) : Bool := bl.any fun k => !ps.contains (k, i)
def panO (orc : Orc) (call : CallF) (o : AOper) (s : St) : Option D :=
  match guardD s.e o.g with
  | some true => match act orc s.e o.op with
    | some a => match doAc call s.V s.T a with
      | some (.pan d _ _, _) => some d
      | _ => none
    | none => none
  | _ => none
/-- Which one panics in the text's order. -/
def panAt (orc : Orc) (call : CallF) : List AOper → St → Option Nat
  | [], _ => none
  | o :: r, s => match panO orc call o s with
    | some _ => some 0
    | none => match stepO orc call o s with
      | none => none
      | some (_, s1) => match panAt orc call r s1 with
        | none => none
        | some j => some (j + 1)
def runPanW (orc : Orc) (call : CallF) (ps : List (Nat × Nat)) (j0 : Nat) : Nat → List AOper → List Nat → St → Option (List (Option Lab) × St)
  | _, [], _, s => some ([], s)
  | i, o :: r, bl, s => if i = j0 ∨ blk ps bl i = true then match runPanW orc call ps j0 (i + 1) r (i :: bl) s with
      | none => none
      | some (ls, s2) => some (none :: ls, s2)
    else match stepO orc call o s with
      | none => none
      | some (l, s1) => match runPanW orc call ps j0 (i + 1) r bl s1 with
        | none => none
        | some (ls, s2) => some (some l :: ls, s2)
def confAllO (ls : List (Option Lab)) (pairs : List (Nat × Nat)) : Bool :=
  pairs.all fun (k, j) => match ls[k]?, ls[j]? with
    | some (some a), some (some b) => conf a b
    | _, _ => true
def runPan (orc : Orc) (call : CallF) (ps : List (Nat × Nat)) (ops : List AOper) (s : St) : Option D :=
  match panAt orc call ops s with
  | none => none
  | some j0 => match ops[j0]? with
    | none => none
    | some o => match runPanW orc call ps j0 0 ops [] s with
      | none => none
      | some (ls, s2) => if confAllO ls ps then panO orc call o s2 else none
def execDrw (orc : Orc) (call : CallF) (ops : List AOper) (ps : List (Nat × Nat)) (s : St) : Option (Out × St) :=
  match runDrw orc call ops s with
  | some (ls, s') => if confAll ls ps then some (.nrm, s') else none
  | none => match runPan orc call ps ops s with
    | some d => some (.pan d, s)
    | none => none

/-! ### code -/
def execC (orc : Orc) (call : CallF) (loopF : ACode → St → Option (Out × St)) : ACode → St → Option (Out × St)
  | .skip, s => some (.nrm, s)
  | .reg ops, s => runOps orc call ops s
  | .drw ops pairs, s => execDrw orc call ops pairs s
  | .seq a b, s => match execC orc call loopF a s with
    | some (.nrm, s') => execC orc call loopF b s'
    | r => r
  | .cond c a b, s => match ev s.e c with
    | .c (.v (.bool t)) => if t then execC orc call loopF a s else execC orc call loopF b s
    | _ => none
  | .block id c, s => match execC orc call loopF c s with
    | some (.ext i, s') => if i = id then some (.nrm, s') else some (.ext i, s')
    | r => r
  | .loop c, s => match execC orc call loopF c s with
    | some (.nrm, s') => loopF c s'
    | r => r
  | .exit id, s => some (.ext id, s)
  | .ret, s => some (.ret, s)

def resD (s : St) : ARes → Option D
  | .t n => some (s.e n)
  | .cell ag sz a => match s.e a with
    | .mp id off => match s.V[id]? with
      | some o => if o.it then none else partD ag o.cs off sz
      | none => none
    | _ => none
def ressD (s : St) (l : List ARes) : Option D :=
  match mapO (resD s) l with
  | some [x] => some x.frz
  | some xs => some (.tu (frzL xs))
  | none => none

def initE (args : List D) : Env := fun n => match args[n]? with | some d => d | none => und

def execN (orc : Orc) (F : FuncId → Option AFn) : Nat → ACode → St → Option (Out × St)
  | 0, _, _ => none
  | n + 1, c, s => execC orc (fun f args V T => match F f with
      | none => none
      | some fn => match execN orc F n fn.body ⟨initE args, V, T⟩ with
        | some (.nrm, s') | some (.ret, s') => match ressD s' fn.res with
          | some d => some (.ret d, s'.V, s'.T)
          | none => none
        | some (.pan d, s') => some (.pan d, s'.V, s'.T)
        | _ => none) (fun c s => execN orc F n (.loop c) s) c s

def callN (orc : Orc) (F : FuncId → Option AFn) (n : Nat) : CallF := fun f args V T => match F f with
  | none => none
  | some fn => match execN orc F n fn.body ⟨initE args, V, T⟩ with
    | some (.nrm, s') | some (.ret, s') => match ressD s' fn.res with
      | some d => some (.ret d, s'.V, s'.T)
      | none => none
    | some (.pan d, s') => some (.pan d, s'.V, s'.T)
    | _ => none

end Go.Abs
