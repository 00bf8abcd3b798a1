/- The abstract interpreter: its values, heaps and steps. -/
import GoSem.Dispatch
import GoSem.Machine.Return
import Derived.Orders
set_option linter.unusedVariables false
namespace Go.Ai

/-- Types of data that nobody writes any more. -/
inductive Ty where
  | int (k : IntKind) | byte | bool | str | list (t : Ty) | prod (a b : Ty)
  deriving DecidableEq

/-- What data of a type are. -/
def Ty.D : Ty → Type
  | .int _ => Int
  | .byte => UInt8
  | .bool => Bool
  | .str => List UInt8
  | .list t => List t.D
  | .prod a b => a.D × b.D

def Ty.sz : Ty → Nat
  | .prod a b => a.sz + b.sz
  | _ => 1

def Ty.dflt : (t : Ty) → t.D
  | .int _ => (0 : Int)
  | .byte => (0 : UInt8)
  | .bool => false
  | .str => ([] : List UInt8)
  | .list _ => []
  | .prod a b => (a.dflt, b.dflt)

/-- Abstract values. -/
inductive AV : Type where
  | und
  | bool (b : Bool)
  | int (k : IntKind) (n : Int)
  | str (s : List UInt8)
  | nilp | nils | nilf
  | sl (t : Ty) (xs : List t.D)
  | sn (t : Ty) (xs : List t.D)
  | cp (cs : List AV)
  | agg (cs : List AV)
  | tup (vs : List AV)
  | func (f : Nat) (first cap : List AV)
  | ptr (id off : Nat)
  | ept (id i off : Nat)
  | own (id : Nat)

/-- Abstract objects. -/
inductive AO where
  | gone
  | box (cs : List AV)
  | fbox (cs : List AV)
  | row (t : Ty) (xs : List t.D)
  | frow (t : Ty) (xs : List t.D)

def lookV : List (Nat × AV) → Nat → AV
  | [], _ => .und
  | (t, v) :: r, n => bif Nat.beq t n then v else lookV r n

def lookO : List (Nat × AO) → Nat → AO
  | [], _ => .gone
  | (t, v) :: r, n => bif Nat.beq t n then v else lookO r n

/-- A state: the frame's size, its temporaries, the heap, the next object's number. -/
structure St where
  n : Nat
  tm : List (Nat × AV)
  hp : List (Nat × AO)
  nx : Nat

def St.setO (s : St) (id : Nat) (o : AO) : St := ⟨s.n, s.tm, (id, o) :: s.hp, s.nx⟩
def St.new (s : St) (o : AO) : St := ⟨s.n, s.tm, (s.nx, o) :: s.hp, s.nx + 1⟩
def St.setT (s : St) (t : Nat) (v : AV) : St := ⟨s.n, (t, v) :: s.tm, s.hp, s.nx⟩

inductive TK where
  | other | str | bool | int (k : IntKind) | slice (e : Nat) | arr (n e : Nat) | struct (fs : List (Nat × Nat)) | ptr | func

/-- What is known of a type. -/
structure TI where
  size : Nat
  agg : Bool
  zero : List AV
  ty : Option Ty
  kind : TK
  bytes : Nat
  eqs : Bool

def unpack : (t : Ty) → t.D → List AV
  | .int k, n => [.int k n]
  | .byte, b => [.int .u8 (UInt8.toNat b)]
  | .bool, b => [.bool b]
  | .str, s => [.str s]
  | .list t, xs => [.sl t xs]
  | .prod a b, p => unpack a p.1 ++ unpack b p.2

def cast {t t' : Ty} (h : t = t') (xs : List t.D) : List t'.D := h ▸ xs

def pack : (t : Ty) → List AV → Option (t.D × List AV)
  | .int k, .int k' n :: r => bif decide (k = k') then some (n, r) else none
  | .byte, .int .u8 n :: r => some (UInt8.ofNat n.toNat, r)
  | .bool, .bool b :: r => some (b, r)
  | .str, .str s :: r => some (s, r)
  | .list t, .sl t' xs :: r => if h : t' = t then some (cast h xs, r) else none
  | .list t, .nils :: r => some ([], r)
  | .prod a b, cs =>
    match pack a cs with
    | some (x, r) => (match pack b r with
      | some (y, r') => some ((x, y), r')
      | none => none)
    | none => none
  | _, _ => none

def cellsOf : AV → Option (List AV)
  | .und => none
  | .tup _ => none
  | .agg cs => some cs
  | v => some [v]

/-- A value of so many cells. -/
def valOf (agg : Bool) (cs : List AV) : AV :=
  bif agg then .agg cs else match cs with
    | [v] => v
    | _ => .und

/-- Constants. -/
def ofVal1 : Value → AV
  | .bool b => .bool b
  | .int k n => bif decide (k = .u8) then (bif decide (0 ≤ n) && decide (n ≤ 255) then .int k n else .und) else .int k n
  | .string s => .str s.data.toList
  | .pointer none => .nilp
  | .slice none 0 0 => .nils
  | .nilFunc => .nilf
  | _ => .und

def one1 : Value → Bool
  | .agg _ => false
  | .tuple _ => false
  | _ => true

def ofVal : Value → AV
  | .agg cs => bif cs.toList.all one1 then .agg (cs.toList.map ofVal1) else .und
  | v => ofVal1 v

def ev (tm : List (Nat × AV)) : Operand → AV
  | .tmp t => lookV tm t
  | .const v => ofVal v
  | .global _ => .und
  | .func f => .func f [] []

/-- The bound of what grows. -/
def lim : Nat := 2 ^ 32

def inb (i : Int) (n : Nat) : Bool := decide (0 ≤ i) && decide (i < (n : Int))

def repl (cs : List AV) (off : Nat) (vs : List AV) : List AV := cs.take off ++ vs ++ cs.drop (off + vs.length)

def bitsOp (op : BinOp) (k : IntKind) (x y : Int) : Option Int :=
  let a := BitVec.ofInt k.bits x
  let b := BitVec.ofInt k.bits y
  match op with
  | .and => some (k.wrap (a &&& b).toNat)
  | .or => some (k.wrap (a ||| b).toNat)
  | .xor => some (k.wrap (a ^^^ b).toNat)
  | .andNot => some (k.wrap (a &&& ~~~b).toNat)
  | _ => none

/-- Equality of cells that hold no references. -/
def eqCells : List AV → List AV → Option Bool
  | [], [] => some true
  | .bool a :: x, .bool b :: y => (eqCells x y).map fun r => bif a == b then r else false
  | .int k a :: x, .int k' b :: y => bif decide (k = k') then (eqCells x y).map fun r => bif a == b then r else false else none
  | .str a :: x, .str b :: y => (eqCells x y).map fun r => bif a == b then r else false
  | _, _ => none

/-- Cells of the same kinds. -/
def likes : List AV → List AV → Bool
  | [], [] => true
  | .bool _ :: r, .bool _ :: q => likes r q
  | .int k _ :: r, .int k' _ :: q => decide (k' = k) && likes r q
  | .str _ :: r, .str _ :: q => likes r q
  | _, _ => false

section steps
variable {ρ : Type}

def intBin (op : BinOp) (k : IntKind) (x y : Int) (K : AV → Option ρ) : Option ρ :=
  match op with
  | .add => K (.int k (k.wrap (x + y)))
  | .sub => K (.int k (k.wrap (x - y)))
  | .mul => K (.int k (k.wrap (x * y)))
  | .quo => bif decide (y = 0) then none else K (.int k (k.wrap (x.tdiv y)))
  | .rem => bif decide (y = 0) then none else K (.int k (x.tmod y))
  | .and => K (.int k (k.wrap (BitVec.ofInt k.bits x &&& BitVec.ofInt k.bits y).toNat))
  | .or => K (.int k (k.wrap (BitVec.ofInt k.bits x ||| BitVec.ofInt k.bits y).toNat))
  | .xor => K (.int k (k.wrap (BitVec.ofInt k.bits x ^^^ BitVec.ofInt k.bits y).toNat))
  | .andNot => K (.int k (k.wrap (BitVec.ofInt k.bits x &&& ~~~(BitVec.ofInt k.bits y)).toNat))
  | .eql => K (.bool (x == y))
  | .neq => K (.bool (x != y))
  | .lss => K (.bool (decide (x < y)))
  | .leq => K (.bool (decide (x ≤ y)))
  | .gtr => K (.bool (decide (x > y)))
  | .geq => K (.bool (decide (x ≥ y)))
  | _ => none

def strBin (op : BinOp) (x y : List UInt8) (K : AV → Option ρ) : Option ρ :=
  match op with
  | .add => bif decide (x.length + y.length ≤ lim) then K (.str (x ++ y)) else none
  | .eql => K (.bool (x == y))
  | .neq => K (.bool (!(x == y)))
  | .lss => K (.bool (Op.bytesLess x y))
  | .leq => K (.bool (Op.bytesLess x y || x == y))
  | .gtr => K (.bool (!(Op.bytesLess x y || x == y)))
  | .geq => K (.bool (!(Op.bytesLess x y)))
  | _ => none

/-- '==' of what is no number and no text; none: it isn't known. -/
def eqAV (ti : TI) (x y : AV) : Option Bool :=
  match ti.kind with
  | .bool => (match x, y with
    | .bool a, .bool b => some (a == b)
    | _, _ => none)
  | .ptr => (match x, y with
    | .nilp, .nilp => some true
    | .nilp, .ptr _ _ => some false
    | .ptr _ _, .nilp => some false
    | .nilp, .ept _ _ _ => some false
    | .ept _ _ _, .nilp => some false
    | .nilp, .cp _ => some false
    | .cp _, .nilp => some false
    | _, _ => none)
  | .slice _ => (match x, y with
    | .nils, .nils => some true
    | .sn _ _, .nils => some false
    | _, _ => none)
  | .func => (match x, y with
    | .nilf, .nilf => some true
    | .func _ _ _, .nilf => some false
    | .nilf, .func _ _ _ => some false
    | _, _ => none)
  | .struct _ => (match x, y with
    | .agg a, .agg b => bif ti.eqs && likes ti.zero a && likes ti.zero b then eqCells a b else none
    | _, _ => none)
  | .arr _ _ => (match x, y with
    | .agg a, .agg b => bif ti.eqs && likes ti.zero a && likes ti.zero b then eqCells a b else none
    | _, _ => none)
  | _ => none

def binStep (op : BinOp) (ti : TI) (x y : AV) (K : AV → Option ρ) : Option ρ :=
  match x, y with
  | .int k a, .int k' b =>
    (match op with
    | .shl => bif decide (b < 0) then none else K (.int k (k.wrap (a * 2 ^ (min b.toNat k.bits))))
    | .shr => bif decide (b < 0) then none else K (.int k (a.fdiv (2 ^ (min b.toNat k.bits))))
    | op => bif decide (k = k') then intBin op k a b K else none)
  | .str a, .str b => strBin op a b K
  | x, y =>
    match op with
    | .eql => (match eqAV ti x y with | some r => K (.bool r) | none => none)
    | .neq => (match eqAV ti x y with | some r => K (.bool (!r)) | none => none)
    | _ => none

def unStep (op : UnOp) (x : AV) (K : AV → Option ρ) : Option ρ :=
  match op, x with
  | .neg, .int k n => K (.int k (k.wrap (0 - n)))
  | .xor, .int k n => K (.int k (k.wrap (BitVec.ofInt k.bits (if k.signed then -1 else k.max) ^^^ BitVec.ofInt k.bits n).toNat))
  | .not, .bool b => K (.bool (!b))
  | _, _ => none

/-- What an address holds, so many cells. -/
def loadStep (ti : TI) (hp : List (Nat × AO)) (a : AV) (K : AV → Option ρ) : Option ρ :=
  let fin (cs : List AV) : Option ρ := bif Nat.beq cs.length ti.size && Nat.ble 1 ti.size then K (valOf ti.agg cs) else none
  match a with
  | .ptr id off =>
    (match lookO hp id with
    | .box cs => fin ((cs.drop off).take ti.size)
    | .fbox cs => fin ((cs.drop off).take ti.size)
    | _ => none)
  | .cp cs => fin (cs.take ti.size)
  | .ept id i off =>
    (match lookO hp id with
    | .row t xs => fin (((unpack t (xs.getD i t.dflt)).drop off).take ti.size)
    | .frow t xs => fin (((unpack t (xs.getD i t.dflt)).drop off).take ti.size)
    | _ => none)
  | _ => none

/-- Slices that are kept in data are frozen. -/
def freezeV (s : St) : AV → AV × St
  | .own id =>
    (match lookO s.hp id with
    | .row t xs => (.sl t xs, s.setO id (.frow t xs))
    | .frow t xs => (.sl t xs, s)
    | _ => (.und, s))
  | v => (v, s)

def freezeL (s : St) : List AV → List AV × St
  | [] => ([], s)
  | v :: r =>
    let (v', s1) := freezeV s v
    let (r', s2) := freezeL s1 r
    (v' :: r', s2)

/-- Values that go into data. -/
def freezeA (s : St) : AV → AV × St
  | .agg cs => match freezeL s cs with
    | (cs', s') => (.agg cs', s')
  | v => freezeV s v

def freezeAs (s : St) : List AV → List AV × St
  | [] => ([], s)
  | v :: r => match freezeA s v with
    | (v', s1) => match freezeAs s1 r with
      | (r', s2) => (v' :: r', s2)

/-- Values of a type, as data. -/
def packAll (t : Ty) : List AV → Option (List t.D)
  | [] => some []
  | v :: r =>
    match cellsOf v with
    | none => none
    | some cs =>
      match pack t cs with
      | some (x, []) => (match packAll t r with
        | some xs => some (x :: xs)
        | none => none)
      | _ => none

def storeStep (ti : TI) (s : St) (a v : AV) (K : St → Option ρ) : Option ρ :=
  match cellsOf v with
  | none => none
  | some vs =>
    bif Nat.beq vs.length ti.size && Nat.ble 1 ti.size then
      match a with
      | .ptr id off =>
        (match lookO s.hp id with
        | .box cs => bif Nat.ble (off + ti.size) cs.length then K (s.setO id (.box (repl cs off vs))) else none
        | _ => none)
      | .ept id i off =>
        (match freezeL s vs with
        | (us, s1) =>
          (match lookO s1.hp id with
          | .row t xs =>
            bif Nat.ble (off + ti.size) t.sz then
              match pack t (repl (unpack t (xs.getD i t.dflt)) off us) with
              | some (x, []) => K (s1.setO id (.row t (xs.set i x)))
              | _ => none
            else none
          | _ => none))
      | _ => none
    else none

/-- A slice's or a text's content. -/
inductive Seq where
  | bad | data (t : Ty) (xs : List t.D) | text (s : List UInt8) | empty

def seqOf (hp : List (Nat × AO)) : AV → Seq
  | .nils => .empty
  | .sl t xs => .data t xs
  | .sn t xs => .data t xs
  | .own id => (match lookO hp id with | .row t xs => .data t xs | .frow t xs => .data t xs | _ => .bad)
  | .str s => .text s
  | _ => .bad

def seqAs (t : Ty) : Seq → Option (List t.D)
  | .bad => none
  | .empty => some []
  | .data t' xs => if h : t' = t then some (cast h xs) else none
  | .text s => if h : Ty.byte = t then some (cast h s) else none

def appendStep (ti te : TI) (s : St) (x y : AV) (K : AV → St → Option ρ) : Option ρ :=
  match (bif Nat.ble te.bytes 10000 && Nat.ble 1 te.bytes then te.ty else none) with
  | none => none
  | some t =>
    match seqAs t (seqOf s.hp y) with
    | none => none
    | some ys =>
      match x with
      | .nils => bif decide (ys.length ≤ lim) then K (.own s.nx) (s.new (.row t ys)) else none
      | .own id =>
        (match lookO s.hp id with
        | .row t' xs =>
          if h : t' = t then
            bif decide (xs.length + ys.length ≤ lim) then K (.own s.nx) ((s.setO id .gone).new (.row t (cast h xs ++ ys))) else none
          else none
        | _ => none)
      | _ => none

def lenStep (ti : TI) (hp : List (Nat × AO)) (x : AV) (K : AV → Option ρ) : Option ρ :=
  match ti.kind with
  | .arr n _ => K (.int .i64 n)
  | .slice _ => (match seqOf hp x with
    | .empty => K (.int .i64 0)
    | .data _ xs => K (.int .i64 xs.length)
    | _ => none)
  | .str => (match x with
    | .str s => K (.int .i64 s.length)
    | _ => none)
  | _ => none

def minStep (x y : AV) (K : AV → Option ρ) : Option ρ :=
  match x, y with
  | .int k a, .int k' b => bif decide (k = k') then K (.int k (if b < a then b else a)) else none
  | .str a, .str b => K (.str (bif Op.bytesLess a b || a == b then a else b))
  | _, _ => none

def maxStep (x y : AV) (K : AV → Option ρ) : Option ρ :=
  match x, y with
  | .int k a, .int k' b => bif decide (k = k') then K (.int k (if b > a then b else a)) else none
  | .str a, .str b => K (.str (bif !(Op.bytesLess a b) then a else b))
  | _, _ => none

def cutLo (lo : Option AV) (K : Nat → Nat → Option ρ) (h : Nat) : Option ρ :=
  match lo with
  | none => K 0 h
  | some (.int _ l) => bif decide (0 ≤ l) && decide (l ≤ (h : Int)) then K l.toNat h else none
  | some _ => none

/-- Bounds of a cut. -/
def cutStep (n : Nat) (lo hi : Option AV) (K : Nat → Nat → Option ρ) : Option ρ :=
  match hi with
  | none => cutLo lo K n
  | some (.int _ h) => bif decide (0 ≤ h) && decide (h ≤ (n : Int)) then cutLo lo K h.toNat else none
  | some _ => none

/-- A cut of data, of the type that the table says. -/
def sliceData (te : TI) (t : Ty) (xs : List t.D) (s : St) (lo hi : Option AV) (K : AV → St → Option ρ) : Option ρ :=
  if te.ty = some t then cutStep xs.length lo hi fun l h => K (.sl t ((xs.take h).drop l)) s else none

def sliceStep (ti te : TI) (s : St) (x : AV) (lo hi : Option AV) (K : AV → St → Option ρ) : Option ρ :=
  match ti.kind with
  | .str => (match x with
    | .str b => cutStep b.length lo hi fun l h => K (.str ((b.take h).drop l)) s
    | _ => none)
  | .slice _ =>
    (match x with
    | .nils => bif Nat.ble 1 te.size then cutStep 0 lo hi fun _ _ => K .nils s else none
    | .sl t xs => sliceData te t xs s lo hi K
    | .own id =>
      (match lo, hi with
      | none, none => bif Nat.ble 1 te.size then K (.own id) s else none
      | _, _ =>
        match freezeV s (.own id) with
        | (.sl t xs, s1) => sliceData te t xs s1 lo hi K
        | _ => none)
    | _ => none)
  | .arr n _ =>
    (match x, lo, hi with
    | .ptr id 0, none, none =>
      (match lookO s.hp id, te.ty with
      | .box cs, some t =>
        (match packAll t cs with
        | some xs => bif Nat.beq cs.length n && Nat.beq te.size 1 then K (.sl t xs) (s.setO id (.fbox cs)) else none
        | none => none)
      | _, _ => none)
    | _, _, _ => none)
  | _ => none

def fillCells (T : Nat → TI) (place : Nat → Option (Nat × Nat)) (cs : List AV) : List (Nat × AV) → Option (List AV)
  | [] => some cs
  | (i, v) :: r =>
    match place i with
    | none => none
    | some (off, size) =>
      match cellsOf v with
      | none => none
      | some vs => bif Nat.beq vs.length size && Nat.ble (off + size) cs.length then fillCells T place (repl cs off vs) r else none

def convStep (ts td te : TI) (s : St) (x : AV) (K : AV → St → Option ρ) : Option ρ :=
  match ts.kind, td.kind with
  | .int _, .int k => (match x with
    | .int _ n => K (.int k (k.wrap n)) s
    | _ => none)
  | .str, .str => (match x with
    | .str b => K (.str b) s
    | _ => none)
  | .slice _, .str => (match te.kind with
    | .int .u8 => (match seqOf s.hp x with
      | .empty => K (.str []) s
      | .data .byte xs => K (.str xs) s
      | _ => none)
    | _ => none)
  | .str, .slice _ => (match te.kind, x with
    | .int .u8, .str b => bif decide (b.length ≤ lim) then K (.own s.nx) (s.new (.row .byte b)) else none
    | _, _ => none)
  | _, _ => none

/-- A text's bytes, made anew, as their own type. -/
def markStep (te : TI) (s : St) (x : AV) (K : AV → St → Option ρ) : Option ρ :=
  match te.kind, x with
  | .int .u8, .own id =>
    (match lookO s.hp id with
    | .row .byte xs => bif Nat.ble 1 xs.length then K (.sl .byte xs) (s.setO id .gone) else none
    | _ => none)
  | _, _ => none

def structFields : TK → List (Nat × Nat)
  | .struct fs => fs
  | _ => []

def fieldOff (T : Nat → TI) (t f : Nat) : Option (Nat × Nat) :=
  match (structFields (T t).kind)[f]? with
  | some (off, ft) => some (off, (T ft).size)
  | none => none

def addOff (x : AV) (k : Nat) : AV :=
  match x with
  | .ptr id off => .ptr id (off + k)
  | .cp cs => .cp (cs.drop k)
  | .ept id i off => .ept id i (off + k)
  | _ => .und

def placeIn (T : Nat → TI) (t : Nat) : Nat → Option (Nat × Nat) :=
  match (T t).kind with
  | .struct fs => fun i => (match fs[i]? with | some (off, ft) => some (off, (T ft).size) | none => none)
  | .arr _ e => fun i => some (i * (T e).size, (T e).size)
  | _ => fun _ => none

def buildOk (T : Nat → TI) (t : Nat) : Bool :=
  match (T t).kind with
  | .struct fs => Nat.ble 1 (T t).size && fs.all fun p => Nat.ble 1 (T p.2).size
  | .arr _ e => Nat.ble 1 (T t).size && Nat.ble 1 (T e).size
  | _ => false

end steps

/-- What is asked of the callees. -/
abbrev Summ := ∀ (ρ : Type), List AV → List (Nat × AO) → (AV → List (Nat × AO) → Nat → Option ρ) → Option ρ

structure Env where
  T : Nat → TI
  S : Nat → Summ

/-! The objects that values lead to. -/
mutual
def refs : AV → List Nat
  | .ptr id _ => [id]
  | .ept id _ _ => [id]
  | .own id => [id]
  | .agg cs => refsL cs
  | .cp cs => refsL cs
  | .tup cs => refsL cs
  | .func _ a b => refsL a ++ refsL b
  | _ => []
def refsL : List AV → List Nat
  | [] => []
  | v :: r => refs v ++ refsL r
end

def refsO : AO → List Nat
  | .box cs => refsL cs
  | .fbox cs => refsL cs
  | _ => []

def memN (n : Nat) : List Nat → Bool
  | [] => false
  | a :: r => bif Nat.beq a n then true else memN n r

/-- The objects that are reached, in order; fuel bounds the steps. -/
def gather (hp : List (Nat × AO)) : Nat → List Nat → List Nat → Option (List Nat)
  | _, [], ord => some ord
  | 0, _ :: _, _ => none
  | f + 1, id :: r, ord => bif memN id ord then gather hp f r ord else gather hp f (r ++ refsO (lookO hp id)) (ord ++ [id])

def idx (id : Nat) : List Nat → Nat → Nat
  | [], k => k
  | a :: r, k => bif Nat.beq a id then k else idx id r (k + 1)

mutual
def ren (m : Nat → Nat) : AV → AV
  | .ptr id off => .ptr (m id) off
  | .ept id i off => .ept (m id) i off
  | .own id => .own (m id)
  | .agg cs => .agg (renL m cs)
  | .cp cs => .cp (renL m cs)
  | .tup cs => .tup (renL m cs)
  | .func f a b => .func f (renL m a) (renL m b)
  | v => v
def renL (m : Nat → Nat) : List AV → List AV
  | [] => []
  | v :: r => ren m v :: renL m r
end

def renO (m : Nat → Nat) : AO → AO
  | .box cs => .box (renL m cs)
  | .fbox cs => .fbox (renL m cs)
  | o => o

def subHp (hp : List (Nat × AO)) (m : Nat → Nat) : List Nat → Nat → List (Nat × AO)
  | [], _ => []
  | id :: r, k => (k, renO m (lookO hp id)) :: subHp hp m r (k + 1)

/-- The objects' numbers behind a call, in the caller's heap. -/
def backId (ord : List Nat) (nx k : Nat) : Nat :=
  match ord[k]? with
  | some id => id
  | none => nx + (k - ord.length)

def backHp (m : Nat → Nat) : List (Nat × AO) → List (Nat × AO) → List (Nat × AO)
  | [], hp => hp
  | (k, o) :: r, hp => (m k, renO m o) :: backHp m r hp

/-- The objects that went into a call are gone, but for what comes back. -/
def drops : List Nat → List (Nat × AO) → List (Nat × AO)
  | [], hp => hp
  | id :: r, hp => (id, .gone) :: drops r hp

def callStep {ρ : Type} (E : Env) (f : Nat) (args : List AV) (s : St) (K : AV → St → Option ρ) : Option ρ :=
  match gather s.hp 1000 (refsL args) [] with
  | none => none
  | some ord =>
    let m := fun id => idx id ord 0
    E.S f ρ (renL m args) (subHp s.hp m ord 0) fun r hp' n' =>
      let b := backId ord s.nx
      K (ren b r) ⟨s.n, s.tm, backHp b hp' (drops ord s.hp), s.nx + n'⟩

def partVals (tm : List (Nat × AV)) (ps : List (Nat × Operand)) : List (Nat × AV) := ps.map fun p => (p.1, ev tm p.2)

def step {ρ : Type} (E : Env) (o : Oper) (s : St) (K : AV → St → Option ρ) : Option ρ :=
  match o.op with
  | .move x => K (ev s.tm x) s
  | .assign x => K (ev s.tm x) s
  | .pick c a b =>
    (match ev s.tm c with
    | .bool c' =>
      (match ev s.tm a, ev s.tm b with
      | .bool x, .bool y => K (.bool (bif c' then x else y)) s
      | va, vb => bif c' then K va s else K vb s)
    | _ => none)
  | .alloc e => bif Nat.ble 1 (E.T e).size then K (.ptr s.nx 0) (s.new (.box (E.T e).zero)) else none
  | .box e x => (match cellsOf (ev s.tm x) with
    | some cs => K (.ptr s.nx 0) (s.new (.box cs))
    | none => none)
  | .load t a => loadStep (E.T t) s.hp (ev s.tm a) fun v => K v s
  | .store t a x => storeStep (E.T t) s (ev s.tm a) (ev s.tm x) fun s' => K .und s'
  | .nilCheck x =>
    (match ev s.tm x with
    | .ptr a b => K (.ptr a b) s
    | .ept a b c => K (.ept a b c) s
    | .cp a => K (.cp a) s
    | _ => none)
  | .binOp op t x y _ => binStep op (E.T t) (ev s.tm x) (ev s.tm y) fun v => K v s
  | .unOp op _ x => unStep op (ev s.tm x) fun v => K v s
  | .convert a b x => (match (E.T a).kind, (E.T b).kind with
    | .slice e, .slice _ => bif Nat.beq a b then markStep (E.T e) s (ev s.tm x) K else none
    | .slice e, _ => convStep (E.T a) (E.T b) (E.T e) s (ev s.tm x) K
    | _, .slice e => convStep (E.T a) (E.T b) (E.T e) s (ev s.tm x) K
    | _, _ => convStep (E.T a) (E.T b) (E.T b) s (ev s.tm x) K)
  | .makeFunc (.func f) first cap => K (.func f (first.toList.map (ev s.tm)) (cap.toList.map (ev s.tm))) s
  | .extract t i => (match ev s.tm t with
    | .tup vs => (match vs[i]? with | some v => K v s | none => none)
    | _ => none)
  | .fieldAddr t x f => (match fieldOff E.T t f with
    | some (off, size) => (match addOff (ev s.tm x) off with
      | .und => none
      | v => bif Nat.beq size 0 then none else K v s)
    | none => none)
  | .field t x f => (match fieldOff E.T t f, (structFields (E.T t).kind)[f]? with
    | some (off, size), some (_, ft) => (match ev s.tm x with
      | .agg cs => bif Nat.beq ((cs.drop off).take size).length size && Nat.ble 1 size then K (valOf (E.T ft).agg ((cs.drop off).take size)) s else none
      | _ => none)
    | _, _ => none)
  | .indexAddr t x i => (match ev s.tm i with
    | .int _ n =>
      (match (E.T t).kind with
      | .slice e =>
        (match ev s.tm x with
        | .sl ty xs => if (E.T e).ty = some ty then (bif inb n xs.length then K (.cp (unpack ty (xs.getD n.toNat ty.dflt))) s else none) else none
        | .own id => (match lookO s.hp id with
          | .row ty xs => if (E.T e).ty = some ty then (bif inb n xs.length then K (.ept id n.toNat 0) s else none) else none
          | .frow ty xs => if (E.T e).ty = some ty then (bif inb n xs.length then K (.ept id n.toNat 0) s else none) else none
          | _ => none)
        | _ => none)
      | .arr len e =>
        (match ev s.tm x with
        | .ptr id off => bif inb n len && Nat.ble 1 (E.T e).size then K (.ptr id (off + n.toNat * (E.T e).size)) s else none
        | _ => none)
      | _ => none)
    | _ => none)
  | .sliceToArrayPointer t x => (match (E.T t).kind, ev s.tm x with
    | .arr n e, .sl .byte xs => bif Nat.ble 1 n && Nat.ble n xs.length && decide ((E.T e).ty = some .byte) then K (.cp ((List.range n).map fun i => AV.int .u8 (UInt8.toNat (xs.getD i Ty.byte.dflt)))) s else none
    | _, _ => none)
  | .index t x i => (match ev s.tm i, ev s.tm x, (E.T t).kind with
    | .int _ n, .str b, .str => bif inb n b.length then K (.int .u8 (UInt8.toNat (b.getD n.toNat 0))) s else none
    | _, _, _ => none)
  | .slice t x lo hi none => (match (E.T t).kind with
    | .slice e => sliceStep (E.T t) (E.T e) s (ev s.tm x) (lo.map (ev s.tm)) (hi.map (ev s.tm)) K
    | .arr _ e => sliceStep (E.T t) (E.T e) s (ev s.tm x) (lo.map (ev s.tm)) (hi.map (ev s.tm)) K
    | _ => sliceStep (E.T t) (E.T t) s (ev s.tm x) (lo.map (ev s.tm)) (hi.map (ev s.tm)) K)
  | .build t ps => bif buildOk E.T t then (match fillCells E.T (placeIn E.T t) (E.T t).zero (partVals s.tm ps.toList) with
    | some cs => K (.agg cs) s
    | none => none) else none
  | .buildSlice t len ps => (match (E.T t).kind with
    | .slice e => (match (E.T e).ty with
      | some ty =>
        bif decide (ps.toList.map (·.1) = List.range len) && Nat.ble len 1000 && Nat.ble (E.T e).size 1000 then
          (match freezeAs s (ps.toList.map fun p => ev s.tm p.2) with
          | (vs, s1) => match packAll ty vs with
            | some xs => K (.own s1.nx) (s1.new (.row ty xs))
            | none => none)
        else none
      | none => none)
    | _ => none)
  | .makeSlice t l c => (match (E.T t).kind, ev s.tm l, ev s.tm c with
    | .slice e, .int .i64 n, .int .i64 m => (match (E.T e).ty with
      | some ty => bif Nat.ble (E.T e).bytes 10000 && decide (0 ≤ n) && decide (n ≤ m) && decide (m ≤ (lim : Int)) then K (.own s.nx) (s.new (.row ty (List.replicate n.toNat ty.dflt))) else none
      | none => none)
    | _, _, _ => none)
  | .call c =>
    (match c.callee with
    | .value f => (match ev s.tm f with
      | .func g first cap => callStep E g (first ++ c.args.toList.map (ev s.tm) ++ cap) s K
      | _ => none)
    | .builtin .len => (match c.argTypes.toList, c.args.toList with
      | [t], [x] => lenStep (E.T t) s.hp (ev s.tm x) fun v => K v s
      | _, _ => none)
    | .builtin .append => (match c.argTypes.toList, c.args.toList with
      | [t, t'], [x, y] => (match (E.T t).kind, (E.T t').kind with
        | .slice e, .slice _ => appendStep (E.T t) (E.T e) s (ev s.tm x) (ev s.tm y) K
        | .slice e, .str => appendStep (E.T t) (E.T e) s (ev s.tm x) (ev s.tm y) K
        | _, _ => none)
      | _, _ => none)
    | .builtin .min => (match c.args.toList with
      | [x, y] => minStep (ev s.tm x) (ev s.tm y) fun v => K v s
      | _ => none)
    | .builtin .max => (match c.args.toList with
      | [x, y] => maxStep (ev s.tm x) (ev s.tm y) fun v => K v s
      | _ => none)
    | _ => none)
  | _ => none

/-- The result of an operation is put. -/
def put (s : St) (d : Option Tmp) (v : AV) : St :=
  match d with
  | none => s
  | some d => s.setT d v

def dstOk (n : Nat) : Option Tmp → Bool
  | none => true
  | some d => Nat.blt d n

/-- Operations in a row. -/
def runOps {ρ : Type} (E : Env) (all : List Oper) : List Oper → St → (St → Option ρ) → Option ρ
  | [], s, K => K s
  | o :: r, s, K =>
    bif dstOk s.n o.dst then
      (match o.guard with
      | none => step E o s fun v s' => runOps E all r (put s' o.dst v) K
      | some (j, want) =>
        (match (all[j]?).bind (·.dst) with
        | none => none
        | some d => (match lookV s.tm d with
          | .bool b =>
            bif b then
              (bif want then step E o (s.setT d (.bool true)) fun v s' => runOps E all r (put s' o.dst v) K else runOps E all r (put (s.setT d (.bool true)) o.dst (.tup [])) K)
            else
              (bif want then runOps E all r (put (s.setT d (.bool false)) o.dst (.tup [])) K else step E o (s.setT d (.bool false)) fun v s' => runOps E all r (put s' o.dst v) K)
          | .tup [] => runOps E all r (put s o.dst (.tup [])) K
          | _ => none)))
    else none

/-- The operations that may be taken first. -/
def pureOp (E : Env) : Op → Bool
  | .move _ => true
  | .assign _ => true
  | .pick _ _ _ => true
  | .nilCheck _ => true
  | .binOp _ _ _ _ _ => true
  | .unOp _ _ _ => true
  | .makeFunc (.func _) _ _ => true
  | .extract _ _ => true
  | .fieldAddr _ _ _ => true
  | .field _ _ _ => true
  | .index _ _ _ => true
  | .sliceToArrayPointer _ _ => true
  | .indexAddr _ _ _ => true
  | .slice _ _ _ _ none => true
  | .call c => (match c.callee with
    | .builtin .len => true
    | .builtin .min => true
    | .builtin .max => true
    | _ => false)
  | .convert s d _ => (match (E.T s).kind, (E.T d).kind with
    | .int _, .int _ => true
    | .str, .str => true
    | _, _ => false)
  | _ => false

/-- What nobody writes meanwhile. -/
def frz : List (Nat × AO) → List (Nat × AO)
  | [] => []
  | (id, .fbox cs) :: r => (id, .fbox cs) :: frz r
  | (id, .frow t xs) :: r => (id, .frow t xs) :: frz r
  | (id, _) :: r => (id, .gone) :: frz r

/-- The objects that a region's loads may read early. -/
def hideL (tm : List (Nat × AV)) (hp : List (Nat × AO)) : List Nat → List (Nat × AO) → List (Nat × AO)
  | [], acc => acc
  | t :: r, acc =>
    match lookV tm t with
    | .ptr id _ => (match lookO hp id with
      | .box cs => bif memN id (acc.map (·.1)) then hideL tm hp r acc else hideL tm hp r ((id, .box cs) :: acc)
      | _ => hideL tm hp r acc)
    | .ept id _ _ => (match lookO hp id with
      | .row t xs => bif memN id (acc.map (·.1)) then hideL tm hp r acc else hideL tm hp r ((id, .row t xs) :: acc)
      | _ => hideL tm hp r acc)
    | _ => hideL tm hp r acc

def kills : List (Nat × AO) → List (Nat × AO) → List (Nat × AO)
  | [], hp => hp
  | (id, _) :: r, hp => (id, .gone) :: kills r hp

def backs : List (Nat × AO) → List (Nat × AO) → List (Nat × AO)
  | [], hp => hp
  | (id, o) :: r, hp => (id, o) :: backs r hp

/-- An order of a region that draws: what is taken first; else it is the only one that may come. -/
def planB (ops : Array Oper) : List (Nat × Bool) → Array Bool → Bool
  | [], listed => (Region.ready .any ops listed).isEmpty
  | (i, p) :: r, listed =>
    (bif p then (Region.ready .any ops listed).contains i && Region.free .any ops listed i else Region.ready .any ops listed == [i]) && planB ops r (listed.setIfInBounds i true)

def isCp : AV → Bool
  | .cp _ => true
  | _ => false

def isSlice : Op → Bool
  | .slice _ _ _ _ _ => true
  | _ => false

def keepsAV : AV → Bool
  | .str _ => true
  | .sl _ _ => true
  | .nils => true
  | _ => false

/-- Does an operation freeze what it cuts? -/
def growsOp (s : St) : Op → Bool
  | .slice _ x _ _ _ => !keepsAV (ev s.tm x)
  | _ => false

def stepP {ρ : Type} (E : Env) (stab : List (Nat × AO)) (cl p : Bool) (o : Oper) (s : St) (K : AV → St → Option ρ) : Option ρ :=
  bif p then
    (match o.op with
    | .load t a => bif isCp (ev s.tm a) && !cl then none else loadStep (E.T t) stab (ev s.tm a) fun v => K v s
    | .convert t d x => (match ev s.tm x, (E.T t).kind, (E.T d).kind with
      | .sl .byte xs, .slice e, .str => (match (E.T e).kind with
        | .int .u8 => bif cl then K (.str xs) s else none
        | _ => none)
      | _, _, _ => bif pureOp E o.op then step E o s K else none)
    | _ => bif pureOp E o.op then step E o s K else none)
  else step E o s K

def runPlan {ρ : Type} (E : Env) (all : List Oper) (stab : List (Nat × AO)) : List (Nat × Bool) → Bool → St → (St → Option ρ) → Option ρ
  | [], _, s, K => K s
  | (i, p) :: r, cl, s, K =>
    match all[i]? with
    | none => none
    | some o =>
      bif dstOk s.n o.dst then
        (match o.guard with
        | none => stepP E stab cl p o s fun v s' => runPlan E all stab r (cl && p && !growsOp s o.op) (put s' o.dst v) K
        | some (j, want) =>
          (match (all[j]?).bind (·.dst) with
          | none => none
          | some d => (match lookV s.tm d with
            | .bool b =>
              bif b then
                (bif want then stepP E stab cl p o (s.setT d (.bool true)) fun v s' => runPlan E all stab r (cl && p && !growsOp (s.setT d (.bool true)) o.op) (put s' o.dst v) K else runPlan E all stab r cl (put (s.setT d (.bool true)) o.dst (.tup [])) K)
              else
                (bif want then runPlan E all stab r cl (put (s.setT d (.bool false)) o.dst (.tup [])) K else stepP E stab cl p o (s.setT d (.bool false)) fun v s' => runPlan E all stab r (cl && p && !growsOp (s.setT d (.bool false)) o.op) (put s' o.dst v) K)
            | .tup [] => runPlan E all stab r cl (put s o.dst (.tup [])) K
            | _ => none)))
      else none

/-- How a piece of code ends. -/
inductive Ex where
  | normal | exit (id : Nat) | ret

/-- How a slot is kept at a loop's head. -/
inductive Mode where
  | keep | own (t : Ty) | imm (t : Ty) | bx (ms : List (Bool × Nat × Ty))

def normV1 (s : St) : Mode → AV → Option (AV × St)
  | .keep, v => some (v, s)
  | .own t, .nils => some (.own s.nx, s.new (.row t []))
  | .own t, .own id => (match lookO s.hp id with
    | .row t' xs => if t' = t then some (.own id, s) else none
    | _ => none)
  | .imm t, .nils => some (.sl t [], s)
  | .imm t, .own id =>
    (match freezeV s (.own id) with
    | (.sl t' xs, s') => if t' = t then some (.sl t' xs, s') else none
    | _ => none)
  | .imm t, .sl t' xs => if t' = t then some (.sl t' xs, s) else none
  | _, _ => none

/-- Cells of a variable, in their turn. -/
def normC (s : St) : List (Bool × Nat × Ty) → List AV → Option (List AV × St)
  | [], cs => some (cs, s)
  | (b, i, t) :: r, cs =>
    match cs[i]? with
    | some v => (match normV1 s (bif b then .own t else .imm t) v with
      | some (v', s') => normC s' r (cs.set i v')
      | none => none)
    | none => none

def normV (s : St) (m : Mode) (v : AV) : Option (AV × St) :=
  match m with
  | .bx ms => (match v with
    | .ptr id off => (match lookO s.hp id with
      | .box cs => (match normC s ms cs with
        | some (cs', s') => some (.ptr id off, s'.setO id (.box cs'))
        | none => none)
      | _ => none)
    | _ => none)
  | m => normV1 s m v

def normL (s : St) : List (Nat × Mode) → List (Nat × AV) → Option (List (Nat × AV) × St)
  | [], acc => some (acc, s)
  | (t, m) :: r, acc =>
    match normV s m (lookV s.tm t) with
    | some (v, s') => normL s' r ((t, v) :: acc)
    | none => none

/-- The state at a loop's head: the live slots alone, and the objects that they reach. -/
def norm {ρ : Type} (n0 : Nat) (sl : List (Nat × Mode)) (s : St) (K : St → Option ρ) : Option ρ :=
  match normL s sl [] with
  | none => none
  | some (tm, s') =>
    match gather s'.hp 1000 (List.range n0 ++ refsL (tm.map (·.2))) [] with
    | none => none
    | some ord =>
      let m := fun id => idx id ord 0
      K ⟨s'.n, tm.map fun p => (p.1, ren m p.2), subHp s'.hp m ord 0, ord.length⟩

def headId : Code → Nat
  | .region id _ _ => id
  | .seq a _ => headId a
  | .block _ c => headId c
  | .loop c => headId c
  | .cond _ _ _ => 0
  | _ => 0

/-- One round of a loop after the other. -/
def loopR {ρ : Type} (body : (Ex → St → Option ρ) → St → Option ρ) (nrm : St → (St → Option ρ) → Option ρ) (K : Ex → St → Option ρ) : Nat → St → Option ρ
  | 0, _ => none
  | f + 1, s => body (fun e s' => match e with | .normal => nrm s' (loopR body nrm K f) | e => K e s') s

def run {ρ : Type} (E : Env) (ann : Nat → Option (List (Nat × Mode))) (pl : Nat → Option (List (Nat × Bool) × List Nat)) (fu n0 : Nat) : Code → (Ex → St → Option ρ) → St → Option ρ
  | .skip, K, s => K .normal s
  | .region id ops draw, K, s =>
    bif draw then
      (match pl id with
      | none => none
      | some (plan, hts) =>
        bif Region.noSelect ops && planB ops plan (Array.replicate ops.size false) && Nat.beq plan.length ops.size then
          (let hid := hideL s.tm s.hp hts []
          runPlan E ops.toList (backs hid (frz s.hp)) plan true ⟨s.n, s.tm, kills hid s.hp, s.nx⟩ fun s' => K .normal ⟨s'.n, s'.tm, backs hid s'.hp, s'.nx⟩)
        else none)
    else runOps E ops.toList ops.toList s fun s' => K .normal s'
  | .seq a b, K, s => run E ann pl fu n0 a (fun e s' => match e with | .normal => run E ann pl fu n0 b K s' | e => K e s') s
  | .cond c t e, K, s => (match ev s.tm c with
    | .bool b => bif b then run E ann pl fu n0 t K s else run E ann pl fu n0 e K s
    | _ => none)
  | .block id c, K, s => run E ann pl fu n0 c (fun e s' => match e with | .exit i => (bif Nat.beq i id then K .normal s' else K (.exit i) s') | e => K e s') s
  | .loop c, K, s =>
    (match ann (headId c) with
    | some sl => norm n0 sl s (loopR (run E ann pl fu n0 c) (fun s' k => norm n0 sl s' k) K fu)
    | none => loopR (run E ann pl fu n0 c) (fun s' k => k s') K fu s)
  | .exit id, K, s => K (.exit id) s
  | .ret, K, s => K .ret s
  | .label _, K, s => K .normal s
  | _, _, _ => none

def resStep {ρ : Type} (E : Env) (s : St) : List ResultVar → List AV → (List AV → Option ρ) → Option ρ
  | [], acc, K => K acc.reverse
  | .tmp t :: r, acc, K => resStep E s r (lookV s.tm t :: acc) K
  | .cell a t :: r, acc, K => loadStep (E.T t) s.hp (lookV s.tm a) fun v => resStep E s r (v :: acc) K

def oneOf : List AV → AV
  | [v] => v
  | vs => .tup vs

def enumV : List AV → Nat → List (Nat × AV)
  | [], _ => []
  | v :: r, k => (k, v) :: enumV r (k + 1)

/-- What a function comes to, by its text. -/
def aFun {ρ : Type} (E : Env) (ann : Nat → Option (List (Nat × Mode))) (pl : Nat → Option (List (Nat × Bool) × List Nat)) (fu : Nat) (fn : Func) (args : List AV) (hp : List (Nat × AO)) (nx : Nat)
    (K : AV → List (Nat × AO) → Nat → Option ρ) : Option ρ :=
  match fn.body with
  | none => none
  | some c =>
    bif Nat.ble args.length fn.ntmps then
      run E ann pl fu nx c (fun e s =>
        match e with
        | .exit _ => none
        | _ => resStep E s fn.results.toList [] fun vs =>
          match gather s.hp 1000 (List.range nx ++ refs (oneOf vs)) [] with
          | none => none
          | some ord =>
            let m := fun id => idx id ord 0
            K (ren m (oneOf vs)) (subHp s.hp m ord 0) ord.length) ⟨fn.ntmps, enumV args 0, hp, nx⟩
    else none

/-- A table by numbers. -/
inductive Tr (α : Type) where
  | leaf (v : α) | node (a b : Tr α)

def Tr.get {α : Type} : Tr α → Nat → α
  | .leaf v, _ => v
  | .node a b, k => bif Nat.beq (k % 2) 0 then a.get (k / 2) else b.get (k / 2)

def noTI : TI := ⟨0, false, [], none, .other, 0, false⟩
def noS : Summ := fun _ _ _ _ => none
end Go.Ai
