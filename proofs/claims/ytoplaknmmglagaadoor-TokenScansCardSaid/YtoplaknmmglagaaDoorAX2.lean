/-
AX, part 2: what each operation does to abstract values and the abstract heap; the calculus WPc over the model's code.
-/
import Derived.Test.YtoplaknmmglagaaDoorAX1
set_option linter.unusedVariables false
namespace Go.AX

def szT (P : Program) (t : TypeId) : Option Nat := (P.info? t).map (·.size)
def byT (P : Program) (t : TypeId) : Option Nat := (P.info? t).map (·.bytes)
def isAggD : TypeDesc → Bool
  | .struct _ | .array _ _ => true
  | _ => false
def aggT (P : Program) (t : TypeId) : Option Bool := (P.underlying t).map isAggD
def elT (P : Program) (t : TypeId) : Option TypeId :=
  match P.underlying t with
  | some (.slice e) => some e
  | _ => none
def arrT (P : Program) (t : TypeId) : Option (Nat × TypeId) :=
  match P.underlying t with
  | some (.array n e) => some (n, e)
  | _ => none
def fldT (P : Program) (t : TypeId) (f : Nat) : Option (Nat × TypeId) :=
  match P.underlying t with
  | some (.struct fs) => (fs[f]?).map fun f => (f.offset, f.type)
  | _ => none
def intT (P : Program) (t : TypeId) : Option IntKind :=
  match P.underlying t with
  | some (.int k) => some k
  | _ => none
def boolT (P : Program) (t : TypeId) : Bool :=
  match P.underlying t with
  | some .bool => true
  | _ => false
def sliceT (P : Program) (t : TypeId) : Bool :=
  match P.underlying t with
  | some (.slice _) => true
  | _ => false
def strT (P : Program) (t : TypeId) : Bool :=
  match P.underlying t with
  | some .string => true
  | _ => false
def mapT (P : Program) (t : TypeId) : Bool :=
  match P.underlying t with
  | some (.map _ _) => true
  | _ => false
def concreteT (P : Program) (t : TypeId) : Bool :=
  match P.underlying t with
  | some (.interface _) => false
  | some _ => true
  | none => false

def cellOf : Value → AV
  | .int k n => .int k n
  | .bool b => .bool b
  | .string s => .str s
  | .slice none 0 0 => .nils
  | .pointer none => .nilp
  | .map none => .nilm
  | .nilFunc => .nilf
  | .nilIface => .nili
  | _ => .dead
def ofV : Value → AV
  | .agg cs => if (cs.toList.map cellOf).all (·.isCell) then .agg (cs.toList.map cellOf) else .dead
  | .tuple vs => if vs.toList.isEmpty then .tup [] else .dead
  | v => cellOf v
def zeroT (P : Program) (t : TypeId) : Option (List AV) := ((P.info? t).bind (·.zero)).bind fun v => (ofV v).cells?

/-- A value of a type out of the cells that begin there. -/
def tk (P : Program) (t : TypeId) (cs : List AV) : Option AV :=
  match aggT P t with
  | some true => match szT P t with
    | some n => if n ≤ cs.length then some (.agg (cs.take n)) else none
    | none => none
  | some false => cs.head?
  | none => none

def elemAt (H : Heap) (id g i : Nat) : Option (List AV) :=
  match H[id]? with
  | some (some (.cells g' es)) => if g' = g then es[i]? else none
  | _ => none
def rowAt (H : Heap) (id g : Nat) : Option (List (List AV)) :=
  match H[id]? with
  | some (some (.cells g' es)) => if g' = g then some es else none
  | _ => none

def loadX (P : Program) (H : Heap) (t : TypeId) : AV → Option AV
  | .iptr cs => tk P t cs
  | .ptr id g i j => match elemAt H id g i with
    | some e => tk P t (e.drop j)
    | none => none
  | _ => none

def storeX (P : Program) (H : Heap) (t : TypeId) (p v : AV) : Option Heap :=
  match p with
  | .ptr id g i j => match rowAt H id g, v.cells?, szT P t with
    | some es, some cs, some n => match es[i]? with
      | some e => if cs.length = n ∧ j + n ≤ e.length then some (H.set id (some (.cells g (es.set i (e.take j ++ cs ++ e.drop (j + n)))))) else none
      | none => none
    | _, _, _ => none
  | _ => none

def idxX (P : Program) (t : TypeId) (x i : AV) : Option AV :=
  match i with
  | .int _ n =>
    match x with
    | .vec es => match (elT P t).bind (szT P) with
      | some sz => if 0 ≤ n then match es[n.toNat]? with
          | some e => if e.length = sz then some (.iptr e) else none
          | none => none
        else none
      | none => none
    | .ref id g sz off len => if (elT P t).bind (szT P) = some sz ∧ 0 ≤ n ∧ n < len then some (.ptr id g (off + n.toNat) 0) else none
    | .ptr id g a b => match arrT P t with
      | some (len, el) => match szT P el with
        | some sz => if 0 ≤ n ∧ n < len then some (.ptr id g a (b + n.toNat * sz)) else none
        | none => none
      | none => none
    | .iptr cs => match arrT P t with
      | some (len, el) => match szT P el with
        | some sz => if 0 ≤ n ∧ n < len then some (.iptr (cs.drop (n.toNat * sz))) else none
        | none => none
      | none => none
    | _ => none
  | _ => none

def fldX (P : Program) (t : TypeId) (f : Nat) (x : AV) : Option AV :=
  match fldT P t f with
  | some (off, ft) => match szT P ft with
    | some n => if n = 0 then none else match x with
      | .iptr cs => some (.iptr (cs.drop off))
      | .ptr id g i j => some (.ptr id g i (j + off))
      | _ => none
    | none => none
  | none => none

def fieldX (P : Program) (t : TypeId) (f : Nat) (x : AV) : Option AV :=
  match fldT P t f, x with
  | some (off, ft), .agg cs => tk P ft (cs.drop off)
  | _, _ => none

def intOf? : AV → Option Int
  | .int _ n => some n
  | _ => none

/-- A slice's bounds: none where they aren't given. -/
def bndX : Option AV → Nat → Option Nat
  | none, d => some d
  | some (.int _ n), d => if 0 ≤ n then some n.toNat else none
  | some _, _ => none

def szOK (sz : Nat) (es : List (List AV)) : Bool := es.all fun e => e.length == sz

def sliceX (P : Program) (t : TypeId) (x : AV) (lo hi : Option AV) : Option AV :=
  match x with
  | .str s => if strT P t then match bndX lo 0, bndX hi s.size with
      | some l, some h => if l ≤ h ∧ h ≤ s.size then some (.str (s.extract l h)) else none
      | _, _ => none
    else none
  | .vec es => match (elT P t).bind (szT P), bndX lo 0, bndX hi es.length with
    | some sz, some l, some h => if l ≤ h ∧ h ≤ es.length ∧ szOK sz es = true then some (.vec ((es.take h).drop l)) else none
    | _, _, _ => none
  | .ref id g sz off len => match bndX lo 0, bndX hi len with
    | some l, some h => if (elT P t).bind (szT P) = some sz ∧ l ≤ h ∧ h ≤ len then
        some (if l = 0 then .ref id g sz off h else if l = h then .vec [] else .ref id g sz (off + l) (h - l)) else none
    | _, _ => none
  | .nils => match (elT P t).bind (szT P), bndX lo 0, bndX hi 0 with
    | some _, some 0, some 0 => some .nils
    | _, _, _ => none
  | _ => none

def bitX (op : BinOp) (k : IntKind) (x y : Int) : Option Int :=
  match op with
  | .and => some (k.wrap (BitVec.ofInt k.bits x &&& BitVec.ofInt k.bits y).toNat)
  | .or => some (k.wrap (BitVec.ofInt k.bits x ||| BitVec.ofInt k.bits y).toNat)
  | .xor => some (k.wrap (BitVec.ofInt k.bits x ^^^ BitVec.ofInt k.bits y).toNat)
  | .andNot => some (k.wrap (BitVec.ofInt k.bits x &&& ~~~ BitVec.ofInt k.bits y).toNat)
  | _ => none

def intX (op : BinOp) (k : IntKind) (x y : Int) : Option AV :=
  match op with
  | .add => some (.int k (k.wrap (x + y)))
  | .sub => some (.int k (k.wrap (x - y)))
  | .mul => some (.int k (k.wrap (x * y)))
  | .quo => if y = 0 then none else some (.int k (k.wrap (x.tdiv y)))
  | .rem => if y = 0 then none else some (.int k (x.tmod y))
  | .eql => some (.bool (x == y))
  | .neq => some (.bool (x != y))
  | .lss => some (.bool (decide (x < y)))
  | .leq => some (.bool (decide (x ≤ y)))
  | .gtr => some (.bool (decide (x > y)))
  | .geq => some (.bool (decide (x ≥ y)))
  | op => (bitX op k x y).map (.int k)

/-- Cells that can be told apart by looking: whole numbers, bools, strings. -/
def eqCell : AV → AV → Option Bool
  | .int k x, .int k' y => if k = k' then some (x == y) else none
  | .bool a, .bool b => some (a == b)
  | .str a, .str b => some (a == b)
  | _, _ => none

def binX (P : Program) (op : BinOp) (t : TypeId) (a b : AV) : Option AV :=
  match a, b with
  | .int k x, .int k' y => match op with
    | .shl => if 0 ≤ y then some (.int k (k.wrap (x * 2 ^ (min y.toNat k.bits)))) else none
    | .shr => if 0 ≤ y then some (.int k (x.fdiv (2 ^ (min y.toNat k.bits)))) else none
    | op => if k = k' then intX op k x y else none
  | .bool x, .bool y => if boolT P t then match op with
      | .eql => some (.bool (x == y))
      | .neq => some (.bool (!(x == y)))
      | _ => none
    else none
  | .str x, .str y => match op with
    | .eql => some (.bool (x.toList == y.toList))
    | .neq => some (.bool (!(x.toList == y.toList)))
    | _ => none
  | .ref .., .nils => if sliceT P t then match op with | .eql => some (.bool false) | .neq => some (.bool true) | _ => none else none
  | .vec (_ :: _), .nils => if sliceT P t then match op with | .eql => some (.bool false) | .neq => some (.bool true) | _ => none else none
  | .nils, .nils => if sliceT P t then match op with | .eql => some (.bool true) | .neq => some (.bool false) | _ => none else none
  | .mref .., .nilm => if mapT P t then match op with | .eql => some (.bool false) | .neq => some (.bool true) | _ => none else none
  | .nilm, .nilm => if mapT P t then match op with | .eql => some (.bool true) | .neq => some (.bool false) | _ => none else none
  | _, _ => none

/-- The kinds of scalars: 1: whole numbers; 2: bools; 3: strings. -/
def kdT (P : Program) (t : TypeId) : Nat :=
  match P.underlying t with
  | some (.int _) => 1
  | some .bool => 2
  | some .string => 3
  | _ => 0

/-- A struct of scalars alone: its fields' kinds. -/
def flatT (P : Program) (t : TypeId) : Option (List Nat) :=
  match P.underlying t with
  | some (.struct fs) => if (fs.toList.zipIdx.all fun p => p.1.name != "_" && p.1.offset == p.2 && kdT P p.1.type != 0) && !P.stoodInHeld t && !P.eqGuardType P.depth t then some (fs.toList.map fun f => kdT P f.type) else none
  | _ => none

def eqK (kd : Nat) (x y : AV) : Option Bool :=
  match kd, x, y with
  | 1, .int k a, .int k' b => if k = k' then some (a == b) else none
  | 2, .bool a, .bool b => some (a == b)
  | 3, .str a, .str b => some (a.toList == b.toList)
  | _, _, _ => none

def eqKs : List Nat → List AV → List AV → Option Bool
  | [], _, _ => some true
  | k :: ks, x :: xs, y :: ys => match eqK k x y, eqKs ks xs ys with
    | some b, some c => some (b && c)
    | _, _ => none
  | _, _, _ => none

def ifcT (P : Program) (t : TypeId) : Bool :=
  match P.underlying t with
  | some (.interface _) => true
  | _ => false

/-- == on structs of scalars; on an interface and nil. -/
def eqX (P : Program) (t : TypeId) (x y : Operand) (a b : AV) : Option Bool :=
  match a, b with
  | .agg xs, .agg ys => match flatT P t with
    | some ks => eqKs ks xs ys
    | none => none
  | .ifc _ _, .nili => if ifcT P t then some false else none
  | .nili, .ifc _ _ => if ifcT P t then some false else none
  | .nili, .nili => if ifcT P t then match y with
      | .const _ => some true
      | _ => none
    else none
  | _, _ => none

def binX' (P : Program) (op : BinOp) (t : TypeId) (x y : Operand) (a b : AV) : Option AV :=
  match op with
  | .eql => (eqX P t x y a b).map .bool
  | .neq => (eqX P t x y a b).map fun c => .bool (!c)
  | _ => none

/-- A map's keys' kind and its elements' type. -/
def keyT (P : Program) (t : TypeId) : Option (Nat × TypeId) :=
  match P.underlying t with
  | some (.map k e) => if kdT P k = 0 then none else some (kdT P k, e)
  | _ => none

def zeroX (P : Program) (t : TypeId) : Option AV := ((P.info? t).bind (·.zero)).map ofV

/-- The entry of a key: its place, what lies there. -/
def findM (kd : Nat) : List (AV × AV) → AV → Nat → Option (Option (Nat × AV))
  | [], _, _ => some none
  | (k, v) :: ms, x, i => match eqK kd x k with
    | some true => some (some (i, v))
    | some false => findM kd ms x (i + 1)
    | none => none

def lookX (P : Program) (H : Heap) (t : TypeId) (m k : AV) (ok : Bool) : Option AV :=
  match keyT P t with
  | some (kd, el) => match zeroX P el with
    | some z => match (match m with
        | .nilm => some none
        | .mref id g => match H[id]? with
          | some (some (.mp g' ms)) => if g' = g then findM kd ms k 0 else none
          | _ => none
        | _ => none) with
      | some (some (_, v)) => some (if ok then .tup [v, .bool true] else v)
      | some none => some (if ok then .tup [z, .bool false] else z)
      | none => none
    | none => none
  | none => none

/-- A row of bytes. -/
def byv (b : UInt8) : List AV := [.int .u8 b.toNat]
def bytesX : List (List AV) → Option (List UInt8)
  | [] => some []
  | [.int .u8 n] :: es => (bytesX es).map (UInt8.ofNat n.toNat :: ·)
  | _ => none
def bytT (P : Program) (t : TypeId) : Bool :=
  match P.underlying t with
  | some (.slice e) => match P.underlying e with
    | some (.int .u8) => szT P e == some 1
    | _ => false
  | _ => false

def unX (op : UnOp) (x : AV) : Option AV :=
  match op, x with
  | .not, .bool b => some (.bool (!b))
  | .neg, .int k n => some (.int k (k.wrap (0 - n)))
  | _, _ => none

def cvtX (P : Program) (src dst : TypeId) (x : AV) : Option AV :=
  match x with
  | .int _ n => match intT P dst with
    | some k => if (P.underlying src).isSome then some (.int k (k.wrap n)) else none
    | none => none
  | .vec es => if bytT P src ∧ strT P dst then (bytesX es).map fun l => .str ⟨l.toArray⟩ else none
  | .nils => if bytT P src ∧ strT P dst then some (.str ⟨#[]⟩) else none
  | .str s => if strT P src ∧ strT P dst then some (.str s) else none
  | _ => none

/-- []byte(s) of a slice of bytes: it itself. -/
def cvtR (P : Program) (H : Heap) (src dst : TypeId) (x : AV) : Option AV :=
  match x with
  | .ref id g sz off len => if src = dst ∧ bytT P src ∧ (rowAt H id g).isSome then some (.ref id g sz off len) else none
  | _ => none

/-- Where a struct's fields lie: place and size. -/
def placesT (P : Program) (t : TypeId) : Option (List (Nat × Nat)) :=
  match P.underlying t with
  | some (.struct fs) => fs.toList.mapM fun f => (P.info? f.type).map fun i => (f.offset, i.size)
  | _ => none

/-- The parts of a struct, laid over its zero. -/
def fillX (pl : List (Nat × Nat)) : List AV → List (Nat × AV) → Option (List AV)
  | z, [] => some z
  | z, (f, v) :: rest => match pl[f]? with
    | some (off, n) => match v.cells? with
      | some cs => if n = cs.length ∧ off + cs.length ≤ z.length then fillX pl (z.take off ++ cs ++ z.drop (off + cs.length)) rest else none
      | none => none
    | none => none

/-- The elements of a slice that is written out. -/
def partsX (sz : Nat) : List (List AV) → List (Nat × AV) → Option (List (List AV))
  | es, [] => some es
  | es, (i, v) :: rest => match v.cells? with
    | some cs => if cs.length = sz ∧ i < es.length then partsX sz (es.set i cs) rest else none
    | none => none

def lenX (P : Program) (H : Heap) (t : TypeId) (x : AV) : Option AV :=
  match x with
  | .str s => if strT P t then some (.int .i64 s.size) else none
  | .vec es => if sliceT P t then some (.int .i64 es.length) else none
  | .ref _ _ _ _ len => if sliceT P t then some (.int .i64 len) else none
  | .nils => if sliceT P t then some (.int .i64 0) else none
  | .nilm => if mapT P t then some (.int .i64 0) else none
  | .mref id g => if mapT P t then match H[id]? with
      | some (some (.mp g' ms)) => if g' = g then some (.int .i64 ms.length) else none
      | _ => none
    else none
  | _ => none

/-- The elements of what is appended. -/
def elemsX (H : Heap) : AV → Option (List (List AV))
  | .vec es => some es
  | .nils => some []
  | .ref id g sz off len => match rowAt H id g with
    | some es => if off + len ≤ es.length then some ((es.drop off).take len) else none
    | none => none
  | .str s => some (s.data.toList.map fun b => [.int .u8 b.toNat])
  | _ => none

def roomX : Nat := 70368744177664

/-- append: the block's new generation is told. -/
def appX (P : Program) (H : Heap) (t : TypeId) (s x : AV) : Option (Nat → AV × Heap) :=
  match elT P t with
  | none => none
  | some el => match szT P el, byT P el, zeroT P el, elemsX H x with
    | some sz, some bytes, some z, some xs =>
      if sz = 0 ∨ bytes = 0 ∨ z.length ≠ sz ∨ szOK sz xs = false then none else
      match s with
      | .nils => if xs.length * bytes ≤ roomX then (match xs with
          | [] => some fun _ => (.nils, H)
          | _ => some fun g => (.ref H.length g sz 0 xs.length, H ++ [some (.cells g xs)])) else none
      | .ref id g sz' off len => match rowAt H id g with
        | some es => if sz' = sz ∧ off + len = es.length ∧ (len + xs.length) * bytes ≤ roomX then
            some fun g' => (.ref id g' sz 0 (len + xs.length), H.set id (some (.cells g' ((es.drop off).take len ++ xs)))) else none
        | none => none
      | _ => none
    | _, _, _, _ => none

/-- What an operation comes to: a value; a new block, with the value that stands for it; a heap that has changed; something that needs a generation. -/
inductive Eff where
  | val (v : AV)
  | new (b : Nat → Blk) (v : Nat → Nat → AV)
  | upd (v : AV) (H : Heap)
  | gen (f : Nat → AV × Heap)

def opX (P : Program) (op : Op) (ev : Operand → AV) (H : Heap) : Option Eff :=
  match op with
  | .move x | .assign x => some (.val (ev x))
  | .pick c a b => match ev c with
    | .bool t => some (.val (if t then ev a else ev b))
    | _ => none
  | .alloc t => (zeroT P t).map fun z => .new (fun g => .cells g [z]) (fun id g => .ptr id g 0 0)
  | .box _ x => (ev x).cells?.map fun cs => .new (fun g => .cells g [cs]) (fun id g => .ptr id g 0 0)
  | .build t parts => (zeroT P t).bind fun z => (placesT P t).bind fun pl => (fillX pl z (parts.toList.map fun p => (p.1, ev p.2))).map fun cs => .val (.agg cs)
  | .buildSlice t len parts => (elT P t).bind fun el => (zeroT P el).bind fun z =>
      if szT P el = some z.length ∧ z.length ≠ 0 ∧ len * z.length ≤ 16777216 then
        (partsX z.length (List.replicate len z) (parts.toList.map fun p => (p.1, ev p.2))).map fun es => .new (fun g => .cells g es) (fun id g => .ref id g z.length 0 len)
      else none
  | .load t a => (loadX P H t (ev a)).map .val
  | .store t a x => (storeX P H t (ev a) (ev x)).map (.upd .dead)
  | .nilCheck x => match ev x with
    | .ptr id g i j => some (.val (.ptr id g i j))
    | .iptr cs => some (.val (.iptr cs))
    | .clo (.func f) a b => some (.val (.clo (.func f) a b))
    | _ => none
  | .binOp op t x y _ => match binX P op t (ev x) (ev y) with
    | some z => some (.val z)
    | none => (binX' P op t x y (ev x) (ev y)).map .val
  | .unOp op _ x => (unX op (ev x)).map .val
  | .convert s d x => match cvtX P s d (ev x) with
    | some z => some (.val z)
    | none => (cvtR P H s d (ev x)).map .val
  | .lookup t x k ok => (lookX P H t (ev x) (ev k) ok).map .val
  | .makeInterface t x => if concreteT P t then some (.val (.ifc t (ev x))) else none
  | .makeFunc fn a b => some (.val (.clo fn (a.toList.map ev) (b.toList.map ev)))
  | .makeSlice t l c => (elT P t).bind fun el => (zeroT P el).bind fun z => match ev l, ev c, byT P el with
    | .int _ n, .int _ m, some bytes => if szT P el = some z.length ∧ z.length ≠ 0 ∧ 0 ≤ n ∧ n ≤ m ∧ m.toNat * bytes ≤ roomX ∧ 0 < bytes then
        some (.new (fun g => .cells g (List.replicate m.toNat z)) (fun id g => .ref id g z.length 0 n.toNat)) else none
    | _, _, _ => none
  | .slice t x lo hi none => (sliceX P t (ev x) (lo.map ev) (hi.map ev)).map .val
  | .fieldAddr t x f => (fldX P t f (ev x)).map .val
  | .field t x f => (fieldX P t f (ev x)).map .val
  | .indexAddr t x i => (idxX P t (ev x) (ev i)).map .val
  | .index t x i => match ev x, ev i with
    | .str s, .int _ n => if strT P t ∧ 0 ≤ n then (s[n.toNat]?).map fun b => .val (.int .u8 b.toNat) else none
    | _, _ => none
  | .extract x i => match ev x with
    | .tup cs => (cs[i]?).map .val
    | _ => none
  | .call c => match c.callee with
    | .builtin .len => match c.argTypes[0]?, c.args[0]? with
      | some t, some x => (lenX P H t (ev x)).map .val
      | _, _ => none
    | .builtin .append => match c.argTypes[0]?, c.argTypes[1]?, c.args[0]?, c.args[1]? with
      | some t, some t', some s, some x => if sliceT P t' || strT P t' then (appX P H t (ev s) (ev x)).map .gen else none
      | _, _, _, _ => none
    | .builtin .min => match c.args.toList.map ev with
      | [.int k x, .int k' y] => if k = k' then some (.val (.int k (if y < x then y else x))) else none
      | _ => none
    | .builtin .max => match c.args.toList.map ev with
      | [.int k x, .int k' y] => if k = k' then some (.val (.int k (if y > x then y else x))) else none
      | _ => none
    | _ => none
  | _ => none

/-- A map's entries with one laid. -/
def updM (kd : Nat) (ms : List (AV × AV)) (k v : AV) : Option (List (AV × AV)) :=
  match eqK kd k k, findM kd ms k 0 with
  | some _, some (some (i, _)) => match ms[i]? with
    | some p => some (ms.set i (p.1, v))
    | none => none
  | some _, some none => some (ms ++ [(k, v)])
  | _, _ => none

/-- s[:n], within what is known of the row. -/
def sliceR (P : Program) (H : Heap) (t : TypeId) (x : AV) (hi : Option AV) : Option AV :=
  match x, hi with
  | .ref id g sz off _, some (.int _ n) => match rowAt H id g with
    | some es => if (elT P t).bind (szT P) = some sz ∧ sz ≠ 0 ∧ 0 ≤ n ∧ off + n.toNat ≤ es.length then some (.ref id g sz off n.toNat) else none
    | none => none
  | _, _ => none

/-- append, within what is known of the row. -/
def appR (P : Program) (H : Heap) (t : TypeId) (s x : AV) : Option (AV × Heap) :=
  match s, (elT P t).bind (szT P), elemsX H x with
  | .ref id g sz off len, some sz', some xs => match rowAt H id g with
    | some es => if sz' = sz ∧ sz ≠ 0 ∧ szOK sz xs = true ∧ off + len + xs.length ≤ es.length then
        some (.ref id g sz off (len + xs.length), H.set id (some (.cells g (es.take (off + len) ++ xs ++ es.drop (off + len + xs.length))))) else none
    | none => none
  | _, _, _ => none

/-- copy of all of it. -/
def copyX (P : Program) (H : Heap) (t : TypeId) (s x : AV) : Option (AV × Heap) :=
  match s, (elT P t).bind (szT P), elemsX H x with
  | .ref id g sz off len, some sz', some xs => match rowAt H id g with
    | some es => if sz' = sz ∧ sz ≠ 0 ∧ szOK sz xs = true ∧ xs.length ≤ len ∧ off + len ≤ es.length then
        some (.int .i64 xs.length, H.set id (some (.cells g (es.take off ++ xs ++ es.drop (off + xs.length))))) else none
    | none => none
  | _, _, _ => none

/-- What a slice's capacity is at least. -/
def capX (P : Program) (op : Op) (ev : Operand → AV) (H : Heap) : Option Nat :=
  match op with
  | .call c => match c.callee, c.argTypes[0]?, c.args[0]? with
    | .builtin .cap, some t, some x => match ev x with
      | .ref id g sz off _ => match rowAt H id g with
        | some es => if sliceT P t ∧ sz ≠ 0 then some (es.length - off) else none
        | none => none
      | _ => none
    | _, _, _ => none
  | _ => none

/-- Operations that stand in no region that draws: what they come to: a value, the heap, the next generation. -/
def impX (P : Program) (op : Op) (ev : Operand → AV) (H : Heap) (c : Nat) : Option (AV × Heap × Nat) :=
  match op with
  | .makeMap t r => if mapT P t then match r.map ev with
      | none => some (.mref H.length c, H ++ [some (.mp c [])], c + 1)
      | some (.int _ _) => some (.mref H.length c, H ++ [some (.mp c [])], c + 1)
      | _ => none
    else none
  | .mapUpdate t m k v => match keyT P t, ev m with
    | some (kd, _), .mref id g => match H[id]? with
      | some (some (.mp g' ms)) => if g' = g then (updM kd ms (ev k) (ev v)).map fun ms' => (.dead, H.set id (some (.mp g ms')), c) else none
      | _ => none
    | _, _ => none
  | .convert s d x => match ev x with
    | .str b => if strT P s ∧ bytT P d ∧ b.size ≤ roomX then some (.vec (b.data.toList.map byv), H, c) else none
    | .ref id g sz off len => if bytT P s ∧ strT P d ∧ sz = 1 then match elemsX H (.ref id g sz off len) with
        | some es => (bytesX es).map fun l => (.str ⟨l.toArray⟩, H, c)
        | none => none
      else none
    | _ => none
  | .slice t x none hi none => (sliceR P H t (ev x) (hi.map ev)).map fun z => (z, H, c)
  | .call k => match k.callee with
    | .builtin .append => match k.argTypes[0]?, k.argTypes[1]?, k.args[0]?, k.args[1]? with
      | some t, some t', some s, some x => if sliceT P t' || strT P t' then (appR P H t (ev s) (ev x)).map fun p => (p.1, p.2, c) else none
      | _, _, _, _ => none
    | .builtin .copy => match k.argTypes[0]?, k.args[0]?, k.args[1]? with
      | some t, some s, some x => (copyX P H t (ev s) (ev x)).map fun p => (p.1, p.2, c)
      | _, _, _ => none
    | _ => none
  | _ => none

/-! ### States and the calculus -/

abbrev Slots := List (Nat × AV)
def lk : Slots → Nat → AV
  | [], _ => .dead
  | (k, v) :: r, i => if k = i then v else lk r i
def putO (s : Slots) (d : Option Tmp) (v : AV) : Slots :=
  match d with
  | some d => (d, v) :: s
  | none => s

structure St where
  sl : Slots
  H : Heap
  c : Nat

/-- What a proof is told of package-level variables: what lies behind each one's address (dead: nothing). -/
class GL (P : Program) where
  gl : Nat → AV

def Glob (P : Program) [GL P] (Im : Nat → Prop) (w : World) : Prop := ∀ g, V Im w Gens.none (GL.gl P g) (.pointer (some ⟨g, 0, .none⟩))

def St.ev (P : Program) [GL P] (σ : St) : Operand → AV
  | .tmp t => lk σ.sl t
  | .const v => ofV v
  | .global g => GL.gl P g
  | .func f => .clo (.func f) [] []

inductive Ex where
  | normal
  | exit (id : Nat)
  | ret
  | panic (v : AV)

/-- The state with just these slots. -/
def St.keep (σ : St) (l : List Nat) : St := { σ with sl := l.map fun i => (i, lk σ.sl i) }

/-- Where a new block goes: at the heap's end, or (in a region that draws its order) at the place that is kept for this operation. -/
def putB (H : Heap) (id : Nat) (b : Blk) : Heap := if id < H.length then H.set id (some b) else H ++ [some b]

def Eff.put (e : Eff) (kept : Option (Nat × Nat)) (d : Option Tmp) (σ : St) : St :=
  match e with
  | .val v => { σ with sl := putO σ.sl d v }
  | .upd v H => { σ with sl := putO σ.sl d v, H := H }
  | .gen f => { sl := putO σ.sl d (f σ.c).1, H := (f σ.c).2, c := σ.c + 1 }
  | .new b v => match kept with
    | none => { sl := putO σ.sl d (v σ.H.length σ.c), H := σ.H ++ [some (b σ.c)], c := σ.c + 1 }
    | some (id, g) => { σ with sl := putO σ.sl d (v id g), H := σ.H.set id (some (b g)) }

/-- The call of a function by its number comes to its body. -/
def Enters (P : Program) (f : FuncId) : Prop := ∃ fn, P.funcs[f]? = some fn ∧ fn.body.isSome = true ∧ (fn.name == "runtime.NumGoroutine") = false

/-- Contracts. 'Pure': called with these arguments, which nobody writes, the function returns this result, which nobody writes; what lay in memory stays. 'al': the result may lie in the arguments' memory. -/
def PureC (P : Program) [GL P] (al : Bool) (f : FuncId) (args : List AV) (res : AV) : Prop :=
  Enters P f ∧ ∀ (Im : Nat → Prop) (w : World) (vs : List Value), (∀ r, Im r → r < w.heap.size) → Glob P Im w → Vs Im w Gens.none args vs →
    Calls P f vs.toArray w fun e w' => ∃ v Im', e = .returned v ∧ V Im' w' Gens.none res v ∧ (∀ r, Im' r → (al = true ∧ Im r) ∨ w.heap.size ≤ r) ∧
      (∀ r, Im' r → r < w'.heap.size) ∧ (∀ r, r < w.heap.size → w'.heap[r]? = w.heap[r]?) ∧ w.heap.size ≤ w'.heap.size ∧ SameOut w w'

/-- 'Proc': called with these arguments in this heap it returns, with a result and a heap of which 'post' holds. -/
def ProcC (P : Program) [GL P] (f : FuncId) (args : List AV) (H : Heap) (c : Nat) (post : AV → Heap → Nat → Prop) : Prop :=
  Enters P f ∧ ∀ (G : Gens) (Im : Nat → Prop) (w : World) (vs : List Value), HR G Im w H c → Glob P Im w → Vs Im w G args vs →
    Calls P f vs.toArray w fun e w' => ∃ v r H' c' G' Im', e = .returned v ∧ post r H' c' ∧ HR G' Im' w' H' c' ∧ Ext c G Im w H G' Im' w' H' ∧ V Im' w' G' r v ∧ c ≤ c'

/-- A value without references into owned blocks. -/
def AV.noRef : AV → Bool
  | .ref .. | .ptr .. | .mref .. => false
  | .agg cs => noRefs cs
  | .tup cs => noRefs cs
  | .clo _ a b => noRefs a && noRefs b
  | .ifc _ v => v.noRef
  | _ => true
where
  noRefs : List AV → Bool
    | [] => true
    | c :: cs => c.noRef && noRefs cs

/-- A value seen as one that nobody writes. 'al': it may have memory in it that was such already. -/
inductive Frz (al : Bool) (H : Heap) : AV → AV → Prop
  | int (k n) : Frz al H (.int k n) (.int k n)
  | bool (b) : Frz al H (.bool b) (.bool b)
  | str (s) : Frz al H (.str s) (.str s)
  | nilp : Frz al H .nilp .nilp
  | nils : Frz al H .nils (.vec [])
  | nilsl : Frz al H .nils .nils
  | nilm : Frz al H .nilm .nilm
  | nilf : Frz al H .nilf .nilf
  | nili : Frz al H .nili .nili
  | vec0 : Frz al H (.vec []) (.vec [])
  | vec (es) (h : al = true) : Frz al H (.vec es) (.vec es)
  | iptr (cs) (h : al = true) : Frz al H (.iptr cs) (.iptr cs)
  | ref (id g sz off len : Nat) (es es' : List (List AV)) (h : rowAt H id g = some es) (hl : off + len ≤ es.length) (hl' : es'.length = len)
      (he : ∀ (i : Nat) (e e' : List AV), es[off + i]? = some e → es'[i]? = some e' → e.length = e'.length)
      (hv : ∀ (i j : Nat) (e e' : List AV) (c c' : AV), es[off + i]? = some e → es'[i]? = some e' → e[j]? = some c → e'[j]? = some c' → Frz al H c c') :
      Frz al H (.ref id g sz off len) (.vec es')
  | ptr (id g i j : Nat) (e cs' : List AV) (h : elemAt H id g i = some e) (hl : cs'.length + j ≤ e.length)
      (hv : ∀ (k : Nat) (c c' : AV), e[j + k]? = some c → cs'[k]? = some c' → Frz al H c c') : Frz al H (.ptr id g i j) (.iptr cs')
  | agg (cs cs' : List AV) (hl : cs.length = cs'.length) (hv : ∀ (j : Nat) (c c' : AV), cs[j]? = some c → cs'[j]? = some c' → Frz al H c c') : Frz al H (.agg cs) (.agg cs')
  | tup (cs cs' : List AV) (hl : cs.length = cs'.length) (hv : ∀ (j : Nat) (c c' : AV), cs[j]? = some c → cs'[j]? = some c' → Frz al H c c') : Frz al H (.tup cs) (.tup cs')
  | clo (fn : Fn) (a b a' b' : List AV) (hl : a.length = a'.length) (hl' : b.length = b'.length) (hv : ∀ (j : Nat) (c c' : AV), a[j]? = some c → a'[j]? = some c' → Frz al H c c')
      (hv' : ∀ (j : Nat) (c c' : AV), b[j]? = some c → b'[j]? = some c' → Frz al H c c') : Frz al H (.clo fn a b) (.clo fn a' b')
  | ifc (t v v') (h : Frz al H v v') : Frz al H (.ifc t v) (.ifc t v')

def Frzs (al : Bool) (H : Heap) (xs ys : List AV) : Prop := xs.length = ys.length ∧ ∀ (j : Nat) (c c' : AV), xs[j]? = some c → ys[j]? = some c' → Frz al H c c'

/-- How an operation is done: where its new block goes; (in a region that draws its order:) what it must not lk at, so that any order comes to the same. -/
structure Mode where
  kept : Option (Nat × Nat) := none
  imm : Bool := false
  avoid : List Nat := []
  kd : Nat := 0
  brw : Bool := true
  imp : Bool := true

/-- A call of a function with these arguments: by a contract. -/
def CallWP (P : Program) [GL P] (m : Mode) (f : FuncId) (args : List AV) (K : AV → Heap → Nat → Prop) (H : Heap) (c : Nat) : Prop :=
  (∃ al res, args.all (·.noRef) = true ∧ PureC P al f args res ∧ K res H c) ∨
  (m.brw = true ∧ ∃ args' res, Frzs true H args args' ∧ PureC P false f args' res ∧ K res H c) ∨
  (m.imp = true ∧ ∃ post, ProcC P f args H c post ∧ ∀ r H' c', post r H' c' → K r H' c')

/-- The kind of a cell. -/
def kindA : AV → Nat
  | .int .. => 1
  | .bool .. => 2
  | .str .. => 3
  | .vec .. | .ref .. | .nils => 4
  | .ptr .. | .iptr .. | .nilp => 5
  | .mref .. | .nilm => 6
  | _ => 0

def idsA : AV → List Nat
  | .ref id _ _ _ _ => [id]
  | .ptr id _ _ _ => [id]
  | .mref id _ => [id]
  | _ => []

/-- In a region that draws: what an operation may lk at. -/
def okD (P : Program) (m : Mode) (op : Op) (ev : Operand → AV) (H : Heap) : Bool :=
  match op with
  | .load t a => (idsA (ev a)).all (fun id => !m.avoid.contains id && !m.imm) && (m.kd == 0 || (match loadX P H t (ev a) with | some v => kindA v == m.kd | none => false))
  | .store t a x => (idsA (ev a)).all (fun id => !m.avoid.contains id) && (m.kd == 0 || (kindA (ev x) == m.kd && (match loadX P H t (ev a) with | some v => kindA v == m.kd | none => false)))
  | .call c => c.args.toList.all fun x => (idsA (ev x)).all fun id => !m.avoid.contains id && !(m.imm && (match c.callee with | .builtin .len => true | _ => false))
  | _ => true

/-- One operation of a region. -/
def WPop (P : Program) [GL P] (m : Mode) (o : Oper) (K : St → Prop) (Q : Ex → St → Prop) (σ : St) : Prop :=
  match o.op with
  | .call { callee := .value f, args, .. } => match (σ.ev P) f with
    | .clo (.func fid) first captured => CallWP P m fid (first ++ args.toList.map (σ.ev P) ++ captured) (fun r H c => K { sl := putO σ.sl o.dst r, H := H, c := c }) σ.H σ.c
    | _ => False
  | .panic x => match (σ.ev P) x with
    | .ifc t v => Q (.panic (.ifc t v)) σ
    | _ => False
  | op => match opX P op (σ.ev P) σ.H with
    | some e => K (e.put m.kept o.dst σ)
    | none => m.imp = true ∧ match impX P op (σ.ev P) σ.H σ.c with
      | some (v, H', c') => K { sl := putO σ.sl o.dst v, H := H', c := c' }
      | none => match capX P op (σ.ev P) σ.H with
        | some lo => ∀ n : Nat, lo ≤ n → K { sl := putO σ.sl o.dst (.int .i64 n), H := σ.H, c := σ.c }
        | none => False

/-- Whether a guarded operation is done. -/
def WPg (gd : Nat → Option Tmp) (o : Oper) (X : (St → Prop) → St → Prop) (K : St → Prop) (σ : St) : Prop :=
  match o.guard with
  | none => X K σ
  | some (j, want) => match gd j with
    | none => False
    | some d => match lk σ.sl d with
      | .bool b => (b = want → X K σ) ∧ (b ≠ want → K { σ with sl := putO σ.sl o.dst (.tup []) })
      | .tup _ => K { σ with sl := putO σ.sl o.dst (.tup []) }
      | _ => False

/-- Operations one behind the other. -/
def WPf (P : Program) [GL P] (gd : Nat → Option Tmp) (Q : Ex → St → Prop) : List Oper → (St → Prop) → St → Prop
  | [], K, σ => K σ
  | o :: rest, K, σ => WPg gd o (fun K τ => WPop P {} o K Q τ) (WPf P gd Q rest K) σ

/-- In a region that draws: the same, each operation in its mode. -/
def WPd (P : Program) [GL P] (gd : Nat → Option Tmp) : List (Oper × Mode) → (St → Prop) → St → Prop
  | [], K, σ => K σ
  | (o, m) :: rest, K, σ => WPg gd o (fun K τ => okD P m o.op (τ.ev P) τ.H = true ∧ WPop P m o K (fun _ _ => False) τ) (WPd P gd rest K) σ

def isNew : Op → Bool
  | .alloc _ | .box .. | .buildSlice .. | .makeSlice .. | .makeMap .. => true
  | _ => false

/-- A weaker state: some slots and some blocks are forgotten. -/
structure Weak (σ τ : St) : Prop where
  sl : ∀ i, lk τ.sl i = .dead ∨ lk τ.sl i = lk σ.sl i
  H : ∀ (id : Nat) (b : Blk), τ.H[id]? = some (some b) → σ.H[id]? = some (some b)
  c : σ.c ≤ τ.c

/-- What a region of a region that draws is told of its operations. -/
structure DM where
  new : Option Nat := none
  imm : Bool := false
  avoid : List Nat := []
  kd : Nat := 0
  brw : Bool := false

def DM.mode (n c : Nat) (d : DM) : Mode := { kept := d.new.map fun k => (n + k, c + k), imm := d.imm, avoid := d.avoid.map (n + ·), kd := d.kd, brw := d.brw, imp := false }

/-- Remarks on regions: which slots live on behind it; where it draws: its operations' modes, and how many blocks it makes. -/
structure RA where
  live : List Nat
  dms : List DM := []
  news : Nat := 0

abbrev Ann := List RA

def keepA (ann : Ann) (id : Nat) (σ : St) : St :=
  match ann[id]? with
  | some r => σ.keep r.live
  | none => σ

def WPc (P : Program) [GL P] (ann : Ann) : Code → (Ex → St → Prop) → St → Prop
  | .skip, Q, σ => Q .normal σ
  | .region id ops draw, Q, σ =>
    if draw then match ann[id]? with
      | some r => WPd P (fun j => (ops[j]?).bind (·.dst)) (ops.toList.zip (r.dms.map (DM.mode σ.H.length σ.c))) (fun τ => Q .normal (τ.keep r.live)) { σ with H := σ.H ++ List.replicate r.news none, c := σ.c + r.news }
      | none => False
    else WPf P (fun j => (ops[j]?).bind (·.dst)) Q ops.toList (fun τ => Q .normal (keepA ann id τ)) σ
  | .seq a b, Q, σ => WPc P ann a (fun ex τ => match ex with
      | .normal => WPc P ann b Q τ
      | ex => Q ex τ) σ
  | .cond c a b, Q, σ => match (σ.ev P) c with
    | .bool t => (t = true → WPc P ann a Q σ) ∧ (t = false → WPc P ann b Q σ)
    | _ => False
  | .block id body, Q, σ => WPc P ann body (fun ex τ => match ex with
      | .exit i => if i = id then Q .normal τ else Q (.exit i) τ
      | ex => Q ex τ) σ
  | .loop body, Q, σ => ∃ I : Nat → St → Prop, (∃ n τ, Weak σ τ ∧ I n τ) ∧ ∀ n τ, I n τ → WPc P ann body (fun ex υ => match ex with
      | .normal => ∃ m υ', m < n ∧ Weak υ υ' ∧ I m υ'
      | ex => Q ex υ) τ
  | .exit id, Q, σ => Q (.exit id) σ
  | .ret, Q, σ => Q .ret σ
  | .label _, Q, σ => Q .normal σ
  | .scope body, Q, σ => WPc P ann body Q σ
  | _, _, _ => False

end Go.AX
