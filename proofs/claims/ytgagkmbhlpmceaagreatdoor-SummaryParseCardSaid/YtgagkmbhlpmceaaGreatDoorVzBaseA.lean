/-
  V: AN ABSTRACT MACHINE OVER THE MODEL's OWN CODE. Blocks are virtual, a slice's capacity is not known (an append may stay in its block or make a new one: what V says holds either way), an order that Go leaves open is looked at operation by operation. 'VzSound' proves: what V runs to, the machine's call comes to, in every world and on every tape.
-/
import Derived.OrdersHeld
import Derived.Tactics
import Derived.Below
import Derived.ChangeKeysEq
import Derived.DeepKeys3
import Derived.Laws.Concat
import Derived.Laws.Tables
import Derived.Laws.Slices
import Derived.Lib.UnsafeStr
import Derived.Laws.Cells
import Derived.Lib.Builder
import Derived.Laws.AppendOwn
namespace Go.Vz
open Go

/-! ### Finite maps keyed by numbers -/
inductive Tr (α : Type) where
  | nil
  | node (l : Tr α) (v : Option α) (r : Tr α)
namespace Tr
variable {α : Type}
def get : Tr α → Nat → Option α
  | .nil, _ => none
  | .node _ v _, 0 => v
  | .node l _ r, k + 1 => bif Nat.beq (k % 2) 0 then get l (k / 2) else get r (k / 2)
def setF : Nat → Tr α → Nat → α → Tr α
  | 0, t, _, _ => t
  | _ + 1, .nil, 0, a => .node .nil (some a) .nil
  | _ + 1, .node l _ r, 0, a => .node l (some a) r
  | f + 1, .nil, k + 1, a => bif Nat.beq (k % 2) 0 then .node (setF f .nil (k / 2) a) none .nil else .node .nil none (setF f .nil (k / 2) a)
  | f + 1, .node l v r, k + 1, a => bif Nat.beq (k % 2) 0 then .node (setF f l (k / 2) a) v r else .node l v (setF f r (k / 2) a)
def set (t : Tr α) (k : Nat) (a : α) : Tr α := setF (k + 1) t k a
end Tr

/-! ### Values -/
inductive AV where
  | bool (b : Bool)
  | int (k : IntKind) (n : Int)
  | str (s : List Nat)
  | ptr (v k : Nat)
  | nilptr
  | sl (v k len sz : Nat)
  | nilsl
  | map (r : Nat)
  | nilmap
  | fn (f : Fn) (first cap : List AV)
  | nilfn
  | iface (t : TypeId) (x : AV)
  | niliface
  | agg (cs : List AV)
  | tup (cs : List AV)
  /-- a slice of what came in, read alone: its cells -/
  | ro (cs : List AV) (len sz : Nat)
  /-- an address in what came in: the cells from there on -/
  | rp (cs : List AV)
  deriving Inhabited

def AV.isCell : AV → Bool
  | .agg _ | .tup _ => false
  | _ => true
def AV.cells : AV → List AV
  | .agg cs => cs
  | x => [x]
def natOf (s : ByteArray) : List Nat := s.data.toList.map (·.toNat)
def ofCell : Value → Option AV
  | .bool b => some (.bool b)
  | .int k n => some (.int k n)
  | .string s => some (.str (natOf s))
  | .pointer none => some .nilptr
  | .slice none 0 0 => some .nilsl
  | .map none => some .nilmap
  | .nilFunc => some .nilfn
  | .nilIface => some .niliface
  | _ => none
def ofCells : List Value → Option (List AV)
  | [] => some []
  | v :: vs => match ofCell v, ofCells vs with
    | some x, some xs => some (x :: xs)
    | _, _ => none
def ofV : Value → Option AV
  | .agg cs => (ofCells cs.toList).map .agg
  | v => ofCell v

/-! ### Memory -/
structure Win where
  cells : Tr AV
  lo : Nat
  hi : Nat
  cls : Nat
  /-- its block's type, if it is known (the block begins where the window does) -/
  ty : Option TypeId
structure Cl where
  hw : Nat
  own : Option Nat
  st : Nat
  fro : Bool
inductive Ob where
  | win (w : Win)
  | map (es : List (AV × AV × Nat)) (clock : Nat)
  | siter (s : List Nat) (pos : Nat)
  | miter (m : Option Nat) (since : Nat) (seen : List Nat) (last : Nat)
structure Mem where
  obs : Tr Ob
  cls : Tr Cl
  nxt : Nat
def Mem.empty : Mem := ⟨.nil, .nil, 0⟩

def Win.cell (w : Win) (k : Nat) : Option AV := bif Nat.ble w.lo k && Nat.ble (k + 1) w.hi then w.cells.get k else none
def Win.read (w : Win) : Nat → Nat → Option (List AV)
  | _, 0 => some []
  | k, n + 1 => match w.cell k with
    | none => none
    | some x => match w.read (k + 1) n with
      | none => none
      | some l => some (x :: l)
def setCells : Tr AV → Nat → List AV → Tr AV
  | t, _, [] => t
  | t, k, x :: xs => setCells (t.set k x) (k + 1) xs
def allCells : List AV → Bool
  | [] => true
  | x :: xs => x.isCell && allCells xs

/-- the window of a virtual block, if it may be read -/
def Mem.live (m : Mem) (v : Nat) : Option (Win × Cl) :=
  match m.obs.get v with
  | some (.win w) => match m.cls.get w.cls with
    | some c => match c.own with
      | none => some (w, c)
      | some u => bif Nat.beq u v then some (w, c) else none
    | none => none
  | _ => none
def takeN : Nat → List AV → Option (List AV)
  | 0, _ => some []
  | _ + 1, [] => none
  | n + 1, x :: xs => (takeN n xs).map (x :: ·)
/-- n cells at an address -/
def Mem.load (m : Mem) (a : AV) (n : Nat) : Option (List AV) :=
  match a with
  | .ptr v k => match m.live v with
    | some (w, _) => w.read k n
    | none => none
  | .rp cs => takeN n cs
  | _ => none
def Mem.bump (m : Mem) (c : Nat) (f : Cl → Cl) : Mem :=
  match m.cls.get c with
  | some x => { m with cls := m.cls.set c { f x with st := x.st + 1 } }
  | none => m
def Mem.store (m : Mem) (a : AV) (xs : List AV) : Option Mem :=
  match a with
  | .ptr v k => match m.live v with
    | some (w, c) =>
      bif !c.fro && Nat.ble w.lo k && Nat.ble (k + xs.length) w.hi && allCells xs then
        some { m with obs := m.obs.set v (.win { w with cells := setCells w.cells k xs }), cls := m.cls.set w.cls { c with own := some v, st := c.st + 1 } }
      else none
    | none => none
  | _ => none
/-- a new block -/
def Mem.fresh (m : Mem) (t : Option TypeId) (xs : List AV) : Mem :=
  { obs := m.obs.set m.nxt (.win ⟨setCells .nil 0 xs, 0, xs.length, m.nxt, t⟩), cls := m.cls.set m.nxt ⟨xs.length, none, 0, false⟩, nxt := m.nxt + 1 }
/-- one that is never written -/
def Mem.freshFro (m : Mem) (xs : List AV) : Mem :=
  { obs := m.obs.set m.nxt (.win ⟨setCells .nil 0 xs, 0, xs.length, m.nxt, none⟩), cls := m.cls.set m.nxt ⟨xs.length, none, 0, true⟩, nxt := m.nxt + 1 }
def Mem.freshOb (m : Mem) (o : Ob) : Mem :=
  { obs := m.obs.set m.nxt o, cls := m.cls.set m.nxt ⟨0, none, 0, false⟩, nxt := m.nxt + 1 }
def Mem.setOb (m : Mem) (r : Nat) (o : Ob) : Mem := { (m.bump r id) with obs := m.obs.set r o }

/-! ### What a type says -/
def sizeT (P : Program) (t : TypeId) : Option Nat := (P.info? t).map (·.size)
def bytesT (P : Program) (t : TypeId) : Option Nat := (P.info? t).map (·.bytes)
def aggT (P : Program) (t : TypeId) : Option Bool := (P.underlying t).map fun | .struct _ | .array _ _ => true | _ => false
def zeroT (P : Program) (t : TypeId) : Option AV := match P.info? t with
  | some i => match i.zero with
    | some z => ofV z
    | none => none
  | none => none
def partA (P : Program) (t : TypeId) (cs : List AV) (off : Nat) : Option AV :=
  match aggT P t, sizeT P t with
  | some true, some n => (takeN n (cs.drop off)).map .agg
  | some false, some _ => cs[off]?
  | _, _ => none
def ofCellsT (P : Program) (t : TypeId) (cs : List AV) : Option AV :=
  match aggT P t with
  | some true => some (.agg cs)
  | some false => match cs with | [x] => some x | _ => none
  | none => none

/-! ### Operations that look at no memory -/
def bin (op : BinOp) (k : IntKind) (a b : Int) : Option AV :=
  let back (r : BitVec k.bits) : Option AV := some (.int k (k.wrap r.toNat))
  match op with
  | .add => some (.int k (k.wrap (a + b)))
  | .sub => some (.int k (k.wrap (a - b)))
  | .mul => some (.int k (k.wrap (a * b)))
  | .quo => if b = 0 then none else some (.int k (k.wrap (a.tdiv b)))
  | .rem => if b = 0 then none else some (.int k (a.tmod b))
  | .and => back (BitVec.ofInt k.bits a &&& BitVec.ofInt k.bits b)
  | .or => back (BitVec.ofInt k.bits a ||| BitVec.ofInt k.bits b)
  | .xor => back (BitVec.ofInt k.bits a ^^^ BitVec.ofInt k.bits b)
  | .andNot => back (BitVec.ofInt k.bits a &&& ~~~(BitVec.ofInt k.bits b))
  | .eql => some (.bool (a == b))
  | .neq => some (.bool (a != b))
  | .lss => some (.bool (a < b))
  | .leq => some (.bool (a ≤ b))
  | .gtr => some (.bool (a > b))
  | .geq => some (.bool (a ≥ b))
  | _ => none
def shiftA (op : BinOp) (k : IntKind) (x y : Int) : Option AV :=
  if y < 0 then none else
    let n := min y.toNat k.bits
    match op with
    | .shl => some (.int k (k.wrap (x * 2 ^ n)))
    | .shr => some (.int k (x.fdiv (2 ^ n)))
    | _ => none
def eqNats : List Nat → List Nat → Bool
  | [], [] => true
  | a :: x, b :: y => Nat.beq a b && eqNats x y
  | _, _ => false
def ltNats : List Nat → List Nat → Bool
  | _, [] => false
  | [], _ :: _ => true
  | a :: x, b :: y => Nat.ble (a + 1) b || (Nat.beq a b && ltNats x y)
def binS (op : BinOp) (a b : List Nat) : Option AV :=
  match op with
  | .add => bif Nat.ble (a.length + b.length) 9223372036854775807 then some (.str (a ++ b)) else none
  | .eql => some (.bool (eqNats a b))
  | .neq => some (.bool (!eqNats a b))
  | .lss => some (.bool (ltNats a b))
  | .leq => some (.bool (ltNats a b || eqNats a b))
  | .gtr => some (.bool (!(ltNats a b || eqNats a b)))
  | .geq => some (.bool (!ltNats a b))
  | _ => none
/-- plain kinds -/
def scalarT (P : Program) (t : TypeId) : Bool :=
  match P.underlying t with
  | some (.int _) | some .string | some .bool => true
  | _ => false
def eqScalar (P : Program) (t : TypeId) (x y : AV) : Option Bool :=
  match P.underlying t, x, y with
  | some (.int _), .int k a, .int k' b => if k = k' then some (a == b) else none
  | some .string, .str a, .str b => some (eqNats a b)
  | some .bool, .bool a, .bool b => some (a == b)
  | _, _, _ => none
/-- a struct of plain fields, one cell each -/
def flatF (P : Program) : List Field → Nat → Bool
  | [], _ => true
  | f :: fs, i => f.name != "_" && Nat.beq f.offset i && scalarT P f.type && flatF P fs (i + 1)
def flatS (P : Program) (t : TypeId) : Option (List Field) :=
  match P.underlying t with
  | some (.struct fs) => bif flatF P fs.toList 0 && !(P.stoodInHeld t) then some fs.toList else none
  | _ => none
def eqFieldsA (P : Program) : List Field → List AV → List AV → Option Bool
  | [], [], [] => some true
  | f :: fs, x :: xs, y :: ys => match eqScalar P f.type x y, eqFieldsA P fs xs ys with
    | some a, some b => some (a && b)
    | _, _ => none
  | _, _, _ => none
def eqA (P : Program) (t : TypeId) (x y : AV) : Option Bool :=
  match P.underlying t, x, y with
  | some .bool, .bool a, .bool b => some (a == b)
  | some (.pointer _), .nilptr, .nilptr => some true
  | some (.pointer _), .nilptr, .ptr _ _ | some (.pointer _), .ptr _ _, .nilptr => some false
  | some (.pointer _), .nilptr, .rp _ | some (.pointer _), .rp _, .nilptr => some false
  | some (.pointer e), .ptr v k, .ptr u j => match sizeT P e with
    | some (_ + 1) => bif Nat.beq v u then some (Nat.beq k j) else none
    | _ => none
  | some (.slice _), .nilsl, .nilsl => some true
  | some (.slice _), .sl .., .nilsl | some (.slice _), .ro _ (_ + 1) _, .nilsl | some (.slice _), .nilsl, .sl .. | some (.slice _), .nilsl, .ro _ (_ + 1) _ => some false
  | some (.map _ _), .nilmap, .nilmap => some true
  | some (.map _ _), .map _, .nilmap | some (.map _ _), .nilmap, .map _ => some false
  | some (.func _ _ _), .nilfn, .nilfn => some true
  | some (.func _ _ _), .fn .., .nilfn | some (.func _ _ _), .nilfn, .fn .. => some false
  | some (.interface _), .iface _ _, .niliface | some (.interface _), .niliface, .iface _ _ => some false
  | some (.struct _), .agg xs, .agg ys => match flatS P t with
    | some fs => bif P.eqGuardType P.depth t then none else eqFieldsA P fs xs ys
    | none => none
  | _, _, _ => none
def isLitNil : Operand → Bool
  | .const .nilIface => true
  | _ => false
def binA (P : Program) (op : BinOp) (t : TypeId) (ox oy : Operand) (x y : AV) : Option AV :=
  match x, y with
  | .int k a, .int k' b => match op with
    | .shl | .shr => shiftA op k a b
    | _ => if k = k' then bin op k a b else none
  | .str a, .str b => binS op a b
  | .niliface, .niliface => match P.underlying t with
    | some (.interface _) => bif isLitNil ox || isLitNil oy then (match op with | .eql => some (.bool true) | .neq => some (.bool false) | _ => none) else none
    | _ => none
  | _, _ => match op with
    | .eql => (eqA P t x y).map .bool
    | .neq => (eqA P t x y).map fun b => .bool (!b)
    | _ => none
def unA (op : UnOp) (x : AV) : Option AV :=
  match op, x with
  | .neg, .int k n => some (.int k (k.wrap (0 - n)))
  | .xor, .int k n => bin .xor k (if k.signed then -1 else k.max) n
  | .not, .bool b => some (.bool !b)
  | _, _ => none
def convA (P : Program) (src dst : TypeId) (x : AV) : Option AV :=
  match P.underlying src, P.underlying dst, x with
  | some _, some (.int k), .int _ n => some (.int k (k.wrap n))
  | some _, some .string, .str s => some (.str s)
  | _, _, _ => none
def intOf? : Option AV → Option Int
  | some (.int _ n) => some n
  | _ => none
def natOf? : Option AV → Option Nat
  | some (.int _ (.ofNat n)) => some n
  | _ => none
/-- the two bounds of a slice expression -/
def bounds (ρ : Operand → Option AV) (lo hi : Option Operand) (len : Nat) : Option (Nat × Nat) :=
  match (match hi with | none => some len | some h => natOf? (ρ h)) with
  | none => none
  | some h => match (match lo with | none => some 0 | some l => natOf? (ρ l)) with
    | none => none
    | some l => bif Nat.ble l h && Nat.ble h len then some (l, h) else none
def operands (ρ : Operand → Option AV) : List Operand → Option (List AV)
  | [] => some []
  | x :: xs => match ρ x, operands ρ xs with
    | some a, some as => some (a :: as)
    | _, _ => none
def putCells : List AV → Nat → List AV → Option (List AV)
  | cs, 0, [] => some cs
  | _ :: cs, 0, x :: xs => (putCells cs 0 xs).map (x :: ·)
  | c :: cs, n + 1, xs => (putCells cs n xs).map (c :: ·)
  | [], _, _ => none
/-- parts laid into zero cells: at each place its offset and its size -/
def fillA (place : Nat → Option (Nat × Nat)) (cs : List AV) : List (Nat × AV) → Option (List AV)
  | [] => some cs
  | (i, x) :: rest => match place i with
    | none => none
    | some (off, size) => bif Nat.beq x.cells.length size then (match putCells cs off x.cells with | some cs => fillA place cs rest | none => none) else none
def partsA (ρ : Operand → Option AV) : List (Nat × Operand) → Option (List (Nat × AV))
  | [] => some []
  | (i, x) :: rest => match ρ x, partsA ρ rest with
    | some a, some l => some ((i, a) :: l)
    | _, _ => none
def minA : List AV → Option AV
  | [.int k x, .int _ y] => some (.int k (if y < x then y else x))
  | _ => none
def maxA : List AV → Option AV
  | [.int k x, .int _ y] => some (.int k (if y > x then y else x))
  | _ => none
def lenA (P : Program) (t : TypeId) (x : AV) : Option AV :=
  match P.underlying t, x with
  | some .string, .str s => some (.int .i64 s.length)
  | some (.slice _), .sl _ _ n _ => some (.int .i64 n)
  | some (.slice _), .ro _ n _ => some (.int .i64 n)
  | some (.slice _), .nilsl => some (.int .i64 0)
  | some (.array n _), _ => some (.int .i64 n)
  | some (.map _ _), .nilmap => some (.int .i64 0)
  | _, _ => none
def sliceA (P : Program) (ρ : Operand → Option AV) (t : TypeId) (x : AV) (lo hi : Option Operand) : Option AV :=
  match P.underlying t, x with
  | some .string, .str s => match bounds ρ lo hi s.length with
    | some (l, h) => some (.str ((s.take h).drop l))
    | none => none
  | some (.slice e), .sl v k n sz => match sizeT P e, bounds ρ lo hi n with
    | some z, some (l, h) => bif Nat.beq z sz then some (.sl v (k + l * sz) (h - l) sz) else none
    | _, _ => none
  | some (.slice e), .ro cs n sz => match sizeT P e, bounds ρ lo hi n with
    | some z, some (l, h) => bif Nat.beq z sz then some (.ro ((cs.take (h * sz)).drop (l * sz)) (h - l) sz) else none
    | _, _ => none
  | some (.slice e), .nilsl => match sizeT P e, bounds ρ lo hi 0 with
    | some _, some _ => some .nilsl
    | _, _ => none
  | some (.array n e), .rp cs => match sizeT P e, bounds ρ lo hi n with
    | some z, some (l, h) => bif Nat.ble (n * z) cs.length then some (.ro ((cs.take (h * z)).drop (l * z)) (h - l) z) else none
    | _, _ => none
  | _, _ => none

def pureA (P : Program) (ρ : Operand → Option AV) (o : Op) : Option AV :=
  match o with
  | .move x | .assign x => ρ x
  | .pick c a b => match ρ c with
    | some (.bool true) => ρ a
    | some (.bool false) => ρ b
    | _ => none
  | .nilCheck x => match ρ x with
    | some (.ptr v k) => some (.ptr v k)
    | some (.rp cs) => some (.rp cs)
    | some (.fn (.func f) a b) => some (.fn (.func f) a b)
    | some (.iface t x) => some (.iface t x)
    | _ => none
  | .binOp op t x y _ => match ρ x, ρ y with
    | some a, some b => binA P op t x y a b
    | _, _ => none
  | .unOp op _ x => match ρ x with
    | some a => unA op a
    | none => none
  | .convert s d x => match ρ x with
    | some a => convA P s d a
    | none => none
  | .makeInterface t x => match P.underlying t with
    | some (.interface _) => none
    | some _ => (ρ x).map (.iface t ·)
    | none => none
  | .makeFunc fn first cap => match operands ρ first.toList, operands ρ cap.toList with
    | some a, some b => some (.fn fn a b)
    | _, _ => none
  | .extract t i => match ρ t with
    | some (.tup l) => l[i]?
    | _ => none
  | .field t x i => match P.underlying t, ρ x with
    | some (.struct fs), some (.agg cs) => match fs[i]? with
      | some f => partA P f.type cs f.offset
      | none => none
    | _, _ => none
  | .index t x i => match P.underlying t, ρ x, natOf? (ρ i) with
    | some .string, some (.str s), some n => match s[n]? with
      | some b => some (.int .u8 (b : Nat))
      | none => none
    | some (.array len e), some (.agg cs), some n => match sizeT P e with
      | some z => bif Nat.ble (n + 1) len then partA P e cs (n * z) else none
      | none => none
    | _, _, _ => none
  | .fieldAddr t x i => match P.underlying t, ρ x with
    | some (.struct fs), some a => match fs[i]? with
      | some f => match sizeT P f.type with
        | some (_ + 1) => match a with
          | .ptr v k => some (.ptr v (k + f.offset))
          | .rp cs => bif Nat.ble f.offset cs.length then some (.rp (cs.drop f.offset)) else none
          | _ => none
        | _ => none
      | none => none
    | _, _ => none
  | .indexAddr t x i => match P.underlying t, ρ x, natOf? (ρ i) with
    | some (.slice e), some (.sl v k n sz), some j => match sizeT P e with
      | some z => bif Nat.beq z sz && Nat.ble (j + 1) n then some (.ptr v (k + j * sz)) else none
      | none => none
    | some (.slice e), some (.ro cs n sz), some j => match sizeT P e with
      | some z => bif Nat.beq z sz && Nat.ble (j + 1) n && Nat.ble (j * sz) cs.length then some (.rp (cs.drop (j * sz))) else none
      | none => none
    | some (.array len e), some (.ptr v k), some j => match sizeT P e with
      | some z => bif Nat.ble (j + 1) len then some (.ptr v (k + j * z)) else none
      | none => none
    | some (.array len e), some (.rp cs), some j => match sizeT P e with
      | some z => bif Nat.ble (j + 1) len && Nat.ble (j * z) cs.length then some (.rp (cs.drop (j * z))) else none
      | none => none
    | _, _, _ => none
  | .slice t x lo hi none => match ρ x with
    | some a => sliceA P ρ t a lo hi
    | none => none
  | .build t parts => match P.underlying t, zeroT P t, partsA ρ parts.toList with
    | some (.struct fs), some z, some ps => match fs.toList.mapM (fun f => (P.info? f.type).map fun i => (f.offset, i.size)) with
      | some places => (fillA (places[·]?) z.cells ps).map .agg
      | none => none
    | some (.array _ e), some z, some ps => match sizeT P e with
      | some n => (fillA (fun i => some (i * n, n)) z.cells ps).map .agg
      | none => none
    | _, _, _ => none
  | .typeAssert x _ t ok => match P.underlying t with
    | some (.interface _) | none => none
    | some _ => match ρ x with
      | some (.iface u v) => if u = t then some (bif ok then .tup [v, .bool true] else v) else (bif ok then (zeroT P t).map fun z => .tup [z, .bool false] else none)
      | some .niliface => bif ok then (zeroT P t).map fun z => .tup [z, .bool false] else none
      | _ => none
  | .call c => match c.callee with
    | .builtin .len => match c.argTypes[0]?, operands ρ c.args.toList with
      | some t, some [x] => lenA P t x
      | _, _ => none
    | .builtin .unsafeSliceData => match operands ρ c.args.toList with
      | some [.nilsl] => some .nilptr
      | some [.sl v k (_ + 1) _] => some (.ptr v k)
      | _ => none
    | .builtin .min => match operands ρ c.args.toList with
      | some xs => minA xs
      | none => none
    | .builtin .max => match operands ρ c.args.toList with
      | some xs => maxA xs
      | none => none
    | _ => none
  | _ => none

/-! ### Operations that read memory -/
/-- keys -/
def eqKey (P : Program) (t : TypeId) (x y : AV) : Option Bool :=
  match flatS P t with
  | some fs => match x, y with
    | .agg xs, .agg ys => eqFieldsA P fs xs ys
    | _, _ => none
  | none => eqScalar P t x y
def keyT (P : Program) (t : TypeId) (x : AV) : Bool := (eqKey P t x x).isSome
def findA (P : Program) (t : TypeId) (k : AV) : List (AV × AV × Nat) → Nat → Option (Option (Nat × AV × Nat))
  | [], _ => some none
  | (k', v, b) :: es, i => match eqKey P t k k' with
    | some true => some (some (i, v, b))
    | some false => findA P t k es (i + 1)
    | none => none
def mapEs (m : Mem) (x : AV) : Option (List (AV × AV × Nat)) :=
  match x with
  | .nilmap => some []
  | .map r => match m.obs.get r with
    | some (.map es _) => some es
    | _ => none
  | _ => none
def tyIs (t : Option TypeId) (e : TypeId) : Bool := match t with | some u => Nat.beq u e | none => false
def loadA (P : Program) (ρ : Operand → Option AV) (m : Mem) (o : Op) : Option AV :=
  match o with
  | .load t x => match ρ x, sizeT P t with
    | some a, some n => match aggT P t with
      | some true => (m.load a n).map .agg
      | some false => match m.load a 1 with | some [x] => some x | _ => none
      | none => none
    | _, _ => none
  | .convert s d x => match P.underlying s, P.underlying d, ρ x with
    | some (.pointer t), some .unsafePointer, some (.ptr v k) => match sizeT P t, m.live v with
      | some (_ + 1), some (w, _) => bif Nat.ble w.lo k && Nat.ble (k + 1) w.hi then some (.ptr v k) else none
      | _, _ => none
    | some .unsafePointer, some (.pointer u), some (.ptr v k) => match sizeT P u, m.live v with
      | some (n + 1), some (w, _) => bif tyIs w.ty u && Nat.beq k w.lo && Nat.ble (k + (n + 1)) w.hi then some (.ptr v k) else none
      | _, _ => none
    | _, _, _ => none
  | .slice t x lo hi none => match P.underlying t, ρ x with
    | some (.array n e), some (.ptr v k) => match sizeT P e, bounds ρ lo hi n with
      | some (z + 1), some (l, h) => match n with
        | 0 => none
        | n + 1 => bif Nat.ble (n + 1) 9223372036854775807 then (match m.load (.ptr v (k + (n + 1) * (z + 1) - 1)) 1 with
          | some _ => some (.sl v (k + l * (z + 1)) (h - l) (z + 1))
          | none => none) else none
      | _, _ => none
    | _, _ => none
  | .lookup t x i ok => match P.underlying t, ρ x, ρ i with
    | some (.map kt et), some mv, some key => bif keyT P kt key then
        (match mapEs m mv with
        | some es => match findA P kt key es 0 with
          | some (some (_, v, _)) => some (bif ok then .tup [v, .bool true] else v)
          | some none => match zeroT P et with
            | some z => some (bif ok then .tup [z, .bool false] else z)
            | none => none
          | none => none
        | none => none) else none
    | _, _, _ => none
  | .call c => match c.callee with
    | .builtin .len => match c.argTypes[0]?, operands ρ c.args.toList with
      | some t, some [.map r] => match P.underlying t, m.obs.get r with
        | some (.map _ _), some (.map es _) => some (.int .i64 es.length)
        | _, _ => none
      | _, _ => none
    | _ => none
  | _ => none

/-! ### Operations that write memory, make it, or call -/
inductive Res where
  | val (x : AV)
  | skip
  | enter (f : FuncId) (args : List AV)
  /-- a function without a body -/
  | ext (f : FuncId) (args : List AV)

/-- what is appended: how many elements, their cells -/
def sourceA (m : Mem) (sz : Nat) (x : AV) : Option (Nat × List AV) :=
  match x with
  | .nilsl => some (0, [])
  | .sl v k n z => bif Nat.beq z sz then (match m.load (.ptr v k) (n * z) with | some cs => some (n, cs) | none => none) else none
  | .ro cs n z => bif Nat.beq z sz && Nat.beq cs.length (n * z) then some (n, cs) else none
  | .str s => bif Nat.beq sz 1 then some (s.length, s.map fun b => .int .u8 (b : Nat)) else none
  | _ => none
def appendA (e : TypeId) (sz bytes : Nat) (m : Mem) (s : AV) (n : Nat) (cs : List AV) : Option (AV × Mem) :=
  match s with
  | .nilsl => bif Nat.beq n 0 then some (.nilsl, m) else
      bif Nat.ble (n * bytes) 140737488355328 && Nat.ble n 9223372036854775807 && allCells cs then some (.sl m.nxt 0 n sz, m.fresh (some e) cs) else none
  | .sl v k len z => bif Nat.beq z sz then
      (bif Nat.beq n 0 then some (s, m) else
        bif Nat.ble ((len + n) * bytes) 140737488355328 && Nat.ble (len + n) 9223372036854775807 && allCells cs then
        (match m.live v with
        | some (w, c) =>
          let p := k + len * sz
          bif !c.fro && Nat.ble w.lo k && Nat.ble p w.hi then
            let own := bif Nat.beq p c.hw then (match c.own with | none => none | some _ => some m.nxt) else some m.nxt
            some (.sl m.nxt k (len + n) sz,
              { obs := m.obs.set m.nxt (.win ⟨setCells w.cells p cs, k, p + cs.length, w.cls, bif tyIs w.ty e && Nat.beq k w.lo then some e else none⟩)
                cls := m.cls.set w.cls { c with hw := p + cs.length, own := own, st := c.st + 1 }
                nxt := m.nxt + 1 })
          else none
        | none => none) else none) else none
  | _ => none
def replicateA (n : Nat) (cs : List AV) : List AV :=
  match n with
  | 0 => []
  | n + 1 => cs ++ replicateA n cs
def modifyA (f : AV × AV × Nat → AV × AV × Nat) : List (AV × AV × Nat) → Nat → List (AV × AV × Nat)
  | [], _ => []
  | e :: es, 0 => f e :: es
  | e :: es, i + 1 => e :: modifyA f es i
def eraseA : List (AV × AV × Nat) → Nat → List (AV × AV × Nat)
  | [], _ => []
  | _ :: es, 0 => es
  | e :: es, i + 1 => e :: eraseA es i
def findBorn (b : Nat) : List (AV × AV × Nat) → Nat → Option Nat
  | [], _ => none
  | (_, _, c) :: es, i => bif Nat.beq b c then some i else findBorn b es (i + 1)
/-- cells that are bytes -/
def bytesOf : List AV → Option (List Nat)
  | [] => some []
  | .int .u8 (.ofNat b) :: l => bif Nat.ble b 255 then (match bytesOf l with | some r => some (b :: r) | none => none) else none
  | _ => none
def calleeA (P : Program) (f : AV) (args : List AV) : Option Res :=
  match f with
  | .fn (.func g) first cap => match P.funcs[g]? with
    | some fn => bif fn.name == "runtime.NumGoroutine" then none else bif fn.body.isSome then some (.enter g (first ++ args ++ cap)) else some (.ext g (first ++ args ++ cap))
    | none => none
  | _ => none
def effA (P : Program) (ρ : Operand → Option AV) (m : Mem) (o : Op) : Option (Res × Mem) :=
  match o with
  | .alloc t => match zeroT P t with
    | some z => some (.val (.ptr m.nxt 0), m.fresh (some t) z.cells)
    | none => none
  | .box t x => match ρ x with
    | some a => bif allCells a.cells then some (.val (.ptr m.nxt 0), m.fresh (some t) a.cells) else none
    | none => none
  | .store t x y => match ρ x, ρ y, sizeT P t with
    | some a, some v, some n => bif Nat.beq n v.cells.length then (m.store a v.cells).map fun m => (.skip, m) else none
    | _, _, _ => none
  | .buildSlice t len parts => match P.underlying t with
    | some (.slice e) => match sizeT P e, zeroT P e, partsA ρ parts.toList with
      | some (n + 1), some z, some ps => bif Nat.ble (len * (n + 1)) 16777216 && Nat.beq z.cells.length (n + 1) then
          (match fillA (fun i => some (i * (n + 1), n + 1)) (replicateA len z.cells) ps with
          | some cs => bif allCells cs then some (.val (.sl m.nxt 0 len (n + 1)), m.fresh (some e) cs) else none
          | none => none) else none
      | _, _, _ => none
    | _ => none
  | .convert s d x => match P.underlying s, P.underlying d, ρ x with
    | some .string, some (.slice e), some (.str l) => match P.underlying e with
      | some (.int .u8) => bif Nat.ble l.length 9223372036854775807 then some (.val (.sl m.nxt 0 l.length 1), m.freshFro (l.map fun b => .int .u8 (b : Nat))) else none
      | _ => none
    | _, _, _ => none
  | .makeMap t r => match r with
    | none => some (.val (.map m.nxt), m.freshOb (.map [] 0))
    | some h => match P.underlying t, ρ h with
      | some (.map _ _), some (.int _ _) => some (.val (.map m.nxt), m.freshOb (.map [] 0))
      | _, _ => none
  | .makeSlice t l c => match P.underlying t with
    | some (.slice e) => match sizeT P e, bytesT P e, zeroT P e, natOf? (ρ l), natOf? (ρ c) with
      | some (n + 1), some bytes, some z, some l, some c => bif Nat.ble l c && Nat.ble c 9223372036854775807 && Nat.ble (c * bytes) 281474976710656 && Nat.beq z.cells.length (n + 1) && Nat.beq l c then
          some (.val (.sl m.nxt 0 l (n + 1)), m.fresh (some e) (replicateA c z.cells)) else none
      | _, _, _, _, _ => none
    | _ => none
  | .mapUpdate t x k y | .insert t x k y => match P.underlying t, ρ x, ρ k, ρ y with
    | some (.map kt _), some (.map r), some key, some v => match m.obs.get r with
      | some (.map es clock) => bif keyT P kt key then
          (match findA P kt key es 0 with
          | some (some (i, _, _)) => some (.skip, m.setOb r (.map (modifyA (fun e => (key, v, e.2.2)) es i) clock))
          | some none => some (.skip, m.setOb r (.map (es ++ [(key, v, clock)]) (clock + 1)))
          | none => none) else none
      | _ => none
    | _, _, _, _ => none
  | .mapEntry t x k => match P.underlying t, ρ x, ρ k with
    | some (.map kt et), some (.map r), some key => match m.obs.get r with
      | some (.map es clock) => bif keyT P kt key then
          (match findA P kt key es 0, zeroT P et with
          | some (some (i, v, b)), _ => some (.val (.tup [v, .int .i64 b]), m.setOb r (.map (modifyA (fun e => (key, e.2)) es i) clock))
          | some none, some z => some (.val (.tup [z, .int .i64 clock]), m.setOb r (.map (es ++ [(key, z, clock)]) (clock + 1)))
          | _, _ => none) else none
      | _ => none
    | _, _, _ => none
  | .entryStore _ x s y => match ρ x, natOf? (ρ s), ρ y with
    | some (.map r), some b, some v => match m.obs.get r with
      | some (.map es clock) => match findBorn b es 0 with
        | some i => some (.skip, m.setOb r (.map (modifyA (fun e => (e.1, v, e.2.2)) es i) clock))
        | none => none
      | _ => none
    | _, _, _ => none
  | .range t x => match P.underlying t, ρ x with
    | some .string, some (.str s) => some (.val (.ptr m.nxt 0), m.freshOb (.siter s 0))
    | some (.map _ _), some .nilmap => some (.val (.ptr m.nxt 0), m.freshOb (.miter none 0 [] 0))
    | some (.map _ _), some (.map r) => match m.obs.get r with
      | some (.map _ clock) => some (.val (.ptr m.nxt 0), m.freshOb (.miter (some r) clock [] clock))
      | _ => none
    | _, _ => none
  | .next x isString => match ρ x, isString with
    | some (.ptr r 0), true => match m.obs.get r with
      | some (.siter s pos) => bif Nat.ble (pos + 1) s.length then
          (match s[pos]? with
          | some c => bif Nat.ble c 127 then some (.val (.tup [.bool true, .int .i64 pos, .int .i32 c]), m.setOb r (.siter s (pos + 1))) else none
          | none => none) else some (.val (.tup [.bool false]), m)
      | _ => none
    | some (.ptr r 0), false => match m.obs.get r with
      | some (.miter none _ _ _) => some (.val (.tup [.bool false]), m)
      | some (.miter (some q) since seen last) => match m.obs.get q with
        | some (.map es clock) =>
          -- one entry or none alone: what comes next is forced
          (match es with
          | [] => some (.val (.tup [.bool false]), m)
          | [(k, v, b)] => bif Nat.ble (b + 1) since then
              (match seen with
              | [] => some (.val (.tup [.bool true, k, v]), m.setOb r (.miter (some q) since [b] clock))
              | [b'] => bif Nat.beq b b' && Nat.ble (b + 1) last then some (.val (.tup [.bool false]), m) else none
              | _ => none) else none
          | _ => none)
        | _ => none
      | _ => none
    | _, _ => none
  | .call c => match c.callee with
    | .value f => match ρ f, operands ρ c.args.toList with
      | some g, some args => (calleeA P g args).map fun r => (r, m)
      | _, _ => none
    | .builtin .append => match c.argTypes[0]?, c.argTypes[1]?, operands ρ c.args.toList with
      | some t, some u, some [s, x] => match P.underlying t, P.underlying u with
        | some (.slice e), some ut => match ut with
          | .int _ => none
          | _ => match sizeT P e, bytesT P e, zeroT P e with
            | some (n + 1), some bytes, some z => bif Nat.beq z.cells.length (n + 1) then
                (match sourceA m (n + 1) x with
                | some (cnt, cs) => (appendA e (n + 1) bytes m s cnt cs).map fun (v, m) => (.val v, m)
                | none => none) else none
            | _, _, _ => none
        | _, _ => none
      | _, _, _ => none
    | .builtin .unsafeString => match c.argTypes[0]?, operands ρ c.args.toList with
      | some pt, some [p, .int .i64 (.ofNat n)] => match p, n with
        | .nilptr, 0 => bif Nat.beq c.argTypes.size 2 then some (.val (.str []), m) else none
        | .ptr v k, n + 1 => match P.underlying pt, m.live v with
          | some (.pointer e), some (w, q) => bif tyIs w.ty e && Nat.beq k w.lo && Nat.ble (k + (n + 1)) w.hi && Nat.beq (P.cellsOf e) 1 && Nat.ble (n + 1) 9223372036854775807 && Nat.beq c.argTypes.size 2 then
              (match w.read k (n + 1) with
              | some xs => match bytesOf xs with
                | some l => some (.val (.str l), { m with cls := m.cls.set w.cls { q with fro := true, st := q.st + 1 } })
                | none => none
              | none => none) else none
          | _, _ => none
        | _, _ => none
      | _, _ => none
    | .builtin .copy => match c.argTypes[0]?, operands ρ c.args.toList with
      | some t, some [d, x] => match P.underlying t with
        | some (.slice e) => match sizeT P e with
          | some (sz + 1) => match sourceA m (sz + 1) x with
            | some (cnt, cs) => match d with
              | .sl v k len z => bif Nat.beq z (sz + 1) && Nat.ble cnt len then
                  (match cnt with
                  | 0 => some (.val (.int .i64 0), m)
                  | _ + 1 => (m.store (.ptr v k) cs).map fun m => (.val (.int .i64 cnt), m)) else none
              | _ => none
            | none => none
          | _ => none
        | _ => none
      | _, _ => none
    | .builtin .delete => match c.argTypes[0]?, operands ρ c.args.toList with
      | some t, some [.map r, key] => match P.underlying t, m.obs.get r with
        | some (.map kt _), some (.map es clock) => bif keyT P kt key then
            (match findA P kt key es 0 with
            | some (some (i, _, _)) => some (.val (.tup []), m.setOb r (.map (eraseA es i) clock))
            | some none => some (.val (.tup []), m.setOb r (.map es clock))
            | none => none) else none
        | _, _ => none
      | _, _ => none
    | .builtin .clear => match c.argTypes[0]?, operands ρ c.args.toList with
      | some t, some [x] => match P.underlying t, x with
        | some (.slice _), .nilsl => some (.val (.tup []), m)
        | some (.slice e), .sl v k n sz => match n, sizeT P e, zeroT P e with
          | 0, _, _ => some (.val (.tup []), m)
          | n + 1, some z, some zc => bif Nat.beq z sz && Nat.beq zc.cells.length sz then (m.store (.ptr v k) (replicateA (n + 1) zc.cells)).map fun m => (.val (.tup []), m) else none
          | _, _, _ => none
        | _, _ => none
      | _, _ => none
    | _ => none
  | _ => none

/-! ### Code -/
structure Cfg where
  P : Program
  /-- the cells of the package-level variables that are read -/
  glob : Nat → Option (List AV)
  /-- calls that are taken as they are told -/
  prim : FuncId → List AV → Mem → Option (AV × Mem)
  /-- functions so told -/
  isPrim : FuncId → Bool
  /-- functions without a body -/
  ext : FuncId → List AV → Mem → Option (AV × Mem)

/-- a frame: its slots, their number -/
structure Fr where
  t : Tr AV
  n : Nat
def evalA (C : Cfg) (fr : Fr) : Operand → Option AV
  | .tmp t => fr.t.get t
  | .const v => ofV v
  | .global g => (C.glob g).map .rp
  | .func f => some (.fn (.func f) [] [])
def Fr.put (fr : Fr) (d : Option Tmp) (x : AV) : Option Fr := match d with
  | some t => bif Nat.ble (t + 1) fr.n then some { fr with t := fr.t.set t x } else none
  | none => some fr
/-- is an operation wanted? (an undecided guard: none) -/
def wantedA (ops : List Oper) (fr : Fr) (o : Oper) : Option Bool :=
  match o.guard with
  | none => some true
  | some (j, want) => match ops[j]? with
    | some g => match g.dst with
      | some t => match fr.t.get t with
        | some (.bool b) => some (b == want)
        | some (.tup []) => some false
        | _ => none
      | none => none
    | none => none
abbrev CallF := FuncId → List AV → Mem → Option (AV × Mem)
/-- one operation -/
def opA (C : Cfg) (call : CallF) (fr : Fr) (m : Mem) (o : Oper) : Option (AV × Mem) :=
  match pureA C.P (evalA C fr) o.op with
  | some x => some (x, m)
  | none => match loadA C.P (evalA C fr) m o.op with
    | some x => some (x, m)
    | none => match effA C.P (evalA C fr) m o.op with
      | some (.val x, m) => some (x, m)
      | some (.skip, m) => some (.tup [], m)
      | some (.enter f args, m) => call f args m
      | some (.ext f args, m) => C.ext f args m
      | none => none
def runOps (C : Cfg) (call : CallF) (ops : List Oper) : List Oper → Fr → Mem → Option (Fr × Mem)
  | [], fr, m => some (fr, m)
  | o :: rest, fr, m => match wantedA ops fr o with
    | some true => match opA C call fr m o with
      | some (x, m) => match fr.put o.dst x with
        | some fr => runOps C call ops rest fr m
        | none => none
      | none => none
    | some false => match fr.put o.dst (.tup []) with
      | some fr => runOps C call ops rest fr m
      | none => none
    | none => none
def results (P : Program) (m : Mem) (fr : Fr) : List ResultVar → Option (List AV)
  | [] => some []
  | r :: rs => match (match r with
      | .tmp t => fr.t.get t
      | .cell a t => match fr.t.get a, sizeT P t, aggT P t with
        | some x, some n, some true => (m.load x n).map .agg
        | some x, some _, some false => match m.load x 1 with | some [y] => some y | _ => none
        | _, _, _ => none), results P m fr rs with
    | some x, some xs => some (x :: xs)
    | _, _ => none
def one : List AV → AV
  | [x] => x
  | xs => .tup xs
inductive Ex where
  | normal | exit (id : Nat) | ret
def setArgs : Tr AV → Nat → List AV → Tr AV
  | fr, _, [] => fr
  | fr, i, x :: xs => setArgs (Tr.set fr i x) (i + 1) xs
def enterA (n : Nat) (args : List AV) : Fr := ⟨setArgs .nil 0 args, args.length + (n - args.length)⟩
/-- a region that draws its order: see VzDraw -/
abbrev DrawF := List Oper → Fr → Mem → Option (Fr × Mem)
def exec (C : Cfg) (draw : CallF → DrawF) : Nat → Code → Fr → Mem → Option (Ex × Fr × Mem)
  | 0, _, _, _ => none
  | n + 1, c, fr, m =>
    let call : CallF := fun f args m => bif C.isPrim f then C.prim f args m else
      match C.P.funcs[f]? with
      | some fn => match fn.body with
        | some body => match exec C draw n body (enterA fn.ntmps args) m with
          | some (.normal, fr, m) | some (.ret, fr, m) => (results C.P m fr fn.results.toList).map fun xs => (one xs, m)
          | _ => none
        | none => none
      | none => none
    match c with
    | .skip => some (.normal, fr, m)
    | .region _ ops false => (runOps C call ops.toList ops.toList fr m).map fun (fr, m) => (.normal, fr, m)
    | .region _ ops true => (draw call ops.toList fr m).map fun (fr, m) => (.normal, fr, m)
    | .seq a b => match exec C draw n a fr m with
      | some (.normal, fr, m) => exec C draw n b fr m
      | r => r
    | .cond x a b => match evalA C fr x with
      | some (.bool true) => exec C draw n a fr m
      | some (.bool false) => exec C draw n b fr m
      | _ => none
    | .block id a => match exec C draw n a fr m with
      | some (.exit i, fr, m) => bif Nat.beq i id then some (.normal, fr, m) else some (.exit i, fr, m)
      | r => r
    | .loop a => match exec C draw n a fr m with
      | some (.normal, fr, m) => exec C draw n (.loop a) fr m
      | r => r
    | .exit id => some (.exit id, fr, m)
    | .ret => some (.ret, fr, m)
    | _ => none
def call (C : Cfg) (draw : CallF → DrawF) (n : Nat) : CallF := fun f args m => bif C.isPrim f then C.prim f args m else
  match C.P.funcs[f]? with
  | some fn => match fn.body with
    | some body => match exec C draw n body (enterA fn.ntmps args) m with
      | some (.normal, fr, m) | some (.ret, fr, m) => (results C.P m fr fn.results.toList).map fun xs => (one xs, m)
      | _ => none
    | none => none
  | none => none
end Go.Vz

/-
  V's RELATION TO THE MACHINE: what a virtual value, a virtual memory, a virtual frame stand for.
-/
set_option linter.unusedVariables false
set_option linter.unusedSimpArgs false
namespace Go.Vz
open Go Go.RowKit

namespace Tr
variable {α : Type}
theorem beq_even (q : Nat) : Nat.beq ((2 * q) % 2) 0 = true := by rw [Nat.mul_mod_right]; rfl
theorem beq_odd (q : Nat) : Nat.beq ((2 * q + 1) % 2) 0 = false := by rw [show (2 * q + 1) % 2 = 1 by omega]; rfl
theorem half_even (q : Nat) : 2 * q / 2 = q := by omega
theorem half_odd (q : Nat) : (2 * q + 1) / 2 = q := by omega
theorem get_left (l : Tr α) (v : Option α) (r : Tr α) (q : Nat) : get (.node l v r) (2 * q + 1) = l.get q := by
  simp only [get, beq_even, half_even, cond_true]
theorem get_right (l : Tr α) (v : Option α) (r : Tr α) (q : Nat) : get (.node l v r) (2 * q + 1 + 1) = r.get q := by
  simp only [get, beq_odd, half_odd, cond_false]
theorem get_nil (k : Nat) : (Tr.nil : Tr α).get k = none := by cases k <;> rfl
/-- the parts of a map -/
def ln : Tr α → Tr α | .nil => .nil | .node l _ _ => l
def rn : Tr α → Tr α | .nil => .nil | .node _ _ r => r
theorem get_ln (t : Tr α) (q : Nat) : t.ln.get q = t.get (2 * q + 1) := by cases t with | nil => simp [ln, get_nil] | node => simp [ln, get_left]
theorem get_rn (t : Tr α) (q : Nat) : t.rn.get q = t.get (2 * q + 1 + 1) := by cases t with | nil => simp [rn, get_nil] | node => simp [rn, get_right]
theorem parity (k : Nat) : k = 0 ∨ (∃ q, k = 2 * q + 1) ∨ ∃ q, k = 2 * q + 1 + 1 := by
  rcases Nat.lt_or_ge k 1 with h | h
  · left; omega
  · rcases Nat.mod_two_eq_zero_or_one k with e | e
    · right; right; exact ⟨k / 2 - 1, by omega⟩
    · right; left; exact ⟨k / 2, by omega⟩
theorem get_setF (a : α) : ∀ (f : Nat) (t : Tr α) (k : Nat), k < f → ∀ j, (setF f t k a).get j = if j = k then some a else t.get j := by
  intro f
  induction f with
  | zero => intro t k h; omega
  | succ f ih =>
    intro t k h j
    rcases parity k with rfl | ⟨q, rfl⟩ | ⟨q, rfl⟩
    · cases t <;> simp only [setF] <;> rcases parity j with rfl | ⟨i, rfl⟩ | ⟨i, rfl⟩ <;> simp [get, get_left, get_right, get_nil]
    · have hq : q < f := by omega
      have e : ∀ i, (2 * i + 1 = 2 * q + 1) = (i = q) := fun i => by simp only [eq_iff_iff]; omega
      have e' : ∀ i, (2 * i + 1 + 1 = 2 * q + 1) = False := fun i => by simp only [eq_iff_iff, iff_false]; omega
      have e0 : (0 = 2 * q + 1) = False := by simp only [eq_iff_iff, iff_false]; omega
      cases t <;> simp only [setF, beq_even, half_even, cond_true] <;> rcases parity j with rfl | ⟨i, rfl⟩ | ⟨i, rfl⟩ <;> simp only [get_left, get_right, ih _ _ hq, get_nil, get, e, e', e0, if_false, beq_even, beq_odd, half_even, half_odd, cond_true, cond_false]
    · have hq : q < f := by omega
      have e : ∀ i, (2 * i + 1 + 1 = 2 * q + 1 + 1) = (i = q) := fun i => by simp only [eq_iff_iff]; omega
      have e' : ∀ i, (2 * i + 1 = 2 * q + 1 + 1) = False := fun i => by simp only [eq_iff_iff, iff_false]; omega
      have e0 : (0 = 2 * q + 1 + 1) = False := by simp only [eq_iff_iff, iff_false]; omega
      cases t <;> simp only [setF, beq_odd, half_odd, cond_false] <;> rcases parity j with rfl | ⟨i, rfl⟩ | ⟨i, rfl⟩ <;> simp only [get_left, get_right, ih _ _ hq, get_nil, get, e, e', e0, if_false, beq_even, beq_odd, half_even, half_odd, cond_true, cond_false]
theorem get_set (t : Tr α) (k : Nat) (a : α) (j : Nat) : (t.set k a).get j = if j = k then some a else t.get j :=
  get_setF a (k + 1) t k (by omega) j
theorem get_set_same (t : Tr α) (k : Nat) (a : α) : (t.set k a).get k = some a := by simp [get_set]
theorem get_set_ne (t : Tr α) {k j : Nat} (a : α) (h : j ≠ k) : (t.set k a).get j = t.get j := by simp [get_set, h]
end Tr

/-! ### Values -/
/-- where a virtual block lies: the block, by how much its places are shifted (virtual = real + d), its number of cells -/
structure Pl where
  b : Nat
  d : Nat
  n : Nat
abbrev Map := Nat → Option Pl
def Map.le (g g' : Map) : Prop := ∀ v p, g v = some p → g' v = some p
theorem Map.le_refl (g : Map) : g.le g := fun _ _ h => h
theorem Map.le_trans {a b c : Map} (h : a.le b) (k : b.le c) : a.le c := fun v p e => k v p (h v p e)

mutual
/-- what a virtual value stands for; w0, base: what came in and where it ends -/
inductive VRel (w0 : World) (base : Nat) (g : Map) : AV → Value → Prop where
  | bool (b : Bool) : VRel w0 base g (.bool b) (.bool b)
  | int (k : IntKind) (n : Int) : VRel w0 base g (.int k n) (.int k n)
  | str (l : List Nat) (s : ByteArray) : natOf s = l → VRel w0 base g (.str l) (.string s)
  | ptr (v k o : Nat) (p : Pl) : g v = some p → o + p.d = k → VRel w0 base g (.ptr v k) (.pointer (some ⟨p.b, o, none⟩))
  | nilptr : VRel w0 base g .nilptr (.pointer none)
  | sl (v k n sz : Nat) (a : Addr) (cap : Nat) (p : Pl) : g v = some p → n ≤ cap → cap ≤ maxLen → (0 < cap → ∃ o, a = ⟨p.b, o, none⟩ ∧ o + p.d = k ∧ o + cap * sz ≤ p.n) →
      VRel w0 base g (.sl v k n sz) (.slice (some a) n cap)
  | nilsl : VRel w0 base g .nilsl (.slice none 0 0)
  | map (r : Nat) (p : Pl) : g r = some p → VRel w0 base g (.map r) (.map (some p.b))
  | nilmap : VRel w0 base g .nilmap (.map none)
  | fn (f : Fn) (xs ys : List AV) (us vs : Array Value) : VRels w0 base g xs us.toList → VRels w0 base g ys vs.toList → VRel w0 base g (.fn f xs ys) (.func f us vs)
  | nilfn : VRel w0 base g .nilfn .nilFunc
  | iface (t : TypeId) (x : AV) (v : Value) : VRel w0 base g x v → VRel w0 base g (.iface t x) (.iface t v)
  | niliface : VRel w0 base g .niliface .nilIface
  | agg (xs : List AV) (vs : Array Value) : VRels w0 base g xs vs.toList → VRel w0 base g (.agg xs) (.agg vs)
  | tup (xs : List AV) (vs : Array Value) : VRels w0 base g xs vs.toList → VRel w0 base g (.tup xs) (.tuple vs)
  | ro (xs : List AV) (n sz : Nat) (a : Addr) (cap : Nat) (us : List Value) : n ≤ cap → xs.length = n * sz → (0 < xs.length → a.spot = none ∧ a.block < base) → (∀ j u, us[j]? = some u → w0.cell? (a.add j) = some u) →
      VRels w0 base g xs us → VRel w0 base g (.ro xs n sz) (.slice (some a) n cap)
  | ron (sz : Nat) : VRel w0 base g (.ro [] 0 sz) (.slice none 0 0)
  | rp (xs : List AV) (a : Addr) (us : List Value) : (0 < xs.length → a.spot = none ∧ a.block < base) → (∀ j u, us[j]? = some u → w0.cell? (a.add j) = some u) →
      VRels w0 base g xs us → VRel w0 base g (.rp xs) (.pointer (some a))
inductive VRels (w0 : World) (base : Nat) (g : Map) : List AV → List Value → Prop where
  | nil : VRels w0 base g [] []
  | cons (x : AV) (v : Value) (xs : List AV) (vs : List Value) : VRel w0 base g x v → VRels w0 base g xs vs → VRels w0 base g (x :: xs) (v :: vs)
end

section
variable {w0 : World} {base : Nat} {g : Map}
mutual
theorem VRel.mono {g' : Map} (h : g.le g') {x : AV} {v : Value} : VRel w0 base g x v → VRel w0 base g' x v
  | .bool b => .bool b
  | .int k n => .int k n
  | .str l s e => .str l s e
  | .ptr v k o p e e' => .ptr v k o p (h _ _ e) e'
  | .nilptr => .nilptr
  | .sl v k n sz a cap p e h1 h2 h3 => .sl v k n sz a cap p (h _ _ e) h1 h2 h3
  | .nilsl => .nilsl
  | .map r p e => .map r p (h _ _ e)
  | .nilmap => .nilmap
  | .fn f xs ys us vs h1 h2 => .fn f xs ys us vs (VRels.mono h h1) (VRels.mono h h2)
  | .nilfn => .nilfn
  | .iface t x v h1 => .iface t x v (VRel.mono h h1)
  | .niliface => .niliface
  | .agg xs vs h1 => .agg xs vs (VRels.mono h h1)
  | .tup xs vs h1 => .tup xs vs (VRels.mono h h1)
  | .ro xs n sz a cap us h1 h2 h3 h4 h5 => .ro xs n sz a cap us h1 h2 h3 h4 (VRels.mono h h5)
  | .ron sz => .ron sz
  | .rp xs a us h3 h4 h5 => .rp xs a us h3 h4 (VRels.mono h h5)
theorem VRels.mono {g' : Map} (h : g.le g') {xs : List AV} {vs : List Value} : VRels w0 base g xs vs → VRels w0 base g' xs vs
  | .nil => .nil
  | .cons x v xs vs h1 h2 => .cons x v xs vs (VRel.mono h h1) (VRels.mono h h2)
end
theorem VRels.length {xs : List AV} {vs : List Value} (h : VRels w0 base g xs vs) : xs.length = vs.length := by
  induction xs generalizing vs with
  | nil => cases h; rfl
  | cons x xs ih => cases h with | cons _ _ _ _ h1 h2 => simp [ih h2]
theorem VRels.get {xs : List AV} {vs : List Value} (h : VRels w0 base g xs vs) {i : Nat} {x : AV} (hx : xs[i]? = some x) : ∃ v, vs[i]? = some v ∧ VRel w0 base g x v := by
  induction xs generalizing vs i with
  | nil => simp at hx
  | cons y ys ih =>
    cases h with
    | cons _ v _ vs h1 h2 =>
      cases i with
      | zero => simp at hx; subst hx; exact ⟨v, by simp, h1⟩
      | succ i => simp at hx; obtain ⟨u, hu, hr⟩ := ih h2 hx; exact ⟨u, by simpa using hu, hr⟩
theorem VRels.get' {xs : List AV} {vs : List Value} (h : VRels w0 base g xs vs) {i : Nat} {v : Value} (hv : vs[i]? = some v) : ∃ x, xs[i]? = some x ∧ VRel w0 base g x v := by
  have hl := h.length
  have hi : i < xs.length := by rw [hl]; exact (List.getElem?_eq_some_iff.1 hv).1
  obtain ⟨u, hu, hr⟩ := h.get (List.getElem?_eq_getElem hi)
  rw [hv] at hu
  cases hu
  exact ⟨_, List.getElem?_eq_getElem hi, hr⟩
theorem VRels.drop {xs : List AV} {vs : List Value} (h : VRels w0 base g xs vs) (n : Nat) : VRels w0 base g (xs.drop n) (vs.drop n) := by
  induction n generalizing xs vs with
  | zero => simpa using h
  | succ n ih => cases h with
    | nil => simpa using VRels.nil
    | cons _ _ _ _ _ h2 => simpa using ih h2
theorem VRels.take {xs : List AV} {vs : List Value} (h : VRels w0 base g xs vs) (n : Nat) : VRels w0 base g (xs.take n) (vs.take n) := by
  induction n generalizing xs vs with
  | zero => simpa using VRels.nil
  | succ n ih => cases h with
    | nil => simpa using VRels.nil
    | cons x v _ _ h1 h2 => simpa using VRels.cons x v _ _ h1 (ih h2)
theorem VRels.append {xs ys : List AV} {us vs : List Value} (h : VRels w0 base g xs us) (k : VRels w0 base g ys vs) : VRels w0 base g (xs ++ ys) (us ++ vs) := by
  induction xs generalizing us with
  | nil => cases h; simpa using k
  | cons x xs ih => cases h with | cons _ v _ _ h1 h2 => exact .cons _ _ _ _ h1 (ih h2)
theorem VRels.cells {x : AV} {v : Value} (h : VRel w0 base g x v) : VRels w0 base g x.cells v.cells.toList := by
  cases h
  case agg xs vs h1 => exact h1
  all_goals (simp only [AV.cells, Value.cells]; exact .cons _ _ _ _ (by constructor <;> assumption) .nil)
theorem VRel.oneCell {x : AV} {v : Value} (h : VRel w0 base g x v) (hx : x.isCell = true) : v.oneCell' = true := by
  cases h <;> first | rfl | simp [AV.isCell] at hx
theorem allCells_mem {xs : List AV} (h : allCells xs = true) : ∀ x ∈ xs, x.isCell = true := by
  induction xs with
  | nil => intro x hx; cases hx
  | cons y ys ih =>
    simp only [allCells, Bool.and_eq_true] at h
    intro x hx
    cases hx with
    | head => exact h.1
    | tail _ hx => exact ih h.2 x hx
theorem VRels.oneCell {xs : List AV} {vs : List Value} (h : VRels w0 base g xs vs) (hx : allCells xs = true) : ∀ v ∈ vs, v.oneCell' = true := by
  intro v hv
  obtain ⟨i, hi⟩ := List.mem_iff_getElem?.1 hv
  obtain ⟨x, hx', hr⟩ := h.get' hi
  exact hr.oneCell (allCells_mem hx x (List.mem_of_getElem? hx'))
end

/-! ### Memory -/
/-- may a window be read? -/
def Owns (c : Cl) (v : Nat) : Prop := c.own = none ∨ c.own = some v
/-- entries of a map -/
inductive ERels (w0 : World) (base : Nat) (g : Map) : List (AV × AV × Nat) → List MapEntry → Prop where
  | nil : ERels w0 base g [] []
  | cons (k x : AV) (b : Nat) (e : MapEntry) (xs : List (AV × AV × Nat)) (es : List MapEntry) : VRel w0 base g k e.key → VRel w0 base g x e.val → e.born = b → ERels w0 base g xs es →
      ERels w0 base g ((k, x, b) :: xs) (e :: es)
theorem ERels.mono {w0 : World} {base : Nat} {g g' : Map} (h : g.le g') {xs : List (AV × AV × Nat)} {es : List MapEntry} (e : ERels w0 base g xs es) : ERels w0 base g' xs es := by
  induction e with
  | nil => exact .nil
  | cons k x b e xs es h1 h2 h3 _ ih => exact .cons k x b e xs es (h1.mono h) (h2.mono h) h3 ih
/-- what one object stands for -/
def ORel (w0 : World) (base : Nat) (g : Map) (m : Mem) (w : World) (v : Nat) (p : Pl) : Ob → Prop
  | .win W => ∃ cells e fr c, w.heap[p.b]? = some (.cells cells e fr) ∧ cells.size = p.n ∧ m.cls.get W.cls = some c ∧ (c.fro = false → fr = (0, 0)) ∧ (W.hi ≤ p.d + p.n ∧ ∀ t, W.ty = some t → e = t ∧ p.d = W.lo) ∧
      (Owns c v → (c.own = none → W.hi ≤ c.hw) ∧ ∀ k x, W.cell k = some x → x.isCell = true ∧ ∃ o u, o + p.d = k ∧ cells[o]? = some u ∧ VRel w0 base g x u)
  | .map es clock => p.d = 0 ∧ ∃ es', w.heap[p.b]? = some (.map es' clock) ∧ ERels w0 base g es es'.toList
  | .siter s pos => p.d = 0 ∧ ∃ s', natOf s' = s ∧ w.heap[p.b]? = some (.stringIter s' pos)
  | .miter q since seen last => p.d = 0 ∧ ∃ q', (match q with | none => q' = none | some r => ∃ pr, g r = some pr ∧ q' = some pr.b) ∧ w.heap[p.b]? = some (.mapIter q' since seen.toArray last)
structure Rel (w0 : World) (base : Nat) (g : Map) (m : Mem) (w : World) : Prop where
  below : Below base w0 w
  room : base ≤ w0.heap.size
  fresh : ∀ v, m.nxt ≤ v → m.obs.get v = none ∧ g v = none
  clss : ∀ c, m.nxt ≤ c → m.cls.get c = none
  pl : ∀ v p, g v = some p → base ≤ p.b ∧ p.b < w.heap.size ∧ ∃ o, m.obs.get v = some o
  obj : ∀ v o, m.obs.get v = some o → ∃ p, g v = some p ∧ ORel w0 base g m w v p o
  sep : ∀ v u p q, g v = some p → g u = some q → p.b = q.b → v = u ∨ ∃ V U, m.obs.get v = some (.win V) ∧ m.obs.get u = some (.win U) ∧ V.cls = U.cls ∧ p.d = q.d
/-- one state leads to another -/
def Goes (w0 : World) (base : Nat) (g : Map) (g' : Map) (m' : Mem) (w' : World) : Prop := g.le g' ∧ Rel w0 base g' m' w'
theorem Rel.nb {w0 : World} {base : Nat} {g : Map} {m : Mem} {w : World} (h : Rel w0 base g m w) : base ≤ w.heap.size := Nat.le_trans h.room h.below.size
theorem Rel.lt {w0 : World} {base : Nat} {g : Map} {m : Mem} {w : World} (h : Rel w0 base g m w) {v : Nat} {p : Pl} (hv : g v = some p) : v < m.nxt := by
  rcases Nat.lt_or_ge v m.nxt with h' | h'
  · exact h'
  · rw [(h.fresh v h').2] at hv; cases hv
/-- frames -/
structure FrRel (w0 : World) (base : Nat) (g : Map) (fr : Fr) (a : Act) : Prop where
  size : a.tmps.size = fr.n
  slot : ∀ t x, fr.t.get t = some x → ∃ v, a.tmps[t]? = some v ∧ VRel w0 base g x v
theorem FrRel.mono {w0 : World} {base : Nat} {g g' : Map} (h : g.le g') {fr : Fr} {a : Act} (r : FrRel w0 base g fr a) : FrRel w0 base g' fr a :=
  ⟨r.size, fun t x hx => let ⟨v, h1, h2⟩ := r.slot t x hx; ⟨v, h1, h2.mono h⟩⟩
theorem FrRel.put {w0 : World} {base : Nat} {g : Map} {fr fr' : Fr} {a : Act} (r : FrRel w0 base g fr a) {d : Option Tmp} {x : AV} {v : Value} (h : fr.put d x = some fr') (hv : VRel w0 base g x v) :
    FrRel w0 base g fr' (a.put d v) := by
  cases d with
  | none => simp only [Fr.put, Option.some.injEq] at h; subst h; exact r
  | some t =>
    simp only [Fr.put] at h
    cases hb : Nat.ble (t + 1) fr.n with
    | false => simp [hb] at h
    | true =>
      simp only [hb, cond_true, Option.some.injEq] at h
      subst h
      have ht : t < a.tmps.size := by rw [r.size]; exact Nat.le_of_ble_eq_true hb
      refine ⟨by simp [Act.put, r.size], fun s y hy => ?_⟩
      simp only [Tr.get_set] at hy
      by_cases e : s = t
      · subst e
        simp only [if_true, Option.some.injEq] at hy
        subst hy
        exact ⟨v, by simp [Act.put, ht], hv⟩
      · simp only [e, if_false] at hy
        obtain ⟨u, hu, hr⟩ := r.slot s y hy
        exact ⟨u, by simp [Act.put, Array.getElem?_setIfInBounds_ne (Ne.symm e), hu], hr⟩
end Go.Vz

/-
  V's PURE OPERATIONS are the machine's: whatever the world.
-/
set_option linter.unusedVariables false
set_option linter.unusedSimpArgs false
namespace Go.Vz
open Go Go.RowKit

/-! ### Strings -/
theorem natOf_length (s : ByteArray) : (natOf s).length = s.size := by
  unfold natOf
  rw [List.length_map]
  rfl
theorem natOf_append (a b : ByteArray) : natOf (a ++ b) = natOf a ++ natOf b := by
  unfold natOf
  rw [ByteArray.data_append, Array.toList_append, List.map_append]
theorem toList_eq' (s : ByteArray) : s.toList = s.data.toList := ByteArray.toList_eq s
theorem eqNats_map : ∀ (a b : List UInt8), eqNats (a.map (·.toNat)) (b.map (·.toNat)) = (a == b)
  | [], [] => rfl
  | [], _ :: _ => rfl
  | _ :: _, [] => rfl
  | x :: a, y :: b => by
    simp only [List.map_cons, eqNats, eqNats_map a b, List.cons_beq_cons]
    congr 1
    rw [Bool.eq_iff_iff, Nat.beq_eq, beq_iff_eq, UInt8.toNat_inj]
theorem ltNats_map : ∀ (a b : List UInt8), ltNats (a.map (·.toNat)) (b.map (·.toNat)) = Op.bytesLess a b
  | [], [] => rfl
  | [], _ :: _ => rfl
  | _ :: _, [] => rfl
  | x :: a, y :: b => by
    simp only [List.map_cons, ltNats, ltNats_map a b, Op.bytesLess]
    have h1 : Nat.ble (x.toNat + 1) y.toNat = decide (x < y) := by
      rw [Bool.eq_iff_iff, Nat.ble_eq, decide_eq_true_iff, UInt8.lt_iff_toNat_lt]
      omega
    have h2 : Nat.beq x.toNat y.toNat = (x == y) := by rw [Bool.eq_iff_iff, Nat.beq_eq, beq_iff_eq, UInt8.toNat_inj]
    rw [h1, h2]
theorem natOf_extract (s : ByteArray) (l h : Nat) : natOf (s.extract l h) = ((natOf s).take h).drop l := by
  simp only [natOf, ByteArray.data_extract, Array.toList_extract, List.extract_eq_take_drop, List.map_take, List.map_drop]
  rw [List.drop_take]
theorem natOf_get (s : ByteArray) (i : Nat) : (natOf s)[i]? = (s[i]?).map (·.toNat) := by
  simp only [natOf, List.getElem?_map]
  congr 1
  by_cases h : i < s.size
  · rw [getElem?_pos s i h, List.getElem?_eq_getElem (by simpa using h)]; rfl
  · rw [getElem?_neg s i h, List.getElem?_eq_none (by simpa using h)]

section
variable {w0 : World} {base : Nat} {g : Map} {P : Program}
theorem ofCell_rel {v : Value} {x : AV} (h : ofCell v = some x) : VRel w0 base g x v := by
  unfold ofCell at h
  split at h <;> cases h
  · exact .bool _
  · exact .int _ _
  · exact .str _ _ rfl
  · exact .nilptr
  · exact .nilsl
  · exact .nilmap
  · exact .nilfn
  · exact .niliface
theorem ofCells_rel : ∀ {vs : List Value} {xs : List AV}, ofCells vs = some xs → VRels w0 base g xs vs
  | [], xs, h => by simp only [ofCells, Option.some.injEq] at h; subst h; exact .nil
  | v :: vs, xs, h => by
    simp only [ofCells] at h
    cases h1 : ofCell v with
    | none => simp [h1] at h
    | some x =>
      cases h2 : ofCells vs with
      | none => simp [h1, h2] at h
      | some ys =>
        simp only [h1, h2, Option.some.injEq] at h
        subst h
        exact .cons _ _ _ _ (ofCell_rel h1) (ofCells_rel h2)
theorem ofV_rel {v : Value} {x : AV} (h : ofV v = some x) : VRel w0 base g x v := by
  unfold ofV at h
  split at h
  · rename_i cs
    cases h1 : ofCells cs.toList with
    | none => simp [h1] at h
    | some xs => simp only [h1, Option.map_some, Option.some.injEq] at h; subst h; exact .agg _ _ (ofCells_rel h1)
  · exact ofCell_rel h
theorem zeroT_run {t : TypeId} {x : AV} (h : zeroT P t = some x) : ∃ z, VRel w0 base g x z ∧ (∃ i, P.info? t = some i ∧ i.zero = some z) ∧ ∀ w, (zeroValue t).run P w = .ok z w := by
  unfold zeroT at h
  cases hi : P.info? t with
  | none => simp [hi] at h
  | some i =>
    simp only [hi] at h
    cases hz : i.zero with
    | none => simp [hz] at h
    | some z =>
      simp only [hz] at h
      exact ⟨z, ofV_rel h, ⟨i, rfl, hz⟩, fun w => by simp [zeroValue, typeInfo, hi, hz]⟩
theorem sizeT_run {t : TypeId} {n : Nat} (h : sizeT P t = some n) (w : World) : (sizeOf t).run P w = .ok n w := by
  unfold sizeT at h
  cases hi : P.info? t with
  | none => simp [hi] at h
  | some i => simp [hi] at h; simp [sizeOf, typeInfo, hi, h]
theorem aggT_run {t : TypeId} {b : Bool} (h : aggT P t = some b) (w : World) : (isAgg t).run P w = .ok b w := by
  unfold aggT at h
  cases hu : P.underlying t with
  | none => simp [hu] at h
  | some d =>
    simp only [hu, Option.map_some, Option.some.injEq] at h
    subst h
    cases d <;> simp [isAgg, run_underlying hu]
theorem takeN_eq : ∀ {n : Nat} {xs ys : List AV}, takeN n xs = some ys → ys = xs.take n ∧ n ≤ xs.length
  | 0, xs, ys, h => by simp only [takeN, Option.some.injEq] at h; subst h; simp
  | n + 1, [], ys, h => by simp [takeN] at h
  | n + 1, x :: xs, ys, h => by
    simp only [takeN] at h
    cases h1 : takeN n xs with
    | none => simp [h1] at h
    | some zs =>
      simp only [h1, Option.map_some, Option.some.injEq] at h
      obtain ⟨e, hl⟩ := takeN_eq h1
      subst h
      exact ⟨by simp [e], by simp; omega⟩
theorem partA_run {t : TypeId} {xs : List AV} {vs : Array Value} {off : Nat} {x : AV} (h : partA P t xs off = some x) (hr : VRels w0 base g xs vs.toList) :
    ∃ v, VRel w0 base g x v ∧ ∀ w, (part t vs off).run P w = .ok v w := by
  unfold partA at h
  split at h
  · rename_i n ha hs
    cases h1 : takeN n (xs.drop off) with
    | none => simp [h1] at h
    | some ys =>
      simp only [h1, Option.map_some, Option.some.injEq] at h
      subst h
      obtain ⟨e, hl⟩ := takeN_eq h1
      refine ⟨.agg (vs.extract off (off + n)), .agg _ _ ?_, fun w => by simp [part, aggT_run ha, sizeT_run hs]⟩
      rw [e, Array.toList_extract, List.extract_eq_take_drop, show off + n - off = n by omega]
      exact (hr.drop off).take n
  · rename_i n ha hs
    obtain ⟨v, hv, hrv⟩ := hr.get h
    exact ⟨v, hrv, fun w => by
      have hv' : vs[off]? = some v := by simpa using hv
      simp [part, aggT_run ha, hv']⟩
  · cases h
end
end Go.Vz

/-
  V's PURE OPERATIONS, one by one.
-/
set_option linter.unusedVariables false
set_option linter.unusedSimpArgs false
namespace Go.Vz
open Go Go.RowKit
section
variable {w0 : World} {base : Nat} {g : Map} {P : Program}

theorem bin_run {op : BinOp} {k : IntKind} {a b : Int} {x : AV} (hs : op ≠ .shl ∧ op ≠ .shr) (h : bin op k a b = some x) (t : TypeId) :
    ∃ v, VRel w0 base g x v ∧ ∀ w, (Go.binOp op t (.int k a) (.int k b)).run P w = .ok v w := by
  cases op <;> simp only [bin] at h
  all_goals first
    | (cases h; exact ⟨_, by constructor, fun w => by simp [Go.binOp, Op.intArith, Op.intBits, Op.intCmp]⟩)
    | (split at h <;> first
        | (cases h; done)
        | (rename_i hb; cases h; exact ⟨_, by constructor, fun w => by simp [Go.binOp, Op.intDiv, hb]⟩))
    | (simp at hs; done)
    | (cases h; done)
theorem shiftA_run {op : BinOp} {k k' : IntKind} {a b : Int} {x : AV} (hs : op = .shl ∨ op = .shr) (h : shiftA op k a b = some x) (t : TypeId) :
    ∃ v, VRel w0 base g x v ∧ ∀ w, (Go.binOp op t (.int k a) (.int k' b)).run P w = .ok v w := by
  unfold shiftA at h
  split at h
  · cases h
  · rename_i hb
    rcases hs with rfl | rfl <;> (cases h; exact ⟨_, by constructor, fun w => by simp [Go.binOp, Op.shift, hb]⟩)
theorem binS_run {op : BinOp} {a b : ByteArray} {x : AV} (h : binS op (natOf a) (natOf b) = some x) (t : TypeId) :
    ∃ v, VRel w0 base g x v ∧ ∀ w, (Go.binOp op t (.string a) (.string b)).run P w = .ok v w := by
  have he : eqNats (natOf a) (natOf b) = (a.toList == b.toList) := by rw [toList_eq', toList_eq']; exact eqNats_map _ _
  have hl : ltNats (natOf a) (natOf b) = Op.bytesLess a.toList b.toList := by rw [toList_eq', toList_eq']; exact ltNats_map _ _
  have key : ∀ w, (Go.binOp op t (.string a) (.string b)).run P w = (Op.stringOp op a b).run P w := fun w => by cases op <;> rfl
  cases op <;> simp only [binS, he, hl] at h
  case add =>
    rw [natOf_length, natOf_length] at h
    cases hb : Nat.ble (a.size + b.size) 9223372036854775807 with
    | false => simp [hb] at h
    | true =>
      simp only [hb, cond_true] at h
      cases h
      refine ⟨.string (a ++ b), .str _ _ (natOf_append a b), fun w => ?_⟩
      rw [key w]
      exact run_string_add_sum w a b (Nat.le_of_ble_eq_true hb)
  all_goals first
    | (cases h; exact ⟨_, by constructor, fun w => by rw [key w]; simp [Op.stringOp]⟩)
    | (cases h; done)

theorem eqScalar_run {t : TypeId} {x y : AV} {u v : Value} {b : Bool} (h : eqScalar P t x y = some b) (hx : VRel w0 base g x u) (hy : VRel w0 base g y v) (d : Nat) (w : World) :
    (Op.equalIn (d + 1) t u v).run P w = .ok b w := by
  unfold eqScalar at h
  split at h
  · rename_i k' hu
    cases hx; cases hy
    split at h
    · rename_i e; subst e; cases h; exact run_equalIn_int w d t _ _ _ _ hu
    · cases h
  · rename_i hu
    cases hx with | str _ s e => cases hy with | str _ s' e' =>
      subst e; subst e'
      cases h
      rw [run_equalIn_string w d t s s' hu, toList_eq', toList_eq']
      congr 1
      exact (eqNats_map _ _).symm
  · rename_i hu
    cases hx; cases hy; cases h
    exact run_equalIn_bool w d t _ _ hu
  · cases h
theorem scalar_part {t : TypeId} (h : scalarT P t = true) {cs : Array Value} {i : Nat} {v : Value} (hv : cs[i]? = some v) (w : World) : (part t cs i).run P w = .ok v w := by
  unfold scalarT at h
  split at h <;> first
    | (rename_i hu; simp [part, isAgg, run_underlying hu, hv]; done)
    | (cases h; done)
theorem eqFieldsA_run {xs ys : Array Value} : ∀ {fs : List Field} {i : Nat} {as bs : List AV} {b : Bool}, flatF P fs i = true → eqFieldsA P fs as bs = some b →
    VRels w0 base g as (xs.toList.drop i) → VRels w0 base g bs (ys.toList.drop i) → ∀ (d : Nat) (w : World), (Op.eqFields (d + 1) xs ys fs).run P w = .ok b w
  | [], i, as, bs, b, hf, h, hx, hy, d, w => by
    cases as with
    | nil => cases bs with
      | nil => simp only [eqFieldsA] at h; cases h; rfl
      | cons => simp [eqFieldsA] at h
    | cons => simp [eqFieldsA] at h
  | f :: fs, i, as, bs, b, hf, h, hx, hy, d, w => by
    simp only [flatF, Bool.and_eq_true, bne_iff_ne, ne_eq] at hf
    obtain ⟨⟨⟨hn, ho⟩, hsc⟩, hrest⟩ := hf
    have ho' : f.offset = i := Nat.eq_of_beq_eq_true ho
    cases as with
    | nil => cases bs <;> simp [eqFieldsA] at h
    | cons x as => cases bs with
      | nil => simp [eqFieldsA] at h
      | cons y bs =>
        simp only [eqFieldsA] at h
        have hx0 := hx.get (i := 0) (x := x) (by simp)
        have hy0 := hy.get (i := 0) (x := y) (by simp)
        obtain ⟨u, hu, hru⟩ := hx0
        obtain ⟨v, hv, hrv⟩ := hy0
        rw [List.getElem?_drop] at hu hv
        simp only [Nat.add_zero, Array.getElem?_toList] at hu hv
        have hx1 := hx.drop 1
        have hy1 := hy.drop 1
        rw [List.drop_drop, show 1 = 1 from rfl] at hx1 hy1
        simp only [List.drop_succ_cons, List.drop_zero] at hx1 hy1
        cases h1 : eqScalar P f.type x y with
        | none => simp [h1] at h
        | some a =>
          cases h2 : eqFieldsA P fs as bs with
          | none => simp [h1, h2] at h
          | some c =>
            simp only [h1, h2, Option.some.injEq] at h
            subst h
            have hr := eqScalar_run h1 hru hrv d w
            have ih := eqFieldsA_run (d := d) (w := w) hrest h2 hx1 hy1
            simp only [Op.eqFields, ne_eq, hn, not_false_eq_true, if_true, Sem.run_bind, ho', scalar_part hsc hu, scalar_part hsc hv, Result.andThen_ok, hr, Sem.run_ite]
            cases a with
            | false => simp
            | true => simpa using ih
theorem flatS_spec {t : TypeId} {fs : List Field} (h : flatS P t = some fs) : (∃ fa, P.underlying t = some (.struct fa) ∧ fs = fa.toList) ∧ flatF P fs 0 = true ∧ P.stoodInHeld t = false := by
  unfold flatS at h
  split at h
  · rename_i fa hu
    cases h1 : flatF P fa.toList 0 <;> cases h2 : P.stoodInHeld t <;> simp [h1, h2] at h
    subst h
    exact ⟨⟨fa, hu, rfl⟩, h1, rfl⟩
  · cases h
theorem eqStruct_run {t : TypeId} {fs : List Field} (hf : flatS P t = some fs) {xs ys : List AV} {us vs : Array Value} {b : Bool} (h : eqFieldsA P fs xs ys = some b)
    (hx : VRels w0 base g xs us.toList) (hy : VRels w0 base g ys vs.toList) (d : Nat) (w : World) : (Op.equalIn (d + 2) t (.agg us) (.agg vs)).run P w = .ok b w := by
  obtain ⟨⟨fa, hu, rfl⟩, hfl, hst⟩ := flatS_spec hf
  have hfs : P.fieldsOf t = fa := by simp [Program.fieldsOf, hu]
  rw [run_equalIn_struct w (d + 1) t us vs (by rw [hfs]; exact hu) hst, hfs]
  exact eqFieldsA_run hfl h (by simpa using hx) (by simpa using hy) d w
theorem eqKey_run {t : TypeId} {x y : AV} {u v : Value} {b : Bool} (h : eqKey P t x y = some b) (hx : VRel w0 base g x u) (hy : VRel w0 base g y v) (w : World) : (Op.equal t u v).run P w = .ok b w := by
  unfold eqKey at h
  split at h
  · rename_i fs hf
    split at h
    · cases hx with | agg _ us hx => cases hy with | agg _ vs hy => exact eqStruct_run hf h hx hy 9998 w
    · cases h
  · exact eqScalar_run h hx hy 9999 w
end
end Go.Vz

/-
  V's PURE OPERATIONS: comparisons, and all of them together.
-/
set_option linter.unusedVariables false
set_option linter.unusedSimpArgs false
namespace Go.Vz
open Go Go.RowKit
section
variable {w0 : World} {base : Nat} {g : Map} {P : Program}

theorem eqA_run {t : TypeId} {x y : AV} {u v : Value} {b : Bool} (h : eqA P t x y = some b) (hx : VRel w0 base g x u) (hy : VRel w0 base g y v) :
    (∀ w, (Op.equal t u v).run P w = .ok b w) ∧ (∀ op ox oy w, (eqGuard op t ox oy u v).run P w = .ok () w) ∧ (∀ op, op = .eql ∨ op = .neq → ∀ w, (Go.binOp op t u v).run P w = .ok (.bool (match op with | .eql => b | _ => !b)) w) := by
  have main : (∀ d w, (Op.equalIn (d + 2) t u v).run P w = .ok b w) ∧ (∀ op ox oy w, (eqGuard op t ox oy u v).run P w = .ok () w) ∧
      ((∀ k n k' n', ¬ (u = .int k n ∧ v = .int k' n')) ∧ (∀ s s', ¬ (u = .string s ∧ v = .string s')) ∧ (∀ k n k' n', ¬ (u = .float k n ∧ v = .float k' n')) ∧ (∀ k a b k' c d, ¬ (u = .complex k a b ∧ v = .complex k' c d))) := by
    unfold eqA at h
    split at h
    · rename_i hu
      cases hx; cases hy; cases h
      exact ⟨fun d w => run_equalIn_bool w (d + 1) t _ _ hu, fun op ox oy w => by cases op <;> rfl, by simp⟩
    · rename_i hu; cases hx; cases hy; cases h
      exact ⟨fun d w => by rw [Op.equalIn, Sem.run_bind, run_underlying hu]; rfl, fun op ox oy w => by cases op <;> rfl, by simp⟩
    · rename_i hu; cases hx; cases hy; cases h
      exact ⟨fun d w => by rw [Op.equalIn, Sem.run_bind, run_underlying hu]; rfl, fun op ox oy w => by cases op <;> rfl, by simp⟩
    · rename_i hu; cases hx; cases hy; cases h
      exact ⟨fun d w => by rw [Op.equalIn, Sem.run_bind, run_underlying hu]; rfl, fun op ox oy w => by cases op <;> rfl, by simp⟩
    · rename_i hu; cases hx; cases hy; cases h
      exact ⟨fun d w => by rw [Op.equalIn, Sem.run_bind, run_underlying hu]; rfl, fun op ox oy w => by cases op <;> rfl, by simp⟩
    · rename_i hu; cases hx; cases hy; cases h
      exact ⟨fun d w => by rw [Op.equalIn, Sem.run_bind, run_underlying hu]; rfl, fun op ox oy w => by cases op <;> rfl, by simp⟩
    · rename_i e v1 k1 v2 k2 hu
      split at h
      · rename_i n hs
        cases hb : Nat.beq v1 v2 with
        | false => simp [hb] at h
        | true =>
          simp only [hb, cond_true, Option.some.injEq] at h
          have e12 := Nat.eq_of_beq_eq_true hb
          subst e12
          cases hx with | ptr _ _ o1 p1 e1 e2 => cases hy with | ptr _ _ o2 p2 e3 e4 =>
            rw [e1] at e3; cases e3
            refine ⟨fun d w => ?_, fun op ox oy w => by cases op <;> rfl, by simp⟩
            have : (decide (o1 = o2)) = b := by
              subst h
              rw [Bool.eq_iff_iff, decide_eq_true_iff, Nat.beq_eq]
              omega
            rw [Op.equalIn, Sem.run_bind, run_underlying hu]
            show ((sizeOf e >>= _).run P w) = _
            rw [Sem.run_bind, sizeT_run hs]
            show ((sameAddr ⟨p1.b, o1, none⟩ ⟨p1.b, o2, none⟩).run P w) = _
            simp only [sameAddr, beq_self_eq_true, if_true, Sem.run_pure, ← this]
            congr 1
            rw [Bool.eq_iff_iff, beq_iff_eq, decide_eq_true_iff]
            simp
      · cases h
    · rename_i hu; cases hx; cases hy; cases h
      exact ⟨fun d w => by rw [Op.equalIn, Sem.run_bind, run_underlying hu]; rfl, fun op ox oy w => by cases op <;> rfl, by simp⟩
    · rename_i hu; cases hx; cases hy; cases h
      exact ⟨fun d w => by rw [Op.equalIn, Sem.run_bind, run_underlying hu]; rfl, fun op ox oy w => by cases op <;> rfl, by simp⟩
    · rename_i hu; cases hx; cases hy; cases h
      exact ⟨fun d w => by rw [Op.equalIn, Sem.run_bind, run_underlying hu]; rfl, fun op ox oy w => by cases op <;> rfl, by simp⟩
    · rename_i hu; cases hx; cases hy; cases h
      exact ⟨fun d w => by rw [Op.equalIn, Sem.run_bind, run_underlying hu]; rfl, fun op ox oy w => by cases op <;> rfl, by simp⟩
    · rename_i hu; cases hx; cases hy; cases h
      exact ⟨fun d w => by rw [Op.equalIn, Sem.run_bind, run_underlying hu]; rfl, fun op ox oy w => by cases op <;> rfl, by simp⟩
    · rename_i hu; cases hx; cases hy; cases h
      exact ⟨fun d w => by rw [Op.equalIn, Sem.run_bind, run_underlying hu]; rfl, fun op ox oy w => by cases op <;> rfl, by simp⟩
    · rename_i hu; cases hx; cases hy; cases h
      exact ⟨fun d w => by rw [Op.equalIn, Sem.run_bind, run_underlying hu]; rfl, fun op ox oy w => by cases op <;> rfl, by simp⟩
    · rename_i hu; cases hx; cases hy; cases h
      exact ⟨fun d w => by rw [Op.equalIn, Sem.run_bind, run_underlying hu]; rfl, fun op ox oy w => by cases op <;> rfl, by simp⟩
    · rename_i hu; cases hx; cases hy; cases h
      exact ⟨fun d w => by rw [Op.equalIn, Sem.run_bind, run_underlying hu]; rfl, fun op ox oy w => by cases op <;> rfl, by simp⟩
    · rename_i hu; cases hx; cases hy; cases h
      exact ⟨fun d w => by rw [Op.equalIn, Sem.run_bind, run_underlying hu]; rfl, fun op ox oy w => by cases op <;> rfl, by simp⟩
    · rename_i hu; cases hx; cases hy; cases h
      exact ⟨fun d w => by rw [Op.equalIn, Sem.run_bind, run_underlying hu]; rfl, fun op ox oy w => by cases op <;> rfl, by simp⟩
    · rename_i hu; cases hx; cases hy; cases h
      exact ⟨fun d w => by rw [Op.equalIn, Sem.run_bind, run_underlying hu]; rfl, fun op ox oy w => by cases op <;> rfl, by simp⟩
    · rename_i hu; cases hx; cases hy; cases h
      exact ⟨fun d w => by rw [Op.equalIn, Sem.run_bind, run_underlying hu]; rfl, fun op ox oy w => by cases op <;> rfl, by simp⟩
    · rename_i hu
      split at h
      · rename_i fs hf
        cases hg : P.eqGuardType P.depth t with
        | true => simp [hg] at h
        | false =>
          simp only [hg, cond_false] at h
          cases hx with | agg _ us hx => cases hy with | agg _ vs hy =>
            exact ⟨fun d w => eqStruct_run hf h hx hy d w, fun op ox oy w => run_eqGuard_agg w op t ox oy us vs hg, by simp⟩
      · cases h
    · cases h
  obtain ⟨h1, h2, h3, h4, h5, h6⟩ := main
  have h0 : ∀ w, (Op.equal t u v).run P w = .ok b w := h1 9998
  refine ⟨h0, h2, fun op hop w => ?_⟩
  have he := h0 w
  clear h1
  cases u <;> cases v <;> first
    | (exact absurd ⟨rfl, rfl⟩ (h3 _ _ _ _))
    | (exact absurd ⟨rfl, rfl⟩ (h4 _ _))
    | (exact absurd ⟨rfl, rfl⟩ (h5 _ _ _ _))
    | (exact absurd ⟨rfl, rfl⟩ (h6 _ _ _ _ _ _))
    | (rcases hop with rfl | rfl <;> simp only [Go.binOp, Sem.run_bind, he, Result.andThen_ok, Sem.run_pure])
end
end Go.Vz

/-
  V's PURE OPERATIONS: operands, bounds, parts.
-/
set_option linter.unusedVariables false
set_option linter.unusedSimpArgs false
namespace Go.Vz
open Go Go.RowKit
section
variable {w0 : World} {base : Nat} {g : Map} {P : Program} {r : Operand → Option AV} {ρ : Operand → Value}

theorem natOf?_rel (hr : ∀ y a, r y = some a → VRel w0 base g a (ρ y)) {y : Operand} {n : Nat} (h : natOf? (r y) = some n) : ∃ k, ρ y = .int k n := by
  unfold natOf? at h
  split at h
  · rename_i k m he
    cases h
    have := hr _ _ he
    generalize hv : ρ y = v at this
    cases this
    exact ⟨k, rfl⟩
  · cases h
theorem operands_rel (hr : ∀ y a, r y = some a → VRel w0 base g a (ρ y)) : ∀ {l : List Operand} {xs : List AV}, operands r l = some xs → VRels w0 base g xs (l.map ρ)
  | [], xs, h => by simp only [operands] at h; cases h; exact .nil
  | y :: l, xs, h => by
    simp only [operands] at h
    cases h1 : r y with
    | none => simp [h1] at h
    | some a =>
      cases h2 : operands r l with
      | none => simp [h1, h2] at h
      | some as =>
        simp only [h1, h2] at h
        cases h
        exact .cons _ _ _ _ (hr _ _ h1) (operands_rel hr h2)
/-- what a slice expression's bounds come to -/
theorem bounds_run (hr : ∀ y a, r y = some a → VRel w0 base g a (ρ y)) {lo hi : Option Operand} {len cap l h : Nat} (hb : bounds r lo hi len = some (l, h)) (hc : len ≤ cap) (s : Bool) :
    l ≤ h ∧ h ≤ len ∧ ∀ w, (Instr.sliceBounds s len cap (lo.map ρ) (hi.map ρ) none).run P w = .ok (l, h, cap) w := by
  unfold bounds at hb
  cases hi with
  | none =>
    simp only at hb
    cases lo with
    | none =>
      simp only at hb
      cases h1 : Nat.ble 0 len && Nat.ble len len with
      | false => simp [h1] at hb
      | true =>
        simp only [h1, cond_true] at hb; cases hb
        exact ⟨Nat.zero_le _, Nat.le_refl _, fun w => by simp [Instr.sliceBounds]⟩
    | some y =>
      simp only at hb
      cases hy : natOf? (r y) with
      | none => simp [hy] at hb
      | some l' =>
        simp only [hy] at hb
        cases h1 : Nat.ble l' len && Nat.ble len len with
        | false => simp [h1] at hb
        | true =>
          simp only [h1, cond_true] at hb; cases hb
          obtain ⟨k, hk⟩ := natOf?_rel hr hy
          have hl : l ≤ len := Nat.le_of_ble_eq_true (Bool.and_eq_true_iff.1 h1).1
          exact ⟨hl, Nat.le_refl _, fun w => by simp [Instr.sliceBounds, hk, run_sliceBound_if, hl]⟩
  | some z =>
    simp only at hb
    cases hz : natOf? (r z) with
    | none => simp [hz] at hb
    | some h' =>
      simp only [hz] at hb
      obtain ⟨kz, hkz⟩ := natOf?_rel hr hz
      cases lo with
      | none =>
        simp only at hb
        cases h1 : Nat.ble 0 h' && Nat.ble h' len with
        | false => simp [h1] at hb
        | true =>
          simp only [h1, cond_true] at hb; cases hb
          have hl : h ≤ len := Nat.le_of_ble_eq_true (Bool.and_eq_true_iff.1 h1).2
          exact ⟨Nat.zero_le _, hl, fun w => by simp [Instr.sliceBounds, hkz, run_sliceBound_if, Nat.le_trans hl hc]⟩
      | some y =>
        simp only at hb
        cases hy : natOf? (r y) with
        | none => simp [hy] at hb
        | some l' =>
          simp only [hy] at hb
          cases h1 : Nat.ble l' h' && Nat.ble h' len with
          | false => simp [h1] at hb
          | true =>
            simp only [h1, cond_true] at hb; cases hb
            obtain ⟨k, hk⟩ := natOf?_rel hr hy
            have hl : l ≤ h := Nat.le_of_ble_eq_true (Bool.and_eq_true_iff.1 h1).1
            have hl2 : h ≤ len := Nat.le_of_ble_eq_true (Bool.and_eq_true_iff.1 h1).2
            exact ⟨hl, hl2, fun w => by simp [Instr.sliceBounds, hkz, hk, run_sliceBound_if, hl, Nat.le_trans hl2 hc]⟩

/-! ### Parts laid into cells -/
theorem putCells_eq : ∀ {cs : List AV} {n : Nat} {xs zs : List AV}, putCells cs n xs = some zs → n + xs.length ≤ cs.length ∧ zs = cs.take n ++ xs ++ cs.drop (n + xs.length)
  | cs, 0, [], zs, h => by
    have : zs = cs := by cases cs <;> simp [putCells] at h <;> simp [h]
    subst this; simp
  | [], 0, x :: xs, zs, h => by simp [putCells] at h
  | [], n + 1, xs, zs, h => by simp [putCells] at h
  | c :: cs, 0, x :: xs, zs, h => by
    simp only [putCells] at h
    cases h1 : putCells cs 0 xs with
    | none => simp [h1] at h
    | some ys =>
      simp only [h1, Option.map_some, Option.some.injEq] at h
      obtain ⟨hl, e⟩ := putCells_eq h1
      subst h
      simp only [Nat.zero_add] at hl e ⊢
      exact ⟨by simp; omega, by simp [e]⟩
  | c :: cs, n + 1, xs, zs, h => by
    simp only [putCells] at h
    cases h1 : putCells cs n xs with
    | none => simp [h1] at h
    | some ys =>
      simp only [h1, Option.map_some, Option.some.injEq] at h
      obtain ⟨hl, e⟩ := putCells_eq h1
      subst h
      exact ⟨by simp; omega, by rw [e, show n + 1 + xs.length = (n + xs.length) + 1 by omega]; simp⟩
theorem foldl_put (off : Nat) : ∀ (l : List Value) (k : Nat) (cs : Array Value), off + k + l.length ≤ cs.size →
    ((l.zipIdx k).foldl (fun cs (x : Value × Nat) => cs.setIfInBounds (off + x.2) x.1) cs).toList = cs.toList.take (off + k) ++ l ++ cs.toList.drop (off + k + l.length)
  | [], k, cs, h => by simp
  | v :: l, k, cs, h => by
    simp only [List.zipIdx_cons, List.foldl_cons]
    simp only [List.length_cons] at h
    rw [foldl_put off l (k + 1) _ (by simp; omega)]
    simp only [Array.toList_setIfInBounds, List.length_cons]
    have hlt : off + k < cs.toList.length := by simp; omega
    rw [List.drop_set_of_lt (by omega), show off + (k + 1) = (off + k) + 1 by omega, List.take_succ_eq_append_getElem (by simpa using hlt)]
    rw [List.take_set_of_le (Nat.le_refl _)]
    simp [show off + k + 1 + l.length = off + k + (l.length + 1) by omega]
theorem fillA_rel {place : Nat → Option (Nat × Nat)} : ∀ {ps : List (Nat × AV)} {qs : List (Nat × Value)} {cs : List AV} {vs : Array Value} {zs : List AV},
    fillA place cs ps = some zs → VRels w0 base g cs vs.toList → (ps.map (·.1) = qs.map (·.1) ∧ VRels w0 base g (ps.map (·.2)) (qs.map (·.2))) →
    ∃ us, Instr.fill place vs qs = some us ∧ VRels w0 base g zs us.toList
  | [], [], cs, vs, zs, h, hr, _ => by simp only [fillA] at h; cases h; exact ⟨vs, rfl, hr⟩
  | [], _ :: _, cs, vs, zs, h, hr, hp => by simp at hp
  | _ :: _, [], cs, vs, zs, h, hr, hp => by simp at hp
  | (i, x) :: ps, (j, v) :: qs, cs, vs, zs, h, hr, hp => by
    simp only [List.map_cons, List.cons.injEq] at hp
    obtain ⟨⟨rfl, hp1⟩, hp2⟩ := hp
    cases hp2 with | cons _ _ _ _ hxv hps =>
    simp only [fillA] at h
    cases hpl : place i with
    | none => simp [hpl] at h
    | some os =>
      obtain ⟨off, size⟩ := os
      simp only [hpl] at h
      cases hb : Nat.beq x.cells.length size with
      | false => simp [hb] at h
      | true =>
        simp only [hb, cond_true] at h
        cases hpc : putCells cs off x.cells with
        | none => simp [hpc] at h
        | some ds =>
          simp only [hpc] at h
          obtain ⟨hl, e⟩ := putCells_eq hpc
          have hc := VRels.cells hxv
          have hsz : v.cells.size = size := by
            have h2 : x.cells.length = v.cells.size := by simpa using hc.length
            rw [← h2]; exact Nat.eq_of_beq_eq_true hb
          have hle : off + v.cells.size ≤ vs.size := by
            have h1 : cs.length = vs.size := by simpa using hr.length
            have h2 : x.cells.length = v.cells.size := by simpa using hc.length
            omega
          have hf : (v.cells.zipIdx.foldl (fun cs (x : Value × Nat) => cs.setIfInBounds (off + x.2) x.1) vs).toList = vs.toList.take off ++ v.cells.toList ++ vs.toList.drop (off + v.cells.size) := by
            rw [← Array.foldl_toList, Array.toList_zipIdx, foldl_put off v.cells.toList 0 vs (by simpa using hle)]
            simp
          obtain ⟨us, hus, hru⟩ := fillA_rel (vs := v.cells.zipIdx.foldl (fun cs (x : Value × Nat) => cs.setIfInBounds (off + x.2) x.1) vs) h (by
            rw [hf, e, hc.length, Array.length_toList]
            exact ((hr.take off).append hc).append (hr.drop _)) ⟨hp1, hps⟩
          refine ⟨us, ?_, hru⟩
          simp only [Instr.fill, hpl]
          rw [if_neg (by simp [hsz]; omega)]
          exact hus
theorem partsA_rel (hr : ∀ y a, r y = some a → VRel w0 base g a (ρ y)) : ∀ {l : List (Nat × Operand)} {ps : List (Nat × AV)}, partsA r l = some ps →
    ps.map (·.1) = (l.map fun (i, x) => (i, ρ x)).map (·.1) ∧ VRels w0 base g (ps.map (·.2)) ((l.map fun (i, x) => (i, ρ x)).map (·.2))
  | [], ps, h => by simp only [partsA] at h; cases h; exact ⟨rfl, .nil⟩
  | (i, y) :: l, ps, h => by
    simp only [partsA] at h
    cases h1 : r y with
    | none => simp [h1] at h
    | some a =>
      cases h2 : partsA r l with
      | none => simp [h1, h2] at h
      | some qs =>
        simp only [h1, h2] at h
        cases h
        obtain ⟨e, hq⟩ := partsA_rel hr h2
        exact ⟨by simpa using e, by simpa using VRels.cons _ _ _ _ (hr _ _ h1) hq⟩
end
end Go.Vz

/-
  V's PURE OPERATIONS: all of them.
-/
set_option linter.unusedVariables false
set_option linter.unusedSimpArgs false
namespace Go.Vz
open Go Go.RowKit
section
variable {w0 : World} {base : Nat} {g : Map} {P : Program} {r : Operand → Option AV} {ρ : Operand → Value}

/-- an operation comes to a value, whatever the world -/
def PureTo (w0 : World) (base : Nat) (g : Map) (P : Program) (s : Sem Next) (x : AV) : Prop := ∃ v, VRel w0 base g x v ∧ ∀ w, s.run P w = .ok (.value v) w
/-- the same of a value -/
def ValTo (w0 : World) (base : Nat) (g : Map) (P : Program) (s : Sem Value) (x : AV) : Prop := ∃ v, VRel w0 base g x v ∧ ∀ w, s.run P w = .ok v w
theorem ValTo.next {s : Sem Value} {x : AV} (h : ValTo w0 base g P s x) : PureTo w0 base g P (do pure (Next.value (← s))) x :=
  let ⟨v, h1, h2⟩ := h; ⟨v, h1, fun w => by rw [Sem.run_bind, h2]; rfl⟩

theorem VRel.congr {x : AV} {v u : Value} (h : VRel w0 base g x v) (e : v = u) : VRel w0 base g x u := e ▸ h
theorem add_add (a : Addr) (m n : Nat) (h : a.spot = none) : (a.add m).add n = a.add (m + n) := by
  obtain ⟨b, o, s⟩ := a
  simp only at h
  subst h
  rw [Addr.add_lit, Addr.add_lit, Addr.add_lit, Nat.add_assoc]

theorem binA_run {op : BinOp} {t : TypeId} {ox oy : Operand} {x y : AV} {u v : Value} {z : AV} (h : binA P op t ox oy x y = some z) (hx : VRel w0 base g x u) (hy : VRel w0 base g y v) :
    ValTo w0 base g P (do eqGuard op t ox oy u v; Go.binOp op t u v) z := by
  unfold binA at h
  split at h
  · rename_i k a k' b
    cases hx; cases hy
    have hg : ∀ w, (eqGuard op t ox oy (.int k a) (.int k' b)).run P w = .ok () w := fun w => by cases op <;> rfl
    by_cases hs : op = .shl ∨ op = .shr
    · have h' : shiftA op k a b = some z := by rcases hs with rfl | rfl <;> exact h
      obtain ⟨v, h1, h2⟩ := shiftA_run (w0 := w0) (base := base) (g := g) (P := P) (k' := k') hs h' t
      exact ⟨v, h1, fun w => by rw [Sem.run_bind, hg, Result.andThen_ok, h2]⟩
    · have h' : (if k = k' then bin op k a b else none) = some z := by
        split at h
        · exact absurd (Or.inl rfl) hs
        · exact absurd (Or.inr rfl) hs
        · exact h
      split at h'
      · rename_i e
        subst e
        obtain ⟨v, h1, h2⟩ := bin_run (w0 := w0) (base := base) (g := g) (P := P) ⟨fun e => hs (.inl e), fun e => hs (.inr e)⟩ h' t
        exact ⟨v, h1, fun w => by rw [Sem.run_bind, hg, Result.andThen_ok, h2]⟩
      · cases h'
  · cases hx with | str _ s e => cases hy with | str _ s' e' =>
      subst e; subst e'
      have hg : ∀ w, (eqGuard op t ox oy (.string s) (.string s')).run P w = .ok () w := fun w => by cases op <;> rfl
      obtain ⟨v, h1, h2⟩ := binS_run (w0 := w0) (base := base) (g := g) (P := P) h t
      exact ⟨v, h1, fun w => by rw [Sem.run_bind, hg, Result.andThen_ok, h2]⟩
  · cases hx; cases hy
    split at h
    · rename_i ms hu
      cases hl : isLitNil ox || isLitNil oy with
      | false => simp [hl] at h
      | true =>
        simp only [hl, cond_true] at h
        have hc : ((match ox with | .const _ => true | _ => false) || (match oy with | .const _ => true | _ => false)) = true := by
          rcases Bool.or_eq_true_iff.1 hl with h1 | h1
          · unfold isLitNil at h1; split at h1
            · exact Bool.or_eq_true_iff.2 (.inl rfl)
            · cases h1
          · unfold isLitNil at h1; split at h1
            · exact Bool.or_eq_true_iff.2 (.inr rfl)
            · cases h1
        have hg : ∀ w, (eqGuard op t ox oy .nilIface .nilIface).run P w = .ok () w := fun w => by
          cases op <;> simp only [eqGuard] <;> first | rfl | skip
          all_goals (
            cases ox <;> cases oy <;> first
              | rfl
              | (cases hc; done))
        have he : ∀ w, (Op.equal t .nilIface .nilIface).run P w = .ok true w := fun w => by rw [Op.equal, Op.maxDepth, Op.equalIn, Sem.run_bind, run_underlying hu]; rfl
        split at h <;> cases h
        · exact ⟨_, .bool _, fun w => by rw [Sem.run_bind, hg, Result.andThen_ok]; simp only [Go.binOp, Sem.run_bind, he, Result.andThen_ok, Sem.run_pure]⟩
        · exact ⟨_, .bool _, fun w => by rw [Sem.run_bind, hg, Result.andThen_ok]; simp only [Go.binOp, Sem.run_bind, he, Result.andThen_ok, Sem.run_pure]; rfl⟩
    · cases h
  · split at h
    · cases he : eqA P t x y with
      | none => simp [he] at h
      | some b =>
        simp only [he, Option.map_some, Option.some.injEq] at h
        subst h
        obtain ⟨_, h2, h3⟩ := eqA_run he hx hy
        exact ⟨_, .bool b, fun w => by rw [Sem.run_bind, h2, Result.andThen_ok, h3 .eql (.inl rfl) w]⟩
    · cases he : eqA P t x y with
      | none => simp [he] at h
      | some b =>
        simp only [he, Option.map_some, Option.some.injEq] at h
        subst h
        obtain ⟨_, h2, h3⟩ := eqA_run he hx hy
        exact ⟨_, .bool (!b), fun w => by rw [Sem.run_bind, h2, Result.andThen_ok, h3 .neq (.inr rfl) w]⟩
    · cases h

theorem unA_run {op : UnOp} {x : AV} {u : Value} {z : AV} (h : unA op x = some z) (hx : VRel w0 base g x u) : ValTo w0 base g P (Op.unary op u) z := by
  unfold unA at h
  split at h
  · cases hx; cases h; exact ⟨_, .int _ _, fun w => by simp [Op.unary, Op.intArith]⟩
  · cases hx; simp only [bin] at h; cases h; exact ⟨_, .int _ _, fun w => by simp [Op.unary, Op.intBits]⟩
  · cases hx; cases h; exact ⟨_, .bool _, fun w => by simp [Op.unary]⟩
  · cases h
theorem convA_run {s d : TypeId} {x : AV} {u : Value} {z : AV} (h : convA P s d x = some z) (hx : VRel w0 base g x u) : ValTo w0 base g P (convert s d u) z := by
  unfold convA at h
  split at h
  · rename_i ds k k' n hs hd
    cases hx; cases h
    exact ⟨_, .int _ _, fun w => by simp [convert, run_underlying hd, run_underlying hs, Conv.intToInt]⟩
  · rename_i ds l hs hd
    cases hx with | str _ s' e =>
    subst e
    cases h
    exact ⟨_, .str _ s' rfl, fun w => by simp [convert, run_underlying hd, run_underlying hs]⟩
  · cases h

theorem lenA_run {ats : Array TypeId} {t ty : TypeId} {x : AV} {u : Value} {z : AV} (ht : ats[0]? = some t) (h : lenA P t x = some z) (hx : VRel w0 base g x u) : ValTo w0 base g P (Builtin.len_ ats ty #[u]) z := by
  unfold lenA at h
  split at h
  · rename_i hu; cases hx with | str _ s e => subst e; cases h; exact ⟨_, .int _ _, fun w => by rw [natOf_length]; simp [Builtin.len_, ht, run_underlying hu, goInt]⟩
  · rename_i hu; cases hx; cases h; exact ⟨_, .int _ _, fun w => by simp [Builtin.len_, ht, run_underlying hu, goInt]⟩
  · rename_i hu; cases hx <;> cases h <;> exact ⟨_, .int _ _, fun w => by simp [Builtin.len_, ht, run_underlying hu, goInt]⟩
  · rename_i hu; cases hx; cases h; exact ⟨_, .int _ _, fun w => by simp [Builtin.len_, ht, run_underlying hu, goInt]⟩
  · rename_i hu; cases h; exact ⟨_, .int _ _, fun w => by simp [Builtin.len_, ht, run_underlying hu, goInt]⟩
  · rename_i hu; cases hx; cases h; exact ⟨_, .int _ _, fun w => by simp [Builtin.len_, ht, run_underlying hu, goInt]⟩
  · cases h

/-- a cut of what came in -/
theorem VRels.cut {xs : List AV} {us : List Value} (h : VRels w0 base g xs us) (l k : Nat) : VRels w0 base g ((xs.take k).drop l) ((us.take k).drop l) := (h.take k).drop l
theorem cut_cells {a : Addr} {us : List Value} (hc : ∀ j u, us[j]? = some u → w0.cell? (a.add j) = some u) (hs : us ≠ [] → a.spot = none) (l k : Nat) :
    ∀ j u, ((us.take k).drop l)[j]? = some u → w0.cell? ((a.add l).add j) = some u := by
  intro j u hu
  rw [List.getElem?_drop] at hu
  have h1 : us[l + j]? = some u := by
    rw [List.getElem?_take] at hu
    split at hu
    · exact hu
    · cases hu
  rw [add_add _ _ _ (hs (by intro e; rw [e] at h1; simp at h1))]
  exact hc _ _ h1

theorem sliceA_run {t : TypeId} {x : AV} {u : Value} {z : AV} {lo hi : Option Operand} (hr : ∀ y a, r y = some a → VRel w0 base g a (ρ y)) (h : sliceA P r t x lo hi = some z) (hx : VRel w0 base g x u) :
    ValTo w0 base g P (Instr.sliceAt t u (lo.map ρ) (hi.map ρ) none) z := by
  unfold sliceA at h
  split at h
  · rename_i l hu
    cases hx with | str _ s e =>
    subst e
    cases hb : bounds r lo hi (natOf s).length with
    | none => simp [hb] at h
    | some lh =>
      obtain ⟨l, k⟩ := lh
      simp only [hb] at h
      cases h
      rw [natOf_length] at hb
      obtain ⟨h1, h2, h3⟩ := bounds_run (P := P) hr hb (Nat.le_refl _) false
      refine ⟨.string (s.extract l k), .str _ _ (natOf_extract s l k), fun w => ?_⟩
      simp [Instr.sliceAt, Instr.slice, run_underlying hu, h3]
  · rename_i e v k n sz hu
    cases hsz : sizeT P e with
    | none => simp [hsz] at h
    | some zz =>
      cases hb : bounds r lo hi n with
      | none => simp [hsz, hb] at h
      | some lh =>
        obtain ⟨l, m⟩ := lh
        simp only [hsz, hb] at h
        cases he : Nat.beq zz sz with
        | false => simp [he] at h
        | true =>
          simp only [he, cond_true] at h
          cases h
          have := Nat.eq_of_beq_eq_true he
          subst this
          cases hx with | sl _ _ _ _ a cap p hv hn hm hp =>
          obtain ⟨h1, h2, h3⟩ := bounds_run (P := P) hr hb hn true
          refine ⟨.slice (some (if cap = l then a else a.add (l * zz))) (m - l) (cap - l), ?_, fun w => ?_⟩
          · refine .sl v _ _ _ _ _ p hv (by omega) (by omega) (fun hlt => ?_)
            obtain ⟨o, ha, ho, hb⟩ := hp (by omega)
            refine ⟨o + l * zz, by rw [if_neg (by omega), ha, Addr.add_lit], by omega, ?_⟩
            have : l * zz + (cap - l) * zz = cap * zz := by rw [← Nat.add_mul]; congr 1; omega
            omega
          · simp only [Instr.sliceAt, Sem.run_bind, run_underlying hu, Result.andThen_ok, Instr.slice, h3, sizeT_run hsz, Sem.run_pure]
            split <;> rfl
  · rename_i e cs n sz hu
    cases hsz : sizeT P e with
    | none => simp [hsz] at h
    | some zz =>
      cases hb : bounds r lo hi n with
      | none => simp [hsz, hb] at h
      | some lh =>
        obtain ⟨l, m⟩ := lh
        simp only [hsz, hb] at h
        cases he : Nat.beq zz sz with
        | false => simp [he] at h
        | true =>
          simp only [he, cond_true] at h
          cases h
          have := Nat.eq_of_beq_eq_true he
          subst this
          cases hx with
          | ron _ =>
            obtain ⟨h1, h2, h3⟩ := bounds_run (P := P) hr hb (Nat.le_refl 0) true
            have hm : m = 0 := by omega
            have hl : l = 0 := by omega
            subst hm; subst hl
            exact ⟨.slice none 0 0, by simpa using VRel.ron zz, fun w => by
              simp only [Instr.sliceAt, Sem.run_bind, run_underlying hu, Result.andThen_ok, Instr.slice, h3, sizeT_run hsz, Sem.run_pure]
              rfl⟩
          | ro _ _ _ a cap us hn hlen hs hc hrel =>
            obtain ⟨h1, h2, h3⟩ := bounds_run (P := P) hr hb hn true
            have hul : us.length = n * zz := by rw [← hrel.length]; exact hlen
            have hsp : us ≠ [] → a.spot = none := fun hne => (hs (by rw [hlen, ← hul]; exact List.length_pos_iff.2 hne)).1
            have hle : m * zz ≤ n * zz := Nat.mul_le_mul_right _ h2
            have hlz : l * zz ≤ m * zz := Nat.mul_le_mul_right _ h1
            have hlen' : ((cs.take (m * zz)).drop (l * zz)).length = (m - l) * zz := by
              rw [List.length_drop, List.length_take, hlen, Nat.sub_mul]; omega
            refine ⟨.slice (some (if cap = l then a else a.add (l * zz))) (m - l) (cap - l), ?_, fun w => ?_⟩
            · by_cases hcl : cap = l
              · rw [if_pos hcl]
                have hml : m = l := by omega
                subst hml
                have hnil : ((cs.take (m * zz)).drop (m * zz)) = [] := List.eq_nil_of_length_eq_zero (by rw [hlen']; simp)
                rw [hnil]
                exact .ro [] _ _ a _ [] (by omega) (by simp) (fun h => by simp at h) (fun j u h => by simp at h) .nil
              · rw [if_neg hcl]
                refine .ro _ _ _ _ _ ((us.take (m * zz)).drop (l * zz)) (by omega) hlen' (fun hpos => ?_) (cut_cells hc hsp _ _) (hrel.cut _ _)
                have hpos' : 0 < cs.length := by
                  rcases Nat.eq_zero_or_pos cs.length with h0 | h0
                  · rw [List.eq_nil_of_length_eq_zero h0] at hpos; simp at hpos
                  · exact h0
                obtain ⟨hs1, hs2⟩ := hs hpos'
                obtain ⟨ab, ao, asp⟩ := a
                simp only at hs1 hs2
                subst hs1
                rw [Addr.add_lit]
                exact ⟨rfl, hs2⟩
            · simp only [Instr.sliceAt, Sem.run_bind, run_underlying hu, Result.andThen_ok, Instr.slice, h3, sizeT_run hsz, Sem.run_pure]
              split <;> rfl
  · rename_i e hu
    cases hsz : sizeT P e with
    | none => simp [hsz] at h
    | some zz =>
      cases hb : bounds r lo hi 0 with
      | none => simp [hsz, hb] at h
      | some lh =>
        obtain ⟨l, m⟩ := lh
        simp only [hsz, hb] at h
        cases h
        cases hx
        obtain ⟨h1, h2, h3⟩ := bounds_run (P := P) hr hb (Nat.le_refl 0) true
        have hm : m = 0 := by omega
        have hl : l = 0 := by omega
        subst hm; subst hl
        exact ⟨_, .nilsl, fun w => by
          simp only [Instr.sliceAt, Sem.run_bind, run_underlying hu, Result.andThen_ok, Instr.slice, h3, sizeT_run hsz, Sem.run_pure]
          rfl⟩
  · rename_i n e cs hu
    cases hsz : sizeT P e with
    | none => simp [hsz] at h
    | some zz =>
      cases hb : bounds r lo hi n with
      | none => simp [hsz, hb] at h
      | some lh =>
        obtain ⟨l, m⟩ := lh
        simp only [hsz, hb] at h
        cases he : Nat.ble (n * zz) cs.length with
        | false => simp [he] at h
        | true =>
          simp only [he, cond_true] at h
          cases h
          have hle0 := Nat.le_of_ble_eq_true he
          cases hx with | rp _ a us hs hc hrel =>
          obtain ⟨h1, h2, h3⟩ := bounds_run (P := P) hr hb (Nat.le_refl n) false
          have hul : us.length = cs.length := hrel.length.symm
          have hsp : us ≠ [] → a.spot = none := fun hne => (hs (by rw [← hul]; exact List.length_pos_iff.2 hne)).1
          have hle : m * zz ≤ n * zz := Nat.mul_le_mul_right _ h2
          have hlz : l * zz ≤ m * zz := Nat.mul_le_mul_right _ h1
          have hlen' : ((cs.take (m * zz)).drop (l * zz)).length = (m - l) * zz := by
            rw [List.length_drop, List.length_take, Nat.sub_mul]; omega
          refine ⟨.slice (some (if n = l then a else a.add (l * zz))) (m - l) (n - l), ?_, fun w => ?_⟩
          · by_cases hcl : n = l
            · rw [if_pos hcl]
              have hml : m = l := by omega
              subst hml
              have hnil : ((cs.take (m * zz)).drop (m * zz)) = [] := List.eq_nil_of_length_eq_zero (by rw [hlen']; simp)
              rw [hnil]
              exact .ro [] _ _ a _ [] (by omega) (by simp) (fun h => by simp at h) (fun j u h => by simp at h) .nil
            · rw [if_neg hcl]
              refine .ro _ _ _ _ _ ((us.take (m * zz)).drop (l * zz)) (by omega) hlen' (fun hpos => ?_) (cut_cells hc hsp _ _) (hrel.cut _ _)
              have hpos' : 0 < cs.length := by
                rcases Nat.eq_zero_or_pos cs.length with h0 | h0
                · rw [List.eq_nil_of_length_eq_zero h0] at hpos; simp at hpos
                · exact h0
              obtain ⟨hs1, hs2⟩ := hs hpos'
              obtain ⟨ab, ao, asp⟩ := a
              simp only at hs1 hs2
              subst hs1
              rw [Addr.add_lit]
              exact ⟨rfl, hs2⟩
          · simp only [Instr.sliceAt, Sem.run_bind, run_underlying hu, Result.andThen_ok, Instr.sureAddr, h3, sizeT_run hsz, Sem.run_pure]
  · cases h
end
end Go.Vz

/-
  V's PURE OPERATIONS: the theorem.
-/
set_option linter.unusedVariables false
set_option linter.unusedSimpArgs false
namespace Go.Vz
open Go Go.RowKit
section
variable {w0 : World} {base : Nat} {g : Map} {P : Program} {r : Operand → Option AV} {ρ : Operand → Value}

theorem cells_at {a : Addr} {us : List Value} (hc : ∀ j u, us[j]? = some u → w0.cell? (a.add j) = some u) (hs : us ≠ [] → a.spot = none) (l : Nat) :
    ∀ j u, (us.drop l)[j]? = some u → w0.cell? ((a.add l).add j) = some u := by
  intro j u hu
  rw [List.getElem?_drop] at hu
  rw [add_add _ _ _ (hs (by intro e; rw [e] at hu; simp at hu))]
  exact hc _ _ hu
/-- a place further on in what came in -/
theorem VRel.rpAt {xs : List AV} {a : Addr} {us : List Value} (hs : 0 < xs.length → a.spot = none ∧ a.block < base) (hc : ∀ j u, us[j]? = some u → w0.cell? (a.add j) = some u) (hrel : VRels w0 base g xs us) (l : Nat) :
    VRel w0 base g (.rp (xs.drop l)) (.pointer (some (a.add l))) := by
  have hsp : us ≠ [] → a.spot = none := fun hne => (hs (by rw [hrel.length]; exact List.length_pos_iff.2 hne)).1
  refine .rp _ _ (us.drop l) (fun hpos => ?_) (cells_at hc hsp l) (hrel.drop l)
  obtain ⟨h1, h2⟩ := hs (by rw [List.length_drop] at hpos; omega)
  obtain ⟨ab, ao, asp⟩ := a
  simp only at h1 h2
  subst h1
  rw [Addr.add_lit]
  exact ⟨rfl, h2⟩
theorem oper_eq {o : Oper} {ρ : Operand → Value} {op : Op} (h : o.op = op) : execOp ρ o = execOp ρ { o with op := op } := by rw [← h]

theorem pureA_sound {o : Oper} {x : AV} (hr : ∀ y a, r y = some a → VRel w0 base g a (ρ y)) (h : pureA P r o.op = some x) : PureTo w0 base g P (execOp ρ o) x := by
  obtain ⟨dst, op, ty, pos, after, guard⟩ := o
  simp only at h
  unfold pureA at h
  split at h
  · exact ⟨_, hr _ _ h, fun w => rfl⟩
  · exact ⟨_, hr _ _ h, fun w => rfl⟩
  · rename_i c a b
    split at h
    · rename_i hc
      have h1 := hr _ _ hc
      generalize hv : ρ c = v at h1
      cases h1
      exact ⟨_, hr _ _ h, fun w => by simp [execOp, hv, asBool]⟩
    · rename_i hc
      have h1 := hr _ _ hc
      generalize hv : ρ c = v at h1
      cases h1
      exact ⟨_, hr _ _ h, fun w => by simp [execOp, hv, asBool]⟩
    · cases h
  · rename_i y
    split at h
    · rename_i v k he
      cases h
      have h1 := hr _ _ he
      generalize hv : ρ y = u at h1
      refine ⟨u, h1, fun w => ?_⟩
      cases h1
      simp [execOp, hv]
    · rename_i cs he
      cases h
      have h1 := hr _ _ he
      generalize hv : ρ y = u at h1
      refine ⟨u, h1, fun w => ?_⟩
      cases h1
      simp [execOp, hv]
    · rename_i f a b he
      cases h
      have h1 := hr _ _ he
      generalize hv : ρ y = u at h1
      refine ⟨u, h1, fun w => ?_⟩
      cases h1
      simp [execOp, hv]
    · rename_i t z he
      cases h
      have h1 := hr _ _ he
      generalize hv : ρ y = u at h1
      refine ⟨u, h1, fun w => ?_⟩
      cases h1
      simp [execOp, hv]
    · cases h
  · rename_i bop t y z ty'
    split at h
    · rename_i a b ha hb
      exact (binA_run h (hr _ _ ha) (hr _ _ hb)).next
    · cases h
  · rename_i uop t y
    split at h
    · rename_i a ha
      exact (unA_run h (hr _ _ ha)).next
    · cases h
  · rename_i s d y
    split at h
    · rename_i a ha
      exact (convA_run h (hr _ _ ha)).next
    · cases h
  · rename_i t y
    split at h
    · cases h
    · rename_i d hd hu
      cases ha : r y with
      | none => simp [ha] at h
      | some a =>
        simp only [ha, Option.map_some, Option.some.injEq] at h
        subst h
        refine ⟨_, .iface t a _ (hr _ _ ha), fun w => ?_⟩
        simp only [execOp, Instr.makeInterface, Sem.run_bind, run_underlying hu, Result.andThen_ok]
        cases d <;> first | rfl | exact absurd rfl (hd _)
    · cases h
  · rename_i fn first cap
    split at h
    · rename_i a b ha hb
      cases h
      have h1 := operands_rel hr ha
      have h2 := operands_rel hr hb
      refine ⟨_, .fn fn a b (first.map ρ) (cap.map ρ) (by simpa using h1) (by simpa using h2), fun w => by simp [execOp, Instr.makeFunc]⟩
    · cases h
  · rename_i t i
    split at h
    · rename_i l he
      have h1 := hr _ _ he
      generalize hv : ρ t = u at h1
      cases h1 with | tup _ vs h1 =>
      obtain ⟨v, hv1, hv2⟩ := h1.get h
      have hv1' : vs[i]? = some v := by simpa using hv1
      exact ⟨v, hv2, fun w => by simp [execOp, Instr.extract, hv, hv1']⟩
    · cases h
  · rename_i t y i
    split at h
    · rename_i fs cs hu he
      split at h
      · rename_i f hf
        have h1 := hr _ _ he
        generalize hv : ρ y = u at h1
        cases h1 with | agg _ vs h1 =>
        obtain ⟨v, hv1, hv2⟩ := partA_run h h1
        exact ⟨v, hv1, fun w => by simp [execOp, Instr.field, hv, run_underlying hu, hf, asAgg, hv2]⟩
      · cases h
    · cases h
  · rename_i t y i
    split at h
    · rename_i s n hu he hi
      have h1 := hr _ _ he
      generalize hv : ρ y = u at h1
      cases h1 with | str _ s' e =>
      subst e
      obtain ⟨k, hk⟩ := natOf?_rel hr hi
      rw [natOf_get] at h
      cases hg : s'[n]? with
      | none => simp [hg] at h
      | some b =>
        simp only [hg, Option.map_some, Option.some.injEq] at h
        subst h
        exact ⟨.int .u8 b.toNat, .int .u8 _, fun w => by simp [execOp, Instr.index, hv, hk, asIntOf, run_underlying hu, hg]⟩
    · rename_i len e cs n hu he hi
      split at h
      · rename_i z hz
        cases hb : Nat.ble (n + 1) len with
        | false => simp [hb] at h
        | true =>
          simp only [hb, cond_true] at h
          have hlt : n < len := Nat.le_of_ble_eq_true hb
          have h1 := hr _ _ he
          generalize hv : ρ y = u at h1
          cases h1 with | agg _ vs h1 =>
          obtain ⟨k, hk⟩ := natOf?_rel hr hi
          obtain ⟨v, hv1, hv2⟩ := partA_run h h1
          exact ⟨v, hv1, fun w => by simp [execOp, Instr.index, hv, hk, asIntOf, run_underlying hu, hlt, sizeT_run hz, hv2]⟩
      · cases h
    · cases h
  · rename_i t y i
    split at h
    · rename_i fs a hu he
      split at h
      · rename_i f hf
        split at h
        · rename_i m hm
          have h1 := hr _ _ he
          split at h
          · rename_i v k
            cases h
            generalize hv : ρ y = u at h1
            cases h1 with | ptr _ _ o p h2 h3 =>
            refine ⟨.pointer (some ⟨p.b, o + f.offset, none⟩), .ptr _ _ _ p h2 (by omega), fun w => ?_⟩
            simp [execOp, Instr.fieldAt, hv, run_underlying hu, hf, Instr.sureAddr, fieldPlace, sizeT_run hm, Addr.add_lit]
          · rename_i cs
            cases hb : Nat.ble f.offset cs.length with
            | false => simp [hb] at h
            | true =>
              simp only [hb, cond_true] at h
              cases h
              generalize hv : ρ y = u at h1
              cases h1 with | rp _ a us h2 h3 h4 =>
              refine ⟨.pointer (some (a.add f.offset)), VRel.rpAt h2 h3 h4 _, fun w => ?_⟩
              simp [execOp, Instr.fieldAt, hv, run_underlying hu, hf, Instr.sureAddr, fieldPlace, sizeT_run hm]
          · cases h
        · cases h
      · cases h
    · cases h
  · rename_i t y i
    split at h
    · rename_i e v k n sz j hu he hi
      split at h
      · rename_i z hz
        cases hb : Nat.beq z sz && Nat.ble (j + 1) n with
        | false => simp [hb] at h
        | true =>
          simp only [hb, cond_true] at h
          cases h
          rw [Bool.and_eq_true_iff] at hb
          have := Nat.eq_of_beq_eq_true hb.1
          subst this
          have hlt : j < n := Nat.le_of_ble_eq_true hb.2
          have h1 := hr _ _ he
          generalize hv : ρ y = u at h1
          cases h1 with | sl _ _ _ _ a cap p h2 h3 h4 h5 =>
          obtain ⟨kk, hk⟩ := natOf?_rel hr hi
          obtain ⟨o, ha, ho, hbd⟩ := h5 (by omega)
          refine ⟨.pointer (some ⟨p.b, o + j * z, none⟩), .ptr _ _ _ p h2 (by omega), fun w => ?_⟩
          simp [execOp, Instr.indexAt, hv, hk, asIntOf, run_underlying hu, hlt, sizeT_run hz, ha, Addr.add_lit]
      · cases h
    · rename_i e cs n sz j hu he hi
      split at h
      · rename_i z hz
        cases hb : Nat.beq z sz && Nat.ble (j + 1) n && Nat.ble (j * sz) cs.length with
        | false => simp [hb] at h
        | true =>
          simp only [hb, cond_true] at h
          cases h
          rw [Bool.and_eq_true_iff, Bool.and_eq_true_iff] at hb
          have := Nat.eq_of_beq_eq_true hb.1.1
          subst this
          have hlt : j < n := Nat.le_of_ble_eq_true hb.1.2
          have h1 := hr _ _ he
          generalize hv : ρ y = u at h1
          cases h1 with
          | ron _ => exact absurd hlt (Nat.not_lt_zero _)
          | ro _ _ _ a cap us h2 h3 h4 h5 h6 =>
          obtain ⟨kk, hk⟩ := natOf?_rel hr hi
          refine ⟨.pointer (some (a.add (j * z))), VRel.rpAt h4 h5 h6 _, fun w => ?_⟩
          simp [execOp, Instr.indexAt, hv, hk, asIntOf, run_underlying hu, hlt, sizeT_run hz]
      · cases h
    · rename_i len e v k j hu he hi
      split at h
      · rename_i z hz
        cases hb : Nat.ble (j + 1) len with
        | false => simp [hb] at h
        | true =>
          simp only [hb, cond_true] at h
          cases h
          have hlt : j < len := Nat.le_of_ble_eq_true hb
          have h1 := hr _ _ he
          generalize hv : ρ y = u at h1
          cases h1 with | ptr _ _ o p h2 h3 =>
          obtain ⟨kk, hk⟩ := natOf?_rel hr hi
          refine ⟨.pointer (some ⟨p.b, o + j * z, none⟩), .ptr _ _ _ p h2 (by omega), fun w => ?_⟩
          simp [execOp, Instr.indexAt, hv, hk, asIntOf, run_underlying hu, hlt, sizeT_run hz, Instr.sureAddr, Addr.add_lit]
      · cases h
    · rename_i len e cs j hu he hi
      split at h
      · rename_i z hz
        cases hb : Nat.ble (j + 1) len && Nat.ble (j * z) cs.length with
        | false => simp [hb] at h
        | true =>
          simp only [hb, cond_true] at h
          cases h
          rw [Bool.and_eq_true_iff] at hb
          have hlt : j < len := Nat.le_of_ble_eq_true hb.1
          have h1 := hr _ _ he
          generalize hv : ρ y = u at h1
          cases h1 with | rp _ a us h2 h3 h4 =>
          obtain ⟨kk, hk⟩ := natOf?_rel hr hi
          refine ⟨.pointer (some (a.add (j * z))), VRel.rpAt h2 h3 h4 _, fun w => ?_⟩
          simp [execOp, Instr.indexAt, hv, hk, asIntOf, run_underlying hu, hlt, sizeT_run hz, Instr.sureAddr]
      · cases h
    · cases h
  · rename_i t y lo hi
    split at h
    · rename_i a ha
      exact (sliceA_run hr h (hr _ _ ha)).next
    · cases h
  · rename_i t parts
    split at h
    · rename_i fs z ps hu hz hps
      split at h
      · rename_i places hpl
        cases hf : fillA (places[·]?) z.cells ps with
        | none => simp [hf] at h
        | some cs =>
          simp only [hf, Option.map_some, Option.some.injEq] at h
          subst h
          obtain ⟨zv, hz1, ⟨it, hit, hiz⟩, hz2⟩ := zeroT_run (w0 := w0) (base := base) (g := g) hz
          obtain ⟨us, hus, hru⟩ := fillA_rel hf (VRels.cells hz1) (partsA_rel hr hps)
          refine ⟨.agg us, .agg _ _ hru, fun w => ?_⟩
          have hb : P.built t (parts.map fun (i, x) => (i, ρ x)).toList = some us := by
            unfold Program.built
            simp only [hit, hu, hiz, hpl]
            simpa using hus
          simp only [execOp, Sem.run_bind, run_build w t _ us hb, Result.andThen_ok, Sem.run_pure]
      · cases h
    · rename_i n e z ps hu hz hps
      split at h
      · rename_i m hm
        cases hf : fillA (fun i => some (i * m, m)) z.cells ps with
        | none => simp [hf] at h
        | some cs =>
          simp only [hf, Option.map_some, Option.some.injEq] at h
          subst h
          obtain ⟨zv, hz1, ⟨it, hit, hiz⟩, hz2⟩ := zeroT_run (w0 := w0) (base := base) (g := g) hz
          obtain ⟨us, hus, hru⟩ := fillA_rel hf (VRels.cells hz1) (partsA_rel hr hps)
          refine ⟨.agg us, .agg _ _ hru, fun w => ?_⟩
          have hb : P.built t (parts.map fun (i, x) => (i, ρ x)).toList = some us := by
            unfold sizeT at hm
            cases hie : P.info? e with
            | none => simp [hie] at hm
            | some ie =>
              simp only [hie, Option.map_some, Option.some.injEq] at hm
              unfold Program.built
              simp only [hit, hu, hiz, hie, hm]
              simpa using hus
          simp only [execOp, Sem.run_bind, run_build w t _ us hb, Result.andThen_ok, Sem.run_pure]
      · cases h
    · cases h
  · rename_i y xt t ok
    split at h
    · cases h
    · cases h
    · rename_i d hd hu
      split at h
      · rename_i u v he
        have h1 := hr _ _ he
        generalize hv : ρ y = q at h1
        cases h1 with | iface _ _ q' h1 =>
        split at h
        · rename_i e
          subst e
          cases h
          cases ok with
          | true =>
            refine ⟨.tuple #[q', .bool true], .tup _ _ (.cons _ _ _ _ h1 (.cons _ _ _ _ (.bool true) .nil)), fun w => ?_⟩
            simp only [execOp, Instr.typeAssert, hv, Sem.run_bind, run_underlying hu, Result.andThen_ok]
            cases d <;> first | (exact absurd rfl (hd _)) | simp
          | false =>
            refine ⟨q', h1, fun w => ?_⟩
            simp only [execOp, Instr.typeAssert, hv, Sem.run_bind, run_underlying hu, Result.andThen_ok]
            cases d <;> first | (exact absurd rfl (hd _)) | simp
        · rename_i hne
          cases ok with
          | false => simp at h
          | true =>
            simp only [cond_true] at h
            cases hz : zeroT P t with
            | none => simp [hz] at h
            | some z =>
              simp only [hz, Option.map_some, Option.some.injEq] at h
              subst h
              obtain ⟨zv, hz1, _, hz2⟩ := zeroT_run (w0 := w0) (base := base) (g := g) hz
              refine ⟨.tuple #[zv, .bool false], .tup _ _ (.cons _ _ _ _ hz1 (.cons _ _ _ _ (.bool false) .nil)), fun w => ?_⟩
              simp only [execOp, Instr.typeAssert, hv, Sem.run_bind, run_underlying hu, Result.andThen_ok]
              cases d <;> first | (exact absurd rfl (hd _)) | simp [hne, hz2]
      · rename_i he
        have h1 := hr _ _ he
        generalize hv : ρ y = q at h1
        cases h1
        cases ok with
        | false => simp at h
        | true =>
          simp only [cond_true] at h
          cases hz : zeroT P t with
          | none => simp [hz] at h
          | some z =>
            simp only [hz, Option.map_some, Option.some.injEq] at h
            subst h
            obtain ⟨zv, hz1, _, hz2⟩ := zeroT_run (w0 := w0) (base := base) (g := g) hz
            refine ⟨.tuple #[zv, .bool false], .tup _ _ (.cons _ _ _ _ hz1 (.cons _ _ _ _ (.bool false) .nil)), fun w => ?_⟩
            simp only [execOp, Instr.typeAssert, hv, Sem.run_bind, run_underlying hu, Result.andThen_ok]
            cases d <;> first | (exact absurd rfl (hd _)) | simp [hz2]
      · cases h
  · rename_i c
    split at h
    · rename_i hc
      split at h
      · rename_i t y ht hy
        have h1 := operands_rel hr hy
        obtain ⟨callee, args, argTypes⟩ := c
        simp only at hc hy ht h1
        subst hc
        cases hargs : args.toList with
        | nil => rw [hargs] at h1; cases h1
        | cons a0 rest =>
          cases rest with
          | cons _ _ => rw [hargs] at h1; cases h1 with | cons _ _ _ _ _ h2 => cases h2
          | nil =>
            rw [hargs] at h1
            cases h1 with | cons _ _ _ _ h1 _ =>
            obtain ⟨v, hv1, hv2⟩ := lenA_run (ty := ty) ht h h1
            have ha : args = #[a0] := by rw [← Array.toArray_toList (xs := args), hargs]
            subst ha
            refine ⟨v, hv1, fun w => ?_⟩
            simp [execOp, resolve, invoke, builtin, hv2 w]
      · cases h
    · rename_i hc
      split at h
      · rename_i hy
        cases h
        have h1 := operands_rel hr hy
        obtain ⟨callee, args, argTypes⟩ := c
        simp only at hc hy h1
        subst hc
        cases hargs : args.toList with
        | nil => rw [hargs] at h1; cases h1
        | cons a0 rest =>
          cases rest with
          | cons _ _ => rw [hargs] at h1; cases h1 with | cons _ _ _ _ _ h2 => cases h2
          | nil =>
            rw [hargs] at h1
            have ha : args = #[a0] := by rw [← Array.toArray_toList (xs := args), hargs]
            subst ha
            simp only [List.map_cons, List.map_nil] at h1
            generalize hv0 : ρ a0 = v0 at h1
            cases h1 with | cons _ _ _ _ h1 _ =>
            cases h1
            exact ⟨_, .nilptr, fun w => by simp [execOp, resolve, invoke, builtin, hv0, Lib.run_unsafeSliceData_nil]⟩
      · rename_i v k n z hy
        cases h
        have h1 := operands_rel hr hy
        obtain ⟨callee, args, argTypes⟩ := c
        simp only at hc hy h1
        subst hc
        cases hargs : args.toList with
        | nil => rw [hargs] at h1; cases h1
        | cons a0 rest =>
          cases rest with
          | cons _ _ => rw [hargs] at h1; cases h1 with | cons _ _ _ _ _ h2 => cases h2
          | nil =>
            rw [hargs] at h1
            have ha : args = #[a0] := by rw [← Array.toArray_toList (xs := args), hargs]
            subst ha
            simp only [List.map_cons, List.map_nil] at h1
            generalize hv0 : ρ a0 = v0 at h1
            cases h1 with | cons _ _ _ _ h1 _ =>
            cases h1 with | sl _ _ _ _ a cap p q1 q2 q3 q4 =>
            obtain ⟨o, rfl, ho, _⟩ := q4 (by omega)
            have hc0 : cap ≠ 0 := by omega
            exact ⟨_, .ptr _ _ o p q1 ho, fun w => by simp [execOp, resolve, invoke, builtin, hv0, Lib.run_unsafeSliceData_row (P := P) w argTypes ty _ (n + 1) cap hc0]⟩
      · cases h
    · rename_i hc
      split at h
      · rename_i xs hy
        have h1 := operands_rel hr hy
        obtain ⟨callee, args, argTypes⟩ := c
        simp only at hc hy h1
        subst hc
        unfold minA at h
        split at h
        · rename_i k a k' b
          cases h
          cases hargs : args.toList with
          | nil => rw [hargs] at h1; cases h1
          | cons a0 rest =>
            rw [hargs] at h1
            cases rest with
            | nil => cases h1 with | cons _ _ _ _ _ h2 => cases h2
            | cons a1 rest =>
              cases rest with
              | cons _ _ => cases h1 with | cons _ _ _ _ _ h2 => cases h2 with | cons _ _ _ _ _ h3 => cases h3
              | nil =>
                have ha : args = #[a0, a1] := by rw [← Array.toArray_toList (xs := args), hargs]
                subst ha
                simp only [List.map_cons, List.map_nil] at h1
                generalize hv0 : ρ a0 = v0 at h1
                generalize hv1 : ρ a1 = v1 at h1
                cases h1 with | cons _ _ _ _ h1 h2 => cases h2 with | cons _ _ _ _ h2 _ =>
                cases h1; cases h2
                exact ⟨_, .int k _, fun w => by simp [execOp, resolve, invoke, builtin, hv0, hv1, Builtin.min_, Builtin.min2]⟩
        · cases h
      · cases h
    · rename_i hc
      split at h
      · rename_i xs hy
        have h1 := operands_rel hr hy
        obtain ⟨callee, args, argTypes⟩ := c
        simp only at hc hy h1
        subst hc
        unfold maxA at h
        split at h
        · rename_i k a k' b
          cases h
          cases hargs : args.toList with
          | nil => rw [hargs] at h1; cases h1
          | cons a0 rest =>
            rw [hargs] at h1
            cases rest with
            | nil => cases h1 with | cons _ _ _ _ _ h2 => cases h2
            | cons a1 rest =>
              cases rest with
              | cons _ _ => cases h1 with | cons _ _ _ _ _ h2 => cases h2 with | cons _ _ _ _ _ h3 => cases h3
              | nil =>
                have ha : args = #[a0, a1] := by rw [← Array.toArray_toList (xs := args), hargs]
                subst ha
                simp only [List.map_cons, List.map_nil] at h1
                generalize hv0 : ρ a0 = v0 at h1
                generalize hv1 : ρ a1 = v1 at h1
                cases h1 with | cons _ _ _ _ h1 h2 => cases h2 with | cons _ _ _ _ h2 _ =>
                cases h1; cases h2
                exact ⟨_, .int k _, fun w => by simp [execOp, resolve, invoke, builtin, hv0, hv1, Builtin.max_, Builtin.max2]⟩
        · cases h
      · cases h
    · cases h
  · cases h
end
end Go.Vz

/-
  V's READING OPERATIONS.
-/
set_option linter.unusedVariables false
set_option linter.unusedSimpArgs false
namespace Go.Vz
open Go Go.RowKit
theorem Mem.live_spec {m : Mem} {v : Nat} {W : Win} {c : Cl} (h : m.live v = some (W, c)) : m.obs.get v = some (.win W) ∧ m.cls.get W.cls = some c ∧ Owns c v := by
  unfold Mem.live at h
  split at h
  · rename_i W' hw
    split at h
    · rename_i c' hc
      split at h
      · rename_i ho
        cases h
        exact ⟨hw, hc, .inl ho⟩
      · rename_i u ho
        cases hb : Nat.beq u v with
        | false => simp [hb] at h
        | true =>
          simp only [hb, cond_true] at h
          cases h
          exact ⟨hw, hc, .inr (by rw [ho, Nat.eq_of_beq_eq_true hb])⟩
    · cases h
  · cases h
theorem Win.read_spec {W : Win} : ∀ {n k : Nat} {xs : List AV}, W.read k n = some xs → xs.length = n ∧ ∀ j x, xs[j]? = some x → W.cell (k + j) = some x
  | 0, k, xs, h => by simp only [Win.read] at h; cases h; simp
  | n + 1, k, xs, h => by
    simp only [Win.read] at h
    cases h1 : W.cell k with
    | none => simp [h1] at h
    | some x =>
      cases h2 : W.read (k + 1) n with
      | none => simp [h1, h2] at h
      | some l =>
        simp only [h1, h2] at h
        cases h
        obtain ⟨hl, hc⟩ := Win.read_spec h2
        refine ⟨by simp [hl], fun j y hy => ?_⟩
        cases j with
        | zero => simp at hy; subst hy; exact h1
        | succ j => simp at hy; have := hc j y hy; rwa [show k + 1 + j = k + (j + 1) by omega] at this
section
variable {w0 : World} {base : Nat} {g : Map} {P : Program} {m : Mem} {w : World} {r : Operand → Option AV} {ρ : Operand → Value}
/-- the cells of a list of places, chosen -/
theorem choose_cells (cells : Array Value) (p : Pl) : ∀ (xs : List AV) (o : Nat), (∀ j x, xs[j]? = some x → x.isCell = true ∧ ∃ o' u, o' + p.d = o + p.d + j ∧ cells[o']? = some u ∧ VRel w0 base g x u) →
    ∃ us : List Value, VRels w0 base g xs us ∧ allCells xs = true ∧ ∀ j u, us[j]? = some u → cells[o + j]? = some u
  | [], o, h => ⟨[], .nil, rfl, fun j u hu => by simp at hu⟩
  | x :: xs, o, h => by
    obtain ⟨hx, o', u, ho, hu, hr⟩ := h 0 x (by simp)
    have : o' = o := by omega
    subst this
    obtain ⟨us, h1, h2, h3⟩ := choose_cells cells p xs (o' + 1) (fun j y hy => by
      obtain ⟨hy1, o2, u2, ho2, hu2, hr2⟩ := h (j + 1) y (by simpa using hy)
      exact ⟨hy1, o2, u2, by omega, hu2, hr2⟩)
    refine ⟨u :: us, .cons _ _ _ _ hr h1, by simp [allCells, hx, h2], fun j v hv => ?_⟩
    cases j with
    | zero => simp at hv; subst hv; simpa using hu
    | succ j => simp at hv; have := h3 j v hv; rwa [show o' + 1 + j = o' + (j + 1) by omega] at this
theorem cell_block {w : World} {b o : Nat} {cells : Array Value} {e : TypeId} {fr : Nat × Nat} (h : w.heap[b]? = some (.cells cells e fr)) : w.cell? ⟨b, o, none⟩ = cells[o]? := by
  simp [World.cell?, h]
theorem allCells_of {xs : List AV} (h : ∀ x ∈ xs, x.isCell = true) : allCells xs = true := by
  induction xs with
  | nil => rfl
  | cons x xs ih => simp only [allCells, Bool.and_eq_true]; exact ⟨h x (by simp), ih fun y hy => h y (by simp [hy])⟩
/-- what V reads lies there -/
theorem Rel.load (R : Rel w0 base g m w) {a : AV} {ad : Addr} {n : Nat} {xs : List AV} (h : m.load a n = some xs) (ha : VRel w0 base g a (.pointer (some ad))) :
    xs.length = n ∧ ∃ us : List Value, VRels w0 base g xs us ∧ ∀ j u, us[j]? = some u → w.cell? (ad.add j) = some u := by
  unfold Mem.load at h
  split at h
  · rename_i v k
    split at h
    · rename_i W c hl
      obtain ⟨h1, h2, h3⟩ := Mem.live_spec hl
      obtain ⟨hlen, hcells⟩ := Win.read_spec h
      obtain ⟨p, hp, cells, e, fr, c', hheap, hsz, hc', hfr, hhb, hown⟩ := R.obj v _ h1
      have hhb1 := hhb.1
      rw [h2] at hc'
      cases hc'
      cases ha with | ptr _ _ o p' hp' ho =>
      rw [hp] at hp'
      cases hp'
      obtain ⟨us, hu1, hu2, hu3⟩ := choose_cells (w0 := w0) (base := base) (g := g) cells p xs o (fun j x hx => by
        have := (hown h3).2 _ _ (hcells j x hx)
        rwa [← ho] at this)
      exact ⟨hlen, us, hu1, fun j u hu => by rw [Addr.add_lit, cell_block hheap]; exact hu3 j u hu⟩
    · cases h
  · rename_i cs
    obtain ⟨e, hl⟩ := takeN_eq h
    cases ha with | rp _ _ us hs hc hrel =>
    refine ⟨by rw [e, List.length_take]; omega, us.take n, by rw [e]; exact hrel.take n, fun j u hu => ?_⟩
    have hu' : us[j]? = some u := by
      rw [List.getElem?_take] at hu
      split at hu
      · exact hu
      · cases hu
    have hpos : 0 < cs.length := by rw [hrel.length]; exact Nat.lt_of_le_of_lt (Nat.zero_le j) (List.getElem?_eq_some_iff.1 hu').1
    have hb := (hs hpos).2
    have hcell := hc j u hu'
    rw [R.below.cell (by rw [show (ad.add j).block = ad.block by unfold Addr.add; split <;> rfl]; exact hb)]
    exact hcell
  · cases h
theorem load_addr {a : AV} {n : Nat} {xs : List AV} {u : Value} (h : m.load a n = some xs) (hu : VRel w0 base g a u) : ∃ ad, u = .pointer (some ad) := by
  unfold Mem.load at h
  split at h
  · cases hu; exact ⟨_, rfl⟩
  · cases hu; exact ⟨_, rfl⟩
  · cases h
/-- a variable read -/
theorem Rel.loadVar (R : Rel w0 base g m w) {t : TypeId} {a : AV} {ad : Addr} {n : Nat} (hs : sizeT P t = some n) (ha : VRel w0 base g a (.pointer (some ad))) :
    (aggT P t = some true → ∀ xs, m.load a n = some xs → ∃ v, VRel w0 base g (.agg xs) v ∧ (Go.loadVar t ad).run P w = .ok v w) ∧
    (aggT P t = some false → ∀ x, m.load a 1 = some [x] → ∃ v, VRel w0 base g x v ∧ (Go.loadVar t ad).run P w = .ok v w) := by
  refine ⟨fun hg xs h => ?_, fun hg x h => ?_⟩
  · obtain ⟨hl, us, hu, hc⟩ := R.load h ha
    refine ⟨.agg us.toArray, .agg _ _ (by simpa using hu), ?_⟩
    have hn : us.length = n := by rw [← hu.length]; exact hl
    have := run_loadCells_list (P := P) (w := w) ad us hc
    rw [hn] at this
    simp only [Go.loadVar, Sem.run_bind, aggT_run hg, Result.andThen_ok, if_true, sizeT_run hs, this, Sem.run_pure]
  · obtain ⟨hl, us, hu, hc⟩ := R.load h ha
    cases hu with | cons _ v _ vs h1 h2 =>
    refine ⟨v, h1, ?_⟩
    have := hc 0 v (by simp)
    rw [Addr.add_zero'] at this
    simp only [Go.loadVar, Sem.run_bind, aggT_run hg, Result.andThen_ok, Bool.false_eq_true, if_false, run_load, this]
end
end Go.Vz

/-
  V's MAPS: keys and what is found.
-/
set_option linter.unusedVariables false
set_option linter.unusedSimpArgs false
namespace Go.Vz
open Go Go.RowKit
section
variable {w0 : World} {base : Nat} {g : Map} {P : Program} {m : Mem} {w : World} {r : Operand → Option AV} {ρ : Operand → Value}

theorem ERels.length {es : List (AV × AV × Nat)} {cs : List MapEntry} (h : ERels w0 base g es cs) : es.length = cs.length := by
  induction h with
  | nil => rfl
  | cons _ _ _ _ _ _ _ _ _ _ ih => simp [ih]
theorem ERels.get {es : List (AV × AV × Nat)} {cs : List MapEntry} (h : ERels w0 base g es cs) {i : Nat} {k x : AV} {b : Nat} (hi : es[i]? = some (k, x, b)) :
    ∃ e, cs[i]? = some e ∧ VRel w0 base g k e.key ∧ VRel w0 base g x e.val ∧ e.born = b := by
  induction h generalizing i with
  | nil => simp at hi
  | cons k' x' b' e es cs h1 h2 h3 h4 ih =>
    cases i with
    | zero => simp at hi; obtain ⟨rfl, rfl, rfl⟩ := hi; exact ⟨e, by simp, h1, h2, h3⟩
    | succ i => simp at hi; obtain ⟨e', he, hr⟩ := ih hi; exact ⟨e', by simpa using he, hr⟩
theorem ERels.append {es fs : List (AV × AV × Nat)} {cs ds : List MapEntry} (h : ERels w0 base g es cs) (k : ERels w0 base g fs ds) : ERels w0 base g (es ++ fs) (cs ++ ds) := by
  induction h with
  | nil => simpa using k
  | cons k' x' b' e es cs h1 h2 h3 h4 ih => exact .cons _ _ _ _ _ _ h1 h2 h3 ih
theorem ERels.modify {es : List (AV × AV × Nat)} {cs : List MapEntry} (h : ERels w0 base g es cs) {f : AV × AV × Nat → AV × AV × Nat} {f' : MapEntry → MapEntry} (i : Nat)
    (hf : ∀ k x b e, VRel w0 base g k e.key → VRel w0 base g x e.val → e.born = b → VRel w0 base g (f (k, x, b)).1 (f' e).key ∧ VRel w0 base g (f (k, x, b)).2.1 (f' e).val ∧ (f' e).born = (f (k, x, b)).2.2) :
    ERels w0 base g (modifyA f es i) (cs.modify i f') := by
  induction h generalizing i with
  | nil => cases i <;> exact .nil
  | cons k' x' b' e es cs h1 h2 h3 h4 ih =>
    cases i with
    | zero =>
      simp only [modifyA, List.modify_zero_cons]
      obtain ⟨a1, a2, a3⟩ := hf _ _ _ _ h1 h2 h3
      exact .cons _ _ _ _ _ _ a1 a2 a3 h4
    | succ i => simp only [modifyA, List.modify_succ_cons]; exact .cons _ _ _ _ _ _ h1 h2 h3 (ih i)
theorem ERels.erase {es : List (AV × AV × Nat)} {cs : List MapEntry} (h : ERels w0 base g es cs) (i : Nat) : ERels w0 base g (eraseA es i) (cs.eraseIdx i) := by
  induction h generalizing i with
  | nil => cases i <;> exact .nil
  | cons k' x' b' e es cs h1 h2 h3 h4 ih =>
    cases i with
    | zero => simpa [eraseA] using h4
    | succ i => simp only [eraseA, List.eraseIdx_cons_succ]; exact .cons _ _ _ _ _ _ h1 h2 h3 (ih i)

/-! ### Keys -/
theorem eqScalar_desc {t : TypeId} {x y : AV} {b : Bool} (h : eqScalar P t x y = some b) : ∃ d, P.underlying t = some d ∧ ((∃ k, d = .int k) ∨ d = .string ∨ d = .bool) := by
  unfold eqScalar at h
  split at h
  · rename_i hu; exact ⟨_, hu, .inl ⟨_, rfl⟩⟩
  · rename_i hu; exact ⟨_, hu, .inr (.inl rfl)⟩
  · rename_i hu; exact ⟨_, hu, .inr (.inr rfl)⟩
  · cases h
theorem checkKey_scalar {t : TypeId} {x y : AV} {b : Bool} (h : eqScalar P t x y = some b) (u : Value) (em : Bool) (d : Nat) (w : World) : (Instr.checkKey em (d + 1) t u).run P w = .ok () w := by
  obtain ⟨kd, hu, hk⟩ := eqScalar_desc h
  rw [Instr.checkKey, Sem.run_bind, run_underlying hu]
  rcases hk with ⟨k, rfl⟩ | rfl | rfl <;> rfl
theorem checkKey_fields {xs : Array Value} (em : Bool) (d : Nat) (w : World) : ∀ {fs : List Field} {i : Nat} {as bs : List AV} {b : Bool}, flatF P fs i = true → eqFieldsA P fs as bs = some b →
    VRels w0 base g as (xs.toList.drop i) →
    (forIn fs PUnit.unit fun f _ => do
      if f.name ≠ "_" then Instr.checkKey em (d + 1) f.type (← part f.type xs f.offset)
      pure (ForInStep.yield PUnit.unit) : Sem PUnit).run P w = .ok PUnit.unit w
  | [], i, as, bs, b, hf, h, hx => rfl
  | f :: fs, i, as, bs, b, hf, h, hx => by
    simp only [flatF, Bool.and_eq_true, bne_iff_ne, ne_eq] at hf
    obtain ⟨⟨⟨hn, ho⟩, hsc⟩, hrest⟩ := hf
    have ho' : f.offset = i := Nat.eq_of_beq_eq_true ho
    cases as with
    | nil => cases bs <;> simp [eqFieldsA] at h
    | cons x as => cases bs with
      | nil => simp [eqFieldsA] at h
      | cons y bs =>
        simp only [eqFieldsA] at h
        obtain ⟨u, hu, hru⟩ := hx.get (i := 0) (x := x) (by simp)
        rw [List.getElem?_drop] at hu
        simp only [Nat.add_zero, Array.getElem?_toList] at hu
        have hx1 := hx.drop 1
        rw [List.drop_drop] at hx1
        simp only [List.drop_succ_cons, List.drop_zero] at hx1
        cases h1 : eqScalar P f.type x y with
        | none => simp [h1] at h
        | some a =>
          cases h2 : eqFieldsA P fs as bs with
          | none => simp [h1, h2] at h
          | some c =>
            have ih := checkKey_fields em d w hrest h2 hx1
            simp only [List.forIn_cons, Sem.run_bind, ne_eq, hn, not_false_eq_true, if_true, ho', scalar_part hsc hu, Result.andThen_ok, checkKey_scalar h1 u em d, Sem.run_pure]
            exact ih
theorem checkKey_run {t : TypeId} {x y : AV} {u : Value} {b : Bool} (h : eqKey P t x y = some b) (hx : VRel w0 base g x u) (em : Bool) (w : World) : (Instr.checkKey em 10000 t u).run P w = .ok () w := by
  unfold eqKey at h
  split at h
  · rename_i fs hf
    split at h
    · cases hx with | agg _ us hx =>
      obtain ⟨⟨fa, hu, rfl⟩, hfl, hst⟩ := flatS_spec hf
      have := checkKey_fields (w0 := w0) (base := base) (g := g) (xs := us) em 9998 w hfl h (by simpa using hx)
      show (Instr.checkKey em (9999 + 1) t (.agg us)).run P w = _
      rw [Instr.checkKey, Sem.run_bind, run_underlying hu]
      simp only [Result.andThen_ok]
      rw [← Array.forIn_toList, Sem.run_bind, this]
      rfl
    · cases h
  · exact checkKey_scalar h u em 9999 w

/-! ### What is found -/
theorem findA_spec {t : TypeId} {k : AV} : ∀ {es : List (AV × AV × Nat)} {i j : Nat} {v : AV} {b : Nat}, findA P t k es i = some (some (j, v, b)) →
    ∃ n k', j = i + n ∧ es[n]? = some (k', v, b) ∧ eqKey P t k k' = some true
  | [], i, j, v, b, h => by simp [findA] at h
  | (k', v', b') :: es, i, j, v, b, h => by
    simp only [findA] at h
    split at h
    · rename_i he
      cases h
      exact ⟨0, k', rfl, by simp, he⟩
    · obtain ⟨n, k2, hj, hn, he⟩ := findA_spec h
      exact ⟨n + 1, k2, by omega, by simpa using hn, he⟩
    · cases h
/-- what the machine finds -/
def Found (w0 : World) (base : Nat) (g : Map) (cs : List MapEntry) (i : Nat) : Option (Nat × AV × Nat) → Option (Nat × Value) → Prop
  | none, r => r = none
  | some (j, v, b), r => ∃ n e, j = i + n ∧ cs[n]? = some e ∧ r = some (j, e.val)
theorem eqNats_true {a b : ByteArray} (h : eqNats (natOf a) (natOf b) = true) : a = b := by
  unfold natOf at h
  rw [eqNats_map, beq_iff_eq] at h
  cases a; cases b
  simp only [ByteArray.mk.injEq]
  exact Array.toList_inj.1 h
theorem sameNow_run {t : TypeId} {d : TypeDesc} (hu : P.underlying t = some d) {x y : AV} {u v : Value} {b : Bool} (h : eqScalar P t x y = some b) (hx : VRel w0 base g x u) (hy : VRel w0 base g y v) : Instr.sameNow d u v = some b := by
  unfold eqScalar at h
  split at h
  · rename_i k' hu'
    rw [hu] at hu'; cases hu'
    cases hx; cases hy
    split at h
    · rename_i e; subst e; cases h; simp [Instr.sameNow]
    · cases h
  · rename_i hu'
    rw [hu] at hu'; cases hu'
    cases hx with | str _ s e => cases hy with | str _ s' e' =>
      subst e; subst e'
      cases h
      simp only [Instr.sameNow, beq_toListBytes, toList_eq']
      congr 1
      exact (eqNats_map _ _).symm
  · rename_i hu'
    rw [hu] at hu'; cases hu'
    cases hx; cases hy; cases h
    simp [Instr.sameNow]
  · cases h
theorem findNow_run {t : TypeId} {d : TypeDesc} (hu : P.underlying t = some d) (hf : flatS P t = none) {k : AV} {u : Value} (hk : VRel w0 base g k u) :
    ∀ {es : List (AV × AV × Nat)} {cs : List MapEntry} {i : Nat} {res : Option (Nat × AV × Nat)}, findA P t k es i = some res → ERels w0 base g es cs → ∃ r, Instr.findNow d u cs i = some r ∧ Found w0 base g cs i res r
  | [], [], i, res, h, hr => by simp only [findA] at h; cases h; exact ⟨none, rfl, rfl⟩
  | [], _ :: _, i, res, h, hr => by cases hr
  | _ :: _, [], i, res, h, hr => by cases hr
  | (k', v', b') :: es, c :: cs, i, res, h, hr => by
    cases hr with | cons _ _ _ _ _ _ h1 h2 h3 h4 =>
    simp only [findA] at h
    have hek : ∀ b, eqKey P t k k' = some b → Instr.sameNow d u c.key = some b := fun b hb => by
      unfold eqKey at hb
      rw [hf] at hb
      exact sameNow_run hu hb hk h1
    split at h
    · rename_i he
      cases h
      exact ⟨some (i, c.val), by simp only [Instr.findNow, hek _ he], 0, c, rfl, by simp, rfl⟩
    · rename_i he
      obtain ⟨r, hr1, hr2⟩ := findNow_run hu hf hk h h4
      refine ⟨r, by simp only [Instr.findNow, hek _ he, hr1], ?_⟩
      cases res with
      | none => exact hr2
      | some q =>
        obtain ⟨j, v, b⟩ := q
        obtain ⟨n, e, hj, hn, hre⟩ := hr2
        exact ⟨n + 1, e, by omega, by simpa using hn, hre⟩
    · cases h
theorem findAsking_run {t : TypeId} {k : AV} {u : Value} (hk : VRel w0 base g k u) (w : World) :
    ∀ {es : List (AV × AV × Nat)} {cs : List MapEntry} {i : Nat} {res : Option (Nat × AV × Nat)}, findA P t k es i = some res → ERels w0 base g es cs → ∃ r, (Instr.findAsking t u cs i).run P w = .ok r w ∧ Found w0 base g cs i res r
  | [], [], i, res, h, hr => by simp only [findA] at h; cases h; exact ⟨none, rfl, rfl⟩
  | [], _ :: _, i, res, h, hr => by cases hr
  | _ :: _, [], i, res, h, hr => by cases hr
  | (k', v', b') :: es, c :: cs, i, res, h, hr => by
    cases hr with | cons _ _ _ _ _ _ h1 h2 h3 h4 =>
    simp only [findA] at h
    split at h
    · rename_i he
      cases h
      exact ⟨some (i, c.val), by simp only [Instr.findAsking, Sem.run_bind, eqKey_run he hk h1 w, Result.andThen_ok, if_true, Sem.run_pure], 0, c, rfl, by simp, rfl⟩
    · rename_i he
      obtain ⟨r, hr1, hr2⟩ := findAsking_run hk w h h4
      refine ⟨r, by simp only [Instr.findAsking, Sem.run_bind, eqKey_run he hk h1 w, Result.andThen_ok, Bool.false_eq_true, if_false, hr1], ?_⟩
      cases res with
      | none => exact hr2
      | some q =>
        obtain ⟨j, v, b⟩ := q
        obtain ⟨n, e, hj, hn, hre⟩ := hr2
        exact ⟨n + 1, e, by omega, by simpa using hn, hre⟩
    · cases h
theorem findKey_run {t : TypeId} {k : AV} {u : Value} {b : Bool} (hkt : eqKey P t k k = some b) (hk : VRel w0 base g k u) (w : World) {es : List (AV × AV × Nat)} {cs : List MapEntry} {res : Option (Nat × AV × Nat)}
    (h : findA P t k es 0 = some res) (hr : ERels w0 base g es cs) : ∃ q, (Instr.findKey t u cs).run P w = .ok q w ∧ Found w0 base g cs 0 res q := by
  cases hf : flatS P t with
  | none =>
    have hkt' : eqScalar P t k k = some b := by unfold eqKey at hkt; rw [hf] at hkt; exact hkt
    obtain ⟨d, hu, _⟩ := eqScalar_desc hkt'
    obtain ⟨q, h1, h2⟩ := findNow_run hu hf hk h hr
    exact ⟨q, by simp only [Instr.findKey, Sem.run_bind, run_underlying hu, Result.andThen_ok, h1, Sem.run_pure], h2⟩
  | some fs =>
    obtain ⟨⟨fa, hu, rfl⟩, hfl, hst⟩ := flatS_spec hf
    obtain ⟨q, h1, h2⟩ := findAsking_run hk w h hr
    cases cs with
    | nil =>
      cases hr
      simp only [findA] at h
      cases h
      exact ⟨none, by simp only [Instr.findKey, Sem.run_bind, run_underlying hu, Result.andThen_ok, Instr.findNow, Sem.run_pure], rfl⟩
    | cons c cs =>
      refine ⟨q, ?_, h2⟩
      simp only [Instr.findKey, Sem.run_bind, run_underlying hu, Result.andThen_ok, Instr.findNow, Instr.sameNow]
      exact h1
/-- a key that is equal stays -/
theorem sameBits_scalar {t : TypeId} {x y : AV} {u v : Value} (h : eqScalar P t x y = some true) (hx : VRel w0 base g x u) (hy : VRel w0 base g y v) (n : Nat) : Instr.sameBits n v u = true := by
  unfold eqScalar at h
  split at h
  · cases hx; cases hy
    split at h
    · rename_i e; subst e
      simp only [Option.some.injEq, beq_iff_eq] at h
      subst h
      simp [Instr.sameBits]
    · cases h
  · cases hx with | str _ s e => cases hy with | str _ s' e' =>
      subst e; subst e'
      simp only [Option.some.injEq] at h
      rw [eqNats_true h]
      simp only [Instr.sameBits, beq_toListBytes]
      exact beq_self_eq_true _
  · cases hx; cases hy
    simp only [Option.some.injEq, beq_iff_eq] at h
    subst h
    simp [Instr.sameBits]
  · cases h
theorem sameBits_fields (n : Nat) : ∀ {fs : List Field} {xs ys : List AV} {us vs : List Value}, eqFieldsA P fs xs ys = some true → VRels w0 base g xs us → VRels w0 base g ys vs →
    us.length = vs.length ∧ ((vs.zip us).all fun (x, y) => Instr.sameBits n x y) = true
  | [], [], [], us, vs, h, hx, hy => by cases hx; cases hy; exact ⟨rfl, rfl⟩
  | f :: fs, x :: xs, y :: ys, us, vs, h, hx, hy => by
    cases hx with | cons _ u _ us hx1 hx2 => cases hy with | cons _ v _ vs hy1 hy2 =>
    simp only [eqFieldsA] at h
    cases h1 : eqScalar P f.type x y with
    | none => simp [h1] at h
    | some a =>
      cases h2 : eqFieldsA P fs xs ys with
      | none => simp [h1, h2] at h
      | some c =>
        simp only [h1, h2, Option.some.injEq, Bool.and_eq_true] at h
        obtain ⟨rfl, rfl⟩ := h
        obtain ⟨hl, hal⟩ := sameBits_fields n h2 hx2 hy2
        exact ⟨by simp [hl], by simp [sameBits_scalar h1 hx1 hy1 n, hal]⟩
  | [], _ :: _, _, us, vs, h, hx, hy => by simp [eqFieldsA] at h
  | [], [], _ :: _, us, vs, h, hx, hy => by simp [eqFieldsA] at h
  | _ :: _, [], _, us, vs, h, hx, hy => by simp [eqFieldsA] at h
  | _ :: _, _ :: _, [], us, vs, h, hx, hy => by simp [eqFieldsA] at h
theorem keyStays {t : TypeId} {x y : AV} {u v : Value} (h : eqKey P t x y = some true) (hx : VRel w0 base g x u) (hy : VRel w0 base g y v) (w : World) : (Instr.keyThatStays v u).run P w = .ok u w := by
  have hs : Instr.sameBits 10000 v u = true := by
    unfold eqKey at h
    split at h
    · split at h
      · cases hx with | agg _ us hx => cases hy with | agg _ vs hy =>
        obtain ⟨hl, hal⟩ := sameBits_fields 9999 h hx hy
        show (vs.size == us.size && (vs.toList.zip us.toList).all fun (x, y) => Instr.sameBits 9999 x y) = true
        rw [hal, Bool.and_true, beq_iff_eq]
        simpa using hl.symm
      · cases h
    · exact sameBits_scalar h hx hy 10000
  simp [Instr.keyThatStays, hs]
end
end Go.Vz

/-
  V's READING OPERATIONS: the theorem.
-/
set_option linter.unusedVariables false
set_option linter.unusedSimpArgs false
namespace Go.Vz
open Go Go.RowKit
section
variable {w0 : World} {base : Nat} {g : Map} {P : Program} {m : Mem} {w : World} {r : Operand → Option AV} {ρ : Operand → Value}

/-- the entries of a map -/
theorem Rel.map (R : Rel w0 base g m w) {q : Nat} {es : List (AV × AV × Nat)} {clock : Nat} {u : Value} (h : m.obs.get q = some (.map es clock)) (hu : VRel w0 base g (.map q) u) :
    ∃ p es', u = .map (some p.b) ∧ g q = some p ∧ w.heap[p.b]? = some (.map es' clock) ∧ ERels w0 base g es es'.toList := by
  obtain ⟨p, hp, hd, es', hh, hr⟩ := R.obj q _ h
  cases hu with | map _ p' hp' =>
  rw [hp] at hp'
  cases hp'
  exact ⟨p, es', rfl, hp, hh, hr⟩
theorem run_getObj {w : World} {b : Nat} {o : Obj} (h : w.heap[b]? = some o) (hc : ∀ c e f, o ≠ .cells c e f) : (getObj b).run P w = .ok o w := by
  unfold getObj
  simp only [Sem.run, h]
theorem tuple_two {x y : AV} {u v : Value} (h : VRel w0 base g x u) (k : VRel w0 base g y v) : VRel w0 base g (.tup [x, y]) (.tuple #[u, v]) := .tup _ _ (.cons _ _ _ _ h (.cons _ _ _ _ k .nil))

theorem lookup_run (R : Rel w0 base g m w) {t kt et : TypeId} (hu : P.underlying t = some (.map kt et)) {key mv : AV} {ku mu : Value} {b ok : Bool} (hkb : eqKey P kt key key = some b) (hkr : VRel w0 base g key ku)
    {es : List (AV × AV × Nat)} (he : mapEs m mv = some es) (hmr : VRel w0 base g mv mu) {x : AV}
    (h : (match findA P kt key es 0 with
          | some (some (_, v, _)) => some (bif ok then .tup [v, .bool true] else v)
          | some none => match zeroT P et with
            | some z => some (bif ok then .tup [z, .bool false] else z)
            | none => none
          | none => none) = some x) : ∃ v, VRel w0 base g x v ∧ (Instr.lookup t mu ku ok).run P w = .ok v w := by
  have tail : ∀ es' : Array MapEntry, ERels w0 base g es es'.toList → ∃ v, VRel w0 base g x v ∧ (do
      Instr.checkKey es'.isEmpty 10000 kt ku
      let (v, ok') ← match ← Instr.findKey kt ku es'.toList with
        | some (_, v) => pure (v, true)
        | none => pure (← zeroValue et, false)
      pure (if ok then Value.tuple #[v, .bool ok'] else v) : Sem Value).run P w = .ok v w := by
    intro es' hrel
    split at h
    · rename_i j v c hf
      cases h
      obtain ⟨q, hq1, n, e, hj, hn, hq⟩ := findKey_run hkb hkr w hf hrel
      obtain ⟨n', k', hj', hn', _⟩ := findA_spec hf
      have hnn : n = n' := by omega
      subst hnn
      obtain ⟨e', he', _, hval, _⟩ := hrel.get hn'
      rw [hn] at he'
      cases he'
      subst hq
      refine ⟨if ok then .tuple #[e.val, .bool true] else e.val, ?_, by simp only [Sem.run_bind, checkKey_run hkb hkr, Result.andThen_ok, hq1, Sem.run_pure]⟩
      cases ok with
      | true => exact tuple_two hval (.bool true)
      | false => exact hval
    · rename_i hf
      obtain ⟨q, hq1, hq⟩ := findKey_run hkb hkr w hf hrel
      cases hq
      cases hz : zeroT P et with
      | none => simp [hz] at h
      | some z =>
        simp only [hz] at h
        cases h
        obtain ⟨zv, hz1, _, hz2⟩ := zeroT_run (w0 := w0) (base := base) (g := g) hz
        refine ⟨if ok then .tuple #[zv, .bool false] else zv, ?_, by simp only [Sem.run_bind, checkKey_run hkb hkr, Result.andThen_ok, hq1, hz2, Sem.run_pure]⟩
        cases ok with
        | true => exact tuple_two hz1 (.bool false)
        | false => exact hz1
    · cases h
  cases mv <;> simp only [mapEs] at he <;> try (cases he; done)
  case nilmap =>
    cases he
    cases hmr
    obtain ⟨v, hv1, hv2⟩ := tail #[] .nil
    refine ⟨v, hv1, ?_⟩
    simp only [Instr.lookup, Sem.run_bind, run_underlying hu, Result.andThen_ok, Sem.run_pure] at hv2 ⊢
    exact hv2
  case map q =>
    cases ho : m.obs.get q with
    | none => simp [ho] at he
    | some o =>
      cases o <;> simp only [ho] at he <;> try (cases he; done)
      case map es2 clock =>
        cases he
        obtain ⟨p, es', rfl, _, hh, hrel⟩ := R.map ho hmr
        obtain ⟨v, hv1, hv2⟩ := tail es' hrel
        refine ⟨v, hv1, ?_⟩
        simp only [Instr.lookup, Sem.run_bind, run_underlying hu, Result.andThen_ok, Sem.run_pure, run_getObj hh (by intro _ _ _ h; cases h)] at hv2 ⊢
        exact hv2

theorem liesAt_head {e : TypeId} {count : Nat} (hc : P.cellsOf e ≠ 0) (hn : 1 ≤ count) : liesAt P P.depth e count 0 e 1 = true := by
  have hd : P.depth = (2 * (P.types.size + Made.depth) + 1) + 1 := rfl
  rw [hd]
  simp only [liesAt, Bool.or_eq_true]
  left
  rw [hd]
  simp [rowAt, hc, hn, sameLayout]
theorem loadA_sound (R : Rel w0 base g m w) {o : Oper} {x : AV} (hr : ∀ y a, r y = some a → VRel w0 base g a (ρ y)) (h : loadA P r m o.op = some x) :
    ∃ v, VRel w0 base g x v ∧ (execOp ρ o).run P w = .ok (.value v) w := by
  obtain ⟨dst, op, ty, pos, after, guard⟩ := o
  simp only at h
  unfold loadA at h
  split at h
  · rename_i t y
    split at h
    · rename_i a n ha hn
      have h1 := hr _ _ ha
      generalize hv : ρ y = u at h1
      split at h
      · rename_i hg
        cases hl : m.load a n with
        | none => simp [hl] at h
        | some xs =>
          simp only [hl, Option.map_some, Option.some.injEq] at h
          subst h
          obtain ⟨ad, rfl⟩ := load_addr hl h1
          obtain ⟨v, hv1, hv2⟩ := (R.loadVar (P := P) hn h1).1 hg xs hl
          exact ⟨v, hv1, by simp [execOp, Instr.loadAt, hv, Instr.sureAddr, hv2]⟩
      · rename_i hg
        split at h
        · rename_i z hl
          cases h
          obtain ⟨ad, rfl⟩ := load_addr hl h1
          obtain ⟨v, hv1, hv2⟩ := (R.loadVar (P := P) hn h1).2 hg _ hl
          exact ⟨v, hv1, by simp [execOp, Instr.loadAt, hv, Instr.sureAddr, hv2]⟩
        · cases h
      · cases h
    · cases h
  · rename_i s d y
    split at h
    · rename_i t v k hs hd ha
      split at h
      · rename_i n W c hsz hl
        cases hb : Nat.ble W.lo k && Nat.ble (k + 1) W.hi with
        | false => simp [hb] at h
        | true =>
          simp only [hb, cond_true] at h
          cases h
          rw [Bool.and_eq_true_iff] at hb
          have hb1 := Nat.le_of_ble_eq_true hb.1
          have hb2 := Nat.le_of_ble_eq_true hb.2
          obtain ⟨q1, q2, q3⟩ := Mem.live_spec hl
          obtain ⟨p, hp, cells, e, fr, c', hheap, hcs, _, _, hhb, _⟩ := R.obj _ _ q1
          have h1 := hr _ _ ha
          generalize hv : ρ y = u at h1
          cases h1 with | ptr _ _ o p' hp' ho =>
          rw [hp] at hp'; cases hp'
          obtain ⟨i, hi, hiz⟩ : ∃ i, P.info? t = some i ∧ i.size = n + 1 := by
            unfold sizeT at hsz
            cases hi : P.info? t with
            | none => simp [hi] at hsz
            | some i => simp only [hi, Option.map_some, Option.some.injEq] at hsz; exact ⟨i, rfl, hsz⟩
          have hhb1 := hhb.1
          have hrun := Lib.run_to_unsafe (P := P) w (e := e) (cells := cells.size) ⟨p.b, o, none⟩ hs hd hi (by omega) (by simp [World.shape?, hheap]) (by show o < cells.size; omega)
          exact ⟨_, .ptr _ _ o p hp ho, by simp only [execOp, hv, Sem.run_bind, hrun, Result.andThen_ok, Sem.run_pure]⟩
      · cases h
    · rename_i u v k hs hd ha
      split at h
      · rename_i n W c hsz hl
        cases hb : tyIs W.ty u && Nat.beq k W.lo && Nat.ble (k + (n + 1)) W.hi with
        | false => simp [hb] at h
        | true =>
          simp only [hb, cond_true] at h
          cases h
          simp only [Bool.and_eq_true] at hb
          have hb1 := Nat.eq_of_beq_eq_true hb.1.2
          have hb2 := Nat.le_of_ble_eq_true hb.2
          obtain ⟨q1, q2, q3⟩ := Mem.live_spec hl
          obtain ⟨p, hp, cells, e, fr, c', hheap, hcs, _, _, hhb, _⟩ := R.obj _ _ q1
          have hty : W.ty = some u := by
            cases hw : W.ty with
            | none => rw [hw] at hb; exact absurd hb.1.1 (by intro h; cases h)
            | some t => rw [hw] at hb; rw [Nat.eq_of_beq_eq_true hb.1.1]
          obtain ⟨he, hlo⟩ := hhb.2 u hty
          subst he
          have h1 := hr _ _ ha
          generalize hv : ρ y = uu at h1
          cases h1 with | ptr _ _ o p' hp' ho =>
          rw [hp] at hp'; cases hp'
          have ho0 : o = 0 := by omega
          subst ho0
          obtain ⟨i, hi, hiz⟩ : ∃ i, P.info? e = some i ∧ i.size = n + 1 := by
            unfold sizeT at hsz
            cases hi : P.info? e with
            | none => simp [hi] at hsz
            | some i => simp only [hi, Option.map_some, Option.some.injEq] at hsz; exact ⟨i, rfl, hsz⟩
          have hhb1 := hhb.1
          have hcell : P.cellsOf e = n + 1 := by unfold Program.cellsOf; rw [hi]; exact hiz
          have hlies := liesAt_head (P := P) (e := e) (count := cells.size / P.cellsOf e) (by rw [hcell]; omega) (by rw [hcell]; exact Nat.div_pos (by omega) (by omega))
          have hrun := Lib.run_from_unsafe (P := P) w (e := e) (cells := cells.size) ⟨p.b, 0, none⟩ hs hd hi (by simp [World.shape?, hheap]) hlies
          exact ⟨_, .ptr _ _ 0 p hp ho, by simp only [execOp, hv, Sem.run_bind, hrun, Result.andThen_ok, Sem.run_pure]⟩
      · cases h
    · cases h
  · rename_i t y lo hi
    split at h
    · rename_i n e v k hu ha
      split at h
      · rename_i z l hh hz hb
        split at h
        · cases h
        · rename_i n
          cases hbl : Nat.ble (n + 1) 9223372036854775807 with
          | false => simp [hbl] at h
          | true =>
          simp only [hbl, cond_true] at h
          have hml : n + 1 ≤ maxLen := by have := Nat.le_of_ble_eq_true hbl; simp only [maxLen]; omega
          split at h
          · rename_i xs hl
            cases h
            have h1 := hr _ _ ha
            generalize hv : ρ y = u at h1
            cases h1 with | ptr _ _ o p hp ho =>
            obtain ⟨b1, b2, b3⟩ := bounds_run (P := P) hr hb (Nat.le_refl _) false
            have hmul : (n + 1) * (z + 1) = n * (z + 1) + z + 1 := by rw [Nat.succ_mul]; omega
            -- the last cell lies there
            have h2 : VRel w0 base g (.ptr v (k + (n + 1) * (z + 1) - 1)) (.pointer (some ⟨p.b, o + ((n + 1) * (z + 1) - 1), none⟩)) := .ptr _ _ _ p hp (by omega)
            obtain ⟨hlen, us, hu1, hu2⟩ := R.load hl h2
            have hus : us.length = 1 := by rw [← hu1.length]; exact hlen
            obtain ⟨u0, hu0⟩ : ∃ u0, us[0]? = some u0 := ⟨us[0], List.getElem?_eq_getElem (by omega)⟩
            have hcell := hu2 0 u0 hu0
            rw [Addr.add_zero'] at hcell
            have hsize : o + ((n + 1) * (z + 1) - 1) < p.n := by
              simp only [Mem.load] at hl
              cases hlv : m.live v with
              | none => simp [hlv] at hl
              | some Wc =>
                obtain ⟨W, c⟩ := Wc
                obtain ⟨q1, q2, q3⟩ := Mem.live_spec hlv
                obtain ⟨p', hp', cells, e', fr, c', hheap, hsz, _⟩ := R.obj _ _ q1
                rw [hp] at hp'; cases hp'
                rw [cell_block hheap] at hcell
                have := (Array.getElem?_eq_some_iff.1 hcell).1
                omega
            refine ⟨.slice (some (if n + 1 = l then ⟨p.b, o, none⟩ else ⟨p.b, o + l * (z + 1), none⟩)) (hh - l) (n + 1 - l), ?_, ?_⟩
            · by_cases hn : n + 1 = l
              · rw [if_pos hn]
                refine .sl v _ _ _ _ _ p hp (by omega) (by omega) (fun hlt => by omega)
              · rw [if_neg hn]
                refine .sl v _ _ _ _ _ p hp (by omega) (by omega) (fun hlt => ⟨o + l * (z + 1), rfl, by omega, ?_⟩)
                · have : l * (z + 1) + (n + 1 - l) * (z + 1) = (n + 1) * (z + 1) := by rw [← Nat.add_mul]; congr 1; omega
                  omega
            · simp only [execOp, Instr.sliceAt, hv, Sem.run_bind, run_underlying hu, Result.andThen_ok, Instr.sureAddr, Sem.run_pure, b3, sizeT_run hz, Addr.add_lit, Option.map_none]
          · cases h
      · cases h
    · cases h
  · rename_i t y i ok
    split at h
    · rename_i kt et mv key hu hmv hkey
      cases hk : keyT P kt key with
      | false => simp [hk] at h
      | true =>
        simp only [hk, cond_true] at h
        unfold keyT at hk
        obtain ⟨b, hkb⟩ := Option.isSome_iff_exists.1 hk
        cases he : mapEs m mv with
        | none => simp [he] at h
        | some es =>
          simp only [he] at h
          obtain ⟨v, hv1, hv2⟩ := lookup_run (P := P) R hu hkb (hr _ _ hkey) he (hr _ _ hmv) (ok := ok) h
          exact ⟨v, hv1, by simp only [execOp, Sem.run_bind, hv2, Result.andThen_ok, Sem.run_pure]⟩
    · cases h
  · rename_i c
    split at h
    · rename_i hc
      split at h
      · rename_i t q ht hy
        split at h
        · rename_i kt et es clock hu ho
          cases h
          have h1 := operands_rel hr hy
          obtain ⟨callee, args, argTypes⟩ := c
          simp only at hc hy ht h1
          subst hc
          cases hargs : args.toList with
          | nil => rw [hargs] at h1; cases h1
          | cons a0 rest =>
            cases rest with
            | cons _ _ => rw [hargs] at h1; cases h1 with | cons _ _ _ _ _ h2 => cases h2
            | nil =>
              rw [hargs] at h1
              cases h1 with | cons _ _ _ _ h1 _ =>
              have ha : args = #[a0] := by rw [← Array.toArray_toList (xs := args), hargs]
              subst ha
              generalize hv : ρ a0 = u at h1
              obtain ⟨p, es', rfl, _, hh, hrel⟩ := R.map ho h1
              refine ⟨.int .i64 es.length, .int _ _, ?_⟩
              have hl : es.length = es'.size := by simpa using hrel.length
              simp [execOp, resolve, invoke, builtin, Builtin.len_, ht, hv, run_underlying hu, run_getObj hh (by intro _ _ _ h; cases h), goInt, hl]
        · cases h
      · cases h
    · cases h
  · cases h
end
end Go.Vz

/-
  V's MEMORY: what new blocks, stores and appends do to the relation.
-/
set_option linter.unusedVariables false
set_option linter.unusedSimpArgs false
namespace Go.Vz
open Go Go.RowKit
theorem setCells_get : ∀ (xs : List AV) (t : Tr AV) (k j : Nat), (setCells t k xs).get j = if k ≤ j ∧ j < k + xs.length then xs[j - k]? else t.get j
  | [], t, k, j => by simp only [setCells, List.length_nil]; rw [if_neg (by omega)]
  | x :: xs, t, k, j => by
    simp only [setCells, setCells_get xs, Tr.get_set, List.length_cons]
    by_cases h1 : k + 1 ≤ j ∧ j < k + 1 + xs.length
    · rw [if_pos h1, if_pos (by omega), show j - k = (j - (k + 1)) + 1 by omega]; simp
    · rw [if_neg h1]
      by_cases h2 : j = k
      · subst h2; rw [if_pos rfl, if_pos (by omega)]; simp
      · rw [if_neg h2, if_neg (by omega)]
theorem Win.cell_iff {W : Win} {k : Nat} {x : AV} : W.cell k = some x ↔ W.lo ≤ k ∧ k < W.hi ∧ W.cells.get k = some x := by
  unfold Win.cell
  cases hb : Nat.ble W.lo k && Nat.ble (k + 1) W.hi with
  | false =>
    simp only [cond_false]
    constructor
    · intro h; cases h
    · rintro ⟨h1, h2, h3⟩
      have : (Nat.ble W.lo k && Nat.ble (k + 1) W.hi) = true := by rw [Bool.and_eq_true_iff]; exact ⟨Nat.ble_eq_true_of_le h1, Nat.ble_eq_true_of_le h2⟩
      rw [hb] at this; cases this
  | true =>
    simp only [cond_true]
    rw [Bool.and_eq_true_iff] at hb
    exact ⟨fun h => ⟨Nat.le_of_ble_eq_true hb.1, Nat.le_of_ble_eq_true hb.2, h⟩, fun h => h.2.2⟩
section
variable {w0 : World} {base : Nat} {g g' : Map} {P : Program} {m m' : Mem} {w w' : World}
theorem ORel.keep {v : Nat} {p : Pl} {o : Ob} (h : ORel w0 base g m w v p o) (hle : g.le g') (hh : w'.heap[p.b]? = w.heap[p.b]?) (hc : ∀ W, o = .win W → m'.cls.get W.cls = m.cls.get W.cls) : ORel w0 base g' m' w' v p o := by
  cases o with
  | win W =>
    obtain ⟨cells, e, fr, c, h1, h2, h3, h4, hb, h5⟩ := h
    exact ⟨cells, e, fr, c, by rw [hh]; exact h1, h2, by rw [hc W rfl]; exact h3, h4, hb, fun ho => ⟨(h5 ho).1, fun k x hx => let ⟨q1, o, u, q2, q3, q4⟩ := (h5 ho).2 k x hx; ⟨q1, o, u, q2, q3, q4.mono hle⟩⟩⟩
  | map es clock =>
    obtain ⟨hd, es', h1, h2⟩ := h
    exact ⟨hd, es', by rw [hh]; exact h1, h2.mono hle⟩
  | siter s pos =>
    obtain ⟨hd, s', h1, h2⟩ := h
    exact ⟨hd, s', h1, by rw [hh]; exact h2⟩
  | miter q since seen last =>
    obtain ⟨hd, q', h1, h2⟩ := h
    refine ⟨hd, q', ?_, by rw [hh]; exact h2⟩
    cases q with
    | none => exact h1
    | some r => obtain ⟨pr, e1, e2⟩ := h1; exact ⟨pr, hle _ _ e1, e2⟩
theorem ORel.stale {v : Nat} {p : Pl} {W : Win} {c c' : Cl} (h : ORel w0 base g m w v p (.win W)) (hcl : m.cls.get W.cls = some c) (hc' : m'.cls.get W.cls = some c') (hfro : c'.fro = c.fro) (hno : ¬ Owns c' v)
    (hh : ∀ cells e fr, w.heap[p.b]? = some (.cells cells e fr) → ∃ cells', w'.heap[p.b]? = some (.cells cells' e fr) ∧ cells'.size = cells.size) : ORel w0 base g' m' w' v p (.win W) := by
  obtain ⟨cells, e, fr, c0, h1, h2, h3, h4, hb, h5⟩ := h
  rw [hcl] at h3
  cases h3
  obtain ⟨cells', h6, h7⟩ := hh _ _ _ h1
  exact ⟨cells', e, fr, c', h6, by rw [h7]; exact h2, hc', by rw [hfro]; exact h4, hb, fun ho => absurd ho hno⟩

theorem Rel.drew (R : Rel w0 base g m w) : Rel w0 base g m w.drew :=
  ⟨R.below.drew, R.room, R.fresh, R.clss, R.pl, fun v o h => let ⟨p, h1, h2⟩ := R.obj v o h; ⟨p, h1, h2.keep (Map.le_refl g) rfl (fun _ _ => rfl)⟩, R.sep⟩

/-- the map with one virtual block more -/
def Map.add (g : Map) (v : Nat) (p : Pl) : Map := fun u => if u = v then some p else g u
theorem Map.add_same (g : Map) (v : Nat) (p : Pl) : (g.add v p) v = some p := by simp [Map.add]
theorem Map.add_ne (g : Map) {v u : Nat} (p : Pl) (h : u ≠ v) : (g.add v p) u = g u := by simp [Map.add, h]
theorem Map.le_add {g : Map} {v : Nat} (p : Pl) (h : g v = none) : g.le (g.add v p) := fun u q hq => by
  have : u ≠ v := fun e => by rw [e, h] at hq; cases hq
  rw [Map.add_ne g p this]; exact hq
theorem size_alloc (w : World) (o : Obj) : (w.alloc o).heap.size = w.heap.size + 1 := Array.size_push _
theorem heap_alloc (w : World) (o : Obj) : (w.alloc o).heap[w.heap.size]? = some o := heap_alloc_new w o
theorem heap_alloc_lt (w : World) (o : Obj) {b : Nat} (h : b < w.heap.size) : (w.alloc o).heap[b]? = w.heap[b]? := Below.heap_alloc w o b h

/-- a new object in a new block, with a class of its own -/
theorem Rel.newOb (R : Rel w0 base g m w) (o : Ob) (obj : Obj) (c : Cl) (n : Nat) (hcls : ∀ W, o = .win W → W.cls = m.nxt)
    (ho : ∀ g' m' w', g.le g' → m'.cls.get m.nxt = some c → w'.heap[w.heap.size]? = some obj → g' m.nxt = some ⟨w.heap.size, 0, n⟩ → ORel w0 base g' m' w' m.nxt ⟨w.heap.size, 0, n⟩ o) :
    g.le (g.add m.nxt ⟨w.heap.size, 0, n⟩) ∧ Rel w0 base (g.add m.nxt ⟨w.heap.size, 0, n⟩) { obs := m.obs.set m.nxt o, cls := m.cls.set m.nxt c, nxt := m.nxt + 1 } (w.alloc obj) := by
  have hg0 : g m.nxt = none := (R.fresh m.nxt (Nat.le_refl _)).2
  have hle := Map.le_add (g := g) ⟨w.heap.size, 0, n⟩ hg0
  refine ⟨hle, R.below.alloc R.nb obj, R.room, fun v hv => ?_, fun v hv => ?_, fun v p hp => ?_, fun v o' hv => ?_, fun v u p q hp hq hb => ?_⟩
  · have hv' : m.nxt + 1 ≤ v := hv
    have h1 := R.fresh v (by omega)
    exact ⟨by rw [Tr.get_set_ne _ _ (by omega)]; exact h1.1, by rw [Map.add_ne _ _ (by omega)]; exact h1.2⟩
  · have hv' : m.nxt + 1 ≤ v := hv
    show (m.cls.set m.nxt c).get v = none
    rw [Tr.get_set_ne _ _ (by omega)]; exact R.clss v (by omega)
  · by_cases e : v = m.nxt
    · subst e
      rw [Map.add_same] at hp; cases hp
      exact ⟨R.nb, by rw [size_alloc]; exact Nat.lt_succ_self _, o, Tr.get_set_same _ _ _⟩
    · rw [Map.add_ne _ _ e] at hp
      obtain ⟨h1, h2, o', h3⟩ := R.pl v p hp
      exact ⟨h1, by rw [size_alloc]; omega, o', by rw [Tr.get_set_ne _ _ e]; exact h3⟩
  · by_cases e : v = m.nxt
    · subst e
      rw [Tr.get_set_same] at hv; cases hv
      exact ⟨_, Map.add_same _ _ _, ho _ _ _ hle (Tr.get_set_same _ _ _) (heap_alloc w obj) (Map.add_same _ _ _)⟩
    · rw [Tr.get_set_ne _ _ e] at hv
      obtain ⟨p, h1, h2⟩ := R.obj v o' hv
      refine ⟨p, by rw [Map.add_ne _ _ e]; exact h1, h2.keep hle (heap_alloc_lt w obj (R.pl v p h1).2.1) (fun W hW => ?_)⟩
      subst hW
      obtain ⟨_, _, _, c', _, _, h3, _⟩ := h2
      show (m.cls.set m.nxt c).get W.cls = _
      rw [Tr.get_set_ne]
      intro hcon
      rw [hcon, R.clss m.nxt (Nat.le_refl _)] at h3
      cases h3
  · by_cases e : v = m.nxt
    · by_cases e' : u = m.nxt
      · exact .inl (by rw [e, e'])
      · subst e
        rw [Map.add_same] at hp; cases hp
        rw [Map.add_ne _ _ e'] at hq
        have := (R.pl u q hq).2.1
        simp only at hb
        omega
    · rw [Map.add_ne _ _ e] at hp
      by_cases e' : u = m.nxt
      · subst e'
        rw [Map.add_same] at hq; cases hq
        have := (R.pl v p hp).2.1
        simp only at hb
        omega
      · rw [Map.add_ne _ _ e'] at hq
        rcases R.sep v u p q hp hq hb with h1 | ⟨V, U, h1, h2, h3⟩
        · exact .inl h1
        · exact .inr ⟨V, U, by rw [Tr.get_set_ne _ _ e]; exact h1, by rw [Tr.get_set_ne _ _ e']; exact h2, h3⟩
/-- a new block of cells -/
theorem Rel.fresh' (R : Rel w0 base g m w) (ty : Option TypeId) (xs : List AV) (us : Array Value) (e : TypeId) (hty : ∀ t, ty = some t → e = t) (fr : Nat × Nat) (fro : Bool) (hfr : fro = false → fr = (0, 0)) (hx : allCells xs = true) (hr : VRels w0 base g xs (us.toList.take xs.length)) :
    g.le (g.add m.nxt ⟨w.heap.size, 0, us.size⟩) ∧ Rel w0 base (g.add m.nxt ⟨w.heap.size, 0, us.size⟩)
      { obs := m.obs.set m.nxt (.win ⟨setCells .nil 0 xs, 0, xs.length, m.nxt, ty⟩), cls := m.cls.set m.nxt ⟨xs.length, none, 0, fro⟩, nxt := m.nxt + 1 } (w.alloc (.cells us e fr)) := by
  refine R.newOb _ _ _ us.size (fun W hW => by cases hW; rfl) (fun g' m' w' hle hc hh hg => ?_)
  have hlen : xs.length ≤ us.size := by
    have := hr.length
    rw [List.length_take, Array.length_toList (xs := us)] at this
    omega
  refine ⟨us, e, fr, _, hh, rfl, hc, hfr, ⟨by simpa using hlen, fun t ht => ⟨hty t ht, rfl⟩⟩, fun ho => ⟨fun _ => Nat.le_refl _, fun k x hk => ?_⟩⟩
  obtain ⟨h1, h2, h3⟩ := Win.cell_iff.1 hk
  simp only at h1 h2 h3
  rw [setCells_get, if_pos (by omega)] at h3
  simp only [Nat.sub_zero] at h3
  obtain ⟨u, hu, hrel⟩ := hr.get h3
  refine ⟨allCells_mem hx x (List.mem_of_getElem? h3), k, u, rfl, ?_, hrel.mono hle⟩
  rw [List.getElem?_take] at hu
  by_cases hk : k < xs.length
  · rw [if_pos hk] at hu; simpa using hu
  · rw [if_neg hk] at hu; cases hu
theorem Rel.fresh1 (R : Rel w0 base g m w) (xs : List AV) (us : Array Value) (e : TypeId) (hx : allCells xs = true) (hr : VRels w0 base g xs us.toList) :
    g.le (g.add m.nxt ⟨w.heap.size, 0, us.size⟩) ∧ Rel w0 base (g.add m.nxt ⟨w.heap.size, 0, us.size⟩) (m.fresh (some e) xs) (w.alloc (.cells us e (0, 0))) :=
  R.fresh' (some e) xs us e (fun t h => Option.some.inj h) (0, 0) false (fun _ => rfl) hx (by rw [hr.length, List.take_length]; exact hr)

/-! ### One block written -/
/-- world w' is world w but for block b -/
structure ButBlock (w w' : World) (b : Nat) : Prop where
  os : w'.os = w.os
  tape : w'.tape = w.tape
  output : w'.output = w.output
  size : w'.heap.size = w.heap.size
  other : ∀ k, k ≠ b → w'.heap[k]? = w.heap[k]?
theorem ButBlock.below {b : Nat} (h : ButBlock w w' b) {B : Nat} (hB : B ≤ b) : Below B w w' := ⟨h.os, h.tape, h.output, by rw [h.size]; exact Nat.le_refl _, fun k hk => h.other k (by omega)⟩
theorem butBlock_setRow (w : World) (b : Nat) (c : Array Value) : ButBlock w (w.setRow b c) b := ⟨rfl, rfl, rfl, by simp, fun k hk => setRow_other w b k c hk⟩
theorem butBlock_set (w : World) (b : Nat) (o : Obj) : ButBlock w { w with heap := w.heap.setIfInBounds b o } b :=
  ⟨rfl, rfl, rfl, by simp, fun k hk => by simp [Array.getElem?_setIfInBounds_ne (Ne.symm hk)]⟩

/-- cells of a window written -/
theorem Rel.store (R : Rel w0 base g m w) {v k : Nat} {xs : List AV} {us : List Value} {ad : Addr} {m' : Mem} (h : m.store (.ptr v k) xs = some m') (ha : VRel w0 base g (.ptr v k) (.pointer (some ad))) (hr : VRels w0 base g xs us) :
    ∃ w', (∀ P, (storeCells ad us).run P w = .ok () w') ∧ Rel w0 base g m' w' := by
  simp only [Mem.store] at h
  cases hl : m.live v with
  | none => simp [hl] at h
  | some Wc =>
    obtain ⟨W, c⟩ := Wc
    simp only [hl] at h
    cases hb : !c.fro && Nat.ble W.lo k && Nat.ble (k + xs.length) W.hi && allCells xs with
    | false => simp [hb] at h
    | true =>
      simp only [hb, cond_true, Option.some.injEq] at h
      subst h
      simp only [Bool.and_eq_true, Bool.not_eq_true'] at hb
      obtain ⟨⟨⟨hfro, hlo⟩, hhi⟩, hcx⟩ := hb
      have hlo := Nat.le_of_ble_eq_true hlo
      have hhi := Nat.le_of_ble_eq_true hhi
      obtain ⟨h1, h2, h3⟩ := Mem.live_spec hl
      obtain ⟨p, hp, cells, e, fr, c0, hheap, hsz, hc0, hfr, hhb, hown⟩ := R.obj v _ h1
      have hhb1 := hhb.1
      rw [h2] at hc0; cases hc0
      have hfr0 := hfr hfro
      subst hfr0
      cases ha with | ptr _ _ o p' hp' ho =>
      rw [hp] at hp'; cases hp'
      have hlen : us.length = xs.length := hr.length.symm
      have hroom : o + 0 + us.length ≤ cells.size := by omega
      refine ⟨w.setRow p.b (cells.toList.take (o + 0) ++ us ++ cells.toList.drop (o + 0 + us.length)).toArray, fun P => run_storeCells_at P p.b o e us 0 cells w hheap hroom (hr.oneCell hcx), ?_⟩
      have hne : ∀ c' : Cl, c' = { c with own := some v, st := c.st + 1 } → ∀ u, u ≠ v → ¬ Owns c' u := fun c' e u hu ho => by
        subst e
        rcases ho with h | h
        · cases h
        · simp only [Option.some.injEq] at h; exact hu h.symm
      have hbb := butBlock_setRow w p.b (cells.toList.take (o + 0) ++ us ++ cells.toList.drop (o + 0 + us.length)).toArray
      have hnew : (w.setRow p.b (cells.toList.take (o + 0) ++ us ++ cells.toList.drop (o + 0 + us.length)).toArray).heap[p.b]? = some (.cells (cells.toList.take (o + 0) ++ us ++ cells.toList.drop (o + 0 + us.length)).toArray e (0, 0)) := setRow_heap w p.b cells _ e _ hheap
      generalize hw' : w.setRow p.b (cells.toList.take (o + 0) ++ us ++ cells.toList.drop (o + 0 + us.length)).toArray = w' at hbb hnew ⊢
      have hsize : (cells.toList.take (o + 0) ++ us ++ cells.toList.drop (o + 0 + us.length)).toArray.size = cells.size := by
        simp only [List.size_toArray, List.length_append, List.length_take, List.length_drop, Array.length_toList]
        omega
      have hpl := R.pl v p hp
      refine ⟨R.below.trans (hbb.below hpl.1), R.room, fun u hu => ?_, fun u hu => ?_, fun u q hq => ?_, fun u o' hu => ?_, fun u1 u2 q1 q2 hq1 hq2 hb => ?_⟩
      · have := R.fresh u hu
        refine ⟨?_, this.2⟩
        show (m.obs.set v _).get u = none
        rw [Tr.get_set_ne _ _ (fun e => by rw [e, h1] at this; cases this.1)]
        exact this.1
      · have := R.clss u hu
        show (m.cls.set W.cls _).get u = none
        rw [Tr.get_set_ne _ _ (fun e => by rw [e, h2] at this; cases this)]
        exact this
      · obtain ⟨a1, a2, o', a3⟩ := R.pl u q hq
        refine ⟨a1, by rw [hbb.size]; exact a2, ?_⟩
        by_cases e : u = v
        · subst e; exact ⟨_, Tr.get_set_same _ _ _⟩
        · exact ⟨o', by show (m.obs.set v _).get u = _; rw [Tr.get_set_ne _ _ e]; exact a3⟩
      · by_cases e : u = v
        · subst e
          have hu' : (m.obs.set u (.win { W with cells := setCells W.cells k xs })).get u = some o' := hu
          rw [Tr.get_set_same] at hu'
          cases hu'
          refine ⟨p, hp, _, _, _, _, hnew, by rw [hsize]; exact hsz, Tr.get_set_same _ _ _, fun _ => rfl, hhb, fun _ => ⟨(fun hc => by cases hc), fun j x hx => ?_⟩⟩
          obtain ⟨b1, b2, b3⟩ := Win.cell_iff.1 hx
          simp only at b1 b2 b3
          rw [setCells_get] at b3
          by_cases hin : k ≤ j ∧ j < k + xs.length
          · rw [if_pos hin] at b3
            obtain ⟨y, hy, hry⟩ := hr.get b3
            refine ⟨allCells_mem hcx x (List.mem_of_getElem? b3), o + (j - k), y, by omega, ?_, hry⟩
            have hjk : j - k < us.length := by omega
            simp only [List.getElem?_toArray]
            rw [List.append_assoc, List.getElem?_append_right (by simp; omega), List.getElem?_append_left (by simp; omega)]
            rw [show o + (j - k) - (List.take (o + 0) cells.toList).length = j - k by simp; omega]
            exact hy
          · rw [if_neg hin] at b3
            obtain ⟨c1, oj, y, c2, c3, c4⟩ := (hown h3).2 j x (Win.cell_iff.2 ⟨b1, b2, b3⟩)
            refine ⟨c1, oj, y, c2, ?_, c4⟩
            have hoj : oj < cells.size := (Array.getElem?_eq_some_iff.1 c3).1
            have c3' : cells.toList[oj]? = some y := by simpa using c3
            simp only [List.getElem?_toArray]
            by_cases hlt : oj < o
            · rw [List.append_assoc, List.getElem?_append_left (by simp; omega), List.getElem?_take, if_pos (by omega)]
              exact c3'
            · rw [List.getElem?_append_right (by simp; omega), List.getElem?_drop]
              rw [show o + 0 + us.length + (oj - (List.take (o + 0) cells.toList ++ us).length) = oj by simp; omega]
              exact c3'
        · have hu' : (m.obs.set v (.win { W with cells := setCells W.cells k xs })).get u = some o' := hu
          rw [Tr.get_set_ne _ _ e] at hu'
          obtain ⟨q, hq, hrel⟩ := R.obj u o' hu'
          refine ⟨q, hq, ?_⟩
          by_cases hcls : ∃ U, o' = .win U ∧ U.cls = W.cls
          · obtain ⟨U, rfl, hUW⟩ := hcls
            refine ORel.stale (c := c) (c' := { c with own := some v, st := c.st + 1 }) hrel (by rw [hUW]; exact h2) (by rw [hUW]; exact Tr.get_set_same _ _ _) rfl (hne _ rfl u e) (fun cells2 e2 fr2 hh => ?_)
            by_cases hqb : q.b = p.b
            · rw [hqb] at hh ⊢
              rw [hheap] at hh
              cases hh
              exact ⟨_, hnew, hsize⟩
            · exact ⟨cells2, by rw [hbb.other q.b hqb]; exact hh, rfl⟩
          · refine hrel.keep (Map.le_refl g) (hbb.other q.b (fun hqb => ?_)) (fun U hU => ?_)
            · rcases R.sep u v q p hq hp hqb with e' | ⟨V1, U1, d1, d2, d3, d4⟩
              · exact e e'
              · rw [hu'] at d1
                rw [h1] at d2
                cases d1; cases d2
                exact hcls ⟨V1, rfl, d3⟩
            · subst hU
              show (m.cls.set W.cls _).get U.cls = _
              rw [Tr.get_set_ne]
              exact fun e' => hcls ⟨U, rfl, e'⟩
      · have conv : ∀ u U, m.obs.get u = some (.win U) → ∃ U', (m.obs.set v (.win { W with cells := setCells W.cells k xs })).get u = some (.win U') ∧ U'.cls = U.cls := fun u U hU => by
          by_cases e : u = v
          · subst e
            rw [h1] at hU
            cases hU
            exact ⟨_, Tr.get_set_same _ _ _, rfl⟩
          · exact ⟨U, by rw [Tr.get_set_ne _ _ e]; exact hU, rfl⟩
        rcases R.sep u1 u2 q1 q2 hq1 hq2 hb with e | ⟨V, U, d1, d2, d3, d4⟩
        · exact .inl e
        · obtain ⟨V', e1, e2⟩ := conv _ _ d1
          obtain ⟨U', e3, e4⟩ := conv _ _ d2
          exact .inr ⟨V', U', e1, e3, by rw [e2, e4]; exact d3, d4⟩
end
end Go.Vz
