/-
  V: AN ABSTRACT MACHINE OVER THE MODEL's OWN CODE. Blocks are virtual, a slice's capacity is not known (an append may stay in its block or make a new one: what V says holds either way), an order that Go leaves open is looked at operation by operation. 'VzSound' proves: what V runs to, the machine's call comes to, in every world and on every tape.
-/
import Derived.OrdersHeld
import Derived.Tactics
import Derived.Below
namespace Go.Vz
open Go

/-! ### Finite maps keyed by numbers -/
inductive Tr (α : Type) where
  | nil
  | node (l : Tr α) (v : Option α) (r : Tr α)
namespace Tr
variable {α : Type}
def get : Tr α → Nat → Option α
  | .nil, _ => none
  | .node _ v _, 0 => v
  | .node l _ r, k + 1 => bif Nat.beq (k % 2) 0 then get l (k / 2) else get r (k / 2)
def setF : Nat → Tr α → Nat → α → Tr α
  | 0, t, _, _ => t
  | _ + 1, .nil, 0, a => .node .nil (some a) .nil
  | _ + 1, .node l _ r, 0, a => .node l (some a) r
  | f + 1, .nil, k + 1, a => bif Nat.beq (k % 2) 0 then .node (setF f .nil (k / 2) a) none .nil else .node .nil none (setF f .nil (k / 2) a)
  | f + 1, .node l v r, k + 1, a => bif Nat.beq (k % 2) 0 then .node (setF f l (k / 2) a) v r else .node l v (setF f r (k / 2) a)
def set (t : Tr α) (k : Nat) (a : α) : Tr α := setF (k + 1) t k a
end Tr

/-! ### Values -/
inductive AV where
  | bool (b : Bool)
  | int (k : IntKind) (n : Int)
  | str (s : List Nat)
  | ptr (v k : Nat)
  | nilptr
  | sl (v k len sz : Nat)
  | nilsl
  | map (r : Nat)
  | nilmap
  | fn (f : Fn) (first cap : List AV)
  | nilfn
  | iface (t : TypeId) (x : AV)
  | niliface
  | agg (cs : List AV)
  | tup (cs : List AV)
  /-- a slice of what came in, read alone: its cells -/
  | ro (cs : List AV) (len sz : Nat)
  /-- an address in what came in: the cells from there on -/
  | rp (cs : List AV)
  deriving Inhabited

def AV.isCell : AV → Bool
  | .agg _ | .tup _ => false
  | _ => true
def AV.cells : AV → List AV
  | .agg cs => cs
  | x => [x]
def natOf (s : ByteArray) : List Nat := s.data.toList.map (·.toNat)
def ofCell : Value → Option AV
  | .bool b => some (.bool b)
  | .int k n => some (.int k n)
  | .string s => some (.str (natOf s))
  | .pointer none => some .nilptr
  | .slice none 0 0 => some .nilsl
  | .map none => some .nilmap
  | .nilFunc => some .nilfn
  | .nilIface => some .niliface
  | _ => none
def ofCells : List Value → Option (List AV)
  | [] => some []
  | v :: vs => match ofCell v, ofCells vs with
    | some x, some xs => some (x :: xs)
    | _, _ => none
def ofV : Value → Option AV
  | .agg cs => (ofCells cs.toList).map .agg
  | v => ofCell v

/-! ### Memory -/
structure Win where
  cells : Tr AV
  lo : Nat
  hi : Nat
  cls : Nat
  /-- its block's type, if it is known (the block begins where the window does) -/
  ty : Option TypeId
structure Cl where
  hw : Nat
  own : Option Nat
  st : Nat
  fro : Bool
inductive Ob where
  | win (w : Win)
  | map (es : List (AV × AV × Nat)) (clock : Nat)
  | siter (s : List Nat) (pos : Nat)
  | miter (m : Option Nat) (since : Nat) (seen : List Nat) (last : Nat)
structure Mem where
  obs : Tr Ob
  cls : Tr Cl
  nxt : Nat
def Mem.empty : Mem := ⟨.nil, .nil, 0⟩

def Win.cell (w : Win) (k : Nat) : Option AV := bif Nat.ble w.lo k && Nat.ble (k + 1) w.hi then w.cells.get k else none
def Win.read (w : Win) : Nat → Nat → Option (List AV)
  | _, 0 => some []
  | k, n + 1 => match w.cell k with
    | none => none
    | some x => match w.read (k + 1) n with
      | none => none
      | some l => some (x :: l)
def setCells : Tr AV → Nat → List AV → Tr AV
  | t, _, [] => t
  | t, k, x :: xs => setCells (t.set k x) (k + 1) xs
def allCells : List AV → Bool
  | [] => true
  | x :: xs => x.isCell && allCells xs

/-- the window of a virtual block, if it may be read -/
def Mem.live (m : Mem) (v : Nat) : Option (Win × Cl) :=
  match m.obs.get v with
  | some (.win w) => match m.cls.get w.cls with
    | some c => match c.own with
      | none => some (w, c)
      | some u => bif Nat.beq u v then some (w, c) else none
    | none => none
  | _ => none
def takeN : Nat → List AV → Option (List AV)
  | 0, _ => some []
  | _ + 1, [] => none
  | n + 1, x :: xs => (takeN n xs).map (x :: ·)
/-- n cells at an address -/
def Mem.load (m : Mem) (a : AV) (n : Nat) : Option (List AV) :=
  match a with
  | .ptr v k => match m.live v with
    | some (w, _) => w.read k n
    | none => none
  | .rp cs => takeN n cs
  | _ => none
def Mem.bump (m : Mem) (c : Nat) (f : Cl → Cl) : Mem :=
  match m.cls.get c with
  | some x => { m with cls := m.cls.set c { f x with st := x.st + 1 } }
  | none => m
def Mem.store (m : Mem) (a : AV) (xs : List AV) : Option Mem :=
  match a with
  | .ptr v k => match m.live v with
    | some (w, c) =>
      bif !c.fro && Nat.ble w.lo k && Nat.ble (k + xs.length) w.hi && allCells xs then
        some { m with obs := m.obs.set v (.win { w with cells := setCells w.cells k xs }), cls := m.cls.set w.cls { c with own := some v, st := c.st + 1 } }
      else none
    | none => none
  | _ => none
/-- a new block -/
def Mem.fresh (m : Mem) (t : Option TypeId) (xs : List AV) : Mem :=
  { obs := m.obs.set m.nxt (.win ⟨setCells .nil 0 xs, 0, xs.length, m.nxt, t⟩), cls := m.cls.set m.nxt ⟨xs.length, none, 0, false⟩, nxt := m.nxt + 1 }
/-- one that is never written -/
def Mem.freshFro (m : Mem) (xs : List AV) : Mem :=
  { obs := m.obs.set m.nxt (.win ⟨setCells .nil 0 xs, 0, xs.length, m.nxt, none⟩), cls := m.cls.set m.nxt ⟨xs.length, none, 0, true⟩, nxt := m.nxt + 1 }
def Mem.freshOb (m : Mem) (o : Ob) : Mem :=
  { obs := m.obs.set m.nxt o, cls := m.cls.set m.nxt ⟨0, none, 0, false⟩, nxt := m.nxt + 1 }
def Mem.setOb (m : Mem) (r : Nat) (o : Ob) : Mem := { (m.bump r id) with obs := m.obs.set r o }

/-! ### What a type says -/
def sizeT (P : Program) (t : TypeId) : Option Nat := (P.info? t).map (·.size)
def bytesT (P : Program) (t : TypeId) : Option Nat := (P.info? t).map (·.bytes)
def aggT (P : Program) (t : TypeId) : Option Bool := (P.underlying t).map fun | .struct _ | .array _ _ => true | _ => false
def zeroT (P : Program) (t : TypeId) : Option AV := match P.info? t with
  | some i => match i.zero with
    | some z => ofV z
    | none => none
  | none => none
def partA (P : Program) (t : TypeId) (cs : List AV) (off : Nat) : Option AV :=
  match aggT P t, sizeT P t with
  | some true, some n => (takeN n (cs.drop off)).map .agg
  | some false, some _ => cs[off]?
  | _, _ => none
def ofCellsT (P : Program) (t : TypeId) (cs : List AV) : Option AV :=
  match aggT P t with
  | some true => some (.agg cs)
  | some false => match cs with | [x] => some x | _ => none
  | none => none

/-! ### Operations that look at no memory -/
def bin (op : BinOp) (k : IntKind) (a b : Int) : Option AV :=
  let back (r : BitVec k.bits) : Option AV := some (.int k (k.wrap r.toNat))
  match op with
  | .add => some (.int k (k.wrap (a + b)))
  | .sub => some (.int k (k.wrap (a - b)))
  | .mul => some (.int k (k.wrap (a * b)))
  | .quo => if b = 0 then none else some (.int k (k.wrap (a.tdiv b)))
  | .rem => if b = 0 then none else some (.int k (a.tmod b))
  | .and => back (BitVec.ofInt k.bits a &&& BitVec.ofInt k.bits b)
  | .or => back (BitVec.ofInt k.bits a ||| BitVec.ofInt k.bits b)
  | .xor => back (BitVec.ofInt k.bits a ^^^ BitVec.ofInt k.bits b)
  | .andNot => back (BitVec.ofInt k.bits a &&& ~~~(BitVec.ofInt k.bits b))
  | .eql => some (.bool (a == b))
  | .neq => some (.bool (a != b))
  | .lss => some (.bool (a < b))
  | .leq => some (.bool (a ≤ b))
  | .gtr => some (.bool (a > b))
  | .geq => some (.bool (a ≥ b))
  | _ => none
def shiftA (op : BinOp) (k : IntKind) (x y : Int) : Option AV :=
  if y < 0 then none else
    let n := min y.toNat k.bits
    match op with
    | .shl => some (.int k (k.wrap (x * 2 ^ n)))
    | .shr => some (.int k (x.fdiv (2 ^ n)))
    | _ => none
def eqNats : List Nat → List Nat → Bool
  | [], [] => true
  | a :: x, b :: y => Nat.beq a b && eqNats x y
  | _, _ => false
def ltNats : List Nat → List Nat → Bool
  | _, [] => false
  | [], _ :: _ => true
  | a :: x, b :: y => Nat.ble (a + 1) b || (Nat.beq a b && ltNats x y)
def binS (op : BinOp) (a b : List Nat) : Option AV :=
  match op with
  | .add => bif Nat.ble (a.length + b.length) 9223372036854775807 then some (.str (a ++ b)) else none
  | .eql => some (.bool (eqNats a b))
  | .neq => some (.bool (!eqNats a b))
  | .lss => some (.bool (ltNats a b))
  | .leq => some (.bool (ltNats a b || eqNats a b))
  | .gtr => some (.bool (!(ltNats a b || eqNats a b)))
  | .geq => some (.bool (!ltNats a b))
  | _ => none
/-- plain kinds -/
def scalarT (P : Program) (t : TypeId) : Bool :=
  match P.underlying t with
  | some (.int _) | some .string | some .bool => true
  | _ => false
def eqScalar (P : Program) (t : TypeId) (x y : AV) : Option Bool :=
  match P.underlying t, x, y with
  | some (.int _), .int k a, .int k' b => if k = k' then some (a == b) else none
  | some .string, .str a, .str b => some (eqNats a b)
  | some .bool, .bool a, .bool b => some (a == b)
  | _, _, _ => none
/-- a struct of plain fields, one cell each -/
def flatF (P : Program) : List Field → Nat → Bool
  | [], _ => true
  | f :: fs, i => f.name != "_" && Nat.beq f.offset i && scalarT P f.type && flatF P fs (i + 1)
def flatS (P : Program) (t : TypeId) : Option (List Field) :=
  match P.underlying t with
  | some (.struct fs) => bif flatF P fs.toList 0 && !(P.stoodInHeld t) then some fs.toList else none
  | _ => none
def eqFieldsA (P : Program) : List Field → List AV → List AV → Option Bool
  | [], [], [] => some true
  | f :: fs, x :: xs, y :: ys => match eqScalar P f.type x y, eqFieldsA P fs xs ys with
    | some a, some b => some (a && b)
    | _, _ => none
  | _, _, _ => none
def eqA (P : Program) (t : TypeId) (x y : AV) : Option Bool :=
  match P.underlying t, x, y with
  | some .bool, .bool a, .bool b => some (a == b)
  | some (.pointer _), .nilptr, .nilptr => some true
  | some (.pointer _), .nilptr, .ptr _ _ | some (.pointer _), .ptr _ _, .nilptr => some false
  | some (.pointer _), .nilptr, .rp _ | some (.pointer _), .rp _, .nilptr => some false
  | some (.pointer e), .ptr v k, .ptr u j => match sizeT P e with
    | some (_ + 1) => bif Nat.beq v u then some (Nat.beq k j) else none
    | _ => none
  | some (.slice _), .nilsl, .nilsl => some true
  | some (.slice _), .sl .., .nilsl | some (.slice _), .ro _ (_ + 1) _, .nilsl | some (.slice _), .nilsl, .sl .. | some (.slice _), .nilsl, .ro _ (_ + 1) _ => some false
  | some (.map _ _), .nilmap, .nilmap => some true
  | some (.map _ _), .map _, .nilmap | some (.map _ _), .nilmap, .map _ => some false
  | some (.func _ _ _), .nilfn, .nilfn => some true
  | some (.func _ _ _), .fn .., .nilfn | some (.func _ _ _), .nilfn, .fn .. => some false
  | some (.interface _), .iface _ _, .niliface | some (.interface _), .niliface, .iface _ _ => some false
  | some (.struct _), .agg xs, .agg ys => match flatS P t with
    | some fs => bif P.eqGuardType P.depth t then none else eqFieldsA P fs xs ys
    | none => none
  | _, _, _ => none
def isLitNil : Operand → Bool
  | .const .nilIface => true
  | _ => false
def binA (P : Program) (op : BinOp) (t : TypeId) (ox oy : Operand) (x y : AV) : Option AV :=
  match x, y with
  | .int k a, .int k' b => match op with
    | .shl | .shr => shiftA op k a b
    | _ => if k = k' then bin op k a b else none
  | .str a, .str b => binS op a b
  | .niliface, .niliface => match P.underlying t with
    | some (.interface _) => bif isLitNil ox || isLitNil oy then (match op with | .eql => some (.bool true) | .neq => some (.bool false) | _ => none) else none
    | _ => none
  | _, _ => match op with
    | .eql => (eqA P t x y).map .bool
    | .neq => (eqA P t x y).map fun b => .bool (!b)
    | _ => none
def unA (op : UnOp) (x : AV) : Option AV :=
  match op, x with
  | .neg, .int k n => some (.int k (k.wrap (0 - n)))
  | .xor, .int k n => bin .xor k (if k.signed then -1 else k.max) n
  | .not, .bool b => some (.bool !b)
  | _, _ => none
def convA (P : Program) (src dst : TypeId) (x : AV) : Option AV :=
  match P.underlying src, P.underlying dst, x with
  | some _, some (.int k), .int _ n => some (.int k (k.wrap n))
  | some _, some .string, .str s => some (.str s)
  | _, _, _ => none
def intOf? : Option AV → Option Int
  | some (.int _ n) => some n
  | _ => none
def natOf? : Option AV → Option Nat
  | some (.int _ (.ofNat n)) => some n
  | _ => none
/-- the two bounds of a slice expression -/
def bounds (ρ : Operand → Option AV) (lo hi : Option Operand) (len : Nat) : Option (Nat × Nat) :=
  match (match hi with | none => some len | some h => natOf? (ρ h)) with
  | none => none
  | some h => match (match lo with | none => some 0 | some l => natOf? (ρ l)) with
    | none => none
    | some l => bif Nat.ble l h && Nat.ble h len then some (l, h) else none
def operands (ρ : Operand → Option AV) : List Operand → Option (List AV)
  | [] => some []
  | x :: xs => match ρ x, operands ρ xs with
    | some a, some as => some (a :: as)
    | _, _ => none
def putCells : List AV → Nat → List AV → Option (List AV)
  | cs, 0, [] => some cs
  | _ :: cs, 0, x :: xs => (putCells cs 0 xs).map (x :: ·)
  | c :: cs, n + 1, xs => (putCells cs n xs).map (c :: ·)
  | [], _, _ => none
/-- parts laid into zero cells: at each place its offset and its size -/
def fillA (place : Nat → Option (Nat × Nat)) (cs : List AV) : List (Nat × AV) → Option (List AV)
  | [] => some cs
  | (i, x) :: rest => match place i with
    | none => none
    | some (off, size) => bif Nat.beq x.cells.length size then (match putCells cs off x.cells with | some cs => fillA place cs rest | none => none) else none
def partsA (ρ : Operand → Option AV) : List (Nat × Operand) → Option (List (Nat × AV))
  | [] => some []
  | (i, x) :: rest => match ρ x, partsA ρ rest with
    | some a, some l => some ((i, a) :: l)
    | _, _ => none
def minA : List AV → Option AV
  | [.int k x, .int _ y] => some (.int k (if y < x then y else x))
  | _ => none
def maxA : List AV → Option AV
  | [.int k x, .int _ y] => some (.int k (if y > x then y else x))
  | _ => none
def lenA (P : Program) (t : TypeId) (x : AV) : Option AV :=
  match P.underlying t, x with
  | some .string, .str s => some (.int .i64 s.length)
  | some (.slice _), .sl _ _ n _ => some (.int .i64 n)
  | some (.slice _), .ro _ n _ => some (.int .i64 n)
  | some (.slice _), .nilsl => some (.int .i64 0)
  | some (.array n _), _ => some (.int .i64 n)
  | some (.map _ _), .nilmap => some (.int .i64 0)
  | _, _ => none
def sliceA (P : Program) (ρ : Operand → Option AV) (t : TypeId) (x : AV) (lo hi : Option Operand) : Option AV :=
  match P.underlying t, x with
  | some .string, .str s => match bounds ρ lo hi s.length with
    | some (l, h) => some (.str ((s.take h).drop l))
    | none => none
  | some (.slice e), .sl v k n sz => match sizeT P e, bounds ρ lo hi n with
    | some z, some (l, h) => bif Nat.beq z sz then some (.sl v (k + l * sz) (h - l) sz) else none
    | _, _ => none
  | some (.slice e), .ro cs n sz => match sizeT P e, bounds ρ lo hi n with
    | some z, some (l, h) => bif Nat.beq z sz then some (.ro ((cs.take (h * sz)).drop (l * sz)) (h - l) sz) else none
    | _, _ => none
  | some (.slice e), .nilsl => match sizeT P e, bounds ρ lo hi 0 with
    | some _, some _ => some .nilsl
    | _, _ => none
  | some (.array n e), .rp cs => match sizeT P e, bounds ρ lo hi n with
    | some z, some (l, h) => bif Nat.ble (n * z) cs.length then some (.ro ((cs.take (h * z)).drop (l * z)) (h - l) z) else none
    | _, _ => none
  | _, _ => none

def pureA (P : Program) (ρ : Operand → Option AV) (o : Op) : Option AV :=
  match o with
  | .move x | .assign x => ρ x
  | .pick c a b => match ρ c with
    | some (.bool true) => ρ a
    | some (.bool false) => ρ b
    | _ => none
  | .nilCheck x => match ρ x with
    | some (.ptr v k) => some (.ptr v k)
    | some (.rp cs) => some (.rp cs)
    | some (.fn (.func f) a b) => some (.fn (.func f) a b)
    | some (.iface t x) => some (.iface t x)
    | _ => none
  | .binOp op t x y _ => match ρ x, ρ y with
    | some a, some b => binA P op t x y a b
    | _, _ => none
  | .unOp op _ x => match ρ x with
    | some a => unA op a
    | none => none
  | .convert s d x => match ρ x with
    | some a => convA P s d a
    | none => none
  | .makeInterface t x => match P.underlying t with
    | some (.interface _) => none
    | some _ => (ρ x).map (.iface t ·)
    | none => none
  | .makeFunc fn first cap => match operands ρ first.toList, operands ρ cap.toList with
    | some a, some b => some (.fn fn a b)
    | _, _ => none
  | .extract t i => match ρ t with
    | some (.tup l) => l[i]?
    | _ => none
  | .field t x i => match P.underlying t, ρ x with
    | some (.struct fs), some (.agg cs) => match fs[i]? with
      | some f => partA P f.type cs f.offset
      | none => none
    | _, _ => none
  | .index t x i => match P.underlying t, ρ x, natOf? (ρ i) with
    | some .string, some (.str s), some n => match s[n]? with
      | some b => some (.int .u8 (b : Nat))
      | none => none
    | some (.array len e), some (.agg cs), some n => match sizeT P e with
      | some z => bif Nat.ble (n + 1) len then partA P e cs (n * z) else none
      | none => none
    | _, _, _ => none
  | .fieldAddr t x i => match P.underlying t, ρ x with
    | some (.struct fs), some a => match fs[i]? with
      | some f => match sizeT P f.type with
        | some (_ + 1) => match a with
          | .ptr v k => some (.ptr v (k + f.offset))
          | .rp cs => bif Nat.ble f.offset cs.length then some (.rp (cs.drop f.offset)) else none
          | _ => none
        | _ => none
      | none => none
    | _, _ => none
  | .indexAddr t x i => match P.underlying t, ρ x, natOf? (ρ i) with
    | some (.slice e), some (.sl v k n sz), some j => match sizeT P e with
      | some z => bif Nat.beq z sz && Nat.ble (j + 1) n then some (.ptr v (k + j * sz)) else none
      | none => none
    | some (.slice e), some (.ro cs n sz), some j => match sizeT P e with
      | some z => bif Nat.beq z sz && Nat.ble (j + 1) n && Nat.ble (j * sz) cs.length then some (.rp (cs.drop (j * sz))) else none
      | none => none
    | some (.array len e), some (.ptr v k), some j => match sizeT P e with
      | some z => bif Nat.ble (j + 1) len then some (.ptr v (k + j * z)) else none
      | none => none
    | some (.array len e), some (.rp cs), some j => match sizeT P e with
      | some z => bif Nat.ble (j + 1) len && Nat.ble (j * z) cs.length then some (.rp (cs.drop (j * z))) else none
      | none => none
    | _, _, _ => none
  | .slice t x lo hi none => match ρ x with
    | some a => sliceA P ρ t a lo hi
    | none => none
  | .build t parts => match P.underlying t, zeroT P t, partsA ρ parts.toList with
    | some (.struct fs), some z, some ps => match fs.toList.mapM (fun f => (P.info? f.type).map fun i => (f.offset, i.size)) with
      | some places => (fillA (places[·]?) z.cells ps).map .agg
      | none => none
    | some (.array _ e), some z, some ps => match sizeT P e with
      | some n => (fillA (fun i => some (i * n, n)) z.cells ps).map .agg
      | none => none
    | _, _, _ => none
  | .typeAssert x _ t ok => match P.underlying t with
    | some (.interface _) | none => none
    | some _ => match ρ x with
      | some (.iface u v) => if u = t then some (bif ok then .tup [v, .bool true] else v) else (bif ok then (zeroT P t).map fun z => .tup [z, .bool false] else none)
      | some .niliface => bif ok then (zeroT P t).map fun z => .tup [z, .bool false] else none
      | _ => none
  | .call c => match c.callee with
    | .builtin .len => match c.argTypes[0]?, operands ρ c.args.toList with
      | some t, some [x] => lenA P t x
      | _, _ => none
    | .builtin .unsafeSliceData => match operands ρ c.args.toList with
      | some [.nilsl] => some .nilptr
      | some [.sl v k (_ + 1) _] => some (.ptr v k)
      | _ => none
    | .builtin .min => match operands ρ c.args.toList with
      | some xs => minA xs
      | none => none
    | .builtin .max => match operands ρ c.args.toList with
      | some xs => maxA xs
      | none => none
    | _ => none
  | _ => none

/-! ### Operations that read memory -/
/-- keys -/
def eqKey (P : Program) (t : TypeId) (x y : AV) : Option Bool :=
  match flatS P t with
  | some fs => match x, y with
    | .agg xs, .agg ys => eqFieldsA P fs xs ys
    | _, _ => none
  | none => eqScalar P t x y
def keyT (P : Program) (t : TypeId) (x : AV) : Bool := (eqKey P t x x).isSome
def findA (P : Program) (t : TypeId) (k : AV) : List (AV × AV × Nat) → Nat → Option (Option (Nat × AV × Nat))
  | [], _ => some none
  | (k', v, b) :: es, i => match eqKey P t k k' with
    | some true => some (some (i, v, b))
    | some false => findA P t k es (i + 1)
    | none => none
def mapEs (m : Mem) (x : AV) : Option (List (AV × AV × Nat)) :=
  match x with
  | .nilmap => some []
  | .map r => match m.obs.get r with
    | some (.map es _) => some es
    | _ => none
  | _ => none
def tyIs (t : Option TypeId) (e : TypeId) : Bool := match t with | some u => Nat.beq u e | none => false
def loadA (P : Program) (ρ : Operand → Option AV) (m : Mem) (o : Op) : Option AV :=
  match o with
  | .load t x => match ρ x, sizeT P t with
    | some a, some n => match aggT P t with
      | some true => (m.load a n).map .agg
      | some false => match m.load a 1 with | some [x] => some x | _ => none
      | none => none
    | _, _ => none
  | .convert s d x => match P.underlying s, P.underlying d, ρ x with
    | some (.pointer t), some .unsafePointer, some (.ptr v k) => match sizeT P t, m.live v with
      | some (_ + 1), some (w, _) => bif Nat.ble w.lo k && Nat.ble (k + 1) w.hi then some (.ptr v k) else none
      | _, _ => none
    | some .unsafePointer, some (.pointer u), some (.ptr v k) => match sizeT P u, m.live v with
      | some (n + 1), some (w, _) => bif tyIs w.ty u && Nat.beq k w.lo && Nat.ble (k + (n + 1)) w.hi then some (.ptr v k) else none
      | _, _ => none
    | _, _, _ => none
  | .slice t x lo hi none => match P.underlying t, ρ x with
    | some (.array n e), some (.ptr v k) => match sizeT P e, bounds ρ lo hi n with
      | some (z + 1), some (l, h) => match n with
        | 0 => none
        | n + 1 => bif Nat.ble (n + 1) 9223372036854775807 then (match m.load (.ptr v (k + (n + 1) * (z + 1) - 1)) 1 with
          | some _ => some (.sl v (k + l * (z + 1)) (h - l) (z + 1))
          | none => none) else none
      | _, _ => none
    | _, _ => none
  | .lookup t x i ok => match P.underlying t, ρ x, ρ i with
    | some (.map kt et), some mv, some key => bif keyT P kt key then
        (match mapEs m mv with
        | some es => match findA P kt key es 0 with
          | some (some (_, v, _)) => some (bif ok then .tup [v, .bool true] else v)
          | some none => match zeroT P et with
            | some z => some (bif ok then .tup [z, .bool false] else z)
            | none => none
          | none => none
        | none => none) else none
    | _, _, _ => none
  | .call c => match c.callee with
    | .builtin .len => match c.argTypes[0]?, operands ρ c.args.toList with
      | some t, some [.map r] => match P.underlying t, m.obs.get r with
        | some (.map _ _), some (.map es _) => some (.int .i64 es.length)
        | _, _ => none
      | _, _ => none
    | _ => none
  | _ => none

/-! ### Operations that write memory, make it, or call -/
inductive Res where
  | val (x : AV)
  | skip
  | enter (f : FuncId) (args : List AV)
  /-- a function without a body -/
  | ext (f : FuncId) (args : List AV)

/-- what is appended: how many elements, their cells -/
def sourceA (m : Mem) (sz : Nat) (x : AV) : Option (Nat × List AV) :=
  match x with
  | .nilsl => some (0, [])
  | .sl v k n z => bif Nat.beq z sz then (match m.load (.ptr v k) (n * z) with | some cs => some (n, cs) | none => none) else none
  | .ro cs n z => bif Nat.beq z sz && Nat.beq cs.length (n * z) then some (n, cs) else none
  | .str s => bif Nat.beq sz 1 then some (s.length, s.map fun b => .int .u8 (b : Nat)) else none
  | _ => none
def appendA (e : TypeId) (sz bytes : Nat) (m : Mem) (s : AV) (n : Nat) (cs : List AV) : Option (AV × Mem) :=
  match s with
  | .nilsl => bif Nat.beq n 0 then some (.nilsl, m) else
      bif Nat.ble (n * bytes) 140737488355328 && Nat.ble n 9223372036854775807 && allCells cs then some (.sl m.nxt 0 n sz, m.fresh (some e) cs) else none
  | .sl v k len z => bif Nat.beq z sz then
      (bif Nat.beq n 0 then some (s, m) else
        bif Nat.ble ((len + n) * bytes) 140737488355328 && Nat.ble (len + n) 9223372036854775807 && allCells cs then
        (match m.live v with
        | some (w, c) =>
          let p := k + len * sz
          bif !c.fro && Nat.ble w.lo k && Nat.ble p w.hi then
            let own := bif Nat.beq p c.hw then (match c.own with | none => none | some _ => some m.nxt) else some m.nxt
            some (.sl m.nxt k (len + n) sz,
              { obs := m.obs.set m.nxt (.win ⟨setCells w.cells p cs, k, p + cs.length, w.cls, bif tyIs w.ty e && Nat.beq k w.lo then some e else none⟩)
                cls := m.cls.set w.cls { c with hw := p + cs.length, own := own, st := c.st + 1 }
                nxt := m.nxt + 1 })
          else none
        | none => none) else none) else none
  | _ => none
def replicateA (n : Nat) (cs : List AV) : List AV :=
  match n with
  | 0 => []
  | n + 1 => cs ++ replicateA n cs
def modifyA (f : AV × AV × Nat → AV × AV × Nat) : List (AV × AV × Nat) → Nat → List (AV × AV × Nat)
  | [], _ => []
  | e :: es, 0 => f e :: es
  | e :: es, i + 1 => e :: modifyA f es i
def eraseA : List (AV × AV × Nat) → Nat → List (AV × AV × Nat)
  | [], _ => []
  | _ :: es, 0 => es
  | e :: es, i + 1 => e :: eraseA es i
def findBorn (b : Nat) : List (AV × AV × Nat) → Nat → Option Nat
  | [], _ => none
  | (_, _, c) :: es, i => bif Nat.beq b c then some i else findBorn b es (i + 1)
/-- cells that are bytes -/
def bytesOf : List AV → Option (List Nat)
  | [] => some []
  | .int .u8 (.ofNat b) :: l => bif Nat.ble b 255 then (match bytesOf l with | some r => some (b :: r) | none => none) else none
  | _ => none
def calleeA (P : Program) (f : AV) (args : List AV) : Option Res :=
  match f with
  | .fn (.func g) first cap => match P.funcs[g]? with
    | some fn => bif fn.name == "runtime.NumGoroutine" then none else bif fn.body.isSome then some (.enter g (first ++ args ++ cap)) else some (.ext g (first ++ args ++ cap))
    | none => none
  | _ => none
def effA (P : Program) (ρ : Operand → Option AV) (m : Mem) (o : Op) : Option (Res × Mem) :=
  match o with
  | .alloc t => match zeroT P t with
    | some z => some (.val (.ptr m.nxt 0), m.fresh (some t) z.cells)
    | none => none
  | .box t x => match ρ x with
    | some a => bif allCells a.cells then some (.val (.ptr m.nxt 0), m.fresh (some t) a.cells) else none
    | none => none
  | .store t x y => match ρ x, ρ y, sizeT P t with
    | some a, some v, some n => bif Nat.beq n v.cells.length then (m.store a v.cells).map fun m => (.skip, m) else none
    | _, _, _ => none
  | .buildSlice t len parts => match P.underlying t with
    | some (.slice e) => match sizeT P e, zeroT P e, partsA ρ parts.toList with
      | some (n + 1), some z, some ps => bif Nat.ble (len * (n + 1)) 16777216 && Nat.beq z.cells.length (n + 1) then
          (match fillA (fun i => some (i * (n + 1), n + 1)) (replicateA len z.cells) ps with
          | some cs => bif allCells cs then some (.val (.sl m.nxt 0 len (n + 1)), m.fresh (some e) cs) else none
          | none => none) else none
      | _, _, _ => none
    | _ => none
  | .convert s d x => match P.underlying s, P.underlying d, ρ x with
    | some .string, some (.slice e), some (.str l) => match P.underlying e with
      | some (.int .u8) => bif Nat.ble l.length 9223372036854775807 then some (.val (.sl m.nxt 0 l.length 1), m.freshFro (l.map fun b => .int .u8 (b : Nat))) else none
      | _ => none
    | _, _, _ => none
  | .makeMap t r => match r with
    | none => some (.val (.map m.nxt), m.freshOb (.map [] 0))
    | some h => match P.underlying t, ρ h with
      | some (.map _ _), some (.int _ _) => some (.val (.map m.nxt), m.freshOb (.map [] 0))
      | _, _ => none
  | .makeSlice t l c => match P.underlying t with
    | some (.slice e) => match sizeT P e, bytesT P e, zeroT P e, natOf? (ρ l), natOf? (ρ c) with
      | some (n + 1), some bytes, some z, some l, some c => bif Nat.ble l c && Nat.ble c 9223372036854775807 && Nat.ble (c * bytes) 281474976710656 && Nat.beq z.cells.length (n + 1) && Nat.beq l c then
          some (.val (.sl m.nxt 0 l (n + 1)), m.fresh (some e) (replicateA c z.cells)) else none
      | _, _, _, _, _ => none
    | _ => none
  | .mapUpdate t x k y | .insert t x k y => match P.underlying t, ρ x, ρ k, ρ y with
    | some (.map kt _), some (.map r), some key, some v => match m.obs.get r with
      | some (.map es clock) => bif keyT P kt key then
          (match findA P kt key es 0 with
          | some (some (i, _, _)) => some (.skip, m.setOb r (.map (modifyA (fun e => (key, v, e.2.2)) es i) clock))
          | some none => some (.skip, m.setOb r (.map (es ++ [(key, v, clock)]) (clock + 1)))
          | none => none) else none
      | _ => none
    | _, _, _, _ => none
  | .mapEntry t x k => match P.underlying t, ρ x, ρ k with
    | some (.map kt et), some (.map r), some key => match m.obs.get r with
      | some (.map es clock) => bif keyT P kt key then
          (match findA P kt key es 0, zeroT P et with
          | some (some (i, v, b)), _ => some (.val (.tup [v, .int .i64 b]), m.setOb r (.map (modifyA (fun e => (key, e.2)) es i) clock))
          | some none, some z => some (.val (.tup [z, .int .i64 clock]), m.setOb r (.map (es ++ [(key, z, clock)]) (clock + 1)))
          | _, _ => none) else none
      | _ => none
    | _, _, _ => none
  | .entryStore _ x s y => match ρ x, natOf? (ρ s), ρ y with
    | some (.map r), some b, some v => match m.obs.get r with
      | some (.map es clock) => match findBorn b es 0 with
        | some i => some (.skip, m.setOb r (.map (modifyA (fun e => (e.1, v, e.2.2)) es i) clock))
        | none => none
      | _ => none
    | _, _, _ => none
  | .range t x => match P.underlying t, ρ x with
    | some .string, some (.str s) => some (.val (.ptr m.nxt 0), m.freshOb (.siter s 0))
    | some (.map _ _), some .nilmap => some (.val (.ptr m.nxt 0), m.freshOb (.miter none 0 [] 0))
    | some (.map _ _), some (.map r) => match m.obs.get r with
      | some (.map _ clock) => some (.val (.ptr m.nxt 0), m.freshOb (.miter (some r) clock [] clock))
      | _ => none
    | _, _ => none
  | .next x isString => match ρ x, isString with
    | some (.ptr r 0), true => match m.obs.get r with
      | some (.siter s pos) => bif Nat.ble (pos + 1) s.length then
          (match s[pos]? with
          | some c => bif Nat.ble c 127 then some (.val (.tup [.bool true, .int .i64 pos, .int .i32 c]), m.setOb r (.siter s (pos + 1))) else none
          | none => none) else some (.val (.tup [.bool false]), m)
      | _ => none
    | some (.ptr r 0), false => match m.obs.get r with
      | some (.miter none _ _ _) => some (.val (.tup [.bool false]), m)
      | some (.miter (some q) since seen last) => match m.obs.get q with
        | some (.map es clock) =>
          -- one entry or none alone: what comes next is forced
          (match es with
          | [] => some (.val (.tup [.bool false]), m)
          | [(k, v, b)] => bif Nat.ble (b + 1) since then
              (match seen with
              | [] => some (.val (.tup [.bool true, k, v]), m.setOb r (.miter (some q) since [b] clock))
              | [b'] => bif Nat.beq b b' && Nat.ble (b + 1) last then some (.val (.tup [.bool false]), m) else none
              | _ => none) else none
          | _ => none)
        | _ => none
      | _ => none
    | _, _ => none
  | .call c => match c.callee with
    | .value f => match ρ f, operands ρ c.args.toList with
      | some g, some args => (calleeA P g args).map fun r => (r, m)
      | _, _ => none
    | .builtin .append => match c.argTypes[0]?, c.argTypes[1]?, operands ρ c.args.toList with
      | some t, some u, some [s, x] => match P.underlying t, P.underlying u with
        | some (.slice e), some ut => match ut with
          | .int _ => none
          | _ => match sizeT P e, bytesT P e, zeroT P e with
            | some (n + 1), some bytes, some z => bif Nat.beq z.cells.length (n + 1) then
                (match sourceA m (n + 1) x with
                | some (cnt, cs) => (appendA e (n + 1) bytes m s cnt cs).map fun (v, m) => (.val v, m)
                | none => none) else none
            | _, _, _ => none
        | _, _ => none
      | _, _, _ => none
    | .builtin .unsafeString => match c.argTypes[0]?, operands ρ c.args.toList with
      | some pt, some [p, .int .i64 (.ofNat n)] => match p, n with
        | .nilptr, 0 => bif Nat.beq c.argTypes.size 2 then some (.val (.str []), m) else none
        | .ptr v k, n + 1 => match P.underlying pt, m.live v with
          | some (.pointer e), some (w, q) => bif tyIs w.ty e && Nat.beq k w.lo && Nat.ble (k + (n + 1)) w.hi && Nat.beq (P.cellsOf e) 1 && Nat.ble (n + 1) 9223372036854775807 && Nat.beq c.argTypes.size 2 then
              (match w.read k (n + 1) with
              | some xs => match bytesOf xs with
                | some l => some (.val (.str l), { m with cls := m.cls.set w.cls { q with fro := true, st := q.st + 1 } })
                | none => none
              | none => none) else none
          | _, _ => none
        | _, _ => none
      | _, _ => none
    | .builtin .copy => match c.argTypes[0]?, operands ρ c.args.toList with
      | some t, some [d, x] => match P.underlying t with
        | some (.slice e) => match sizeT P e with
          | some (sz + 1) => match sourceA m (sz + 1) x with
            | some (cnt, cs) => match d with
              | .sl v k len z => bif Nat.beq z (sz + 1) && Nat.ble cnt len then
                  (match cnt with
                  | 0 => some (.val (.int .i64 0), m)
                  | _ + 1 => (m.store (.ptr v k) cs).map fun m => (.val (.int .i64 cnt), m)) else none
              | _ => none
            | none => none
          | _ => none
        | _ => none
      | _, _ => none
    | .builtin .delete => match c.argTypes[0]?, operands ρ c.args.toList with
      | some t, some [.map r, key] => match P.underlying t, m.obs.get r with
        | some (.map kt _), some (.map es clock) => bif keyT P kt key then
            (match findA P kt key es 0 with
            | some (some (i, _, _)) => some (.val (.tup []), m.setOb r (.map (eraseA es i) clock))
            | some none => some (.val (.tup []), m.setOb r (.map es clock))
            | none => none) else none
        | _, _ => none
      | _, _ => none
    | .builtin .clear => match c.argTypes[0]?, operands ρ c.args.toList with
      | some t, some [x] => match P.underlying t, x with
        | some (.slice _), .nilsl => some (.val (.tup []), m)
        | some (.slice e), .sl v k n sz => match n, sizeT P e, zeroT P e with
          | 0, _, _ => some (.val (.tup []), m)
          | n + 1, some z, some zc => bif Nat.beq z sz && Nat.beq zc.cells.length sz then (m.store (.ptr v k) (replicateA (n + 1) zc.cells)).map fun m => (.val (.tup []), m) else none
          | _, _, _ => none
        | _, _ => none
      | _, _ => none
    | _ => none
  | _ => none

/-! ### Code -/
structure Cfg where
  P : Program
  /-- the cells of the package-level variables that are read -/
  glob : Nat → Option (List AV)
  /-- calls that are taken as they are told -/
  prim : FuncId → List AV → Mem → Option (AV × Mem)
  /-- functions so told -/
  isPrim : FuncId → Bool
  /-- functions without a body -/
  ext : FuncId → List AV → Mem → Option (AV × Mem)

/-- a frame: its slots, their number -/
structure Fr where
  t : Tr AV
  n : Nat
def evalA (C : Cfg) (fr : Fr) : Operand → Option AV
  | .tmp t => fr.t.get t
  | .const v => ofV v
  | .global g => (C.glob g).map .rp
  | .func f => some (.fn (.func f) [] [])
def Fr.put (fr : Fr) (d : Option Tmp) (x : AV) : Option Fr := match d with
  | some t => bif Nat.ble (t + 1) fr.n then some { fr with t := fr.t.set t x } else none
  | none => some fr
/-- is an operation wanted? (an undecided guard: none) -/
def wantedA (ops : List Oper) (fr : Fr) (o : Oper) : Option Bool :=
  match o.guard with
  | none => some true
  | some (j, want) => match ops[j]? with
    | some g => match g.dst with
      | some t => match fr.t.get t with
        | some (.bool b) => some (b == want)
        | some (.tup []) => some false
        | _ => none
      | none => none
    | none => none
abbrev CallF := FuncId → List AV → Mem → Option (AV × Mem)
/-- one operation -/
def opA (C : Cfg) (call : CallF) (fr : Fr) (m : Mem) (o : Oper) : Option (AV × Mem) :=
  match pureA C.P (evalA C fr) o.op with
  | some x => some (x, m)
  | none => match loadA C.P (evalA C fr) m o.op with
    | some x => some (x, m)
    | none => match effA C.P (evalA C fr) m o.op with
      | some (.val x, m) => some (x, m)
      | some (.skip, m) => some (.tup [], m)
      | some (.enter f args, m) => call f args m
      | some (.ext f args, m) => C.ext f args m
      | none => none
def runOps (C : Cfg) (call : CallF) (ops : List Oper) : List Oper → Fr → Mem → Option (Fr × Mem)
  | [], fr, m => some (fr, m)
  | o :: rest, fr, m => match wantedA ops fr o with
    | some true => match opA C call fr m o with
      | some (x, m) => match fr.put o.dst x with
        | some fr => runOps C call ops rest fr m
        | none => none
      | none => none
    | some false => match fr.put o.dst (.tup []) with
      | some fr => runOps C call ops rest fr m
      | none => none
    | none => none
def results (P : Program) (m : Mem) (fr : Fr) : List ResultVar → Option (List AV)
  | [] => some []
  | r :: rs => match (match r with
      | .tmp t => fr.t.get t
      | .cell a t => match fr.t.get a, sizeT P t, aggT P t with
        | some x, some n, some true => (m.load x n).map .agg
        | some x, some _, some false => match m.load x 1 with | some [y] => some y | _ => none
        | _, _, _ => none), results P m fr rs with
    | some x, some xs => some (x :: xs)
    | _, _ => none
def one : List AV → AV
  | [x] => x
  | xs => .tup xs
inductive Ex where
  | normal | exit (id : Nat) | ret
def setArgs : Tr AV → Nat → List AV → Tr AV
  | fr, _, [] => fr
  | fr, i, x :: xs => setArgs (Tr.set fr i x) (i + 1) xs
def enterA (n : Nat) (args : List AV) : Fr := ⟨setArgs .nil 0 args, args.length + (n - args.length)⟩
/-- a region that draws its order: see VzDraw -/
abbrev DrawF := List Oper → Fr → Mem → Option (Fr × Mem)
def exec (C : Cfg) (draw : CallF → DrawF) : Nat → Code → Fr → Mem → Option (Ex × Fr × Mem)
  | 0, _, _, _ => none
  | n + 1, c, fr, m =>
    let call : CallF := fun f args m => bif C.isPrim f then C.prim f args m else
      match C.P.funcs[f]? with
      | some fn => match fn.body with
        | some body => match exec C draw n body (enterA fn.ntmps args) m with
          | some (.normal, fr, m) | some (.ret, fr, m) => (results C.P m fr fn.results.toList).map fun xs => (one xs, m)
          | _ => none
        | none => none
      | none => none
    match c with
    | .skip => some (.normal, fr, m)
    | .region _ ops false => (runOps C call ops.toList ops.toList fr m).map fun (fr, m) => (.normal, fr, m)
    | .region _ ops true => (draw call ops.toList fr m).map fun (fr, m) => (.normal, fr, m)
    | .seq a b => match exec C draw n a fr m with
      | some (.normal, fr, m) => exec C draw n b fr m
      | r => r
    | .cond x a b => match evalA C fr x with
      | some (.bool true) => exec C draw n a fr m
      | some (.bool false) => exec C draw n b fr m
      | _ => none
    | .block id a => match exec C draw n a fr m with
      | some (.exit i, fr, m) => bif Nat.beq i id then some (.normal, fr, m) else some (.exit i, fr, m)
      | r => r
    | .loop a => match exec C draw n a fr m with
      | some (.normal, fr, m) => exec C draw n (.loop a) fr m
      | r => r
    | .exit id => some (.exit id, fr, m)
    | .ret => some (.ret, fr, m)
    | _ => none
def call (C : Cfg) (draw : CallF → DrawF) (n : Nat) : CallF := fun f args m => bif C.isPrim f then C.prim f args m else
  match C.P.funcs[f]? with
  | some fn => match fn.body with
    | some body => match exec C draw n body (enterA fn.ntmps args) m with
      | some (.normal, fr, m) | some (.ret, fr, m) => (results C.P m fr fn.results.toList).map fun xs => (one xs, m)
      | _ => none
    | none => none
  | none => none
end Go.Vz
