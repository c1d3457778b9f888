/-
  V's DRAWN REGIONS: the text's order is run; every other order comes to the same, for it is looked at, pair by pair.
-/
import Derived.Test.YtgagkmbhlpmceaaGreatDoorVzExec
import Derived.Orders
set_option linter.unusedVariables false
set_option linter.unusedSimpArgs false
namespace Go.Vz
open Go Go.RowKit

/-! ### What an operation looks at -/
def opt (x : Option Operand) : List Operand := match x with | some y => [y] | none => []
def opsOf (o : Op) : List Operand :=
  match o with
  | .move x | .assign x | .nilCheck x | .unOp _ _ x | .convert _ _ x | .makeInterface _ x | .extract x _ | .field _ x _ | .fieldAddr _ x _ | .typeAssert x _ _ _ | .load _ x | .box _ x | .range _ x | .next x _ => [x]
  | .pick a b c => [a, b, c]
  | .binOp _ _ x y _ => [x, y]
  | .makeFunc _ a b => a.toList ++ b.toList
  | .index _ x y | .indexAddr _ x y | .lookup _ x y _ | .store _ x y | .makeSlice _ x y | .mapEntry _ x y => [x, y]
  | .slice _ x lo hi _ => x :: (opt lo ++ opt hi)
  | .build _ ps | .buildSlice _ _ ps => ps.toList.map (·.2)
  | .makeMap _ r => opt r
  | .mapUpdate _ x y z | .insert _ x y z | .entryStore _ x y z => [x, y, z]
  | .call c => (match c.callee with | .value f => [f] | _ => []) ++ c.args.toList
  | _ => []
section
variable {P : Program} {r r' : Operand → Option AV} {m : Mem}
theorem operands_congr : ∀ {l : List Operand}, (∀ y ∈ l, r y = r' y) → operands r l = operands r' l
  | [], _ => rfl
  | x :: xs, h => by simp only [operands]; rw [h x (by simp), operands_congr (fun y hy => h y (by simp [hy]))]
theorem partsA_congr : ∀ {l : List (Nat × Operand)}, (∀ y ∈ l.map (·.2), r y = r' y) → partsA r l = partsA r' l
  | [], _ => rfl
  | (i, x) :: xs, h => by simp only [partsA]; rw [h x (by simp), partsA_congr (fun y hy => h y (by simp at hy ⊢; exact .inr hy))]
theorem bounds_congr {lo hi : Option Operand} (h : ∀ y ∈ opt lo ++ opt hi, r y = r' y) (n : Nat) : bounds r lo hi n = bounds r' lo hi n := by
  unfold bounds
  cases lo <;> cases hi <;> simp_all [opt]
theorem pureA_congr (o : Op) (h : ∀ y ∈ opsOf o, r y = r' y) : pureA P r o = pureA P r' o := by
  cases o <;> simp only [opsOf] at h <;> simp only [pureA] <;> try rfl
  case build t ps => rw [partsA_congr h]
  case makeFunc f a b => rw [operands_congr (fun y hy => h y (by simp [hy])), operands_congr (l := b.toList) (fun y hy => h y (by simp [hy]))]
  case slice t x lo hi mx =>
    have hb := bounds_congr (r := r) (r' := r') (lo := lo) (hi := hi) (fun y hy => h y (by simp at hy ⊢; exact .inr hy))
    cases mx <;> simp only [pureA]
    rw [h x (by simp)]
    unfold sliceA
    simp only [hb]
  case call c =>
    have ha := operands_congr (l := c.args.toList) (fun y hy => h y (by simp [hy]))
    cases hc : c.callee <;> simp only [ha]
  all_goals simp_all
theorem loadA_congr (o : Op) (h : ∀ y ∈ opsOf o, r y = r' y) (m : Mem) : loadA P r m o = loadA P r' m o := by
  cases o <;> simp only [opsOf] at h <;> simp only [loadA] <;> try rfl
  case slice t x lo hi mx =>
    have hb := bounds_congr (r := r) (r' := r') (lo := lo) (hi := hi) (fun y hy => h y (by simp at hy ⊢; exact .inr hy))
    cases mx <;> simp only [loadA]
    rw [h x (by simp)]
    simp only [hb]
  case call c =>
    have ha := operands_congr (l := c.args.toList) (fun y hy => h y (by simp [hy]))
    cases hc : c.callee <;> simp only [ha]
  all_goals simp_all
theorem effA_congr (o : Op) (h : ∀ y ∈ opsOf o, r y = r' y) (m : Mem) : effA P r m o = effA P r' m o := by
  cases o <;> simp only [opsOf] at h <;> simp only [effA] <;> try rfl
  case buildSlice t n ps => rw [partsA_congr h]
  case makeMap t x => cases x <;> simp_all [opt]
  case call c =>
    have ha := operands_congr (l := c.args.toList) (fun y hy => h y (by simp [hy]))
    cases hc : c.callee with
    | value f => have hf := h f (by simp [hc]); simp only [hf, ha]
    | invoke _ _ => rfl
    | builtin b => cases b <;> simp only [ha]
  all_goals simp_all
end

/-! ### The check -/
/-- an operation as it was run: its kind (0: looks at no memory, or is not wanted; 1: reads it; 2: the others), the frame and the memory before it, its value, the memory behind it -/
structure It where
  o : Oper
  i : Nat
  anc : Nat
  kd : Nat
  fr : Fr
  m : Mem
  x : AV
  m' : Mem
def ancOf (ms : Tr Nat) (i : Nat) : List Edge → Nat → Option Nat
  | [], acc => some acc
  | e :: es, acc => bif Region.binds .any e then
      (bif Nat.ble (e.on + 1) i then
        (match ms.get e.on with
        | some a => ancOf ms i es (Nat.lor (Nat.lor acc a) (2 ^ e.on))
        | none => none) else none)
      else ancOf ms i es acc
def stepA (C : Cfg) (call : CallF) (ops : List Oper) (fr : Fr) (m : Mem) (o : Oper) : Option (Nat × AV × Mem) :=
  match wantedA ops fr o with
  | some false => some (0, .tup [], m)
  | some true => match pureA C.P (evalA C fr) o.op with
    | some x => some (0, x, m)
    | none => match loadA C.P (evalA C fr) m o.op with
      | some x => some (1, x, m)
      | none => match opA C call fr m o with
        | some (x, m') => some (2, x, m')
        | none => none
  | none => none
def traceA (C : Cfg) (call : CallF) (ops : List Oper) : List Oper → Nat → Tr Nat → Fr → Mem → Option (List It × Fr × Mem)
  | [], _, _, fr, m => some ([], fr, m)
  | o :: rest, i, ms, fr, m => match ancOf ms i o.after.toList 0, stepA C call ops fr m o with
    | some a, some (kd, x, m') => match fr.put o.dst x with
      | some fr' => match traceA C call ops rest (i + 1) (ms.set i a) fr' m' with
        | some (its, fr'', m'') => some (⟨o, i, a, kd, fr, m, x, m'⟩ :: its, fr'', m'')
        | none => none
      | none => none
    | _, _ => none
def tmpsOf : List Operand → List Nat
  | [] => []
  | .tmp t :: l => t :: tmpsOf l
  | _ :: l => tmpsOf l
def looksA (ops : List Oper) (o : Oper) : List Nat :=
  match o.guard with
  | none => tmpsOf (opsOf o.op)
  | some (j, _) => match ops[j]? with
    | some g => match g.dst with
      | some t => t :: tmpsOf (opsOf o.op)
      | none => tmpsOf (opsOf o.op)
    | none => tmpsOf (opsOf o.op)
def notIn (t : Nat) : List Nat → Bool
  | [] => true
  | u :: l => !Nat.beq t u && notIn t l
def dstOut (d : Option Tmp) (l : List Nat) : Bool := match d with | none => true | some t => notIn t l
def dstNe (d e : Option Tmp) : Bool := match d, e with | some t, some u => !Nat.beq t u | _, _ => true
mutual
def beqA : AV → AV → Bool
  | .bool a, .bool b => a == b
  | .int k a, .int l b => decide (k = l) && decide (a = b)
  | .str a, .str b => eqNats a b
  | .ptr v k, .ptr u l => Nat.beq v u && Nat.beq k l
  | .nilptr, .nilptr => true
  | .sl v k n z, .sl u l p y => Nat.beq v u && Nat.beq k l && Nat.beq n p && Nat.beq z y
  | .nilsl, .nilsl => true
  | .map r, .map s => Nat.beq r s
  | .nilmap, .nilmap => true
  | .nilfn, .nilfn => true
  | .fn f a b, .fn g c d => decide (f = g) && beqAs a c && beqAs b d
  | .iface t x, .iface u y => decide (t = u) && beqA x y
  | .niliface, .niliface => true
  | .agg a, .agg b => beqAs a b
  | .tup a, .tup b => beqAs a b
  | .ro a n z, .ro b p y => beqAs a b && Nat.beq n p && Nat.beq z y
  | .rp a, .rp b => beqAs a b
  | _, _ => false
def beqAs : List AV → List AV → Bool
  | [], [] => true
  | x :: xs, y :: ys => beqA x y && beqAs xs ys
  | _, _ => false
end
def loadsSame (C : Cfg) (it : It) (m : Mem) : Bool := match loadA C.P (evalA C it.fr) m it.o.op with
  | some y => beqA y it.x
  | none => false
/-- j may go ahead of i -/
def pairOk (C : Cfg) (ops : List Oper) (i j : It) : Bool :=
  bif Nat.testBit j.anc i.i then true else
    dstOut i.o.dst (looksA ops j.o) && dstNe i.o.dst j.o.dst && dstOut j.o.dst (looksA ops i.o) &&
    (match i.kd, j.kd with
    | 2, 2 => false
    | 2, 1 => loadsSame C j i.m
    | 1, 2 => loadsSame C i j.m'
    | _, _ => true)
def allOk (C : Cfg) (ops : List Oper) (i : It) : List It → Bool
  | [] => true
  | j :: l => pairOk C ops i j && allOk C ops i l
def pairsOk (C : Cfg) (ops : List Oper) : List It → Bool
  | [] => true
  | i :: l => allOk C ops i l && pairsOk C ops l
def drawA (C : Cfg) (call : CallF) : DrawF := fun ops fr m =>
  match traceA C call ops ops 0 .nil fr m with
  | some (its, fr', m') => bif pairsOk C ops its then some (fr', m') else none
  | none => none
mutual
theorem beqA_eq : ∀ {x y : AV}, beqA x y = true → x = y
  | .bool a, y, h => by cases y <;> simp_all [beqA]
  | .int k a, y, h => by cases y <;> simp_all [beqA]
  | .str a, y, h => by
    cases y <;> simp only [beqA] at h <;> try (cases h; done)
    rename_i b
    have : ∀ (a b : List Nat), eqNats a b = true → a = b := by
      intro a
      induction a with
      | nil => intro b h; cases b <;> simp_all [eqNats]
      | cons x xs ih => intro b h; cases b with
        | nil => simp [eqNats] at h
        | cons y ys => simp only [eqNats, Bool.and_eq_true] at h; rw [Nat.eq_of_beq_eq_true h.1, ih ys h.2]
    rw [this a b h]
  | .ptr v k, y, h => by cases y <;> simp_all [beqA]
  | .nilptr, y, h => by cases y <;> simp_all [beqA]
  | .sl v k n z, y, h => by cases y <;> simp_all [beqA]
  | .nilsl, y, h => by cases y <;> simp_all [beqA]
  | .map r, y, h => by cases y <;> simp_all [beqA]
  | .nilmap, y, h => by cases y <;> simp_all [beqA]
  | .nilfn, y, h => by cases y <;> simp_all [beqA]
  | .fn f a b, y, h => by
    cases y <;> simp only [beqA] at h <;> try (cases h; done)
    simp only [Bool.and_eq_true, decide_eq_true_eq] at h
    rw [h.1.1, beqAs_eq h.1.2, beqAs_eq h.2]
  | .iface t x, y, h => by
    cases y <;> simp only [beqA] at h <;> try (cases h; done)
    simp only [Bool.and_eq_true, decide_eq_true_eq] at h
    rw [h.1, beqA_eq h.2]
  | .niliface, y, h => by cases y <;> simp_all [beqA]
  | .agg a, y, h => by
    cases y <;> simp only [beqA] at h <;> try (cases h; done)
    rw [beqAs_eq h]
  | .tup a, y, h => by
    cases y <;> simp only [beqA] at h <;> try (cases h; done)
    rw [beqAs_eq h]
  | .ro a n z, y, h => by
    cases y <;> simp only [beqA] at h <;> try (cases h; done)
    simp only [Bool.and_eq_true] at h
    rw [beqAs_eq h.1.1, Nat.eq_of_beq_eq_true h.1.2, Nat.eq_of_beq_eq_true h.2]
  | .rp a, y, h => by
    cases y <;> simp only [beqA] at h <;> try (cases h; done)
    rw [beqAs_eq h]
theorem beqAs_eq : ∀ {x y : List AV}, beqAs x y = true → x = y
  | [], [], _ => rfl
  | x :: xs, y :: ys, h => by simp only [beqAs, Bool.and_eq_true] at h; rw [beqA_eq h.1, beqAs_eq h.2]
  | [], _ :: _, h => by simp [beqAs] at h
  | _ :: _, [], h => by simp [beqAs] at h
end
mutual
theorem beqA_refl : ∀ x : AV, beqA x x = true
  | .bool a => by simp [beqA]
  | .int k a => by simp [beqA]
  | .str a => by
    simp only [beqA]
    induction a with
    | nil => rfl
    | cons x xs ih => simp [eqNats, ih]
  | .ptr v k => by simp [beqA]
  | .nilptr => rfl
  | .sl v k n z => by simp [beqA]
  | .nilsl => rfl
  | .map r => by simp [beqA]
  | .nilmap => rfl
  | .nilfn => rfl
  | .fn f a b => by simp [beqA, beqAs_refl a, beqAs_refl b]
  | .iface t x => by simp [beqA, beqA_refl x]
  | .niliface => rfl
  | .agg a => by simp [beqA, beqAs_refl a]
  | .tup a => by simp [beqA, beqAs_refl a]
  | .ro a n z => by simp [beqA, beqAs_refl a]
  | .rp a => by simp [beqA, beqAs_refl a]
theorem beqAs_refl : ∀ x : List AV, beqAs x x = true
  | [] => rfl
  | x :: xs => by simp [beqAs, beqA_refl x, beqAs_refl xs]
end
end Go.Vz
