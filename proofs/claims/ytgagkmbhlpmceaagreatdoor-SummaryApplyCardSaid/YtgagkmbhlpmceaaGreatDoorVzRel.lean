/-
  V's RELATION TO THE MACHINE: what a virtual value, a virtual memory, a virtual frame stand for.
-/
import Derived.Test.YtgagkmbhlpmceaaGreatDoorVzDef
import Derived.ChangeKeysEq
import Derived.DeepKeys3
set_option linter.unusedVariables false
set_option linter.unusedSimpArgs false
namespace Go.Vz
open Go Go.RowKit

namespace Tr
variable {α : Type}
theorem beq_even (q : Nat) : Nat.beq ((2 * q) % 2) 0 = true := by rw [Nat.mul_mod_right]; rfl
theorem beq_odd (q : Nat) : Nat.beq ((2 * q + 1) % 2) 0 = false := by rw [show (2 * q + 1) % 2 = 1 by omega]; rfl
theorem half_even (q : Nat) : 2 * q / 2 = q := by omega
theorem half_odd (q : Nat) : (2 * q + 1) / 2 = q := by omega
theorem get_left (l : Tr α) (v : Option α) (r : Tr α) (q : Nat) : get (.node l v r) (2 * q + 1) = l.get q := by
  simp only [get, beq_even, half_even, cond_true]
theorem get_right (l : Tr α) (v : Option α) (r : Tr α) (q : Nat) : get (.node l v r) (2 * q + 1 + 1) = r.get q := by
  simp only [get, beq_odd, half_odd, cond_false]
theorem get_nil (k : Nat) : (Tr.nil : Tr α).get k = none := by cases k <;> rfl
/-- the parts of a map -/
def ln : Tr α → Tr α | .nil => .nil | .node l _ _ => l
def rn : Tr α → Tr α | .nil => .nil | .node _ _ r => r
theorem get_ln (t : Tr α) (q : Nat) : t.ln.get q = t.get (2 * q + 1) := by cases t with | nil => simp [ln, get_nil] | node => simp [ln, get_left]
theorem get_rn (t : Tr α) (q : Nat) : t.rn.get q = t.get (2 * q + 1 + 1) := by cases t with | nil => simp [rn, get_nil] | node => simp [rn, get_right]
theorem parity (k : Nat) : k = 0 ∨ (∃ q, k = 2 * q + 1) ∨ ∃ q, k = 2 * q + 1 + 1 := by
  rcases Nat.lt_or_ge k 1 with h | h
  · left; omega
  · rcases Nat.mod_two_eq_zero_or_one k with e | e
    · right; right; exact ⟨k / 2 - 1, by omega⟩
    · right; left; exact ⟨k / 2, by omega⟩
theorem get_setF (a : α) : ∀ (f : Nat) (t : Tr α) (k : Nat), k < f → ∀ j, (setF f t k a).get j = if j = k then some a else t.get j := by
  intro f
  induction f with
  | zero => intro t k h; omega
  | succ f ih =>
    intro t k h j
    rcases parity k with rfl | ⟨q, rfl⟩ | ⟨q, rfl⟩
    · cases t <;> simp only [setF] <;> rcases parity j with rfl | ⟨i, rfl⟩ | ⟨i, rfl⟩ <;> simp [get, get_left, get_right, get_nil]
    · have hq : q < f := by omega
      have e : ∀ i, (2 * i + 1 = 2 * q + 1) = (i = q) := fun i => by simp only [eq_iff_iff]; omega
      have e' : ∀ i, (2 * i + 1 + 1 = 2 * q + 1) = False := fun i => by simp only [eq_iff_iff, iff_false]; omega
      have e0 : (0 = 2 * q + 1) = False := by simp only [eq_iff_iff, iff_false]; omega
      cases t <;> simp only [setF, beq_even, half_even, cond_true] <;> rcases parity j with rfl | ⟨i, rfl⟩ | ⟨i, rfl⟩ <;> simp only [get_left, get_right, ih _ _ hq, get_nil, get, e, e', e0, if_false, beq_even, beq_odd, half_even, half_odd, cond_true, cond_false]
    · have hq : q < f := by omega
      have e : ∀ i, (2 * i + 1 + 1 = 2 * q + 1 + 1) = (i = q) := fun i => by simp only [eq_iff_iff]; omega
      have e' : ∀ i, (2 * i + 1 = 2 * q + 1 + 1) = False := fun i => by simp only [eq_iff_iff, iff_false]; omega
      have e0 : (0 = 2 * q + 1 + 1) = False := by simp only [eq_iff_iff, iff_false]; omega
      cases t <;> simp only [setF, beq_odd, half_odd, cond_false] <;> rcases parity j with rfl | ⟨i, rfl⟩ | ⟨i, rfl⟩ <;> simp only [get_left, get_right, ih _ _ hq, get_nil, get, e, e', e0, if_false, beq_even, beq_odd, half_even, half_odd, cond_true, cond_false]
theorem get_set (t : Tr α) (k : Nat) (a : α) (j : Nat) : (t.set k a).get j = if j = k then some a else t.get j :=
  get_setF a (k + 1) t k (by omega) j
theorem get_set_same (t : Tr α) (k : Nat) (a : α) : (t.set k a).get k = some a := by simp [get_set]
theorem get_set_ne (t : Tr α) {k j : Nat} (a : α) (h : j ≠ k) : (t.set k a).get j = t.get j := by simp [get_set, h]
end Tr

/-! ### Values -/
/-- where a virtual block lies: the block, by how much its places are shifted (virtual = real + d), its number of cells -/
structure Pl where
  b : Nat
  d : Nat
  n : Nat
abbrev Map := Nat → Option Pl
def Map.le (g g' : Map) : Prop := ∀ v p, g v = some p → g' v = some p
theorem Map.le_refl (g : Map) : g.le g := fun _ _ h => h
theorem Map.le_trans {a b c : Map} (h : a.le b) (k : b.le c) : a.le c := fun v p e => k v p (h v p e)

mutual
/-- what a virtual value stands for; w0, base: what came in and where it ends -/
inductive VRel (w0 : World) (base : Nat) (g : Map) : AV → Value → Prop where
  | bool (b : Bool) : VRel w0 base g (.bool b) (.bool b)
  | int (k : IntKind) (n : Int) : VRel w0 base g (.int k n) (.int k n)
  | str (l : List Nat) (s : ByteArray) : natOf s = l → VRel w0 base g (.str l) (.string s)
  | ptr (v k o : Nat) (p : Pl) : g v = some p → o + p.d = k → VRel w0 base g (.ptr v k) (.pointer (some ⟨p.b, o, none⟩))
  | nilptr : VRel w0 base g .nilptr (.pointer none)
  | sl (v k n sz : Nat) (a : Addr) (cap : Nat) (p : Pl) : g v = some p → n ≤ cap → cap ≤ maxLen → (0 < cap → ∃ o, a = ⟨p.b, o, none⟩ ∧ o + p.d = k ∧ o + cap * sz ≤ p.n) →
      VRel w0 base g (.sl v k n sz) (.slice (some a) n cap)
  | nilsl : VRel w0 base g .nilsl (.slice none 0 0)
  | map (r : Nat) (p : Pl) : g r = some p → VRel w0 base g (.map r) (.map (some p.b))
  | nilmap : VRel w0 base g .nilmap (.map none)
  | fn (f : Fn) (xs ys : List AV) (us vs : Array Value) : VRels w0 base g xs us.toList → VRels w0 base g ys vs.toList → VRel w0 base g (.fn f xs ys) (.func f us vs)
  | nilfn : VRel w0 base g .nilfn .nilFunc
  | iface (t : TypeId) (x : AV) (v : Value) : VRel w0 base g x v → VRel w0 base g (.iface t x) (.iface t v)
  | niliface : VRel w0 base g .niliface .nilIface
  | agg (xs : List AV) (vs : Array Value) : VRels w0 base g xs vs.toList → VRel w0 base g (.agg xs) (.agg vs)
  | tup (xs : List AV) (vs : Array Value) : VRels w0 base g xs vs.toList → VRel w0 base g (.tup xs) (.tuple vs)
  | ro (xs : List AV) (n sz : Nat) (a : Addr) (cap : Nat) (us : List Value) : n ≤ cap → xs.length = n * sz → (0 < xs.length → a.spot = none ∧ a.block < base) → (∀ j u, us[j]? = some u → w0.cell? (a.add j) = some u) →
      VRels w0 base g xs us → VRel w0 base g (.ro xs n sz) (.slice (some a) n cap)
  | ron (sz : Nat) : VRel w0 base g (.ro [] 0 sz) (.slice none 0 0)
  | rp (xs : List AV) (a : Addr) (us : List Value) : (0 < xs.length → a.spot = none ∧ a.block < base) → (∀ j u, us[j]? = some u → w0.cell? (a.add j) = some u) →
      VRels w0 base g xs us → VRel w0 base g (.rp xs) (.pointer (some a))
inductive VRels (w0 : World) (base : Nat) (g : Map) : List AV → List Value → Prop where
  | nil : VRels w0 base g [] []
  | cons (x : AV) (v : Value) (xs : List AV) (vs : List Value) : VRel w0 base g x v → VRels w0 base g xs vs → VRels w0 base g (x :: xs) (v :: vs)
end

section
variable {w0 : World} {base : Nat} {g : Map}
mutual
theorem VRel.mono {g' : Map} (h : g.le g') {x : AV} {v : Value} : VRel w0 base g x v → VRel w0 base g' x v
  | .bool b => .bool b
  | .int k n => .int k n
  | .str l s e => .str l s e
  | .ptr v k o p e e' => .ptr v k o p (h _ _ e) e'
  | .nilptr => .nilptr
  | .sl v k n sz a cap p e h1 h2 h3 => .sl v k n sz a cap p (h _ _ e) h1 h2 h3
  | .nilsl => .nilsl
  | .map r p e => .map r p (h _ _ e)
  | .nilmap => .nilmap
  | .fn f xs ys us vs h1 h2 => .fn f xs ys us vs (VRels.mono h h1) (VRels.mono h h2)
  | .nilfn => .nilfn
  | .iface t x v h1 => .iface t x v (VRel.mono h h1)
  | .niliface => .niliface
  | .agg xs vs h1 => .agg xs vs (VRels.mono h h1)
  | .tup xs vs h1 => .tup xs vs (VRels.mono h h1)
  | .ro xs n sz a cap us h1 h2 h3 h4 h5 => .ro xs n sz a cap us h1 h2 h3 h4 (VRels.mono h h5)
  | .ron sz => .ron sz
  | .rp xs a us h3 h4 h5 => .rp xs a us h3 h4 (VRels.mono h h5)
theorem VRels.mono {g' : Map} (h : g.le g') {xs : List AV} {vs : List Value} : VRels w0 base g xs vs → VRels w0 base g' xs vs
  | .nil => .nil
  | .cons x v xs vs h1 h2 => .cons x v xs vs (VRel.mono h h1) (VRels.mono h h2)
end
theorem VRels.length {xs : List AV} {vs : List Value} (h : VRels w0 base g xs vs) : xs.length = vs.length := by
  induction xs generalizing vs with
  | nil => cases h; rfl
  | cons x xs ih => cases h with | cons _ _ _ _ h1 h2 => simp [ih h2]
theorem VRels.get {xs : List AV} {vs : List Value} (h : VRels w0 base g xs vs) {i : Nat} {x : AV} (hx : xs[i]? = some x) : ∃ v, vs[i]? = some v ∧ VRel w0 base g x v := by
  induction xs generalizing vs i with
  | nil => simp at hx
  | cons y ys ih =>
    cases h with
    | cons _ v _ vs h1 h2 =>
      cases i with
      | zero => simp at hx; subst hx; exact ⟨v, by simp, h1⟩
      | succ i => simp at hx; obtain ⟨u, hu, hr⟩ := ih h2 hx; exact ⟨u, by simpa using hu, hr⟩
theorem VRels.get' {xs : List AV} {vs : List Value} (h : VRels w0 base g xs vs) {i : Nat} {v : Value} (hv : vs[i]? = some v) : ∃ x, xs[i]? = some x ∧ VRel w0 base g x v := by
  have hl := h.length
  have hi : i < xs.length := by rw [hl]; exact (List.getElem?_eq_some_iff.1 hv).1
  obtain ⟨u, hu, hr⟩ := h.get (List.getElem?_eq_getElem hi)
  rw [hv] at hu
  cases hu
  exact ⟨_, List.getElem?_eq_getElem hi, hr⟩
theorem VRels.drop {xs : List AV} {vs : List Value} (h : VRels w0 base g xs vs) (n : Nat) : VRels w0 base g (xs.drop n) (vs.drop n) := by
  induction n generalizing xs vs with
  | zero => simpa using h
  | succ n ih => cases h with
    | nil => simpa using VRels.nil
    | cons _ _ _ _ _ h2 => simpa using ih h2
theorem VRels.take {xs : List AV} {vs : List Value} (h : VRels w0 base g xs vs) (n : Nat) : VRels w0 base g (xs.take n) (vs.take n) := by
  induction n generalizing xs vs with
  | zero => simpa using VRels.nil
  | succ n ih => cases h with
    | nil => simpa using VRels.nil
    | cons x v _ _ h1 h2 => simpa using VRels.cons x v _ _ h1 (ih h2)
theorem VRels.append {xs ys : List AV} {us vs : List Value} (h : VRels w0 base g xs us) (k : VRels w0 base g ys vs) : VRels w0 base g (xs ++ ys) (us ++ vs) := by
  induction xs generalizing us with
  | nil => cases h; simpa using k
  | cons x xs ih => cases h with | cons _ v _ _ h1 h2 => exact .cons _ _ _ _ h1 (ih h2)
theorem VRels.cells {x : AV} {v : Value} (h : VRel w0 base g x v) : VRels w0 base g x.cells v.cells.toList := by
  cases h
  case agg xs vs h1 => exact h1
  all_goals (simp only [AV.cells, Value.cells]; exact .cons _ _ _ _ (by constructor <;> assumption) .nil)
theorem VRel.oneCell {x : AV} {v : Value} (h : VRel w0 base g x v) (hx : x.isCell = true) : v.oneCell' = true := by
  cases h <;> first | rfl | simp [AV.isCell] at hx
theorem allCells_mem {xs : List AV} (h : allCells xs = true) : ∀ x ∈ xs, x.isCell = true := by
  induction xs with
  | nil => intro x hx; cases hx
  | cons y ys ih =>
    simp only [allCells, Bool.and_eq_true] at h
    intro x hx
    cases hx with
    | head => exact h.1
    | tail _ hx => exact ih h.2 x hx
theorem VRels.oneCell {xs : List AV} {vs : List Value} (h : VRels w0 base g xs vs) (hx : allCells xs = true) : ∀ v ∈ vs, v.oneCell' = true := by
  intro v hv
  obtain ⟨i, hi⟩ := List.mem_iff_getElem?.1 hv
  obtain ⟨x, hx', hr⟩ := h.get' hi
  exact hr.oneCell (allCells_mem hx x (List.mem_of_getElem? hx'))
end

/-! ### Memory -/
/-- may a window be read? -/
def Owns (c : Cl) (v : Nat) : Prop := c.own = none ∨ c.own = some v
/-- entries of a map -/
inductive ERels (w0 : World) (base : Nat) (g : Map) : List (AV × AV × Nat) → List MapEntry → Prop where
  | nil : ERels w0 base g [] []
  | cons (k x : AV) (b : Nat) (e : MapEntry) (xs : List (AV × AV × Nat)) (es : List MapEntry) : VRel w0 base g k e.key → VRel w0 base g x e.val → e.born = b → ERels w0 base g xs es →
      ERels w0 base g ((k, x, b) :: xs) (e :: es)
theorem ERels.mono {w0 : World} {base : Nat} {g g' : Map} (h : g.le g') {xs : List (AV × AV × Nat)} {es : List MapEntry} (e : ERels w0 base g xs es) : ERels w0 base g' xs es := by
  induction e with
  | nil => exact .nil
  | cons k x b e xs es h1 h2 h3 _ ih => exact .cons k x b e xs es (h1.mono h) (h2.mono h) h3 ih
/-- what one object stands for -/
def ORel (w0 : World) (base : Nat) (g : Map) (m : Mem) (w : World) (v : Nat) (p : Pl) : Ob → Prop
  | .win W => ∃ cells e fr c, w.heap[p.b]? = some (.cells cells e fr) ∧ cells.size = p.n ∧ m.cls.get W.cls = some c ∧ (c.fro = false → fr = (0, 0)) ∧ (W.hi ≤ p.d + p.n ∧ ∀ t, W.ty = some t → e = t ∧ p.d = W.lo) ∧
      (Owns c v → (c.own = none → W.hi ≤ c.hw) ∧ ∀ k x, W.cell k = some x → x.isCell = true ∧ ∃ o u, o + p.d = k ∧ cells[o]? = some u ∧ VRel w0 base g x u)
  | .map es clock => p.d = 0 ∧ ∃ es', w.heap[p.b]? = some (.map es' clock) ∧ ERels w0 base g es es'.toList
  | .siter s pos => p.d = 0 ∧ ∃ s', natOf s' = s ∧ w.heap[p.b]? = some (.stringIter s' pos)
  | .miter q since seen last => p.d = 0 ∧ ∃ q', (match q with | none => q' = none | some r => ∃ pr, g r = some pr ∧ q' = some pr.b) ∧ w.heap[p.b]? = some (.mapIter q' since seen.toArray last)
structure Rel (w0 : World) (base : Nat) (g : Map) (m : Mem) (w : World) : Prop where
  below : Below base w0 w
  room : base ≤ w0.heap.size
  fresh : ∀ v, m.nxt ≤ v → m.obs.get v = none ∧ g v = none
  clss : ∀ c, m.nxt ≤ c → m.cls.get c = none
  pl : ∀ v p, g v = some p → base ≤ p.b ∧ p.b < w.heap.size ∧ ∃ o, m.obs.get v = some o
  obj : ∀ v o, m.obs.get v = some o → ∃ p, g v = some p ∧ ORel w0 base g m w v p o
  sep : ∀ v u p q, g v = some p → g u = some q → p.b = q.b → v = u ∨ ∃ V U, m.obs.get v = some (.win V) ∧ m.obs.get u = some (.win U) ∧ V.cls = U.cls ∧ p.d = q.d
/-- one state leads to another -/
def Goes (w0 : World) (base : Nat) (g : Map) (g' : Map) (m' : Mem) (w' : World) : Prop := g.le g' ∧ Rel w0 base g' m' w'
theorem Rel.nb {w0 : World} {base : Nat} {g : Map} {m : Mem} {w : World} (h : Rel w0 base g m w) : base ≤ w.heap.size := Nat.le_trans h.room h.below.size
theorem Rel.lt {w0 : World} {base : Nat} {g : Map} {m : Mem} {w : World} (h : Rel w0 base g m w) {v : Nat} {p : Pl} (hv : g v = some p) : v < m.nxt := by
  rcases Nat.lt_or_ge v m.nxt with h' | h'
  · exact h'
  · rw [(h.fresh v h').2] at hv; cases hv
/-- frames -/
structure FrRel (w0 : World) (base : Nat) (g : Map) (fr : Fr) (a : Act) : Prop where
  size : a.tmps.size = fr.n
  slot : ∀ t x, fr.t.get t = some x → ∃ v, a.tmps[t]? = some v ∧ VRel w0 base g x v
theorem FrRel.mono {w0 : World} {base : Nat} {g g' : Map} (h : g.le g') {fr : Fr} {a : Act} (r : FrRel w0 base g fr a) : FrRel w0 base g' fr a :=
  ⟨r.size, fun t x hx => let ⟨v, h1, h2⟩ := r.slot t x hx; ⟨v, h1, h2.mono h⟩⟩
theorem FrRel.put {w0 : World} {base : Nat} {g : Map} {fr fr' : Fr} {a : Act} (r : FrRel w0 base g fr a) {d : Option Tmp} {x : AV} {v : Value} (h : fr.put d x = some fr') (hv : VRel w0 base g x v) :
    FrRel w0 base g fr' (a.put d v) := by
  cases d with
  | none => simp only [Fr.put, Option.some.injEq] at h; subst h; exact r
  | some t =>
    simp only [Fr.put] at h
    cases hb : Nat.ble (t + 1) fr.n with
    | false => simp [hb] at h
    | true =>
      simp only [hb, cond_true, Option.some.injEq] at h
      subst h
      have ht : t < a.tmps.size := by rw [r.size]; exact Nat.le_of_ble_eq_true hb
      refine ⟨by simp [Act.put, r.size], fun s y hy => ?_⟩
      simp only [Tr.get_set] at hy
      by_cases e : s = t
      · subst e
        simp only [if_true, Option.some.injEq] at hy
        subst hy
        exact ⟨v, by simp [Act.put, ht], hv⟩
      · simp only [e, if_false] at hy
        obtain ⟨u, hu, hr⟩ := r.slot s y hy
        exact ⟨u, by simp [Act.put, Array.getElem?_setIfInBounds_ne (Ne.symm e), hu], hr⟩
end Go.Vz
