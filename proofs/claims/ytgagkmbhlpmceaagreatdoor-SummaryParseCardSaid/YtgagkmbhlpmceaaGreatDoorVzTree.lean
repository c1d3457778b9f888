/-
  TREES: a told function may give back slices that it made (of slices, too): they are laid into the caller's memory as new windows.
-/
import Derived.Test.YtgagkmbhlpmceaaGreatDoorVzView
set_option linter.unusedVariables false
set_option linter.unusedSimpArgs false
namespace Go.Vz
open Go Go.Proofs Go.RowKit
/-! ### Laying a tree -/
mutual
/-- the longest row of a tree -/
def hiA : AV → Nat
  | .ro xs _ _ => max xs.length (hiAs xs)
  | .agg xs | .tup xs => hiAs xs
  | _ => 0
def hiAs : List AV → Nat
  | [] => 0
  | x :: xs => max (hiA x) (hiAs xs)
end
def layWin (c n sz : Nat) (r : List AV × Mem) : AV × Mem :=
  (.sl r.2.nxt 0 n sz, { obs := r.2.obs.set r.2.nxt (.win ⟨setCells .nil 0 r.1, 0, r.1.length, c, none⟩), cls := r.2.cls, nxt := r.2.nxt + 1 })
mutual
/-- the rows of a tree become windows of one class -/
def layA (c : Nat) : AV → Mem → AV × Mem
  | .ro [] n sz, m => (.ro [] n sz, m)
  | .ro (x :: xs) n sz, m => layWin c n sz (let a := layA c x m; let b := layAs c xs a.2; (a.1 :: b.1, b.2))
  | .agg xs, m => let r := layAs c xs m; (.agg r.1, r.2)
  | .tup xs, m => let r := layAs c xs m; (.tup r.1, r.2)
  | x, m => (x, m)
def layAs (c : Nat) : List AV → Mem → List AV × Mem
  | [], m => ([], m)
  | x :: xs, m => let a := layA c x m; let b := layAs c xs a.2; (a.1 :: b.1, b.2)
end
def Mem.newCls (m : Mem) (h : Nat) : Mem := { obs := m.obs, cls := m.cls.set m.nxt ⟨h, none, 0, false⟩, nxt := m.nxt + 1 }
/-- what a call gives back, laid -/
def adoptA (x : AV) (m : Mem) : AV × Mem := bif plainA x then (x, m) else layA m.nxt x (m.newCls (hiA x))
mutual
/-- a tree of slices that a call made -/
inductive TRel (w : World) (b0 : Nat) : AV → Value → Prop where
  | plain (x : AV) (v : Value) : (∀ w0 base g, VRel w0 base g x v) → plainA x = true → TRel w b0 x v
  | agg (xs : List AV) (vs : Array Value) : TRels w b0 xs vs.toList → TRel w b0 (.agg xs) (.agg vs)
  | tup (xs : List AV) (vs : Array Value) : TRels w b0 xs vs.toList → TRel w b0 (.tup xs) (.tuple vs)
  | ron (sz : Nat) (v : Value) : (∀ w0 base g, VRel w0 base g (.ro [] 0 sz) v) → TRel w b0 (.ro [] 0 sz) v
  | ro (xs : List AV) (n sz : Nat) (a : Addr) (cap b : Nat) (cells : Array Value) (e : TypeId) (us : List Value) : xs ≠ [] → n ≤ cap → cap ≤ maxLen → b0 ≤ b → w.heap[b]? = some (.cells cells e (0, 0)) → (0 < cap → a = ⟨b, 0, none⟩ ∧ cap * sz ≤ cells.size) →
      allCells xs = true → (∀ (j : Nat) (u : Value), us[j]? = some u → cells[j]? = some u) → TRels w b0 xs us → TRel w b0 (.ro xs n sz) (.slice (some a) n cap)
inductive TRels (w : World) (b0 : Nat) : List AV → List Value → Prop where
  | nil : TRels w b0 [] []
  | cons (x : AV) (v : Value) (xs : List AV) (vs : List Value) : TRel w b0 x v → TRels w b0 xs vs → TRels w b0 (x :: xs) (v :: vs)
end
theorem TRels.length {w : World} {b0 : Nat} {xs : List AV} {vs : List Value} (h : TRels w b0 xs vs) : xs.length = vs.length := by
  induction xs generalizing vs with
  | nil => cases h; rfl
  | cons x xs ih => cases h with | cons _ _ _ _ h1 h2 => simp [ih h2]
section
variable {w0 : World} {base : Nat} {g : Map} {m : Mem} {w : World}
theorem Rel.newCls (R : Rel w0 base g m w) (h : Nat) : Rel w0 base g (m.newCls h) w := by
  refine ⟨R.below, R.room, fun v hv => R.fresh v (by have : m.nxt + 1 ≤ v := hv; omega), fun c hc => ?_, R.pl, fun v o hv => ?_, R.sep⟩
  · have hc' : m.nxt + 1 ≤ c := hc
    show (m.cls.set m.nxt _).get c = none
    rw [Tr.get_set_ne _ _ (by omega)]; exact R.clss c (by omega)
  · obtain ⟨p, h1, h2⟩ := R.obj v o hv
    refine ⟨p, h1, h2.keep (Map.le_refl g) rfl (fun W hW => ?_)⟩
    subst hW
    obtain ⟨_, _, _, c', _, _, h3, _⟩ := h2
    show (m.cls.set m.nxt _).get W.cls = _
    rw [Tr.get_set_ne]
    intro hcon
    rw [hcon, R.clss m.nxt (Nat.le_refl _)] at h3
    cases h3
/-- what is said of the state while a tree is laid -/
structure Laying (w0 : World) (base b0 c h : Nat) (g : Map) (m : Mem) (w : World) : Prop where
  rel : Rel w0 base g m w
  hb : base ≤ b0
  cl : ∃ st, m.cls.get c = some ⟨h, none, st, false⟩
  mine : ∀ v p, g v = some p → b0 ≤ p.b → ∃ V, m.obs.get v = some (.win V) ∧ V.cls = c ∧ p.d = 0
theorem Laying.row {b0 c h : Nat} (L : Laying w0 base b0 c h g m w) {xs : List AV} {us : List Value} {n sz cap b : Nat} {a : Addr} {cells : Array Value} {e : TypeId} (h1 : n ≤ cap) (h2 : cap ≤ maxLen) (h3 : b0 ≤ b) (h4 : w.heap[b]? = some (.cells cells e (0, 0)))
    (h5 : 0 < cap → a = ⟨b, 0, none⟩ ∧ cap * sz ≤ cells.size) (h6 : allCells xs = true) (h7 : ∀ (j : Nat) (u : Value), us[j]? = some u → cells[j]? = some u) (h8 : VRels w0 base g xs us) (h9 : xs.length ≤ h) :
    ∃ g', g.le g' ∧ Laying w0 base b0 c h g' (layWin c n sz (xs, m)).2 w ∧ VRel w0 base g' (layWin c n sz (xs, m)).1 (.slice (some a) n cap) := by
  have R := L.rel
  obtain ⟨st, hcl⟩ := L.cl
  have hg0 : g m.nxt = none := (R.fresh m.nxt (Nat.le_refl _)).2
  have ho0 : m.obs.get m.nxt = none := (R.fresh m.nxt (Nat.le_refl _)).1
  have hle := Map.le_add (g := g) ⟨b, 0, cells.size⟩ hg0
  have hbs : b < w.heap.size := by
    rcases Nat.lt_or_ge b w.heap.size with h | h
    · exact h
    · rw [Array.getElem?_eq_none h] at h4; cases h4
  have hlen : xs.length ≤ cells.size := by
    rcases Nat.eq_zero_or_pos xs.length with h0 | h0
    · omega
    · have hl := h8.length
      have := h7 (xs.length - 1) (us[xs.length - 1]'(by omega)) (List.getElem?_eq_getElem _)
      have := (Array.getElem?_eq_some_iff.1 this).1
      omega
  refine ⟨g.add m.nxt ⟨b, 0, cells.size⟩, hle, ⟨⟨R.below, R.room, fun v hv => ?_, fun k hk => R.clss k (by have : m.nxt + 1 ≤ k := hk; omega), fun v p hp => ?_, fun v o hv => ?_, fun v u p q hp hq hb => ?_⟩, L.hb, ⟨st, hcl⟩, fun v p hp hb => ?_⟩,
    .sl _ 0 n sz a cap _ (Map.add_same _ _ _) h1 h2 (fun hc => ⟨0, (h5 hc).1, rfl, by have := (h5 hc).2; simp only [Nat.zero_add]; exact this⟩)⟩
  · have hv' : m.nxt + 1 ≤ v := hv
    have h1 := R.fresh v (by omega)
    exact ⟨by show (m.obs.set m.nxt _).get v = none; rw [Tr.get_set_ne _ _ (by omega)]; exact h1.1, by rw [Map.add_ne _ _ (by omega)]; exact h1.2⟩
  · by_cases ev : v = m.nxt
    · subst ev
      rw [Map.add_same] at hp; cases hp
      exact ⟨Nat.le_trans L.hb h3, hbs, _, Tr.get_set_same _ _ _⟩
    · rw [Map.add_ne _ _ ev] at hp
      obtain ⟨a1, a2, o', a3⟩ := R.pl v p hp
      exact ⟨a1, a2, o', by show (m.obs.set m.nxt _).get v = _; rw [Tr.get_set_ne _ _ ev]; exact a3⟩
  · by_cases ev : v = m.nxt
    · subst ev
      have hv' : (m.obs.set m.nxt (.win ⟨setCells .nil 0 xs, 0, xs.length, c, none⟩)).get m.nxt = some o := hv
      rw [Tr.get_set_same] at hv'; cases hv'
      refine ⟨_, Map.add_same _ _ _, cells, e, (0, 0), _, h4, rfl, hcl, fun _ => rfl, ⟨by simpa using hlen, fun t ht => by cases ht⟩, fun _ => ⟨fun _ => h9, fun k x hk => ?_⟩⟩
      obtain ⟨q1, q2, q3⟩ := Win.cell_iff.1 hk
      simp only at q1 q2 q3
      rw [setCells_get, if_pos (by omega)] at q3
      simp only [Nat.sub_zero] at q3
      obtain ⟨u, hu, hr⟩ := h8.get q3
      exact ⟨allCells_mem h6 x (List.mem_of_getElem? q3), k, u, rfl, h7 k u hu, hr.mono hle⟩
    · have hv' : (m.obs.set m.nxt (.win ⟨setCells .nil 0 xs, 0, xs.length, c, none⟩)).get v = some o := hv
      rw [Tr.get_set_ne _ _ ev] at hv'
      obtain ⟨p, a1, a2⟩ := R.obj v o hv'
      exact ⟨p, by rw [Map.add_ne _ _ ev]; exact a1, a2.keep hle rfl (fun W hW => rfl)⟩
  · have new : ∀ u q, (g.add m.nxt ⟨b, 0, cells.size⟩) u = some q → u ≠ m.nxt → q.b = b → ∃ V, m.obs.get u = some (.win V) ∧ V.cls = c ∧ q.d = 0 := fun u q hq hu hqb => by
      rw [Map.add_ne _ _ hu] at hq
      exact L.mine u q hq (by rw [hqb]; exact h3)
    by_cases ev : v = m.nxt
    · by_cases eu : u = m.nxt
      · exact .inl (by rw [ev, eu])
      · subst ev
        rw [Map.add_same] at hp; cases hp
        obtain ⟨V, d1, d2, d3⟩ := new u q hq eu hb.symm
        exact .inr ⟨_, V, Tr.get_set_same _ _ _, by show (m.obs.set m.nxt _).get u = _; rw [Tr.get_set_ne _ _ eu]; exact d1, d2.symm, d3.symm⟩
    · by_cases eu : u = m.nxt
      · subst eu
        rw [Map.add_same] at hq; cases hq
        obtain ⟨V, d1, d2, d3⟩ := new v p hp ev hb
        exact .inr ⟨V, _, by show (m.obs.set m.nxt _).get v = _; rw [Tr.get_set_ne _ _ ev]; exact d1, Tr.get_set_same _ _ _, d2, d3⟩
      · rw [Map.add_ne _ _ ev] at hp
        rw [Map.add_ne _ _ eu] at hq
        rcases R.sep v u p q hp hq hb with h1 | ⟨V, U, d1, d2, d3⟩
        · exact .inl h1
        · exact .inr ⟨V, U, by show (m.obs.set m.nxt _).get v = _; rw [Tr.get_set_ne _ _ ev]; exact d1, by show (m.obs.set m.nxt _).get u = _; rw [Tr.get_set_ne _ _ eu]; exact d2, d3⟩
  · by_cases ev : v = m.nxt
    · subst ev
      rw [Map.add_same] at hp; cases hp
      exact ⟨_, Tr.get_set_same _ _ _, rfl, rfl⟩
    · rw [Map.add_ne _ _ ev] at hp
      obtain ⟨V, d1, d2⟩ := L.mine v p hp hb
      exact ⟨V, by show (m.obs.set m.nxt _).get v = _; rw [Tr.get_set_ne _ _ ev]; exact d1, d2⟩
theorem layA_cell (c : Nat) : ∀ (x : AV) (m : Mem), x.isCell = true → (layA c x m).1.isCell = true := fun x m h => by
  cases x with
  | ro xs n sz => cases xs <;> rfl
  | agg xs => cases h
  | tup xs => cases h
  | _ => exact h
theorem layAs_cells (c : Nat) : ∀ (xs : List AV) (m : Mem), allCells xs = true → allCells (layAs c xs m).1 = true
  | [], _, _ => rfl
  | x :: xs, m, h => by
    simp only [allCells, Bool.and_eq_true] at h
    simp only [layAs, allCells, Bool.and_eq_true]
    exact ⟨layA_cell c x m h.1, layAs_cells c xs _ h.2⟩
theorem layAs_length (c : Nat) : ∀ (xs : List AV) (m : Mem), (layAs c xs m).1.length = xs.length
  | [], _ => rfl
  | x :: xs, m => by simp only [layAs, List.length_cons, layAs_length c xs]
mutual
theorem layA_plain (c : Nat) : ∀ (x : AV) (m : Mem), plainA x = true → layA c x m = (x, m)
  | .agg xs, m, h => by simp only [layA, layAs_plain c xs m (by simpa [plainA] using h)]
  | .tup xs, m, h => by simp only [layA, layAs_plain c xs m (by simpa [plainA] using h)]
  | .bool _, m, _ | .int _ _, m, _ | .str _, m, _ | .nilptr, m, _ | .nilsl, m, _ | .nilmap, m, _ | .nilfn, m, _ | .niliface, m, _ => by simp only [layA]
  | .ptr _ _, _, h => by simp [plainA] at h
  | .sl .., _, h => by simp [plainA] at h
  | .map _, _, h => by simp [plainA] at h
  | .fn .., _, h => by simp [plainA] at h
  | .iface .., _, h => by simp [plainA] at h
  | .ro .., _, h => by simp [plainA] at h
  | .rp _, _, h => by simp [plainA] at h
theorem layAs_plain (c : Nat) : ∀ (xs : List AV) (m : Mem), plainAs xs = true → layAs c xs m = (xs, m)
  | [], _, _ => rfl
  | x :: xs, m, h => by
    simp only [plainAs, Bool.and_eq_true] at h
    simp only [layAs, layA_plain c x m h.1, layAs_plain c xs m h.2]
end
mutual
theorem lay_rel {b0 c h : Nat} : ∀ {x : AV} {v : Value}, TRel w b0 x v → ∀ {g : Map} {m : Mem}, Laying w0 base b0 c h g m w → hiA x ≤ h → ∃ g', g.le g' ∧ Laying w0 base b0 c h g' (layA c x m).2 w ∧ VRel w0 base g' (layA c x m).1 v
  | _, _, .plain x v h1 h2, g, m, L, _ => ⟨g, Map.le_refl g, by rw [layA_plain c x m h2]; exact L, by rw [layA_plain c x m h2]; exact h1 _ _ _⟩
  | _, _, .agg xs vs h1, g, m, L, hh => by
    obtain ⟨g', q1, q2, q3⟩ := lay_rels (c := c) h1 L (by simpa [hiA] using hh)
    exact ⟨g', q1, by simp only [layA]; exact q2, by simp only [layA]; exact .agg _ _ q3⟩
  | _, _, .tup xs vs h1, g, m, L, hh => by
    obtain ⟨g', q1, q2, q3⟩ := lay_rels (c := c) h1 L (by simpa [hiA] using hh)
    exact ⟨g', q1, by simp only [layA]; exact q2, by simp only [layA]; exact .tup _ _ q3⟩
  | _, _, .ron sz v h1, g, m, L, _ => ⟨g, Map.le_refl g, by simp only [layA]; exact L, by simp only [layA]; exact h1 _ _ _⟩
  | _, _, .ro [] n sz a cap b cells e us hne _ _ _ _ _ _ _ _, g, m, L, hh => absurd rfl hne
  | _, _, .ro (x :: xs) n sz a cap b cells e us hne h1 h2 h3 h4 h5 h6 h7 h8, g, m, L, hh => by
    simp only [hiA] at hh
    obtain ⟨g1, q1, q2, q3⟩ := lay_rels (c := c) h8 L (by omega)
    obtain ⟨g', r1, r2, r3⟩ := q2.row (xs := (layAs c (x :: xs) m).1) (us := us) h1 h2 h3 h4 h5 (layAs_cells c _ m h6) h7 q3 (by rw [layAs_length]; omega)
    exact ⟨g', Map.le_trans q1 r1, by simp only [layA]; exact r2, by simp only [layA]; exact r3⟩
theorem lay_rels {b0 c h : Nat} : ∀ {xs : List AV} {vs : List Value}, TRels w b0 xs vs → ∀ {g : Map} {m : Mem}, Laying w0 base b0 c h g m w → hiAs xs ≤ h → ∃ g', g.le g' ∧ Laying w0 base b0 c h g' (layAs c xs m).2 w ∧ VRels w0 base g' (layAs c xs m).1 vs
  | _, _, .nil, g, m, L, _ => ⟨g, Map.le_refl g, L, .nil⟩
  | _, _, .cons x v xs vs h1 h2, g, m, L, hh => by
    simp only [hiAs] at hh
    obtain ⟨g1, q1, q2, q3⟩ := lay_rel (c := c) h1 L (by omega)
    obtain ⟨g2, r1, r2, r3⟩ := lay_rels (c := c) h2 q2 (by omega)
    exact ⟨g2, Map.le_trans q1 r1, r2, .cons _ _ _ _ (q3.mono r1) r3⟩
end
/-- what a call gave back is laid -/
theorem Rel.adopt (R : Rel w0 base g m w) {w' : World} (hw : Below w.heap.size w w') {x : AV} {v : Value} (h : TRel w' w.heap.size x v) : ∃ g', g.le g' ∧ VRel w0 base g' (adoptA x m).1 v ∧ Rel w0 base g' (adoptA x m).2 w' := by
  have R' := R.grow hw
  unfold adoptA
  cases hp : plainA x with
  | true =>
    simp only [cond_true]
    cases h with
    | plain _ _ h1 h2 => exact ⟨g, Map.le_refl g, h1 _ _ _, R'⟩
    | ron => cases hp
    | ro => cases hp
    | agg xs vs h1 =>
      have L : Laying w0 base w.heap.size m.nxt (hiA (.agg xs)) g (m.newCls (hiA (.agg xs))) w' := ⟨R'.newCls _, R.nb, ⟨0, Tr.get_set_same _ _ _⟩, fun v p hp hb => absurd (R.pl v p hp).2.1 (by omega)⟩
      obtain ⟨g', q1, q2, q3⟩ := lay_rel (c := m.nxt) (.agg xs vs h1) L (Nat.le_refl _)
      rw [layA_plain _ _ _ hp] at q3
      exact ⟨g, Map.le_refl g, plain_rel hp q3, R'⟩
    | tup xs vs h1 =>
      have L : Laying w0 base w.heap.size m.nxt (hiA (.tup xs)) g (m.newCls (hiA (.tup xs))) w' := ⟨R'.newCls _, R.nb, ⟨0, Tr.get_set_same _ _ _⟩, fun v p hp hb => absurd (R.pl v p hp).2.1 (by omega)⟩
      obtain ⟨g', q1, q2, q3⟩ := lay_rel (c := m.nxt) (.tup xs vs h1) L (Nat.le_refl _)
      rw [layA_plain _ _ _ hp] at q3
      exact ⟨g, Map.le_refl g, plain_rel hp q3, R'⟩
  | false =>
    simp only [cond_false]
    have L : Laying w0 base w.heap.size m.nxt (hiA x) g (m.newCls (hiA x)) w' := ⟨R'.newCls _, R.nb, ⟨0, Tr.get_set_same _ _ _⟩, fun v p hp hb => absurd (R.pl v p hp).2.1 (by omega)⟩
    obtain ⟨g', q1, q2, q3⟩ := lay_rel (c := m.nxt) h L (Nat.le_refl _)
    exact ⟨g', q1, q3, q2.rel⟩
/-! ### What a run gives back, seen as a tree -/
def froA (m : Mem) (v : Nat) : Bool := match m.live v with
  | some (_, c) => c.fro
  | none => true
/-- a value, seen as a tree of slices of the run's own -/
def treeA : Nat → Mem → AV → Option AV
  | 0, _, _ => none
  | n + 1, m, x => match x with
    | .sl v k len sz => bif Nat.beq (len * sz) 0 then (bif Nat.beq len 0 then some (.ro [] 0 sz) else none) else match m.load (.ptr v k) (len * sz) with
      | some xs => bif Nat.beq k 0 && !froA m v then (mapO (treeA n m) xs).map fun ys => .ro ys len sz else none
      | none => none
    | .ro xs k sz => bif xs.isEmpty && Nat.beq k 0 then some (.ro [] 0 sz) else none
    | .agg xs => (mapO (treeA n m) xs).map .agg
    | .tup xs => (mapO (treeA n m) xs).map .tup
    | .bool _ | .int _ _ | .str _ | .nilptr | .nilsl | .nilmap | .nilfn | .niliface => some x
    | _ => none
theorem treeA_cell {n : Nat} {x y : AV} (h : treeA n m x = some y) (hx : x.isCell = true) : y.isCell = true := by
  cases n with
  | zero => simp [treeA] at h
  | succ n =>
    cases x <;> simp only [treeA] at h <;> try (cases h; done)
    case agg => cases hx
    case tup => cases hx
    case sl v k len sz =>
      cases h0 : Nat.beq (len * sz) 0 with
      | true =>
        rw [h0, cond_true] at h
        cases h1 : Nat.beq len 0 with
        | true => rw [h1, cond_true, Option.some.injEq] at h; subst h; rfl
        | false => rw [h1] at h; cases h
      | false =>
      rw [h0, cond_false] at h
      split at h
      · rename_i xs hl
        cases hb : Nat.beq k 0 && !froA m v with
        | false => rw [hb] at h; cases h
        | true =>
          rw [hb, cond_true] at h
          cases hm : mapO (treeA n m) xs with
          | none => rw [hm] at h; cases h
          | some ys => rw [hm, Option.map_some, Option.some.injEq] at h; subst h; rfl
      · cases h
    case ro xs k sz =>
      cases hb : xs.isEmpty && Nat.beq k 0 with
      | false => rw [hb] at h; cases h
      | true => rw [hb, cond_true, Option.some.injEq] at h; subst h; rfl
    all_goals (simp only [Option.some.injEq] at h; subst h; rfl)
theorem mapO_cells {f : AV → Option AV} (hf : ∀ x y, f x = some y → x.isCell = true → y.isCell = true) : ∀ {xs ys : List AV}, mapO f xs = some ys → allCells xs = true → allCells ys = true
  | [], ys, h, _ => by simp only [mapO, Option.some.injEq] at h; subst h; rfl
  | x :: xs, ys, h, hc => by
    simp only [mapO] at h
    simp only [allCells, Bool.and_eq_true] at hc
    cases hx : f x with
    | none => simp [hx] at h
    | some y =>
      cases hs : mapO f xs with
      | none => simp [hx, hs] at h
      | some zs =>
        simp only [hx, hs, Option.some.injEq] at h
        subst h
        simp only [allCells, Bool.and_eq_true]
        exact ⟨hf x y hx hc.1, mapO_cells hf hs hc.2⟩
theorem mapO_tree {f : AV → Option AV} {b0 : Nat} (hf : ∀ x y u, f x = some y → VRel w0 base g x u → TRel w b0 y u) : ∀ {xs ys : List AV} {us : List Value}, mapO f xs = some ys → VRels w0 base g xs us → TRels w b0 ys us
  | [], ys, us, h, hr => by simp only [mapO, Option.some.injEq] at h; subst h; cases hr; exact .nil
  | x :: xs, ys, us, h, hr => by
    cases hr with | cons _ u _ us h1 h2 =>
    simp only [mapO] at h
    cases hx : f x with
    | none => simp [hx] at h
    | some y =>
      cases hs : mapO f xs with
      | none => simp [hx, hs] at h
      | some zs =>
        simp only [hx, hs, Option.some.injEq] at h
        subst h
        exact .cons _ _ _ _ (hf x y u hx h1) (mapO_tree hf hs h2)
theorem load_cells (R : Rel w0 base g m w) {v k n : Nat} {xs : List AV} (h : m.load (.ptr v k) n = some xs) : allCells xs = true := by
  simp only [Mem.load] at h
  cases hl : m.live v with
  | none => simp [hl] at h
  | some Wc =>
    obtain ⟨W, c⟩ := Wc
    simp only [hl] at h
    obtain ⟨h1, h2, h3⟩ := Mem.live_spec hl
    obtain ⟨p, hp, cells, e, fr, c0, hheap, hsz, hc0, hfr, hhb, hown⟩ := R.obj v _ h1
    rw [h2] at hc0; cases hc0
    have hc := (hown h3).2
    have : ∀ (n k : Nat) (xs : List AV), W.read k n = some xs → allCells xs = true := by
      intro n
      induction n with
      | zero => intro k xs h; simp only [Win.read, Option.some.injEq] at h; subst h; rfl
      | succ n ih =>
        intro k xs h
        simp only [Win.read] at h
        cases hx : W.cell k with
        | none => simp [hx] at h
        | some x =>
          simp only [hx] at h
          cases hr : W.read (k + 1) n with
          | none => simp [hr] at h
          | some l =>
            simp only [hr, Option.some.injEq] at h
            subst h
            simp only [allCells, Bool.and_eq_true]
            exact ⟨(hc k x hx).1, ih _ _ hr⟩
    exact this n k xs h
theorem tree_rel (R : Rel w0 base g m w) : ∀ (n : Nat) (x y : AV) (u : Value), treeA n m x = some y → VRel w0 base g x u → TRel w base y u
  | 0, x, y, u, h, _ => by simp [treeA] at h
  | n + 1, x, y, u, h, hr => by
    have ih := tree_rel R n
    cases x <;> simp only [treeA] at h <;> try (cases h; done)
    case bool => cases h; exact .plain _ _ (fun _ _ _ => plain_rel rfl hr) rfl
    case int => cases h; exact .plain _ _ (fun _ _ _ => plain_rel rfl hr) rfl
    case str => cases h; exact .plain _ _ (fun _ _ _ => plain_rel rfl hr) rfl
    case nilptr => cases h; exact .plain _ _ (fun _ _ _ => plain_rel rfl hr) rfl
    case nilsl => cases h; exact .plain _ _ (fun _ _ _ => plain_rel rfl hr) rfl
    case nilmap => cases h; exact .plain _ _ (fun _ _ _ => plain_rel rfl hr) rfl
    case nilfn => cases h; exact .plain _ _ (fun _ _ _ => plain_rel rfl hr) rfl
    case niliface => cases h; exact .plain _ _ (fun _ _ _ => plain_rel rfl hr) rfl
    case ro xs k sz =>
      cases hb : xs.isEmpty && Nat.beq k 0 with
      | false => rw [hb] at h; cases h
      | true =>
        rw [hb, cond_true, Option.some.injEq] at h
        subst h
        rw [Bool.and_eq_true] at hb
        have e2 := Nat.eq_of_beq_eq_true hb.2
        subst e2
        have e1 := List.isEmpty_iff.1 hb.1
        subst e1
        refine .ron sz _ (fun w1 b1 g1 => ?_)
        cases hr with
        | ron _ => exact .ron _
        | ro _ _ _ a cap us h1 h2 h3 h4 h5 => cases h5; exact .ro [] 0 sz a cap [] h1 h2 (fun h => by simp at h) (fun j u h => by simp at h) .nil
    case agg xs =>
      cases hm : mapO (treeA n m) xs with
      | none => simp [hm] at h
      | some ys =>
        simp only [hm, Option.map_some, Option.some.injEq] at h
        subst h
        cases hr with | agg _ vs h1 => exact .agg _ _ (mapO_tree (fun x y u => ih x y u) hm h1)
    case tup xs =>
      cases hm : mapO (treeA n m) xs with
      | none => simp [hm] at h
      | some ys =>
        simp only [hm, Option.map_some, Option.some.injEq] at h
        subst h
        cases hr with | tup _ vs h1 => exact .tup _ _ (mapO_tree (fun x y u => ih x y u) hm h1)
    case sl v k len sz =>
      cases hz : Nat.beq (len * sz) 0 with
      | true =>
        rw [hz, cond_true] at h
        cases hz1 : Nat.beq len 0 with
        | true =>
          rw [hz1, cond_true, Option.some.injEq] at h; subst h
          have hz1 := Nat.eq_of_beq_eq_true hz1
          subst hz1
          cases hr with | sl _ _ _ _ a cap p hp h1 h2 h3 =>
          exact .ron sz _ (fun w1 b1 g1 => .ro [] 0 sz a cap [] h1 (by simp) (fun h => by simp at h) (fun j u h => by simp at h) .nil)
        | false => rw [hz1] at h; cases h
      | false =>
      rw [hz, cond_false] at h
      have hz := Nat.ne_of_beq_eq_false hz
      cases hl : m.load (.ptr v k) (len * sz) with
      | none => simp [hl] at h
      | some xs =>
        simp only [hl] at h
        cases hb : Nat.beq k 0 && !froA m v with
        | false => rw [hb] at h; cases h
        | true =>
          rw [hb, cond_true] at h
          rw [Bool.and_eq_true, Bool.not_eq_true'] at hb
          obtain ⟨hk, hf⟩ := hb
          have hk := Nat.eq_of_beq_eq_true hk
          subst hk
          cases hm : mapO (treeA n m) xs with
          | none => simp [hm] at h
          | some ys =>
            simp only [hm, Option.map_some, Option.some.injEq] at h
            subst h
            have hlm := mapO_length hm
            have hcx := mapO_cells (fun x y h hx => treeA_cell h hx) hm (load_cells R hl)
            cases hr with | sl _ _ _ _ a cap p hp h1 h2 h3 =>
            have h0 : 0 < len * sz := by omega
            have hcap : 0 < cap := by
              rcases Nat.eq_zero_or_pos cap with h | h
              · have : len = 0 := by omega
                subst this; rw [Nat.zero_mul] at h0; omega
              · exact h
            obtain ⟨o, rfl, ho, hbn⟩ := h3 hcap
            have ho0 : o = 0 := by omega
            subst ho0
            have hd : p.d = 0 := by omega
            obtain ⟨hlen, us, hu1, hu2⟩ := R.load hl (.ptr v 0 0 p hp ho)
            have hlv : ∃ W c, m.live v = some (W, c) ∧ c.fro = false := by
              unfold froA at hf
              split at hf
              · rename_i W c hl; exact ⟨W, c, hl, hf⟩
              · cases hf
            obtain ⟨W, c, hlive, hfro⟩ := hlv
            obtain ⟨q1, q2, q3⟩ := Mem.live_spec hlive
            obtain ⟨p', hp', cells, e, fr, c0, hheap, hsz, hc0, hfr, hhb, hown⟩ := R.obj v _ q1
            rw [hp] at hp'; cases hp'
            rw [q2] at hc0; cases hc0
            have hfr0 := hfr hfro
            subst hfr0
            refine .ro ys len sz _ cap p.b cells e us (fun e => ?_) h1 h2 (R.pl v p hp).1 hheap (fun _ => ⟨rfl, by rw [hsz]; omega⟩) hcx (fun j u hj => ?_) (mapO_tree (fun x y u => ih x y u) hm hu1)
            · subst e; simp only [List.length_nil] at hlm; omega
            · have := hu2 j u hj
              have ea : (⟨p.b, 0, none⟩ : Addr).add j = ⟨p.b, j, none⟩ := by unfold Addr.add; split <;> simp_all
              rw [ea, cell_block hheap] at this
              exact this
end

/-! ### Functions as they are told: trees -/
/-- the function does as it is told, in memory of its own -/
def PFn.OkT (p : PFn) : Prop := ∀ (W : World), LaidErr W W.heap.size → ∀ args x, p.spec args = some x → ∀ vs : Array Value, VRels W W.heap.size (fun _ => none) args vs.toList →
  Calls Tryz.prog p.f vs W (fun e w' => (∃ v, e = .returned v ∧ TRel w' W.heap.size x v) ∧ Below W.heap.size W w')
theorem PFn.Ok.tree {p : PFn} (h : p.Ok) : p.OkT := fun W L args x hs vs hv => by
  obtain ⟨h1, h2⟩ := h W L args x hs
  exact Calls.mono (h2 vs hv) (fun e w' ⟨⟨v, e1, e2⟩, e3⟩ => ⟨⟨v, e1, .plain x v (fun _ _ _ => plain_rel h1 e2) h1⟩, e3⟩)
/-- calls that work on their caller's memory -/
structure MPrim where
  f : FuncId
  run : List AV → Mem → Option (AV × Mem)
def MPrim.Ok (q : MPrim) : Prop := ∀ {w0 : World} {base : Nat}, LaidErr w0 base → ∀ args m x m', q.run args m = some (x, m') → ∀ g w (vs : Array Value), VRels w0 base g args vs.toList → Rel w0 base g m w → Calls Tryz.prog q.f vs w (CallPost w0 base g m' x)
def findM : List MPrim → FuncId → Option MPrim
  | [], _ => none
  | p :: ps, f => bif Nat.beq p.f f then some p else findM ps f
theorem findM_mem : ∀ {ps : List MPrim} {f : FuncId} {p : MPrim}, findM ps f = some p → p ∈ ps ∧ p.f = f
  | [], _, _, h => by simp [findM] at h
  | q :: ps, f, p, h => by
    simp only [findM] at h
    cases hb : Nat.beq q.f f with
    | true => simp only [hb, cond_true, Option.some.injEq] at h; subst h; exact ⟨List.mem_cons_self, Nat.eq_of_beq_eq_true hb⟩
    | false => simp only [hb, cond_false] at h; obtain ⟨h1, h2⟩ := findM_mem h; exact ⟨List.mem_cons_of_mem _ h1, h2⟩
def primT (qs : List MPrim) (ps : List PFn) (f : FuncId) (args : List AV) (m : Mem) : Option (AV × Mem) :=
  match findP ps f with
  | some p => match mapO (viewA 8 m) args with
    | some l => (p.spec l).map fun x => adoptA x m
    | none => none
  | none => match findM qs f with
    | some q => q.run args m
    | none => primL f args m
noncomputable def CT (qs : List MPrim) (ps : List PFn) : Cfg := { P := Tryz.prog, glob := fun _ => none, prim := primT qs ps, isPrim := fun f => (findP ps f).isSome || (findM qs f).isSome || (Nat.beq f 46 || Nat.beq f 13), ext := extS }
theorem CT_ok {qs : List MPrim} {ps : List PFn} (HQ : ∀ q ∈ qs, q.Ok) (H : ∀ p ∈ ps, p.OkT) {w0 : World} {base : Nat} (L : LaidErr w0 base) : (CT qs ps).Ok w0 base where
  mixed := by kernel_rfl
  glob := fun g cs h => by cases h
  prim := fun f args m x m' hp h g w vs hv R => by
    have h' : primT qs ps f args m = some (x, m') := h
    unfold primT at h'
    split at h'
    · rename_i p hf
      obtain ⟨h1, rfl⟩ := findP_mem hf
      split at h'
      · rename_i l ha
        cases hs : p.spec l with
        | none => simp [hs] at h'
        | some y =>
          simp only [hs, Option.map_some, Option.some.injEq] at h'
          have hL : LaidErr w w.heap.size := L.at R
          refine Calls.mono (H p h1 w hL l y hs vs (mapO_rel (fun x y u => view_rel R 8 x y u) ha hv)) (fun e w' ⟨⟨v, e1, e2⟩, e3⟩ => ?_)
          obtain ⟨g', q1, q2, q3⟩ := R.adopt e3 e2
          rw [h'] at q2 q3
          exact ⟨g', v, e1, q1, q2, q3⟩
      · cases h'
    · rename_i hf
      split at h'
      · rename_i q hq
        obtain ⟨h1, rfl⟩ := findM_mem hq
        exact HQ q h1 L args m x m' h' g w vs hv R
      · rename_i hq
        refine (C1_ok L).prim f args m x m' ?_ h' g w vs hv R
        have hp' : ((findP ps f).isSome || (findM qs f).isSome || (Nat.beq f 46 || Nat.beq f 13)) = true := hp
        rw [hf, hq] at hp'
        exact hp'
  ext := fun f args m x m' h g w vs hv R => extS_ok h hv R
/-- a function is as it is told, if V runs so from nothing -/
theorem PFn.OkT.of {qs : List MPrim} {ps : List PFn} (HQ : ∀ q ∈ qs, q.Ok) (H : ∀ p ∈ ps, p.OkT) {p : PFn} (h : ∀ args y, p.spec args = some y → ∃ x m', treeA 8 m' x = some y ∧ EvC (CT qs ps) (drawA (CT qs ps)) p.f args Mem.empty x m') : p.OkT := by
  intro W L args y hs
  obtain ⟨x, m', h1, N, hN⟩ := h args y hs
  refine fun vs hv => Calls.mono (call_sound (CT_ok HQ H L) N p.f args Mem.empty x m' (hN N (Nat.le_refl N)) (fun _ => none) W vs hv (Rel.start W)) (fun e w' he => ?_)
  obtain ⟨g', v, rfl, _, hv', hR⟩ := he
  exact ⟨⟨v, rfl, tree_rel hR 8 x y v h1 hv'⟩, hR.below⟩
theorem mapO_plain {f : AV → Option AV} (hf : ∀ x y, f x = some y → plainA y = true → x = y) : ∀ {xs ys : List AV}, mapO f xs = some ys → plainAs ys = true → xs = ys
  | [], ys, h, _ => by simp only [mapO, Option.some.injEq] at h; exact h
  | x :: xs, ys, h, hp => by
    simp only [mapO] at h
    cases hx : f x with
    | none => simp [hx] at h
    | some y =>
      cases hs : mapO f xs with
      | none => simp [hx, hs] at h
      | some zs =>
        simp only [hx, hs, Option.some.injEq] at h
        subst h
        simp only [plainAs, Bool.and_eq_true] at hp
        rw [hf x y hx hp.1, mapO_plain hf hs hp.2]
/-- one of a plain result -/
theorem PFn.Ok.ofT {qs : List MPrim} {ps : List PFn} (HQ : ∀ q ∈ qs, q.Ok) (H : ∀ p ∈ ps, p.OkT) {p : PFn} (h : ∀ args x, p.spec args = some x → plainA x = true ∧ ∃ m', EvC (CT qs ps) (drawA (CT qs ps)) p.f args Mem.empty x m') : p.Ok := by
  intro W L args x hs
  obtain ⟨h1, m', N, hN⟩ := h args x hs
  refine ⟨h1, fun vs hv => Calls.mono (call_sound (CT_ok HQ H L) N p.f args Mem.empty x m' (hN N (Nat.le_refl N)) (fun _ => none) W vs hv (Rel.start W)) (fun e w' he => ?_)⟩
  obtain ⟨g', v, rfl, _, hv', hR⟩ := he
  exact ⟨⟨v, rfl, plain_rel h1 hv'⟩, hR.below⟩
theorem CT_P (qs : List MPrim) (ps : List PFn) : (CT qs ps).P = Tryz.prog := rfl
theorem CT_isPrim (qs : List MPrim) (ps : List PFn) (f : FuncId) : (CT qs ps).isPrim f = ((findP ps f).isSome || (findM qs f).isSome || (Nat.beq f 46 || Nat.beq f 13)) := rfl
theorem callT {qs : List MPrim} {ps : List PFn} {p : PFn} {f : FuncId} (h : findP ps f = some p) {D : CallF → DrawF} (k : Nat) {args args' : List AV} {x : AV} (m : Mem) (hv : mapO (viewA 8 m) args = some args') (hs : p.spec args' = some x) : Vz.call (CT qs ps) D k f args m = some (adoptA x m) := by
  unfold Vz.call
  rw [show (CT qs ps).isPrim f = true by rw [CT_isPrim, h]; rfl, cond_true, show (CT qs ps).prim = primT qs ps from rfl]
  unfold primT
  simp only [h, hv, hs, Option.map_some]
/-- .. of a plain result -/
theorem callTp {qs : List MPrim} {ps : List PFn} {p : PFn} {f : FuncId} (h : findP ps f = some p) {D : CallF → DrawF} (k : Nat) {args args' : List AV} {x : AV} (m : Mem) (hv : mapO (viewA 8 m) args = some args') (hs : p.spec args' = some x) (hx : plainA x = true) : Vz.call (CT qs ps) D k f args m = some (x, m) := by
  rw [callT h k m hv hs, adoptA, hx, cond_true]
theorem callM {qs : List MPrim} {ps : List PFn} {q : MPrim} {f : FuncId} (h : findP ps f = none) (hq : findM qs f = some q) {D : CallF → DrawF} (k : Nat) (args : List AV) (m : Mem) : Vz.call (CT qs ps) D k f args m = q.run args m := by
  unfold Vz.call
  rw [show (CT qs ps).isPrim f = true by rw [CT_isPrim, h, hq]; rfl, cond_true, show (CT qs ps).prim = primT qs ps from rfl]
  unfold primT
  simp only [h, hq]
theorem callT13 {qs : List MPrim} {ps : List PFn} (h : findP ps 13 = none) (hq : findM qs 13 = none) {D : CallF → DrawF} (k : Nat) (m : Mem) : Vz.call (CT qs ps) D k 13 [] m = some (.bool true, m) := by
  unfold Vz.call
  rw [show (CT qs ps).isPrim 13 = true by rw [CT_isPrim, h, hq]; rfl, cond_true, show (CT qs ps).prim = primT qs ps from rfl]
  unfold primT
  simp only [h, hq]
  rfl
/-- a laid row, seen -/
theorem read_setCells {t : Tr AV} {k0 : Nat} {ty : Option TypeId} {c : Nat} (pre : List AV) : ∀ (xs : List AV), Win.read ⟨setCells t k0 (pre ++ xs), k0, k0 + (pre ++ xs).length, c, ty⟩ (k0 + pre.length) xs.length = some xs
  | [] => by simp only [List.length_nil, Win.read]
  | x :: xs => by
    have hc : Win.cell ⟨setCells t k0 (pre ++ x :: xs), k0, k0 + (pre ++ x :: xs).length, c, ty⟩ (k0 + pre.length) = some x := by
      rw [Win.cell_iff]
      refine ⟨Nat.le_add_right _ _, by simp, ?_⟩
      simp only
      rw [setCells_get, if_pos (by simp)]
      simp
    simp only [List.length_cons, Win.read, hc]
    have := read_setCells (t := t) (k0 := k0) (ty := ty) (c := c) (pre ++ [x]) xs
    simp only [List.append_assoc, List.singleton_append, List.length_append, List.length_singleton, List.length_cons, List.length_nil] at this ⊢
    rw [show k0 + pre.length + 1 = k0 + (pre.length + (0 + 1)) by omega, this]
theorem read_all {t : Tr AV} {k0 hi : Nat} {ty : Option TypeId} {c n : Nat} {xs : List AV} (hh : hi = k0 + xs.length) (hn : n = xs.length) : Win.read ⟨setCells t k0 xs, k0, hi, c, ty⟩ k0 n = some xs := by
  subst hh hn
  have := read_setCells (t := t) (k0 := k0) (ty := ty) (c := c) [] xs
  simpa using this
end Go.Vz
