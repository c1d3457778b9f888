/-
  V's MEMORY: what new blocks, stores and appends do to the relation.
-/
import Derived.Test.YtgagkmbhlpmceaaGreatDoorVzLoad2
import Derived.Laws.AppendOwn
set_option linter.unusedVariables false
set_option linter.unusedSimpArgs false
namespace Go.Vz
open Go Go.RowKit
theorem setCells_get : ∀ (xs : List AV) (t : Tr AV) (k j : Nat), (setCells t k xs).get j = if k ≤ j ∧ j < k + xs.length then xs[j - k]? else t.get j
  | [], t, k, j => by simp only [setCells, List.length_nil]; rw [if_neg (by omega)]
  | x :: xs, t, k, j => by
    simp only [setCells, setCells_get xs, Tr.get_set, List.length_cons]
    by_cases h1 : k + 1 ≤ j ∧ j < k + 1 + xs.length
    · rw [if_pos h1, if_pos (by omega), show j - k = (j - (k + 1)) + 1 by omega]; simp
    · rw [if_neg h1]
      by_cases h2 : j = k
      · subst h2; rw [if_pos rfl, if_pos (by omega)]; simp
      · rw [if_neg h2, if_neg (by omega)]
theorem Win.cell_iff {W : Win} {k : Nat} {x : AV} : W.cell k = some x ↔ W.lo ≤ k ∧ k < W.hi ∧ W.cells.get k = some x := by
  unfold Win.cell
  cases hb : Nat.ble W.lo k && Nat.ble (k + 1) W.hi with
  | false =>
    simp only [cond_false]
    constructor
    · intro h; cases h
    · rintro ⟨h1, h2, h3⟩
      have : (Nat.ble W.lo k && Nat.ble (k + 1) W.hi) = true := by rw [Bool.and_eq_true_iff]; exact ⟨Nat.ble_eq_true_of_le h1, Nat.ble_eq_true_of_le h2⟩
      rw [hb] at this; cases this
  | true =>
    simp only [cond_true]
    rw [Bool.and_eq_true_iff] at hb
    exact ⟨fun h => ⟨Nat.le_of_ble_eq_true hb.1, Nat.le_of_ble_eq_true hb.2, h⟩, fun h => h.2.2⟩
section
variable {w0 : World} {base : Nat} {g g' : Map} {P : Program} {m m' : Mem} {w w' : World}
theorem ORel.keep {v : Nat} {p : Pl} {o : Ob} (h : ORel w0 base g m w v p o) (hle : g.le g') (hh : w'.heap[p.b]? = w.heap[p.b]?) (hc : ∀ W, o = .win W → m'.cls.get W.cls = m.cls.get W.cls) : ORel w0 base g' m' w' v p o := by
  cases o with
  | win W =>
    obtain ⟨cells, e, fr, c, h1, h2, h3, h4, hb, h5⟩ := h
    exact ⟨cells, e, fr, c, by rw [hh]; exact h1, h2, by rw [hc W rfl]; exact h3, h4, hb, fun ho => ⟨(h5 ho).1, fun k x hx => let ⟨q1, o, u, q2, q3, q4⟩ := (h5 ho).2 k x hx; ⟨q1, o, u, q2, q3, q4.mono hle⟩⟩⟩
  | map es clock =>
    obtain ⟨hd, es', h1, h2⟩ := h
    exact ⟨hd, es', by rw [hh]; exact h1, h2.mono hle⟩
  | siter s pos =>
    obtain ⟨hd, s', h1, h2⟩ := h
    exact ⟨hd, s', h1, by rw [hh]; exact h2⟩
  | miter q since seen last =>
    obtain ⟨hd, q', h1, h2⟩ := h
    refine ⟨hd, q', ?_, by rw [hh]; exact h2⟩
    cases q with
    | none => exact h1
    | some r => obtain ⟨pr, e1, e2⟩ := h1; exact ⟨pr, hle _ _ e1, e2⟩
theorem ORel.stale {v : Nat} {p : Pl} {W : Win} {c c' : Cl} (h : ORel w0 base g m w v p (.win W)) (hcl : m.cls.get W.cls = some c) (hc' : m'.cls.get W.cls = some c') (hfro : c'.fro = c.fro) (hno : ¬ Owns c' v)
    (hh : ∀ cells e fr, w.heap[p.b]? = some (.cells cells e fr) → ∃ cells', w'.heap[p.b]? = some (.cells cells' e fr) ∧ cells'.size = cells.size) : ORel w0 base g' m' w' v p (.win W) := by
  obtain ⟨cells, e, fr, c0, h1, h2, h3, h4, hb, h5⟩ := h
  rw [hcl] at h3
  cases h3
  obtain ⟨cells', h6, h7⟩ := hh _ _ _ h1
  exact ⟨cells', e, fr, c', h6, by rw [h7]; exact h2, hc', by rw [hfro]; exact h4, hb, fun ho => absurd ho hno⟩

theorem Rel.drew (R : Rel w0 base g m w) : Rel w0 base g m w.drew :=
  ⟨R.below.drew, R.room, R.fresh, R.clss, R.pl, fun v o h => let ⟨p, h1, h2⟩ := R.obj v o h; ⟨p, h1, h2.keep (Map.le_refl g) rfl (fun _ _ => rfl)⟩, R.sep⟩

/-- the map with one virtual block more -/
def Map.add (g : Map) (v : Nat) (p : Pl) : Map := fun u => if u = v then some p else g u
theorem Map.add_same (g : Map) (v : Nat) (p : Pl) : (g.add v p) v = some p := by simp [Map.add]
theorem Map.add_ne (g : Map) {v u : Nat} (p : Pl) (h : u ≠ v) : (g.add v p) u = g u := by simp [Map.add, h]
theorem Map.le_add {g : Map} {v : Nat} (p : Pl) (h : g v = none) : g.le (g.add v p) := fun u q hq => by
  have : u ≠ v := fun e => by rw [e, h] at hq; cases hq
  rw [Map.add_ne g p this]; exact hq
theorem size_alloc (w : World) (o : Obj) : (w.alloc o).heap.size = w.heap.size + 1 := Array.size_push _
theorem heap_alloc (w : World) (o : Obj) : (w.alloc o).heap[w.heap.size]? = some o := heap_alloc_new w o
theorem heap_alloc_lt (w : World) (o : Obj) {b : Nat} (h : b < w.heap.size) : (w.alloc o).heap[b]? = w.heap[b]? := Below.heap_alloc w o b h

/-- a new object in a new block, with a class of its own -/
theorem Rel.newOb (R : Rel w0 base g m w) (o : Ob) (obj : Obj) (c : Cl) (n : Nat) (hcls : ∀ W, o = .win W → W.cls = m.nxt)
    (ho : ∀ g' m' w', g.le g' → m'.cls.get m.nxt = some c → w'.heap[w.heap.size]? = some obj → g' m.nxt = some ⟨w.heap.size, 0, n⟩ → ORel w0 base g' m' w' m.nxt ⟨w.heap.size, 0, n⟩ o) :
    g.le (g.add m.nxt ⟨w.heap.size, 0, n⟩) ∧ Rel w0 base (g.add m.nxt ⟨w.heap.size, 0, n⟩) { obs := m.obs.set m.nxt o, cls := m.cls.set m.nxt c, nxt := m.nxt + 1 } (w.alloc obj) := by
  have hg0 : g m.nxt = none := (R.fresh m.nxt (Nat.le_refl _)).2
  have hle := Map.le_add (g := g) ⟨w.heap.size, 0, n⟩ hg0
  refine ⟨hle, R.below.alloc R.nb obj, R.room, fun v hv => ?_, fun v hv => ?_, fun v p hp => ?_, fun v o' hv => ?_, fun v u p q hp hq hb => ?_⟩
  · have hv' : m.nxt + 1 ≤ v := hv
    have h1 := R.fresh v (by omega)
    exact ⟨by rw [Tr.get_set_ne _ _ (by omega)]; exact h1.1, by rw [Map.add_ne _ _ (by omega)]; exact h1.2⟩
  · have hv' : m.nxt + 1 ≤ v := hv
    show (m.cls.set m.nxt c).get v = none
    rw [Tr.get_set_ne _ _ (by omega)]; exact R.clss v (by omega)
  · by_cases e : v = m.nxt
    · subst e
      rw [Map.add_same] at hp; cases hp
      exact ⟨R.nb, by rw [size_alloc]; exact Nat.lt_succ_self _, o, Tr.get_set_same _ _ _⟩
    · rw [Map.add_ne _ _ e] at hp
      obtain ⟨h1, h2, o', h3⟩ := R.pl v p hp
      exact ⟨h1, by rw [size_alloc]; omega, o', by rw [Tr.get_set_ne _ _ e]; exact h3⟩
  · by_cases e : v = m.nxt
    · subst e
      rw [Tr.get_set_same] at hv; cases hv
      exact ⟨_, Map.add_same _ _ _, ho _ _ _ hle (Tr.get_set_same _ _ _) (heap_alloc w obj) (Map.add_same _ _ _)⟩
    · rw [Tr.get_set_ne _ _ e] at hv
      obtain ⟨p, h1, h2⟩ := R.obj v o' hv
      refine ⟨p, by rw [Map.add_ne _ _ e]; exact h1, h2.keep hle (heap_alloc_lt w obj (R.pl v p h1).2.1) (fun W hW => ?_)⟩
      subst hW
      obtain ⟨_, _, _, c', _, _, h3, _⟩ := h2
      show (m.cls.set m.nxt c).get W.cls = _
      rw [Tr.get_set_ne]
      intro hcon
      rw [hcon, R.clss m.nxt (Nat.le_refl _)] at h3
      cases h3
  · by_cases e : v = m.nxt
    · by_cases e' : u = m.nxt
      · exact .inl (by rw [e, e'])
      · subst e
        rw [Map.add_same] at hp; cases hp
        rw [Map.add_ne _ _ e'] at hq
        have := (R.pl u q hq).2.1
        simp only at hb
        omega
    · rw [Map.add_ne _ _ e] at hp
      by_cases e' : u = m.nxt
      · subst e'
        rw [Map.add_same] at hq; cases hq
        have := (R.pl v p hp).2.1
        simp only at hb
        omega
      · rw [Map.add_ne _ _ e'] at hq
        rcases R.sep v u p q hp hq hb with h1 | ⟨V, U, h1, h2, h3⟩
        · exact .inl h1
        · exact .inr ⟨V, U, by rw [Tr.get_set_ne _ _ e]; exact h1, by rw [Tr.get_set_ne _ _ e']; exact h2, h3⟩
/-- a new block of cells -/
theorem Rel.fresh' (R : Rel w0 base g m w) (ty : Option TypeId) (xs : List AV) (us : Array Value) (e : TypeId) (hty : ∀ t, ty = some t → e = t) (fr : Nat × Nat) (fro : Bool) (hfr : fro = false → fr = (0, 0)) (hx : allCells xs = true) (hr : VRels w0 base g xs (us.toList.take xs.length)) :
    g.le (g.add m.nxt ⟨w.heap.size, 0, us.size⟩) ∧ Rel w0 base (g.add m.nxt ⟨w.heap.size, 0, us.size⟩)
      { obs := m.obs.set m.nxt (.win ⟨setCells .nil 0 xs, 0, xs.length, m.nxt, ty⟩), cls := m.cls.set m.nxt ⟨xs.length, none, 0, fro⟩, nxt := m.nxt + 1 } (w.alloc (.cells us e fr)) := by
  refine R.newOb _ _ _ us.size (fun W hW => by cases hW; rfl) (fun g' m' w' hle hc hh hg => ?_)
  have hlen : xs.length ≤ us.size := by
    have := hr.length
    rw [List.length_take, Array.length_toList (xs := us)] at this
    omega
  refine ⟨us, e, fr, _, hh, rfl, hc, hfr, ⟨by simpa using hlen, fun t ht => ⟨hty t ht, rfl⟩⟩, fun ho => ⟨fun _ => Nat.le_refl _, fun k x hk => ?_⟩⟩
  obtain ⟨h1, h2, h3⟩ := Win.cell_iff.1 hk
  simp only at h1 h2 h3
  rw [setCells_get, if_pos (by omega)] at h3
  simp only [Nat.sub_zero] at h3
  obtain ⟨u, hu, hrel⟩ := hr.get h3
  refine ⟨allCells_mem hx x (List.mem_of_getElem? h3), k, u, rfl, ?_, hrel.mono hle⟩
  rw [List.getElem?_take] at hu
  by_cases hk : k < xs.length
  · rw [if_pos hk] at hu; simpa using hu
  · rw [if_neg hk] at hu; cases hu
theorem Rel.fresh1 (R : Rel w0 base g m w) (xs : List AV) (us : Array Value) (e : TypeId) (hx : allCells xs = true) (hr : VRels w0 base g xs us.toList) :
    g.le (g.add m.nxt ⟨w.heap.size, 0, us.size⟩) ∧ Rel w0 base (g.add m.nxt ⟨w.heap.size, 0, us.size⟩) (m.fresh (some e) xs) (w.alloc (.cells us e (0, 0))) :=
  R.fresh' (some e) xs us e (fun t h => Option.some.inj h) (0, 0) false (fun _ => rfl) hx (by rw [hr.length, List.take_length]; exact hr)

/-! ### One block written -/
/-- world w' is world w but for block b -/
structure ButBlock (w w' : World) (b : Nat) : Prop where
  os : w'.os = w.os
  tape : w'.tape = w.tape
  output : w'.output = w.output
  size : w'.heap.size = w.heap.size
  other : ∀ k, k ≠ b → w'.heap[k]? = w.heap[k]?
theorem ButBlock.below {b : Nat} (h : ButBlock w w' b) {B : Nat} (hB : B ≤ b) : Below B w w' := ⟨h.os, h.tape, h.output, by rw [h.size]; exact Nat.le_refl _, fun k hk => h.other k (by omega)⟩
theorem butBlock_setRow (w : World) (b : Nat) (c : Array Value) : ButBlock w (w.setRow b c) b := ⟨rfl, rfl, rfl, by simp, fun k hk => setRow_other w b k c hk⟩
theorem butBlock_set (w : World) (b : Nat) (o : Obj) : ButBlock w { w with heap := w.heap.setIfInBounds b o } b :=
  ⟨rfl, rfl, rfl, by simp, fun k hk => by simp [Array.getElem?_setIfInBounds_ne (Ne.symm hk)]⟩

/-- cells of a window written -/
theorem Rel.store (R : Rel w0 base g m w) {v k : Nat} {xs : List AV} {us : List Value} {ad : Addr} {m' : Mem} (h : m.store (.ptr v k) xs = some m') (ha : VRel w0 base g (.ptr v k) (.pointer (some ad))) (hr : VRels w0 base g xs us) :
    ∃ w', (∀ P, (storeCells ad us).run P w = .ok () w') ∧ Rel w0 base g m' w' := by
  simp only [Mem.store] at h
  cases hl : m.live v with
  | none => simp [hl] at h
  | some Wc =>
    obtain ⟨W, c⟩ := Wc
    simp only [hl] at h
    cases hb : !c.fro && Nat.ble W.lo k && Nat.ble (k + xs.length) W.hi && allCells xs with
    | false => simp [hb] at h
    | true =>
      simp only [hb, cond_true, Option.some.injEq] at h
      subst h
      simp only [Bool.and_eq_true, Bool.not_eq_true'] at hb
      obtain ⟨⟨⟨hfro, hlo⟩, hhi⟩, hcx⟩ := hb
      have hlo := Nat.le_of_ble_eq_true hlo
      have hhi := Nat.le_of_ble_eq_true hhi
      obtain ⟨h1, h2, h3⟩ := Mem.live_spec hl
      obtain ⟨p, hp, cells, e, fr, c0, hheap, hsz, hc0, hfr, hhb, hown⟩ := R.obj v _ h1
      have hhb1 := hhb.1
      rw [h2] at hc0; cases hc0
      have hfr0 := hfr hfro
      subst hfr0
      cases ha with | ptr _ _ o p' hp' ho =>
      rw [hp] at hp'; cases hp'
      have hlen : us.length = xs.length := hr.length.symm
      have hroom : o + 0 + us.length ≤ cells.size := by omega
      refine ⟨w.setRow p.b (cells.toList.take (o + 0) ++ us ++ cells.toList.drop (o + 0 + us.length)).toArray, fun P => run_storeCells_at P p.b o e us 0 cells w hheap hroom (hr.oneCell hcx), ?_⟩
      have hne : ∀ c' : Cl, c' = { c with own := some v, st := c.st + 1 } → ∀ u, u ≠ v → ¬ Owns c' u := fun c' e u hu ho => by
        subst e
        rcases ho with h | h
        · cases h
        · simp only [Option.some.injEq] at h; exact hu h.symm
      have hbb := butBlock_setRow w p.b (cells.toList.take (o + 0) ++ us ++ cells.toList.drop (o + 0 + us.length)).toArray
      have hnew : (w.setRow p.b (cells.toList.take (o + 0) ++ us ++ cells.toList.drop (o + 0 + us.length)).toArray).heap[p.b]? = some (.cells (cells.toList.take (o + 0) ++ us ++ cells.toList.drop (o + 0 + us.length)).toArray e (0, 0)) := setRow_heap w p.b cells _ e _ hheap
      generalize hw' : w.setRow p.b (cells.toList.take (o + 0) ++ us ++ cells.toList.drop (o + 0 + us.length)).toArray = w' at hbb hnew ⊢
      have hsize : (cells.toList.take (o + 0) ++ us ++ cells.toList.drop (o + 0 + us.length)).toArray.size = cells.size := by
        simp only [List.size_toArray, List.length_append, List.length_take, List.length_drop, Array.length_toList]
        omega
      have hpl := R.pl v p hp
      refine ⟨R.below.trans (hbb.below hpl.1), R.room, fun u hu => ?_, fun u hu => ?_, fun u q hq => ?_, fun u o' hu => ?_, fun u1 u2 q1 q2 hq1 hq2 hb => ?_⟩
      · have := R.fresh u hu
        refine ⟨?_, this.2⟩
        show (m.obs.set v _).get u = none
        rw [Tr.get_set_ne _ _ (fun e => by rw [e, h1] at this; cases this.1)]
        exact this.1
      · have := R.clss u hu
        show (m.cls.set W.cls _).get u = none
        rw [Tr.get_set_ne _ _ (fun e => by rw [e, h2] at this; cases this)]
        exact this
      · obtain ⟨a1, a2, o', a3⟩ := R.pl u q hq
        refine ⟨a1, by rw [hbb.size]; exact a2, ?_⟩
        by_cases e : u = v
        · subst e; exact ⟨_, Tr.get_set_same _ _ _⟩
        · exact ⟨o', by show (m.obs.set v _).get u = _; rw [Tr.get_set_ne _ _ e]; exact a3⟩
      · by_cases e : u = v
        · subst e
          have hu' : (m.obs.set u (.win { W with cells := setCells W.cells k xs })).get u = some o' := hu
          rw [Tr.get_set_same] at hu'
          cases hu'
          refine ⟨p, hp, _, _, _, _, hnew, by rw [hsize]; exact hsz, Tr.get_set_same _ _ _, fun _ => rfl, hhb, fun _ => ⟨(fun hc => by cases hc), fun j x hx => ?_⟩⟩
          obtain ⟨b1, b2, b3⟩ := Win.cell_iff.1 hx
          simp only at b1 b2 b3
          rw [setCells_get] at b3
          by_cases hin : k ≤ j ∧ j < k + xs.length
          · rw [if_pos hin] at b3
            obtain ⟨y, hy, hry⟩ := hr.get b3
            refine ⟨allCells_mem hcx x (List.mem_of_getElem? b3), o + (j - k), y, by omega, ?_, hry⟩
            have hjk : j - k < us.length := by omega
            simp only [List.getElem?_toArray]
            rw [List.append_assoc, List.getElem?_append_right (by simp; omega), List.getElem?_append_left (by simp; omega)]
            rw [show o + (j - k) - (List.take (o + 0) cells.toList).length = j - k by simp; omega]
            exact hy
          · rw [if_neg hin] at b3
            obtain ⟨c1, oj, y, c2, c3, c4⟩ := (hown h3).2 j x (Win.cell_iff.2 ⟨b1, b2, b3⟩)
            refine ⟨c1, oj, y, c2, ?_, c4⟩
            have hoj : oj < cells.size := (Array.getElem?_eq_some_iff.1 c3).1
            have c3' : cells.toList[oj]? = some y := by simpa using c3
            simp only [List.getElem?_toArray]
            by_cases hlt : oj < o
            · rw [List.append_assoc, List.getElem?_append_left (by simp; omega), List.getElem?_take, if_pos (by omega)]
              exact c3'
            · rw [List.getElem?_append_right (by simp; omega), List.getElem?_drop]
              rw [show o + 0 + us.length + (oj - (List.take (o + 0) cells.toList ++ us).length) = oj by simp; omega]
              exact c3'
        · have hu' : (m.obs.set v (.win { W with cells := setCells W.cells k xs })).get u = some o' := hu
          rw [Tr.get_set_ne _ _ e] at hu'
          obtain ⟨q, hq, hrel⟩ := R.obj u o' hu'
          refine ⟨q, hq, ?_⟩
          by_cases hcls : ∃ U, o' = .win U ∧ U.cls = W.cls
          · obtain ⟨U, rfl, hUW⟩ := hcls
            refine ORel.stale (c := c) (c' := { c with own := some v, st := c.st + 1 }) hrel (by rw [hUW]; exact h2) (by rw [hUW]; exact Tr.get_set_same _ _ _) rfl (hne _ rfl u e) (fun cells2 e2 fr2 hh => ?_)
            by_cases hqb : q.b = p.b
            · rw [hqb] at hh ⊢
              rw [hheap] at hh
              cases hh
              exact ⟨_, hnew, hsize⟩
            · exact ⟨cells2, by rw [hbb.other q.b hqb]; exact hh, rfl⟩
          · refine hrel.keep (Map.le_refl g) (hbb.other q.b (fun hqb => ?_)) (fun U hU => ?_)
            · rcases R.sep u v q p hq hp hqb with e' | ⟨V1, U1, d1, d2, d3, d4⟩
              · exact e e'
              · rw [hu'] at d1
                rw [h1] at d2
                cases d1; cases d2
                exact hcls ⟨V1, rfl, d3⟩
            · subst hU
              show (m.cls.set W.cls _).get U.cls = _
              rw [Tr.get_set_ne]
              exact fun e' => hcls ⟨U, rfl, e'⟩
      · have conv : ∀ u U, m.obs.get u = some (.win U) → ∃ U', (m.obs.set v (.win { W with cells := setCells W.cells k xs })).get u = some (.win U') ∧ U'.cls = U.cls := fun u U hU => by
          by_cases e : u = v
          · subst e
            rw [h1] at hU
            cases hU
            exact ⟨_, Tr.get_set_same _ _ _, rfl⟩
          · exact ⟨U, by rw [Tr.get_set_ne _ _ e]; exact hU, rfl⟩
        rcases R.sep u1 u2 q1 q2 hq1 hq2 hb with e | ⟨V, U, d1, d2, d3, d4⟩
        · exact .inl e
        · obtain ⟨V', e1, e2⟩ := conv _ _ d1
          obtain ⟨U', e3, e4⟩ := conv _ _ d2
          exact .inr ⟨V', U', e1, e3, by rw [e2, e4]; exact d3, d4⟩
end
end Go.Vz
