/-
  slices.Sort, Compact, Clone, BinarySearch of whole numbers, as words of V: by the shelf's contracts.
-/
import Derived.Test.YtgagkmbhlpmceaaGreatDoorVzKeep
import Derived.Test.YtgagkmbhlpmceaaGreatDoorVzSortLays
import Derived.Test.YtgagkmbhlpmceaaGreatDoorVzF1
import Derived.Shelf.Slices.Empties
import Derived.Shelf.Slices.In.SortNone
set_option linter.unusedVariables false
set_option linter.unusedSimpArgs false
namespace Go.Vz
open Go Go.Proofs Go.RowKit Go.Sort
theorem storeCells_set {P : Program} {b : Nat} : ∀ (us : List Value) (o i : Nat) (w : World), (∀ u ∈ us, u.oneCell' = true) → (∀ j, j < us.length → (∃ old, w.cell? ⟨b, o + i + j, none⟩ = some old) ∧ w.frozen? ⟨b, o + i + j, none⟩ = false) →
    (storeCells ⟨b, o, none⟩ us i).run P w = .ok () (w.setCells b (o + i) us)
  | [], o, i, w, _, _ => rfl
  | u :: us, o, i, w, hu, hc => by
    obtain ⟨⟨old, h1⟩, h2⟩ := hc 0 (by simp)
    rw [Nat.add_zero] at h1 h2
    have hadd : (⟨b, o, none⟩ : Addr).add i = ⟨b, o + i, none⟩ := by unfold Addr.add; split <;> simp_all
    have hst : (store ((⟨b, o, none⟩ : Addr).add i) u).run P w = .ok () (w.setCell ⟨b, o + i, none⟩ u) := by
      rw [hadd, run_store P w _ u _ (hu u (by simp)), h1]; simp [h2]
    have ih := storeCells_set (P := P) us o (i + 1) (w.setCell ⟨b, o + i, none⟩ u) (fun v hv => hu v (by simp [hv])) (fun j hj => by
      obtain ⟨⟨old', h3⟩, h4⟩ := hc (j + 1) (by simpa using hj)
      refine ⟨⟨old', ?_⟩, ?_⟩
      · rw [World.cell?_setCell_other _ _ _ _ (by simp)]
        rw [show o + (i + 1) + j = o + i + (j + 1) by omega]; exact h3
      · rw [World.frozen?_setCell, show o + (i + 1) + j = o + i + (j + 1) by omega]; exact h4)
    simp only [storeCells, Sem.run_bind, hst, Result.andThen_ok, World.setCells]
    exact ih
theorem setCells_drewN' (b : Nat) : ∀ (vs : List Value) (o n : Nat) (w : World), (w.drewN n).setCells b o vs = (w.setCells b o vs).drewN n
  | [], _, _, _ => rfl
  | v :: vs, o, n, w => by
    simp only [World.setCells]
    rw [← setCells_drewN' b vs]
    rfl
theorem below_drewN' (w : World) (n : Nat) : Below w.heap.size w (w.drewN n) := ⟨rfl, rfl, rfl, Nat.le_refl _, fun _ _ => rfl⟩
theorem below_grow' (w : World) (os : Array Obj) : Below w.heap.size w (grow w os) :=
  ⟨rfl, rfl, rfl, by show w.heap.size ≤ (w.heap ++ os).size; simp, fun k hk => by show (w.heap ++ os)[k]? = _; exact Array.getElem?_append_left hk⟩
section
variable {w0 : World} {base : Nat} {g : Map} {m m' : Mem} {w : World}
theorem VRels.intsOf {xs : List AV} {us : List Value} {l : List Int} (h : VRels w0 base g xs us) (hd : decInts xs = some l) : us = l.map (Value.int .i64) := by
  rw [decInts_eq hd] at h
  clear hd
  induction l generalizing us with
  | nil => cases h; rfl
  | cons a l ih => cases h with | cons _ _ _ _ h1 h2 => cases h1; rw [ih h2]; rfl
theorem VRels.ofInts (l : List Int) : VRels w0 base g (encInts l) (l.map (Value.int .i64)) := by
  induction l with
  | nil => exact .nil
  | cons a l ih => exact .cons _ _ _ _ (.int _ _) ih
theorem encInts_all : ∀ l : List Int, allCells (encInts l) = true
  | [] => rfl
  | a :: l => by simp only [encInts, List.map_cons, allCells]; exact Bool.and_eq_true_iff.2 ⟨rfl, encInts_all l⟩
/-- where cells are stored -/
theorem Rel.room' (R : Rel w0 base g m w) {v k : Nat} {xs : List AV} {b o : Nat} (h : m.store (.ptr v k) xs = some m') (ha : VRel w0 base g (.ptr v k) (.pointer (some ⟨b, o, none⟩))) :
    ∃ cells e, w.heap[b]? = some (.cells cells e (0, 0)) ∧ o + xs.length ≤ cells.size := by
  simp only [Mem.store] at h
  cases hl : m.live v with
  | none => simp [hl] at h
  | some Wc =>
    obtain ⟨W, c⟩ := Wc
    simp only [hl] at h
    cases hb : !c.fro && Nat.ble W.lo k && Nat.ble (k + xs.length) W.hi && allCells xs with
    | false => simp [hb] at h
    | true =>
      simp only [Bool.and_eq_true, Bool.not_eq_true'] at hb
      obtain ⟨⟨⟨hfro, hlo⟩, hhi⟩, hcx⟩ := hb
      have hhi := Nat.le_of_ble_eq_true hhi
      obtain ⟨h1, h2, h3⟩ := Mem.live_spec hl
      obtain ⟨p, hp, cells, e, fr, c0, hheap, hsz, hc0, hfr, hhb, hown⟩ := R.obj v _ h1
      have hhb1 := hhb.1
      rw [h2] at hc0; cases hc0
      have hfr0 := hfr hfro
      subst hfr0
      cases ha with | ptr _ _ _ p' hp' ho =>
      rw [hp] at hp'; cases hp'
      exact ⟨cells, e, hheap, by omega⟩
/-- cells stored, whatever was made beside -/
theorem Rel.wrote (R : Rel w0 base g m w) {v k b o q : Nat} {ys : List Int} (h : m.store (.ptr v k) (encInts ys) = some m') (ha : VRel w0 base g (.ptr v k) (.pointer (some ⟨b, o, none⟩))) (os : Array Obj) :
    Rel w0 base g m' ((w.drewN q).setCells b o (ys.map (Value.int .i64))) ∧ Rel w0 base g m' (Go.Sort.grow ((w.drewN q).setCells b o (ys.map (Value.int .i64))) os) := by
  obtain ⟨w2, h1, R2⟩ := R.store h ha (VRels.ofInts ys)
  obtain ⟨cells, e, h3, h4⟩ := R.room' h ha
  rw [encInts_length] at h4
  have h5 := storeCells_set (P := Tryz.prog) (b := b) (ys.map (Value.int .i64)) o 0 w (by intro u hu; simp at hu; obtain ⟨a, _, rfl⟩ := hu; rfl) (fun j hj => by
    simp at hj
    have hj' : o + 0 + j < cells.size := by omega
    refine ⟨⟨cells[o + 0 + j], ?_⟩, ?_⟩
    · rw [cell_block h3]; exact Array.getElem?_eq_getElem hj'
    · simp [World.frozen?, h3])
  rw [h1 Tryz.prog] at h5
  simp only [Nat.add_zero] at h5
  have h6 : w2 = w.setCells b o (ys.map (Value.int .i64)) := by injection h5
  subst h6
  rw [setCells_drewN']
  have R3 := R2.grow (below_drewN' _ q)
  exact ⟨R3, R3.grow (below_grow' _ os)⟩
/-- a row of whole numbers of the machine -/
theorem Rel.holds (R : Rel w0 base g m w) {v k n b o : Nat} {xs ys : List AV} {l : List Int} (hl : m.load (.ptr v k) n = some xs) (hd : decInts xs = some l) (ha : VRel w0 base g (.ptr v k) (.pointer (some ⟨b, o, none⟩)))
    (h : m.store (.ptr v k) ys = some m') (hy : ys.length = n) : Holds (Value.int .i64) w b o l.toArray ∧ l.length = n ∧ b < w.heap.size := by
  obtain ⟨h1, us, h2, h3⟩ := R.load hl ha
  have hus := h2.intsOf hd
  subst hus
  have hln : l.length = n := by rw [← h1, decInts_eq hd, encInts_length]
  obtain ⟨cells, e, h4, h5⟩ := R.room' h ha
  refine ⟨?_, hln, ?_⟩
  · have := Lib.holds_of_ints (w := w) (b := b) (off := o) (n := l.length) (zs := l) (Nat.le_refl _) (fun j hj => by
      have := h3 j (.int .i64 (l.getD j 0)) (by simp [List.getD, List.getElem?_eq_getElem hj])
      rwa [show (⟨b, o, none⟩ : Addr).add j = ⟨b, o + j, none⟩ by unfold Addr.add; split <;> simp_all] at this) (fun j hj => by simp [World.frozen?, h4])
    rwa [List.take_length] at this
  · rcases Nat.lt_or_ge b w.heap.size with h | h
    · exact h
    · rw [Array.getElem?_eq_none h] at h4; cases h4
end
/-! ### Sort -/
def sortI (l : List Int) : List Int := l.mergeSort fun x y => decide (x ≤ y)
def primSort : List AV → Mem → Option (AV × Mem)
  | [.nilsl], m => some (.tup [], m)
  | [.ro _ 0 1], m => some (.tup [], m)
  | [.sl v k n 1], m => match m.load (.ptr v k) n with
    | some xs => match decInts xs with
      | some l => bif Nat.ble 1 n && Nat.ble n 1000000 then (m.store (.ptr v k) (encInts (sortI l))).map fun m => (.tup [], m) else none
      | none => none
    | none => none
  | _, _ => none
def mSort : MPrim := ⟨52, primSort⟩
theorem sort_none (p : Option Addr) (cap : Nat) (w : World) : Calls Tryz.prog 52 #[.slice p 0 cap] w fun e w' => e = .returned (.tuple #[]) ∧ w' = w := Any.slices_Sort_int_none laysSort p cap w
theorem sort_some (blk off cap : Nat) (zs : List Int) (w : World) (hH : Holds (Value.int .i64) w blk off zs.toArray) (hblk : blk < w.heap.size) (hsz : zs.length < 4611686018427387904) : Calls Tryz.prog 52 #[.slice (some ⟨blk, off, none⟩) zs.length cap] w fun e w' =>
      e = .returned (.tuple #[]) ∧ ∃ n os, w' = grow (putRow (Value.int .i64) (Sort.ahead w n) blk off (zs.mergeSort fun x y => decide (x ≤ y)).toArray) os := Any.slices_Sort_int laysSort blk off cap zs w hH hblk hsz
theorem slice_zero {w0 : World} {base : Nat} {g : Map} {xs : List AV} {v : Value} (h : VRel w0 base g (.ro xs 0 1) v) : ∃ p cap, v = .slice p 0 cap := by
  cases h with
  | ro _ _ _ a cap us => exact ⟨_, _, rfl⟩
  | ron => exact ⟨_, _, rfl⟩
theorem mSort_ok : mSort.Ok := by
  intro w0 base L args m x m' h g w vs hv R
  have h' : primSort args m = some (x, m') := h
  show Calls Tryz.prog 52 vs w _
  unfold primSort at h'
  split at h'
  · cases h'
    obtain ⟨u, rfl, h1⟩ := args_one hv
    cases h1
    exact Calls.mono (sort_none none 0 w) (fun e w' ⟨q1, q2⟩ => ⟨g, _, q1, Map.le_refl g, .tup [] #[] .nil, by rw [q2]; exact R⟩)
  · cases h'
    obtain ⟨u, rfl, h1⟩ := args_one hv
    obtain ⟨p, cap, rfl⟩ := slice_zero h1
    exact Calls.mono (sort_none p cap w) (fun e w' ⟨q1, q2⟩ => ⟨g, _, q1, Map.le_refl g, .tup [] #[] .nil, by rw [q2]; exact R⟩)
  · rename_i v k n
    cases hl : m.load (.ptr v k) n with
    | none => simp [hl] at h'
    | some xs =>
      simp only [hl] at h'
      cases hd : decInts xs with
      | none => simp [hd] at h'
      | some l =>
        simp only [hd] at h'
        cases hb : Nat.ble 1 n && Nat.ble n 1000000 with
        | false => simp [hb] at h'
        | true =>
          simp only [hb, cond_true] at h'
          rw [Bool.and_eq_true_iff] at hb
          have hn1 := Nat.le_of_ble_eq_true hb.1
          have hn2 := Nat.le_of_ble_eq_true hb.2
          cases hst : m.store (.ptr v k) (encInts (sortI l)) with
          | none => simp [hst] at h'
          | some m1 =>
            simp only [hst, Option.map_some, Option.some.injEq, Prod.mk.injEq] at h'
            obtain ⟨rfl, rfl⟩ := h'
            obtain ⟨u, rfl, h1⟩ := args_one hv
            cases h1 with | sl _ _ _ _ a cap p hp c1 c2 c3 =>
            obtain ⟨o, rfl, ho, hbd⟩ := c3 (by omega)
            have ha : VRel w0 base g (.ptr v k) (.pointer (some ⟨p.b, o, none⟩)) := .ptr v k o p hp ho
            have hlen0 : l.length = n := by
              obtain ⟨h1, _⟩ := R.load hl ha
              rw [← h1, decInts_eq hd, encInts_length]
            obtain ⟨hH, hln, hblk⟩ := R.holds hl hd ha hst (by rw [encInts_length]; simp [sortI, hlen0])
            have := sort_some p.b o cap l w hH hblk (by omega)
            rw [hln] at this
            refine Calls.mono this (fun e w' ⟨q1, q, os, q2⟩ => ⟨g, _, q1, Map.le_refl g, .tup [] #[] .nil, ?_⟩)
            rw [q2, Lib.putRow_eq_setCells _ w p.b o _ _ q hH (by simp)]
            exact (R.wrote (q := q) hst ha os).2
  · cases h'
/-! ### Compact -/
def primCompact : List AV → Mem → Option (AV × Mem)
  | [.nilsl], m => some (.nilsl, m)
  | [.ro xs 0 1], m => some (.ro xs 0 1, m)
  | [.sl v k n 1], m => match m.load (.ptr v k) n with
    | some xs => match decInts xs with
      | some l => bif Nat.ble 1 n && Nat.ble n 1000000 then (m.store (.ptr v k) (encInts (Lib.compact l ++ List.replicate (l.length - (Lib.compact l).length) 0))).map fun m => (.sl v k (Lib.compact l).length 1, m) else none
      | none => none
    | none => none
  | _, _ => none
def mCompact : MPrim := ⟨53, primCompact⟩
theorem compact_none (a : Option Addr) (cap : Nat) (w : World) : Calls Tryz.prog 53 #[.slice a 0 cap] w fun e w' => e = .returned (.slice a 0 cap) ∧ w' = w := Any.slices_Compact_int_empty laysCompact a cap w
theorem compact_some (blk off cap : Nat) (zs : List Int) (w : World) (hH : Holds (Value.int .i64) w blk off zs.toArray) (hsz : zs.length ≤ 9223372036854775807) (hcap : zs.length ≤ cap) :
    Calls Tryz.prog 53 #[.slice (some ⟨blk, off, none⟩) zs.length cap] w fun e w' => e = .returned (.slice (some ⟨blk, off, none⟩) (Lib.compact zs).length cap) ∧ ∃ q, w' = putRow (Value.int .i64) (Sort.ahead w q) blk off (Lib.compact zs ++ List.replicate (zs.length - (Lib.compact zs).length) 0).toArray := Any.slices_Compact_int laysCompact blk off cap zs w hH hsz hcap
theorem mCompact_ok : mCompact.Ok := by
  intro w0 base L args m x m' h g w vs hv R
  have h' : primCompact args m = some (x, m') := h
  show Calls Tryz.prog 53 vs w _
  unfold primCompact at h'
  split at h'
  · cases h'
    obtain ⟨u, rfl, h1⟩ := args_one hv
    cases h1
    exact Calls.mono (compact_none none 0 w) (fun e w' ⟨q1, q2⟩ => ⟨g, _, q1, Map.le_refl g, .nilsl, by rw [q2]; exact R⟩)
  · cases h'
    obtain ⟨u, rfl, h1⟩ := args_one hv
    obtain ⟨p, cap, rfl⟩ := slice_zero h1
    exact Calls.mono (compact_none p cap w) (fun e w' ⟨q1, q2⟩ => ⟨g, _, q1, Map.le_refl g, h1, by rw [q2]; exact R⟩)
  · rename_i v k n
    cases hl : m.load (.ptr v k) n with
    | none => simp [hl] at h'
    | some xs =>
      simp only [hl] at h'
      cases hd : decInts xs with
      | none => simp [hd] at h'
      | some l =>
        simp only [hd] at h'
        cases hb : Nat.ble 1 n && Nat.ble n 1000000 with
        | false => simp [hb] at h'
        | true =>
          simp only [hb, cond_true] at h'
          rw [Bool.and_eq_true_iff] at hb
          have hn1 := Nat.le_of_ble_eq_true hb.1
          have hn2 := Nat.le_of_ble_eq_true hb.2
          cases hst : m.store (.ptr v k) (encInts (Lib.compact l ++ List.replicate (l.length - (Lib.compact l).length) 0)) with
          | none => simp [hst] at h'
          | some m1 =>
            simp only [hst, Option.map_some, Option.some.injEq, Prod.mk.injEq] at h'
            obtain ⟨rfl, rfl⟩ := h'
            obtain ⟨u, rfl, h1⟩ := args_one hv
            cases h1 with | sl _ _ _ _ a cap p hp c1 c2 c3 =>
            obtain ⟨o, rfl, ho, hbd⟩ := c3 (by omega)
            have ha : VRel w0 base g (.ptr v k) (.pointer (some ⟨p.b, o, none⟩)) := .ptr v k o p hp ho
            have hlen0 : l.length = n := by
              obtain ⟨h1, _⟩ := R.load hl ha
              rw [← h1, decInts_eq hd, encInts_length]
            have hle := Lib.compact_length_le l
            obtain ⟨hH, hln, hblk⟩ := R.holds hl hd ha hst (by rw [encInts_length]; simp; omega)
            have := compact_some p.b o cap l w hH (by omega) (by omega)
            rw [hln] at this
            refine Calls.mono this (fun e w' ⟨q1, q, q2⟩ => ⟨g, _, q1, Map.le_refl g, .sl v k _ 1 _ cap p hp (by omega) c2 (fun hc => ⟨o, rfl, ho, hbd⟩), ?_⟩)
            rw [q2, show n = l.length from hln.symm, Lib.putRow_eq_setCells _ w p.b o _ _ q hH (by simp; omega)]
            exact (R.wrote (q := q) hst ha #[]).1
  · cases h'
/-! ### Clone, BinarySearch -/
/-- a slice of whole numbers that came in -/
def isl : AV → Option (List Int)
  | .nilsl => some []
  | .ro xs n 1 => match decInts xs with
    | some l => bif Nat.beq l.length n then some l else none
    | none => none
  | _ => none
theorem isl_cases {x : AV} {l : List Int} (h : isl x = some l) : (x = .nilsl ∧ l = []) ∨ x = .ro (encInts l) l.length 1 := by
  unfold isl at h
  split at h
  · cases h; exact .inl ⟨rfl, rfl⟩
  · rename_i xs n
    cases hd : decInts xs with
    | none => simp [hd] at h
    | some l' =>
      simp only [hd] at h
      cases hb : Nat.beq l'.length n with
      | false => simp [hb] at h
      | true =>
        simp only [hb, cond_true, Option.some.injEq] at h
        subst h
        rw [← Nat.eq_of_beq_eq_true hb, decInts_eq hd]
        exact .inr rfl
  · cases h
theorem decInts_enc : ∀ l : List Int, decInts (encInts l) = some l
  | [] => rfl
  | a :: l => by
    have := decInts_enc l
    simp only [encInts] at this
    simp only [encInts, List.map_cons, decInts, this, Option.map_some]
theorem isl_ro (l : List Int) : isl (.ro (encInts l) l.length 1) = some l := by
  simp only [isl, decInts_enc, Nat.beq_refl, cond_true]
/-- .. of the machine -/
theorem isl_real {W : World} {B : Nat} {g : Map} {x : AV} {l : List Int} {v : Value} (h : isl x = some l) (hv : VRel W B g x v) :
    ∃ ao cap, v = .slice ao l.length cap ∧ (ao = none → l = [] ∧ cap = 0) ∧ l.length ≤ cap ∧ (0 < l.length → ∃ b off, ao = some ⟨b, off, none⟩ ∧ b < B ∧ ∀ j, j < l.length → W.cell? ⟨b, off + j, none⟩ = some (.int .i64 (l.getD j 0))) := by
  rcases isl_cases h with ⟨rfl, rfl⟩ | rfl
  · cases hv; exact ⟨none, 0, rfl, fun _ => ⟨rfl, rfl⟩, Nat.le_refl _, fun h => by simp at h⟩
  · have hl : l.length = 0 ∨ 0 < l.length := by omega
    generalize hxs : encInts l = xs at hv
    generalize hn : l.length = n at hv ⊢
    cases hv with
    | ron => exact ⟨none, 0, rfl, fun _ => ⟨by rw [← List.length_eq_zero_iff]; omega, rfl⟩, Nat.le_refl _, fun h => by omega⟩
    | ro _ _ _ a cap us h1 h2 h3 h4 h5 =>
      refine ⟨some a, cap, rfl, (fun h => by cases h), h1, fun h0 => ?_⟩
      have hx0 : 0 < xs.length := by omega
      obtain ⟨e1, e2⟩ := h3 hx0
      obtain ⟨b, off, spot⟩ := a
      simp only at e1 e2
      subst e1
      have hus := h5.intsOf (l := l) (by rw [← hxs]; exact decInts_enc l)
      subst hus
      refine ⟨b, off, rfl, e2, fun j hj => ?_⟩
      have := h4 j (.int .i64 (l.getD j 0)) (by simp [List.getD, List.getElem?_eq_getElem (show j < l.length by omega)])
      rwa [show (⟨b, off, none⟩ : Addr).add j = ⟨b, off + j, none⟩ by unfold Addr.add; split <;> simp_all] at this
def p69 : PFn := ⟨69, fun
  | [x] => match isl x with
    | some l => bif Nat.ble l.length 1000000 then some (.ro (encInts l) l.length 1) else none
    | none => none
  | _ => none⟩
theorem ron_any {W : World} {B : Nat} {g : Map} {ao : Option Addr} {cap : Nat} (h : ao = none → cap = 0) : VRel W B g (.ro [] 0 1) (.slice ao 0 cap) := by
  cases ao with
  | none => have := h rfl; subst this; exact .ron 1
  | some a => exact .ro [] 0 1 a cap [] (Nat.zero_le _) rfl (fun h => by simp at h) (fun j u h => by simp at h) .nil
theorem owns_tree {w : World} {base : Nat} {e : TypeId} {v : Value} {l : List Int} (h : w.ownsRow base e 1 v l.length (l.map (Value.int .i64))) : TRel w base (.ro (encInts l) l.length 1) v := by
  obtain ⟨h1, h2⟩ := h
  have hl : l = [] ∨ l ≠ [] := by cases l <;> simp
  rcases hl with rfl | hl
  · rcases h2 with ⟨rfl, _⟩ | ⟨b, cap, cur, rfl, _⟩
    · exact .ron 1 _ (fun _ _ _ => .ron 1)
    · exact .ron 1 _ (fun _ _ _ => ron_any (fun h => by cases h))
  · have hpos := List.length_pos_iff.2 hl
    rcases h2 with ⟨rfl, h3⟩ | ⟨b, cap, cur, rfl, h3, h4, h5, h6, h7, h8⟩
    · omega
    · refine .ro (encInts l) l.length 1 ⟨b, 0, none⟩ cap b cur e (l.map (Value.int .i64)) (fun h => hl (by simpa [encInts] using h)) h5 h6 h3 h4 (fun _ => ⟨rfl, by omega⟩) (encInts_all l) (fun j u hj => ?_) ?_
      · rw [← h8] at hj
        have hj' := (List.getElem?_eq_some_iff.1 hj).1
        rw [List.getElem?_take] at hj
        split at hj
        · simpa using hj
        · cases hj
      · clear h1 h8 hl hpos h5
        induction l with
        | nil => exact .nil
        | cons a l ih => exact .cons _ _ _ _ (.plain _ _ (fun _ _ _ => .int _ _) rfl) ih
theorem p69_ok : p69.OkT := by
  intro W L args y hs vs hv
  simp only [p69] at hs
  split at hs
  · rename_i x
    cases hx : isl x with
    | none => simp [hx] at hs
    | some l =>
      simp only [hx] at hs
      cases hb : Nat.ble l.length 1000000 with
      | false => simp [hb] at hs
      | true =>
        simp only [hb, cond_true, Option.some.injEq] at hs
        subst hs
        have hb := Nat.le_of_ble_eq_true hb
        obtain ⟨u, rfl, h1⟩ := args_one hv
        obtain ⟨ao, cap, rfl, h2, h3, h4⟩ := isl_real hx h1
        show Calls Tryz.prog 69 _ W _
        cases ao with
        | none =>
          obtain ⟨rfl, rfl⟩ := h2 rfl
          exact Calls.mono (Any.slices_Clone_int_nil laysClone 0 0 W) (fun e w' ⟨q1, q2⟩ => ⟨⟨_, q1, .ron 1 _ (fun _ _ _ => .ron 1)⟩, by rw [q2]; exact Below.refl _ _⟩)
        | some a =>
          rcases Nat.eq_zero_or_pos l.length with h0 | h0
          · have := List.length_eq_zero_iff.1 h0
            subst this
            exact Calls.mono (Any.slices_Clone_int_zero laysClone a cap W) (fun e w' ⟨v', q1, q2, _, q3⟩ => ⟨⟨_, q1, owns_tree (l := []) q2⟩, q3⟩)
          · obtain ⟨b, off, e1, h5, h6⟩ := h4 h0
            cases e1
            refine Calls.mono (Any.slices_Clone_int laysClone b off l.length cap l W (Nat.le_refl _) (by omega) h6) (fun e w' ⟨v', q1, q2, _, q3⟩ => ⟨⟨_, q1, owns_tree (e := ρL.t 3) ?_⟩, q3⟩)
            rw [List.take_length] at q2
            exact q2
  · cases hs
def sortedB : List Int → Bool
  | [] => true
  | [_] => true
  | a :: b :: l => decide (a ≤ b) && sortedB (b :: l)
theorem sortedB_pairwise : ∀ {l : List Int}, sortedB l = true → l.Pairwise (· ≤ ·)
  | [], _ => .nil
  | [_], _ => by simp
  | a :: b :: l, h => by
    simp only [sortedB, Bool.and_eq_true, decide_eq_true_eq] at h
    have ih := sortedB_pairwise h.2
    refine .cons (fun x hx => ?_) ih
    cases hx with
    | head => exact h.1
    | tail _ hx => exact Int.le_trans h.1 ((List.pairwise_cons.1 ih).1 x hx)
theorem sortedB_of : ∀ {l : List Int}, l.Pairwise (· ≤ ·) → sortedB l = true
  | [], _ => rfl
  | [_], _ => rfl
  | a :: b :: l, h => by
    have h1 := List.pairwise_cons.1 h
    simp only [sortedB, Bool.and_eq_true, decide_eq_true_eq]
    exact ⟨h1.1 b (by simp), sortedB_of h1.2⟩
def p70 : PFn := ⟨70, fun
  | [x, .int .i64 a] => match isl x with
    | some l => bif Nat.ble l.length 1000000 && sortedB l then some (.tup [.int .i64 ((l.countP (· < a) : Nat) : Int), .bool (l.contains a)]) else none
    | none => none
  | _ => none⟩
theorem search_empty (a : Option Addr) (c : Nat) (x : Int) (w : World) : Calls Tryz.prog 70 #[.slice a 0 c, .int .i64 x] w fun e w' => e = .returned (.tuple #[.int .i64 0, .bool false]) ∧ ∃ q, w' = w.drewN q :=
  Calls.mono (Any.slices_BinarySearch_int_empty laysSearch a c x w) (fun e w' h => ⟨by simpa using h.1, 0, h.2⟩)
theorem p70_ok : p70.Ok := by
  intro W L args y hs
  simp only [p70] at hs
  split at hs
  · rename_i x a
    cases hx : isl x with
    | none => simp [hx] at hs
    | some l =>
      simp only [hx] at hs
      cases hb : Nat.ble l.length 1000000 && sortedB l with
      | false => simp [hb] at hs
      | true =>
        simp only [hb, cond_true, Option.some.injEq] at hs
        subst hs
        rw [Bool.and_eq_true_iff] at hb
        have hb1 := Nat.le_of_ble_eq_true hb.1
        refine ⟨rfl, fun vs hv => ?_⟩
        obtain ⟨u, v, rfl, h1, h1'⟩ := args_two hv
        cases h1'
        obtain ⟨ao, cap, rfl, h2, h3, h4⟩ := isl_real hx h1
        show Calls Tryz.prog 70 _ W _
        rcases Nat.eq_zero_or_pos l.length with h0 | h0
        · have := List.length_eq_zero_iff.1 h0
          subst this
          refine Calls.mono (search_empty ao cap a W) (fun e w' ⟨q1, q, q2⟩ => ⟨⟨_, q1, ?_⟩, by rw [q2]; exact below_drewN' W q⟩)
          exact .tup _ _ (.cons _ _ _ _ (.int _ _) (.cons _ _ _ _ (.bool _) .nil))
        · obtain ⟨b, off, e1, h5, h6⟩ := h4 h0
          subst e1
          refine Calls.mono (Any.slices_BinarySearch_int laysSearch b off l.length cap l a W (Nat.le_refl _) (by omega) h6 (by rw [List.take_length]; exact sortedB_pairwise hb.2)) (fun e w' ⟨q1, q, q2⟩ => ⟨⟨_, q1, ?_⟩, by rw [q2]; exact below_drewN' W q⟩)
          rw [List.take_length]
          exact .tup _ _ (.cons _ _ _ _ (.int _ _) (.cons _ _ _ _ (.bool _) .nil))
  · cases hs
end Go.Vz
