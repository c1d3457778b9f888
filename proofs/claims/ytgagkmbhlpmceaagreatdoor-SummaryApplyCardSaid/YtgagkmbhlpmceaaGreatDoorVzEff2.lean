/-
  V's WRITING OPERATIONS, one by one.
-/
import Derived.Test.YtgagkmbhlpmceaaGreatDoorVzEff
set_option linter.unusedVariables false
set_option linter.unusedSimpArgs false
namespace Go.Vz
open Go Go.RowKit
theorem ofCell_isCell {v : Value} {x : AV} (h : ofCell v = some x) : x.isCell = true := by
  unfold ofCell at h
  split at h <;> cases h <;> rfl
theorem ofCells_all : ∀ {vs : List Value} {xs : List AV}, ofCells vs = some xs → allCells xs = true
  | [], xs, h => by simp only [ofCells] at h; cases h; rfl
  | v :: vs, xs, h => by
    simp only [ofCells] at h
    cases h1 : ofCell v with
    | none => simp [h1] at h
    | some x =>
      cases h2 : ofCells vs with
      | none => simp [h1, h2] at h
      | some ys =>
        simp only [h1, h2, Option.some.injEq] at h
        subst h
        simp only [allCells, ofCell_isCell h1, ofCells_all h2, Bool.and_self]
theorem cells_of_cell {x : AV} (h : x.isCell = true) : x.cells = [x] := by cases x <;> first | rfl | cases h
theorem ofV_all {v : Value} {x : AV} (h : ofV v = some x) : allCells x.cells = true := by
  unfold ofV at h
  split at h
  · rename_i cs
    cases h1 : ofCells cs.toList with
    | none => simp [h1] at h
    | some xs => simp only [h1, Option.map_some, Option.some.injEq] at h; subst h; exact ofCells_all h1
  · have hx := ofCell_isCell h
    rw [cells_of_cell hx]
    simp only [allCells, hx, Bool.and_self]
theorem zeroT_all {P : Program} {t : TypeId} {x : AV} (h : zeroT P t = some x) : allCells x.cells = true := by
  unfold zeroT at h
  cases hi : P.info? t with
  | none => simp [hi] at h
  | some i =>
    simp only [hi] at h
    cases hz : i.zero with
    | none => simp [hz] at h
    | some z => simp only [hz] at h; exact ofV_all h
theorem replicateA_length (zs : List AV) : ∀ n, (replicateA n zs).length = n * zs.length
  | 0 => by simp [replicateA]
  | n + 1 => by simp only [replicateA, List.length_append, replicateA_length zs n, Nat.succ_mul]; omega
theorem allCells_append {xs ys : List AV} (h : allCells xs = true) (k : allCells ys = true) : allCells (xs ++ ys) = true :=
  allCells_of fun x hx => by
    rcases List.mem_append.1 hx with h1 | h1
    · exact allCells_mem h x h1
    · exact allCells_mem k x h1
theorem replicateA_all {zs : List AV} (h : allCells zs = true) : ∀ n, allCells (replicateA n zs) = true
  | 0 => rfl
  | n + 1 => allCells_append h (replicateA_all h n)
section
variable {w0 : World} {base : Nat} {g g' : Map} {P : Program} {m m' : Mem} {w w' : World} {r : Operand → Option AV} {ρ : Operand → Value}

theorem eff_alloc (R : Rel w0 base g m w) {t : TypeId} {z : AV} (hz : zeroT P t = some z) :
    EffTo w0 base g P (do pure (Next.value (← Instr.alloc t true (.tuple #[])))) w (m.fresh (some t) z.cells) (.val (.ptr m.nxt 0)) := by
  obtain ⟨zv, h1, _, h2⟩ := zeroT_run (w0 := w0) (base := base) (g := g) hz
  obtain ⟨q1, q2⟩ := R.fresh1 z.cells zv.cells t (zeroT_all hz) (VRels.cells h1)
  refine EffTo.ofVal (v := .pointer (some ⟨w.heap.size, 0, none⟩)) (w' := w.alloc (.cells zv.cells t (0, 0))) ?_ q1 (.ptr _ _ 0 _ (Map.add_same _ _ _) rfl) q2
  simp only [Instr.alloc, Sem.run_bind, h2, Result.andThen_ok, newVar, newRow, run_newObj, Sem.run_pure]
  rfl
theorem eff_box (R : Rel w0 base g m w) {t : TypeId} {x : AV} {v : Value} (hx : VRel w0 base g x v) (ha : allCells x.cells = true) :
    EffTo w0 base g P (do pure (Next.value (← Instr.box t v))) w (m.fresh (some t) x.cells) (.val (.ptr m.nxt 0)) := by
  obtain ⟨q1, q2⟩ := R.fresh1 x.cells v.cells t ha (VRels.cells hx)
  refine EffTo.ofVal (v := .pointer (some ⟨w.heap.size, 0, none⟩)) (w' := w.alloc (.cells v.cells t (0, 0))) ?_ q1 (.ptr _ _ 0 _ (Map.add_same _ _ _) rfl) q2
  simp only [Instr.box, Sem.run_bind, Result.andThen_ok, newVar, newRow, run_newObj, Sem.run_pure]
  rfl
theorem store_addr {a : AV} {xs : List AV} {u : Value} (h : m.store a xs = some m') (hu : VRel w0 base g a u) : (∃ v k, a = .ptr v k) ∧ ∃ ad, u = .pointer (some ad) := by
  unfold Mem.store at h
  split at h
  · cases hu; exact ⟨⟨_, _, rfl⟩, _, rfl⟩
  · cases h
theorem eff_store (R : Rel w0 base g m w) {t : TypeId} {a x : AV} {u v : Value} {n : Nat} (ha : VRel w0 base g a u) (hx : VRel w0 base g x v) (hs : sizeT P t = some n) (hn : x.cells.length = n) (h : m.store a x.cells = some m') :
    EffTo w0 base g P (do Instr.storeAt t u v; pure .skip) w m' .skip := by
  obtain ⟨⟨vv, k, rfl⟩, ad, rfl⟩ := store_addr h ha
  have hc := VRels.cells hx
  obtain ⟨w', h1, h2⟩ := R.store h ha hc
  have hsz : v.cells.size = n := by
    have := hc.length
    rw [Array.length_toList (xs := v.cells)] at this
    omega
  refine ⟨w', g, ?_, Map.le_refl g, h2⟩
  simp only [Instr.storeAt, Sem.run_bind, Instr.sureAddr, Sem.run_pure, Result.andThen_ok, storeVar, sizeT_run hs, hsz, ne_eq, not_true_eq_false, if_false, h1]
theorem eff_buildSlice (R : Rel w0 base g m w) {t e : TypeId} {len n : Nat} {parts : Array (Nat × Operand)} {z : AV} {ps : List (Nat × AV)} {cs : List AV} (hr : ∀ y a, r y = some a → VRel w0 base g a (ρ y)) (hu : P.underlying t = some (.slice e)) (hs : sizeT P e = some (n + 1)) (hz : zeroT P e = some z)
    (hp : partsA r parts.toList = some ps) (hsmall : len * (n + 1) ≤ 16777216) (hzl : z.cells.length = n + 1) (hf : fillA (fun i => some (i * (n + 1), n + 1)) (replicateA len z.cells) ps = some cs) (hc : allCells cs = true) :
    EffTo w0 base g P (do pure (Next.value (← Instr.buildSlice t len (parts.map fun (i, x) => (i, ρ x))))) w (m.fresh (some e) cs) (.val (.sl m.nxt 0 len (n + 1))) := by
  obtain ⟨zv, h1, _, h2⟩ := zeroT_run (w0 := w0) (base := base) (g := g) hz
  have hzc := VRels.cells h1
  have hzs : zv.cells.size = n + 1 := by
    have := hzc.length
    rw [Array.length_toList (xs := zv.cells)] at this
    omega
  have hrange : ((Array.range (len * (n + 1))).map (fun i => zv.cells[i % zv.cells.size]!)).toList = (List.replicate len zv.cells.toList).flatten := by
    have := zero_cells zv.cells len (by omega)
    rw [show len * (n + 1) = len * zv.cells.size by rw [hzs]]
    exact this
  obtain ⟨us, hus, hru⟩ := fillA_rel (vs := (Array.range (len * (n + 1))).map (fun i => zv.cells[i % zv.cells.size]!)) hf (by rw [hrange]; exact replicateA_rel hzc len) (partsA_rel hr hp)
  obtain ⟨q1, q2⟩ := R.fresh1 cs us e hc hru
  have hzero : (do if len * (n + 1) = 0 then pure #[] else do pure (← zeroValue e).cells : Sem (Array Value)).run P w = .ok (if len * (n + 1) = 0 then #[] else zv.cells) w := by
    split <;> simp [h2]
  have hus' : Instr.fill (fun i => some (i * (n + 1), n + 1)) ((Array.range (len * (n + 1))).map (fun i => (if len * (n + 1) = 0 then #[] else zv.cells)[i % (if len * (n + 1) = 0 then #[] else zv.cells).size]!)) (parts.map fun (i, x) => (i, ρ x)).toList = some us := by
    by_cases h0 : len * (n + 1) = 0
    · rw [if_pos h0]
      rw [h0] at hus ⊢
      rw [show Array.range 0 = #[] from rfl] at hus ⊢
      simpa using hus
    · rw [if_neg h0]; simpa using hus
  have hsz : us.size = len * (n + 1) := by
    have e1 := hru.length
    rw [Array.length_toList (xs := us)] at e1
    have e2 : cs.length = (replicateA len z.cells).length := by
      clear hus hus' hru q1 q2 hc
      -- laying parts keeps the number of cells
      have key : ∀ (ps : List (Nat × AV)) (as bs : List AV), fillA (fun i => some (i * (n + 1), n + 1)) as ps = some bs → bs.length = as.length := by
        intro ps
        induction ps with
        | nil => intro as bs h; simp only [fillA] at h; cases h; rfl
        | cons q ps ih =>
          obtain ⟨i, x⟩ := q
          intro as bs h
          simp only [fillA] at h
          cases hb : Nat.beq x.cells.length (n + 1) with
          | false => simp [hb] at h
          | true =>
            simp only [hb, cond_true] at h
            cases hpc : putCells as (i * (n + 1)) x.cells with
            | none => simp [hpc] at h
            | some ds =>
              simp only [hpc] at h
              obtain ⟨hl, e⟩ := putCells_eq hpc
              rw [ih ds bs h, e, List.length_append, List.length_append, List.length_take, List.length_drop]
              omega
      exact key ps _ _ hf
    rw [replicateA_length, hzl] at e2
    omega
  refine EffTo.ofVal (v := .slice (some ⟨w.heap.size, 0, none⟩) len len) (w' := w.alloc (.cells us e (0, 0))) ?_ q1 (.sl _ _ _ _ _ _ _ (Map.add_same _ _ _) (Nat.le_refl _) ?_ (fun _ => ⟨0, rfl, rfl, ?_⟩)) q2
  · have hbig : ¬ (16777216 < len * (n + 1)) := by omega
    by_cases h0 : len * (n + 1) = 0
    · simp only [h0, if_true] at hus'
      have h0' : len = 0 := by
        rcases Nat.mul_eq_zero.1 h0 with h | h
        · exact h
        · omega
      subst h0'
      rw [show Array.range 0 = #[] from rfl] at hus'
      have hus2 : Instr.fill (fun i => some (i * (n + 1), n + 1)) #[] (List.map (fun x : Nat × Operand => (x.fst, ρ x.snd)) parts.toList) = some us := by simpa using hus'
      have hr0 : Array.range 0 = #[] := rfl
      simp [hus2, Instr.buildSlice, run_underlying hu, sizeT_run hs, newRow, hr0]
    · simp only [h0, if_false] at hus'
      have h0' : ¬ len = 0 := fun h => h0 (by rw [h]; simp)
      simp only [Array.toList_map] at hus'
      simp [Instr.buildSlice, run_underlying hu, sizeT_run hs, newRow, hbig, h0, h0', h2, hus']
  · have : len ≤ len * (n + 1) := Nat.le_mul_of_pos_right _ (by omega)
    simp only [maxLen]; omega
  · show 0 + len * (n + 1) ≤ us.size
    omega
end
end Go.Vz
