/-
  V's PURE OPERATIONS: operands, bounds, parts.
-/
import Derived.Test.YtgagkmbhlpmceaaGreatDoorVzPure3
set_option linter.unusedVariables false
set_option linter.unusedSimpArgs false
namespace Go.Vz
open Go Go.RowKit
section
variable {w0 : World} {base : Nat} {g : Map} {P : Program} {r : Operand → Option AV} {ρ : Operand → Value}

theorem natOf?_rel (hr : ∀ y a, r y = some a → VRel w0 base g a (ρ y)) {y : Operand} {n : Nat} (h : natOf? (r y) = some n) : ∃ k, ρ y = .int k n := by
  unfold natOf? at h
  split at h
  · rename_i k m he
    cases h
    have := hr _ _ he
    generalize hv : ρ y = v at this
    cases this
    exact ⟨k, rfl⟩
  · cases h
theorem operands_rel (hr : ∀ y a, r y = some a → VRel w0 base g a (ρ y)) : ∀ {l : List Operand} {xs : List AV}, operands r l = some xs → VRels w0 base g xs (l.map ρ)
  | [], xs, h => by simp only [operands] at h; cases h; exact .nil
  | y :: l, xs, h => by
    simp only [operands] at h
    cases h1 : r y with
    | none => simp [h1] at h
    | some a =>
      cases h2 : operands r l with
      | none => simp [h1, h2] at h
      | some as =>
        simp only [h1, h2] at h
        cases h
        exact .cons _ _ _ _ (hr _ _ h1) (operands_rel hr h2)
/-- what a slice expression's bounds come to -/
theorem bounds_run (hr : ∀ y a, r y = some a → VRel w0 base g a (ρ y)) {lo hi : Option Operand} {len cap l h : Nat} (hb : bounds r lo hi len = some (l, h)) (hc : len ≤ cap) (s : Bool) :
    l ≤ h ∧ h ≤ len ∧ ∀ w, (Instr.sliceBounds s len cap (lo.map ρ) (hi.map ρ) none).run P w = .ok (l, h, cap) w := by
  unfold bounds at hb
  cases hi with
  | none =>
    simp only at hb
    cases lo with
    | none =>
      simp only at hb
      cases h1 : Nat.ble 0 len && Nat.ble len len with
      | false => simp [h1] at hb
      | true =>
        simp only [h1, cond_true] at hb; cases hb
        exact ⟨Nat.zero_le _, Nat.le_refl _, fun w => by simp [Instr.sliceBounds]⟩
    | some y =>
      simp only at hb
      cases hy : natOf? (r y) with
      | none => simp [hy] at hb
      | some l' =>
        simp only [hy] at hb
        cases h1 : Nat.ble l' len && Nat.ble len len with
        | false => simp [h1] at hb
        | true =>
          simp only [h1, cond_true] at hb; cases hb
          obtain ⟨k, hk⟩ := natOf?_rel hr hy
          have hl : l ≤ len := Nat.le_of_ble_eq_true (Bool.and_eq_true_iff.1 h1).1
          exact ⟨hl, Nat.le_refl _, fun w => by simp [Instr.sliceBounds, hk, run_sliceBound_if, hl]⟩
  | some z =>
    simp only at hb
    cases hz : natOf? (r z) with
    | none => simp [hz] at hb
    | some h' =>
      simp only [hz] at hb
      obtain ⟨kz, hkz⟩ := natOf?_rel hr hz
      cases lo with
      | none =>
        simp only at hb
        cases h1 : Nat.ble 0 h' && Nat.ble h' len with
        | false => simp [h1] at hb
        | true =>
          simp only [h1, cond_true] at hb; cases hb
          have hl : h ≤ len := Nat.le_of_ble_eq_true (Bool.and_eq_true_iff.1 h1).2
          exact ⟨Nat.zero_le _, hl, fun w => by simp [Instr.sliceBounds, hkz, run_sliceBound_if, Nat.le_trans hl hc]⟩
      | some y =>
        simp only at hb
        cases hy : natOf? (r y) with
        | none => simp [hy] at hb
        | some l' =>
          simp only [hy] at hb
          cases h1 : Nat.ble l' h' && Nat.ble h' len with
          | false => simp [h1] at hb
          | true =>
            simp only [h1, cond_true] at hb; cases hb
            obtain ⟨k, hk⟩ := natOf?_rel hr hy
            have hl : l ≤ h := Nat.le_of_ble_eq_true (Bool.and_eq_true_iff.1 h1).1
            have hl2 : h ≤ len := Nat.le_of_ble_eq_true (Bool.and_eq_true_iff.1 h1).2
            exact ⟨hl, hl2, fun w => by simp [Instr.sliceBounds, hkz, hk, run_sliceBound_if, hl, Nat.le_trans hl2 hc]⟩

/-! ### Parts laid into cells -/
theorem putCells_eq : ∀ {cs : List AV} {n : Nat} {xs zs : List AV}, putCells cs n xs = some zs → n + xs.length ≤ cs.length ∧ zs = cs.take n ++ xs ++ cs.drop (n + xs.length)
  | cs, 0, [], zs, h => by
    have : zs = cs := by cases cs <;> simp [putCells] at h <;> simp [h]
    subst this; simp
  | [], 0, x :: xs, zs, h => by simp [putCells] at h
  | [], n + 1, xs, zs, h => by simp [putCells] at h
  | c :: cs, 0, x :: xs, zs, h => by
    simp only [putCells] at h
    cases h1 : putCells cs 0 xs with
    | none => simp [h1] at h
    | some ys =>
      simp only [h1, Option.map_some, Option.some.injEq] at h
      obtain ⟨hl, e⟩ := putCells_eq h1
      subst h
      simp only [Nat.zero_add] at hl e ⊢
      exact ⟨by simp; omega, by simp [e]⟩
  | c :: cs, n + 1, xs, zs, h => by
    simp only [putCells] at h
    cases h1 : putCells cs n xs with
    | none => simp [h1] at h
    | some ys =>
      simp only [h1, Option.map_some, Option.some.injEq] at h
      obtain ⟨hl, e⟩ := putCells_eq h1
      subst h
      exact ⟨by simp; omega, by rw [e, show n + 1 + xs.length = (n + xs.length) + 1 by omega]; simp⟩
theorem foldl_put (off : Nat) : ∀ (l : List Value) (k : Nat) (cs : Array Value), off + k + l.length ≤ cs.size →
    ((l.zipIdx k).foldl (fun cs (x : Value × Nat) => cs.setIfInBounds (off + x.2) x.1) cs).toList = cs.toList.take (off + k) ++ l ++ cs.toList.drop (off + k + l.length)
  | [], k, cs, h => by simp
  | v :: l, k, cs, h => by
    simp only [List.zipIdx_cons, List.foldl_cons]
    simp only [List.length_cons] at h
    rw [foldl_put off l (k + 1) _ (by simp; omega)]
    simp only [Array.toList_setIfInBounds, List.length_cons]
    have hlt : off + k < cs.toList.length := by simp; omega
    rw [List.drop_set_of_lt (by omega), show off + (k + 1) = (off + k) + 1 by omega, List.take_succ_eq_append_getElem (by simpa using hlt)]
    rw [List.take_set_of_le (Nat.le_refl _)]
    simp [show off + k + 1 + l.length = off + k + (l.length + 1) by omega]
theorem fillA_rel {place : Nat → Option (Nat × Nat)} : ∀ {ps : List (Nat × AV)} {qs : List (Nat × Value)} {cs : List AV} {vs : Array Value} {zs : List AV},
    fillA place cs ps = some zs → VRels w0 base g cs vs.toList → (ps.map (·.1) = qs.map (·.1) ∧ VRels w0 base g (ps.map (·.2)) (qs.map (·.2))) →
    ∃ us, Instr.fill place vs qs = some us ∧ VRels w0 base g zs us.toList
  | [], [], cs, vs, zs, h, hr, _ => by simp only [fillA] at h; cases h; exact ⟨vs, rfl, hr⟩
  | [], _ :: _, cs, vs, zs, h, hr, hp => by simp at hp
  | _ :: _, [], cs, vs, zs, h, hr, hp => by simp at hp
  | (i, x) :: ps, (j, v) :: qs, cs, vs, zs, h, hr, hp => by
    simp only [List.map_cons, List.cons.injEq] at hp
    obtain ⟨⟨rfl, hp1⟩, hp2⟩ := hp
    cases hp2 with | cons _ _ _ _ hxv hps =>
    simp only [fillA] at h
    cases hpl : place i with
    | none => simp [hpl] at h
    | some os =>
      obtain ⟨off, size⟩ := os
      simp only [hpl] at h
      cases hb : Nat.beq x.cells.length size with
      | false => simp [hb] at h
      | true =>
        simp only [hb, cond_true] at h
        cases hpc : putCells cs off x.cells with
        | none => simp [hpc] at h
        | some ds =>
          simp only [hpc] at h
          obtain ⟨hl, e⟩ := putCells_eq hpc
          have hc := VRels.cells hxv
          have hsz : v.cells.size = size := by
            have h2 : x.cells.length = v.cells.size := by simpa using hc.length
            rw [← h2]; exact Nat.eq_of_beq_eq_true hb
          have hle : off + v.cells.size ≤ vs.size := by
            have h1 : cs.length = vs.size := by simpa using hr.length
            have h2 : x.cells.length = v.cells.size := by simpa using hc.length
            omega
          have hf : (v.cells.zipIdx.foldl (fun cs (x : Value × Nat) => cs.setIfInBounds (off + x.2) x.1) vs).toList = vs.toList.take off ++ v.cells.toList ++ vs.toList.drop (off + v.cells.size) := by
            rw [← Array.foldl_toList, Array.toList_zipIdx, foldl_put off v.cells.toList 0 vs (by simpa using hle)]
            simp
          obtain ⟨us, hus, hru⟩ := fillA_rel (vs := v.cells.zipIdx.foldl (fun cs (x : Value × Nat) => cs.setIfInBounds (off + x.2) x.1) vs) h (by
            rw [hf, e, hc.length, Array.length_toList]
            exact ((hr.take off).append hc).append (hr.drop _)) ⟨hp1, hps⟩
          refine ⟨us, ?_, hru⟩
          simp only [Instr.fill, hpl]
          rw [if_neg (by simp [hsz]; omega)]
          exact hus
theorem partsA_rel (hr : ∀ y a, r y = some a → VRel w0 base g a (ρ y)) : ∀ {l : List (Nat × Operand)} {ps : List (Nat × AV)}, partsA r l = some ps →
    ps.map (·.1) = (l.map fun (i, x) => (i, ρ x)).map (·.1) ∧ VRels w0 base g (ps.map (·.2)) ((l.map fun (i, x) => (i, ρ x)).map (·.2))
  | [], ps, h => by simp only [partsA] at h; cases h; exact ⟨rfl, .nil⟩
  | (i, y) :: l, ps, h => by
    simp only [partsA] at h
    cases h1 : r y with
    | none => simp [h1] at h
    | some a =>
      cases h2 : partsA r l with
      | none => simp [h1, h2] at h
      | some qs =>
        simp only [h1, h2] at h
        cases h
        obtain ⟨e, hq⟩ := partsA_rel hr h2
        exact ⟨by simpa using e, by simpa using VRels.cons _ _ _ _ (hr _ _ h1) hq⟩
end
end Go.Vz
