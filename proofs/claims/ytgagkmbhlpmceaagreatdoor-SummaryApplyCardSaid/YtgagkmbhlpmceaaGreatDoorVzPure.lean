/-
  V's PURE OPERATIONS are the machine's: whatever the world.
-/
import Derived.Test.YtgagkmbhlpmceaaGreatDoorVzRel
import Derived.Laws.Concat
import Derived.Laws.Tables
import Derived.Laws.Slices
set_option linter.unusedVariables false
set_option linter.unusedSimpArgs false
namespace Go.Vz
open Go Go.RowKit

/-! ### Strings -/
theorem natOf_length (s : ByteArray) : (natOf s).length = s.size := by
  unfold natOf
  rw [List.length_map]
  rfl
theorem natOf_append (a b : ByteArray) : natOf (a ++ b) = natOf a ++ natOf b := by
  unfold natOf
  rw [ByteArray.data_append, Array.toList_append, List.map_append]
theorem toList_eq' (s : ByteArray) : s.toList = s.data.toList := ByteArray.toList_eq s
theorem eqNats_map : ∀ (a b : List UInt8), eqNats (a.map (·.toNat)) (b.map (·.toNat)) = (a == b)
  | [], [] => rfl
  | [], _ :: _ => rfl
  | _ :: _, [] => rfl
  | x :: a, y :: b => by
    simp only [List.map_cons, eqNats, eqNats_map a b, List.cons_beq_cons]
    congr 1
    rw [Bool.eq_iff_iff, Nat.beq_eq, beq_iff_eq, UInt8.toNat_inj]
theorem ltNats_map : ∀ (a b : List UInt8), ltNats (a.map (·.toNat)) (b.map (·.toNat)) = Op.bytesLess a b
  | [], [] => rfl
  | [], _ :: _ => rfl
  | _ :: _, [] => rfl
  | x :: a, y :: b => by
    simp only [List.map_cons, ltNats, ltNats_map a b, Op.bytesLess]
    have h1 : Nat.ble (x.toNat + 1) y.toNat = decide (x < y) := by
      rw [Bool.eq_iff_iff, Nat.ble_eq, decide_eq_true_iff, UInt8.lt_iff_toNat_lt]
      omega
    have h2 : Nat.beq x.toNat y.toNat = (x == y) := by rw [Bool.eq_iff_iff, Nat.beq_eq, beq_iff_eq, UInt8.toNat_inj]
    rw [h1, h2]
theorem natOf_extract (s : ByteArray) (l h : Nat) : natOf (s.extract l h) = ((natOf s).take h).drop l := by
  simp only [natOf, ByteArray.data_extract, Array.toList_extract, List.extract_eq_take_drop, List.map_take, List.map_drop]
  rw [List.drop_take]
theorem natOf_get (s : ByteArray) (i : Nat) : (natOf s)[i]? = (s[i]?).map (·.toNat) := by
  simp only [natOf, List.getElem?_map]
  congr 1
  by_cases h : i < s.size
  · rw [getElem?_pos s i h, List.getElem?_eq_getElem (by simpa using h)]; rfl
  · rw [getElem?_neg s i h, List.getElem?_eq_none (by simpa using h)]

section
variable {w0 : World} {base : Nat} {g : Map} {P : Program}
theorem ofCell_rel {v : Value} {x : AV} (h : ofCell v = some x) : VRel w0 base g x v := by
  unfold ofCell at h
  split at h <;> cases h
  · exact .bool _
  · exact .int _ _
  · exact .str _ _ rfl
  · exact .nilptr
  · exact .nilsl
  · exact .nilmap
  · exact .nilfn
  · exact .niliface
theorem ofCells_rel : ∀ {vs : List Value} {xs : List AV}, ofCells vs = some xs → VRels w0 base g xs vs
  | [], xs, h => by simp only [ofCells, Option.some.injEq] at h; subst h; exact .nil
  | v :: vs, xs, h => by
    simp only [ofCells] at h
    cases h1 : ofCell v with
    | none => simp [h1] at h
    | some x =>
      cases h2 : ofCells vs with
      | none => simp [h1, h2] at h
      | some ys =>
        simp only [h1, h2, Option.some.injEq] at h
        subst h
        exact .cons _ _ _ _ (ofCell_rel h1) (ofCells_rel h2)
theorem ofV_rel {v : Value} {x : AV} (h : ofV v = some x) : VRel w0 base g x v := by
  unfold ofV at h
  split at h
  · rename_i cs
    cases h1 : ofCells cs.toList with
    | none => simp [h1] at h
    | some xs => simp only [h1, Option.map_some, Option.some.injEq] at h; subst h; exact .agg _ _ (ofCells_rel h1)
  · exact ofCell_rel h
theorem zeroT_run {t : TypeId} {x : AV} (h : zeroT P t = some x) : ∃ z, VRel w0 base g x z ∧ (∃ i, P.info? t = some i ∧ i.zero = some z) ∧ ∀ w, (zeroValue t).run P w = .ok z w := by
  unfold zeroT at h
  cases hi : P.info? t with
  | none => simp [hi] at h
  | some i =>
    simp only [hi] at h
    cases hz : i.zero with
    | none => simp [hz] at h
    | some z =>
      simp only [hz] at h
      exact ⟨z, ofV_rel h, ⟨i, rfl, hz⟩, fun w => by simp [zeroValue, typeInfo, hi, hz]⟩
theorem sizeT_run {t : TypeId} {n : Nat} (h : sizeT P t = some n) (w : World) : (sizeOf t).run P w = .ok n w := by
  unfold sizeT at h
  cases hi : P.info? t with
  | none => simp [hi] at h
  | some i => simp [hi] at h; simp [sizeOf, typeInfo, hi, h]
theorem aggT_run {t : TypeId} {b : Bool} (h : aggT P t = some b) (w : World) : (isAgg t).run P w = .ok b w := by
  unfold aggT at h
  cases hu : P.underlying t with
  | none => simp [hu] at h
  | some d =>
    simp only [hu, Option.map_some, Option.some.injEq] at h
    subst h
    cases d <;> simp [isAgg, run_underlying hu]
theorem takeN_eq : ∀ {n : Nat} {xs ys : List AV}, takeN n xs = some ys → ys = xs.take n ∧ n ≤ xs.length
  | 0, xs, ys, h => by simp only [takeN, Option.some.injEq] at h; subst h; simp
  | n + 1, [], ys, h => by simp [takeN] at h
  | n + 1, x :: xs, ys, h => by
    simp only [takeN] at h
    cases h1 : takeN n xs with
    | none => simp [h1] at h
    | some zs =>
      simp only [h1, Option.map_some, Option.some.injEq] at h
      obtain ⟨e, hl⟩ := takeN_eq h1
      subst h
      exact ⟨by simp [e], by simp; omega⟩
theorem partA_run {t : TypeId} {xs : List AV} {vs : Array Value} {off : Nat} {x : AV} (h : partA P t xs off = some x) (hr : VRels w0 base g xs vs.toList) :
    ∃ v, VRel w0 base g x v ∧ ∀ w, (part t vs off).run P w = .ok v w := by
  unfold partA at h
  split at h
  · rename_i n ha hs
    cases h1 : takeN n (xs.drop off) with
    | none => simp [h1] at h
    | some ys =>
      simp only [h1, Option.map_some, Option.some.injEq] at h
      subst h
      obtain ⟨e, hl⟩ := takeN_eq h1
      refine ⟨.agg (vs.extract off (off + n)), .agg _ _ ?_, fun w => by simp [part, aggT_run ha, sizeT_run hs]⟩
      rw [e, Array.toList_extract, List.extract_eq_take_drop, show off + n - off = n by omega]
      exact (hr.drop off).take n
  · rename_i n ha hs
    obtain ⟨v, hv, hrv⟩ := hr.get h
    exact ⟨v, hrv, fun w => by
      have hv' : vs[off]? = some v := by simpa using hv
      simp [part, aggT_run ha, hv']⟩
  · cases h
end
end Go.Vz
