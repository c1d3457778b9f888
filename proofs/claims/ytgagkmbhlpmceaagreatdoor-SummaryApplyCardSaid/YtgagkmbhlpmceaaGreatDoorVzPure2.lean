/-
  V's PURE OPERATIONS, one by one.
-/
import Derived.Test.YtgagkmbhlpmceaaGreatDoorVzPure
set_option linter.unusedVariables false
set_option linter.unusedSimpArgs false
namespace Go.Vz
open Go Go.RowKit
section
variable {w0 : World} {base : Nat} {g : Map} {P : Program}

theorem bin_run {op : BinOp} {k : IntKind} {a b : Int} {x : AV} (hs : op ≠ .shl ∧ op ≠ .shr) (h : bin op k a b = some x) (t : TypeId) :
    ∃ v, VRel w0 base g x v ∧ ∀ w, (Go.binOp op t (.int k a) (.int k b)).run P w = .ok v w := by
  cases op <;> simp only [bin] at h
  all_goals first
    | (cases h; exact ⟨_, by constructor, fun w => by simp [Go.binOp, Op.intArith, Op.intBits, Op.intCmp]⟩)
    | (split at h <;> first
        | (cases h; done)
        | (rename_i hb; cases h; exact ⟨_, by constructor, fun w => by simp [Go.binOp, Op.intDiv, hb]⟩))
    | (simp at hs; done)
    | (cases h; done)
theorem shiftA_run {op : BinOp} {k k' : IntKind} {a b : Int} {x : AV} (hs : op = .shl ∨ op = .shr) (h : shiftA op k a b = some x) (t : TypeId) :
    ∃ v, VRel w0 base g x v ∧ ∀ w, (Go.binOp op t (.int k a) (.int k' b)).run P w = .ok v w := by
  unfold shiftA at h
  split at h
  · cases h
  · rename_i hb
    rcases hs with rfl | rfl <;> (cases h; exact ⟨_, by constructor, fun w => by simp [Go.binOp, Op.shift, hb]⟩)
theorem binS_run {op : BinOp} {a b : ByteArray} {x : AV} (h : binS op (natOf a) (natOf b) = some x) (t : TypeId) :
    ∃ v, VRel w0 base g x v ∧ ∀ w, (Go.binOp op t (.string a) (.string b)).run P w = .ok v w := by
  have he : eqNats (natOf a) (natOf b) = (a.toList == b.toList) := by rw [toList_eq', toList_eq']; exact eqNats_map _ _
  have hl : ltNats (natOf a) (natOf b) = Op.bytesLess a.toList b.toList := by rw [toList_eq', toList_eq']; exact ltNats_map _ _
  have key : ∀ w, (Go.binOp op t (.string a) (.string b)).run P w = (Op.stringOp op a b).run P w := fun w => by cases op <;> rfl
  cases op <;> simp only [binS, he, hl] at h
  case add =>
    rw [natOf_length, natOf_length] at h
    cases hb : Nat.ble (a.size + b.size) 9223372036854775807 with
    | false => simp [hb] at h
    | true =>
      simp only [hb, cond_true] at h
      cases h
      refine ⟨.string (a ++ b), .str _ _ (natOf_append a b), fun w => ?_⟩
      rw [key w]
      exact run_string_add_sum w a b (Nat.le_of_ble_eq_true hb)
  all_goals first
    | (cases h; exact ⟨_, by constructor, fun w => by rw [key w]; simp [Op.stringOp]⟩)
    | (cases h; done)

theorem eqScalar_run {t : TypeId} {x y : AV} {u v : Value} {b : Bool} (h : eqScalar P t x y = some b) (hx : VRel w0 base g x u) (hy : VRel w0 base g y v) (d : Nat) (w : World) :
    (Op.equalIn (d + 1) t u v).run P w = .ok b w := by
  unfold eqScalar at h
  split at h
  · rename_i k' hu
    cases hx; cases hy
    split at h
    · rename_i e; subst e; cases h; exact run_equalIn_int w d t _ _ _ _ hu
    · cases h
  · rename_i hu
    cases hx with | str _ s e => cases hy with | str _ s' e' =>
      subst e; subst e'
      cases h
      rw [run_equalIn_string w d t s s' hu, toList_eq', toList_eq']
      congr 1
      exact (eqNats_map _ _).symm
  · rename_i hu
    cases hx; cases hy; cases h
    exact run_equalIn_bool w d t _ _ hu
  · cases h
theorem scalar_part {t : TypeId} (h : scalarT P t = true) {cs : Array Value} {i : Nat} {v : Value} (hv : cs[i]? = some v) (w : World) : (part t cs i).run P w = .ok v w := by
  unfold scalarT at h
  split at h <;> first
    | (rename_i hu; simp [part, isAgg, run_underlying hu, hv]; done)
    | (cases h; done)
theorem eqFieldsA_run {xs ys : Array Value} : ∀ {fs : List Field} {i : Nat} {as bs : List AV} {b : Bool}, flatF P fs i = true → eqFieldsA P fs as bs = some b →
    VRels w0 base g as (xs.toList.drop i) → VRels w0 base g bs (ys.toList.drop i) → ∀ (d : Nat) (w : World), (Op.eqFields (d + 1) xs ys fs).run P w = .ok b w
  | [], i, as, bs, b, hf, h, hx, hy, d, w => by
    cases as with
    | nil => cases bs with
      | nil => simp only [eqFieldsA] at h; cases h; rfl
      | cons => simp [eqFieldsA] at h
    | cons => simp [eqFieldsA] at h
  | f :: fs, i, as, bs, b, hf, h, hx, hy, d, w => by
    simp only [flatF, Bool.and_eq_true, bne_iff_ne, ne_eq] at hf
    obtain ⟨⟨⟨hn, ho⟩, hsc⟩, hrest⟩ := hf
    have ho' : f.offset = i := Nat.eq_of_beq_eq_true ho
    cases as with
    | nil => cases bs <;> simp [eqFieldsA] at h
    | cons x as => cases bs with
      | nil => simp [eqFieldsA] at h
      | cons y bs =>
        simp only [eqFieldsA] at h
        have hx0 := hx.get (i := 0) (x := x) (by simp)
        have hy0 := hy.get (i := 0) (x := y) (by simp)
        obtain ⟨u, hu, hru⟩ := hx0
        obtain ⟨v, hv, hrv⟩ := hy0
        rw [List.getElem?_drop] at hu hv
        simp only [Nat.add_zero, Array.getElem?_toList] at hu hv
        have hx1 := hx.drop 1
        have hy1 := hy.drop 1
        rw [List.drop_drop, show 1 = 1 from rfl] at hx1 hy1
        simp only [List.drop_succ_cons, List.drop_zero] at hx1 hy1
        cases h1 : eqScalar P f.type x y with
        | none => simp [h1] at h
        | some a =>
          cases h2 : eqFieldsA P fs as bs with
          | none => simp [h1, h2] at h
          | some c =>
            simp only [h1, h2, Option.some.injEq] at h
            subst h
            have hr := eqScalar_run h1 hru hrv d w
            have ih := eqFieldsA_run (d := d) (w := w) hrest h2 hx1 hy1
            simp only [Op.eqFields, ne_eq, hn, not_false_eq_true, if_true, Sem.run_bind, ho', scalar_part hsc hu, scalar_part hsc hv, Result.andThen_ok, hr, Sem.run_ite]
            cases a with
            | false => simp
            | true => simpa using ih
theorem flatS_spec {t : TypeId} {fs : List Field} (h : flatS P t = some fs) : (∃ fa, P.underlying t = some (.struct fa) ∧ fs = fa.toList) ∧ flatF P fs 0 = true ∧ P.stoodInHeld t = false := by
  unfold flatS at h
  split at h
  · rename_i fa hu
    cases h1 : flatF P fa.toList 0 <;> cases h2 : P.stoodInHeld t <;> simp [h1, h2] at h
    subst h
    exact ⟨⟨fa, hu, rfl⟩, h1, rfl⟩
  · cases h
theorem eqStruct_run {t : TypeId} {fs : List Field} (hf : flatS P t = some fs) {xs ys : List AV} {us vs : Array Value} {b : Bool} (h : eqFieldsA P fs xs ys = some b)
    (hx : VRels w0 base g xs us.toList) (hy : VRels w0 base g ys vs.toList) (d : Nat) (w : World) : (Op.equalIn (d + 2) t (.agg us) (.agg vs)).run P w = .ok b w := by
  obtain ⟨⟨fa, hu, rfl⟩, hfl, hst⟩ := flatS_spec hf
  have hfs : P.fieldsOf t = fa := by simp [Program.fieldsOf, hu]
  rw [run_equalIn_struct w (d + 1) t us vs (by rw [hfs]; exact hu) hst, hfs]
  exact eqFieldsA_run hfl h (by simpa using hx) (by simpa using hy) d w
theorem eqKey_run {t : TypeId} {x y : AV} {u v : Value} {b : Bool} (h : eqKey P t x y = some b) (hx : VRel w0 base g x u) (hy : VRel w0 base g y v) (w : World) : (Op.equal t u v).run P w = .ok b w := by
  unfold eqKey at h
  split at h
  · rename_i fs hf
    split at h
    · cases hx with | agg _ us hx => cases hy with | agg _ vs hy => exact eqStruct_run hf h hx hy 9998 w
    · cases h
  · exact eqScalar_run h hx hy 9999 w
end
end Go.Vz
