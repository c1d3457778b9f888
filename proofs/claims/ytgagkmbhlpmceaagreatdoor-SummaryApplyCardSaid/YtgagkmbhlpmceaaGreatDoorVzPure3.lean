/-
  V's PURE OPERATIONS: comparisons, and all of them together.
-/
import Derived.Test.YtgagkmbhlpmceaaGreatDoorVzPure2
set_option linter.unusedVariables false
set_option linter.unusedSimpArgs false
namespace Go.Vz
open Go Go.RowKit
section
variable {w0 : World} {base : Nat} {g : Map} {P : Program}

theorem eqA_run {t : TypeId} {x y : AV} {u v : Value} {b : Bool} (h : eqA P t x y = some b) (hx : VRel w0 base g x u) (hy : VRel w0 base g y v) :
    (∀ w, (Op.equal t u v).run P w = .ok b w) ∧ (∀ op ox oy w, (eqGuard op t ox oy u v).run P w = .ok () w) ∧ (∀ op, op = .eql ∨ op = .neq → ∀ w, (Go.binOp op t u v).run P w = .ok (.bool (match op with | .eql => b | _ => !b)) w) := by
  have main : (∀ d w, (Op.equalIn (d + 2) t u v).run P w = .ok b w) ∧ (∀ op ox oy w, (eqGuard op t ox oy u v).run P w = .ok () w) ∧
      ((∀ k n k' n', ¬ (u = .int k n ∧ v = .int k' n')) ∧ (∀ s s', ¬ (u = .string s ∧ v = .string s')) ∧ (∀ k n k' n', ¬ (u = .float k n ∧ v = .float k' n')) ∧ (∀ k a b k' c d, ¬ (u = .complex k a b ∧ v = .complex k' c d))) := by
    unfold eqA at h
    split at h
    · rename_i hu
      cases hx; cases hy; cases h
      exact ⟨fun d w => run_equalIn_bool w (d + 1) t _ _ hu, fun op ox oy w => by cases op <;> rfl, by simp⟩
    · rename_i hu; cases hx; cases hy; cases h
      exact ⟨fun d w => by rw [Op.equalIn, Sem.run_bind, run_underlying hu]; rfl, fun op ox oy w => by cases op <;> rfl, by simp⟩
    · rename_i hu; cases hx; cases hy; cases h
      exact ⟨fun d w => by rw [Op.equalIn, Sem.run_bind, run_underlying hu]; rfl, fun op ox oy w => by cases op <;> rfl, by simp⟩
    · rename_i hu; cases hx; cases hy; cases h
      exact ⟨fun d w => by rw [Op.equalIn, Sem.run_bind, run_underlying hu]; rfl, fun op ox oy w => by cases op <;> rfl, by simp⟩
    · rename_i hu; cases hx; cases hy; cases h
      exact ⟨fun d w => by rw [Op.equalIn, Sem.run_bind, run_underlying hu]; rfl, fun op ox oy w => by cases op <;> rfl, by simp⟩
    · rename_i hu; cases hx; cases hy; cases h
      exact ⟨fun d w => by rw [Op.equalIn, Sem.run_bind, run_underlying hu]; rfl, fun op ox oy w => by cases op <;> rfl, by simp⟩
    · rename_i e v1 k1 v2 k2 hu
      split at h
      · rename_i n hs
        cases hb : Nat.beq v1 v2 with
        | false => simp [hb] at h
        | true =>
          simp only [hb, cond_true, Option.some.injEq] at h
          have e12 := Nat.eq_of_beq_eq_true hb
          subst e12
          cases hx with | ptr _ _ o1 p1 e1 e2 => cases hy with | ptr _ _ o2 p2 e3 e4 =>
            rw [e1] at e3; cases e3
            refine ⟨fun d w => ?_, fun op ox oy w => by cases op <;> rfl, by simp⟩
            have : (decide (o1 = o2)) = b := by
              subst h
              rw [Bool.eq_iff_iff, decide_eq_true_iff, Nat.beq_eq]
              omega
            rw [Op.equalIn, Sem.run_bind, run_underlying hu]
            show ((sizeOf e >>= _).run P w) = _
            rw [Sem.run_bind, sizeT_run hs]
            show ((sameAddr ⟨p1.b, o1, none⟩ ⟨p1.b, o2, none⟩).run P w) = _
            simp only [sameAddr, beq_self_eq_true, if_true, Sem.run_pure, ← this]
            congr 1
            rw [Bool.eq_iff_iff, beq_iff_eq, decide_eq_true_iff]
            simp
      · cases h
    · rename_i hu; cases hx; cases hy; cases h
      exact ⟨fun d w => by rw [Op.equalIn, Sem.run_bind, run_underlying hu]; rfl, fun op ox oy w => by cases op <;> rfl, by simp⟩
    · rename_i hu; cases hx; cases hy; cases h
      exact ⟨fun d w => by rw [Op.equalIn, Sem.run_bind, run_underlying hu]; rfl, fun op ox oy w => by cases op <;> rfl, by simp⟩
    · rename_i hu; cases hx; cases hy; cases h
      exact ⟨fun d w => by rw [Op.equalIn, Sem.run_bind, run_underlying hu]; rfl, fun op ox oy w => by cases op <;> rfl, by simp⟩
    · rename_i hu; cases hx; cases hy; cases h
      exact ⟨fun d w => by rw [Op.equalIn, Sem.run_bind, run_underlying hu]; rfl, fun op ox oy w => by cases op <;> rfl, by simp⟩
    · rename_i hu; cases hx; cases hy; cases h
      exact ⟨fun d w => by rw [Op.equalIn, Sem.run_bind, run_underlying hu]; rfl, fun op ox oy w => by cases op <;> rfl, by simp⟩
    · rename_i hu; cases hx; cases hy; cases h
      exact ⟨fun d w => by rw [Op.equalIn, Sem.run_bind, run_underlying hu]; rfl, fun op ox oy w => by cases op <;> rfl, by simp⟩
    · rename_i hu; cases hx; cases hy; cases h
      exact ⟨fun d w => by rw [Op.equalIn, Sem.run_bind, run_underlying hu]; rfl, fun op ox oy w => by cases op <;> rfl, by simp⟩
    · rename_i hu; cases hx; cases hy; cases h
      exact ⟨fun d w => by rw [Op.equalIn, Sem.run_bind, run_underlying hu]; rfl, fun op ox oy w => by cases op <;> rfl, by simp⟩
    · rename_i hu; cases hx; cases hy; cases h
      exact ⟨fun d w => by rw [Op.equalIn, Sem.run_bind, run_underlying hu]; rfl, fun op ox oy w => by cases op <;> rfl, by simp⟩
    · rename_i hu; cases hx; cases hy; cases h
      exact ⟨fun d w => by rw [Op.equalIn, Sem.run_bind, run_underlying hu]; rfl, fun op ox oy w => by cases op <;> rfl, by simp⟩
    · rename_i hu; cases hx; cases hy; cases h
      exact ⟨fun d w => by rw [Op.equalIn, Sem.run_bind, run_underlying hu]; rfl, fun op ox oy w => by cases op <;> rfl, by simp⟩
    · rename_i hu; cases hx; cases hy; cases h
      exact ⟨fun d w => by rw [Op.equalIn, Sem.run_bind, run_underlying hu]; rfl, fun op ox oy w => by cases op <;> rfl, by simp⟩
    · rename_i hu; cases hx; cases hy; cases h
      exact ⟨fun d w => by rw [Op.equalIn, Sem.run_bind, run_underlying hu]; rfl, fun op ox oy w => by cases op <;> rfl, by simp⟩
    · rename_i hu
      split at h
      · rename_i fs hf
        cases hg : P.eqGuardType P.depth t with
        | true => simp [hg] at h
        | false =>
          simp only [hg, cond_false] at h
          cases hx with | agg _ us hx => cases hy with | agg _ vs hy =>
            exact ⟨fun d w => eqStruct_run hf h hx hy d w, fun op ox oy w => run_eqGuard_agg w op t ox oy us vs hg, by simp⟩
      · cases h
    · cases h
  obtain ⟨h1, h2, h3, h4, h5, h6⟩ := main
  have h0 : ∀ w, (Op.equal t u v).run P w = .ok b w := h1 9998
  refine ⟨h0, h2, fun op hop w => ?_⟩
  have he := h0 w
  clear h1
  cases u <;> cases v <;> first
    | (exact absurd ⟨rfl, rfl⟩ (h3 _ _ _ _))
    | (exact absurd ⟨rfl, rfl⟩ (h4 _ _))
    | (exact absurd ⟨rfl, rfl⟩ (h5 _ _ _ _))
    | (exact absurd ⟨rfl, rfl⟩ (h6 _ _ _ _ _ _))
    | (rcases hop with rfl | rfl <;> simp only [Go.binOp, Sem.run_bind, he, Result.andThen_ok, Sem.run_pure])
end
end Go.Vz
