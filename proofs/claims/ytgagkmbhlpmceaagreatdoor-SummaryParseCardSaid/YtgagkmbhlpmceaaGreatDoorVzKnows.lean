/-
  THE CHAPTER's EXAMPLES: 'knows' returns true, in every world in which errors.errorType is laid, on every tape.
-/
import Derived.Test.YtgagkmbhlpmceaaGreatDoorVzSeat
set_option linter.unusedVariables false
set_option linter.unusedSimpArgs false
namespace Go.Vz
open Go Go.Proofs Go.RowKit
noncomputable def C0 : Cfg := { P := Tryz.prog, glob := fun _ => none, prim := fun f args m => primAs args m, isPrim := fun f => Nat.beq f 46, ext := extS }
theorem C0_ok {w0 : World} {base : Nat} (L : LaidErr w0 base) : C0.Ok w0 base where
  mixed := by kernel_rfl
  glob := fun g cs h => by cases h
  prim := fun f args m x m' hp h g w vs hv R => by
    have : f = 46 := Nat.eq_of_beq_eq_true hp
    subst this
    exact primAs_ok L h hv R
  ext := fun f args m x m' h g w vs hv R => extS_ok h hv R
theorem Rel.start (W : World) : Rel W W.heap.size (fun _ => none) Mem.empty W :=
  ⟨Below.refl _ _, Nat.le_refl _, fun v _ => ⟨Tr.get_nil v, rfl⟩, fun c _ => Tr.get_nil c, fun v p h => (by cases h), fun v o h => (by rw [show Mem.empty.obs.get v = none from Tr.get_nil v] at h; cases h), fun v u p q h => (by cases h)⟩
def isT : Option (AV × Mem) → Bool
  | some (.bool b, _) => b
  | _ => false
theorem knows_runs : isT (call C0 (drawA C0) 1000 13 [] Mem.empty) = true := by kernel_rfl
theorem knows_calls (W : World) (L : LaidErr W W.heap.size) : Calls Tryz.prog 13 #[] W (fun e w' => e = .returned (.bool true) ∧ Below W.heap.size W w') := by
  have h := knows_runs
  unfold isT at h
  split at h
  · rename_i b m' hc
    subst h
    refine Calls.mono (call_sound (C0_ok L) 1000 13 [] Mem.empty _ m' hc (fun _ => none) W #[] .nil (Rel.start W)) (fun e w' he => ?_)
    obtain ⟨g', v, rfl, _, hv, hR⟩ := he
    cases hv
    exact ⟨rfl, hR.below⟩
  · cases h
end Go.Vz
#print axioms Go.Vz.knows_calls
