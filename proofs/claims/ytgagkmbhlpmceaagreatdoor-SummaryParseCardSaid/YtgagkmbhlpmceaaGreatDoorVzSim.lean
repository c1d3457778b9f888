/-
  FOR SYMBOLIC RUNS: small words.
-/
import Derived.Test.YtgagkmbhlpmceaaGreatDoorVzKnows
set_option linter.unusedVariables false
set_option linter.unusedSimpArgs false
namespace Go.Vz
open Go Go.Proofs Go.RowKit
/-- the settings of a law's run: errors.As and 'knows' as they are told -/
def primL : FuncId → List AV → Mem → Option (AV × Mem)
  | 46, args, m => primAs args m
  | 13, [], m => some (.bool true, m)
  | _, _, _ => none
noncomputable def C1 : Cfg := { P := Tryz.prog, glob := fun _ => none, prim := primL, isPrim := fun f => Nat.beq f 46 || Nat.beq f 13, ext := extS }
theorem C1_ok {w0 : World} {base : Nat} (L : LaidErr w0 base) : C1.Ok w0 base where
  mixed := by kernel_rfl
  glob := fun g cs h => by cases h
  prim := fun f args m x m' hp h g w vs hv R => by
    have hf : f = 46 ∨ f = 13 := by
      have hp' : (Nat.beq f 46 || Nat.beq f 13) = true := hp
      rw [Bool.or_eq_true] at hp'
      exact hp'.imp Nat.eq_of_beq_eq_true Nat.eq_of_beq_eq_true
    rcases hf with rfl | rfl
    · exact primAs_ok L h hv R
    · cases args with
      | cons a l => cases h
      | nil =>
        cases h
        have hvs : vs = #[] := by
          cases hl : vs.toList with
          | nil => exact Array.toList_eq_nil_iff.1 hl
          | cons _ _ => rw [hl] at hv; cases hv
        subst hvs
        have hL : LaidErr w w.heap.size := L.at R
        exact Calls.mono (knows_calls w hL) (fun e w' ⟨h1, h2⟩ => ⟨g, _, h1, Map.le_refl g, .bool true, R.grow h2⟩)
  ext := fun f args m x m' h g w vs hv R => extS_ok h hv R
theorem C1_P : C1.P = Tryz.prog := rfl
theorem ble_dec (a b : Nat) : Nat.ble a b = decide (a ≤ b) := by rw [Bool.eq_iff_iff]; simp
theorem beq_dec (a b : Nat) : Nat.beq a b = decide (a = b) := by rw [Bool.eq_iff_iff]; simp
theorem enterA_n (n : Nat) (args : List AV) : (enterA n args).n = args.length + (n - args.length) := rfl
theorem enterA_t (n : Nat) (args : List AV) : (enterA n args).t = setArgs .nil 0 args := rfl
/-- two ways -/
theorem EvX.ite {C : Cfg} {D : CallF → DrawF} {t : Bool} {a b : Code} {fr : Fr} {m : Mem} {Q : Ex → Fr → Mem → Prop} (h1 : t = true → EvX C D a fr m Q) (h2 : t = false → EvX C D b fr m Q) : EvX C D (bif t then a else b) fr m Q := by
  cases t
  · exact h2 rfl
  · exact h1 rfl
theorem EvX.cond2 {C : Cfg} {D : CallF → DrawF} {fr : Fr} {m : Mem} {Q : Ex → Fr → Mem → Prop} {x : Operand} {a b : Code} {t : Bool} (hx : evalA C fr x = some (.bool t)) (h1 : t = true → EvX C D a fr m Q) (h2 : t = false → EvX C D b fr m Q) : EvX C D (.cond x a b) fr m Q :=
  EvX.cond hx (EvX.ite h1 h2)
theorem EvC.get {C : Cfg} {D : CallF → DrawF} {f : FuncId} {args : List AV} {m m' : Mem} {x : AV} (h : EvC C D f args m x m') : ∃ N, ∀ k, N ≤ k → Vz.call C D k f args m = some (x, m') := h
end Go.Vz
