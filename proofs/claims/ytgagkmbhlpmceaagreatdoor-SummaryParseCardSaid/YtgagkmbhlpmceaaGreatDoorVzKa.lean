/-
  What the walks' simp calls name over and over, joined.
-/
import Derived.Test.YtgagkmbhlpmceaaGreatDoorVzAq0
set_option linter.unusedVariables false
namespace Go.Vz
open Go Go.Proofs
theorem kA1 : (∀ (c : List AV) (m : Mem) (n : Nat), m.load (.rp c) n = takeN n c) ∧ (∀ n : Nat, 0 ≤ n) ∧ (∀ n : Nat, n ≤ n) ∧ (∀ n : Nat, 0 + n = n) ∧ (∀ n : Nat, n + 0 = n) ∧ (∀ n : Nat, n * 1 = n) ∧ (∀ n : Nat, 1 * n = n) ∧ (!false) = true ∧ (!true) = false ∧
    (∀ (α : Type) (l : List α) (i : Nat), l.toArray[i]? = l[i]?) ∧ (∀ (α : Type) (a : α) (l : List α), (a :: l)[0]? = some a) ∧ (∀ (α : Type) (a : α) (l : List α) (i : Nat), (a :: l)[i + 1]? = l[i]?) ∧
    (∀ b : Bool, (b && true) = b) ∧ (∀ b : Bool, (true && b) = b) ∧ (∀ b : Bool, (b && b) = b) ∧ (true == false) = false ∧ (false == true) = false ∧ (false == false) = true :=
  ⟨fun _ _ _ => load_rp .., fun _ => Nat.zero_le _, fun _ => Nat.le_refl _, fun _ => Nat.zero_add _, fun _ => Nat.add_zero _, fun _ => Nat.mul_one _, fun _ => Nat.one_mul _, rfl, rfl, fun _ _ _ => List.getElem?_toArray .., fun _ _ _ => rfl, fun _ _ _ _ => rfl,
   fun _ => Bool.and_true _, fun _ => Bool.true_and _, fun _ => Bool.and_self _, rfl, rfl, rfl⟩
theorem kA2 : type_of% (And.intro Tryz.underlying70 (And.intro Tryz.underlying28 (And.intro sl_t31 (And.intro sl_t95 (And.intro sz_3 (And.intro sz_70 (And.intro ag_3 (And.intro ag_70 (And.intro ze_70 (And.intro ze_3 (And.intro by_3 (And.intro Tryz.underlying30 (And.intro sz_30 (And.intro ag_30 (And.intro ze_30 (And.intro sz_28 (ag_28))))))))))))))))) := And.intro Tryz.underlying70 (And.intro Tryz.underlying28 (And.intro sl_t31 (And.intro sl_t95 (And.intro sz_3 (And.intro sz_70 (And.intro ag_3 (And.intro ag_70 (And.intro ze_70 (And.intro ze_3 (And.intro by_3 (And.intro Tryz.underlying30 (And.intro sz_30 (And.intro ag_30 (And.intro ze_30 (And.intro sz_28 (ag_28))))))))))))))))
theorem kS : type_of% (And.intro enterA_n (And.intro enterA_t (And.intro @List.length_cons.{0} (And.intro @List.length_nil.{0} (And.intro @Tr.get_set (And.intro @cond_false.{1} (And.intro @cond_true.{1} (And.intro true_and (And.intro ble_dec (And.intro beq_dec (And.intro @Option.map_some.{0,0} (And.intro @Option.map_none.{0,0} (CT_P))))))))))))) := And.intro enterA_n (And.intro enterA_t (And.intro @List.length_cons.{0} (And.intro @List.length_nil.{0} (And.intro @Tr.get_set (And.intro @cond_false.{1} (And.intro @cond_true.{1} (And.intro true_and (And.intro ble_dec (And.intro beq_dec (And.intro @Option.map_some.{0,0} (And.intro @Option.map_none.{0,0} (CT_P))))))))))))
end Go.Vz
