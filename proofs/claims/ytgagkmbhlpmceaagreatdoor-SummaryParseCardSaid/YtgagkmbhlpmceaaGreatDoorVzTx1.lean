/-
  Numbers and their texts, told.
-/
import Derived.Test.YtgagkmbhlpmceaaGreatDoorVzKa
import Derived.Test.YtgagkmbhlpmceaaGreatDoorVzStrLays
set_option linter.unusedVariables false
set_option linter.unusedSimpArgs false
namespace Go.Vz
open Go Go.Proofs Go.RowKit Go.Sort
set_option maxHeartbeats 4000000
set_option maxRecDepth 20000
def dig (n : Nat) : List Nat := (Lib.decDigits n).map (·.toNat)
theorem dig_small {n : Nat} (h : n < 10) : dig n = [48 + n] := by
  unfold dig
  rw [Lib.decDigits, dif_pos h]
  simp
  omega
theorem dig_big {n : Nat} (h : ¬ n < 10) : dig n = dig (n / 10) ++ [48 + n % 10] := by
  unfold dig
  rw [Lib.decDigits, dif_neg h]
  simp
  omega
theorem dig_step (n : Nat) : dig n = (if n < 10 then [] else dig (n / 10)) ++ [48 + n % 10] := by
  by_cases h : n < 10
  · rw [dig_small h, if_pos h, Nat.mod_eq_of_lt h]; rfl
  · rw [dig_big h, if_neg h]
theorem dig_ne (n : Nat) : dig n ≠ [] := by rw [dig_step]; simp
/-! ### strconv.Itoa -/
def p40 : PFn := ⟨40, fun | [.int .i64 a] => bif decide (0 ≤ a) && decide (a ≤ 9223372036854775807) then some (.str (dig a.toNat)) else none | _ => none⟩
theorem spec40 {a : Int} (h0 : 0 ≤ a) (h1 : a ≤ 9223372036854775807) : p40.spec [.int .i64 a] = some (.str (dig a.toNat)) := by
  show (bif decide (0 ≤ a) && decide (a ≤ 9223372036854775807) then some (AV.str (dig a.toNat)) else none) = _
  rw [decide_eq_true h0, decide_eq_true h1]; rfl
theorem p40_ok : p40.Ok := by
  intro W L args x hs
  simp only [p40] at hs
  split at hs
  · rename_i a
    cases hb : decide (0 ≤ a) && decide (a ≤ 9223372036854775807) with
    | false => rw [hb] at hs; cases hs
    | true =>
      rw [hb, cond_true, Option.some.injEq] at hs
      subst hs
      rw [Bool.and_eq_true_iff] at hb
      have h0 := of_decide_eq_true hb.1
      have h1 := of_decide_eq_true hb.2
      refine ⟨rfl, fun vs hv => ?_⟩
      obtain ⟨u, rfl, h2⟩ := args_one hv
      cases h2
      show Calls Tryz.prog 40 _ W _
      refine Calls.mono (Any.strconv_Itoa laysItoa a (by omega) h1 W L.2.2) (fun e w' ⟨q1, k, os, q2⟩ => ⟨⟨_, q1, .str _ _ ?_⟩, ?_⟩)
      · unfold natOf dig Lib.itoa
        rw [if_neg (by omega)]
      · rw [q2]
        exact (below_drewN' W k).trans (below_grow' (W.drewN k) os)
  · cases hs
/-! ### strconv.Atoi -/
def toB (s : List Nat) : List UInt8 := s.map UInt8.ofNat
theorem toB_natOf (b : ByteArray) : toB (natOf b) = b.data.toList := by
  unfold toB natOf
  rw [List.map_map]
  conv => rhs; rw [← List.map_id b.data.toList]
  apply List.map_congr_left
  intro x _
  simp
def p169 : PFn := ⟨169, fun | [.str s] => bif Nat.ble s.length 18 then (Lib.atoi (toB s)).map fun n => .tup [.int .i64 n, .niliface] else none | _ => none⟩
theorem bytesWorld_below' (w : World) (e : TypeId) (s : ByteArray) : Below w.heap.size w (Lib.bytesWorld w e s) :=
  ⟨rfl, rfl, rfl, by rw [Lib.bytesWorld_size]; omega, fun k hk => Lib.bytesWorld_at_old w e s k hk⟩
theorem p169_ok : p169.Ok := by
  intro W L args x hs
  simp only [p169] at hs
  split at hs
  · rename_i s
    cases hb : Nat.ble s.length 18 with
    | false => rw [hb] at hs; cases hs
    | true =>
      rw [hb, cond_true] at hs
      have hb := Nat.le_of_ble_eq_true hb
      cases ha : Lib.atoi (toB s) with
      | none => rw [ha] at hs; cases hs
      | some n =>
        rw [ha, Option.map_some, Option.some.injEq] at hs
        subst hs
        refine ⟨rfl, fun vs hv => ?_⟩
        obtain ⟨u, rfl, h2⟩ := args_one hv
        cases h2 with | str _ b h3 =>
        subst h3
        rw [toB_natOf] at ha
        show Calls Tryz.prog 169 _ W _
        refine Calls.mono (Any.strconv_Atoi laysAtoi b n (by rw [← natOf_length]; exact hb) ha W) (fun e w' ⟨q1, k, q2⟩ => ⟨⟨_, q1, .tup _ _ (.cons _ _ _ _ (.int _ _) (.cons _ _ _ _ .niliface .nil))⟩, ?_⟩)
        rw [q2]
        exact bytesWorld_below' W _ _
  · cases hs
/-! ### the reference's digits -/
def p74 : PFn := ⟨74, fun | [.int .i64 (.ofNat n)] => bif Nat.ble n 9223372036854775807 then some (.str (dig n)) else none | _ => none⟩
theorem spec74 {n : Nat} (h : n ≤ 9223372036854775807) : p74.spec [.int .i64 (n : Int)] = some (.str (dig n)) := by
  show (bif Nat.ble n 9223372036854775807 then some (AV.str (dig n)) else none) = _
  rw [Nat.ble_eq_true_of_le h]; rfl
theorem tmod10 (n : Nat) : ((n : Int)).tmod 10 = ((n % 10 : Nat) : Int) := by exact_mod_cast Int.ofNat_tmod n 10
theorem tdiv10 (n : Nat) : ((n : Int)).tdiv 10 = ((n / 10 : Nat) : Int) := by exact_mod_cast Int.ofNat_tdiv n 10
theorem tenth (d : Nat) (h : d < 10) : List.drop d (List.take (d + 1) [48, 49, 50, 51, 52, 53, 54, 55, 56, 57]) = [48 + d] := by
  have : d = 0 ∨ d = 1 ∨ d = 2 ∨ d = 3 ∨ d = 4 ∨ d = 5 ∨ d = 6 ∨ d = 7 ∨ d = 8 ∨ d = 9 := by omega
  rcases this with rfl | rfl | rfl | rfl | rfl | rfl | rfl | rfl | rfl | rfl <;> rfl
theorem lenS {s : List Nat} (t : TypeId) (h : Tryz.prog.underlying t = some .string) : lenA Tryz.prog t (.str s) = some (.int .i64 s.length) := by simp only [lenA, h]
theorem st_9 : Tryz.prog.underlying 9 = some .string := by kernel_rfl
theorem natOf_ten : natOf { data := #[48, 49, 50, 51, 52, 53, 54, 55, 56, 57] } = [48, 49, 50, 51, 52, 53, 54, 55, 56, 57] := by decide
theorem natOf_nil : natOf { data := #[] } = [] := by decide
theorem p74_ok : p74.Ok := by
  refine PFn.Ok.ofT (qs := []) (ps := []) (fun q h => by cases h) (fun p h => by cases h) (fun args x h => ?_)
  simp only [p74] at h
  split at h
  rotate_left
  · cases h
  rename_i n
  cases hb : Nat.ble n 9223372036854775807 with
  | false => rw [hb] at h; cases h
  | true =>
  rw [hb, cond_true, Option.some.injEq] at h
  subst h
  have hb := Nat.le_of_ble_eq_true hb
  refine ⟨rfl, EvC.run (by kernel_rfl) (by rw [CT_P]; exact Tryz.func74) rfl ?_⟩
  apply EvX.seq
  apply EvX.reg0
  · intro call
    simp only [QRun, stepA, wantedA, opA, pureA, loadA, effA, binA, bin, evalA, ofV, ofCell, Fr.put, setArgs, kS, Nat.zero_testBit, Nat.reduceAdd, Nat.reduceSub, Nat.reduceLeDiff, decide_true, decide_false, Nat.reduceEqDiff, if_true, if_false, reduceIte, operands, Tryz.ntmps74, natOf_nil]
    exact ⟨rfl, rfl⟩
  simp only [Ex.thn]
  apply EvX.seq
  apply EvX.reg0
  · intro call
    simp only [QRun, stepA, wantedA, opA, pureA, loadA, effA, binA, bin, evalA, ofV, ofCell, Fr.put, setArgs, kS, Nat.zero_testBit, Nat.reduceAdd, Nat.reduceSub, Nat.reduceLeDiff, decide_true, decide_false, Nat.reduceEqDiff, if_true, if_false, reduceIte, operands, natOf_nil]
    exact ⟨rfl, rfl⟩
  simp only [Ex.thn]
  apply EvX.seq
  apply EvX.block
  refine EvX.loop (fun k fr m => ∃ (c : Nat) (s : List Nat), k = (if s = [] then c + 1 else c) ∧ c ≤ n ∧ fr.n = 21 ∧ fr.t.get 0 = some (.int .i64 (c : Int)) ∧ fr.t.get 3 = some (.str s) ∧ s.length ≤ 64 ∧ c * 10 ^ s.length ≤ n ∧ (if c = 0 ∧ s ≠ [] then s else dig c ++ s) = dig n) ?_ (n + 1) _ _
    ⟨n, [], by simp, by simp, rfl, by simp [Tr.get_set], by simp [Tr.get_set], by simp, by simp, by simp⟩
  rintro k fr m ⟨c, s, rfl, hcn, hfn, h0, h3, hsl, hpow, hgo⟩
  apply EvX.seq
  by_cases b1 : c = 0
  · have d1 : decide ((c : Int) > 0) = false := decide_eq_false (by omega)
    cases s with
    | cons a s =>
      have hs : a :: s = dig n := by rw [← hgo, if_pos ⟨b1, by simp⟩]
      apply EvX.seq
      apply EvX.reg0
      · intro call
        simp only [QRun, stepA, wantedA, opA, pureA, loadA, effA, binA, bin, evalA, ofV, ofCell, Fr.put, setArgs, kS, Nat.zero_testBit, Nat.reduceAdd, Nat.reduceSub, Nat.reduceLeDiff, decide_true, decide_false, Nat.reduceEqDiff, if_true, if_false, reduceIte, operands, hfn, h0, h3, natOf_nil, binS, eqNats, AV.cells, takeN, beq_self_eq_true, eq_self, kA1, kA2, d1]
        exact ⟨rfl, rfl⟩
      simp only [Ex.thn]
      apply EvX.cond2 (t := false)
      · simp only [evalA, Tr.get_set, Nat.reduceEqDiff, if_true, if_false, reduceIte]
      · intro h; cases h
      intro _
      apply EvX.exit
      simp only [Ex.thn, Ex.blk, beq_dec, decide_true, cond_true]
      apply EvX.seq
      apply EvX.reg0
      · intro call
        simp only [QRun, stepA, wantedA, opA, pureA, loadA, effA, binA, bin, evalA, ofV, ofCell, Fr.put, setArgs, kS, Nat.zero_testBit, Nat.reduceAdd, Nat.reduceSub, Nat.reduceLeDiff, decide_true, decide_false, Nat.reduceEqDiff, if_true, if_false, reduceIte, operands, hfn, h3]
        exact ⟨rfl, rfl⟩
      simp only [Ex.thn]
      apply EvX.ret
      exact Fin.one rfl (by simp only [Tr.get_set, if_true, reduceIte, hs])
    | nil =>
      subst b1
      apply EvX.seq
      apply EvX.reg0
      · intro call
        simp only [QRun, stepA, wantedA, opA, pureA, loadA, effA, binA, bin, evalA, ofV, ofCell, Fr.put, setArgs, kS, Nat.zero_testBit, Nat.reduceAdd, Nat.reduceSub, Nat.reduceLeDiff, decide_true, decide_false, Nat.reduceEqDiff, if_true, if_false, reduceIte, operands, hfn, h0, h3, natOf_nil, binS, eqNats, AV.cells, takeN, beq_self_eq_true, eq_self, kA1, kA2, d1]
        exact ⟨rfl, rfl⟩
      simp only [Ex.thn]
      apply EvX.cond2 (t := true)
      · simp only [evalA, Tr.get_set, Nat.reduceEqDiff, if_true, if_false, reduceIte]
      rotate_left
      · intro h; cases h
      intro _
      apply EvX.skip
      simp only [Ex.thn, Ex.blk]
      have hm10 : 0 % 10 < 10 := Nat.mod_lt _ (by decide)
      have hm11 : 0 % 10 + 1 ≤ 10 := hm10
      have hcc : 0 ≤ 9223372036854775807 := by omega
      have w1 : IntKind.i64.wrap (((0 % 10 : Nat) : Int) + 1) = ((0 % 10 + 1 : Nat) : Int) := wrap_succ (by omega)
      have w2 : IntKind.i64.wrap ((0 / 10 : Nat) : Int) = ((0 / 10 : Nat) : Int) := wrap_nat (by omega)
      have hl : (List.drop (0 % 10) (List.take (0 % 10 + 1) [48, 49, 50, 51, 52, 53, 54, 55, 56, 57])).length + ([] : List Nat).length ≤ 9223372036854775807 := by rw [tenth _ hm10]; simp only [List.length_singleton]; omega
      apply EvX.block
      apply EvX.seq
      apply EvX.reg0
      · intro call
        simp only [QRun, stepA, wantedA, opA, pureA, loadA, effA, binA, bin, evalA, ofV, ofCell, Fr.put, setArgs, kS, Nat.zero_testBit, Nat.reduceAdd, Nat.reduceSub, Nat.reduceLeDiff, decide_true, decide_false, Nat.reduceEqDiff, if_true, if_false, reduceIte, operands, hfn, h0, h3, natOf_ten, binS, sliceA, bounds, natOf?, natOf_cast, tmod10, w1, st_9, tenth (0 % 10) hm10, List.length_singleton, hm11, Nat.le_succ, hl, show (10 : Int) ≠ 0 from by decide, (by rw [tenth _ hm10] at hl; exact hl : [48 + 0 % 10].length + ([] : List Nat).length ≤ 9223372036854775807), (by simp : 1 + ([] : List Nat).length ≤ 9223372036854775807), AV.cells, takeN, beq_self_eq_true, eq_self, kA1, kA2]
        exact ⟨rfl, rfl⟩
      simp only [Ex.thn]
      apply EvX.reg0
      · intro call
        simp only [QRun, stepA, wantedA, opA, pureA, loadA, effA, binA, bin, evalA, ofV, ofCell, Fr.put, setArgs, kS, Nat.zero_testBit, Nat.reduceAdd, Nat.reduceSub, Nat.reduceLeDiff, decide_true, decide_false, Nat.reduceEqDiff, if_true, if_false, reduceIte, operands, hfn, h0, tdiv10, w2, show (10 : Int) ≠ 0 from by decide, AV.cells, takeN, beq_self_eq_true, eq_self, kA1, kA2]
        exact ⟨rfl, rfl⟩
      simp only [Ex.thn, Ex.blk]
      refine ⟨0, by simp, 0, [48], by simp, by simp, trivial, ?_, ?_, by simp, by simp, ?_⟩
      · simp [Tr.get_set]
      · simp [Tr.get_set]
      · rw [← hgo]; simp [dig_small]
  have d1 : decide ((c : Int) > 0) = true := decide_eq_true (by omega)
  have hs64 : s.length ≤ 62 := by
    rcases Nat.lt_or_ge 62 s.length with h | h
    · have : 10 ^ 63 ≤ 10 ^ s.length := Nat.pow_le_pow_right (by decide) h
      have : 1 * 10 ^ s.length ≤ c * 10 ^ s.length := Nat.mul_le_mul_right _ (by omega)
      have : (10 : Nat) ^ 63 > 9223372036854775807 := by decide
      omega
    · exact h
  apply EvX.seq
  apply EvX.reg0
  · intro call
    simp only [QRun, stepA, wantedA, opA, pureA, loadA, effA, binA, bin, evalA, ofV, ofCell, Fr.put, setArgs, kS, Nat.zero_testBit, Nat.reduceAdd, Nat.reduceSub, Nat.reduceLeDiff, decide_true, decide_false, Nat.reduceEqDiff, if_true, if_false, reduceIte, operands, hfn, h0, h3, natOf_nil, binS, eqNats, AV.cells, takeN, beq_self_eq_true, eq_self, kA1, kA2, d1]
    exact ⟨rfl, rfl⟩
  simp only [Ex.thn]
  apply EvX.cond2 (t := true)
  · simp only [evalA, Tr.get_set, Nat.reduceEqDiff, if_true, if_false, reduceIte]
  rotate_left
  · intro h; cases h
  intro _
  apply EvX.skip
  simp only [Ex.thn, Ex.blk]
  have hm10 : c % 10 < 10 := Nat.mod_lt _ (by decide)
  have hm11 : c % 10 + 1 ≤ 10 := hm10
  have hcc : c ≤ 9223372036854775807 := by omega
  have w1 : IntKind.i64.wrap (((c % 10 : Nat) : Int) + 1) = ((c % 10 + 1 : Nat) : Int) := wrap_succ (by omega)
  have w2 : IntKind.i64.wrap ((c / 10 : Nat) : Int) = ((c / 10 : Nat) : Int) := wrap_nat (by omega)
  have hl : (List.drop (c % 10) (List.take (c % 10 + 1) [48, 49, 50, 51, 52, 53, 54, 55, 56, 57])).length + s.length ≤ 9223372036854775807 := by rw [tenth _ hm10]; simp only [List.length_singleton]; omega
  apply EvX.block
  apply EvX.seq
  apply EvX.reg0
  · intro call
    simp only [QRun, stepA, wantedA, opA, pureA, loadA, effA, binA, bin, evalA, ofV, ofCell, Fr.put, setArgs, kS, Nat.zero_testBit, Nat.reduceAdd, Nat.reduceSub, Nat.reduceLeDiff, decide_true, decide_false, Nat.reduceEqDiff, if_true, if_false, reduceIte, operands, hfn, h0, h3, natOf_ten, binS, sliceA, bounds, natOf?, natOf_cast, tmod10, w1, st_9, tenth (c % 10) hm10, List.length_singleton, hm11, Nat.le_succ, hl, show (10 : Int) ≠ 0 from by decide, (by rw [tenth _ hm10] at hl; exact hl : [48 + c % 10].length + s.length ≤ 9223372036854775807), (by omega : 1 + s.length ≤ 9223372036854775807), AV.cells, takeN, beq_self_eq_true, eq_self, kA1, kA2]
    exact ⟨rfl, rfl⟩
  simp only [Ex.thn]
  apply EvX.reg0
  · intro call
    simp only [QRun, stepA, wantedA, opA, pureA, loadA, effA, binA, bin, evalA, ofV, ofCell, Fr.put, setArgs, kS, Nat.zero_testBit, Nat.reduceAdd, Nat.reduceSub, Nat.reduceLeDiff, decide_true, decide_false, Nat.reduceEqDiff, if_true, if_false, reduceIte, operands, hfn, h0, tdiv10, w2, show (10 : Int) ≠ 0 from by decide, AV.cells, takeN, beq_self_eq_true, eq_self, kA1, kA2]
    exact ⟨rfl, rfl⟩
  simp only [Ex.thn, Ex.blk]
  refine ⟨c / 10, by split <;> omega, c / 10, (48 + c % 10) :: s, (if_neg (List.cons_ne_nil _ _)).symm, by omega, trivial, ?_, ?_, by simp; omega, ?_, ?_⟩
  · simp [Tr.get_set]
  · simp [Tr.get_set]
  · have h1 : c / 10 * 10 ^ ((48 + c % 10) :: s).length = (c / 10 * 10) * 10 ^ s.length := by
      rw [List.length_cons, Nat.pow_succ, Nat.mul_assoc, Nat.mul_comm (10 ^ s.length) 10]
    rw [h1]
    exact Nat.le_trans (Nat.mul_le_mul_right _ (by omega)) hpow
  · have hgo' : dig c ++ s = dig n := by rw [← hgo, if_neg (fun h => b1 h.1)]
    rw [← hgo']
    by_cases b2 : c < 10
    · rw [if_pos ⟨by omega, by simp⟩, dig_small b2, Nat.mod_eq_of_lt b2]; rfl
    · rw [if_neg (fun h => by have := h.1; omega), dig_big b2, List.append_assoc]; rfl
end Go.Vz
