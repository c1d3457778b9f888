/-
  The reference's number and words, told.
-/
import Derived.Test.YtgagkmbhlpmceaaGreatDoorVzPa9
set_option linter.unusedVariables false
set_option linter.unusedSimpArgs false
namespace Go.Vz
open Go Go.Proofs
set_option maxHeartbeats 4000000
set_option maxRecDepth 20000
/-- Check of the reference, of lists with nil rows -/
def p12n : PFn := ⟨12, fun | [x, .int .i64 f] => (isums x).map fun l => .int .i64 (sumsErr f l) | _ => none⟩
theorem p12n_ok : p12n.Ok := by
  intro W L args y hs
  simp only [p12n] at hs
  split at hs
  · rename_i x f
    cases hx : isums x with
    | none => simp [hx] at hs
    | some l =>
      simp only [hx, Option.map_some, Option.some.injEq] at hs
      subst hs
      obtain ⟨h1, h2⟩ := isums_ok hx
      obtain ⟨q1, q2⟩ := p12_ok W L [.ro (encSums l) l.length 3, .int .i64 f] (.int .i64 (sumsErr f l)) (specSums_enc h1 h2 f)
      refine ⟨q1, fun vs hv => ?_⟩
      obtain ⟨u, v, rfl, r1, r2⟩ := args_two hv
      exact q2 #[u, v] (.cons _ _ _ _ (isums_rel hx r1) (.cons _ _ _ _ r2 .nil))
  · cases hs
/-! ### number -/
def numI (s : List Nat) : Int := match numN s with
  | some n => (n : Int)
  | none => -1
theorem numI_none {s : List Nat} (h : numN s = none) : numI s = -1 := by unfold numI; rw [h]
theorem numI_some {s : List Nat} {n : Nat} (h : numN s = some n) : numI s = (n : Int) := by unfold numI; rw [h]
def p84 : PFn := ⟨84, fun | [.str s] => bif Nat.ble s.length 1000000 then some (.int .i64 (numI s)) else none | _ => none⟩
theorem spec84 {s : List Nat} (h : s.length ≤ 1000000) : p84.spec [.str s] = some (.int .i64 (numI s)) := by
  show (bif Nat.ble s.length 1000000 then some (AV.int .i64 (numI s)) else none) = _
  rw [Nat.ble_eq_true_of_le h]; rfl
theorem valD_take {s : List Nat} {i : Nat} (h : i < s.length) : valD 0 (s.take (i + 1)) = valD 0 (s.take i) * 10 + (s[i] - 48) := by
  rw [List.take_succ_eq_append_getElem h, valD_snoc]
theorem wrap_ten {n : Nat} (h : n < 1000000000) : IntKind.i64.wrap (10 * (n : Int)) = ((n * 10 : Nat) : Int) := by rw [IntKind.wrap_i64]; omega
theorem wrap_add {n m : Nat} (h : n < 100000000000) (h' : m < 1000) : IntKind.i64.wrap ((n : Int) + (m : Int)) = ((n + m : Nat) : Int) := by rw [IntKind.wrap_i64]; omega
theorem wrap_u8sub {x : Nat} (h1 : 48 ≤ x) (h2 : x ≤ 57) : IntKind.u8.wrap ((x : Int) - 48) = ((x - 48 : Nat) : Int) := by
  have e : (x : Int) - 48 = ((x - 48 : Nat) : Int) := by omega
  rw [e]
  have : x - 48 < 256 := by omega
  simp only [IntKind.wrap, IntKind.bits, IntKind.signed]
  norm_cast
  simp [Nat.mod_eq_of_lt this]
theorem take_all {s : List Nat} {i : Nat} (h : s.all isDig = true) : (s.take i).all isDig = true := by
  rw [List.all_eq_true] at h ⊢
  intro b hb
  exact h b (List.mem_of_mem_take hb)
theorem cl_84 (args : List AV) : calleeA Tryz.prog (.fn (.func 84) [] []) args = some (.enter 84 args) := by rw [callee_of Tryz.func84 (by kernel_rfl) (by kernel_rfl)]; simp
theorem cl_83 (args : List AV) : calleeA Tryz.prog (.fn (.func 83) [] []) args = some (.enter 83 args) := by rw [callee_of Tryz.func83 (by kernel_rfl) (by kernel_rfl)]; simp
theorem p84_ok : p84.Ok := by
  refine PFn.Ok.ofT (qs := []) (ps := []) (fun q h => by cases h) (fun p h => by cases h) (fun args x h => ?_)
  simp only [p84] at h
  split at h
  rotate_left
  · cases h
  rename_i s
  cases hb : Nat.ble s.length 1000000 with
  | false => rw [hb] at h; cases h
  | true =>
  rw [hb, cond_true, Option.some.injEq] at h
  subst h
  have hb := Nat.le_of_ble_eq_true hb
  refine ⟨rfl, EvC.run (by kernel_rfl) (by rw [CT_P]; exact Tryz.func84) rfl ?_⟩
  apply EvX.seq
  apply EvX.reg0
  · intro call
    simp only [QRun, stepA, wantedA, opA, pureA, loadA, effA, binA, bin, evalA, ofV, ofCell, Fr.put, setArgs, kS, Nat.zero_testBit, Nat.reduceAdd, Nat.reduceSub, Nat.reduceLeDiff, decide_true, decide_false, Nat.reduceEqDiff, if_true, if_false, reduceIte, operands, Tryz.ntmps84]
    exact ⟨rfl, rfl⟩
  simp only [Ex.thn]
  apply EvX.seq
  apply EvX.reg0
  · intro call
    simp only [QRun, stepA, wantedA, opA, pureA, loadA, effA, binA, bin, evalA, ofV, ofCell, Fr.put, setArgs, kS, Nat.zero_testBit, Nat.reduceAdd, Nat.reduceSub, Nat.reduceLeDiff, decide_true, decide_false, Nat.reduceEqDiff, if_true, if_false, reduceIte, operands]
    exact ⟨rfl, rfl⟩
  simp only [Ex.thn]
  apply EvX.seq
  apply EvX.seq
  by_cases b1 : (s.length : Int) = 0
  · have d1 : ((s.length : Int) == 0) = true := by rw [b1]; rfl
    have hv : numI s = -1 := numI_none (by unfold numN; rw [if_pos (.inl (by omega))])
    apply EvX.reg0
    · intro call
      simp only [QRun, stepA, wantedA, opA, pureA, loadA, effA, binA, bin, evalA, ofV, ofCell, Fr.put, setArgs, kS, Nat.zero_testBit, Nat.reduceAdd, Nat.reduceSub, Nat.reduceLeDiff, decide_true, decide_false, Nat.reduceEqDiff, if_true, if_false, reduceIte, operands, lenS 9 st_9, natOf_0, natOf_1, AV.cells, takeN, beq_self_eq_true, eq_self, kA1, kA2, kB, Tryz.underlying3, d1]
      exact ⟨rfl, rfl⟩
    simp only [Ex.thn]
    apply EvX.cond2 (t := true)
    · simp only [evalA, Tr.get_set, Nat.reduceEqDiff, if_true, if_false, reduceIte]
    rotate_left
    · intro h; cases h
    intro _
    apply EvX.seq
    apply EvX.reg0
    · intro call
      simp only [QRun, stepA, wantedA, opA, pureA, loadA, effA, binA, bin, evalA, ofV, ofCell, Fr.put, setArgs, kS, Nat.zero_testBit, Nat.reduceAdd, Nat.reduceSub, Nat.reduceLeDiff, decide_true, decide_false, Nat.reduceEqDiff, if_true, if_false, reduceIte, operands]
      exact ⟨rfl, rfl⟩
    simp only [Ex.thn]
    apply EvX.ret
    simp only [Ex.thn, Ex.blk]
    rw [hv]
    exact Fin.one rfl (by simp only [Tr.get_set, if_true, if_false, reduceIte, Nat.reduceEqDiff])
  have d1 : ((s.length : Int) == 0) = false := by rw [beq_eq_false_iff_ne]; exact b1
  by_cases b2 : (s.length : Int) > 9
  · have d2 := decide_eq_true b2
    have hv : numI s = -1 := numI_none (by unfold numN; rw [if_pos (.inr (by omega))])
    apply EvX.reg0
    · intro call
      simp only [QRun, stepA, wantedA, opA, pureA, loadA, effA, binA, bin, evalA, ofV, ofCell, Fr.put, setArgs, kS, Nat.zero_testBit, Nat.reduceAdd, Nat.reduceSub, Nat.reduceLeDiff, decide_true, decide_false, Nat.reduceEqDiff, if_true, if_false, reduceIte, operands, lenS 9 st_9, natOf_0, natOf_1, AV.cells, takeN, beq_self_eq_true, eq_self, kA1, kA2, kB, Tryz.underlying3, d1, d2]
      exact ⟨rfl, rfl⟩
    simp only [Ex.thn]
    apply EvX.cond2 (t := true)
    · simp only [evalA, Tr.get_set, Nat.reduceEqDiff, if_true, if_false, reduceIte]
    rotate_left
    · intro h; cases h
    intro _
    apply EvX.seq
    apply EvX.reg0
    · intro call
      simp only [QRun, stepA, wantedA, opA, pureA, loadA, effA, binA, bin, evalA, ofV, ofCell, Fr.put, setArgs, kS, Nat.zero_testBit, Nat.reduceAdd, Nat.reduceSub, Nat.reduceLeDiff, decide_true, decide_false, Nat.reduceEqDiff, if_true, if_false, reduceIte, operands]
      exact ⟨rfl, rfl⟩
    simp only [Ex.thn]
    apply EvX.ret
    simp only [Ex.thn, Ex.blk]
    rw [hv]
    exact Fin.one rfl (by simp only [Tr.get_set, if_true, if_false, reduceIte, Nat.reduceEqDiff])
  have d2 := decide_eq_false b2
  have hlen : ¬ (s.length < 1 ∨ s.length > 9) := by omega
  obtain ⟨b, s', hs⟩ : ∃ b s', s = b :: s' := by
    cases s with
    | nil => simp at b1
    | cons b s' => exact ⟨b, s', rfl⟩
  have h0 : s[0]? = some b := by rw [hs]; rfl
  have hh : s.head? = some b := by rw [hs]; rfl
  by_cases b3 : (s.length : Int) > 1
  · have d3 := decide_eq_true b3
    by_cases b4 : b = 48
    · have d4 : (((b : Nat) : Int) == 48) = true := by rw [b4]; rfl
      have hv : numI s = -1 := numI_none (by unfold numN; rw [if_neg hlen, if_pos ⟨by rw [hh, b4], fun e => by rw [e] at b3; simp at b3⟩])
      apply EvX.reg0
      · intro call
        simp only [QRun, stepA, wantedA, opA, pureA, loadA, effA, binA, bin, evalA, ofV, ofCell, Fr.put, setArgs, kS, Nat.zero_testBit, Nat.reduceAdd, Nat.reduceSub, Nat.reduceLeDiff, decide_true, decide_false, Nat.reduceEqDiff, if_true, if_false, reduceIte, operands, lenS 9 st_9, natOf_0, natOf_1, AV.cells, takeN, beq_self_eq_true, eq_self, kA1, kA2, kB, Tryz.underlying3, d1, d2, d3, d4, natOf?, h0]
        exact ⟨rfl, rfl⟩
      simp only [Ex.thn]
      apply EvX.cond2 (t := true)
      · simp only [evalA, Tr.get_set, Nat.reduceEqDiff, if_true, if_false, reduceIte]
      rotate_left
      · intro h; cases h
      intro _
      apply EvX.seq
      apply EvX.reg0
      · intro call
        simp only [QRun, stepA, wantedA, opA, pureA, loadA, effA, binA, bin, evalA, ofV, ofCell, Fr.put, setArgs, kS, Nat.zero_testBit, Nat.reduceAdd, Nat.reduceSub, Nat.reduceLeDiff, decide_true, decide_false, Nat.reduceEqDiff, if_true, if_false, reduceIte, operands]
        exact ⟨rfl, rfl⟩
      simp only [Ex.thn]
      apply EvX.ret
      simp only [Ex.thn, Ex.blk]
      rw [hv]
      exact Fin.one rfl (by simp only [Tr.get_set, if_true, if_false, reduceIte, Nat.reduceEqDiff])
    have d4 : (((b : Nat) : Int) == 48) = false := by rw [beq_eq_false_iff_ne]; omega
    have hz : ¬ (s.head? = some 48 ∧ s ≠ [48]) := fun h => by rw [hh] at h; exact b4 (Option.some.inj h.1)
    apply EvX.reg0
    · intro call
      simp only [QRun, stepA, wantedA, opA, pureA, loadA, effA, binA, bin, evalA, ofV, ofCell, Fr.put, setArgs, kS, Nat.zero_testBit, Nat.reduceAdd, Nat.reduceSub, Nat.reduceLeDiff, decide_true, decide_false, Nat.reduceEqDiff, if_true, if_false, reduceIte, operands, lenS 9 st_9, natOf_0, natOf_1, AV.cells, takeN, beq_self_eq_true, eq_self, kA1, kA2, kB, Tryz.underlying3, d1, d2, d3, d4, natOf?, h0]
      exact ⟨rfl, rfl⟩
    simp only [Ex.thn]
    apply EvX.cond2 (t := false)
    · simp only [evalA, Tr.get_set, Nat.reduceEqDiff, if_true, if_false, reduceIte]
    · intro h; cases h
    intro _
    apply EvX.skip
    simp only [Ex.thn, Ex.blk]
    apply EvX.seq
    apply EvX.seq
    apply EvX.reg0
    · intro call
      simp only [QRun, stepA, wantedA, opA, pureA, loadA, effA, binA, bin, evalA, ofV, ofCell, Fr.put, setArgs, kS, Nat.zero_testBit, Nat.reduceAdd, Nat.reduceSub, Nat.reduceLeDiff, decide_true, decide_false, Nat.reduceEqDiff, if_true, if_false, reduceIte, operands]
      exact ⟨rfl, rfl⟩
    simp only [Ex.thn]
    apply EvX.block
    refine EvX.loop (fun k fr m => ∃ i : Nat, k = s.length - i ∧ i ≤ s.length ∧ fr.n = 48 ∧ fr.t.get 0 = some (.str s) ∧ fr.t.get 3 = some (.int .i64 ((valD 0 (s.take i) : Nat) : Int)) ∧ fr.t.get 4 = some (.int .i64 (i : Int)) ∧ (s.take i).all isDig = true) ?_ s.length _ _
      ⟨0, by simp, by simp, rfl, by simp [Tr.get_set], by rw [show ((valD 0 (s.take 0) : Nat) : Int) = 0 from rfl]; simp [Tr.get_set], by simp [Tr.get_set], rfl⟩
    rintro k fr m ⟨i, rfl, hil, hfn, h0, h3, h4, hgo⟩
    apply EvX.seq
    apply EvX.seq
    apply EvX.reg0
    · intro call
      simp only [QRun, stepA, wantedA, opA, pureA, loadA, effA, binA, bin, evalA, ofV, ofCell, Fr.put, setArgs, kS, Nat.zero_testBit, Nat.reduceAdd, Nat.reduceSub, Nat.reduceLeDiff, decide_true, decide_false, Nat.reduceEqDiff, if_true, if_false, reduceIte, operands, hfn, h0, h4, lenS 9 st_9, natOf_0, natOf_1, AV.cells, takeN, beq_self_eq_true, eq_self, kA1, kA2, kB, Tryz.underlying3]
      exact ⟨rfl, rfl⟩
    simp only [Ex.thn]
    apply EvX.cond2
    · simp only [evalA, Tr.get_set, Nat.reduceEqDiff, if_true, if_false, reduceIte]; exact rfl
    rotate_left
    · intro hge
      have hge := of_decide_eq_false hge
      have hi : i = s.length := by omega
      subst hi
      rw [List.take_length] at h3 hgo
      have hv : numI s = ((valD 0 s : Nat) : Int) := numI_some (by unfold numN; rw [if_neg hlen, if_neg hz, if_pos hgo])
      apply EvX.exit
      simp only [Ex.thn, Ex.blk, beq_dec, decide_true, cond_true]
      apply EvX.seq
      apply EvX.reg0
      · intro call
        simp only [QRun, stepA, wantedA, opA, pureA, loadA, effA, binA, bin, evalA, ofV, ofCell, Fr.put, setArgs, kS, Nat.zero_testBit, Nat.reduceAdd, Nat.reduceSub, Nat.reduceLeDiff, decide_true, decide_false, Nat.reduceEqDiff, if_true, if_false, reduceIte, operands, hfn, h3]
        exact ⟨rfl, rfl⟩
      simp only [Ex.thn]
      apply EvX.ret
      rw [hv]
      exact Fin.one rfl (by simp only [Tr.get_set, if_true, if_false, reduceIte, Nat.reduceEqDiff])
    intro hlt
    have hlt := of_decide_eq_true hlt
    have hlt : i < s.length := by omega
    have hlt' : i + 1 ≤ s.length := hlt
    have hgi : s[i]? = some s[i] := List.getElem?_eq_getElem hlt
    have hvt := valD_take hlt
    have htk := List.take_succ_eq_append_getElem hlt
    generalize hx : s[i] = x at hgi hvt htk
    apply EvX.skip
    simp only [Ex.thn]
    apply EvX.seq
    apply EvX.block
    apply EvX.seq
    apply EvX.seq
    by_cases c1 : ((x : Nat) : Int) < 48
    · have e1 := decide_eq_true c1
      have f1 : decide (48 ≤ x) = false := decide_eq_false (by omega)
      have hv : numI s = -1 := numI_none (by
        unfold numN; rw [if_neg hlen, if_neg hz, if_neg]
        intro ha
        have := take_all (i := i + 1) ha
        rw [htk, List.all_append, List.all_cons] at this
        unfold isDig at this
        rw [f1] at this
        simp at this)
      apply EvX.reg0
      · intro call
        simp only [QRun, stepA, wantedA, opA, pureA, loadA, effA, binA, bin, evalA, ofV, ofCell, Fr.put, setArgs, kS, Nat.zero_testBit, Nat.reduceAdd, Nat.reduceSub, Nat.reduceLeDiff, decide_true, decide_false, Nat.reduceEqDiff, if_true, if_false, reduceIte, operands, hfn, h0, h3, h4, natOf?, natOf_cast, hgi, AV.cells, takeN, beq_self_eq_true, eq_self, kA1, kA2, kB, Tryz.underlying3, e1]
        exact ⟨rfl, rfl⟩
      simp only [Ex.thn]
      apply EvX.cond2 (t := true)
      · simp only [evalA, Tr.get_set, Nat.reduceEqDiff, if_true, if_false, reduceIte]
      rotate_left
      · intro h; cases h
      intro _
      apply EvX.seq
      apply EvX.reg0
      · intro call
        simp only [QRun, stepA, wantedA, opA, pureA, loadA, effA, binA, bin, evalA, ofV, ofCell, Fr.put, setArgs, kS, Nat.zero_testBit, Nat.reduceAdd, Nat.reduceSub, Nat.reduceLeDiff, decide_true, decide_false, Nat.reduceEqDiff, if_true, if_false, reduceIte, operands, hfn]
        exact ⟨rfl, rfl⟩
      simp only [Ex.thn]
      apply EvX.ret
      simp only [Ex.thn, Ex.blk]
      rw [hv]
      exact Fin.one rfl (by simp only [Tr.get_set, if_true, if_false, reduceIte, Nat.reduceEqDiff])
    have e1 := decide_eq_false c1
    have f1 : decide (48 ≤ x) = true := decide_eq_true (by omega)
    by_cases c2 : ((x : Nat) : Int) > 57
    · have e2 := decide_eq_true c2
      have f2 : decide (x ≤ 57) = false := decide_eq_false (by omega)
      have hv : numI s = -1 := numI_none (by
        unfold numN; rw [if_neg hlen, if_neg hz, if_neg]
        intro ha
        have := take_all (i := i + 1) ha
        rw [htk, List.all_append, List.all_cons] at this
        unfold isDig at this
        rw [f1, f2] at this
        simp at this)
      apply EvX.reg0
      · intro call
        simp only [QRun, stepA, wantedA, opA, pureA, loadA, effA, binA, bin, evalA, ofV, ofCell, Fr.put, setArgs, kS, Nat.zero_testBit, Nat.reduceAdd, Nat.reduceSub, Nat.reduceLeDiff, decide_true, decide_false, Nat.reduceEqDiff, if_true, if_false, reduceIte, operands, hfn, h0, h3, h4, natOf?, natOf_cast, hgi, AV.cells, takeN, beq_self_eq_true, eq_self, kA1, kA2, kB, Tryz.underlying3, e1, e2]
        exact ⟨rfl, rfl⟩
      simp only [Ex.thn]
      apply EvX.cond2 (t := true)
      · simp only [evalA, Tr.get_set, Nat.reduceEqDiff, if_true, if_false, reduceIte]
      rotate_left
      · intro h; cases h
      intro _
      apply EvX.seq
      apply EvX.reg0
      · intro call
        simp only [QRun, stepA, wantedA, opA, pureA, loadA, effA, binA, bin, evalA, ofV, ofCell, Fr.put, setArgs, kS, Nat.zero_testBit, Nat.reduceAdd, Nat.reduceSub, Nat.reduceLeDiff, decide_true, decide_false, Nat.reduceEqDiff, if_true, if_false, reduceIte, operands, hfn]
        exact ⟨rfl, rfl⟩
      simp only [Ex.thn]
      apply EvX.ret
      simp only [Ex.thn, Ex.blk]
      rw [hv]
      exact Fin.one rfl (by simp only [Tr.get_set, if_true, if_false, reduceIte, Nat.reduceEqDiff])
    have e2 := decide_eq_false c2
    have f2 : decide (x ≤ 57) = true := decide_eq_true (by omega)
    have hgo' : (s.take (i + 1)).all isDig = true := by rw [htk, List.all_append, hgo, List.all_cons]; unfold isDig; rw [f1, f2]; rfl
    have hvl : valD 0 (s.take i) < 1000000000 := by
      have := valD_lt (s.take i) 0 hgo
      rw [Nat.zero_add, Nat.one_mul] at this
      refine Nat.lt_of_lt_of_le this (Nat.pow_le_pow_right (n := 10) (by omega) (show (s.take i).length ≤ 9 by rw [List.length_take]; omega))
    have w1 := wrap_ten hvl
    have w2 := wrap_u8sub (x := x) (by omega) (by omega)
    have w3 := wrap_nat (i := x - 48) (by omega)
    have w4 := wrap_add (n := valD 0 (s.take i) * 10) (m := x - 48) (by omega) (by omega)
    apply EvX.reg0
    · intro call
      simp only [QRun, stepA, wantedA, opA, pureA, loadA, effA, binA, bin, evalA, ofV, ofCell, Fr.put, setArgs, kS, Nat.zero_testBit, Nat.reduceAdd, Nat.reduceSub, Nat.reduceLeDiff, decide_true, decide_false, Nat.reduceEqDiff, if_true, if_false, reduceIte, operands, hfn, h0, h3, h4, natOf?, natOf_cast, hgi, AV.cells, takeN, beq_self_eq_true, eq_self, kA1, kA2, kB, Tryz.underlying3, e1, e2]
      exact ⟨rfl, rfl⟩
    simp only [Ex.thn]
    apply EvX.cond2 (t := false)
    · simp only [evalA, Tr.get_set, Nat.reduceEqDiff, if_true, if_false, reduceIte]
    · intro h; cases h
    intro _
    apply EvX.skip
    simp only [Ex.thn, Ex.blk]
    apply EvX.reg0
    · intro call
      simp only [QRun, stepA, wantedA, opA, pureA, loadA, effA, binA, bin, evalA, ofV, ofCell, Fr.put, setArgs, kS, Nat.zero_testBit, Nat.reduceAdd, Nat.reduceSub, Nat.reduceLeDiff, decide_true, decide_false, Nat.reduceEqDiff, if_true, if_false, reduceIte, operands, hfn, h0, h3, h4, natOf?, natOf_cast, hgi, AV.cells, takeN, beq_self_eq_true, eq_self, kA1, kA2, kB, Tryz.underlying3, convA, w1, w2, w3, w4, ← hvt]
      exact ⟨rfl, rfl⟩
    simp only [Ex.thn, Ex.blk]
    apply EvX.reg0
    · intro call
      simp only [QRun, stepA, wantedA, opA, pureA, loadA, effA, binA, bin, evalA, ofV, ofCell, Fr.put, setArgs, kS, Nat.zero_testBit, Nat.reduceAdd, Nat.reduceSub, Nat.reduceLeDiff, decide_true, decide_false, Nat.reduceEqDiff, if_true, if_false, reduceIte, operands, hfn, h4, wrap_succ (show i + 1 ≤ 9223372036854775807 by omega)]
      exact ⟨rfl, rfl⟩
    simp only [Ex.thn]
    refine ⟨s.length - (i + 1), by omega, i + 1, rfl, hlt', trivial, ?_, ?_, ?_, hgo'⟩
    · simp [Tr.get_set, h0]
    · simp [Tr.get_set]
    · simp [Tr.get_set]
  have d3 := decide_eq_false b3
  have hs' : s' = [] := by
    rw [hs] at b3
    exact List.length_eq_zero_iff.1 (by simp at b3; omega)
  have hz : ¬ (s.head? = some 48 ∧ s ≠ [48]) := fun h => by
    rw [hh] at h
    have := Option.some.inj h.1
    exact h.2 (by rw [hs, hs', this])
  apply EvX.reg0
  · intro call
    simp only [QRun, stepA, wantedA, opA, pureA, loadA, effA, binA, bin, evalA, ofV, ofCell, Fr.put, setArgs, kS, Nat.zero_testBit, Nat.reduceAdd, Nat.reduceSub, Nat.reduceLeDiff, decide_true, decide_false, Nat.reduceEqDiff, if_true, if_false, reduceIte, operands, lenS 9 st_9, natOf_0, natOf_1, AV.cells, takeN, beq_self_eq_true, eq_self, kA1, kA2, kB, Tryz.underlying3, d1, d2, d3]
    exact ⟨rfl, rfl⟩
  simp only [Ex.thn]
  apply EvX.cond2 (t := false)
  · simp only [evalA, Tr.get_set, Nat.reduceEqDiff, if_true, if_false, reduceIte]
  · intro h; cases h
  intro _
  apply EvX.skip
  simp only [Ex.thn, Ex.blk]
  apply EvX.seq
  apply EvX.seq
  apply EvX.reg0
  · intro call
    simp only [QRun, stepA, wantedA, opA, pureA, loadA, effA, binA, bin, evalA, ofV, ofCell, Fr.put, setArgs, kS, Nat.zero_testBit, Nat.reduceAdd, Nat.reduceSub, Nat.reduceLeDiff, decide_true, decide_false, Nat.reduceEqDiff, if_true, if_false, reduceIte, operands]
    exact ⟨rfl, rfl⟩
  simp only [Ex.thn]
  apply EvX.block
  refine EvX.loop (fun k fr m => ∃ i : Nat, k = s.length - i ∧ i ≤ s.length ∧ fr.n = 48 ∧ fr.t.get 0 = some (.str s) ∧ fr.t.get 3 = some (.int .i64 ((valD 0 (s.take i) : Nat) : Int)) ∧ fr.t.get 4 = some (.int .i64 (i : Int)) ∧ (s.take i).all isDig = true) ?_ s.length _ _
    ⟨0, by simp, by simp, rfl, by simp [Tr.get_set], by rw [show ((valD 0 (s.take 0) : Nat) : Int) = 0 from rfl]; simp [Tr.get_set], by simp [Tr.get_set], rfl⟩
  rintro k fr m ⟨i, rfl, hil, hfn, h0, h3, h4, hgo⟩
  apply EvX.seq
  apply EvX.seq
  apply EvX.reg0
  · intro call
    simp only [QRun, stepA, wantedA, opA, pureA, loadA, effA, binA, bin, evalA, ofV, ofCell, Fr.put, setArgs, kS, Nat.zero_testBit, Nat.reduceAdd, Nat.reduceSub, Nat.reduceLeDiff, decide_true, decide_false, Nat.reduceEqDiff, if_true, if_false, reduceIte, operands, hfn, h0, h4, lenS 9 st_9, natOf_0, natOf_1, AV.cells, takeN, beq_self_eq_true, eq_self, kA1, kA2, kB, Tryz.underlying3]
    exact ⟨rfl, rfl⟩
  simp only [Ex.thn]
  apply EvX.cond2
  · simp only [evalA, Tr.get_set, Nat.reduceEqDiff, if_true, if_false, reduceIte]; exact rfl
  rotate_left
  · intro hge
    have hge := of_decide_eq_false hge
    have hi : i = s.length := by omega
    subst hi
    rw [List.take_length] at h3 hgo
    have hv : numI s = ((valD 0 s : Nat) : Int) := numI_some (by unfold numN; rw [if_neg hlen, if_neg hz, if_pos hgo])
    apply EvX.exit
    simp only [Ex.thn, Ex.blk, beq_dec, decide_true, cond_true]
    apply EvX.seq
    apply EvX.reg0
    · intro call
      simp only [QRun, stepA, wantedA, opA, pureA, loadA, effA, binA, bin, evalA, ofV, ofCell, Fr.put, setArgs, kS, Nat.zero_testBit, Nat.reduceAdd, Nat.reduceSub, Nat.reduceLeDiff, decide_true, decide_false, Nat.reduceEqDiff, if_true, if_false, reduceIte, operands, hfn, h3]
      exact ⟨rfl, rfl⟩
    simp only [Ex.thn]
    apply EvX.ret
    rw [hv]
    exact Fin.one rfl (by simp only [Tr.get_set, if_true, if_false, reduceIte, Nat.reduceEqDiff])
  intro hlt
  have hlt := of_decide_eq_true hlt
  have hlt : i < s.length := by omega
  have hlt' : i + 1 ≤ s.length := hlt
  have hgi : s[i]? = some s[i] := List.getElem?_eq_getElem hlt
  have hvt := valD_take hlt
  have htk := List.take_succ_eq_append_getElem hlt
  generalize hx : s[i] = x at hgi hvt htk
  apply EvX.skip
  simp only [Ex.thn]
  apply EvX.seq
  apply EvX.block
  apply EvX.seq
  apply EvX.seq
  by_cases c1 : ((x : Nat) : Int) < 48
  · have e1 := decide_eq_true c1
    have f1 : decide (48 ≤ x) = false := decide_eq_false (by omega)
    have hv : numI s = -1 := numI_none (by
      unfold numN; rw [if_neg hlen, if_neg hz, if_neg]
      intro ha
      have := take_all (i := i + 1) ha
      rw [htk, List.all_append, List.all_cons] at this
      unfold isDig at this
      rw [f1] at this
      simp at this)
    apply EvX.reg0
    · intro call
      simp only [QRun, stepA, wantedA, opA, pureA, loadA, effA, binA, bin, evalA, ofV, ofCell, Fr.put, setArgs, kS, Nat.zero_testBit, Nat.reduceAdd, Nat.reduceSub, Nat.reduceLeDiff, decide_true, decide_false, Nat.reduceEqDiff, if_true, if_false, reduceIte, operands, hfn, h0, h3, h4, natOf?, natOf_cast, hgi, AV.cells, takeN, beq_self_eq_true, eq_self, kA1, kA2, kB, Tryz.underlying3, e1]
      exact ⟨rfl, rfl⟩
    simp only [Ex.thn]
    apply EvX.cond2 (t := true)
    · simp only [evalA, Tr.get_set, Nat.reduceEqDiff, if_true, if_false, reduceIte]
    rotate_left
    · intro h; cases h
    intro _
    apply EvX.seq
    apply EvX.reg0
    · intro call
      simp only [QRun, stepA, wantedA, opA, pureA, loadA, effA, binA, bin, evalA, ofV, ofCell, Fr.put, setArgs, kS, Nat.zero_testBit, Nat.reduceAdd, Nat.reduceSub, Nat.reduceLeDiff, decide_true, decide_false, Nat.reduceEqDiff, if_true, if_false, reduceIte, operands, hfn]
      exact ⟨rfl, rfl⟩
    simp only [Ex.thn]
    apply EvX.ret
    simp only [Ex.thn, Ex.blk]
    rw [hv]
    exact Fin.one rfl (by simp only [Tr.get_set, if_true, if_false, reduceIte, Nat.reduceEqDiff])
  have e1 := decide_eq_false c1
  have f1 : decide (48 ≤ x) = true := decide_eq_true (by omega)
  by_cases c2 : ((x : Nat) : Int) > 57
  · have e2 := decide_eq_true c2
    have f2 : decide (x ≤ 57) = false := decide_eq_false (by omega)
    have hv : numI s = -1 := numI_none (by
      unfold numN; rw [if_neg hlen, if_neg hz, if_neg]
      intro ha
      have := take_all (i := i + 1) ha
      rw [htk, List.all_append, List.all_cons] at this
      unfold isDig at this
      rw [f1, f2] at this
      simp at this)
    apply EvX.reg0
    · intro call
      simp only [QRun, stepA, wantedA, opA, pureA, loadA, effA, binA, bin, evalA, ofV, ofCell, Fr.put, setArgs, kS, Nat.zero_testBit, Nat.reduceAdd, Nat.reduceSub, Nat.reduceLeDiff, decide_true, decide_false, Nat.reduceEqDiff, if_true, if_false, reduceIte, operands, hfn, h0, h3, h4, natOf?, natOf_cast, hgi, AV.cells, takeN, beq_self_eq_true, eq_self, kA1, kA2, kB, Tryz.underlying3, e1, e2]
      exact ⟨rfl, rfl⟩
    simp only [Ex.thn]
    apply EvX.cond2 (t := true)
    · simp only [evalA, Tr.get_set, Nat.reduceEqDiff, if_true, if_false, reduceIte]
    rotate_left
    · intro h; cases h
    intro _
    apply EvX.seq
    apply EvX.reg0
    · intro call
      simp only [QRun, stepA, wantedA, opA, pureA, loadA, effA, binA, bin, evalA, ofV, ofCell, Fr.put, setArgs, kS, Nat.zero_testBit, Nat.reduceAdd, Nat.reduceSub, Nat.reduceLeDiff, decide_true, decide_false, Nat.reduceEqDiff, if_true, if_false, reduceIte, operands, hfn]
      exact ⟨rfl, rfl⟩
    simp only [Ex.thn]
    apply EvX.ret
    simp only [Ex.thn, Ex.blk]
    rw [hv]
    exact Fin.one rfl (by simp only [Tr.get_set, if_true, if_false, reduceIte, Nat.reduceEqDiff])
  have e2 := decide_eq_false c2
  have f2 : decide (x ≤ 57) = true := decide_eq_true (by omega)
  have hgo' : (s.take (i + 1)).all isDig = true := by rw [htk, List.all_append, hgo, List.all_cons]; unfold isDig; rw [f1, f2]; rfl
  have hvl : valD 0 (s.take i) < 1000000000 := by
    have := valD_lt (s.take i) 0 hgo
    rw [Nat.zero_add, Nat.one_mul] at this
    refine Nat.lt_of_lt_of_le this (Nat.pow_le_pow_right (n := 10) (by omega) (show (s.take i).length ≤ 9 by rw [List.length_take]; omega))
  have w1 := wrap_ten hvl
  have w2 := wrap_u8sub (x := x) (by omega) (by omega)
  have w3 := wrap_nat (i := x - 48) (by omega)
  have w4 := wrap_add (n := valD 0 (s.take i) * 10) (m := x - 48) (by omega) (by omega)
  apply EvX.reg0
  · intro call
    simp only [QRun, stepA, wantedA, opA, pureA, loadA, effA, binA, bin, evalA, ofV, ofCell, Fr.put, setArgs, kS, Nat.zero_testBit, Nat.reduceAdd, Nat.reduceSub, Nat.reduceLeDiff, decide_true, decide_false, Nat.reduceEqDiff, if_true, if_false, reduceIte, operands, hfn, h0, h3, h4, natOf?, natOf_cast, hgi, AV.cells, takeN, beq_self_eq_true, eq_self, kA1, kA2, kB, Tryz.underlying3, e1, e2]
    exact ⟨rfl, rfl⟩
  simp only [Ex.thn]
  apply EvX.cond2 (t := false)
  · simp only [evalA, Tr.get_set, Nat.reduceEqDiff, if_true, if_false, reduceIte]
  · intro h; cases h
  intro _
  apply EvX.skip
  simp only [Ex.thn, Ex.blk]
  apply EvX.reg0
  · intro call
    simp only [QRun, stepA, wantedA, opA, pureA, loadA, effA, binA, bin, evalA, ofV, ofCell, Fr.put, setArgs, kS, Nat.zero_testBit, Nat.reduceAdd, Nat.reduceSub, Nat.reduceLeDiff, decide_true, decide_false, Nat.reduceEqDiff, if_true, if_false, reduceIte, operands, hfn, h0, h3, h4, natOf?, natOf_cast, hgi, AV.cells, takeN, beq_self_eq_true, eq_self, kA1, kA2, kB, Tryz.underlying3, convA, w1, w2, w3, w4, ← hvt]
    exact ⟨rfl, rfl⟩
  simp only [Ex.thn, Ex.blk]
  apply EvX.reg0
  · intro call
    simp only [QRun, stepA, wantedA, opA, pureA, loadA, effA, binA, bin, evalA, ofV, ofCell, Fr.put, setArgs, kS, Nat.zero_testBit, Nat.reduceAdd, Nat.reduceSub, Nat.reduceLeDiff, decide_true, decide_false, Nat.reduceEqDiff, if_true, if_false, reduceIte, operands, hfn, h4, wrap_succ (show i + 1 ≤ 9223372036854775807 by omega)]
    exact ⟨rfl, rfl⟩
  simp only [Ex.thn]
  refine ⟨s.length - (i + 1), by omega, i + 1, rfl, hlt', trivial, ?_, ?_, ?_, hgo'⟩
  · simp [Tr.get_set, h0]
  · simp [Tr.get_set]
  · simp [Tr.get_set]
/-! ### words -/
def p83 : PFn := ⟨83, fun | [.str s] => bif Nat.ble s.length 1000000 then some (rowStrs 32 s) else none | _ => none⟩
theorem spec83 {s : List Nat} (h : s.length ≤ 1000000) : p83.spec [.str s] = some (rowStrs 32 s) := by
  show (bif Nat.ble s.length 1000000 then some (rowStrs 32 s) else none) = _
  rw [Nat.ble_eq_true_of_le h]; rfl
theorem drop_mid {s : List Nat} {a i : Nat} (h1 : a ≤ i) (h2 : i < s.length) : s.drop a = (s.take i).drop a ++ s[i] :: s.drop (i + 1) := by
  rw [← List.drop_eq_getElem_cons h2]
  conv => lhs; rw [← List.take_append_drop i s, List.drop_append_of_le_length (by rw [List.length_take]; omega)]
theorem take_mid {s : List Nat} {a i : Nat} (h1 : a ≤ i) (h2 : i < s.length) : (s.take (i + 1)).drop a = (s.take i).drop a ++ [s[i]] := by
  rw [List.take_succ_eq_append_getElem h2, List.drop_append_of_le_length (by rw [List.length_take]; omega)]
theorem encStrs_snoc (l : List (List Nat)) (w : List Nat) : encStrs l ++ [AV.str w] = encStrs (l ++ [w]) := by simp [encStrs]
theorem p83_ok : p83.OkT := by
  refine PFn.OkT.of (qs := []) (ps := []) (fun q h => by cases h) (fun p h => by cases h) (fun args y h => ?_)
  simp only [p83] at h
  split at h
  rotate_left
  · cases h
  rename_i s
  cases hb : Nat.ble s.length 1000000 with
  | false => rw [hb] at h; cases h
  | true =>
  rw [hb, cond_true, Option.some.injEq] at h
  subst h
  have hb := Nat.le_of_ble_eq_true hb
  refine EvC.runT (K := fun x m' => treeA 8 m' x = some (rowStrs 32 s)) (by kernel_rfl) (by rw [CT_P]; exact Tryz.func83) rfl ?_
  apply EvX.seq
  apply EvX.reg0
  · intro call
    simp only [QRun, stepA, wantedA, opA, pureA, loadA, effA, binA, bin, evalA, ofV, ofCell, Fr.put, setArgs, kS, Nat.zero_testBit, Nat.reduceAdd, Nat.reduceSub, Nat.reduceLeDiff, decide_true, decide_false, Nat.reduceEqDiff, if_true, if_false, reduceIte, operands, Tryz.ntmps83]
    exact ⟨rfl, rfl⟩
  simp only [Ex.thn]
  apply EvX.seq
  apply EvX.reg0
  · intro call
    simp only [QRun, stepA, wantedA, opA, pureA, loadA, effA, binA, bin, evalA, ofV, ofCell, Fr.put, setArgs, kS, Nat.zero_testBit, Nat.reduceAdd, Nat.reduceSub, Nat.reduceLeDiff, decide_true, decide_false, Nat.reduceEqDiff, if_true, if_false, reduceIte, operands]
    exact ⟨rfl, rfl⟩
  simp only [Ex.thn]
  apply EvX.seq
  apply EvX.reg0
  · intro call
    simp only [QRun, stepA, wantedA, opA, pureA, loadA, effA, binA, bin, evalA, ofV, ofCell, Fr.put, setArgs, kS, Nat.zero_testBit, Nat.reduceAdd, Nat.reduceSub, Nat.reduceLeDiff, decide_true, decide_false, Nat.reduceEqDiff, if_true, if_false, reduceIte, operands]
    exact ⟨rfl, rfl⟩
  simp only [Ex.thn]
  apply EvX.seq
  apply EvX.seq
  apply EvX.reg0
  · intro call
    simp only [QRun, stepA, wantedA, opA, pureA, loadA, effA, binA, bin, evalA, ofV, ofCell, Fr.put, setArgs, kS, Nat.zero_testBit, Nat.reduceAdd, Nat.reduceSub, Nat.reduceLeDiff, decide_true, decide_false, Nat.reduceEqDiff, if_true, if_false, reduceIte, operands]
    exact ⟨rfl, rfl⟩
  simp only [Ex.thn]
  apply EvX.block
  refine EvX.loop (fun k fr m => ∃ (i a : Nat) (acc : List (List Nat)) (y : AV) (cs : List Nat), k = s.length - i ∧ i ≤ s.length ∧ a ≤ i ∧ fr.n = 32 ∧ fr.t.get 0 = some (.str s) ∧ fr.t.get 3 = some y ∧ fr.t.get 4 = some (.int .i64 (a : Int)) ∧ fr.t.get 5 = some (.int .i64 (i : Int)) ∧
    WFm m ∧ SlC m y 1 acc.length (encStrs acc) cs 9 ∧ acc.length ≤ i ∧ ¬ 32 ∈ (s.take i).drop a ∧ splitN 32 s = acc ++ splitN 32 (s.drop a)) ?_ s.length _ _
    ⟨0, 0, [], .nilsl, [], by simp, by simp, by simp, rfl, by simp [Tr.get_set], by simp [Tr.get_set], by simp [Tr.get_set], by simp [Tr.get_set], WFm.empty, .inl ⟨rfl, rfl, rfl, rfl⟩, by simp, by simp, by simp⟩
  rintro k fr m ⟨i, a, acc, y, cs, rfl, hil, hai, hfn, h0, h3, h4, h5, hw, ho, hacc, hno, hgo⟩
  apply EvX.seq
  apply EvX.seq
  apply EvX.reg0
  · intro call
    simp only [QRun, stepA, wantedA, opA, pureA, loadA, effA, binA, bin, evalA, ofV, ofCell, Fr.put, setArgs, kS, Nat.zero_testBit, Nat.reduceAdd, Nat.reduceSub, Nat.reduceLeDiff, decide_true, decide_false, Nat.reduceEqDiff, if_true, if_false, reduceIte, operands, hfn, h0, h5, lenS 9 st_9, natOf_0, natOf_1, AV.cells, takeN, beq_self_eq_true, eq_self, kA1, kA2, kB, Tryz.underlying3]
    exact ⟨rfl, rfl⟩
  simp only [Ex.thn]
  apply EvX.cond2
  · simp only [evalA, Tr.get_set, Nat.reduceEqDiff, if_true, if_false, reduceIte]; exact rfl
  rotate_left
  · intro hge
    have hge := of_decide_eq_false hge
    have hi : i = s.length := by omega
    subst hi
    rw [List.take_length] at hno
    have hone := splitN_one 32 (s.drop a) hno
    have hto : (s.take s.length).drop a = s.drop a := by rw [List.take_length]
    obtain ⟨y', m1, cs', a1, a2, w1, k1, o1, n1, hc1⟩ := ho.appendLit hw (bytes := 16) (zs := [.str (s.drop a)]) rfl rfl (by omega) (by omega)
    have o1' : SlC m1 y' 1 (splitN 32 s).length (encStrs (splitN 32 s)) cs' 9 := by
      rw [encStrs_snoc] at o1; rw [hgo, hone]; simpa using o1
    apply EvX.exit
    simp only [Ex.thn, Ex.blk, beq_dec, decide_true, cond_true]
    apply EvX.seq
    apply EvX.reg0
    · intro call
      simp only [QRun, stepA, wantedA, opA, pureA, loadA, effA, binA, bin, evalA, ofV, ofCell, Fr.put, setArgs, kS, Nat.zero_testBit, Nat.reduceAdd, Nat.reduceSub, Nat.reduceLeDiff, decide_true, decide_false, Nat.reduceEqDiff, if_true, if_false, reduceIte, operands, hfn, h0, h3, h4, sliceA, bounds, natOf?, natOf_cast, hai, hto, a1, a2, AV.cells, takeN, beq_self_eq_true, eq_self, kA1, kA2, kB, Tryz.underlying3, partsA, fillA, putCells, replicateA, List.append_nil, List.nil_append, List.cons_append, Nat.reduceMul, allCells, AV.isCell]
      exact ⟨rfl, rfl⟩
    simp only [Ex.thn]
    apply EvX.seq
    apply EvX.reg0
    · intro call
      simp only [QRun, stepA, wantedA, opA, pureA, loadA, effA, binA, bin, evalA, ofV, ofCell, Fr.put, setArgs, kS, Nat.zero_testBit, Nat.reduceAdd, Nat.reduceSub, Nat.reduceLeDiff, decide_true, decide_false, Nat.reduceEqDiff, if_true, if_false, reduceIte, operands, hfn]
      exact ⟨rfl, rfl⟩
    simp only [Ex.thn]
    apply EvX.ret
    refine Fin.oneT (K := fun x m' => treeA 8 m' x = some (rowStrs 32 s)) (x := y') (t := 2) rfl (by simp only [Tr.get_set, if_true, if_false, reduceIte, Nat.reduceEqDiff]) ?_
    exact o1'.ownS.tree (List.length_pos_iff.2 (splitN_ne 32 s)) (by omega) (encStrs_tree 6 m1 (splitN 32 s))
  intro hlt
  have hlt := of_decide_eq_true hlt
  have hlt : i < s.length := by omega
  have hlt' : i + 1 ≤ s.length := hlt
  have hgi : s[i]? = some s[i] := List.getElem?_eq_getElem hlt
  have hmid := drop_mid hai hlt
  have htk := take_mid hai hlt
  generalize hx : s[i] = x at hgi hmid htk
  apply EvX.skip
  simp only [Ex.thn]
  apply EvX.seq
  apply EvX.block
  apply EvX.seq
  by_cases c1 : x = 32
  · have e1 : (((x : Nat) : Int) == 32) = true := by rw [c1]; rfl
    rw [c1] at hmid
    rw [hmid, splitN_line hno] at hgo
    obtain ⟨y', m1, cs', a1, a2, w1, k1, o1, n1, hc1⟩ := ho.appendLit hw (bytes := 16) (zs := [.str ((s.take i).drop a)]) rfl rfl (by omega) (by omega)
    have o1' : SlC m1 y' 1 (acc ++ [(s.take i).drop a]).length (encStrs (acc ++ [(s.take i).drop a])) cs' 9 := by
      rw [encStrs_snoc] at o1; simpa using o1
    have hile : i ≤ s.length := Nat.le_of_lt hlt
    apply EvX.reg0
    · intro call
      simp only [QRun, stepA, wantedA, opA, pureA, loadA, effA, binA, bin, evalA, ofV, ofCell, Fr.put, setArgs, kS, Nat.zero_testBit, Nat.reduceAdd, Nat.reduceSub, Nat.reduceLeDiff, decide_true, decide_false, Nat.reduceEqDiff, if_true, if_false, reduceIte, operands, hfn, h0, h3, h4, h5, natOf?, natOf_cast, hgi, e1, AV.cells, takeN, beq_self_eq_true, eq_self, kA1, kA2, kB, Tryz.underlying3]
      exact ⟨rfl, rfl⟩
    simp only [Ex.thn]
    apply EvX.cond2 (t := true)
    · simp only [evalA, Tr.get_set, Nat.reduceEqDiff, if_true, if_false, reduceIte]
    rotate_left
    · intro h; cases h
    intro _
    apply EvX.seq
    apply EvX.reg0
    · intro call
      simp only [QRun, stepA, wantedA, opA, pureA, loadA, effA, binA, bin, evalA, ofV, ofCell, Fr.put, setArgs, kS, Nat.zero_testBit, Nat.reduceAdd, Nat.reduceSub, Nat.reduceLeDiff, decide_true, decide_false, Nat.reduceEqDiff, if_true, if_false, reduceIte, operands, hfn, h0, h3, h4, h5, natOf?, natOf_cast, hgi, sliceA, bounds, hai, hile, a1, a2, AV.cells, takeN, beq_self_eq_true, eq_self, kA1, kA2, kB, Tryz.underlying3, partsA, fillA, putCells, replicateA, List.append_nil, List.nil_append, List.cons_append, Nat.reduceMul, allCells, AV.isCell]
      exact ⟨rfl, rfl⟩
    simp only [Ex.thn]
    apply EvX.reg0
    · intro call
      simp only [QRun, stepA, wantedA, opA, pureA, loadA, effA, binA, bin, evalA, ofV, ofCell, Fr.put, setArgs, kS, Nat.zero_testBit, Nat.reduceAdd, Nat.reduceSub, Nat.reduceLeDiff, decide_true, decide_false, Nat.reduceEqDiff, if_true, if_false, reduceIte, operands, hfn, h0, h3, h4, h5, natOf?, natOf_cast, hgi, wrap_succ (show i + 1 ≤ 9223372036854775807 by omega)]
      exact ⟨rfl, rfl⟩
    simp only [Ex.thn, Ex.blk]
    apply EvX.reg0
    · intro call
      simp only [QRun, stepA, wantedA, opA, pureA, loadA, effA, binA, bin, evalA, ofV, ofCell, Fr.put, setArgs, kS, Nat.zero_testBit, Nat.reduceAdd, Nat.reduceSub, Nat.reduceLeDiff, decide_true, decide_false, Nat.reduceEqDiff, if_true, if_false, reduceIte, operands, hfn, h0, h3, h4, h5, natOf?, natOf_cast, hgi, wrap_succ (show i + 1 ≤ 9223372036854775807 by omega)]
      exact ⟨rfl, rfl⟩
    simp only [Ex.thn]
    refine ⟨s.length - (i + 1), by omega, i + 1, i + 1, acc ++ [(s.take i).drop a], y', cs', rfl, hlt', Nat.le_refl _, trivial, ?_, ?_, ?_, ?_, w1, o1', by simp; omega, ?_, by rw [hgo]; simp⟩
    · simp [Tr.get_set, h0]
    · simp [Tr.get_set]
    · simp [Tr.get_set]
    · simp [Tr.get_set]
    · rw [List.drop_eq_nil_of_le (by rw [List.length_take]; omega)]; simp
  have e1 : (((x : Nat) : Int) == 32) = false := by rw [beq_eq_false_iff_ne]; omega
  apply EvX.reg0
  · intro call
    simp only [QRun, stepA, wantedA, opA, pureA, loadA, effA, binA, bin, evalA, ofV, ofCell, Fr.put, setArgs, kS, Nat.zero_testBit, Nat.reduceAdd, Nat.reduceSub, Nat.reduceLeDiff, decide_true, decide_false, Nat.reduceEqDiff, if_true, if_false, reduceIte, operands, hfn, h0, h3, h4, h5, natOf?, natOf_cast, hgi, e1, AV.cells, takeN, beq_self_eq_true, eq_self, kA1, kA2, kB, Tryz.underlying3]
    exact ⟨rfl, rfl⟩
  simp only [Ex.thn]
  apply EvX.cond2 (t := false)
  · simp only [evalA, Tr.get_set, Nat.reduceEqDiff, if_true, if_false, reduceIte]
  · intro h; cases h
  intro _
  apply EvX.skip
  simp only [Ex.thn, Ex.blk]
  apply EvX.reg0
  · intro call
    simp only [QRun, stepA, wantedA, opA, pureA, loadA, effA, binA, bin, evalA, ofV, ofCell, Fr.put, setArgs, kS, Nat.zero_testBit, Nat.reduceAdd, Nat.reduceSub, Nat.reduceLeDiff, decide_true, decide_false, Nat.reduceEqDiff, if_true, if_false, reduceIte, operands, hfn, h0, h3, h4, h5, natOf?, natOf_cast, hgi, wrap_succ (show i + 1 ≤ 9223372036854775807 by omega)]
    exact ⟨rfl, rfl⟩
  simp only [Ex.thn]
  refine ⟨s.length - (i + 1), by omega, i + 1, a, acc, y, cs, rfl, hlt', by omega, trivial, ?_, ?_, ?_, ?_, hw, ho, by omega, ?_, hgo⟩
  · simp [Tr.get_set, h0]
  · simp [Tr.get_set, h3]
  · simp [Tr.get_set, h4]
  · simp [Tr.get_set]
  · rw [htk]
    simp only [List.mem_append, List.mem_singleton]
    rintro (h | h)
    · exact hno h
    · exact c1 h.symm
end Go.Vz
