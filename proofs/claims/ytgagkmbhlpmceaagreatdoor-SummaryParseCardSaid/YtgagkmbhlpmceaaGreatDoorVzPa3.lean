/-
  Numbers out of words, told.
-/
import Derived.Test.YtgagkmbhlpmceaaGreatDoorVzPa2
set_option linter.unusedVariables false
set_option linter.unusedSimpArgs false
namespace Go.Vz
open Go Go.Proofs
set_option maxHeartbeats 4000000
set_option maxRecDepth 20000
/-! ### plain -/
def isDig (b : Nat) : Bool := decide (48 ≤ b) && decide (b ≤ 57)
def valD (acc : Nat) : List Nat → Nat
  | [] => acc
  | b :: s => valD (acc * 10 + (b - 48)) s
def numN (s : List Nat) : Option Nat :=
  if s.length < 1 ∨ s.length > 9 then none
  else if s.head? = some 48 ∧ s ≠ [48] then none
  else if s.all isDig then some (valD 0 s) else none
theorem valD_lt : ∀ (s : List Nat) (acc : Nat), s.all isDig = true → valD acc s < (acc + 1) * 10 ^ s.length
  | [], acc, _ => by show acc < (acc + 1) * 10 ^ 0; rw [Nat.pow_zero]; omega
  | b :: s, acc, h => by
    simp only [List.all_cons, Bool.and_eq_true] at h
    have hb := h.1
    unfold isDig at hb
    simp only [Bool.and_eq_true, decide_eq_true_eq] at hb
    have ih := valD_lt s (acc * 10 + (b - 48)) h.2
    show valD (acc * 10 + (b - 48)) s < _
    have h1 : (acc * 10 + (b - 48) + 1) * 10 ^ s.length ≤ ((acc + 1) * 10) * 10 ^ s.length := Nat.mul_le_mul_right _ (by omega)
    have h2 : ((acc + 1) * 10) * 10 ^ s.length = (acc + 1) * 10 ^ (b :: s).length := by rw [List.length_cons, Nat.pow_succ, Nat.mul_assoc, Nat.mul_comm 10]
    rw [← h2]
    exact Nat.lt_of_lt_of_le ih h1
theorem numN_lt {s : List Nat} {n : Nat} (h : numN s = some n) : n < 1000000000 := by
  unfold numN at h
  split at h
  · cases h
  · rename_i h1
    split at h
    · cases h
    · split at h
      · rename_i h3
        simp only [Option.some.injEq] at h
        subst h
        have h5 := valD_lt s 0 h3
        rw [Nat.zero_add, Nat.one_mul] at h5
        have h6 : s.length ≤ 9 := by omega
        have h7 : 10 ^ s.length ≤ 10 ^ 9 := Nat.pow_le_pow_right (by decide) h6
        exact Nat.lt_of_lt_of_le h5 h7
      · cases h
theorem decFrom_val : ∀ (s : List Nat) (acc : Nat), s.all isDig = true → Lib.decFrom acc (toB s) = some (valD acc s)
  | [], acc, _ => rfl
  | b :: s, acc, h => by
    simp only [List.all_cons, Bool.and_eq_true] at h
    have hb := h.1
    unfold isDig at hb
    simp only [Bool.and_eq_true, decide_eq_true_eq] at hb
    have ih := decFrom_val s (acc * 10 + (b - 48)) h.2
    have e1 : (UInt8.ofNat b).toNat = b := by
      simp; omega
    have e2 : Lib.digitVal (UInt8.ofNat b) = some (b - 48) := by
      unfold Lib.digitVal
      rw [e1, if_pos ⟨hb.1, hb.2⟩]
    simp only [toB, List.map_cons, Lib.decFrom, e2]
    exact ih
theorem atoi_val {s : List Nat} (h0 : s ≠ []) (h : s.all isDig = true) : Lib.atoi (toB s) = some ((valD 0 s : Nat) : Int) := by
  cases s with
  | nil => exact absurd rfl h0
  | cons b s =>
    have hd := decFrom_val (b :: s) 0 h
    simp only [List.all_cons, Bool.and_eq_true] at h
    have hb := h.1
    unfold isDig at hb
    simp only [Bool.and_eq_true, decide_eq_true_eq] at hb
    have e1 : (UInt8.ofNat b).toNat = b := by simp; omega
    have n45 : (UInt8.ofNat b == 45) = false := by
      rw [beq_eq_false_iff_ne]
      intro e
      have := congrArg UInt8.toNat e
      rw [e1] at this
      have h45 : (45 : UInt8).toNat = 45 := rfl
      omega
    have n43 : (UInt8.ofNat b == 43) = false := by
      rw [beq_eq_false_iff_ne]
      intro e
      have := congrArg UInt8.toNat e
      rw [e1] at this
      have h43 : (43 : UInt8).toNat = 43 := rfl
      omega
    have hd' : Lib.decNat (UInt8.ofNat b :: toB s) = some (valD 0 (b :: s)) := by
      show (if (UInt8.ofNat b :: toB s).isEmpty then none else Lib.decFrom 0 (UInt8.ofNat b :: toB s)) = _
      rw [if_neg (by simp)]
      exact hd
    show (if UInt8.ofNat b == 45 then _ else if UInt8.ofNat b == 43 then _ else (Lib.decNat (UInt8.ofNat b :: toB s)).map fun (m : Nat) => (m : Int)) = _
    rw [n45, n43, hd']
    rfl
def numV (s : List Nat) : AV := match numN s with
  | some n => .tup [.int .i64 (n : Int), .bool true]
  | none => .tup [.int .i64 0, .bool false]
theorem numV_plain (s : List Nat) : plainA (numV s) = true := by
  unfold numV
  split <;> rfl
def p115 : PFn := ⟨115, fun | [.str s] => bif Nat.ble s.length 1000000 then some (numV s) else none | _ => none⟩
theorem spec115 {s : List Nat} (h : s.length ≤ 1000000) : p115.spec [.str s] = some (numV s) := by
  show (bif Nat.ble s.length 1000000 then some (numV s) else none) = _
  rw [Nat.ble_eq_true_of_le h]; rfl
theorem all_drop {s : List Nat} {i : Nat} (h : i < s.length) : (s.drop i).all isDig = (isDig s[i] && (s.drop (i + 1)).all isDig) := by
  rw [List.drop_eq_getElem_cons h]; rfl
theorem cl_169 (args : List AV) : calleeA Tryz.prog (.fn (.func 169) [] []) args = some (.enter 169 args) := by rw [callee_of Tryz.func169 (by kernel_rfl) (by kernel_rfl)]; simp
theorem cl_115 (args : List AV) : calleeA Tryz.prog (.fn (.func 115) [] []) args = some (.enter 115 args) := by rw [callee_of Tryz.func115 (by kernel_rfl) (by kernel_rfl)]; simp
theorem cl_77 (args : List AV) : calleeA Tryz.prog (.fn (.func 77) [] []) args = some (.enter 77 args) := by rw [callee_of Tryz.func77 (by kernel_rfl) (by kernel_rfl)]; simp
theorem p115_ok : p115.Ok := by
  refine PFn.Ok.ofT (qs := []) (ps := [p169]) (fun q h => by cases h) (fun p h => by simp at h; subst h; exact p169_ok.tree) (fun args x h => ?_)
  simp only [p115] at h
  split at h
  rotate_left
  · cases h
  rename_i s
  cases hb : Nat.ble s.length 1000000 with
  | false => rw [hb] at h; cases h
  | true =>
  rw [hb, cond_true, Option.some.injEq] at h
  subst h
  have hb := Nat.le_of_ble_eq_true hb
  refine ⟨numV_plain s, EvC.run (by kernel_rfl) (by rw [CT_P]; exact Tryz.func115) rfl ?_⟩
  apply EvX.seq
  apply EvX.reg0
  · intro call
    simp only [QRun, stepA, wantedA, opA, pureA, loadA, effA, binA, bin, evalA, ofV, ofCell, Fr.put, setArgs, kS, Nat.zero_testBit, Nat.reduceAdd, Nat.reduceSub, Nat.reduceLeDiff, decide_true, decide_false, Nat.reduceEqDiff, if_true, if_false, reduceIte, operands, Tryz.ntmps115]
    exact ⟨rfl, rfl⟩
  simp only [Ex.thn]
  apply EvX.seq
  apply EvX.seq
  by_cases b1 : (s.length : Int) < 1
  · have d1 := decide_eq_true b1
    have hv : numV s = .tup [.int .i64 0, .bool false] := by unfold numV numN; rw [if_pos (.inl (by omega))]
    apply EvX.reg0
    · intro call
      simp only [QRun, stepA, wantedA, opA, pureA, loadA, effA, binA, bin, evalA, ofV, ofCell, Fr.put, setArgs, kS, Nat.zero_testBit, Nat.reduceAdd, Nat.reduceSub, Nat.reduceLeDiff, decide_true, decide_false, Nat.reduceEqDiff, if_true, if_false, reduceIte, operands, lenS 9 st_9, AV.cells, takeN, beq_self_eq_true, eq_self, kA1, kA2, kB, Tryz.underlying77, d1]
      exact ⟨rfl, rfl⟩
    simp only [Ex.thn]
    apply EvX.cond2 (t := true)
    · simp only [evalA, Tr.get_set, Nat.reduceEqDiff, if_true, if_false, reduceIte]
    rotate_left
    · intro h; cases h
    intro _
    apply EvX.seq
    apply EvX.reg0
    · intro call
      simp only [QRun, stepA, wantedA, opA, pureA, loadA, effA, binA, bin, evalA, ofV, ofCell, Fr.put, setArgs, kS, Nat.zero_testBit, Nat.reduceAdd, Nat.reduceSub, Nat.reduceLeDiff, decide_true, decide_false, Nat.reduceEqDiff, if_true, if_false, reduceIte, operands]
      exact ⟨rfl, rfl⟩
    simp only [Ex.thn]
    apply EvX.ret
    simp only [Ex.thn, Ex.blk]
    rw [hv]
    exact Fin.twoP rfl (by simp only [Tr.get_set, if_true, if_false, reduceIte, Nat.reduceEqDiff]) (by simp only [Tr.get_set, if_true, if_false, reduceIte, Nat.reduceEqDiff])
  have d1 := decide_eq_false b1
  by_cases b2 : (s.length : Int) > 9
  · have d2 := decide_eq_true b2
    have hv : numV s = .tup [.int .i64 0, .bool false] := by unfold numV numN; rw [if_pos (.inr (by omega))]
    apply EvX.reg0
    · intro call
      simp only [QRun, stepA, wantedA, opA, pureA, loadA, effA, binA, bin, evalA, ofV, ofCell, Fr.put, setArgs, kS, Nat.zero_testBit, Nat.reduceAdd, Nat.reduceSub, Nat.reduceLeDiff, decide_true, decide_false, Nat.reduceEqDiff, if_true, if_false, reduceIte, operands, lenS 9 st_9, AV.cells, takeN, beq_self_eq_true, eq_self, kA1, kA2, kB, Tryz.underlying77, d1, d2]
      exact ⟨rfl, rfl⟩
    simp only [Ex.thn]
    apply EvX.cond2 (t := true)
    · simp only [evalA, Tr.get_set, Nat.reduceEqDiff, if_true, if_false, reduceIte]
    rotate_left
    · intro h; cases h
    intro _
    apply EvX.seq
    apply EvX.reg0
    · intro call
      simp only [QRun, stepA, wantedA, opA, pureA, loadA, effA, binA, bin, evalA, ofV, ofCell, Fr.put, setArgs, kS, Nat.zero_testBit, Nat.reduceAdd, Nat.reduceSub, Nat.reduceLeDiff, decide_true, decide_false, Nat.reduceEqDiff, if_true, if_false, reduceIte, operands]
      exact ⟨rfl, rfl⟩
    simp only [Ex.thn]
    apply EvX.ret
    simp only [Ex.thn, Ex.blk]
    rw [hv]
    exact Fin.twoP rfl (by simp only [Tr.get_set, if_true, if_false, reduceIte, Nat.reduceEqDiff]) (by simp only [Tr.get_set, if_true, if_false, reduceIte, Nat.reduceEqDiff])
  have d2 := decide_eq_false b2
  have hlen : ¬ (s.length < 1 ∨ s.length > 9) := by omega
  obtain ⟨b, s', hs⟩ : ∃ b s', s = b :: s' := by
    cases s with
    | nil => simp at b1
    | cons b s' => exact ⟨b, s', rfl⟩
  have h0 : s[0]? = some b := by rw [hs]; rfl
  have hh : s.head? = some b := by rw [hs]; rfl
  have n48 : natOf { data := #[48] } = [48] := by decide
  by_cases b3 : b = 48
  · have d3 : (((b : Nat) : Int) == 48) = true := by rw [b3]; rfl
    cases he : eqNats s [48] with
    | false =>
      have hne : s ≠ [48] := fun e => by rw [e] at he; cases he
      have hv : numV s = .tup [.int .i64 0, .bool false] := by unfold numV numN; rw [if_neg hlen, if_pos ⟨by rw [hh, b3], hne⟩]
      apply EvX.reg0
      · intro call
        simp only [QRun, stepA, wantedA, opA, pureA, loadA, effA, binA, bin, evalA, ofV, ofCell, Fr.put, setArgs, kS, Nat.zero_testBit, Nat.reduceAdd, Nat.reduceSub, Nat.reduceLeDiff, decide_true, decide_false, Nat.reduceEqDiff, if_true, if_false, reduceIte, operands, lenS 9 st_9, AV.cells, takeN, beq_self_eq_true, eq_self, kA1, kA2, kB, Tryz.underlying77, d1, d2, d3, natOf?, h0, n48, binS, he]
        exact ⟨rfl, rfl⟩
      simp only [Ex.thn]
      apply EvX.cond2 (t := true)
      · simp only [evalA, Tr.get_set, Nat.reduceEqDiff, if_true, if_false, reduceIte]
      rotate_left
      · intro h; cases h
      intro _
      apply EvX.seq
      apply EvX.reg0
      · intro call
        simp only [QRun, stepA, wantedA, opA, pureA, loadA, effA, binA, bin, evalA, ofV, ofCell, Fr.put, setArgs, kS, Nat.zero_testBit, Nat.reduceAdd, Nat.reduceSub, Nat.reduceLeDiff, decide_true, decide_false, Nat.reduceEqDiff, if_true, if_false, reduceIte, operands]
        exact ⟨rfl, rfl⟩
      simp only [Ex.thn]
      apply EvX.ret
      simp only [Ex.thn, Ex.blk]
      rw [hv]
      exact Fin.twoP rfl (by simp only [Tr.get_set, if_true, if_false, reduceIte, Nat.reduceEqDiff]) (by simp only [Tr.get_set, if_true, if_false, reduceIte, Nat.reduceEqDiff])
    | true =>
      have hz : ¬ (s.head? = some 48 ∧ s ≠ [48]) := fun h => h.2 (eqNats_eq he)
      apply EvX.reg0
      · intro call
        simp only [QRun, stepA, wantedA, opA, pureA, loadA, effA, binA, bin, evalA, ofV, ofCell, Fr.put, setArgs, kS, Nat.zero_testBit, Nat.reduceAdd, Nat.reduceSub, Nat.reduceLeDiff, decide_true, decide_false, Nat.reduceEqDiff, if_true, if_false, reduceIte, operands, lenS 9 st_9, AV.cells, takeN, beq_self_eq_true, eq_self, kA1, kA2, kB, Tryz.underlying77, d1, d2, d3, natOf?, h0, n48, binS, he]
        exact ⟨rfl, rfl⟩
      simp only [Ex.thn]
      apply EvX.cond2 (t := false)
      · simp only [evalA, Tr.get_set, Nat.reduceEqDiff, if_true, if_false, reduceIte]
      · intro h; cases h
      intro _
      apply EvX.skip
      simp only [Ex.thn, Ex.blk]
      apply EvX.seq
      apply EvX.seq
      apply EvX.reg0
      · intro call
        simp only [QRun, stepA, wantedA, opA, pureA, loadA, effA, binA, bin, evalA, ofV, ofCell, Fr.put, setArgs, kS, Nat.zero_testBit, Nat.reduceAdd, Nat.reduceSub, Nat.reduceLeDiff, decide_true, decide_false, Nat.reduceEqDiff, if_true, if_false, reduceIte, operands, lenS 9 st_9, AV.cells, takeN, beq_self_eq_true, eq_self, kA1, kA2, kB, Tryz.underlying77]
        exact ⟨rfl, rfl⟩
      simp only [Ex.thn]
      apply EvX.block
      refine EvX.loop (fun k fr m => ∃ i : Nat, k = s.length - i ∧ i ≤ s.length ∧ fr.n = 48 ∧ fr.t.get 0 = some (.str s) ∧ fr.t.get 25 = some (.int .i64 (s.length : Int)) ∧ fr.t.get 26 = some (.int .i64 (i : Int)) ∧ (s.drop i).all isDig = s.all isDig) ?_ s.length _ _
        ⟨0, by simp, by simp, rfl, by simp [Tr.get_set], by simp [Tr.get_set], by simp [Tr.get_set], rfl⟩
      rintro k fr m ⟨i, rfl, hil, hfn, h0, h25, h26, hgo⟩
      apply EvX.seq
      apply EvX.reg0
      · intro call
        simp only [QRun, stepA, wantedA, opA, pureA, loadA, effA, binA, bin, evalA, ofV, ofCell, Fr.put, setArgs, kS, Nat.zero_testBit, Nat.reduceAdd, Nat.reduceSub, Nat.reduceLeDiff, decide_true, decide_false, Nat.reduceEqDiff, if_true, if_false, reduceIte, operands, hfn, h25, h26, AV.cells, takeN, beq_self_eq_true, eq_self, kA1, kA2, kB, Tryz.underlying77]
        exact ⟨rfl, rfl⟩
      simp only [Ex.thn]
      apply EvX.seq
      apply EvX.cond2
      · simp only [evalA, Tr.get_set, Nat.reduceEqDiff, if_true, if_false, reduceIte]; exact rfl
      rotate_left
      · intro hge
        have hge := of_decide_eq_false hge
        have hi : i = s.length := by omega
        subst hi
        have hall : s.all isDig = true := by rw [← hgo, List.drop_length]; rfl
        have hv : numV s = .tup [.int .i64 ((valD 0 s : Nat) : Int), .bool true] := by unfold numV numN; rw [if_neg hlen, if_neg hz, if_pos hall]
        have ha := atoi_val (s := s) (by rw [hs]; simp) hall
        have c169 := fun k m => callTp (qs := []) (ps := [p169]) (p := p169) (f := 169) rfl (D := drawA (CT [] [p169])) k m (args := [.str s]) (args' := [.str s]) (x := .tup [.int .i64 ((valD 0 s : Nat) : Int), .niliface]) rfl (by show (bif Nat.ble s.length 18 then (Lib.atoi (toB s)).map fun n => AV.tup [.int .i64 n, .niliface] else none) = _; rw [ha, Nat.ble_eq_true_of_le (by omega)]; rfl) rfl
        apply EvX.exit
        simp only [Ex.thn, Ex.blk, beq_dec, decide_true, cond_true]
        apply EvX.seq
        apply EvX.reg 0
        · intro k _
          simp only [QRun, stepA, wantedA, opA, pureA, loadA, effA, binA, bin, evalA, ofV, ofCell, Fr.put, setArgs, kS, Nat.zero_testBit, Nat.reduceAdd, Nat.reduceSub, Nat.reduceLeDiff, decide_true, decide_false, Nat.reduceEqDiff, if_true, if_false, reduceIte, operands, hfn, h0, cl_169, c169, AV.cells, takeN, beq_self_eq_true, eq_self, kA1, kA2, kB, Tryz.underlying77]
          exact ⟨rfl, rfl⟩
        simp only [Ex.thn]
        apply EvX.seq
        apply EvX.drw 0 0
        · kernel_rfl
        · intro k _
          simp only [QRun, stepA, wantedA, opA, pureA, loadA, effA, binA, bin, evalA, ofV, ofCell, Fr.put, setArgs, kS, Nat.zero_testBit, Nat.reduceAdd, Nat.reduceSub, Nat.reduceLeDiff, decide_true, decide_false, Nat.reduceEqDiff, if_true, if_false, reduceIte, operands, hfn, isLitNil, Bool.or_true, Bool.true_or, AV.cells, takeN, beq_self_eq_true, eq_self, kA1, kA2, kB, Tryz.underlying77]
          exact ⟨rfl, rfl⟩
        simp only [Ex.thn]
        apply EvX.ret
        rw [hv]
        exact Fin.twoP rfl (by simp only [Tr.get_set, if_true, if_false, reduceIte, Nat.reduceEqDiff]) (by simp only [Tr.get_set, if_true, if_false, reduceIte, Nat.reduceEqDiff])
      intro hlt
      have hlt := of_decide_eq_true hlt
      have hlt : i < s.length := by omega
      have hlt' : i + 1 ≤ s.length := hlt
      have hgi : s[i]? = some s[i] := List.getElem?_eq_getElem hlt
      rw [all_drop hlt] at hgo
      generalize hx : s[i] = x at hgi hgo
      apply EvX.skip
      simp only [Ex.thn]
      apply EvX.seq
      apply EvX.block
      apply EvX.seq
      apply EvX.reg0
      · intro call
        simp only [QRun, stepA, wantedA, opA, pureA, loadA, effA, binA, bin, evalA, ofV, ofCell, Fr.put, setArgs, kS, Nat.zero_testBit, Nat.reduceAdd, Nat.reduceSub, Nat.reduceLeDiff, decide_true, decide_false, Nat.reduceEqDiff, if_true, if_false, reduceIte, operands, hfn, h26, AV.cells, takeN, beq_self_eq_true, eq_self, kA1, kA2, kB, Tryz.underlying77]
        exact ⟨rfl, rfl⟩
      simp only [Ex.thn]
      apply EvX.seq
      by_cases c1 : ((x : Nat) : Int) < 48
      · have e1 := decide_eq_true c1
        have f1 : decide (48 ≤ x) = false := decide_eq_false (by omega)
        have hall : s.all isDig = false := by rw [← hgo]; unfold isDig; rw [f1]; simp
        have hv : numV s = .tup [.int .i64 0, .bool false] := by unfold numV numN; rw [if_neg hlen, if_neg hz, if_neg (by rw [hall]; simp)]
        apply EvX.reg0
        · intro call
          simp only [QRun, stepA, wantedA, opA, pureA, loadA, effA, binA, bin, evalA, ofV, ofCell, Fr.put, setArgs, kS, Nat.zero_testBit, Nat.reduceAdd, Nat.reduceSub, Nat.reduceLeDiff, decide_true, decide_false, Nat.reduceEqDiff, if_true, if_false, reduceIte, operands, hfn, h0, h26, natOf?, natOf_cast, hgi, AV.cells, takeN, beq_self_eq_true, eq_self, kA1, kA2, kB, Tryz.underlying77, e1]
          exact ⟨rfl, rfl⟩
        simp only [Ex.thn]
        apply EvX.cond2 (t := true)
        · simp only [evalA, Tr.get_set, Nat.reduceEqDiff, if_true, if_false, reduceIte]
        rotate_left
        · intro h; cases h
        intro _
        apply EvX.seq
        apply EvX.reg0
        · intro call
          simp only [QRun, stepA, wantedA, opA, pureA, loadA, effA, binA, bin, evalA, ofV, ofCell, Fr.put, setArgs, kS, Nat.zero_testBit, Nat.reduceAdd, Nat.reduceSub, Nat.reduceLeDiff, decide_true, decide_false, Nat.reduceEqDiff, if_true, if_false, reduceIte, operands, hfn]
          exact ⟨rfl, rfl⟩
        simp only [Ex.thn]
        apply EvX.ret
        simp only [Ex.thn, Ex.blk]
        rw [hv]
        exact Fin.twoP rfl (by simp only [Tr.get_set, if_true, if_false, reduceIte, Nat.reduceEqDiff]) (by simp only [Tr.get_set, if_true, if_false, reduceIte, Nat.reduceEqDiff])
      have e1 := decide_eq_false c1
      have f1 : decide (48 ≤ x) = true := decide_eq_true (by omega)
      by_cases c2 : ((x : Nat) : Int) > 57
      · have e2 := decide_eq_true c2
        have f2 : decide (x ≤ 57) = false := decide_eq_false (by omega)
        have hall : s.all isDig = false := by rw [← hgo]; unfold isDig; rw [f1, f2]; simp
        have hv : numV s = .tup [.int .i64 0, .bool false] := by unfold numV numN; rw [if_neg hlen, if_neg hz, if_neg (by rw [hall]; simp)]
        apply EvX.reg0
        · intro call
          simp only [QRun, stepA, wantedA, opA, pureA, loadA, effA, binA, bin, evalA, ofV, ofCell, Fr.put, setArgs, kS, Nat.zero_testBit, Nat.reduceAdd, Nat.reduceSub, Nat.reduceLeDiff, decide_true, decide_false, Nat.reduceEqDiff, if_true, if_false, reduceIte, operands, hfn, h0, h26, natOf?, natOf_cast, hgi, AV.cells, takeN, beq_self_eq_true, eq_self, kA1, kA2, kB, Tryz.underlying77, e1, e2]
          exact ⟨rfl, rfl⟩
        simp only [Ex.thn]
        apply EvX.cond2 (t := true)
        · simp only [evalA, Tr.get_set, Nat.reduceEqDiff, if_true, if_false, reduceIte]
        rotate_left
        · intro h; cases h
        intro _
        apply EvX.seq
        apply EvX.reg0
        · intro call
          simp only [QRun, stepA, wantedA, opA, pureA, loadA, effA, binA, bin, evalA, ofV, ofCell, Fr.put, setArgs, kS, Nat.zero_testBit, Nat.reduceAdd, Nat.reduceSub, Nat.reduceLeDiff, decide_true, decide_false, Nat.reduceEqDiff, if_true, if_false, reduceIte, operands, hfn]
          exact ⟨rfl, rfl⟩
        simp only [Ex.thn]
        apply EvX.ret
        simp only [Ex.thn, Ex.blk]
        rw [hv]
        exact Fin.twoP rfl (by simp only [Tr.get_set, if_true, if_false, reduceIte, Nat.reduceEqDiff]) (by simp only [Tr.get_set, if_true, if_false, reduceIte, Nat.reduceEqDiff])
      have e2 := decide_eq_false c2
      have f2 : decide (x ≤ 57) = true := decide_eq_true (by omega)
      have hgo' : (s.drop (i + 1)).all isDig = s.all isDig := by rw [← hgo]; unfold isDig; rw [f1, f2]; simp
      apply EvX.reg0
      · intro call
        simp only [QRun, stepA, wantedA, opA, pureA, loadA, effA, binA, bin, evalA, ofV, ofCell, Fr.put, setArgs, kS, Nat.zero_testBit, Nat.reduceAdd, Nat.reduceSub, Nat.reduceLeDiff, decide_true, decide_false, Nat.reduceEqDiff, if_true, if_false, reduceIte, operands, hfn, h0, h26, natOf?, natOf_cast, hgi, AV.cells, takeN, beq_self_eq_true, eq_self, kA1, kA2, kB, Tryz.underlying77, e1, e2]
        exact ⟨rfl, rfl⟩
      simp only [Ex.thn]
      apply EvX.cond2 (t := false)
      · simp only [evalA, Tr.get_set, Nat.reduceEqDiff, if_true, if_false, reduceIte]
      · intro h; cases h
      intro _
      apply EvX.skip
      simp only [Ex.thn, Ex.blk]
      apply EvX.reg0
      · intro call
        simp only [QRun, stepA, wantedA, opA, pureA, loadA, effA, binA, bin, evalA, ofV, ofCell, Fr.put, setArgs, kS, Nat.zero_testBit, Nat.reduceAdd, Nat.reduceSub, Nat.reduceLeDiff, decide_true, decide_false, Nat.reduceEqDiff, if_true, if_false, reduceIte, operands, hfn, h26, wrap_succ (show i + 1 ≤ 9223372036854775807 by omega)]
        exact ⟨rfl, rfl⟩
      simp only [Ex.thn]
      refine ⟨s.length - (i + 1), by omega, i + 1, rfl, hlt', trivial, ?_, ?_, ?_, hgo'⟩
      · simp [Tr.get_set, h0]
      · simp [Tr.get_set, h25]
      · simp [Tr.get_set]
  · have d3 : (((b : Nat) : Int) == 48) = false := by rw [beq_eq_false_iff_ne]; omega
    have hz : ¬ (s.head? = some 48 ∧ s ≠ [48]) := fun h => by rw [hh] at h; exact b3 (Option.some.inj h.1)
    apply EvX.reg0
    · intro call
      simp only [QRun, stepA, wantedA, opA, pureA, loadA, effA, binA, bin, evalA, ofV, ofCell, Fr.put, setArgs, kS, Nat.zero_testBit, Nat.reduceAdd, Nat.reduceSub, Nat.reduceLeDiff, decide_true, decide_false, Nat.reduceEqDiff, if_true, if_false, reduceIte, operands, lenS 9 st_9, AV.cells, takeN, beq_self_eq_true, eq_self, kA1, kA2, kB, Tryz.underlying77, d1, d2, d3, natOf?, h0]
      exact ⟨rfl, rfl⟩
    simp only [Ex.thn]
    apply EvX.cond2 (t := false)
    · simp only [evalA, Tr.get_set, Nat.reduceEqDiff, if_true, if_false, reduceIte]
    · intro h; cases h
    intro _
    apply EvX.skip
    simp only [Ex.thn, Ex.blk]
    apply EvX.seq
    apply EvX.seq
    apply EvX.reg0
    · intro call
      simp only [QRun, stepA, wantedA, opA, pureA, loadA, effA, binA, bin, evalA, ofV, ofCell, Fr.put, setArgs, kS, Nat.zero_testBit, Nat.reduceAdd, Nat.reduceSub, Nat.reduceLeDiff, decide_true, decide_false, Nat.reduceEqDiff, if_true, if_false, reduceIte, operands, lenS 9 st_9, AV.cells, takeN, beq_self_eq_true, eq_self, kA1, kA2, kB, Tryz.underlying77]
      exact ⟨rfl, rfl⟩
    simp only [Ex.thn]
    apply EvX.block
    refine EvX.loop (fun k fr m => ∃ i : Nat, k = s.length - i ∧ i ≤ s.length ∧ fr.n = 48 ∧ fr.t.get 0 = some (.str s) ∧ fr.t.get 25 = some (.int .i64 (s.length : Int)) ∧ fr.t.get 26 = some (.int .i64 (i : Int)) ∧ (s.drop i).all isDig = s.all isDig) ?_ s.length _ _
      ⟨0, by simp, by simp, rfl, by simp [Tr.get_set], by simp [Tr.get_set], by simp [Tr.get_set], rfl⟩
    rintro k fr m ⟨i, rfl, hil, hfn, h0, h25, h26, hgo⟩
    apply EvX.seq
    apply EvX.reg0
    · intro call
      simp only [QRun, stepA, wantedA, opA, pureA, loadA, effA, binA, bin, evalA, ofV, ofCell, Fr.put, setArgs, kS, Nat.zero_testBit, Nat.reduceAdd, Nat.reduceSub, Nat.reduceLeDiff, decide_true, decide_false, Nat.reduceEqDiff, if_true, if_false, reduceIte, operands, hfn, h25, h26, AV.cells, takeN, beq_self_eq_true, eq_self, kA1, kA2, kB, Tryz.underlying77]
      exact ⟨rfl, rfl⟩
    simp only [Ex.thn]
    apply EvX.seq
    apply EvX.cond2
    · simp only [evalA, Tr.get_set, Nat.reduceEqDiff, if_true, if_false, reduceIte]; exact rfl
    rotate_left
    · intro hge
      have hge := of_decide_eq_false hge
      have hi : i = s.length := by omega
      subst hi
      have hall : s.all isDig = true := by rw [← hgo, List.drop_length]; rfl
      have hv : numV s = .tup [.int .i64 ((valD 0 s : Nat) : Int), .bool true] := by unfold numV numN; rw [if_neg hlen, if_neg hz, if_pos hall]
      have ha := atoi_val (s := s) (by rw [hs]; simp) hall
      have c169 := fun k m => callTp (qs := []) (ps := [p169]) (p := p169) (f := 169) rfl (D := drawA (CT [] [p169])) k m (args := [.str s]) (args' := [.str s]) (x := .tup [.int .i64 ((valD 0 s : Nat) : Int), .niliface]) rfl (by show (bif Nat.ble s.length 18 then (Lib.atoi (toB s)).map fun n => AV.tup [.int .i64 n, .niliface] else none) = _; rw [ha, Nat.ble_eq_true_of_le (by omega)]; rfl) rfl
      apply EvX.exit
      simp only [Ex.thn, Ex.blk, beq_dec, decide_true, cond_true]
      apply EvX.seq
      apply EvX.reg 0
      · intro k _
        simp only [QRun, stepA, wantedA, opA, pureA, loadA, effA, binA, bin, evalA, ofV, ofCell, Fr.put, setArgs, kS, Nat.zero_testBit, Nat.reduceAdd, Nat.reduceSub, Nat.reduceLeDiff, decide_true, decide_false, Nat.reduceEqDiff, if_true, if_false, reduceIte, operands, hfn, h0, cl_169, c169, AV.cells, takeN, beq_self_eq_true, eq_self, kA1, kA2, kB, Tryz.underlying77]
        exact ⟨rfl, rfl⟩
      simp only [Ex.thn]
      apply EvX.seq
      apply EvX.drw 0 0
      · kernel_rfl
      · intro k _
        simp only [QRun, stepA, wantedA, opA, pureA, loadA, effA, binA, bin, evalA, ofV, ofCell, Fr.put, setArgs, kS, Nat.zero_testBit, Nat.reduceAdd, Nat.reduceSub, Nat.reduceLeDiff, decide_true, decide_false, Nat.reduceEqDiff, if_true, if_false, reduceIte, operands, hfn, isLitNil, Bool.or_true, Bool.true_or, AV.cells, takeN, beq_self_eq_true, eq_self, kA1, kA2, kB, Tryz.underlying77]
        exact ⟨rfl, rfl⟩
      simp only [Ex.thn]
      apply EvX.ret
      rw [hv]
      exact Fin.twoP rfl (by simp only [Tr.get_set, if_true, if_false, reduceIte, Nat.reduceEqDiff]) (by simp only [Tr.get_set, if_true, if_false, reduceIte, Nat.reduceEqDiff])
    intro hlt
    have hlt := of_decide_eq_true hlt
    have hlt : i < s.length := by omega
    have hlt' : i + 1 ≤ s.length := hlt
    have hgi : s[i]? = some s[i] := List.getElem?_eq_getElem hlt
    rw [all_drop hlt] at hgo
    generalize hx : s[i] = x at hgi hgo
    apply EvX.skip
    simp only [Ex.thn]
    apply EvX.seq
    apply EvX.block
    apply EvX.seq
    apply EvX.reg0
    · intro call
      simp only [QRun, stepA, wantedA, opA, pureA, loadA, effA, binA, bin, evalA, ofV, ofCell, Fr.put, setArgs, kS, Nat.zero_testBit, Nat.reduceAdd, Nat.reduceSub, Nat.reduceLeDiff, decide_true, decide_false, Nat.reduceEqDiff, if_true, if_false, reduceIte, operands, hfn, h26, AV.cells, takeN, beq_self_eq_true, eq_self, kA1, kA2, kB, Tryz.underlying77]
      exact ⟨rfl, rfl⟩
    simp only [Ex.thn]
    apply EvX.seq
    by_cases c1 : ((x : Nat) : Int) < 48
    · have e1 := decide_eq_true c1
      have f1 : decide (48 ≤ x) = false := decide_eq_false (by omega)
      have hall : s.all isDig = false := by rw [← hgo]; unfold isDig; rw [f1]; simp
      have hv : numV s = .tup [.int .i64 0, .bool false] := by unfold numV numN; rw [if_neg hlen, if_neg hz, if_neg (by rw [hall]; simp)]
      apply EvX.reg0
      · intro call
        simp only [QRun, stepA, wantedA, opA, pureA, loadA, effA, binA, bin, evalA, ofV, ofCell, Fr.put, setArgs, kS, Nat.zero_testBit, Nat.reduceAdd, Nat.reduceSub, Nat.reduceLeDiff, decide_true, decide_false, Nat.reduceEqDiff, if_true, if_false, reduceIte, operands, hfn, h0, h26, natOf?, natOf_cast, hgi, AV.cells, takeN, beq_self_eq_true, eq_self, kA1, kA2, kB, Tryz.underlying77, e1]
        exact ⟨rfl, rfl⟩
      simp only [Ex.thn]
      apply EvX.cond2 (t := true)
      · simp only [evalA, Tr.get_set, Nat.reduceEqDiff, if_true, if_false, reduceIte]
      rotate_left
      · intro h; cases h
      intro _
      apply EvX.seq
      apply EvX.reg0
      · intro call
        simp only [QRun, stepA, wantedA, opA, pureA, loadA, effA, binA, bin, evalA, ofV, ofCell, Fr.put, setArgs, kS, Nat.zero_testBit, Nat.reduceAdd, Nat.reduceSub, Nat.reduceLeDiff, decide_true, decide_false, Nat.reduceEqDiff, if_true, if_false, reduceIte, operands, hfn]
        exact ⟨rfl, rfl⟩
      simp only [Ex.thn]
      apply EvX.ret
      simp only [Ex.thn, Ex.blk]
      rw [hv]
      exact Fin.twoP rfl (by simp only [Tr.get_set, if_true, if_false, reduceIte, Nat.reduceEqDiff]) (by simp only [Tr.get_set, if_true, if_false, reduceIte, Nat.reduceEqDiff])
    have e1 := decide_eq_false c1
    have f1 : decide (48 ≤ x) = true := decide_eq_true (by omega)
    by_cases c2 : ((x : Nat) : Int) > 57
    · have e2 := decide_eq_true c2
      have f2 : decide (x ≤ 57) = false := decide_eq_false (by omega)
      have hall : s.all isDig = false := by rw [← hgo]; unfold isDig; rw [f1, f2]; simp
      have hv : numV s = .tup [.int .i64 0, .bool false] := by unfold numV numN; rw [if_neg hlen, if_neg hz, if_neg (by rw [hall]; simp)]
      apply EvX.reg0
      · intro call
        simp only [QRun, stepA, wantedA, opA, pureA, loadA, effA, binA, bin, evalA, ofV, ofCell, Fr.put, setArgs, kS, Nat.zero_testBit, Nat.reduceAdd, Nat.reduceSub, Nat.reduceLeDiff, decide_true, decide_false, Nat.reduceEqDiff, if_true, if_false, reduceIte, operands, hfn, h0, h26, natOf?, natOf_cast, hgi, AV.cells, takeN, beq_self_eq_true, eq_self, kA1, kA2, kB, Tryz.underlying77, e1, e2]
        exact ⟨rfl, rfl⟩
      simp only [Ex.thn]
      apply EvX.cond2 (t := true)
      · simp only [evalA, Tr.get_set, Nat.reduceEqDiff, if_true, if_false, reduceIte]
      rotate_left
      · intro h; cases h
      intro _
      apply EvX.seq
      apply EvX.reg0
      · intro call
        simp only [QRun, stepA, wantedA, opA, pureA, loadA, effA, binA, bin, evalA, ofV, ofCell, Fr.put, setArgs, kS, Nat.zero_testBit, Nat.reduceAdd, Nat.reduceSub, Nat.reduceLeDiff, decide_true, decide_false, Nat.reduceEqDiff, if_true, if_false, reduceIte, operands, hfn]
        exact ⟨rfl, rfl⟩
      simp only [Ex.thn]
      apply EvX.ret
      simp only [Ex.thn, Ex.blk]
      rw [hv]
      exact Fin.twoP rfl (by simp only [Tr.get_set, if_true, if_false, reduceIte, Nat.reduceEqDiff]) (by simp only [Tr.get_set, if_true, if_false, reduceIte, Nat.reduceEqDiff])
    have e2 := decide_eq_false c2
    have f2 : decide (x ≤ 57) = true := decide_eq_true (by omega)
    have hgo' : (s.drop (i + 1)).all isDig = s.all isDig := by rw [← hgo]; unfold isDig; rw [f1, f2]; simp
    apply EvX.reg0
    · intro call
      simp only [QRun, stepA, wantedA, opA, pureA, loadA, effA, binA, bin, evalA, ofV, ofCell, Fr.put, setArgs, kS, Nat.zero_testBit, Nat.reduceAdd, Nat.reduceSub, Nat.reduceLeDiff, decide_true, decide_false, Nat.reduceEqDiff, if_true, if_false, reduceIte, operands, hfn, h0, h26, natOf?, natOf_cast, hgi, AV.cells, takeN, beq_self_eq_true, eq_self, kA1, kA2, kB, Tryz.underlying77, e1, e2]
      exact ⟨rfl, rfl⟩
    simp only [Ex.thn]
    apply EvX.cond2 (t := false)
    · simp only [evalA, Tr.get_set, Nat.reduceEqDiff, if_true, if_false, reduceIte]
    · intro h; cases h
    intro _
    apply EvX.skip
    simp only [Ex.thn, Ex.blk]
    apply EvX.reg0
    · intro call
      simp only [QRun, stepA, wantedA, opA, pureA, loadA, effA, binA, bin, evalA, ofV, ofCell, Fr.put, setArgs, kS, Nat.zero_testBit, Nat.reduceAdd, Nat.reduceSub, Nat.reduceLeDiff, decide_true, decide_false, Nat.reduceEqDiff, if_true, if_false, reduceIte, operands, hfn, h26, wrap_succ (show i + 1 ≤ 9223372036854775807 by omega)]
      exact ⟨rfl, rfl⟩
    simp only [Ex.thn]
    refine ⟨s.length - (i + 1), by omega, i + 1, rfl, hlt', trivial, ?_, ?_, ?_, hgo'⟩
    · simp [Tr.get_set, h0]
    · simp [Tr.get_set, h25]
    · simp [Tr.get_set]
/-! ### a list of words -/
def numsP : List (List Nat) → Option (List Int)
  | [] => some []
  | w :: ws => match numN w, numsP ws with
    | some n, some l => some ((n : Int) :: l)
    | _, _ => none
theorem numsP_drop {ws : List (List Nat)} {i : Nat} (h : i < ws.length) : numsP (ws.drop i) = match numN ws[i], numsP (ws.drop (i + 1)) with | some n, some l => some ((n : Int) :: l) | _, _ => none := by
  rw [List.drop_eq_getElem_cons h]; rfl
def decStrs : List AV → Option (List (List Nat))
  | [] => some []
  | .str s :: r => (decStrs r).map (s :: ·)
  | _ => none
theorem decStrs_eq : ∀ {xs : List AV} {l : List (List Nat)}, decStrs xs = some l → xs = encStrs l
  | [], l, h => by simp only [decStrs, Option.some.injEq] at h; subst h; rfl
  | x :: xs, l, h => by
    cases x <;> simp only [decStrs] at h <;> try (cases h; done)
    rename_i s
    cases hr : decStrs xs with
    | none => simp [hr] at h
    | some k => simp only [hr, Option.map_some, Option.some.injEq] at h; subst h; rw [decStrs_eq hr]; rfl
theorem decStrs_enc : ∀ l, decStrs (encStrs l) = some l
  | [] => rfl
  | w :: l => by
    have := decStrs_enc l
    simp only [encStrs] at this
    simp only [encStrs, List.map_cons, decStrs, this, Option.map_some]
def numsV (ws : List (List Nat)) : AV := match numsP ws with
  | some l => .tup [slI l, .bool true]
  | none => .tup [.nilsl, .bool false]
def spec77 : List AV → Option AV
  | [.ro xs n 1] => match decStrs xs with
    | some ws => bif Nat.beq ws.length n && Nat.ble n 1000000 && ws.all (fun w => Nat.ble w.length 1000000) then some (numsV ws) else none
    | none => none
  | _ => none
theorem spec77_enc {ws : List (List Nat)} (h : ws.length ≤ 1000000) (h2 : ∀ w ∈ ws, w.length ≤ 1000000) : spec77 [.ro (encStrs ws) ws.length 1] = some (numsV ws) := by
  have h3 : ws.all (fun w => Nat.ble w.length 1000000) = true := by
    rw [List.all_eq_true]; intro w hw; exact Nat.ble_eq_true_of_le (h2 w hw)
  simp only [spec77, decStrs_enc, Nat.beq_refl, Nat.ble_eq_true_of_le h, h3, Bool.and_self, cond_true]
theorem spec77_some {args : List AV} {x : AV} (h : spec77 args = some x) : ∃ ws, args = [.ro (encStrs ws) ws.length 1] ∧ x = numsV ws ∧ ws.length ≤ 1000000 ∧ ∀ w ∈ ws, w.length ≤ 1000000 := by
  unfold spec77 at h
  split at h
  rotate_left
  · cases h
  rename_i xs n
  cases hl : decStrs xs with
  | none => simp [hl] at h
  | some ws =>
  simp only [hl] at h
  cases hb : Nat.beq ws.length n && Nat.ble n 1000000 && ws.all (fun w => Nat.ble w.length 1000000) with
  | false => simp [hb] at h
  | true =>
  simp only [hb, cond_true, Option.some.injEq] at h
  rw [Bool.and_eq_true_iff, Bool.and_eq_true_iff] at hb
  have hn := Nat.eq_of_beq_eq_true hb.1.1
  subst hn
  refine ⟨ws, by rw [decStrs_eq hl], h.symm, Nat.le_of_ble_eq_true hb.1.2, fun w hw => ?_⟩
  exact Nat.le_of_ble_eq_true (List.all_eq_true.1 hb.2 w hw)
theorem dropStr {ws : List (List Nat)} {i : Nat} (h : i < ws.length) : (encStrs ws).drop i = .str ws[i] :: (encStrs ws).drop (i + 1) := by
  rw [List.drop_eq_getElem_cons (by rw [encStrs_length]; exact h)]
  simp [encStrs]
def p77 : PFn := ⟨77, spec77⟩
theorem p77_ok : p77.OkT := by
  refine PFn.OkT.of (qs := []) (ps := [p115]) (fun q h => by cases h) (fun p h => by simp at h; subst h; exact p115_ok.tree) (fun args y hs => ?_)
  obtain ⟨ws, rfl, rfl, hl, hw1⟩ := spec77_some hs
  clear hs
  refine EvC.runT (K := fun x m' => treeA 8 m' x = some (numsV ws)) (by kernel_rfl) (by rw [CT_P]; exact Tryz.func77) rfl ?_
  apply EvX.seq
  apply EvX.reg0
  · intro call
    simp only [QRun, stepA, wantedA, opA, pureA, loadA, effA, binA, bin, evalA, ofV, ofCell, Fr.put, setArgs, kS, Nat.zero_testBit, Nat.reduceAdd, Nat.reduceSub, Nat.reduceLeDiff, decide_true, decide_false, Nat.reduceEqDiff, if_true, if_false, reduceIte, operands, Tryz.ntmps77]
    exact ⟨rfl, rfl⟩
  simp only [Ex.thn]
  apply EvX.seq
  apply EvX.reg0
  · intro call
    simp only [QRun, stepA, wantedA, opA, pureA, loadA, effA, binA, bin, evalA, ofV, ofCell, Fr.put, setArgs, kS, Nat.zero_testBit, Nat.reduceAdd, Nat.reduceSub, Nat.reduceLeDiff, decide_true, decide_false, Nat.reduceEqDiff, if_true, if_false, reduceIte, operands]
    exact ⟨rfl, rfl⟩
  simp only [Ex.thn]
  apply EvX.seq
  apply EvX.seq
  apply EvX.reg0
  · intro call
    simp only [QRun, stepA, wantedA, opA, pureA, loadA, effA, binA, bin, evalA, ofV, ofCell, Fr.put, setArgs, kS, Nat.zero_testBit, Nat.reduceAdd, Nat.reduceSub, Nat.reduceLeDiff, decide_true, decide_false, Nat.reduceEqDiff, if_true, if_false, reduceIte, operands, lenA, AV.cells, takeN, beq_self_eq_true, eq_self, kA1, kA2, kB, Tryz.underlying77]
    exact ⟨rfl, rfl⟩
  simp only [Ex.thn]
  apply EvX.block
  refine EvX.loop (fun k fr m => ∃ (i : Nat) (y : AV) (acc : List Int) (cs : List Nat), k = ws.length - i ∧ i ≤ ws.length ∧ fr.n = 28 ∧ fr.t.get 4 = some y ∧ fr.t.get 9 = some (.ro (encStrs ws) ws.length 1) ∧ fr.t.get 10 = some (.int .i64 (ws.length : Int)) ∧ fr.t.get 11 = some (.int .i64 (i : Int)) ∧
    WFm m ∧ SlC m y 1 acc.length (encInts acc) cs 3 ∧ acc.length = i ∧ numsP ws = (numsP (ws.drop i)).map (acc ++ ·)) ?_ ws.length _ _
    ⟨0, .nilsl, [], [], by simp, by simp, rfl, by simp [Tr.get_set], by simp [Tr.get_set], by simp [Tr.get_set], by simp [Tr.get_set], WFm.empty, .inl ⟨rfl, rfl, rfl, rfl⟩, rfl, by simp⟩
  rintro k fr m ⟨i, y, acc, cs, rfl, hil, hfn, h4, h9, h10, h11, hw, ho, hacc, hgo⟩
  apply EvX.seq
  apply EvX.reg0
  · intro call
    simp only [QRun, stepA, wantedA, opA, pureA, loadA, effA, binA, bin, evalA, ofV, ofCell, Fr.put, setArgs, kS, Nat.zero_testBit, Nat.reduceAdd, Nat.reduceSub, Nat.reduceLeDiff, decide_true, decide_false, Nat.reduceEqDiff, if_true, if_false, reduceIte, operands, hfn, h10, h11, AV.cells, takeN, beq_self_eq_true, eq_self, kA1, kA2, kB, Tryz.underlying77]
    exact ⟨rfl, rfl⟩
  simp only [Ex.thn]
  apply EvX.seq
  apply EvX.cond2
  · simp only [evalA, Tr.get_set, Nat.reduceEqDiff, if_true, if_false, reduceIte]; exact rfl
  rotate_left
  · intro hge
    have hge := of_decide_eq_false hge
    have hi : i = ws.length := by omega
    subst hi
    have hv : numsV ws = .tup [slI acc, .bool true] := by
      unfold numsV
      rw [hgo, List.drop_length]
      simp [numsP]
    apply EvX.exit
    simp only [Ex.thn, Ex.blk, beq_dec, decide_true, cond_true]
    apply EvX.seq
    apply EvX.reg0
    · intro call
      simp only [QRun, stepA, wantedA, opA, pureA, loadA, effA, binA, bin, evalA, ofV, ofCell, Fr.put, setArgs, kS, Nat.zero_testBit, Nat.reduceAdd, Nat.reduceSub, Nat.reduceLeDiff, decide_true, decide_false, Nat.reduceEqDiff, if_true, if_false, reduceIte, operands, hfn, h4]
      exact ⟨rfl, rfl⟩
    simp only [Ex.thn]
    apply EvX.ret
    refine Fin.twoT (K := fun x m' => treeA 8 m' x = some (numsV ws)) (x := y) (y := .bool true) (t := 2) (u := 3) rfl (by simp only [Tr.get_set, if_true, if_false, reduceIte, Nat.reduceEqDiff]) (by simp only [Tr.get_set, if_true, if_false, reduceIte, Nat.reduceEqDiff]) ?_
    rw [treeA, hv]
    simp only [mapO, ho.ownS.ints7, show treeA 7 m (.bool true) = some (.bool true) from rfl, Option.map_some]
  intro hlt
  have hlt := of_decide_eq_true hlt
  have hlt : i < ws.length := by omega
  have hlt' : i + 1 ≤ ws.length := hlt
  have hdr := dropStr hlt
  have hwl := hw1 ws[i] (List.getElem_mem _)
  rw [numsP_drop hlt] at hgo
  generalize hx : ws[i] = x at hdr hwl hgo
  have c115 := fun k => callTp (qs := []) (ps := [p115]) (p := p115) (f := 115) rfl (D := drawA (CT [] [p115])) k m (args := [.str x]) (args' := [.str x]) rfl (spec115 hwl) (numV_plain x)
  apply EvX.skip
  simp only [Ex.thn]
  apply EvX.seq
  apply EvX.block
  apply EvX.seq
  apply EvX.reg0
  · intro call
    simp only [QRun, stepA, wantedA, opA, pureA, loadA, effA, binA, bin, evalA, ofV, ofCell, Fr.put, setArgs, kS, Nat.zero_testBit, Nat.reduceAdd, Nat.reduceSub, Nat.reduceLeDiff, decide_true, decide_false, Nat.reduceEqDiff, if_true, if_false, reduceIte, operands, hfn, h4, h9, h11, natOf?, natOf_cast, hlt', Nat.le_of_lt hlt, encStrs_length, hdr, List.drop_zero, List.drop_succ_cons, List.length_cons, takeN, Option.map_some, Nat.le_add_left, Nat.zero_le, AV.cells, takeN, beq_self_eq_true, eq_self, kA1, kA2, kB, Tryz.underlying77]
    exact ⟨rfl, rfl⟩
  simp only [Ex.thn]
  cases hn : numN x with
  | none =>
    have hnv : numV x = .tup [.int .i64 0, .bool false] := by unfold numV; rw [hn]
    have hv : numsV ws = .tup [.nilsl, .bool false] := by
      unfold numsV
      rw [hgo, hn]
      rfl
    rw [hnv] at c115
    apply EvX.seq
    apply EvX.reg 0
    · intro k _
      simp only [QRun, stepA, wantedA, opA, pureA, loadA, effA, binA, bin, evalA, ofV, ofCell, Fr.put, setArgs, kS, Nat.zero_testBit, Nat.reduceAdd, Nat.reduceSub, Nat.reduceLeDiff, decide_true, decide_false, Nat.reduceEqDiff, if_true, if_false, reduceIte, operands, hfn, h4, h9, h11, natOf?, natOf_cast, hlt', Nat.le_of_lt hlt, encStrs_length, hdr, List.drop_zero, List.drop_succ_cons, List.length_cons, takeN, Option.map_some, Nat.le_add_left, Nat.zero_le, AV.cells, takeN, beq_self_eq_true, eq_self, kA1, kA2, kB, Tryz.underlying77, cl_115, c115]
      exact ⟨rfl, rfl⟩
    simp only [Ex.thn]
    apply EvX.seq
    apply EvX.seq
    apply EvX.reg0
    · intro call
      simp only [QRun, stepA, wantedA, opA, pureA, loadA, effA, binA, bin, evalA, ofV, ofCell, Fr.put, setArgs, kS, Nat.zero_testBit, Nat.reduceAdd, Nat.reduceSub, Nat.reduceLeDiff, decide_true, decide_false, Nat.reduceEqDiff, if_true, if_false, reduceIte, operands, hfn, unA, AV.cells, takeN, beq_self_eq_true, eq_self, kA1, kA2, kB, Tryz.underlying77]
      exact ⟨rfl, rfl⟩
    simp only [Ex.thn]
    apply EvX.cond2 (t := true)
    · simp only [evalA, Tr.get_set, Nat.reduceEqDiff, if_true, if_false, reduceIte]
    rotate_left
    · intro h; cases h
    intro _
    apply EvX.seq
    apply EvX.reg0
    · intro call
      simp only [QRun, stepA, wantedA, opA, pureA, loadA, effA, binA, bin, evalA, ofV, ofCell, Fr.put, setArgs, kS, Nat.zero_testBit, Nat.reduceAdd, Nat.reduceSub, Nat.reduceLeDiff, decide_true, decide_false, Nat.reduceEqDiff, if_true, if_false, reduceIte, operands, hfn]
      exact ⟨rfl, rfl⟩
    simp only [Ex.thn]
    apply EvX.ret
    simp only [Ex.thn, Ex.blk]
    refine Fin.twoT (K := fun x m' => treeA 8 m' x = some (numsV ws)) (x := .nilsl) (y := .bool false) (t := 2) (u := 3) rfl (by simp only [Tr.get_set, if_true, if_false, reduceIte, Nat.reduceEqDiff]) (by simp only [Tr.get_set, if_true, if_false, reduceIte, Nat.reduceEqDiff]) ?_
    rw [hv]; rfl
  | some n =>
    have hnv : numV x = .tup [.int .i64 (n : Int), .bool true] := by unfold numV; rw [hn]
    have hgo' : numsP ws = (numsP (ws.drop (i + 1))).map ((acc ++ [(n : Int)]) ++ ·) := by
      rw [hgo, hn]
      cases numsP (ws.drop (i + 1)) with
      | none => rfl
      | some l => simp
    rw [hnv] at c115
    obtain ⟨y', m1, cs', a1, a2, w1, k1, o1, n1, hc1⟩ := ho.appendLit hw (bytes := 8) (zs := [.int .i64 (n : Int)]) rfl rfl (by omega) (by omega)
    have o1' : SlC m1 y' 1 (acc ++ [(n : Int)]).length (encInts (acc ++ [(n : Int)])) cs' 3 := by
      have e : encInts acc ++ [AV.int .i64 (n : Int)] = encInts (acc ++ [(n : Int)]) := by simp [encInts]
      rw [e] at o1; simpa using o1
    apply EvX.seq
    apply EvX.reg 0
    · intro k _
      simp only [QRun, stepA, wantedA, opA, pureA, loadA, effA, binA, bin, evalA, ofV, ofCell, Fr.put, setArgs, kS, Nat.zero_testBit, Nat.reduceAdd, Nat.reduceSub, Nat.reduceLeDiff, decide_true, decide_false, Nat.reduceEqDiff, if_true, if_false, reduceIte, operands, hfn, h4, h9, h11, natOf?, natOf_cast, hlt', Nat.le_of_lt hlt, encStrs_length, hdr, List.drop_zero, List.drop_succ_cons, List.length_cons, takeN, Option.map_some, Nat.le_add_left, Nat.zero_le, AV.cells, takeN, beq_self_eq_true, eq_self, kA1, kA2, kB, Tryz.underlying77, cl_115, c115]
      exact ⟨rfl, rfl⟩
    simp only [Ex.thn]
    apply EvX.seq
    apply EvX.seq
    apply EvX.reg0
    · intro call
      simp only [QRun, stepA, wantedA, opA, pureA, loadA, effA, binA, bin, evalA, ofV, ofCell, Fr.put, setArgs, kS, Nat.zero_testBit, Nat.reduceAdd, Nat.reduceSub, Nat.reduceLeDiff, decide_true, decide_false, Nat.reduceEqDiff, if_true, if_false, reduceIte, operands, hfn, unA, AV.cells, takeN, beq_self_eq_true, eq_self, kA1, kA2, kB, Tryz.underlying77]
      exact ⟨rfl, rfl⟩
    simp only [Ex.thn]
    apply EvX.cond2 (t := false)
    · simp only [evalA, Tr.get_set, Nat.reduceEqDiff, if_true, if_false, reduceIte]
    · intro h; cases h
    intro _
    apply EvX.skip
    simp only [Ex.thn, Ex.blk]
    apply EvX.reg0
    · intro call
      simp only [QRun, stepA, wantedA, opA, pureA, loadA, effA, binA, bin, evalA, ofV, ofCell, Fr.put, setArgs, kS, Nat.zero_testBit, Nat.reduceAdd, Nat.reduceSub, Nat.reduceLeDiff, decide_true, decide_false, Nat.reduceEqDiff, if_true, if_false, reduceIte, operands, hfn, h4, a1, a2, AV.cells, takeN, beq_self_eq_true, eq_self, kA1, kA2, kB, Tryz.underlying77, partsA, fillA, putCells, replicateA, List.append_nil, List.nil_append, List.cons_append, Nat.reduceMul, allCells, AV.isCell]
      exact ⟨rfl, rfl⟩
    simp only [Ex.thn, Ex.blk]
    apply EvX.reg0
    · intro call
      simp only [QRun, stepA, wantedA, opA, pureA, loadA, effA, binA, bin, evalA, ofV, ofCell, Fr.put, setArgs, kS, Nat.zero_testBit, Nat.reduceAdd, Nat.reduceSub, Nat.reduceLeDiff, decide_true, decide_false, Nat.reduceEqDiff, if_true, if_false, reduceIte, operands, hfn, h11, wrap_succ (show i + 1 ≤ 9223372036854775807 by omega)]
      exact ⟨rfl, rfl⟩
    simp only [Ex.thn]
    refine ⟨ws.length - (i + 1), by omega, i + 1, y', acc ++ [(n : Int)], cs', rfl, hlt', trivial, ?_, ?_, ?_, ?_, w1, o1', by simp [hacc], hgo'⟩
    · simp [Tr.get_set]
    · simp [Tr.get_set, h9]
    · simp [Tr.get_set, h10]
    · simp [Tr.get_set]
end Go.Vz
