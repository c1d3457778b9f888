/-
  the reference's Apply, told.
-/
import Derived.Test.YtgagkmbhlpmceaaGreatDoorVzAp1
set_option linter.unusedVariables false
set_option linter.unusedSimpArgs false
namespace Go.Vz
open Go Go.Proofs
set_option maxHeartbeats 4000000
set_option maxRecDepth 20000
theorem dropInt {l : List Int} {i : Nat} (h : i < l.length) : (encInts l).drop i = .int .i64 l[i] :: (encInts l).drop (i + 1) := by
  rw [List.drop_eq_getElem_cons (by rw [encInts_length]; exact h)]
  simp [encInts]
theorem OwnS.lenA {lo hi : Nat} {m : Mem} {y : AV} {sz n : Nat} {xs : List AV} (h : OwnS lo hi m y sz n xs) {t e : TypeId} (ht : Tryz.prog.underlying t = some (.slice e)) : Vz.lenA Tryz.prog t y = some (.int .i64 n) := by
  rcases h with ⟨rfl, rfl, _⟩ | ⟨_, _, v, W, c, rfl, _⟩ <;> simp only [Vz.lenA, ht] <;> rfl
def p68 : PFn := ⟨68, fun
  | [x, .int .i64 a] => match isl x with
    | some l => bif Nat.ble l.length 1000000 then some (.bool (l.contains a)) else none
    | none => none
  | _ => none⟩
theorem spec68 {x : AV} {l : List Int} (h : isl x = some l) (hl : l.length ≤ 1000000) (a : Int) : p68.spec [x, .int .i64 a] = some (.bool (l.contains a)) := by
  show (match isl x with | some l => bif Nat.ble l.length 1000000 then some (AV.bool (l.contains a)) else none | none => none) = _
  rw [h]; simp only [Nat.ble_eq_true_of_le hl, cond_true]
theorem p68_ok : p68.Ok := by
  refine PFn.Ok.ofT (qs := []) (ps := []) (fun q h => by cases h) (fun p h => by cases h) (fun args x h => ?_)
  simp only [p68] at h
  split at h
  rotate_left
  · cases h
  rename_i x0 a
  cases hx : isl x0 with
  | none => simp [hx] at h
  | some l =>
  simp only [hx] at h
  cases hb : Nat.ble l.length 1000000 with
  | false => simp [hb] at h
  | true =>
  simp only [hb, cond_true, Option.some.injEq] at h
  subst h
  have hb := Nat.le_of_ble_eq_true hb
  refine ⟨rfl, EvC.run (by kernel_rfl) (by rw [CT_P]; exact Tryz.func68) rfl ?_⟩
  apply EvX.seq
  apply EvX.reg0
  · intro call
    simp only [QRun, stepA, wantedA, opA, pureA, loadA, effA, binA, bin, evalA, ofV, ofCell, Fr.put, enterA_n, enterA_t, setArgs, List.length_cons, List.length_nil, Tr.get_set, Nat.zero_testBit, cond_false, true_and, Nat.reduceAdd, Nat.reduceSub, ble_dec, beq_dec, Nat.reduceLeDiff, decide_true, decide_false, cond_true, Nat.reduceEqDiff, if_true, if_false, reduceIte, operands, Option.map_some, Option.map_none, CT_P, Tryz.ntmps68]
    exact ⟨rfl, rfl⟩
  simp only [Ex.thn]
  apply EvX.seq
  apply EvX.seq
  apply EvX.reg0
  · intro call
    simp only [QRun, stepA, wantedA, opA, pureA, loadA, effA, binA, bin, evalA, ofV, ofCell, Fr.put, enterA_n, enterA_t, setArgs, List.length_cons, List.length_nil, Tr.get_set, Nat.zero_testBit, cond_false, true_and, Nat.reduceAdd, Nat.reduceSub, ble_dec, beq_dec, Nat.reduceLeDiff, decide_true, decide_false, cond_true, Nat.reduceEqDiff, if_true, if_false, reduceIte, operands, Option.map_some, Option.map_none, CT_P]
    exact ⟨rfl, rfl⟩
  simp only [Ex.thn]
  apply EvX.block
  refine EvX.loop (fun k fr m => ∃ i : Nat, k = l.length - i ∧ i ≤ l.length ∧ fr.n = 18 ∧ fr.t.get 0 = some x0 ∧ fr.t.get 1 = some (.int .i64 a) ∧ fr.t.get 5 = some (.int .i64 (i : Int)) ∧ (l.drop i).contains a = l.contains a) ?_ l.length _ _
    ⟨0, by simp, by simp, rfl, by simp [Tr.get_set], by simp [Tr.get_set], by simp [Tr.get_set], rfl⟩
  rintro k fr m ⟨i, rfl, hil, hfn, h0, h1, h5, hgo⟩
  apply EvX.seq
  apply EvX.seq
  apply EvX.reg0
  · intro call
    simp only [QRun, stepA, wantedA, opA, pureA, loadA, effA, binA, bin, evalA, ofV, ofCell, Fr.put, enterA_n, enterA_t, setArgs, List.length_cons, List.length_nil, Tr.get_set, Nat.zero_testBit, cond_false, true_and, Nat.reduceAdd, Nat.reduceSub, ble_dec, beq_dec, Nat.reduceLeDiff, decide_true, decide_false, cond_true, Nat.reduceEqDiff, if_true, if_false, reduceIte, operands, Option.map_some, Option.map_none, CT_P, hfn, h0, h5, isl_len hx sl_t31, AV.cells, takeN, load_rp, Nat.zero_le, Nat.le_refl, Nat.zero_add, Nat.add_zero, Nat.mul_one, Nat.one_mul, Bool.not_false, Bool.not_true, List.getElem?_toArray, List.getElem?_cons_zero, List.getElem?_cons_succ, beq_self_eq_true, Bool.and_true, Bool.true_and, Bool.and_self, eq_self, show (true == false) = false from rfl, show (false == true) = false from rfl, show (false == false) = true from rfl, Tryz.underlying70, Tryz.underlying28, sl_t31, sl_t95, sz_3, sz_70, ag_3, ag_70, ze_70, ze_3, by_3, Tryz.underlying30, sz_30, ag_30, ze_30, sz_28, ag_28]
    exact ⟨rfl, rfl⟩
  simp only [Ex.thn]
  apply EvX.cond2
  · simp only [evalA, Tr.get_set, Nat.reduceEqDiff, if_true, if_false, reduceIte]; exact rfl
  rotate_left
  · intro hge
    have hge := of_decide_eq_false hge
    have hi : i = l.length := by omega
    subst hi
    apply EvX.exit
    simp only [Ex.thn, Ex.blk, beq_dec, decide_true, cond_true]
    apply EvX.seq
    apply EvX.reg0
    · intro call
      simp only [QRun, stepA, wantedA, opA, pureA, loadA, effA, binA, bin, evalA, ofV, ofCell, Fr.put, enterA_n, enterA_t, setArgs, List.length_cons, List.length_nil, Tr.get_set, Nat.zero_testBit, cond_false, true_and, Nat.reduceAdd, Nat.reduceSub, ble_dec, beq_dec, Nat.reduceLeDiff, decide_true, decide_false, cond_true, Nat.reduceEqDiff, if_true, if_false, reduceIte, operands, Option.map_some, Option.map_none, CT_P, hfn]
      exact ⟨rfl, rfl⟩
    simp only [Ex.thn]
    apply EvX.ret
    exact Fin.one rfl (by have e : l.contains a = false := by {rw [← hgo, List.drop_length]; rfl}
                          simp only [Tr.get_set, if_true, reduceIte, e])
  intro hlt
  have hlt := of_decide_eq_true hlt
  have hlt : i < l.length := by omega
  have hlt' : i + 1 ≤ l.length := hlt
  have hx0 := isl_at hx hlt
  have h0' := h0
  rw [hx0] at h0'
  have hdr := dropInt hlt
  rw [List.drop_eq_getElem_cons hlt] at hgo
  generalize hp : l[i] = b at hgo hdr
  apply EvX.skip
  simp only [Ex.thn]
  apply EvX.seq
  apply EvX.block
  apply EvX.seq
  by_cases b1 : b = a
  · have d1 : (b == a) = true := by simpa using b1
    apply EvX.reg0
    · intro call
      simp only [QRun, stepA, wantedA, opA, pureA, loadA, effA, binA, bin, evalA, ofV, ofCell, Fr.put, enterA_n, enterA_t, setArgs, List.length_cons, List.length_nil, Tr.get_set, Nat.zero_testBit, cond_false, true_and, Nat.reduceAdd, Nat.reduceSub, ble_dec, beq_dec, Nat.reduceLeDiff, decide_true, decide_false, cond_true, Nat.reduceEqDiff, if_true, if_false, reduceIte, operands, Option.map_some, Option.map_none, CT_P, hfn, h0', h1, h5, natOf?, natOf_cast, hlt', Nat.le_of_lt hlt, encInts_length, hdr, List.drop_zero, List.drop_succ_cons, List.length_cons, takeN, Option.map_some, Nat.le_add_left, Nat.zero_le, AV.cells, takeN, load_rp, Nat.zero_le, Nat.le_refl, Nat.zero_add, Nat.add_zero, Nat.mul_one, Nat.one_mul, Bool.not_false, Bool.not_true, List.getElem?_toArray, List.getElem?_cons_zero, List.getElem?_cons_succ, beq_self_eq_true, Bool.and_true, Bool.true_and, Bool.and_self, eq_self, show (true == false) = false from rfl, show (false == true) = false from rfl, show (false == false) = true from rfl, Tryz.underlying70, Tryz.underlying28, sl_t31, sl_t95, sz_3, sz_70, ag_3, ag_70, ze_70, ze_3, by_3, Tryz.underlying30, sz_30, ag_30, ze_30, sz_28, ag_28, d1]
      exact ⟨rfl, rfl⟩
    simp only [Ex.thn]
    apply EvX.cond2 (t := true)
    · simp only [evalA, Tr.get_set, Nat.reduceEqDiff, if_true, if_false, reduceIte]
    rotate_left
    · intro h; cases h
    intro _
    apply EvX.seq
    apply EvX.reg0
    · intro call
      simp only [QRun, stepA, wantedA, opA, pureA, loadA, effA, binA, bin, evalA, ofV, ofCell, Fr.put, enterA_n, enterA_t, setArgs, List.length_cons, List.length_nil, Tr.get_set, Nat.zero_testBit, cond_false, true_and, Nat.reduceAdd, Nat.reduceSub, ble_dec, beq_dec, Nat.reduceLeDiff, decide_true, decide_false, cond_true, Nat.reduceEqDiff, if_true, if_false, reduceIte, operands, Option.map_some, Option.map_none, CT_P, hfn]
      exact ⟨rfl, rfl⟩
    simp only [Ex.thn]
    apply EvX.ret
    simp only [Ex.thn, Ex.blk]
    exact Fin.one rfl (by rw [← hgo]; simp [Tr.get_set, b1])
  have d1 : (b == a) = false := by simpa using b1
  apply EvX.reg0
  · intro call
    simp only [QRun, stepA, wantedA, opA, pureA, loadA, effA, binA, bin, evalA, ofV, ofCell, Fr.put, enterA_n, enterA_t, setArgs, List.length_cons, List.length_nil, Tr.get_set, Nat.zero_testBit, cond_false, true_and, Nat.reduceAdd, Nat.reduceSub, ble_dec, beq_dec, Nat.reduceLeDiff, decide_true, decide_false, cond_true, Nat.reduceEqDiff, if_true, if_false, reduceIte, operands, Option.map_some, Option.map_none, CT_P, hfn, h0', h1, h5, natOf?, natOf_cast, hlt', Nat.le_of_lt hlt, encInts_length, hdr, List.drop_zero, List.drop_succ_cons, List.length_cons, takeN, Option.map_some, Nat.le_add_left, Nat.zero_le, AV.cells, takeN, load_rp, Nat.zero_le, Nat.le_refl, Nat.zero_add, Nat.add_zero, Nat.mul_one, Nat.one_mul, Bool.not_false, Bool.not_true, List.getElem?_toArray, List.getElem?_cons_zero, List.getElem?_cons_succ, beq_self_eq_true, Bool.and_true, Bool.true_and, Bool.and_self, eq_self, show (true == false) = false from rfl, show (false == true) = false from rfl, show (false == false) = true from rfl, Tryz.underlying70, Tryz.underlying28, sl_t31, sl_t95, sz_3, sz_70, ag_3, ag_70, ze_70, ze_3, by_3, Tryz.underlying30, sz_30, ag_30, ze_30, sz_28, ag_28, d1]
    exact ⟨rfl, rfl⟩
  simp only [Ex.thn]
  apply EvX.cond2 (t := false)
  · simp only [evalA, Tr.get_set, Nat.reduceEqDiff, if_true, if_false, reduceIte]
  · intro h; cases h
  intro _
  apply EvX.skip
  simp only [Ex.thn, Ex.blk]
  apply EvX.reg0
  · intro call
    simp only [QRun, stepA, wantedA, opA, pureA, loadA, effA, binA, bin, evalA, ofV, ofCell, Fr.put, enterA_n, enterA_t, setArgs, List.length_cons, List.length_nil, Tr.get_set, Nat.zero_testBit, cond_false, true_and, Nat.reduceAdd, Nat.reduceSub, ble_dec, beq_dec, Nat.reduceLeDiff, decide_true, decide_false, cond_true, Nat.reduceEqDiff, if_true, if_false, reduceIte, operands, Option.map_some, Option.map_none, CT_P, hfn, h5, wrap_succ (show i + 1 ≤ 9223372036854775807 by omega)]
    exact ⟨rfl, rfl⟩
  simp only [Ex.thn]
  refine ⟨l.length - (i + 1), by omega, i + 1, rfl, hlt', trivial, ?_, ?_, ?_, ?_⟩
  · simp [Tr.get_set, h0]
  · simp [Tr.get_set, h1]
  · simp [Tr.get_set]
  · rw [← hgo, List.contains_cons, show (a == b) = false by simpa using fun h => b1 h.symm, Bool.false_or]
/-! ### WithFact -/
def insN (a : Int) : List Int → List Int
  | [] => [a]
  | b :: l => if a < b then a :: b :: l else b :: insN a l
def insF (a : Int) (l : List Int) : List Int := if l.contains a then l else insN a l
theorem withFact {qs : List MPrim} {ps : List PFn} (hp : (CT qs ps).isPrim 71 = false) {m0 : Mem} {x : AV} {l : List Int} (w0 : WFm m0) (hx : OwnS 0 m0.nxt m0 x 1 l.length (encInts l)) (hl : l.length ≤ 1000000) (a : Int) :
    ∃ x' m', (WFm m' ∧ OwnS 0 m'.nxt m' x' 1 (insF a l).length (encInts (insF a l))) ∧ EvC (CT qs ps) (drawA (CT qs ps)) 71 [x, .int .i64 a] m0 x' m' := by
  refine EvC.runT (K := fun x' m' => WFm m' ∧ OwnS 0 m'.nxt m' x' 1 (insF a l).length (encInts (insF a l))) hp (by rw [CT_P]; exact Tryz.func71) rfl ?_
  apply EvX.seq
  apply EvX.reg0
  · intro call
    simp only [QRun, stepA, wantedA, opA, pureA, loadA, effA, binA, bin, evalA, ofV, ofCell, Fr.put, enterA_n, enterA_t, setArgs, List.length_cons, List.length_nil, Tr.get_set, Nat.zero_testBit, cond_false, true_and, Nat.reduceAdd, Nat.reduceSub, ble_dec, beq_dec, Nat.reduceLeDiff, decide_true, decide_false, cond_true, Nat.reduceEqDiff, if_true, if_false, reduceIte, operands, Option.map_some, Option.map_none, CT_P, Tryz.ntmps71]
    exact ⟨rfl, rfl⟩
  simp only [Ex.thn]
  apply EvX.seq
  apply EvX.reg0
  · intro call
    simp only [QRun, stepA, wantedA, opA, pureA, loadA, effA, binA, bin, evalA, ofV, ofCell, Fr.put, enterA_n, enterA_t, setArgs, List.length_cons, List.length_nil, Tr.get_set, Nat.zero_testBit, cond_false, true_and, Nat.reduceAdd, Nat.reduceSub, ble_dec, beq_dec, Nat.reduceLeDiff, decide_true, decide_false, cond_true, Nat.reduceEqDiff, if_true, if_false, reduceIte, operands, Option.map_some, Option.map_none, CT_P]
    exact ⟨rfl, rfl⟩
  simp only [Ex.thn]
  apply EvX.seq
  apply EvX.reg0
  · intro call
    simp only [QRun, stepA, wantedA, opA, pureA, loadA, effA, binA, bin, evalA, ofV, ofCell, Fr.put, enterA_n, enterA_t, setArgs, List.length_cons, List.length_nil, Tr.get_set, Nat.zero_testBit, cond_false, true_and, Nat.reduceAdd, Nat.reduceSub, ble_dec, beq_dec, Nat.reduceLeDiff, decide_true, decide_false, cond_true, Nat.reduceEqDiff, if_true, if_false, reduceIte, operands, Option.map_some, Option.map_none, CT_P]
    exact ⟨rfl, rfl⟩
  simp only [Ex.thn]
  apply EvX.seq
  apply EvX.seq
  apply EvX.reg0
  · intro call
    simp only [QRun, stepA, wantedA, opA, pureA, loadA, effA, binA, bin, evalA, ofV, ofCell, Fr.put, enterA_n, enterA_t, setArgs, List.length_cons, List.length_nil, Tr.get_set, Nat.zero_testBit, cond_false, true_and, Nat.reduceAdd, Nat.reduceSub, ble_dec, beq_dec, Nat.reduceLeDiff, decide_true, decide_false, cond_true, Nat.reduceEqDiff, if_true, if_false, reduceIte, operands, Option.map_some, Option.map_none, CT_P]
    exact ⟨rfl, rfl⟩
  simp only [Ex.thn]
  apply EvX.block
  refine EvX.loop (fun k fr m => ∃ (i : Nat) (y : AV) (acc : List Int) (dn : Bool), k = l.length - i ∧ i ≤ l.length ∧ fr.n = 49 ∧ fr.t.get 0 = some x ∧ fr.t.get 1 = some (.int .i64 a) ∧ fr.t.get 5 = some y ∧ fr.t.get 6 = some (.bool dn) ∧ fr.t.get 7 = some (.int .i64 (i : Int)) ∧
    WFm m ∧ KeepB m0.nxt m0 m ∧ OwnS m0.nxt m.nxt m y 1 acc.length (encInts acc) ∧ (l.drop i).contains a = l.contains a ∧ acc ++ (if dn then l.drop i else insN a (l.drop i)) = insN a l ∧ acc.length ≤ 2 * i) ?_ l.length _ _
    ⟨0, .nilsl, [], false, by simp, by simp, rfl, by simp [Tr.get_set], by simp [Tr.get_set], by simp [Tr.get_set], by simp [Tr.get_set], by simp [Tr.get_set], w0, KeepB.refl _ _, .inl ⟨rfl, rfl, rfl⟩, rfl, by simp, Nat.le_refl _⟩
  rintro k fr m ⟨i, y, acc, dn, rfl, hil, hfn, h0, h1, h5, h6, h7, hw, hk, ho, hco, hgo, hacc⟩
  apply EvX.seq
  apply EvX.seq
  apply EvX.reg0
  · intro call
    simp only [QRun, stepA, wantedA, opA, pureA, loadA, effA, binA, bin, evalA, ofV, ofCell, Fr.put, enterA_n, enterA_t, setArgs, List.length_cons, List.length_nil, Tr.get_set, Nat.zero_testBit, cond_false, true_and, Nat.reduceAdd, Nat.reduceSub, ble_dec, beq_dec, Nat.reduceLeDiff, decide_true, decide_false, cond_true, Nat.reduceEqDiff, if_true, if_false, reduceIte, operands, Option.map_some, Option.map_none, CT_P, hfn, h0, h7, hx.lenA sl_t31, AV.cells, takeN, load_rp, Nat.zero_le, Nat.le_refl, Nat.zero_add, Nat.add_zero, Nat.mul_one, Nat.one_mul, Bool.not_false, Bool.not_true, List.getElem?_toArray, List.getElem?_cons_zero, List.getElem?_cons_succ, beq_self_eq_true, Bool.and_true, Bool.true_and, Bool.and_self, eq_self, show (true == false) = false from rfl, show (false == true) = false from rfl, show (false == false) = true from rfl, Tryz.underlying70, Tryz.underlying28, sl_t31, sl_t95, sz_3, sz_70, ag_3, ag_70, ze_70, ze_3, by_3, Tryz.underlying30, sz_30, ag_30, ze_30, sz_28, ag_28]
    exact ⟨rfl, rfl⟩
  simp only [Ex.thn]
  apply EvX.cond2
  · simp only [evalA, Tr.get_set, Nat.reduceEqDiff, if_true, if_false, reduceIte]; exact rfl
  rotate_left
  · intro hge
    have hge := of_decide_eq_false hge
    have hi : i = l.length := by omega
    subst hi
    rw [List.drop_length] at hco hgo
    have hno : l.contains a = false := by rw [← hco]; rfl
    have hins : insF a l = insN a l := by unfold insF; rw [hno]; rfl
    rw [hins]
    apply EvX.exit
    simp only [Ex.thn, Ex.blk, beq_dec, decide_true, cond_true]
    apply EvX.seq
    cases dn with
    | true =>
      have hgo : acc = insN a l := by simpa using hgo
      apply EvX.seq
      apply EvX.reg0
      · intro call
        simp only [QRun, stepA, wantedA, opA, pureA, loadA, effA, binA, bin, evalA, ofV, ofCell, Fr.put, enterA_n, enterA_t, setArgs, List.length_cons, List.length_nil, Tr.get_set, Nat.zero_testBit, cond_false, true_and, Nat.reduceAdd, Nat.reduceSub, ble_dec, beq_dec, Nat.reduceLeDiff, decide_true, decide_false, cond_true, Nat.reduceEqDiff, if_true, if_false, reduceIte, operands, Option.map_some, Option.map_none, CT_P, hfn, h6, unA, AV.cells, takeN, load_rp, Nat.zero_le, Nat.le_refl, Nat.zero_add, Nat.add_zero, Nat.mul_one, Nat.one_mul, Bool.not_false, Bool.not_true, List.getElem?_toArray, List.getElem?_cons_zero, List.getElem?_cons_succ, beq_self_eq_true, Bool.and_true, Bool.true_and, Bool.and_self, eq_self, show (true == false) = false from rfl, show (false == true) = false from rfl, show (false == false) = true from rfl, Tryz.underlying70, Tryz.underlying28, sl_t31, sl_t95, sz_3, sz_70, ag_3, ag_70, ze_70, ze_3, by_3, Tryz.underlying30, sz_30, ag_30, ze_30, sz_28, ag_28]
        exact ⟨rfl, rfl⟩
      simp only [Ex.thn]
      apply EvX.cond2 (t := false)
      · simp only [evalA, Tr.get_set, Nat.reduceEqDiff, if_true, if_false, reduceIte]
      · intro h; cases h
      intro _
      apply EvX.skip
      simp only [Ex.thn, Ex.blk]
      apply EvX.seq
      apply EvX.reg0
      · intro call
        simp only [QRun, stepA, wantedA, opA, pureA, loadA, effA, binA, bin, evalA, ofV, ofCell, Fr.put, enterA_n, enterA_t, setArgs, List.length_cons, List.length_nil, Tr.get_set, Nat.zero_testBit, cond_false, true_and, Nat.reduceAdd, Nat.reduceSub, ble_dec, beq_dec, Nat.reduceLeDiff, decide_true, decide_false, cond_true, Nat.reduceEqDiff, if_true, if_false, reduceIte, operands, Option.map_some, Option.map_none, CT_P, hfn, h5, AV.cells, takeN, load_rp, Nat.zero_le, Nat.le_refl, Nat.zero_add, Nat.add_zero, Nat.mul_one, Nat.one_mul, Bool.not_false, Bool.not_true, List.getElem?_toArray, List.getElem?_cons_zero, List.getElem?_cons_succ, beq_self_eq_true, Bool.and_true, Bool.true_and, Bool.and_self, eq_self, show (true == false) = false from rfl, show (false == true) = false from rfl, show (false == false) = true from rfl, Tryz.underlying70, Tryz.underlying28, sl_t31, sl_t95, sz_3, sz_70, ag_3, ag_70, ze_70, ze_3, by_3, Tryz.underlying30, sz_30, ag_30, ze_30, sz_28, ag_28]
        exact ⟨rfl, rfl⟩
      simp only [Ex.thn]
      apply EvX.ret
      exact Fin.oneT (K := fun x' m' => WFm m' ∧ OwnS 0 m'.nxt m' x' 1 (insN a l).length (encInts (insN a l))) (x := y) (t := 4) rfl (by simp only [Tr.get_set, if_true, if_false, reduceIte, Nat.reduceEqDiff]) ⟨hw, by rw [← hgo]; exact ho.wide (Nat.zero_le _) (Nat.le_refl _)⟩
    | false =>
      have hgo : acc ++ [a] = insN a l := by simpa [insN] using hgo
      obtain ⟨y', m3, a1, a2, w3, k3, o3, n3⟩ := append_lit (e := 3) (bytes := 8) hw ho hk.nxt (cs := [.int .i64 a]) rfl rfl (by omega) (by omega)
      have o3' : OwnS m0.nxt m3.nxt m3 y' 1 (insN a l).length (encInts (insN a l)) := by
        have e : encInts acc ++ [AV.int .i64 a] = encInts (insN a l) := by rw [← hgo]; simp [encInts]
        rw [e] at o3; rw [← hgo] at o3 ⊢; simpa using o3
      apply EvX.seq
      apply EvX.reg0
      · intro call
        simp only [QRun, stepA, wantedA, opA, pureA, loadA, effA, binA, bin, evalA, ofV, ofCell, Fr.put, enterA_n, enterA_t, setArgs, List.length_cons, List.length_nil, Tr.get_set, Nat.zero_testBit, cond_false, true_and, Nat.reduceAdd, Nat.reduceSub, ble_dec, beq_dec, Nat.reduceLeDiff, decide_true, decide_false, cond_true, Nat.reduceEqDiff, if_true, if_false, reduceIte, operands, Option.map_some, Option.map_none, CT_P, hfn, h6, unA, AV.cells, takeN, load_rp, Nat.zero_le, Nat.le_refl, Nat.zero_add, Nat.add_zero, Nat.mul_one, Nat.one_mul, Bool.not_false, Bool.not_true, List.getElem?_toArray, List.getElem?_cons_zero, List.getElem?_cons_succ, beq_self_eq_true, Bool.and_true, Bool.true_and, Bool.and_self, eq_self, show (true == false) = false from rfl, show (false == true) = false from rfl, show (false == false) = true from rfl, Tryz.underlying70, Tryz.underlying28, sl_t31, sl_t95, sz_3, sz_70, ag_3, ag_70, ze_70, ze_3, by_3, Tryz.underlying30, sz_30, ag_30, ze_30, sz_28, ag_28]
        exact ⟨rfl, rfl⟩
      simp only [Ex.thn]
      apply EvX.cond2 (t := true)
      · simp only [evalA, Tr.get_set, Nat.reduceEqDiff, if_true, if_false, reduceIte]
      rotate_left
      · intro h; cases h
      intro _
      apply EvX.reg0
      · intro call
        simp only [QRun, stepA, wantedA, opA, pureA, loadA, effA, binA, bin, evalA, ofV, ofCell, Fr.put, enterA_n, enterA_t, setArgs, List.length_cons, List.length_nil, Tr.get_set, Nat.zero_testBit, cond_false, true_and, Nat.reduceAdd, Nat.reduceSub, ble_dec, beq_dec, Nat.reduceLeDiff, decide_true, decide_false, cond_true, Nat.reduceEqDiff, if_true, if_false, reduceIte, operands, Option.map_some, Option.map_none, CT_P, hfn, h1, h5, a1, a2, AV.cells, takeN, load_rp, Nat.zero_le, Nat.le_refl, Nat.zero_add, Nat.add_zero, Nat.mul_one, Nat.one_mul, Bool.not_false, Bool.not_true, List.getElem?_toArray, List.getElem?_cons_zero, List.getElem?_cons_succ, beq_self_eq_true, Bool.and_true, Bool.true_and, Bool.and_self, eq_self, show (true == false) = false from rfl, show (false == true) = false from rfl, show (false == false) = true from rfl, Tryz.underlying70, Tryz.underlying28, sl_t31, sl_t95, sz_3, sz_70, ag_3, ag_70, ze_70, ze_3, by_3, Tryz.underlying30, sz_30, ag_30, ze_30, sz_28, ag_28, partsA, fillA, putCells, replicateA, List.append_nil, List.nil_append, List.cons_append, Nat.reduceMul, allCells, AV.isCell]
        exact ⟨rfl, rfl⟩
      simp only [Ex.thn]
      apply EvX.seq
      apply EvX.reg0
      · intro call
        simp only [QRun, stepA, wantedA, opA, pureA, loadA, effA, binA, bin, evalA, ofV, ofCell, Fr.put, enterA_n, enterA_t, setArgs, List.length_cons, List.length_nil, Tr.get_set, Nat.zero_testBit, cond_false, true_and, Nat.reduceAdd, Nat.reduceSub, ble_dec, beq_dec, Nat.reduceLeDiff, decide_true, decide_false, cond_true, Nat.reduceEqDiff, if_true, if_false, reduceIte, operands, Option.map_some, Option.map_none, CT_P, hfn]
        exact ⟨rfl, rfl⟩
      simp only [Ex.thn]
      apply EvX.ret
      exact Fin.oneT (K := fun x' m' => WFm m' ∧ OwnS 0 m'.nxt m' x' 1 (insN a l).length (encInts (insN a l))) (x := y') (t := 4) rfl (by simp only [Tr.get_set, if_true, if_false, reduceIte, Nat.reduceEqDiff]) ⟨w3, o3'.wide (Nat.zero_le _) (Nat.le_refl _)⟩
  intro hlt
  have hlt := of_decide_eq_true hlt
  have hlt : i < l.length := by omega
  have hlt' : i + 1 ≤ l.length := hlt
  obtain ⟨v, rfl, hld⟩ := (hx.keep hk (Nat.le_refl _)).load (by omega)
  have ld : m.load (.ptr v i) 1 = some [.int .i64 l[i]] := by
    rw [hld i 1 (by omega), dropInt hlt]; rfl
  rw [List.drop_eq_getElem_cons hlt] at hco hgo
  generalize hp : l[i] = b at hco hgo ld
  apply EvX.skip
  simp only [Ex.thn]
  apply EvX.seq
  apply EvX.block
  apply EvX.seq
  apply EvX.seq
  by_cases b1 : b = a
  · have d1 : (b == a) = true := by simpa using b1
    have hyes : l.contains a = true := by rw [← hco]; simp [b1]
    have hins : insF a l = l := by unfold insF; rw [hyes]; rfl
    rw [hins]
    apply EvX.reg0
    · intro call
      simp only [QRun, stepA, wantedA, opA, pureA, loadA, effA, binA, bin, evalA, ofV, ofCell, Fr.put, enterA_n, enterA_t, setArgs, List.length_cons, List.length_nil, Tr.get_set, Nat.zero_testBit, cond_false, true_and, Nat.reduceAdd, Nat.reduceSub, ble_dec, beq_dec, Nat.reduceLeDiff, decide_true, decide_false, cond_true, Nat.reduceEqDiff, if_true, if_false, reduceIte, operands, Option.map_some, Option.map_none, CT_P, hfn, h0, h1, h5, h6, h7, natOf?, natOf_cast, hlt', ld, AV.cells, takeN, load_rp, Nat.zero_le, Nat.le_refl, Nat.zero_add, Nat.add_zero, Nat.mul_one, Nat.one_mul, Bool.not_false, Bool.not_true, List.getElem?_toArray, List.getElem?_cons_zero, List.getElem?_cons_succ, beq_self_eq_true, Bool.and_true, Bool.true_and, Bool.and_self, eq_self, show (true == false) = false from rfl, show (false == true) = false from rfl, show (false == false) = true from rfl, Tryz.underlying70, Tryz.underlying28, sl_t31, sl_t95, sz_3, sz_70, ag_3, ag_70, ze_70, ze_3, by_3, Tryz.underlying30, sz_30, ag_30, ze_30, sz_28, ag_28, d1]
      exact ⟨rfl, rfl⟩
    simp only [Ex.thn]
    apply EvX.cond2 (t := true)
    · simp only [evalA, Tr.get_set, Nat.reduceEqDiff, if_true, if_false, reduceIte]
    rotate_left
    · intro h; cases h
    intro _
    apply EvX.seq
    apply EvX.reg0
    · intro call
      simp only [QRun, stepA, wantedA, opA, pureA, loadA, effA, binA, bin, evalA, ofV, ofCell, Fr.put, enterA_n, enterA_t, setArgs, List.length_cons, List.length_nil, Tr.get_set, Nat.zero_testBit, cond_false, true_and, Nat.reduceAdd, Nat.reduceSub, ble_dec, beq_dec, Nat.reduceLeDiff, decide_true, decide_false, cond_true, Nat.reduceEqDiff, if_true, if_false, reduceIte, operands, Option.map_some, Option.map_none, CT_P, hfn, h0]
      exact ⟨rfl, rfl⟩
    simp only [Ex.thn]
    apply EvX.ret
    simp only [Ex.thn, Ex.blk]
    exact Fin.oneT (K := fun x' m' => WFm m' ∧ OwnS 0 m'.nxt m' x' 1 l.length (encInts l)) (x := .sl v 0 l.length 1) (t := 4) rfl (by simp only [Tr.get_set, if_true, if_false, reduceIte, Nat.reduceEqDiff]) ⟨hw, (hx.keep hk (Nat.le_refl _)).wide (Nat.le_refl _) hk.nxt⟩
  have d1 : (b == a) = false := by simpa using b1
  have hco' : (l.drop (i + 1)).contains a = l.contains a := by rw [← hco, List.contains_cons, show (a == b) = false by simpa using fun h => b1 h.symm, Bool.false_or]
  apply EvX.reg0
  · intro call
    simp only [QRun, stepA, wantedA, opA, pureA, loadA, effA, binA, bin, evalA, ofV, ofCell, Fr.put, enterA_n, enterA_t, setArgs, List.length_cons, List.length_nil, Tr.get_set, Nat.zero_testBit, cond_false, true_and, Nat.reduceAdd, Nat.reduceSub, ble_dec, beq_dec, Nat.reduceLeDiff, decide_true, decide_false, cond_true, Nat.reduceEqDiff, if_true, if_false, reduceIte, operands, Option.map_some, Option.map_none, CT_P, hfn, h0, h1, h5, h6, h7, natOf?, natOf_cast, hlt', ld, AV.cells, takeN, load_rp, Nat.zero_le, Nat.le_refl, Nat.zero_add, Nat.add_zero, Nat.mul_one, Nat.one_mul, Bool.not_false, Bool.not_true, List.getElem?_toArray, List.getElem?_cons_zero, List.getElem?_cons_succ, beq_self_eq_true, Bool.and_true, Bool.true_and, Bool.and_self, eq_self, show (true == false) = false from rfl, show (false == true) = false from rfl, show (false == false) = true from rfl, Tryz.underlying70, Tryz.underlying28, sl_t31, sl_t95, sz_3, sz_70, ag_3, ag_70, ze_70, ze_3, by_3, Tryz.underlying30, sz_30, ag_30, ze_30, sz_28, ag_28, d1]
    exact ⟨rfl, rfl⟩
  simp only [Ex.thn]
  apply EvX.cond2 (t := false)
  · simp only [evalA, Tr.get_set, Nat.reduceEqDiff, if_true, if_false, reduceIte]
  · intro h; cases h
  intro _
  apply EvX.skip
  simp only [Ex.thn, Ex.blk]
  apply EvX.seq
  apply EvX.seq
  cases dn with
  | true =>
    apply EvX.reg0
    · intro call
      simp only [QRun, stepA, wantedA, opA, pureA, loadA, effA, binA, bin, evalA, ofV, ofCell, Fr.put, enterA_n, enterA_t, setArgs, List.length_cons, List.length_nil, Tr.get_set, Nat.zero_testBit, cond_false, true_and, Nat.reduceAdd, Nat.reduceSub, ble_dec, beq_dec, Nat.reduceLeDiff, decide_true, decide_false, cond_true, Nat.reduceEqDiff, if_true, if_false, reduceIte, operands, Option.map_some, Option.map_none, CT_P, hfn, h0, h1, h5, h6, h7, natOf?, natOf_cast, hlt', ld, AV.cells, takeN, load_rp, Nat.zero_le, Nat.le_refl, Nat.zero_add, Nat.add_zero, Nat.mul_one, Nat.one_mul, Bool.not_false, Bool.not_true, List.getElem?_toArray, List.getElem?_cons_zero, List.getElem?_cons_succ, beq_self_eq_true, Bool.and_true, Bool.true_and, Bool.and_self, eq_self, show (true == false) = false from rfl, show (false == true) = false from rfl, show (false == false) = true from rfl, Tryz.underlying70, Tryz.underlying28, sl_t31, sl_t95, sz_3, sz_70, ag_3, ag_70, ze_70, ze_3, by_3, Tryz.underlying30, sz_30, ag_30, ze_30, sz_28, ag_28, d1, unA]
      exact ⟨rfl, rfl⟩
    simp only [Ex.thn]
    apply EvX.cond2 (t := false)
    · simp only [evalA, Tr.get_set, Nat.reduceEqDiff, if_true, if_false, reduceIte]
    · intro h; cases h
    intro _
    apply EvX.skip
    simp only [Ex.thn, Ex.blk]
    obtain ⟨y9, m9, a9, e9, w9, k9, o9, n9⟩ := append_lit (e := 3) (bytes := 8) hw ho (hk).nxt (cs := [.int .i64 b]) rfl rfl (by (try simp only [List.length_append, List.length_singleton]); omega) (by (try simp only [List.length_append, List.length_singleton]); omega)
    have o9' : OwnS m0.nxt m9.nxt m9 y9 1 (acc ++ [b]).length (encInts (acc ++ [b])) := by
      have e : encInts (acc) ++ [AV.int .i64 b] = encInts (acc ++ [b]) := by simp [encInts]
      rw [e] at o9; simpa using o9
    apply EvX.reg0
    · intro call
      simp only [QRun, stepA, wantedA, opA, pureA, loadA, effA, binA, bin, evalA, ofV, ofCell, Fr.put, enterA_n, enterA_t, setArgs, List.length_cons, List.length_nil, Tr.get_set, Nat.zero_testBit, cond_false, true_and, Nat.reduceAdd, Nat.reduceSub, ble_dec, beq_dec, Nat.reduceLeDiff, decide_true, decide_false, cond_true, Nat.reduceEqDiff, if_true, if_false, reduceIte, operands, Option.map_some, Option.map_none, CT_P, hfn, h0, h1, h7, natOf?, natOf_cast, hlt', a9, e9, h5, h6, ld, AV.cells, takeN, load_rp, Nat.zero_le, Nat.le_refl, Nat.zero_add, Nat.add_zero, Nat.mul_one, Nat.one_mul, Bool.not_false, Bool.not_true, List.getElem?_toArray, List.getElem?_cons_zero, List.getElem?_cons_succ, beq_self_eq_true, Bool.and_true, Bool.true_and, Bool.and_self, eq_self, show (true == false) = false from rfl, show (false == true) = false from rfl, show (false == false) = true from rfl, Tryz.underlying70, Tryz.underlying28, sl_t31, sl_t95, sz_3, sz_70, ag_3, ag_70, ze_70, ze_3, by_3, Tryz.underlying30, sz_30, ag_30, ze_30, sz_28, ag_28, partsA, fillA, putCells, replicateA, List.append_nil, List.nil_append, List.cons_append, Nat.reduceMul, allCells, AV.isCell]
      exact ⟨rfl, rfl⟩
    simp only [Ex.thn, Ex.blk]
    apply EvX.reg0
    · intro call
      simp only [QRun, stepA, wantedA, opA, pureA, loadA, effA, binA, bin, evalA, ofV, ofCell, Fr.put, enterA_n, enterA_t, setArgs, List.length_cons, List.length_nil, Tr.get_set, Nat.zero_testBit, cond_false, true_and, Nat.reduceAdd, Nat.reduceSub, ble_dec, beq_dec, Nat.reduceLeDiff, decide_true, decide_false, cond_true, Nat.reduceEqDiff, if_true, if_false, reduceIte, operands, Option.map_some, Option.map_none, CT_P, hfn, h7, wrap_succ (show i + 1 ≤ 9223372036854775807 by omega)]
      exact ⟨rfl, rfl⟩
    simp only [Ex.thn]
    refine ⟨l.length - (i + 1), by omega, i + 1, y9, acc ++ [b], true, rfl, hlt', trivial, ?_, ?_, ?_, ?_, ?_, w9, (hk).trans k9, o9', hco', by rw [← hgo]; simp, by simp; omega⟩
    · simp [Tr.get_set, h0]
    · simp [Tr.get_set, h1]
    · simp [Tr.get_set]
    · simp [Tr.get_set, h6]
    · simp [Tr.get_set]
  | false =>
    by_cases b2 : a < b
    · have d2 := decide_eq_true b2
      apply EvX.reg0
      · intro call
        simp only [QRun, stepA, wantedA, opA, pureA, loadA, effA, binA, bin, evalA, ofV, ofCell, Fr.put, enterA_n, enterA_t, setArgs, List.length_cons, List.length_nil, Tr.get_set, Nat.zero_testBit, cond_false, true_and, Nat.reduceAdd, Nat.reduceSub, ble_dec, beq_dec, Nat.reduceLeDiff, decide_true, decide_false, cond_true, Nat.reduceEqDiff, if_true, if_false, reduceIte, operands, Option.map_some, Option.map_none, CT_P, hfn, h0, h1, h5, h6, h7, natOf?, natOf_cast, hlt', ld, AV.cells, takeN, load_rp, Nat.zero_le, Nat.le_refl, Nat.zero_add, Nat.add_zero, Nat.mul_one, Nat.one_mul, Bool.not_false, Bool.not_true, List.getElem?_toArray, List.getElem?_cons_zero, List.getElem?_cons_succ, beq_self_eq_true, Bool.and_true, Bool.true_and, Bool.and_self, eq_self, show (true == false) = false from rfl, show (false == true) = false from rfl, show (false == false) = true from rfl, Tryz.underlying70, Tryz.underlying28, sl_t31, sl_t95, sz_3, sz_70, ag_3, ag_70, ze_70, ze_3, by_3, Tryz.underlying30, sz_30, ag_30, ze_30, sz_28, ag_28, d1, d2, unA]
        exact ⟨rfl, rfl⟩
      simp only [Ex.thn]
      apply EvX.cond2 (t := true)
      · simp only [evalA, Tr.get_set, Nat.reduceEqDiff, if_true, if_false, reduceIte]
      rotate_left
      · intro h; cases h
      intro _
      apply EvX.seq
      obtain ⟨y8, m8, a8, e8, w8, k8, o8, n8⟩ := append_lit (e := 3) (bytes := 8) hw ho hk.nxt (cs := [.int .i64 a]) rfl rfl (by omega) (by omega)
      have o8' : OwnS m0.nxt m8.nxt m8 y8 1 (acc ++ [a]).length (encInts (acc ++ [a])) := by
        have e : encInts acc ++ [AV.int .i64 a] = encInts (acc ++ [a]) := by simp [encInts]
        rw [e] at o8; simpa using o8
      have k8' := hk.trans k8
      obtain ⟨v', e', hld'⟩ := (hx.keep k8' (Nat.le_refl _)).load (by omega)
      cases e'
      have ldn : m8.load (.ptr v i) 1 = some [.int .i64 b] := by
        rw [hld' i 1 (by omega), dropInt hlt, hp]; rfl
      apply EvX.reg0
      · intro call
        simp only [QRun, stepA, wantedA, opA, pureA, loadA, effA, binA, bin, evalA, ofV, ofCell, Fr.put, enterA_n, enterA_t, setArgs, List.length_cons, List.length_nil, Tr.get_set, Nat.zero_testBit, cond_false, true_and, Nat.reduceAdd, Nat.reduceSub, ble_dec, beq_dec, Nat.reduceLeDiff, decide_true, decide_false, cond_true, Nat.reduceEqDiff, if_true, if_false, reduceIte, operands, Option.map_some, Option.map_none, CT_P, hfn, h0, h1, h5, h6, h7, natOf?, natOf_cast, hlt', ld, AV.cells, takeN, load_rp, Nat.zero_le, Nat.le_refl, Nat.zero_add, Nat.add_zero, Nat.mul_one, Nat.one_mul, Bool.not_false, Bool.not_true, List.getElem?_toArray, List.getElem?_cons_zero, List.getElem?_cons_succ, beq_self_eq_true, Bool.and_true, Bool.true_and, Bool.and_self, eq_self, show (true == false) = false from rfl, show (false == true) = false from rfl, show (false == false) = true from rfl, Tryz.underlying70, Tryz.underlying28, sl_t31, sl_t95, sz_3, sz_70, ag_3, ag_70, ze_70, ze_3, by_3, Tryz.underlying30, sz_30, ag_30, ze_30, sz_28, ag_28, a8, e8, partsA, fillA, putCells, replicateA, List.append_nil, List.nil_append, List.cons_append, Nat.reduceMul, allCells, AV.isCell]
        exact ⟨rfl, rfl⟩
      simp only [Ex.thn]
      apply EvX.reg0
      · intro call
        simp only [QRun, stepA, wantedA, opA, pureA, loadA, effA, binA, bin, evalA, ofV, ofCell, Fr.put, enterA_n, enterA_t, setArgs, List.length_cons, List.length_nil, Tr.get_set, Nat.zero_testBit, cond_false, true_and, Nat.reduceAdd, Nat.reduceSub, ble_dec, beq_dec, Nat.reduceLeDiff, decide_true, decide_false, cond_true, Nat.reduceEqDiff, if_true, if_false, reduceIte, operands, Option.map_some, Option.map_none, CT_P, hfn]
        exact ⟨rfl, rfl⟩
      simp only [Ex.thn]
      obtain ⟨y9, m9, a9, e9, w9, k9, o9, n9⟩ := append_lit (e := 3) (bytes := 8) w8 o8' (k8').nxt (cs := [.int .i64 b]) rfl rfl (by (try simp only [List.length_append, List.length_singleton]); omega) (by (try simp only [List.length_append, List.length_singleton]); omega)
      have o9' : OwnS m0.nxt m9.nxt m9 y9 1 ((acc ++ [a]) ++ [b]).length (encInts ((acc ++ [a]) ++ [b])) := by
        have e : encInts ((acc ++ [a])) ++ [AV.int .i64 b] = encInts ((acc ++ [a]) ++ [b]) := by simp [encInts]
        rw [e] at o9; simpa using o9
      apply EvX.reg0
      · intro call
        simp only [QRun, stepA, wantedA, opA, pureA, loadA, effA, binA, bin, evalA, ofV, ofCell, Fr.put, enterA_n, enterA_t, setArgs, List.length_cons, List.length_nil, Tr.get_set, Nat.zero_testBit, cond_false, true_and, Nat.reduceAdd, Nat.reduceSub, ble_dec, beq_dec, Nat.reduceLeDiff, decide_true, decide_false, cond_true, Nat.reduceEqDiff, if_true, if_false, reduceIte, operands, Option.map_some, Option.map_none, CT_P, hfn, h0, h1, h7, natOf?, natOf_cast, hlt', a9, e9, ldn, AV.cells, takeN, load_rp, Nat.zero_le, Nat.le_refl, Nat.zero_add, Nat.add_zero, Nat.mul_one, Nat.one_mul, Bool.not_false, Bool.not_true, List.getElem?_toArray, List.getElem?_cons_zero, List.getElem?_cons_succ, beq_self_eq_true, Bool.and_true, Bool.true_and, Bool.and_self, eq_self, show (true == false) = false from rfl, show (false == true) = false from rfl, show (false == false) = true from rfl, Tryz.underlying70, Tryz.underlying28, sl_t31, sl_t95, sz_3, sz_70, ag_3, ag_70, ze_70, ze_3, by_3, Tryz.underlying30, sz_30, ag_30, ze_30, sz_28, ag_28, partsA, fillA, putCells, replicateA, List.append_nil, List.nil_append, List.cons_append, Nat.reduceMul, allCells, AV.isCell]
        exact ⟨rfl, rfl⟩
      simp only [Ex.thn, Ex.blk]
      apply EvX.reg0
      · intro call
        simp only [QRun, stepA, wantedA, opA, pureA, loadA, effA, binA, bin, evalA, ofV, ofCell, Fr.put, enterA_n, enterA_t, setArgs, List.length_cons, List.length_nil, Tr.get_set, Nat.zero_testBit, cond_false, true_and, Nat.reduceAdd, Nat.reduceSub, ble_dec, beq_dec, Nat.reduceLeDiff, decide_true, decide_false, cond_true, Nat.reduceEqDiff, if_true, if_false, reduceIte, operands, Option.map_some, Option.map_none, CT_P, hfn, h7, wrap_succ (show i + 1 ≤ 9223372036854775807 by omega)]
        exact ⟨rfl, rfl⟩
      simp only [Ex.thn]
      refine ⟨l.length - (i + 1), by omega, i + 1, y9, (acc ++ [a]) ++ [b], true, rfl, hlt', trivial, ?_, ?_, ?_, ?_, ?_, w9, (k8').trans k9, o9', hco', by rw [← hgo]; simp [insN, b2], by simp; omega⟩
      · simp [Tr.get_set, h0]
      · simp [Tr.get_set, h1]
      · simp [Tr.get_set]
      · simp [Tr.get_set, h6]
      · simp [Tr.get_set]
    · have d2 := decide_eq_false b2
      apply EvX.reg0
      · intro call
        simp only [QRun, stepA, wantedA, opA, pureA, loadA, effA, binA, bin, evalA, ofV, ofCell, Fr.put, enterA_n, enterA_t, setArgs, List.length_cons, List.length_nil, Tr.get_set, Nat.zero_testBit, cond_false, true_and, Nat.reduceAdd, Nat.reduceSub, ble_dec, beq_dec, Nat.reduceLeDiff, decide_true, decide_false, cond_true, Nat.reduceEqDiff, if_true, if_false, reduceIte, operands, Option.map_some, Option.map_none, CT_P, hfn, h0, h1, h5, h6, h7, natOf?, natOf_cast, hlt', ld, AV.cells, takeN, load_rp, Nat.zero_le, Nat.le_refl, Nat.zero_add, Nat.add_zero, Nat.mul_one, Nat.one_mul, Bool.not_false, Bool.not_true, List.getElem?_toArray, List.getElem?_cons_zero, List.getElem?_cons_succ, beq_self_eq_true, Bool.and_true, Bool.true_and, Bool.and_self, eq_self, show (true == false) = false from rfl, show (false == true) = false from rfl, show (false == false) = true from rfl, Tryz.underlying70, Tryz.underlying28, sl_t31, sl_t95, sz_3, sz_70, ag_3, ag_70, ze_70, ze_3, by_3, Tryz.underlying30, sz_30, ag_30, ze_30, sz_28, ag_28, d1, d2, unA]
        exact ⟨rfl, rfl⟩
      simp only [Ex.thn]
      apply EvX.cond2 (t := false)
      · simp only [evalA, Tr.get_set, Nat.reduceEqDiff, if_true, if_false, reduceIte]
      · intro h; cases h
      intro _
      apply EvX.skip
      simp only [Ex.thn, Ex.blk]
      obtain ⟨y9, m9, a9, e9, w9, k9, o9, n9⟩ := append_lit (e := 3) (bytes := 8) hw ho (hk).nxt (cs := [.int .i64 b]) rfl rfl (by (try simp only [List.length_append, List.length_singleton]); omega) (by (try simp only [List.length_append, List.length_singleton]); omega)
      have o9' : OwnS m0.nxt m9.nxt m9 y9 1 (acc ++ [b]).length (encInts (acc ++ [b])) := by
        have e : encInts (acc) ++ [AV.int .i64 b] = encInts (acc ++ [b]) := by simp [encInts]
        rw [e] at o9; simpa using o9
      apply EvX.reg0
      · intro call
        simp only [QRun, stepA, wantedA, opA, pureA, loadA, effA, binA, bin, evalA, ofV, ofCell, Fr.put, enterA_n, enterA_t, setArgs, List.length_cons, List.length_nil, Tr.get_set, Nat.zero_testBit, cond_false, true_and, Nat.reduceAdd, Nat.reduceSub, ble_dec, beq_dec, Nat.reduceLeDiff, decide_true, decide_false, cond_true, Nat.reduceEqDiff, if_true, if_false, reduceIte, operands, Option.map_some, Option.map_none, CT_P, hfn, h0, h1, h7, natOf?, natOf_cast, hlt', a9, e9, h5, h6, ld, AV.cells, takeN, load_rp, Nat.zero_le, Nat.le_refl, Nat.zero_add, Nat.add_zero, Nat.mul_one, Nat.one_mul, Bool.not_false, Bool.not_true, List.getElem?_toArray, List.getElem?_cons_zero, List.getElem?_cons_succ, beq_self_eq_true, Bool.and_true, Bool.true_and, Bool.and_self, eq_self, show (true == false) = false from rfl, show (false == true) = false from rfl, show (false == false) = true from rfl, Tryz.underlying70, Tryz.underlying28, sl_t31, sl_t95, sz_3, sz_70, ag_3, ag_70, ze_70, ze_3, by_3, Tryz.underlying30, sz_30, ag_30, ze_30, sz_28, ag_28, partsA, fillA, putCells, replicateA, List.append_nil, List.nil_append, List.cons_append, Nat.reduceMul, allCells, AV.isCell]
        exact ⟨rfl, rfl⟩
      simp only [Ex.thn, Ex.blk]
      apply EvX.reg0
      · intro call
        simp only [QRun, stepA, wantedA, opA, pureA, loadA, effA, binA, bin, evalA, ofV, ofCell, Fr.put, enterA_n, enterA_t, setArgs, List.length_cons, List.length_nil, Tr.get_set, Nat.zero_testBit, cond_false, true_and, Nat.reduceAdd, Nat.reduceSub, ble_dec, beq_dec, Nat.reduceLeDiff, decide_true, decide_false, cond_true, Nat.reduceEqDiff, if_true, if_false, reduceIte, operands, Option.map_some, Option.map_none, CT_P, hfn, h7, wrap_succ (show i + 1 ≤ 9223372036854775807 by omega)]
        exact ⟨rfl, rfl⟩
      simp only [Ex.thn]
      refine ⟨l.length - (i + 1), by omega, i + 1, y9, acc ++ [b], false, rfl, hlt', trivial, ?_, ?_, ?_, ?_, ?_, w9, (hk).trans k9, o9', hco', by rw [← hgo]; simp [insN, b2], by simp; omega⟩
      · simp [Tr.get_set, h0]
      · simp [Tr.get_set, h1]
      · simp [Tr.get_set]
      · simp [Tr.get_set, h6]
      · simp [Tr.get_set]
/-! ### Apply -/
def goR (l : List Int) : List Int → List (Int × Int) → List Int
  | acc, [] => acc
  | acc, p :: f => if p.2 ≠ 0 ∧ (p.1 = 0 ∨ l.contains p.1 = true) then goR l (insF p.2 acc) f else goR l acc f
def applyR (f : List (Int × Int)) (l : List Int) : List Int := goR l [] f
def specApplyR : List AV → Option AV
  | [x, y] => match ipr x, isl y with
    | some f, some l => bif Nat.ble f.length 1000 && Nat.ble l.length 1000 then some (slI (applyR f l)) else none
    | _, _ => none
  | _ => none
theorem specApplyR_some {args : List AV} {z : AV} (h : specApplyR args = some z) : ∃ x y f l, args = [x, y] ∧ ipr x = some f ∧ isl y = some l ∧ z = slI (applyR f l) ∧ f.length ≤ 1000 ∧ l.length ≤ 1000 := by
  unfold specApplyR at h
  split at h
  · rename_i x y
    split at h
    · rename_i f l hf hl
      cases hb : Nat.ble f.length 1000 && Nat.ble l.length 1000 with
      | false => simp [hb] at h
      | true =>
        simp only [hb, cond_true, Option.some.injEq] at h
        rw [Bool.and_eq_true_iff] at hb
        exact ⟨x, y, f, l, rfl, hf, hl, h.symm, Nat.le_of_ble_eq_true hb.1, Nat.le_of_ble_eq_true hb.2⟩
    · cases h
  · cases h
theorem insN_length (a : Int) : ∀ l : List Int, (insN a l).length = l.length + 1
  | [] => rfl
  | b :: l => by
    unfold insN
    split
    · rfl
    · simp only [List.length_cons, insN_length a l]
theorem insF_length (a : Int) (l : List Int) : (insF a l).length ≤ l.length + 1 := by
  unfold insF
  split
  · omega
  · rw [insN_length]; omega
def p37 : PFn := ⟨37, specApplyR⟩
theorem cl_68 (args : List AV) : calleeA Tryz.prog (.fn (.func 68) [] []) args = some (.enter 68 args) := by rw [callee_of Tryz.func68 (by kernel_rfl) (by kernel_rfl)]; simp
theorem cl_71 (args : List AV) : calleeA Tryz.prog (.fn (.func 71) [] []) args = some (.enter 71 args) := by rw [callee_of Tryz.func71 (by kernel_rfl) (by kernel_rfl)]; simp
theorem p37_ok : p37.OkT := by
  refine PFn.OkT.of (qs := []) (ps := [p68]) (fun q h => by cases h) (fun p h => by simp at h; subst h; exact p68_ok.tree) (fun args y hs => ?_)
  obtain ⟨x0, x1, f, l, rfl, hf, hl, rfl, hfl, hll⟩ := specApplyR_some hs
  clear hs
  refine EvC.runT (K := fun x m' => treeA 8 m' x = some (slI (applyR f l))) (by kernel_rfl) (by rw [CT_P]; exact Tryz.func37) rfl ?_
  apply EvX.seq
  apply EvX.reg0
  · intro call
    simp only [QRun, stepA, wantedA, opA, pureA, loadA, effA, binA, bin, evalA, ofV, ofCell, Fr.put, enterA_n, enterA_t, setArgs, List.length_cons, List.length_nil, Tr.get_set, Nat.zero_testBit, cond_false, true_and, Nat.reduceAdd, Nat.reduceSub, ble_dec, beq_dec, Nat.reduceLeDiff, decide_true, decide_false, cond_true, Nat.reduceEqDiff, if_true, if_false, reduceIte, operands, Option.map_some, Option.map_none, CT_P, Tryz.ntmps37]
    exact ⟨rfl, rfl⟩
  simp only [Ex.thn]
  apply EvX.seq
  apply EvX.reg0
  · intro call
    simp only [QRun, stepA, wantedA, opA, pureA, loadA, effA, binA, bin, evalA, ofV, ofCell, Fr.put, enterA_n, enterA_t, setArgs, List.length_cons, List.length_nil, Tr.get_set, Nat.zero_testBit, cond_false, true_and, Nat.reduceAdd, Nat.reduceSub, ble_dec, beq_dec, Nat.reduceLeDiff, decide_true, decide_false, cond_true, Nat.reduceEqDiff, if_true, if_false, reduceIte, operands, Option.map_some, Option.map_none, CT_P]
    exact ⟨rfl, rfl⟩
  simp only [Ex.thn]
  apply EvX.seq
  apply EvX.seq
  apply EvX.reg0
  · intro call
    simp only [QRun, stepA, wantedA, opA, pureA, loadA, effA, binA, bin, evalA, ofV, ofCell, Fr.put, enterA_n, enterA_t, setArgs, List.length_cons, List.length_nil, Tr.get_set, Nat.zero_testBit, cond_false, true_and, Nat.reduceAdd, Nat.reduceSub, ble_dec, beq_dec, Nat.reduceLeDiff, decide_true, decide_false, cond_true, Nat.reduceEqDiff, if_true, if_false, reduceIte, operands, Option.map_some, Option.map_none, CT_P]
    exact ⟨rfl, rfl⟩
  simp only [Ex.thn]
  apply EvX.block
  refine EvX.loop (fun k fr m => ∃ (i : Nat) (y : AV) (acc : List Int), k = f.length - i ∧ i ≤ f.length ∧ fr.n = 44 ∧ fr.t.get 0 = some x0 ∧ fr.t.get 1 = some x1 ∧ fr.t.get 5 = some y ∧ fr.t.get 6 = some (.int .i64 (i : Int)) ∧
    WFm m ∧ OwnS 0 m.nxt m y 1 acc.length (encInts acc) ∧ goR l acc (f.drop i) = applyR f l ∧ acc.length ≤ i) ?_ f.length _ _
    ⟨0, .nilsl, [], by simp, by simp, rfl, by simp [Tr.get_set], by simp [Tr.get_set], by simp [Tr.get_set], by simp [Tr.get_set], WFm.empty, .inl ⟨rfl, rfl, rfl⟩, rfl, Nat.le_refl _⟩
  rintro k fr m ⟨i, y, acc, rfl, hil, hfn, h0, h1, h5, h6, hw, ho, hgo, hacc⟩
  apply EvX.seq
  apply EvX.seq
  apply EvX.reg0
  · intro call
    simp only [QRun, stepA, wantedA, opA, pureA, loadA, effA, binA, bin, evalA, ofV, ofCell, Fr.put, enterA_n, enterA_t, setArgs, List.length_cons, List.length_nil, Tr.get_set, Nat.zero_testBit, cond_false, true_and, Nat.reduceAdd, Nat.reduceSub, ble_dec, beq_dec, Nat.reduceLeDiff, decide_true, decide_false, cond_true, Nat.reduceEqDiff, if_true, if_false, reduceIte, operands, Option.map_some, Option.map_none, CT_P, hfn, h0, h6, ipr_len hf sl_t95, AV.cells, takeN, load_rp, Nat.zero_le, Nat.le_refl, Nat.zero_add, Nat.add_zero, Nat.mul_one, Nat.one_mul, Bool.not_false, Bool.not_true, List.getElem?_toArray, List.getElem?_cons_zero, List.getElem?_cons_succ, beq_self_eq_true, Bool.and_true, Bool.true_and, Bool.and_self, eq_self, show (true == false) = false from rfl, show (false == true) = false from rfl, show (false == false) = true from rfl, Tryz.underlying70, Tryz.underlying28, sl_t31, sl_t95, sz_3, sz_70, ag_3, ag_70, ze_70, ze_3, by_3, Tryz.underlying30, sz_30, ag_30, ze_30, sz_28, ag_28]
    exact ⟨rfl, rfl⟩
  simp only [Ex.thn]
  apply EvX.cond2
  · simp only [evalA, Tr.get_set, Nat.reduceEqDiff, if_true, if_false, reduceIte]; exact rfl
  rotate_left
  · intro hge
    have hge := of_decide_eq_false hge
    have hi : i = f.length := by omega
    subst hi
    rw [List.drop_length] at hgo
    have hgo : acc = applyR f l := hgo
    subst hgo
    apply EvX.exit
    simp only [Ex.thn, Ex.blk, beq_dec, decide_true, cond_true]
    apply EvX.seq
    apply EvX.reg0
    · intro call
      simp only [QRun, stepA, wantedA, opA, pureA, loadA, effA, binA, bin, evalA, ofV, ofCell, Fr.put, enterA_n, enterA_t, setArgs, List.length_cons, List.length_nil, Tr.get_set, Nat.zero_testBit, cond_false, true_and, Nat.reduceAdd, Nat.reduceSub, ble_dec, beq_dec, Nat.reduceLeDiff, decide_true, decide_false, cond_true, Nat.reduceEqDiff, if_true, if_false, reduceIte, operands, Option.map_some, Option.map_none, CT_P, hfn, h5]
      exact ⟨rfl, rfl⟩
    simp only [Ex.thn]
    apply EvX.ret
    exact Fin.oneT (K := fun x m' => treeA 8 m' x = some (slI (applyR f l))) (x := y) (t := 4) rfl (by simp only [Tr.get_set, if_true, if_false, reduceIte, Nat.reduceEqDiff]) ho.ints
  intro hlt
  have hlt := of_decide_eq_true hlt
  have hlt : i < f.length := by omega
  have hlt' : i + 1 ≤ f.length := hlt
  have hmul : i * 2 ≤ f.length * 2 := by omega
  have hx0 := ipr_at hf hlt
  have h0' := h0
  rw [hx0] at h0'
  have hdr := dropPair hlt
  rw [List.drop_eq_getElem_cons hlt] at hgo
  generalize hp : f[i] = p at hgo hdr
  have c68 := fun k => callTp (qs := []) (ps := [p68]) (p := p68) (f := 68) rfl (D := drawA (CT [] [p68])) k m (by simp only [mapO, isl_view hl 6, view_int] : mapO (viewA 8 m) [x1, .int .i64 p.1] = some [x1, .int .i64 p.1]) (spec68 hl (by omega) p.1) rfl
  obtain ⟨y', m', ⟨w', o'⟩, N, hN⟩ := withFact (qs := []) (ps := [p68]) (by kernel_rfl) hw ho (by omega) p.2
  have hil' := insF_length p.2 acc
  apply EvX.skip
  simp only [Ex.thn]
  apply EvX.seq
  apply EvX.block
  apply EvX.seq
  by_cases b1 : p.2 = 0
  · have d1 : (p.2 != 0) = false := by simpa using b1
    have d1' : (p.2 == 0) = true := by simpa using b1
    apply EvX.reg0
    · intro call
      simp only [QRun, stepA, wantedA, opA, pureA, loadA, effA, binA, bin, evalA, ofV, ofCell, Fr.put, enterA_n, enterA_t, setArgs, List.length_cons, List.length_nil, Tr.get_set, Nat.zero_testBit, cond_false, true_and, Nat.reduceAdd, Nat.reduceSub, ble_dec, beq_dec, Nat.reduceLeDiff, decide_true, decide_false, cond_true, Nat.reduceEqDiff, if_true, if_false, reduceIte, operands, Option.map_some, Option.map_none, CT_P, hfn, h0', h1, h5, h6, natOf?, natOf_cast, hlt', hmul, encPairs_length, hdr, List.drop_zero, List.drop_succ_cons, List.length_cons, takeN, Option.map_some, Nat.le_add_left, Nat.zero_le, AV.cells, takeN, load_rp, Nat.zero_le, Nat.le_refl, Nat.zero_add, Nat.add_zero, Nat.mul_one, Nat.one_mul, Bool.not_false, Bool.not_true, List.getElem?_toArray, List.getElem?_cons_zero, List.getElem?_cons_succ, beq_self_eq_true, Bool.and_true, Bool.true_and, Bool.and_self, eq_self, show (true == false) = false from rfl, show (false == true) = false from rfl, show (false == false) = true from rfl, Tryz.underlying70, Tryz.underlying28, sl_t31, sl_t95, sz_3, sz_70, ag_3, ag_70, ze_70, ze_3, by_3, Tryz.underlying30, sz_30, ag_30, ze_30, sz_28, ag_28, d1, d1', bne]
      exact ⟨rfl, rfl⟩
    simp only [Ex.thn]
    apply EvX.cond2 (t := false)
    · simp only [evalA, Tr.get_set, Nat.reduceEqDiff, if_true, if_false, reduceIte]
    · intro h; cases h
    intro _
    apply EvX.skip
    simp only [Ex.thn, Ex.blk]
    apply EvX.reg0
    · intro call
      simp only [QRun, stepA, wantedA, opA, pureA, loadA, effA, binA, bin, evalA, ofV, ofCell, Fr.put, enterA_n, enterA_t, setArgs, List.length_cons, List.length_nil, Tr.get_set, Nat.zero_testBit, cond_false, true_and, Nat.reduceAdd, Nat.reduceSub, ble_dec, beq_dec, Nat.reduceLeDiff, decide_true, decide_false, cond_true, Nat.reduceEqDiff, if_true, if_false, reduceIte, operands, Option.map_some, Option.map_none, CT_P, hfn, h6, wrap_succ (show i + 1 ≤ 9223372036854775807 by omega)]
      exact ⟨rfl, rfl⟩
    simp only [Ex.thn]
    refine ⟨f.length - (i + 1), by omega, i + 1, y, acc, rfl, hlt', trivial, ?_, ?_, ?_, ?_, hw, ho, by rw [← hgo]; simp only [goR]; rw [if_neg (fun h => h.1 b1)], by omega⟩
    · simp [Tr.get_set, h0]
    · simp [Tr.get_set, h1]
    · simp [Tr.get_set, h5]
    · simp [Tr.get_set]
  have d1 : (p.2 != 0) = true := by simpa using b1
  have d1' : (p.2 == 0) = false := by simpa using b1
  by_cases b2 : p.1 = 0
  · have d2 : (p.1 == 0) = true := by simpa using b2
    apply EvX.reg0
    · intro call
      simp only [QRun, stepA, wantedA, opA, pureA, loadA, effA, binA, bin, evalA, ofV, ofCell, Fr.put, enterA_n, enterA_t, setArgs, List.length_cons, List.length_nil, Tr.get_set, Nat.zero_testBit, cond_false, true_and, Nat.reduceAdd, Nat.reduceSub, ble_dec, beq_dec, Nat.reduceLeDiff, decide_true, decide_false, cond_true, Nat.reduceEqDiff, if_true, if_false, reduceIte, operands, Option.map_some, Option.map_none, CT_P, hfn, h0', h1, h5, h6, natOf?, natOf_cast, hlt', hmul, encPairs_length, hdr, List.drop_zero, List.drop_succ_cons, List.length_cons, takeN, Option.map_some, Nat.le_add_left, Nat.zero_le, AV.cells, takeN, load_rp, Nat.zero_le, Nat.le_refl, Nat.zero_add, Nat.add_zero, Nat.mul_one, Nat.one_mul, Bool.not_false, Bool.not_true, List.getElem?_toArray, List.getElem?_cons_zero, List.getElem?_cons_succ, beq_self_eq_true, Bool.and_true, Bool.true_and, Bool.and_self, eq_self, show (true == false) = false from rfl, show (false == true) = false from rfl, show (false == false) = true from rfl, Tryz.underlying70, Tryz.underlying28, sl_t31, sl_t95, sz_3, sz_70, ag_3, ag_70, ze_70, ze_3, by_3, Tryz.underlying30, sz_30, ag_30, ze_30, sz_28, ag_28, d1, d1', bne, d2]
      exact ⟨rfl, rfl⟩
    simp only [Ex.thn]
    apply EvX.cond2 (t := true)
    · simp only [evalA, Tr.get_set, Nat.reduceEqDiff, if_true, if_false, reduceIte]
    rotate_left
    · intro h; cases h
    intro _
    apply EvX.reg N
    · intro k hk
      simp only [QRun, stepA, wantedA, opA, pureA, loadA, effA, binA, bin, evalA, ofV, ofCell, Fr.put, enterA_n, enterA_t, setArgs, List.length_cons, List.length_nil, Tr.get_set, Nat.zero_testBit, cond_false, true_and, Nat.reduceAdd, Nat.reduceSub, ble_dec, beq_dec, Nat.reduceLeDiff, decide_true, decide_false, cond_true, Nat.reduceEqDiff, if_true, if_false, reduceIte, operands, Option.map_some, Option.map_none, CT_P, hfn, h0', h1, h5, h6, natOf?, natOf_cast, hlt', hmul, encPairs_length, hdr, List.drop_zero, List.drop_succ_cons, List.length_cons, takeN, Option.map_some, Nat.le_add_left, Nat.zero_le, AV.cells, takeN, load_rp, Nat.zero_le, Nat.le_refl, Nat.zero_add, Nat.add_zero, Nat.mul_one, Nat.one_mul, Bool.not_false, Bool.not_true, List.getElem?_toArray, List.getElem?_cons_zero, List.getElem?_cons_succ, beq_self_eq_true, Bool.and_true, Bool.true_and, Bool.and_self, eq_self, show (true == false) = false from rfl, show (false == true) = false from rfl, show (false == false) = true from rfl, Tryz.underlying70, Tryz.underlying28, sl_t31, sl_t95, sz_3, sz_70, ag_3, ag_70, ze_70, ze_3, by_3, Tryz.underlying30, sz_30, ag_30, ze_30, sz_28, ag_28, cl_71, hN k hk]
      exact ⟨rfl, rfl⟩
    simp only [Ex.thn, Ex.blk]
    apply EvX.reg0
    · intro call
      simp only [QRun, stepA, wantedA, opA, pureA, loadA, effA, binA, bin, evalA, ofV, ofCell, Fr.put, enterA_n, enterA_t, setArgs, List.length_cons, List.length_nil, Tr.get_set, Nat.zero_testBit, cond_false, true_and, Nat.reduceAdd, Nat.reduceSub, ble_dec, beq_dec, Nat.reduceLeDiff, decide_true, decide_false, cond_true, Nat.reduceEqDiff, if_true, if_false, reduceIte, operands, Option.map_some, Option.map_none, CT_P, hfn, h6, wrap_succ (show i + 1 ≤ 9223372036854775807 by omega)]
      exact ⟨rfl, rfl⟩
    simp only [Ex.thn]
    refine ⟨f.length - (i + 1), by omega, i + 1, y', insF p.2 acc, rfl, hlt', trivial, ?_, ?_, ?_, ?_, w', o', by rw [← hgo]; simp only [goR]; rw [if_pos (⟨b1, .inl b2⟩)], by omega⟩
    · simp [Tr.get_set, h0]
    · simp [Tr.get_set, h1]
    · simp [Tr.get_set]
    · simp [Tr.get_set]
  have d2 : (p.1 == 0) = false := by simpa using b2
  cases b3 : l.contains p.1 with
  | true =>
    apply EvX.reg 0
    · intro k _
      simp only [QRun, stepA, wantedA, opA, pureA, loadA, effA, binA, bin, evalA, ofV, ofCell, Fr.put, enterA_n, enterA_t, setArgs, List.length_cons, List.length_nil, Tr.get_set, Nat.zero_testBit, cond_false, true_and, Nat.reduceAdd, Nat.reduceSub, ble_dec, beq_dec, Nat.reduceLeDiff, decide_true, decide_false, cond_true, Nat.reduceEqDiff, if_true, if_false, reduceIte, operands, Option.map_some, Option.map_none, CT_P, hfn, h0', h1, h5, h6, natOf?, natOf_cast, hlt', hmul, encPairs_length, hdr, List.drop_zero, List.drop_succ_cons, List.length_cons, takeN, Option.map_some, Nat.le_add_left, Nat.zero_le, AV.cells, takeN, load_rp, Nat.zero_le, Nat.le_refl, Nat.zero_add, Nat.add_zero, Nat.mul_one, Nat.one_mul, Bool.not_false, Bool.not_true, List.getElem?_toArray, List.getElem?_cons_zero, List.getElem?_cons_succ, beq_self_eq_true, Bool.and_true, Bool.true_and, Bool.and_self, eq_self, show (true == false) = false from rfl, show (false == true) = false from rfl, show (false == false) = true from rfl, Tryz.underlying70, Tryz.underlying28, sl_t31, sl_t95, sz_3, sz_70, ag_3, ag_70, ze_70, ze_3, by_3, Tryz.underlying30, sz_30, ag_30, ze_30, sz_28, ag_28, d1, d1', bne, d2, cl_68, c68, b3]
      exact ⟨rfl, rfl⟩
    simp only [Ex.thn]
    apply EvX.cond2 (t := true)
    · simp only [evalA, Tr.get_set, Nat.reduceEqDiff, if_true, if_false, reduceIte]
    rotate_left
    · intro h; cases h
    intro _
    apply EvX.reg N
    · intro k hk
      simp only [QRun, stepA, wantedA, opA, pureA, loadA, effA, binA, bin, evalA, ofV, ofCell, Fr.put, enterA_n, enterA_t, setArgs, List.length_cons, List.length_nil, Tr.get_set, Nat.zero_testBit, cond_false, true_and, Nat.reduceAdd, Nat.reduceSub, ble_dec, beq_dec, Nat.reduceLeDiff, decide_true, decide_false, cond_true, Nat.reduceEqDiff, if_true, if_false, reduceIte, operands, Option.map_some, Option.map_none, CT_P, hfn, h0', h1, h5, h6, natOf?, natOf_cast, hlt', hmul, encPairs_length, hdr, List.drop_zero, List.drop_succ_cons, List.length_cons, takeN, Option.map_some, Nat.le_add_left, Nat.zero_le, AV.cells, takeN, load_rp, Nat.zero_le, Nat.le_refl, Nat.zero_add, Nat.add_zero, Nat.mul_one, Nat.one_mul, Bool.not_false, Bool.not_true, List.getElem?_toArray, List.getElem?_cons_zero, List.getElem?_cons_succ, beq_self_eq_true, Bool.and_true, Bool.true_and, Bool.and_self, eq_self, show (true == false) = false from rfl, show (false == true) = false from rfl, show (false == false) = true from rfl, Tryz.underlying70, Tryz.underlying28, sl_t31, sl_t95, sz_3, sz_70, ag_3, ag_70, ze_70, ze_3, by_3, Tryz.underlying30, sz_30, ag_30, ze_30, sz_28, ag_28, cl_71, hN k hk]
      exact ⟨rfl, rfl⟩
    simp only [Ex.thn, Ex.blk]
    apply EvX.reg0
    · intro call
      simp only [QRun, stepA, wantedA, opA, pureA, loadA, effA, binA, bin, evalA, ofV, ofCell, Fr.put, enterA_n, enterA_t, setArgs, List.length_cons, List.length_nil, Tr.get_set, Nat.zero_testBit, cond_false, true_and, Nat.reduceAdd, Nat.reduceSub, ble_dec, beq_dec, Nat.reduceLeDiff, decide_true, decide_false, cond_true, Nat.reduceEqDiff, if_true, if_false, reduceIte, operands, Option.map_some, Option.map_none, CT_P, hfn, h6, wrap_succ (show i + 1 ≤ 9223372036854775807 by omega)]
      exact ⟨rfl, rfl⟩
    simp only [Ex.thn]
    refine ⟨f.length - (i + 1), by omega, i + 1, y', insF p.2 acc, rfl, hlt', trivial, ?_, ?_, ?_, ?_, w', o', by rw [← hgo]; simp only [goR]; rw [if_pos (⟨b1, .inr b3⟩)], by omega⟩
    · simp [Tr.get_set, h0]
    · simp [Tr.get_set, h1]
    · simp [Tr.get_set]
    · simp [Tr.get_set]
  | false =>
    apply EvX.reg 0
    · intro k _
      simp only [QRun, stepA, wantedA, opA, pureA, loadA, effA, binA, bin, evalA, ofV, ofCell, Fr.put, enterA_n, enterA_t, setArgs, List.length_cons, List.length_nil, Tr.get_set, Nat.zero_testBit, cond_false, true_and, Nat.reduceAdd, Nat.reduceSub, ble_dec, beq_dec, Nat.reduceLeDiff, decide_true, decide_false, cond_true, Nat.reduceEqDiff, if_true, if_false, reduceIte, operands, Option.map_some, Option.map_none, CT_P, hfn, h0', h1, h5, h6, natOf?, natOf_cast, hlt', hmul, encPairs_length, hdr, List.drop_zero, List.drop_succ_cons, List.length_cons, takeN, Option.map_some, Nat.le_add_left, Nat.zero_le, AV.cells, takeN, load_rp, Nat.zero_le, Nat.le_refl, Nat.zero_add, Nat.add_zero, Nat.mul_one, Nat.one_mul, Bool.not_false, Bool.not_true, List.getElem?_toArray, List.getElem?_cons_zero, List.getElem?_cons_succ, beq_self_eq_true, Bool.and_true, Bool.true_and, Bool.and_self, eq_self, show (true == false) = false from rfl, show (false == true) = false from rfl, show (false == false) = true from rfl, Tryz.underlying70, Tryz.underlying28, sl_t31, sl_t95, sz_3, sz_70, ag_3, ag_70, ze_70, ze_3, by_3, Tryz.underlying30, sz_30, ag_30, ze_30, sz_28, ag_28, d1, d1', bne, d2, cl_68, c68, b3]
      exact ⟨rfl, rfl⟩
    simp only [Ex.thn]
    apply EvX.cond2 (t := false)
    · simp only [evalA, Tr.get_set, Nat.reduceEqDiff, if_true, if_false, reduceIte]
    · intro h; cases h
    intro _
    apply EvX.skip
    simp only [Ex.thn, Ex.blk]
    apply EvX.reg0
    · intro call
      simp only [QRun, stepA, wantedA, opA, pureA, loadA, effA, binA, bin, evalA, ofV, ofCell, Fr.put, enterA_n, enterA_t, setArgs, List.length_cons, List.length_nil, Tr.get_set, Nat.zero_testBit, cond_false, true_and, Nat.reduceAdd, Nat.reduceSub, ble_dec, beq_dec, Nat.reduceLeDiff, decide_true, decide_false, cond_true, Nat.reduceEqDiff, if_true, if_false, reduceIte, operands, Option.map_some, Option.map_none, CT_P, hfn, h6, wrap_succ (show i + 1 ≤ 9223372036854775807 by omega)]
      exact ⟨rfl, rfl⟩
    simp only [Ex.thn]
    refine ⟨f.length - (i + 1), by omega, i + 1, y, acc, rfl, hlt', trivial, ?_, ?_, ?_, ?_, hw, ho, by rw [← hgo]; simp only [goR]; rw [if_neg (fun h => by rcases h.2 with h | h; exact b2 h; rw [b3] at h; cases h)], by omega⟩
    · simp [Tr.get_set, h0]
    · simp [Tr.get_set, h1]
    · simp [Tr.get_set, h5]
    · simp [Tr.get_set]
end Go.Vz
