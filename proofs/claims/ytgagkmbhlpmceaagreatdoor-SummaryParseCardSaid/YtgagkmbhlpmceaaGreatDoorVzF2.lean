/-
  The reference's list, told.
-/
import Derived.Test.YtgagkmbhlpmceaaGreatDoorVzF1
set_option linter.unusedVariables false
set_option linter.unusedSimpArgs false
namespace Go.Vz
open Go Go.Proofs
set_option maxHeartbeats 4000000
set_option maxRecDepth 20000
theorem dropPair : ∀ {l : List (Int × Int)} {i : Nat} (h : i < l.length), (encPairs l).drop (i * 2) = .int .i64 l[i].1 :: .int .i64 l[i].2 :: (encPairs l).drop ((i + 1) * 2)
  | p :: l, 0, _ => rfl
  | p :: l, i + 1, h => by
    have e1 : (i + 1) * 2 = i * 2 + 1 + 1 := by omega
    have e2 : (i + 1 + 1) * 2 = (i + 1) * 2 + 1 + 1 := by omega
    rw [e1, e2]
    simp only [encPairs, List.drop_succ_cons, List.getElem_cons_succ]
    exact dropPair (by simpa using h)
theorem notUp_iff (q p : Int × Int) : notUp (some q) p ↔ (q.1 > p.1 ∨ (q.1 = p.1 ∧ q.2 ≥ p.2)) := by
  show (0 ≤ cmpPair q p) ↔ _
  unfold cmpPair cmp3
  by_cases h1 : q.1 < p.1
  · rw [if_pos h1]; simp; omega
  · by_cases h2 : p.1 < q.1
    · rw [if_neg h1, if_pos h2]; simp; omega
    · rw [if_neg h1, if_neg h2]
      by_cases h3 : q.2 < p.2
      · rw [if_pos h3]; simp; omega
      · by_cases h4 : p.2 < q.2
        · rw [if_neg h3, if_pos h4]; simp; omega
        · rw [if_neg h3, if_neg h4]; simp; omega
def p35 : PFn := ⟨35, specPairs⟩
theorem p35_ok : p35.Ok := by
  refine PFn.Ok.of (ps := []) (fun p h => by cases h) (fun args x h => ?_)
  obtain ⟨l, f, rfl, rfl, hmax⟩ := specPairs_some h
  clear h
  refine ⟨rfl, EvC.run (by kernel_rfl) (by rw [CP_P]; exact Tryz.func35) rfl ?_⟩
  apply EvX.seq
  apply EvX.reg0
  · intro call
    simp only [QRun, stepA, wantedA, opA, pureA, loadA, effA, binA, bin, evalA, ofV, ofCell, Fr.put, enterA_n, enterA_t, setArgs, List.length_cons, List.length_nil, Tr.get_set, Nat.zero_testBit, cond_false, true_and, Nat.reduceAdd, Nat.reduceSub, ble_dec, beq_dec, Nat.reduceLeDiff, decide_true, decide_false, cond_true, Nat.reduceEqDiff, if_true, if_false, reduceIte, operands, Option.map_some, Option.map_none, CP_P, Tryz.ntmps35]
    exact ⟨rfl, rfl⟩
  simp only [Ex.thn]
  apply EvX.seq
  apply EvX.seq
  apply EvX.reg0
  · intro call
    simp only [QRun, stepA, wantedA, opA, pureA, loadA, effA, binA, bin, evalA, ofV, ofCell, Fr.put, enterA_n, enterA_t, setArgs, List.length_cons, List.length_nil, Tr.get_set, Nat.zero_testBit, cond_false, true_and, Nat.reduceAdd, Nat.reduceSub, ble_dec, beq_dec, Nat.reduceLeDiff, decide_true, decide_false, cond_true, Nat.reduceEqDiff, if_true, if_false, reduceIte, operands, Option.map_some, Option.map_none, CP_P, lenA, Mem.fresh, Mem.load, Mem.live, Win.read, Win.cell, setCells, Mem.empty, Mem.store, List.length_cons, List.length_nil, AV.cells, allCells, AV.isCell, takeN, Nat.zero_le, Nat.le_refl, Nat.zero_add, Nat.add_zero, Bool.not_false, Tr.get_nil, List.getElem?_toArray, List.getElem?_cons_zero, List.getElem?_cons_succ, beq_self_eq_true, Bool.and_true, Bool.true_and, Bool.and_self, eq_self, show (true == false) = false from rfl, show (false == true) = false from rfl, show (false == false) = true from rfl, Tryz.underlying70, Tryz.underlying28, sz_3, sz_70, ag_3, ag_70, ze_70]
    exact ⟨rfl, rfl⟩
  simp only [Ex.thn]
  apply EvX.cond2
  · simp only [evalA, Tr.get_set, Nat.reduceEqDiff, if_true, if_false, reduceIte]; exact rfl
  · intro hlt
    have hlt := of_decide_eq_true hlt
    apply EvX.seq
    apply EvX.reg0
    · intro call
      simp only [QRun, stepA, wantedA, opA, pureA, loadA, effA, binA, bin, evalA, ofV, ofCell, Fr.put, enterA_n, enterA_t, setArgs, List.length_cons, List.length_nil, Tr.get_set, Nat.zero_testBit, cond_false, true_and, Nat.reduceAdd, Nat.reduceSub, ble_dec, beq_dec, Nat.reduceLeDiff, decide_true, decide_false, cond_true, Nat.reduceEqDiff, if_true, if_false, reduceIte, operands, Option.map_some, Option.map_none, CP_P]
      exact ⟨rfl, rfl⟩
    simp only [Ex.thn]
    apply EvX.ret
    simp only [Ex.thn]
    exact Fin.one rfl (by simp [Tr.get_set, pairsErr]; omega)
  intro hlt
  have hlt := of_decide_eq_false hlt
  have hpe : pairsErr f l = goPairs f none l := by unfold pairsErr; rw [if_neg (by omega)]
  rw [hpe]
  apply EvX.skip
  simp only [Ex.thn]
  apply EvX.seq
  apply EvX.seq
  apply EvX.reg0
  · intro call
    simp only [QRun, stepA, wantedA, opA, pureA, loadA, effA, binA, bin, evalA, ofV, ofCell, Fr.put, enterA_n, enterA_t, setArgs, List.length_cons, List.length_nil, Tr.get_set, Nat.zero_testBit, cond_false, true_and, Nat.reduceAdd, Nat.reduceSub, ble_dec, beq_dec, Nat.reduceLeDiff, decide_true, decide_false, cond_true, Nat.reduceEqDiff, if_true, if_false, reduceIte, operands, Option.map_some, Option.map_none, CP_P, Mem.fresh, Mem.load, Mem.live, Win.read, Win.cell, setCells, Mem.empty, Mem.store, List.length_cons, List.length_nil, AV.cells, allCells, AV.isCell, takeN, Nat.zero_le, Nat.le_refl, Nat.zero_add, Nat.add_zero, Bool.not_false, Tr.get_nil, List.getElem?_toArray, List.getElem?_cons_zero, List.getElem?_cons_succ, beq_self_eq_true, Bool.and_true, Bool.true_and, Bool.and_self, eq_self, show (true == false) = false from rfl, show (false == true) = false from rfl, show (false == false) = true from rfl, Tryz.underlying70, Tryz.underlying28, sz_3, sz_70, ag_3, ag_70, ze_70]
    exact ⟨rfl, rfl⟩
  simp only [Ex.thn]
  apply EvX.block
  refine EvX.loop (fun k fr m => ∃ i : Nat, k = l.length - i ∧ i ≤ l.length ∧ fr.n = 91 ∧ fr.t.get 0 = some (.ro (encPairs l) l.length 2) ∧ fr.t.get 1 = some (.int .i64 f) ∧
    fr.t.get 5 = some (.int .i64 (i : Int)) ∧ goPairs f (prevOf l i) (l.drop i) = goPairs f none l) ?_ l.length _ _ ⟨0, by simp, by simp, rfl, by simp [Tr.get_set], by simp [Tr.get_set], by simp [Tr.get_set], rfl⟩
  rintro k fr m ⟨i, rfl, hil, hfn, h0, h1, h5, hgo⟩
  apply EvX.seq
  apply EvX.seq
  apply EvX.reg0
  · intro call
    simp only [QRun, stepA, wantedA, opA, pureA, loadA, effA, binA, bin, evalA, ofV, ofCell, Fr.put, enterA_n, enterA_t, setArgs, List.length_cons, List.length_nil, Tr.get_set, Nat.zero_testBit, cond_false, true_and, Nat.reduceAdd, Nat.reduceSub, ble_dec, beq_dec, Nat.reduceLeDiff, decide_true, decide_false, cond_true, Nat.reduceEqDiff, if_true, if_false, reduceIte, operands, Option.map_some, Option.map_none, CP_P, hfn, h0, h5, lenA, Mem.fresh, Mem.load, Mem.live, Win.read, Win.cell, setCells, Mem.empty, Mem.store, List.length_cons, List.length_nil, AV.cells, allCells, AV.isCell, takeN, Nat.zero_le, Nat.le_refl, Nat.zero_add, Nat.add_zero, Bool.not_false, Tr.get_nil, List.getElem?_toArray, List.getElem?_cons_zero, List.getElem?_cons_succ, beq_self_eq_true, Bool.and_true, Bool.true_and, Bool.and_self, eq_self, show (true == false) = false from rfl, show (false == true) = false from rfl, show (false == false) = true from rfl, Tryz.underlying70, Tryz.underlying28, sz_3, sz_70, ag_3, ag_70, ze_70]
    exact ⟨rfl, rfl⟩
  simp only [Ex.thn]
  apply EvX.cond2
  · simp only [evalA, Tr.get_set, Nat.reduceEqDiff, if_true, if_false, reduceIte]; exact rfl
  rotate_left
  · intro hge
    have hge := of_decide_eq_false hge
    have hi : i = l.length := by omega
    subst hi
    apply EvX.exit
    simp only [Ex.thn, Ex.blk, beq_dec, decide_true, cond_true]
    apply EvX.seq
    apply EvX.reg0
    · intro call
      simp only [QRun, stepA, wantedA, opA, pureA, loadA, effA, binA, bin, evalA, ofV, ofCell, Fr.put, enterA_n, enterA_t, setArgs, List.length_cons, List.length_nil, Tr.get_set, Nat.zero_testBit, cond_false, true_and, Nat.reduceAdd, Nat.reduceSub, ble_dec, beq_dec, Nat.reduceLeDiff, decide_true, decide_false, cond_true, Nat.reduceEqDiff, if_true, if_false, reduceIte, operands, Option.map_some, Option.map_none, CP_P, hfn]
      exact ⟨rfl, rfl⟩
    simp only [Ex.thn]
    apply EvX.ret
    exact Fin.one rfl (by rw [List.drop_length] at hgo; simp [Tr.get_set, ← hgo, goPairs])
  intro hlt
  have hlt := of_decide_eq_true hlt
  have hlt : i < l.length := by omega
  have hlt' : i + 1 ≤ l.length := hlt
  have hmul : i * 2 ≤ l.length * 2 := by omega
  rw [goPairs_drop hlt] at hgo
  have hdr := dropPair hlt
  generalize hp : l[i] = p at hgo hdr
  apply EvX.skip
  simp only [Ex.thn]
  apply EvX.seq
  apply EvX.block
  apply EvX.seq
  by_cases b1 : p.1 < 0
  · have d1 := decide_eq_true b1
    have hbad : badP f p := .inl b1
    apply EvX.seq
    apply EvX.reg0
    · intro call
      simp only [QRun, stepA, wantedA, opA, pureA, loadA, effA, binA, bin, evalA, ofV, ofCell, Fr.put, enterA_n, enterA_t, setArgs, List.length_cons, List.length_nil, Tr.get_set, Nat.zero_testBit, cond_false, true_and, Nat.reduceAdd, Nat.reduceSub, ble_dec, beq_dec, Nat.reduceLeDiff, decide_true, decide_false, cond_true, Nat.reduceEqDiff, if_true, if_false, reduceIte, operands, Option.map_some, Option.map_none, CP_P, hfn, h0, h1, h5, natOf?, natOf_cast, hlt', hmul, encPairs_length, hdr, List.drop_zero, List.drop_succ_cons, List.length_cons, takeN, Option.map_some, Nat.le_add_left, Nat.zero_le, Mem.fresh, Mem.load, Mem.live, Win.read, Win.cell, setCells, Mem.empty, Mem.store, List.length_cons, List.length_nil, AV.cells, allCells, AV.isCell, takeN, Nat.zero_le, Nat.le_refl, Nat.zero_add, Nat.add_zero, Bool.not_false, Tr.get_nil, List.getElem?_toArray, List.getElem?_cons_zero, List.getElem?_cons_succ, beq_self_eq_true, Bool.and_true, Bool.true_and, Bool.and_self, eq_self, show (true == false) = false from rfl, show (false == true) = false from rfl, show (false == false) = true from rfl, Tryz.underlying70, Tryz.underlying28, sz_3, sz_70, ag_3, ag_70, ze_70, d1]
      exact ⟨rfl, rfl⟩
    simp only [Ex.thn]
    apply EvX.cond2 (t := true)
    · simp only [evalA, Tr.get_set, Nat.reduceEqDiff, if_true, if_false, reduceIte]
    rotate_left
    · intro h; cases h
    intro _
    apply EvX.seq
    apply EvX.reg0
    · intro call
      simp only [QRun, stepA, wantedA, opA, pureA, loadA, effA, binA, bin, evalA, ofV, ofCell, Fr.put, enterA_n, enterA_t, setArgs, List.length_cons, List.length_nil, Tr.get_set, Nat.zero_testBit, cond_false, true_and, Nat.reduceAdd, Nat.reduceSub, ble_dec, beq_dec, Nat.reduceLeDiff, decide_true, decide_false, cond_true, Nat.reduceEqDiff, if_true, if_false, reduceIte, operands, Option.map_some, Option.map_none, CP_P, hfn]
      exact ⟨rfl, rfl⟩
    simp only [Ex.thn]
    apply EvX.ret
    simp only [Ex.thn, Ex.blk]
    exact Fin.one rfl (by rw [← hgo, if_pos hbad]; simp [Tr.get_set])
  have d1 := decide_eq_false b1
  by_cases b2 : p.1 ≥ f
  · have d2 := decide_eq_true b2
    have hbad : badP f p := .inr (.inl b2)
    apply EvX.seq
    apply EvX.reg0
    · intro call
      simp only [QRun, stepA, wantedA, opA, pureA, loadA, effA, binA, bin, evalA, ofV, ofCell, Fr.put, enterA_n, enterA_t, setArgs, List.length_cons, List.length_nil, Tr.get_set, Nat.zero_testBit, cond_false, true_and, Nat.reduceAdd, Nat.reduceSub, ble_dec, beq_dec, Nat.reduceLeDiff, decide_true, decide_false, cond_true, Nat.reduceEqDiff, if_true, if_false, reduceIte, operands, Option.map_some, Option.map_none, CP_P, hfn, h0, h1, h5, natOf?, natOf_cast, hlt', hmul, encPairs_length, hdr, List.drop_zero, List.drop_succ_cons, List.length_cons, takeN, Option.map_some, Nat.le_add_left, Nat.zero_le, Mem.fresh, Mem.load, Mem.live, Win.read, Win.cell, setCells, Mem.empty, Mem.store, List.length_cons, List.length_nil, AV.cells, allCells, AV.isCell, takeN, Nat.zero_le, Nat.le_refl, Nat.zero_add, Nat.add_zero, Bool.not_false, Tr.get_nil, List.getElem?_toArray, List.getElem?_cons_zero, List.getElem?_cons_succ, beq_self_eq_true, Bool.and_true, Bool.true_and, Bool.and_self, eq_self, show (true == false) = false from rfl, show (false == true) = false from rfl, show (false == false) = true from rfl, Tryz.underlying70, Tryz.underlying28, sz_3, sz_70, ag_3, ag_70, ze_70, d1, d2]
      exact ⟨rfl, rfl⟩
    simp only [Ex.thn]
    apply EvX.cond2 (t := true)
    · simp only [evalA, Tr.get_set, Nat.reduceEqDiff, if_true, if_false, reduceIte]
    rotate_left
    · intro h; cases h
    intro _
    apply EvX.seq
    apply EvX.reg0
    · intro call
      simp only [QRun, stepA, wantedA, opA, pureA, loadA, effA, binA, bin, evalA, ofV, ofCell, Fr.put, enterA_n, enterA_t, setArgs, List.length_cons, List.length_nil, Tr.get_set, Nat.zero_testBit, cond_false, true_and, Nat.reduceAdd, Nat.reduceSub, ble_dec, beq_dec, Nat.reduceLeDiff, decide_true, decide_false, cond_true, Nat.reduceEqDiff, if_true, if_false, reduceIte, operands, Option.map_some, Option.map_none, CP_P, hfn]
      exact ⟨rfl, rfl⟩
    simp only [Ex.thn]
    apply EvX.ret
    simp only [Ex.thn, Ex.blk]
    exact Fin.one rfl (by rw [← hgo, if_pos hbad]; simp [Tr.get_set])
  have d2 := decide_eq_false b2
  by_cases b3 : p.2 < 0
  · have d3 := decide_eq_true b3
    have hbad : badP f p := .inr (.inr (.inl b3))
    apply EvX.seq
    apply EvX.reg0
    · intro call
      simp only [QRun, stepA, wantedA, opA, pureA, loadA, effA, binA, bin, evalA, ofV, ofCell, Fr.put, enterA_n, enterA_t, setArgs, List.length_cons, List.length_nil, Tr.get_set, Nat.zero_testBit, cond_false, true_and, Nat.reduceAdd, Nat.reduceSub, ble_dec, beq_dec, Nat.reduceLeDiff, decide_true, decide_false, cond_true, Nat.reduceEqDiff, if_true, if_false, reduceIte, operands, Option.map_some, Option.map_none, CP_P, hfn, h0, h1, h5, natOf?, natOf_cast, hlt', hmul, encPairs_length, hdr, List.drop_zero, List.drop_succ_cons, List.length_cons, takeN, Option.map_some, Nat.le_add_left, Nat.zero_le, Mem.fresh, Mem.load, Mem.live, Win.read, Win.cell, setCells, Mem.empty, Mem.store, List.length_cons, List.length_nil, AV.cells, allCells, AV.isCell, takeN, Nat.zero_le, Nat.le_refl, Nat.zero_add, Nat.add_zero, Bool.not_false, Tr.get_nil, List.getElem?_toArray, List.getElem?_cons_zero, List.getElem?_cons_succ, beq_self_eq_true, Bool.and_true, Bool.true_and, Bool.and_self, eq_self, show (true == false) = false from rfl, show (false == true) = false from rfl, show (false == false) = true from rfl, Tryz.underlying70, Tryz.underlying28, sz_3, sz_70, ag_3, ag_70, ze_70, d1, d2, d3]
      exact ⟨rfl, rfl⟩
    simp only [Ex.thn]
    apply EvX.cond2 (t := true)
    · simp only [evalA, Tr.get_set, Nat.reduceEqDiff, if_true, if_false, reduceIte]
    rotate_left
    · intro h; cases h
    intro _
    apply EvX.seq
    apply EvX.reg0
    · intro call
      simp only [QRun, stepA, wantedA, opA, pureA, loadA, effA, binA, bin, evalA, ofV, ofCell, Fr.put, enterA_n, enterA_t, setArgs, List.length_cons, List.length_nil, Tr.get_set, Nat.zero_testBit, cond_false, true_and, Nat.reduceAdd, Nat.reduceSub, ble_dec, beq_dec, Nat.reduceLeDiff, decide_true, decide_false, cond_true, Nat.reduceEqDiff, if_true, if_false, reduceIte, operands, Option.map_some, Option.map_none, CP_P, hfn]
      exact ⟨rfl, rfl⟩
    simp only [Ex.thn]
    apply EvX.ret
    simp only [Ex.thn, Ex.blk]
    exact Fin.one rfl (by rw [← hgo, if_pos hbad]; simp [Tr.get_set])
  have d3 := decide_eq_false b3
  by_cases b4 : p.2 ≥ f
  · have d4 := decide_eq_true b4
    have hbad : badP f p := .inr (.inr (.inr b4))
    apply EvX.seq
    apply EvX.reg0
    · intro call
      simp only [QRun, stepA, wantedA, opA, pureA, loadA, effA, binA, bin, evalA, ofV, ofCell, Fr.put, enterA_n, enterA_t, setArgs, List.length_cons, List.length_nil, Tr.get_set, Nat.zero_testBit, cond_false, true_and, Nat.reduceAdd, Nat.reduceSub, ble_dec, beq_dec, Nat.reduceLeDiff, decide_true, decide_false, cond_true, Nat.reduceEqDiff, if_true, if_false, reduceIte, operands, Option.map_some, Option.map_none, CP_P, hfn, h0, h1, h5, natOf?, natOf_cast, hlt', hmul, encPairs_length, hdr, List.drop_zero, List.drop_succ_cons, List.length_cons, takeN, Option.map_some, Nat.le_add_left, Nat.zero_le, Mem.fresh, Mem.load, Mem.live, Win.read, Win.cell, setCells, Mem.empty, Mem.store, List.length_cons, List.length_nil, AV.cells, allCells, AV.isCell, takeN, Nat.zero_le, Nat.le_refl, Nat.zero_add, Nat.add_zero, Bool.not_false, Tr.get_nil, List.getElem?_toArray, List.getElem?_cons_zero, List.getElem?_cons_succ, beq_self_eq_true, Bool.and_true, Bool.true_and, Bool.and_self, eq_self, show (true == false) = false from rfl, show (false == true) = false from rfl, show (false == false) = true from rfl, Tryz.underlying70, Tryz.underlying28, sz_3, sz_70, ag_3, ag_70, ze_70, d1, d2, d3, d4]
      exact ⟨rfl, rfl⟩
    simp only [Ex.thn]
    apply EvX.cond2 (t := true)
    · simp only [evalA, Tr.get_set, Nat.reduceEqDiff, if_true, if_false, reduceIte]
    rotate_left
    · intro h; cases h
    intro _
    apply EvX.seq
    apply EvX.reg0
    · intro call
      simp only [QRun, stepA, wantedA, opA, pureA, loadA, effA, binA, bin, evalA, ofV, ofCell, Fr.put, enterA_n, enterA_t, setArgs, List.length_cons, List.length_nil, Tr.get_set, Nat.zero_testBit, cond_false, true_and, Nat.reduceAdd, Nat.reduceSub, ble_dec, beq_dec, Nat.reduceLeDiff, decide_true, decide_false, cond_true, Nat.reduceEqDiff, if_true, if_false, reduceIte, operands, Option.map_some, Option.map_none, CP_P, hfn]
      exact ⟨rfl, rfl⟩
    simp only [Ex.thn]
    apply EvX.ret
    simp only [Ex.thn, Ex.blk]
    exact Fin.one rfl (by rw [← hgo, if_pos hbad]; simp [Tr.get_set])
  have d4 := decide_eq_false b4
  have hok : ¬ badP f p := fun h => by rcases h with h | h | h | h <;> contradiction
  rw [if_neg hok] at hgo
  apply EvX.seq
  apply EvX.reg0
  · intro call
    simp only [QRun, stepA, wantedA, opA, pureA, loadA, effA, binA, bin, evalA, ofV, ofCell, Fr.put, enterA_n, enterA_t, setArgs, List.length_cons, List.length_nil, Tr.get_set, Nat.zero_testBit, cond_false, true_and, Nat.reduceAdd, Nat.reduceSub, ble_dec, beq_dec, Nat.reduceLeDiff, decide_true, decide_false, cond_true, Nat.reduceEqDiff, if_true, if_false, reduceIte, operands, Option.map_some, Option.map_none, CP_P, hfn, h0, h1, h5, natOf?, natOf_cast, hlt', hmul, encPairs_length, hdr, List.drop_zero, List.drop_succ_cons, List.length_cons, takeN, Option.map_some, Nat.le_add_left, Nat.zero_le, Mem.fresh, Mem.load, Mem.live, Win.read, Win.cell, setCells, Mem.empty, Mem.store, List.length_cons, List.length_nil, AV.cells, allCells, AV.isCell, takeN, Nat.zero_le, Nat.le_refl, Nat.zero_add, Nat.add_zero, Bool.not_false, Tr.get_nil, List.getElem?_toArray, List.getElem?_cons_zero, List.getElem?_cons_succ, beq_self_eq_true, Bool.and_true, Bool.true_and, Bool.and_self, eq_self, show (true == false) = false from rfl, show (false == true) = false from rfl, show (false == false) = true from rfl, Tryz.underlying70, Tryz.underlying28, sz_3, sz_70, ag_3, ag_70, ze_70, d1, d2, d3, d4]
    exact ⟨rfl, rfl⟩
  simp only [Ex.thn]
  apply EvX.cond2 (t := false)
  · simp only [evalA, Tr.get_set, Nat.reduceEqDiff, if_true, if_false, reduceIte]
  · intro h; cases h
  intro _
  apply EvX.skip
  simp only [Ex.thn, Ex.blk]
  rcases i with _ | j
  · have d5 : decide (((0 : Nat) : Int) > 0) = false := rfl
    rw [if_neg (show ¬ notUp (prevOf l 0) p from fun h => h)] at hgo
    apply EvX.seq
    apply EvX.drw 0 0
    · kernel_rfl
    · intro k _
      simp only [QRun, stepA, wantedA, opA, pureA, loadA, effA, binA, bin, evalA, ofV, ofCell, Fr.put, enterA_n, enterA_t, setArgs, List.length_cons, List.length_nil, Tr.get_set, Nat.zero_testBit, cond_false, true_and, Nat.reduceAdd, Nat.reduceSub, ble_dec, beq_dec, Nat.reduceLeDiff, decide_true, decide_false, cond_true, Nat.reduceEqDiff, if_true, if_false, reduceIte, operands, Option.map_some, Option.map_none, CP_P, Mem.fresh, Mem.load, Mem.live, Win.read, Win.cell, setCells, Mem.empty, Mem.store, List.length_cons, List.length_nil, AV.cells, allCells, AV.isCell, takeN, Nat.zero_le, Nat.le_refl, Nat.zero_add, Nat.add_zero, Bool.not_false, Tr.get_nil, List.getElem?_toArray, List.getElem?_cons_zero, List.getElem?_cons_succ, beq_self_eq_true, Bool.and_true, Bool.true_and, Bool.and_self, eq_self, show (true == false) = false from rfl, show (false == true) = false from rfl, show (false == false) = true from rfl, Tryz.underlying70, Tryz.underlying28, sz_3, sz_70, ag_3, ag_70, ze_70, show Nat.testBit 0 0 = false from rfl, show Nat.testBit 0 1 = false from rfl, show Nat.testBit 0 2 = false from rfl, show Nat.testBit 0 3 = false from rfl, show Nat.testBit 0 4 = false from rfl, show Nat.testBit 0 5 = false from rfl, show Nat.testBit 0 6 = false from rfl, show Nat.testBit 0 7 = false from rfl, show Nat.testBit 0 8 = false from rfl, show Nat.testBit 0 9 = false from rfl, show Nat.testBit 0 10 = false from rfl, show Nat.testBit 0 11 = false from rfl, show Nat.testBit 0 12 = false from rfl, show Nat.testBit 0 13 = false from rfl, show Nat.testBit 0 14 = false from rfl, show Nat.testBit 0 15 = false from rfl, show Nat.testBit 0 16 = false from rfl, show Nat.testBit 0 17 = false from rfl, show Nat.testBit 0 18 = false from rfl, show Nat.testBit 0 19 = false from rfl, show Nat.testBit 0 20 = false from rfl, show Nat.testBit 0 21 = false from rfl, show Nat.testBit 0 22 = false from rfl, show Nat.testBit 0 23 = false from rfl, show Nat.testBit 0 24 = false from rfl, show Nat.testBit 0 25 = false from rfl, show Nat.testBit 0 26 = false from rfl, show Nat.testBit 0 27 = false from rfl, show Nat.testBit 0 28 = false from rfl, show Nat.testBit 0 29 = false from rfl, show Nat.testBit 0 30 = false from rfl, show Nat.testBit 0 31 = false from rfl, show Nat.testBit 0 32 = false from rfl, show Nat.testBit 0 33 = false from rfl, show Nat.testBit 0 34 = false from rfl, show Nat.testBit 0 35 = false from rfl, show Nat.testBit 0 36 = false from rfl, show Nat.testBit 0 37 = false from rfl, show Nat.testBit 0 38 = false from rfl, show Nat.testBit 0 39 = false from rfl, show Nat.testBit 0 40 = false from rfl, show Nat.testBit 0 41 = false from rfl, show Nat.testBit 0 42 = false from rfl, show Nat.testBit 0 43 = false from rfl, hfn, h0, h5, d5]
      exact ⟨rfl, rfl⟩
    simp only [Ex.thn]
    apply EvX.cond2 (t := false)
    · simp only [evalA, Tr.get_set, Nat.reduceEqDiff, if_true, if_false, reduceIte]
    · intro h; cases h
    intro _
    apply EvX.skip
    simp only [Ex.thn, Ex.blk]
    apply EvX.reg0
    · intro call
      simp only [QRun, stepA, wantedA, opA, pureA, loadA, effA, binA, bin, evalA, ofV, ofCell, Fr.put, enterA_n, enterA_t, setArgs, List.length_cons, List.length_nil, Tr.get_set, Nat.zero_testBit, cond_false, true_and, Nat.reduceAdd, Nat.reduceSub, ble_dec, beq_dec, Nat.reduceLeDiff, decide_true, decide_false, cond_true, Nat.reduceEqDiff, if_true, if_false, reduceIte, operands, Option.map_some, Option.map_none, CP_P, hfn, h5, wrap_succ (show 0 + 1 ≤ 9223372036854775807 by omega)]
      exact ⟨rfl, rfl⟩
    simp only [Ex.thn]
    refine ⟨l.length - (0 + 1), by omega, 0 + 1, rfl, hlt', trivial, ?_, ?_, ?_, ?_⟩
    · simp [Tr.get_set, h0]
    · simp [Tr.get_set, h1]
    · simp [Tr.get_set]
    · exact hgo
  · have d5 : decide (((j + 1 : Nat) : Int) > 0) = true := decide_eq_true (by omega)
    have hj : j < l.length := by omega
    have hj' : j + 1 ≤ l.length := hj
    have hmul' : j * 2 ≤ l.length * 2 := by omega
    have hdq := dropPair hj
    have hprev : prevOf l (j + 1) = some l[j] := List.getElem?_eq_getElem hj
    rw [hprev] at hgo
    generalize hq : l[j] = q at hdq hgo
    have hnu := notUp_iff q p
    by_cases b6 : q.1 > p.1
    · have d6 := decide_eq_true b6
      have hu : notUp (some q) p := hnu.2 (by omega)
      apply EvX.seq
      apply EvX.drw 0 0
      · kernel_rfl
      · intro k _
        simp only [QRun, stepA, wantedA, opA, pureA, loadA, effA, binA, bin, evalA, ofV, ofCell, Fr.put, enterA_n, enterA_t, setArgs, List.length_cons, List.length_nil, Tr.get_set, Nat.zero_testBit, cond_false, true_and, Nat.reduceAdd, Nat.reduceSub, ble_dec, beq_dec, Nat.reduceLeDiff, decide_true, decide_false, cond_true, Nat.reduceEqDiff, if_true, if_false, reduceIte, operands, Option.map_some, Option.map_none, CP_P, Mem.fresh, Mem.load, Mem.live, Win.read, Win.cell, setCells, Mem.empty, Mem.store, List.length_cons, List.length_nil, AV.cells, allCells, AV.isCell, takeN, Nat.zero_le, Nat.le_refl, Nat.zero_add, Nat.add_zero, Bool.not_false, Tr.get_nil, List.getElem?_toArray, List.getElem?_cons_zero, List.getElem?_cons_succ, beq_self_eq_true, Bool.and_true, Bool.true_and, Bool.and_self, eq_self, show (true == false) = false from rfl, show (false == true) = false from rfl, show (false == false) = true from rfl, Tryz.underlying70, Tryz.underlying28, sz_3, sz_70, ag_3, ag_70, ze_70, show Nat.testBit 0 0 = false from rfl, show Nat.testBit 0 1 = false from rfl, show Nat.testBit 0 2 = false from rfl, show Nat.testBit 0 3 = false from rfl, show Nat.testBit 0 4 = false from rfl, show Nat.testBit 0 5 = false from rfl, show Nat.testBit 0 6 = false from rfl, show Nat.testBit 0 7 = false from rfl, show Nat.testBit 0 8 = false from rfl, show Nat.testBit 0 9 = false from rfl, show Nat.testBit 0 10 = false from rfl, show Nat.testBit 0 11 = false from rfl, show Nat.testBit 0 12 = false from rfl, show Nat.testBit 0 13 = false from rfl, show Nat.testBit 0 14 = false from rfl, show Nat.testBit 0 15 = false from rfl, show Nat.testBit 0 16 = false from rfl, show Nat.testBit 0 17 = false from rfl, show Nat.testBit 0 18 = false from rfl, show Nat.testBit 0 19 = false from rfl, show Nat.testBit 0 20 = false from rfl, show Nat.testBit 0 21 = false from rfl, show Nat.testBit 0 22 = false from rfl, show Nat.testBit 0 23 = false from rfl, show Nat.testBit 0 24 = false from rfl, show Nat.testBit 0 25 = false from rfl, show Nat.testBit 0 26 = false from rfl, show Nat.testBit 0 27 = false from rfl, show Nat.testBit 0 28 = false from rfl, show Nat.testBit 0 29 = false from rfl, show Nat.testBit 0 30 = false from rfl, show Nat.testBit 0 31 = false from rfl, show Nat.testBit 0 32 = false from rfl, show Nat.testBit 0 33 = false from rfl, show Nat.testBit 0 34 = false from rfl, show Nat.testBit 0 35 = false from rfl, show Nat.testBit 0 36 = false from rfl, show Nat.testBit 0 37 = false from rfl, show Nat.testBit 0 38 = false from rfl, show Nat.testBit 0 39 = false from rfl, show Nat.testBit 0 40 = false from rfl, show Nat.testBit 0 41 = false from rfl, show Nat.testBit 0 42 = false from rfl, show Nat.testBit 0 43 = false from rfl, hfn, h0, h5, d5, wrap_pred (show j + 1 ≤ 9223372036854775807 by omega), natOf?, natOf_cast, hj', hlt', hmul, hmul', encPairs_length, hdr, hdq, List.drop_zero, List.drop_succ_cons, List.length_cons, takeN, Option.map_some, Nat.le_add_left, Nat.zero_le, d6]
        exact ⟨rfl, rfl⟩
      simp only [Ex.thn]
      apply EvX.cond2 (t := true)
      · simp only [evalA, Tr.get_set, Nat.reduceEqDiff, if_true, if_false, reduceIte]
      rotate_left
      · intro h; cases h
      intro _
      apply EvX.seq
      apply EvX.reg0
      · intro call
        simp only [QRun, stepA, wantedA, opA, pureA, loadA, effA, binA, bin, evalA, ofV, ofCell, Fr.put, enterA_n, enterA_t, setArgs, List.length_cons, List.length_nil, Tr.get_set, Nat.zero_testBit, cond_false, true_and, Nat.reduceAdd, Nat.reduceSub, ble_dec, beq_dec, Nat.reduceLeDiff, decide_true, decide_false, cond_true, Nat.reduceEqDiff, if_true, if_false, reduceIte, operands, Option.map_some, Option.map_none, CP_P, hfn]
        exact ⟨rfl, rfl⟩
      simp only [Ex.thn]
      apply EvX.ret
      simp only [Ex.thn, Ex.blk]
      exact Fin.one rfl (by rw [← hgo, if_pos hu]; simp [Tr.get_set])
    have d6 := decide_eq_false b6
    by_cases b7 : q.1 = p.1
    · have d7 : (q.1 == p.1) = true := by simpa using b7
      by_cases b8 : q.2 ≥ p.2
      · have d8 := decide_eq_true b8
        have hu : notUp (some q) p := hnu.2 (by omega)
        apply EvX.seq
        apply EvX.drw 0 0
        · kernel_rfl
        · intro k _
          simp only [QRun, stepA, wantedA, opA, pureA, loadA, effA, binA, bin, evalA, ofV, ofCell, Fr.put, enterA_n, enterA_t, setArgs, List.length_cons, List.length_nil, Tr.get_set, Nat.zero_testBit, cond_false, true_and, Nat.reduceAdd, Nat.reduceSub, ble_dec, beq_dec, Nat.reduceLeDiff, decide_true, decide_false, cond_true, Nat.reduceEqDiff, if_true, if_false, reduceIte, operands, Option.map_some, Option.map_none, CP_P, Mem.fresh, Mem.load, Mem.live, Win.read, Win.cell, setCells, Mem.empty, Mem.store, List.length_cons, List.length_nil, AV.cells, allCells, AV.isCell, takeN, Nat.zero_le, Nat.le_refl, Nat.zero_add, Nat.add_zero, Bool.not_false, Tr.get_nil, List.getElem?_toArray, List.getElem?_cons_zero, List.getElem?_cons_succ, beq_self_eq_true, Bool.and_true, Bool.true_and, Bool.and_self, eq_self, show (true == false) = false from rfl, show (false == true) = false from rfl, show (false == false) = true from rfl, Tryz.underlying70, Tryz.underlying28, sz_3, sz_70, ag_3, ag_70, ze_70, show Nat.testBit 0 0 = false from rfl, show Nat.testBit 0 1 = false from rfl, show Nat.testBit 0 2 = false from rfl, show Nat.testBit 0 3 = false from rfl, show Nat.testBit 0 4 = false from rfl, show Nat.testBit 0 5 = false from rfl, show Nat.testBit 0 6 = false from rfl, show Nat.testBit 0 7 = false from rfl, show Nat.testBit 0 8 = false from rfl, show Nat.testBit 0 9 = false from rfl, show Nat.testBit 0 10 = false from rfl, show Nat.testBit 0 11 = false from rfl, show Nat.testBit 0 12 = false from rfl, show Nat.testBit 0 13 = false from rfl, show Nat.testBit 0 14 = false from rfl, show Nat.testBit 0 15 = false from rfl, show Nat.testBit 0 16 = false from rfl, show Nat.testBit 0 17 = false from rfl, show Nat.testBit 0 18 = false from rfl, show Nat.testBit 0 19 = false from rfl, show Nat.testBit 0 20 = false from rfl, show Nat.testBit 0 21 = false from rfl, show Nat.testBit 0 22 = false from rfl, show Nat.testBit 0 23 = false from rfl, show Nat.testBit 0 24 = false from rfl, show Nat.testBit 0 25 = false from rfl, show Nat.testBit 0 26 = false from rfl, show Nat.testBit 0 27 = false from rfl, show Nat.testBit 0 28 = false from rfl, show Nat.testBit 0 29 = false from rfl, show Nat.testBit 0 30 = false from rfl, show Nat.testBit 0 31 = false from rfl, show Nat.testBit 0 32 = false from rfl, show Nat.testBit 0 33 = false from rfl, show Nat.testBit 0 34 = false from rfl, show Nat.testBit 0 35 = false from rfl, show Nat.testBit 0 36 = false from rfl, show Nat.testBit 0 37 = false from rfl, show Nat.testBit 0 38 = false from rfl, show Nat.testBit 0 39 = false from rfl, show Nat.testBit 0 40 = false from rfl, show Nat.testBit 0 41 = false from rfl, show Nat.testBit 0 42 = false from rfl, show Nat.testBit 0 43 = false from rfl, hfn, h0, h5, d5, wrap_pred (show j + 1 ≤ 9223372036854775807 by omega), natOf?, natOf_cast, hj', hlt', hmul, hmul', encPairs_length, hdr, hdq, List.drop_zero, List.drop_succ_cons, List.length_cons, takeN, Option.map_some, Nat.le_add_left, Nat.zero_le, d6, d7, d8]
          exact ⟨rfl, rfl⟩
        simp only [Ex.thn]
        apply EvX.cond2 (t := true)
        · simp only [evalA, Tr.get_set, Nat.reduceEqDiff, if_true, if_false, reduceIte]
        rotate_left
        · intro h; cases h
        intro _
        apply EvX.seq
        apply EvX.reg0
        · intro call
          simp only [QRun, stepA, wantedA, opA, pureA, loadA, effA, binA, bin, evalA, ofV, ofCell, Fr.put, enterA_n, enterA_t, setArgs, List.length_cons, List.length_nil, Tr.get_set, Nat.zero_testBit, cond_false, true_and, Nat.reduceAdd, Nat.reduceSub, ble_dec, beq_dec, Nat.reduceLeDiff, decide_true, decide_false, cond_true, Nat.reduceEqDiff, if_true, if_false, reduceIte, operands, Option.map_some, Option.map_none, CP_P, hfn]
          exact ⟨rfl, rfl⟩
        simp only [Ex.thn]
        apply EvX.ret
        simp only [Ex.thn, Ex.blk]
        exact Fin.one rfl (by rw [← hgo, if_pos hu]; simp [Tr.get_set])
      have d8 := decide_eq_false b8
      have hu : ¬ notUp (some q) p := fun h => by have := hnu.1 h; omega
      rw [if_neg hu] at hgo
      apply EvX.seq
      apply EvX.drw 0 0
      · kernel_rfl
      · intro k _
        simp only [QRun, stepA, wantedA, opA, pureA, loadA, effA, binA, bin, evalA, ofV, ofCell, Fr.put, enterA_n, enterA_t, setArgs, List.length_cons, List.length_nil, Tr.get_set, Nat.zero_testBit, cond_false, true_and, Nat.reduceAdd, Nat.reduceSub, ble_dec, beq_dec, Nat.reduceLeDiff, decide_true, decide_false, cond_true, Nat.reduceEqDiff, if_true, if_false, reduceIte, operands, Option.map_some, Option.map_none, CP_P, Mem.fresh, Mem.load, Mem.live, Win.read, Win.cell, setCells, Mem.empty, Mem.store, List.length_cons, List.length_nil, AV.cells, allCells, AV.isCell, takeN, Nat.zero_le, Nat.le_refl, Nat.zero_add, Nat.add_zero, Bool.not_false, Tr.get_nil, List.getElem?_toArray, List.getElem?_cons_zero, List.getElem?_cons_succ, beq_self_eq_true, Bool.and_true, Bool.true_and, Bool.and_self, eq_self, show (true == false) = false from rfl, show (false == true) = false from rfl, show (false == false) = true from rfl, Tryz.underlying70, Tryz.underlying28, sz_3, sz_70, ag_3, ag_70, ze_70, show Nat.testBit 0 0 = false from rfl, show Nat.testBit 0 1 = false from rfl, show Nat.testBit 0 2 = false from rfl, show Nat.testBit 0 3 = false from rfl, show Nat.testBit 0 4 = false from rfl, show Nat.testBit 0 5 = false from rfl, show Nat.testBit 0 6 = false from rfl, show Nat.testBit 0 7 = false from rfl, show Nat.testBit 0 8 = false from rfl, show Nat.testBit 0 9 = false from rfl, show Nat.testBit 0 10 = false from rfl, show Nat.testBit 0 11 = false from rfl, show Nat.testBit 0 12 = false from rfl, show Nat.testBit 0 13 = false from rfl, show Nat.testBit 0 14 = false from rfl, show Nat.testBit 0 15 = false from rfl, show Nat.testBit 0 16 = false from rfl, show Nat.testBit 0 17 = false from rfl, show Nat.testBit 0 18 = false from rfl, show Nat.testBit 0 19 = false from rfl, show Nat.testBit 0 20 = false from rfl, show Nat.testBit 0 21 = false from rfl, show Nat.testBit 0 22 = false from rfl, show Nat.testBit 0 23 = false from rfl, show Nat.testBit 0 24 = false from rfl, show Nat.testBit 0 25 = false from rfl, show Nat.testBit 0 26 = false from rfl, show Nat.testBit 0 27 = false from rfl, show Nat.testBit 0 28 = false from rfl, show Nat.testBit 0 29 = false from rfl, show Nat.testBit 0 30 = false from rfl, show Nat.testBit 0 31 = false from rfl, show Nat.testBit 0 32 = false from rfl, show Nat.testBit 0 33 = false from rfl, show Nat.testBit 0 34 = false from rfl, show Nat.testBit 0 35 = false from rfl, show Nat.testBit 0 36 = false from rfl, show Nat.testBit 0 37 = false from rfl, show Nat.testBit 0 38 = false from rfl, show Nat.testBit 0 39 = false from rfl, show Nat.testBit 0 40 = false from rfl, show Nat.testBit 0 41 = false from rfl, show Nat.testBit 0 42 = false from rfl, show Nat.testBit 0 43 = false from rfl, hfn, h0, h5, d5, wrap_pred (show j + 1 ≤ 9223372036854775807 by omega), natOf?, natOf_cast, hj', hlt', hmul, hmul', encPairs_length, hdr, hdq, List.drop_zero, List.drop_succ_cons, List.length_cons, takeN, Option.map_some, Nat.le_add_left, Nat.zero_le, d6, d7, d8]
        exact ⟨rfl, rfl⟩
      simp only [Ex.thn]
      apply EvX.cond2 (t := false)
      · simp only [evalA, Tr.get_set, Nat.reduceEqDiff, if_true, if_false, reduceIte]
      · intro h; cases h
      intro _
      apply EvX.skip
      simp only [Ex.thn, Ex.blk]
      apply EvX.reg0
      · intro call
        simp only [QRun, stepA, wantedA, opA, pureA, loadA, effA, binA, bin, evalA, ofV, ofCell, Fr.put, enterA_n, enterA_t, setArgs, List.length_cons, List.length_nil, Tr.get_set, Nat.zero_testBit, cond_false, true_and, Nat.reduceAdd, Nat.reduceSub, ble_dec, beq_dec, Nat.reduceLeDiff, decide_true, decide_false, cond_true, Nat.reduceEqDiff, if_true, if_false, reduceIte, operands, Option.map_some, Option.map_none, CP_P, hfn, h5, wrap_succ (show j + 1 + 1 ≤ 9223372036854775807 by omega)]
        exact ⟨rfl, rfl⟩
      simp only [Ex.thn]
      refine ⟨l.length - ((j + 1) + 1), by omega, (j + 1) + 1, rfl, hlt', trivial, ?_, ?_, ?_, ?_⟩
      · simp [Tr.get_set, h0]
      · simp [Tr.get_set, h1]
      · simp [Tr.get_set]
      · exact hgo
    · have d7 : (q.1 == p.1) = false := by simpa using b7
      have hu : ¬ notUp (some q) p := fun h => by have := hnu.1 h; omega
      rw [if_neg hu] at hgo
      apply EvX.seq
      apply EvX.drw 0 0
      · kernel_rfl
      · intro k _
        simp only [QRun, stepA, wantedA, opA, pureA, loadA, effA, binA, bin, evalA, ofV, ofCell, Fr.put, enterA_n, enterA_t, setArgs, List.length_cons, List.length_nil, Tr.get_set, Nat.zero_testBit, cond_false, true_and, Nat.reduceAdd, Nat.reduceSub, ble_dec, beq_dec, Nat.reduceLeDiff, decide_true, decide_false, cond_true, Nat.reduceEqDiff, if_true, if_false, reduceIte, operands, Option.map_some, Option.map_none, CP_P, Mem.fresh, Mem.load, Mem.live, Win.read, Win.cell, setCells, Mem.empty, Mem.store, List.length_cons, List.length_nil, AV.cells, allCells, AV.isCell, takeN, Nat.zero_le, Nat.le_refl, Nat.zero_add, Nat.add_zero, Bool.not_false, Tr.get_nil, List.getElem?_toArray, List.getElem?_cons_zero, List.getElem?_cons_succ, beq_self_eq_true, Bool.and_true, Bool.true_and, Bool.and_self, eq_self, show (true == false) = false from rfl, show (false == true) = false from rfl, show (false == false) = true from rfl, Tryz.underlying70, Tryz.underlying28, sz_3, sz_70, ag_3, ag_70, ze_70, show Nat.testBit 0 0 = false from rfl, show Nat.testBit 0 1 = false from rfl, show Nat.testBit 0 2 = false from rfl, show Nat.testBit 0 3 = false from rfl, show Nat.testBit 0 4 = false from rfl, show Nat.testBit 0 5 = false from rfl, show Nat.testBit 0 6 = false from rfl, show Nat.testBit 0 7 = false from rfl, show Nat.testBit 0 8 = false from rfl, show Nat.testBit 0 9 = false from rfl, show Nat.testBit 0 10 = false from rfl, show Nat.testBit 0 11 = false from rfl, show Nat.testBit 0 12 = false from rfl, show Nat.testBit 0 13 = false from rfl, show Nat.testBit 0 14 = false from rfl, show Nat.testBit 0 15 = false from rfl, show Nat.testBit 0 16 = false from rfl, show Nat.testBit 0 17 = false from rfl, show Nat.testBit 0 18 = false from rfl, show Nat.testBit 0 19 = false from rfl, show Nat.testBit 0 20 = false from rfl, show Nat.testBit 0 21 = false from rfl, show Nat.testBit 0 22 = false from rfl, show Nat.testBit 0 23 = false from rfl, show Nat.testBit 0 24 = false from rfl, show Nat.testBit 0 25 = false from rfl, show Nat.testBit 0 26 = false from rfl, show Nat.testBit 0 27 = false from rfl, show Nat.testBit 0 28 = false from rfl, show Nat.testBit 0 29 = false from rfl, show Nat.testBit 0 30 = false from rfl, show Nat.testBit 0 31 = false from rfl, show Nat.testBit 0 32 = false from rfl, show Nat.testBit 0 33 = false from rfl, show Nat.testBit 0 34 = false from rfl, show Nat.testBit 0 35 = false from rfl, show Nat.testBit 0 36 = false from rfl, show Nat.testBit 0 37 = false from rfl, show Nat.testBit 0 38 = false from rfl, show Nat.testBit 0 39 = false from rfl, show Nat.testBit 0 40 = false from rfl, show Nat.testBit 0 41 = false from rfl, show Nat.testBit 0 42 = false from rfl, show Nat.testBit 0 43 = false from rfl, hfn, h0, h5, d5, wrap_pred (show j + 1 ≤ 9223372036854775807 by omega), natOf?, natOf_cast, hj', hlt', hmul, hmul', encPairs_length, hdr, hdq, List.drop_zero, List.drop_succ_cons, List.length_cons, takeN, Option.map_some, Nat.le_add_left, Nat.zero_le, d6, d7]
        exact ⟨rfl, rfl⟩
      simp only [Ex.thn]
      apply EvX.cond2 (t := false)
      · simp only [evalA, Tr.get_set, Nat.reduceEqDiff, if_true, if_false, reduceIte]
      · intro h; cases h
      intro _
      apply EvX.skip
      simp only [Ex.thn, Ex.blk]
      apply EvX.reg0
      · intro call
        simp only [QRun, stepA, wantedA, opA, pureA, loadA, effA, binA, bin, evalA, ofV, ofCell, Fr.put, enterA_n, enterA_t, setArgs, List.length_cons, List.length_nil, Tr.get_set, Nat.zero_testBit, cond_false, true_and, Nat.reduceAdd, Nat.reduceSub, ble_dec, beq_dec, Nat.reduceLeDiff, decide_true, decide_false, cond_true, Nat.reduceEqDiff, if_true, if_false, reduceIte, operands, Option.map_some, Option.map_none, CP_P, hfn, h5, wrap_succ (show j + 1 + 1 ≤ 9223372036854775807 by omega)]
        exact ⟨rfl, rfl⟩
      simp only [Ex.thn]
      refine ⟨l.length - ((j + 1) + 1), by omega, (j + 1) + 1, rfl, hlt', trivial, ?_, ?_, ?_, ?_⟩
      · simp [Tr.get_set, h0]
      · simp [Tr.get_set, h1]
      · simp [Tr.get_set]
      · exact hgo
end Go.Vz
