/-
  Check, short, told; SummaryCheck.
-/
import Derived.Test.YtgagkmbhlpmceaaGreatDoorVzF3
set_option linter.unusedVariables false
set_option linter.unusedSimpArgs false
namespace Go.Vz
open Go Go.Proofs
set_option maxHeartbeats 4000000
set_option maxRecDepth 20000
/-- one round -/
theorem EvX.loop1 {C : Cfg} {D : CallF → DrawF} {a : Code} {fr : Fr} {m : Mem} {Q : Ex → Fr → Mem → Prop} (h : EvX C D a fr m (Ex.thn (fun fr' m' => EvX C D (.loop a) fr' m' Q) Q)) : EvX C D (.loop a) fr m Q := by
  obtain ⟨e, fr1, m1, q, N, hN⟩ := h
  cases e with
  | normal =>
    obtain ⟨e2, fr2, m2, q2, N2, hN2⟩ := q
    refine ⟨e2, fr2, m2, q2, max N N2 + 1, fun k hk => ?_⟩
    obtain ⟨j, rfl⟩ : ∃ j, k = j + 1 := ⟨k - 1, by omega⟩
    rw [exec_loop, hN j (by omega)]
    exact hN2 j (by omega)
  | exit i =>
    refine ⟨_, _, _, q, N + 1, fun k hk => ?_⟩
    obtain ⟨j, rfl⟩ : ∃ j, k = j + 1 := ⟨k - 1, by omega⟩
    rw [exec_loop, hN j (by omega)]
  | ret =>
    refine ⟨_, _, _, q, N + 1, fun k hk => ?_⟩
    obtain ⟨j, rfl⟩ : ∃ j, k = j + 1 := ⟨k - 1, by omega⟩
    rw [exec_loop, hN j (by omega)]
theorem un_62 : Tryz.prog.underlying 62 = some (.slice 28) := by kernel_rfl
theorem by_28 : bytesT Tryz.prog 28 = some 24 := by kernel_rfl
theorem cast2 : ((2 : Nat) : Int) = 2 := rfl
theorem wl2 : IntKind.i64.wrap 1 = 1 := by decide
theorem wl3 : IntKind.i64.wrap 2 = 2 := by decide
theorem natOf_0 (k : IntKind) : natOf? (some (.int k 0)) = some 0 := rfl
theorem natOf_1 (k : IntKind) : natOf? (some (.int k 1)) = some 1 := rfl
theorem wl0 : IntKind.i64.wrap (0 + 1) = 1 := by decide
theorem wl1 : IntKind.i64.wrap (1 + 1) = 2 := by decide
def p11 : PFn := ⟨11, specSums⟩
theorem p11_ok : p11.Ok := by
  refine PFn.Ok.of (ps := [p34]) (fun p h => by simp at h; subst h; exact p34_ok) (fun args x h => ?_)
  obtain ⟨l, f, rfl, rfl, hmax, hrows⟩ := specSums_some h
  clear h
  refine ⟨rfl, EvC.run (by kernel_rfl) (by rw [CP_P]; exact Tryz.func11) rfl ?_⟩
  apply EvX.seq
  apply EvX.reg0
  · intro call
    simp only [QRun, stepA, wantedA, opA, pureA, loadA, effA, binA, bin, evalA, ofV, ofCell, Fr.put, enterA_n, enterA_t, setArgs, List.length_cons, List.length_nil, Tr.get_set, Nat.zero_testBit, cond_false, true_and, Nat.reduceAdd, Nat.reduceSub, ble_dec, beq_dec, Nat.reduceLeDiff, decide_true, decide_false, cond_true, Nat.reduceEqDiff, if_true, if_false, reduceIte, operands, Option.map_some, Option.map_none, CP_P, Tryz.ntmps11]
    exact ⟨rfl, rfl⟩
  simp only [Ex.thn]
  apply EvX.seq
  apply EvX.block
  by_cases c1 : f < 1
  · have e1 := decide_eq_true c1
    apply EvX.seq
    apply EvX.reg0
    · intro call
      simp only [QRun, stepA, wantedA, opA, pureA, loadA, effA, binA, bin, evalA, ofV, ofCell, Fr.put, enterA_n, enterA_t, setArgs, List.length_cons, List.length_nil, Tr.get_set, Nat.zero_testBit, cond_false, true_and, Nat.reduceAdd, Nat.reduceSub, ble_dec, beq_dec, Nat.reduceLeDiff, decide_true, decide_false, cond_true, Nat.reduceEqDiff, if_true, if_false, reduceIte, operands, Option.map_some, Option.map_none, CP_P, e1, Mem.fresh, Mem.load, Mem.live, Win.read, Win.cell, setCells, Mem.empty, Mem.store, List.length_cons, List.length_nil, AV.cells, allCells, AV.isCell, takeN, Nat.zero_le, Nat.le_refl, Nat.zero_add, Nat.add_zero, Bool.not_false, Tr.get_nil, List.getElem?_toArray, List.getElem?_cons_zero, List.getElem?_cons_succ, beq_self_eq_true, Bool.and_true, Bool.true_and, Bool.and_self, eq_self, show (true == false) = false from rfl, show (false == true) = false from rfl, show (false == false) = true from rfl, Tryz.underlying70, Tryz.underlying28, sz_3, sz_70, ag_3, ag_70, ze_70, Tryz.underlying22, Tryz.underlying30, sz_30, ag_30, ze_30, sz_28, ag_28]
      exact ⟨rfl, rfl⟩
    simp only [Ex.thn]
    apply EvX.cond2 (t := true)
    · simp only [evalA, Tr.get_set, Nat.reduceEqDiff, if_true, if_false, reduceIte]
    rotate_left
    · intro h; cases h
    intro _
    apply EvX.seq
    apply EvX.reg0
    · intro call
      simp only [QRun, stepA, wantedA, opA, pureA, loadA, effA, binA, bin, evalA, ofV, ofCell, Fr.put, enterA_n, enterA_t, setArgs, List.length_cons, List.length_nil, Tr.get_set, Nat.zero_testBit, cond_false, true_and, Nat.reduceAdd, Nat.reduceSub, ble_dec, beq_dec, Nat.reduceLeDiff, decide_true, decide_false, cond_true, Nat.reduceEqDiff, if_true, if_false, reduceIte, operands, Option.map_some, Option.map_none, CP_P]
      exact ⟨rfl, rfl⟩
    simp only [Ex.thn]
    apply EvX.ret
    simp only [Ex.thn, Ex.blk]
    exact Fin.one rfl (by simp [Tr.get_set, sumsErr, c1])
  have e1 := decide_eq_false c1
  by_cases c2 : f > 1024
  · have e2 := decide_eq_true c2
    apply EvX.seq
    apply EvX.reg0
    · intro call
      simp only [QRun, stepA, wantedA, opA, pureA, loadA, effA, binA, bin, evalA, ofV, ofCell, Fr.put, enterA_n, enterA_t, setArgs, List.length_cons, List.length_nil, Tr.get_set, Nat.zero_testBit, cond_false, true_and, Nat.reduceAdd, Nat.reduceSub, ble_dec, beq_dec, Nat.reduceLeDiff, decide_true, decide_false, cond_true, Nat.reduceEqDiff, if_true, if_false, reduceIte, operands, Option.map_some, Option.map_none, CP_P, e1, e2, Mem.fresh, Mem.load, Mem.live, Win.read, Win.cell, setCells, Mem.empty, Mem.store, List.length_cons, List.length_nil, AV.cells, allCells, AV.isCell, takeN, Nat.zero_le, Nat.le_refl, Nat.zero_add, Nat.add_zero, Bool.not_false, Tr.get_nil, List.getElem?_toArray, List.getElem?_cons_zero, List.getElem?_cons_succ, beq_self_eq_true, Bool.and_true, Bool.true_and, Bool.and_self, eq_self, show (true == false) = false from rfl, show (false == true) = false from rfl, show (false == false) = true from rfl, Tryz.underlying70, Tryz.underlying28, sz_3, sz_70, ag_3, ag_70, ze_70, Tryz.underlying22, Tryz.underlying30, sz_30, ag_30, ze_30, sz_28, ag_28]
      exact ⟨rfl, rfl⟩
    simp only [Ex.thn]
    apply EvX.cond2 (t := true)
    · simp only [evalA, Tr.get_set, Nat.reduceEqDiff, if_true, if_false, reduceIte]
    rotate_left
    · intro h; cases h
    intro _
    apply EvX.seq
    apply EvX.reg0
    · intro call
      simp only [QRun, stepA, wantedA, opA, pureA, loadA, effA, binA, bin, evalA, ofV, ofCell, Fr.put, enterA_n, enterA_t, setArgs, List.length_cons, List.length_nil, Tr.get_set, Nat.zero_testBit, cond_false, true_and, Nat.reduceAdd, Nat.reduceSub, ble_dec, beq_dec, Nat.reduceLeDiff, decide_true, decide_false, cond_true, Nat.reduceEqDiff, if_true, if_false, reduceIte, operands, Option.map_some, Option.map_none, CP_P]
      exact ⟨rfl, rfl⟩
    simp only [Ex.thn]
    apply EvX.ret
    simp only [Ex.thn, Ex.blk]
    exact Fin.one rfl (by simp [Tr.get_set, sumsErr, c2])
  have e2 := decide_eq_false c2
  apply EvX.seq
  apply EvX.reg0
  · intro call
    simp only [QRun, stepA, wantedA, opA, pureA, loadA, effA, binA, bin, evalA, ofV, ofCell, Fr.put, enterA_n, enterA_t, setArgs, List.length_cons, List.length_nil, Tr.get_set, Nat.zero_testBit, cond_false, true_and, Nat.reduceAdd, Nat.reduceSub, ble_dec, beq_dec, Nat.reduceLeDiff, decide_true, decide_false, cond_true, Nat.reduceEqDiff, if_true, if_false, reduceIte, operands, Option.map_some, Option.map_none, CP_P, e1, e2, Mem.fresh, Mem.load, Mem.live, Win.read, Win.cell, setCells, Mem.empty, Mem.store, List.length_cons, List.length_nil, AV.cells, allCells, AV.isCell, takeN, Nat.zero_le, Nat.le_refl, Nat.zero_add, Nat.add_zero, Bool.not_false, Tr.get_nil, List.getElem?_toArray, List.getElem?_cons_zero, List.getElem?_cons_succ, beq_self_eq_true, Bool.and_true, Bool.true_and, Bool.and_self, eq_self, show (true == false) = false from rfl, show (false == true) = false from rfl, show (false == false) = true from rfl, Tryz.underlying70, Tryz.underlying28, sz_3, sz_70, ag_3, ag_70, ze_70, Tryz.underlying22, Tryz.underlying30, sz_30, ag_30, ze_30, sz_28, ag_28]
    exact ⟨rfl, rfl⟩
  simp only [Ex.thn]
  apply EvX.cond2 (t := false)
  · simp only [evalA, Tr.get_set, Nat.reduceEqDiff, if_true, if_false, reduceIte]
  · intro h; cases h
  intro _
  by_cases c3 : ((l.length : Int) > 256)
  · have e3 := decide_eq_true c3
    apply EvX.seq
    apply EvX.reg0
    · intro call
      simp only [QRun, stepA, wantedA, opA, pureA, loadA, effA, binA, bin, evalA, ofV, ofCell, Fr.put, enterA_n, enterA_t, setArgs, List.length_cons, List.length_nil, Tr.get_set, Nat.zero_testBit, cond_false, true_and, Nat.reduceAdd, Nat.reduceSub, ble_dec, beq_dec, Nat.reduceLeDiff, decide_true, decide_false, cond_true, Nat.reduceEqDiff, if_true, if_false, reduceIte, operands, Option.map_some, Option.map_none, CP_P, lenA, e3, Mem.fresh, Mem.load, Mem.live, Win.read, Win.cell, setCells, Mem.empty, Mem.store, List.length_cons, List.length_nil, AV.cells, allCells, AV.isCell, takeN, Nat.zero_le, Nat.le_refl, Nat.zero_add, Nat.add_zero, Bool.not_false, Tr.get_nil, List.getElem?_toArray, List.getElem?_cons_zero, List.getElem?_cons_succ, beq_self_eq_true, Bool.and_true, Bool.true_and, Bool.and_self, eq_self, show (true == false) = false from rfl, show (false == true) = false from rfl, show (false == false) = true from rfl, Tryz.underlying70, Tryz.underlying28, sz_3, sz_70, ag_3, ag_70, ze_70, Tryz.underlying22, Tryz.underlying30, sz_30, ag_30, ze_30, sz_28, ag_28]
      exact ⟨rfl, rfl⟩
    simp only [Ex.thn]
    apply EvX.cond2 (t := true)
    · simp only [evalA, Tr.get_set, Nat.reduceEqDiff, if_true, if_false, reduceIte]
    rotate_left
    · intro h; cases h
    intro _
    apply EvX.seq
    apply EvX.reg0
    · intro call
      simp only [QRun, stepA, wantedA, opA, pureA, loadA, effA, binA, bin, evalA, ofV, ofCell, Fr.put, enterA_n, enterA_t, setArgs, List.length_cons, List.length_nil, Tr.get_set, Nat.zero_testBit, cond_false, true_and, Nat.reduceAdd, Nat.reduceSub, ble_dec, beq_dec, Nat.reduceLeDiff, decide_true, decide_false, cond_true, Nat.reduceEqDiff, if_true, if_false, reduceIte, operands, Option.map_some, Option.map_none, CP_P]
      exact ⟨rfl, rfl⟩
    simp only [Ex.thn]
    apply EvX.ret
    simp only [Ex.thn, Ex.blk]
    exact Fin.one rfl (by simp only [Tr.get_set, sumsErr, if_neg (show ¬ (f < 1 ∨ f > 1024) by omega), if_pos (show l.length > 256 by omega), if_true])
  have e3 := decide_eq_false c3
  apply EvX.seq
  apply EvX.reg0
  · intro call
    simp only [QRun, stepA, wantedA, opA, pureA, loadA, effA, binA, bin, evalA, ofV, ofCell, Fr.put, enterA_n, enterA_t, setArgs, List.length_cons, List.length_nil, Tr.get_set, Nat.zero_testBit, cond_false, true_and, Nat.reduceAdd, Nat.reduceSub, ble_dec, beq_dec, Nat.reduceLeDiff, decide_true, decide_false, cond_true, Nat.reduceEqDiff, if_true, if_false, reduceIte, operands, Option.map_some, Option.map_none, CP_P, lenA, e3, Mem.fresh, Mem.load, Mem.live, Win.read, Win.cell, setCells, Mem.empty, Mem.store, List.length_cons, List.length_nil, AV.cells, allCells, AV.isCell, takeN, Nat.zero_le, Nat.le_refl, Nat.zero_add, Nat.add_zero, Bool.not_false, Tr.get_nil, List.getElem?_toArray, List.getElem?_cons_zero, List.getElem?_cons_succ, beq_self_eq_true, Bool.and_true, Bool.true_and, Bool.and_self, eq_self, show (true == false) = false from rfl, show (false == true) = false from rfl, show (false == false) = true from rfl, Tryz.underlying70, Tryz.underlying28, sz_3, sz_70, ag_3, ag_70, ze_70, Tryz.underlying22, Tryz.underlying30, sz_30, ag_30, ze_30, sz_28, ag_28]
    exact ⟨rfl, rfl⟩
  simp only [Ex.thn]
  apply EvX.cond2 (t := false)
  · simp only [evalA, Tr.get_set, Nat.reduceEqDiff, if_true, if_false, reduceIte]
  · intro h; cases h
  intro _
  apply EvX.skip
  simp only [Ex.thn, Ex.blk]
  have hse : sumsErr f l = goSums f none l := by unfold sumsErr; rw [if_neg (by omega), if_neg (by omega)]
  rw [hse]
  apply EvX.seq
  apply EvX.seq
  apply EvX.reg0
  · intro call
    simp only [QRun, stepA, wantedA, opA, pureA, loadA, effA, binA, bin, evalA, ofV, ofCell, Fr.put, enterA_n, enterA_t, setArgs, List.length_cons, List.length_nil, Tr.get_set, Nat.zero_testBit, cond_false, true_and, Nat.reduceAdd, Nat.reduceSub, ble_dec, beq_dec, Nat.reduceLeDiff, decide_true, decide_false, cond_true, Nat.reduceEqDiff, if_true, if_false, reduceIte, operands, Option.map_some, Option.map_none, CP_P, lenA, Mem.fresh, Mem.load, Mem.live, Win.read, Win.cell, setCells, Mem.empty, Mem.store, List.length_cons, List.length_nil, AV.cells, allCells, AV.isCell, takeN, Nat.zero_le, Nat.le_refl, Nat.zero_add, Nat.add_zero, Bool.not_false, Tr.get_nil, List.getElem?_toArray, List.getElem?_cons_zero, List.getElem?_cons_succ, beq_self_eq_true, Bool.and_true, Bool.true_and, Bool.and_self, eq_self, show (true == false) = false from rfl, show (false == true) = false from rfl, show (false == false) = true from rfl, Tryz.underlying70, Tryz.underlying28, sz_3, sz_70, ag_3, ag_70, ze_70, Tryz.underlying22, Tryz.underlying30, sz_30, ag_30, ze_30, sz_28, ag_28]
    exact ⟨rfl, rfl⟩
  simp only [Ex.thn]
  apply EvX.block
  refine EvX.loop (fun k fr m => ∃ i : Nat, k = l.length - i ∧ i ≤ l.length ∧ fr.n = 67 ∧ fr.t.get 0 = some (.ro (encSums l) l.length 3) ∧ fr.t.get 1 = some (.int .i64 f) ∧
    fr.t.get 21 = some (.ro (encSums l) l.length 3) ∧ fr.t.get 22 = some (.int .i64 l.length) ∧ fr.t.get 23 = some (.int .i64 (i : Int)) ∧ goSums f (fnBefore l i) (l.drop i) = goSums f none l) ?_ l.length _ _
    ⟨0, by simp, by simp, rfl, by simp [Tr.get_set], by simp [Tr.get_set], by simp [Tr.get_set], by simp [Tr.get_set], by simp [Tr.get_set], rfl⟩
  rintro k fr m ⟨i, rfl, hil, hfn, h0, h1, h21, h22, h23, hgo⟩
  apply EvX.seq
  apply EvX.reg0
  · intro call
    simp only [QRun, stepA, wantedA, opA, pureA, loadA, effA, binA, bin, evalA, ofV, ofCell, Fr.put, enterA_n, enterA_t, setArgs, List.length_cons, List.length_nil, Tr.get_set, Nat.zero_testBit, cond_false, true_and, Nat.reduceAdd, Nat.reduceSub, ble_dec, beq_dec, Nat.reduceLeDiff, decide_true, decide_false, cond_true, Nat.reduceEqDiff, if_true, if_false, reduceIte, operands, Option.map_some, Option.map_none, CP_P, hfn, h22, h23, Mem.fresh, Mem.load, Mem.live, Win.read, Win.cell, setCells, Mem.empty, Mem.store, List.length_cons, List.length_nil, AV.cells, allCells, AV.isCell, takeN, Nat.zero_le, Nat.le_refl, Nat.zero_add, Nat.add_zero, Bool.not_false, Tr.get_nil, List.getElem?_toArray, List.getElem?_cons_zero, List.getElem?_cons_succ, beq_self_eq_true, Bool.and_true, Bool.true_and, Bool.and_self, eq_self, show (true == false) = false from rfl, show (false == true) = false from rfl, show (false == false) = true from rfl, Tryz.underlying70, Tryz.underlying28, sz_3, sz_70, ag_3, ag_70, ze_70, Tryz.underlying22, Tryz.underlying30, sz_30, ag_30, ze_30, sz_28, ag_28]
    exact ⟨rfl, rfl⟩
  simp only [Ex.thn]
  apply EvX.seq
  apply EvX.cond2
  · simp only [evalA, Tr.get_set, Nat.reduceEqDiff, if_true, if_false, reduceIte]; exact rfl
  rotate_left
  · intro hge
    have hge := of_decide_eq_false hge
    have hi : i = l.length := by omega
    subst hi
    apply EvX.exit
    simp only [Ex.thn, Ex.blk, beq_dec, decide_true, cond_true]
    apply EvX.seq
    apply EvX.reg0
    · intro call
      simp only [QRun, stepA, wantedA, opA, pureA, loadA, effA, binA, bin, evalA, ofV, ofCell, Fr.put, enterA_n, enterA_t, setArgs, List.length_cons, List.length_nil, Tr.get_set, Nat.zero_testBit, cond_false, true_and, Nat.reduceAdd, Nat.reduceSub, ble_dec, beq_dec, Nat.reduceLeDiff, decide_true, decide_false, cond_true, Nat.reduceEqDiff, if_true, if_false, reduceIte, operands, Option.map_some, Option.map_none, CP_P, hfn]
      exact ⟨rfl, rfl⟩
    simp only [Ex.thn]
    apply EvX.ret
    exact Fin.one rfl (by rw [List.drop_length] at hgo; simp [Tr.get_set, ← hgo, goSums])
  intro hlt
  have hlt := of_decide_eq_true hlt
  have hlt : i < l.length := by omega
  have hlt' : i + 1 ≤ l.length := hlt
  have hmul : i * 3 ≤ l.length * 3 := by omega
  rw [goSums_drop hlt] at hgo
  have hdr := dropSum hlt
  obtain ⟨hm1, hm2⟩ := hrows l[i] (List.getElem_mem hlt)
  have hfb : fnBefore l (i + 1) = some l[i].fn := by show (l[i]?).map (·.fn) = _; rw [List.getElem?_eq_getElem hlt]; rfl
  generalize hp : l[i] = p at hgo hdr hm1 hm2 hfb
  have cE := fun k m => call34 (ps := [p34]) rfl (D := drawA (CP [p34])) k hm1 f m
  have cT := fun k m => call34 (ps := [p34]) rfl (D := drawA (CP [p34])) k hm2 f m
  have hn1 : (m.nxt = m.nxt + 1) = False := by simp
  have hn2 : (m.nxt + 1 = m.nxt) = False := by simp
  apply EvX.skip
  simp only [Ex.thn]
  apply EvX.seq
  apply EvX.block
  apply EvX.seq
  apply EvX.reg0
  · intro call
    simp only [QRun, stepA, wantedA, opA, pureA, loadA, effA, binA, bin, evalA, ofV, ofCell, Fr.put, enterA_n, enterA_t, setArgs, List.length_cons, List.length_nil, Tr.get_set, Nat.zero_testBit, cond_false, true_and, Nat.reduceAdd, Nat.reduceSub, ble_dec, beq_dec, Nat.reduceLeDiff, decide_true, decide_false, cond_true, Nat.reduceEqDiff, if_true, if_false, reduceIte, operands, Option.map_some, Option.map_none, CP_P, hfn, h0, h1, h21, h22, h23, natOf?, natOf_cast, hlt', hmul, encSums_length, hdr, hn1, hn2, List.drop_zero, List.drop_succ_cons, List.length_cons, takeN, Option.map_some, Nat.le_add_left, Nat.zero_le, Nat.reduceLeDiff, Mem.fresh, Mem.load, Mem.live, Win.read, Win.cell, setCells, Mem.empty, Mem.store, List.length_cons, List.length_nil, AV.cells, allCells, AV.isCell, takeN, Nat.zero_le, Nat.le_refl, Nat.zero_add, Nat.add_zero, Bool.not_false, Tr.get_nil, List.getElem?_toArray, List.getElem?_cons_zero, List.getElem?_cons_succ, beq_self_eq_true, Bool.and_true, Bool.true_and, Bool.and_self, eq_self, show (true == false) = false from rfl, show (false == true) = false from rfl, show (false == false) = true from rfl, Tryz.underlying70, Tryz.underlying28, sz_3, sz_70, ag_3, ag_70, ze_70, Tryz.underlying22, Tryz.underlying30, sz_30, ag_30, ze_30, sz_28, ag_28, un_62, by_28, ze_28, partsA, fillA, putCells, replicateA, List.append_nil, List.nil_append, List.cons_append, Nat.reduceMul, lenA]
    exact ⟨rfl, rfl⟩
  simp only [Ex.thn]
  apply EvX.seq
  by_cases b1 : p.fn < 0
  · have d1 := decide_eq_true b1
    apply EvX.seq
    apply EvX.reg0
    · intro call
      simp only [QRun, stepA, wantedA, opA, pureA, loadA, effA, binA, bin, evalA, ofV, ofCell, Fr.put, enterA_n, enterA_t, setArgs, List.length_cons, List.length_nil, Tr.get_set, Nat.zero_testBit, cond_false, true_and, Nat.reduceAdd, Nat.reduceSub, ble_dec, beq_dec, Nat.reduceLeDiff, decide_true, decide_false, cond_true, Nat.reduceEqDiff, if_true, if_false, reduceIte, operands, Option.map_some, Option.map_none, CP_P, hfn, h0, h1, h21, h22, h23, natOf?, natOf_cast, hlt', hmul, encSums_length, hdr, hn1, hn2, List.drop_zero, List.drop_succ_cons, List.length_cons, takeN, Option.map_some, Nat.le_add_left, Nat.zero_le, Nat.reduceLeDiff, Mem.fresh, Mem.load, Mem.live, Win.read, Win.cell, setCells, Mem.empty, Mem.store, List.length_cons, List.length_nil, AV.cells, allCells, AV.isCell, takeN, Nat.zero_le, Nat.le_refl, Nat.zero_add, Nat.add_zero, Bool.not_false, Tr.get_nil, List.getElem?_toArray, List.getElem?_cons_zero, List.getElem?_cons_succ, beq_self_eq_true, Bool.and_true, Bool.true_and, Bool.and_self, eq_self, show (true == false) = false from rfl, show (false == true) = false from rfl, show (false == false) = true from rfl, Tryz.underlying70, Tryz.underlying28, sz_3, sz_70, ag_3, ag_70, ze_70, Tryz.underlying22, Tryz.underlying30, sz_30, ag_30, ze_30, sz_28, ag_28, un_62, by_28, ze_28, partsA, fillA, putCells, replicateA, List.append_nil, List.nil_append, List.cons_append, Nat.reduceMul, lenA, d1]
      exact ⟨rfl, rfl⟩
    simp only [Ex.thn]
    apply EvX.cond2 (t := true)
    · simp only [evalA, Tr.get_set, Nat.reduceEqDiff, if_true, if_false, reduceIte]
    rotate_left
    · intro h; cases h
    intro _
    apply EvX.seq
    apply EvX.reg0
    · intro call
      simp only [QRun, stepA, wantedA, opA, pureA, loadA, effA, binA, bin, evalA, ofV, ofCell, Fr.put, enterA_n, enterA_t, setArgs, List.length_cons, List.length_nil, Tr.get_set, Nat.zero_testBit, cond_false, true_and, Nat.reduceAdd, Nat.reduceSub, ble_dec, beq_dec, Nat.reduceLeDiff, decide_true, decide_false, cond_true, Nat.reduceEqDiff, if_true, if_false, reduceIte, operands, Option.map_some, Option.map_none, CP_P, hfn]
      exact ⟨rfl, rfl⟩
    simp only [Ex.thn]
    apply EvX.ret
    simp only [Ex.thn, Ex.blk]
    exact Fin.one rfl (by rw [← hgo, if_pos (Or.inl b1)]; simp [Tr.get_set])
  have d1 := decide_eq_false b1
  by_cases b2 : p.fn ≥ 256
  · have d2 := decide_eq_true b2
    apply EvX.seq
    apply EvX.reg0
    · intro call
      simp only [QRun, stepA, wantedA, opA, pureA, loadA, effA, binA, bin, evalA, ofV, ofCell, Fr.put, enterA_n, enterA_t, setArgs, List.length_cons, List.length_nil, Tr.get_set, Nat.zero_testBit, cond_false, true_and, Nat.reduceAdd, Nat.reduceSub, ble_dec, beq_dec, Nat.reduceLeDiff, decide_true, decide_false, cond_true, Nat.reduceEqDiff, if_true, if_false, reduceIte, operands, Option.map_some, Option.map_none, CP_P, hfn, h0, h1, h21, h22, h23, natOf?, natOf_cast, hlt', hmul, encSums_length, hdr, hn1, hn2, List.drop_zero, List.drop_succ_cons, List.length_cons, takeN, Option.map_some, Nat.le_add_left, Nat.zero_le, Nat.reduceLeDiff, Mem.fresh, Mem.load, Mem.live, Win.read, Win.cell, setCells, Mem.empty, Mem.store, List.length_cons, List.length_nil, AV.cells, allCells, AV.isCell, takeN, Nat.zero_le, Nat.le_refl, Nat.zero_add, Nat.add_zero, Bool.not_false, Tr.get_nil, List.getElem?_toArray, List.getElem?_cons_zero, List.getElem?_cons_succ, beq_self_eq_true, Bool.and_true, Bool.true_and, Bool.and_self, eq_self, show (true == false) = false from rfl, show (false == true) = false from rfl, show (false == false) = true from rfl, Tryz.underlying70, Tryz.underlying28, sz_3, sz_70, ag_3, ag_70, ze_70, Tryz.underlying22, Tryz.underlying30, sz_30, ag_30, ze_30, sz_28, ag_28, un_62, by_28, ze_28, partsA, fillA, putCells, replicateA, List.append_nil, List.nil_append, List.cons_append, Nat.reduceMul, lenA, d1, d2]
      exact ⟨rfl, rfl⟩
    simp only [Ex.thn]
    apply EvX.cond2 (t := true)
    · simp only [evalA, Tr.get_set, Nat.reduceEqDiff, if_true, if_false, reduceIte]
    rotate_left
    · intro h; cases h
    intro _
    apply EvX.seq
    apply EvX.reg0
    · intro call
      simp only [QRun, stepA, wantedA, opA, pureA, loadA, effA, binA, bin, evalA, ofV, ofCell, Fr.put, enterA_n, enterA_t, setArgs, List.length_cons, List.length_nil, Tr.get_set, Nat.zero_testBit, cond_false, true_and, Nat.reduceAdd, Nat.reduceSub, ble_dec, beq_dec, Nat.reduceLeDiff, decide_true, decide_false, cond_true, Nat.reduceEqDiff, if_true, if_false, reduceIte, operands, Option.map_some, Option.map_none, CP_P, hfn]
      exact ⟨rfl, rfl⟩
    simp only [Ex.thn]
    apply EvX.ret
    simp only [Ex.thn, Ex.blk]
    exact Fin.one rfl (by rw [← hgo, if_pos (Or.inr b2)]; simp [Tr.get_set])
  have d2 := decide_eq_false b2
  rw [if_neg (show ¬ (p.fn < 0 ∨ p.fn ≥ 256) by omega)] at hgo
  apply EvX.seq
  apply EvX.reg0
  · intro call
    simp only [QRun, stepA, wantedA, opA, pureA, loadA, effA, binA, bin, evalA, ofV, ofCell, Fr.put, enterA_n, enterA_t, setArgs, List.length_cons, List.length_nil, Tr.get_set, Nat.zero_testBit, cond_false, true_and, Nat.reduceAdd, Nat.reduceSub, ble_dec, beq_dec, Nat.reduceLeDiff, decide_true, decide_false, cond_true, Nat.reduceEqDiff, if_true, if_false, reduceIte, operands, Option.map_some, Option.map_none, CP_P, hfn, h0, h1, h21, h22, h23, natOf?, natOf_cast, hlt', hmul, encSums_length, hdr, hn1, hn2, List.drop_zero, List.drop_succ_cons, List.length_cons, takeN, Option.map_some, Nat.le_add_left, Nat.zero_le, Nat.reduceLeDiff, Mem.fresh, Mem.load, Mem.live, Win.read, Win.cell, setCells, Mem.empty, Mem.store, List.length_cons, List.length_nil, AV.cells, allCells, AV.isCell, takeN, Nat.zero_le, Nat.le_refl, Nat.zero_add, Nat.add_zero, Bool.not_false, Tr.get_nil, List.getElem?_toArray, List.getElem?_cons_zero, List.getElem?_cons_succ, beq_self_eq_true, Bool.and_true, Bool.true_and, Bool.and_self, eq_self, show (true == false) = false from rfl, show (false == true) = false from rfl, show (false == false) = true from rfl, Tryz.underlying70, Tryz.underlying28, sz_3, sz_70, ag_3, ag_70, ze_70, Tryz.underlying22, Tryz.underlying30, sz_30, ag_30, ze_30, sz_28, ag_28, un_62, by_28, ze_28, partsA, fillA, putCells, replicateA, List.append_nil, List.nil_append, List.cons_append, Nat.reduceMul, lenA, d1, d2]
    exact ⟨rfl, rfl⟩
  simp only [Ex.thn]
  apply EvX.cond2 (t := false)
  · simp only [evalA, Tr.get_set, Nat.reduceEqDiff, if_true, if_false, reduceIte]
  · intro h; cases h
  intro _
  apply EvX.skip
  simp only [Ex.thn, Ex.blk]
  apply EvX.seq
  rcases i with _ | j
  · have d5 : decide (((0 : Nat) : Int) > 0) = false := rfl
    rw [if_neg (show ¬ notMore (fnBefore l 0) p.fn from fun h => h)] at hgo
    apply EvX.seq
    apply EvX.drw 0 0
    · kernel_rfl
    · intro k _
      simp only [QRun, stepA, wantedA, opA, pureA, loadA, effA, binA, bin, evalA, ofV, ofCell, Fr.put, enterA_n, enterA_t, setArgs, List.length_cons, List.length_nil, Tr.get_set, Nat.zero_testBit, cond_false, true_and, Nat.reduceAdd, Nat.reduceSub, ble_dec, beq_dec, Nat.reduceLeDiff, decide_true, decide_false, cond_true, Nat.reduceEqDiff, if_true, if_false, reduceIte, operands, Option.map_some, Option.map_none, CP_P, Mem.fresh, Mem.load, Mem.live, Win.read, Win.cell, setCells, Mem.empty, Mem.store, List.length_cons, List.length_nil, AV.cells, allCells, AV.isCell, takeN, Nat.zero_le, Nat.le_refl, Nat.zero_add, Nat.add_zero, Bool.not_false, Tr.get_nil, List.getElem?_toArray, List.getElem?_cons_zero, List.getElem?_cons_succ, beq_self_eq_true, Bool.and_true, Bool.true_and, Bool.and_self, eq_self, show (true == false) = false from rfl, show (false == true) = false from rfl, show (false == false) = true from rfl, Tryz.underlying70, Tryz.underlying28, sz_3, sz_70, ag_3, ag_70, ze_70, Tryz.underlying22, Tryz.underlying30, sz_30, ag_30, ze_30, sz_28, ag_28, show Nat.testBit 0 0 = false from rfl, show Nat.testBit 0 1 = false from rfl, show Nat.testBit 0 2 = false from rfl, show Nat.testBit 0 3 = false from rfl, show Nat.testBit 0 4 = false from rfl, show Nat.testBit 0 5 = false from rfl, show Nat.testBit 0 6 = false from rfl, show Nat.testBit 0 7 = false from rfl, show Nat.testBit 0 8 = false from rfl, show Nat.testBit 0 9 = false from rfl, show Nat.testBit 0 10 = false from rfl, show Nat.testBit 0 11 = false from rfl, show Nat.testBit 0 12 = false from rfl, hfn, h0, d5, hn1, hn2]
      exact ⟨rfl, rfl⟩
    simp only [Ex.thn]
    apply EvX.cond2 (t := false)
    · simp only [evalA, Tr.get_set, Nat.reduceEqDiff, if_true, if_false, reduceIte]
    · intro h; cases h
    intro _
    apply EvX.skip
    simp only [Ex.thn, Ex.blk]
    apply EvX.seq
    apply EvX.reg0
    · intro call
      simp only [QRun, stepA, wantedA, opA, pureA, loadA, effA, binA, bin, evalA, ofV, ofCell, Fr.put, enterA_n, enterA_t, setArgs, List.length_cons, List.length_nil, Tr.get_set, Nat.zero_testBit, cond_false, true_and, Nat.reduceAdd, Nat.reduceSub, ble_dec, beq_dec, Nat.reduceLeDiff, decide_true, decide_false, cond_true, Nat.reduceEqDiff, if_true, if_false, reduceIte, operands, Option.map_some, Option.map_none, CP_P, hfn, h0, h1, h21, h22, h23, natOf?, natOf_cast, hlt', hmul, encSums_length, hdr, hn1, hn2, List.drop_zero, List.drop_succ_cons, List.length_cons, takeN, Option.map_some, Nat.le_add_left, Nat.zero_le, Nat.reduceLeDiff, Mem.fresh, Mem.load, Mem.live, Win.read, Win.cell, setCells, Mem.empty, Mem.store, List.length_cons, List.length_nil, AV.cells, allCells, AV.isCell, takeN, Nat.zero_le, Nat.le_refl, Nat.zero_add, Nat.add_zero, Bool.not_false, Tr.get_nil, List.getElem?_toArray, List.getElem?_cons_zero, List.getElem?_cons_succ, beq_self_eq_true, Bool.and_true, Bool.true_and, Bool.and_self, eq_self, show (true == false) = false from rfl, show (false == true) = false from rfl, show (false == false) = true from rfl, Tryz.underlying70, Tryz.underlying28, sz_3, sz_70, ag_3, ag_70, ze_70, Tryz.underlying22, Tryz.underlying30, sz_30, ag_30, ze_30, sz_28, ag_28, un_62, by_28, ze_28, partsA, fillA, putCells, replicateA, List.append_nil, List.nil_append, List.cons_append, Nat.reduceMul, lenA]
      exact ⟨rfl, rfl⟩
    simp only [Ex.thn]
    apply EvX.block
    apply EvX.loop1
    apply EvX.seq
    apply EvX.reg0
    · intro call
      simp only [QRun, stepA, wantedA, opA, pureA, loadA, effA, binA, bin, evalA, ofV, ofCell, Fr.put, enterA_n, enterA_t, setArgs, List.length_cons, List.length_nil, Tr.get_set, Nat.zero_testBit, cond_false, true_and, Nat.reduceAdd, Nat.reduceSub, ble_dec, beq_dec, Nat.reduceLeDiff, decide_true, decide_false, cond_true, Nat.reduceEqDiff, if_true, if_false, reduceIte, operands, Option.map_some, Option.map_none, CP_P, hfn, h0, h1, h21, h22, h23, natOf?, natOf_cast, hlt', hmul, encSums_length, hdr, hn1, hn2, List.drop_zero, List.drop_succ_cons, List.length_cons, takeN, Option.map_some, Nat.le_add_left, Nat.zero_le, Nat.reduceLeDiff, Mem.fresh, Mem.load, Mem.live, Win.read, Win.cell, setCells, Mem.empty, Mem.store, List.length_cons, List.length_nil, AV.cells, allCells, AV.isCell, takeN, Nat.zero_le, Nat.le_refl, Nat.zero_add, Nat.add_zero, Bool.not_false, Tr.get_nil, List.getElem?_toArray, List.getElem?_cons_zero, List.getElem?_cons_succ, beq_self_eq_true, Bool.and_true, Bool.true_and, Bool.and_self, eq_self, show (true == false) = false from rfl, show (false == true) = false from rfl, show (false == false) = true from rfl, Tryz.underlying70, Tryz.underlying28, sz_3, sz_70, ag_3, ag_70, ze_70, Tryz.underlying22, Tryz.underlying30, sz_30, ag_30, ze_30, sz_28, ag_28, un_62, by_28, ze_28, partsA, fillA, putCells, replicateA, List.append_nil, List.nil_append, List.cons_append, Nat.reduceMul, lenA, natOf_0, natOf_1, Int.reduceLT, wl0, wl1, wl2, wl3, cast2, Nat.zero_mul, Nat.one_mul, Int.reduceAdd]
      exact ⟨rfl, rfl⟩
    simp only [Ex.thn]
    apply EvX.seq
    apply EvX.cond2 (t := true)
    · simp only [evalA, Tr.get_set, Nat.reduceEqDiff, if_true, if_false, reduceIte, Int.reduceLT, cast2, wl2, wl3, decide_true]
    rotate_left
    · intro h; cases h
    intro _
    apply EvX.skip
    simp only [Ex.thn, Ex.blk]
    apply EvX.seq
    apply EvX.block
    apply EvX.seq
    apply EvX.reg0
    · intro call
      simp only [QRun, stepA, wantedA, opA, pureA, loadA, effA, binA, bin, evalA, ofV, ofCell, Fr.put, enterA_n, enterA_t, setArgs, List.length_cons, List.length_nil, Tr.get_set, Nat.zero_testBit, cond_false, true_and, Nat.reduceAdd, Nat.reduceSub, ble_dec, beq_dec, Nat.reduceLeDiff, decide_true, decide_false, cond_true, Nat.reduceEqDiff, if_true, if_false, reduceIte, operands, Option.map_some, Option.map_none, CP_P, hfn, h0, h1, h21, h22, h23, natOf?, natOf_cast, hlt', hmul, encSums_length, hdr, hn1, hn2, List.drop_zero, List.drop_succ_cons, List.length_cons, takeN, Option.map_some, Nat.le_add_left, Nat.zero_le, Nat.reduceLeDiff, Mem.fresh, Mem.load, Mem.live, Win.read, Win.cell, setCells, Mem.empty, Mem.store, List.length_cons, List.length_nil, AV.cells, allCells, AV.isCell, takeN, Nat.zero_le, Nat.le_refl, Nat.zero_add, Nat.add_zero, Bool.not_false, Tr.get_nil, List.getElem?_toArray, List.getElem?_cons_zero, List.getElem?_cons_succ, beq_self_eq_true, Bool.and_true, Bool.true_and, Bool.and_self, eq_self, show (true == false) = false from rfl, show (false == true) = false from rfl, show (false == false) = true from rfl, Tryz.underlying70, Tryz.underlying28, sz_3, sz_70, ag_3, ag_70, ze_70, Tryz.underlying22, Tryz.underlying30, sz_30, ag_30, ze_30, sz_28, ag_28, un_62, by_28, ze_28, partsA, fillA, putCells, replicateA, List.append_nil, List.nil_append, List.cons_append, Nat.reduceMul, lenA, natOf_0, natOf_1, Int.reduceLT, wl0, wl1, wl2, wl3, cast2, Nat.zero_mul, Nat.one_mul, Int.reduceAdd]
      exact ⟨rfl, rfl⟩
    simp only [Ex.thn]
    apply EvX.seq
    apply EvX.reg 0
    · intro k _
      simp only [QRun, stepA, wantedA, opA, pureA, loadA, effA, binA, bin, evalA, ofV, ofCell, Fr.put, enterA_n, enterA_t, setArgs, List.length_cons, List.length_nil, Tr.get_set, Nat.zero_testBit, cond_false, true_and, Nat.reduceAdd, Nat.reduceSub, ble_dec, beq_dec, Nat.reduceLeDiff, decide_true, decide_false, cond_true, Nat.reduceEqDiff, if_true, if_false, reduceIte, operands, Option.map_some, Option.map_none, CP_P, hfn, h0, h1, h21, h22, h23, natOf?, natOf_cast, hlt', hmul, encSums_length, hdr, hn1, hn2, List.drop_zero, List.drop_succ_cons, List.length_cons, takeN, Option.map_some, Nat.le_add_left, Nat.zero_le, Nat.reduceLeDiff, Mem.fresh, Mem.load, Mem.live, Win.read, Win.cell, setCells, Mem.empty, Mem.store, List.length_cons, List.length_nil, AV.cells, allCells, AV.isCell, takeN, Nat.zero_le, Nat.le_refl, Nat.zero_add, Nat.add_zero, Bool.not_false, Tr.get_nil, List.getElem?_toArray, List.getElem?_cons_zero, List.getElem?_cons_succ, beq_self_eq_true, Bool.and_true, Bool.true_and, Bool.and_self, eq_self, show (true == false) = false from rfl, show (false == true) = false from rfl, show (false == false) = true from rfl, Tryz.underlying70, Tryz.underlying28, sz_3, sz_70, ag_3, ag_70, ze_70, Tryz.underlying22, Tryz.underlying30, sz_30, ag_30, ze_30, sz_28, ag_28, un_62, by_28, ze_28, partsA, fillA, putCells, replicateA, List.append_nil, List.nil_append, List.cons_append, Nat.reduceMul, lenA, cl_34, cE]
      exact ⟨rfl, rfl⟩
    simp only [Ex.thn]
    by_cases bE : pairsErr f p.ex = 0
    rotate_left
    · have dE : (pairsErr f p.ex != 0) = true := by simpa using bE
      apply EvX.seq
      apply EvX.reg0
      · intro call
        simp only [QRun, stepA, wantedA, opA, pureA, loadA, effA, binA, bin, evalA, ofV, ofCell, Fr.put, enterA_n, enterA_t, setArgs, List.length_cons, List.length_nil, Tr.get_set, Nat.zero_testBit, cond_false, true_and, Nat.reduceAdd, Nat.reduceSub, ble_dec, beq_dec, Nat.reduceLeDiff, decide_true, decide_false, cond_true, Nat.reduceEqDiff, if_true, if_false, reduceIte, operands, Option.map_some, Option.map_none, CP_P, hfn, dE]
        exact ⟨rfl, rfl⟩
      simp only [Ex.thn]
      apply EvX.cond2 (t := true)
      · simp only [evalA, Tr.get_set, Nat.reduceEqDiff, if_true, if_false, reduceIte]
      rotate_left
      · intro h; cases h
      intro _
      apply EvX.seq
      apply EvX.reg0
      · intro call
        simp only [QRun, stepA, wantedA, opA, pureA, loadA, effA, binA, bin, evalA, ofV, ofCell, Fr.put, enterA_n, enterA_t, setArgs, List.length_cons, List.length_nil, Tr.get_set, Nat.zero_testBit, cond_false, true_and, Nat.reduceAdd, Nat.reduceSub, ble_dec, beq_dec, Nat.reduceLeDiff, decide_true, decide_false, cond_true, Nat.reduceEqDiff, if_true, if_false, reduceIte, operands, Option.map_some, Option.map_none, CP_P, hfn]
        exact ⟨rfl, rfl⟩
      simp only [Ex.thn]
      apply EvX.ret
      simp only [Ex.thn, Ex.blk]
      exact Fin.one rfl (by rw [← hgo, if_pos bE]; simp [Tr.get_set])
    have dE : (pairsErr f p.ex != 0) = false := by simpa using bE
    rw [if_neg (show ¬ (pairsErr f p.ex ≠ 0) from fun h => h bE)] at hgo
    apply EvX.seq
    apply EvX.reg0
    · intro call
      simp only [QRun, stepA, wantedA, opA, pureA, loadA, effA, binA, bin, evalA, ofV, ofCell, Fr.put, enterA_n, enterA_t, setArgs, List.length_cons, List.length_nil, Tr.get_set, Nat.zero_testBit, cond_false, true_and, Nat.reduceAdd, Nat.reduceSub, ble_dec, beq_dec, Nat.reduceLeDiff, decide_true, decide_false, cond_true, Nat.reduceEqDiff, if_true, if_false, reduceIte, operands, Option.map_some, Option.map_none, CP_P, hfn, dE]
      exact ⟨rfl, rfl⟩
    simp only [Ex.thn]
    apply EvX.cond2 (t := false)
    · simp only [evalA, Tr.get_set, Nat.reduceEqDiff, if_true, if_false, reduceIte]
    · intro h; cases h
    intro _
    apply EvX.skip
    simp only [Ex.thn, Ex.blk]
    apply EvX.reg0
    · intro call
      simp only [QRun, stepA, wantedA, opA, pureA, loadA, effA, binA, bin, evalA, ofV, ofCell, Fr.put, enterA_n, enterA_t, setArgs, List.length_cons, List.length_nil, Tr.get_set, Nat.zero_testBit, cond_false, true_and, Nat.reduceAdd, Nat.reduceSub, ble_dec, beq_dec, Nat.reduceLeDiff, decide_true, decide_false, cond_true, Nat.reduceEqDiff, if_true, if_false, reduceIte, operands, Option.map_some, Option.map_none, CP_P, hfn, natOf_0, natOf_1, Int.reduceLT, wl0, wl1, wl2, wl3, cast2, Nat.zero_mul, Nat.one_mul, Int.reduceAdd]
      exact ⟨rfl, rfl⟩
    simp only [Ex.thn]
    apply EvX.loop1
    apply EvX.seq
    apply EvX.reg0
    · intro call
      simp only [QRun, stepA, wantedA, opA, pureA, loadA, effA, binA, bin, evalA, ofV, ofCell, Fr.put, enterA_n, enterA_t, setArgs, List.length_cons, List.length_nil, Tr.get_set, Nat.zero_testBit, cond_false, true_and, Nat.reduceAdd, Nat.reduceSub, ble_dec, beq_dec, Nat.reduceLeDiff, decide_true, decide_false, cond_true, Nat.reduceEqDiff, if_true, if_false, reduceIte, operands, Option.map_some, Option.map_none, CP_P, hfn, h0, h1, h21, h22, h23, natOf?, natOf_cast, hlt', hmul, encSums_length, hdr, hn1, hn2, List.drop_zero, List.drop_succ_cons, List.length_cons, takeN, Option.map_some, Nat.le_add_left, Nat.zero_le, Nat.reduceLeDiff, Mem.fresh, Mem.load, Mem.live, Win.read, Win.cell, setCells, Mem.empty, Mem.store, List.length_cons, List.length_nil, AV.cells, allCells, AV.isCell, takeN, Nat.zero_le, Nat.le_refl, Nat.zero_add, Nat.add_zero, Bool.not_false, Tr.get_nil, List.getElem?_toArray, List.getElem?_cons_zero, List.getElem?_cons_succ, beq_self_eq_true, Bool.and_true, Bool.true_and, Bool.and_self, eq_self, show (true == false) = false from rfl, show (false == true) = false from rfl, show (false == false) = true from rfl, Tryz.underlying70, Tryz.underlying28, sz_3, sz_70, ag_3, ag_70, ze_70, Tryz.underlying22, Tryz.underlying30, sz_30, ag_30, ze_30, sz_28, ag_28, un_62, by_28, ze_28, partsA, fillA, putCells, replicateA, List.append_nil, List.nil_append, List.cons_append, Nat.reduceMul, lenA, natOf_0, natOf_1, Int.reduceLT, wl0, wl1, wl2, wl3, cast2, Nat.zero_mul, Nat.one_mul, Int.reduceAdd]
      exact ⟨rfl, rfl⟩
    simp only [Ex.thn]
    apply EvX.seq
    apply EvX.cond2 (t := true)
    · simp only [evalA, Tr.get_set, Nat.reduceEqDiff, if_true, if_false, reduceIte, Int.reduceLT, cast2, wl2, wl3, decide_true]
    rotate_left
    · intro h; cases h
    intro _
    apply EvX.skip
    simp only [Ex.thn, Ex.blk]
    apply EvX.seq
    apply EvX.block
    apply EvX.seq
    apply EvX.reg0
    · intro call
      simp only [QRun, stepA, wantedA, opA, pureA, loadA, effA, binA, bin, evalA, ofV, ofCell, Fr.put, enterA_n, enterA_t, setArgs, List.length_cons, List.length_nil, Tr.get_set, Nat.zero_testBit, cond_false, true_and, Nat.reduceAdd, Nat.reduceSub, ble_dec, beq_dec, Nat.reduceLeDiff, decide_true, decide_false, cond_true, Nat.reduceEqDiff, if_true, if_false, reduceIte, operands, Option.map_some, Option.map_none, CP_P, hfn, h0, h1, h21, h22, h23, natOf?, natOf_cast, hlt', hmul, encSums_length, hdr, hn1, hn2, List.drop_zero, List.drop_succ_cons, List.length_cons, takeN, Option.map_some, Nat.le_add_left, Nat.zero_le, Nat.reduceLeDiff, Mem.fresh, Mem.load, Mem.live, Win.read, Win.cell, setCells, Mem.empty, Mem.store, List.length_cons, List.length_nil, AV.cells, allCells, AV.isCell, takeN, Nat.zero_le, Nat.le_refl, Nat.zero_add, Nat.add_zero, Bool.not_false, Tr.get_nil, List.getElem?_toArray, List.getElem?_cons_zero, List.getElem?_cons_succ, beq_self_eq_true, Bool.and_true, Bool.true_and, Bool.and_self, eq_self, show (true == false) = false from rfl, show (false == true) = false from rfl, show (false == false) = true from rfl, Tryz.underlying70, Tryz.underlying28, sz_3, sz_70, ag_3, ag_70, ze_70, Tryz.underlying22, Tryz.underlying30, sz_30, ag_30, ze_30, sz_28, ag_28, un_62, by_28, ze_28, partsA, fillA, putCells, replicateA, List.append_nil, List.nil_append, List.cons_append, Nat.reduceMul, lenA, natOf_0, natOf_1, Int.reduceLT, wl0, wl1, wl2, wl3, cast2, Nat.zero_mul, Nat.one_mul, Int.reduceAdd]
      exact ⟨rfl, rfl⟩
    simp only [Ex.thn]
    apply EvX.seq
    apply EvX.reg 0
    · intro k _
      simp only [QRun, stepA, wantedA, opA, pureA, loadA, effA, binA, bin, evalA, ofV, ofCell, Fr.put, enterA_n, enterA_t, setArgs, List.length_cons, List.length_nil, Tr.get_set, Nat.zero_testBit, cond_false, true_and, Nat.reduceAdd, Nat.reduceSub, ble_dec, beq_dec, Nat.reduceLeDiff, decide_true, decide_false, cond_true, Nat.reduceEqDiff, if_true, if_false, reduceIte, operands, Option.map_some, Option.map_none, CP_P, hfn, h0, h1, h21, h22, h23, natOf?, natOf_cast, hlt', hmul, encSums_length, hdr, hn1, hn2, List.drop_zero, List.drop_succ_cons, List.length_cons, takeN, Option.map_some, Nat.le_add_left, Nat.zero_le, Nat.reduceLeDiff, Mem.fresh, Mem.load, Mem.live, Win.read, Win.cell, setCells, Mem.empty, Mem.store, List.length_cons, List.length_nil, AV.cells, allCells, AV.isCell, takeN, Nat.zero_le, Nat.le_refl, Nat.zero_add, Nat.add_zero, Bool.not_false, Tr.get_nil, List.getElem?_toArray, List.getElem?_cons_zero, List.getElem?_cons_succ, beq_self_eq_true, Bool.and_true, Bool.true_and, Bool.and_self, eq_self, show (true == false) = false from rfl, show (false == true) = false from rfl, show (false == false) = true from rfl, Tryz.underlying70, Tryz.underlying28, sz_3, sz_70, ag_3, ag_70, ze_70, Tryz.underlying22, Tryz.underlying30, sz_30, ag_30, ze_30, sz_28, ag_28, un_62, by_28, ze_28, partsA, fillA, putCells, replicateA, List.append_nil, List.nil_append, List.cons_append, Nat.reduceMul, lenA, cl_34, cT]
      exact ⟨rfl, rfl⟩
    simp only [Ex.thn]
    by_cases bT : pairsErr f p.th = 0
    rotate_left
    · have dT : (pairsErr f p.th != 0) = true := by simpa using bT
      apply EvX.seq
      apply EvX.reg0
      · intro call
        simp only [QRun, stepA, wantedA, opA, pureA, loadA, effA, binA, bin, evalA, ofV, ofCell, Fr.put, enterA_n, enterA_t, setArgs, List.length_cons, List.length_nil, Tr.get_set, Nat.zero_testBit, cond_false, true_and, Nat.reduceAdd, Nat.reduceSub, ble_dec, beq_dec, Nat.reduceLeDiff, decide_true, decide_false, cond_true, Nat.reduceEqDiff, if_true, if_false, reduceIte, operands, Option.map_some, Option.map_none, CP_P, hfn, dT]
        exact ⟨rfl, rfl⟩
      simp only [Ex.thn]
      apply EvX.cond2 (t := true)
      · simp only [evalA, Tr.get_set, Nat.reduceEqDiff, if_true, if_false, reduceIte]
      rotate_left
      · intro h; cases h
      intro _
      apply EvX.seq
      apply EvX.reg0
      · intro call
        simp only [QRun, stepA, wantedA, opA, pureA, loadA, effA, binA, bin, evalA, ofV, ofCell, Fr.put, enterA_n, enterA_t, setArgs, List.length_cons, List.length_nil, Tr.get_set, Nat.zero_testBit, cond_false, true_and, Nat.reduceAdd, Nat.reduceSub, ble_dec, beq_dec, Nat.reduceLeDiff, decide_true, decide_false, cond_true, Nat.reduceEqDiff, if_true, if_false, reduceIte, operands, Option.map_some, Option.map_none, CP_P, hfn]
        exact ⟨rfl, rfl⟩
      simp only [Ex.thn]
      apply EvX.ret
      simp only [Ex.thn, Ex.blk]
      exact Fin.one rfl (by rw [← hgo, if_pos bT]; simp [Tr.get_set])
    have dT : (pairsErr f p.th != 0) = false := by simpa using bT
    rw [if_neg (show ¬ (pairsErr f p.th ≠ 0) from fun h => h bT)] at hgo
    apply EvX.seq
    apply EvX.reg0
    · intro call
      simp only [QRun, stepA, wantedA, opA, pureA, loadA, effA, binA, bin, evalA, ofV, ofCell, Fr.put, enterA_n, enterA_t, setArgs, List.length_cons, List.length_nil, Tr.get_set, Nat.zero_testBit, cond_false, true_and, Nat.reduceAdd, Nat.reduceSub, ble_dec, beq_dec, Nat.reduceLeDiff, decide_true, decide_false, cond_true, Nat.reduceEqDiff, if_true, if_false, reduceIte, operands, Option.map_some, Option.map_none, CP_P, hfn, dT]
      exact ⟨rfl, rfl⟩
    simp only [Ex.thn]
    apply EvX.cond2 (t := false)
    · simp only [evalA, Tr.get_set, Nat.reduceEqDiff, if_true, if_false, reduceIte]
    · intro h; cases h
    intro _
    apply EvX.skip
    simp only [Ex.thn, Ex.blk]
    apply EvX.reg0
    · intro call
      simp only [QRun, stepA, wantedA, opA, pureA, loadA, effA, binA, bin, evalA, ofV, ofCell, Fr.put, enterA_n, enterA_t, setArgs, List.length_cons, List.length_nil, Tr.get_set, Nat.zero_testBit, cond_false, true_and, Nat.reduceAdd, Nat.reduceSub, ble_dec, beq_dec, Nat.reduceLeDiff, decide_true, decide_false, cond_true, Nat.reduceEqDiff, if_true, if_false, reduceIte, operands, Option.map_some, Option.map_none, CP_P, hfn, natOf_0, natOf_1, Int.reduceLT, wl0, wl1, wl2, wl3, cast2, Nat.zero_mul, Nat.one_mul, Int.reduceAdd]
      exact ⟨rfl, rfl⟩
    simp only [Ex.thn]
    apply EvX.loop1
    apply EvX.seq
    apply EvX.reg0
    · intro call
      simp only [QRun, stepA, wantedA, opA, pureA, loadA, effA, binA, bin, evalA, ofV, ofCell, Fr.put, enterA_n, enterA_t, setArgs, List.length_cons, List.length_nil, Tr.get_set, Nat.zero_testBit, cond_false, true_and, Nat.reduceAdd, Nat.reduceSub, ble_dec, beq_dec, Nat.reduceLeDiff, decide_true, decide_false, cond_true, Nat.reduceEqDiff, if_true, if_false, reduceIte, operands, Option.map_some, Option.map_none, CP_P, hfn, h0, h1, h21, h22, h23, natOf?, natOf_cast, hlt', hmul, encSums_length, hdr, hn1, hn2, List.drop_zero, List.drop_succ_cons, List.length_cons, takeN, Option.map_some, Nat.le_add_left, Nat.zero_le, Nat.reduceLeDiff, Mem.fresh, Mem.load, Mem.live, Win.read, Win.cell, setCells, Mem.empty, Mem.store, List.length_cons, List.length_nil, AV.cells, allCells, AV.isCell, takeN, Nat.zero_le, Nat.le_refl, Nat.zero_add, Nat.add_zero, Bool.not_false, Tr.get_nil, List.getElem?_toArray, List.getElem?_cons_zero, List.getElem?_cons_succ, beq_self_eq_true, Bool.and_true, Bool.true_and, Bool.and_self, eq_self, show (true == false) = false from rfl, show (false == true) = false from rfl, show (false == false) = true from rfl, Tryz.underlying70, Tryz.underlying28, sz_3, sz_70, ag_3, ag_70, ze_70, Tryz.underlying22, Tryz.underlying30, sz_30, ag_30, ze_30, sz_28, ag_28, un_62, by_28, ze_28, partsA, fillA, putCells, replicateA, List.append_nil, List.nil_append, List.cons_append, Nat.reduceMul, lenA, natOf_0, natOf_1, Int.reduceLT, wl0, wl1, wl2, wl3, cast2, Nat.zero_mul, Nat.one_mul, Int.reduceAdd]
      exact ⟨rfl, rfl⟩
    simp only [Ex.thn]
    apply EvX.seq
    apply EvX.cond2 (t := false)
    · simp only [evalA, Tr.get_set, Nat.reduceEqDiff, if_true, if_false, reduceIte, Int.reduceLT, cast2, wl2, wl3, decide_false]
    · intro h; cases h
    intro _
    apply EvX.exit
    simp only [Ex.thn, Ex.blk, beq_dec, decide_true, cond_true]
    apply EvX.reg0
    · intro call
      simp only [QRun, stepA, wantedA, opA, pureA, loadA, effA, binA, bin, evalA, ofV, ofCell, Fr.put, enterA_n, enterA_t, setArgs, List.length_cons, List.length_nil, Tr.get_set, Nat.zero_testBit, cond_false, true_and, Nat.reduceAdd, Nat.reduceSub, ble_dec, beq_dec, Nat.reduceLeDiff, decide_true, decide_false, cond_true, Nat.reduceEqDiff, if_true, if_false, reduceIte, operands, Option.map_some, Option.map_none, CP_P, hfn, h23, wrap_succ (show 0 + 1 ≤ 9223372036854775807 by omega)]
      exact ⟨rfl, rfl⟩
    simp only [Ex.thn]
    refine ⟨l.length - (0 + 1), by omega, 0 + 1, rfl, hlt', trivial, ?_, ?_, ?_, ?_, ?_, ?_⟩
    · simp [Tr.get_set, h0]
    · simp [Tr.get_set, h1]
    · simp [Tr.get_set, h21]
    · simp [Tr.get_set, h22]
    · simp [Tr.get_set]
    · exact hgo
  · have d5 : decide (((j + 1 : Nat) : Int) > 0) = true := decide_eq_true (by omega)
    have hj : j < l.length := by omega
    have hj' : j + 1 ≤ l.length := hj
    have hmul' : j * 3 ≤ l.length * 3 := by omega
    have hdq := dropSum hj
    have hprev : fnBefore l (j + 1) = some l[j].fn := by show (l[j]?).map (·.fn) = _; rw [List.getElem?_eq_getElem hj]; rfl
    rw [hprev] at hgo
    generalize hq : l[j] = q at hdq hgo
    by_cases b6 : q.fn ≥ p.fn
    · have d6 := decide_eq_true b6
      apply EvX.seq
      apply EvX.drw 0 0
      · kernel_rfl
      · intro k _
        simp only [QRun, stepA, wantedA, opA, pureA, loadA, effA, binA, bin, evalA, ofV, ofCell, Fr.put, enterA_n, enterA_t, setArgs, List.length_cons, List.length_nil, Tr.get_set, Nat.zero_testBit, cond_false, true_and, Nat.reduceAdd, Nat.reduceSub, ble_dec, beq_dec, Nat.reduceLeDiff, decide_true, decide_false, cond_true, Nat.reduceEqDiff, if_true, if_false, reduceIte, operands, Option.map_some, Option.map_none, CP_P, Mem.fresh, Mem.load, Mem.live, Win.read, Win.cell, setCells, Mem.empty, Mem.store, List.length_cons, List.length_nil, AV.cells, allCells, AV.isCell, takeN, Nat.zero_le, Nat.le_refl, Nat.zero_add, Nat.add_zero, Bool.not_false, Tr.get_nil, List.getElem?_toArray, List.getElem?_cons_zero, List.getElem?_cons_succ, beq_self_eq_true, Bool.and_true, Bool.true_and, Bool.and_self, eq_self, show (true == false) = false from rfl, show (false == true) = false from rfl, show (false == false) = true from rfl, Tryz.underlying70, Tryz.underlying28, sz_3, sz_70, ag_3, ag_70, ze_70, Tryz.underlying22, Tryz.underlying30, sz_30, ag_30, ze_30, sz_28, ag_28, show Nat.testBit 0 0 = false from rfl, show Nat.testBit 0 1 = false from rfl, show Nat.testBit 0 2 = false from rfl, show Nat.testBit 0 3 = false from rfl, show Nat.testBit 0 4 = false from rfl, show Nat.testBit 0 5 = false from rfl, show Nat.testBit 0 6 = false from rfl, show Nat.testBit 0 7 = false from rfl, show Nat.testBit 0 8 = false from rfl, show Nat.testBit 0 9 = false from rfl, show Nat.testBit 0 10 = false from rfl, show Nat.testBit 0 11 = false from rfl, show Nat.testBit 0 12 = false from rfl, hfn, h0, d5, wrap_pred (show j + 1 ≤ 9223372036854775807 by omega), natOf?, natOf_cast, hj', hlt', hmul, hmul', encSums_length, hdr, hdq, hn1, hn2, List.drop_zero, List.drop_succ_cons, List.length_cons, takeN, Option.map_some, Nat.le_add_left, Nat.zero_le, d6]
        exact ⟨rfl, rfl⟩
      simp only [Ex.thn]
      apply EvX.cond2 (t := true)
      · simp only [evalA, Tr.get_set, Nat.reduceEqDiff, if_true, if_false, reduceIte]
      rotate_left
      · intro h; cases h
      intro _
      apply EvX.seq
      apply EvX.reg0
      · intro call
        simp only [QRun, stepA, wantedA, opA, pureA, loadA, effA, binA, bin, evalA, ofV, ofCell, Fr.put, enterA_n, enterA_t, setArgs, List.length_cons, List.length_nil, Tr.get_set, Nat.zero_testBit, cond_false, true_and, Nat.reduceAdd, Nat.reduceSub, ble_dec, beq_dec, Nat.reduceLeDiff, decide_true, decide_false, cond_true, Nat.reduceEqDiff, if_true, if_false, reduceIte, operands, Option.map_some, Option.map_none, CP_P, hfn]
        exact ⟨rfl, rfl⟩
      simp only [Ex.thn]
      apply EvX.ret
      simp only [Ex.thn, Ex.blk]
      exact Fin.one rfl (by rw [← hgo, if_pos (show notMore (some q.fn) p.fn from b6)]; simp [Tr.get_set])
    have d6 := decide_eq_false b6
    rw [if_neg (show ¬ notMore (some q.fn) p.fn from b6)] at hgo
    apply EvX.seq
    apply EvX.drw 0 0
    · kernel_rfl
    · intro k _
      simp only [QRun, stepA, wantedA, opA, pureA, loadA, effA, binA, bin, evalA, ofV, ofCell, Fr.put, enterA_n, enterA_t, setArgs, List.length_cons, List.length_nil, Tr.get_set, Nat.zero_testBit, cond_false, true_and, Nat.reduceAdd, Nat.reduceSub, ble_dec, beq_dec, Nat.reduceLeDiff, decide_true, decide_false, cond_true, Nat.reduceEqDiff, if_true, if_false, reduceIte, operands, Option.map_some, Option.map_none, CP_P, Mem.fresh, Mem.load, Mem.live, Win.read, Win.cell, setCells, Mem.empty, Mem.store, List.length_cons, List.length_nil, AV.cells, allCells, AV.isCell, takeN, Nat.zero_le, Nat.le_refl, Nat.zero_add, Nat.add_zero, Bool.not_false, Tr.get_nil, List.getElem?_toArray, List.getElem?_cons_zero, List.getElem?_cons_succ, beq_self_eq_true, Bool.and_true, Bool.true_and, Bool.and_self, eq_self, show (true == false) = false from rfl, show (false == true) = false from rfl, show (false == false) = true from rfl, Tryz.underlying70, Tryz.underlying28, sz_3, sz_70, ag_3, ag_70, ze_70, Tryz.underlying22, Tryz.underlying30, sz_30, ag_30, ze_30, sz_28, ag_28, show Nat.testBit 0 0 = false from rfl, show Nat.testBit 0 1 = false from rfl, show Nat.testBit 0 2 = false from rfl, show Nat.testBit 0 3 = false from rfl, show Nat.testBit 0 4 = false from rfl, show Nat.testBit 0 5 = false from rfl, show Nat.testBit 0 6 = false from rfl, show Nat.testBit 0 7 = false from rfl, show Nat.testBit 0 8 = false from rfl, show Nat.testBit 0 9 = false from rfl, show Nat.testBit 0 10 = false from rfl, show Nat.testBit 0 11 = false from rfl, show Nat.testBit 0 12 = false from rfl, hfn, h0, d5, wrap_pred (show j + 1 ≤ 9223372036854775807 by omega), natOf?, natOf_cast, hj', hlt', hmul, hmul', encSums_length, hdr, hdq, hn1, hn2, List.drop_zero, List.drop_succ_cons, List.length_cons, takeN, Option.map_some, Nat.le_add_left, Nat.zero_le, d6]
      exact ⟨rfl, rfl⟩
    simp only [Ex.thn]
    apply EvX.cond2 (t := false)
    · simp only [evalA, Tr.get_set, Nat.reduceEqDiff, if_true, if_false, reduceIte]
    · intro h; cases h
    intro _
    apply EvX.skip
    simp only [Ex.thn, Ex.blk]
    apply EvX.seq
    apply EvX.reg0
    · intro call
      simp only [QRun, stepA, wantedA, opA, pureA, loadA, effA, binA, bin, evalA, ofV, ofCell, Fr.put, enterA_n, enterA_t, setArgs, List.length_cons, List.length_nil, Tr.get_set, Nat.zero_testBit, cond_false, true_and, Nat.reduceAdd, Nat.reduceSub, ble_dec, beq_dec, Nat.reduceLeDiff, decide_true, decide_false, cond_true, Nat.reduceEqDiff, if_true, if_false, reduceIte, operands, Option.map_some, Option.map_none, CP_P, hfn, h0, h1, h21, h22, h23, natOf?, natOf_cast, hlt', hmul, encSums_length, hdr, hn1, hn2, List.drop_zero, List.drop_succ_cons, List.length_cons, takeN, Option.map_some, Nat.le_add_left, Nat.zero_le, Nat.reduceLeDiff, Mem.fresh, Mem.load, Mem.live, Win.read, Win.cell, setCells, Mem.empty, Mem.store, List.length_cons, List.length_nil, AV.cells, allCells, AV.isCell, takeN, Nat.zero_le, Nat.le_refl, Nat.zero_add, Nat.add_zero, Bool.not_false, Tr.get_nil, List.getElem?_toArray, List.getElem?_cons_zero, List.getElem?_cons_succ, beq_self_eq_true, Bool.and_true, Bool.true_and, Bool.and_self, eq_self, show (true == false) = false from rfl, show (false == true) = false from rfl, show (false == false) = true from rfl, Tryz.underlying70, Tryz.underlying28, sz_3, sz_70, ag_3, ag_70, ze_70, Tryz.underlying22, Tryz.underlying30, sz_30, ag_30, ze_30, sz_28, ag_28, un_62, by_28, ze_28, partsA, fillA, putCells, replicateA, List.append_nil, List.nil_append, List.cons_append, Nat.reduceMul, lenA]
      exact ⟨rfl, rfl⟩
    simp only [Ex.thn]
    apply EvX.block
    apply EvX.loop1
    apply EvX.seq
    apply EvX.reg0
    · intro call
      simp only [QRun, stepA, wantedA, opA, pureA, loadA, effA, binA, bin, evalA, ofV, ofCell, Fr.put, enterA_n, enterA_t, setArgs, List.length_cons, List.length_nil, Tr.get_set, Nat.zero_testBit, cond_false, true_and, Nat.reduceAdd, Nat.reduceSub, ble_dec, beq_dec, Nat.reduceLeDiff, decide_true, decide_false, cond_true, Nat.reduceEqDiff, if_true, if_false, reduceIte, operands, Option.map_some, Option.map_none, CP_P, hfn, h0, h1, h21, h22, h23, natOf?, natOf_cast, hlt', hmul, encSums_length, hdr, hn1, hn2, List.drop_zero, List.drop_succ_cons, List.length_cons, takeN, Option.map_some, Nat.le_add_left, Nat.zero_le, Nat.reduceLeDiff, Mem.fresh, Mem.load, Mem.live, Win.read, Win.cell, setCells, Mem.empty, Mem.store, List.length_cons, List.length_nil, AV.cells, allCells, AV.isCell, takeN, Nat.zero_le, Nat.le_refl, Nat.zero_add, Nat.add_zero, Bool.not_false, Tr.get_nil, List.getElem?_toArray, List.getElem?_cons_zero, List.getElem?_cons_succ, beq_self_eq_true, Bool.and_true, Bool.true_and, Bool.and_self, eq_self, show (true == false) = false from rfl, show (false == true) = false from rfl, show (false == false) = true from rfl, Tryz.underlying70, Tryz.underlying28, sz_3, sz_70, ag_3, ag_70, ze_70, Tryz.underlying22, Tryz.underlying30, sz_30, ag_30, ze_30, sz_28, ag_28, un_62, by_28, ze_28, partsA, fillA, putCells, replicateA, List.append_nil, List.nil_append, List.cons_append, Nat.reduceMul, lenA, natOf_0, natOf_1, Int.reduceLT, wl0, wl1, wl2, wl3, cast2, Nat.zero_mul, Nat.one_mul, Int.reduceAdd]
      exact ⟨rfl, rfl⟩
    simp only [Ex.thn]
    apply EvX.seq
    apply EvX.cond2 (t := true)
    · simp only [evalA, Tr.get_set, Nat.reduceEqDiff, if_true, if_false, reduceIte, Int.reduceLT, cast2, wl2, wl3, decide_true]
    rotate_left
    · intro h; cases h
    intro _
    apply EvX.skip
    simp only [Ex.thn, Ex.blk]
    apply EvX.seq
    apply EvX.block
    apply EvX.seq
    apply EvX.reg0
    · intro call
      simp only [QRun, stepA, wantedA, opA, pureA, loadA, effA, binA, bin, evalA, ofV, ofCell, Fr.put, enterA_n, enterA_t, setArgs, List.length_cons, List.length_nil, Tr.get_set, Nat.zero_testBit, cond_false, true_and, Nat.reduceAdd, Nat.reduceSub, ble_dec, beq_dec, Nat.reduceLeDiff, decide_true, decide_false, cond_true, Nat.reduceEqDiff, if_true, if_false, reduceIte, operands, Option.map_some, Option.map_none, CP_P, hfn, h0, h1, h21, h22, h23, natOf?, natOf_cast, hlt', hmul, encSums_length, hdr, hn1, hn2, List.drop_zero, List.drop_succ_cons, List.length_cons, takeN, Option.map_some, Nat.le_add_left, Nat.zero_le, Nat.reduceLeDiff, Mem.fresh, Mem.load, Mem.live, Win.read, Win.cell, setCells, Mem.empty, Mem.store, List.length_cons, List.length_nil, AV.cells, allCells, AV.isCell, takeN, Nat.zero_le, Nat.le_refl, Nat.zero_add, Nat.add_zero, Bool.not_false, Tr.get_nil, List.getElem?_toArray, List.getElem?_cons_zero, List.getElem?_cons_succ, beq_self_eq_true, Bool.and_true, Bool.true_and, Bool.and_self, eq_self, show (true == false) = false from rfl, show (false == true) = false from rfl, show (false == false) = true from rfl, Tryz.underlying70, Tryz.underlying28, sz_3, sz_70, ag_3, ag_70, ze_70, Tryz.underlying22, Tryz.underlying30, sz_30, ag_30, ze_30, sz_28, ag_28, un_62, by_28, ze_28, partsA, fillA, putCells, replicateA, List.append_nil, List.nil_append, List.cons_append, Nat.reduceMul, lenA, natOf_0, natOf_1, Int.reduceLT, wl0, wl1, wl2, wl3, cast2, Nat.zero_mul, Nat.one_mul, Int.reduceAdd]
      exact ⟨rfl, rfl⟩
    simp only [Ex.thn]
    apply EvX.seq
    apply EvX.reg 0
    · intro k _
      simp only [QRun, stepA, wantedA, opA, pureA, loadA, effA, binA, bin, evalA, ofV, ofCell, Fr.put, enterA_n, enterA_t, setArgs, List.length_cons, List.length_nil, Tr.get_set, Nat.zero_testBit, cond_false, true_and, Nat.reduceAdd, Nat.reduceSub, ble_dec, beq_dec, Nat.reduceLeDiff, decide_true, decide_false, cond_true, Nat.reduceEqDiff, if_true, if_false, reduceIte, operands, Option.map_some, Option.map_none, CP_P, hfn, h0, h1, h21, h22, h23, natOf?, natOf_cast, hlt', hmul, encSums_length, hdr, hn1, hn2, List.drop_zero, List.drop_succ_cons, List.length_cons, takeN, Option.map_some, Nat.le_add_left, Nat.zero_le, Nat.reduceLeDiff, Mem.fresh, Mem.load, Mem.live, Win.read, Win.cell, setCells, Mem.empty, Mem.store, List.length_cons, List.length_nil, AV.cells, allCells, AV.isCell, takeN, Nat.zero_le, Nat.le_refl, Nat.zero_add, Nat.add_zero, Bool.not_false, Tr.get_nil, List.getElem?_toArray, List.getElem?_cons_zero, List.getElem?_cons_succ, beq_self_eq_true, Bool.and_true, Bool.true_and, Bool.and_self, eq_self, show (true == false) = false from rfl, show (false == true) = false from rfl, show (false == false) = true from rfl, Tryz.underlying70, Tryz.underlying28, sz_3, sz_70, ag_3, ag_70, ze_70, Tryz.underlying22, Tryz.underlying30, sz_30, ag_30, ze_30, sz_28, ag_28, un_62, by_28, ze_28, partsA, fillA, putCells, replicateA, List.append_nil, List.nil_append, List.cons_append, Nat.reduceMul, lenA, cl_34, cE]
      exact ⟨rfl, rfl⟩
    simp only [Ex.thn]
    by_cases bE : pairsErr f p.ex = 0
    rotate_left
    · have dE : (pairsErr f p.ex != 0) = true := by simpa using bE
      apply EvX.seq
      apply EvX.reg0
      · intro call
        simp only [QRun, stepA, wantedA, opA, pureA, loadA, effA, binA, bin, evalA, ofV, ofCell, Fr.put, enterA_n, enterA_t, setArgs, List.length_cons, List.length_nil, Tr.get_set, Nat.zero_testBit, cond_false, true_and, Nat.reduceAdd, Nat.reduceSub, ble_dec, beq_dec, Nat.reduceLeDiff, decide_true, decide_false, cond_true, Nat.reduceEqDiff, if_true, if_false, reduceIte, operands, Option.map_some, Option.map_none, CP_P, hfn, dE]
        exact ⟨rfl, rfl⟩
      simp only [Ex.thn]
      apply EvX.cond2 (t := true)
      · simp only [evalA, Tr.get_set, Nat.reduceEqDiff, if_true, if_false, reduceIte]
      rotate_left
      · intro h; cases h
      intro _
      apply EvX.seq
      apply EvX.reg0
      · intro call
        simp only [QRun, stepA, wantedA, opA, pureA, loadA, effA, binA, bin, evalA, ofV, ofCell, Fr.put, enterA_n, enterA_t, setArgs, List.length_cons, List.length_nil, Tr.get_set, Nat.zero_testBit, cond_false, true_and, Nat.reduceAdd, Nat.reduceSub, ble_dec, beq_dec, Nat.reduceLeDiff, decide_true, decide_false, cond_true, Nat.reduceEqDiff, if_true, if_false, reduceIte, operands, Option.map_some, Option.map_none, CP_P, hfn]
        exact ⟨rfl, rfl⟩
      simp only [Ex.thn]
      apply EvX.ret
      simp only [Ex.thn, Ex.blk]
      exact Fin.one rfl (by rw [← hgo, if_pos bE]; simp [Tr.get_set])
    have dE : (pairsErr f p.ex != 0) = false := by simpa using bE
    rw [if_neg (show ¬ (pairsErr f p.ex ≠ 0) from fun h => h bE)] at hgo
    apply EvX.seq
    apply EvX.reg0
    · intro call
      simp only [QRun, stepA, wantedA, opA, pureA, loadA, effA, binA, bin, evalA, ofV, ofCell, Fr.put, enterA_n, enterA_t, setArgs, List.length_cons, List.length_nil, Tr.get_set, Nat.zero_testBit, cond_false, true_and, Nat.reduceAdd, Nat.reduceSub, ble_dec, beq_dec, Nat.reduceLeDiff, decide_true, decide_false, cond_true, Nat.reduceEqDiff, if_true, if_false, reduceIte, operands, Option.map_some, Option.map_none, CP_P, hfn, dE]
      exact ⟨rfl, rfl⟩
    simp only [Ex.thn]
    apply EvX.cond2 (t := false)
    · simp only [evalA, Tr.get_set, Nat.reduceEqDiff, if_true, if_false, reduceIte]
    · intro h; cases h
    intro _
    apply EvX.skip
    simp only [Ex.thn, Ex.blk]
    apply EvX.reg0
    · intro call
      simp only [QRun, stepA, wantedA, opA, pureA, loadA, effA, binA, bin, evalA, ofV, ofCell, Fr.put, enterA_n, enterA_t, setArgs, List.length_cons, List.length_nil, Tr.get_set, Nat.zero_testBit, cond_false, true_and, Nat.reduceAdd, Nat.reduceSub, ble_dec, beq_dec, Nat.reduceLeDiff, decide_true, decide_false, cond_true, Nat.reduceEqDiff, if_true, if_false, reduceIte, operands, Option.map_some, Option.map_none, CP_P, hfn, natOf_0, natOf_1, Int.reduceLT, wl0, wl1, wl2, wl3, cast2, Nat.zero_mul, Nat.one_mul, Int.reduceAdd]
      exact ⟨rfl, rfl⟩
    simp only [Ex.thn]
    apply EvX.loop1
    apply EvX.seq
    apply EvX.reg0
    · intro call
      simp only [QRun, stepA, wantedA, opA, pureA, loadA, effA, binA, bin, evalA, ofV, ofCell, Fr.put, enterA_n, enterA_t, setArgs, List.length_cons, List.length_nil, Tr.get_set, Nat.zero_testBit, cond_false, true_and, Nat.reduceAdd, Nat.reduceSub, ble_dec, beq_dec, Nat.reduceLeDiff, decide_true, decide_false, cond_true, Nat.reduceEqDiff, if_true, if_false, reduceIte, operands, Option.map_some, Option.map_none, CP_P, hfn, h0, h1, h21, h22, h23, natOf?, natOf_cast, hlt', hmul, encSums_length, hdr, hn1, hn2, List.drop_zero, List.drop_succ_cons, List.length_cons, takeN, Option.map_some, Nat.le_add_left, Nat.zero_le, Nat.reduceLeDiff, Mem.fresh, Mem.load, Mem.live, Win.read, Win.cell, setCells, Mem.empty, Mem.store, List.length_cons, List.length_nil, AV.cells, allCells, AV.isCell, takeN, Nat.zero_le, Nat.le_refl, Nat.zero_add, Nat.add_zero, Bool.not_false, Tr.get_nil, List.getElem?_toArray, List.getElem?_cons_zero, List.getElem?_cons_succ, beq_self_eq_true, Bool.and_true, Bool.true_and, Bool.and_self, eq_self, show (true == false) = false from rfl, show (false == true) = false from rfl, show (false == false) = true from rfl, Tryz.underlying70, Tryz.underlying28, sz_3, sz_70, ag_3, ag_70, ze_70, Tryz.underlying22, Tryz.underlying30, sz_30, ag_30, ze_30, sz_28, ag_28, un_62, by_28, ze_28, partsA, fillA, putCells, replicateA, List.append_nil, List.nil_append, List.cons_append, Nat.reduceMul, lenA, natOf_0, natOf_1, Int.reduceLT, wl0, wl1, wl2, wl3, cast2, Nat.zero_mul, Nat.one_mul, Int.reduceAdd]
      exact ⟨rfl, rfl⟩
    simp only [Ex.thn]
    apply EvX.seq
    apply EvX.cond2 (t := true)
    · simp only [evalA, Tr.get_set, Nat.reduceEqDiff, if_true, if_false, reduceIte, Int.reduceLT, cast2, wl2, wl3, decide_true]
    rotate_left
    · intro h; cases h
    intro _
    apply EvX.skip
    simp only [Ex.thn, Ex.blk]
    apply EvX.seq
    apply EvX.block
    apply EvX.seq
    apply EvX.reg0
    · intro call
      simp only [QRun, stepA, wantedA, opA, pureA, loadA, effA, binA, bin, evalA, ofV, ofCell, Fr.put, enterA_n, enterA_t, setArgs, List.length_cons, List.length_nil, Tr.get_set, Nat.zero_testBit, cond_false, true_and, Nat.reduceAdd, Nat.reduceSub, ble_dec, beq_dec, Nat.reduceLeDiff, decide_true, decide_false, cond_true, Nat.reduceEqDiff, if_true, if_false, reduceIte, operands, Option.map_some, Option.map_none, CP_P, hfn, h0, h1, h21, h22, h23, natOf?, natOf_cast, hlt', hmul, encSums_length, hdr, hn1, hn2, List.drop_zero, List.drop_succ_cons, List.length_cons, takeN, Option.map_some, Nat.le_add_left, Nat.zero_le, Nat.reduceLeDiff, Mem.fresh, Mem.load, Mem.live, Win.read, Win.cell, setCells, Mem.empty, Mem.store, List.length_cons, List.length_nil, AV.cells, allCells, AV.isCell, takeN, Nat.zero_le, Nat.le_refl, Nat.zero_add, Nat.add_zero, Bool.not_false, Tr.get_nil, List.getElem?_toArray, List.getElem?_cons_zero, List.getElem?_cons_succ, beq_self_eq_true, Bool.and_true, Bool.true_and, Bool.and_self, eq_self, show (true == false) = false from rfl, show (false == true) = false from rfl, show (false == false) = true from rfl, Tryz.underlying70, Tryz.underlying28, sz_3, sz_70, ag_3, ag_70, ze_70, Tryz.underlying22, Tryz.underlying30, sz_30, ag_30, ze_30, sz_28, ag_28, un_62, by_28, ze_28, partsA, fillA, putCells, replicateA, List.append_nil, List.nil_append, List.cons_append, Nat.reduceMul, lenA, natOf_0, natOf_1, Int.reduceLT, wl0, wl1, wl2, wl3, cast2, Nat.zero_mul, Nat.one_mul, Int.reduceAdd]
      exact ⟨rfl, rfl⟩
    simp only [Ex.thn]
    apply EvX.seq
    apply EvX.reg 0
    · intro k _
      simp only [QRun, stepA, wantedA, opA, pureA, loadA, effA, binA, bin, evalA, ofV, ofCell, Fr.put, enterA_n, enterA_t, setArgs, List.length_cons, List.length_nil, Tr.get_set, Nat.zero_testBit, cond_false, true_and, Nat.reduceAdd, Nat.reduceSub, ble_dec, beq_dec, Nat.reduceLeDiff, decide_true, decide_false, cond_true, Nat.reduceEqDiff, if_true, if_false, reduceIte, operands, Option.map_some, Option.map_none, CP_P, hfn, h0, h1, h21, h22, h23, natOf?, natOf_cast, hlt', hmul, encSums_length, hdr, hn1, hn2, List.drop_zero, List.drop_succ_cons, List.length_cons, takeN, Option.map_some, Nat.le_add_left, Nat.zero_le, Nat.reduceLeDiff, Mem.fresh, Mem.load, Mem.live, Win.read, Win.cell, setCells, Mem.empty, Mem.store, List.length_cons, List.length_nil, AV.cells, allCells, AV.isCell, takeN, Nat.zero_le, Nat.le_refl, Nat.zero_add, Nat.add_zero, Bool.not_false, Tr.get_nil, List.getElem?_toArray, List.getElem?_cons_zero, List.getElem?_cons_succ, beq_self_eq_true, Bool.and_true, Bool.true_and, Bool.and_self, eq_self, show (true == false) = false from rfl, show (false == true) = false from rfl, show (false == false) = true from rfl, Tryz.underlying70, Tryz.underlying28, sz_3, sz_70, ag_3, ag_70, ze_70, Tryz.underlying22, Tryz.underlying30, sz_30, ag_30, ze_30, sz_28, ag_28, un_62, by_28, ze_28, partsA, fillA, putCells, replicateA, List.append_nil, List.nil_append, List.cons_append, Nat.reduceMul, lenA, cl_34, cT]
      exact ⟨rfl, rfl⟩
    simp only [Ex.thn]
    by_cases bT : pairsErr f p.th = 0
    rotate_left
    · have dT : (pairsErr f p.th != 0) = true := by simpa using bT
      apply EvX.seq
      apply EvX.reg0
      · intro call
        simp only [QRun, stepA, wantedA, opA, pureA, loadA, effA, binA, bin, evalA, ofV, ofCell, Fr.put, enterA_n, enterA_t, setArgs, List.length_cons, List.length_nil, Tr.get_set, Nat.zero_testBit, cond_false, true_and, Nat.reduceAdd, Nat.reduceSub, ble_dec, beq_dec, Nat.reduceLeDiff, decide_true, decide_false, cond_true, Nat.reduceEqDiff, if_true, if_false, reduceIte, operands, Option.map_some, Option.map_none, CP_P, hfn, dT]
        exact ⟨rfl, rfl⟩
      simp only [Ex.thn]
      apply EvX.cond2 (t := true)
      · simp only [evalA, Tr.get_set, Nat.reduceEqDiff, if_true, if_false, reduceIte]
      rotate_left
      · intro h; cases h
      intro _
      apply EvX.seq
      apply EvX.reg0
      · intro call
        simp only [QRun, stepA, wantedA, opA, pureA, loadA, effA, binA, bin, evalA, ofV, ofCell, Fr.put, enterA_n, enterA_t, setArgs, List.length_cons, List.length_nil, Tr.get_set, Nat.zero_testBit, cond_false, true_and, Nat.reduceAdd, Nat.reduceSub, ble_dec, beq_dec, Nat.reduceLeDiff, decide_true, decide_false, cond_true, Nat.reduceEqDiff, if_true, if_false, reduceIte, operands, Option.map_some, Option.map_none, CP_P, hfn]
        exact ⟨rfl, rfl⟩
      simp only [Ex.thn]
      apply EvX.ret
      simp only [Ex.thn, Ex.blk]
      exact Fin.one rfl (by rw [← hgo, if_pos bT]; simp [Tr.get_set])
    have dT : (pairsErr f p.th != 0) = false := by simpa using bT
    rw [if_neg (show ¬ (pairsErr f p.th ≠ 0) from fun h => h bT)] at hgo
    apply EvX.seq
    apply EvX.reg0
    · intro call
      simp only [QRun, stepA, wantedA, opA, pureA, loadA, effA, binA, bin, evalA, ofV, ofCell, Fr.put, enterA_n, enterA_t, setArgs, List.length_cons, List.length_nil, Tr.get_set, Nat.zero_testBit, cond_false, true_and, Nat.reduceAdd, Nat.reduceSub, ble_dec, beq_dec, Nat.reduceLeDiff, decide_true, decide_false, cond_true, Nat.reduceEqDiff, if_true, if_false, reduceIte, operands, Option.map_some, Option.map_none, CP_P, hfn, dT]
      exact ⟨rfl, rfl⟩
    simp only [Ex.thn]
    apply EvX.cond2 (t := false)
    · simp only [evalA, Tr.get_set, Nat.reduceEqDiff, if_true, if_false, reduceIte]
    · intro h; cases h
    intro _
    apply EvX.skip
    simp only [Ex.thn, Ex.blk]
    apply EvX.reg0
    · intro call
      simp only [QRun, stepA, wantedA, opA, pureA, loadA, effA, binA, bin, evalA, ofV, ofCell, Fr.put, enterA_n, enterA_t, setArgs, List.length_cons, List.length_nil, Tr.get_set, Nat.zero_testBit, cond_false, true_and, Nat.reduceAdd, Nat.reduceSub, ble_dec, beq_dec, Nat.reduceLeDiff, decide_true, decide_false, cond_true, Nat.reduceEqDiff, if_true, if_false, reduceIte, operands, Option.map_some, Option.map_none, CP_P, hfn, natOf_0, natOf_1, Int.reduceLT, wl0, wl1, wl2, wl3, cast2, Nat.zero_mul, Nat.one_mul, Int.reduceAdd]
      exact ⟨rfl, rfl⟩
    simp only [Ex.thn]
    apply EvX.loop1
    apply EvX.seq
    apply EvX.reg0
    · intro call
      simp only [QRun, stepA, wantedA, opA, pureA, loadA, effA, binA, bin, evalA, ofV, ofCell, Fr.put, enterA_n, enterA_t, setArgs, List.length_cons, List.length_nil, Tr.get_set, Nat.zero_testBit, cond_false, true_and, Nat.reduceAdd, Nat.reduceSub, ble_dec, beq_dec, Nat.reduceLeDiff, decide_true, decide_false, cond_true, Nat.reduceEqDiff, if_true, if_false, reduceIte, operands, Option.map_some, Option.map_none, CP_P, hfn, h0, h1, h21, h22, h23, natOf?, natOf_cast, hlt', hmul, encSums_length, hdr, hn1, hn2, List.drop_zero, List.drop_succ_cons, List.length_cons, takeN, Option.map_some, Nat.le_add_left, Nat.zero_le, Nat.reduceLeDiff, Mem.fresh, Mem.load, Mem.live, Win.read, Win.cell, setCells, Mem.empty, Mem.store, List.length_cons, List.length_nil, AV.cells, allCells, AV.isCell, takeN, Nat.zero_le, Nat.le_refl, Nat.zero_add, Nat.add_zero, Bool.not_false, Tr.get_nil, List.getElem?_toArray, List.getElem?_cons_zero, List.getElem?_cons_succ, beq_self_eq_true, Bool.and_true, Bool.true_and, Bool.and_self, eq_self, show (true == false) = false from rfl, show (false == true) = false from rfl, show (false == false) = true from rfl, Tryz.underlying70, Tryz.underlying28, sz_3, sz_70, ag_3, ag_70, ze_70, Tryz.underlying22, Tryz.underlying30, sz_30, ag_30, ze_30, sz_28, ag_28, un_62, by_28, ze_28, partsA, fillA, putCells, replicateA, List.append_nil, List.nil_append, List.cons_append, Nat.reduceMul, lenA, natOf_0, natOf_1, Int.reduceLT, wl0, wl1, wl2, wl3, cast2, Nat.zero_mul, Nat.one_mul, Int.reduceAdd]
      exact ⟨rfl, rfl⟩
    simp only [Ex.thn]
    apply EvX.seq
    apply EvX.cond2 (t := false)
    · simp only [evalA, Tr.get_set, Nat.reduceEqDiff, if_true, if_false, reduceIte, Int.reduceLT, cast2, wl2, wl3, decide_false]
    · intro h; cases h
    intro _
    apply EvX.exit
    simp only [Ex.thn, Ex.blk, beq_dec, decide_true, cond_true]
    apply EvX.reg0
    · intro call
      simp only [QRun, stepA, wantedA, opA, pureA, loadA, effA, binA, bin, evalA, ofV, ofCell, Fr.put, enterA_n, enterA_t, setArgs, List.length_cons, List.length_nil, Tr.get_set, Nat.zero_testBit, cond_false, true_and, Nat.reduceAdd, Nat.reduceSub, ble_dec, beq_dec, Nat.reduceLeDiff, decide_true, decide_false, cond_true, Nat.reduceEqDiff, if_true, if_false, reduceIte, operands, Option.map_some, Option.map_none, CP_P, hfn, h23, wrap_succ (show (j + 1) + 1 ≤ 9223372036854775807 by omega)]
      exact ⟨rfl, rfl⟩
    simp only [Ex.thn]
    refine ⟨l.length - ((j + 1) + 1), by omega, (j + 1) + 1, rfl, hlt', trivial, ?_, ?_, ?_, ?_, ?_, ?_⟩
    · simp [Tr.get_set, h0]
    · simp [Tr.get_set, h1]
    · simp [Tr.get_set, h21]
    · simp [Tr.get_set, h22]
    · simp [Tr.get_set]
    · exact hgo
end Go.Vz
