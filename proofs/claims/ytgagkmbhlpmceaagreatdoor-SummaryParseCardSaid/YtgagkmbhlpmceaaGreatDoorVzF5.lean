/-
  short, told; SummaryCheck.
-/
import Derived.Test.YtgagkmbhlpmceaaGreatDoorVzF4
set_option linter.unusedVariables false
set_option linter.unusedSimpArgs false
namespace Go.Vz
open Go Go.Proofs
set_option maxHeartbeats 4000000
set_option maxRecDepth 20000
theorem call11 {ps : List PFn} (h : findP ps 11 = some p11) {D : CallF → DrawF} (k : Nat) {l : List Sm} (hl : l.length ≤ 9223372036854775807) (ho : okSums l) (f : Int) (m : Mem) :
    Vz.call (CP ps) D k 11 [.ro (encSums l) l.length 3, .int .i64 f] m = some (.int .i64 (sumsErr f l), m) :=
  call_told h k m (args' := [.ro (encSums l) l.length 3, .int .i64 f]) (by simp only [mapO]; rw [viewA]; simp only [viewSums, Option.map_some]; rfl) (specSums_enc hl ho f)
theorem call12 {ps : List PFn} (h : findP ps 12 = some p12) {D : CallF → DrawF} (k : Nat) {l : List Sm} (hl : l.length ≤ 9223372036854775807) (ho : okSums l) (f : Int) (m : Mem) :
    Vz.call (CP ps) D k 12 [.ro (encSums l) l.length 3, .int .i64 f] m = some (.int .i64 (sumsErr f l), m) :=
  call_told h k m (args' := [.ro (encSums l) l.length 3, .int .i64 f]) (by simp only [mapO]; rw [viewA]; simp only [viewSums, Option.map_some]; rfl) (specSums_enc hl ho f)
theorem cl_10 (args : List AV) : calleeA Tryz.prog (.fn (.func 10) [] []) args = some (.enter 10 args) := by rw [callee_of Tryz.func10 (by kernel_rfl) (by kernel_rfl)]; simp
theorem cl_11 (args : List AV) : calleeA Tryz.prog (.fn (.func 11) [] []) args = some (.enter 11 args) := by rw [callee_of Tryz.func11 (by kernel_rfl) (by kernel_rfl)]; simp
theorem cl_12 (args : List AV) : calleeA Tryz.prog (.fn (.func 12) [] []) args = some (.enter 12 args) := by rw [callee_of Tryz.func12 (by kernel_rfl) (by kernel_rfl)]; simp
theorem cl_13 (args : List AV) : calleeA Tryz.prog (.fn (.func 13) [] []) args = some (.enter 13 args) := by rw [callee_of Tryz.func13 (by kernel_rfl) (by kernel_rfl)]; simp

/-! ### short -/
def rowsShort : List Sm → Bool
  | [] => true
  | s :: l => !decide ((s.ex.length : Int) > 100) && !decide ((s.th.length : Int) > 100) && rowsShort l
def shortB (l : List Sm) : Bool := !(decide ((l.length : Int) > 20) && decide ((l.length : Int) ≤ 256)) && rowsShort l
theorem rowsShort_drop {l : List Sm} {i : Nat} (h : i < l.length) : rowsShort (l.drop i) = (!decide ((l[i].ex.length : Int) > 100) && !decide ((l[i].th.length : Int) > 100) && rowsShort (l.drop (i + 1))) := by
  rw [List.drop_eq_getElem_cons h]
  rfl
def specShort : List AV → Option AV
  | [.ro xs n 3] => match decSums xs with
    | some l => bif Nat.beq l.length n && Nat.ble n 9223372036854775807 then some (.bool (shortB l)) else none
    | none => none
  | _ => none
theorem specShort_some {args : List AV} {x : AV} (h : specShort args = some x) : ∃ l, args = [.ro (encSums l) l.length 3] ∧ x = .bool (shortB l) ∧ l.length ≤ 9223372036854775807 ∧ okSums l := by
  unfold specShort at h
  split at h
  rotate_left
  · cases h
  rename_i xs n
  cases hl : decSums xs with
  | none => simp [hl] at h
  | some l =>
  simp only [hl] at h
  cases hb : Nat.beq l.length n && Nat.ble n 9223372036854775807 with
  | false => simp [hb] at h
  | true =>
  simp only [hb, cond_true, Option.some.injEq] at h
  rw [Bool.and_eq_true_iff] at hb
  have hn := Nat.eq_of_beq_eq_true hb.1
  subst hn
  obtain ⟨e1, e2⟩ := decSums_eq hl
  exact ⟨l, by rw [e1], h.symm, Nat.le_of_ble_eq_true hb.2, e2⟩
theorem specShort_enc {l : List Sm} (h : l.length ≤ 9223372036854775807) (hk : okSums l) : specShort [.ro (encSums l) l.length 3] = some (.bool (shortB l)) := by
  simp only [specShort, decSums_enc hk, Nat.beq_refl, Nat.ble_eq_true_of_le h, Bool.and_self, cond_true]
def p10 : PFn := ⟨10, specShort⟩
theorem p10_ok : p10.Ok := by
  refine PFn.Ok.of (ps := []) (fun p h => by cases h) (fun args x h => ?_)
  obtain ⟨l, rfl, rfl, hmax, hrows⟩ := specShort_some h
  clear h
  refine ⟨rfl, EvC.run (by kernel_rfl) (by rw [CP_P]; exact Tryz.func10) rfl ?_⟩
  apply EvX.seq
  apply EvX.reg0
  · intro call
    simp only [QRun, stepA, wantedA, opA, pureA, loadA, effA, binA, bin, evalA, ofV, ofCell, Fr.put, enterA_n, enterA_t, setArgs, List.length_cons, List.length_nil, Tr.get_set, Nat.zero_testBit, cond_false, true_and, Nat.reduceAdd, Nat.reduceSub, ble_dec, beq_dec, Nat.reduceLeDiff, decide_true, decide_false, cond_true, Nat.reduceEqDiff, if_true, if_false, reduceIte, operands, Option.map_some, Option.map_none, CP_P, Tryz.ntmps10]
    exact ⟨rfl, rfl⟩
  simp only [Ex.thn]
  apply EvX.seq
  by_cases c1 : ((l.length : Int) > 20)
  · have e1 := decide_eq_true c1
    by_cases c2 : ((l.length : Int) ≤ 256)
    · have e2 := decide_eq_true c2
      apply EvX.seq
      apply EvX.reg0
      · intro call
        simp only [QRun, stepA, wantedA, opA, pureA, loadA, effA, binA, bin, evalA, ofV, ofCell, Fr.put, enterA_n, enterA_t, setArgs, List.length_cons, List.length_nil, Tr.get_set, Nat.zero_testBit, cond_false, true_and, Nat.reduceAdd, Nat.reduceSub, ble_dec, beq_dec, Nat.reduceLeDiff, decide_true, decide_false, cond_true, Nat.reduceEqDiff, if_true, if_false, reduceIte, operands, Option.map_some, Option.map_none, CP_P, lenA, e1, e2, Mem.fresh, Mem.load, Mem.live, Win.read, Win.cell, setCells, Mem.empty, Mem.store, List.length_cons, List.length_nil, AV.cells, allCells, AV.isCell, takeN, Nat.zero_le, Nat.le_refl, Nat.zero_add, Nat.add_zero, Bool.not_false, Tr.get_nil, List.getElem?_toArray, List.getElem?_cons_zero, List.getElem?_cons_succ, beq_self_eq_true, Bool.and_true, Bool.true_and, Bool.and_self, eq_self, show (true == false) = false from rfl, show (false == true) = false from rfl, show (false == false) = true from rfl, Tryz.underlying70, Tryz.underlying28, sz_3, sz_70, ag_3, ag_70, ze_70, Tryz.underlying22, Tryz.underlying30, sz_30, ag_30, ze_30, sz_28, ag_28]
        exact ⟨rfl, rfl⟩
      simp only [Ex.thn]
      apply EvX.cond2 (t := true)
      · simp only [evalA, Tr.get_set, Nat.reduceEqDiff, if_true, if_false, reduceIte]
      rotate_left
      · intro h; cases h
      intro _
      apply EvX.seq
      apply EvX.reg0
      · intro call
        simp only [QRun, stepA, wantedA, opA, pureA, loadA, effA, binA, bin, evalA, ofV, ofCell, Fr.put, enterA_n, enterA_t, setArgs, List.length_cons, List.length_nil, Tr.get_set, Nat.zero_testBit, cond_false, true_and, Nat.reduceAdd, Nat.reduceSub, ble_dec, beq_dec, Nat.reduceLeDiff, decide_true, decide_false, cond_true, Nat.reduceEqDiff, if_true, if_false, reduceIte, operands, Option.map_some, Option.map_none, CP_P]
        exact ⟨rfl, rfl⟩
      simp only [Ex.thn]
      apply EvX.ret
      simp only [Ex.thn, Ex.blk]
      exact Fin.one rfl (by simp [Tr.get_set, shortB, e1, e2])
    have e2 := decide_eq_false c2
    apply EvX.seq
    apply EvX.reg0
    · intro call
      simp only [QRun, stepA, wantedA, opA, pureA, loadA, effA, binA, bin, evalA, ofV, ofCell, Fr.put, enterA_n, enterA_t, setArgs, List.length_cons, List.length_nil, Tr.get_set, Nat.zero_testBit, cond_false, true_and, Nat.reduceAdd, Nat.reduceSub, ble_dec, beq_dec, Nat.reduceLeDiff, decide_true, decide_false, cond_true, Nat.reduceEqDiff, if_true, if_false, reduceIte, operands, Option.map_some, Option.map_none, CP_P, lenA, e1, e2, Mem.fresh, Mem.load, Mem.live, Win.read, Win.cell, setCells, Mem.empty, Mem.store, List.length_cons, List.length_nil, AV.cells, allCells, AV.isCell, takeN, Nat.zero_le, Nat.le_refl, Nat.zero_add, Nat.add_zero, Bool.not_false, Tr.get_nil, List.getElem?_toArray, List.getElem?_cons_zero, List.getElem?_cons_succ, beq_self_eq_true, Bool.and_true, Bool.true_and, Bool.and_self, eq_self, show (true == false) = false from rfl, show (false == true) = false from rfl, show (false == false) = true from rfl, Tryz.underlying70, Tryz.underlying28, sz_3, sz_70, ag_3, ag_70, ze_70, Tryz.underlying22, Tryz.underlying30, sz_30, ag_30, ze_30, sz_28, ag_28]
      exact ⟨rfl, rfl⟩
    simp only [Ex.thn]
    apply EvX.cond2 (t := false)
    · simp only [evalA, Tr.get_set, Nat.reduceEqDiff, if_true, if_false, reduceIte]
    · intro h; cases h
    intro _
    apply EvX.skip
    simp only [Ex.thn, Ex.blk]
    have hsb : shortB l = rowsShort l := by simp [shortB, e1, e2]
    rw [hsb]
    apply EvX.seq
    apply EvX.seq
    apply EvX.reg0
    · intro call
      simp only [QRun, stepA, wantedA, opA, pureA, loadA, effA, binA, bin, evalA, ofV, ofCell, Fr.put, enterA_n, enterA_t, setArgs, List.length_cons, List.length_nil, Tr.get_set, Nat.zero_testBit, cond_false, true_and, Nat.reduceAdd, Nat.reduceSub, ble_dec, beq_dec, Nat.reduceLeDiff, decide_true, decide_false, cond_true, Nat.reduceEqDiff, if_true, if_false, reduceIte, operands, Option.map_some, Option.map_none, CP_P, Mem.fresh, Mem.load, Mem.live, Win.read, Win.cell, setCells, Mem.empty, Mem.store, List.length_cons, List.length_nil, AV.cells, allCells, AV.isCell, takeN, Nat.zero_le, Nat.le_refl, Nat.zero_add, Nat.add_zero, Bool.not_false, Tr.get_nil, List.getElem?_toArray, List.getElem?_cons_zero, List.getElem?_cons_succ, beq_self_eq_true, Bool.and_true, Bool.true_and, Bool.and_self, eq_self, show (true == false) = false from rfl, show (false == true) = false from rfl, show (false == false) = true from rfl, Tryz.underlying70, Tryz.underlying28, sz_3, sz_70, ag_3, ag_70, ze_70, Tryz.underlying22, Tryz.underlying30, sz_30, ag_30, ze_30, sz_28, ag_28]
      exact ⟨rfl, rfl⟩
    simp only [Ex.thn]
    apply EvX.block
    refine EvX.loop (fun k fr m => ∃ i : Nat, k = l.length - i ∧ i ≤ l.length ∧ fr.n = 34 ∧ fr.t.get 0 = some (.ro (encSums l) l.length 3) ∧ fr.t.get 3 = some (.int .i64 (i : Int)) ∧ rowsShort (l.drop i) = rowsShort l) ?_ l.length _ _
      ⟨0, by simp, by simp, rfl, by simp [Tr.get_set], by simp [Tr.get_set], rfl⟩
    rintro k fr m ⟨i, rfl, hil, hfn, h0, h3, hgo⟩
    apply EvX.seq
    apply EvX.seq
    apply EvX.reg0
    · intro call
      simp only [QRun, stepA, wantedA, opA, pureA, loadA, effA, binA, bin, evalA, ofV, ofCell, Fr.put, enterA_n, enterA_t, setArgs, List.length_cons, List.length_nil, Tr.get_set, Nat.zero_testBit, cond_false, true_and, Nat.reduceAdd, Nat.reduceSub, ble_dec, beq_dec, Nat.reduceLeDiff, decide_true, decide_false, cond_true, Nat.reduceEqDiff, if_true, if_false, reduceIte, operands, Option.map_some, Option.map_none, CP_P, hfn, h0, h3, lenA, Mem.fresh, Mem.load, Mem.live, Win.read, Win.cell, setCells, Mem.empty, Mem.store, List.length_cons, List.length_nil, AV.cells, allCells, AV.isCell, takeN, Nat.zero_le, Nat.le_refl, Nat.zero_add, Nat.add_zero, Bool.not_false, Tr.get_nil, List.getElem?_toArray, List.getElem?_cons_zero, List.getElem?_cons_succ, beq_self_eq_true, Bool.and_true, Bool.true_and, Bool.and_self, eq_self, show (true == false) = false from rfl, show (false == true) = false from rfl, show (false == false) = true from rfl, Tryz.underlying70, Tryz.underlying28, sz_3, sz_70, ag_3, ag_70, ze_70, Tryz.underlying22, Tryz.underlying30, sz_30, ag_30, ze_30, sz_28, ag_28]
      exact ⟨rfl, rfl⟩
    simp only [Ex.thn]
    apply EvX.cond2
    · simp only [evalA, Tr.get_set, Nat.reduceEqDiff, if_true, if_false, reduceIte]; exact rfl
    rotate_left
    · intro hge
      have hge := of_decide_eq_false hge
      have hi : i = l.length := by omega
      subst hi
      apply EvX.exit
      simp only [Ex.thn, Ex.blk, beq_dec, decide_true, cond_true]
      apply EvX.seq
      apply EvX.reg0
      · intro call
        simp only [QRun, stepA, wantedA, opA, pureA, loadA, effA, binA, bin, evalA, ofV, ofCell, Fr.put, enterA_n, enterA_t, setArgs, List.length_cons, List.length_nil, Tr.get_set, Nat.zero_testBit, cond_false, true_and, Nat.reduceAdd, Nat.reduceSub, ble_dec, beq_dec, Nat.reduceLeDiff, decide_true, decide_false, cond_true, Nat.reduceEqDiff, if_true, if_false, reduceIte, operands, Option.map_some, Option.map_none, CP_P, hfn]
        exact ⟨rfl, rfl⟩
      simp only [Ex.thn]
      apply EvX.ret
      exact Fin.one rfl (by rw [List.drop_length] at hgo; simp [Tr.get_set, ← hgo, rowsShort])
    intro hlt
    have hlt := of_decide_eq_true hlt
    have hlt : i < l.length := by omega
    have hlt' : i + 1 ≤ l.length := hlt
    have hmul : i * 3 ≤ l.length * 3 := by omega
    rw [rowsShort_drop hlt] at hgo
    have hdr := dropSum hlt
    generalize hp : l[i] = p at hgo hdr
    apply EvX.skip
    simp only [Ex.thn]
    apply EvX.seq
    apply EvX.block
    by_cases b1 : (p.ex.length : Int) > 100
    · have d1 := decide_eq_true b1
      apply EvX.seq
      apply EvX.reg0
      · intro call
        simp only [QRun, stepA, wantedA, opA, pureA, loadA, effA, binA, bin, evalA, ofV, ofCell, Fr.put, enterA_n, enterA_t, setArgs, List.length_cons, List.length_nil, Tr.get_set, Nat.zero_testBit, cond_false, true_and, Nat.reduceAdd, Nat.reduceSub, ble_dec, beq_dec, Nat.reduceLeDiff, decide_true, decide_false, cond_true, Nat.reduceEqDiff, if_true, if_false, reduceIte, operands, Option.map_some, Option.map_none, CP_P, hfn, h0, h3, natOf?, natOf_cast, hlt', hmul, encSums_length, hdr, lenA, List.drop_zero, List.drop_succ_cons, List.length_cons, takeN, Option.map_some, Nat.le_add_left, Nat.zero_le, Nat.reduceLeDiff, Mem.fresh, Mem.load, Mem.live, Win.read, Win.cell, setCells, Mem.empty, Mem.store, List.length_cons, List.length_nil, AV.cells, allCells, AV.isCell, takeN, Nat.zero_le, Nat.le_refl, Nat.zero_add, Nat.add_zero, Bool.not_false, Tr.get_nil, List.getElem?_toArray, List.getElem?_cons_zero, List.getElem?_cons_succ, beq_self_eq_true, Bool.and_true, Bool.true_and, Bool.and_self, eq_self, show (true == false) = false from rfl, show (false == true) = false from rfl, show (false == false) = true from rfl, Tryz.underlying70, Tryz.underlying28, sz_3, sz_70, ag_3, ag_70, ze_70, Tryz.underlying22, Tryz.underlying30, sz_30, ag_30, ze_30, sz_28, ag_28, d1]
        exact ⟨rfl, rfl⟩
      simp only [Ex.thn]
      apply EvX.cond2 (t := true)
      · simp only [evalA, Tr.get_set, Nat.reduceEqDiff, if_true, if_false, reduceIte]
      rotate_left
      · intro h; cases h
      intro _
      apply EvX.seq
      apply EvX.reg0
      · intro call
        simp only [QRun, stepA, wantedA, opA, pureA, loadA, effA, binA, bin, evalA, ofV, ofCell, Fr.put, enterA_n, enterA_t, setArgs, List.length_cons, List.length_nil, Tr.get_set, Nat.zero_testBit, cond_false, true_and, Nat.reduceAdd, Nat.reduceSub, ble_dec, beq_dec, Nat.reduceLeDiff, decide_true, decide_false, cond_true, Nat.reduceEqDiff, if_true, if_false, reduceIte, operands, Option.map_some, Option.map_none, CP_P, hfn]
        exact ⟨rfl, rfl⟩
      simp only [Ex.thn]
      apply EvX.ret
      simp only [Ex.thn, Ex.blk]
      exact Fin.one rfl (by rw [← hgo, d1]; simp [Tr.get_set])
    have d1 := decide_eq_false b1
    by_cases b2 : (p.th.length : Int) > 100
    · have d2 := decide_eq_true b2
      apply EvX.seq
      apply EvX.reg0
      · intro call
        simp only [QRun, stepA, wantedA, opA, pureA, loadA, effA, binA, bin, evalA, ofV, ofCell, Fr.put, enterA_n, enterA_t, setArgs, List.length_cons, List.length_nil, Tr.get_set, Nat.zero_testBit, cond_false, true_and, Nat.reduceAdd, Nat.reduceSub, ble_dec, beq_dec, Nat.reduceLeDiff, decide_true, decide_false, cond_true, Nat.reduceEqDiff, if_true, if_false, reduceIte, operands, Option.map_some, Option.map_none, CP_P, hfn, h0, h3, natOf?, natOf_cast, hlt', hmul, encSums_length, hdr, lenA, List.drop_zero, List.drop_succ_cons, List.length_cons, takeN, Option.map_some, Nat.le_add_left, Nat.zero_le, Nat.reduceLeDiff, Mem.fresh, Mem.load, Mem.live, Win.read, Win.cell, setCells, Mem.empty, Mem.store, List.length_cons, List.length_nil, AV.cells, allCells, AV.isCell, takeN, Nat.zero_le, Nat.le_refl, Nat.zero_add, Nat.add_zero, Bool.not_false, Tr.get_nil, List.getElem?_toArray, List.getElem?_cons_zero, List.getElem?_cons_succ, beq_self_eq_true, Bool.and_true, Bool.true_and, Bool.and_self, eq_self, show (true == false) = false from rfl, show (false == true) = false from rfl, show (false == false) = true from rfl, Tryz.underlying70, Tryz.underlying28, sz_3, sz_70, ag_3, ag_70, ze_70, Tryz.underlying22, Tryz.underlying30, sz_30, ag_30, ze_30, sz_28, ag_28, d1, d2]
        exact ⟨rfl, rfl⟩
      simp only [Ex.thn]
      apply EvX.cond2 (t := true)
      · simp only [evalA, Tr.get_set, Nat.reduceEqDiff, if_true, if_false, reduceIte]
      rotate_left
      · intro h; cases h
      intro _
      apply EvX.seq
      apply EvX.reg0
      · intro call
        simp only [QRun, stepA, wantedA, opA, pureA, loadA, effA, binA, bin, evalA, ofV, ofCell, Fr.put, enterA_n, enterA_t, setArgs, List.length_cons, List.length_nil, Tr.get_set, Nat.zero_testBit, cond_false, true_and, Nat.reduceAdd, Nat.reduceSub, ble_dec, beq_dec, Nat.reduceLeDiff, decide_true, decide_false, cond_true, Nat.reduceEqDiff, if_true, if_false, reduceIte, operands, Option.map_some, Option.map_none, CP_P, hfn]
        exact ⟨rfl, rfl⟩
      simp only [Ex.thn]
      apply EvX.ret
      simp only [Ex.thn, Ex.blk]
      exact Fin.one rfl (by rw [← hgo, d1, d2]; simp [Tr.get_set])
    have d2 := decide_eq_false b2
    rw [d1, d2] at hgo
    simp only [Bool.not_false, Bool.true_and] at hgo
    apply EvX.seq
    apply EvX.reg0
    · intro call
      simp only [QRun, stepA, wantedA, opA, pureA, loadA, effA, binA, bin, evalA, ofV, ofCell, Fr.put, enterA_n, enterA_t, setArgs, List.length_cons, List.length_nil, Tr.get_set, Nat.zero_testBit, cond_false, true_and, Nat.reduceAdd, Nat.reduceSub, ble_dec, beq_dec, Nat.reduceLeDiff, decide_true, decide_false, cond_true, Nat.reduceEqDiff, if_true, if_false, reduceIte, operands, Option.map_some, Option.map_none, CP_P, hfn, h0, h3, natOf?, natOf_cast, hlt', hmul, encSums_length, hdr, lenA, List.drop_zero, List.drop_succ_cons, List.length_cons, takeN, Option.map_some, Nat.le_add_left, Nat.zero_le, Nat.reduceLeDiff, Mem.fresh, Mem.load, Mem.live, Win.read, Win.cell, setCells, Mem.empty, Mem.store, List.length_cons, List.length_nil, AV.cells, allCells, AV.isCell, takeN, Nat.zero_le, Nat.le_refl, Nat.zero_add, Nat.add_zero, Bool.not_false, Tr.get_nil, List.getElem?_toArray, List.getElem?_cons_zero, List.getElem?_cons_succ, beq_self_eq_true, Bool.and_true, Bool.true_and, Bool.and_self, eq_self, show (true == false) = false from rfl, show (false == true) = false from rfl, show (false == false) = true from rfl, Tryz.underlying70, Tryz.underlying28, sz_3, sz_70, ag_3, ag_70, ze_70, Tryz.underlying22, Tryz.underlying30, sz_30, ag_30, ze_30, sz_28, ag_28, d1, d2]
      exact ⟨rfl, rfl⟩
    simp only [Ex.thn]
    apply EvX.cond2 (t := false)
    · simp only [evalA, Tr.get_set, Nat.reduceEqDiff, if_true, if_false, reduceIte]
    · intro h; cases h
    intro _
    apply EvX.skip
    simp only [Ex.thn, Ex.blk]
    apply EvX.reg0
    · intro call
      simp only [QRun, stepA, wantedA, opA, pureA, loadA, effA, binA, bin, evalA, ofV, ofCell, Fr.put, enterA_n, enterA_t, setArgs, List.length_cons, List.length_nil, Tr.get_set, Nat.zero_testBit, cond_false, true_and, Nat.reduceAdd, Nat.reduceSub, ble_dec, beq_dec, Nat.reduceLeDiff, decide_true, decide_false, cond_true, Nat.reduceEqDiff, if_true, if_false, reduceIte, operands, Option.map_some, Option.map_none, CP_P, hfn, h3, wrap_succ (show i + 1 ≤ 9223372036854775807 by omega)]
      exact ⟨rfl, rfl⟩
    simp only [Ex.thn]
    refine ⟨l.length - (i + 1), by omega, i + 1, rfl, hlt', trivial, ?_, ?_, ?_⟩
    · simp [Tr.get_set, h0]
    · simp [Tr.get_set]
    · exact hgo
  have e1 := decide_eq_false c1
  apply EvX.seq
  apply EvX.reg0
  · intro call
    simp only [QRun, stepA, wantedA, opA, pureA, loadA, effA, binA, bin, evalA, ofV, ofCell, Fr.put, enterA_n, enterA_t, setArgs, List.length_cons, List.length_nil, Tr.get_set, Nat.zero_testBit, cond_false, true_and, Nat.reduceAdd, Nat.reduceSub, ble_dec, beq_dec, Nat.reduceLeDiff, decide_true, decide_false, cond_true, Nat.reduceEqDiff, if_true, if_false, reduceIte, operands, Option.map_some, Option.map_none, CP_P, lenA, e1, Mem.fresh, Mem.load, Mem.live, Win.read, Win.cell, setCells, Mem.empty, Mem.store, List.length_cons, List.length_nil, AV.cells, allCells, AV.isCell, takeN, Nat.zero_le, Nat.le_refl, Nat.zero_add, Nat.add_zero, Bool.not_false, Tr.get_nil, List.getElem?_toArray, List.getElem?_cons_zero, List.getElem?_cons_succ, beq_self_eq_true, Bool.and_true, Bool.true_and, Bool.and_self, eq_self, show (true == false) = false from rfl, show (false == true) = false from rfl, show (false == false) = true from rfl, Tryz.underlying70, Tryz.underlying28, sz_3, sz_70, ag_3, ag_70, ze_70, Tryz.underlying22, Tryz.underlying30, sz_30, ag_30, ze_30, sz_28, ag_28]
    exact ⟨rfl, rfl⟩
  simp only [Ex.thn]
  apply EvX.cond2 (t := false)
  · simp only [evalA, Tr.get_set, Nat.reduceEqDiff, if_true, if_false, reduceIte]
  · intro h; cases h
  intro _
  apply EvX.skip
  simp only [Ex.thn, Ex.blk]
  have hsb : shortB l = rowsShort l := by simp [shortB, e1]
  rw [hsb]
  apply EvX.seq
  apply EvX.seq
  apply EvX.reg0
  · intro call
    simp only [QRun, stepA, wantedA, opA, pureA, loadA, effA, binA, bin, evalA, ofV, ofCell, Fr.put, enterA_n, enterA_t, setArgs, List.length_cons, List.length_nil, Tr.get_set, Nat.zero_testBit, cond_false, true_and, Nat.reduceAdd, Nat.reduceSub, ble_dec, beq_dec, Nat.reduceLeDiff, decide_true, decide_false, cond_true, Nat.reduceEqDiff, if_true, if_false, reduceIte, operands, Option.map_some, Option.map_none, CP_P, Mem.fresh, Mem.load, Mem.live, Win.read, Win.cell, setCells, Mem.empty, Mem.store, List.length_cons, List.length_nil, AV.cells, allCells, AV.isCell, takeN, Nat.zero_le, Nat.le_refl, Nat.zero_add, Nat.add_zero, Bool.not_false, Tr.get_nil, List.getElem?_toArray, List.getElem?_cons_zero, List.getElem?_cons_succ, beq_self_eq_true, Bool.and_true, Bool.true_and, Bool.and_self, eq_self, show (true == false) = false from rfl, show (false == true) = false from rfl, show (false == false) = true from rfl, Tryz.underlying70, Tryz.underlying28, sz_3, sz_70, ag_3, ag_70, ze_70, Tryz.underlying22, Tryz.underlying30, sz_30, ag_30, ze_30, sz_28, ag_28]
    exact ⟨rfl, rfl⟩
  simp only [Ex.thn]
  apply EvX.block
  refine EvX.loop (fun k fr m => ∃ i : Nat, k = l.length - i ∧ i ≤ l.length ∧ fr.n = 34 ∧ fr.t.get 0 = some (.ro (encSums l) l.length 3) ∧ fr.t.get 3 = some (.int .i64 (i : Int)) ∧ rowsShort (l.drop i) = rowsShort l) ?_ l.length _ _
    ⟨0, by simp, by simp, rfl, by simp [Tr.get_set], by simp [Tr.get_set], rfl⟩
  rintro k fr m ⟨i, rfl, hil, hfn, h0, h3, hgo⟩
  apply EvX.seq
  apply EvX.seq
  apply EvX.reg0
  · intro call
    simp only [QRun, stepA, wantedA, opA, pureA, loadA, effA, binA, bin, evalA, ofV, ofCell, Fr.put, enterA_n, enterA_t, setArgs, List.length_cons, List.length_nil, Tr.get_set, Nat.zero_testBit, cond_false, true_and, Nat.reduceAdd, Nat.reduceSub, ble_dec, beq_dec, Nat.reduceLeDiff, decide_true, decide_false, cond_true, Nat.reduceEqDiff, if_true, if_false, reduceIte, operands, Option.map_some, Option.map_none, CP_P, hfn, h0, h3, lenA, Mem.fresh, Mem.load, Mem.live, Win.read, Win.cell, setCells, Mem.empty, Mem.store, List.length_cons, List.length_nil, AV.cells, allCells, AV.isCell, takeN, Nat.zero_le, Nat.le_refl, Nat.zero_add, Nat.add_zero, Bool.not_false, Tr.get_nil, List.getElem?_toArray, List.getElem?_cons_zero, List.getElem?_cons_succ, beq_self_eq_true, Bool.and_true, Bool.true_and, Bool.and_self, eq_self, show (true == false) = false from rfl, show (false == true) = false from rfl, show (false == false) = true from rfl, Tryz.underlying70, Tryz.underlying28, sz_3, sz_70, ag_3, ag_70, ze_70, Tryz.underlying22, Tryz.underlying30, sz_30, ag_30, ze_30, sz_28, ag_28]
    exact ⟨rfl, rfl⟩
  simp only [Ex.thn]
  apply EvX.cond2
  · simp only [evalA, Tr.get_set, Nat.reduceEqDiff, if_true, if_false, reduceIte]; exact rfl
  rotate_left
  · intro hge
    have hge := of_decide_eq_false hge
    have hi : i = l.length := by omega
    subst hi
    apply EvX.exit
    simp only [Ex.thn, Ex.blk, beq_dec, decide_true, cond_true]
    apply EvX.seq
    apply EvX.reg0
    · intro call
      simp only [QRun, stepA, wantedA, opA, pureA, loadA, effA, binA, bin, evalA, ofV, ofCell, Fr.put, enterA_n, enterA_t, setArgs, List.length_cons, List.length_nil, Tr.get_set, Nat.zero_testBit, cond_false, true_and, Nat.reduceAdd, Nat.reduceSub, ble_dec, beq_dec, Nat.reduceLeDiff, decide_true, decide_false, cond_true, Nat.reduceEqDiff, if_true, if_false, reduceIte, operands, Option.map_some, Option.map_none, CP_P, hfn]
      exact ⟨rfl, rfl⟩
    simp only [Ex.thn]
    apply EvX.ret
    exact Fin.one rfl (by rw [List.drop_length] at hgo; simp [Tr.get_set, ← hgo, rowsShort])
  intro hlt
  have hlt := of_decide_eq_true hlt
  have hlt : i < l.length := by omega
  have hlt' : i + 1 ≤ l.length := hlt
  have hmul : i * 3 ≤ l.length * 3 := by omega
  rw [rowsShort_drop hlt] at hgo
  have hdr := dropSum hlt
  generalize hp : l[i] = p at hgo hdr
  apply EvX.skip
  simp only [Ex.thn]
  apply EvX.seq
  apply EvX.block
  by_cases b1 : (p.ex.length : Int) > 100
  · have d1 := decide_eq_true b1
    apply EvX.seq
    apply EvX.reg0
    · intro call
      simp only [QRun, stepA, wantedA, opA, pureA, loadA, effA, binA, bin, evalA, ofV, ofCell, Fr.put, enterA_n, enterA_t, setArgs, List.length_cons, List.length_nil, Tr.get_set, Nat.zero_testBit, cond_false, true_and, Nat.reduceAdd, Nat.reduceSub, ble_dec, beq_dec, Nat.reduceLeDiff, decide_true, decide_false, cond_true, Nat.reduceEqDiff, if_true, if_false, reduceIte, operands, Option.map_some, Option.map_none, CP_P, hfn, h0, h3, natOf?, natOf_cast, hlt', hmul, encSums_length, hdr, lenA, List.drop_zero, List.drop_succ_cons, List.length_cons, takeN, Option.map_some, Nat.le_add_left, Nat.zero_le, Nat.reduceLeDiff, Mem.fresh, Mem.load, Mem.live, Win.read, Win.cell, setCells, Mem.empty, Mem.store, List.length_cons, List.length_nil, AV.cells, allCells, AV.isCell, takeN, Nat.zero_le, Nat.le_refl, Nat.zero_add, Nat.add_zero, Bool.not_false, Tr.get_nil, List.getElem?_toArray, List.getElem?_cons_zero, List.getElem?_cons_succ, beq_self_eq_true, Bool.and_true, Bool.true_and, Bool.and_self, eq_self, show (true == false) = false from rfl, show (false == true) = false from rfl, show (false == false) = true from rfl, Tryz.underlying70, Tryz.underlying28, sz_3, sz_70, ag_3, ag_70, ze_70, Tryz.underlying22, Tryz.underlying30, sz_30, ag_30, ze_30, sz_28, ag_28, d1]
      exact ⟨rfl, rfl⟩
    simp only [Ex.thn]
    apply EvX.cond2 (t := true)
    · simp only [evalA, Tr.get_set, Nat.reduceEqDiff, if_true, if_false, reduceIte]
    rotate_left
    · intro h; cases h
    intro _
    apply EvX.seq
    apply EvX.reg0
    · intro call
      simp only [QRun, stepA, wantedA, opA, pureA, loadA, effA, binA, bin, evalA, ofV, ofCell, Fr.put, enterA_n, enterA_t, setArgs, List.length_cons, List.length_nil, Tr.get_set, Nat.zero_testBit, cond_false, true_and, Nat.reduceAdd, Nat.reduceSub, ble_dec, beq_dec, Nat.reduceLeDiff, decide_true, decide_false, cond_true, Nat.reduceEqDiff, if_true, if_false, reduceIte, operands, Option.map_some, Option.map_none, CP_P, hfn]
      exact ⟨rfl, rfl⟩
    simp only [Ex.thn]
    apply EvX.ret
    simp only [Ex.thn, Ex.blk]
    exact Fin.one rfl (by rw [← hgo, d1]; simp [Tr.get_set])
  have d1 := decide_eq_false b1
  by_cases b2 : (p.th.length : Int) > 100
  · have d2 := decide_eq_true b2
    apply EvX.seq
    apply EvX.reg0
    · intro call
      simp only [QRun, stepA, wantedA, opA, pureA, loadA, effA, binA, bin, evalA, ofV, ofCell, Fr.put, enterA_n, enterA_t, setArgs, List.length_cons, List.length_nil, Tr.get_set, Nat.zero_testBit, cond_false, true_and, Nat.reduceAdd, Nat.reduceSub, ble_dec, beq_dec, Nat.reduceLeDiff, decide_true, decide_false, cond_true, Nat.reduceEqDiff, if_true, if_false, reduceIte, operands, Option.map_some, Option.map_none, CP_P, hfn, h0, h3, natOf?, natOf_cast, hlt', hmul, encSums_length, hdr, lenA, List.drop_zero, List.drop_succ_cons, List.length_cons, takeN, Option.map_some, Nat.le_add_left, Nat.zero_le, Nat.reduceLeDiff, Mem.fresh, Mem.load, Mem.live, Win.read, Win.cell, setCells, Mem.empty, Mem.store, List.length_cons, List.length_nil, AV.cells, allCells, AV.isCell, takeN, Nat.zero_le, Nat.le_refl, Nat.zero_add, Nat.add_zero, Bool.not_false, Tr.get_nil, List.getElem?_toArray, List.getElem?_cons_zero, List.getElem?_cons_succ, beq_self_eq_true, Bool.and_true, Bool.true_and, Bool.and_self, eq_self, show (true == false) = false from rfl, show (false == true) = false from rfl, show (false == false) = true from rfl, Tryz.underlying70, Tryz.underlying28, sz_3, sz_70, ag_3, ag_70, ze_70, Tryz.underlying22, Tryz.underlying30, sz_30, ag_30, ze_30, sz_28, ag_28, d1, d2]
      exact ⟨rfl, rfl⟩
    simp only [Ex.thn]
    apply EvX.cond2 (t := true)
    · simp only [evalA, Tr.get_set, Nat.reduceEqDiff, if_true, if_false, reduceIte]
    rotate_left
    · intro h; cases h
    intro _
    apply EvX.seq
    apply EvX.reg0
    · intro call
      simp only [QRun, stepA, wantedA, opA, pureA, loadA, effA, binA, bin, evalA, ofV, ofCell, Fr.put, enterA_n, enterA_t, setArgs, List.length_cons, List.length_nil, Tr.get_set, Nat.zero_testBit, cond_false, true_and, Nat.reduceAdd, Nat.reduceSub, ble_dec, beq_dec, Nat.reduceLeDiff, decide_true, decide_false, cond_true, Nat.reduceEqDiff, if_true, if_false, reduceIte, operands, Option.map_some, Option.map_none, CP_P, hfn]
      exact ⟨rfl, rfl⟩
    simp only [Ex.thn]
    apply EvX.ret
    simp only [Ex.thn, Ex.blk]
    exact Fin.one rfl (by rw [← hgo, d1, d2]; simp [Tr.get_set])
  have d2 := decide_eq_false b2
  rw [d1, d2] at hgo
  simp only [Bool.not_false, Bool.true_and] at hgo
  apply EvX.seq
  apply EvX.reg0
  · intro call
    simp only [QRun, stepA, wantedA, opA, pureA, loadA, effA, binA, bin, evalA, ofV, ofCell, Fr.put, enterA_n, enterA_t, setArgs, List.length_cons, List.length_nil, Tr.get_set, Nat.zero_testBit, cond_false, true_and, Nat.reduceAdd, Nat.reduceSub, ble_dec, beq_dec, Nat.reduceLeDiff, decide_true, decide_false, cond_true, Nat.reduceEqDiff, if_true, if_false, reduceIte, operands, Option.map_some, Option.map_none, CP_P, hfn, h0, h3, natOf?, natOf_cast, hlt', hmul, encSums_length, hdr, lenA, List.drop_zero, List.drop_succ_cons, List.length_cons, takeN, Option.map_some, Nat.le_add_left, Nat.zero_le, Nat.reduceLeDiff, Mem.fresh, Mem.load, Mem.live, Win.read, Win.cell, setCells, Mem.empty, Mem.store, List.length_cons, List.length_nil, AV.cells, allCells, AV.isCell, takeN, Nat.zero_le, Nat.le_refl, Nat.zero_add, Nat.add_zero, Bool.not_false, Tr.get_nil, List.getElem?_toArray, List.getElem?_cons_zero, List.getElem?_cons_succ, beq_self_eq_true, Bool.and_true, Bool.true_and, Bool.and_self, eq_self, show (true == false) = false from rfl, show (false == true) = false from rfl, show (false == false) = true from rfl, Tryz.underlying70, Tryz.underlying28, sz_3, sz_70, ag_3, ag_70, ze_70, Tryz.underlying22, Tryz.underlying30, sz_30, ag_30, ze_30, sz_28, ag_28, d1, d2]
    exact ⟨rfl, rfl⟩
  simp only [Ex.thn]
  apply EvX.cond2 (t := false)
  · simp only [evalA, Tr.get_set, Nat.reduceEqDiff, if_true, if_false, reduceIte]
  · intro h; cases h
  intro _
  apply EvX.skip
  simp only [Ex.thn, Ex.blk]
  apply EvX.reg0
  · intro call
    simp only [QRun, stepA, wantedA, opA, pureA, loadA, effA, binA, bin, evalA, ofV, ofCell, Fr.put, enterA_n, enterA_t, setArgs, List.length_cons, List.length_nil, Tr.get_set, Nat.zero_testBit, cond_false, true_and, Nat.reduceAdd, Nat.reduceSub, ble_dec, beq_dec, Nat.reduceLeDiff, decide_true, decide_false, cond_true, Nat.reduceEqDiff, if_true, if_false, reduceIte, operands, Option.map_some, Option.map_none, CP_P, hfn, h3, wrap_succ (show i + 1 ≤ 9223372036854775807 by omega)]
    exact ⟨rfl, rfl⟩
  simp only [Ex.thn]
  refine ⟨l.length - (i + 1), by omega, i + 1, rfl, hlt', trivial, ?_, ?_, ?_⟩
  · simp [Tr.get_set, h0]
  · simp [Tr.get_set]
  · exact hgo
theorem call10 {ps : List PFn} (h : findP ps 10 = some p10) {D : CallF → DrawF} (k : Nat) {l : List Sm} (hl : l.length ≤ 9223372036854775807) (ho : okSums l) (m : Mem) :
    Vz.call (CP ps) D k 10 [.ro (encSums l) l.length 3] m = some (.bool (shortB l), m) :=
  call_told h k m (args' := [.ro (encSums l) l.length 3]) (by simp only [mapO]; rw [viewA]; simp only [viewSums, Option.map_some]) (specShort_enc hl ho)
theorem call13 {ps : List PFn} (h : findP ps 13 = none) {D : CallF → DrawF} (k : Nat) (m : Mem) : Vz.call (CP ps) D k 13 [] m = some (.bool true, m) := by
  unfold Vz.call
  rw [show (CP ps).isPrim 13 = true by rw [CP_isPrim, h]; rfl, cond_true, CP_prim]
  unfold primP
  rw [h]
  rfl
/-! ### the law -/
def specTrue : List AV → Option AV := fun args => (specSums args).map fun _ => .bool true
def p3 : PFn := ⟨3, specTrue⟩
theorem p3_ok : p3.Ok := by
  refine PFn.Ok.of (ps := [p10, p11, p12]) (fun p h => by simp at h; rcases h with rfl | rfl | rfl; exact p10_ok; exact p11_ok; exact p12_ok) (fun args x h => ?_)
  have h' : ∃ y, specSums args = some y ∧ x = .bool true := by
    have h2 : (specSums args).map (fun _ => AV.bool true) = some x := h
    cases hs : specSums args with
    | none => rw [hs] at h2; cases h2
    | some y => rw [hs] at h2; exact ⟨y, rfl, (Option.some.inj h2).symm⟩
  obtain ⟨y, hy, rfl⟩ := h'
  obtain ⟨l, f, rfl, _, hmax, hrows⟩ := specSums_some hy
  clear h hy
  have c10 := fun k m => call10 (ps := [p10, p11, p12]) rfl (D := drawA (CP [p10, p11, p12])) k hmax hrows m
  have c11 := fun k m => call11 (ps := [p10, p11, p12]) rfl (D := drawA (CP [p10, p11, p12])) k hmax hrows f m
  have c12 := fun k m => call12 (ps := [p10, p11, p12]) rfl (D := drawA (CP [p10, p11, p12])) k hmax hrows f m
  have c13 := fun k m => call13 (ps := [p10, p11, p12]) rfl (D := drawA (CP [p10, p11, p12])) k m
  refine ⟨rfl, EvC.run (by kernel_rfl) (by rw [CP_P]; exact Tryz.func3) rfl ?_⟩
  apply EvX.seq
  apply EvX.reg0
  · intro call
    simp only [QRun, stepA, wantedA, opA, pureA, loadA, effA, binA, bin, evalA, ofV, ofCell, Fr.put, enterA_n, enterA_t, setArgs, List.length_cons, List.length_nil, Tr.get_set, Nat.zero_testBit, cond_false, true_and, Nat.reduceAdd, Nat.reduceSub, ble_dec, beq_dec, Nat.reduceLeDiff, decide_true, decide_false, cond_true, Nat.reduceEqDiff, if_true, if_false, reduceIte, operands, Option.map_some, Option.map_none, CP_P, Tryz.ntmps3]
    exact ⟨rfl, rfl⟩
  simp only [Ex.thn]
  apply EvX.seq
  cases hsb : shortB l with
  | false =>
    apply EvX.seq
    apply EvX.reg 0
    · intro k _
      simp only [QRun, stepA, wantedA, opA, pureA, loadA, effA, binA, bin, evalA, ofV, ofCell, Fr.put, enterA_n, enterA_t, setArgs, List.length_cons, List.length_nil, Tr.get_set, Nat.zero_testBit, cond_false, true_and, Nat.reduceAdd, Nat.reduceSub, ble_dec, beq_dec, Nat.reduceLeDiff, decide_true, decide_false, cond_true, Nat.reduceEqDiff, if_true, if_false, reduceIte, operands, Option.map_some, Option.map_none, CP_P, cl_10, c10, hsb, unA, Bool.not_false, Mem.fresh, Mem.load, Mem.live, Win.read, Win.cell, setCells, Mem.empty, Mem.store, List.length_cons, List.length_nil, AV.cells, allCells, AV.isCell, takeN, Nat.zero_le, Nat.le_refl, Nat.zero_add, Nat.add_zero, Bool.not_false, Tr.get_nil, List.getElem?_toArray, List.getElem?_cons_zero, List.getElem?_cons_succ, beq_self_eq_true, Bool.and_true, Bool.true_and, Bool.and_self, eq_self, show (true == false) = false from rfl, show (false == true) = false from rfl, show (false == false) = true from rfl, Tryz.underlying70, Tryz.underlying28, sz_3, sz_70, ag_3, ag_70, ze_70, Tryz.underlying22, Tryz.underlying30, sz_30, ag_30, ze_30, sz_28, ag_28]
      exact ⟨rfl, rfl⟩
    simp only [Ex.thn]
    apply EvX.cond2 (t := true)
    · simp only [evalA, Tr.get_set, Nat.reduceEqDiff, if_true, if_false, reduceIte]
    rotate_left
    · intro h; cases h
    intro _
    apply EvX.seq
    apply EvX.reg0
    · intro call
      simp only [QRun, stepA, wantedA, opA, pureA, loadA, effA, binA, bin, evalA, ofV, ofCell, Fr.put, enterA_n, enterA_t, setArgs, List.length_cons, List.length_nil, Tr.get_set, Nat.zero_testBit, cond_false, true_and, Nat.reduceAdd, Nat.reduceSub, ble_dec, beq_dec, Nat.reduceLeDiff, decide_true, decide_false, cond_true, Nat.reduceEqDiff, if_true, if_false, reduceIte, operands, Option.map_some, Option.map_none, CP_P]
      exact ⟨rfl, rfl⟩
    simp only [Ex.thn]
    apply EvX.ret
    simp only [Ex.thn, Ex.blk]
    exact Fin.one rfl (by simp [Tr.get_set])
  | true =>
    apply EvX.seq
    apply EvX.reg 0
    · intro k _
      simp only [QRun, stepA, wantedA, opA, pureA, loadA, effA, binA, bin, evalA, ofV, ofCell, Fr.put, enterA_n, enterA_t, setArgs, List.length_cons, List.length_nil, Tr.get_set, Nat.zero_testBit, cond_false, true_and, Nat.reduceAdd, Nat.reduceSub, ble_dec, beq_dec, Nat.reduceLeDiff, decide_true, decide_false, cond_true, Nat.reduceEqDiff, if_true, if_false, reduceIte, operands, Option.map_some, Option.map_none, CP_P, cl_10, c10, hsb, unA, Bool.not_true, Mem.fresh, Mem.load, Mem.live, Win.read, Win.cell, setCells, Mem.empty, Mem.store, List.length_cons, List.length_nil, AV.cells, allCells, AV.isCell, takeN, Nat.zero_le, Nat.le_refl, Nat.zero_add, Nat.add_zero, Bool.not_false, Tr.get_nil, List.getElem?_toArray, List.getElem?_cons_zero, List.getElem?_cons_succ, beq_self_eq_true, Bool.and_true, Bool.true_and, Bool.and_self, eq_self, show (true == false) = false from rfl, show (false == true) = false from rfl, show (false == false) = true from rfl, Tryz.underlying70, Tryz.underlying28, sz_3, sz_70, ag_3, ag_70, ze_70, Tryz.underlying22, Tryz.underlying30, sz_30, ag_30, ze_30, sz_28, ag_28]
      exact ⟨rfl, rfl⟩
    simp only [Ex.thn]
    apply EvX.cond2 (t := false)
    · simp only [evalA, Tr.get_set, Nat.reduceEqDiff, if_true, if_false, reduceIte]
    · intro h; cases h
    intro _
    apply EvX.skip
    simp only [Ex.thn, Ex.blk]
    apply EvX.seq
    apply EvX.reg 0
    · intro k _
      simp only [QRun, stepA, wantedA, opA, pureA, loadA, effA, binA, bin, evalA, ofV, ofCell, Fr.put, enterA_n, enterA_t, setArgs, List.length_cons, List.length_nil, Tr.get_set, Nat.zero_testBit, cond_false, true_and, Nat.reduceAdd, Nat.reduceSub, ble_dec, beq_dec, Nat.reduceLeDiff, decide_true, decide_false, cond_true, Nat.reduceEqDiff, if_true, if_false, reduceIte, operands, Option.map_some, Option.map_none, CP_P, cl_11, cl_12, cl_13, c11, c12, c13, Mem.fresh, Mem.load, Mem.live, Win.read, Win.cell, setCells, Mem.empty, Mem.store, List.length_cons, List.length_nil, AV.cells, allCells, AV.isCell, takeN, Nat.zero_le, Nat.le_refl, Nat.zero_add, Nat.add_zero, Bool.not_false, Tr.get_nil, List.getElem?_toArray, List.getElem?_cons_zero, List.getElem?_cons_succ, beq_self_eq_true, Bool.and_true, Bool.true_and, Bool.and_self, eq_self, show (true == false) = false from rfl, show (false == true) = false from rfl, show (false == false) = true from rfl, Tryz.underlying70, Tryz.underlying28, sz_3, sz_70, ag_3, ag_70, ze_70, Tryz.underlying22, Tryz.underlying30, sz_30, ag_30, ze_30, sz_28, ag_28]
      exact ⟨rfl, rfl⟩
    simp only [Ex.thn]
    apply EvX.ret
    exact Fin.one rfl (by simp [Tr.get_set])
end Go.Vz
