/-
  Both Texts, told.
-/
import Derived.Test.YtgagkmbhlpmceaaGreatDoorVzTx4
set_option linter.unusedVariables false
set_option linter.unusedSimpArgs false
namespace Go.Vz
open Go Go.Proofs
set_option maxHeartbeats 4000000
set_option maxRecDepth 20000
theorem Fin.twoP {C : Cfg} {fn : Func} {t u : Nat} {fr : Fr} {m : Mem} {x y : AV} (hr : fn.results = #[.tmp t, .tmp u]) (hx : fr.t.get t = some x) (hy : fr.t.get u = some y) : (match Ex.ret with | .exit _ => False | _ => True) ∧ ∃ xs, Vz.results C.P m fr fn.results.toList = some xs ∧ Vz.one xs = .tup [x, y] :=
  ⟨trivial, [x, y], by rw [hr]; simp [Vz.results, hx, hy], rfl⟩
/-- what Text gives -/
def textRes (l : List Sm) : List Nat × Int := if sumsErr 1024 l ≠ 0 then ([], sumsErr 1024 l) else if (textOf l).length > 65536 then ([], 3) else (textOf l, 0)
def specTx : List AV → Option AV
  | [.ro xs n 3] => match decSums xs with
    | some l => bif Nat.beq l.length n && Nat.ble n 9223372036854775807 then some (.tup [.str (textRes l).1, .int .i64 (textRes l).2]) else none
    | none => none
  | _ => none
theorem specTx_some {args : List AV} {x : AV} (h : specTx args = some x) : ∃ l, args = [.ro (encSums l) l.length 3] ∧ x = .tup [.str (textRes l).1, .int .i64 (textRes l).2] ∧ l.length ≤ 9223372036854775807 ∧ okSums l := by
  unfold specTx at h
  split at h
  rotate_left
  · cases h
  rename_i xs n
  cases hl : decSums xs with
  | none => simp [hl] at h
  | some l =>
  simp only [hl] at h
  cases hb : Nat.beq l.length n && Nat.ble n 9223372036854775807 with
  | false => simp [hb] at h
  | true =>
  simp only [hb, cond_true, Option.some.injEq] at h
  rw [Bool.and_eq_true_iff] at hb
  have hn := Nat.eq_of_beq_eq_true hb.1
  subst hn
  obtain ⟨e1, e2⟩ := decSums_eq hl
  exact ⟨l, by rw [e1], h.symm, Nat.le_of_ble_eq_true hb.2, e2⟩
theorem specTx_enc {l : List Sm} (h : l.length ≤ 9223372036854775807) (hk : okSums l) : specTx [.ro (encSums l) l.length 3] = some (.tup [.str (textRes l).1, .int .i64 (textRes l).2]) := by
  simp only [specTx, decSums_enc hk, Nat.beq_refl, Nat.ble_eq_true_of_le h, Bool.and_self, cond_true]
theorem viewSumsRow (m : Mem) (l : List Sm) : viewA 8 m (.ro (encSums l) l.length 3) = some (.ro (encSums l) l.length 3) := by
  rw [viewA]; simp only [viewSums, Option.map_some]
def p18 : PFn := ⟨18, specTx⟩
theorem cl_43 (args : List AV) : calleeA Tryz.prog (.fn (.func 43) [] []) args = some (.enter 43 args) := by rw [callee_of Tryz.func43 (by kernel_rfl) (by kernel_rfl)]; simp
theorem p18_ok : p18.Ok := by
  refine PFn.Ok.ofT (qs := []) (ps := [p12, p43]) (fun q h => by cases h) (fun p h => by simp at h; rcases h with rfl | rfl; exact p12_ok.tree; exact p43_ok.tree) (fun args x h => ?_)
  obtain ⟨l, rfl, rfl, hl, ho⟩ := specTx_some h
  clear h
  refine ⟨rfl, EvC.run (by kernel_rfl) (by rw [CT_P]; exact Tryz.func18) rfl ?_⟩
  have c12 := fun k m => callTp (qs := []) (ps := [p12, p43]) (p := p12) (f := 12) rfl (D := drawA (CT [] [p12, p43])) k m (by simp only [mapO, viewSumsRow, view_int] : mapO (viewA 8 m) [.ro (encSums l) l.length 3, .int .i64 1024] = some [.ro (encSums l) l.length 3, .int .i64 1024]) (specSums_enc hl ho 1024) rfl
  apply EvX.seq
  apply EvX.reg0
  · intro call
    simp only [QRun, stepA, wantedA, opA, pureA, loadA, effA, binA, bin, evalA, ofV, ofCell, Fr.put, setArgs, kS, Nat.zero_testBit, Nat.reduceAdd, Nat.reduceSub, Nat.reduceLeDiff, decide_true, decide_false, Nat.reduceEqDiff, if_true, if_false, reduceIte, operands, Tryz.ntmps18, natOf_nil]
    exact ⟨rfl, rfl⟩
  simp only [Ex.thn]
  apply EvX.seq
  apply EvX.seq
  apply EvX.reg 0
  · intro k _
    simp only [QRun, stepA, wantedA, opA, pureA, loadA, effA, binA, bin, evalA, ofV, ofCell, Fr.put, setArgs, kS, Nat.zero_testBit, Nat.reduceAdd, Nat.reduceSub, Nat.reduceLeDiff, decide_true, decide_false, Nat.reduceEqDiff, if_true, if_false, reduceIte, operands, cl_12, c12]
    exact ⟨rfl, rfl⟩
  simp only [Ex.thn]
  apply EvX.seq
  by_cases b1 : sumsErr 1024 l = 0
  rotate_left
  · have d1 : (sumsErr 1024 l != 0) = true := by simpa using b1
    have hr : textRes l = ([], sumsErr 1024 l) := by unfold textRes; rw [if_pos b1]
    apply EvX.reg0
    · intro call
      simp only [QRun, stepA, wantedA, opA, pureA, loadA, effA, binA, bin, evalA, ofV, ofCell, Fr.put, setArgs, kS, Nat.zero_testBit, Nat.reduceAdd, Nat.reduceSub, Nat.reduceLeDiff, decide_true, decide_false, Nat.reduceEqDiff, if_true, if_false, reduceIte, operands, d1, AV.cells, takeN, beq_self_eq_true, eq_self, kA1, kA2, Tryz.underlying22, st_9, Tryz.underlying75, ze_75, Tryz.underlying24]
      exact ⟨rfl, rfl⟩
    simp only [Ex.thn]
    apply EvX.cond2 (t := true)
    · simp only [evalA, Tr.get_set, Nat.reduceEqDiff, if_true, if_false, reduceIte]
    rotate_left
    · intro h; cases h
    intro _
    apply EvX.seq
    apply EvX.reg0
    · intro call
      simp only [QRun, stepA, wantedA, opA, pureA, loadA, effA, binA, bin, evalA, ofV, ofCell, Fr.put, setArgs, kS, Nat.zero_testBit, Nat.reduceAdd, Nat.reduceSub, Nat.reduceLeDiff, decide_true, decide_false, Nat.reduceEqDiff, if_true, if_false, reduceIte, operands, natOf_nil]
      exact ⟨rfl, rfl⟩
    simp only [Ex.thn]
    apply EvX.ret
    simp only [Ex.thn, Ex.blk]
    rw [hr]
    exact Fin.twoP rfl (by simp only [Tr.get_set, if_true, if_false, reduceIte, Nat.reduceEqDiff]) (by simp only [Tr.get_set, if_true, if_false, reduceIte, Nat.reduceEqDiff])
  have d1 : (sumsErr 1024 l != 0) = false := by simpa using b1
  have c43 := fun k m => callTp (qs := []) (ps := [p12, p43]) (p := p43) (f := 43) rfl (D := drawA (CT [] [p12, p43])) k m (by simp only [mapO, viewSumsRow] : mapO (viewA 8 m) [.ro (encSums l) l.length 3] = some [.ro (encSums l) l.length 3]) (spec43_enc b1) rfl
  apply EvX.reg0
  · intro call
    simp only [QRun, stepA, wantedA, opA, pureA, loadA, effA, binA, bin, evalA, ofV, ofCell, Fr.put, setArgs, kS, Nat.zero_testBit, Nat.reduceAdd, Nat.reduceSub, Nat.reduceLeDiff, decide_true, decide_false, Nat.reduceEqDiff, if_true, if_false, reduceIte, operands, d1, AV.cells, takeN, beq_self_eq_true, eq_self, kA1, kA2, Tryz.underlying22, st_9, Tryz.underlying75, ze_75, Tryz.underlying24]
    exact ⟨rfl, rfl⟩
  simp only [Ex.thn]
  apply EvX.cond2 (t := false)
  · simp only [evalA, Tr.get_set, Nat.reduceEqDiff, if_true, if_false, reduceIte]
  · intro h; cases h
  intro _
  apply EvX.skip
  simp only [Ex.thn, Ex.blk]
  apply EvX.seq
  apply EvX.reg 0
  · intro k _
    simp only [QRun, stepA, wantedA, opA, pureA, loadA, effA, binA, bin, evalA, ofV, ofCell, Fr.put, setArgs, kS, Nat.zero_testBit, Nat.reduceAdd, Nat.reduceSub, Nat.reduceLeDiff, decide_true, decide_false, Nat.reduceEqDiff, if_true, if_false, reduceIte, operands, cl_43, c43]
    exact ⟨rfl, rfl⟩
  simp only [Ex.thn]
  apply EvX.seq
  apply EvX.seq
  by_cases b2 : ((textOf l).length : Int) > 65536
  · have d2 := decide_eq_true b2
    have hr : textRes l = ([], 3) := by unfold textRes; rw [if_neg (fun h => h b1), if_pos (by omega)]
    apply EvX.reg0
    · intro call
      simp only [QRun, stepA, wantedA, opA, pureA, loadA, effA, binA, bin, evalA, ofV, ofCell, Fr.put, setArgs, kS, Nat.zero_testBit, Nat.reduceAdd, Nat.reduceSub, Nat.reduceLeDiff, decide_true, decide_false, Nat.reduceEqDiff, if_true, if_false, reduceIte, operands, lenS 9 st_9, d2, AV.cells, takeN, beq_self_eq_true, eq_self, kA1, kA2, Tryz.underlying22, st_9, Tryz.underlying75, ze_75, Tryz.underlying24]
      exact ⟨rfl, rfl⟩
    simp only [Ex.thn]
    apply EvX.cond2 (t := true)
    · simp only [evalA, Tr.get_set, Nat.reduceEqDiff, if_true, if_false, reduceIte]
    rotate_left
    · intro h; cases h
    intro _
    apply EvX.seq
    apply EvX.reg0
    · intro call
      simp only [QRun, stepA, wantedA, opA, pureA, loadA, effA, binA, bin, evalA, ofV, ofCell, Fr.put, setArgs, kS, Nat.zero_testBit, Nat.reduceAdd, Nat.reduceSub, Nat.reduceLeDiff, decide_true, decide_false, Nat.reduceEqDiff, if_true, if_false, reduceIte, operands, natOf_nil]
      exact ⟨rfl, rfl⟩
    simp only [Ex.thn]
    apply EvX.ret
    simp only [Ex.thn, Ex.blk]
    rw [hr]
    exact Fin.twoP rfl (by simp only [Tr.get_set, if_true, if_false, reduceIte, Nat.reduceEqDiff]) (by simp only [Tr.get_set, if_true, if_false, reduceIte, Nat.reduceEqDiff])
  have d2 := decide_eq_false b2
  have hr : textRes l = (textOf l, 0) := by unfold textRes; rw [if_neg (fun h => h b1), if_neg (by omega)]
  apply EvX.reg0
  · intro call
    simp only [QRun, stepA, wantedA, opA, pureA, loadA, effA, binA, bin, evalA, ofV, ofCell, Fr.put, setArgs, kS, Nat.zero_testBit, Nat.reduceAdd, Nat.reduceSub, Nat.reduceLeDiff, decide_true, decide_false, Nat.reduceEqDiff, if_true, if_false, reduceIte, operands, lenS 9 st_9, d2, AV.cells, takeN, beq_self_eq_true, eq_self, kA1, kA2, Tryz.underlying22, st_9, Tryz.underlying75, ze_75, Tryz.underlying24]
    exact ⟨rfl, rfl⟩
  simp only [Ex.thn]
  apply EvX.cond2 (t := false)
  · simp only [evalA, Tr.get_set, Nat.reduceEqDiff, if_true, if_false, reduceIte]
  · intro h; cases h
  intro _
  apply EvX.skip
  simp only [Ex.thn, Ex.blk]
  apply EvX.seq
  apply EvX.reg0
  · intro call
    simp only [QRun, stepA, wantedA, opA, pureA, loadA, effA, binA, bin, evalA, ofV, ofCell, Fr.put, setArgs, kS, Nat.zero_testBit, Nat.reduceAdd, Nat.reduceSub, Nat.reduceLeDiff, decide_true, decide_false, Nat.reduceEqDiff, if_true, if_false, reduceIte, operands]
    exact ⟨rfl, rfl⟩
  simp only [Ex.thn]
  apply EvX.ret
  rw [hr]
  exact Fin.twoP rfl (by simp only [Tr.get_set, if_true, if_false, reduceIte, Nat.reduceEqDiff]) (by simp only [Tr.get_set, if_true, if_false, reduceIte, Nat.reduceEqDiff])
theorem cl_38 (args : List AV) (v : AV) : calleeA Tryz.prog (.fn (.func 38) [] [v]) args = some (.enter 38 (args ++ [v])) := by rw [callee_of Tryz.func38 (by kernel_rfl) (by kernel_rfl)]; simp
theorem textOf_le {l : List Sm} (k : Nat) : (textOf (l.take k)).length ≤ (textOf l).length := by
  have h : ∀ a b : List Sm, textOf (a ++ b) = textOf a ++ textOf b := by
    intro a b
    induction a with
    | nil => rfl
    | cons s a ih => simp only [List.cons_append, textOf, ih, List.append_assoc]
  conv => rhs; rw [← List.take_append_drop k l, h]
  simp
theorem nat_exit0 : natOf { data := #[101, 120, 105, 116] } = wExit := by decide
theorem nat_throw0 : natOf { data := #[116, 104, 114, 111, 119] } = wThrow := by decide
def p17 : PFn := ⟨17, specTx⟩
theorem p17_ok : p17.Ok := by
  refine PFn.Ok.ofT (qs := []) (ps := [p11, p40]) (fun q h => by cases h) (fun p h => by simp at h; rcases h with rfl | rfl; exact p11_ok.tree; exact p40_ok.tree) (fun args x h => ?_)
  obtain ⟨l, rfl, rfl, hl, ho⟩ := specTx_some h
  clear h
  refine ⟨rfl, EvC.run (by kernel_rfl) (by rw [CT_P]; exact Tryz.func17) rfl ?_⟩
  have c11 := fun k m => callTp (qs := []) (ps := [p11, p40]) (p := p11) (f := 11) rfl (D := drawA (CT [] [p11, p40])) k m (by simp only [mapO, viewSumsRow, view_int] : mapO (viewA 8 m) [.ro (encSums l) l.length 3, .int .i64 1024] = some [.ro (encSums l) l.length 3, .int .i64 1024]) (specSums_enc hl ho 1024) rfl
  have c40 := fun k (n : Nat) (hn : n ≤ 9223372036854775807) m => callTp (qs := []) (ps := [p11, p40]) (p := p40) (f := 40) rfl (D := drawA (CT [] [p11, p40])) k m (by simp only [mapO, view_int] : mapO (viewA 8 m) [.int .i64 (n : Int)] = some [.int .i64 (n : Int)]) (spec40 (a := (n : Int)) (by omega) (by omega)) rfl
  apply EvX.seq
  apply EvX.reg0
  · intro call
    simp only [QRun, stepA, wantedA, opA, pureA, loadA, effA, binA, bin, evalA, ofV, ofCell, Fr.put, setArgs, kS, Nat.zero_testBit, Nat.reduceAdd, Nat.reduceSub, Nat.reduceLeDiff, decide_true, decide_false, Nat.reduceEqDiff, if_true, if_false, reduceIte, operands, Tryz.ntmps17, natOf_nil]
    exact ⟨rfl, rfl⟩
  simp only [Ex.thn]
  apply EvX.seq
  apply EvX.seq
  apply EvX.reg 0
  · intro k _
    simp only [QRun, stepA, wantedA, opA, pureA, loadA, effA, binA, bin, evalA, ofV, ofCell, Fr.put, setArgs, kS, Nat.zero_testBit, Nat.reduceAdd, Nat.reduceSub, Nat.reduceLeDiff, decide_true, decide_false, Nat.reduceEqDiff, if_true, if_false, reduceIte, operands, cl_11, c11]
    exact ⟨rfl, rfl⟩
  simp only [Ex.thn]
  apply EvX.seq
  by_cases b1 : sumsErr 1024 l = 0
  rotate_left
  · have d1 : (sumsErr 1024 l != 0) = true := by simpa using b1
    have hr : textRes l = ([], sumsErr 1024 l) := by unfold textRes; rw [if_pos b1]
    apply EvX.reg0
    · intro call
      simp only [QRun, stepA, wantedA, opA, pureA, loadA, effA, binA, bin, evalA, ofV, ofCell, Fr.put, setArgs, kS, Nat.zero_testBit, Nat.reduceAdd, Nat.reduceSub, Nat.reduceLeDiff, decide_true, decide_false, Nat.reduceEqDiff, if_true, if_false, reduceIte, operands, d1, AV.cells, takeN, beq_self_eq_true, eq_self, kA1, kA2, Tryz.underlying22, st_9, Tryz.underlying75, ze_75, Tryz.underlying24]
      exact ⟨rfl, rfl⟩
    simp only [Ex.thn]
    apply EvX.cond2 (t := true)
    · simp only [evalA, Tr.get_set, Nat.reduceEqDiff, if_true, if_false, reduceIte]
    rotate_left
    · intro h; cases h
    intro _
    apply EvX.seq
    apply EvX.reg0
    · intro call
      simp only [QRun, stepA, wantedA, opA, pureA, loadA, effA, binA, bin, evalA, ofV, ofCell, Fr.put, setArgs, kS, Nat.zero_testBit, Nat.reduceAdd, Nat.reduceSub, Nat.reduceLeDiff, decide_true, decide_false, Nat.reduceEqDiff, if_true, if_false, reduceIte, operands, natOf_nil]
      exact ⟨rfl, rfl⟩
    simp only [Ex.thn]
    apply EvX.ret
    simp only [Ex.thn, Ex.blk]
    rw [hr]
    exact Fin.twoP rfl (by simp only [Tr.get_set, if_true, if_false, reduceIte, Nat.reduceEqDiff]) (by simp only [Tr.get_set, if_true, if_false, reduceIte, Nat.reduceEqDiff])
  have d1 : (sumsErr 1024 l != 0) = false := by simpa using b1
  obtain ⟨hl1, hl2⟩ := sumsErr_ok b1
  apply EvX.reg0
  · intro call
    simp only [QRun, stepA, wantedA, opA, pureA, loadA, effA, binA, bin, evalA, ofV, ofCell, Fr.put, setArgs, kS, Nat.zero_testBit, Nat.reduceAdd, Nat.reduceSub, Nat.reduceLeDiff, decide_true, decide_false, Nat.reduceEqDiff, if_true, if_false, reduceIte, operands, d1, AV.cells, takeN, beq_self_eq_true, eq_self, kA1, kA2, Tryz.underlying22, st_9, Tryz.underlying75, ze_75, Tryz.underlying24]
    exact ⟨rfl, rfl⟩
  simp only [Ex.thn]
  apply EvX.cond2 (t := false)
  · simp only [evalA, Tr.get_set, Nat.reduceEqDiff, if_true, if_false, reduceIte]
  · intro h; cases h
  intro _
  apply EvX.skip
  simp only [Ex.thn, Ex.blk]
  have hB0 : Bld (Mem.empty.fresh (some 75) [.nilptr, .nilsl]) 0 [] [] := ⟨⟨.nilptr, .nilsl, fresh_winC Mem.empty 75 [.nilptr, .nilsl], .inl rfl, .inl ⟨rfl, rfl, rfl, rfl⟩⟩, by simp, by simp⟩
  have w0 : WFm (Mem.empty.fresh (some 75) [.nilptr, .nilsl]) := fresh_wf WFm.empty _ _
  have hn0 : 0 < (Mem.empty.fresh (some 75) [.nilptr, .nilsl]).nxt := by rw [fresh_nxt]; omega
  generalize hM0 : Mem.empty.fresh (some 75) [.nilptr, .nilsl] = M0 at hB0 w0 hn0
  apply EvX.seq
  apply EvX.reg0
  · intro call
    simp only [QRun, stepA, wantedA, opA, pureA, loadA, effA, binA, bin, evalA, ofV, ofCell, Fr.put, setArgs, kS, Nat.zero_testBit, Nat.reduceAdd, Nat.reduceSub, Nat.reduceLeDiff, decide_true, decide_false, Nat.reduceEqDiff, if_true, if_false, reduceIte, operands, hM0, AV.cells, takeN, beq_self_eq_true, eq_self, kA1, kA2, Tryz.underlying22, st_9, Tryz.underlying75, ze_75, Tryz.underlying24, show Mem.empty.nxt = 0 from rfl]
    exact ⟨rfl, rfl⟩
  simp only [Ex.thn]
  apply EvX.seq
  apply EvX.reg0
  · intro call
    simp only [QRun, stepA, wantedA, opA, pureA, loadA, effA, binA, bin, evalA, ofV, ofCell, Fr.put, setArgs, kS, Nat.zero_testBit, Nat.reduceAdd, Nat.reduceSub, Nat.reduceLeDiff, decide_true, decide_false, Nat.reduceEqDiff, if_true, if_false, reduceIte, operands, AV.cells, takeN, beq_self_eq_true, eq_self, kA1, kA2, Tryz.underlying22, st_9, Tryz.underlying75, ze_75, Tryz.underlying24]
    exact ⟨rfl, rfl⟩
  simp only [Ex.thn]
  apply EvX.seq
  apply EvX.seq
  apply EvX.reg0
  · intro call
    simp only [QRun, stepA, wantedA, opA, pureA, loadA, effA, binA, bin, evalA, ofV, ofCell, Fr.put, setArgs, kS, Nat.zero_testBit, Nat.reduceAdd, Nat.reduceSub, Nat.reduceLeDiff, decide_true, decide_false, Nat.reduceEqDiff, if_true, if_false, reduceIte, operands, lenA, AV.cells, takeN, beq_self_eq_true, eq_self, kA1, kA2, Tryz.underlying22, st_9, Tryz.underlying75, ze_75, Tryz.underlying24]
    exact ⟨rfl, rfl⟩
  simp only [Ex.thn]
  apply EvX.block
  refine EvX.loop (fun k fr m => ∃ (i : Nat) (cs : List Nat), k = l.length - i ∧ i ≤ l.length ∧ fr.n = 39 ∧ fr.t.get 5 = some (.ptr 0 0) ∧ fr.t.get 6 = some (.fn (.func 38) [] [.ptr 0 0]) ∧ fr.t.get 15 = some (.ro (encSums l) l.length 3) ∧ fr.t.get 16 = some (.int .i64 (l.length : Int)) ∧ fr.t.get 17 = some (.int .i64 (i : Int)) ∧
    WFm m ∧ 0 < m.nxt ∧ Bld m 0 (textOf (l.take i)) cs ∧ (textOf (l.take i)).length ≤ 65536) ?_ l.length _ _
    ⟨0, [], by simp, by simp, rfl, by simp [Tr.get_set], by simp [Tr.get_set], by simp [Tr.get_set], by simp [Tr.get_set], by simp [Tr.get_set], w0, hn0, by simpa [textOf] using hB0, by simp [textOf]⟩
  rintro k fr m ⟨i, cs, rfl, hil, hfn, h5, h6, h15, h16, h17, hw, hn, hb, hsz⟩
  apply EvX.seq
  apply EvX.reg0
  · intro call
    simp only [QRun, stepA, wantedA, opA, pureA, loadA, effA, binA, bin, evalA, ofV, ofCell, Fr.put, setArgs, kS, Nat.zero_testBit, Nat.reduceAdd, Nat.reduceSub, Nat.reduceLeDiff, decide_true, decide_false, Nat.reduceEqDiff, if_true, if_false, reduceIte, operands, hfn, h16, h17, AV.cells, takeN, beq_self_eq_true, eq_self, kA1, kA2, Tryz.underlying22, st_9, Tryz.underlying75, ze_75, Tryz.underlying24]
    exact ⟨rfl, rfl⟩
  simp only [Ex.thn]
  apply EvX.seq
  apply EvX.cond2
  · simp only [evalA, Tr.get_set, Nat.reduceEqDiff, if_true, if_false, reduceIte]; exact rfl
  rotate_left
  · intro hge
    have hge := of_decide_eq_false hge
    have hi : i = l.length := by omega
    subst hi
    rw [List.take_length] at hb hsz
    have hr : textRes l = (textOf l, 0) := by unfold textRes; rw [if_neg (fun h => h b1), if_neg (by omega)]
    obtain ⟨_, mz, rfl, N, hN⟩ := bldString (qs := []) (ps := [p11, p40]) (by kernel_rfl) hb (by omega)
    apply EvX.exit
    simp only [Ex.thn, Ex.blk, beq_dec, decide_true, cond_true]
    apply EvX.seq
    apply EvX.reg N
    · intro k hk
      simp only [QRun, stepA, wantedA, opA, pureA, loadA, effA, binA, bin, evalA, ofV, ofCell, Fr.put, setArgs, kS, Nat.zero_testBit, Nat.reduceAdd, Nat.reduceSub, Nat.reduceLeDiff, decide_true, decide_false, Nat.reduceEqDiff, if_true, if_false, reduceIte, operands, hfn, h5, cl_42, hN k hk]
      exact ⟨rfl, rfl⟩
    simp only [Ex.thn]
    apply EvX.ret
    rw [hr]
    exact Fin.twoP rfl (by simp only [Tr.get_set, if_true, if_false, reduceIte, Nat.reduceEqDiff]) (by simp only [Tr.get_set, if_true, if_false, reduceIte, Nat.reduceEqDiff])
  intro hlt
  have hlt := of_decide_eq_true hlt
  have hlt : i < l.length := by omega
  have hlt' : i + 1 ≤ l.length := hlt
  have hmul : i * 3 ≤ l.length * 3 := by omega
  have hdr := dropSum hlt
  have htk := textOf_take hlt
  have hok := hl2 l[i] (List.getElem_mem _)
  have hsl := textSum_len hok
  have hmono := textOf_le (l := l) (i + 1)
  generalize hp : l[i] = p at hdr htk hok hsl
  obtain ⟨fn, ex, th⟩ := p
  obtain ⟨o1, o2, o3, o4⟩ := hok
  simp only at o1 o2 o3 o4 hdr
  obtain ⟨f, rfl⟩ := Int.eq_ofNat_of_zero_le o1
  have hf4 := dig_len (n := f) (by omega)
  have c1 := fun k => c40 k f (by omega)
  simp only [Int.toNat_natCast] at c1
  obtain ⟨m1, st, w1, n1, k1, b1x⟩ := box_winC hw 30 (zs := [.int .i64 0, .nilsl, .nilsl]) (xs := [.int .i64 (f : Int), .ro (encPairs ex) ex.length 2, .ro (encPairs th) th.length 2]) rfl rfl
  have hb1 := hb.frame k1 (by simp) (by simp)
  have hcsl := hb.lt.2
  have hlb := lineFunc_bytes (f : Int)
  have hpos : 0 < (lineFunc (f : Int)).length := by simp only [lineFunc, List.length_append, List.length_singleton]; omega
  have hlfl : (lineFunc (f : Int)).length ≤ 20 := by
    simp only [lineFunc, List.length_append, List.length_singleton, Int.toNat_natCast, show wFunc.length = 4 from rfl]; omega
  obtain ⟨m2, cs2, w2, k2, hb2, hc2, N2, hN2⟩ := writeString (qs := []) (ps := [p11, p40]) (by kernel_rfl) (by kernel_rfl) w1 hb1 hpos hlb (by omega)
  have hx2 : ¬ m.nxt ∈ (0 :: cs) := by
    rw [List.mem_cons]
    rintro (e | e)
    · omega
    · have := hcsl _ e; omega
  have hn2 := k2.nxt
  have b2x := b1x.frame k2 hx2
  have el := textPairs_len (w := wExit) (by decide) o3.2
  have tl := textPairs_len (w := wThrow) (by decide) o4.2
  have el' := o3.1
  have tl' := o4.1
  obtain ⟨_, m3, ⟨rfl, cs3, w3, k3, hb3, hc3⟩, N3, hN3⟩ := writePairs (qs := []) (ps := [p11, p40]) (by kernel_rfl) (by kernel_rfl) (by kernel_rfl) rfl w2 hb2 (word := wExit) (by decide) (by decide) (ipr_ro ex) o3.1 o3.2 (by rw [List.length_append]; omega)
  have hx3 : ¬ m.nxt ∈ (0 :: cs2) := by
    rw [List.mem_cons]
    rintro (e | e)
    · omega
    · rcases hc2 _ e with e | e
      · have := hcsl _ e; omega
      · omega
  have hn3 := k3.nxt
  have b3x := b2x.frame k3 hx3
  obtain ⟨_, m4, ⟨rfl, cs4, w4, k4, hb4, hc4⟩, N4, hN4⟩ := writePairs (qs := []) (ps := [p11, p40]) (by kernel_rfl) (by kernel_rfl) (by kernel_rfl) rfl w3 hb3 (word := wThrow) (by decide) (by decide) (ipr_ro th) o4.1 o4.2 (by rw [List.length_append, List.length_append]; omega)
  have hn4 := k4.nxt
  have hs4 : textOf (l.take i) ++ lineFunc (f : Int) ++ textPairs wExit ex ++ textPairs wThrow th = textOf (l.take (i + 1)) := by
    rw [htk]; simp [textSum]
  rw [hs4] at hb4
  have ld0 : m1.load (.ptr m.nxt 0) 1 = some [.int .i64 (f : Int)] := b1x.load (k := 0) (a := 1) (by simp)
  have ld1 : m2.load (.ptr m.nxt 1) 1 = some [.ro (encPairs ex) ex.length 2] := b2x.load (k := 1) (a := 1) (by simp)
  have ld2 : m3.load (.ptr m.nxt 2) 1 = some [.ro (encPairs th) th.length 2] := b3x.load (k := 2) (a := 1) (by simp)
  obtain ⟨N5, hN5⟩ := bldLen (qs := []) (ps := [p11, p40]) (by kernel_rfl) hb4
  have f1 : binS .add (wFunc ++ [32]) (dig f) = some (.str (wFunc ++ [32] ++ dig f)) := add_s (by simp only [List.length_append, List.length_singleton, show wFunc.length = 4 from rfl]; omega)
  have f2 : binS .add (wFunc ++ [32] ++ dig f) [10] = some (.str (lineFunc (f : Int))) := add_s (by simp only [List.length_append, List.length_singleton, show wFunc.length = 4 from rfl]; omega)
  apply EvX.skip
  simp only [Ex.thn]
  apply EvX.seq
  apply EvX.block
  apply EvX.seq
  apply EvX.reg0
  · intro call
    simp only [QRun, stepA, wantedA, opA, pureA, loadA, effA, binA, bin, evalA, ofV, ofCell, Fr.put, setArgs, kS, Nat.zero_testBit, Nat.reduceAdd, Nat.reduceSub, Nat.reduceLeDiff, decide_true, decide_false, Nat.reduceEqDiff, if_true, if_false, reduceIte, operands, hfn, h5, h6, h15, h17, natOf?, natOf_cast, hlt', hmul, encSums_length, hdr, List.drop_zero, List.drop_succ_cons, List.length_cons, takeN, Option.map_some, Nat.le_add_left, Nat.zero_le, AV.cells, takeN, beq_self_eq_true, eq_self, kA1, kA2, Tryz.underlying22, st_9, Tryz.underlying75, ze_75, Tryz.underlying24, st]
    exact ⟨rfl, rfl⟩
  simp only [Ex.thn]
  apply EvX.seq
  apply EvX.reg N2
  · intro k hk
    simp only [QRun, stepA, wantedA, opA, pureA, loadA, effA, binA, bin, evalA, ofV, ofCell, Fr.put, setArgs, kS, Nat.zero_testBit, Nat.reduceAdd, Nat.reduceSub, Nat.reduceLeDiff, decide_true, decide_false, Nat.reduceEqDiff, if_true, if_false, reduceIte, operands, hfn, h5, h6, h15, h17, natOf?, natOf_cast, hlt', hmul, encSums_length, hdr, List.drop_zero, List.drop_succ_cons, List.length_cons, takeN, Option.map_some, Nat.le_add_left, Nat.zero_le, AV.cells, takeN, beq_self_eq_true, eq_self, kA1, kA2, Tryz.underlying22, st_9, Tryz.underlying75, ze_75, Tryz.underlying24, ld0, nat_func, nat_nl, f1, f2, cl_40, cl_39, c1, hN2 k hk]
    exact ⟨rfl, rfl⟩
  simp only [Ex.thn]
  apply EvX.seq
  apply EvX.reg N3
  · intro k hk
    simp only [QRun, stepA, wantedA, opA, pureA, loadA, effA, binA, bin, evalA, ofV, ofCell, Fr.put, setArgs, kS, Nat.zero_testBit, Nat.reduceAdd, Nat.reduceSub, Nat.reduceLeDiff, decide_true, decide_false, Nat.reduceEqDiff, if_true, if_false, reduceIte, operands, hfn, h5, h6, h15, h17, natOf?, natOf_cast, hlt', hmul, encSums_length, hdr, List.drop_zero, List.drop_succ_cons, List.length_cons, takeN, Option.map_some, Nat.le_add_left, Nat.zero_le, AV.cells, takeN, beq_self_eq_true, eq_self, kA1, kA2, Tryz.underlying22, st_9, Tryz.underlying75, ze_75, Tryz.underlying24, ld1, nat_exit0, cl_38, List.cons_append, List.nil_append, hN3 k hk]
    exact ⟨rfl, rfl⟩
  simp only [Ex.thn]
  apply EvX.seq
  apply EvX.reg N4
  · intro k hk
    simp only [QRun, stepA, wantedA, opA, pureA, loadA, effA, binA, bin, evalA, ofV, ofCell, Fr.put, setArgs, kS, Nat.zero_testBit, Nat.reduceAdd, Nat.reduceSub, Nat.reduceLeDiff, decide_true, decide_false, Nat.reduceEqDiff, if_true, if_false, reduceIte, operands, hfn, h5, h6, h15, h17, natOf?, natOf_cast, hlt', hmul, encSums_length, hdr, List.drop_zero, List.drop_succ_cons, List.length_cons, takeN, Option.map_some, Nat.le_add_left, Nat.zero_le, AV.cells, takeN, beq_self_eq_true, eq_self, kA1, kA2, Tryz.underlying22, st_9, Tryz.underlying75, ze_75, Tryz.underlying24, ld2, nat_throw0, cl_38, List.cons_append, List.nil_append, hN4 k hk]
    exact ⟨rfl, rfl⟩
  simp only [Ex.thn]
  by_cases b2 : ((textOf (l.take (i + 1))).length : Int) > 65536
  · have d2 := decide_eq_true b2
    have hr : textRes l = ([], 3) := by unfold textRes; rw [if_neg (fun h => h b1), if_pos (by omega)]
    apply EvX.seq
    apply EvX.reg N5
    · intro k hk
      simp only [QRun, stepA, wantedA, opA, pureA, loadA, effA, binA, bin, evalA, ofV, ofCell, Fr.put, setArgs, kS, Nat.zero_testBit, Nat.reduceAdd, Nat.reduceSub, Nat.reduceLeDiff, decide_true, decide_false, Nat.reduceEqDiff, if_true, if_false, reduceIte, operands, hfn, h5, h6, h15, h17, natOf?, natOf_cast, hlt', hmul, encSums_length, hdr, List.drop_zero, List.drop_succ_cons, List.length_cons, takeN, Option.map_some, Nat.le_add_left, Nat.zero_le, AV.cells, takeN, beq_self_eq_true, eq_self, kA1, kA2, Tryz.underlying22, st_9, Tryz.underlying75, ze_75, Tryz.underlying24, cl_41, hN5 k hk, d2]
      exact ⟨rfl, rfl⟩
    simp only [Ex.thn]
    apply EvX.cond2 (t := true)
    · simp only [evalA, Tr.get_set, Nat.reduceEqDiff, if_true, if_false, reduceIte]
    rotate_left
    · intro h; cases h
    intro _
    apply EvX.seq
    apply EvX.reg0
    · intro call
      simp only [QRun, stepA, wantedA, opA, pureA, loadA, effA, binA, bin, evalA, ofV, ofCell, Fr.put, setArgs, kS, Nat.zero_testBit, Nat.reduceAdd, Nat.reduceSub, Nat.reduceLeDiff, decide_true, decide_false, Nat.reduceEqDiff, if_true, if_false, reduceIte, operands, hfn, natOf_nil]
      exact ⟨rfl, rfl⟩
    simp only [Ex.thn]
    apply EvX.ret
    simp only [Ex.thn, Ex.blk]
    rw [hr]
    exact Fin.twoP rfl (by simp only [Tr.get_set, if_true, if_false, reduceIte, Nat.reduceEqDiff]) (by simp only [Tr.get_set, if_true, if_false, reduceIte, Nat.reduceEqDiff])
  have d2 := decide_eq_false b2
  apply EvX.seq
  apply EvX.reg N5
  · intro k hk
    simp only [QRun, stepA, wantedA, opA, pureA, loadA, effA, binA, bin, evalA, ofV, ofCell, Fr.put, setArgs, kS, Nat.zero_testBit, Nat.reduceAdd, Nat.reduceSub, Nat.reduceLeDiff, decide_true, decide_false, Nat.reduceEqDiff, if_true, if_false, reduceIte, operands, hfn, h5, h6, h15, h17, natOf?, natOf_cast, hlt', hmul, encSums_length, hdr, List.drop_zero, List.drop_succ_cons, List.length_cons, takeN, Option.map_some, Nat.le_add_left, Nat.zero_le, AV.cells, takeN, beq_self_eq_true, eq_self, kA1, kA2, Tryz.underlying22, st_9, Tryz.underlying75, ze_75, Tryz.underlying24, cl_41, hN5 k hk, d2]
    exact ⟨rfl, rfl⟩
  simp only [Ex.thn]
  apply EvX.cond2 (t := false)
  · simp only [evalA, Tr.get_set, Nat.reduceEqDiff, if_true, if_false, reduceIte]
  · intro h; cases h
  intro _
  apply EvX.skip
  simp only [Ex.thn, Ex.blk]
  apply EvX.reg0
  · intro call
    simp only [QRun, stepA, wantedA, opA, pureA, loadA, effA, binA, bin, evalA, ofV, ofCell, Fr.put, setArgs, kS, Nat.zero_testBit, Nat.reduceAdd, Nat.reduceSub, Nat.reduceLeDiff, decide_true, decide_false, Nat.reduceEqDiff, if_true, if_false, reduceIte, operands, hfn, h17, wrap_succ (show i + 1 ≤ 9223372036854775807 by omega)]
    exact ⟨rfl, rfl⟩
  simp only [Ex.thn]
  refine ⟨l.length - (i + 1), by omega, i + 1, cs4, rfl, hlt', trivial, ?_, ?_, ?_, ?_, ?_, w4, by omega, hb4, by omega⟩
  · simp [Tr.get_set, h5]
  · simp [Tr.get_set, h6]
  · simp [Tr.get_set, h15]
  · simp [Tr.get_set, h16]
  · simp [Tr.get_set]
end Go.Vz
