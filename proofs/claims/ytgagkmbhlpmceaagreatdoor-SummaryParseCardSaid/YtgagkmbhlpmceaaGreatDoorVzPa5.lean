/-
  line and grown, run.
-/
import Derived.Test.YtgagkmbhlpmceaaGreatDoorVzPa4
import Derived.Test.YtgagkmbhlpmceaaGreatDoorVzQA
set_option linter.unusedVariables false
set_option linter.unusedSimpArgs false
namespace Go.Vz
open Go Go.Proofs
set_option maxHeartbeats 4000000
set_option maxRecDepth 20000
theorem sz_24 : sizeT Tryz.prog 24 = some 1 := by kernel_rfl
theorem ag_24 : aggT Tryz.prog 24 = some false := by kernel_rfl
theorem sz_93 : sizeT Tryz.prog 93 = some 1 := by kernel_rfl
theorem ze_93 : zeroT Tryz.prog 93 = some (.agg [.int .i64 0]) := by kernel_rfl
theorem by_30 : bytesT Tryz.prog 30 = some 56 := by kernel_rfl
theorem by_70 : bytesT Tryz.prog 70 = some 16 := by kernel_rfl
theorem pl_93 : List.mapM (fun f => Option.map (fun i => (f.offset, i.size)) (Tryz.prog.info? f.type)) [({ name := "e", type := 24, offset := 0, embedded := false, tag := "", pkgPath := "dataflow/summary", byteOffset := 0 } : Field)] = some [(0, 1)] := by kernel_rfl
theorem pl_30 : List.mapM (fun f => Option.map (fun i => (f.offset, i.size)) (Tryz.prog.info? f.type)) [({ name := "Func", type := 3, offset := 0, embedded := false, tag := "", pkgPath := "", byteOffset := 0 } : Field), { name := "Exit", type := 28, offset := 1, embedded := false, tag := "", pkgPath := "", byteOffset := 8 }, { name := "Throw", type := 28, offset := 2, embedded := false, tag := "", pkgPath := "", byteOffset := 32 }] = some [(0, 1), (1, 1), (2, 1)] := by kernel_rfl
theorem pl_70 : List.mapM (fun f => Option.map (fun i => (f.offset, i.size)) (Tryz.prog.info? f.type)) [({ name := "In", type := 3, offset := 0, embedded := false, tag := "", pkgPath := "", byteOffset := 0 } : Field), { name := "Out", type := 3, offset := 1, embedded := false, tag := "", pkgPath := "", byteOffset := 8 }] = some [(0, 1), (1, 1)] := by kernel_rfl
theorem kC : type_of% (And.intro Tryz.underlying77 (And.intro Tryz.underlying22 (And.intro sz_24 (And.intro ag_24 (And.intro Tryz.underlying24 (And.intro Tryz.underlying93 (And.intro Tryz.underlying89 (And.intro sz_93 (And.intro by_30 (And.intro by_70 (And.intro natOf_0 (And.intro natOf_1 (And.intro Tryz.underlying147 (And.intro pl_93 (And.intro pl_30 (And.intro pl_70 (ze_93))))))))))))))))) := And.intro Tryz.underlying77 (And.intro Tryz.underlying22 (And.intro sz_24 (And.intro ag_24 (And.intro Tryz.underlying24 (And.intro Tryz.underlying93 (And.intro Tryz.underlying89 (And.intro sz_93 (And.intro by_30 (And.intro by_70 (And.intro natOf_0 (And.intro natOf_1 (And.intro Tryz.underlying147 (And.intro pl_93 (And.intro pl_30 (And.intro pl_70 (ze_93))))))))))))))))
theorem build93 {ρ : Operand → Option AV} {x : Operand} {a : Int} (h : ρ x = some (.int .i64 a)) : pureA Tryz.prog ρ (.build 93 #[(0, x)]) = some (.agg [.int .i64 a]) := by
  have h1 : partsA ρ #[((0 : Nat), x)].toList = some [(0, .int .i64 a)] := by simp only [partsA, h]
  unfold pureA
  simp only [h1, ze_93, Tryz.underlying93]
  rw [pl_93]
  rfl
theorem build30 {ρ : Operand → Option AV} {x : Operand} {a : Int} (h : ρ x = some (.int .i64 a)) : pureA Tryz.prog ρ (.build 30 #[(0, x)]) = some (.agg [.int .i64 a, .nilsl, .nilsl]) := by
  have h1 : partsA ρ #[((0 : Nat), x)].toList = some [(0, .int .i64 a)] := by simp only [partsA, h]
  unfold pureA
  simp only [h1, ze_30, Tryz.underlying30]
  rw [pl_30]
  rfl
theorem build70 {ρ : Operand → Option AV} {x y : Operand} {a b : Int} (h : ρ x = some (.int .i64 a)) (k : ρ y = some (.int .i64 b)) : pureA Tryz.prog ρ (.build 70 #[(0, x), (1, y)]) = some (.agg [.int .i64 a, .int .i64 b]) := by
  have h1 : partsA ρ #[((0 : Nat), x), (1, y)].toList = some [(0, .int .i64 a), (1, .int .i64 b)] := by simp only [partsA, h, k]
  unfold pureA
  simp only [h1, ze_70, Tryz.underlying70]
  rw [pl_70]
  rfl
/-- the error of a list whose last element is new -/
def grownE (l : List Sm) : Int := if l.length > 256 then 3 else sumsErr 1024 (l.drop (l.length - 2))
def GrownPost (y : AV) (l : List Sm) (m m' : Mem) (x : AV) : Prop := WFm m' ∧ FrameC m m' [] ∧ ((grownE l = 0 ∧ x = .tup [y, .niliface]) ∨ (grownE l ≠ 0 ∧ ∃ q, x = .tup [.nilsl, .iface 89 (.ptr q 0)] ∧ WinC m' q 1 [.int .i64 (grownE l)] q 93))
theorem cl_78 (args : List AV) : calleeA Tryz.prog (.fn (.func 78) [] []) args = some (.enter 78 args) := by rw [callee_of Tryz.func78 (by kernel_rfl) (by kernel_rfl)]; simp
theorem cl_45 (args : List AV) : calleeA Tryz.prog (.fn (.func 45) [] []) args = some (.enter 45 args) := by rw [callee_of Tryz.func45 (by kernel_rfl) (by kernel_rfl)]; simp
theorem grown {qs : List MPrim} {ps : List PFn} (h78 : (CT qs ps).isPrim 78 = false) (h11 : findP ps 11 = some p11n) {m : Mem} {y : AV} {l : List Sm} {cs : List Nat} (w : WFm m) (h : SumC m y l cs) (hl : 0 < l.length) (hmax : l.length ≤ 1000000) (hok : okSums l) :
    ∃ x m', GrownPost y l m m' x ∧ EvC (CT qs ps) (drawA (CT qs ps)) 78 [y] m x m' := by
  refine EvC.runT (K := fun x m' => GrownPost y l m m' x) h78 (by rw [CT_P]; exact Tryz.func78) rfl ?_
  have hk : l.length - 2 < l.length := by omega
  obtain ⟨v, rfl, hview⟩ := h.tail hk
  have hlen : lenA Tryz.prog 22 (.sl v 0 l.length 3) = some (.int .i64 (l.length : Int)) := by simp only [lenA, Tryz.underlying22]
  have hle : l.length - 2 ≤ l.length := by omega
  apply EvX.seq
  apply EvX.reg0
  · intro call
    simp only [QRun, stepA, wantedA, opA, pureA, loadA, effA, binA, bin, evalA, ofV, ofCell, Fr.put, setArgs, kS, Nat.zero_testBit, Nat.reduceAdd, Nat.reduceSub, Nat.reduceLeDiff, decide_true, decide_false, Nat.reduceEqDiff, if_true, if_false, reduceIte, operands, Tryz.ntmps78]
    exact ⟨rfl, rfl⟩
  simp only [Ex.thn]
  apply EvX.seq
  apply EvX.seq
  by_cases b1 : (l.length : Int) > 256
  · have d1 := decide_eq_true b1
    have hg : grownE l = 3 := by unfold grownE; rw [if_pos (by omega)]
    apply EvX.reg0
    · intro call
      simp only [QRun, stepA, wantedA, opA, pureA, loadA, effA, binA, bin, evalA, ofV, ofCell, Fr.put, setArgs, kS, Nat.zero_testBit, Nat.reduceAdd, Nat.reduceSub, Nat.reduceLeDiff, decide_true, decide_false, Nat.reduceEqDiff, if_true, if_false, reduceIte, operands, hlen, d1, AV.cells, takeN, beq_self_eq_true, eq_self, kA1, kA2, kB, Tryz.underlying77, Tryz.underlying22, sz_24, ag_24, Tryz.underlying24, Tryz.underlying93, Tryz.underlying89, sz_93, by_30, by_70, natOf_0, natOf_1, Tryz.underlying147]
      exact ⟨rfl, rfl⟩
    simp only [Ex.thn]
    apply EvX.cond2 (t := true)
    · simp only [evalA, Tr.get_set, Nat.reduceEqDiff, if_true, if_false, reduceIte]
    rotate_left
    · intro h; cases h
    intro _
    apply EvX.seq
    apply EvX.reg0
    · intro call
      simp only [QRun, stepA, wantedA, opA, pureA, loadA, effA, binA, bin, evalA, ofV, ofCell, Fr.put, setArgs, kS, Nat.zero_testBit, Nat.reduceAdd, Nat.reduceSub, Nat.reduceLeDiff, decide_true, decide_false, Nat.reduceEqDiff, if_true, if_false, reduceIte, operands, pl_93, ze_93, partsA, fillA, putCells, allCells, AV.isCell, AV.cells, takeN, beq_self_eq_true, eq_self, kA1, kA2, kB, Tryz.underlying77, Tryz.underlying22, sz_24, ag_24, Tryz.underlying24, Tryz.underlying93, Tryz.underlying89, sz_93, by_30, by_70, natOf_0, natOf_1, Tryz.underlying147]
      exact ⟨rfl, rfl⟩
    simp only [Ex.thn]
    apply EvX.ret
    simp only [Ex.thn, Ex.blk]
    refine Fin.twoT (K := fun x m' => GrownPost (.sl v 0 l.length 3) l m m' x) (x := .nilsl) (y := .iface 89 (.ptr m.nxt 0)) (t := 2) (u := 3) rfl (by simp only [Tr.get_set, if_true, if_false, reduceIte, Nat.reduceEqDiff]) (by simp only [Tr.get_set, if_true, if_false, reduceIte, Nat.reduceEqDiff]) ?_
    exact ⟨fresh_wf w _ _, fresh_frame m _ _ _ w, .inr ⟨by rw [hg]; decide, m.nxt, rfl, by rw [hg]; exact fresh_winC m 93 [.int .i64 3]⟩⟩
  have d1 := decide_eq_false b1
  have hg : grownE l = sumsErr 1024 (l.drop (l.length - 2)) := by unfold grownE; rw [if_neg (by omega)]
  have hmaxA : maxA [.int .i64 (IntKind.i64.wrap ((l.length : Int) - 2)), .int .i64 0] = some (.int .i64 ((l.length - 2 : Nat) : Int)) := by
    have e : IntKind.i64.wrap ((l.length : Int) - 2) = (l.length : Int) - 2 := by rw [IntKind.wrap_i64]; omega
    rw [e]
    simp only [maxA, Option.some.injEq, AV.int.injEq, true_and]
    split <;> omega
  have c11 := fun k => callTp (qs := qs) (ps := ps) (p := p11n) (f := 11) h11 (D := drawA (CT qs ps)) k m (args := [.sl v ((l.length - 2) * 3) (l.length - (l.length - 2)) 3, .int .i64 1024]) (args' := [.ro (sumCells (l.drop (l.length - 2))) (l.drop (l.length - 2)).length 3, .int .i64 1024]) (x := .int .i64 (grownE l)) (by simp only [mapO, hview, view_int]) (by
    show (isums (.ro (sumCells (l.drop (l.length - 2))) (l.drop (l.length - 2)).length 3)).map (fun l => AV.int .i64 (sumsErr 1024 l)) = _
    rw [isums_cells (fun s hs => hok s (List.mem_of_mem_drop hs)) (by rw [List.length_drop]; omega), hg]; rfl) rfl
  apply EvX.reg0
  · intro call
    simp only [QRun, stepA, wantedA, opA, pureA, loadA, effA, binA, bin, evalA, ofV, ofCell, Fr.put, setArgs, kS, Nat.zero_testBit, Nat.reduceAdd, Nat.reduceSub, Nat.reduceLeDiff, decide_true, decide_false, Nat.reduceEqDiff, if_true, if_false, reduceIte, operands, hlen, d1, AV.cells, takeN, beq_self_eq_true, eq_self, kA1, kA2, kB, Tryz.underlying77, Tryz.underlying22, sz_24, ag_24, Tryz.underlying24, Tryz.underlying93, Tryz.underlying89, sz_93, by_30, by_70, natOf_0, natOf_1, Tryz.underlying147]
    exact ⟨rfl, rfl⟩
  simp only [Ex.thn]
  apply EvX.cond2 (t := false)
  · simp only [evalA, Tr.get_set, Nat.reduceEqDiff, if_true, if_false, reduceIte]
  · intro h; cases h
  intro _
  apply EvX.skip
  simp only [Ex.thn, Ex.blk]
  apply EvX.seq
  apply EvX.reg0
  · intro call
    simp only [QRun, stepA, wantedA, opA, pureA, loadA, effA, binA, bin, evalA, ofV, ofCell, Fr.put, setArgs, kS, Nat.zero_testBit, Nat.reduceAdd, Nat.reduceSub, Nat.reduceLeDiff, decide_true, decide_false, Nat.reduceEqDiff, if_true, if_false, reduceIte, operands, hlen, hmaxA, AV.cells, takeN, beq_self_eq_true, eq_self, kA1, kA2, kB, Tryz.underlying77, Tryz.underlying22, sz_24, ag_24, Tryz.underlying24, Tryz.underlying93, Tryz.underlying89, sz_93, by_30, by_70, natOf_0, natOf_1, Tryz.underlying147]
    exact ⟨rfl, rfl⟩
  simp only [Ex.thn]
  apply EvX.seq
  apply EvX.seq
  apply EvX.reg 0
  · intro k _
    simp only [QRun, stepA, wantedA, opA, pureA, loadA, effA, binA, bin, evalA, ofV, ofCell, Fr.put, setArgs, kS, Nat.zero_testBit, Nat.reduceAdd, Nat.reduceSub, Nat.reduceLeDiff, decide_true, decide_false, Nat.reduceEqDiff, if_true, if_false, reduceIte, operands, sliceA, bounds, natOf?, natOf_cast, hle, cl_11, c11, AV.cells, takeN, beq_self_eq_true, eq_self, kA1, kA2, kB, Tryz.underlying77, Tryz.underlying22, sz_24, ag_24, Tryz.underlying24, Tryz.underlying93, Tryz.underlying89, sz_93, by_30, by_70, natOf_0, natOf_1, Tryz.underlying147]
    exact ⟨rfl, rfl⟩
  simp only [Ex.thn]
  apply EvX.seq
  by_cases b2 : grownE l = 0
  rotate_left
  · have d2 : (grownE l != 0) = true := by simpa using b2
    apply EvX.reg0
    · intro call
      simp only [QRun, stepA, wantedA, opA, pureA, loadA, effA, binA, bin, evalA, ofV, ofCell, Fr.put, setArgs, kS, Nat.zero_testBit, Nat.reduceAdd, Nat.reduceSub, Nat.reduceLeDiff, decide_true, decide_false, Nat.reduceEqDiff, if_true, if_false, reduceIte, operands, d2, AV.cells, takeN, beq_self_eq_true, eq_self, kA1, kA2, kB, Tryz.underlying77, Tryz.underlying22, sz_24, ag_24, Tryz.underlying24, Tryz.underlying93, Tryz.underlying89, sz_93, by_30, by_70, natOf_0, natOf_1, Tryz.underlying147]
      exact ⟨rfl, rfl⟩
    simp only [Ex.thn]
    apply EvX.cond2 (t := true)
    · simp only [evalA, Tr.get_set, Nat.reduceEqDiff, if_true, if_false, reduceIte]
    rotate_left
    · intro h; cases h
    intro _
    apply EvX.seq
    apply EvX.reg0
    · intro call
      simp only [QRun, stepA, wantedA, opA, pureA, loadA, effA, binA, bin, evalA, ofV, ofCell, Fr.put, setArgs, kS, Nat.zero_testBit, Nat.reduceAdd, Nat.reduceSub, Nat.reduceLeDiff, decide_true, decide_false, Nat.reduceEqDiff, if_true, if_false, reduceIte, operands, pl_93, ze_93, partsA, fillA, putCells, allCells, AV.isCell, AV.cells, takeN, beq_self_eq_true, eq_self, kA1, kA2, kB, Tryz.underlying77, Tryz.underlying22, sz_24, ag_24, Tryz.underlying24, Tryz.underlying93, Tryz.underlying89, sz_93, by_30, by_70, natOf_0, natOf_1, Tryz.underlying147]
      exact ⟨rfl, rfl⟩
    simp only [Ex.thn]
    apply EvX.ret
    simp only [Ex.thn, Ex.blk]
    refine Fin.twoT (K := fun x m' => GrownPost (.sl v 0 l.length 3) l m m' x) (x := .nilsl) (y := .iface 89 (.ptr m.nxt 0)) (t := 2) (u := 3) rfl (by simp only [Tr.get_set, if_true, if_false, reduceIte, Nat.reduceEqDiff]) (by simp only [Tr.get_set, if_true, if_false, reduceIte, Nat.reduceEqDiff]) ?_
    exact ⟨fresh_wf w _ _, fresh_frame m _ _ _ w, .inr ⟨b2, m.nxt, rfl, fresh_winC m 93 [.int .i64 (grownE l)]⟩⟩
  have d2 : (grownE l != 0) = false := by simpa using b2
  apply EvX.reg0
  · intro call
    simp only [QRun, stepA, wantedA, opA, pureA, loadA, effA, binA, bin, evalA, ofV, ofCell, Fr.put, setArgs, kS, Nat.zero_testBit, Nat.reduceAdd, Nat.reduceSub, Nat.reduceLeDiff, decide_true, decide_false, Nat.reduceEqDiff, if_true, if_false, reduceIte, operands, d2, AV.cells, takeN, beq_self_eq_true, eq_self, kA1, kA2, kB, Tryz.underlying77, Tryz.underlying22, sz_24, ag_24, Tryz.underlying24, Tryz.underlying93, Tryz.underlying89, sz_93, by_30, by_70, natOf_0, natOf_1, Tryz.underlying147]
    exact ⟨rfl, rfl⟩
  simp only [Ex.thn]
  apply EvX.cond2 (t := false)
  · simp only [evalA, Tr.get_set, Nat.reduceEqDiff, if_true, if_false, reduceIte]
  · intro h; cases h
  intro _
  apply EvX.skip
  simp only [Ex.thn, Ex.blk]
  apply EvX.seq
  apply EvX.reg0
  · intro call
    simp only [QRun, stepA, wantedA, opA, pureA, loadA, effA, binA, bin, evalA, ofV, ofCell, Fr.put, setArgs, kS, Nat.zero_testBit, Nat.reduceAdd, Nat.reduceSub, Nat.reduceLeDiff, decide_true, decide_false, Nat.reduceEqDiff, if_true, if_false, reduceIte, operands]
    exact ⟨rfl, rfl⟩
  simp only [Ex.thn]
  apply EvX.ret
  refine Fin.twoT (K := fun x m' => GrownPost (.sl v 0 l.length 3) l m m' x) (x := .sl v 0 l.length 3) (y := .niliface) (t := 2) (u := 3) rfl (by simp only [Tr.get_set, if_true, if_false, reduceIte, Nat.reduceEqDiff]) (by simp only [Tr.get_set, if_true, if_false, reduceIte, Nat.reduceEqDiff]) ?_
  exact ⟨w, FrameC.refl _ _, .inl ⟨b2, rfl⟩⟩
end Go.Vz
