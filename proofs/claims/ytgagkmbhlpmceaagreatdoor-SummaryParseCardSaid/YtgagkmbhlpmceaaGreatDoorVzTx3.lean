/-
  strings.Builder, run; the reference's Text, told.
-/
import Derived.Test.YtgagkmbhlpmceaaGreatDoorVzTx2
import Derived.Test.YtgagkmbhlpmceaaGreatDoorVzCls
set_option linter.unusedVariables false
set_option linter.unusedSimpArgs false
namespace Go.Vz
open Go Go.Proofs
set_option maxHeartbeats 4000000
set_option maxRecDepth 20000
theorem sz_72 : sizeT Tryz.prog 72 = some 1 := by kernel_rfl
theorem sz_73 : sizeT Tryz.prog 73 = some 1 := by kernel_rfl
theorem sz_75 : sizeT Tryz.prog 75 = some 2 := by kernel_rfl
theorem sz_5 : sizeT Tryz.prog 5 = some 1 := by kernel_rfl
theorem by_5 : bytesT Tryz.prog 5 = some 1 := by kernel_rfl
theorem ze_5 : zeroT Tryz.prog 5 = some (.int .u8 0) := by kernel_rfl
theorem ze_75 : zeroT Tryz.prog 75 = some (.agg [.nilptr, .nilsl]) := by kernel_rfl
theorem ag_72 : aggT Tryz.prog 72 = some false := by kernel_rfl
theorem ag_73 : aggT Tryz.prog 73 = some false := by kernel_rfl
theorem CT_ext (qs : List MPrim) (ps : List PFn) : (CT qs ps).ext = extS := rfl
theorem cl_111 (args : List AV) : calleeA Tryz.prog (.fn (.func 111) [] []) args = some (.ext 111 args) := by
  unfold calleeA
  simp only [Tryz.func111, show (Tryz.f111.name == "runtime.NumGoroutine") = false by kernel_rfl, show Tryz.f111.body.isSome = false by kernel_rfl, cond_false, List.nil_append, List.append_nil]
theorem ext_111 (x : AV) (m : Mem) : extS 111 [x] m = some (x, m) := rfl
theorem cells_int (k : IntKind) (n : Int) : AV.cells (.int k n) = [.int k n] := rfl
theorem cells_agg (xs : List AV) : AV.cells (.agg xs) = xs := rfl
def encB (s : List Nat) : List AV := s.map fun b => .int .u8 (b : Nat)
theorem encB_length (s : List Nat) : (encB s).length = s.length := by simp [encB]
theorem encB_all : ∀ s : List Nat, allCells (encB s) = true
  | [] => rfl
  | b :: s => by simp only [encB, List.map_cons, allCells]; exact Bool.and_eq_true_iff.2 ⟨rfl, encB_all s⟩
theorem encB_bytes : ∀ {s : List Nat}, (∀ b ∈ s, b ≤ 255) → bytesOf (encB s) = some s
  | [], _ => rfl
  | b :: s, h => by
    have ih := encB_bytes (s := s) (fun c hc => h c (by simp [hc]))
    show (bif Nat.ble b 255 then (match bytesOf (encB s) with | some r => some (b :: r) | none => none) else none) = _
    rw [Nat.ble_eq_true_of_le (h b (by simp)), ih]; rfl
/-- a strings.Builder at v that holds s -/
structure Bld (m : Mem) (v : Nat) (s : List Nat) (cs : List Nat) : Prop where
  ex : ∃ p y, WinC m v 2 [p, y] v 75 ∧ (p = .nilptr ∨ p = .ptr v 0) ∧ SlC m y 1 s.length (encB s) cs 5
  no : ¬ v ∈ cs
  by_ : ∀ b ∈ s, b ≤ 255
theorem Bld.frame {m m' : Mem} {v : Nat} {s cs X : List Nat} (h : Bld m v s cs) (k : FrameC m m' X) (h1 : ¬ v ∈ X) (h2 : ∀ c ∈ cs, ¬ c ∈ X) : Bld m' v s cs := by
  obtain ⟨⟨p, y, q1, q2, q3⟩, q4, q5⟩ := h
  exact ⟨⟨p, y, q1.frame k h1, q2, q3.frame k h2⟩, q4, q5⟩
theorem Bld.lt {m : Mem} {v : Nat} {s cs : List Nat} (h : Bld m v s cs) : v < m.nxt ∧ ∀ c ∈ cs, c < m.nxt := by
  obtain ⟨⟨p, y, q1, q2, q3⟩, q4, q5⟩ := h
  exact ⟨q1.lt.1, q3.lt⟩
theorem cl_72 (args : List AV) : calleeA Tryz.prog (.fn (.func 72) [] []) args = some (.enter 72 args) := by rw [callee_of Tryz.func72 (by kernel_rfl) (by kernel_rfl)]; simp
theorem cl_39 (args : List AV) : calleeA Tryz.prog (.fn (.func 39) [] []) args = some (.enter 39 args) := by rw [callee_of Tryz.func39 (by kernel_rfl) (by kernel_rfl)]; simp
theorem cl_41 (args : List AV) : calleeA Tryz.prog (.fn (.func 41) [] []) args = some (.enter 41 args) := by rw [callee_of Tryz.func41 (by kernel_rfl) (by kernel_rfl)]; simp
theorem cl_42 (args : List AV) : calleeA Tryz.prog (.fn (.func 42) [] []) args = some (.enter 42 args) := by rw [callee_of Tryz.func42 (by kernel_rfl) (by kernel_rfl)]; simp
theorem copyCheck {qs : List MPrim} {ps : List PFn} (hp : (CT qs ps).isPrim 72 = false) {m : Mem} {v : Nat} {p y : AV} (w : WFm m) (h : WinC m v 2 [p, y] v 75) (hy : y.isCell = true) (hpp : p = .nilptr ∨ p = .ptr v 0) :
    ∃ x m', (x = .tup [] ∧ WFm m' ∧ m'.nxt = m.nxt ∧ FrameC m m' [v] ∧ WinC m' v 2 [.ptr v 0, y] v 75) ∧ EvC (CT qs ps) (drawA (CT qs ps)) 72 [.ptr v 0] m x m' := by
  refine EvC.runT (K := fun x m' => x = .tup [] ∧ WFm m' ∧ m'.nxt = m.nxt ∧ FrameC m m' [v] ∧ WinC m' v 2 [.ptr v 0, y] v 75) hp (by rw [CT_P]; exact Tryz.func72) rfl ?_
  have l0 : m.load (.ptr v 0) 1 = some [p] := h.load (k := 0) (a := 1) (by omega)
  obtain ⟨W, c, hW, hWc, hWty⟩ := h.ownW
  have hlive := hW.live
  have hlo := hW.lo
  have hhi := hW.hi
  obtain ⟨m1, s1, s2, s3, s4, s5⟩ := h.store w (k := 0) (zs := [.ptr v 0]) (by simp) rfl
  apply EvX.seq
  rcases hpp with rfl | rfl
  · apply EvX.reg0
    · intro call
      simp only [QRun, stepA, wantedA, opA, pureA, loadA, effA, binA, bin, evalA, ofV, ofCell, Fr.put, setArgs, kS, Nat.zero_testBit, Nat.reduceAdd, Nat.reduceSub, Nat.reduceLeDiff, decide_true, decide_false, Nat.reduceEqDiff, if_true, if_false, reduceIte, operands, Tryz.ntmps72, l0, hlive, hlo, hhi, hWty, s1, eqA, tyIs, CT_ext, cl_111, ext_111, allCells, AV.isCell, convA, AV.cells, takeN, beq_self_eq_true, eq_self, kA1, kA2, Tryz.underlying22, st_9, Tryz.underlying75, Tryz.underlying72, Tryz.underlying73, Tryz.underlying148, sz_72, sz_73, ag_72, ag_73, sz_75, sz_5, by_5, ze_5, Tryz.underlying141, Tryz.underlying5]
      exact ⟨rfl, rfl⟩
    simp only [Ex.thn]
    apply EvX.cond2 (t := true)
    · simp only [evalA, Tr.get_set, Nat.reduceEqDiff, if_true, if_false, reduceIte]
    rotate_left
    · intro h; cases h
    intro _
    apply EvX.reg0
    · intro call
      simp only [QRun, stepA, wantedA, opA, pureA, loadA, effA, binA, bin, evalA, ofV, ofCell, Fr.put, setArgs, kS, Nat.zero_testBit, Nat.reduceAdd, Nat.reduceSub, Nat.reduceLeDiff, decide_true, decide_false, Nat.reduceEqDiff, if_true, if_false, reduceIte, operands, Tryz.ntmps72, l0, hlive, hlo, hhi, hWty, s1, eqA, tyIs, CT_ext, cl_111, ext_111, allCells, AV.isCell, convA, AV.cells, takeN, beq_self_eq_true, eq_self, kA1, kA2, Tryz.underlying22, st_9, Tryz.underlying75, Tryz.underlying72, Tryz.underlying73, Tryz.underlying148, sz_72, sz_73, ag_72, ag_73, sz_75, sz_5, by_5, ze_5, Tryz.underlying141, Tryz.underlying5]
      exact ⟨rfl, rfl⟩
    simp only [Ex.thn]
    exact ⟨trivial, [], rfl, rfl, s2, s3, s4, s5⟩
  · apply EvX.reg0
    · intro call
      simp only [QRun, stepA, wantedA, opA, pureA, loadA, effA, binA, bin, evalA, ofV, ofCell, Fr.put, setArgs, kS, Nat.zero_testBit, Nat.reduceAdd, Nat.reduceSub, Nat.reduceLeDiff, decide_true, decide_false, Nat.reduceEqDiff, if_true, if_false, reduceIte, operands, Tryz.ntmps72, l0, hlive, hlo, hhi, hWty, s1, eqA, tyIs, CT_ext, cl_111, ext_111, allCells, AV.isCell, convA, AV.cells, takeN, beq_self_eq_true, eq_self, kA1, kA2, Tryz.underlying22, st_9, Tryz.underlying75, Tryz.underlying72, Tryz.underlying73, Tryz.underlying148, sz_72, sz_73, ag_72, ag_73, sz_75, sz_5, by_5, ze_5, Tryz.underlying141, Tryz.underlying5]
      exact ⟨rfl, rfl⟩
    simp only [Ex.thn]
    apply EvX.cond2 (t := false)
    · simp only [evalA, Tr.get_set, Nat.reduceEqDiff, if_true, if_false, reduceIte]
    · intro h; cases h
    intro _
    apply EvX.seq
    apply EvX.reg0
    · intro call
      simp only [QRun, stepA, wantedA, opA, pureA, loadA, effA, binA, bin, evalA, ofV, ofCell, Fr.put, setArgs, kS, Nat.zero_testBit, Nat.reduceAdd, Nat.reduceSub, Nat.reduceLeDiff, decide_true, decide_false, Nat.reduceEqDiff, if_true, if_false, reduceIte, operands, Tryz.ntmps72, l0, hlive, hlo, hhi, hWty, s1, eqA, tyIs, CT_ext, cl_111, ext_111, allCells, AV.isCell, convA, AV.cells, takeN, beq_self_eq_true, eq_self, kA1, kA2, Tryz.underlying22, st_9, Tryz.underlying75, Tryz.underlying72, Tryz.underlying73, Tryz.underlying148, sz_72, sz_73, ag_72, ag_73, sz_75, sz_5, by_5, ze_5, Tryz.underlying141, Tryz.underlying5]
      exact ⟨rfl, rfl⟩
    simp only [Ex.thn]
    apply EvX.cond2 (t := false)
    · simp only [evalA, Tr.get_set, Nat.reduceEqDiff, if_true, if_false, reduceIte]
    · intro h; cases h
    intro _
    apply EvX.skip
    exact ⟨trivial, [], rfl, rfl, w, rfl, FrameC.refl _ _, h⟩
theorem writeString {qs : List MPrim} {ps : List PFn} (hp : (CT qs ps).isPrim 39 = false) (hp2 : (CT qs ps).isPrim 72 = false) {m : Mem} {v : Nat} {s cs : List Nat} (w : WFm m) (h : Bld m v s cs) {u : List Nat} (hu : 0 < u.length) (hb : ∀ b ∈ u, b ≤ 255) (hl : s.length + u.length ≤ 1000000000) :
    ∃ m' cs', WFm m' ∧ FrameC m m' (v :: cs) ∧ Bld m' v (s ++ u) cs' ∧ (∀ c ∈ cs', c ∈ cs ∨ m.nxt ≤ c) ∧ EvC (CT qs ps) (drawA (CT qs ps)) 39 [.ptr v 0, .str u] m (.tup [.int .i64 (u.length : Int), .niliface]) m' := by
  obtain ⟨⟨p, y, q1, q2, q3⟩, q4, q5⟩ := h
  obtain ⟨x, m1, ⟨rfl, w1, n1, k1, b1⟩, N, hN⟩ := copyCheck hp2 w q1 q3.cell q2
  have hvX : ∀ c ∈ cs, ¬ c ∈ [v] := fun c hc hx => by rw [List.mem_singleton] at hx; subst hx; exact q4 hc
  have q3' := q3.frame k1 hvX
  obtain ⟨y', m2, cs', a1, w2, k2, s2, n2, hcs⟩ := q3'.append w1 (bytes := 1) (n' := u.length) (zs := encB u) hu (by rw [encB_length, Nat.mul_one]) (encB_all u) (by omega) (by omega)
  have b2 := b1.frame k2 q4
  obtain ⟨m3, st, w3, n3, k3, b3⟩ := b2.store w2 (k := 1) (zs := [y']) (by simp) (by simp only [allCells, s2.cell, Bool.and_self])
  have hv := q1.lt.1
  have hnv : ¬ v ∈ cs' := by
    rcases hcs with rfl | rfl
    · exact q4
    · rw [List.mem_singleton]; omega
  have s3 := s2.frame k3 (fun c hc hx => by rw [List.mem_singleton] at hx; subst hx; exact hnv hc)
  have e1 : encB s ++ encB u = encB (s ++ u) := by simp [encB]
  rw [e1, ← List.length_append] at s3
  refine ⟨m3, cs', w3, ?_, ⟨⟨.ptr v 0, y', b3, .inr rfl, s3⟩, hnv, fun b hb' => ?_⟩, fun c hc => ?_, ?_⟩
  · exact ((k1.less (Y := v :: cs) (fun c hc => .inl (by rw [List.mem_singleton] at hc; simp [hc]))).then k2 (fun c hc => .inl (by simp [hc]))).then k3 (fun c hc => .inl (by rw [List.mem_singleton] at hc; simp [hc]))
  · rcases List.mem_append.1 hb' with h | h
    · exact q5 b h
    · exact hb b h
  · rcases hcs with rfl | rfl
    · exact .inl hc
    · rw [List.mem_singleton] at hc; subst hc; exact .inr (by omega)
  · have l1 : m1.load (.ptr v 1) 1 = some [y] := b1.load (k := 1) (a := 1) (by omega)
    have hyc : y'.cells = [y'] := cells_of_cell s2.cell
    have hsrc : sourceA m1 1 (.str u) = some (u.length, encB u) := rfl
    refine EvC.of hp (by rw [CT_P]; exact Tryz.func39) rfl ?_
    apply EvX.seq
    apply EvX.reg0
    · intro call
      simp only [QRun, stepA, wantedA, opA, pureA, loadA, effA, binA, bin, evalA, ofV, ofCell, Fr.put, setArgs, kS, Nat.zero_testBit, Nat.reduceAdd, Nat.reduceSub, Nat.reduceLeDiff, decide_true, decide_false, Nat.reduceEqDiff, if_true, if_false, reduceIte, operands, Tryz.ntmps39]
      exact ⟨rfl, rfl⟩
    simp only [Ex.thn]
    apply EvX.seq
    apply EvX.reg N
    · intro k hk
      simp only [QRun, stepA, wantedA, opA, pureA, loadA, effA, binA, bin, evalA, ofV, ofCell, Fr.put, setArgs, kS, Nat.zero_testBit, Nat.reduceAdd, Nat.reduceSub, Nat.reduceLeDiff, decide_true, decide_false, Nat.reduceEqDiff, if_true, if_false, reduceIte, operands, cl_72, hN k hk]
      exact ⟨rfl, rfl⟩
    simp only [Ex.thn]
    apply EvX.seq
    apply EvX.reg0
    · intro call
      simp only [QRun, stepA, wantedA, opA, pureA, loadA, effA, binA, bin, evalA, ofV, ofCell, Fr.put, setArgs, kS, Nat.zero_testBit, Nat.reduceAdd, Nat.reduceSub, Nat.reduceLeDiff, decide_true, decide_false, Nat.reduceEqDiff, if_true, if_false, reduceIte, operands, l1, hsrc, a1, st, allCells, AV.isCell, cl_72, hyc, cells_int, takeN, beq_self_eq_true, eq_self, kA1, kA2, Tryz.underlying22, st_9, Tryz.underlying75, Tryz.underlying72, Tryz.underlying73, Tryz.underlying148, sz_72, sz_73, ag_72, ag_73, sz_75, sz_5, by_5, ze_5, Tryz.underlying141, Tryz.underlying5]
      exact ⟨rfl, rfl⟩
    simp only [Ex.thn]
    apply EvX.seq
    apply EvX.reg0
    · intro call
      simp only [QRun, stepA, wantedA, opA, pureA, loadA, effA, binA, bin, evalA, ofV, ofCell, Fr.put, setArgs, kS, Nat.zero_testBit, Nat.reduceAdd, Nat.reduceSub, Nat.reduceLeDiff, decide_true, decide_false, Nat.reduceEqDiff, if_true, if_false, reduceIte, operands, lenS 9 st_9]
      exact ⟨rfl, rfl⟩
    simp only [Ex.thn]
    apply EvX.ret
    refine ⟨trivial, rfl, [.int .i64 (u.length : Int), .niliface], ?_, rfl⟩
    rw [show Tryz.f39.results = #[.tmp 4, .tmp 5] from rfl]
    simp [Vz.results, Tr.get_set]
theorem bldLen {qs : List MPrim} {ps : List PFn} (hp : (CT qs ps).isPrim 41 = false) {m : Mem} {v : Nat} {s cs : List Nat} (h : Bld m v s cs) : EvC (CT qs ps) (drawA (CT qs ps)) 41 [.ptr v 0] m (.int .i64 (s.length : Int)) m := by
  obtain ⟨⟨p, y, q1, q2, q3⟩, q4, q5⟩ := h
  have l1 : m.load (.ptr v 1) 1 = some [y] := q1.load (k := 1) (a := 1) (by omega)
  have hlen := q3.ownS.lenA (t := 73) Tryz.underlying73
  refine EvC.of hp (by rw [CT_P]; exact Tryz.func41) rfl ?_
  apply EvX.seq
  apply EvX.reg0
  · intro call
    simp only [QRun, stepA, wantedA, opA, pureA, loadA, effA, binA, bin, evalA, ofV, ofCell, Fr.put, setArgs, kS, Nat.zero_testBit, Nat.reduceAdd, Nat.reduceSub, Nat.reduceLeDiff, decide_true, decide_false, Nat.reduceEqDiff, if_true, if_false, reduceIte, operands, Tryz.ntmps41]
    exact ⟨rfl, rfl⟩
  simp only [Ex.thn]
  apply EvX.seq
  apply EvX.reg0
  · intro call
    simp only [QRun, stepA, wantedA, opA, pureA, loadA, effA, binA, bin, evalA, ofV, ofCell, Fr.put, setArgs, kS, Nat.zero_testBit, Nat.reduceAdd, Nat.reduceSub, Nat.reduceLeDiff, decide_true, decide_false, Nat.reduceEqDiff, if_true, if_false, reduceIte, operands, l1, hlen, AV.cells, takeN, beq_self_eq_true, eq_self, kA1, kA2, Tryz.underlying22, st_9, Tryz.underlying75, Tryz.underlying72, Tryz.underlying73, Tryz.underlying148, sz_72, sz_73, ag_72, ag_73, sz_75, sz_5, by_5, ze_5, Tryz.underlying141, Tryz.underlying5]
    exact ⟨rfl, rfl⟩
  simp only [Ex.thn]
  apply EvX.ret
  refine ⟨trivial, rfl, [.int .i64 (s.length : Int)], ?_, rfl⟩
  rw [show Tryz.f41.results = #[.tmp 2] from rfl]
  simp [Vz.results, Tr.get_set]
end Go.Vz
