/-
  The reference's line, run.
-/
import Derived.Test.YtgagkmbhlpmceaaGreatDoorVzRa2
set_option linter.unusedVariables false
set_option linter.unusedSimpArgs false
namespace Go.Vz
open Go Go.Proofs
set_option maxHeartbeats 4000000
set_option maxRecDepth 20000
theorem SumC.view {m : Mem} {y : AV} {l : List Sm} {cs : List Nat} (h : SumC m y l cs) : viewA 8 m y = some (sumsV l) := by
  obtain ⟨xs, c0, cr, rfl, h1, h2, h3⟩ := h
  unfold sumsV
  rcases Nat.eq_zero_or_pos l.length with h0 | h0
  · have := List.length_eq_zero_iff.1 h0
    subst this
    rcases h1 with ⟨rfl, _⟩ | ⟨h, _⟩
    · rfl
    · simp at h
  · rw [if_neg (List.length_pos_iff.1 h0)]
    exact h1.ownS.view h0 (h2.view 5).1
theorem FrameC.trans0 {m m' m'' : Mem} (h : FrameC m m' []) (k : FrameC m' m'' []) : FrameC m m'' [] := h.then k (fun c hc => by cases hc)
/-- the last one, made anew -/
theorem LastC.redo {m1 m5 : Mem} {y : AV} {l0 : List Sm} {s : Sm} {v : Nat} {e t : AV} {cl : Nat} {x0 : List AV} {c1 ce ct : List Nat} (h : LastC m1 y l0 s v e t cl x0 c1 ce ct) (w5 : WFm m5) (k : FrameC m1 m5 []) {y1 : AV} {c0 : List Nat} (o : SlC m5 y1 3 l0.length x0 c0 30)
    {s' : Sm} (hf : s'.fn = s.fn) {e' t' : AV} {ce' ct' : List Nat} (he : SlC m5 e' 2 s'.ex.length (encPairs s'.ex) ce' 70) (ht : SlC m5 t' 2 s'.th.length (encPairs s'.th) ct' 70) (nd : (c0 ++ (c1 ++ (ce' ++ (ct' ++ [])))).Nodup) (hl : l0.length ≤ 1000000) :
    ∃ y' m6 cs', sourceA (m5.fresh (some 30) [.int .i64 s.fn, e', t']) 3 (.sl m5.nxt 0 1 3) = some (1, [.int .i64 s.fn, e', t']) ∧ appendA 30 3 56 (m5.fresh (some 30) [.int .i64 s.fn, e', t']) y1 1 [.int .i64 s.fn, e', t'] = some (y', m6) ∧ WFm m6 ∧ SumC m6 y' (l0 ++ [s']) cs' := by
  have hr := h.rows.frame k (fun c _ hc => by cases hc)
  have hc : allCells [AV.int .i64 s.fn, e', t'] = true := by
    show (true && (e'.isCell && (t'.isCell && true))) = true
    rw [he.cell, ht.cell]; rfl
  obtain ⟨y', m6, c0', a1, a2, w6, k6, o6, n6, hc6⟩ := o.appendLit w5 (bytes := 56) (zs := [.int .i64 s.fn, e', t']) rfl hc (by omega) (by omega)
  have hd : ∀ c ∈ c1 ++ (ce' ++ (ct' ++ [])), ¬ c ∈ c0 := fun c h1 h2 => by
    rw [List.nodup_append] at nd
    exact nd.2.2 c h2 c h1 rfl
  refine ⟨y', m6, c0' ++ (c1 ++ (ce' ++ (ct' ++ []))), a1, a2, w6, x0 ++ [.int .i64 s.fn, e', t'], c0', c1 ++ (ce' ++ (ct' ++ [])), rfl, by rw [List.length_append]; exact o6, ?_, ?_⟩
  · refine (hr.frame k6 (fun c hc => hd c (by simp [hc]))).append ⟨e', t', [], ce', ct', [], ?_, rfl, he.frame k6 (fun c hc => hd c (by simp [hc])), ht.frame k6 (fun c hc => hd c (by simp [hc])), ⟨rfl, rfl⟩⟩
    rw [hf]
  · have hlt : ∀ x ∈ c0 ++ (c1 ++ (ce' ++ (ct' ++ []))), x < m5.nxt := fun x hx => by
      simp only [List.mem_append, List.not_mem_nil, or_false] at hx
      rcases hx with hx | hx | hx | hx
      · exact o.lt x hx
      · exact hr.lt x hx
      · exact he.lt x hx
      · exact ht.lt x hx
    exact nodup_put (A := []) (c := c0) (c' := c0') (B := c1 ++ (ce' ++ (ct' ++ []))) nd hlt o6.nodup hc6
def LineRPost (r : Int × List Sm) (m' : Mem) (x : AV) : Prop := WFm m' ∧ ∃ y' cs', x = .tup [y', .int .i64 r.1] ∧ (r.1 = 0 → SumC m' y' r.2 cs')
theorem isCell_int (k : IntKind) (n : Int) : (AV.int k n).isCell = true := rfl
theorem natOf_2 : natOf? (some (.int .i64 2)) = some 2 := rfl
theorem two_zero (n : Nat) : ((n : Int) == ((2 : Nat) : Int)) = decide (n = 2) := by
  rw [Bool.eq_iff_iff, beq_iff_eq, decide_eq_true_eq]; omega
theorem cl_47 (args : List AV) : calleeA Tryz.prog (.fn (.func 47) [] []) args = some (.enter 47 args) := by rw [callee_of Tryz.func47 (by kernel_rfl) (by kernel_rfl)]; simp
theorem cl_85 (args : List AV) : calleeA Tryz.prog (.fn (.func 85) [] []) args = some (.enter 85 args) := by rw [callee_of Tryz.func85 (by kernel_rfl) (by kernel_rfl)]; simp
theorem cl_86 (args : List AV) : calleeA Tryz.prog (.fn (.func 86) [] []) args = some (.enter 86 args) := by rw [callee_of Tryz.func86 (by kernel_rfl) (by kernel_rfl)]; simp
theorem lineRunR {qs : List MPrim} {ps : List PFn} (h47 : (CT qs ps).isPrim 47 = false) (h85 : (CT qs ps).isPrim 85 = false) (h86 : (CT qs ps).isPrim 86 = false) (h12 : findP ps 12 = some p12n) (h83 : findP ps 83 = some p83) (h84 : findP ps 84 = some p84) {m0 : Mem} {y : AV} {l : List Sm} {cs : List Nat} (w0 : WFm m0) (h : SumC m0 y l cs) {s : List Nat} (hs : s.length ≤ 100000) (hl : l.length ≤ 1000) (hok : ∀ x ∈ l, x.ex.length ≤ 100000 ∧ x.th.length ≤ 100000) :
    ∃ x m', LineRPost (lineR l s) m' x ∧ EvC (CT qs ps) (drawA (CT qs ps)) 47 [y, .str s] m0 x m' := by
  refine EvC.runT (K := fun x m' => LineRPost (lineR l s) m' x) h47 (by rw [CT_P]; exact Tryz.func47) rfl ?_
  have hwl := splitN_wlen 32 s
  obtain ⟨xw, M1, e1, w1, k1, o1⟩ := adopt_strs w0 32 s
  have c83 := fun k => callT (qs := qs) (ps := ps) (p := p83) (f := 83) h83 (D := drawA (CT qs ps)) k m0 (args := [.str s]) (args' := [.str s]) rfl (spec83 (by omega))
  rw [e1] at c83
  have c84 := fun (u : List Nat) (hu : u ∈ splitN 32 s) k (M : Mem) => callTp (qs := qs) (ps := ps) (p := p84) (f := 84) h84 (D := drawA (CT qs ps)) k M (args := [.str u]) (args' := [.str u]) rfl (spec84 (by have := hwl u hu; omega)) rfl
  have hs1 := h.frame (keep_frame w0 k1 []) (fun c _ hc => by cases hc)
  have hlenW := o1.lenA (t := 142) Tryz.underlying142
  have hlenY : lenA Tryz.prog 22 y = some (.int .i64 l.length) := by
    obtain ⟨ys, c0, cr, hcs, hsl, hrw, hnd⟩ := hs1
    exact hsl.ownS.lenA (t := 22) Tryz.underlying22
  apply EvX.seq
  apply EvX.reg0
  · intro call
    simp only [QRun, stepA, wantedA, opA, pureA, loadA, effA, binA, bin, evalA, ofV, ofCell, Fr.put, setArgs, kS, Nat.zero_testBit, Nat.reduceAdd, Nat.reduceSub, Nat.reduceLeDiff, decide_true, decide_false, Nat.reduceEqDiff, if_true, if_false, reduceIte, operands, Tryz.ntmps47]
    exact ⟨rfl, rfl⟩
  simp only [Ex.thn]
  apply EvX.seq
  apply EvX.reg 0
  · intro k _
    simp only [QRun, stepA, wantedA, opA, pureA, loadA, effA, binA, bin, evalA, ofV, ofCell, Fr.put, setArgs, kS, Nat.zero_testBit, Nat.reduceAdd, Nat.reduceSub, Nat.reduceLeDiff, decide_true, decide_false, Nat.reduceEqDiff, if_true, if_false, reduceIte, operands, cl_83, c83, AV.cells, takeN, beq_self_eq_true, eq_self, kA1, kA2, kB, kD]
    exact ⟨rfl, rfl⟩
  simp only [Ex.thn]
  apply EvX.seq
  apply EvX.seq
  by_cases n2 : (splitN 32 s).length = 2
  · obtain ⟨w, a, hsp⟩ : ∃ w a, splitN 32 s = [w, a] := by
      match hh : splitN 32 s, n2 with
      | [w, a], _ => exact ⟨w, a, rfl⟩
    have ca := c84 a (by rw [hsp]; simp)
    rw [hsp] at o1 hlenW
    obtain ⟨v, rfl, hld⟩ := o1.load (by simp)
    have ldw : M1.load (.ptr v 0) 1 = some [.str w] := hld 0 1 (by simp)
    have lda : M1.load (.ptr v 1) 1 = some [.str a] := hld 1 1 (by simp)
    replace hlenW : lenA Tryz.prog 142 (.sl v 0 [w, a].length 1) = some (.int .i64 2) := hlenW
    have e2 : [w, a].length = 2 := rfl
    rw [e2] at hlenW
    by_cases b1 : w = wFunc
    · have hf : eqNats w wFunc = true := by rw [eqN_iff]; exact decide_eq_true b1
      cases hn : numN a with
      | none =>
        have hv : lineR l s = (2, []) := by unfold lineR; rw [hsp]; simp only [hn]; rw [if_pos b1]
        rw [numI_none hn] at ca
        apply EvX.reg 0
        · intro k _
          simp only [QRun, stepA, wantedA, opA, pureA, loadA, effA, binA, bin, evalA, ofV, ofCell, Fr.put, setArgs, kS, Nat.zero_testBit, Nat.reduceAdd, Nat.reduceSub, Nat.reduceLeDiff, decide_true, decide_false, Nat.reduceEqDiff, if_true, if_false, reduceIte, operands, hlenW, e2, ldw, lda, nat_func0, binS, cl_84, ca, show ((2 : Int) == 2) = true from rfl, sliceA, bounds, natOf?, natOf_cast, natOf_0, natOf_1, natOf_2, Nat.zero_mul, Nat.mul_one, Nat.one_mul, Nat.reduceLT, hf, show decide ((-1 : Int) ≥ 0) = false from rfl, unA, AV.cells, takeN, beq_self_eq_true, eq_self, kA1, kA2, kB, kD]
          exact ⟨rfl, rfl⟩
        simp only [Ex.thn]
        apply EvX.cond2 (t := false)
        · simp only [evalA, Tr.get_set, Nat.reduceEqDiff, if_true, if_false, reduceIte]
        · intro h; cases h
        intro _
        apply EvX.skip
        simp only [Ex.thn, Ex.blk]
        apply EvX.seq
        apply EvX.seq
        apply EvX.reg 0
        · intro k _
          simp only [QRun, stepA, wantedA, opA, pureA, loadA, effA, binA, bin, evalA, ofV, ofCell, Fr.put, setArgs, kS, Nat.zero_testBit, Nat.reduceAdd, Nat.reduceSub, Nat.reduceLeDiff, decide_true, decide_false, Nat.reduceEqDiff, if_true, if_false, reduceIte, operands, hlenW, e2, show ((2 : Int) != 3) = true from rfl, unA, AV.cells, takeN, beq_self_eq_true, eq_self, kA1, kA2, kB, kD]
          exact ⟨rfl, rfl⟩
        simp only [Ex.thn]
        apply EvX.cond2 (t := true)
        · simp only [evalA, Tr.get_set, Nat.reduceEqDiff, if_true, if_false, reduceIte]
        rotate_left
        · intro h; cases h
        intro _
        apply EvX.seq
        apply EvX.reg0
        · intro call
          simp only [QRun, stepA, wantedA, opA, pureA, loadA, effA, binA, bin, evalA, ofV, ofCell, Fr.put, setArgs, kS, Nat.zero_testBit, Nat.reduceAdd, Nat.reduceSub, Nat.reduceLeDiff, decide_true, decide_false, Nat.reduceEqDiff, if_true, if_false, reduceIte, operands]
          exact ⟨rfl, rfl⟩
        simp only [Ex.thn]
        apply EvX.ret
        simp only [Ex.thn, Ex.blk]
        refine Fin.twoT (K := fun x m' => LineRPost (lineR l s) m' x) (x := .nilsl) (y := .int .i64 2) (t := 4) (u := 5) rfl (by simp only [Tr.get_set, if_true, if_false, reduceIte, Nat.reduceEqDiff]) (by simp only [Tr.get_set, if_true, if_false, reduceIte, Nat.reduceEqDiff]) ?_
        rw [hv]
        exact ⟨w1, .nilsl, [], rfl, fun h => by cases h⟩
      | some n =>
        have hnl := numN_lt hn
        have hv : lineR l s = (sumsErr 1024 (l ++ [⟨n, [], []⟩]), l ++ [⟨n, [], []⟩]) := by unfold lineR; rw [hsp]; simp only [hn]; rw [if_pos b1]
        rw [numI_some hn] at ca
        have dn : decide (((n : Nat) : Int) ≥ 0) = true := decide_eq_true (by omega)
        obtain ⟨y', M3, cs', a1, a2, w3, s3⟩ := hs1.push w1 (n : Int) (by omega)
        have hok3 : okSums (l ++ [⟨(n : Int), [], []⟩]) := fun x hx => by
          rcases List.mem_append.1 hx with e | e
          · have := hok x e; omega
          · rw [List.mem_singleton] at e; subst e; simp
        have c12 := fun k => callTp (qs := qs) (ps := ps) (p := p12n) (f := 12) h12 (D := drawA (CT qs ps)) k M3 (args := [y', .int .i64 1024]) (args' := [sumsV (l ++ [⟨(n : Int), [], []⟩]), .int .i64 1024]) (x := .int .i64 (sumsErr 1024 (l ++ [⟨(n : Int), [], []⟩]))) (by simp only [mapO, s3.view, view_int]) (by
          show (isums (sumsV (l ++ [⟨(n : Int), [], []⟩]))).map (fun l => AV.int .i64 (sumsErr 1024 l)) = _
          rw [isums_sumsV hok3 (by simp; omega)]; rfl) rfl
        apply EvX.reg 0
        · intro k _
          simp only [QRun, stepA, wantedA, opA, pureA, loadA, effA, binA, bin, evalA, ofV, ofCell, Fr.put, setArgs, kS, Nat.zero_testBit, Nat.reduceAdd, Nat.reduceSub, Nat.reduceLeDiff, decide_true, decide_false, Nat.reduceEqDiff, if_true, if_false, reduceIte, operands, hlenW, e2, ldw, lda, nat_func0, binS, cl_84, ca, show ((2 : Int) == 2) = true from rfl, sliceA, bounds, natOf?, natOf_cast, natOf_0, natOf_1, natOf_2, Nat.zero_mul, Nat.mul_one, Nat.one_mul, Nat.reduceLT, hf, dn, unA, AV.cells, takeN, beq_self_eq_true, eq_self, kA1, kA2, kB, kD]
          exact ⟨rfl, rfl⟩
        simp only [Ex.thn]
        apply EvX.cond2 (t := true)
        · simp only [evalA, Tr.get_set, Nat.reduceEqDiff, if_true, if_false, reduceIte]
        rotate_left
        · intro h; cases h
        intro _
        apply EvX.seq
        apply EvX.reg 0
        · intro k _
          simp only [QRun, stepA, wantedA, opA, pureA, loadA, effA, binA, bin, evalA, ofV, ofCell, Fr.put, setArgs, kS, Nat.zero_testBit, Nat.reduceAdd, Nat.reduceSub, Nat.reduceLeDiff, decide_true, decide_false, Nat.reduceEqDiff, if_true, if_false, reduceIte, operands, hlenW, e2, ldw, lda, nat_func0, binS, cl_84, ca, show ((2 : Int) == 2) = true from rfl, sliceA, bounds, natOf?, natOf_cast, natOf_0, natOf_1, natOf_2, Nat.zero_mul, Nat.mul_one, Nat.one_mul, Nat.reduceLT, a1, a2, partsA, fillA, putCells, replicateA, List.append_nil, List.nil_append, List.cons_append, Nat.reduceMul, allCells, AV.isCell, AV.cells, takeN, beq_self_eq_true, eq_self, kA1, kA2, kB, kD]
          exact ⟨rfl, rfl⟩
        simp only [Ex.thn]
        apply EvX.seq
        apply EvX.reg 0
        · intro k _
          simp only [QRun, stepA, wantedA, opA, pureA, loadA, effA, binA, bin, evalA, ofV, ofCell, Fr.put, setArgs, kS, Nat.zero_testBit, Nat.reduceAdd, Nat.reduceSub, Nat.reduceLeDiff, decide_true, decide_false, Nat.reduceEqDiff, if_true, if_false, reduceIte, operands, cl_12, c12, AV.cells, takeN, beq_self_eq_true, eq_self, kA1, kA2, kB, kD]
          exact ⟨rfl, rfl⟩
        simp only [Ex.thn]
        apply EvX.ret
        simp only [Ex.thn, Ex.blk]
        refine Fin.twoT (K := fun x m' => LineRPost (lineR l s) m' x) (x := y') (y := .int .i64 (sumsErr 1024 (l ++ [⟨(n : Int), [], []⟩]))) (t := 4) (u := 5) rfl (by simp only [Tr.get_set, if_true, if_false, reduceIte, Nat.reduceEqDiff]) (by simp only [Tr.get_set, if_true, if_false, reduceIte, Nat.reduceEqDiff]) ?_
        rw [hv]
        exact ⟨w3, y', cs', rfl, fun _ => s3⟩
    have hf : eqNats w wFunc = false := by rw [eqN_iff]; exact decide_eq_false b1
    have hv : lineR l s = (2, []) := by unfold lineR; rw [hsp]; simp only; rw [if_neg b1]
    apply EvX.reg 0
    · intro k _
      simp only [QRun, stepA, wantedA, opA, pureA, loadA, effA, binA, bin, evalA, ofV, ofCell, Fr.put, setArgs, kS, Nat.zero_testBit, Nat.reduceAdd, Nat.reduceSub, Nat.reduceLeDiff, decide_true, decide_false, Nat.reduceEqDiff, if_true, if_false, reduceIte, operands, hlenW, e2, ldw, lda, nat_func0, binS, cl_84, ca, show ((2 : Int) == 2) = true from rfl, sliceA, bounds, natOf?, natOf_cast, natOf_0, natOf_1, natOf_2, Nat.zero_mul, Nat.mul_one, Nat.one_mul, Nat.reduceLT, hf, unA, AV.cells, takeN, beq_self_eq_true, eq_self, kA1, kA2, kB, kD]
      exact ⟨rfl, rfl⟩
    simp only [Ex.thn]
    apply EvX.cond2 (t := false)
    · simp only [evalA, Tr.get_set, Nat.reduceEqDiff, if_true, if_false, reduceIte]
    · intro h; cases h
    intro _
    apply EvX.skip
    simp only [Ex.thn, Ex.blk]
    apply EvX.seq
    apply EvX.seq
    apply EvX.reg 0
    · intro k _
      simp only [QRun, stepA, wantedA, opA, pureA, loadA, effA, binA, bin, evalA, ofV, ofCell, Fr.put, setArgs, kS, Nat.zero_testBit, Nat.reduceAdd, Nat.reduceSub, Nat.reduceLeDiff, decide_true, decide_false, Nat.reduceEqDiff, if_true, if_false, reduceIte, operands, hlenW, e2, show ((2 : Int) != 3) = true from rfl, unA, AV.cells, takeN, beq_self_eq_true, eq_self, kA1, kA2, kB, kD]
      exact ⟨rfl, rfl⟩
    simp only [Ex.thn]
    apply EvX.cond2 (t := true)
    · simp only [evalA, Tr.get_set, Nat.reduceEqDiff, if_true, if_false, reduceIte]
    rotate_left
    · intro h; cases h
    intro _
    apply EvX.seq
    apply EvX.reg0
    · intro call
      simp only [QRun, stepA, wantedA, opA, pureA, loadA, effA, binA, bin, evalA, ofV, ofCell, Fr.put, setArgs, kS, Nat.zero_testBit, Nat.reduceAdd, Nat.reduceSub, Nat.reduceLeDiff, decide_true, decide_false, Nat.reduceEqDiff, if_true, if_false, reduceIte, operands]
      exact ⟨rfl, rfl⟩
    simp only [Ex.thn]
    apply EvX.ret
    simp only [Ex.thn, Ex.blk]
    refine Fin.twoT (K := fun x m' => LineRPost (lineR l s) m' x) (x := .nilsl) (y := .int .i64 2) (t := 4) (u := 5) rfl (by simp only [Tr.get_set, if_true, if_false, reduceIte, Nat.reduceEqDiff]) (by simp only [Tr.get_set, if_true, if_false, reduceIte, Nat.reduceEqDiff]) ?_
    rw [hv]
    exact ⟨w1, .nilsl, [], rfl, fun h => by cases h⟩
  have d2 : (((splitN 32 s).length : Int) == 2) = false := by rw [beq_eq_false_iff_ne]; omega
  apply EvX.reg 0
  · intro k _
    simp only [QRun, stepA, wantedA, opA, pureA, loadA, effA, binA, bin, evalA, ofV, ofCell, Fr.put, setArgs, kS, Nat.zero_testBit, Nat.reduceAdd, Nat.reduceSub, Nat.reduceLeDiff, decide_true, decide_false, Nat.reduceEqDiff, if_true, if_false, reduceIte, operands, hlenW, d2, unA, AV.cells, takeN, beq_self_eq_true, eq_self, kA1, kA2, kB, kD]
    exact ⟨rfl, rfl⟩
  simp only [Ex.thn]
  apply EvX.cond2 (t := false)
  · simp only [evalA, Tr.get_set, Nat.reduceEqDiff, if_true, if_false, reduceIte]
  · intro h; cases h
  intro _
  apply EvX.skip
  simp only [Ex.thn, Ex.blk]
  by_cases n3 : (splitN 32 s).length = 3
  rotate_left
  · have d3 : (((splitN 32 s).length : Int) != 3) = true := by rw [bne_iff_ne]; omega
    have hv : lineR l s = (2, []) := by
      unfold lineR
      split
      · rename_i e; rw [e] at n2; exact absurd rfl n2
      · rename_i e; rw [e] at n3; exact absurd rfl n3
      · rfl
    apply EvX.seq
    apply EvX.seq
    apply EvX.reg 0
    · intro k _
      simp only [QRun, stepA, wantedA, opA, pureA, loadA, effA, binA, bin, evalA, ofV, ofCell, Fr.put, setArgs, kS, Nat.zero_testBit, Nat.reduceAdd, Nat.reduceSub, Nat.reduceLeDiff, decide_true, decide_false, Nat.reduceEqDiff, if_true, if_false, reduceIte, operands, hlenW, d3, unA, AV.cells, takeN, beq_self_eq_true, eq_self, kA1, kA2, kB, kD]
      exact ⟨rfl, rfl⟩
    simp only [Ex.thn]
    apply EvX.cond2 (t := true)
    · simp only [evalA, Tr.get_set, Nat.reduceEqDiff, if_true, if_false, reduceIte]
    rotate_left
    · intro h; cases h
    intro _
    apply EvX.seq
    apply EvX.reg0
    · intro call
      simp only [QRun, stepA, wantedA, opA, pureA, loadA, effA, binA, bin, evalA, ofV, ofCell, Fr.put, setArgs, kS, Nat.zero_testBit, Nat.reduceAdd, Nat.reduceSub, Nat.reduceLeDiff, decide_true, decide_false, Nat.reduceEqDiff, if_true, if_false, reduceIte, operands]
      exact ⟨rfl, rfl⟩
    simp only [Ex.thn]
    apply EvX.ret
    simp only [Ex.thn, Ex.blk]
    refine Fin.twoT (K := fun x m' => LineRPost (lineR l s) m' x) (x := .nilsl) (y := .int .i64 2) (t := 4) (u := 5) rfl (by simp only [Tr.get_set, if_true, if_false, reduceIte, Nat.reduceEqDiff]) (by simp only [Tr.get_set, if_true, if_false, reduceIte, Nat.reduceEqDiff]) ?_
    rw [hv]
    exact ⟨w1, .nilsl, [], rfl, fun h => by cases h⟩
  obtain ⟨w, a, b, hsp⟩ : ∃ w a b, splitN 32 s = [w, a, b] := by
    match hh : splitN 32 s, n3 with
    | [w, a, b], _ => exact ⟨w, a, b, rfl⟩
  have ca := c84 a (by rw [hsp]; simp)
  have cb := c84 b (by rw [hsp]; simp)
  rw [hsp] at o1 hlenW
  obtain ⟨v, rfl, hld⟩ := o1.load (by simp)
  have ldw : M1.load (.ptr v 0) 1 = some [.str w] := hld 0 1 (by simp)
  have lda : M1.load (.ptr v 1) 1 = some [.str a] := hld 1 1 (by simp)
  have ldb : M1.load (.ptr v 2) 1 = some [.str b] := hld 2 1 (by simp)
  replace hlenW : lenA Tryz.prog 142 (.sl v 0 [w, a, b].length 1) = some (.int .i64 3) := hlenW
  have e3 : [w, a, b].length = 3 := rfl
  rw [e3] at hlenW
  by_cases b3 : w ≠ wExit ∧ w ≠ wThrow
  · have hx1 : eqNats w wExit = false := by rw [eqN_iff]; exact decide_eq_false b3.1
    have hx2 : eqNats w wThrow = false := by rw [eqN_iff]; exact decide_eq_false b3.2
    have hv : lineR l s = (2, []) := by unfold lineR; rw [hsp]; simp only; rw [if_pos b3]
    apply EvX.seq
    apply EvX.seq
    apply EvX.reg 0
    · intro k _
      simp only [QRun, stepA, wantedA, opA, pureA, loadA, effA, binA, bin, evalA, ofV, ofCell, Fr.put, setArgs, kS, Nat.zero_testBit, Nat.reduceAdd, Nat.reduceSub, Nat.reduceLeDiff, decide_true, decide_false, Nat.reduceEqDiff, if_true, if_false, reduceIte, operands, hlenW, e3, ldw, lda, ldb, nat_exit0, nat_throw0, binS, cl_84, ca, cb, show ((3 : Int) != 3) = false from rfl, sliceA, bounds, natOf?, natOf_cast, natOf_0, natOf_1, natOf_2, Nat.zero_mul, Nat.mul_one, Nat.one_mul, Nat.reduceLT, hx1, hx2, unA, AV.cells, takeN, beq_self_eq_true, eq_self, kA1, kA2, kB, kD]
      exact ⟨rfl, rfl⟩
    simp only [Ex.thn]
    apply EvX.cond2 (t := true)
    · simp only [evalA, Tr.get_set, Nat.reduceEqDiff, if_true, if_false, reduceIte]
    rotate_left
    · intro h; cases h
    intro _
    apply EvX.seq
    apply EvX.reg0
    · intro call
      simp only [QRun, stepA, wantedA, opA, pureA, loadA, effA, binA, bin, evalA, ofV, ofCell, Fr.put, setArgs, kS, Nat.zero_testBit, Nat.reduceAdd, Nat.reduceSub, Nat.reduceLeDiff, decide_true, decide_false, Nat.reduceEqDiff, if_true, if_false, reduceIte, operands]
      exact ⟨rfl, rfl⟩
    simp only [Ex.thn]
    apply EvX.ret
    simp only [Ex.thn, Ex.blk]
    refine Fin.twoT (K := fun x m' => LineRPost (lineR l s) m' x) (x := .nilsl) (y := .int .i64 2) (t := 4) (u := 5) rfl (by simp only [Tr.get_set, if_true, if_false, reduceIte, Nat.reduceEqDiff]) (by simp only [Tr.get_set, if_true, if_false, reduceIte, Nat.reduceEqDiff]) ?_
    rw [hv]
    exact ⟨w1, .nilsl, [], rfl, fun h => by cases h⟩
  have hw2 : (w = wExit ∧ eqNats w wExit = true) ∨ (w = wThrow ∧ eqNats w wExit = false ∧ eqNats w wThrow = true) := by
    by_cases c1 : w = wExit
    · exact .inl ⟨c1, by rw [eqN_iff]; exact decide_eq_true c1⟩
    · by_cases c2 : w = wThrow
      · exact .inr ⟨c2, by rw [eqN_iff]; exact decide_eq_false c1, by rw [eqN_iff]; exact decide_eq_true c2⟩
      · exact absurd ⟨c1, c2⟩ b3
  cases hn : numN a with
  | none =>
    have hv : lineR l s = (2, []) := by unfold lineR; rw [hsp]; simp only [hn]; rw [if_neg b3]
    rw [numI_none hn] at ca
    have dm : decide ((-1 : Int) < 0) = true := rfl
    rcases hw2 with ⟨_, hx1⟩ | ⟨_, hx1, hx2⟩
    · apply EvX.seq
      apply EvX.seq
      apply EvX.reg 0
      · intro k _
        simp only [QRun, stepA, wantedA, opA, pureA, loadA, effA, binA, bin, evalA, ofV, ofCell, Fr.put, setArgs, kS, Nat.zero_testBit, Nat.reduceAdd, Nat.reduceSub, Nat.reduceLeDiff, decide_true, decide_false, Nat.reduceEqDiff, if_true, if_false, reduceIte, operands, hlenW, e3, ldw, lda, ldb, nat_exit0, nat_throw0, binS, cl_84, ca, cb, show ((3 : Int) != 3) = false from rfl, sliceA, bounds, natOf?, natOf_cast, natOf_0, natOf_1, natOf_2, Nat.zero_mul, Nat.mul_one, Nat.one_mul, Nat.reduceLT, hx1, dm, unA, AV.cells, takeN, beq_self_eq_true, eq_self, kA1, kA2, kB, kD]
        exact ⟨rfl, rfl⟩
      simp only [Ex.thn]
      apply EvX.cond2 (t := true)
      · simp only [evalA, Tr.get_set, Nat.reduceEqDiff, if_true, if_false, reduceIte]
      rotate_left
      · intro h; cases h
      intro _
      apply EvX.seq
      apply EvX.reg0
      · intro call
        simp only [QRun, stepA, wantedA, opA, pureA, loadA, effA, binA, bin, evalA, ofV, ofCell, Fr.put, setArgs, kS, Nat.zero_testBit, Nat.reduceAdd, Nat.reduceSub, Nat.reduceLeDiff, decide_true, decide_false, Nat.reduceEqDiff, if_true, if_false, reduceIte, operands]
        exact ⟨rfl, rfl⟩
      simp only [Ex.thn]
      apply EvX.ret
      simp only [Ex.thn, Ex.blk]
      refine Fin.twoT (K := fun x m' => LineRPost (lineR l s) m' x) (x := .nilsl) (y := .int .i64 2) (t := 4) (u := 5) rfl (by simp only [Tr.get_set, if_true, if_false, reduceIte, Nat.reduceEqDiff]) (by simp only [Tr.get_set, if_true, if_false, reduceIte, Nat.reduceEqDiff]) ?_
      rw [hv]
      exact ⟨w1, .nilsl, [], rfl, fun h => by cases h⟩
    · apply EvX.seq
      apply EvX.seq
      apply EvX.reg 0
      · intro k _
        simp only [QRun, stepA, wantedA, opA, pureA, loadA, effA, binA, bin, evalA, ofV, ofCell, Fr.put, setArgs, kS, Nat.zero_testBit, Nat.reduceAdd, Nat.reduceSub, Nat.reduceLeDiff, decide_true, decide_false, Nat.reduceEqDiff, if_true, if_false, reduceIte, operands, hlenW, e3, ldw, lda, ldb, nat_exit0, nat_throw0, binS, cl_84, ca, cb, show ((3 : Int) != 3) = false from rfl, sliceA, bounds, natOf?, natOf_cast, natOf_0, natOf_1, natOf_2, Nat.zero_mul, Nat.mul_one, Nat.one_mul, Nat.reduceLT, hx1, hx2, dm, unA, AV.cells, takeN, beq_self_eq_true, eq_self, kA1, kA2, kB, kD]
        exact ⟨rfl, rfl⟩
      simp only [Ex.thn]
      apply EvX.cond2 (t := true)
      · simp only [evalA, Tr.get_set, Nat.reduceEqDiff, if_true, if_false, reduceIte]
      rotate_left
      · intro h; cases h
      intro _
      apply EvX.seq
      apply EvX.reg0
      · intro call
        simp only [QRun, stepA, wantedA, opA, pureA, loadA, effA, binA, bin, evalA, ofV, ofCell, Fr.put, setArgs, kS, Nat.zero_testBit, Nat.reduceAdd, Nat.reduceSub, Nat.reduceLeDiff, decide_true, decide_false, Nat.reduceEqDiff, if_true, if_false, reduceIte, operands]
        exact ⟨rfl, rfl⟩
      simp only [Ex.thn]
      apply EvX.ret
      simp only [Ex.thn, Ex.blk]
      refine Fin.twoT (K := fun x m' => LineRPost (lineR l s) m' x) (x := .nilsl) (y := .int .i64 2) (t := 4) (u := 5) rfl (by simp only [Tr.get_set, if_true, if_false, reduceIte, Nat.reduceEqDiff]) (by simp only [Tr.get_set, if_true, if_false, reduceIte, Nat.reduceEqDiff]) ?_
      rw [hv]
      exact ⟨w1, .nilsl, [], rfl, fun h => by cases h⟩
  | some p =>
  cases hm : numN b with
  | none =>
    have hv : lineR l s = (2, []) := by unfold lineR; rw [hsp]; simp only [hn, hm]; rw [if_neg b3]
    rw [numI_some hn] at ca
    rw [numI_none hm] at cb
    have dm : decide ((-1 : Int) < 0) = true := rfl
    have dp : decide (((p : Nat) : Int) < 0) = false := decide_eq_false (by omega)
    rcases hw2 with ⟨_, hx1⟩ | ⟨_, hx1, hx2⟩
    · apply EvX.seq
      apply EvX.seq
      apply EvX.reg 0
      · intro k _
        simp only [QRun, stepA, wantedA, opA, pureA, loadA, effA, binA, bin, evalA, ofV, ofCell, Fr.put, setArgs, kS, Nat.zero_testBit, Nat.reduceAdd, Nat.reduceSub, Nat.reduceLeDiff, decide_true, decide_false, Nat.reduceEqDiff, if_true, if_false, reduceIte, operands, hlenW, e3, ldw, lda, ldb, nat_exit0, nat_throw0, binS, cl_84, ca, cb, show ((3 : Int) != 3) = false from rfl, sliceA, bounds, natOf?, natOf_cast, natOf_0, natOf_1, natOf_2, Nat.zero_mul, Nat.mul_one, Nat.one_mul, Nat.reduceLT, hx1, dm, dp, unA, AV.cells, takeN, beq_self_eq_true, eq_self, kA1, kA2, kB, kD]
        exact ⟨rfl, rfl⟩
      simp only [Ex.thn]
      apply EvX.cond2 (t := true)
      · simp only [evalA, Tr.get_set, Nat.reduceEqDiff, if_true, if_false, reduceIte]
      rotate_left
      · intro h; cases h
      intro _
      apply EvX.seq
      apply EvX.reg0
      · intro call
        simp only [QRun, stepA, wantedA, opA, pureA, loadA, effA, binA, bin, evalA, ofV, ofCell, Fr.put, setArgs, kS, Nat.zero_testBit, Nat.reduceAdd, Nat.reduceSub, Nat.reduceLeDiff, decide_true, decide_false, Nat.reduceEqDiff, if_true, if_false, reduceIte, operands]
        exact ⟨rfl, rfl⟩
      simp only [Ex.thn]
      apply EvX.ret
      simp only [Ex.thn, Ex.blk]
      refine Fin.twoT (K := fun x m' => LineRPost (lineR l s) m' x) (x := .nilsl) (y := .int .i64 2) (t := 4) (u := 5) rfl (by simp only [Tr.get_set, if_true, if_false, reduceIte, Nat.reduceEqDiff]) (by simp only [Tr.get_set, if_true, if_false, reduceIte, Nat.reduceEqDiff]) ?_
      rw [hv]
      exact ⟨w1, .nilsl, [], rfl, fun h => by cases h⟩
    · apply EvX.seq
      apply EvX.seq
      apply EvX.reg 0
      · intro k _
        simp only [QRun, stepA, wantedA, opA, pureA, loadA, effA, binA, bin, evalA, ofV, ofCell, Fr.put, setArgs, kS, Nat.zero_testBit, Nat.reduceAdd, Nat.reduceSub, Nat.reduceLeDiff, decide_true, decide_false, Nat.reduceEqDiff, if_true, if_false, reduceIte, operands, hlenW, e3, ldw, lda, ldb, nat_exit0, nat_throw0, binS, cl_84, ca, cb, show ((3 : Int) != 3) = false from rfl, sliceA, bounds, natOf?, natOf_cast, natOf_0, natOf_1, natOf_2, Nat.zero_mul, Nat.mul_one, Nat.one_mul, Nat.reduceLT, hx1, hx2, dm, dp, unA, AV.cells, takeN, beq_self_eq_true, eq_self, kA1, kA2, kB, kD]
        exact ⟨rfl, rfl⟩
      simp only [Ex.thn]
      apply EvX.cond2 (t := true)
      · simp only [evalA, Tr.get_set, Nat.reduceEqDiff, if_true, if_false, reduceIte]
      rotate_left
      · intro h; cases h
      intro _
      apply EvX.seq
      apply EvX.reg0
      · intro call
        simp only [QRun, stepA, wantedA, opA, pureA, loadA, effA, binA, bin, evalA, ofV, ofCell, Fr.put, setArgs, kS, Nat.zero_testBit, Nat.reduceAdd, Nat.reduceSub, Nat.reduceLeDiff, decide_true, decide_false, Nat.reduceEqDiff, if_true, if_false, reduceIte, operands]
        exact ⟨rfl, rfl⟩
      simp only [Ex.thn]
      apply EvX.ret
      simp only [Ex.thn, Ex.blk]
      refine Fin.twoT (K := fun x m' => LineRPost (lineR l s) m' x) (x := .nilsl) (y := .int .i64 2) (t := 4) (u := 5) rfl (by simp only [Tr.get_set, if_true, if_false, reduceIte, Nat.reduceEqDiff]) (by simp only [Tr.get_set, if_true, if_false, reduceIte, Nat.reduceEqDiff]) ?_
      rw [hv]
      exact ⟨w1, .nilsl, [], rfl, fun h => by cases h⟩
  | some q =>
  have hpl := numN_lt hn
  have hql := numN_lt hm
  rw [numI_some hn] at ca
  rw [numI_some hm] at cb
  have dp : decide (((p : Nat) : Int) < 0) = false := decide_eq_false (by omega)
  have dq : decide (((q : Nat) : Int) < 0) = false := decide_eq_false (by omega)
  have hlp : lineR l s = pushR l w p q := by unfold lineR; rw [hsp]; simp only [hn, hm]; rw [if_neg b3]
  by_cases b5 : l.length = 0
  · have d5 : ((l.length : Int) == 0) = true := by rw [beq_iff_eq]; omega
    have hv : lineR l s = (2, []) := by
      rw [hlp]
      have := List.length_eq_zero_iff.1 b5
      subst this
      rfl
    rcases hw2 with ⟨_, hx1⟩ | ⟨_, hx1, hx2⟩
    · apply EvX.seq
      apply EvX.seq
      apply EvX.reg 0
      · intro k _
        simp only [QRun, stepA, wantedA, opA, pureA, loadA, effA, binA, bin, evalA, ofV, ofCell, Fr.put, setArgs, kS, Nat.zero_testBit, Nat.reduceAdd, Nat.reduceSub, Nat.reduceLeDiff, decide_true, decide_false, Nat.reduceEqDiff, if_true, if_false, reduceIte, operands, hlenW, e3, ldw, lda, ldb, nat_exit0, nat_throw0, binS, cl_84, ca, cb, show ((3 : Int) != 3) = false from rfl, sliceA, bounds, natOf?, natOf_cast, natOf_0, natOf_1, natOf_2, Nat.zero_mul, Nat.mul_one, Nat.one_mul, Nat.reduceLT, hx1, dp, dq, hlenY, d5, unA, AV.cells, takeN, beq_self_eq_true, eq_self, kA1, kA2, kB, kD]
        exact ⟨rfl, rfl⟩
      simp only [Ex.thn]
      apply EvX.cond2 (t := true)
      · simp only [evalA, Tr.get_set, Nat.reduceEqDiff, if_true, if_false, reduceIte]
      rotate_left
      · intro h; cases h
      intro _
      apply EvX.seq
      apply EvX.reg0
      · intro call
        simp only [QRun, stepA, wantedA, opA, pureA, loadA, effA, binA, bin, evalA, ofV, ofCell, Fr.put, setArgs, kS, Nat.zero_testBit, Nat.reduceAdd, Nat.reduceSub, Nat.reduceLeDiff, decide_true, decide_false, Nat.reduceEqDiff, if_true, if_false, reduceIte, operands]
        exact ⟨rfl, rfl⟩
      simp only [Ex.thn]
      apply EvX.ret
      simp only [Ex.thn, Ex.blk]
      refine Fin.twoT (K := fun x m' => LineRPost (lineR l s) m' x) (x := .nilsl) (y := .int .i64 2) (t := 4) (u := 5) rfl (by simp only [Tr.get_set, if_true, if_false, reduceIte, Nat.reduceEqDiff]) (by simp only [Tr.get_set, if_true, if_false, reduceIte, Nat.reduceEqDiff]) ?_
      rw [hv]
      exact ⟨w1, .nilsl, [], rfl, fun h => by cases h⟩
    · apply EvX.seq
      apply EvX.seq
      apply EvX.reg 0
      · intro k _
        simp only [QRun, stepA, wantedA, opA, pureA, loadA, effA, binA, bin, evalA, ofV, ofCell, Fr.put, setArgs, kS, Nat.zero_testBit, Nat.reduceAdd, Nat.reduceSub, Nat.reduceLeDiff, decide_true, decide_false, Nat.reduceEqDiff, if_true, if_false, reduceIte, operands, hlenW, e3, ldw, lda, ldb, nat_exit0, nat_throw0, binS, cl_84, ca, cb, show ((3 : Int) != 3) = false from rfl, sliceA, bounds, natOf?, natOf_cast, natOf_0, natOf_1, natOf_2, Nat.zero_mul, Nat.mul_one, Nat.one_mul, Nat.reduceLT, hx1, hx2, dp, dq, hlenY, d5, unA, AV.cells, takeN, beq_self_eq_true, eq_self, kA1, kA2, kB, kD]
        exact ⟨rfl, rfl⟩
      simp only [Ex.thn]
      apply EvX.cond2 (t := true)
      · simp only [evalA, Tr.get_set, Nat.reduceEqDiff, if_true, if_false, reduceIte]
      rotate_left
      · intro h; cases h
      intro _
      apply EvX.seq
      apply EvX.reg0
      · intro call
        simp only [QRun, stepA, wantedA, opA, pureA, loadA, effA, binA, bin, evalA, ofV, ofCell, Fr.put, setArgs, kS, Nat.zero_testBit, Nat.reduceAdd, Nat.reduceSub, Nat.reduceLeDiff, decide_true, decide_false, Nat.reduceEqDiff, if_true, if_false, reduceIte, operands]
        exact ⟨rfl, rfl⟩
      simp only [Ex.thn]
      apply EvX.ret
      simp only [Ex.thn, Ex.blk]
      refine Fin.twoT (K := fun x m' => LineRPost (lineR l s) m' x) (x := .nilsl) (y := .int .i64 2) (t := 4) (u := 5) rfl (by simp only [Tr.get_set, if_true, if_false, reduceIte, Nat.reduceEqDiff]) (by simp only [Tr.get_set, if_true, if_false, reduceIte, Nat.reduceEqDiff]) ?_
      rw [hv]
      exact ⟨w1, .nilsl, [], rfl, fun h => by cases h⟩
  have d5 : ((l.length : Int) == 0) = false := by rw [beq_eq_false_iff_ne]; omega
  obtain ⟨l0, sm, rfl, hgl, hdl⟩ := getLast_of (l := l) (fun e => b5 (by rw [e]; rfl))
  have hl0 : l0.length + 1 ≤ 1000 := by simpa using hl
  have hsm := hok sm (by simp)
  obtain ⟨vy, e, t, cl, x0, c1, ce, ct, L1⟩ := hs1.last
  obtain ⟨xl, M2, ⟨w2, k2, y1, c0, hxl, o2, m2⟩, N1, hN1⟩ := lastRun h85 w1 L1 (by omega)
  subst hxl
  obtain ⟨M3, st3, w3, n3', k3, q3⟩ := box_winC w2 30 (zs := [.int .i64 0, .nilsl, .nilsl]) (xs := [.int .i64 sm.fn, e, t]) rfl (by show (true && (e.isCell && (t.isCell && true))) = true; rw [L1.ex.cell, L1.th.cell]; rfl)
  have k13 := k2.trans0 k3
  have hcells : (AV.agg [.int .i64 sm.fn, e, t]).cells = [.int .i64 sm.fn, e, t] := by rw [cells_agg]
  have ldw3 := load_frame w1 k13 ldw
  have lda3 := load_frame w1 k13 lda
  have ldb3 := load_frame w1 k13 ldb
  have L3 := L1.frame k13 (fun c _ hc => by cases hc)
  have o3 := o2.frame k3 (fun c _ hc => by cases hc)
  have ldt3 : M3.load (.ptr M2.nxt 2) 1 = some [t] := by have := q3.load (k := 2) (a := 1) (by simp); simpa using this
  have lde3 : M3.load (.ptr M2.nxt 1) 1 = some [e] := by have := q3.load (k := 1) (a := 1) (by simp); simpa using this
  have n12 := k2.nxt
  have nd1 := nodup_put (A := []) (c := [cl]) (c' := c0) (B := c1 ++ (ce ++ (ct ++ []))) (N := M1.nxt) L1.nd L1.lt o2.nodup (fun c hc => .inr (m2 c hc))
  have lt1 := L1.lt
  have lt0 := o2.lt
  have lt3 : ∀ x ∈ c0 ++ (c1 ++ (ce ++ (ct ++ []))), x < M3.nxt := fun x hx => by
    rcases List.mem_append.1 hx with hx | hx
    · have := lt0 x hx; omega
    · have := lt1 x (by simp at hx ⊢; exact .inr hx); omega
  have hok2 : okSums (l0 ++ [sm]) := fun x hx => by have := hok x hx; omega
  rcases hw2 with ⟨hwe, hx1⟩ | ⟨hwt, hx1, hx2⟩
  rotate_left
  · have hv : lineR (l0 ++ [sm]) s = (sumsErr 1024 (l0 ++ [{ sm with th := sm.th ++ [((p : Int), (q : Int))] }]), l0 ++ [{ sm with th := sm.th ++ [((p : Int), (q : Int))] }]) := by
      rw [hlp]; unfold pushR; rw [hgl]; simp only [hdl]; rw [if_pos hwt]
    obtain ⟨t', M4, ⟨w4, k4, cn, o4, m4⟩, N2, hN2⟩ := moreRun h86 w3 L3.th (p : Int) (q : Int) (by omega)
    have htc : t'.cells = [t'] := cells_of_cell o4.cell
    obtain ⟨M5, st5, w5, n5, k5, q5⟩ := (q3.frame k4 (fun hc => by cases hc)).store w4 (k := 2) (zs := [t']) (by simp) (by simp only [allCells, o4.cell, Bool.and_self])
    have k15 : FrameC M1 M5 [] := (k13.trans0 k4).then k5 (fun c hc => by rw [List.mem_singleton] at hc; subst hc; exact .inr n12)
    have nq : ∀ c, c < M2.nxt → ¬ c ∈ [M2.nxt] := fun c h1 h2 => by rw [List.mem_singleton] at h2; omega
    have o5 := (o3.frame k4 (fun c _ hc => by cases hc)).frame k5 (fun c hc => nq c (lt0 c hc))
    have n33 : M2.nxt < M3.nxt := by omega
    have g4 := o4.frame k5 (fun c hc h2 => by rw [List.mem_singleton] at h2; have := m4 c hc; omega)
    have ld5 : M5.load (.ptr M2.nxt 0) 3 = some [.int .i64 sm.fn, e, t'] := by have := q5.load (k := 0) (a := 3) (by simp); simpa using this
    have lo : ∀ c, c ∈ c1 ++ (ce ++ (ct ++ [])) → c < M2.nxt := fun c hc => by have := lt1 c (by simp at hc ⊢; exact .inr hc); omega
    have x5 := (L3.ex.frame k4 (fun c _ hc => by cases hc)).frame k5 (fun c hc => nq c (lo c (by simp [hc])))
    obtain ⟨y', M6, cs', a1, a2, w6, s6⟩ := L1.redo w5 k15 o5 (s' := { sm with th := sm.th ++ [((p : Int), (q : Int))] }) rfl x5 g4 (by
      have := nodup_put (A := c0 ++ (c1 ++ ce)) (c := ct) (c' := cn) (B := []) (N := M3.nxt) (by simpa using nd1) (fun x hx => lt3 x (by simpa using hx)) o4.nodup (fun c hc => .inr (m4 c hc))
      simpa using this) (by omega)
    have hok6 : okSums (l0 ++ [{ sm with th := sm.th ++ [((p : Int), (q : Int))] }]) := fun x hx => by
      rcases List.mem_append.1 hx with e' | e'
      · exact hok2 x (by simp [e'])
      · rw [List.mem_singleton] at e'; subst e'; simp only [List.length_append, List.length_singleton]; omega
    have c12 := fun k => callTp (qs := qs) (ps := ps) (p := p12n) (f := 12) h12 (D := drawA (CT qs ps)) k M6 (args := [y', .int .i64 1024]) (args' := [sumsV (l0 ++ [{ sm with th := sm.th ++ [((p : Int), (q : Int))] }]), .int .i64 1024]) (x := .int .i64 (sumsErr 1024 (l0 ++ [{ sm with th := sm.th ++ [((p : Int), (q : Int))] }]))) (by simp only [mapO, s6.view, view_int]) (by
      show (isums (sumsV (l0 ++ [{ sm with th := sm.th ++ [((p : Int), (q : Int))] }]))).map (fun l => AV.int .i64 (sumsErr 1024 l)) = _
      rw [isums_sumsV hok6 (by simp; omega)]; rfl) rfl
    apply EvX.seq
    apply EvX.seq
    apply EvX.reg 0
    · intro k _
      simp only [QRun, stepA, wantedA, opA, pureA, loadA, effA, binA, bin, evalA, ofV, ofCell, Fr.put, setArgs, kS, Nat.zero_testBit, Nat.reduceAdd, Nat.reduceSub, Nat.reduceLeDiff, decide_true, decide_false, Nat.reduceEqDiff, if_true, if_false, reduceIte, operands, hlenW, e3, ldw, lda, ldb, nat_exit0, nat_throw0, binS, cl_84, ca, cb, show ((3 : Int) != 3) = false from rfl, sliceA, bounds, natOf?, natOf_cast, natOf_0, natOf_1, natOf_2, Nat.zero_mul, Nat.mul_one, Nat.one_mul, Nat.reduceLT, hx1, hx2, dp, dq, hlenY, d5, unA, AV.cells, takeN, beq_self_eq_true, eq_self, kA1, kA2, kB, kD]
      exact ⟨rfl, rfl⟩
    simp only [Ex.thn]
    apply EvX.cond2 (t := false)
    · simp only [evalA, Tr.get_set, Nat.reduceEqDiff, if_true, if_false, reduceIte]
    · intro h; cases h
    intro _
    apply EvX.skip
    simp only [Ex.thn, Ex.blk]
    apply EvX.seq
    apply EvX.reg N1
    · intro k hk
      have hN' := hN1 k hk
      simp only [QRun, stepA, wantedA, opA, pureA, loadA, effA, binA, bin, evalA, ofV, ofCell, Fr.put, setArgs, kS, Nat.zero_testBit, Nat.reduceAdd, Nat.reduceSub, Nat.reduceLeDiff, decide_true, decide_false, Nat.reduceEqDiff, if_true, if_false, reduceIte, operands, sliceA, bounds, natOf?, natOf_cast, natOf_0, natOf_1, natOf_2, Nat.zero_mul, Nat.mul_one, Nat.one_mul, Nat.reduceLT, cl_85, hN', cells_agg, st3, partsA, fillA, putCells, replicateA, List.append_nil, List.nil_append, List.cons_append, Nat.reduceMul, allCells, AV.isCell, takeN, beq_self_eq_true, eq_self, kA1, kA2, kB, kD]
      exact ⟨rfl, rfl⟩
    simp only [Ex.thn]
    apply EvX.seq
    apply EvX.seq
    apply EvX.reg0
    · intro call
      simp only [QRun, stepA, wantedA, opA, pureA, loadA, effA, binA, bin, evalA, ofV, ofCell, Fr.put, setArgs, kS, Nat.zero_testBit, Nat.reduceAdd, Nat.reduceSub, Nat.reduceLeDiff, decide_true, decide_false, Nat.reduceEqDiff, if_true, if_false, reduceIte, operands, ldw3, nat_throw0, binS, hx2, e3, sliceA, bounds, natOf?, natOf_cast, natOf_0, natOf_1, natOf_2, Nat.zero_mul, Nat.mul_one, Nat.one_mul, Nat.reduceLT, AV.cells, takeN, beq_self_eq_true, eq_self, kA1, kA2, kB, kD]
      exact ⟨rfl, rfl⟩
    simp only [Ex.thn]
    apply EvX.cond2 (t := true)
    · simp only [evalA, Tr.get_set, Nat.reduceEqDiff, if_true, if_false, reduceIte]
    rotate_left
    · intro h; cases h
    intro _
    apply EvX.drwA 544 [M3] N2
    · kernel_rfl
    · intro k hk
      have hN' := hN2 k hk
      simp only [QRunA, stepA, wantedA, opA, pureA, loadA, effA, binA, bin, evalA, ofV, ofCell, Fr.put, setArgs, kS, Nat.reduceAdd, Nat.reduceSub, Nat.reduceLeDiff, decide_true, decide_false, Nat.reduceEqDiff, if_true, if_false, reduceIte, operands, sliceA, bounds, natOf?, natOf_cast, natOf_0, natOf_1, natOf_2, Nat.zero_mul, Nat.mul_one, Nat.one_mul, Nat.reduceLT, ldw3, lda3, ldb3, ldt3, cl_84, ca, cb, cl_86, hN', e3, htc, st5, List.mem_cons, List.not_mem_nil, or_false, or_true, true_or, forall_eq_or_imp, forall_eq, and_self, takeN, beq_self_eq_true, eq_self, kA1, kA2, kB, kD, show Nat.testBit 544 0 = false from rfl, show Nat.testBit 544 1 = false from rfl, show Nat.testBit 544 2 = false from rfl, show Nat.testBit 544 3 = false from rfl, show Nat.testBit 544 4 = false from rfl, show Nat.testBit 544 5 = true from rfl, show Nat.testBit 544 6 = false from rfl, show Nat.testBit 544 7 = false from rfl, show Nat.testBit 544 8 = false from rfl, show Nat.testBit 544 9 = true from rfl, show Nat.testBit 544 10 = false from rfl, show Nat.testBit 544 11 = false from rfl, show Nat.testBit 544 12 = false from rfl]
      exact ⟨rfl, rfl⟩
    simp only [Ex.thn, Ex.blk]
    apply EvX.seq
    apply EvX.reg0
    · intro call
      simp only [QRun, stepA, wantedA, opA, pureA, loadA, effA, binA, bin, evalA, ofV, ofCell, Fr.put, setArgs, kS, Nat.zero_testBit, Nat.reduceAdd, Nat.reduceSub, Nat.reduceLeDiff, decide_true, decide_false, Nat.reduceEqDiff, if_true, if_false, reduceIte, operands, ld5, a1, a2, cells_agg, isCell_int, L1.ex.cell, L1.th.cell, o4.cell, partsA, fillA, putCells, replicateA, List.append_nil, List.nil_append, List.cons_append, Nat.reduceMul, allCells, takeN, beq_self_eq_true, eq_self, kA1, kA2, kB, kD]
      exact ⟨rfl, rfl⟩
    simp only [Ex.thn]
    apply EvX.seq
    apply EvX.reg 0
    · intro k _
      simp only [QRun, stepA, wantedA, opA, pureA, loadA, effA, binA, bin, evalA, ofV, ofCell, Fr.put, setArgs, kS, Nat.zero_testBit, Nat.reduceAdd, Nat.reduceSub, Nat.reduceLeDiff, decide_true, decide_false, Nat.reduceEqDiff, if_true, if_false, reduceIte, operands, cl_12, c12, AV.cells, takeN, beq_self_eq_true, eq_self, kA1, kA2, kB, kD]
      exact ⟨rfl, rfl⟩
    simp only [Ex.thn]
    apply EvX.ret
    refine Fin.twoT (K := fun x m' => LineRPost (lineR (l0 ++ [sm]) s) m' x) (x := y') (y := .int .i64 (sumsErr 1024 (l0 ++ [{ sm with th := sm.th ++ [((p : Int), (q : Int))] }]))) (t := 4) (u := 5) rfl (by simp only [Tr.get_set, if_true, if_false, reduceIte, Nat.reduceEqDiff]) (by simp only [Tr.get_set, if_true, if_false, reduceIte, Nat.reduceEqDiff]) ?_
    rw [hv]
    exact ⟨w6, y', cs', rfl, fun _ => s6⟩
  have hx2 : eqNats w wThrow = false := by rw [hwe]; rfl
  have hnt : ¬ w = wThrow := fun e => by rw [hwe] at e; revert e; decide
  have hlenT := L3.th.ownS.lenA (t := 28) sl_t28
  apply EvX.seq
  apply EvX.seq
  apply EvX.reg 0
  · intro k _
    simp only [QRun, stepA, wantedA, opA, pureA, loadA, effA, binA, bin, evalA, ofV, ofCell, Fr.put, setArgs, kS, Nat.zero_testBit, Nat.reduceAdd, Nat.reduceSub, Nat.reduceLeDiff, decide_true, decide_false, Nat.reduceEqDiff, if_true, if_false, reduceIte, operands, hlenW, e3, ldw, lda, ldb, nat_exit0, nat_throw0, binS, cl_84, ca, cb, show ((3 : Int) != 3) = false from rfl, sliceA, bounds, natOf?, natOf_cast, natOf_0, natOf_1, natOf_2, Nat.zero_mul, Nat.mul_one, Nat.one_mul, Nat.reduceLT, hx1, dp, dq, hlenY, d5, unA, AV.cells, takeN, beq_self_eq_true, eq_self, kA1, kA2, kB, kD]
    exact ⟨rfl, rfl⟩
  simp only [Ex.thn]
  apply EvX.cond2 (t := false)
  · simp only [evalA, Tr.get_set, Nat.reduceEqDiff, if_true, if_false, reduceIte]
  · intro h; cases h
  intro _
  apply EvX.skip
  simp only [Ex.thn, Ex.blk]
  apply EvX.seq
  apply EvX.reg N1
  · intro k hk
    have hN' := hN1 k hk
    simp only [QRun, stepA, wantedA, opA, pureA, loadA, effA, binA, bin, evalA, ofV, ofCell, Fr.put, setArgs, kS, Nat.zero_testBit, Nat.reduceAdd, Nat.reduceSub, Nat.reduceLeDiff, decide_true, decide_false, Nat.reduceEqDiff, if_true, if_false, reduceIte, operands, sliceA, bounds, natOf?, natOf_cast, natOf_0, natOf_1, natOf_2, Nat.zero_mul, Nat.mul_one, Nat.one_mul, Nat.reduceLT, cl_85, hN', cells_agg, st3, partsA, fillA, putCells, replicateA, List.append_nil, List.nil_append, List.cons_append, Nat.reduceMul, allCells, AV.isCell, takeN, beq_self_eq_true, eq_self, kA1, kA2, kB, kD]
    exact ⟨rfl, rfl⟩
  simp only [Ex.thn]
  apply EvX.seq
  apply EvX.seq
  apply EvX.reg0
  · intro call
    simp only [QRun, stepA, wantedA, opA, pureA, loadA, effA, binA, bin, evalA, ofV, ofCell, Fr.put, setArgs, kS, Nat.zero_testBit, Nat.reduceAdd, Nat.reduceSub, Nat.reduceLeDiff, decide_true, decide_false, Nat.reduceEqDiff, if_true, if_false, reduceIte, operands, ldw3, nat_throw0, binS, hx2, e3, sliceA, bounds, natOf?, natOf_cast, natOf_0, natOf_1, natOf_2, Nat.zero_mul, Nat.mul_one, Nat.one_mul, Nat.reduceLT, AV.cells, takeN, beq_self_eq_true, eq_self, kA1, kA2, kB, kD]
    exact ⟨rfl, rfl⟩
  simp only [Ex.thn]
  apply EvX.cond2 (t := false)
  · simp only [evalA, Tr.get_set, Nat.reduceEqDiff, if_true, if_false, reduceIte]
  · intro h; cases h
  intro _
  apply EvX.seq
  apply EvX.seq
  by_cases b6 : ((sm.th.length : Int) > 0)
  · have d6 := decide_eq_true b6
    have hne : sm.th ≠ [] := fun e => by rw [e] at b6; simp at b6
    have hv : lineR (l0 ++ [sm]) s = (13, []) := by
      rw [hlp]; unfold pushR; rw [hgl]; simp only; rw [if_neg hnt, if_pos hne]
    apply EvX.reg0
    · intro call
      simp only [QRun, stepA, wantedA, opA, pureA, loadA, effA, binA, bin, evalA, ofV, ofCell, Fr.put, setArgs, kS, Nat.zero_testBit, Nat.reduceAdd, Nat.reduceSub, Nat.reduceLeDiff, decide_true, decide_false, Nat.reduceEqDiff, if_true, if_false, reduceIte, operands, ldt3, hlenT, d6, sliceA, bounds, natOf?, natOf_cast, natOf_0, natOf_1, natOf_2, Nat.zero_mul, Nat.mul_one, Nat.one_mul, Nat.reduceLT, AV.cells, takeN, beq_self_eq_true, eq_self, kA1, kA2, kB, kD]
      exact ⟨rfl, rfl⟩
    simp only [Ex.thn]
    apply EvX.cond2 (t := true)
    · simp only [evalA, Tr.get_set, Nat.reduceEqDiff, if_true, if_false, reduceIte]
    rotate_left
    · intro h; cases h
    intro _
    apply EvX.seq
    apply EvX.reg0
    · intro call
      simp only [QRun, stepA, wantedA, opA, pureA, loadA, effA, binA, bin, evalA, ofV, ofCell, Fr.put, setArgs, kS, Nat.zero_testBit, Nat.reduceAdd, Nat.reduceSub, Nat.reduceLeDiff, decide_true, decide_false, Nat.reduceEqDiff, if_true, if_false, reduceIte, operands]
      exact ⟨rfl, rfl⟩
    simp only [Ex.thn]
    apply EvX.ret
    simp only [Ex.thn, Ex.blk]
    refine Fin.twoT (K := fun x m' => LineRPost (lineR (l0 ++ [sm]) s) m' x) (x := .nilsl) (y := .int .i64 13) (t := 4) (u := 5) rfl (by simp only [Tr.get_set, if_true, if_false, reduceIte, Nat.reduceEqDiff]) (by simp only [Tr.get_set, if_true, if_false, reduceIte, Nat.reduceEqDiff]) ?_
    rw [hv]
    exact ⟨w3, .nilsl, [], rfl, fun h => by cases h⟩
  have d6 := decide_eq_false b6
  have hth : sm.th = [] := List.length_eq_zero_iff.1 (by omega)
  have hv : lineR (l0 ++ [sm]) s = (sumsErr 1024 (l0 ++ [{ sm with ex := sm.ex ++ [((p : Int), (q : Int))] }]), l0 ++ [{ sm with ex := sm.ex ++ [((p : Int), (q : Int))] }]) := by
    rw [hlp]; unfold pushR; rw [hgl]; simp only [hdl]; rw [if_neg hnt, if_neg (fun h => h hth)]
  obtain ⟨t', M4, ⟨w4, k4, cn, o4, m4⟩, N2, hN2⟩ := moreRun h86 w3 L3.ex (p : Int) (q : Int) (by omega)
  have htc : t'.cells = [t'] := cells_of_cell o4.cell
  obtain ⟨M5, st5, w5, n5, k5, q5⟩ := (q3.frame k4 (fun hc => by cases hc)).store w4 (k := 1) (zs := [t']) (by simp) (by simp only [allCells, o4.cell, Bool.and_self])
  have k15 : FrameC M1 M5 [] := (k13.trans0 k4).then k5 (fun c hc => by rw [List.mem_singleton] at hc; subst hc; exact .inr n12)
  have nq : ∀ c, c < M2.nxt → ¬ c ∈ [M2.nxt] := fun c h1 h2 => by rw [List.mem_singleton] at h2; omega
  have o5 := (o3.frame k4 (fun c _ hc => by cases hc)).frame k5 (fun c hc => nq c (lt0 c hc))
  have n33 : M2.nxt < M3.nxt := by omega
  have g4 := o4.frame k5 (fun c hc h2 => by rw [List.mem_singleton] at h2; have := m4 c hc; omega)
  have ld5 : M5.load (.ptr M2.nxt 0) 3 = some [.int .i64 sm.fn, t', t] := by have := q5.load (k := 0) (a := 3) (by simp); simpa using this
  have lo : ∀ c, c ∈ c1 ++ (ce ++ (ct ++ [])) → c < M2.nxt := fun c hc => by have := lt1 c (by simp at hc ⊢; exact .inr hc); omega
  have x5 := (L3.th.frame k4 (fun c _ hc => by cases hc)).frame k5 (fun c hc => nq c (lo c (by simp [hc])))
  obtain ⟨y', M6, cs', a1, a2, w6, s6⟩ := L1.redo w5 k15 o5 (s' := { sm with ex := sm.ex ++ [((p : Int), (q : Int))] }) rfl g4 x5 (by
    have := nodup_put (A := c0 ++ c1) (c := ce) (c' := cn) (B := ct ++ []) (N := M3.nxt) (by simpa using nd1) (fun x hx => lt3 x (by simpa using hx)) o4.nodup (fun c hc => .inr (m4 c hc))
    simpa using this) (by omega)
  have hok6 : okSums (l0 ++ [{ sm with ex := sm.ex ++ [((p : Int), (q : Int))] }]) := fun x hx => by
    rcases List.mem_append.1 hx with e' | e'
    · exact hok2 x (by simp [e'])
    · rw [List.mem_singleton] at e'; subst e'; simp only [List.length_append, List.length_singleton]; omega
  have c12 := fun k => callTp (qs := qs) (ps := ps) (p := p12n) (f := 12) h12 (D := drawA (CT qs ps)) k M6 (args := [y', .int .i64 1024]) (args' := [sumsV (l0 ++ [{ sm with ex := sm.ex ++ [((p : Int), (q : Int))] }]), .int .i64 1024]) (x := .int .i64 (sumsErr 1024 (l0 ++ [{ sm with ex := sm.ex ++ [((p : Int), (q : Int))] }]))) (by simp only [mapO, s6.view, view_int]) (by
    show (isums (sumsV (l0 ++ [{ sm with ex := sm.ex ++ [((p : Int), (q : Int))] }]))).map (fun l => AV.int .i64 (sumsErr 1024 l)) = _
    rw [isums_sumsV hok6 (by simp; omega)]; rfl) rfl
  apply EvX.reg0
  · intro call
    simp only [QRun, stepA, wantedA, opA, pureA, loadA, effA, binA, bin, evalA, ofV, ofCell, Fr.put, setArgs, kS, Nat.zero_testBit, Nat.reduceAdd, Nat.reduceSub, Nat.reduceLeDiff, decide_true, decide_false, Nat.reduceEqDiff, if_true, if_false, reduceIte, operands, ldt3, hlenT, d6, sliceA, bounds, natOf?, natOf_cast, natOf_0, natOf_1, natOf_2, Nat.zero_mul, Nat.mul_one, Nat.one_mul, Nat.reduceLT, AV.cells, takeN, beq_self_eq_true, eq_self, kA1, kA2, kB, kD]
    exact ⟨rfl, rfl⟩
  simp only [Ex.thn]
  apply EvX.cond2 (t := false)
  · simp only [evalA, Tr.get_set, Nat.reduceEqDiff, if_true, if_false, reduceIte]
  · intro h; cases h
  intro _
  apply EvX.skip
  simp only [Ex.thn, Ex.blk]
  apply EvX.drwA 544 [M3] N2
  · kernel_rfl
  · intro k hk
    have hN' := hN2 k hk
    simp only [QRunA, stepA, wantedA, opA, pureA, loadA, effA, binA, bin, evalA, ofV, ofCell, Fr.put, setArgs, kS, Nat.reduceAdd, Nat.reduceSub, Nat.reduceLeDiff, decide_true, decide_false, Nat.reduceEqDiff, if_true, if_false, reduceIte, operands, sliceA, bounds, natOf?, natOf_cast, natOf_0, natOf_1, natOf_2, Nat.zero_mul, Nat.mul_one, Nat.one_mul, Nat.reduceLT, ldw3, lda3, ldb3, lde3, cl_84, ca, cb, cl_86, hN', e3, htc, st5, List.mem_cons, List.not_mem_nil, or_false, or_true, true_or, forall_eq_or_imp, forall_eq, and_self, takeN, beq_self_eq_true, eq_self, kA1, kA2, kB, kD, show Nat.testBit 544 0 = false from rfl, show Nat.testBit 544 1 = false from rfl, show Nat.testBit 544 2 = false from rfl, show Nat.testBit 544 3 = false from rfl, show Nat.testBit 544 4 = false from rfl, show Nat.testBit 544 5 = true from rfl, show Nat.testBit 544 6 = false from rfl, show Nat.testBit 544 7 = false from rfl, show Nat.testBit 544 8 = false from rfl, show Nat.testBit 544 9 = true from rfl, show Nat.testBit 544 10 = false from rfl, show Nat.testBit 544 11 = false from rfl, show Nat.testBit 544 12 = false from rfl]
    exact ⟨rfl, rfl⟩
  simp only [Ex.thn, Ex.blk]
  apply EvX.seq
  apply EvX.reg0
  · intro call
    simp only [QRun, stepA, wantedA, opA, pureA, loadA, effA, binA, bin, evalA, ofV, ofCell, Fr.put, setArgs, kS, Nat.zero_testBit, Nat.reduceAdd, Nat.reduceSub, Nat.reduceLeDiff, decide_true, decide_false, Nat.reduceEqDiff, if_true, if_false, reduceIte, operands, ld5, a1, a2, cells_agg, isCell_int, L1.ex.cell, L1.th.cell, o4.cell, partsA, fillA, putCells, replicateA, List.append_nil, List.nil_append, List.cons_append, Nat.reduceMul, allCells, takeN, beq_self_eq_true, eq_self, kA1, kA2, kB, kD]
    exact ⟨rfl, rfl⟩
  simp only [Ex.thn]
  apply EvX.seq
  apply EvX.reg 0
  · intro k _
    simp only [QRun, stepA, wantedA, opA, pureA, loadA, effA, binA, bin, evalA, ofV, ofCell, Fr.put, setArgs, kS, Nat.zero_testBit, Nat.reduceAdd, Nat.reduceSub, Nat.reduceLeDiff, decide_true, decide_false, Nat.reduceEqDiff, if_true, if_false, reduceIte, operands, cl_12, c12, AV.cells, takeN, beq_self_eq_true, eq_self, kA1, kA2, kB, kD]
    exact ⟨rfl, rfl⟩
  simp only [Ex.thn]
  apply EvX.ret
  refine Fin.twoT (K := fun x m' => LineRPost (lineR (l0 ++ [sm]) s) m' x) (x := y') (y := .int .i64 (sumsErr 1024 (l0 ++ [{ sm with ex := sm.ex ++ [((p : Int), (q : Int))] }]))) (t := 4) (u := 5) rfl (by simp only [Tr.get_set, if_true, if_false, reduceIte, Nat.reduceEqDiff]) (by simp only [Tr.get_set, if_true, if_false, reduceIte, Nat.reduceEqDiff]) ?_
  rw [hv]
  exact ⟨w6, y', cs', rfl, fun _ => s6⟩
end Go.Vz
