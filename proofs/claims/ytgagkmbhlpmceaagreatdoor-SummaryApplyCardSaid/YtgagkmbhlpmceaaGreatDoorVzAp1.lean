/-
  flow.Apply, told.
-/
import Derived.Test.YtgagkmbhlpmceaaGreatDoorVzAp0
set_option linter.unusedVariables false
set_option linter.unusedSimpArgs false
namespace Go.Vz
open Go Go.Proofs
set_option maxHeartbeats 4000000
set_option maxRecDepth 20000
theorem spec69 {x : AV} {l : List Int} (h : isl x = some l) (hl : l.length ≤ 1000000) : p69.spec [x] = some (.ro (encInts l) l.length 1) := by
  show (match isl x with | some l => bif Nat.ble l.length 1000000 then some (AV.ro (encInts l) l.length 1) else none | none => none) = _
  rw [h]; simp only [Nat.ble_eq_true_of_le hl, cond_true]
theorem spec70 {x : AV} {l : List Int} (h : isl x = some l) (hl : l.length ≤ 1000000) (hs : sortedB l = true) (a : Int) : p70.spec [x, .int .i64 a] = some (.tup [.int .i64 ((l.countP (· < a) : Nat) : Int), .bool (l.contains a)]) := by
  show (match isl x with | some l => bif Nat.ble l.length 1000000 && sortedB l then some (AV.tup [.int .i64 ((l.countP (· < a) : Nat) : Int), .bool (l.contains a)]) else none | none => none) = _
  rw [h]; simp only [Nat.ble_eq_true_of_le hl, hs, Bool.and_self, cond_true]
theorem sortI_sorted (l : List Int) : sortedB (sortI l) = true := by
  apply sortedB_of
  have := List.pairwise_mergeSort (le := fun x y : Int => decide (x ≤ y)) (fun a b c h1 h2 => by simp at *; omega) (fun a b => by simp; omega) l
  exact this.imp (fun h => by simpa using h)
theorem clone_ints {m : Mem} (w : WFm m) (l : List Int) : ∃ xb mb, adoptA (.ro (encInts l) l.length 1) m = (xb, mb) ∧ WFm mb ∧ KeepB m.nxt m mb ∧ IntS m.nxt mb.nxt mb xb l := by
  rcases Nat.eq_zero_or_pos l.length with h0 | h0
  · have := List.length_eq_zero_iff.1 h0
    subst this
    exact ⟨.ro [] 0 1, m.newCls 0, rfl, newCls_wf w 0, newCls_keep m 0, .inr ⟨rfl, rfl⟩⟩
  · obtain ⟨h1, h2, h3⟩ := adopt_row w h0 (sz := 1) (by omega) (by rw [encInts_length, Nat.mul_one]) (encInts_plain l)
    exact ⟨_, _, rfl, h1, h2, .inl h3⟩
/-- the facts behind pairs -/
def outsOf (s : List Int) : List (Int × Int) → List Int
  | [] => []
  | p :: l => if p.2 = 0 then outsOf s l else if s.contains p.1 || p.1 == 0 then p.2 :: outsOf s l else outsOf s l
def applyL (f : List (Int × Int)) (l : List Int) : List Int := Lib.compact (sortI (outsOf (sortI l) f))
def specApply : List AV → Option AV
  | [x, y] => match ipr x, isl y with
    | some f, some l => bif Nat.ble f.length 1000 && Nat.ble l.length 1000 then some (slI (applyL f l)) else none
    | _, _ => none
  | _ => none
theorem specApply_some {args : List AV} {z : AV} (h : specApply args = some z) : ∃ x y f l, args = [x, y] ∧ ipr x = some f ∧ isl y = some l ∧ z = slI (applyL f l) ∧ f.length ≤ 1000 ∧ l.length ≤ 1000 := by
  unfold specApply at h
  split at h
  · rename_i x y
    split at h
    · rename_i f l hf hl
      cases hb : Nat.ble f.length 1000 && Nat.ble l.length 1000 with
      | false => simp [hb] at h
      | true =>
        simp only [hb, cond_true, Option.some.injEq] at h
        rw [Bool.and_eq_true_iff] at hb
        exact ⟨x, y, f, l, rfl, hf, hl, h.symm, Nat.le_of_ble_eq_true hb.1, Nat.le_of_ble_eq_true hb.2⟩
    · cases h
  · cases h
def p36 : PFn := ⟨36, specApply⟩
theorem cl_69 (args : List AV) : calleeA Tryz.prog (.fn (.func 69) [] []) args = some (.enter 69 args) := by rw [callee_of Tryz.func69 (by kernel_rfl) (by kernel_rfl)]; simp
theorem cl_70 (args : List AV) : calleeA Tryz.prog (.fn (.func 70) [] []) args = some (.enter 70 args) := by rw [callee_of Tryz.func70 (by kernel_rfl) (by kernel_rfl)]; simp
theorem cl_52 (args : List AV) : calleeA Tryz.prog (.fn (.func 52) [] []) args = some (.enter 52 args) := by rw [callee_of Tryz.func52 (by kernel_rfl) (by kernel_rfl)]; simp
theorem cl_53 (args : List AV) : calleeA Tryz.prog (.fn (.func 53) [] []) args = some (.enter 53 args) := by rw [callee_of Tryz.func53 (by kernel_rfl) (by kernel_rfl)]; simp
theorem p36_ok : p36.OkT := by
  refine PFn.OkT.of (qs := [mSort, mCompact]) (ps := [p69, p70]) (fun q h => by simp at h; rcases h with rfl | rfl; exact mSort_ok; exact mCompact_ok) (fun p h => by simp at h; rcases h with rfl | rfl; exact p69_ok; exact p70_ok.tree) (fun args y hs => ?_)
  obtain ⟨x0, x1, f, l, rfl, hf, hl, rfl, hfl, hll⟩ := specApply_some hs
  clear hs
  refine EvC.runT (K := fun x m' => treeA 8 m' x = some (slI (applyL f l))) (by kernel_rfl) (by rw [CT_P]; exact Tryz.func36) rfl ?_
  have c69 := fun k => callT (qs := [mSort, mCompact]) (ps := [p69, p70]) (p := p69) (f := 69) rfl (D := drawA (CT [mSort, mCompact] [p69, p70])) k Mem.empty (by simp only [mapO, isl_view hl 6] : mapO (viewA 8 Mem.empty) [x1] = some [x1]) (spec69 hl (by omega))
  obtain ⟨xb, mb, e1, wb, kb, ib⟩ := clone_ints WFm.empty l
  rw [e1] at c69
  obtain ⟨m1, e2, w1, k1, i1, n1⟩ := ib.sort wb (by omega)
  have c52 : ∀ k, Vz.call (CT [mSort, mCompact] [p69, p70]) (drawA (CT [mSort, mCompact] [p69, p70])) k 52 [xb] mb = some (.tup [], m1) := fun k => (callM (q := mSort) rfl rfl k _ _).trans e2
  replace i1 : IntS Mem.empty.nxt m1.nxt m1 xb (sortI l) := by rw [n1]; exact i1
  have hsl : (sortI l).length ≤ 1000 := by rw [sort_length]; exact hll
  have hss := sortI_sorted l
  show EvX _ _ _ _ _ (fun e fr1 m1 => _ ∧ ∃ xs, _ ∧ treeA 8 m1 (Vz.one xs) = some (slI (Lib.compact (sortI (outsOf (sortI l) f)))))
  generalize sortI l = s at *
  apply EvX.seq
  apply EvX.reg0
  · intro call
    simp only [QRun, stepA, wantedA, opA, pureA, loadA, effA, binA, bin, evalA, ofV, ofCell, Fr.put, enterA_n, enterA_t, setArgs, List.length_cons, List.length_nil, Tr.get_set, Nat.zero_testBit, cond_false, true_and, Nat.reduceAdd, Nat.reduceSub, ble_dec, beq_dec, Nat.reduceLeDiff, decide_true, decide_false, cond_true, Nat.reduceEqDiff, if_true, if_false, reduceIte, operands, Option.map_some, Option.map_none, CT_P, Tryz.ntmps36]
    exact ⟨rfl, rfl⟩
  simp only [Ex.thn]
  apply EvX.seq
  apply EvX.reg 0
  · intro k _
    simp only [QRun, stepA, wantedA, opA, pureA, loadA, effA, binA, bin, evalA, ofV, ofCell, Fr.put, enterA_n, enterA_t, setArgs, List.length_cons, List.length_nil, Tr.get_set, Nat.zero_testBit, cond_false, true_and, Nat.reduceAdd, Nat.reduceSub, ble_dec, beq_dec, Nat.reduceLeDiff, decide_true, decide_false, cond_true, Nat.reduceEqDiff, if_true, if_false, reduceIte, operands, Option.map_some, Option.map_none, CT_P, cl_69, c69]
    exact ⟨rfl, rfl⟩
  simp only [Ex.thn]
  apply EvX.seq
  apply EvX.reg 0
  · intro k _
    simp only [QRun, stepA, wantedA, opA, pureA, loadA, effA, binA, bin, evalA, ofV, ofCell, Fr.put, enterA_n, enterA_t, setArgs, List.length_cons, List.length_nil, Tr.get_set, Nat.zero_testBit, cond_false, true_and, Nat.reduceAdd, Nat.reduceSub, ble_dec, beq_dec, Nat.reduceLeDiff, decide_true, decide_false, cond_true, Nat.reduceEqDiff, if_true, if_false, reduceIte, operands, Option.map_some, Option.map_none, CT_P, cl_52, c52]
    exact ⟨rfl, rfl⟩
  simp only [Ex.thn]
  apply EvX.seq
  apply EvX.reg0
  · intro call
    simp only [QRun, stepA, wantedA, opA, pureA, loadA, effA, binA, bin, evalA, ofV, ofCell, Fr.put, enterA_n, enterA_t, setArgs, List.length_cons, List.length_nil, Tr.get_set, Nat.zero_testBit, cond_false, true_and, Nat.reduceAdd, Nat.reduceSub, ble_dec, beq_dec, Nat.reduceLeDiff, decide_true, decide_false, cond_true, Nat.reduceEqDiff, if_true, if_false, reduceIte, operands, Option.map_some, Option.map_none, CT_P]
    exact ⟨rfl, rfl⟩
  simp only [Ex.thn]
  apply EvX.seq
  apply EvX.seq
  apply EvX.reg0
  · intro call
    simp only [QRun, stepA, wantedA, opA, pureA, loadA, effA, binA, bin, evalA, ofV, ofCell, Fr.put, enterA_n, enterA_t, setArgs, List.length_cons, List.length_nil, Tr.get_set, Nat.zero_testBit, cond_false, true_and, Nat.reduceAdd, Nat.reduceSub, ble_dec, beq_dec, Nat.reduceLeDiff, decide_true, decide_false, cond_true, Nat.reduceEqDiff, if_true, if_false, reduceIte, operands, Option.map_some, Option.map_none, CT_P, ipr_len hf sl_t95, AV.cells, takeN, load_rp, Nat.zero_le, Nat.le_refl, Nat.zero_add, Nat.add_zero, Nat.mul_one, Nat.one_mul, Bool.not_false, Bool.not_true, List.getElem?_toArray, List.getElem?_cons_zero, List.getElem?_cons_succ, beq_self_eq_true, Bool.and_true, Bool.true_and, Bool.and_self, eq_self, show (true == false) = false from rfl, show (false == true) = false from rfl, show (false == false) = true from rfl, Tryz.underlying70, Tryz.underlying28, sl_t31, sl_t95, sz_3, sz_70, ag_3, ag_70, ze_70, ze_3, by_3, Tryz.underlying30, sz_30, ag_30, ze_30, sz_28, ag_28]
    exact ⟨rfl, rfl⟩
  simp only [Ex.thn]
  apply EvX.block
  refine EvX.loop (fun k fr m => ∃ (i : Nat) (y : AV) (acc : List Int), k = f.length - i ∧ i ≤ f.length ∧ fr.n = 47 ∧ fr.t.get 5 = some xb ∧ fr.t.get 6 = some y ∧ fr.t.get 15 = some x0 ∧ fr.t.get 16 = some (.int .i64 (f.length : Int)) ∧ fr.t.get 17 = some (.int .i64 (i : Int)) ∧
    WFm m ∧ KeepB m1.nxt m1 m ∧ OwnS m1.nxt m.nxt m y 1 acc.length (encInts acc) ∧ acc ++ outsOf s (f.drop i) = outsOf s f ∧ acc.length ≤ i) ?_ f.length _ _
    ⟨0, .nilsl, [], by simp, by simp, rfl, by simp [Tr.get_set], by simp [Tr.get_set], by simp [Tr.get_set], by simp [Tr.get_set], by simp [Tr.get_set], w1, KeepB.refl _ _, .inl ⟨rfl, rfl, rfl⟩, rfl, Nat.le_refl _⟩
  rintro k fr m ⟨i, y, acc, rfl, hil, hfn, h5, h6, h15, h16, h17, hw, hk, ho, hgo, hacc⟩
  apply EvX.seq
  apply EvX.reg0
  · intro call
    simp only [QRun, stepA, wantedA, opA, pureA, loadA, effA, binA, bin, evalA, ofV, ofCell, Fr.put, enterA_n, enterA_t, setArgs, List.length_cons, List.length_nil, Tr.get_set, Nat.zero_testBit, cond_false, true_and, Nat.reduceAdd, Nat.reduceSub, ble_dec, beq_dec, Nat.reduceLeDiff, decide_true, decide_false, cond_true, Nat.reduceEqDiff, if_true, if_false, reduceIte, operands, Option.map_some, Option.map_none, CT_P, hfn, h16, h17, AV.cells, takeN, load_rp, Nat.zero_le, Nat.le_refl, Nat.zero_add, Nat.add_zero, Nat.mul_one, Nat.one_mul, Bool.not_false, Bool.not_true, List.getElem?_toArray, List.getElem?_cons_zero, List.getElem?_cons_succ, beq_self_eq_true, Bool.and_true, Bool.true_and, Bool.and_self, eq_self, show (true == false) = false from rfl, show (false == true) = false from rfl, show (false == false) = true from rfl, Tryz.underlying70, Tryz.underlying28, sl_t31, sl_t95, sz_3, sz_70, ag_3, ag_70, ze_70, ze_3, by_3, Tryz.underlying30, sz_30, ag_30, ze_30, sz_28, ag_28]
    exact ⟨rfl, rfl⟩
  simp only [Ex.thn]
  apply EvX.seq
  apply EvX.cond2
  · simp only [evalA, Tr.get_set, Nat.reduceEqDiff, if_true, if_false, reduceIte]; exact rfl
  rotate_left
  · intro hge
    have hge := of_decide_eq_false hge
    have hi : i = f.length := by omega
    subst hi
    rw [List.drop_length] at hgo
    have hgo : acc = outsOf s f := by simpa [outsOf] using hgo
    subst hgo
    obtain ⟨m2, e3, w2, k2, o2, n2⟩ := ho.sort hw (by omega)
    have c52' : ∀ k, Vz.call (CT [mSort, mCompact] [p69, p70]) (drawA (CT [mSort, mCompact] [p69, p70])) k 52 [y] m = some (.tup [], m2) := fun k => (callM (q := mSort) rfl rfl k _ _).trans e3
    obtain ⟨y', m3, e4, ht⟩ := o2.compact w2 (by rw [sort_length]; omega)
    have c53' : ∀ k, Vz.call (CT [mSort, mCompact] [p69, p70]) (drawA (CT [mSort, mCompact] [p69, p70])) k 53 [y] m2 = some (y', m3) := fun k => (callM (q := mCompact) rfl rfl k _ _).trans e4
    apply EvX.exit
    simp only [Ex.thn, Ex.blk, beq_dec, decide_true, cond_true]
    apply EvX.seq
    apply EvX.reg 0
    · intro k _
      simp only [QRun, stepA, wantedA, opA, pureA, loadA, effA, binA, bin, evalA, ofV, ofCell, Fr.put, enterA_n, enterA_t, setArgs, List.length_cons, List.length_nil, Tr.get_set, Nat.zero_testBit, cond_false, true_and, Nat.reduceAdd, Nat.reduceSub, ble_dec, beq_dec, Nat.reduceLeDiff, decide_true, decide_false, cond_true, Nat.reduceEqDiff, if_true, if_false, reduceIte, operands, Option.map_some, Option.map_none, CT_P, hfn, h6, cl_52, c52']
      exact ⟨rfl, rfl⟩
    simp only [Ex.thn]
    apply EvX.seq
    apply EvX.reg 0
    · intro k _
      simp only [QRun, stepA, wantedA, opA, pureA, loadA, effA, binA, bin, evalA, ofV, ofCell, Fr.put, enterA_n, enterA_t, setArgs, List.length_cons, List.length_nil, Tr.get_set, Nat.zero_testBit, cond_false, true_and, Nat.reduceAdd, Nat.reduceSub, ble_dec, beq_dec, Nat.reduceLeDiff, decide_true, decide_false, cond_true, Nat.reduceEqDiff, if_true, if_false, reduceIte, operands, Option.map_some, Option.map_none, CT_P, hfn, h6, cl_53, c53']
      exact ⟨rfl, rfl⟩
    simp only [Ex.thn]
    apply EvX.ret
    exact Fin.oneT (K := fun x m' => treeA 8 m' x = some (slI (Lib.compact (sortI (outsOf s f))))) (x := y') (t := 4) rfl (by simp only [Tr.get_set, if_true, if_false, reduceIte, Nat.reduceEqDiff]) ht
  intro hlt
  have hlt := of_decide_eq_true hlt
  have hlt : i < f.length := by omega
  have hlt' : i + 1 ≤ f.length := hlt
  have hmul : i * 2 ≤ f.length * 2 := by omega
  have hx0 := ipr_at hf hlt
  rw [hx0] at h15
  have hdr := dropPair hlt
  rw [List.drop_eq_getElem_cons hlt] at hgo
  generalize hp : f[i] = p at hgo hdr
  obtain ⟨m2, hst, w2, k2, n2, ld2⟩ := box_new hw (some 70) (zs := [.int .i64 0, .int .i64 0]) (xs := [.int .i64 p.1, .int .i64 p.2]) rfl rfl
  have ld20 : m2.load (.ptr m.nxt 0) 1 = some [.int .i64 p.1] := ld2 0 1 (by simp)
  have ld21 : m2.load (.ptr m.nxt 1) 1 = some [.int .i64 p.2] := ld2 1 1 (by simp)
  have k2' : KeepB m1.nxt m1 m2 := hk.trans (k2.less hk.nxt)
  have ho2 : OwnS m1.nxt m2.nxt m2 y 1 acc.length (encInts acc) := (ho.keep k2 (Nat.le_refl _)).wide (Nat.le_refl _) k2.nxt
  obtain ⟨z, hz, hzl⟩ := (i1.keep k2' (Nat.le_refl _)).view
  have c70 := fun k => callTp (qs := [mSort, mCompact]) (ps := [p69, p70]) (p := p70) (f := 70) rfl (D := drawA (CT [mSort, mCompact] [p69, p70])) k m2 (by simp only [mapO, hz, view_int] : mapO (viewA 8 m2) [xb, .int .i64 p.1] = some [z, .int .i64 p.1]) (spec70 hzl (by omega) hss p.1) rfl
  apply EvX.skip
  simp only [Ex.thn]
  apply EvX.seq
  apply EvX.block
  apply EvX.seq
  apply EvX.reg0
  · intro call
    simp only [QRun, stepA, wantedA, opA, pureA, loadA, effA, binA, bin, evalA, ofV, ofCell, Fr.put, enterA_n, enterA_t, setArgs, List.length_cons, List.length_nil, Tr.get_set, Nat.zero_testBit, cond_false, true_and, Nat.reduceAdd, Nat.reduceSub, ble_dec, beq_dec, Nat.reduceLeDiff, decide_true, decide_false, cond_true, Nat.reduceEqDiff, if_true, if_false, reduceIte, operands, Option.map_some, Option.map_none, CT_P, hfn, h5, h6, h15, h17, natOf?, natOf_cast, hlt', hmul, encPairs_length, hdr, List.drop_zero, List.drop_succ_cons, List.length_cons, takeN, Option.map_some, Nat.le_add_left, Nat.zero_le, hst, ld20, ld21, AV.cells, takeN, load_rp, Nat.zero_le, Nat.le_refl, Nat.zero_add, Nat.add_zero, Nat.mul_one, Nat.one_mul, Bool.not_false, Bool.not_true, List.getElem?_toArray, List.getElem?_cons_zero, List.getElem?_cons_succ, beq_self_eq_true, Bool.and_true, Bool.true_and, Bool.and_self, eq_self, show (true == false) = false from rfl, show (false == true) = false from rfl, show (false == false) = true from rfl, Tryz.underlying70, Tryz.underlying28, sl_t31, sl_t95, sz_3, sz_70, ag_3, ag_70, ze_70, ze_3, by_3, Tryz.underlying30, sz_30, ag_30, ze_30, sz_28, ag_28]
    exact ⟨rfl, rfl⟩
  simp only [Ex.thn]
  apply EvX.seq
  by_cases b1 : p.2 = 0
  · have d1 : (p.2 == 0) = true := by simpa using b1
    apply EvX.seq
    apply EvX.reg0
    · intro call
      simp only [QRun, stepA, wantedA, opA, pureA, loadA, effA, binA, bin, evalA, ofV, ofCell, Fr.put, enterA_n, enterA_t, setArgs, List.length_cons, List.length_nil, Tr.get_set, Nat.zero_testBit, cond_false, true_and, Nat.reduceAdd, Nat.reduceSub, ble_dec, beq_dec, Nat.reduceLeDiff, decide_true, decide_false, cond_true, Nat.reduceEqDiff, if_true, if_false, reduceIte, operands, Option.map_some, Option.map_none, CT_P, hfn, h5, h6, h15, h17, natOf?, natOf_cast, hlt', hmul, encPairs_length, hdr, List.drop_zero, List.drop_succ_cons, List.length_cons, takeN, Option.map_some, Nat.le_add_left, Nat.zero_le, hst, ld20, ld21, AV.cells, takeN, load_rp, Nat.zero_le, Nat.le_refl, Nat.zero_add, Nat.add_zero, Nat.mul_one, Nat.one_mul, Bool.not_false, Bool.not_true, List.getElem?_toArray, List.getElem?_cons_zero, List.getElem?_cons_succ, beq_self_eq_true, Bool.and_true, Bool.true_and, Bool.and_self, eq_self, show (true == false) = false from rfl, show (false == true) = false from rfl, show (false == false) = true from rfl, Tryz.underlying70, Tryz.underlying28, sl_t31, sl_t95, sz_3, sz_70, ag_3, ag_70, ze_70, ze_3, by_3, Tryz.underlying30, sz_30, ag_30, ze_30, sz_28, ag_28, d1]
      exact ⟨rfl, rfl⟩
    simp only [Ex.thn]
    apply EvX.cond2 (t := true)
    · simp only [evalA, Tr.get_set, Nat.reduceEqDiff, if_true, if_false, reduceIte]
    rotate_left
    · intro h; cases h
    intro _
    apply EvX.exit
    simp only [Ex.thn, Ex.blk, beq_dec, decide_true, cond_true]
    apply EvX.reg0
    · intro call
      simp only [QRun, stepA, wantedA, opA, pureA, loadA, effA, binA, bin, evalA, ofV, ofCell, Fr.put, enterA_n, enterA_t, setArgs, List.length_cons, List.length_nil, Tr.get_set, Nat.zero_testBit, cond_false, true_and, Nat.reduceAdd, Nat.reduceSub, ble_dec, beq_dec, Nat.reduceLeDiff, decide_true, decide_false, cond_true, Nat.reduceEqDiff, if_true, if_false, reduceIte, operands, Option.map_some, Option.map_none, CT_P, hfn, h17, wrap_succ (show i + 1 ≤ 9223372036854775807 by omega)]
      exact ⟨rfl, rfl⟩
    simp only [Ex.thn]
    refine ⟨f.length - (i + 1), by omega, i + 1, y, acc, rfl, hlt', trivial, ?_, ?_, ?_, ?_, ?_, w2, k2', ho2, by rw [← hgo]; simp only [outsOf]; rw [if_pos b1], by omega⟩
    · simp [Tr.get_set, h5]
    · simp [Tr.get_set, h6]
    · simp [Tr.get_set, h15, hx0]
    · simp [Tr.get_set, h16]
    · simp [Tr.get_set]
  have d1 : (p.2 == 0) = false := by simpa using b1
  apply EvX.seq
  apply EvX.reg0
  · intro call
    simp only [QRun, stepA, wantedA, opA, pureA, loadA, effA, binA, bin, evalA, ofV, ofCell, Fr.put, enterA_n, enterA_t, setArgs, List.length_cons, List.length_nil, Tr.get_set, Nat.zero_testBit, cond_false, true_and, Nat.reduceAdd, Nat.reduceSub, ble_dec, beq_dec, Nat.reduceLeDiff, decide_true, decide_false, cond_true, Nat.reduceEqDiff, if_true, if_false, reduceIte, operands, Option.map_some, Option.map_none, CT_P, hfn, h5, h6, h15, h17, natOf?, natOf_cast, hlt', hmul, encPairs_length, hdr, List.drop_zero, List.drop_succ_cons, List.length_cons, takeN, Option.map_some, Nat.le_add_left, Nat.zero_le, hst, ld20, ld21, AV.cells, takeN, load_rp, Nat.zero_le, Nat.le_refl, Nat.zero_add, Nat.add_zero, Nat.mul_one, Nat.one_mul, Bool.not_false, Bool.not_true, List.getElem?_toArray, List.getElem?_cons_zero, List.getElem?_cons_succ, beq_self_eq_true, Bool.and_true, Bool.true_and, Bool.and_self, eq_self, show (true == false) = false from rfl, show (false == true) = false from rfl, show (false == false) = true from rfl, Tryz.underlying70, Tryz.underlying28, sl_t31, sl_t95, sz_3, sz_70, ag_3, ag_70, ze_70, ze_3, by_3, Tryz.underlying30, sz_30, ag_30, ze_30, sz_28, ag_28, d1]
    exact ⟨rfl, rfl⟩
  simp only [Ex.thn]
  apply EvX.cond2 (t := false)
  · simp only [evalA, Tr.get_set, Nat.reduceEqDiff, if_true, if_false, reduceIte]
  · intro h; cases h
  intro _
  apply EvX.skip
  simp only [Ex.thn, Ex.blk]
  apply EvX.seq
  apply EvX.reg 0
  · intro k _
    simp only [QRun, stepA, wantedA, opA, pureA, loadA, effA, binA, bin, evalA, ofV, ofCell, Fr.put, enterA_n, enterA_t, setArgs, List.length_cons, List.length_nil, Tr.get_set, Nat.zero_testBit, cond_false, true_and, Nat.reduceAdd, Nat.reduceSub, ble_dec, beq_dec, Nat.reduceLeDiff, decide_true, decide_false, cond_true, Nat.reduceEqDiff, if_true, if_false, reduceIte, operands, Option.map_some, Option.map_none, CT_P, hfn, h5, h6, h15, h17, natOf?, natOf_cast, hlt', hmul, encPairs_length, hdr, List.drop_zero, List.drop_succ_cons, List.length_cons, takeN, Option.map_some, Nat.le_add_left, Nat.zero_le, hst, ld20, ld21, AV.cells, takeN, load_rp, Nat.zero_le, Nat.le_refl, Nat.zero_add, Nat.add_zero, Nat.mul_one, Nat.one_mul, Bool.not_false, Bool.not_true, List.getElem?_toArray, List.getElem?_cons_zero, List.getElem?_cons_succ, beq_self_eq_true, Bool.and_true, Bool.true_and, Bool.and_self, eq_self, show (true == false) = false from rfl, show (false == true) = false from rfl, show (false == false) = true from rfl, Tryz.underlying70, Tryz.underlying28, sl_t31, sl_t95, sz_3, sz_70, ag_3, ag_70, ze_70, ze_3, by_3, Tryz.underlying30, sz_30, ag_30, ze_30, sz_28, ag_28, d1, cl_70, c70]
    exact ⟨rfl, rfl⟩
  simp only [Ex.thn]
  cases b2 : s.contains p.1 with
  | true =>
    have dd : (s.contains p.1 || p.1 == 0) = true := by rw [b2]; rfl
    apply EvX.seq
    apply EvX.reg0
    · intro call
      simp only [QRun, stepA, wantedA, opA, pureA, loadA, effA, binA, bin, evalA, ofV, ofCell, Fr.put, enterA_n, enterA_t, setArgs, List.length_cons, List.length_nil, Tr.get_set, Nat.zero_testBit, cond_false, true_and, Nat.reduceAdd, Nat.reduceSub, ble_dec, beq_dec, Nat.reduceLeDiff, decide_true, decide_false, cond_true, Nat.reduceEqDiff, if_true, if_false, reduceIte, operands, Option.map_some, Option.map_none, CT_P, hfn, h5, h6, h15, h17, natOf?, natOf_cast, hlt', hmul, encPairs_length, hdr, List.drop_zero, List.drop_succ_cons, List.length_cons, takeN, Option.map_some, Nat.le_add_left, Nat.zero_le, hst, ld20, ld21, AV.cells, takeN, load_rp, Nat.zero_le, Nat.le_refl, Nat.zero_add, Nat.add_zero, Nat.mul_one, Nat.one_mul, Bool.not_false, Bool.not_true, List.getElem?_toArray, List.getElem?_cons_zero, List.getElem?_cons_succ, beq_self_eq_true, Bool.and_true, Bool.true_and, Bool.and_self, eq_self, show (true == false) = false from rfl, show (false == true) = false from rfl, show (false == false) = true from rfl, Tryz.underlying70, Tryz.underlying28, sl_t31, sl_t95, sz_3, sz_70, ag_3, ag_70, ze_70, ze_3, by_3, Tryz.underlying30, sz_30, ag_30, ze_30, sz_28, ag_28, d1, b2]
      exact ⟨rfl, rfl⟩
    simp only [Ex.thn]
    apply EvX.cond2 (t := true)
    · simp only [evalA, Tr.get_set, Nat.reduceEqDiff, if_true, if_false, reduceIte]
    rotate_left
    · intro h; cases h
    intro _
    have g' : acc ++ [p.2] ++ outsOf s (f.drop (i + 1)) = outsOf s f := by rw [← hgo]; simp only [outsOf]; rw [if_neg b1, if_pos dd, List.append_assoc]; rfl
    obtain ⟨y', m3, a1, a2, w3, k3, o3, n3⟩ := append_lit (e := 3) (bytes := 8) w2 ho2 k2'.nxt (cs := [.int .i64 p.2]) rfl rfl (by omega) (by omega)
    have o3' : OwnS m1.nxt m3.nxt m3 y' 1 (acc ++ [p.2]).length (encInts (acc ++ [p.2])) := by
      have e : encInts acc ++ [AV.int .i64 p.2] = encInts (acc ++ [p.2]) := by simp [encInts]
      rw [e] at o3; simpa using o3
    apply EvX.reg0
    · intro call
      simp only [QRun, stepA, wantedA, opA, pureA, loadA, effA, binA, bin, evalA, ofV, ofCell, Fr.put, enterA_n, enterA_t, setArgs, List.length_cons, List.length_nil, Tr.get_set, Nat.zero_testBit, cond_false, true_and, Nat.reduceAdd, Nat.reduceSub, ble_dec, beq_dec, Nat.reduceLeDiff, decide_true, decide_false, cond_true, Nat.reduceEqDiff, if_true, if_false, reduceIte, operands, Option.map_some, Option.map_none, CT_P, hfn, h5, h6, h15, h17, natOf?, natOf_cast, hlt', hmul, encPairs_length, hdr, List.drop_zero, List.drop_succ_cons, List.length_cons, takeN, Option.map_some, Nat.le_add_left, Nat.zero_le, hst, ld20, ld21, AV.cells, takeN, load_rp, Nat.zero_le, Nat.le_refl, Nat.zero_add, Nat.add_zero, Nat.mul_one, Nat.one_mul, Bool.not_false, Bool.not_true, List.getElem?_toArray, List.getElem?_cons_zero, List.getElem?_cons_succ, beq_self_eq_true, Bool.and_true, Bool.true_and, Bool.and_self, eq_self, show (true == false) = false from rfl, show (false == true) = false from rfl, show (false == false) = true from rfl, Tryz.underlying70, Tryz.underlying28, sl_t31, sl_t95, sz_3, sz_70, ag_3, ag_70, ze_70, ze_3, by_3, Tryz.underlying30, sz_30, ag_30, ze_30, sz_28, ag_28, a1, a2, partsA, fillA, putCells, replicateA, List.append_nil, List.nil_append, List.cons_append, Nat.reduceMul, allCells, AV.isCell]
      exact ⟨rfl, rfl⟩
    simp only [Ex.thn, Ex.blk]
    apply EvX.reg0
    · intro call
      simp only [QRun, stepA, wantedA, opA, pureA, loadA, effA, binA, bin, evalA, ofV, ofCell, Fr.put, enterA_n, enterA_t, setArgs, List.length_cons, List.length_nil, Tr.get_set, Nat.zero_testBit, cond_false, true_and, Nat.reduceAdd, Nat.reduceSub, ble_dec, beq_dec, Nat.reduceLeDiff, decide_true, decide_false, cond_true, Nat.reduceEqDiff, if_true, if_false, reduceIte, operands, Option.map_some, Option.map_none, CT_P, hfn, h17, wrap_succ (show i + 1 ≤ 9223372036854775807 by omega)]
      exact ⟨rfl, rfl⟩
    simp only [Ex.thn]
    refine ⟨f.length - (i + 1), by omega, i + 1, y', acc ++ [p.2], rfl, hlt', trivial, ?_, ?_, ?_, ?_, ?_, w3, k2'.trans k3, o3', g', by simp; omega⟩
    · simp [Tr.get_set, h5]
    · simp [Tr.get_set]
    · simp [Tr.get_set, h15, hx0]
    · simp [Tr.get_set, h16]
    · simp [Tr.get_set]
  | false =>
    by_cases b3 : p.1 = 0
    · have d3 : (p.1 == 0) = true := by simpa using b3
      have dd : (s.contains p.1 || p.1 == 0) = true := by rw [b2, d3]; rfl
      apply EvX.seq
      apply EvX.reg0
      · intro call
        simp only [QRun, stepA, wantedA, opA, pureA, loadA, effA, binA, bin, evalA, ofV, ofCell, Fr.put, enterA_n, enterA_t, setArgs, List.length_cons, List.length_nil, Tr.get_set, Nat.zero_testBit, cond_false, true_and, Nat.reduceAdd, Nat.reduceSub, ble_dec, beq_dec, Nat.reduceLeDiff, decide_true, decide_false, cond_true, Nat.reduceEqDiff, if_true, if_false, reduceIte, operands, Option.map_some, Option.map_none, CT_P, hfn, h5, h6, h15, h17, natOf?, natOf_cast, hlt', hmul, encPairs_length, hdr, List.drop_zero, List.drop_succ_cons, List.length_cons, takeN, Option.map_some, Nat.le_add_left, Nat.zero_le, hst, ld20, ld21, AV.cells, takeN, load_rp, Nat.zero_le, Nat.le_refl, Nat.zero_add, Nat.add_zero, Nat.mul_one, Nat.one_mul, Bool.not_false, Bool.not_true, List.getElem?_toArray, List.getElem?_cons_zero, List.getElem?_cons_succ, beq_self_eq_true, Bool.and_true, Bool.true_and, Bool.and_self, eq_self, show (true == false) = false from rfl, show (false == true) = false from rfl, show (false == false) = true from rfl, Tryz.underlying70, Tryz.underlying28, sl_t31, sl_t95, sz_3, sz_70, ag_3, ag_70, ze_70, ze_3, by_3, Tryz.underlying30, sz_30, ag_30, ze_30, sz_28, ag_28, d1, b2, d3]
        exact ⟨rfl, rfl⟩
      simp only [Ex.thn]
      apply EvX.cond2 (t := true)
      · simp only [evalA, Tr.get_set, Nat.reduceEqDiff, if_true, if_false, reduceIte]
      rotate_left
      · intro h; cases h
      intro _
      have g' : acc ++ [p.2] ++ outsOf s (f.drop (i + 1)) = outsOf s f := by rw [← hgo]; simp only [outsOf]; rw [if_neg b1, if_pos dd, List.append_assoc]; rfl
      obtain ⟨y', m3, a1, a2, w3, k3, o3, n3⟩ := append_lit (e := 3) (bytes := 8) w2 ho2 k2'.nxt (cs := [.int .i64 p.2]) rfl rfl (by omega) (by omega)
      have o3' : OwnS m1.nxt m3.nxt m3 y' 1 (acc ++ [p.2]).length (encInts (acc ++ [p.2])) := by
        have e : encInts acc ++ [AV.int .i64 p.2] = encInts (acc ++ [p.2]) := by simp [encInts]
        rw [e] at o3; simpa using o3
      apply EvX.reg0
      · intro call
        simp only [QRun, stepA, wantedA, opA, pureA, loadA, effA, binA, bin, evalA, ofV, ofCell, Fr.put, enterA_n, enterA_t, setArgs, List.length_cons, List.length_nil, Tr.get_set, Nat.zero_testBit, cond_false, true_and, Nat.reduceAdd, Nat.reduceSub, ble_dec, beq_dec, Nat.reduceLeDiff, decide_true, decide_false, cond_true, Nat.reduceEqDiff, if_true, if_false, reduceIte, operands, Option.map_some, Option.map_none, CT_P, hfn, h5, h6, h15, h17, natOf?, natOf_cast, hlt', hmul, encPairs_length, hdr, List.drop_zero, List.drop_succ_cons, List.length_cons, takeN, Option.map_some, Nat.le_add_left, Nat.zero_le, hst, ld20, ld21, AV.cells, takeN, load_rp, Nat.zero_le, Nat.le_refl, Nat.zero_add, Nat.add_zero, Nat.mul_one, Nat.one_mul, Bool.not_false, Bool.not_true, List.getElem?_toArray, List.getElem?_cons_zero, List.getElem?_cons_succ, beq_self_eq_true, Bool.and_true, Bool.true_and, Bool.and_self, eq_self, show (true == false) = false from rfl, show (false == true) = false from rfl, show (false == false) = true from rfl, Tryz.underlying70, Tryz.underlying28, sl_t31, sl_t95, sz_3, sz_70, ag_3, ag_70, ze_70, ze_3, by_3, Tryz.underlying30, sz_30, ag_30, ze_30, sz_28, ag_28, a1, a2, partsA, fillA, putCells, replicateA, List.append_nil, List.nil_append, List.cons_append, Nat.reduceMul, allCells, AV.isCell]
        exact ⟨rfl, rfl⟩
      simp only [Ex.thn, Ex.blk]
      apply EvX.reg0
      · intro call
        simp only [QRun, stepA, wantedA, opA, pureA, loadA, effA, binA, bin, evalA, ofV, ofCell, Fr.put, enterA_n, enterA_t, setArgs, List.length_cons, List.length_nil, Tr.get_set, Nat.zero_testBit, cond_false, true_and, Nat.reduceAdd, Nat.reduceSub, ble_dec, beq_dec, Nat.reduceLeDiff, decide_true, decide_false, cond_true, Nat.reduceEqDiff, if_true, if_false, reduceIte, operands, Option.map_some, Option.map_none, CT_P, hfn, h17, wrap_succ (show i + 1 ≤ 9223372036854775807 by omega)]
        exact ⟨rfl, rfl⟩
      simp only [Ex.thn]
      refine ⟨f.length - (i + 1), by omega, i + 1, y', acc ++ [p.2], rfl, hlt', trivial, ?_, ?_, ?_, ?_, ?_, w3, k2'.trans k3, o3', g', by simp; omega⟩
      · simp [Tr.get_set, h5]
      · simp [Tr.get_set]
      · simp [Tr.get_set, h15, hx0]
      · simp [Tr.get_set, h16]
      · simp [Tr.get_set]
    · have d3 : (p.1 == 0) = false := by simpa using b3
      have dd : (s.contains p.1 || p.1 == 0) = false := by rw [b2, d3]; rfl
      apply EvX.seq
      apply EvX.reg0
      · intro call
        simp only [QRun, stepA, wantedA, opA, pureA, loadA, effA, binA, bin, evalA, ofV, ofCell, Fr.put, enterA_n, enterA_t, setArgs, List.length_cons, List.length_nil, Tr.get_set, Nat.zero_testBit, cond_false, true_and, Nat.reduceAdd, Nat.reduceSub, ble_dec, beq_dec, Nat.reduceLeDiff, decide_true, decide_false, cond_true, Nat.reduceEqDiff, if_true, if_false, reduceIte, operands, Option.map_some, Option.map_none, CT_P, hfn, h5, h6, h15, h17, natOf?, natOf_cast, hlt', hmul, encPairs_length, hdr, List.drop_zero, List.drop_succ_cons, List.length_cons, takeN, Option.map_some, Nat.le_add_left, Nat.zero_le, hst, ld20, ld21, AV.cells, takeN, load_rp, Nat.zero_le, Nat.le_refl, Nat.zero_add, Nat.add_zero, Nat.mul_one, Nat.one_mul, Bool.not_false, Bool.not_true, List.getElem?_toArray, List.getElem?_cons_zero, List.getElem?_cons_succ, beq_self_eq_true, Bool.and_true, Bool.true_and, Bool.and_self, eq_self, show (true == false) = false from rfl, show (false == true) = false from rfl, show (false == false) = true from rfl, Tryz.underlying70, Tryz.underlying28, sl_t31, sl_t95, sz_3, sz_70, ag_3, ag_70, ze_70, ze_3, by_3, Tryz.underlying30, sz_30, ag_30, ze_30, sz_28, ag_28, d1, b2, d3]
        exact ⟨rfl, rfl⟩
      simp only [Ex.thn]
      apply EvX.cond2 (t := false)
      · simp only [evalA, Tr.get_set, Nat.reduceEqDiff, if_true, if_false, reduceIte]
      · intro h; cases h
      intro _
      apply EvX.skip
      simp only [Ex.thn, Ex.blk]
      apply EvX.reg0
      · intro call
        simp only [QRun, stepA, wantedA, opA, pureA, loadA, effA, binA, bin, evalA, ofV, ofCell, Fr.put, enterA_n, enterA_t, setArgs, List.length_cons, List.length_nil, Tr.get_set, Nat.zero_testBit, cond_false, true_and, Nat.reduceAdd, Nat.reduceSub, ble_dec, beq_dec, Nat.reduceLeDiff, decide_true, decide_false, cond_true, Nat.reduceEqDiff, if_true, if_false, reduceIte, operands, Option.map_some, Option.map_none, CT_P, hfn, h17, wrap_succ (show i + 1 ≤ 9223372036854775807 by omega)]
        exact ⟨rfl, rfl⟩
      simp only [Ex.thn]
      refine ⟨f.length - (i + 1), by omega, i + 1, y, acc, rfl, hlt', trivial, ?_, ?_, ?_, ?_, ?_, w2, k2', ho2, by rw [← hgo]; simp only [outsOf]; rw [if_neg b1, if_neg (by rw [dd]; simp)], by omega⟩
      · simp [Tr.get_set, h5]
      · simp [Tr.get_set, h6]
      · simp [Tr.get_set, h15, hx0]
      · simp [Tr.get_set, h16]
      · simp [Tr.get_set]
end Go.Vz
