/-
  summary.Parse, told.
-/
import Derived.Test.YtgagkmbhlpmceaaGreatDoorVzPa6
set_option linter.unusedVariables false
set_option linter.unusedSimpArgs false
namespace Go.Vz
open Go Go.Proofs
set_option maxHeartbeats 4000000
set_option maxRecDepth 20000
theorem sz_89 : sizeT Tryz.prog 89 = some 1 := by kernel_rfl
theorem ag_89 : aggT Tryz.prog 89 = some false := by kernel_rfl
theorem ze_89 : zeroT Tryz.prog 89 = some .nilptr := by kernel_rfl
/-- the program's Parse: the list, the line, the error -/
def goP : Nat → Int → List Sm → List Nat → List Sm × Int × Int
  | 0, _, _, _ => ([], 0, 0)
  | f + 1, n, l, s => if s = [] then (l, 0, 0) else match cutN 10 s with
    | none => ([], n, 21)
    | some (a, b) => if (lineP l a).1 = 0 then goP f (n + 1) (lineP l a).2 b else ([], n, (lineP l a).1)
def parseP (s : List Nat) : List Sm × Int × Int := if s.length > 65536 then ([], 0, 3) else goP (s.length + 1) 1 [] s
def okLen (s : Sm) : Prop := s.ex.length ≤ 8192 ∧ s.th.length ≤ 8192
theorem grownE_ok {l : List Sm} {s : Sm} (h : grownE (l ++ [s]) = 0) : (l ++ [s]).length ≤ 256 ∧ okLen s := by
  unfold grownE at h
  split at h
  · cases h
  · rename_i hl
    obtain ⟨h1, h2⟩ := sumsErr_ok h
    have hm : s ∈ (l ++ [s]).drop ((l ++ [s]).length - 2) := by
      rw [List.drop_append_of_le_length (by simp)]
      simp
    have := h2 s hm
    exact ⟨by omega, this.2.2.1.1, this.2.2.2.1⟩
theorem lineP_ok {l : List Sm} {a : List Nat} (hl : ∀ x ∈ l, okLen x) (h : (lineP l a).1 = 0) : (lineP l a).2.length ≤ 256 ∧ ∀ x ∈ (lineP l a).2, okLen x := by
  have key : ∀ (l0 : List Sm) (s : Sm), (∀ x ∈ l0, okLen x) → grownE (l0 ++ [s]) = 0 → (l0 ++ [s]).length ≤ 256 ∧ ∀ x ∈ l0 ++ [s], okLen x := fun l0 s h1 h2 => by
    obtain ⟨q1, q2⟩ := grownE_ok h2
    refine ⟨q1, fun x hx => ?_⟩
    rcases List.mem_append.1 hx with e | e
    · exact h1 x e
    · rw [List.mem_singleton] at e; subst e; exact q2
  have hd : ∀ x ∈ l.dropLast, okLen x := fun x hx => hl x (List.dropLast_subset l hx)
  unfold lineP at h ⊢
  split
  · rename_i e; rw [e] at h; cases h
  · rename_i w ws e
    rw [e] at h
    simp only at h ⊢
    split
    · rename_i e2; rw [e2] at h; cases h
    · rename_i n e2
      rw [e2] at h
      simp only at h ⊢
      split
      · rename_i c
        rw [if_pos c] at h
        exact key l _ hl h
      · rename_i c
        rw [if_neg c] at h
        split
        · rename_i c2; rw [if_pos c2] at h; cases h
        · rename_i c2
          rw [if_neg c2] at h
          split
          · rename_i a b
            simp only at h
            unfold linePush at h ⊢
            split
            · rename_i e3; rw [e3] at h; cases h
            · rename_i s e3
              rw [e3] at h
              simp only at h ⊢
              split
              · rename_i c3; rw [if_pos c3] at h; exact key _ _ hd h
              · rename_i c3
                rw [if_neg c3] at h
                split
                · rename_i c4; rw [if_pos c4] at h; cases h
                · rename_i c4; rw [if_neg c4] at h; exact key _ _ hd h
          · rename_i h2
            exfalso
            split at h
            · rename_i a b; exact h2 a b rfl
            · cases h
theorem callT46 {qs : List MPrim} {ps : List PFn} (h : findP ps 46 = none) (hq : findM qs 46 = none) {D : CallF → DrawF} (k : Nat) (args : List AV) (m : Mem) : Vz.call (CT qs ps) D k 46 args m = primAs args m := by
  unfold Vz.call
  rw [show (CT qs ps).isPrim 46 = true by rw [CT_isPrim, h, hq]; rfl, cond_true, show (CT qs ps).prim = primT qs ps from rfl]
  unfold primT
  simp only [h, hq]
  rfl
theorem Fin.threeT {C : Cfg} {fn : Func} {t u v : Nat} {fr : Fr} {m : Mem} {x y z : AV} {K : AV → Mem → Prop} (hr : fn.results = #[.tmp t, .tmp u, .tmp v]) (hx : fr.t.get t = some x) (hy : fr.t.get u = some y) (hz : fr.t.get v = some z) (hk : K (.tup [x, y, z]) m) : (match Ex.ret with | .exit _ => False | _ => True) ∧ ∃ xs, Vz.results C.P m fr fn.results.toList = some xs ∧ K (Vz.one xs) m :=
  ⟨trivial, [x, y, z], by rw [hr]; simp [Vz.results, hx, hy, hz], hk⟩
def resP (r : List Sm × Int × Int) : AV := .tup [sumsV r.1, .int .i64 r.2.1, .int .i64 r.2.2]
theorem resP_tree {m : Mem} {x : AV} {r : List Sm × Int × Int} (h : treeA 7 m x = some (sumsV r.1)) : treeA 8 m (.tup [x, .int .i64 r.2.1, .int .i64 r.2.2]) = some (resP r) := by
  rw [treeA]
  simp only [mapO, h, tree_int, Option.map_some]
  rfl
def p19 : PFn := ⟨19, fun | [.str s] => bif Nat.ble s.length 9223372036854775806 then some (resP (parseP s)) else none | _ => none⟩
theorem spec19 {s : List Nat} (h : s.length ≤ 9223372036854775806) : p19.spec [.str s] = some (resP (parseP s)) := by
  show (bif Nat.ble s.length 9223372036854775806 then some (resP (parseP s)) else none) = _
  rw [Nat.ble_eq_true_of_le h]; rfl
theorem cl_46 (args : List AV) : calleeA Tryz.prog (.fn (.func 46) [] []) args = some (.enter 46 args) := by rw [callee_of Tryz.func46 (by kernel_rfl) (by kernel_rfl)]; simp
theorem cl_19 (args : List AV) : calleeA Tryz.prog (.fn (.func 19) [] []) args = some (.enter 19 args) := by rw [callee_of Tryz.func19 (by kernel_rfl) (by kernel_rfl)]; simp
theorem p19_ok : p19.OkT := by
  refine PFn.OkT.of (qs := []) (ps := [p11n, p44, p76, p77]) (fun q h => by cases h) (fun p h => by simp at h; rcases h with rfl | rfl | rfl | rfl; exact p11n_ok.tree; exact p44_ok.tree; exact p76_ok; exact p77_ok) (fun args y hs => ?_)
  have h' : ∃ s : List Nat, args = [.str s] ∧ s.length ≤ 9223372036854775806 ∧ y = resP (parseP s) := by
    simp only [p19] at hs
    split at hs
    · rename_i s
      cases hb : Nat.ble s.length 9223372036854775806 with
      | false => rw [hb] at hs; cases hs
      | true => rw [hb, cond_true, Option.some.injEq] at hs; exact ⟨s, rfl, Nat.le_of_ble_eq_true hb, hs.symm⟩
    · cases hs
  clear hs
  obtain ⟨s, rfl, hsl, rfl⟩ := h'
  refine EvC.runT (K := fun x m' => treeA 8 m' x = some (resP (parseP s))) (by kernel_rfl) (by rw [CT_P]; exact Tryz.func19) rfl ?_
  apply EvX.seq
  apply EvX.reg0
  · intro call
    simp only [QRun, stepA, wantedA, opA, pureA, loadA, effA, binA, bin, evalA, ofV, ofCell, Fr.put, setArgs, kS, Nat.zero_testBit, Nat.reduceAdd, Nat.reduceSub, Nat.reduceLeDiff, decide_true, decide_false, Nat.reduceEqDiff, if_true, if_false, reduceIte, operands, Tryz.ntmps19]
    exact ⟨rfl, rfl⟩
  simp only [Ex.thn]
  apply EvX.seq
  apply EvX.seq
  by_cases b1 : (s.length : Int) > 65536
  · have d1 := decide_eq_true b1
    have hv : parseP s = ([], 0, 3) := by unfold parseP; rw [if_pos (by omega)]
    apply EvX.reg0
    · intro call
      simp only [QRun, stepA, wantedA, opA, pureA, loadA, effA, binA, bin, evalA, ofV, ofCell, Fr.put, setArgs, kS, Nat.zero_testBit, Nat.reduceAdd, Nat.reduceSub, Nat.reduceLeDiff, decide_true, decide_false, Nat.reduceEqDiff, if_true, if_false, reduceIte, operands, lenS 9 st_9, d1, AV.cells, takeN, beq_self_eq_true, eq_self, kA1, kA2, kB, Tryz.underlying77, Tryz.underlying22, sz_24, ag_24, Tryz.underlying24, Tryz.underlying93, Tryz.underlying89, Tryz.underlying91, Tryz.underlying20, sz_93, sz_89, ag_89, ze_89]
      exact ⟨rfl, rfl⟩
    simp only [Ex.thn]
    apply EvX.cond2 (t := true)
    · simp only [evalA, Tr.get_set, Nat.reduceEqDiff, if_true, if_false, reduceIte]
    rotate_left
    · intro h; cases h
    intro _
    apply EvX.seq
    apply EvX.reg0
    · intro call
      simp only [QRun, stepA, wantedA, opA, pureA, loadA, effA, binA, bin, evalA, ofV, ofCell, Fr.put, setArgs, kS, Nat.zero_testBit, Nat.reduceAdd, Nat.reduceSub, Nat.reduceLeDiff, decide_true, decide_false, Nat.reduceEqDiff, if_true, if_false, reduceIte, operands]
      exact ⟨rfl, rfl⟩
    simp only [Ex.thn]
    apply EvX.ret
    simp only [Ex.thn, Ex.blk]
    refine Fin.threeT (K := fun x m' => treeA 8 m' x = some (resP (parseP s))) (x := .nilsl) (y := .int .i64 0) (z := .int .i64 3) (t := 2) (u := 3) (v := 4) rfl (by simp only [Tr.get_set, if_true, if_false, reduceIte, Nat.reduceEqDiff]) (by simp only [Tr.get_set, if_true, if_false, reduceIte, Nat.reduceEqDiff]) (by simp only [Tr.get_set, if_true, if_false, reduceIte, Nat.reduceEqDiff]) ?_
    rw [hv]
    exact resP_tree (m := Mem.empty) (r := ([], 0, 3)) rfl
  have d1 := decide_eq_false b1
  have hs6 : s.length ≤ 65536 := by omega
  have hv0 : parseP s = goP (s.length + 1) 1 [] s := by unfold parseP; rw [if_neg (by omega)]
  apply EvX.reg0
  · intro call
    simp only [QRun, stepA, wantedA, opA, pureA, loadA, effA, binA, bin, evalA, ofV, ofCell, Fr.put, setArgs, kS, Nat.zero_testBit, Nat.reduceAdd, Nat.reduceSub, Nat.reduceLeDiff, decide_true, decide_false, Nat.reduceEqDiff, if_true, if_false, reduceIte, operands, lenS 9 st_9, d1, AV.cells, takeN, beq_self_eq_true, eq_self, kA1, kA2, kB, Tryz.underlying77, Tryz.underlying22, sz_24, ag_24, Tryz.underlying24, Tryz.underlying93, Tryz.underlying89, Tryz.underlying91, Tryz.underlying20, sz_93, sz_89, ag_89, ze_89]
    exact ⟨rfl, rfl⟩
  simp only [Ex.thn]
  apply EvX.cond2 (t := false)
  · simp only [evalA, Tr.get_set, Nat.reduceEqDiff, if_true, if_false, reduceIte]
  · intro h; cases h
  intro _
  apply EvX.skip
  simp only [Ex.thn, Ex.blk]
  apply EvX.seq
  apply EvX.reg0
  · intro call
    simp only [QRun, stepA, wantedA, opA, pureA, loadA, effA, binA, bin, evalA, ofV, ofCell, Fr.put, setArgs, kS, Nat.zero_testBit, Nat.reduceAdd, Nat.reduceSub, Nat.reduceLeDiff, decide_true, decide_false, Nat.reduceEqDiff, if_true, if_false, reduceIte, operands]
    exact ⟨rfl, rfl⟩
  simp only [Ex.thn]
  apply EvX.seq
  apply EvX.seq
  apply EvX.reg0
  · intro call
    simp only [QRun, stepA, wantedA, opA, pureA, loadA, effA, binA, bin, evalA, ofV, ofCell, Fr.put, setArgs, kS, Nat.zero_testBit, Nat.reduceAdd, Nat.reduceSub, Nat.reduceLeDiff, decide_true, decide_false, Nat.reduceEqDiff, if_true, if_false, reduceIte, operands]
    exact ⟨rfl, rfl⟩
  simp only [Ex.thn]
  apply EvX.block
  refine EvX.loop (fun k fr m => ∃ (f : Nat) (n : Nat) (l : List Sm) (cur : List Nat) (y : AV) (cs : List Nat), k = cur.length ∧ cur.length < f ∧ cur.length ≤ 65536 ∧ n + cur.length ≤ 100000 ∧ fr.n = 46 ∧ fr.t.get 0 = some (.str cur) ∧ fr.t.get 5 = some y ∧ fr.t.get 6 = some (.int .i64 (n : Int)) ∧
    WFm m ∧ SumC m y l cs ∧ l.length ≤ 256 ∧ (∀ x ∈ l, okLen x) ∧ goP f (n : Int) l cur = parseP s) ?_ s.length _ _
    ⟨s.length + 1, 1, [], s, .nilsl, [], rfl, Nat.lt_succ_self _, hs6, by omega, rfl, by simp [Tr.get_set], by simp [Tr.get_set], by simp [Tr.get_set], WFm.empty, SumC.nil _, by simp, by simp, hv0.symm⟩
  rintro k fr m ⟨f, n, l, cur, y, cs, rfl, hf, hc6, hn6, hfn, h0, h5, h6, hw, hsum, hl, hok, hgo⟩
  obtain ⟨f', rfl⟩ : ∃ f', f = f' + 1 := ⟨f - 1, by omega⟩
  apply EvX.seq
  apply EvX.seq
  by_cases b2 : cur = []
  · have he : eqNats cur [] = true := by rw [eqN_iff]; exact decide_eq_true b2
    have hv : parseP s = (l, 0, 0) := by rw [← hgo]; unfold goP; rw [if_pos b2]
    apply EvX.reg0
    · intro call
      simp only [QRun, stepA, wantedA, opA, pureA, loadA, effA, binA, bin, evalA, ofV, ofCell, Fr.put, setArgs, kS, Nat.zero_testBit, Nat.reduceAdd, Nat.reduceSub, Nat.reduceLeDiff, decide_true, decide_false, Nat.reduceEqDiff, if_true, if_false, reduceIte, operands, hfn, h0, natOf_nil, binS, he, AV.cells, takeN, beq_self_eq_true, eq_self, kA1, kA2, kB, Tryz.underlying77, Tryz.underlying22, sz_24, ag_24, Tryz.underlying24, Tryz.underlying93, Tryz.underlying89, Tryz.underlying91, Tryz.underlying20, sz_93, sz_89, ag_89, ze_89]
      exact ⟨rfl, rfl⟩
    simp only [Ex.thn]
    apply EvX.cond2 (t := false)
    · simp only [evalA, Tr.get_set, Nat.reduceEqDiff, if_true, if_false, reduceIte]
    · intro h; cases h
    intro _
    apply EvX.exit
    simp only [Ex.thn, Ex.blk, beq_dec, decide_true, cond_true]
    apply EvX.seq
    apply EvX.reg0
    · intro call
      simp only [QRun, stepA, wantedA, opA, pureA, loadA, effA, binA, bin, evalA, ofV, ofCell, Fr.put, setArgs, kS, Nat.zero_testBit, Nat.reduceAdd, Nat.reduceSub, Nat.reduceLeDiff, decide_true, decide_false, Nat.reduceEqDiff, if_true, if_false, reduceIte, operands, hfn, h5]
      exact ⟨rfl, rfl⟩
    simp only [Ex.thn]
    apply EvX.ret
    refine Fin.threeT (K := fun x m' => treeA 8 m' x = some (resP (parseP s))) (x := y) (y := .int .i64 0) (z := .int .i64 0) (t := 2) (u := 3) (v := 4) rfl (by simp only [Tr.get_set, if_true, if_false, reduceIte, Nat.reduceEqDiff]) (by simp only [Tr.get_set, if_true, if_false, reduceIte, Nat.reduceEqDiff]) (by simp only [Tr.get_set, if_true, if_false, reduceIte, Nat.reduceEqDiff]) ?_
    rw [hv]
    exact resP_tree (m := m) (r := (l, 0, 0)) (hsum.tree 4)
  have he : eqNats cur [] = false := by rw [eqN_iff]; exact decide_eq_false b2
  unfold goP at hgo
  rw [if_neg b2] at hgo
  have c44 := fun k => callTp (qs := []) (ps := [p11n, p44, p76, p77]) (p := p44) (f := 44) rfl (D := drawA (CT [] [p11n, p44, p76, p77])) k m (args := [.str cur, .str [10]]) (args' := [.str cur, .str [10]]) rfl (specCut_enc (by decide) (by omega)) (cutV_plain cur 10)
  apply EvX.reg0
  · intro call
    simp only [QRun, stepA, wantedA, opA, pureA, loadA, effA, binA, bin, evalA, ofV, ofCell, Fr.put, setArgs, kS, Nat.zero_testBit, Nat.reduceAdd, Nat.reduceSub, Nat.reduceLeDiff, decide_true, decide_false, Nat.reduceEqDiff, if_true, if_false, reduceIte, operands, hfn, h0, natOf_nil, binS, he, AV.cells, takeN, beq_self_eq_true, eq_self, kA1, kA2, kB, Tryz.underlying77, Tryz.underlying22, sz_24, ag_24, Tryz.underlying24, Tryz.underlying93, Tryz.underlying89, Tryz.underlying91, Tryz.underlying20, sz_93, sz_89, ag_89, ze_89]
    exact ⟨rfl, rfl⟩
  simp only [Ex.thn]
  apply EvX.cond2 (t := true)
  · simp only [evalA, Tr.get_set, Nat.reduceEqDiff, if_true, if_false, reduceIte]
  rotate_left
  · intro h; cases h
  intro _
  apply EvX.skip
  simp only [Ex.thn, Ex.blk]
  apply EvX.seq
  apply EvX.block
  cases hcut : cutN 10 cur with
  | none =>
    rw [hcut] at hgo
    have hcv : cutV cur 10 = .tup [.str cur, .str [], .bool false] := by unfold cutV; rw [hcut]
    rw [hcv] at c44
    have hv : parseP s = ([], (n : Int), 21) := hgo.symm
    apply EvX.seq
    apply EvX.reg 0
    · intro k _
      simp only [QRun, stepA, wantedA, opA, pureA, loadA, effA, binA, bin, evalA, ofV, ofCell, Fr.put, setArgs, kS, Nat.zero_testBit, Nat.reduceAdd, Nat.reduceSub, Nat.reduceLeDiff, decide_true, decide_false, Nat.reduceEqDiff, if_true, if_false, reduceIte, operands, hfn, h0, nat_nl, cl_44, c44, AV.cells, takeN, beq_self_eq_true, eq_self, kA1, kA2, kB, Tryz.underlying77, Tryz.underlying22, sz_24, ag_24, Tryz.underlying24, Tryz.underlying93, Tryz.underlying89, Tryz.underlying91, Tryz.underlying20, sz_93, sz_89, ag_89, ze_89]
      exact ⟨rfl, rfl⟩
    simp only [Ex.thn]
    apply EvX.seq
    apply EvX.seq
    apply EvX.reg0
    · intro call
      simp only [QRun, stepA, wantedA, opA, pureA, loadA, effA, binA, bin, evalA, ofV, ofCell, Fr.put, setArgs, kS, Nat.zero_testBit, Nat.reduceAdd, Nat.reduceSub, Nat.reduceLeDiff, decide_true, decide_false, Nat.reduceEqDiff, if_true, if_false, reduceIte, operands, hfn, unA, AV.cells, takeN, beq_self_eq_true, eq_self, kA1, kA2, kB, Tryz.underlying77, Tryz.underlying22, sz_24, ag_24, Tryz.underlying24, Tryz.underlying93, Tryz.underlying89, Tryz.underlying91, Tryz.underlying20, sz_93, sz_89, ag_89, ze_89]
      exact ⟨rfl, rfl⟩
    simp only [Ex.thn]
    apply EvX.cond2 (t := true)
    · simp only [evalA, Tr.get_set, Nat.reduceEqDiff, if_true, if_false, reduceIte]
    rotate_left
    · intro h; cases h
    intro _
    apply EvX.seq
    apply EvX.reg0
    · intro call
      simp only [QRun, stepA, wantedA, opA, pureA, loadA, effA, binA, bin, evalA, ofV, ofCell, Fr.put, setArgs, kS, Nat.zero_testBit, Nat.reduceAdd, Nat.reduceSub, Nat.reduceLeDiff, decide_true, decide_false, Nat.reduceEqDiff, if_true, if_false, reduceIte, operands, hfn, h6]
      exact ⟨rfl, rfl⟩
    simp only [Ex.thn]
    apply EvX.ret
    simp only [Ex.thn, Ex.blk]
    refine Fin.threeT (K := fun x m' => treeA 8 m' x = some (resP (parseP s))) (x := .nilsl) (y := .int .i64 (n : Int)) (z := .int .i64 21) (t := 2) (u := 3) (v := 4) rfl (by simp only [Tr.get_set, if_true, if_false, reduceIte, Nat.reduceEqDiff]) (by simp only [Tr.get_set, if_true, if_false, reduceIte, Nat.reduceEqDiff]) (by simp only [Tr.get_set, if_true, if_false, reduceIte, Nat.reduceEqDiff]) ?_
    rw [hv]
    exact resP_tree (m := m) (r := ([], (n : Int), 21)) rfl
  | some ab =>
    obtain ⟨a, b⟩ := ab
    rw [hcut] at hgo
    simp only at hgo
    obtain ⟨q1, q2⟩ := cutN_spec hcut
    have hlen : cur.length = a.length + (b.length + 1) := by rw [q1]; simp
    have hcv : cutV cur 10 = .tup [.str a, .str b, .bool true] := by unfold cutV; rw [hcut]
    rw [hcv] at c44
    obtain ⟨x, M1, hL, N, hN⟩ := lineRun (qs := []) (ps := [p11n, p44, p76, p77]) (by kernel_rfl) (by kernel_rfl) rfl rfl rfl hw hsum (s := a) (by omega) (by omega) (fun x hx => by have := hok x hx; unfold okLen at this; omega)
    obtain ⟨w1, hL⟩ := hL
    apply EvX.seq
    apply EvX.reg 0
    · intro k _
      simp only [QRun, stepA, wantedA, opA, pureA, loadA, effA, binA, bin, evalA, ofV, ofCell, Fr.put, setArgs, kS, Nat.zero_testBit, Nat.reduceAdd, Nat.reduceSub, Nat.reduceLeDiff, decide_true, decide_false, Nat.reduceEqDiff, if_true, if_false, reduceIte, operands, hfn, h0, nat_nl, cl_44, c44, AV.cells, takeN, beq_self_eq_true, eq_self, kA1, kA2, kB, Tryz.underlying77, Tryz.underlying22, sz_24, ag_24, Tryz.underlying24, Tryz.underlying93, Tryz.underlying89, Tryz.underlying91, Tryz.underlying20, sz_93, sz_89, ag_89, ze_89]
      exact ⟨rfl, rfl⟩
    simp only [Ex.thn]
    apply EvX.seq
    apply EvX.seq
    apply EvX.reg0
    · intro call
      simp only [QRun, stepA, wantedA, opA, pureA, loadA, effA, binA, bin, evalA, ofV, ofCell, Fr.put, setArgs, kS, Nat.zero_testBit, Nat.reduceAdd, Nat.reduceSub, Nat.reduceLeDiff, decide_true, decide_false, Nat.reduceEqDiff, if_true, if_false, reduceIte, operands, hfn, unA, AV.cells, takeN, beq_self_eq_true, eq_self, kA1, kA2, kB, Tryz.underlying77, Tryz.underlying22, sz_24, ag_24, Tryz.underlying24, Tryz.underlying93, Tryz.underlying89, Tryz.underlying91, Tryz.underlying20, sz_93, sz_89, ag_89, ze_89]
      exact ⟨rfl, rfl⟩
    simp only [Ex.thn]
    apply EvX.cond2 (t := false)
    · simp only [evalA, Tr.get_set, Nat.reduceEqDiff, if_true, if_false, reduceIte]
    · intro h; cases h
    intro _
    apply EvX.skip
    simp only [Ex.thn, Ex.blk]
    rcases hL with ⟨hr0, y', cs', rfl, hs1⟩ | ⟨hr0, q, rfl, bq⟩
    · rw [if_pos hr0] at hgo
      obtain ⟨ok1, ok2⟩ := lineP_ok hok hr0
      have kf := fresh_frame M1 (some 89) [.nilptr] [] w1
      have wf := fresh_wf w1 (some 89) [.nilptr]
      have hs2 := hs1.frame kf (fun c _ hc => by cases hc)
      have c46 := fun k => (callT46 (qs := []) (ps := [p11n, p44, p76, p77]) rfl rfl (D := drawA (CT [] [p11n, p44, p76, p77])) k [.niliface, .iface 91 (.ptr M1.nxt 0)] (M1.fresh (some 89) [.nilptr])).trans (rfl : primAs [.niliface, .iface 91 (.ptr M1.nxt 0)] (M1.fresh (some 89) [.nilptr]) = some (.bool false, M1.fresh (some 89) [.nilptr]))
      apply EvX.seq
      apply EvX.reg N
      · intro k hk
        simp only [QRun, stepA, wantedA, opA, pureA, loadA, effA, binA, bin, evalA, ofV, ofCell, Fr.put, setArgs, kS, Nat.zero_testBit, Nat.reduceAdd, Nat.reduceSub, Nat.reduceLeDiff, decide_true, decide_false, Nat.reduceEqDiff, if_true, if_false, reduceIte, operands, hfn, h5, cl_45, hN k hk, AV.cells, takeN, beq_self_eq_true, eq_self, kA1, kA2, kB, Tryz.underlying77, Tryz.underlying22, sz_24, ag_24, Tryz.underlying24, Tryz.underlying93, Tryz.underlying89, Tryz.underlying91, Tryz.underlying20, sz_93, sz_89, ag_89, ze_89]
        exact ⟨rfl, rfl⟩
      simp only [Ex.thn]
      apply EvX.seq
      apply EvX.reg0
      · intro call
        simp only [QRun, stepA, wantedA, opA, pureA, loadA, effA, binA, bin, evalA, ofV, ofCell, Fr.put, setArgs, kS, Nat.zero_testBit, Nat.reduceAdd, Nat.reduceSub, Nat.reduceLeDiff, decide_true, decide_false, Nat.reduceEqDiff, if_true, if_false, reduceIte, operands, hfn, AV.cells, takeN, beq_self_eq_true, eq_self, kA1, kA2, kB, Tryz.underlying77, Tryz.underlying22, sz_24, ag_24, Tryz.underlying24, Tryz.underlying93, Tryz.underlying89, Tryz.underlying91, Tryz.underlying20, sz_93, sz_89, ag_89, ze_89]
        exact ⟨rfl, rfl⟩
      simp only [Ex.thn]
      apply EvX.seq
      apply EvX.seq
      apply EvX.reg 0
      · intro k _
        simp only [QRun, stepA, wantedA, opA, pureA, loadA, effA, binA, bin, evalA, ofV, ofCell, Fr.put, setArgs, kS, Nat.zero_testBit, Nat.reduceAdd, Nat.reduceSub, Nat.reduceLeDiff, decide_true, decide_false, Nat.reduceEqDiff, if_true, if_false, reduceIte, operands, hfn, cl_46, c46, AV.cells, takeN, beq_self_eq_true, eq_self, kA1, kA2, kB, Tryz.underlying77, Tryz.underlying22, sz_24, ag_24, Tryz.underlying24, Tryz.underlying93, Tryz.underlying89, Tryz.underlying91, Tryz.underlying20, sz_93, sz_89, ag_89, ze_89]
        exact ⟨rfl, rfl⟩
      simp only [Ex.thn]
      apply EvX.cond2 (t := false)
      · simp only [evalA, Tr.get_set, Nat.reduceEqDiff, if_true, if_false, reduceIte]
      · intro h; cases h
      intro _
      apply EvX.skip
      simp only [Ex.thn, Ex.blk]
      apply EvX.reg0
      · intro call
        simp only [QRun, stepA, wantedA, opA, pureA, loadA, effA, binA, bin, evalA, ofV, ofCell, Fr.put, setArgs, kS, Nat.zero_testBit, Nat.reduceAdd, Nat.reduceSub, Nat.reduceLeDiff, decide_true, decide_false, Nat.reduceEqDiff, if_true, if_false, reduceIte, operands, hfn]
        exact ⟨rfl, rfl⟩
      simp only [Ex.thn, Ex.blk]
      apply EvX.reg0
      · intro call
        simp only [QRun, stepA, wantedA, opA, pureA, loadA, effA, binA, bin, evalA, ofV, ofCell, Fr.put, setArgs, kS, Nat.zero_testBit, Nat.reduceAdd, Nat.reduceSub, Nat.reduceLeDiff, decide_true, decide_false, Nat.reduceEqDiff, if_true, if_false, reduceIte, operands, hfn, h6, wrap_succ (show n + 1 ≤ 9223372036854775807 by omega)]
        exact ⟨rfl, rfl⟩
      simp only [Ex.thn]
      refine ⟨b.length, by omega, f', n + 1, (lineP l a).2, b, y', cs', rfl, by omega, by omega, by omega, trivial, ?_, ?_, ?_, wf, hs2, ok1, ok2, ?_⟩
      · simp [Tr.get_set]
      · simp [Tr.get_set]
      · simp [Tr.get_set]
      · rw [← hgo]; rfl
    · rw [if_neg hr0] at hgo
      have hv : parseP s = ([], (n : Int), (lineP l a).1) := hgo.symm
      obtain ⟨M3, st, w3, n3, k3, b3⟩ := box_winC w1 89 (zs := [.nilptr]) (xs := [.ptr q 0]) rfl rfl
      have bq3 := bq.frame k3 (fun hc => by cases hc)
      have ld1 : M3.load (.ptr M1.nxt 0) 1 = some [.ptr q 0] := b3.load (k := 0) (a := 1) (by simp)
      have ld2 : M3.load (.ptr q 0) 1 = some [.int .i64 (lineP l a).1] := bq3.load (k := 0) (a := 1) (by omega)
      have hpr : primAs [.iface 89 (.ptr q 0), .iface 91 (.ptr M1.nxt 0)] (M1.fresh (some 89) [.nilptr]) = some (.bool true, M3) := by
        simp only [primAs, st, Option.map_some]
      have c46 := fun k => (callT46 (qs := []) (ps := [p11n, p44, p76, p77]) rfl rfl (D := drawA (CT [] [p11n, p44, p76, p77])) k [.iface 89 (.ptr q 0), .iface 91 (.ptr M1.nxt 0)] (M1.fresh (some 89) [.nilptr])).trans hpr
      apply EvX.seq
      apply EvX.reg N
      · intro k hk
        simp only [QRun, stepA, wantedA, opA, pureA, loadA, effA, binA, bin, evalA, ofV, ofCell, Fr.put, setArgs, kS, Nat.zero_testBit, Nat.reduceAdd, Nat.reduceSub, Nat.reduceLeDiff, decide_true, decide_false, Nat.reduceEqDiff, if_true, if_false, reduceIte, operands, hfn, h5, cl_45, hN k hk, AV.cells, takeN, beq_self_eq_true, eq_self, kA1, kA2, kB, Tryz.underlying77, Tryz.underlying22, sz_24, ag_24, Tryz.underlying24, Tryz.underlying93, Tryz.underlying89, Tryz.underlying91, Tryz.underlying20, sz_93, sz_89, ag_89, ze_89]
        exact ⟨rfl, rfl⟩
      simp only [Ex.thn]
      apply EvX.seq
      apply EvX.reg0
      · intro call
        simp only [QRun, stepA, wantedA, opA, pureA, loadA, effA, binA, bin, evalA, ofV, ofCell, Fr.put, setArgs, kS, Nat.zero_testBit, Nat.reduceAdd, Nat.reduceSub, Nat.reduceLeDiff, decide_true, decide_false, Nat.reduceEqDiff, if_true, if_false, reduceIte, operands, hfn, AV.cells, takeN, beq_self_eq_true, eq_self, kA1, kA2, kB, Tryz.underlying77, Tryz.underlying22, sz_24, ag_24, Tryz.underlying24, Tryz.underlying93, Tryz.underlying89, Tryz.underlying91, Tryz.underlying20, sz_93, sz_89, ag_89, ze_89]
        exact ⟨rfl, rfl⟩
      simp only [Ex.thn]
      apply EvX.seq
      apply EvX.seq
      apply EvX.reg 0
      · intro k _
        simp only [QRun, stepA, wantedA, opA, pureA, loadA, effA, binA, bin, evalA, ofV, ofCell, Fr.put, setArgs, kS, Nat.zero_testBit, Nat.reduceAdd, Nat.reduceSub, Nat.reduceLeDiff, decide_true, decide_false, Nat.reduceEqDiff, if_true, if_false, reduceIte, operands, hfn, cl_46, c46, AV.cells, takeN, beq_self_eq_true, eq_self, kA1, kA2, kB, Tryz.underlying77, Tryz.underlying22, sz_24, ag_24, Tryz.underlying24, Tryz.underlying93, Tryz.underlying89, Tryz.underlying91, Tryz.underlying20, sz_93, sz_89, ag_89, ze_89]
        exact ⟨rfl, rfl⟩
      simp only [Ex.thn]
      apply EvX.cond2 (t := true)
      · simp only [evalA, Tr.get_set, Nat.reduceEqDiff, if_true, if_false, reduceIte]
      rotate_left
      · intro h; cases h
      intro _
      apply EvX.seq
      apply EvX.drw 0 0
      · kernel_rfl
      · intro k _
        simp only [QRun, stepA, wantedA, opA, pureA, loadA, effA, binA, bin, evalA, ofV, ofCell, Fr.put, setArgs, kS, Nat.zero_testBit, Nat.reduceAdd, Nat.reduceSub, Nat.reduceLeDiff, decide_true, decide_false, Nat.reduceEqDiff, if_true, if_false, reduceIte, operands, hfn, h6, ld1, ld2, AV.cells, takeN, beq_self_eq_true, eq_self, kA1, kA2, kB, Tryz.underlying77, Tryz.underlying22, sz_24, ag_24, Tryz.underlying24, Tryz.underlying93, Tryz.underlying89, Tryz.underlying91, Tryz.underlying20, sz_93, sz_89, ag_89, ze_89]
        exact ⟨rfl, rfl⟩
      simp only [Ex.thn]
      apply EvX.ret
      simp only [Ex.thn, Ex.blk]
      refine Fin.threeT (K := fun x m' => treeA 8 m' x = some (resP (parseP s))) (x := .nilsl) (y := .int .i64 (n : Int)) (z := .int .i64 (lineP l a).1) (t := 2) (u := 3) (v := 4) rfl (by simp only [Tr.get_set, if_true, if_false, reduceIte, Nat.reduceEqDiff]) (by simp only [Tr.get_set, if_true, if_false, reduceIte, Nat.reduceEqDiff]) (by simp only [Tr.get_set, if_true, if_false, reduceIte, Nat.reduceEqDiff]) ?_
      rw [hv]
      exact resP_tree (m := M3) (r := ([], (n : Int), (lineP l a).1)) rfl
end Go.Vz
