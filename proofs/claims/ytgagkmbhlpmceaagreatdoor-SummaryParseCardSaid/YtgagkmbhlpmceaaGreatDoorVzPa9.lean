/-
  SummaryText, told.
-/
import Derived.Test.YtgagkmbhlpmceaaGreatDoorVzPa8
set_option linter.unusedVariables false
set_option linter.unusedSimpArgs false
namespace Go.Vz
open Go Go.Proofs
set_option maxHeartbeats 4000000
set_option maxRecDepth 20000
theorem wfTs_pairs (n : Nat) : ∀ l : List (Int × Int), wfTs (n + 1) (encPairs l) = true
  | [] => rfl
  | p :: l => by
    have ih := wfTs_pairs n l
    simp only [encPairs, wfTs, ih, Bool.and_true]
    rfl
theorem wfT_slP (n : Nat) (l : List (Int × Int)) : wfT (n + 2) (slP l) = true := by
  unfold slP
  split
  · rfl
  · rw [wfT, wfTs_pairs, encPairs_length, Nat.beq_refl]; rfl
theorem wfTs_cells (n : Nat) : ∀ l : List Sm, wfTs (n + 2) (sumCells l) = true
  | [] => rfl
  | s :: l => by
    have ih := wfTs_cells n l
    simp only [sumCells, wfTs, ih, wfT_slP, Bool.and_true]
    rfl
theorem wfT_sumsV (n : Nat) (l : List Sm) : wfT (n + 3) (sumsV l) = true := by
  unfold sumsV
  split
  · rfl
  · rw [wfT, wfTs_cells, sumCells_length, Nat.beq_refl]; rfl
theorem wfT_resP (r : List Sm × Int × Int) : wfT 8 (resP r) = true := by
  unfold resP
  rw [wfT, wfTs, wfTs, wfTs, wfTs, wfT_sumsV]
  rfl
theorem mapO_three {f : AV → Option AV} {xs : List AV} {a b c : AV} (h : mapO f xs = some [a, b, c]) : ∃ x y z, xs = [x, y, z] ∧ f x = some a ∧ f y = some b ∧ f z = some c := by
  have hl := mapO_length h
  match xs, hl with
  | [x, y, z], _ =>
    cases hx : f x with
    | none => simp [mapO, hx] at h
    | some x' =>
      cases hy : f y with
      | none => simp [mapO, hx, hy] at h
      | some y' =>
        cases hz : f z with
        | none => simp [mapO, hx, hy, hz] at h
        | some z' =>
          simp only [mapO, hx, hy, hz, Option.some.injEq, List.cons.injEq, and_true] at h
          exact ⟨x, y, z, rfl, by rw [hx, h.1], by rw [hy, h.2.1], by rw [hz, h.2.2]⟩
theorem view_intR {n : Nat} {m : Mem} {x : AV} {k : IntKind} {a : Int} (h : viewA (n + 1) m x = some (.int k a)) : x = .int k a := by
  cases x <;> simp only [viewA] at h <;> try (cases h; done)
  case int => cases h; rfl
  case sl v k len sz =>
    split at h
    · rename_i xs _
      cases hs : mapO (viewA n m) xs <;> simp [hs] at h
    · cases h
  case ro xs _ _ => cases hs : mapO (viewA n m) xs <;> simp [hs] at h
  case rp xs => cases hs : mapO (viewA n m) xs <;> simp [hs] at h
  case agg xs => cases hs : mapO (viewA n m) xs <;> simp [hs] at h
  case tup xs => cases hs : mapO (viewA n m) xs <;> simp [hs] at h
  case iface t x => cases hs : viewA n m x <;> simp [hs] at h
/-- what Parse gave, laid -/
theorem adopt_resP {m : Mem} (w : WFm m) (r : List Sm × Int × Int) : ∃ x m', adoptA (resP r) m = (.tup [x, .int .i64 r.2.1, .int .i64 r.2.2], m') ∧ WFm m' ∧ KeepB m.nxt m m' ∧ viewA 8 m' x = some (sumsV r.1) := by
  obtain ⟨h1, h2, h3⟩ := adopt_view (wfT_resP r) w
  generalize hr : adoptA (resP r) m = q at h1 h2 h3
  obtain ⟨xs, e1, e2⟩ := view_tup h3
  obtain ⟨x, y, z, rfl, e3, e4, e5⟩ := mapO_three e2
  have := view_intR e4
  subst this
  have := view_intR e5
  subst this
  exact ⟨x, q.2, by rw [← e1], h1, h2, viewA_mono _ _ _ e3⟩
theorem textRes_err (l : List Sm) : ((textRes l).2 = 0 ∧ (textRes l).1 = textOf l ∧ sumsErr 1024 l = 0 ∧ (textOf l).length ≤ 65536) ∨ (textRes l).2 ≠ 0 := by
  unfold textRes
  split
  · rename_i h; exact .inr h
  · rename_i h
    split
    · right; decide
    · rename_i h2; exact .inl ⟨rfl, rfl, by omega, by omega⟩
def spec5 : List AV → Option AV
  | [.ro xs n 3] => match decSums xs with
    | some l => bif Nat.beq l.length n && Nat.ble n 9223372036854775807 then some (.bool true) else none
    | none => none
  | _ => none
theorem spec5_enc {l : List Sm} (h : l.length ≤ 9223372036854775807) (hk : okSums l) : spec5 [.ro (encSums l) l.length 3] = some (.bool true) := by
  simp only [spec5, decSums_enc hk, Nat.beq_refl, Nat.ble_eq_true_of_le h, Bool.and_self, cond_true]
theorem spec5_some {args : List AV} {x : AV} (h : spec5 args = some x) : ∃ l, args = [.ro (encSums l) l.length 3] ∧ x = .bool true ∧ l.length ≤ 9223372036854775807 ∧ okSums l := by
  unfold spec5 at h
  split at h
  rotate_left
  · cases h
  rename_i xs n
  cases hl : decSums xs with
  | none => simp [hl] at h
  | some l =>
  simp only [hl] at h
  cases hb : Nat.beq l.length n && Nat.ble n 9223372036854775807 with
  | false => simp [hb] at h
  | true =>
  simp only [hb, cond_true, Option.some.injEq] at h
  rw [Bool.and_eq_true_iff] at hb
  have hn := Nat.eq_of_beq_eq_true hb.1
  subst hn
  obtain ⟨e1, e2⟩ := decSums_eq hl
  exact ⟨l, by rw [e1], h.symm, Nat.le_of_ble_eq_true hb.2, e2⟩
theorem isums_enc {l : List Sm} (h : l.length ≤ 9223372036854775807) (hk : okSums l) : isums (.ro (encSums l) l.length 3) = some l := by
  have hd : ∀ {l : List Sm}, okSums l → decS (encSums l) = some l := by
    intro l
    induction l with
    | nil => intro _; rfl
    | cons s l ih =>
      intro hk
      have h1 := hk s (by simp)
      have e1 : ∀ {k : List (Int × Int)}, k.length ≤ 9223372036854775807 → iprs (.ro (encPairs k) k.length 2) = some k := fun {k} hk => by
        unfold iprs; rw [ipr_ro]; simp only [Nat.ble_eq_true_of_le hk, cond_true]
      simp only [encSums, decS, e1 h1.1, e1 h1.2, ih (fun x hx => hk x (by simp [hx]))]
  simp only [isums, hd hk, Nat.beq_refl, Nat.ble_eq_true_of_le h, Bool.and_self, cond_true]
def p5 : PFn := ⟨5, spec5⟩
theorem p5_ok : p5.Ok := by
  refine PFn.Ok.ofT (qs := []) (ps := [p10, p17, p18, p19, p20]) (fun q h => by cases h) (fun p h => by simp at h; rcases h with rfl | rfl | rfl | rfl | rfl; exact p10_ok.tree; exact p17_ok.tree; exact p18_ok.tree; exact p19_ok; exact p20_ok.tree) (fun args u hs => ?_)
  obtain ⟨l, rfl, rfl, hl, ho⟩ := spec5_some hs
  clear hs
  refine ⟨rfl, EvC.run (by kernel_rfl) (by rw [CT_P]; exact Tryz.func5) rfl ?_⟩
  have va : ∀ m, mapO (viewA 8 m) [.ro (encSums l) l.length 3] = some [.ro (encSums l) l.length 3] := fun m => by simp only [mapO, viewSumsRow]
  have c10 := fun k m => callTp (qs := []) (ps := [p10, p17, p18, p19, p20]) (p := p10) (f := 10) rfl (D := drawA (CT [] [p10, p17, p18, p19, p20])) k m (va m) (specShort_enc hl ho) rfl
  have c17 := fun k m => callTp (qs := []) (ps := [p10, p17, p18, p19, p20]) (p := p17) (f := 17) rfl (D := drawA (CT [] [p10, p17, p18, p19, p20])) k m (va m) (specTx_enc hl ho) rfl
  have c18 := fun k m => callTp (qs := []) (ps := [p10, p17, p18, p19, p20]) (p := p18) (f := 18) rfl (D := drawA (CT [] [p10, p17, p18, p19, p20])) k m (va m) (specTx_enc hl ho) rfl
  have c13 := fun k m => callT13 (qs := []) (ps := [p10, p17, p18, p19, p20]) rfl rfl (D := drawA (CT [] [p10, p17, p18, p19, p20])) k m
  apply EvX.seq
  apply EvX.reg0
  · intro call
    simp only [QRun, stepA, wantedA, opA, pureA, loadA, effA, binA, bin, evalA, ofV, ofCell, Fr.put, setArgs, kS, Nat.zero_testBit, Nat.reduceAdd, Nat.reduceSub, Nat.reduceLeDiff, decide_true, decide_false, Nat.reduceEqDiff, if_true, if_false, reduceIte, operands, Tryz.ntmps5]
    exact ⟨rfl, rfl⟩
  simp only [Ex.thn]
  apply EvX.seq
  apply EvX.seq
  cases hsb : shortB l with
  | false =>
    apply EvX.reg 0
    · intro k _
      simp only [QRun, stepA, wantedA, opA, pureA, loadA, effA, binA, bin, evalA, ofV, ofCell, Fr.put, setArgs, kS, Nat.zero_testBit, Nat.reduceAdd, Nat.reduceSub, Nat.reduceLeDiff, decide_true, decide_false, Nat.reduceEqDiff, if_true, if_false, reduceIte, operands, cl_10, c10, hsb, unA, AV.cells, takeN, beq_self_eq_true, eq_self, kA1, kA2, st_9, Tryz.underlying22, Tryz.underlying24]
      exact ⟨rfl, rfl⟩
    simp only [Ex.thn]
    apply EvX.cond2 (t := true)
    · simp only [evalA, Tr.get_set, Nat.reduceEqDiff, if_true, if_false, reduceIte]
    rotate_left
    · intro h; cases h
    intro _
    apply EvX.seq
    apply EvX.reg0
    · intro call
      simp only [QRun, stepA, wantedA, opA, pureA, loadA, effA, binA, bin, evalA, ofV, ofCell, Fr.put, setArgs, kS, Nat.zero_testBit, Nat.reduceAdd, Nat.reduceSub, Nat.reduceLeDiff, decide_true, decide_false, Nat.reduceEqDiff, if_true, if_false, reduceIte, operands]
      exact ⟨rfl, rfl⟩
    simp only [Ex.thn]
    apply EvX.ret
    simp only [Ex.thn, Ex.blk]
    exact Fin.one rfl (by simp only [Tr.get_set, if_true, reduceIte])
  | true =>
  by_cases b1 : (l.length : Int) > 20
  · have d1 := decide_eq_true b1
    apply EvX.reg 0
    · intro k _
      simp only [QRun, stepA, wantedA, opA, pureA, loadA, effA, binA, bin, evalA, ofV, ofCell, Fr.put, setArgs, kS, Nat.zero_testBit, Nat.reduceAdd, Nat.reduceSub, Nat.reduceLeDiff, decide_true, decide_false, Nat.reduceEqDiff, if_true, if_false, reduceIte, operands, cl_10, c10, hsb, unA, lenA, d1, AV.cells, takeN, beq_self_eq_true, eq_self, kA1, kA2, st_9, Tryz.underlying22, Tryz.underlying24]
      exact ⟨rfl, rfl⟩
    simp only [Ex.thn]
    apply EvX.cond2 (t := true)
    · simp only [evalA, Tr.get_set, Nat.reduceEqDiff, if_true, if_false, reduceIte]
    rotate_left
    · intro h; cases h
    intro _
    apply EvX.seq
    apply EvX.reg0
    · intro call
      simp only [QRun, stepA, wantedA, opA, pureA, loadA, effA, binA, bin, evalA, ofV, ofCell, Fr.put, setArgs, kS, Nat.zero_testBit, Nat.reduceAdd, Nat.reduceSub, Nat.reduceLeDiff, decide_true, decide_false, Nat.reduceEqDiff, if_true, if_false, reduceIte, operands]
      exact ⟨rfl, rfl⟩
    simp only [Ex.thn]
    apply EvX.ret
    simp only [Ex.thn, Ex.blk]
    exact Fin.one rfl (by simp only [Tr.get_set, if_true, reduceIte])
  have d1 := decide_eq_false b1
  apply EvX.reg 0
  · intro k _
    simp only [QRun, stepA, wantedA, opA, pureA, loadA, effA, binA, bin, evalA, ofV, ofCell, Fr.put, setArgs, kS, Nat.zero_testBit, Nat.reduceAdd, Nat.reduceSub, Nat.reduceLeDiff, decide_true, decide_false, Nat.reduceEqDiff, if_true, if_false, reduceIte, operands, cl_10, c10, hsb, unA, lenA, d1, AV.cells, takeN, beq_self_eq_true, eq_self, kA1, kA2, st_9, Tryz.underlying22, Tryz.underlying24]
    exact ⟨rfl, rfl⟩
  simp only [Ex.thn]
  apply EvX.cond2 (t := false)
  · simp only [evalA, Tr.get_set, Nat.reduceEqDiff, if_true, if_false, reduceIte]
  · intro h; cases h
  intro _
  apply EvX.skip
  simp only [Ex.thn, Ex.blk]
  apply EvX.seq
  apply EvX.reg 0
  · intro k _
    simp only [QRun, stepA, wantedA, opA, pureA, loadA, effA, binA, bin, evalA, ofV, ofCell, Fr.put, setArgs, kS, Nat.zero_testBit, Nat.reduceAdd, Nat.reduceSub, Nat.reduceLeDiff, decide_true, decide_false, Nat.reduceEqDiff, if_true, if_false, reduceIte, operands, cl_17, c17, AV.cells, takeN, beq_self_eq_true, eq_self, kA1, kA2, st_9, Tryz.underlying22, Tryz.underlying24]
    exact ⟨rfl, rfl⟩
  simp only [Ex.thn]
  apply EvX.seq
  apply EvX.reg 0
  · intro k _
    simp only [QRun, stepA, wantedA, opA, pureA, loadA, effA, binA, bin, evalA, ofV, ofCell, Fr.put, setArgs, kS, Nat.zero_testBit, Nat.reduceAdd, Nat.reduceSub, Nat.reduceLeDiff, decide_true, decide_false, Nat.reduceEqDiff, if_true, if_false, reduceIte, operands, cl_18, c18, AV.cells, takeN, beq_self_eq_true, eq_self, kA1, kA2, st_9, Tryz.underlying22, Tryz.underlying24]
    exact ⟨rfl, rfl⟩
  simp only [Ex.thn]
  apply EvX.seq
  apply EvX.seq
  have he : eqNats (textRes l).1 (textRes l).1 = true := by rw [eqN_iff]; exact decide_eq_true rfl
  have hd : ((textRes l).2 != (textRes l).2) = false := by rw [bne_eq_false_iff_eq]
  apply EvX.reg0
  · intro call
    simp only [QRun, stepA, wantedA, opA, pureA, loadA, effA, binA, bin, evalA, ofV, ofCell, Fr.put, setArgs, kS, Nat.zero_testBit, Nat.reduceAdd, Nat.reduceSub, Nat.reduceLeDiff, decide_true, decide_false, Nat.reduceEqDiff, if_true, if_false, reduceIte, operands, binS, he, hd, AV.cells, takeN, beq_self_eq_true, eq_self, kA1, kA2, st_9, Tryz.underlying22, Tryz.underlying24]
    exact ⟨rfl, rfl⟩
  simp only [Ex.thn]
  apply EvX.cond2 (t := false)
  · simp only [evalA, Tr.get_set, Nat.reduceEqDiff, if_true, if_false, reduceIte]
  · intro h; cases h
  intro _
  apply EvX.skip
  simp only [Ex.thn, Ex.blk]
  apply EvX.seq
  apply EvX.seq
  rcases textRes_err l with ⟨r1, r2, r3, r4⟩ | r1
  rotate_left
  · have d2 : ((textRes l).2 != 0) = true := by simpa using r1
    apply EvX.reg0
    · intro call
      simp only [QRun, stepA, wantedA, opA, pureA, loadA, effA, binA, bin, evalA, ofV, ofCell, Fr.put, setArgs, kS, Nat.zero_testBit, Nat.reduceAdd, Nat.reduceSub, Nat.reduceLeDiff, decide_true, decide_false, Nat.reduceEqDiff, if_true, if_false, reduceIte, operands, d2, AV.cells, takeN, beq_self_eq_true, eq_self, kA1, kA2, st_9, Tryz.underlying22, Tryz.underlying24]
      exact ⟨rfl, rfl⟩
    simp only [Ex.thn]
    apply EvX.cond2 (t := true)
    · simp only [evalA, Tr.get_set, Nat.reduceEqDiff, if_true, if_false, reduceIte]
    rotate_left
    · intro h; cases h
    intro _
    apply EvX.seq
    apply EvX.reg 0
    · intro k _
      simp only [QRun, stepA, wantedA, opA, pureA, loadA, effA, binA, bin, evalA, ofV, ofCell, Fr.put, setArgs, kS, Nat.zero_testBit, Nat.reduceAdd, Nat.reduceSub, Nat.reduceLeDiff, decide_true, decide_false, Nat.reduceEqDiff, if_true, if_false, reduceIte, operands, cl_13, c13, AV.cells, takeN, beq_self_eq_true, eq_self, kA1, kA2, st_9, Tryz.underlying22, Tryz.underlying24]
      exact ⟨rfl, rfl⟩
    simp only [Ex.thn]
    apply EvX.ret
    simp only [Ex.thn, Ex.blk]
    exact Fin.one rfl (by simp only [Tr.get_set, if_true, reduceIte])
  have d2 : ((textRes l).2 != 0) = false := by rw [r1]; rfl
  have hpt : parseP (textRes l).1 = (l, 0, 0) := by rw [r2]; exact parse_text r3 r4
  obtain ⟨xl, M1, e1, w1, k1, v1⟩ := adopt_resP WFm.empty (l, 0, 0)
  have c19 := fun k => callT (qs := []) (ps := [p10, p17, p18, p19, p20]) (p := p19) (f := 19) rfl (D := drawA (CT [] [p10, p17, p18, p19, p20])) k Mem.empty (args := [.str (textRes l).1]) (args' := [.str (textRes l).1]) rfl (spec19 (by rw [r2]; omega))
  rw [hpt, e1] at c19
  have c20 := fun k => callTp (qs := []) (ps := [p10, p17, p18, p19, p20]) (p := p20) (f := 20) rfl (D := drawA (CT [] [p10, p17, p18, p19, p20])) k M1 (args := [xl, .ro (encSums l) l.length 3]) (args' := [sumsV l, .ro (encSums l) l.length 3]) (by simp only [mapO, v1, viewSumsRow]) (spec20 (isums_sumsV ho hl) (isums_enc hl ho)) rfl
  rw [decide_eq_true rfl] at c20
  apply EvX.reg0
  · intro call
    simp only [QRun, stepA, wantedA, opA, pureA, loadA, effA, binA, bin, evalA, ofV, ofCell, Fr.put, setArgs, kS, Nat.zero_testBit, Nat.reduceAdd, Nat.reduceSub, Nat.reduceLeDiff, decide_true, decide_false, Nat.reduceEqDiff, if_true, if_false, reduceIte, operands, d2, AV.cells, takeN, beq_self_eq_true, eq_self, kA1, kA2, st_9, Tryz.underlying22, Tryz.underlying24]
    exact ⟨rfl, rfl⟩
  simp only [Ex.thn]
  apply EvX.cond2 (t := false)
  · simp only [evalA, Tr.get_set, Nat.reduceEqDiff, if_true, if_false, reduceIte]
  · intro h; cases h
  intro _
  apply EvX.skip
  simp only [Ex.thn, Ex.blk]
  apply EvX.seq
  apply EvX.reg 0
  · intro k _
    simp only [QRun, stepA, wantedA, opA, pureA, loadA, effA, binA, bin, evalA, ofV, ofCell, Fr.put, setArgs, kS, Nat.zero_testBit, Nat.reduceAdd, Nat.reduceSub, Nat.reduceLeDiff, decide_true, decide_false, Nat.reduceEqDiff, if_true, if_false, reduceIte, operands, cl_19, c19, AV.cells, takeN, beq_self_eq_true, eq_self, kA1, kA2, st_9, Tryz.underlying22, Tryz.underlying24]
    exact ⟨rfl, rfl⟩
  simp only [Ex.thn]
  apply EvX.seq
  apply EvX.reg 0
  · intro k _
    simp only [QRun, stepA, wantedA, opA, pureA, loadA, effA, binA, bin, evalA, ofV, ofCell, Fr.put, setArgs, kS, Nat.zero_testBit, Nat.reduceAdd, Nat.reduceSub, Nat.reduceLeDiff, decide_true, decide_false, Nat.reduceEqDiff, if_true, if_false, reduceIte, operands, cl_20, c20, cl_13, c13, show ((0 : Int) == 0) = true from rfl, AV.cells, takeN, beq_self_eq_true, eq_self, kA1, kA2, st_9, Tryz.underlying22, Tryz.underlying24]
    exact ⟨rfl, rfl⟩
  simp only [Ex.thn]
  apply EvX.ret
  exact Fin.one rfl (by simp only [Tr.get_set, if_true, reduceIte])
end Go.Vz
