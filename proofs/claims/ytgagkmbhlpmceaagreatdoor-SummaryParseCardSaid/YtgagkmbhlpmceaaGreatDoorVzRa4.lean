/-
  The plain law of texts that are accepted; the reference's Parse, told; SummaryParse, told.
-/
import Derived.Test.YtgagkmbhlpmceaaGreatDoorVzRa3
set_option linter.unusedVariables false
set_option linter.unusedSimpArgs false
namespace Go.Vz
open Go Go.Proofs
set_option maxHeartbeats 4000000
set_option maxRecDepth 20000
/-! ### the plain law -/
theorem dig_valD : ∀ (k : Nat) (w : List Nat), w.length = k → w ≠ [] → w.all isDig = true → (w.head? = some 48 → w = [48]) → dig (valD 0 w) = w := by
  intro k
  induction k with
  | zero => intro w h hne; exact absurd (List.length_eq_zero_iff.1 h) hne
  | succ k ih =>
    intro w hk hne hd hz
    rcases List.eq_nil_or_concat w with rfl | ⟨u, d, rfl⟩
    · exact absurd rfl hne
    rw [List.concat_eq_append] at *
    rw [List.all_append, List.all_cons, List.all_nil, Bool.and_true, Bool.and_eq_true] at hd
    obtain ⟨hu, hdd⟩ := hd
    unfold isDig at hdd
    simp only [Bool.and_eq_true, decide_eq_true_eq] at hdd
    rw [valD_snoc]
    by_cases hun : u = []
    · subst hun
      show dig (0 * 10 + (d - 48)) = [d]
      rw [Nat.zero_mul, Nat.zero_add, dig_small (by omega), show 48 + (d - 48) = d by omega]
    · have hh : (u ++ [d]).head? = u.head? := by
        cases u with
        | nil => exact absurd rfl hun
        | cons x u => rfl
      have h48 : ¬ u.head? = some 48 := fun e => by
        have := hz (by rw [hh]; exact e)
        cases u with
        | nil => exact hun rfl
        | cons x u => simp at this
      have ihu := ih u (by simpa using hk) hun hu (fun e => absurd e h48)
      have hpos : 0 < valD 0 u := by
        rcases Nat.eq_zero_or_pos (valD 0 u) with e | e
        · rw [e, dig_small (by omega)] at ihu
          exact absurd (by rw [← ihu]; rfl) h48
        · exact e
      rw [dig_big (by omega), show (valD 0 u * 10 + (d - 48)) / 10 = valD 0 u by omega, show (valD 0 u * 10 + (d - 48)) % 10 = d - 48 by omega, ihu, show 48 + (d - 48) = d by omega]
theorem numN_canon {w : List Nat} {n : Nat} (h : numN w = some n) : w = dig n := by
  unfold numN at h
  split at h
  · cases h
  · rename_i h1
    split at h
    · cases h
    · rename_i h2
      split at h
      · rename_i h3
        simp only [Option.some.injEq] at h
        subst h
        refine (dig_valD w.length w rfl (fun e => by rw [e] at h1; simp at h1) h3 (fun e => ?_)).symm
        by_cases e2 : w = [48]
        · exact e2
        · exact absurd ⟨e, e2⟩ h2
      · cases h
theorem splitN_join (c : Nat) : ∀ (s w : List Nat) (ws : List (List Nat)), splitN c s = w :: ws → s = w ++ (ws.map (c :: ·)).flatten
  | [], w, ws, h => by simp only [splitN, List.cons.injEq] at h; obtain ⟨rfl, rfl⟩ := h; rfl
  | x :: s, w, ws, h => by
    unfold splitN at h
    split at h
    · rename_i e
      simp only [List.cons.injEq] at h
      obtain ⟨rfl, rfl⟩ := h
      cases hs : splitN c s with
      | nil => exact absurd hs (splitN_ne c s)
      | cons u us =>
        rw [splitN_join c s u us hs, e]
        simp
    · cases hs : splitN c s with
      | nil => exact absurd hs (splitN_ne c s)
      | cons u us =>
        rw [hs] at h
        simp only [List.cons.injEq] at h
        obtain ⟨rfl, rfl⟩ := h
        rw [splitN_join c s u us hs]
        rfl
theorem textOf_append : ∀ (l k : List Sm), textOf (l ++ k) = textOf l ++ textOf k
  | [], k => rfl
  | s :: l, k => by rw [List.cons_append, textOf, textOf, textOf_append l k, List.append_assoc]
theorem textPairs_append (w : List Nat) : ∀ (l k : List (Int × Int)), textPairs w (l ++ k) = textPairs w l ++ textPairs w k
  | [], k => rfl
  | s :: l, k => by rw [List.cons_append, textPairs, textPairs, textPairs_append w l k, List.append_assoc]
theorem lineR_ok {l : List Sm} {a : List Nat} (h : (lineR l a).1 = 0) : sumsErr 1024 (lineR l a).2 = 0 := by
  have key : ∀ r : Int × List Sm, (r = (2, []) ∨ r = (13, []) ∨ r.1 = sumsErr 1024 r.2) → r.1 = 0 → sumsErr 1024 r.2 = 0 := fun r hr h0 => by
    rcases hr with e | e | e
    · rw [e] at h0; cases h0
    · rw [e] at h0; cases h0
    · rw [← e]; exact h0
  refine key _ ?_ h
  unfold lineR
  split
  · split
    · split
      · exact .inr (.inr rfl)
      · exact .inl rfl
    · exact .inl rfl
  · split
    · exact .inl rfl
    · split
      · unfold pushR
        split
        · exact .inl rfl
        · split
          · exact .inr (.inr rfl)
          · split
            · exact .inr (.inl rfl)
            · exact .inr (.inr rfl)
      · exact .inl rfl
  · exact .inl rfl
theorem lineR_text {l : List Sm} {a : List Nat} (h : (lineR l a).1 = 0) : textOf (lineR l a).2 = textOf l ++ (a ++ [10]) := by
  unfold lineR at h ⊢
  split
  · rename_i w b hsp
    rw [hsp] at h
    simp only at h ⊢
    split
    · rename_i hw
      rw [if_pos hw] at h
      split
      · rename_i n hn
        rw [splitN_join 32 a w [b] hsp, numN_canon hn, hw, textOf_append]
        simp [textOf, textSum, lineFunc, textPairs]
      · rename_i hn; rw [hn] at h; cases h
    · rename_i hw; rw [if_neg hw] at h; cases h
  · rename_i w b c hsp
    rw [hsp] at h
    simp only at h ⊢
    split
    · rename_i hw; rw [if_pos hw] at h; cases h
    · rename_i hw
      rw [if_neg hw] at h
      cases hn : numN b with
      | none => rw [hn] at h; cases h
      | some p =>
        cases hm : numN c with
        | none => rw [hn, hm] at h; cases h
        | some q =>
          rw [hn, hm] at h
          simp only at h ⊢
          rw [splitN_join 32 a w [b, c] hsp, numN_canon hn, numN_canon hm]
          unfold pushR at h ⊢
          rcases List.eq_nil_or_concat l with rfl | ⟨l0, s, rfl⟩
          · cases h
          rw [List.concat_eq_append, (last_snoc l0 s).1, (last_snoc l0 s).2] at h
          simp only at h
          rw [List.concat_eq_append, (last_snoc l0 s).1, (last_snoc l0 s).2]
          simp only
          split
          · rename_i ht
            rw [ht, textOf_append, textOf_append]
            simp [textOf, textSum, textPairs_append, textPairs, linePair]
          · rename_i ht
            rw [if_neg ht] at h
            split
            · rename_i h2; rw [if_pos h2] at h; cases h
            · rename_i h2
              have hth : s.th = [] := by
                by_cases e : s.th = []
                · exact e
                · exact absurd e h2
              have hwe : w = wExit := by
                by_cases e : w = wExit
                · exact e
                · exact absurd ⟨e, ht⟩ hw
              rw [hwe, textOf_append, textOf_append]
              simp [textOf, textSum, textPairs_append, textPairs, linePair, hth]
  · rename_i h1 h2
    split at h
    · rename_i e; exact absurd e (h1 _ _)
    · rename_i e; exact absurd e (h2 _ _ _)
    · cases h
theorem goP_text2 : ∀ (f : Nat) (n : Int) (l : List Sm) (s : List Nat), sumsErr 1024 l = 0 → s.length < f → sumsErr 1024 (goP f n l s).1 = 0 ∧ ((goP f n l s).2.2 = 0 → textOf (goP f n l s).1 = textOf l ++ s)
  | 0, _, _, _, _, h => absurd h (by omega)
  | f + 1, n, l, s, hl, hs => by
    unfold goP
    split
    · rename_i e
      exact ⟨hl, fun _ => by simp [e]⟩
    · split
      · exact ⟨rfl, fun e => by cases e⟩
      · rename_i a b hc
        obtain ⟨q1, q2⟩ := cutN_spec hc
        split
        · rename_i h0
          rw [← lineR_eq hl] at h0 ⊢
          have ih := goP_text2 f (n + 1) (lineR l a).2 b (lineR_ok h0) (by rw [q1] at hs; simp at hs; omega)
          refine ⟨ih.1, fun e => ?_⟩
          rw [ih.2 e, lineR_text h0, q1]
          simp
        · rename_i h0
          exact ⟨rfl, fun e => absurd e h0⟩
/-- the law -/
theorem parse_back (s : List Nat) : sumsErr 1024 (parseP s).1 = 0 ∧ ((parseP s).2.2 = 0 → textOf (parseP s).1 = s ∧ s.length ≤ 65536) := by
  unfold parseP
  split
  · exact ⟨rfl, fun e => by cases e⟩
  · rename_i h
    obtain ⟨h1, h2⟩ := goP_text2 (s.length + 1) 1 [] s rfl (Nat.lt_succ_self _)
    exact ⟨h1, fun e => ⟨by rw [h2 e]; rfl, by omega⟩⟩
theorem okSums_of {l : List Sm} (h : sumsErr 1024 l = 0) : okSums l ∧ l.length ≤ 9223372036854775807 := by
  obtain ⟨h1, h2⟩ := sumsErr_ok h
  exact ⟨fun x hx => by obtain ⟨_, _, h3, h4⟩ := h2 x hx; have := h3.1; have := h4.1; omega, by omega⟩
theorem cutN_no {c : Nat} {s : List Nat} (h : ¬ c ∈ s) : cutN c s = none := by
  cases hc : cutN c s with
  | none => rfl
  | some p =>
    obtain ⟨a, b⟩ := p
    obtain ⟨q1, _⟩ := cutN_spec hc
    exact absurd (by rw [q1]; simp) h
theorem wrap_succ1 {i : Nat} (h : i + 1 ≤ 9223372036854775807) : IntKind.i64.wrap ((i : Int) + 1) = (i : Int) + 1 := by rw [IntKind.wrap_i64]; omega
/-! ### the reference's Parse -/
def p21 : PFn := ⟨21, fun | [.str s] => bif Nat.ble s.length 9223372036854775806 then some (resP (parseP s)) else none | _ => none⟩
theorem spec21 {s : List Nat} (h : s.length ≤ 9223372036854775806) : p21.spec [.str s] = some (resP (parseP s)) := by
  show (bif Nat.ble s.length 9223372036854775806 then some (resP (parseP s)) else none) = _
  rw [Nat.ble_eq_true_of_le h]; rfl
theorem cl_21 (args : List AV) : calleeA Tryz.prog (.fn (.func 21) [] []) args = some (.enter 21 args) := by rw [callee_of Tryz.func21 (by kernel_rfl) (by kernel_rfl)]; simp
theorem p21_ok : p21.OkT := by
  refine PFn.OkT.of (qs := []) (ps := [p12n, p83, p84]) (fun q h => by cases h) (fun p h => by simp at h; rcases h with rfl | rfl | rfl; exact p12n_ok.tree; exact p83_ok; exact p84_ok.tree) (fun args y hs => ?_)
  have h' : ∃ s : List Nat, args = [.str s] ∧ s.length ≤ 9223372036854775806 ∧ y = resP (parseP s) := by
    simp only [p21] at hs
    split at hs
    · rename_i s
      cases hb : Nat.ble s.length 9223372036854775806 with
      | false => rw [hb] at hs; cases hs
      | true => rw [hb, cond_true, Option.some.injEq] at hs; exact ⟨s, rfl, Nat.le_of_ble_eq_true hb, hs.symm⟩
    · cases hs
  clear hs
  obtain ⟨s, rfl, hsl, rfl⟩ := h'
  refine EvC.runT (K := fun x m' => treeA 8 m' x = some (resP (parseP s))) (by kernel_rfl) (by rw [CT_P]; exact Tryz.func21) rfl ?_
  apply EvX.seq
  apply EvX.reg0
  · intro call
    simp only [QRun, stepA, wantedA, opA, pureA, loadA, effA, binA, bin, evalA, ofV, ofCell, Fr.put, setArgs, kS, Nat.zero_testBit, Nat.reduceAdd, Nat.reduceSub, Nat.reduceLeDiff, decide_true, decide_false, Nat.reduceEqDiff, if_true, if_false, reduceIte, operands, Tryz.ntmps21]
    exact ⟨rfl, rfl⟩
  simp only [Ex.thn]
  apply EvX.seq
  apply EvX.seq
  by_cases b1 : (s.length : Int) > 65536
  · have d1 := decide_eq_true b1
    have hv : parseP s = ([], 0, 3) := by unfold parseP; rw [if_pos (by omega)]
    apply EvX.reg0
    · intro call
      simp only [QRun, stepA, wantedA, opA, pureA, loadA, effA, binA, bin, evalA, ofV, ofCell, Fr.put, setArgs, kS, Nat.zero_testBit, Nat.reduceAdd, Nat.reduceSub, Nat.reduceLeDiff, decide_true, decide_false, Nat.reduceEqDiff, if_true, if_false, reduceIte, operands, lenS 9 st_9, natOf_0, natOf_1, AV.cells, takeN, beq_self_eq_true, eq_self, kA1, kA2, kB, Tryz.underlying3, Tryz.underlying77, Tryz.underlying22, sz_24, ag_24, Tryz.underlying24, d1]
      exact ⟨rfl, rfl⟩
    simp only [Ex.thn]
    apply EvX.cond2 (t := true)
    · simp only [evalA, Tr.get_set, Nat.reduceEqDiff, if_true, if_false, reduceIte]
    rotate_left
    · intro h; cases h
    intro _
    apply EvX.seq
    apply EvX.reg0
    · intro call
      simp only [QRun, stepA, wantedA, opA, pureA, loadA, effA, binA, bin, evalA, ofV, ofCell, Fr.put, setArgs, kS, Nat.zero_testBit, Nat.reduceAdd, Nat.reduceSub, Nat.reduceLeDiff, decide_true, decide_false, Nat.reduceEqDiff, if_true, if_false, reduceIte, operands]
      exact ⟨rfl, rfl⟩
    simp only [Ex.thn]
    apply EvX.ret
    simp only [Ex.thn, Ex.blk]
    refine Fin.threeT (K := fun x m' => treeA 8 m' x = some (resP (parseP s))) (x := .nilsl) (y := .int .i64 0) (z := .int .i64 3) (t := 2) (u := 3) (v := 4) rfl (by simp only [Tr.get_set, if_true, if_false, reduceIte, Nat.reduceEqDiff]) (by simp only [Tr.get_set, if_true, if_false, reduceIte, Nat.reduceEqDiff]) (by simp only [Tr.get_set, if_true, if_false, reduceIte, Nat.reduceEqDiff]) ?_
    rw [hv]
    exact resP_tree (m := Mem.empty) (r := ([], 0, 3)) rfl
  have d1 := decide_eq_false b1
  have hs6 : s.length ≤ 65536 := by omega
  have hv0 : parseP s = goP (s.length + 1) 1 [] s := by unfold parseP; rw [if_neg (by omega)]
  apply EvX.reg0
  · intro call
    simp only [QRun, stepA, wantedA, opA, pureA, loadA, effA, binA, bin, evalA, ofV, ofCell, Fr.put, setArgs, kS, Nat.zero_testBit, Nat.reduceAdd, Nat.reduceSub, Nat.reduceLeDiff, decide_true, decide_false, Nat.reduceEqDiff, if_true, if_false, reduceIte, operands, lenS 9 st_9, natOf_0, natOf_1, AV.cells, takeN, beq_self_eq_true, eq_self, kA1, kA2, kB, Tryz.underlying3, Tryz.underlying77, Tryz.underlying22, sz_24, ag_24, Tryz.underlying24, d1]
    exact ⟨rfl, rfl⟩
  simp only [Ex.thn]
  apply EvX.cond2 (t := false)
  · simp only [evalA, Tr.get_set, Nat.reduceEqDiff, if_true, if_false, reduceIte]
  · intro h; cases h
  intro _
  apply EvX.skip
  simp only [Ex.thn, Ex.blk]
  apply EvX.seq
  apply EvX.reg0
  · intro call
    simp only [QRun, stepA, wantedA, opA, pureA, loadA, effA, binA, bin, evalA, ofV, ofCell, Fr.put, setArgs, kS, Nat.zero_testBit, Nat.reduceAdd, Nat.reduceSub, Nat.reduceLeDiff, decide_true, decide_false, Nat.reduceEqDiff, if_true, if_false, reduceIte, operands]
    exact ⟨rfl, rfl⟩
  simp only [Ex.thn]
  apply EvX.seq
  apply EvX.reg0
  · intro call
    simp only [QRun, stepA, wantedA, opA, pureA, loadA, effA, binA, bin, evalA, ofV, ofCell, Fr.put, setArgs, kS, Nat.zero_testBit, Nat.reduceAdd, Nat.reduceSub, Nat.reduceLeDiff, decide_true, decide_false, Nat.reduceEqDiff, if_true, if_false, reduceIte, operands]
    exact ⟨rfl, rfl⟩
  simp only [Ex.thn]
  apply EvX.seq
  apply EvX.reg0
  · intro call
    simp only [QRun, stepA, wantedA, opA, pureA, loadA, effA, binA, bin, evalA, ofV, ofCell, Fr.put, setArgs, kS, Nat.zero_testBit, Nat.reduceAdd, Nat.reduceSub, Nat.reduceLeDiff, decide_true, decide_false, Nat.reduceEqDiff, if_true, if_false, reduceIte, operands]
    exact ⟨rfl, rfl⟩
  simp only [Ex.thn]
  apply EvX.seq
  apply EvX.seq
  apply EvX.reg0
  · intro call
    simp only [QRun, stepA, wantedA, opA, pureA, loadA, effA, binA, bin, evalA, ofV, ofCell, Fr.put, setArgs, kS, Nat.zero_testBit, Nat.reduceAdd, Nat.reduceSub, Nat.reduceLeDiff, decide_true, decide_false, Nat.reduceEqDiff, if_true, if_false, reduceIte, operands]
    exact ⟨rfl, rfl⟩
  simp only [Ex.thn]
  apply EvX.block
  refine EvX.loop (fun k fr m => ∃ (i a f n : Nat) (l : List Sm) (y : AV) (cs : List Nat), k = s.length - i ∧ i ≤ s.length ∧ a ≤ i ∧ s.length - a < f ∧ n ≤ i ∧ fr.n = 49 ∧ fr.t.get 0 = some (.str s) ∧ fr.t.get 5 = some y ∧ fr.t.get 6 = some (.int .i64 (a : Int)) ∧ fr.t.get 7 = some (.int .i64 (n : Int)) ∧ fr.t.get 8 = some (.int .i64 (i : Int)) ∧
    WFm m ∧ SumC m y l cs ∧ sumsErr 1024 l = 0 ∧ ¬ 10 ∈ (s.take i).drop a ∧ goP f ((n : Int) + 1) l (s.drop a) = parseP s) ?_ s.length _ _
    ⟨0, 0, s.length + 1, 0, [], .nilsl, [], by simp, by simp, by simp, by omega, by simp, rfl, by simp [Tr.get_set], by simp [Tr.get_set], by simp [Tr.get_set], by simp [Tr.get_set], by simp [Tr.get_set], WFm.empty, SumC.nil _, rfl, by simp, by rw [hv0, List.drop_zero]; rfl⟩
  rintro k fr m ⟨i, a, f, n, l, y, cs, rfl, hil, hai, hf, hni, hfn, h0, h5, h6, h7, h8, hw, hsum, hl, hno, hgo⟩
  obtain ⟨f', rfl⟩ : ∃ f', f = f' + 1 := ⟨f - 1, by omega⟩
  apply EvX.seq
  apply EvX.seq
  apply EvX.reg0
  · intro call
    simp only [QRun, stepA, wantedA, opA, pureA, loadA, effA, binA, bin, evalA, ofV, ofCell, Fr.put, setArgs, kS, Nat.zero_testBit, Nat.reduceAdd, Nat.reduceSub, Nat.reduceLeDiff, decide_true, decide_false, Nat.reduceEqDiff, if_true, if_false, reduceIte, operands, hfn, h0, h8, lenS 9 st_9, natOf_0, natOf_1, AV.cells, takeN, beq_self_eq_true, eq_self, kA1, kA2, kB, Tryz.underlying3, Tryz.underlying77, Tryz.underlying22, sz_24, ag_24, Tryz.underlying24]
    exact ⟨rfl, rfl⟩
  simp only [Ex.thn]
  apply EvX.cond2
  · simp only [evalA, Tr.get_set, Nat.reduceEqDiff, if_true, if_false, reduceIte]; exact rfl
  rotate_left
  · intro hge
    have hge := of_decide_eq_false hge
    have hi : i = s.length := by omega
    subst hi
    rw [List.take_length] at hno
    apply EvX.exit
    simp only [Ex.thn, Ex.blk, beq_dec, decide_true, cond_true]
    apply EvX.seq
    apply EvX.seq
    by_cases c1 : (a : Int) < (s.length : Int)
    · have e1 := decide_eq_true c1
      have hv : parseP s = ([], (n : Int) + 1, 21) := by
        rw [← hgo]
        unfold goP
        rw [if_neg (by rw [List.drop_eq_nil_iff]; omega), cutN_no hno]
      apply EvX.reg0
      · intro call
        simp only [QRun, stepA, wantedA, opA, pureA, loadA, effA, binA, bin, evalA, ofV, ofCell, Fr.put, setArgs, kS, Nat.zero_testBit, Nat.reduceAdd, Nat.reduceSub, Nat.reduceLeDiff, decide_true, decide_false, Nat.reduceEqDiff, if_true, if_false, reduceIte, operands, hfn, h0, h6, e1, lenS 9 st_9, natOf_0, natOf_1, AV.cells, takeN, beq_self_eq_true, eq_self, kA1, kA2, kB, Tryz.underlying3, Tryz.underlying77, Tryz.underlying22, sz_24, ag_24, Tryz.underlying24]
        exact ⟨rfl, rfl⟩
      simp only [Ex.thn]
      apply EvX.cond2 (t := true)
      · simp only [evalA, Tr.get_set, Nat.reduceEqDiff, if_true, if_false, reduceIte]
      rotate_left
      · intro h; cases h
      intro _
      apply EvX.seq
      apply EvX.reg0
      · intro call
        simp only [QRun, stepA, wantedA, opA, pureA, loadA, effA, binA, bin, evalA, ofV, ofCell, Fr.put, setArgs, kS, Nat.zero_testBit, Nat.reduceAdd, Nat.reduceSub, Nat.reduceLeDiff, decide_true, decide_false, Nat.reduceEqDiff, if_true, if_false, reduceIte, operands, hfn, h7, wrap_succ1 (show n + 1 ≤ 9223372036854775807 by omega)]
        exact ⟨rfl, rfl⟩
      simp only [Ex.thn]
      apply EvX.ret
      simp only [Ex.thn, Ex.blk]
      refine Fin.threeT (K := fun x m' => treeA 8 m' x = some (resP (parseP s))) (x := .nilsl) (y := .int .i64 ((n : Int) + 1)) (z := .int .i64 21) (t := 2) (u := 3) (v := 4) rfl (by simp only [Tr.get_set, if_true, if_false, reduceIte, Nat.reduceEqDiff]) (by simp only [Tr.get_set, if_true, if_false, reduceIte, Nat.reduceEqDiff]) (by simp only [Tr.get_set, if_true, if_false, reduceIte, Nat.reduceEqDiff]) ?_
      rw [hv]
      exact resP_tree (m := m) (r := ([], ((n : Int) + 1), 21)) rfl
    have e1 := decide_eq_false c1
    have hv : parseP s = (l, 0, 0) := by
      rw [← hgo]
      unfold goP
      rw [if_pos (by rw [List.drop_eq_nil_iff]; omega)]
    apply EvX.reg0
    · intro call
      simp only [QRun, stepA, wantedA, opA, pureA, loadA, effA, binA, bin, evalA, ofV, ofCell, Fr.put, setArgs, kS, Nat.zero_testBit, Nat.reduceAdd, Nat.reduceSub, Nat.reduceLeDiff, decide_true, decide_false, Nat.reduceEqDiff, if_true, if_false, reduceIte, operands, hfn, h0, h6, e1, lenS 9 st_9, natOf_0, natOf_1, AV.cells, takeN, beq_self_eq_true, eq_self, kA1, kA2, kB, Tryz.underlying3, Tryz.underlying77, Tryz.underlying22, sz_24, ag_24, Tryz.underlying24]
      exact ⟨rfl, rfl⟩
    simp only [Ex.thn]
    apply EvX.cond2 (t := false)
    · simp only [evalA, Tr.get_set, Nat.reduceEqDiff, if_true, if_false, reduceIte]
    · intro h; cases h
    intro _
    apply EvX.skip
    simp only [Ex.thn, Ex.blk]
    apply EvX.seq
    apply EvX.reg0
    · intro call
      simp only [QRun, stepA, wantedA, opA, pureA, loadA, effA, binA, bin, evalA, ofV, ofCell, Fr.put, setArgs, kS, Nat.zero_testBit, Nat.reduceAdd, Nat.reduceSub, Nat.reduceLeDiff, decide_true, decide_false, Nat.reduceEqDiff, if_true, if_false, reduceIte, operands, hfn, h5]
      exact ⟨rfl, rfl⟩
    simp only [Ex.thn]
    apply EvX.ret
    refine Fin.threeT (K := fun x m' => treeA 8 m' x = some (resP (parseP s))) (x := y) (y := .int .i64 0) (z := .int .i64 0) (t := 2) (u := 3) (v := 4) rfl (by simp only [Tr.get_set, if_true, if_false, reduceIte, Nat.reduceEqDiff]) (by simp only [Tr.get_set, if_true, if_false, reduceIte, Nat.reduceEqDiff]) (by simp only [Tr.get_set, if_true, if_false, reduceIte, Nat.reduceEqDiff]) ?_
    rw [hv]
    exact resP_tree (m := m) (r := (l, 0, 0)) (hsum.tree 4)
  intro hlt
  have hlt := of_decide_eq_true hlt
  have hlt : i < s.length := by omega
  have hlt' : i + 1 ≤ s.length := hlt
  have hgi : s[i]? = some s[i] := List.getElem?_eq_getElem hlt
  have hmid := drop_mid hai hlt
  have htk := take_mid hai hlt
  generalize hx : s[i] = x at hgi hmid htk
  apply EvX.skip
  simp only [Ex.thn]
  apply EvX.seq
  apply EvX.block
  apply EvX.seq
  apply EvX.seq
  by_cases c1 : x = 10
  rotate_left
  · have e1 : (((x : Nat) : Int) != 10) = true := by rw [bne_iff_ne]; omega
    apply EvX.reg0
    · intro call
      simp only [QRun, stepA, wantedA, opA, pureA, loadA, effA, binA, bin, evalA, ofV, ofCell, Fr.put, setArgs, kS, Nat.zero_testBit, Nat.reduceAdd, Nat.reduceSub, Nat.reduceLeDiff, decide_true, decide_false, Nat.reduceEqDiff, if_true, if_false, reduceIte, operands, hfn, h0, h5, h6, h7, h8, natOf?, natOf_cast, hgi, e1, AV.cells, takeN, beq_self_eq_true, eq_self, kA1, kA2, kB, Tryz.underlying3, Tryz.underlying77, Tryz.underlying22, sz_24, ag_24, Tryz.underlying24]
      exact ⟨rfl, rfl⟩
    simp only [Ex.thn]
    apply EvX.cond2 (t := true)
    · simp only [evalA, Tr.get_set, Nat.reduceEqDiff, if_true, if_false, reduceIte]
    rotate_left
    · intro h; cases h
    intro _
    apply EvX.exit
    simp only [Ex.thn, Ex.blk, beq_dec, decide_true, cond_true]
    apply EvX.reg0
    · intro call
      simp only [QRun, stepA, wantedA, opA, pureA, loadA, effA, binA, bin, evalA, ofV, ofCell, Fr.put, setArgs, kS, Nat.zero_testBit, Nat.reduceAdd, Nat.reduceSub, Nat.reduceLeDiff, decide_true, decide_false, Nat.reduceEqDiff, if_true, if_false, reduceIte, operands, hfn, h0, h5, h6, h7, h8, natOf?, natOf_cast, hgi, wrap_succ (show i + 1 ≤ 9223372036854775807 by omega)]
      exact ⟨rfl, rfl⟩
    simp only [Ex.thn]
    refine ⟨s.length - (i + 1), by omega, i + 1, a, f' + 1, n, l, y, cs, rfl, hlt', by omega, hf, by omega, trivial, ?_, ?_, ?_, ?_, ?_, hw, hsum, hl, ?_, hgo⟩
    · simp [Tr.get_set, h0]
    · simp [Tr.get_set, h5]
    · simp [Tr.get_set, h6]
    · simp [Tr.get_set, h7]
    · simp [Tr.get_set]
    · rw [htk]
      simp only [List.mem_append, List.mem_singleton]
      rintro (h | h)
      · exact hno h
      · exact c1 h.symm
  have e1 : (((x : Nat) : Int) != 10) = false := by rw [bne_eq_false_iff_eq]; omega
  rw [c1] at hmid
  obtain ⟨hl1, hl2⟩ := sumsErr_ok hl
  obtain ⟨xr, M1, ⟨w1, y', cs', hxr, hsum'⟩, N, hN⟩ := lineRunR (qs := []) (ps := [p12n, p83, p84]) (by kernel_rfl) (by kernel_rfl) (by kernel_rfl) rfl rfl rfl hw hsum (s := (s.take i).drop a) (by rw [List.length_drop, List.length_take]; omega) (by omega) (fun z hz => by obtain ⟨_, _, h3, h4⟩ := hl2 z hz; have := h3.1; have := h4.1; omega)
  subst hxr
  rw [hmid] at hgo
  unfold goP at hgo
  rw [if_neg (by simp), cutN_line 10 _ _ hno] at hgo
  simp only at hgo
  rw [← lineR_eq hl] at hgo
  have hile : i ≤ s.length := Nat.le_of_lt hlt
  have hr := lineR_ok (l := l) (a := (s.take i).drop a)
  generalize hR : lineR l ((s.take i).drop a) = r at hgo hN hsum' hr
  apply EvX.reg0
  · intro call
    simp only [QRun, stepA, wantedA, opA, pureA, loadA, effA, binA, bin, evalA, ofV, ofCell, Fr.put, setArgs, kS, Nat.zero_testBit, Nat.reduceAdd, Nat.reduceSub, Nat.reduceLeDiff, decide_true, decide_false, Nat.reduceEqDiff, if_true, if_false, reduceIte, operands, hfn, h0, h5, h6, h7, h8, natOf?, natOf_cast, hgi, e1, AV.cells, takeN, beq_self_eq_true, eq_self, kA1, kA2, kB, Tryz.underlying3, Tryz.underlying77, Tryz.underlying22, sz_24, ag_24, Tryz.underlying24]
    exact ⟨rfl, rfl⟩
  simp only [Ex.thn]
  apply EvX.cond2 (t := false)
  · simp only [evalA, Tr.get_set, Nat.reduceEqDiff, if_true, if_false, reduceIte]
  · intro h; cases h
  intro _
  apply EvX.skip
  simp only [Ex.thn, Ex.blk]
  apply EvX.seq
  apply EvX.reg0
  · intro call
    simp only [QRun, stepA, wantedA, opA, pureA, loadA, effA, binA, bin, evalA, ofV, ofCell, Fr.put, setArgs, kS, Nat.zero_testBit, Nat.reduceAdd, Nat.reduceSub, Nat.reduceLeDiff, decide_true, decide_false, Nat.reduceEqDiff, if_true, if_false, reduceIte, operands, hfn, h0, h5, h6, h7, h8, natOf?, natOf_cast, hgi, wrap_succ (show n + 1 ≤ 9223372036854775807 by omega)]
    exact ⟨rfl, rfl⟩
  simp only [Ex.thn]
  apply EvX.seq
  apply EvX.reg N
  · intro k hk
    have hN' := hN k hk
    simp only [QRun, stepA, wantedA, opA, pureA, loadA, effA, binA, bin, evalA, ofV, ofCell, Fr.put, setArgs, kS, Nat.zero_testBit, Nat.reduceAdd, Nat.reduceSub, Nat.reduceLeDiff, decide_true, decide_false, Nat.reduceEqDiff, if_true, if_false, reduceIte, operands, hfn, h0, h5, h6, h7, h8, natOf?, natOf_cast, hgi, sliceA, bounds, hai, hile, cl_47, hN', AV.cells, takeN, beq_self_eq_true, eq_self, kA1, kA2, kB, Tryz.underlying3, Tryz.underlying77, Tryz.underlying22, sz_24, ag_24, Tryz.underlying24]
    exact ⟨rfl, rfl⟩
  simp only [Ex.thn]
  apply EvX.seq
  apply EvX.seq
  by_cases b2 : r.1 = 0
  rotate_left
  · have d2 : (r.1 != 0) = true := by simpa using b2
    have hv : parseP s = ([], ((n + 1 : Nat) : Int), r.1) := by
      rw [← hgo, if_neg b2]; rfl
    apply EvX.reg0
    · intro call
      simp only [QRun, stepA, wantedA, opA, pureA, loadA, effA, binA, bin, evalA, ofV, ofCell, Fr.put, setArgs, kS, Nat.zero_testBit, Nat.reduceAdd, Nat.reduceSub, Nat.reduceLeDiff, decide_true, decide_false, Nat.reduceEqDiff, if_true, if_false, reduceIte, operands, hfn, d2, AV.cells, takeN, beq_self_eq_true, eq_self, kA1, kA2, kB, Tryz.underlying3, Tryz.underlying77, Tryz.underlying22, sz_24, ag_24, Tryz.underlying24]
      exact ⟨rfl, rfl⟩
    simp only [Ex.thn]
    apply EvX.cond2 (t := true)
    · simp only [evalA, Tr.get_set, Nat.reduceEqDiff, if_true, if_false, reduceIte]
    rotate_left
    · intro h; cases h
    intro _
    apply EvX.seq
    apply EvX.reg0
    · intro call
      simp only [QRun, stepA, wantedA, opA, pureA, loadA, effA, binA, bin, evalA, ofV, ofCell, Fr.put, setArgs, kS, Nat.zero_testBit, Nat.reduceAdd, Nat.reduceSub, Nat.reduceLeDiff, decide_true, decide_false, Nat.reduceEqDiff, if_true, if_false, reduceIte, operands, hfn, h7]
      exact ⟨rfl, rfl⟩
    simp only [Ex.thn]
    apply EvX.ret
    simp only [Ex.thn, Ex.blk]
    refine Fin.threeT (K := fun x m' => treeA 8 m' x = some (resP (parseP s))) (x := .nilsl) (y := .int .i64 ((n + 1 : Nat) : Int)) (z := .int .i64 r.1) (t := 2) (u := 3) (v := 4) rfl (by simp only [Tr.get_set, if_true, if_false, reduceIte, Nat.reduceEqDiff]) (by simp only [Tr.get_set, if_true, if_false, reduceIte, Nat.reduceEqDiff]) (by simp only [Tr.get_set, if_true, if_false, reduceIte, Nat.reduceEqDiff]) ?_
    rw [hv]
    exact resP_tree (m := M1) (r := ([], ((n + 1 : Nat) : Int), r.1)) rfl
  have d2 : (r.1 != 0) = false := by simpa using b2
  rw [if_pos b2] at hgo
  apply EvX.reg0
  · intro call
    simp only [QRun, stepA, wantedA, opA, pureA, loadA, effA, binA, bin, evalA, ofV, ofCell, Fr.put, setArgs, kS, Nat.zero_testBit, Nat.reduceAdd, Nat.reduceSub, Nat.reduceLeDiff, decide_true, decide_false, Nat.reduceEqDiff, if_true, if_false, reduceIte, operands, hfn, d2, AV.cells, takeN, beq_self_eq_true, eq_self, kA1, kA2, kB, Tryz.underlying3, Tryz.underlying77, Tryz.underlying22, sz_24, ag_24, Tryz.underlying24]
    exact ⟨rfl, rfl⟩
  simp only [Ex.thn]
  apply EvX.cond2 (t := false)
  · simp only [evalA, Tr.get_set, Nat.reduceEqDiff, if_true, if_false, reduceIte]
  · intro h; cases h
  intro _
  apply EvX.skip
  simp only [Ex.thn, Ex.blk]
  apply EvX.seq
  apply EvX.reg0
  · intro call
    simp only [QRun, stepA, wantedA, opA, pureA, loadA, effA, binA, bin, evalA, ofV, ofCell, Fr.put, setArgs, kS, Nat.zero_testBit, Nat.reduceAdd, Nat.reduceSub, Nat.reduceLeDiff, decide_true, decide_false, Nat.reduceEqDiff, if_true, if_false, reduceIte, operands, hfn]
    exact ⟨rfl, rfl⟩
  simp only [Ex.thn]
  apply EvX.reg0
  · intro call
    simp only [QRun, stepA, wantedA, opA, pureA, loadA, effA, binA, bin, evalA, ofV, ofCell, Fr.put, setArgs, kS, Nat.zero_testBit, Nat.reduceAdd, Nat.reduceSub, Nat.reduceLeDiff, decide_true, decide_false, Nat.reduceEqDiff, if_true, if_false, reduceIte, operands, hfn, h0, h5, h6, h7, h8, natOf?, natOf_cast, hgi, wrap_succ (show i + 1 ≤ 9223372036854775807 by omega)]
    exact ⟨rfl, rfl⟩
  simp only [Ex.thn, Ex.blk]
  apply EvX.reg0
  · intro call
    simp only [QRun, stepA, wantedA, opA, pureA, loadA, effA, binA, bin, evalA, ofV, ofCell, Fr.put, setArgs, kS, Nat.zero_testBit, Nat.reduceAdd, Nat.reduceSub, Nat.reduceLeDiff, decide_true, decide_false, Nat.reduceEqDiff, if_true, if_false, reduceIte, operands, hfn, h0, h5, h6, h7, h8, natOf?, natOf_cast, hgi, wrap_succ (show i + 1 ≤ 9223372036854775807 by omega)]
    exact ⟨rfl, rfl⟩
  simp only [Ex.thn]
  refine ⟨s.length - (i + 1), by omega, i + 1, i + 1, f', n + 1, r.2, y', cs', rfl, hlt', Nat.le_refl _, by omega, by omega, trivial, ?_, ?_, ?_, ?_, ?_, w1, hsum' b2, hr b2, ?_, ?_⟩
  · simp [Tr.get_set, h0]
  · simp [Tr.get_set]
  · simp [Tr.get_set]
  · simp [Tr.get_set]
  · simp [Tr.get_set]
  · rw [List.drop_eq_nil_of_le (by rw [List.length_take]; omega)]; simp
  · rw [← hgo]; rfl
/-! ### the law -/
def p6 : PFn := ⟨6, fun | [.str _] => some (.bool true) | _ => none⟩
theorem p6_ok : p6.Ok := by
  refine PFn.Ok.ofT (qs := []) (ps := [p17n, p19, p20, p21]) (fun q h => by cases h) (fun p h => by simp at h; rcases h with rfl | rfl | rfl | rfl; exact p17n_ok.tree; exact p19_ok; exact p20_ok.tree; exact p21_ok) (fun args u hs => ?_)
  simp only [p6] at hs
  split at hs
  rotate_left
  · cases hs
  rename_i s
  simp only [Option.some.injEq] at hs
  subst hs
  refine ⟨rfl, EvC.run (by kernel_rfl) (by rw [CT_P]; exact Tryz.func6) rfl ?_⟩
  have c13 := fun k m => callT13 (qs := []) (ps := [p17n, p19, p20, p21]) rfl rfl (D := drawA (CT [] [p17n, p19, p20, p21])) k m
  apply EvX.seq
  apply EvX.reg0
  · intro call
    simp only [QRun, stepA, wantedA, opA, pureA, loadA, effA, binA, bin, evalA, ofV, ofCell, Fr.put, setArgs, kS, Nat.zero_testBit, Nat.reduceAdd, Nat.reduceSub, Nat.reduceLeDiff, decide_true, decide_false, Nat.reduceEqDiff, if_true, if_false, reduceIte, operands, Tryz.ntmps6]
    exact ⟨rfl, rfl⟩
  simp only [Ex.thn]
  apply EvX.seq
  apply EvX.seq
  by_cases b1 : (s.length : Int) > 1500
  · have d1 := decide_eq_true b1
    apply EvX.reg0
    · intro call
      simp only [QRun, stepA, wantedA, opA, pureA, loadA, effA, binA, bin, evalA, ofV, ofCell, Fr.put, setArgs, kS, Nat.zero_testBit, Nat.reduceAdd, Nat.reduceSub, Nat.reduceLeDiff, decide_true, decide_false, Nat.reduceEqDiff, if_true, if_false, reduceIte, operands, lenS 9 st_9, natOf_0, natOf_1, AV.cells, takeN, beq_self_eq_true, eq_self, kA1, kA2, kB, Tryz.underlying3, Tryz.underlying77, Tryz.underlying22, sz_24, ag_24, Tryz.underlying24, d1]
      exact ⟨rfl, rfl⟩
    simp only [Ex.thn]
    apply EvX.cond2 (t := true)
    · simp only [evalA, Tr.get_set, Nat.reduceEqDiff, if_true, if_false, reduceIte]
    rotate_left
    · intro h; cases h
    intro _
    apply EvX.seq
    apply EvX.reg0
    · intro call
      simp only [QRun, stepA, wantedA, opA, pureA, loadA, effA, binA, bin, evalA, ofV, ofCell, Fr.put, setArgs, kS, Nat.zero_testBit, Nat.reduceAdd, Nat.reduceSub, Nat.reduceLeDiff, decide_true, decide_false, Nat.reduceEqDiff, if_true, if_false, reduceIte, operands]
      exact ⟨rfl, rfl⟩
    simp only [Ex.thn]
    apply EvX.ret
    simp only [Ex.thn, Ex.blk]
    exact Fin.one rfl (by simp only [Tr.get_set, if_true, if_false, reduceIte, Nat.reduceEqDiff])
  have d1 := decide_eq_false b1
  obtain ⟨v1, v2⟩ := parse_back s
  obtain ⟨ho, hl⟩ := okSums_of v1
  obtain ⟨xa, M1, e1, w1, k1, va⟩ := adopt_resP WFm.empty (parseP s)
  obtain ⟨xb, M2, e2, w2, k2, vb⟩ := adopt_resP w1 (parseP s)
  have va2 := w1.view k2 _ _ _ va
  have c19 := fun k => callT (qs := []) (ps := [p17n, p19, p20, p21]) (p := p19) (f := 19) rfl (D := drawA (CT [] [p17n, p19, p20, p21])) k Mem.empty (args := [.str s]) (args' := [.str s]) rfl (spec19 (by omega))
  have c21 := fun k => callT (qs := []) (ps := [p17n, p19, p20, p21]) (p := p21) (f := 21) rfl (D := drawA (CT [] [p17n, p19, p20, p21])) k M1 (args := [.str s]) (args' := [.str s]) rfl (spec21 (by omega))
  rw [e1] at c19
  rw [e2] at c21
  have c20 := fun k => callTp (qs := []) (ps := [p17n, p19, p20, p21]) (p := p20) (f := 20) rfl (D := drawA (CT [] [p17n, p19, p20, p21])) k M2 (args := [xa, xb]) (args' := [sumsV (parseP s).1, sumsV (parseP s).1]) (by simp only [mapO, va2, vb]) (spec20 (isums_sumsV ho hl) (isums_sumsV ho hl)) rfl
  rw [decide_eq_true rfl] at c20
  have c17 := fun k => callTp (qs := []) (ps := [p17n, p19, p20, p21]) (p := p17n) (f := 17) rfl (D := drawA (CT [] [p17n, p19, p20, p21])) k M2 (args := [xa]) (args' := [sumsV (parseP s).1]) (x := .tup [.str (textRes (parseP s).1).1, .int .i64 (textRes (parseP s).1).2]) (by simp only [mapO, va2]) (by
    show (isums (sumsV (parseP s).1)).map (fun l => AV.tup [.str (textRes l).1, .int .i64 (textRes l).2]) = _
    rw [isums_sumsV ho hl]; rfl) rfl
  generalize hR : parseP s = r at *
  have n1 : (r.2.2 != r.2.2) = false := by rw [bne_eq_false_iff_eq]
  have n2 : (r.2.1 != r.2.1) = false := by rw [bne_eq_false_iff_eq]
  apply EvX.reg0
  · intro call
    simp only [QRun, stepA, wantedA, opA, pureA, loadA, effA, binA, bin, evalA, ofV, ofCell, Fr.put, setArgs, kS, Nat.zero_testBit, Nat.reduceAdd, Nat.reduceSub, Nat.reduceLeDiff, decide_true, decide_false, Nat.reduceEqDiff, if_true, if_false, reduceIte, operands, lenS 9 st_9, natOf_0, natOf_1, AV.cells, takeN, beq_self_eq_true, eq_self, kA1, kA2, kB, Tryz.underlying3, Tryz.underlying77, Tryz.underlying22, sz_24, ag_24, Tryz.underlying24, d1]
    exact ⟨rfl, rfl⟩
  simp only [Ex.thn]
  apply EvX.cond2 (t := false)
  · simp only [evalA, Tr.get_set, Nat.reduceEqDiff, if_true, if_false, reduceIte]
  · intro h; cases h
  intro _
  apply EvX.skip
  simp only [Ex.thn, Ex.blk]
  apply EvX.seq
  apply EvX.reg 0
  · intro k _
    simp only [QRun, stepA, wantedA, opA, pureA, loadA, effA, binA, bin, evalA, ofV, ofCell, Fr.put, setArgs, kS, Nat.zero_testBit, Nat.reduceAdd, Nat.reduceSub, Nat.reduceLeDiff, decide_true, decide_false, Nat.reduceEqDiff, if_true, if_false, reduceIte, operands, cl_19, c19, AV.cells, takeN, beq_self_eq_true, eq_self, kA1, kA2, kB, Tryz.underlying3, Tryz.underlying77, Tryz.underlying22, sz_24, ag_24, Tryz.underlying24]
    exact ⟨rfl, rfl⟩
  simp only [Ex.thn]
  apply EvX.seq
  apply EvX.reg 0
  · intro k _
    simp only [QRun, stepA, wantedA, opA, pureA, loadA, effA, binA, bin, evalA, ofV, ofCell, Fr.put, setArgs, kS, Nat.zero_testBit, Nat.reduceAdd, Nat.reduceSub, Nat.reduceLeDiff, decide_true, decide_false, Nat.reduceEqDiff, if_true, if_false, reduceIte, operands, cl_21, c21, AV.cells, takeN, beq_self_eq_true, eq_self, kA1, kA2, kB, Tryz.underlying3, Tryz.underlying77, Tryz.underlying22, sz_24, ag_24, Tryz.underlying24]
    exact ⟨rfl, rfl⟩
  simp only [Ex.thn]
  apply EvX.seq
  apply EvX.seq
  apply EvX.reg 0
  · intro k _
    simp only [QRun, stepA, wantedA, opA, pureA, loadA, effA, binA, bin, evalA, ofV, ofCell, Fr.put, setArgs, kS, Nat.zero_testBit, Nat.reduceAdd, Nat.reduceSub, Nat.reduceLeDiff, decide_true, decide_false, Nat.reduceEqDiff, if_true, if_false, reduceIte, operands, cl_20, c20, n1, n2, unA, AV.cells, takeN, beq_self_eq_true, eq_self, kA1, kA2, kB, Tryz.underlying3, Tryz.underlying77, Tryz.underlying22, sz_24, ag_24, Tryz.underlying24]
    exact ⟨rfl, rfl⟩
  simp only [Ex.thn]
  apply EvX.cond2 (t := false)
  · simp only [evalA, Tr.get_set, Nat.reduceEqDiff, if_true, if_false, reduceIte]
  · intro h; cases h
  intro _
  apply EvX.skip
  simp only [Ex.thn, Ex.blk]
  apply EvX.seq
  apply EvX.seq
  by_cases b2 : r.2.2 = 0
  rotate_left
  · have d2 : (r.2.2 != 0) = true := by simpa using b2
    apply EvX.reg0
    · intro call
      simp only [QRun, stepA, wantedA, opA, pureA, loadA, effA, binA, bin, evalA, ofV, ofCell, Fr.put, setArgs, kS, Nat.zero_testBit, Nat.reduceAdd, Nat.reduceSub, Nat.reduceLeDiff, decide_true, decide_false, Nat.reduceEqDiff, if_true, if_false, reduceIte, operands, d2, AV.cells, takeN, beq_self_eq_true, eq_self, kA1, kA2, kB, Tryz.underlying3, Tryz.underlying77, Tryz.underlying22, sz_24, ag_24, Tryz.underlying24]
      exact ⟨rfl, rfl⟩
    simp only [Ex.thn]
    apply EvX.cond2 (t := true)
    · simp only [evalA, Tr.get_set, Nat.reduceEqDiff, if_true, if_false, reduceIte]
    rotate_left
    · intro h; cases h
    intro _
    apply EvX.seq
    apply EvX.reg 0
    · intro k _
      simp only [QRun, stepA, wantedA, opA, pureA, loadA, effA, binA, bin, evalA, ofV, ofCell, Fr.put, setArgs, kS, Nat.zero_testBit, Nat.reduceAdd, Nat.reduceSub, Nat.reduceLeDiff, decide_true, decide_false, Nat.reduceEqDiff, if_true, if_false, reduceIte, operands, cl_13, c13, AV.cells, takeN, beq_self_eq_true, eq_self, kA1, kA2, kB, Tryz.underlying3, Tryz.underlying77, Tryz.underlying22, sz_24, ag_24, Tryz.underlying24]
      exact ⟨rfl, rfl⟩
    simp only [Ex.thn]
    apply EvX.ret
    simp only [Ex.thn, Ex.blk]
    exact Fin.one rfl (by simp only [Tr.get_set, if_true, if_false, reduceIte, Nat.reduceEqDiff])
  have d2 : (r.2.2 != 0) = false := by simpa using b2
  obtain ⟨q1, q2⟩ := v2 b2
  have ht : textRes r.1 = (s, 0) := by
    unfold textRes
    rw [v1, if_neg (by simp), q1, if_neg (by omega)]
  rw [ht] at c17
  have he : eqNats s s = true := by rw [eqN_iff]; exact decide_eq_true rfl
  apply EvX.reg0
  · intro call
    simp only [QRun, stepA, wantedA, opA, pureA, loadA, effA, binA, bin, evalA, ofV, ofCell, Fr.put, setArgs, kS, Nat.zero_testBit, Nat.reduceAdd, Nat.reduceSub, Nat.reduceLeDiff, decide_true, decide_false, Nat.reduceEqDiff, if_true, if_false, reduceIte, operands, d2, AV.cells, takeN, beq_self_eq_true, eq_self, kA1, kA2, kB, Tryz.underlying3, Tryz.underlying77, Tryz.underlying22, sz_24, ag_24, Tryz.underlying24]
    exact ⟨rfl, rfl⟩
  simp only [Ex.thn]
  apply EvX.cond2 (t := false)
  · simp only [evalA, Tr.get_set, Nat.reduceEqDiff, if_true, if_false, reduceIte]
  · intro h; cases h
  intro _
  apply EvX.skip
  simp only [Ex.thn, Ex.blk]
  apply EvX.seq
  apply EvX.reg 0
  · intro k _
    simp only [QRun, stepA, wantedA, opA, pureA, loadA, effA, binA, bin, evalA, ofV, ofCell, Fr.put, setArgs, kS, Nat.zero_testBit, Nat.reduceAdd, Nat.reduceSub, Nat.reduceLeDiff, decide_true, decide_false, Nat.reduceEqDiff, if_true, if_false, reduceIte, operands, cl_17, c17, AV.cells, takeN, beq_self_eq_true, eq_self, kA1, kA2, kB, Tryz.underlying3, Tryz.underlying77, Tryz.underlying22, sz_24, ag_24, Tryz.underlying24]
    exact ⟨rfl, rfl⟩
  simp only [Ex.thn]
  apply EvX.seq
  apply EvX.reg 0
  · intro k _
    simp only [QRun, stepA, wantedA, opA, pureA, loadA, effA, binA, bin, evalA, ofV, ofCell, Fr.put, setArgs, kS, Nat.zero_testBit, Nat.reduceAdd, Nat.reduceSub, Nat.reduceLeDiff, decide_true, decide_false, Nat.reduceEqDiff, if_true, if_false, reduceIte, operands, cl_13, c13, binS, he, show ((0 : Int) == 0) = true from rfl, AV.cells, takeN, beq_self_eq_true, eq_self, kA1, kA2, kB, Tryz.underlying3, Tryz.underlying77, Tryz.underlying22, sz_24, ag_24, Tryz.underlying24]
    exact ⟨rfl, rfl⟩
  simp only [Ex.thn]
  apply EvX.ret
  exact Fin.one rfl (by simp only [Tr.get_set, if_true, if_false, reduceIte, Nat.reduceEqDiff])
end Go.Vz
