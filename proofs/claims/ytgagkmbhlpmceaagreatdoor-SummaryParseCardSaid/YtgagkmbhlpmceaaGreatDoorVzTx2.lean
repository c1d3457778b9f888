/-
  The reference's Text, told.
-/
import Derived.Test.YtgagkmbhlpmceaaGreatDoorVzTx1
set_option linter.unusedVariables false
set_option linter.unusedSimpArgs false
namespace Go.Vz
open Go Go.Proofs
set_option maxHeartbeats 4000000
set_option maxRecDepth 20000
/-! ### texts -/
def wFunc : List Nat := [102, 117, 110, 99]
def wExit : List Nat := [101, 120, 105, 116]
def wThrow : List Nat := [116, 104, 114, 111, 119]
def linePair (w : List Nat) (p : Int × Int) : List Nat := w ++ [32] ++ dig p.1.toNat ++ [32] ++ dig p.2.toNat ++ [10]
def textPairs (w : List Nat) : List (Int × Int) → List Nat
  | [] => []
  | p :: l => linePair w p ++ textPairs w l
def lineFunc (a : Int) : List Nat := wFunc ++ [32] ++ dig a.toNat ++ [10]
def textSum (s : Sm) : List Nat := lineFunc s.fn ++ textPairs wExit s.ex ++ textPairs wThrow s.th
def textOf : List Sm → List Nat
  | [] => []
  | s :: l => textSum s ++ textOf l
theorem textPairs_take (w : List Nat) : ∀ {l : List (Int × Int)} {k : Nat} (h : k < l.length), textPairs w (l.take (k + 1)) = textPairs w (l.take k) ++ linePair w l[k]
  | p :: l, 0, _ => by simp [textPairs]
  | p :: l, k + 1, h => by
    simp only [List.take_succ_cons, textPairs, List.getElem_cons_succ, List.append_assoc]
    rw [textPairs_take w (by simpa using h)]
theorem textOf_take : ∀ {l : List Sm} {k : Nat} (h : k < l.length), textOf (l.take (k + 1)) = textOf (l.take k) ++ textSum l[k]
  | p :: l, 0, _ => by simp [textOf]
  | p :: l, k + 1, h => by
    simp only [List.take_succ_cons, textOf, List.getElem_cons_succ, List.append_assoc]
    rw [textOf_take (by simpa using h)]
theorem dig_len : ∀ {n : Nat}, n < 10000 → (dig n).length ≤ 4 := by
  intro n h
  rw [dig_step, List.length_append]
  by_cases h1 : n < 10
  · rw [if_pos h1]; simp
  · rw [if_neg h1, dig_step, List.length_append]
    by_cases h2 : n / 10 < 10
    · rw [if_pos h2]; simp
    · rw [if_neg h2, dig_step, List.length_append]
      by_cases h3 : n / 10 / 10 < 10
      · rw [if_pos h3]; simp
      · rw [if_neg h3, dig_small (by omega)]; simp
/-- what Check lets pass -/
def okPair (p : Int × Int) : Prop := 0 ≤ p.1 ∧ p.1 < 1024 ∧ 0 ≤ p.2 ∧ p.2 < 1024
def okPairs (l : List (Int × Int)) : Prop := l.length ≤ 8192 ∧ ∀ p ∈ l, okPair p
def okSm (s : Sm) : Prop := 0 ≤ s.fn ∧ s.fn < 256 ∧ okPairs s.ex ∧ okPairs s.th
theorem goPairs_ok : ∀ {l : List (Int × Int)} {q : Option (Int × Int)}, goPairs 1024 q l = 0 → ∀ p ∈ l, okPair p
  | [], _, _, p, hp => by cases hp
  | a :: l, q, h, p, hp => by
    unfold goPairs at h
    split at h
    · cases h
    · rename_i hb
      split at h
      · cases h
      · cases hp with
        | head =>
          unfold badP at hb
          unfold okPair
          omega
        | tail _ hp => exact goPairs_ok h p hp
theorem pairsErr_ok {l : List (Int × Int)} (h : pairsErr 1024 l = 0) : okPairs l := by
  unfold pairsErr at h
  split at h
  · cases h
  · exact ⟨by omega, goPairs_ok h⟩
theorem goSums_ok : ∀ {l : List Sm} {q : Option Int}, goSums 1024 q l = 0 → ∀ s ∈ l, okSm s
  | [], _, _, p, hp => by cases hp
  | a :: l, q, h, p, hp => by
    unfold goSums at h
    split at h
    · cases h
    · rename_i hb
      split at h
      · cases h
      · split at h
        · rename_i h1; exact absurd h h1
        · rename_i h1
          split at h
          · rename_i h2; exact absurd h h2
          · rename_i h2
            cases hp with
            | head => exact ⟨by omega, by omega, pairsErr_ok (by simpa using h1), pairsErr_ok (by simpa using h2)⟩
            | tail _ hp => exact goSums_ok h p hp
theorem sumsErr_ok {l : List Sm} (h : sumsErr 1024 l = 0) : l.length ≤ 256 ∧ ∀ s ∈ l, okSm s := by
  unfold sumsErr at h
  split at h
  · cases h
  · split at h
    · cases h
    · exact ⟨by omega, goSums_ok h⟩
theorem linePair_len {w : List Nat} {p : Int × Int} (hw : w.length ≤ 5) (hp : okPair p) : (linePair w p).length ≤ 16 := by
  unfold okPair at hp
  have h1 := dig_len (n := p.1.toNat) (by omega)
  have h2 := dig_len (n := p.2.toNat) (by omega)
  simp only [linePair, List.length_append, List.length_singleton]
  omega
theorem textPairs_len {w : List Nat} (hw : w.length ≤ 5) : ∀ {l : List (Int × Int)}, (∀ p ∈ l, okPair p) → (textPairs w l).length ≤ l.length * 16
  | [], _ => by simp [textPairs]
  | p :: l, h => by
    have h1 := linePair_len hw (h p (by simp))
    have h2 := textPairs_len hw (l := l) (fun q hq => h q (by simp [hq]))
    simp only [textPairs, List.length_append, List.length_cons]
    omega
theorem textSum_len {s : Sm} (h : okSm s) : (textSum s).length ≤ 262160 := by
  obtain ⟨h0, h1, h2, h3⟩ := h
  have e1 := textPairs_len (w := wExit) (by decide) h2.2
  have e2 := textPairs_len (w := wThrow) (by decide) h3.2
  have e3 := dig_len (n := s.fn.toNat) (by omega)
  have h4 := h2.1
  have h5 := h3.1
  simp only [textSum, lineFunc, List.length_append, List.length_singleton, show wFunc.length = 4 from rfl]
  omega
theorem textOf_len : ∀ {l : List Sm}, (∀ s ∈ l, okSm s) → (textOf l).length ≤ l.length * 262160
  | [], _ => by simp [textOf]
  | p :: l, h => by
    have h1 := textSum_len (h p (by simp))
    have h2 := textOf_len (l := l) (fun q hq => h q (by simp [hq]))
    simp only [textOf, List.length_append, List.length_cons]
    omega
theorem add_s {a b : List Nat} (h : a.length + b.length ≤ 9223372036854775807) : binS .add a b = some (.str (a ++ b)) := by
  simp only [binS, Nat.ble_eq_true_of_le h, cond_true]
theorem nat_func : natOf { data := #[102, 117, 110, 99, 32] } = wFunc ++ [32] := by decide
theorem nat_exit : natOf { data := #[101, 120, 105, 116, 32] } = wExit ++ [32] := by decide
theorem nat_throw : natOf { data := #[116, 104, 114, 111, 119, 32] } = wThrow ++ [32] := by decide
theorem nat_sp : natOf { data := #[32] } = [32] := by decide
theorem nat_nl : natOf { data := #[10] } = [10] := by decide
def spec43 : List AV → Option AV
  | [.ro xs n 3] => match decSums xs with
    | some l => bif Nat.beq l.length n && decide (sumsErr 1024 l = 0) then some (.str (textOf l)) else none
    | none => none
  | _ => none
theorem spec43_some {args : List AV} {x : AV} (h : spec43 args = some x) : ∃ l, args = [.ro (encSums l) l.length 3] ∧ x = .str (textOf l) ∧ sumsErr 1024 l = 0 := by
  unfold spec43 at h
  split at h
  rotate_left
  · cases h
  rename_i xs n
  cases hl : decSums xs with
  | none => simp [hl] at h
  | some l =>
  simp only [hl] at h
  cases hb : Nat.beq l.length n && decide (sumsErr 1024 l = 0) with
  | false => simp [hb] at h
  | true =>
  simp only [hb, cond_true, Option.some.injEq] at h
  rw [Bool.and_eq_true_iff] at hb
  have hn := Nat.eq_of_beq_eq_true hb.1
  subst hn
  obtain ⟨e1, e2⟩ := decSums_eq hl
  exact ⟨l, by rw [e1], h.symm, of_decide_eq_true hb.2⟩
theorem ok_sums {l : List Sm} (h : ∀ s ∈ l, okSm s) : okSums l := fun s hs => by
  have h1 := (h s hs).2.2.1.1
  have h2 := (h s hs).2.2.2.1
  exact ⟨by omega, by omega⟩
theorem spec43_enc {l : List Sm} (h : sumsErr 1024 l = 0) : spec43 [.ro (encSums l) l.length 3] = some (.str (textOf l)) := by
  simp only [spec43, decSums_enc (ok_sums (sumsErr_ok h).2), Nat.beq_refl, decide_eq_true h, Bool.and_self, cond_true]
def p43 : PFn := ⟨43, spec43⟩
theorem cl_74 (args : List AV) : calleeA Tryz.prog (.fn (.func 74) [] []) args = some (.enter 74 args) := by rw [callee_of Tryz.func74 (by kernel_rfl) (by kernel_rfl)]; simp
theorem FrGen {C : Cfg} {D : CallF → DrawF} {c : Code} {fr : Fr} {m : Mem} {Q : Ex → Fr → Mem → Prop} {K : Fr → Mem → Prop} (hk : K fr m) (h : ∀ fr m, K fr m → EvX C D c fr m Q) : EvX C D c fr m Q := h fr m hk
theorem p43_ok : p43.Ok := by
  refine PFn.Ok.ofT (qs := []) (ps := [p74]) (fun q h => by cases h) (fun p h => by simp at h; subst h; exact p74_ok.tree) (fun args x h => ?_)
  obtain ⟨l, rfl, rfl, hl0⟩ := spec43_some h
  clear h
  obtain ⟨hl1, hl2⟩ := sumsErr_ok hl0
  clear hl0
  have c74 := fun k (n : Nat) (hn : n ≤ 9223372036854775807) m => callTp (qs := []) (ps := [p74]) (p := p74) (f := 74) rfl (D := drawA (CT [] [p74])) k m (by simp only [mapO, view_int] : mapO (viewA 8 m) [.int .i64 (n : Int)] = some [.int .i64 (n : Int)]) (spec74 hn) rfl
  refine ⟨rfl, EvC.run (by kernel_rfl) (by rw [CT_P]; exact Tryz.func43) rfl ?_⟩
  apply EvX.seq
  apply EvX.reg0
  · intro call
    simp only [QRun, stepA, wantedA, opA, pureA, loadA, effA, binA, bin, evalA, ofV, ofCell, Fr.put, setArgs, kS, Nat.zero_testBit, Nat.reduceAdd, Nat.reduceSub, Nat.reduceLeDiff, decide_true, decide_false, Nat.reduceEqDiff, if_true, if_false, reduceIte, operands, Tryz.ntmps43, natOf_nil]
    exact ⟨rfl, rfl⟩
  simp only [Ex.thn]
  apply EvX.seq
  apply EvX.reg0
  · intro call
    simp only [QRun, stepA, wantedA, opA, pureA, loadA, effA, binA, bin, evalA, ofV, ofCell, Fr.put, setArgs, kS, Nat.zero_testBit, Nat.reduceAdd, Nat.reduceSub, Nat.reduceLeDiff, decide_true, decide_false, Nat.reduceEqDiff, if_true, if_false, reduceIte, operands, natOf_nil]
    exact ⟨rfl, rfl⟩
  simp only [Ex.thn]
  apply EvX.seq
  apply EvX.seq
  apply EvX.reg0
  · intro call
    simp only [QRun, stepA, wantedA, opA, pureA, loadA, effA, binA, bin, evalA, ofV, ofCell, Fr.put, setArgs, kS, Nat.zero_testBit, Nat.reduceAdd, Nat.reduceSub, Nat.reduceLeDiff, decide_true, decide_false, Nat.reduceEqDiff, if_true, if_false, reduceIte, operands]
    exact ⟨rfl, rfl⟩
  simp only [Ex.thn]
  apply EvX.block
  refine EvX.loop (fun k fr m => ∃ i : Nat, k = l.length - i ∧ i ≤ l.length ∧ fr.n = 96 ∧ fr.t.get 0 = some (.ro (encSums l) l.length 3) ∧ fr.t.get 3 = some (.str (textOf (l.take i))) ∧ fr.t.get 4 = some (.int .i64 (i : Int))) ?_ l.length _ _
    ⟨0, by simp, by simp, rfl, by simp [Tr.get_set], by simp [Tr.get_set, textOf], by simp [Tr.get_set]⟩
  rintro k fr m ⟨i, rfl, hil, hfn, h0, h3, h4⟩
  apply EvX.seq
  apply EvX.seq
  apply EvX.reg0
  · intro call
    simp only [QRun, stepA, wantedA, opA, pureA, loadA, effA, binA, bin, evalA, ofV, ofCell, Fr.put, setArgs, kS, Nat.zero_testBit, Nat.reduceAdd, Nat.reduceSub, Nat.reduceLeDiff, decide_true, decide_false, Nat.reduceEqDiff, if_true, if_false, reduceIte, operands, hfn, h0, h4, lenA, AV.cells, takeN, beq_self_eq_true, eq_self, kA1, kA2, Tryz.underlying22, st_9]
    exact ⟨rfl, rfl⟩
  simp only [Ex.thn]
  apply EvX.cond2
  · simp only [evalA, Tr.get_set, Nat.reduceEqDiff, if_true, if_false, reduceIte]; exact rfl
  rotate_left
  · intro hge
    have hge := of_decide_eq_false hge
    have hi : i = l.length := by omega
    subst hi
    apply EvX.exit
    simp only [Ex.thn, Ex.blk, beq_dec, decide_true, cond_true]
    apply EvX.seq
    apply EvX.reg0
    · intro call
      simp only [QRun, stepA, wantedA, opA, pureA, loadA, effA, binA, bin, evalA, ofV, ofCell, Fr.put, setArgs, kS, Nat.zero_testBit, Nat.reduceAdd, Nat.reduceSub, Nat.reduceLeDiff, decide_true, decide_false, Nat.reduceEqDiff, if_true, if_false, reduceIte, operands, hfn, h3]
      exact ⟨rfl, rfl⟩
    simp only [Ex.thn]
    apply EvX.ret
    exact Fin.one rfl (by simp only [Tr.get_set, if_true, reduceIte, List.take_length])
  intro hlt
  have hlt := of_decide_eq_true hlt
  have hlt : i < l.length := by omega
  have hlt' : i + 1 ≤ l.length := hlt
  have hmul : i * 3 ≤ l.length * 3 := by omega
  have hdr := dropSum hlt
  have htake := textOf_take hlt
  have hok := hl2 l[i] (List.getElem_mem _)
  have hlen := textOf_len (l := l.take i) (fun s hs => hl2 s (List.mem_of_mem_take hs))
  rw [List.length_take, Nat.min_eq_left hil] at hlen
  generalize hp : l[i] = p at hdr htake hok
  obtain ⟨fn, ex, th⟩ := p
  obtain ⟨o1, o2, o3, o4⟩ := hok
  simp only at o1 o2 o3 o4 hdr
  obtain ⟨f, rfl⟩ := Int.eq_ofNat_of_zero_le o1
  have of : f < 256 := by omega
  have hf4 := dig_len (n := f) (by omega)
  generalize hX : textOf (l.take i) = X at h3 htake hlen
  have hXl : X.length ≤ 67108864 := by omega
  have c1 := fun k => c74 k f (by omega)
  have e1 : binS .add X (wFunc ++ [32]) = some (.str (X ++ (wFunc ++ [32]))) := add_s (by simp only [List.length_append, List.length_singleton, show wFunc.length = 4 from rfl]; omega)
  have e2 : binS .add (X ++ (wFunc ++ [32])) (dig f) = some (.str (X ++ (wFunc ++ [32]) ++ dig f)) := add_s (by simp only [List.length_append, List.length_singleton, show wFunc.length = 4 from rfl]; omega)
  have e3 : binS .add (X ++ (wFunc ++ [32]) ++ dig f) [10] = some (.str (X ++ (wFunc ++ [32]) ++ dig f ++ [10])) := add_s (by simp only [List.length_append, List.length_singleton, show wFunc.length = 4 from rfl]; omega)
  have hY : X ++ (wFunc ++ [32]) ++ dig f ++ [10] = X ++ lineFunc (f : Int) := by simp [lineFunc]
  rw [hY] at e3
  apply EvX.skip
  simp only [Ex.thn]
  apply EvX.seq
  apply EvX.block
  apply EvX.seq
  apply EvX.reg 0
  · intro k _
    simp only [QRun, stepA, wantedA, opA, pureA, loadA, effA, binA, bin, evalA, ofV, ofCell, Fr.put, setArgs, kS, Nat.zero_testBit, Nat.reduceAdd, Nat.reduceSub, Nat.reduceLeDiff, decide_true, decide_false, Nat.reduceEqDiff, if_true, if_false, reduceIte, operands, hfn, h0, h3, h4, natOf?, natOf_cast, hlt', hmul, encSums_length, hdr, List.drop_zero, List.drop_succ_cons, List.length_cons, takeN, Option.map_some, Nat.le_add_left, Nat.zero_le, nat_func, nat_nl, e1, e2, e3, cl_74, c1, AV.cells, takeN, beq_self_eq_true, eq_self, kA1, kA2, Tryz.underlying22, st_9]
    exact ⟨rfl, rfl⟩
  simp only [Ex.thn]
  have hYl : (X ++ lineFunc (f : Int)).length ≤ 67109000 := by
    rw [← hY]
    simp only [List.length_append, List.length_singleton, show wFunc.length = 4 from rfl]; omega
  generalize hYd : X ++ lineFunc (f : Int) = Y at hYl e3
  refine FrGen (K := fun fr m => fr.n = 96 ∧ fr.t.get 0 = some (.ro (encSums l) l.length 3) ∧ fr.t.get 3 = some (.str Y) ∧ fr.t.get 4 = some (.int .i64 (i : Int))) ⟨by simp [hfn], by simp [Tr.get_set, h0], by simp [Tr.get_set, hYd], by simp [Tr.get_set, h4]⟩ ?_
  clear hfn h0 h3 h4
  rintro fr m ⟨hfn, h0, h3, h4⟩
  apply EvX.seq
  apply EvX.seq
  apply EvX.reg0
  · intro call
    simp only [QRun, stepA, wantedA, opA, pureA, loadA, effA, binA, bin, evalA, ofV, ofCell, Fr.put, setArgs, kS, Nat.zero_testBit, Nat.reduceAdd, Nat.reduceSub, Nat.reduceLeDiff, decide_true, decide_false, Nat.reduceEqDiff, if_true, if_false, reduceIte, operands, hfn]
    exact ⟨rfl, rfl⟩
  simp only [Ex.thn]
  apply EvX.block
  refine EvX.loop (fun k fr m => ∃ j : Nat, k = ex.length - j ∧ j ≤ ex.length ∧ fr.n = 96 ∧ fr.t.get 0 = some (.ro (encSums l) l.length 3) ∧ fr.t.get 3 = some (.str (Y ++ textPairs wExit (ex.take j))) ∧ fr.t.get 4 = some (.int .i64 (i : Int)) ∧ fr.t.get 5 = some (.int .i64 (j : Int))) ?_ ex.length _ _
    ⟨0, by simp, by simp, by simp [hfn], by simp [Tr.get_set, h0], by simp [Tr.get_set, textPairs, h3], by simp [Tr.get_set, h4], by simp [Tr.get_set]⟩
  clear hfn h0 h3 h4
  rintro k fr m ⟨j, rfl, hjl, hfn, h0, h3, h4, h5⟩
  apply EvX.seq
  apply EvX.seq
  apply EvX.reg0
  · intro call
    simp only [QRun, stepA, wantedA, opA, pureA, loadA, effA, binA, bin, evalA, ofV, ofCell, Fr.put, setArgs, kS, Nat.zero_testBit, Nat.reduceAdd, Nat.reduceSub, Nat.reduceLeDiff, decide_true, decide_false, Nat.reduceEqDiff, if_true, if_false, reduceIte, operands, hfn, h0, h3, h4, h5, natOf?, natOf_cast, hlt', hmul, encSums_length, hdr, List.drop_zero, List.drop_succ_cons, List.length_cons, takeN, Option.map_some, Nat.le_add_left, Nat.zero_le, AV.cells, takeN, beq_self_eq_true, eq_self, kA1, kA2, Tryz.underlying22, st_9, lenA]
    exact ⟨rfl, rfl⟩
  simp only [Ex.thn]
  apply EvX.cond2
  · simp only [evalA, Tr.get_set, Nat.reduceEqDiff, if_true, if_false, reduceIte]; exact rfl
  rotate_left
  · intro hge
    have hge := of_decide_eq_false hge
    have hj : j = ex.length := by omega
    subst hj
    rw [List.take_length] at h3
    apply EvX.exit
    simp only [Ex.thn, Ex.blk, beq_dec, decide_true, cond_true]
    generalize hZZ : Y ++ textPairs wExit ex = Z at h3
    have hZl : Z.length ≤ 67300000 := by
      have := textPairs_len (w := wExit) (by decide) o3.2
      have := o3.1
      rw [← hZZ, List.length_append]; omega
    apply EvX.seq
    apply EvX.reg0
    · intro call
      simp only [QRun, stepA, wantedA, opA, pureA, loadA, effA, binA, bin, evalA, ofV, ofCell, Fr.put, setArgs, kS, Nat.zero_testBit, Nat.reduceAdd, Nat.reduceSub, Nat.reduceLeDiff, decide_true, decide_false, Nat.reduceEqDiff, if_true, if_false, reduceIte, operands, hfn]
      exact ⟨rfl, rfl⟩
    simp only [Ex.thn]
    apply EvX.block
    refine EvX.loop (fun k fr m => ∃ j : Nat, k = th.length - j ∧ j ≤ th.length ∧ fr.n = 96 ∧ fr.t.get 0 = some (.ro (encSums l) l.length 3) ∧ fr.t.get 3 = some (.str (Z ++ textPairs wThrow (th.take j))) ∧ fr.t.get 4 = some (.int .i64 (i : Int)) ∧ fr.t.get 6 = some (.int .i64 (j : Int))) ?_ th.length _ _
      ⟨0, by simp, by simp, by simp [hfn], by simp [Tr.get_set, h0], by simp [Tr.get_set, textPairs, h3], by simp [Tr.get_set, h4], by simp [Tr.get_set]⟩
    clear hfn h0 h3 h4
    rintro k fr m ⟨j, rfl, hjl, hfn, h0, h3, h4, h5⟩
    apply EvX.seq
    apply EvX.seq
    apply EvX.reg0
    · intro call
      simp only [QRun, stepA, wantedA, opA, pureA, loadA, effA, binA, bin, evalA, ofV, ofCell, Fr.put, setArgs, kS, Nat.zero_testBit, Nat.reduceAdd, Nat.reduceSub, Nat.reduceLeDiff, decide_true, decide_false, Nat.reduceEqDiff, if_true, if_false, reduceIte, operands, hfn, h0, h3, h4, h5, natOf?, natOf_cast, hlt', hmul, encSums_length, hdr, List.drop_zero, List.drop_succ_cons, List.length_cons, takeN, Option.map_some, Nat.le_add_left, Nat.zero_le, AV.cells, takeN, beq_self_eq_true, eq_self, kA1, kA2, Tryz.underlying22, st_9, lenA]
      exact ⟨rfl, rfl⟩
    simp only [Ex.thn]
    apply EvX.cond2
    · simp only [evalA, Tr.get_set, Nat.reduceEqDiff, if_true, if_false, reduceIte]; exact rfl
    rotate_left
    · intro hge
      have hge := of_decide_eq_false hge
      have hj : j = th.length := by omega
      subst hj
      rw [List.take_length] at h3
      apply EvX.exit
      simp only [Ex.thn, Ex.blk, beq_dec, decide_true, cond_true]
      apply EvX.reg0
      · intro call
        simp only [QRun, stepA, wantedA, opA, pureA, loadA, effA, binA, bin, evalA, ofV, ofCell, Fr.put, setArgs, kS, Nat.zero_testBit, Nat.reduceAdd, Nat.reduceSub, Nat.reduceLeDiff, decide_true, decide_false, Nat.reduceEqDiff, if_true, if_false, reduceIte, operands, hfn, h4, wrap_succ (show i + 1 ≤ 9223372036854775807 by omega)]
        exact ⟨rfl, rfl⟩
      simp only [Ex.thn]
      refine ⟨l.length - (i + 1), by omega, i + 1, rfl, hlt', trivial, ?_, ?_, ?_⟩
      · simp [Tr.get_set, h0]
      · simp only [Tr.get_set, if_true, if_false, reduceIte, Nat.reduceEqDiff]
        rw [htake, h3, ← hZZ, ← hYd]
        simp [textSum]
      · simp [Tr.get_set]
    intro hlj
    have hlj := of_decide_eq_true hlj
    have hlj : j < th.length := by omega
    have hlj' : j + 1 ≤ th.length := hlj
    have hmul2 : j * 2 ≤ th.length * 2 := by omega
    have hdp := dropPair hlj
    have htk := textPairs_take wThrow hlj
    have hop := o4.2 th[j] (List.getElem_mem _)
    have htl := textPairs_len (w := wThrow) (by decide) (l := th.take j) (fun q hq => o4.2 q (List.mem_of_mem_take hq))
    rw [List.length_take, Nat.min_eq_left hjl] at htl
    have hxl := o4.1
    generalize hq : th[j] = q at hdp htk hop
    obtain ⟨qa, qb⟩ := q
    unfold okPair at hop
    simp only at hop hdp
    obtain ⟨a, rfl⟩ := Int.eq_ofNat_of_zero_le hop.1
    obtain ⟨b, rfl⟩ := Int.eq_ofNat_of_zero_le hop.2.2.1
    have ha4 := dig_len (n := a) (by omega)
    have hb4 := dig_len (n := b) (by omega)
    have ca := fun k => c74 k a (by omega)
    have cb := fun k => c74 k b (by omega)
    generalize hU : Z ++ textPairs wThrow (th.take j) = U at h3
    have hUl : U.length ≤ 67600000 := by
      rw [← hU, List.length_append]; omega
    have f1 : binS .add U (wThrow ++ [32]) = some (.str (U ++ (wThrow ++ [32]))) := add_s (by simp only [List.length_append, List.length_singleton, show wThrow.length = 5 from rfl]; omega)
    have f2 : binS .add (U ++ (wThrow ++ [32])) (dig a) = some (.str (U ++ (wThrow ++ [32]) ++ dig a)) := add_s (by simp only [List.length_append, List.length_singleton, show wThrow.length = 5 from rfl]; omega)
    have f3 : binS .add (U ++ (wThrow ++ [32]) ++ dig a) [32] = some (.str (U ++ (wThrow ++ [32]) ++ dig a ++ [32])) := add_s (by simp only [List.length_append, List.length_singleton, show wThrow.length = 5 from rfl]; omega)
    have f4 : binS .add (U ++ (wThrow ++ [32]) ++ dig a ++ [32]) (dig b) = some (.str (U ++ (wThrow ++ [32]) ++ dig a ++ [32] ++ dig b)) := add_s (by simp only [List.length_append, List.length_singleton, show wThrow.length = 5 from rfl]; omega)
    have f5 : binS .add (U ++ (wThrow ++ [32]) ++ dig a ++ [32] ++ dig b) [10] = some (.str (U ++ (wThrow ++ [32]) ++ dig a ++ [32] ++ dig b ++ [10])) := add_s (by simp only [List.length_append, List.length_singleton, show wThrow.length = 5 from rfl]; omega)
    apply EvX.skip
    simp only [Ex.thn]
    apply EvX.seq
    apply EvX.block
    apply EvX.drw 8390656 0
    · kernel_rfl
    · intro k _
      simp only [QRun, stepA, wantedA, opA, pureA, loadA, effA, binA, bin, evalA, ofV, ofCell, Fr.put, setArgs, kS, Nat.zero_testBit, Nat.reduceAdd, Nat.reduceSub, Nat.reduceLeDiff, decide_true, decide_false, Nat.reduceEqDiff, if_true, if_false, reduceIte, operands, hfn, h0, h3, h4, h5, natOf?, natOf_cast, hlt', hmul, encSums_length, hdr, List.drop_zero, List.drop_succ_cons, List.length_cons, takeN, Option.map_some, Nat.le_add_left, Nat.zero_le, AV.cells, takeN, beq_self_eq_true, eq_self, kA1, kA2, Tryz.underlying22, st_9, hlj', hmul2, encPairs_length, hdp, nat_throw, nat_sp, nat_nl, f1, f2, f3, f4, f5, cl_74, ca, cb, show Nat.testBit 8390656 0 = false from rfl, show Nat.testBit 8390656 1 = false from rfl, show Nat.testBit 8390656 2 = false from rfl, show Nat.testBit 8390656 3 = false from rfl, show Nat.testBit 8390656 4 = false from rfl, show Nat.testBit 8390656 5 = false from rfl, show Nat.testBit 8390656 6 = false from rfl, show Nat.testBit 8390656 7 = false from rfl, show Nat.testBit 8390656 8 = false from rfl, show Nat.testBit 8390656 9 = false from rfl, show Nat.testBit 8390656 10 = false from rfl, show Nat.testBit 8390656 11 = true from rfl, show Nat.testBit 8390656 12 = false from rfl, show Nat.testBit 8390656 13 = false from rfl, show Nat.testBit 8390656 14 = false from rfl, show Nat.testBit 8390656 15 = false from rfl, show Nat.testBit 8390656 16 = false from rfl, show Nat.testBit 8390656 17 = false from rfl, show Nat.testBit 8390656 18 = false from rfl, show Nat.testBit 8390656 19 = false from rfl, show Nat.testBit 8390656 20 = false from rfl, show Nat.testBit 8390656 21 = false from rfl, show Nat.testBit 8390656 22 = false from rfl, show Nat.testBit 8390656 23 = true from rfl, show Nat.testBit 8390656 24 = false from rfl, show Nat.testBit 8390656 25 = false from rfl, show Nat.testBit 8390656 26 = false from rfl, show Nat.testBit 8390656 27 = false from rfl]
      exact ⟨rfl, rfl⟩
    simp only [Ex.thn, Ex.blk]
    apply EvX.reg0
    · intro call
      simp only [QRun, stepA, wantedA, opA, pureA, loadA, effA, binA, bin, evalA, ofV, ofCell, Fr.put, setArgs, kS, Nat.zero_testBit, Nat.reduceAdd, Nat.reduceSub, Nat.reduceLeDiff, decide_true, decide_false, Nat.reduceEqDiff, if_true, if_false, reduceIte, operands, hfn, h5, wrap_succ (show j + 1 ≤ 9223372036854775807 by omega)]
      exact ⟨rfl, rfl⟩
    simp only [Ex.thn]
    refine ⟨th.length - (j + 1), by omega, j + 1, rfl, hlj', trivial, ?_, ?_, ?_, ?_⟩
    · simp [Tr.get_set, h0]
    · simp only [Tr.get_set, if_true, if_false, reduceIte, Nat.reduceEqDiff]
      rw [htk, ← hU]
      simp [linePair]
    · simp [Tr.get_set, h4]
    · simp [Tr.get_set]
  intro hlj
  have hlj := of_decide_eq_true hlj
  have hlj : j < ex.length := by omega
  have hlj' : j + 1 ≤ ex.length := hlj
  have hmul2 : j * 2 ≤ ex.length * 2 := by omega
  have hdp := dropPair hlj
  have htk := textPairs_take wExit hlj
  have hop := o3.2 ex[j] (List.getElem_mem _)
  have htl := textPairs_len (w := wExit) (by decide) (l := ex.take j) (fun q hq => o3.2 q (List.mem_of_mem_take hq))
  rw [List.length_take, Nat.min_eq_left hjl] at htl
  have hxl := o3.1
  generalize hq : ex[j] = q at hdp htk hop
  obtain ⟨qa, qb⟩ := q
  unfold okPair at hop
  simp only at hop hdp
  obtain ⟨a, rfl⟩ := Int.eq_ofNat_of_zero_le hop.1
  obtain ⟨b, rfl⟩ := Int.eq_ofNat_of_zero_le hop.2.2.1
  have ha4 := dig_len (n := a) (by omega)
  have hb4 := dig_len (n := b) (by omega)
  have ca := fun k => c74 k a (by omega)
  have cb := fun k => c74 k b (by omega)
  generalize hU : Y ++ textPairs wExit (ex.take j) = U at h3
  have hUl : U.length ≤ 67300000 := by
    rw [← hU, List.length_append]; omega
  have f1 : binS .add U (wExit ++ [32]) = some (.str (U ++ (wExit ++ [32]))) := add_s (by simp only [List.length_append, List.length_singleton, show wExit.length = 4 from rfl]; omega)
  have f2 : binS .add (U ++ (wExit ++ [32])) (dig a) = some (.str (U ++ (wExit ++ [32]) ++ dig a)) := add_s (by simp only [List.length_append, List.length_singleton, show wExit.length = 4 from rfl]; omega)
  have f3 : binS .add (U ++ (wExit ++ [32]) ++ dig a) [32] = some (.str (U ++ (wExit ++ [32]) ++ dig a ++ [32])) := add_s (by simp only [List.length_append, List.length_singleton, show wExit.length = 4 from rfl]; omega)
  have f4 : binS .add (U ++ (wExit ++ [32]) ++ dig a ++ [32]) (dig b) = some (.str (U ++ (wExit ++ [32]) ++ dig a ++ [32] ++ dig b)) := add_s (by simp only [List.length_append, List.length_singleton, show wExit.length = 4 from rfl]; omega)
  have f5 : binS .add (U ++ (wExit ++ [32]) ++ dig a ++ [32] ++ dig b) [10] = some (.str (U ++ (wExit ++ [32]) ++ dig a ++ [32] ++ dig b ++ [10])) := add_s (by simp only [List.length_append, List.length_singleton, show wExit.length = 4 from rfl]; omega)
  apply EvX.skip
  simp only [Ex.thn]
  apply EvX.seq
  apply EvX.block
  apply EvX.drw 8390656 0
  · kernel_rfl
  · intro k _
    simp only [QRun, stepA, wantedA, opA, pureA, loadA, effA, binA, bin, evalA, ofV, ofCell, Fr.put, setArgs, kS, Nat.zero_testBit, Nat.reduceAdd, Nat.reduceSub, Nat.reduceLeDiff, decide_true, decide_false, Nat.reduceEqDiff, if_true, if_false, reduceIte, operands, hfn, h0, h3, h4, h5, natOf?, natOf_cast, hlt', hmul, encSums_length, hdr, List.drop_zero, List.drop_succ_cons, List.length_cons, takeN, Option.map_some, Nat.le_add_left, Nat.zero_le, AV.cells, takeN, beq_self_eq_true, eq_self, kA1, kA2, Tryz.underlying22, st_9, hlj', hmul2, encPairs_length, hdp, nat_exit, nat_sp, nat_nl, f1, f2, f3, f4, f5, cl_74, ca, cb, show Nat.testBit 8390656 0 = false from rfl, show Nat.testBit 8390656 1 = false from rfl, show Nat.testBit 8390656 2 = false from rfl, show Nat.testBit 8390656 3 = false from rfl, show Nat.testBit 8390656 4 = false from rfl, show Nat.testBit 8390656 5 = false from rfl, show Nat.testBit 8390656 6 = false from rfl, show Nat.testBit 8390656 7 = false from rfl, show Nat.testBit 8390656 8 = false from rfl, show Nat.testBit 8390656 9 = false from rfl, show Nat.testBit 8390656 10 = false from rfl, show Nat.testBit 8390656 11 = true from rfl, show Nat.testBit 8390656 12 = false from rfl, show Nat.testBit 8390656 13 = false from rfl, show Nat.testBit 8390656 14 = false from rfl, show Nat.testBit 8390656 15 = false from rfl, show Nat.testBit 8390656 16 = false from rfl, show Nat.testBit 8390656 17 = false from rfl, show Nat.testBit 8390656 18 = false from rfl, show Nat.testBit 8390656 19 = false from rfl, show Nat.testBit 8390656 20 = false from rfl, show Nat.testBit 8390656 21 = false from rfl, show Nat.testBit 8390656 22 = false from rfl, show Nat.testBit 8390656 23 = true from rfl, show Nat.testBit 8390656 24 = false from rfl, show Nat.testBit 8390656 25 = false from rfl, show Nat.testBit 8390656 26 = false from rfl, show Nat.testBit 8390656 27 = false from rfl]
    exact ⟨rfl, rfl⟩
  simp only [Ex.thn, Ex.blk]
  apply EvX.reg0
  · intro call
    simp only [QRun, stepA, wantedA, opA, pureA, loadA, effA, binA, bin, evalA, ofV, ofCell, Fr.put, setArgs, kS, Nat.zero_testBit, Nat.reduceAdd, Nat.reduceSub, Nat.reduceLeDiff, decide_true, decide_false, Nat.reduceEqDiff, if_true, if_false, reduceIte, operands, hfn, h5, wrap_succ (show j + 1 ≤ 9223372036854775807 by omega)]
    exact ⟨rfl, rfl⟩
  simp only [Ex.thn]
  refine ⟨ex.length - (j + 1), by omega, j + 1, rfl, hlj', trivial, ?_, ?_, ?_, ?_⟩
  · simp [Tr.get_set, h0]
  · simp only [Tr.get_set, if_true, if_false, reduceIte, Nat.reduceEqDiff]
    rw [htk, ← hU]
    simp [linePair]
  · simp [Tr.get_set, h4]
  · simp [Tr.get_set]
end Go.Vz
