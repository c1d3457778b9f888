/-
  Same, told; SummaryText.
-/
import Derived.Test.YtgagkmbhlpmceaaGreatDoorVzPaLaw
set_option linter.unusedVariables false
set_option linter.unusedSimpArgs false
namespace Go.Vz
open Go Go.Proofs
set_option maxHeartbeats 4000000
set_option maxRecDepth 20000
theorem fl_70 : flatS Tryz.prog 70 = some [{ name := "In", type := 3, offset := 0, embedded := false, tag := "", pkgPath := "", byteOffset := 0 }, { name := "Out", type := 3, offset := 1, embedded := false, tag := "", pkgPath := "", byteOffset := 8 }] := by kernel_rfl
theorem gd_70 : Tryz.prog.eqGuardType Tryz.prog.depth 70 = false := by kernel_rfl
theorem eq70 (a b c d : Int) : eqA Tryz.prog 70 (.agg [.int .i64 a, .int .i64 b]) (.agg [.int .i64 c, .int .i64 d]) = some (a == c && (b == d && true)) := by
  simp only [eqA, Tryz.underlying70, fl_70, gd_70, cond_false, eqFieldsA, eqScalar, Tryz.underlying3, if_true]
def p32 : PFn := ⟨32, fun
  | [x, y] => match iprs x, iprs y with
    | some a, some b => some (.bool (decide (a = b)))
    | _, _ => none
  | _ => none⟩
theorem spec32 {x y : AV} {a b : List (Int × Int)} (hx : iprs x = some a) (hy : iprs y = some b) : p32.spec [x, y] = some (.bool (decide (a = b))) := by
  show (match iprs x, iprs y with | some a, some b => some (AV.bool (decide (a = b))) | _, _ => none) = _
  rw [hx, hy]
theorem eq_drop {α : Type} {a b : List α} {i : Nat} (ha : i < a.length) (hb : i < b.length) : (a.drop i = b.drop i) ↔ (a[i] = b[i] ∧ a.drop (i + 1) = b.drop (i + 1)) := by
  rw [List.drop_eq_getElem_cons ha, List.drop_eq_getElem_cons hb, List.cons.injEq]
theorem p32_ok : p32.Ok := by
  refine PFn.Ok.ofT (qs := []) (ps := []) (fun q h => by cases h) (fun p h => by cases h) (fun args x h => ?_)
  have h' : ∃ x0 x1 a b, args = [x0, x1] ∧ iprs x0 = some a ∧ iprs x1 = some b ∧ x = .bool (decide (a = b)) := by
    simp only [p32] at h
    split at h
    · rename_i x0 x1
      split at h
      · rename_i a b hx hy
        simp only [Option.some.injEq] at h
        exact ⟨x0, x1, a, b, rfl, hx, hy, h.symm⟩
      · cases h
    · cases h
  clear h
  obtain ⟨x0, x1, a, b, rfl, hx, hy, rfl⟩ := h'
  obtain ⟨hx, ha⟩ := iprs_ipr hx
  obtain ⟨hy, hb⟩ := iprs_ipr hy
  refine ⟨rfl, EvC.run (by kernel_rfl) (by rw [CT_P]; exact Tryz.func32) rfl ?_⟩
  apply EvX.seq
  apply EvX.reg0
  · intro call
    simp only [QRun, stepA, wantedA, opA, pureA, loadA, effA, binA, bin, evalA, ofV, ofCell, Fr.put, setArgs, kS, Nat.zero_testBit, Nat.reduceAdd, Nat.reduceSub, Nat.reduceLeDiff, decide_true, decide_false, Nat.reduceEqDiff, if_true, if_false, reduceIte, operands, Tryz.ntmps32]
    exact ⟨rfl, rfl⟩
  simp only [Ex.thn]
  apply EvX.seq
  apply EvX.seq
  by_cases b1 : a.length = b.length
  rotate_left
  · have d1 : (((a.length : Nat) : Int) != ((b.length : Nat) : Int)) = true := by simp only [bne_iff_ne, ne_eq]; omega
    have hne : ¬ a = b := fun e => b1 (by rw [e])
    apply EvX.reg0
    · intro call
      simp only [QRun, stepA, wantedA, opA, pureA, loadA, effA, binA, bin, evalA, ofV, ofCell, Fr.put, setArgs, kS, Nat.zero_testBit, Nat.reduceAdd, Nat.reduceSub, Nat.reduceLeDiff, decide_true, decide_false, Nat.reduceEqDiff, if_true, if_false, reduceIte, operands, ipr_len hx sl_t95, ipr_len hy sl_t95, d1, AV.cells, takeN, beq_self_eq_true, eq_self, kA1, kA2, st_9, Tryz.underlying22, sl_t95, sl_t28]
      exact ⟨rfl, rfl⟩
    simp only [Ex.thn]
    apply EvX.cond2 (t := true)
    · simp only [evalA, Tr.get_set, Nat.reduceEqDiff, if_true, if_false, reduceIte]
    rotate_left
    · intro h; cases h
    intro _
    apply EvX.seq
    apply EvX.reg0
    · intro call
      simp only [QRun, stepA, wantedA, opA, pureA, loadA, effA, binA, bin, evalA, ofV, ofCell, Fr.put, setArgs, kS, Nat.zero_testBit, Nat.reduceAdd, Nat.reduceSub, Nat.reduceLeDiff, decide_true, decide_false, Nat.reduceEqDiff, if_true, if_false, reduceIte, operands]
      exact ⟨rfl, rfl⟩
    simp only [Ex.thn]
    apply EvX.ret
    simp only [Ex.thn, Ex.blk]
    exact Fin.one rfl (by rw [decide_eq_false hne]; simp only [Tr.get_set, if_true, reduceIte])
  have d1 : (((a.length : Nat) : Int) != ((b.length : Nat) : Int)) = false := by simp only [bne_eq_false_iff_eq]; omega
  apply EvX.reg0
  · intro call
    simp only [QRun, stepA, wantedA, opA, pureA, loadA, effA, binA, bin, evalA, ofV, ofCell, Fr.put, setArgs, kS, Nat.zero_testBit, Nat.reduceAdd, Nat.reduceSub, Nat.reduceLeDiff, decide_true, decide_false, Nat.reduceEqDiff, if_true, if_false, reduceIte, operands, ipr_len hx sl_t95, ipr_len hy sl_t95, d1, AV.cells, takeN, beq_self_eq_true, eq_self, kA1, kA2, st_9, Tryz.underlying22, sl_t95, sl_t28]
    exact ⟨rfl, rfl⟩
  simp only [Ex.thn]
  apply EvX.cond2 (t := false)
  · simp only [evalA, Tr.get_set, Nat.reduceEqDiff, if_true, if_false, reduceIte]
  · intro h; cases h
  intro _
  apply EvX.skip
  simp only [Ex.thn, Ex.blk]
  apply EvX.seq
  apply EvX.seq
  apply EvX.reg0
  · intro call
    simp only [QRun, stepA, wantedA, opA, pureA, loadA, effA, binA, bin, evalA, ofV, ofCell, Fr.put, setArgs, kS, Nat.zero_testBit, Nat.reduceAdd, Nat.reduceSub, Nat.reduceLeDiff, decide_true, decide_false, Nat.reduceEqDiff, if_true, if_false, reduceIte, operands]
    exact ⟨rfl, rfl⟩
  simp only [Ex.thn]
  apply EvX.block
  refine EvX.loop (fun k fr m => ∃ i : Nat, k = a.length - i ∧ i ≤ a.length ∧ fr.n = 26 ∧ fr.t.get 0 = some x0 ∧ fr.t.get 1 = some x1 ∧ fr.t.get 5 = some (.int .i64 (i : Int)) ∧ ((a.drop i = b.drop i) ↔ (a = b))) ?_ a.length _ _
    ⟨0, by simp, by simp, rfl, by simp [Tr.get_set], by simp [Tr.get_set], by simp [Tr.get_set], Iff.rfl⟩
  rintro k fr m ⟨i, rfl, hil, hfn, h0, h1, h5, hgo⟩
  apply EvX.seq
  apply EvX.seq
  apply EvX.reg0
  · intro call
    simp only [QRun, stepA, wantedA, opA, pureA, loadA, effA, binA, bin, evalA, ofV, ofCell, Fr.put, setArgs, kS, Nat.zero_testBit, Nat.reduceAdd, Nat.reduceSub, Nat.reduceLeDiff, decide_true, decide_false, Nat.reduceEqDiff, if_true, if_false, reduceIte, operands, hfn, h0, h5, ipr_len hx sl_t95, AV.cells, takeN, beq_self_eq_true, eq_self, kA1, kA2, st_9, Tryz.underlying22, sl_t95, sl_t28]
    exact ⟨rfl, rfl⟩
  simp only [Ex.thn]
  apply EvX.cond2
  · simp only [evalA, Tr.get_set, Nat.reduceEqDiff, if_true, if_false, reduceIte]; exact rfl
  rotate_left
  · intro hge
    have hge := of_decide_eq_false hge
    have hi : i = a.length := by omega
    subst hi
    have heq : a = b := hgo.1 (by rw [List.drop_length, b1, List.drop_length])
    apply EvX.exit
    simp only [Ex.thn, Ex.blk, beq_dec, decide_true, cond_true]
    apply EvX.seq
    apply EvX.reg0
    · intro call
      simp only [QRun, stepA, wantedA, opA, pureA, loadA, effA, binA, bin, evalA, ofV, ofCell, Fr.put, setArgs, kS, Nat.zero_testBit, Nat.reduceAdd, Nat.reduceSub, Nat.reduceLeDiff, decide_true, decide_false, Nat.reduceEqDiff, if_true, if_false, reduceIte, operands, hfn]
      exact ⟨rfl, rfl⟩
    simp only [Ex.thn]
    apply EvX.ret
    exact Fin.one rfl (by rw [decide_eq_true heq]; simp only [Tr.get_set, if_true, reduceIte])
  intro hlt
  have hlt := of_decide_eq_true hlt
  have hlt : i < a.length := by omega
  have hltb : i < b.length := by omega
  have hlt' : i + 1 ≤ a.length := hlt
  have hltb' : i + 1 ≤ b.length := hltb
  have hmul : i * 2 ≤ a.length * 2 := by omega
  have hmulb : i * 2 ≤ b.length * 2 := by omega
  have h0' := h0
  rw [ipr_at hx hlt] at h0'
  have h1' := h1
  rw [ipr_at hy hltb] at h1'
  have hdr := dropPair hlt
  have hdr2 := dropPair hltb
  rw [eq_drop hlt hltb] at hgo
  generalize hp : a[i] = p at hgo hdr
  generalize hq : b[i] = q at hgo hdr2
  obtain ⟨pa, pb⟩ := p
  obtain ⟨qa, qb⟩ := q
  simp only at hdr hdr2
  apply EvX.skip
  simp only [Ex.thn]
  apply EvX.seq
  apply EvX.block
  apply EvX.seq
  by_cases b2 : (pa, pb) = (qa, qb)
  rotate_left
  · have d2 : (!(pa == qa && (pb == qb && true))) = true := by
      rw [Bool.and_true, Bool.not_eq_true', Bool.and_eq_false_iff, beq_eq_false_iff_ne, beq_eq_false_iff_ne]
      rcases Classical.em (pa = qa) with e | e
      · exact .inr (fun e2 => b2 (by rw [e, e2]))
      · exact .inl e
    have hne : ¬ a = b := fun e => b2 (hgo.2 e).1
    apply EvX.drw 0 0
    · kernel_rfl
    · intro k _
      simp only [QRun, stepA, wantedA, opA, pureA, loadA, effA, binA, bin, evalA, ofV, ofCell, Fr.put, setArgs, kS, Nat.zero_testBit, Nat.reduceAdd, Nat.reduceSub, Nat.reduceLeDiff, decide_true, decide_false, Nat.reduceEqDiff, if_true, if_false, reduceIte, operands, hfn, h0', h1', h5, natOf?, natOf_cast, hlt', hltb', hmul, hmulb, encPairs_length, hdr, hdr2, eq70, List.drop_zero, List.drop_succ_cons, List.length_cons, takeN, Option.map_some, Nat.le_add_left, Nat.zero_le, AV.cells, takeN, load_rp, Nat.zero_le, Nat.le_refl, Nat.zero_add, Nat.add_zero, Nat.mul_one, Nat.one_mul, List.getElem?_toArray, List.getElem?_cons_zero, List.getElem?_cons_succ, beq_self_eq_true, Bool.true_and, Bool.and_self, eq_self, show (true == false) = false from rfl, show (false == true) = false from rfl, show (false == false) = true from rfl, Tryz.underlying70, Tryz.underlying28, sl_t31, sl_t95, sz_3, sz_70, ag_3, ag_70, ze_70, ze_3, by_3, Tryz.underlying30, sz_30, ag_30, ze_30, sz_28, ag_28, st_9, Tryz.underlying22, sl_t95, sl_t28, d2]
      exact ⟨rfl, rfl⟩
    simp only [Ex.thn]
    apply EvX.cond2 (t := true)
    · simp only [evalA, Tr.get_set, Nat.reduceEqDiff, if_true, if_false, reduceIte]
    rotate_left
    · intro h; cases h
    intro _
    apply EvX.seq
    apply EvX.reg0
    · intro call
      simp only [QRun, stepA, wantedA, opA, pureA, loadA, effA, binA, bin, evalA, ofV, ofCell, Fr.put, setArgs, kS, Nat.zero_testBit, Nat.reduceAdd, Nat.reduceSub, Nat.reduceLeDiff, decide_true, decide_false, Nat.reduceEqDiff, if_true, if_false, reduceIte, operands, hfn]
      exact ⟨rfl, rfl⟩
    simp only [Ex.thn]
    apply EvX.ret
    simp only [Ex.thn, Ex.blk]
    exact Fin.one rfl (by rw [decide_eq_false hne]; simp only [Tr.get_set, if_true, reduceIte])
  have d2 : (!(pa == qa && (pb == qb && true))) = false := by
    rw [Prod.mk.injEq] at b2
    rw [b2.1, b2.2]
    simp
  apply EvX.drw 0 0
  · kernel_rfl
  · intro k _
    simp only [QRun, stepA, wantedA, opA, pureA, loadA, effA, binA, bin, evalA, ofV, ofCell, Fr.put, setArgs, kS, Nat.zero_testBit, Nat.reduceAdd, Nat.reduceSub, Nat.reduceLeDiff, decide_true, decide_false, Nat.reduceEqDiff, if_true, if_false, reduceIte, operands, hfn, h0', h1', h5, natOf?, natOf_cast, hlt', hltb', hmul, hmulb, encPairs_length, hdr, hdr2, eq70, List.drop_zero, List.drop_succ_cons, List.length_cons, takeN, Option.map_some, Nat.le_add_left, Nat.zero_le, AV.cells, takeN, load_rp, Nat.zero_le, Nat.le_refl, Nat.zero_add, Nat.add_zero, Nat.mul_one, Nat.one_mul, List.getElem?_toArray, List.getElem?_cons_zero, List.getElem?_cons_succ, beq_self_eq_true, Bool.true_and, Bool.and_self, eq_self, show (true == false) = false from rfl, show (false == true) = false from rfl, show (false == false) = true from rfl, Tryz.underlying70, Tryz.underlying28, sl_t31, sl_t95, sz_3, sz_70, ag_3, ag_70, ze_70, ze_3, by_3, Tryz.underlying30, sz_30, ag_30, ze_30, sz_28, ag_28, st_9, Tryz.underlying22, sl_t95, sl_t28, d2]
    exact ⟨rfl, rfl⟩
  simp only [Ex.thn]
  apply EvX.cond2 (t := false)
  · simp only [evalA, Tr.get_set, Nat.reduceEqDiff, if_true, if_false, reduceIte]
  · intro h; cases h
  intro _
  apply EvX.skip
  simp only [Ex.thn, Ex.blk]
  apply EvX.reg0
  · intro call
    simp only [QRun, stepA, wantedA, opA, pureA, loadA, effA, binA, bin, evalA, ofV, ofCell, Fr.put, setArgs, kS, Nat.zero_testBit, Nat.reduceAdd, Nat.reduceSub, Nat.reduceLeDiff, decide_true, decide_false, Nat.reduceEqDiff, if_true, if_false, reduceIte, operands, hfn, h5, wrap_succ (show i + 1 ≤ 9223372036854775807 by omega)]
    exact ⟨rfl, rfl⟩
  simp only [Ex.thn]
  refine ⟨a.length - (i + 1), by omega, i + 1, rfl, hlt', trivial, ?_, ?_, ?_, ?_⟩
  · simp [Tr.get_set, h0]
  · simp [Tr.get_set, h1]
  · simp [Tr.get_set]
  · exact ⟨fun h => hgo.1 ⟨b2, h⟩, fun h => (hgo.2 h).2⟩
/-! ### lists of summaries -/
theorem decS_at : ∀ {xs : List AV} {l : List Sm} (h : decS xs = some l) {i : Nat} (hi : i < l.length), ∃ e t, xs.drop (i * 3) = .int .i64 l[i].fn :: e :: t :: xs.drop ((i + 1) * 3) ∧ iprs e = some l[i].ex ∧ iprs t = some l[i].th
  | [], l, h, i, hi => by simp only [decS, Option.some.injEq] at h; subst h; simp at hi
  | [_], _, h, _, _ => by unfold decS at h; split at h <;> simp_all
  | [_, _], _, h, _, _ => by unfold decS at h; split at h <;> simp_all
  | x :: e :: t :: r, l, h, i, hi => by
    unfold decS at h
    split at h
    · rename_i heq; cases heq
    · rename_i a e' t' r' heq
      simp only [List.cons.injEq] at heq
      obtain ⟨rfl, rfl, rfl, rfl⟩ := heq
      split at h
      · rename_i le lt l' h1 h2 h3
        simp only [Option.some.injEq] at h
        subst h
        cases i with
        | zero => exact ⟨e, t, rfl, h1, h2⟩
        | succ i =>
          obtain ⟨e2, t2, q1, q2, q3⟩ := decS_at h3 (i := i) (by simpa using hi)
          refine ⟨e2, t2, ?_, q2, q3⟩
          rw [show (i + 1) * 3 = i * 3 + 1 + 1 + 1 by omega, show (i + 1 + 1) * 3 = (i + 1) * 3 + 1 + 1 + 1 by omega]
          simp only [List.drop_succ_cons, List.getElem_cons_succ]
          exact q1
      · cases h
    · cases h
theorem isums_at {x : AV} {l : List Sm} (h : isums x = some l) {i : Nat} (hi : i < l.length) : ∃ xs, x = .ro xs l.length 3 ∧ decS xs = some l ∧ xs.length = l.length * 3 := by
  unfold isums at h
  split at h
  · cases h; simp at hi
  · rename_i xs n
    cases hd : decS xs with
    | none => simp [hd] at h
    | some l' =>
      simp only [hd] at h
      cases hb : Nat.beq l'.length n && Nat.ble n 9223372036854775807 with
      | false => simp [hb] at h
      | true =>
        simp only [hb, cond_true, Option.some.injEq] at h
        subst h
        rw [Bool.and_eq_true_iff] at hb
        have := Nat.eq_of_beq_eq_true hb.1
        subst this
        exact ⟨xs, rfl, hd, (decS_ok hd).2⟩
  · cases h
theorem isums_len {x : AV} {l : List Sm} (h : isums x = some l) : lenA Tryz.prog 22 x = some (.int .i64 l.length) := by
  rcases Nat.eq_zero_or_pos l.length with h0 | h0
  · unfold isums at h
    split at h
    · cases h; simp only [lenA, Tryz.underlying22]; rfl
    · rename_i xs n
      cases hd : decS xs with
      | none => simp [hd] at h
      | some l' =>
        simp only [hd] at h
        cases hb : Nat.beq l'.length n && Nat.ble n 9223372036854775807 with
        | false => simp [hb] at h
        | true =>
          simp only [hb, cond_true, Option.some.injEq] at h
          subst h
          rw [Bool.and_eq_true_iff] at hb
          have := Nat.eq_of_beq_eq_true hb.1
          subst this
          simp only [lenA, Tryz.underlying22]
    · cases h
  · obtain ⟨xs, rfl, _⟩ := isums_at h h0
    simp only [lenA, Tryz.underlying22]
theorem Sm.eq_iff (s u : Sm) : s = u ↔ s.fn = u.fn ∧ s.ex = u.ex ∧ s.th = u.th := by
  cases s; cases u; simp
instance : DecidableEq Sm := fun s u => decidable_of_iff _ (Sm.eq_iff s u).symm
def p20 : PFn := ⟨20, fun
  | [x, y] => match isums x, isums y with
    | some a, some b => some (.bool (decide (a = b)))
    | _, _ => none
  | _ => none⟩
theorem spec20 {x y : AV} {a b : List Sm} (hx : isums x = some a) (hy : isums y = some b) : p20.spec [x, y] = some (.bool (decide (a = b))) := by
  show (match isums x, isums y with | some a, some b => some (AV.bool (decide (a = b))) | _, _ => none) = _
  rw [hx, hy]
theorem cl_32 (args : List AV) : calleeA Tryz.prog (.fn (.func 32) [] []) args = some (.enter 32 args) := by rw [callee_of Tryz.func32 (by kernel_rfl) (by kernel_rfl)]; simp
theorem cl_20 (args : List AV) : calleeA Tryz.prog (.fn (.func 20) [] []) args = some (.enter 20 args) := by rw [callee_of Tryz.func20 (by kernel_rfl) (by kernel_rfl)]; simp
theorem cl_17 (args : List AV) : calleeA Tryz.prog (.fn (.func 17) [] []) args = some (.enter 17 args) := by rw [callee_of Tryz.func17 (by kernel_rfl) (by kernel_rfl)]; simp
theorem cl_18 (args : List AV) : calleeA Tryz.prog (.fn (.func 18) [] []) args = some (.enter 18 args) := by rw [callee_of Tryz.func18 (by kernel_rfl) (by kernel_rfl)]; simp
theorem p20_ok : p20.Ok := by
  refine PFn.Ok.ofT (qs := []) (ps := [p32]) (fun q h => by cases h) (fun p h => by simp at h; subst h; exact p32_ok.tree) (fun args x h => ?_)
  have h' : ∃ x0 x1 a b, args = [x0, x1] ∧ isums x0 = some a ∧ isums x1 = some b ∧ x = .bool (decide (a = b)) := by
    simp only [p20] at h
    split at h
    · rename_i x0 x1
      split at h
      · rename_i a b hx hy
        simp only [Option.some.injEq] at h
        exact ⟨x0, x1, a, b, rfl, hx, hy, h.symm⟩
      · cases h
    · cases h
  clear h
  obtain ⟨x0, x1, a, b, rfl, hx, hy, rfl⟩ := h'
  have ha := (isums_ok hx).1
  have hb := (isums_ok hy).1
  refine ⟨rfl, EvC.run (by kernel_rfl) (by rw [CT_P]; exact Tryz.func20) rfl ?_⟩
  apply EvX.seq
  apply EvX.reg0
  · intro call
    simp only [QRun, stepA, wantedA, opA, pureA, loadA, effA, binA, bin, evalA, ofV, ofCell, Fr.put, setArgs, kS, Nat.zero_testBit, Nat.reduceAdd, Nat.reduceSub, Nat.reduceLeDiff, decide_true, decide_false, Nat.reduceEqDiff, if_true, if_false, reduceIte, operands, Tryz.ntmps20]
    exact ⟨rfl, rfl⟩
  simp only [Ex.thn]
  apply EvX.seq
  apply EvX.seq
  by_cases b1 : a.length = b.length
  rotate_left
  · have d1 : (((a.length : Nat) : Int) != ((b.length : Nat) : Int)) = true := by simp only [bne_iff_ne, ne_eq]; omega
    have hne : ¬ a = b := fun e => b1 (by rw [e])
    apply EvX.reg0
    · intro call
      simp only [QRun, stepA, wantedA, opA, pureA, loadA, effA, binA, bin, evalA, ofV, ofCell, Fr.put, setArgs, kS, Nat.zero_testBit, Nat.reduceAdd, Nat.reduceSub, Nat.reduceLeDiff, decide_true, decide_false, Nat.reduceEqDiff, if_true, if_false, reduceIte, operands, isums_len hx, isums_len hy, d1, AV.cells, takeN, beq_self_eq_true, eq_self, kA1, kA2, st_9, Tryz.underlying22, sl_t95, sl_t28]
      exact ⟨rfl, rfl⟩
    simp only [Ex.thn]
    apply EvX.cond2 (t := true)
    · simp only [evalA, Tr.get_set, Nat.reduceEqDiff, if_true, if_false, reduceIte]
    rotate_left
    · intro h; cases h
    intro _
    apply EvX.seq
    apply EvX.reg0
    · intro call
      simp only [QRun, stepA, wantedA, opA, pureA, loadA, effA, binA, bin, evalA, ofV, ofCell, Fr.put, setArgs, kS, Nat.zero_testBit, Nat.reduceAdd, Nat.reduceSub, Nat.reduceLeDiff, decide_true, decide_false, Nat.reduceEqDiff, if_true, if_false, reduceIte, operands]
      exact ⟨rfl, rfl⟩
    simp only [Ex.thn]
    apply EvX.ret
    simp only [Ex.thn, Ex.blk]
    exact Fin.one rfl (by rw [decide_eq_false hne]; simp only [Tr.get_set, if_true, reduceIte])
  have d1 : (((a.length : Nat) : Int) != ((b.length : Nat) : Int)) = false := by simp only [bne_eq_false_iff_eq]; omega
  apply EvX.reg0
  · intro call
    simp only [QRun, stepA, wantedA, opA, pureA, loadA, effA, binA, bin, evalA, ofV, ofCell, Fr.put, setArgs, kS, Nat.zero_testBit, Nat.reduceAdd, Nat.reduceSub, Nat.reduceLeDiff, decide_true, decide_false, Nat.reduceEqDiff, if_true, if_false, reduceIte, operands, isums_len hx, isums_len hy, d1, AV.cells, takeN, beq_self_eq_true, eq_self, kA1, kA2, st_9, Tryz.underlying22, sl_t95, sl_t28]
    exact ⟨rfl, rfl⟩
  simp only [Ex.thn]
  apply EvX.cond2 (t := false)
  · simp only [evalA, Tr.get_set, Nat.reduceEqDiff, if_true, if_false, reduceIte]
  · intro h; cases h
  intro _
  apply EvX.skip
  simp only [Ex.thn, Ex.blk]
  apply EvX.seq
  apply EvX.seq
  apply EvX.reg0
  · intro call
    simp only [QRun, stepA, wantedA, opA, pureA, loadA, effA, binA, bin, evalA, ofV, ofCell, Fr.put, setArgs, kS, Nat.zero_testBit, Nat.reduceAdd, Nat.reduceSub, Nat.reduceLeDiff, decide_true, decide_false, Nat.reduceEqDiff, if_true, if_false, reduceIte, operands]
    exact ⟨rfl, rfl⟩
  simp only [Ex.thn]
  apply EvX.block
  refine EvX.loop (fun k fr m => ∃ i : Nat, k = a.length - i ∧ i ≤ a.length ∧ fr.n = 56 ∧ fr.t.get 0 = some x0 ∧ fr.t.get 1 = some x1 ∧ fr.t.get 5 = some (.int .i64 (i : Int)) ∧ ((a.drop i = b.drop i) ↔ (a = b))) ?_ a.length _ _
    ⟨0, by simp, by simp, rfl, by simp [Tr.get_set], by simp [Tr.get_set], by simp [Tr.get_set], Iff.rfl⟩
  rintro k fr m ⟨i, rfl, hil, hfn, h0, h1, h5, hgo⟩
  apply EvX.seq
  apply EvX.seq
  apply EvX.reg0
  · intro call
    simp only [QRun, stepA, wantedA, opA, pureA, loadA, effA, binA, bin, evalA, ofV, ofCell, Fr.put, setArgs, kS, Nat.zero_testBit, Nat.reduceAdd, Nat.reduceSub, Nat.reduceLeDiff, decide_true, decide_false, Nat.reduceEqDiff, if_true, if_false, reduceIte, operands, hfn, h0, h5, isums_len hx, AV.cells, takeN, beq_self_eq_true, eq_self, kA1, kA2, st_9, Tryz.underlying22, sl_t95, sl_t28]
    exact ⟨rfl, rfl⟩
  simp only [Ex.thn]
  apply EvX.cond2
  · simp only [evalA, Tr.get_set, Nat.reduceEqDiff, if_true, if_false, reduceIte]; exact rfl
  rotate_left
  · intro hge
    have hge := of_decide_eq_false hge
    have hi : i = a.length := by omega
    subst hi
    have heq : a = b := hgo.1 (by rw [List.drop_length, b1, List.drop_length])
    apply EvX.exit
    simp only [Ex.thn, Ex.blk, beq_dec, decide_true, cond_true]
    apply EvX.seq
    apply EvX.reg0
    · intro call
      simp only [QRun, stepA, wantedA, opA, pureA, loadA, effA, binA, bin, evalA, ofV, ofCell, Fr.put, setArgs, kS, Nat.zero_testBit, Nat.reduceAdd, Nat.reduceSub, Nat.reduceLeDiff, decide_true, decide_false, Nat.reduceEqDiff, if_true, if_false, reduceIte, operands, hfn]
      exact ⟨rfl, rfl⟩
    simp only [Ex.thn]
    apply EvX.ret
    exact Fin.one rfl (by rw [decide_eq_true heq]; simp only [Tr.get_set, if_true, reduceIte])
  intro hlt
  have hlt := of_decide_eq_true hlt
  have hlt : i < a.length := by omega
  have hltb : i < b.length := by omega
  have hlt' : i + 1 ≤ a.length := hlt
  have hltb' : i + 1 ≤ b.length := hltb
  have hmul : i * 3 ≤ a.length * 3 := by omega
  have hmulb : i * 3 ≤ b.length * 3 := by omega
  obtain ⟨xs, hx0, hdx, hxl⟩ := isums_at hx hlt
  obtain ⟨ys, hy0, hdy, hyl⟩ := isums_at hy hltb
  have h0' := h0
  rw [hx0] at h0'
  have h1' := h1
  rw [hy0] at h1'
  obtain ⟨e, t, hdr, he, ht⟩ := decS_at hdx hlt
  obtain ⟨e2, t2, hdr2, he2, ht2⟩ := decS_at hdy hltb
  rw [eq_drop hlt hltb, Sm.eq_iff] at hgo
  generalize hp : a[i] = p at hgo hdr he ht
  generalize hq : b[i] = q at hgo hdr2 he2 ht2
  have ce := fun k => callTp (qs := []) (ps := [p32]) (p := p32) (f := 32) rfl (D := drawA (CT [] [p32])) k m (args := [e, e2]) (args' := [e, e2]) (by simp only [mapO, ipr_view (iprs_ipr he).1 6, ipr_view (iprs_ipr he2).1 6]) (spec32 he he2) rfl
  have ct := fun k => callTp (qs := []) (ps := [p32]) (p := p32) (f := 32) rfl (D := drawA (CT [] [p32])) k m (args := [t, t2]) (args' := [t, t2]) (by simp only [mapO, ipr_view (iprs_ipr ht).1 6, ipr_view (iprs_ipr ht2).1 6]) (spec32 ht ht2) rfl
  apply EvX.skip
  simp only [Ex.thn]
  apply EvX.seq
  apply EvX.block
  apply EvX.seq
  by_cases c1 : p.fn = q.fn
  rotate_left
  · have d2 : (p.fn != q.fn) = true := by simpa using c1
    have hne : ¬ a = b := fun e => c1 (hgo.2 e).1.1
    apply EvX.drw 68723671040 0
    · kernel_rfl
    · intro k _
      simp only [QRun, stepA, wantedA, opA, pureA, loadA, effA, binA, bin, evalA, ofV, ofCell, Fr.put, setArgs, kS, Nat.zero_testBit, Nat.reduceAdd, Nat.reduceSub, Nat.reduceLeDiff, decide_true, decide_false, Nat.reduceEqDiff, if_true, if_false, reduceIte, operands, hfn, h0', h1', h5, natOf?, natOf_cast, hlt', hltb', hmul, hmulb, hxl, hyl, hdr, hdr2, cl_32, List.drop_zero, List.drop_succ_cons, List.length_cons, takeN, Option.map_some, Nat.le_add_left, Nat.zero_le, unA, AV.cells, takeN, beq_self_eq_true, eq_self, kA1, kA2, st_9, Tryz.underlying22, sl_t95, sl_t28, show Nat.testBit 68723671040 0 = false from rfl, show Nat.testBit 68723671040 1 = false from rfl, show Nat.testBit 68723671040 2 = false from rfl, show Nat.testBit 68723671040 3 = false from rfl, show Nat.testBit 68723671040 4 = false from rfl, show Nat.testBit 68723671040 5 = false from rfl, show Nat.testBit 68723671040 6 = false from rfl, show Nat.testBit 68723671040 7 = false from rfl, show Nat.testBit 68723671040 8 = false from rfl, show Nat.testBit 68723671040 9 = false from rfl, show Nat.testBit 68723671040 10 = false from rfl, show Nat.testBit 68723671040 11 = false from rfl, show Nat.testBit 68723671040 12 = false from rfl, show Nat.testBit 68723671040 13 = false from rfl, show Nat.testBit 68723671040 14 = false from rfl, show Nat.testBit 68723671040 15 = false from rfl, show Nat.testBit 68723671040 16 = false from rfl, show Nat.testBit 68723671040 17 = false from rfl, show Nat.testBit 68723671040 18 = false from rfl, show Nat.testBit 68723671040 19 = false from rfl, show Nat.testBit 68723671040 20 = false from rfl, show Nat.testBit 68723671040 21 = false from rfl, show Nat.testBit 68723671040 22 = true from rfl, show Nat.testBit 68723671040 23 = false from rfl, show Nat.testBit 68723671040 24 = false from rfl, show Nat.testBit 68723671040 25 = false from rfl, show Nat.testBit 68723671040 26 = false from rfl, show Nat.testBit 68723671040 27 = false from rfl, show Nat.testBit 68723671040 28 = false from rfl, show Nat.testBit 68723671040 29 = false from rfl, show Nat.testBit 68723671040 30 = false from rfl, show Nat.testBit 68723671040 31 = false from rfl, show Nat.testBit 68723671040 32 = false from rfl, show Nat.testBit 68723671040 33 = false from rfl, show Nat.testBit 68723671040 34 = false from rfl, show Nat.testBit 68723671040 35 = false from rfl, show Nat.testBit 68723671040 36 = true from rfl, show Nat.testBit 68723671040 37 = false from rfl, show Nat.testBit 68723671040 38 = false from rfl, show Nat.testBit 68723671040 39 = false from rfl, d2]
      exact ⟨rfl, rfl⟩
    simp only [Ex.thn]
    apply EvX.cond2 (t := true)
    · simp only [evalA, Tr.get_set, Nat.reduceEqDiff, if_true, if_false, reduceIte]
    rotate_left
    · intro h; cases h
    intro _
    apply EvX.seq
    apply EvX.reg0
    · intro call
      simp only [QRun, stepA, wantedA, opA, pureA, loadA, effA, binA, bin, evalA, ofV, ofCell, Fr.put, setArgs, kS, Nat.zero_testBit, Nat.reduceAdd, Nat.reduceSub, Nat.reduceLeDiff, decide_true, decide_false, Nat.reduceEqDiff, if_true, if_false, reduceIte, operands, hfn]
      exact ⟨rfl, rfl⟩
    simp only [Ex.thn]
    apply EvX.ret
    simp only [Ex.thn, Ex.blk]
    exact Fin.one rfl (by rw [decide_eq_false hne]; simp only [Tr.get_set, if_true, reduceIte])
  have d2 : (p.fn != q.fn) = false := by simpa using c1
  by_cases c2 : p.ex = q.ex
  rotate_left
  · have d3 := decide_eq_false c2
    have hne : ¬ a = b := fun e => c2 (hgo.2 e).1.2.1
    rw [d3] at ce
    apply EvX.drw 68723671040 0
    · kernel_rfl
    · intro k _
      simp only [QRun, stepA, wantedA, opA, pureA, loadA, effA, binA, bin, evalA, ofV, ofCell, Fr.put, setArgs, kS, Nat.zero_testBit, Nat.reduceAdd, Nat.reduceSub, Nat.reduceLeDiff, decide_true, decide_false, Nat.reduceEqDiff, if_true, if_false, reduceIte, operands, hfn, h0', h1', h5, natOf?, natOf_cast, hlt', hltb', hmul, hmulb, hxl, hyl, hdr, hdr2, cl_32, List.drop_zero, List.drop_succ_cons, List.length_cons, takeN, Option.map_some, Nat.le_add_left, Nat.zero_le, unA, AV.cells, takeN, beq_self_eq_true, eq_self, kA1, kA2, st_9, Tryz.underlying22, sl_t95, sl_t28, show Nat.testBit 68723671040 0 = false from rfl, show Nat.testBit 68723671040 1 = false from rfl, show Nat.testBit 68723671040 2 = false from rfl, show Nat.testBit 68723671040 3 = false from rfl, show Nat.testBit 68723671040 4 = false from rfl, show Nat.testBit 68723671040 5 = false from rfl, show Nat.testBit 68723671040 6 = false from rfl, show Nat.testBit 68723671040 7 = false from rfl, show Nat.testBit 68723671040 8 = false from rfl, show Nat.testBit 68723671040 9 = false from rfl, show Nat.testBit 68723671040 10 = false from rfl, show Nat.testBit 68723671040 11 = false from rfl, show Nat.testBit 68723671040 12 = false from rfl, show Nat.testBit 68723671040 13 = false from rfl, show Nat.testBit 68723671040 14 = false from rfl, show Nat.testBit 68723671040 15 = false from rfl, show Nat.testBit 68723671040 16 = false from rfl, show Nat.testBit 68723671040 17 = false from rfl, show Nat.testBit 68723671040 18 = false from rfl, show Nat.testBit 68723671040 19 = false from rfl, show Nat.testBit 68723671040 20 = false from rfl, show Nat.testBit 68723671040 21 = false from rfl, show Nat.testBit 68723671040 22 = true from rfl, show Nat.testBit 68723671040 23 = false from rfl, show Nat.testBit 68723671040 24 = false from rfl, show Nat.testBit 68723671040 25 = false from rfl, show Nat.testBit 68723671040 26 = false from rfl, show Nat.testBit 68723671040 27 = false from rfl, show Nat.testBit 68723671040 28 = false from rfl, show Nat.testBit 68723671040 29 = false from rfl, show Nat.testBit 68723671040 30 = false from rfl, show Nat.testBit 68723671040 31 = false from rfl, show Nat.testBit 68723671040 32 = false from rfl, show Nat.testBit 68723671040 33 = false from rfl, show Nat.testBit 68723671040 34 = false from rfl, show Nat.testBit 68723671040 35 = false from rfl, show Nat.testBit 68723671040 36 = true from rfl, show Nat.testBit 68723671040 37 = false from rfl, show Nat.testBit 68723671040 38 = false from rfl, show Nat.testBit 68723671040 39 = false from rfl, d2, ce]
      exact ⟨rfl, rfl⟩
    simp only [Ex.thn]
    apply EvX.cond2 (t := true)
    · simp only [evalA, Tr.get_set, Nat.reduceEqDiff, if_true, if_false, reduceIte]
    rotate_left
    · intro h; cases h
    intro _
    apply EvX.seq
    apply EvX.reg0
    · intro call
      simp only [QRun, stepA, wantedA, opA, pureA, loadA, effA, binA, bin, evalA, ofV, ofCell, Fr.put, setArgs, kS, Nat.zero_testBit, Nat.reduceAdd, Nat.reduceSub, Nat.reduceLeDiff, decide_true, decide_false, Nat.reduceEqDiff, if_true, if_false, reduceIte, operands, hfn]
      exact ⟨rfl, rfl⟩
    simp only [Ex.thn]
    apply EvX.ret
    simp only [Ex.thn, Ex.blk]
    exact Fin.one rfl (by rw [decide_eq_false hne]; simp only [Tr.get_set, if_true, reduceIte])
  rw [decide_eq_true c2] at ce
  by_cases c3 : p.th = q.th
  rotate_left
  · have d4 := decide_eq_false c3
    have hne : ¬ a = b := fun e => c3 (hgo.2 e).1.2.2
    rw [d4] at ct
    apply EvX.drw 68723671040 0
    · kernel_rfl
    · intro k _
      simp only [QRun, stepA, wantedA, opA, pureA, loadA, effA, binA, bin, evalA, ofV, ofCell, Fr.put, setArgs, kS, Nat.zero_testBit, Nat.reduceAdd, Nat.reduceSub, Nat.reduceLeDiff, decide_true, decide_false, Nat.reduceEqDiff, if_true, if_false, reduceIte, operands, hfn, h0', h1', h5, natOf?, natOf_cast, hlt', hltb', hmul, hmulb, hxl, hyl, hdr, hdr2, cl_32, List.drop_zero, List.drop_succ_cons, List.length_cons, takeN, Option.map_some, Nat.le_add_left, Nat.zero_le, unA, AV.cells, takeN, beq_self_eq_true, eq_self, kA1, kA2, st_9, Tryz.underlying22, sl_t95, sl_t28, show Nat.testBit 68723671040 0 = false from rfl, show Nat.testBit 68723671040 1 = false from rfl, show Nat.testBit 68723671040 2 = false from rfl, show Nat.testBit 68723671040 3 = false from rfl, show Nat.testBit 68723671040 4 = false from rfl, show Nat.testBit 68723671040 5 = false from rfl, show Nat.testBit 68723671040 6 = false from rfl, show Nat.testBit 68723671040 7 = false from rfl, show Nat.testBit 68723671040 8 = false from rfl, show Nat.testBit 68723671040 9 = false from rfl, show Nat.testBit 68723671040 10 = false from rfl, show Nat.testBit 68723671040 11 = false from rfl, show Nat.testBit 68723671040 12 = false from rfl, show Nat.testBit 68723671040 13 = false from rfl, show Nat.testBit 68723671040 14 = false from rfl, show Nat.testBit 68723671040 15 = false from rfl, show Nat.testBit 68723671040 16 = false from rfl, show Nat.testBit 68723671040 17 = false from rfl, show Nat.testBit 68723671040 18 = false from rfl, show Nat.testBit 68723671040 19 = false from rfl, show Nat.testBit 68723671040 20 = false from rfl, show Nat.testBit 68723671040 21 = false from rfl, show Nat.testBit 68723671040 22 = true from rfl, show Nat.testBit 68723671040 23 = false from rfl, show Nat.testBit 68723671040 24 = false from rfl, show Nat.testBit 68723671040 25 = false from rfl, show Nat.testBit 68723671040 26 = false from rfl, show Nat.testBit 68723671040 27 = false from rfl, show Nat.testBit 68723671040 28 = false from rfl, show Nat.testBit 68723671040 29 = false from rfl, show Nat.testBit 68723671040 30 = false from rfl, show Nat.testBit 68723671040 31 = false from rfl, show Nat.testBit 68723671040 32 = false from rfl, show Nat.testBit 68723671040 33 = false from rfl, show Nat.testBit 68723671040 34 = false from rfl, show Nat.testBit 68723671040 35 = false from rfl, show Nat.testBit 68723671040 36 = true from rfl, show Nat.testBit 68723671040 37 = false from rfl, show Nat.testBit 68723671040 38 = false from rfl, show Nat.testBit 68723671040 39 = false from rfl, d2, ce, ct]
      exact ⟨rfl, rfl⟩
    simp only [Ex.thn]
    apply EvX.cond2 (t := true)
    · simp only [evalA, Tr.get_set, Nat.reduceEqDiff, if_true, if_false, reduceIte]
    rotate_left
    · intro h; cases h
    intro _
    apply EvX.seq
    apply EvX.reg0
    · intro call
      simp only [QRun, stepA, wantedA, opA, pureA, loadA, effA, binA, bin, evalA, ofV, ofCell, Fr.put, setArgs, kS, Nat.zero_testBit, Nat.reduceAdd, Nat.reduceSub, Nat.reduceLeDiff, decide_true, decide_false, Nat.reduceEqDiff, if_true, if_false, reduceIte, operands, hfn]
      exact ⟨rfl, rfl⟩
    simp only [Ex.thn]
    apply EvX.ret
    simp only [Ex.thn, Ex.blk]
    exact Fin.one rfl (by rw [decide_eq_false hne]; simp only [Tr.get_set, if_true, reduceIte])
  rw [decide_eq_true c3] at ct
  apply EvX.drw 68723671040 0
  · kernel_rfl
  · intro k _
    simp only [QRun, stepA, wantedA, opA, pureA, loadA, effA, binA, bin, evalA, ofV, ofCell, Fr.put, setArgs, kS, Nat.zero_testBit, Nat.reduceAdd, Nat.reduceSub, Nat.reduceLeDiff, decide_true, decide_false, Nat.reduceEqDiff, if_true, if_false, reduceIte, operands, hfn, h0', h1', h5, natOf?, natOf_cast, hlt', hltb', hmul, hmulb, hxl, hyl, hdr, hdr2, cl_32, List.drop_zero, List.drop_succ_cons, List.length_cons, takeN, Option.map_some, Nat.le_add_left, Nat.zero_le, unA, AV.cells, takeN, beq_self_eq_true, eq_self, kA1, kA2, st_9, Tryz.underlying22, sl_t95, sl_t28, show Nat.testBit 68723671040 0 = false from rfl, show Nat.testBit 68723671040 1 = false from rfl, show Nat.testBit 68723671040 2 = false from rfl, show Nat.testBit 68723671040 3 = false from rfl, show Nat.testBit 68723671040 4 = false from rfl, show Nat.testBit 68723671040 5 = false from rfl, show Nat.testBit 68723671040 6 = false from rfl, show Nat.testBit 68723671040 7 = false from rfl, show Nat.testBit 68723671040 8 = false from rfl, show Nat.testBit 68723671040 9 = false from rfl, show Nat.testBit 68723671040 10 = false from rfl, show Nat.testBit 68723671040 11 = false from rfl, show Nat.testBit 68723671040 12 = false from rfl, show Nat.testBit 68723671040 13 = false from rfl, show Nat.testBit 68723671040 14 = false from rfl, show Nat.testBit 68723671040 15 = false from rfl, show Nat.testBit 68723671040 16 = false from rfl, show Nat.testBit 68723671040 17 = false from rfl, show Nat.testBit 68723671040 18 = false from rfl, show Nat.testBit 68723671040 19 = false from rfl, show Nat.testBit 68723671040 20 = false from rfl, show Nat.testBit 68723671040 21 = false from rfl, show Nat.testBit 68723671040 22 = true from rfl, show Nat.testBit 68723671040 23 = false from rfl, show Nat.testBit 68723671040 24 = false from rfl, show Nat.testBit 68723671040 25 = false from rfl, show Nat.testBit 68723671040 26 = false from rfl, show Nat.testBit 68723671040 27 = false from rfl, show Nat.testBit 68723671040 28 = false from rfl, show Nat.testBit 68723671040 29 = false from rfl, show Nat.testBit 68723671040 30 = false from rfl, show Nat.testBit 68723671040 31 = false from rfl, show Nat.testBit 68723671040 32 = false from rfl, show Nat.testBit 68723671040 33 = false from rfl, show Nat.testBit 68723671040 34 = false from rfl, show Nat.testBit 68723671040 35 = false from rfl, show Nat.testBit 68723671040 36 = true from rfl, show Nat.testBit 68723671040 37 = false from rfl, show Nat.testBit 68723671040 38 = false from rfl, show Nat.testBit 68723671040 39 = false from rfl, d2, ce, ct]
    exact ⟨rfl, rfl⟩
  simp only [Ex.thn]
  apply EvX.cond2 (t := false)
  · simp only [evalA, Tr.get_set, Nat.reduceEqDiff, if_true, if_false, reduceIte]
  · intro h; cases h
  intro _
  apply EvX.skip
  simp only [Ex.thn, Ex.blk]
  apply EvX.reg0
  · intro call
    simp only [QRun, stepA, wantedA, opA, pureA, loadA, effA, binA, bin, evalA, ofV, ofCell, Fr.put, setArgs, kS, Nat.zero_testBit, Nat.reduceAdd, Nat.reduceSub, Nat.reduceLeDiff, decide_true, decide_false, Nat.reduceEqDiff, if_true, if_false, reduceIte, operands, hfn, h5, wrap_succ (show i + 1 ≤ 9223372036854775807 by omega)]
    exact ⟨rfl, rfl⟩
  simp only [Ex.thn]
  refine ⟨a.length - (i + 1), by omega, i + 1, rfl, hlt', trivial, ?_, ?_, ?_, ?_⟩
  · simp [Tr.get_set, h0]
  · simp [Tr.get_set, h1]
  · simp [Tr.get_set]
  · exact ⟨fun h => hgo.1 ⟨⟨c1, c2, c3⟩, h⟩, fun h => (hgo.2 h).2⟩
end Go.Vz
