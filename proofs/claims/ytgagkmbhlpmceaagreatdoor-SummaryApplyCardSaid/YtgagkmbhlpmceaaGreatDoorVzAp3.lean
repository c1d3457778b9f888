/-
  SummaryApply, told.
-/
import Derived.Test.YtgagkmbhlpmceaaGreatDoorVzApLaw
set_option linter.unusedVariables false
set_option linter.unusedSimpArgs false
namespace Go.Vz
open Go Go.Proofs
set_option maxHeartbeats 4000000
set_option maxRecDepth 20000
def p16 : PFn := ⟨16, fun
  | [x, y] => match isl x, isl y with
    | some a, some b => bif Nat.ble a.length 1000000 && Nat.ble b.length 1000000 then some (.bool (a == b)) else none
    | _, _ => none
  | _ => none⟩
theorem spec16 {x y : AV} {a b : List Int} (hx : isl x = some a) (hy : isl y = some b) (ha : a.length ≤ 1000000) (hb : b.length ≤ 1000000) : p16.spec [x, y] = some (.bool (a == b)) := by
  show (match isl x, isl y with | some a, some b => bif Nat.ble a.length 1000000 && Nat.ble b.length 1000000 then some (AV.bool (a == b)) else none | _, _ => none) = _
  rw [hx, hy]; simp only [Nat.ble_eq_true_of_le ha, Nat.ble_eq_true_of_le hb, Bool.and_self, cond_true]
theorem beq_drop {a b : List Int} {i : Nat} (ha : i < a.length) (hb : i < b.length) : (a.drop i == b.drop i) = (a[i] == b[i] && a.drop (i + 1) == b.drop (i + 1)) := by
  rw [List.drop_eq_getElem_cons ha, List.drop_eq_getElem_cons hb]; rfl
theorem beq_len {a b : List Int} (h : a.length ≠ b.length) : (a == b) = false := by
  rw [beq_eq_false_iff_ne]; intro e; exact h (by rw [e])
theorem p16_ok : p16.Ok := by
  refine PFn.Ok.ofT (qs := []) (ps := []) (fun q h => by cases h) (fun p h => by cases h) (fun args x h => ?_)
  have h' : ∃ x0 x1 a b, args = [x0, x1] ∧ isl x0 = some a ∧ isl x1 = some b ∧ x = .bool (a == b) ∧ a.length ≤ 1000000 ∧ b.length ≤ 1000000 := by
    simp only [p16] at h
    split at h
    · rename_i x0 x1
      split at h
      · rename_i a b hx hy
        cases hb : Nat.ble a.length 1000000 && Nat.ble b.length 1000000 with
        | false => simp [hb] at h
        | true =>
          simp only [hb, cond_true, Option.some.injEq] at h
          rw [Bool.and_eq_true_iff] at hb
          exact ⟨x0, x1, a, b, rfl, hx, hy, h.symm, Nat.le_of_ble_eq_true hb.1, Nat.le_of_ble_eq_true hb.2⟩
      · cases h
    · cases h
  clear h
  obtain ⟨x0, x1, a, b, rfl, hx, hy, rfl, ha, hb⟩ := h'
  refine ⟨rfl, EvC.run (by kernel_rfl) (by rw [CT_P]; exact Tryz.func16) rfl ?_⟩
  apply EvX.seq
  apply EvX.reg0
  · intro call
    simp only [QRun, stepA, wantedA, opA, pureA, loadA, effA, binA, bin, evalA, ofV, ofCell, Fr.put, enterA_n, enterA_t, setArgs, List.length_cons, List.length_nil, Tr.get_set, Nat.zero_testBit, cond_false, true_and, Nat.reduceAdd, Nat.reduceSub, ble_dec, beq_dec, Nat.reduceLeDiff, decide_true, decide_false, cond_true, Nat.reduceEqDiff, if_true, if_false, reduceIte, operands, Option.map_some, Option.map_none, CT_P, Tryz.ntmps16]
    exact ⟨rfl, rfl⟩
  simp only [Ex.thn]
  apply EvX.seq
  apply EvX.seq
  by_cases b1 : a.length = b.length
  rotate_left
  · have d1 : (((a.length : Nat) : Int) != ((b.length : Nat) : Int)) = true := by simp only [bne_iff_ne, ne_eq]; omega
    apply EvX.reg0
    · intro call
      simp only [QRun, stepA, wantedA, opA, pureA, loadA, effA, binA, bin, evalA, ofV, ofCell, Fr.put, enterA_n, enterA_t, setArgs, List.length_cons, List.length_nil, Tr.get_set, Nat.zero_testBit, cond_false, true_and, Nat.reduceAdd, Nat.reduceSub, ble_dec, beq_dec, Nat.reduceLeDiff, decide_true, decide_false, cond_true, Nat.reduceEqDiff, if_true, if_false, reduceIte, operands, Option.map_some, Option.map_none, CT_P, isl_len hx sl_t31, isl_len hy sl_t31, d1, AV.cells, takeN, load_rp, Nat.zero_le, Nat.le_refl, Nat.zero_add, Nat.add_zero, Nat.mul_one, Nat.one_mul, Bool.not_false, Bool.not_true, List.getElem?_toArray, List.getElem?_cons_zero, List.getElem?_cons_succ, beq_self_eq_true, Bool.and_true, Bool.true_and, Bool.and_self, eq_self, show (true == false) = false from rfl, show (false == true) = false from rfl, show (false == false) = true from rfl, Tryz.underlying70, Tryz.underlying28, sl_t31, sl_t95, sz_3, sz_70, ag_3, ag_70, ze_70, ze_3, by_3, Tryz.underlying30, sz_30, ag_30, ze_30, sz_28, ag_28]
      exact ⟨rfl, rfl⟩
    simp only [Ex.thn]
    apply EvX.cond2 (t := true)
    · simp only [evalA, Tr.get_set, Nat.reduceEqDiff, if_true, if_false, reduceIte]
    rotate_left
    · intro h; cases h
    intro _
    apply EvX.seq
    apply EvX.reg0
    · intro call
      simp only [QRun, stepA, wantedA, opA, pureA, loadA, effA, binA, bin, evalA, ofV, ofCell, Fr.put, enterA_n, enterA_t, setArgs, List.length_cons, List.length_nil, Tr.get_set, Nat.zero_testBit, cond_false, true_and, Nat.reduceAdd, Nat.reduceSub, ble_dec, beq_dec, Nat.reduceLeDiff, decide_true, decide_false, cond_true, Nat.reduceEqDiff, if_true, if_false, reduceIte, operands, Option.map_some, Option.map_none, CT_P]
      exact ⟨rfl, rfl⟩
    simp only [Ex.thn]
    apply EvX.ret
    simp only [Ex.thn, Ex.blk]
    exact Fin.one rfl (by rw [beq_len b1]; simp [Tr.get_set])
  have d1 : (((a.length : Nat) : Int) != ((b.length : Nat) : Int)) = false := by simp only [bne_eq_false_iff_eq]; omega
  apply EvX.reg0
  · intro call
    simp only [QRun, stepA, wantedA, opA, pureA, loadA, effA, binA, bin, evalA, ofV, ofCell, Fr.put, enterA_n, enterA_t, setArgs, List.length_cons, List.length_nil, Tr.get_set, Nat.zero_testBit, cond_false, true_and, Nat.reduceAdd, Nat.reduceSub, ble_dec, beq_dec, Nat.reduceLeDiff, decide_true, decide_false, cond_true, Nat.reduceEqDiff, if_true, if_false, reduceIte, operands, Option.map_some, Option.map_none, CT_P, isl_len hx sl_t31, isl_len hy sl_t31, d1, AV.cells, takeN, load_rp, Nat.zero_le, Nat.le_refl, Nat.zero_add, Nat.add_zero, Nat.mul_one, Nat.one_mul, Bool.not_false, Bool.not_true, List.getElem?_toArray, List.getElem?_cons_zero, List.getElem?_cons_succ, beq_self_eq_true, Bool.and_true, Bool.true_and, Bool.and_self, eq_self, show (true == false) = false from rfl, show (false == true) = false from rfl, show (false == false) = true from rfl, Tryz.underlying70, Tryz.underlying28, sl_t31, sl_t95, sz_3, sz_70, ag_3, ag_70, ze_70, ze_3, by_3, Tryz.underlying30, sz_30, ag_30, ze_30, sz_28, ag_28]
    exact ⟨rfl, rfl⟩
  simp only [Ex.thn]
  apply EvX.cond2 (t := false)
  · simp only [evalA, Tr.get_set, Nat.reduceEqDiff, if_true, if_false, reduceIte]
  · intro h; cases h
  intro _
  apply EvX.skip
  simp only [Ex.thn, Ex.blk]
  apply EvX.seq
  apply EvX.seq
  apply EvX.reg0
  · intro call
    simp only [QRun, stepA, wantedA, opA, pureA, loadA, effA, binA, bin, evalA, ofV, ofCell, Fr.put, enterA_n, enterA_t, setArgs, List.length_cons, List.length_nil, Tr.get_set, Nat.zero_testBit, cond_false, true_and, Nat.reduceAdd, Nat.reduceSub, ble_dec, beq_dec, Nat.reduceLeDiff, decide_true, decide_false, cond_true, Nat.reduceEqDiff, if_true, if_false, reduceIte, operands, Option.map_some, Option.map_none, CT_P]
    exact ⟨rfl, rfl⟩
  simp only [Ex.thn]
  apply EvX.block
  refine EvX.loop (fun k fr m => ∃ i : Nat, k = a.length - i ∧ i ≤ a.length ∧ fr.n = 26 ∧ fr.t.get 0 = some x0 ∧ fr.t.get 1 = some x1 ∧ fr.t.get 5 = some (.int .i64 (i : Int)) ∧ (a.drop i == b.drop i) = (a == b)) ?_ a.length _ _
    ⟨0, by simp, by simp, rfl, by simp [Tr.get_set], by simp [Tr.get_set], by simp [Tr.get_set], rfl⟩
  rintro k fr m ⟨i, rfl, hil, hfn, h0, h1, h5, hgo⟩
  apply EvX.seq
  apply EvX.seq
  apply EvX.reg0
  · intro call
    simp only [QRun, stepA, wantedA, opA, pureA, loadA, effA, binA, bin, evalA, ofV, ofCell, Fr.put, enterA_n, enterA_t, setArgs, List.length_cons, List.length_nil, Tr.get_set, Nat.zero_testBit, cond_false, true_and, Nat.reduceAdd, Nat.reduceSub, ble_dec, beq_dec, Nat.reduceLeDiff, decide_true, decide_false, cond_true, Nat.reduceEqDiff, if_true, if_false, reduceIte, operands, Option.map_some, Option.map_none, CT_P, hfn, h0, h5, isl_len hx sl_t31, AV.cells, takeN, load_rp, Nat.zero_le, Nat.le_refl, Nat.zero_add, Nat.add_zero, Nat.mul_one, Nat.one_mul, Bool.not_false, Bool.not_true, List.getElem?_toArray, List.getElem?_cons_zero, List.getElem?_cons_succ, beq_self_eq_true, Bool.and_true, Bool.true_and, Bool.and_self, eq_self, show (true == false) = false from rfl, show (false == true) = false from rfl, show (false == false) = true from rfl, Tryz.underlying70, Tryz.underlying28, sl_t31, sl_t95, sz_3, sz_70, ag_3, ag_70, ze_70, ze_3, by_3, Tryz.underlying30, sz_30, ag_30, ze_30, sz_28, ag_28]
    exact ⟨rfl, rfl⟩
  simp only [Ex.thn]
  apply EvX.cond2
  · simp only [evalA, Tr.get_set, Nat.reduceEqDiff, if_true, if_false, reduceIte]; exact rfl
  rotate_left
  · intro hge
    have hge := of_decide_eq_false hge
    have hi : i = a.length := by omega
    subst hi
    apply EvX.exit
    simp only [Ex.thn, Ex.blk, beq_dec, decide_true, cond_true]
    apply EvX.seq
    apply EvX.reg0
    · intro call
      simp only [QRun, stepA, wantedA, opA, pureA, loadA, effA, binA, bin, evalA, ofV, ofCell, Fr.put, enterA_n, enterA_t, setArgs, List.length_cons, List.length_nil, Tr.get_set, Nat.zero_testBit, cond_false, true_and, Nat.reduceAdd, Nat.reduceSub, ble_dec, beq_dec, Nat.reduceLeDiff, decide_true, decide_false, cond_true, Nat.reduceEqDiff, if_true, if_false, reduceIte, operands, Option.map_some, Option.map_none, CT_P, hfn]
      exact ⟨rfl, rfl⟩
    simp only [Ex.thn]
    apply EvX.ret
    exact Fin.one rfl (by have e : (a == b) = true := by {rw [← hgo, List.drop_length, b1, List.drop_length]; rfl}
                          simp only [Tr.get_set, if_true, reduceIte, e])
  intro hlt
  have hlt := of_decide_eq_true hlt
  have hlt : i < a.length := by omega
  have hltb : i < b.length := by omega
  have hlt' : i + 1 ≤ a.length := hlt
  have hltb' : i + 1 ≤ b.length := hltb
  have h0' := h0
  rw [isl_at hx hlt] at h0'
  have h1' := h1
  rw [isl_at hy hltb] at h1'
  have hdr := dropInt hlt
  have hdr2 := dropInt hltb
  rw [beq_drop hlt hltb] at hgo
  generalize hp : a[i] = p at hgo hdr
  generalize hq : b[i] = q at hgo hdr2
  apply EvX.skip
  simp only [Ex.thn]
  apply EvX.seq
  apply EvX.block
  apply EvX.seq
  by_cases b2 : p = q
  rotate_left
  · have d2 : (p != q) = true := by simpa using b2
    have d2' : (p == q) = false := by simpa using b2
    apply EvX.drw 0 0
    · kernel_rfl
    · intro k _
      simp only [QRun, stepA, wantedA, opA, pureA, loadA, effA, binA, bin, evalA, ofV, ofCell, Fr.put, enterA_n, enterA_t, setArgs, List.length_cons, List.length_nil, Tr.get_set, Nat.zero_testBit, cond_false, true_and, Nat.reduceAdd, Nat.reduceSub, ble_dec, beq_dec, Nat.reduceLeDiff, decide_true, decide_false, cond_true, Nat.reduceEqDiff, if_true, if_false, reduceIte, operands, Option.map_some, Option.map_none, CT_P, hfn, h0', h1', h5, natOf?, natOf_cast, hlt', hltb', Nat.le_of_lt hlt, Nat.le_of_lt hltb, encInts_length, hdr, hdr2, List.drop_zero, List.drop_succ_cons, List.length_cons, takeN, Option.map_some, Nat.le_add_left, Nat.zero_le, AV.cells, takeN, load_rp, Nat.zero_le, Nat.le_refl, Nat.zero_add, Nat.add_zero, Nat.mul_one, Nat.one_mul, Bool.not_false, Bool.not_true, List.getElem?_toArray, List.getElem?_cons_zero, List.getElem?_cons_succ, beq_self_eq_true, Bool.and_true, Bool.true_and, Bool.and_self, eq_self, show (true == false) = false from rfl, show (false == true) = false from rfl, show (false == false) = true from rfl, Tryz.underlying70, Tryz.underlying28, sl_t31, sl_t95, sz_3, sz_70, ag_3, ag_70, ze_70, ze_3, by_3, Tryz.underlying30, sz_30, ag_30, ze_30, sz_28, ag_28, d2]
      exact ⟨rfl, rfl⟩
    simp only [Ex.thn]
    apply EvX.cond2 (t := true)
    · simp only [evalA, Tr.get_set, Nat.reduceEqDiff, if_true, if_false, reduceIte]
    rotate_left
    · intro h; cases h
    intro _
    apply EvX.seq
    apply EvX.reg0
    · intro call
      simp only [QRun, stepA, wantedA, opA, pureA, loadA, effA, binA, bin, evalA, ofV, ofCell, Fr.put, enterA_n, enterA_t, setArgs, List.length_cons, List.length_nil, Tr.get_set, Nat.zero_testBit, cond_false, true_and, Nat.reduceAdd, Nat.reduceSub, ble_dec, beq_dec, Nat.reduceLeDiff, decide_true, decide_false, cond_true, Nat.reduceEqDiff, if_true, if_false, reduceIte, operands, Option.map_some, Option.map_none, CT_P, hfn]
      exact ⟨rfl, rfl⟩
    simp only [Ex.thn]
    apply EvX.ret
    simp only [Ex.thn, Ex.blk]
    exact Fin.one rfl (by rw [← hgo, d2']; simp [Tr.get_set])
  have d2 : (p != q) = false := by simpa using b2
  have d2' : (p == q) = true := by simpa using b2
  apply EvX.drw 0 0
  · kernel_rfl
  · intro k _
    simp only [QRun, stepA, wantedA, opA, pureA, loadA, effA, binA, bin, evalA, ofV, ofCell, Fr.put, enterA_n, enterA_t, setArgs, List.length_cons, List.length_nil, Tr.get_set, Nat.zero_testBit, cond_false, true_and, Nat.reduceAdd, Nat.reduceSub, ble_dec, beq_dec, Nat.reduceLeDiff, decide_true, decide_false, cond_true, Nat.reduceEqDiff, if_true, if_false, reduceIte, operands, Option.map_some, Option.map_none, CT_P, hfn, h0', h1', h5, natOf?, natOf_cast, hlt', hltb', Nat.le_of_lt hlt, Nat.le_of_lt hltb, encInts_length, hdr, hdr2, List.drop_zero, List.drop_succ_cons, List.length_cons, takeN, Option.map_some, Nat.le_add_left, Nat.zero_le, AV.cells, takeN, load_rp, Nat.zero_le, Nat.le_refl, Nat.zero_add, Nat.add_zero, Nat.mul_one, Nat.one_mul, Bool.not_false, Bool.not_true, List.getElem?_toArray, List.getElem?_cons_zero, List.getElem?_cons_succ, beq_self_eq_true, Bool.and_true, Bool.true_and, Bool.and_self, eq_self, show (true == false) = false from rfl, show (false == true) = false from rfl, show (false == false) = true from rfl, Tryz.underlying70, Tryz.underlying28, sl_t31, sl_t95, sz_3, sz_70, ag_3, ag_70, ze_70, ze_3, by_3, Tryz.underlying30, sz_30, ag_30, ze_30, sz_28, ag_28, d2]
    exact ⟨rfl, rfl⟩
  simp only [Ex.thn]
  apply EvX.cond2 (t := false)
  · simp only [evalA, Tr.get_set, Nat.reduceEqDiff, if_true, if_false, reduceIte]
  · intro h; cases h
  intro _
  apply EvX.skip
  simp only [Ex.thn, Ex.blk]
  apply EvX.reg0
  · intro call
    simp only [QRun, stepA, wantedA, opA, pureA, loadA, effA, binA, bin, evalA, ofV, ofCell, Fr.put, enterA_n, enterA_t, setArgs, List.length_cons, List.length_nil, Tr.get_set, Nat.zero_testBit, cond_false, true_and, Nat.reduceAdd, Nat.reduceSub, ble_dec, beq_dec, Nat.reduceLeDiff, decide_true, decide_false, cond_true, Nat.reduceEqDiff, if_true, if_false, reduceIte, operands, Option.map_some, Option.map_none, CT_P, hfn, h5, wrap_succ (show i + 1 ≤ 9223372036854775807 by omega)]
    exact ⟨rfl, rfl⟩
  simp only [Ex.thn]
  refine ⟨a.length - (i + 1), by omega, i + 1, rfl, hlt', trivial, ?_, ?_, ?_, ?_⟩
  · simp [Tr.get_set, h0]
  · simp [Tr.get_set, h1]
  · simp [Tr.get_set]
  · rw [← hgo, d2', Bool.true_and]
/-! ### both Apply of a summary -/
theorem adopt_slI {m : Mem} (w : WFm m) (l : List Int) : ∃ xb mb, adoptA (slI l) m = (xb, mb) ∧ WFm mb ∧ KeepB m.nxt m mb ∧ OwnS m.nxt mb.nxt mb xb 1 l.length (encInts l) := by
  rcases Nat.eq_zero_or_pos l.length with h0 | h0
  · have := List.length_eq_zero_iff.1 h0
    subst this
    exact ⟨.nilsl, m, rfl, w, KeepB.refl _ _, .inl ⟨rfl, rfl, rfl⟩⟩
  · have hne := List.length_pos_iff.1 h0
    unfold slI
    rw [if_neg hne]
    obtain ⟨h1, h2, h3⟩ := adopt_row w h0 (sz := 1) (by omega) (by rw [encInts_length, Nat.mul_one]) (encInts_plain l)
    exact ⟨_, _, rfl, h1, h2, h3⟩
theorem OwnS.ints7 {lo hi : Nat} {m : Mem} {y : AV} {l : List Int} (h : OwnS lo hi m y 1 l.length (encInts l)) : treeA 7 m y = some (slI l) := by
  unfold slI
  split
  · rename_i h0
    subst h0
    rcases h with ⟨rfl, _⟩ | ⟨h, _⟩
    · rfl
    · simp at h
  · rename_i h0
    exact h.tree (List.length_pos_iff.2 h0) (by omega) (encInts_tree 5 m l)
def specBoth (F : List (Int × Int) → List Int → List Int) : List AV → Option AV
  | [.agg [.int .i64 _, x, y], z] => match ipr x, ipr y, isl z with
    | some e, some h, some l => bif Nat.ble e.length 1000 && Nat.ble h.length 1000 && Nat.ble l.length 1000 then some (.tup [slI (F e l), slI (F h l)]) else none
    | _, _, _ => none
  | _ => none
theorem specBoth_some {F : List (Int × Int) → List Int → List Int} {args : List AV} {u : AV} (h : specBoth F args = some u) : ∃ c x y z e t l, args = [.agg [.int .i64 c, x, y], z] ∧ ipr x = some e ∧ ipr y = some t ∧ isl z = some l ∧ u = .tup [slI (F e l), slI (F t l)] ∧ e.length ≤ 1000 ∧ t.length ≤ 1000 ∧ l.length ≤ 1000 := by
  unfold specBoth at h
  split at h
  · rename_i c x y z
    split at h
    · rename_i e t l h1 h2 h3
      cases hb : Nat.ble e.length 1000 && Nat.ble t.length 1000 && Nat.ble l.length 1000 with
      | false => simp [hb] at h
      | true =>
        simp only [hb, cond_true, Option.some.injEq] at h
        rw [Bool.and_eq_true_iff, Bool.and_eq_true_iff] at hb
        exact ⟨c, x, y, z, e, t, l, rfl, h1, h2, h3, h.symm, Nat.le_of_ble_eq_true hb.1.1, Nat.le_of_ble_eq_true hb.1.2, Nat.le_of_ble_eq_true hb.2⟩
    · cases h
  · cases h
theorem specBoth_enc (F : List (Int × Int) → List Int → List Int) {c : Int} {x y z : AV} {e t : List (Int × Int)} {l : List Int} (h1 : ipr x = some e) (h2 : ipr y = some t) (h3 : isl z = some l) (he : e.length ≤ 1000) (ht : t.length ≤ 1000) (hl : l.length ≤ 1000) :
    specBoth F [.agg [.int .i64 c, x, y], z] = some (.tup [slI (F e l), slI (F t l)]) := by
  simp only [specBoth, h1, h2, h3, Nat.ble_eq_true_of_le he, Nat.ble_eq_true_of_le ht, Nat.ble_eq_true_of_le hl, Bool.and_self, cond_true]
theorem specApply_enc {x y : AV} {f : List (Int × Int)} {l : List Int} (h1 : ipr x = some f) (h2 : isl y = some l) (hf : f.length ≤ 1000) (hl : l.length ≤ 1000) : specApply [x, y] = some (slI (applyL f l)) := by
  simp only [specApply, h1, h2, Nat.ble_eq_true_of_le hf, Nat.ble_eq_true_of_le hl, Bool.and_self, cond_true]
theorem specApplyR_enc {x y : AV} {f : List (Int × Int)} {l : List Int} (h1 : ipr x = some f) (h2 : isl y = some l) (hf : f.length ≤ 1000) (hl : l.length ≤ 1000) : specApplyR [x, y] = some (slI (applyR f l)) := by
  simp only [specApplyR, h1, h2, Nat.ble_eq_true_of_le hf, Nat.ble_eq_true_of_le hl, Bool.and_self, cond_true]
theorem ipr_cell {x : AV} {l : List (Int × Int)} (h : ipr x = some l) : x.isCell = true := by
  rcases ipr_cases h with ⟨rfl, _⟩ | rfl <;> rfl
theorem take_cells3 {a b c : AV} : ([a, b, c].drop 1).take 1 = [b] ∧ ([a, b, c].drop 2).take 1 = [c] := ⟨rfl, rfl⟩
theorem Fin.twoT {C : Cfg} {fn : Func} {t u : Nat} {fr : Fr} {m : Mem} {x y : AV} {K : AV → Mem → Prop} (hr : fn.results = #[.tmp t, .tmp u]) (hx : fr.t.get t = some x) (hy : fr.t.get u = some y) (hk : K (.tup [x, y]) m) : (match Ex.ret with | .exit _ => False | _ => True) ∧ ∃ xs, Vz.results C.P m fr fn.results.toList = some xs ∧ K (Vz.one xs) m :=
  ⟨trivial, [x, y], by rw [hr]; simp [Vz.results, hx, hy], hk⟩
def p14 : PFn := ⟨14, specBoth applyL⟩
def p15 : PFn := ⟨15, specBoth applyR⟩
theorem cl_36 (args : List AV) : calleeA Tryz.prog (.fn (.func 36) [] []) args = some (.enter 36 args) := by rw [callee_of Tryz.func36 (by kernel_rfl) (by kernel_rfl)]; simp
theorem cl_37 (args : List AV) : calleeA Tryz.prog (.fn (.func 37) [] []) args = some (.enter 37 args) := by rw [callee_of Tryz.func37 (by kernel_rfl) (by kernel_rfl)]; simp
theorem cl_14 (args : List AV) : calleeA Tryz.prog (.fn (.func 14) [] []) args = some (.enter 14 args) := by rw [callee_of Tryz.func14 (by kernel_rfl) (by kernel_rfl)]; simp
theorem cl_15 (args : List AV) : calleeA Tryz.prog (.fn (.func 15) [] []) args = some (.enter 15 args) := by rw [callee_of Tryz.func15 (by kernel_rfl) (by kernel_rfl)]; simp
theorem cl_16 (args : List AV) : calleeA Tryz.prog (.fn (.func 16) [] []) args = some (.enter 16 args) := by rw [callee_of Tryz.func16 (by kernel_rfl) (by kernel_rfl)]; simp
theorem p14_ok : p14.OkT := by
  refine PFn.OkT.of (qs := []) (ps := [p36]) (fun q h => by cases h) (fun p h => by simp at h; subst h; exact p36_ok) (fun args y hs => ?_)
  obtain ⟨c, x, y, z, e, t, l, rfl, he, ht, hl, rfl, hle, hlt, hll⟩ := specBoth_some (F := applyL) hs
  clear hs
  refine EvC.runT (K := fun x m' => treeA 8 m' x = some (.tup [slI (applyL e l), slI (applyL t l)])) (by kernel_rfl) (by rw [CT_P]; exact Tryz.func14) rfl ?_
  have w0 : WFm (Mem.empty.fresh (some 30) [.int .i64 c, x, y]) := fresh_wf WFm.empty _ _
  have l1 : (Mem.empty.fresh (some 30) [.int .i64 c, x, y]).load (.ptr Mem.empty.nxt 1) 1 = some [x] := fresh_load Mem.empty _ _ (k := 1) (a := 1) (by simp)
  have l2 : (Mem.empty.fresh (some 30) [.int .i64 c, x, y]).load (.ptr Mem.empty.nxt 2) 1 = some [y] := fresh_load Mem.empty _ _ (k := 2) (a := 1) (by simp)
  have hac : allCells [.int .i64 c, x, y] = true := by simp only [allCells, ipr_cell he, ipr_cell ht, show AV.isCell (.int .i64 c) = true from rfl, Bool.and_self]
  generalize hM0 : Mem.empty.fresh (some 30) [.int .i64 c, x, y] = M0 at w0 l1 l2
  obtain ⟨xa, M1, e1, w1, k1, o1⟩ := adopt_slI w0 (applyL e l)
  obtain ⟨xb, M2, e2, w2, k2, o2⟩ := adopt_slI w1 (applyL t l)
  have l11 := w0.load k1 l1
  have l12 := w0.load k1 l2
  have l21 := w1.load k2 l11
  have l22 := w1.load k2 l12
  have c1 := fun k => callT (qs := []) (ps := [p36]) (p := p36) (f := 36) rfl (D := drawA (CT [] [p36])) k M0 (by simp only [mapO, ipr_view he 6, isl_view hl 6] : mapO (viewA 8 M0) [x, z] = some [x, z]) (specApply_enc he hl hle hll)
  have c2 := fun k => callT (qs := []) (ps := [p36]) (p := p36) (f := 36) rfl (D := drawA (CT [] [p36])) k M1 (by simp only [mapO, ipr_view ht 6, isl_view hl 6] : mapO (viewA 8 M1) [y, z] = some [y, z]) (specApply_enc ht hl hlt hll)
  rw [e1] at c1
  rw [e2] at c2
  apply EvX.seq
  apply EvX.reg0
  · intro call
    simp only [QRun, stepA, wantedA, opA, pureA, loadA, effA, binA, bin, evalA, ofV, ofCell, Fr.put, enterA_n, enterA_t, setArgs, List.length_cons, List.length_nil, Tr.get_set, Nat.zero_testBit, cond_false, true_and, Nat.reduceAdd, Nat.reduceSub, ble_dec, beq_dec, Nat.reduceLeDiff, decide_true, decide_false, cond_true, Nat.reduceEqDiff, if_true, if_false, reduceIte, operands, Option.map_some, Option.map_none, CT_P, Tryz.ntmps14, hac, hM0, AV.cells, takeN, load_rp, Nat.zero_le, Nat.le_refl, Nat.zero_add, Nat.add_zero, Nat.mul_one, Nat.one_mul, Bool.not_false, Bool.not_true, List.getElem?_toArray, List.getElem?_cons_zero, List.getElem?_cons_succ, beq_self_eq_true, Bool.and_true, Bool.true_and, Bool.and_self, eq_self, show (true == false) = false from rfl, show (false == true) = false from rfl, show (false == false) = true from rfl, Tryz.underlying70, Tryz.underlying28, sl_t31, sl_t95, sz_3, sz_70, ag_3, ag_70, ze_70, ze_3, by_3, Tryz.underlying30, sz_30, ag_30, ze_30, sz_28, ag_28]
    exact ⟨rfl, rfl⟩
  simp only [Ex.thn]
  apply EvX.seq
  apply EvX.drwS [M0, M1, M2] 0
  · kernel_rfl
  · simp
  · intro k _
    simp only [QRunS, stepA, wantedA, opA, pureA, loadA, effA, binA, bin, evalA, ofV, ofCell, Fr.put, enterA_n, enterA_t, setArgs, List.length_cons, List.length_nil, Tr.get_set, Nat.zero_testBit, cond_false, true_and, Nat.reduceAdd, Nat.reduceSub, ble_dec, beq_dec, Nat.reduceLeDiff, decide_true, decide_false, cond_true, Nat.reduceEqDiff, if_true, if_false, reduceIte, operands, Option.map_some, Option.map_none, CT_P, cl_36, c1, c2, l1, l2, l11, l12, l21, l22, List.mem_cons, List.not_mem_nil, or_false, or_true, true_or, forall_eq_or_imp, forall_eq, and_self, AV.cells, takeN, load_rp, Nat.zero_le, Nat.le_refl, Nat.zero_add, Nat.add_zero, Nat.mul_one, Nat.one_mul, Bool.not_false, Bool.not_true, List.getElem?_toArray, List.getElem?_cons_zero, List.getElem?_cons_succ, beq_self_eq_true, Bool.and_true, Bool.true_and, Bool.and_self, eq_self, show (true == false) = false from rfl, show (false == true) = false from rfl, show (false == false) = true from rfl, Tryz.underlying70, Tryz.underlying28, sl_t31, sl_t95, sz_3, sz_70, ag_3, ag_70, ze_70, ze_3, by_3, Tryz.underlying30, sz_30, ag_30, ze_30, sz_28, ag_28]
    exact ⟨rfl, rfl⟩
  simp only [Ex.thn]
  apply EvX.ret
  refine Fin.twoT (K := fun x m' => treeA 8 m' x = some (.tup [slI (applyL e l), slI (applyL t l)])) (x := xa) (y := xb) (t := 4) (u := 5) rfl (by simp only [Tr.get_set, if_true, if_false, reduceIte, Nat.reduceEqDiff]) (by simp only [Tr.get_set, if_true, if_false, reduceIte, Nat.reduceEqDiff]) ?_
  rw [treeA]
  simp only [mapO, (o1.keep k2 (Nat.le_refl _)).ints7, o2.ints7, Option.map_some]
theorem p15_ok : p15.OkT := by
  refine PFn.OkT.of (qs := []) (ps := [p37]) (fun q h => by cases h) (fun p h => by simp at h; subst h; exact p37_ok) (fun args y hs => ?_)
  obtain ⟨c, x, y, z, e, t, l, rfl, he, ht, hl, rfl, hle, hlt, hll⟩ := specBoth_some (F := applyR) hs
  clear hs
  refine EvC.runT (K := fun x m' => treeA 8 m' x = some (.tup [slI (applyR e l), slI (applyR t l)])) (by kernel_rfl) (by rw [CT_P]; exact Tryz.func15) rfl ?_
  have w0 : WFm (Mem.empty.fresh (some 30) [.int .i64 c, x, y]) := fresh_wf WFm.empty _ _
  have l1 : (Mem.empty.fresh (some 30) [.int .i64 c, x, y]).load (.ptr Mem.empty.nxt 1) 1 = some [x] := fresh_load Mem.empty _ _ (k := 1) (a := 1) (by simp)
  have l2 : (Mem.empty.fresh (some 30) [.int .i64 c, x, y]).load (.ptr Mem.empty.nxt 2) 1 = some [y] := fresh_load Mem.empty _ _ (k := 2) (a := 1) (by simp)
  have hac : allCells [.int .i64 c, x, y] = true := by simp only [allCells, ipr_cell he, ipr_cell ht, show AV.isCell (.int .i64 c) = true from rfl, Bool.and_self]
  generalize hM0 : Mem.empty.fresh (some 30) [.int .i64 c, x, y] = M0 at w0 l1 l2
  obtain ⟨xa, M1, e1, w1, k1, o1⟩ := adopt_slI w0 (applyR e l)
  obtain ⟨xb, M2, e2, w2, k2, o2⟩ := adopt_slI w1 (applyR t l)
  have l11 := w0.load k1 l1
  have l12 := w0.load k1 l2
  have l21 := w1.load k2 l11
  have l22 := w1.load k2 l12
  have c1 := fun k => callT (qs := []) (ps := [p37]) (p := p37) (f := 37) rfl (D := drawA (CT [] [p37])) k M0 (by simp only [mapO, ipr_view he 6, isl_view hl 6] : mapO (viewA 8 M0) [x, z] = some [x, z]) (specApplyR_enc he hl hle hll)
  have c2 := fun k => callT (qs := []) (ps := [p37]) (p := p37) (f := 37) rfl (D := drawA (CT [] [p37])) k M1 (by simp only [mapO, ipr_view ht 6, isl_view hl 6] : mapO (viewA 8 M1) [y, z] = some [y, z]) (specApplyR_enc ht hl hlt hll)
  rw [e1] at c1
  rw [e2] at c2
  apply EvX.seq
  apply EvX.reg0
  · intro call
    simp only [QRun, stepA, wantedA, opA, pureA, loadA, effA, binA, bin, evalA, ofV, ofCell, Fr.put, enterA_n, enterA_t, setArgs, List.length_cons, List.length_nil, Tr.get_set, Nat.zero_testBit, cond_false, true_and, Nat.reduceAdd, Nat.reduceSub, ble_dec, beq_dec, Nat.reduceLeDiff, decide_true, decide_false, cond_true, Nat.reduceEqDiff, if_true, if_false, reduceIte, operands, Option.map_some, Option.map_none, CT_P, Tryz.ntmps15, hac, hM0, AV.cells, takeN, load_rp, Nat.zero_le, Nat.le_refl, Nat.zero_add, Nat.add_zero, Nat.mul_one, Nat.one_mul, Bool.not_false, Bool.not_true, List.getElem?_toArray, List.getElem?_cons_zero, List.getElem?_cons_succ, beq_self_eq_true, Bool.and_true, Bool.true_and, Bool.and_self, eq_self, show (true == false) = false from rfl, show (false == true) = false from rfl, show (false == false) = true from rfl, Tryz.underlying70, Tryz.underlying28, sl_t31, sl_t95, sz_3, sz_70, ag_3, ag_70, ze_70, ze_3, by_3, Tryz.underlying30, sz_30, ag_30, ze_30, sz_28, ag_28]
    exact ⟨rfl, rfl⟩
  simp only [Ex.thn]
  apply EvX.seq
  apply EvX.drwS [M0, M1, M2] 0
  · kernel_rfl
  · simp
  · intro k _
    simp only [QRunS, stepA, wantedA, opA, pureA, loadA, effA, binA, bin, evalA, ofV, ofCell, Fr.put, enterA_n, enterA_t, setArgs, List.length_cons, List.length_nil, Tr.get_set, Nat.zero_testBit, cond_false, true_and, Nat.reduceAdd, Nat.reduceSub, ble_dec, beq_dec, Nat.reduceLeDiff, decide_true, decide_false, cond_true, Nat.reduceEqDiff, if_true, if_false, reduceIte, operands, Option.map_some, Option.map_none, CT_P, cl_37, c1, c2, l1, l2, l11, l12, l21, l22, List.mem_cons, List.not_mem_nil, or_false, or_true, true_or, forall_eq_or_imp, forall_eq, and_self, AV.cells, takeN, load_rp, Nat.zero_le, Nat.le_refl, Nat.zero_add, Nat.add_zero, Nat.mul_one, Nat.one_mul, Bool.not_false, Bool.not_true, List.getElem?_toArray, List.getElem?_cons_zero, List.getElem?_cons_succ, beq_self_eq_true, Bool.and_true, Bool.true_and, Bool.and_self, eq_self, show (true == false) = false from rfl, show (false == true) = false from rfl, show (false == false) = true from rfl, Tryz.underlying70, Tryz.underlying28, sl_t31, sl_t95, sz_3, sz_70, ag_3, ag_70, ze_70, ze_3, by_3, Tryz.underlying30, sz_30, ag_30, ze_30, sz_28, ag_28]
    exact ⟨rfl, rfl⟩
  simp only [Ex.thn]
  apply EvX.ret
  refine Fin.twoT (K := fun x m' => treeA 8 m' x = some (.tup [slI (applyR e l), slI (applyR t l)])) (x := xa) (y := xb) (t := 4) (u := 5) rfl (by simp only [Tr.get_set, if_true, if_false, reduceIte, Nat.reduceEqDiff]) (by simp only [Tr.get_set, if_true, if_false, reduceIte, Nat.reduceEqDiff]) ?_
  rw [treeA]
  simp only [mapO, (o1.keep k2 (Nat.le_refl _)).ints7, o2.ints7, Option.map_some]
/-! ### the law -/
def spec4 (args : List AV) : Option AV :=
  match args with
  | [.agg [.int .i64 _, x, y], z] => match ipr x, ipr y, isl z with
    | some e, some h, some l => bif Nat.ble e.length 9223372036854775807 && Nat.ble h.length 9223372036854775807 && Nat.ble l.length 9223372036854775807 then some (.bool true) else none
    | _, _, _ => none
  | _ => none
theorem spec4_some {args : List AV} {u : AV} (h : spec4 args = some u) : ∃ c x y z e t l, args = [.agg [.int .i64 c, x, y], z] ∧ ipr x = some e ∧ ipr y = some t ∧ isl z = some l ∧ u = .bool true := by
  unfold spec4 at h
  split at h
  · rename_i c x y z
    split at h
    · rename_i e t l h1 h2 h3
      cases hb : Nat.ble e.length 9223372036854775807 && Nat.ble t.length 9223372036854775807 && Nat.ble l.length 9223372036854775807 with
      | false => simp [hb] at h
      | true =>
        simp only [hb, cond_true, Option.some.injEq] at h
        exact ⟨c, x, y, z, e, t, l, rfl, h1, h2, h3, h.symm⟩
    · cases h
  · cases h
theorem wfTs_ints (n : Nat) : ∀ l : List Int, wfTs (n + 1) (encInts l) = true
  | [] => rfl
  | a :: l => by
    have ih := wfTs_ints n l
    simp only [encInts] at ih
    simp only [encInts, List.map_cons, wfTs, ih, Bool.and_true]
    rfl
theorem wfT_slI (n : Nat) (l : List Int) : wfT (n + 2) (slI l) = true := by
  unfold slI
  split
  · rfl
  · rw [wfT, wfTs_ints, encInts_length, Nat.mul_one, Nat.beq_refl]; rfl
theorem wfT_both (a b : List Int) : wfT 8 (.tup [slI a, slI b]) = true := by
  rw [wfT, wfTs, wfTs, wfTs, wfT_slI, wfT_slI]; rfl
theorem slI_lt (l : List Int) : isl (slI l) = some l := isl_slI l
theorem mapO_two {f : AV → Option AV} {xs : List AV} {a b : AV} (h : mapO f xs = some [a, b]) : ∃ x y, xs = [x, y] ∧ f x = some a ∧ f y = some b := by
  match xs, h with
  | [], h => simp [mapO] at h
  | [x], h => cases hx : f x <;> simp [mapO, hx] at h
  | [x, y], h =>
    cases hx : f x with
    | none => simp [mapO, hx] at h
    | some x' =>
      cases hy : f y with
      | none => simp [mapO, hx, hy] at h
      | some y' =>
        simp only [mapO, hx, hy, Option.some.injEq, List.cons.injEq, and_true] at h
        exact ⟨x, y, rfl, by rw [hx, h.1], by rw [hy, h.2]⟩
  | x :: y :: z :: l, h =>
    have := mapO_length h
    simp at this
/-- two slices that a told call gave -/
theorem adopt_two {m : Mem} (w : WFm m) (a b : List Int) : ∃ xa xb m', adoptA (.tup [slI a, slI b]) m = (.tup [xa, xb], m') ∧ WFm m' ∧ KeepB m.nxt m m' ∧ viewA 8 m' xa = some (slI a) ∧ viewA 8 m' xb = some (slI b) := by
  obtain ⟨h1, h2, h3⟩ := adopt_view (wfT_both a b) w
  generalize hr : adoptA (.tup [slI a, slI b]) m = r at h1 h2 h3
  obtain ⟨xs, e1, e2⟩ := view_tup h3
  obtain ⟨x, y, rfl, e3, e4⟩ := mapO_two e2
  exact ⟨x, y, r.2, by rw [← e1], h1, h2, viewA_mono _ _ _ e3, viewA_mono _ _ _ e4⟩
theorem goR_length (l : List Int) : ∀ (f : List (Int × Int)) (acc : List Int), (goR l acc f).length ≤ acc.length + f.length
  | [], acc => Nat.le_refl _
  | p :: f, acc => by
    unfold goR
    split
    · have := goR_length l f (insF p.2 acc); have := insF_length p.2 acc; simp only [List.length_cons]; omega
    · have := goR_length l f acc; simp only [List.length_cons]; omega
theorem applyR_length (f : List (Int × Int)) (l : List Int) : (applyR f l).length ≤ f.length := by
  have := goR_length l f []
  simpa [applyR] using this
def p4 : PFn := ⟨4, spec4⟩
theorem p4_ok : p4.Ok := by
  refine PFn.Ok.ofT (qs := []) (ps := [p14, p15, p16]) (fun q h => by cases h) (fun p h => by simp at h; rcases h with rfl | rfl | rfl; exact p14_ok; exact p15_ok; exact p16_ok.tree) (fun args u hs => ?_)
  obtain ⟨c, x, y, z, e, t, l, rfl, he, ht, hl, rfl⟩ := spec4_some hs
  clear hs
  refine ⟨rfl, EvC.run (by kernel_rfl) (by rw [CT_P]; exact Tryz.func4) rfl ?_⟩
  have w0 : WFm (Mem.empty.fresh (some 30) [.int .i64 c, x, y]) := fresh_wf WFm.empty _ _
  have l1 : (Mem.empty.fresh (some 30) [.int .i64 c, x, y]).load (.ptr Mem.empty.nxt 1) 1 = some [x] := fresh_load Mem.empty _ _ (k := 1) (a := 1) (by simp)
  have l2 : (Mem.empty.fresh (some 30) [.int .i64 c, x, y]).load (.ptr Mem.empty.nxt 2) 1 = some [y] := fresh_load Mem.empty _ _ (k := 2) (a := 1) (by simp)
  have l3 : (Mem.empty.fresh (some 30) [.int .i64 c, x, y]).load (.ptr Mem.empty.nxt 0) 3 = some [.int .i64 c, x, y] := fresh_load Mem.empty _ _ (k := 0) (a := 3) (by simp)
  have hac : allCells [.int .i64 c, x, y] = true := by simp only [allCells, ipr_cell he, ipr_cell ht, show AV.isCell (.int .i64 c) = true from rfl, Bool.and_self]
  generalize hM0 : Mem.empty.fresh (some 30) [.int .i64 c, x, y] = M0 at w0 l1 l2 l3
  apply EvX.seq
  apply EvX.reg0
  · intro call
    simp only [QRun, stepA, wantedA, opA, pureA, loadA, effA, binA, bin, evalA, ofV, ofCell, Fr.put, enterA_n, enterA_t, setArgs, List.length_cons, List.length_nil, Tr.get_set, Nat.zero_testBit, cond_false, true_and, Nat.reduceAdd, Nat.reduceSub, ble_dec, beq_dec, Nat.reduceLeDiff, decide_true, decide_false, cond_true, Nat.reduceEqDiff, if_true, if_false, reduceIte, operands, Option.map_some, Option.map_none, CT_P, Tryz.ntmps4, hac, hM0, AV.cells, takeN, load_rp, Nat.zero_le, Nat.le_refl, Nat.zero_add, Nat.add_zero, Nat.mul_one, Nat.one_mul, Bool.not_false, Bool.not_true, List.getElem?_toArray, List.getElem?_cons_zero, List.getElem?_cons_succ, beq_self_eq_true, Bool.and_true, Bool.true_and, Bool.and_self, eq_self, show (true == false) = false from rfl, show (false == true) = false from rfl, show (false == false) = true from rfl, Tryz.underlying70, Tryz.underlying28, sl_t31, sl_t95, sz_3, sz_70, ag_3, ag_70, ze_70, ze_3, by_3, Tryz.underlying30, sz_30, ag_30, ze_30, sz_28, ag_28]
    exact ⟨rfl, rfl⟩
  simp only [Ex.thn]
  apply EvX.seq
  apply EvX.seq
  by_cases b1 : ((e.length : Int) > 200)
  · have d1 := decide_eq_true b1
    apply EvX.reg0
    · intro call
      simp only [QRun, stepA, wantedA, opA, pureA, loadA, effA, binA, bin, evalA, ofV, ofCell, Fr.put, enterA_n, enterA_t, setArgs, List.length_cons, List.length_nil, Tr.get_set, Nat.zero_testBit, cond_false, true_and, Nat.reduceAdd, Nat.reduceSub, ble_dec, beq_dec, Nat.reduceLeDiff, decide_true, decide_false, cond_true, Nat.reduceEqDiff, if_true, if_false, reduceIte, operands, Option.map_some, Option.map_none, CT_P, ipr_len he sl_t28, ipr_len ht sl_t28, isl_len hl sl_t31, l1, l2, AV.cells, takeN, load_rp, Nat.zero_le, Nat.le_refl, Nat.zero_add, Nat.add_zero, Nat.mul_one, Nat.one_mul, Bool.not_false, Bool.not_true, List.getElem?_toArray, List.getElem?_cons_zero, List.getElem?_cons_succ, beq_self_eq_true, Bool.and_true, Bool.true_and, Bool.and_self, eq_self, show (true == false) = false from rfl, show (false == true) = false from rfl, show (false == false) = true from rfl, Tryz.underlying70, Tryz.underlying28, sl_t31, sl_t95, sz_3, sz_70, ag_3, ag_70, ze_70, ze_3, by_3, Tryz.underlying30, sz_30, ag_30, ze_30, sz_28, ag_28, d1]
      exact ⟨rfl, rfl⟩
    simp only [Ex.thn]
    apply EvX.cond2 (t := true)
    · simp only [evalA, Tr.get_set, Nat.reduceEqDiff, if_true, if_false, reduceIte]
    rotate_left
    · intro h; cases h
    intro _
    apply EvX.seq
    apply EvX.reg0
    · intro call
      simp only [QRun, stepA, wantedA, opA, pureA, loadA, effA, binA, bin, evalA, ofV, ofCell, Fr.put, enterA_n, enterA_t, setArgs, List.length_cons, List.length_nil, Tr.get_set, Nat.zero_testBit, cond_false, true_and, Nat.reduceAdd, Nat.reduceSub, ble_dec, beq_dec, Nat.reduceLeDiff, decide_true, decide_false, cond_true, Nat.reduceEqDiff, if_true, if_false, reduceIte, operands, Option.map_some, Option.map_none, CT_P]
      exact ⟨rfl, rfl⟩
    simp only [Ex.thn]
    apply EvX.ret
    simp only [Ex.thn, Ex.blk]
    exact Fin.one rfl (by simp only [Tr.get_set, if_true, reduceIte])
  have d1 := decide_eq_false b1
  by_cases b2 : ((t.length : Int) > 200)
  · have d2 := decide_eq_true b2
    apply EvX.reg0
    · intro call
      simp only [QRun, stepA, wantedA, opA, pureA, loadA, effA, binA, bin, evalA, ofV, ofCell, Fr.put, enterA_n, enterA_t, setArgs, List.length_cons, List.length_nil, Tr.get_set, Nat.zero_testBit, cond_false, true_and, Nat.reduceAdd, Nat.reduceSub, ble_dec, beq_dec, Nat.reduceLeDiff, decide_true, decide_false, cond_true, Nat.reduceEqDiff, if_true, if_false, reduceIte, operands, Option.map_some, Option.map_none, CT_P, ipr_len he sl_t28, ipr_len ht sl_t28, isl_len hl sl_t31, l1, l2, AV.cells, takeN, load_rp, Nat.zero_le, Nat.le_refl, Nat.zero_add, Nat.add_zero, Nat.mul_one, Nat.one_mul, Bool.not_false, Bool.not_true, List.getElem?_toArray, List.getElem?_cons_zero, List.getElem?_cons_succ, beq_self_eq_true, Bool.and_true, Bool.true_and, Bool.and_self, eq_self, show (true == false) = false from rfl, show (false == true) = false from rfl, show (false == false) = true from rfl, Tryz.underlying70, Tryz.underlying28, sl_t31, sl_t95, sz_3, sz_70, ag_3, ag_70, ze_70, ze_3, by_3, Tryz.underlying30, sz_30, ag_30, ze_30, sz_28, ag_28, d1, d2]
      exact ⟨rfl, rfl⟩
    simp only [Ex.thn]
    apply EvX.cond2 (t := true)
    · simp only [evalA, Tr.get_set, Nat.reduceEqDiff, if_true, if_false, reduceIte]
    rotate_left
    · intro h; cases h
    intro _
    apply EvX.seq
    apply EvX.reg0
    · intro call
      simp only [QRun, stepA, wantedA, opA, pureA, loadA, effA, binA, bin, evalA, ofV, ofCell, Fr.put, enterA_n, enterA_t, setArgs, List.length_cons, List.length_nil, Tr.get_set, Nat.zero_testBit, cond_false, true_and, Nat.reduceAdd, Nat.reduceSub, ble_dec, beq_dec, Nat.reduceLeDiff, decide_true, decide_false, cond_true, Nat.reduceEqDiff, if_true, if_false, reduceIte, operands, Option.map_some, Option.map_none, CT_P]
      exact ⟨rfl, rfl⟩
    simp only [Ex.thn]
    apply EvX.ret
    simp only [Ex.thn, Ex.blk]
    exact Fin.one rfl (by simp only [Tr.get_set, if_true, reduceIte])
  have d2 := decide_eq_false b2
  by_cases b3 : ((l.length : Int) > 100)
  · have d3 := decide_eq_true b3
    apply EvX.reg0
    · intro call
      simp only [QRun, stepA, wantedA, opA, pureA, loadA, effA, binA, bin, evalA, ofV, ofCell, Fr.put, enterA_n, enterA_t, setArgs, List.length_cons, List.length_nil, Tr.get_set, Nat.zero_testBit, cond_false, true_and, Nat.reduceAdd, Nat.reduceSub, ble_dec, beq_dec, Nat.reduceLeDiff, decide_true, decide_false, cond_true, Nat.reduceEqDiff, if_true, if_false, reduceIte, operands, Option.map_some, Option.map_none, CT_P, ipr_len he sl_t28, ipr_len ht sl_t28, isl_len hl sl_t31, l1, l2, AV.cells, takeN, load_rp, Nat.zero_le, Nat.le_refl, Nat.zero_add, Nat.add_zero, Nat.mul_one, Nat.one_mul, Bool.not_false, Bool.not_true, List.getElem?_toArray, List.getElem?_cons_zero, List.getElem?_cons_succ, beq_self_eq_true, Bool.and_true, Bool.true_and, Bool.and_self, eq_self, show (true == false) = false from rfl, show (false == true) = false from rfl, show (false == false) = true from rfl, Tryz.underlying70, Tryz.underlying28, sl_t31, sl_t95, sz_3, sz_70, ag_3, ag_70, ze_70, ze_3, by_3, Tryz.underlying30, sz_30, ag_30, ze_30, sz_28, ag_28, d1, d2, d3]
      exact ⟨rfl, rfl⟩
    simp only [Ex.thn]
    apply EvX.cond2 (t := true)
    · simp only [evalA, Tr.get_set, Nat.reduceEqDiff, if_true, if_false, reduceIte]
    rotate_left
    · intro h; cases h
    intro _
    apply EvX.seq
    apply EvX.reg0
    · intro call
      simp only [QRun, stepA, wantedA, opA, pureA, loadA, effA, binA, bin, evalA, ofV, ofCell, Fr.put, enterA_n, enterA_t, setArgs, List.length_cons, List.length_nil, Tr.get_set, Nat.zero_testBit, cond_false, true_and, Nat.reduceAdd, Nat.reduceSub, ble_dec, beq_dec, Nat.reduceLeDiff, decide_true, decide_false, cond_true, Nat.reduceEqDiff, if_true, if_false, reduceIte, operands, Option.map_some, Option.map_none, CT_P]
      exact ⟨rfl, rfl⟩
    simp only [Ex.thn]
    apply EvX.ret
    simp only [Ex.thn, Ex.blk]
    exact Fin.one rfl (by simp only [Tr.get_set, if_true, reduceIte])
  have d3 := decide_eq_false b3
  apply EvX.reg0
  · intro call
    simp only [QRun, stepA, wantedA, opA, pureA, loadA, effA, binA, bin, evalA, ofV, ofCell, Fr.put, enterA_n, enterA_t, setArgs, List.length_cons, List.length_nil, Tr.get_set, Nat.zero_testBit, cond_false, true_and, Nat.reduceAdd, Nat.reduceSub, ble_dec, beq_dec, Nat.reduceLeDiff, decide_true, decide_false, cond_true, Nat.reduceEqDiff, if_true, if_false, reduceIte, operands, Option.map_some, Option.map_none, CT_P, ipr_len he sl_t28, ipr_len ht sl_t28, isl_len hl sl_t31, l1, l2, AV.cells, takeN, load_rp, Nat.zero_le, Nat.le_refl, Nat.zero_add, Nat.add_zero, Nat.mul_one, Nat.one_mul, Bool.not_false, Bool.not_true, List.getElem?_toArray, List.getElem?_cons_zero, List.getElem?_cons_succ, beq_self_eq_true, Bool.and_true, Bool.true_and, Bool.and_self, eq_self, show (true == false) = false from rfl, show (false == true) = false from rfl, show (false == false) = true from rfl, Tryz.underlying70, Tryz.underlying28, sl_t31, sl_t95, sz_3, sz_70, ag_3, ag_70, ze_70, ze_3, by_3, Tryz.underlying30, sz_30, ag_30, ze_30, sz_28, ag_28, d1, d2, d3]
    exact ⟨rfl, rfl⟩
  simp only [Ex.thn]
  apply EvX.cond2 (t := false)
  · simp only [evalA, Tr.get_set, Nat.reduceEqDiff, if_true, if_false, reduceIte]
  · intro h; cases h
  intro _
  apply EvX.skip
  simp only [Ex.thn, Ex.blk]
  obtain ⟨xa, xb, M1, e1, w1, k1, v1, v2⟩ := adopt_two w0 (applyL e l) (applyL t l)
  obtain ⟨xc, xd, M2, e2, w2, k2, v3, v4⟩ := adopt_two w1 (applyR e l) (applyR t l)
  have l13 := w0.load k1 l3
  have vz : viewA 8 M0 z = some z := isl_view hl 6 M0
  have vg : ∀ M, viewA 8 M (.agg [.int .i64 c, x, y]) = some (.agg [.int .i64 c, x, y]) := fun M => by
    rw [viewA]; simp only [mapO, view_int, ipr_view he 5, ipr_view ht 5, Option.map_some]
  have c14 := fun k => callT (qs := []) (ps := [p14, p15, p16]) (p := p14) (f := 14) rfl (D := drawA (CT [] [p14, p15, p16])) k M0 (by simp only [mapO, vg, isl_view hl 6] : mapO (viewA 8 M0) [.agg [.int .i64 c, x, y], z] = some [.agg [.int .i64 c, x, y], z]) (specBoth_enc applyL (c := c) he ht hl (by omega) (by omega) (by omega))
  have c15 := fun k => callT (qs := []) (ps := [p14, p15, p16]) (p := p15) (f := 15) rfl (D := drawA (CT [] [p14, p15, p16])) k M1 (by simp only [mapO, vg, isl_view hl 6] : mapO (viewA 8 M1) [.agg [.int .i64 c, x, y], z] = some [.agg [.int .i64 c, x, y], z]) (specBoth_enc applyR (c := c) he ht hl (by omega) (by omega) (by omega))
  rw [e1] at c14
  rw [e2] at c15
  rw [apply_eq] at v1 v2
  have hA := applyR_length e l
  have hB := applyR_length t l
  have c16a := fun k => callTp (qs := []) (ps := [p14, p15, p16]) (p := p16) (f := 16) rfl (D := drawA (CT [] [p14, p15, p16])) k M2 (by simp only [mapO, w1.view k2 _ _ _ v1, v3] : mapO (viewA 8 M2) [xa, xc] = some [slI (applyR e l), slI (applyR e l)]) (spec16 (isl_slI _) (isl_slI _) (by omega) (by omega)) rfl
  have c16b := fun k => callTp (qs := []) (ps := [p14, p15, p16]) (p := p16) (f := 16) rfl (D := drawA (CT [] [p14, p15, p16])) k M2 (by simp only [mapO, w1.view k2 _ _ _ v2, v4] : mapO (viewA 8 M2) [xb, xd] = some [slI (applyR t l), slI (applyR t l)]) (spec16 (isl_slI _) (isl_slI _) (by omega) (by omega)) rfl
  have c13 := fun k => callT13 (qs := []) (ps := [p14, p15, p16]) rfl rfl (D := drawA (CT [] [p14, p15, p16])) k M2
  rw [beq_self_eq_true] at c16a c16b
  apply EvX.seq
  apply EvX.reg 0
  · intro k _
    simp only [QRun, stepA, wantedA, opA, pureA, loadA, effA, binA, bin, evalA, ofV, ofCell, Fr.put, enterA_n, enterA_t, setArgs, List.length_cons, List.length_nil, Tr.get_set, Nat.zero_testBit, cond_false, true_and, Nat.reduceAdd, Nat.reduceSub, ble_dec, beq_dec, Nat.reduceLeDiff, decide_true, decide_false, cond_true, Nat.reduceEqDiff, if_true, if_false, reduceIte, operands, Option.map_some, Option.map_none, CT_P, cl_14, c14, l3, AV.cells, takeN, load_rp, Nat.zero_le, Nat.le_refl, Nat.zero_add, Nat.add_zero, Nat.mul_one, Nat.one_mul, Bool.not_false, Bool.not_true, List.getElem?_toArray, List.getElem?_cons_zero, List.getElem?_cons_succ, beq_self_eq_true, Bool.and_true, Bool.true_and, Bool.and_self, eq_self, show (true == false) = false from rfl, show (false == true) = false from rfl, show (false == false) = true from rfl, Tryz.underlying70, Tryz.underlying28, sl_t31, sl_t95, sz_3, sz_70, ag_3, ag_70, ze_70, ze_3, by_3, Tryz.underlying30, sz_30, ag_30, ze_30, sz_28, ag_28]
    exact ⟨rfl, rfl⟩
  simp only [Ex.thn]
  apply EvX.seq
  apply EvX.reg 0
  · intro k _
    simp only [QRun, stepA, wantedA, opA, pureA, loadA, effA, binA, bin, evalA, ofV, ofCell, Fr.put, enterA_n, enterA_t, setArgs, List.length_cons, List.length_nil, Tr.get_set, Nat.zero_testBit, cond_false, true_and, Nat.reduceAdd, Nat.reduceSub, ble_dec, beq_dec, Nat.reduceLeDiff, decide_true, decide_false, cond_true, Nat.reduceEqDiff, if_true, if_false, reduceIte, operands, Option.map_some, Option.map_none, CT_P, cl_15, c15, l13, AV.cells, takeN, load_rp, Nat.zero_le, Nat.le_refl, Nat.zero_add, Nat.add_zero, Nat.mul_one, Nat.one_mul, Bool.not_false, Bool.not_true, List.getElem?_toArray, List.getElem?_cons_zero, List.getElem?_cons_succ, beq_self_eq_true, Bool.and_true, Bool.true_and, Bool.and_self, eq_self, show (true == false) = false from rfl, show (false == true) = false from rfl, show (false == false) = true from rfl, Tryz.underlying70, Tryz.underlying28, sl_t31, sl_t95, sz_3, sz_70, ag_3, ag_70, ze_70, ze_3, by_3, Tryz.underlying30, sz_30, ag_30, ze_30, sz_28, ag_28]
    exact ⟨rfl, rfl⟩
  simp only [Ex.thn]
  apply EvX.seq
  apply EvX.reg 0
  · intro k _
    simp only [QRun, stepA, wantedA, opA, pureA, loadA, effA, binA, bin, evalA, ofV, ofCell, Fr.put, enterA_n, enterA_t, setArgs, List.length_cons, List.length_nil, Tr.get_set, Nat.zero_testBit, cond_false, true_and, Nat.reduceAdd, Nat.reduceSub, ble_dec, beq_dec, Nat.reduceLeDiff, decide_true, decide_false, cond_true, Nat.reduceEqDiff, if_true, if_false, reduceIte, operands, Option.map_some, Option.map_none, CT_P, cl_16, cl_13, c16a, c16b, c13, AV.cells, takeN, load_rp, Nat.zero_le, Nat.le_refl, Nat.zero_add, Nat.add_zero, Nat.mul_one, Nat.one_mul, Bool.not_false, Bool.not_true, List.getElem?_toArray, List.getElem?_cons_zero, List.getElem?_cons_succ, beq_self_eq_true, Bool.and_true, Bool.true_and, Bool.and_self, eq_self, show (true == false) = false from rfl, show (false == true) = false from rfl, show (false == false) = true from rfl, Tryz.underlying70, Tryz.underlying28, sl_t31, sl_t95, sz_3, sz_70, ag_3, ag_70, ze_70, ze_3, by_3, Tryz.underlying30, sz_30, ag_30, ze_30, sz_28, ag_28]
    exact ⟨rfl, rfl⟩
  simp only [Ex.thn]
  apply EvX.ret
  exact Fin.one rfl (by simp only [Tr.get_set, if_true, reduceIte])
end Go.Vz
