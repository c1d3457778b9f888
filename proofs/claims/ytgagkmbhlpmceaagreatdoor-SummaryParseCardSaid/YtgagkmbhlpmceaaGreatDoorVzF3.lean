/-
  SummaryCheck's functions over summaries, told.
-/
import Derived.Test.YtgagkmbhlpmceaaGreatDoorVzF2
set_option linter.unusedVariables false
set_option linter.unusedSimpArgs false
namespace Go.Vz
open Go Go.Proofs
set_option maxHeartbeats 4000000
set_option maxRecDepth 20000
theorem sz_30 : sizeT Tryz.prog 30 = some 3 := by kernel_rfl
theorem ag_30 : aggT Tryz.prog 30 = some true := by kernel_rfl
theorem ze_30 : zeroT Tryz.prog 30 = some (.agg [.int .i64 0, .nilsl, .nilsl]) := by kernel_rfl
theorem sz_28 : sizeT Tryz.prog 28 = some 1 := by kernel_rfl
theorem ag_28 : aggT Tryz.prog 28 = some false := by kernel_rfl
theorem ze_28 : zeroT Tryz.prog 28 = some .nilsl := by kernel_rfl
/-- a summary -/
structure Sm where
  fn : Int
  ex : List (Int × Int)
  th : List (Int × Int)
def encSums : List Sm → List AV
  | [] => []
  | s :: l => .int .i64 s.fn :: .ro (encPairs s.ex) s.ex.length 2 :: .ro (encPairs s.th) s.th.length 2 :: encSums l
def decRow : AV → Option (List (Int × Int))
  | .ro xs n 2 => match decPairs xs with
    | some l => bif Nat.beq l.length n && Nat.ble n 9223372036854775807 then some l else none
    | none => none
  | _ => none
theorem decRow_eq {x : AV} {l : List (Int × Int)} (h : decRow x = some l) : x = .ro (encPairs l) l.length 2 ∧ l.length ≤ 9223372036854775807 := by
  unfold decRow at h
  split at h
  · rename_i xs n
    cases hl : decPairs xs with
    | none => simp [hl] at h
    | some k =>
      simp only [hl] at h
      cases hb : Nat.beq k.length n && Nat.ble n 9223372036854775807 with
      | false => simp [hb] at h
      | true =>
        simp only [hb, cond_true, Option.some.injEq] at h
        subst h
        rw [Bool.and_eq_true_iff] at hb
        have hn := Nat.eq_of_beq_eq_true hb.1
        subst hn
        exact ⟨by rw [decPairs_eq hl], Nat.le_of_ble_eq_true hb.2⟩
  · cases h
def decSums : List AV → Option (List Sm)
  | [] => some []
  | .int .i64 f :: x :: y :: r => match decRow x, decRow y, decSums r with
    | some a, some b, some l => some (⟨f, a, b⟩ :: l)
    | _, _, _ => none
  | _ => none
/-- rows of a length that Go has -/
def okSums (l : List Sm) : Prop := ∀ s ∈ l, s.ex.length ≤ 9223372036854775807 ∧ s.th.length ≤ 9223372036854775807
theorem decSums_eq : ∀ {xs : List AV} {l : List Sm}, decSums xs = some l → xs = encSums l ∧ okSums l
  | xs, l, h => by
    unfold decSums at h
    split at h
    · cases h; exact ⟨rfl, fun s hs => by cases hs⟩
    · rename_i f x y r
      cases h1 : decRow x with
      | none => simp [h1] at h
      | some a => cases h2 : decRow y with
        | none => simp [h1, h2] at h
        | some b => cases h3 : decSums r with
          | none => simp [h1, h2, h3] at h
          | some k =>
            simp only [h1, h2, h3, Option.some.injEq] at h
            subst h
            obtain ⟨e1, m1⟩ := decRow_eq h1
            obtain ⟨e2, m2⟩ := decRow_eq h2
            obtain ⟨e3, m3⟩ := decSums_eq h3
            refine ⟨by rw [e1, e2, e3]; rfl, fun s hs => ?_⟩
            cases hs with
            | head => exact ⟨m1, m2⟩
            | tail _ hs => exact m3 s hs
    · cases h
termination_by xs => xs.length
theorem encSums_length : ∀ l : List Sm, (encSums l).length = l.length * 3
  | [] => rfl
  | p :: l => by simp only [encSums, List.length_cons, encSums_length l]; omega
theorem dropSum : ∀ {l : List Sm} {i : Nat} (h : i < l.length), (encSums l).drop (i * 3) = .int .i64 l[i].fn :: .ro (encPairs l[i].ex) l[i].ex.length 2 :: .ro (encPairs l[i].th) l[i].th.length 2 :: (encSums l).drop ((i + 1) * 3)
  | p :: l, 0, _ => rfl
  | p :: l, i + 1, h => by
    have e1 : (i + 1) * 3 = i * 3 + 1 + 1 + 1 := by omega
    have e2 : (i + 1 + 1) * 3 = (i + 1) * 3 + 1 + 1 + 1 := by omega
    rw [e1, e2]
    simp only [encSums, List.drop_succ_cons, List.getElem_cons_succ]
    exact dropSum (by simpa using h)
theorem view_int (n : Nat) (m : Mem) (k : IntKind) (a : Int) : viewA (n + 1) m (.int k a) = some (.int k a) := rfl
theorem viewPairs (n : Nat) (m : Mem) : ∀ l : List (Int × Int), mapO (viewA (n + 1) m) (encPairs l) = some (encPairs l)
  | [] => rfl
  | p :: l => by simp only [encPairs, mapO, view_int, viewPairs n m l]
theorem viewRow (n : Nat) (m : Mem) (l : List (Int × Int)) (k : Nat) : viewA (n + 2) m (.ro (encPairs l) k 2) = some (.ro (encPairs l) k 2) := by
  rw [viewA]; simp only [viewPairs, Option.map_some]
theorem viewSums (n : Nat) (m : Mem) : ∀ l : List Sm, mapO (viewA (n + 2) m) (encSums l) = some (encSums l)
  | [] => rfl
  | p :: l => by
    simp only [encSums, mapO, view_int, viewRow, viewSums n m l]
theorem decPairs_enc : ∀ l : List (Int × Int), decPairs (encPairs l) = some l
  | [] => rfl
  | p :: l => by rw [encPairs, decPairs, decPairs_enc l]; rfl
theorem decRow_enc {l : List (Int × Int)} (h : l.length ≤ 9223372036854775807) : decRow (.ro (encPairs l) l.length 2) = some l := by
  simp only [decRow, decPairs_enc, Nat.beq_refl, Nat.ble_eq_true_of_le h, Bool.and_self, cond_true]
theorem decSums_enc : ∀ {l : List Sm}, okSums l → decSums (encSums l) = some l
  | [], _ => rfl
  | p :: l, h => by
    rw [encSums, decSums, decRow_enc (h p List.mem_cons_self).1, decRow_enc (h p List.mem_cons_self).2, decSums_enc (fun s hs => h s (List.mem_cons_of_mem _ hs))]
theorem specPairs_enc {l : List (Int × Int)} (h : l.length ≤ 9223372036854775807) (f : Int) : specPairs [.ro (encPairs l) l.length 2, .int .i64 f] = some (.int .i64 (pairsErr f l)) := by
  simp only [specPairs, decPairs_enc, Nat.beq_refl, Nat.ble_eq_true_of_le h, Bool.and_self, cond_true]
theorem call34 {ps : List PFn} (h : findP ps 34 = some p34) {D : CallF → DrawF} (k : Nat) {l : List (Int × Int)} (hl : l.length ≤ 9223372036854775807) (f : Int) (m : Mem) :
    Vz.call (CP ps) D k 34 [.ro (encPairs l) l.length 2, .int .i64 f] m = some (.int .i64 (pairsErr f l), m) :=
  call_told h k m (args' := [.ro (encPairs l) l.length 2, .int .i64 f]) (by simp only [mapO, viewRow]; rfl) (specPairs_enc hl f)
theorem call35 {ps : List PFn} (h : findP ps 35 = some p35) {D : CallF → DrawF} (k : Nat) {l : List (Int × Int)} (hl : l.length ≤ 9223372036854775807) (f : Int) (m : Mem) :
    Vz.call (CP ps) D k 35 [.ro (encPairs l) l.length 2, .int .i64 f] m = some (.int .i64 (pairsErr f l), m) :=
  call_told h k m (args' := [.ro (encPairs l) l.length 2, .int .i64 f]) (by simp only [mapO, viewRow]; rfl) (specPairs_enc hl f)
theorem cl_34 (args : List AV) : calleeA Tryz.prog (.fn (.func 34) [] []) args = some (.enter 34 args) := by rw [callee_of Tryz.func34 (by kernel_rfl) (by kernel_rfl)]; simp
theorem cl_35 (args : List AV) : calleeA Tryz.prog (.fn (.func 35) [] []) args = some (.enter 35 args) := by rw [callee_of Tryz.func35 (by kernel_rfl) (by kernel_rfl)]; simp

/-! ### Check -/
def notMore : Option Int → Int → Prop
  | some a, b => b ≤ a
  | none, _ => False
instance (q : Option Int) (p : Int) : Decidable (notMore q p) := by cases q <;> unfold notMore <;> exact inferInstance
def goSums (f : Int) : Option Int → List Sm → Int
  | _, [] => 0
  | q, s :: l => if s.fn < 0 ∨ s.fn ≥ 256 then 4 else if notMore q s.fn then 13 else if pairsErr f s.ex ≠ 0 then pairsErr f s.ex else if pairsErr f s.th ≠ 0 then pairsErr f s.th else goSums f (some s.fn) l
def sumsErr (f : Int) (l : List Sm) : Int := if f < 1 ∨ f > 1024 then 4 else if l.length > 256 then 3 else goSums f none l
def fnBefore (l : List Sm) : Nat → Option Int
  | 0 => none
  | i + 1 => l[i]?.map (·.fn)
theorem goSums_drop {f : Int} {l : List Sm} {i : Nat} (h : i < l.length) : goSums f (fnBefore l i) (l.drop i) = if l[i].fn < 0 ∨ l[i].fn ≥ 256 then 4 else if notMore (fnBefore l i) l[i].fn then 13 else
    if pairsErr f l[i].ex ≠ 0 then pairsErr f l[i].ex else if pairsErr f l[i].th ≠ 0 then pairsErr f l[i].th else goSums f (fnBefore l (i + 1)) (l.drop (i + 1)) := by
  rw [List.drop_eq_getElem_cons h]
  have : fnBefore l (i + 1) = some l[i].fn := by show (l[i]?).map (·.fn) = _; rw [List.getElem?_eq_getElem h]; rfl
  rw [this]
  rfl
def specSums : List AV → Option AV
  | [.ro xs n 3, .int .i64 f] => match decSums xs with
    | some l => bif Nat.beq l.length n && Nat.ble n 9223372036854775807 then some (.int .i64 (sumsErr f l)) else none
    | none => none
  | _ => none
theorem specSums_some {args : List AV} {x : AV} (h : specSums args = some x) : ∃ l f, args = [.ro (encSums l) l.length 3, .int .i64 f] ∧ x = .int .i64 (sumsErr f l) ∧ l.length ≤ 9223372036854775807 ∧ okSums l := by
  unfold specSums at h
  split at h
  rotate_left
  · cases h
  rename_i xs n f
  cases hl : decSums xs with
  | none => simp [hl] at h
  | some l =>
  simp only [hl] at h
  cases hb : Nat.beq l.length n && Nat.ble n 9223372036854775807 with
  | false => simp [hb] at h
  | true =>
  simp only [hb, cond_true, Option.some.injEq] at h
  rw [Bool.and_eq_true_iff] at hb
  have hn := Nat.eq_of_beq_eq_true hb.1
  subst hn
  obtain ⟨e1, e2⟩ := decSums_eq hl
  exact ⟨l, f, by rw [e1], h.symm, Nat.le_of_ble_eq_true hb.2, e2⟩
theorem specSums_enc {l : List Sm} (h : l.length ≤ 9223372036854775807) (hk : okSums l) (f : Int) : specSums [.ro (encSums l) l.length 3, .int .i64 f] = some (.int .i64 (sumsErr f l)) := by
  simp only [specSums, decSums_enc hk, Nat.beq_refl, Nat.ble_eq_true_of_le h, Bool.and_self, cond_true]
def p12 : PFn := ⟨12, specSums⟩
theorem p12_ok : p12.Ok := by
  refine PFn.Ok.of (ps := [p35]) (fun p h => by simp at h; subst h; exact p35_ok) (fun args x h => ?_)
  obtain ⟨l, f, rfl, rfl, hmax, hrows⟩ := specSums_some h
  clear h
  refine ⟨rfl, EvC.run (by kernel_rfl) (by rw [CP_P]; exact Tryz.func12) rfl ?_⟩
  apply EvX.seq
  apply EvX.reg0
  · intro call
    simp only [QRun, stepA, wantedA, opA, pureA, loadA, effA, binA, bin, evalA, ofV, ofCell, Fr.put, enterA_n, enterA_t, setArgs, List.length_cons, List.length_nil, Tr.get_set, Nat.zero_testBit, cond_false, true_and, Nat.reduceAdd, Nat.reduceSub, ble_dec, beq_dec, Nat.reduceLeDiff, decide_true, decide_false, cond_true, Nat.reduceEqDiff, if_true, if_false, reduceIte, operands, Option.map_some, Option.map_none, CP_P, Tryz.ntmps12]
    exact ⟨rfl, rfl⟩
  simp only [Ex.thn]
  apply EvX.seq
  by_cases c1 : f < 1
  · have e1 := decide_eq_true c1
    apply EvX.seq
    apply EvX.reg0
    · intro call
      simp only [QRun, stepA, wantedA, opA, pureA, loadA, effA, binA, bin, evalA, ofV, ofCell, Fr.put, enterA_n, enterA_t, setArgs, List.length_cons, List.length_nil, Tr.get_set, Nat.zero_testBit, cond_false, true_and, Nat.reduceAdd, Nat.reduceSub, ble_dec, beq_dec, Nat.reduceLeDiff, decide_true, decide_false, cond_true, Nat.reduceEqDiff, if_true, if_false, reduceIte, operands, Option.map_some, Option.map_none, CP_P, e1, Mem.fresh, Mem.load, Mem.live, Win.read, Win.cell, setCells, Mem.empty, Mem.store, List.length_cons, List.length_nil, AV.cells, allCells, AV.isCell, takeN, Nat.zero_le, Nat.le_refl, Nat.zero_add, Nat.add_zero, Bool.not_false, Tr.get_nil, List.getElem?_toArray, List.getElem?_cons_zero, List.getElem?_cons_succ, beq_self_eq_true, Bool.and_true, Bool.true_and, Bool.and_self, eq_self, show (true == false) = false from rfl, show (false == true) = false from rfl, show (false == false) = true from rfl, Tryz.underlying70, Tryz.underlying28, sz_3, sz_70, ag_3, ag_70, ze_70, Tryz.underlying22, Tryz.underlying30, sz_30, ag_30, ze_30, sz_28, ag_28]
      exact ⟨rfl, rfl⟩
    simp only [Ex.thn]
    apply EvX.cond2 (t := true)
    · simp only [evalA, Tr.get_set, Nat.reduceEqDiff, if_true, if_false, reduceIte]
    rotate_left
    · intro h; cases h
    intro _
    apply EvX.seq
    apply EvX.reg0
    · intro call
      simp only [QRun, stepA, wantedA, opA, pureA, loadA, effA, binA, bin, evalA, ofV, ofCell, Fr.put, enterA_n, enterA_t, setArgs, List.length_cons, List.length_nil, Tr.get_set, Nat.zero_testBit, cond_false, true_and, Nat.reduceAdd, Nat.reduceSub, ble_dec, beq_dec, Nat.reduceLeDiff, decide_true, decide_false, cond_true, Nat.reduceEqDiff, if_true, if_false, reduceIte, operands, Option.map_some, Option.map_none, CP_P]
      exact ⟨rfl, rfl⟩
    simp only [Ex.thn]
    apply EvX.ret
    simp only [Ex.thn]
    exact Fin.one rfl (by simp [Tr.get_set, sumsErr, c1])
  have e1 := decide_eq_false c1
  by_cases c2 : f > 1024
  · have e2 := decide_eq_true c2
    apply EvX.seq
    apply EvX.reg0
    · intro call
      simp only [QRun, stepA, wantedA, opA, pureA, loadA, effA, binA, bin, evalA, ofV, ofCell, Fr.put, enterA_n, enterA_t, setArgs, List.length_cons, List.length_nil, Tr.get_set, Nat.zero_testBit, cond_false, true_and, Nat.reduceAdd, Nat.reduceSub, ble_dec, beq_dec, Nat.reduceLeDiff, decide_true, decide_false, cond_true, Nat.reduceEqDiff, if_true, if_false, reduceIte, operands, Option.map_some, Option.map_none, CP_P, e1, e2, Mem.fresh, Mem.load, Mem.live, Win.read, Win.cell, setCells, Mem.empty, Mem.store, List.length_cons, List.length_nil, AV.cells, allCells, AV.isCell, takeN, Nat.zero_le, Nat.le_refl, Nat.zero_add, Nat.add_zero, Bool.not_false, Tr.get_nil, List.getElem?_toArray, List.getElem?_cons_zero, List.getElem?_cons_succ, beq_self_eq_true, Bool.and_true, Bool.true_and, Bool.and_self, eq_self, show (true == false) = false from rfl, show (false == true) = false from rfl, show (false == false) = true from rfl, Tryz.underlying70, Tryz.underlying28, sz_3, sz_70, ag_3, ag_70, ze_70, Tryz.underlying22, Tryz.underlying30, sz_30, ag_30, ze_30, sz_28, ag_28]
      exact ⟨rfl, rfl⟩
    simp only [Ex.thn]
    apply EvX.cond2 (t := true)
    · simp only [evalA, Tr.get_set, Nat.reduceEqDiff, if_true, if_false, reduceIte]
    rotate_left
    · intro h; cases h
    intro _
    apply EvX.seq
    apply EvX.reg0
    · intro call
      simp only [QRun, stepA, wantedA, opA, pureA, loadA, effA, binA, bin, evalA, ofV, ofCell, Fr.put, enterA_n, enterA_t, setArgs, List.length_cons, List.length_nil, Tr.get_set, Nat.zero_testBit, cond_false, true_and, Nat.reduceAdd, Nat.reduceSub, ble_dec, beq_dec, Nat.reduceLeDiff, decide_true, decide_false, cond_true, Nat.reduceEqDiff, if_true, if_false, reduceIte, operands, Option.map_some, Option.map_none, CP_P]
      exact ⟨rfl, rfl⟩
    simp only [Ex.thn]
    apply EvX.ret
    simp only [Ex.thn]
    exact Fin.one rfl (by simp [Tr.get_set, sumsErr, c2])
  have e2 := decide_eq_false c2
  apply EvX.seq
  apply EvX.reg0
  · intro call
    simp only [QRun, stepA, wantedA, opA, pureA, loadA, effA, binA, bin, evalA, ofV, ofCell, Fr.put, enterA_n, enterA_t, setArgs, List.length_cons, List.length_nil, Tr.get_set, Nat.zero_testBit, cond_false, true_and, Nat.reduceAdd, Nat.reduceSub, ble_dec, beq_dec, Nat.reduceLeDiff, decide_true, decide_false, cond_true, Nat.reduceEqDiff, if_true, if_false, reduceIte, operands, Option.map_some, Option.map_none, CP_P, e1, e2, Mem.fresh, Mem.load, Mem.live, Win.read, Win.cell, setCells, Mem.empty, Mem.store, List.length_cons, List.length_nil, AV.cells, allCells, AV.isCell, takeN, Nat.zero_le, Nat.le_refl, Nat.zero_add, Nat.add_zero, Bool.not_false, Tr.get_nil, List.getElem?_toArray, List.getElem?_cons_zero, List.getElem?_cons_succ, beq_self_eq_true, Bool.and_true, Bool.true_and, Bool.and_self, eq_self, show (true == false) = false from rfl, show (false == true) = false from rfl, show (false == false) = true from rfl, Tryz.underlying70, Tryz.underlying28, sz_3, sz_70, ag_3, ag_70, ze_70, Tryz.underlying22, Tryz.underlying30, sz_30, ag_30, ze_30, sz_28, ag_28]
    exact ⟨rfl, rfl⟩
  simp only [Ex.thn]
  apply EvX.cond2 (t := false)
  · simp only [evalA, Tr.get_set, Nat.reduceEqDiff, if_true, if_false, reduceIte]
  · intro h; cases h
  intro _
  apply EvX.skip
  simp only [Ex.thn, Ex.blk]
  apply EvX.seq
  by_cases c3 : ((l.length : Int) > 256)
  · have e3 := decide_eq_true c3
    apply EvX.seq
    apply EvX.reg0
    · intro call
      simp only [QRun, stepA, wantedA, opA, pureA, loadA, effA, binA, bin, evalA, ofV, ofCell, Fr.put, enterA_n, enterA_t, setArgs, List.length_cons, List.length_nil, Tr.get_set, Nat.zero_testBit, cond_false, true_and, Nat.reduceAdd, Nat.reduceSub, ble_dec, beq_dec, Nat.reduceLeDiff, decide_true, decide_false, cond_true, Nat.reduceEqDiff, if_true, if_false, reduceIte, operands, Option.map_some, Option.map_none, CP_P, lenA, e3, Mem.fresh, Mem.load, Mem.live, Win.read, Win.cell, setCells, Mem.empty, Mem.store, List.length_cons, List.length_nil, AV.cells, allCells, AV.isCell, takeN, Nat.zero_le, Nat.le_refl, Nat.zero_add, Nat.add_zero, Bool.not_false, Tr.get_nil, List.getElem?_toArray, List.getElem?_cons_zero, List.getElem?_cons_succ, beq_self_eq_true, Bool.and_true, Bool.true_and, Bool.and_self, eq_self, show (true == false) = false from rfl, show (false == true) = false from rfl, show (false == false) = true from rfl, Tryz.underlying70, Tryz.underlying28, sz_3, sz_70, ag_3, ag_70, ze_70, Tryz.underlying22, Tryz.underlying30, sz_30, ag_30, ze_30, sz_28, ag_28]
      exact ⟨rfl, rfl⟩
    simp only [Ex.thn]
    apply EvX.cond2 (t := true)
    · simp only [evalA, Tr.get_set, Nat.reduceEqDiff, if_true, if_false, reduceIte]
    rotate_left
    · intro h; cases h
    intro _
    apply EvX.seq
    apply EvX.reg0
    · intro call
      simp only [QRun, stepA, wantedA, opA, pureA, loadA, effA, binA, bin, evalA, ofV, ofCell, Fr.put, enterA_n, enterA_t, setArgs, List.length_cons, List.length_nil, Tr.get_set, Nat.zero_testBit, cond_false, true_and, Nat.reduceAdd, Nat.reduceSub, ble_dec, beq_dec, Nat.reduceLeDiff, decide_true, decide_false, cond_true, Nat.reduceEqDiff, if_true, if_false, reduceIte, operands, Option.map_some, Option.map_none, CP_P]
      exact ⟨rfl, rfl⟩
    simp only [Ex.thn]
    apply EvX.ret
    simp only [Ex.thn]
    exact Fin.one rfl (by simp only [Tr.get_set, sumsErr, if_neg (show ¬ (f < 1 ∨ f > 1024) by omega), if_pos (show l.length > 256 by omega), if_true])
  have e3 := decide_eq_false c3
  apply EvX.seq
  apply EvX.reg0
  · intro call
    simp only [QRun, stepA, wantedA, opA, pureA, loadA, effA, binA, bin, evalA, ofV, ofCell, Fr.put, enterA_n, enterA_t, setArgs, List.length_cons, List.length_nil, Tr.get_set, Nat.zero_testBit, cond_false, true_and, Nat.reduceAdd, Nat.reduceSub, ble_dec, beq_dec, Nat.reduceLeDiff, decide_true, decide_false, cond_true, Nat.reduceEqDiff, if_true, if_false, reduceIte, operands, Option.map_some, Option.map_none, CP_P, lenA, e3, Mem.fresh, Mem.load, Mem.live, Win.read, Win.cell, setCells, Mem.empty, Mem.store, List.length_cons, List.length_nil, AV.cells, allCells, AV.isCell, takeN, Nat.zero_le, Nat.le_refl, Nat.zero_add, Nat.add_zero, Bool.not_false, Tr.get_nil, List.getElem?_toArray, List.getElem?_cons_zero, List.getElem?_cons_succ, beq_self_eq_true, Bool.and_true, Bool.true_and, Bool.and_self, eq_self, show (true == false) = false from rfl, show (false == true) = false from rfl, show (false == false) = true from rfl, Tryz.underlying70, Tryz.underlying28, sz_3, sz_70, ag_3, ag_70, ze_70, Tryz.underlying22, Tryz.underlying30, sz_30, ag_30, ze_30, sz_28, ag_28]
    exact ⟨rfl, rfl⟩
  simp only [Ex.thn]
  apply EvX.cond2 (t := false)
  · simp only [evalA, Tr.get_set, Nat.reduceEqDiff, if_true, if_false, reduceIte]
  · intro h; cases h
  intro _
  apply EvX.skip
  simp only [Ex.thn, Ex.blk]
  have hse : sumsErr f l = goSums f none l := by unfold sumsErr; rw [if_neg (by omega), if_neg (by omega)]
  rw [hse]
  apply EvX.seq
  apply EvX.seq
  apply EvX.reg0
  · intro call
    simp only [QRun, stepA, wantedA, opA, pureA, loadA, effA, binA, bin, evalA, ofV, ofCell, Fr.put, enterA_n, enterA_t, setArgs, List.length_cons, List.length_nil, Tr.get_set, Nat.zero_testBit, cond_false, true_and, Nat.reduceAdd, Nat.reduceSub, ble_dec, beq_dec, Nat.reduceLeDiff, decide_true, decide_false, cond_true, Nat.reduceEqDiff, if_true, if_false, reduceIte, operands, Option.map_some, Option.map_none, CP_P, Mem.fresh, Mem.load, Mem.live, Win.read, Win.cell, setCells, Mem.empty, Mem.store, List.length_cons, List.length_nil, AV.cells, allCells, AV.isCell, takeN, Nat.zero_le, Nat.le_refl, Nat.zero_add, Nat.add_zero, Bool.not_false, Tr.get_nil, List.getElem?_toArray, List.getElem?_cons_zero, List.getElem?_cons_succ, beq_self_eq_true, Bool.and_true, Bool.true_and, Bool.and_self, eq_self, show (true == false) = false from rfl, show (false == true) = false from rfl, show (false == false) = true from rfl, Tryz.underlying70, Tryz.underlying28, sz_3, sz_70, ag_3, ag_70, ze_70, Tryz.underlying22, Tryz.underlying30, sz_30, ag_30, ze_30, sz_28, ag_28]
    exact ⟨rfl, rfl⟩
  simp only [Ex.thn]
  apply EvX.block
  refine EvX.loop (fun k fr m => ∃ i : Nat, k = l.length - i ∧ i ≤ l.length ∧ fr.n = 73 ∧ fr.t.get 0 = some (.ro (encSums l) l.length 3) ∧ fr.t.get 1 = some (.int .i64 f) ∧
    fr.t.get 5 = some (.int .i64 (i : Int)) ∧ goSums f (fnBefore l i) (l.drop i) = goSums f none l) ?_ l.length _ _ ⟨0, by simp, by simp, rfl, by simp [Tr.get_set], by simp [Tr.get_set], by simp [Tr.get_set], rfl⟩
  rintro k fr m ⟨i, rfl, hil, hfn, h0, h1, h5, hgo⟩
  apply EvX.seq
  apply EvX.seq
  apply EvX.reg0
  · intro call
    simp only [QRun, stepA, wantedA, opA, pureA, loadA, effA, binA, bin, evalA, ofV, ofCell, Fr.put, enterA_n, enterA_t, setArgs, List.length_cons, List.length_nil, Tr.get_set, Nat.zero_testBit, cond_false, true_and, Nat.reduceAdd, Nat.reduceSub, ble_dec, beq_dec, Nat.reduceLeDiff, decide_true, decide_false, cond_true, Nat.reduceEqDiff, if_true, if_false, reduceIte, operands, Option.map_some, Option.map_none, CP_P, hfn, h0, h5, lenA, Mem.fresh, Mem.load, Mem.live, Win.read, Win.cell, setCells, Mem.empty, Mem.store, List.length_cons, List.length_nil, AV.cells, allCells, AV.isCell, takeN, Nat.zero_le, Nat.le_refl, Nat.zero_add, Nat.add_zero, Bool.not_false, Tr.get_nil, List.getElem?_toArray, List.getElem?_cons_zero, List.getElem?_cons_succ, beq_self_eq_true, Bool.and_true, Bool.true_and, Bool.and_self, eq_self, show (true == false) = false from rfl, show (false == true) = false from rfl, show (false == false) = true from rfl, Tryz.underlying70, Tryz.underlying28, sz_3, sz_70, ag_3, ag_70, ze_70, Tryz.underlying22, Tryz.underlying30, sz_30, ag_30, ze_30, sz_28, ag_28]
    exact ⟨rfl, rfl⟩
  simp only [Ex.thn]
  apply EvX.cond2
  · simp only [evalA, Tr.get_set, Nat.reduceEqDiff, if_true, if_false, reduceIte]; exact rfl
  rotate_left
  · intro hge
    have hge := of_decide_eq_false hge
    have hi : i = l.length := by omega
    subst hi
    apply EvX.exit
    simp only [Ex.thn, Ex.blk, beq_dec, decide_true, cond_true]
    apply EvX.seq
    apply EvX.reg0
    · intro call
      simp only [QRun, stepA, wantedA, opA, pureA, loadA, effA, binA, bin, evalA, ofV, ofCell, Fr.put, enterA_n, enterA_t, setArgs, List.length_cons, List.length_nil, Tr.get_set, Nat.zero_testBit, cond_false, true_and, Nat.reduceAdd, Nat.reduceSub, ble_dec, beq_dec, Nat.reduceLeDiff, decide_true, decide_false, cond_true, Nat.reduceEqDiff, if_true, if_false, reduceIte, operands, Option.map_some, Option.map_none, CP_P, hfn]
      exact ⟨rfl, rfl⟩
    simp only [Ex.thn]
    apply EvX.ret
    exact Fin.one rfl (by rw [List.drop_length] at hgo; simp [Tr.get_set, ← hgo, goSums])
  intro hlt
  have hlt := of_decide_eq_true hlt
  have hlt : i < l.length := by omega
  have hlt' : i + 1 ≤ l.length := hlt
  have hmul : i * 3 ≤ l.length * 3 := by omega
  rw [goSums_drop hlt] at hgo
  have hdr := dropSum hlt
  obtain ⟨hm1, hm2⟩ := hrows l[i] (List.getElem_mem hlt)
  have hfb : fnBefore l (i + 1) = some l[i].fn := by show (l[i]?).map (·.fn) = _; rw [List.getElem?_eq_getElem hlt]; rfl
  generalize hp : l[i] = p at hgo hdr hm1 hm2 hfb
  apply EvX.skip
  simp only [Ex.thn]
  apply EvX.seq
  apply EvX.block
  apply EvX.seq
  by_cases b1 : p.fn < 0
  · have d1 := decide_eq_true b1
    apply EvX.seq
    apply EvX.reg0
    · intro call
      simp only [QRun, stepA, wantedA, opA, pureA, loadA, effA, binA, bin, evalA, ofV, ofCell, Fr.put, enterA_n, enterA_t, setArgs, List.length_cons, List.length_nil, Tr.get_set, Nat.zero_testBit, cond_false, true_and, Nat.reduceAdd, Nat.reduceSub, ble_dec, beq_dec, Nat.reduceLeDiff, decide_true, decide_false, cond_true, Nat.reduceEqDiff, if_true, if_false, reduceIte, operands, Option.map_some, Option.map_none, CP_P, hfn, h0, h1, h5, natOf?, natOf_cast, hlt', hmul, encSums_length, hdr, List.drop_zero, List.drop_succ_cons, List.length_cons, takeN, Option.map_some, Nat.le_add_left, Nat.zero_le, Nat.reduceLeDiff, Mem.fresh, Mem.load, Mem.live, Win.read, Win.cell, setCells, Mem.empty, Mem.store, List.length_cons, List.length_nil, AV.cells, allCells, AV.isCell, takeN, Nat.zero_le, Nat.le_refl, Nat.zero_add, Nat.add_zero, Bool.not_false, Tr.get_nil, List.getElem?_toArray, List.getElem?_cons_zero, List.getElem?_cons_succ, beq_self_eq_true, Bool.and_true, Bool.true_and, Bool.and_self, eq_self, show (true == false) = false from rfl, show (false == true) = false from rfl, show (false == false) = true from rfl, Tryz.underlying70, Tryz.underlying28, sz_3, sz_70, ag_3, ag_70, ze_70, Tryz.underlying22, Tryz.underlying30, sz_30, ag_30, ze_30, sz_28, ag_28, d1]
      exact ⟨rfl, rfl⟩
    simp only [Ex.thn]
    apply EvX.cond2 (t := true)
    · simp only [evalA, Tr.get_set, Nat.reduceEqDiff, if_true, if_false, reduceIte]
    rotate_left
    · intro h; cases h
    intro _
    apply EvX.seq
    apply EvX.reg0
    · intro call
      simp only [QRun, stepA, wantedA, opA, pureA, loadA, effA, binA, bin, evalA, ofV, ofCell, Fr.put, enterA_n, enterA_t, setArgs, List.length_cons, List.length_nil, Tr.get_set, Nat.zero_testBit, cond_false, true_and, Nat.reduceAdd, Nat.reduceSub, ble_dec, beq_dec, Nat.reduceLeDiff, decide_true, decide_false, cond_true, Nat.reduceEqDiff, if_true, if_false, reduceIte, operands, Option.map_some, Option.map_none, CP_P, hfn]
      exact ⟨rfl, rfl⟩
    simp only [Ex.thn]
    apply EvX.ret
    simp only [Ex.thn, Ex.blk]
    exact Fin.one rfl (by rw [← hgo, if_pos (Or.inl b1)]; simp [Tr.get_set])
  have d1 := decide_eq_false b1
  by_cases b2 : p.fn ≥ 256
  · have d2 := decide_eq_true b2
    apply EvX.seq
    apply EvX.reg0
    · intro call
      simp only [QRun, stepA, wantedA, opA, pureA, loadA, effA, binA, bin, evalA, ofV, ofCell, Fr.put, enterA_n, enterA_t, setArgs, List.length_cons, List.length_nil, Tr.get_set, Nat.zero_testBit, cond_false, true_and, Nat.reduceAdd, Nat.reduceSub, ble_dec, beq_dec, Nat.reduceLeDiff, decide_true, decide_false, cond_true, Nat.reduceEqDiff, if_true, if_false, reduceIte, operands, Option.map_some, Option.map_none, CP_P, hfn, h0, h1, h5, natOf?, natOf_cast, hlt', hmul, encSums_length, hdr, List.drop_zero, List.drop_succ_cons, List.length_cons, takeN, Option.map_some, Nat.le_add_left, Nat.zero_le, Nat.reduceLeDiff, Mem.fresh, Mem.load, Mem.live, Win.read, Win.cell, setCells, Mem.empty, Mem.store, List.length_cons, List.length_nil, AV.cells, allCells, AV.isCell, takeN, Nat.zero_le, Nat.le_refl, Nat.zero_add, Nat.add_zero, Bool.not_false, Tr.get_nil, List.getElem?_toArray, List.getElem?_cons_zero, List.getElem?_cons_succ, beq_self_eq_true, Bool.and_true, Bool.true_and, Bool.and_self, eq_self, show (true == false) = false from rfl, show (false == true) = false from rfl, show (false == false) = true from rfl, Tryz.underlying70, Tryz.underlying28, sz_3, sz_70, ag_3, ag_70, ze_70, Tryz.underlying22, Tryz.underlying30, sz_30, ag_30, ze_30, sz_28, ag_28, d1, d2]
      exact ⟨rfl, rfl⟩
    simp only [Ex.thn]
    apply EvX.cond2 (t := true)
    · simp only [evalA, Tr.get_set, Nat.reduceEqDiff, if_true, if_false, reduceIte]
    rotate_left
    · intro h; cases h
    intro _
    apply EvX.seq
    apply EvX.reg0
    · intro call
      simp only [QRun, stepA, wantedA, opA, pureA, loadA, effA, binA, bin, evalA, ofV, ofCell, Fr.put, enterA_n, enterA_t, setArgs, List.length_cons, List.length_nil, Tr.get_set, Nat.zero_testBit, cond_false, true_and, Nat.reduceAdd, Nat.reduceSub, ble_dec, beq_dec, Nat.reduceLeDiff, decide_true, decide_false, cond_true, Nat.reduceEqDiff, if_true, if_false, reduceIte, operands, Option.map_some, Option.map_none, CP_P, hfn]
      exact ⟨rfl, rfl⟩
    simp only [Ex.thn]
    apply EvX.ret
    simp only [Ex.thn, Ex.blk]
    exact Fin.one rfl (by rw [← hgo, if_pos (Or.inr b2)]; simp [Tr.get_set])
  have d2 := decide_eq_false b2
  rw [if_neg (show ¬ (p.fn < 0 ∨ p.fn ≥ 256) by omega)] at hgo
  apply EvX.seq
  apply EvX.reg0
  · intro call
    simp only [QRun, stepA, wantedA, opA, pureA, loadA, effA, binA, bin, evalA, ofV, ofCell, Fr.put, enterA_n, enterA_t, setArgs, List.length_cons, List.length_nil, Tr.get_set, Nat.zero_testBit, cond_false, true_and, Nat.reduceAdd, Nat.reduceSub, ble_dec, beq_dec, Nat.reduceLeDiff, decide_true, decide_false, cond_true, Nat.reduceEqDiff, if_true, if_false, reduceIte, operands, Option.map_some, Option.map_none, CP_P, hfn, h0, h1, h5, natOf?, natOf_cast, hlt', hmul, encSums_length, hdr, List.drop_zero, List.drop_succ_cons, List.length_cons, takeN, Option.map_some, Nat.le_add_left, Nat.zero_le, Nat.reduceLeDiff, Mem.fresh, Mem.load, Mem.live, Win.read, Win.cell, setCells, Mem.empty, Mem.store, List.length_cons, List.length_nil, AV.cells, allCells, AV.isCell, takeN, Nat.zero_le, Nat.le_refl, Nat.zero_add, Nat.add_zero, Bool.not_false, Tr.get_nil, List.getElem?_toArray, List.getElem?_cons_zero, List.getElem?_cons_succ, beq_self_eq_true, Bool.and_true, Bool.true_and, Bool.and_self, eq_self, show (true == false) = false from rfl, show (false == true) = false from rfl, show (false == false) = true from rfl, Tryz.underlying70, Tryz.underlying28, sz_3, sz_70, ag_3, ag_70, ze_70, Tryz.underlying22, Tryz.underlying30, sz_30, ag_30, ze_30, sz_28, ag_28, d1, d2]
    exact ⟨rfl, rfl⟩
  simp only [Ex.thn]
  apply EvX.cond2 (t := false)
  · simp only [evalA, Tr.get_set, Nat.reduceEqDiff, if_true, if_false, reduceIte]
  · intro h; cases h
  intro _
  apply EvX.skip
  simp only [Ex.thn, Ex.blk]
  apply EvX.seq
  have cE := fun k m => call35 (ps := [p35]) rfl (D := drawA (CP [p35])) k hm1 f m
  have cT := fun k m => call35 (ps := [p35]) rfl (D := drawA (CP [p35])) k hm2 f m
  rcases i with _ | j
  · have d5 : decide (((0 : Nat) : Int) > 0) = false := rfl
    rw [if_neg (show ¬ notMore (fnBefore l 0) p.fn from fun h => h)] at hgo
    apply EvX.seq
    apply EvX.drw 0 0
    · kernel_rfl
    · intro k _
      simp only [QRun, stepA, wantedA, opA, pureA, loadA, effA, binA, bin, evalA, ofV, ofCell, Fr.put, enterA_n, enterA_t, setArgs, List.length_cons, List.length_nil, Tr.get_set, Nat.zero_testBit, cond_false, true_and, Nat.reduceAdd, Nat.reduceSub, ble_dec, beq_dec, Nat.reduceLeDiff, decide_true, decide_false, cond_true, Nat.reduceEqDiff, if_true, if_false, reduceIte, operands, Option.map_some, Option.map_none, CP_P, Mem.fresh, Mem.load, Mem.live, Win.read, Win.cell, setCells, Mem.empty, Mem.store, List.length_cons, List.length_nil, AV.cells, allCells, AV.isCell, takeN, Nat.zero_le, Nat.le_refl, Nat.zero_add, Nat.add_zero, Bool.not_false, Tr.get_nil, List.getElem?_toArray, List.getElem?_cons_zero, List.getElem?_cons_succ, beq_self_eq_true, Bool.and_true, Bool.true_and, Bool.and_self, eq_self, show (true == false) = false from rfl, show (false == true) = false from rfl, show (false == false) = true from rfl, Tryz.underlying70, Tryz.underlying28, sz_3, sz_70, ag_3, ag_70, ze_70, show Nat.testBit 0 0 = false from rfl, show Nat.testBit 0 1 = false from rfl, show Nat.testBit 0 2 = false from rfl, show Nat.testBit 0 3 = false from rfl, show Nat.testBit 0 4 = false from rfl, show Nat.testBit 0 5 = false from rfl, show Nat.testBit 0 6 = false from rfl, show Nat.testBit 0 7 = false from rfl, show Nat.testBit 0 8 = false from rfl, show Nat.testBit 0 9 = false from rfl, show Nat.testBit 0 10 = false from rfl, show Nat.testBit 0 11 = false from rfl, show Nat.testBit 0 12 = false from rfl, show Nat.testBit 0 13 = false from rfl, show Nat.testBit 0 14 = false from rfl, show Nat.testBit 0 15 = false from rfl, hfn, h0, h5, d5]
      exact ⟨rfl, rfl⟩
    simp only [Ex.thn]
    apply EvX.cond2 (t := false)
    · simp only [evalA, Tr.get_set, Nat.reduceEqDiff, if_true, if_false, reduceIte]
    · intro h; cases h
    intro _
    apply EvX.skip
    simp only [Ex.thn, Ex.blk]
    apply EvX.seq
    apply EvX.seq
    apply EvX.reg 0
    · intro k _
      simp only [QRun, stepA, wantedA, opA, pureA, loadA, effA, binA, bin, evalA, ofV, ofCell, Fr.put, enterA_n, enterA_t, setArgs, List.length_cons, List.length_nil, Tr.get_set, Nat.zero_testBit, cond_false, true_and, Nat.reduceAdd, Nat.reduceSub, ble_dec, beq_dec, Nat.reduceLeDiff, decide_true, decide_false, cond_true, Nat.reduceEqDiff, if_true, if_false, reduceIte, operands, Option.map_some, Option.map_none, CP_P, hfn, h0, h1, h5, natOf?, natOf_cast, hlt', hmul, encSums_length, hdr, List.drop_zero, List.drop_succ_cons, List.length_cons, takeN, Option.map_some, Nat.le_add_left, Nat.zero_le, Nat.reduceLeDiff, Mem.fresh, Mem.load, Mem.live, Win.read, Win.cell, setCells, Mem.empty, Mem.store, List.length_cons, List.length_nil, AV.cells, allCells, AV.isCell, takeN, Nat.zero_le, Nat.le_refl, Nat.zero_add, Nat.add_zero, Bool.not_false, Tr.get_nil, List.getElem?_toArray, List.getElem?_cons_zero, List.getElem?_cons_succ, beq_self_eq_true, Bool.and_true, Bool.true_and, Bool.and_self, eq_self, show (true == false) = false from rfl, show (false == true) = false from rfl, show (false == false) = true from rfl, Tryz.underlying70, Tryz.underlying28, sz_3, sz_70, ag_3, ag_70, ze_70, Tryz.underlying22, Tryz.underlying30, sz_30, ag_30, ze_30, sz_28, ag_28, cl_35, cE]
      exact ⟨rfl, rfl⟩
    simp only [Ex.thn]
    by_cases bE : pairsErr f p.ex = 0
    rotate_left
    · have dE : (pairsErr f p.ex != 0) = true := by simpa using bE
      apply EvX.seq
      apply EvX.reg0
      · intro call
        simp only [QRun, stepA, wantedA, opA, pureA, loadA, effA, binA, bin, evalA, ofV, ofCell, Fr.put, enterA_n, enterA_t, setArgs, List.length_cons, List.length_nil, Tr.get_set, Nat.zero_testBit, cond_false, true_and, Nat.reduceAdd, Nat.reduceSub, ble_dec, beq_dec, Nat.reduceLeDiff, decide_true, decide_false, cond_true, Nat.reduceEqDiff, if_true, if_false, reduceIte, operands, Option.map_some, Option.map_none, CP_P, hfn, dE]
        exact ⟨rfl, rfl⟩
      simp only [Ex.thn]
      apply EvX.cond2 (t := true)
      · simp only [evalA, Tr.get_set, Nat.reduceEqDiff, if_true, if_false, reduceIte]
      rotate_left
      · intro h; cases h
      intro _
      apply EvX.seq
      apply EvX.reg0
      · intro call
        simp only [QRun, stepA, wantedA, opA, pureA, loadA, effA, binA, bin, evalA, ofV, ofCell, Fr.put, enterA_n, enterA_t, setArgs, List.length_cons, List.length_nil, Tr.get_set, Nat.zero_testBit, cond_false, true_and, Nat.reduceAdd, Nat.reduceSub, ble_dec, beq_dec, Nat.reduceLeDiff, decide_true, decide_false, cond_true, Nat.reduceEqDiff, if_true, if_false, reduceIte, operands, Option.map_some, Option.map_none, CP_P, hfn]
        exact ⟨rfl, rfl⟩
      simp only [Ex.thn]
      apply EvX.ret
      simp only [Ex.thn, Ex.blk]
      exact Fin.one rfl (by rw [← hgo, if_pos bE]; simp [Tr.get_set])
    have dE : (pairsErr f p.ex != 0) = false := by simpa using bE
    rw [if_neg (show ¬ (pairsErr f p.ex ≠ 0) from fun h => h bE)] at hgo
    apply EvX.seq
    apply EvX.reg0
    · intro call
      simp only [QRun, stepA, wantedA, opA, pureA, loadA, effA, binA, bin, evalA, ofV, ofCell, Fr.put, enterA_n, enterA_t, setArgs, List.length_cons, List.length_nil, Tr.get_set, Nat.zero_testBit, cond_false, true_and, Nat.reduceAdd, Nat.reduceSub, ble_dec, beq_dec, Nat.reduceLeDiff, decide_true, decide_false, cond_true, Nat.reduceEqDiff, if_true, if_false, reduceIte, operands, Option.map_some, Option.map_none, CP_P, hfn, dE]
      exact ⟨rfl, rfl⟩
    simp only [Ex.thn]
    apply EvX.cond2 (t := false)
    · simp only [evalA, Tr.get_set, Nat.reduceEqDiff, if_true, if_false, reduceIte]
    · intro h; cases h
    intro _
    apply EvX.skip
    simp only [Ex.thn, Ex.blk]
    apply EvX.seq
    apply EvX.reg 0
    · intro k _
      simp only [QRun, stepA, wantedA, opA, pureA, loadA, effA, binA, bin, evalA, ofV, ofCell, Fr.put, enterA_n, enterA_t, setArgs, List.length_cons, List.length_nil, Tr.get_set, Nat.zero_testBit, cond_false, true_and, Nat.reduceAdd, Nat.reduceSub, ble_dec, beq_dec, Nat.reduceLeDiff, decide_true, decide_false, cond_true, Nat.reduceEqDiff, if_true, if_false, reduceIte, operands, Option.map_some, Option.map_none, CP_P, hfn, h0, h1, h5, natOf?, natOf_cast, hlt', hmul, encSums_length, hdr, List.drop_zero, List.drop_succ_cons, List.length_cons, takeN, Option.map_some, Nat.le_add_left, Nat.zero_le, Nat.reduceLeDiff, Mem.fresh, Mem.load, Mem.live, Win.read, Win.cell, setCells, Mem.empty, Mem.store, List.length_cons, List.length_nil, AV.cells, allCells, AV.isCell, takeN, Nat.zero_le, Nat.le_refl, Nat.zero_add, Nat.add_zero, Bool.not_false, Tr.get_nil, List.getElem?_toArray, List.getElem?_cons_zero, List.getElem?_cons_succ, beq_self_eq_true, Bool.and_true, Bool.true_and, Bool.and_self, eq_self, show (true == false) = false from rfl, show (false == true) = false from rfl, show (false == false) = true from rfl, Tryz.underlying70, Tryz.underlying28, sz_3, sz_70, ag_3, ag_70, ze_70, Tryz.underlying22, Tryz.underlying30, sz_30, ag_30, ze_30, sz_28, ag_28, cl_35, cT]
      exact ⟨rfl, rfl⟩
    simp only [Ex.thn]
    by_cases bT : pairsErr f p.th = 0
    rotate_left
    · have dT : (pairsErr f p.th != 0) = true := by simpa using bT
      apply EvX.seq
      apply EvX.reg0
      · intro call
        simp only [QRun, stepA, wantedA, opA, pureA, loadA, effA, binA, bin, evalA, ofV, ofCell, Fr.put, enterA_n, enterA_t, setArgs, List.length_cons, List.length_nil, Tr.get_set, Nat.zero_testBit, cond_false, true_and, Nat.reduceAdd, Nat.reduceSub, ble_dec, beq_dec, Nat.reduceLeDiff, decide_true, decide_false, cond_true, Nat.reduceEqDiff, if_true, if_false, reduceIte, operands, Option.map_some, Option.map_none, CP_P, hfn, dT]
        exact ⟨rfl, rfl⟩
      simp only [Ex.thn]
      apply EvX.cond2 (t := true)
      · simp only [evalA, Tr.get_set, Nat.reduceEqDiff, if_true, if_false, reduceIte]
      rotate_left
      · intro h; cases h
      intro _
      apply EvX.seq
      apply EvX.reg0
      · intro call
        simp only [QRun, stepA, wantedA, opA, pureA, loadA, effA, binA, bin, evalA, ofV, ofCell, Fr.put, enterA_n, enterA_t, setArgs, List.length_cons, List.length_nil, Tr.get_set, Nat.zero_testBit, cond_false, true_and, Nat.reduceAdd, Nat.reduceSub, ble_dec, beq_dec, Nat.reduceLeDiff, decide_true, decide_false, cond_true, Nat.reduceEqDiff, if_true, if_false, reduceIte, operands, Option.map_some, Option.map_none, CP_P, hfn]
        exact ⟨rfl, rfl⟩
      simp only [Ex.thn]
      apply EvX.ret
      simp only [Ex.thn, Ex.blk]
      exact Fin.one rfl (by rw [← hgo, if_pos bT]; simp [Tr.get_set])
    have dT : (pairsErr f p.th != 0) = false := by simpa using bT
    rw [if_neg (show ¬ (pairsErr f p.th ≠ 0) from fun h => h bT)] at hgo
    apply EvX.seq
    apply EvX.reg0
    · intro call
      simp only [QRun, stepA, wantedA, opA, pureA, loadA, effA, binA, bin, evalA, ofV, ofCell, Fr.put, enterA_n, enterA_t, setArgs, List.length_cons, List.length_nil, Tr.get_set, Nat.zero_testBit, cond_false, true_and, Nat.reduceAdd, Nat.reduceSub, ble_dec, beq_dec, Nat.reduceLeDiff, decide_true, decide_false, cond_true, Nat.reduceEqDiff, if_true, if_false, reduceIte, operands, Option.map_some, Option.map_none, CP_P, hfn, dT]
      exact ⟨rfl, rfl⟩
    simp only [Ex.thn]
    apply EvX.cond2 (t := false)
    · simp only [evalA, Tr.get_set, Nat.reduceEqDiff, if_true, if_false, reduceIte]
    · intro h; cases h
    intro _
    apply EvX.skip
    simp only [Ex.thn, Ex.blk]
    apply EvX.reg0
    · intro call
      simp only [QRun, stepA, wantedA, opA, pureA, loadA, effA, binA, bin, evalA, ofV, ofCell, Fr.put, enterA_n, enterA_t, setArgs, List.length_cons, List.length_nil, Tr.get_set, Nat.zero_testBit, cond_false, true_and, Nat.reduceAdd, Nat.reduceSub, ble_dec, beq_dec, Nat.reduceLeDiff, decide_true, decide_false, cond_true, Nat.reduceEqDiff, if_true, if_false, reduceIte, operands, Option.map_some, Option.map_none, CP_P, hfn, h5, wrap_succ (show 0 + 1 ≤ 9223372036854775807 by omega)]
      exact ⟨rfl, rfl⟩
    simp only [Ex.thn]
    refine ⟨l.length - (0 + 1), by omega, 0 + 1, rfl, hlt', trivial, ?_, ?_, ?_, ?_⟩
    · simp [Tr.get_set, h0]
    · simp [Tr.get_set, h1]
    · simp [Tr.get_set]
    · exact hgo
  · have d5 : decide (((j + 1 : Nat) : Int) > 0) = true := decide_eq_true (by omega)
    have hj : j < l.length := by omega
    have hj' : j + 1 ≤ l.length := hj
    have hmul' : j * 3 ≤ l.length * 3 := by omega
    have hdq := dropSum hj
    have hprev : fnBefore l (j + 1) = some l[j].fn := by show (l[j]?).map (·.fn) = _; rw [List.getElem?_eq_getElem hj]; rfl
    rw [hprev] at hgo
    generalize hq : l[j] = q at hdq hgo
    by_cases b6 : p.fn ≤ q.fn
    · have d6 := decide_eq_true b6
      apply EvX.seq
      apply EvX.drw 0 0
      · kernel_rfl
      · intro k _
        simp only [QRun, stepA, wantedA, opA, pureA, loadA, effA, binA, bin, evalA, ofV, ofCell, Fr.put, enterA_n, enterA_t, setArgs, List.length_cons, List.length_nil, Tr.get_set, Nat.zero_testBit, cond_false, true_and, Nat.reduceAdd, Nat.reduceSub, ble_dec, beq_dec, Nat.reduceLeDiff, decide_true, decide_false, cond_true, Nat.reduceEqDiff, if_true, if_false, reduceIte, operands, Option.map_some, Option.map_none, CP_P, Mem.fresh, Mem.load, Mem.live, Win.read, Win.cell, setCells, Mem.empty, Mem.store, List.length_cons, List.length_nil, AV.cells, allCells, AV.isCell, takeN, Nat.zero_le, Nat.le_refl, Nat.zero_add, Nat.add_zero, Bool.not_false, Tr.get_nil, List.getElem?_toArray, List.getElem?_cons_zero, List.getElem?_cons_succ, beq_self_eq_true, Bool.and_true, Bool.true_and, Bool.and_self, eq_self, show (true == false) = false from rfl, show (false == true) = false from rfl, show (false == false) = true from rfl, Tryz.underlying70, Tryz.underlying28, sz_3, sz_70, ag_3, ag_70, ze_70, show Nat.testBit 0 0 = false from rfl, show Nat.testBit 0 1 = false from rfl, show Nat.testBit 0 2 = false from rfl, show Nat.testBit 0 3 = false from rfl, show Nat.testBit 0 4 = false from rfl, show Nat.testBit 0 5 = false from rfl, show Nat.testBit 0 6 = false from rfl, show Nat.testBit 0 7 = false from rfl, show Nat.testBit 0 8 = false from rfl, show Nat.testBit 0 9 = false from rfl, show Nat.testBit 0 10 = false from rfl, show Nat.testBit 0 11 = false from rfl, show Nat.testBit 0 12 = false from rfl, show Nat.testBit 0 13 = false from rfl, show Nat.testBit 0 14 = false from rfl, show Nat.testBit 0 15 = false from rfl, hfn, h0, h5, d5, wrap_pred (show j + 1 ≤ 9223372036854775807 by omega), natOf?, natOf_cast, hj', hlt', hmul, hmul', encSums_length, hdr, hdq, Tryz.underlying22, Tryz.underlying30, sz_30, List.drop_zero, List.drop_succ_cons, List.length_cons, takeN, Option.map_some, Nat.le_add_left, Nat.zero_le, d6]
        exact ⟨rfl, rfl⟩
      simp only [Ex.thn]
      apply EvX.cond2 (t := true)
      · simp only [evalA, Tr.get_set, Nat.reduceEqDiff, if_true, if_false, reduceIte]
      rotate_left
      · intro h; cases h
      intro _
      apply EvX.seq
      apply EvX.reg0
      · intro call
        simp only [QRun, stepA, wantedA, opA, pureA, loadA, effA, binA, bin, evalA, ofV, ofCell, Fr.put, enterA_n, enterA_t, setArgs, List.length_cons, List.length_nil, Tr.get_set, Nat.zero_testBit, cond_false, true_and, Nat.reduceAdd, Nat.reduceSub, ble_dec, beq_dec, Nat.reduceLeDiff, decide_true, decide_false, cond_true, Nat.reduceEqDiff, if_true, if_false, reduceIte, operands, Option.map_some, Option.map_none, CP_P, hfn]
        exact ⟨rfl, rfl⟩
      simp only [Ex.thn]
      apply EvX.ret
      simp only [Ex.thn, Ex.blk]
      exact Fin.one rfl (by rw [← hgo, if_pos (show notMore (some q.fn) p.fn from b6)]; simp [Tr.get_set])
    have d6 := decide_eq_false b6
    rw [if_neg (show ¬ notMore (some q.fn) p.fn from b6)] at hgo
    apply EvX.seq
    apply EvX.drw 0 0
    · kernel_rfl
    · intro k _
      simp only [QRun, stepA, wantedA, opA, pureA, loadA, effA, binA, bin, evalA, ofV, ofCell, Fr.put, enterA_n, enterA_t, setArgs, List.length_cons, List.length_nil, Tr.get_set, Nat.zero_testBit, cond_false, true_and, Nat.reduceAdd, Nat.reduceSub, ble_dec, beq_dec, Nat.reduceLeDiff, decide_true, decide_false, cond_true, Nat.reduceEqDiff, if_true, if_false, reduceIte, operands, Option.map_some, Option.map_none, CP_P, Mem.fresh, Mem.load, Mem.live, Win.read, Win.cell, setCells, Mem.empty, Mem.store, List.length_cons, List.length_nil, AV.cells, allCells, AV.isCell, takeN, Nat.zero_le, Nat.le_refl, Nat.zero_add, Nat.add_zero, Bool.not_false, Tr.get_nil, List.getElem?_toArray, List.getElem?_cons_zero, List.getElem?_cons_succ, beq_self_eq_true, Bool.and_true, Bool.true_and, Bool.and_self, eq_self, show (true == false) = false from rfl, show (false == true) = false from rfl, show (false == false) = true from rfl, Tryz.underlying70, Tryz.underlying28, sz_3, sz_70, ag_3, ag_70, ze_70, show Nat.testBit 0 0 = false from rfl, show Nat.testBit 0 1 = false from rfl, show Nat.testBit 0 2 = false from rfl, show Nat.testBit 0 3 = false from rfl, show Nat.testBit 0 4 = false from rfl, show Nat.testBit 0 5 = false from rfl, show Nat.testBit 0 6 = false from rfl, show Nat.testBit 0 7 = false from rfl, show Nat.testBit 0 8 = false from rfl, show Nat.testBit 0 9 = false from rfl, show Nat.testBit 0 10 = false from rfl, show Nat.testBit 0 11 = false from rfl, show Nat.testBit 0 12 = false from rfl, show Nat.testBit 0 13 = false from rfl, show Nat.testBit 0 14 = false from rfl, show Nat.testBit 0 15 = false from rfl, hfn, h0, h5, d5, wrap_pred (show j + 1 ≤ 9223372036854775807 by omega), natOf?, natOf_cast, hj', hlt', hmul, hmul', encSums_length, hdr, hdq, Tryz.underlying22, Tryz.underlying30, sz_30, List.drop_zero, List.drop_succ_cons, List.length_cons, takeN, Option.map_some, Nat.le_add_left, Nat.zero_le, d6]
      exact ⟨rfl, rfl⟩
    simp only [Ex.thn]
    apply EvX.cond2 (t := false)
    · simp only [evalA, Tr.get_set, Nat.reduceEqDiff, if_true, if_false, reduceIte]
    · intro h; cases h
    intro _
    apply EvX.skip
    simp only [Ex.thn, Ex.blk]
    apply EvX.seq
    apply EvX.seq
    apply EvX.reg 0
    · intro k _
      simp only [QRun, stepA, wantedA, opA, pureA, loadA, effA, binA, bin, evalA, ofV, ofCell, Fr.put, enterA_n, enterA_t, setArgs, List.length_cons, List.length_nil, Tr.get_set, Nat.zero_testBit, cond_false, true_and, Nat.reduceAdd, Nat.reduceSub, ble_dec, beq_dec, Nat.reduceLeDiff, decide_true, decide_false, cond_true, Nat.reduceEqDiff, if_true, if_false, reduceIte, operands, Option.map_some, Option.map_none, CP_P, hfn, h0, h1, h5, natOf?, natOf_cast, hlt', hmul, encSums_length, hdr, List.drop_zero, List.drop_succ_cons, List.length_cons, takeN, Option.map_some, Nat.le_add_left, Nat.zero_le, Nat.reduceLeDiff, Mem.fresh, Mem.load, Mem.live, Win.read, Win.cell, setCells, Mem.empty, Mem.store, List.length_cons, List.length_nil, AV.cells, allCells, AV.isCell, takeN, Nat.zero_le, Nat.le_refl, Nat.zero_add, Nat.add_zero, Bool.not_false, Tr.get_nil, List.getElem?_toArray, List.getElem?_cons_zero, List.getElem?_cons_succ, beq_self_eq_true, Bool.and_true, Bool.true_and, Bool.and_self, eq_self, show (true == false) = false from rfl, show (false == true) = false from rfl, show (false == false) = true from rfl, Tryz.underlying70, Tryz.underlying28, sz_3, sz_70, ag_3, ag_70, ze_70, Tryz.underlying22, Tryz.underlying30, sz_30, ag_30, ze_30, sz_28, ag_28, cl_35, cE]
      exact ⟨rfl, rfl⟩
    simp only [Ex.thn]
    by_cases bE : pairsErr f p.ex = 0
    rotate_left
    · have dE : (pairsErr f p.ex != 0) = true := by simpa using bE
      apply EvX.seq
      apply EvX.reg0
      · intro call
        simp only [QRun, stepA, wantedA, opA, pureA, loadA, effA, binA, bin, evalA, ofV, ofCell, Fr.put, enterA_n, enterA_t, setArgs, List.length_cons, List.length_nil, Tr.get_set, Nat.zero_testBit, cond_false, true_and, Nat.reduceAdd, Nat.reduceSub, ble_dec, beq_dec, Nat.reduceLeDiff, decide_true, decide_false, cond_true, Nat.reduceEqDiff, if_true, if_false, reduceIte, operands, Option.map_some, Option.map_none, CP_P, hfn, dE]
        exact ⟨rfl, rfl⟩
      simp only [Ex.thn]
      apply EvX.cond2 (t := true)
      · simp only [evalA, Tr.get_set, Nat.reduceEqDiff, if_true, if_false, reduceIte]
      rotate_left
      · intro h; cases h
      intro _
      apply EvX.seq
      apply EvX.reg0
      · intro call
        simp only [QRun, stepA, wantedA, opA, pureA, loadA, effA, binA, bin, evalA, ofV, ofCell, Fr.put, enterA_n, enterA_t, setArgs, List.length_cons, List.length_nil, Tr.get_set, Nat.zero_testBit, cond_false, true_and, Nat.reduceAdd, Nat.reduceSub, ble_dec, beq_dec, Nat.reduceLeDiff, decide_true, decide_false, cond_true, Nat.reduceEqDiff, if_true, if_false, reduceIte, operands, Option.map_some, Option.map_none, CP_P, hfn]
        exact ⟨rfl, rfl⟩
      simp only [Ex.thn]
      apply EvX.ret
      simp only [Ex.thn, Ex.blk]
      exact Fin.one rfl (by rw [← hgo, if_pos bE]; simp [Tr.get_set])
    have dE : (pairsErr f p.ex != 0) = false := by simpa using bE
    rw [if_neg (show ¬ (pairsErr f p.ex ≠ 0) from fun h => h bE)] at hgo
    apply EvX.seq
    apply EvX.reg0
    · intro call
      simp only [QRun, stepA, wantedA, opA, pureA, loadA, effA, binA, bin, evalA, ofV, ofCell, Fr.put, enterA_n, enterA_t, setArgs, List.length_cons, List.length_nil, Tr.get_set, Nat.zero_testBit, cond_false, true_and, Nat.reduceAdd, Nat.reduceSub, ble_dec, beq_dec, Nat.reduceLeDiff, decide_true, decide_false, cond_true, Nat.reduceEqDiff, if_true, if_false, reduceIte, operands, Option.map_some, Option.map_none, CP_P, hfn, dE]
      exact ⟨rfl, rfl⟩
    simp only [Ex.thn]
    apply EvX.cond2 (t := false)
    · simp only [evalA, Tr.get_set, Nat.reduceEqDiff, if_true, if_false, reduceIte]
    · intro h; cases h
    intro _
    apply EvX.skip
    simp only [Ex.thn, Ex.blk]
    apply EvX.seq
    apply EvX.reg 0
    · intro k _
      simp only [QRun, stepA, wantedA, opA, pureA, loadA, effA, binA, bin, evalA, ofV, ofCell, Fr.put, enterA_n, enterA_t, setArgs, List.length_cons, List.length_nil, Tr.get_set, Nat.zero_testBit, cond_false, true_and, Nat.reduceAdd, Nat.reduceSub, ble_dec, beq_dec, Nat.reduceLeDiff, decide_true, decide_false, cond_true, Nat.reduceEqDiff, if_true, if_false, reduceIte, operands, Option.map_some, Option.map_none, CP_P, hfn, h0, h1, h5, natOf?, natOf_cast, hlt', hmul, encSums_length, hdr, List.drop_zero, List.drop_succ_cons, List.length_cons, takeN, Option.map_some, Nat.le_add_left, Nat.zero_le, Nat.reduceLeDiff, Mem.fresh, Mem.load, Mem.live, Win.read, Win.cell, setCells, Mem.empty, Mem.store, List.length_cons, List.length_nil, AV.cells, allCells, AV.isCell, takeN, Nat.zero_le, Nat.le_refl, Nat.zero_add, Nat.add_zero, Bool.not_false, Tr.get_nil, List.getElem?_toArray, List.getElem?_cons_zero, List.getElem?_cons_succ, beq_self_eq_true, Bool.and_true, Bool.true_and, Bool.and_self, eq_self, show (true == false) = false from rfl, show (false == true) = false from rfl, show (false == false) = true from rfl, Tryz.underlying70, Tryz.underlying28, sz_3, sz_70, ag_3, ag_70, ze_70, Tryz.underlying22, Tryz.underlying30, sz_30, ag_30, ze_30, sz_28, ag_28, cl_35, cT]
      exact ⟨rfl, rfl⟩
    simp only [Ex.thn]
    by_cases bT : pairsErr f p.th = 0
    rotate_left
    · have dT : (pairsErr f p.th != 0) = true := by simpa using bT
      apply EvX.seq
      apply EvX.reg0
      · intro call
        simp only [QRun, stepA, wantedA, opA, pureA, loadA, effA, binA, bin, evalA, ofV, ofCell, Fr.put, enterA_n, enterA_t, setArgs, List.length_cons, List.length_nil, Tr.get_set, Nat.zero_testBit, cond_false, true_and, Nat.reduceAdd, Nat.reduceSub, ble_dec, beq_dec, Nat.reduceLeDiff, decide_true, decide_false, cond_true, Nat.reduceEqDiff, if_true, if_false, reduceIte, operands, Option.map_some, Option.map_none, CP_P, hfn, dT]
        exact ⟨rfl, rfl⟩
      simp only [Ex.thn]
      apply EvX.cond2 (t := true)
      · simp only [evalA, Tr.get_set, Nat.reduceEqDiff, if_true, if_false, reduceIte]
      rotate_left
      · intro h; cases h
      intro _
      apply EvX.seq
      apply EvX.reg0
      · intro call
        simp only [QRun, stepA, wantedA, opA, pureA, loadA, effA, binA, bin, evalA, ofV, ofCell, Fr.put, enterA_n, enterA_t, setArgs, List.length_cons, List.length_nil, Tr.get_set, Nat.zero_testBit, cond_false, true_and, Nat.reduceAdd, Nat.reduceSub, ble_dec, beq_dec, Nat.reduceLeDiff, decide_true, decide_false, cond_true, Nat.reduceEqDiff, if_true, if_false, reduceIte, operands, Option.map_some, Option.map_none, CP_P, hfn]
        exact ⟨rfl, rfl⟩
      simp only [Ex.thn]
      apply EvX.ret
      simp only [Ex.thn, Ex.blk]
      exact Fin.one rfl (by rw [← hgo, if_pos bT]; simp [Tr.get_set])
    have dT : (pairsErr f p.th != 0) = false := by simpa using bT
    rw [if_neg (show ¬ (pairsErr f p.th ≠ 0) from fun h => h bT)] at hgo
    apply EvX.seq
    apply EvX.reg0
    · intro call
      simp only [QRun, stepA, wantedA, opA, pureA, loadA, effA, binA, bin, evalA, ofV, ofCell, Fr.put, enterA_n, enterA_t, setArgs, List.length_cons, List.length_nil, Tr.get_set, Nat.zero_testBit, cond_false, true_and, Nat.reduceAdd, Nat.reduceSub, ble_dec, beq_dec, Nat.reduceLeDiff, decide_true, decide_false, cond_true, Nat.reduceEqDiff, if_true, if_false, reduceIte, operands, Option.map_some, Option.map_none, CP_P, hfn, dT]
      exact ⟨rfl, rfl⟩
    simp only [Ex.thn]
    apply EvX.cond2 (t := false)
    · simp only [evalA, Tr.get_set, Nat.reduceEqDiff, if_true, if_false, reduceIte]
    · intro h; cases h
    intro _
    apply EvX.skip
    simp only [Ex.thn, Ex.blk]
    apply EvX.reg0
    · intro call
      simp only [QRun, stepA, wantedA, opA, pureA, loadA, effA, binA, bin, evalA, ofV, ofCell, Fr.put, enterA_n, enterA_t, setArgs, List.length_cons, List.length_nil, Tr.get_set, Nat.zero_testBit, cond_false, true_and, Nat.reduceAdd, Nat.reduceSub, ble_dec, beq_dec, Nat.reduceLeDiff, decide_true, decide_false, cond_true, Nat.reduceEqDiff, if_true, if_false, reduceIte, operands, Option.map_some, Option.map_none, CP_P, hfn, h5, wrap_succ (show (j + 1) + 1 ≤ 9223372036854775807 by omega)]
      exact ⟨rfl, rfl⟩
    simp only [Ex.thn]
    refine ⟨l.length - ((j + 1) + 1), by omega, (j + 1) + 1, rfl, hlt', trivial, ?_, ?_, ?_, ?_⟩
    · simp [Tr.get_set, h0]
    · simp [Tr.get_set, h1]
    · simp [Tr.get_set]
    · exact hgo
end Go.Vz
