/-
  SummaryCheck's functions, told.
-/
import Derived.Test.YtgagkmbhlpmceaaGreatDoorVzView
set_option linter.unusedVariables false
set_option linter.unusedSimpArgs false
namespace Go.Vz
open Go Go.Proofs
theorem CP_P (ps : List PFn) : (CP ps).P = Tryz.prog := rfl
theorem CP_prim (ps : List PFn) : (CP ps).prim = primP ps := rfl
theorem CP_isPrim (ps : List PFn) (f : FuncId) : (CP ps).isPrim f = ((findP ps f).isSome || (Nat.beq f 46 || Nat.beq f 13)) := rfl
/-- a call's body -/
theorem EvC.run {C : Cfg} {D : CallF → DrawF} {f : FuncId} {args : List AV} {fn : Func} {body : Code} {x : AV} (hp : C.isPrim f = false) (hf : C.P.funcs[f]? = some fn) (hb : fn.body = some body) {m : Mem}
    (h : EvX C D body (enterA fn.ntmps args) m (fun e fr1 m1 => (match e with | .exit _ => False | _ => True) ∧ ∃ xs, Vz.results C.P m1 fr1 fn.results.toList = some xs ∧ Vz.one xs = x)) : ∃ m', EvC C D f args m x m' := by
  obtain ⟨e, fr1, m1, ⟨he, hx⟩, hN⟩ := h
  exact ⟨m1, EvC.of hp hf hb ⟨e, fr1, m1, ⟨he, rfl, hx⟩, hN⟩⟩
theorem Fin.one {C : Cfg} {fn : Func} {t : Nat} {fr : Fr} {m : Mem} {x : AV} (hr : fn.results = #[.tmp t]) (hx : fr.t.get t = some x) : (match Ex.ret with | .exit _ => False | _ => True) ∧ ∃ xs, Vz.results C.P m fr fn.results.toList = some xs ∧ Vz.one xs = x :=
  ⟨trivial, [x], by rw [hr]; simp [Vz.results, hx], rfl⟩
theorem call_told {ps : List PFn} {p : PFn} {f : FuncId} (h : findP ps f = some p) {D : CallF → DrawF} (k : Nat) {args args' : List AV} {x : AV} (m : Mem) (hv : mapO (viewA 8 m) args = some args') (hs : p.spec args' = some x) : Vz.call (CP ps) D k f args m = some (x, m) := by
  unfold Vz.call
  rw [show (CP ps).isPrim f = true by rw [CP_isPrim, h]; rfl, cond_true, CP_prim]
  unfold primP
  simp only [h, hv, hs, Option.map_some]
theorem callee_of {P : Program} {g : FuncId} {fn : Func} {first cap args : List AV} (hf : P.funcs[g]? = some fn) (hn : (fn.name == "runtime.NumGoroutine") = false) (hb : fn.body.isSome = true) : calleeA P (.fn (.func g) first cap) args = some (.enter g (first ++ args ++ cap)) := by
  unfold calleeA
  simp only [hf, hn, hb, cond_false, cond_true]
set_option maxHeartbeats 1000000
def p127 : PFn := ⟨127, fun | [.int .i64 _] => some (.bool false) | _ => none⟩
theorem p127_ok : p127.Ok := by
  refine PFn.Ok.of (ps := []) (fun p h => by cases h) (fun args x h => ?_)
  simp only [p127] at h
  split at h <;> cases h
  rename_i a
  refine ⟨rfl, EvC.run (by kernel_rfl) (by rw [CP_P]; exact Tryz.func127) rfl ?_⟩
  apply EvX.seq
  apply EvX.reg0
  · intro call
    simp only [QRun, stepA, wantedA, opA, pureA, loadA, effA, binA, bin, evalA, ofV, ofCell, Fr.put, enterA_n, enterA_t, setArgs, List.length_cons, List.length_nil, Tr.get_set, Nat.zero_testBit, cond_false, true_and, Nat.reduceAdd, Nat.reduceSub, ble_dec, beq_dec, Nat.reduceLeDiff, decide_true, decide_false, cond_true, Nat.reduceEqDiff, if_true, if_false, reduceIte, operands, Option.map_some, Option.map_none, CP_P, Tryz.ntmps127]
    exact ⟨rfl, rfl⟩
  simp only [Ex.thn]
  apply EvX.seq
  apply EvX.reg0
  · intro call
    simp only [QRun, stepA, wantedA, opA, pureA, loadA, effA, binA, bin, evalA, ofV, ofCell, Fr.put, enterA_n, enterA_t, setArgs, List.length_cons, List.length_nil, Tr.get_set, Nat.zero_testBit, cond_false, true_and, Nat.reduceAdd, Nat.reduceSub, ble_dec, beq_dec, Nat.reduceLeDiff, decide_true, decide_false, cond_true, Nat.reduceEqDiff, if_true, if_false, reduceIte, operands, Option.map_some, Option.map_none, CP_P]
    exact ⟨rfl, rfl⟩
  simp only [Ex.thn]
  apply EvX.ret
  exact Fin.one rfl (by simp [Tr.get_set])
theorem call127 {ps : List PFn} (h : findP ps 127 = some p127) {D : CallF → DrawF} (k : Nat) (a : Int) (m : Mem) : Vz.call (CP ps) D k 127 [.int .i64 a] m = some (.bool false, m) := call_told h k m rfl rfl
theorem cl_127 (args : List AV) : calleeA Tryz.prog (.fn (.func 127) [] []) args = some (.enter 127 args) := by rw [callee_of Tryz.func127 (by kernel_rfl) (by kernel_rfl)]; simp
def cmp3 (a b : Int) : Int := if a < b then -1 else if b < a then 1 else 0
def p90 : PFn := ⟨90, fun | [.int .i64 a, .int .i64 b] => some (.int .i64 (cmp3 a b)) | _ => none⟩
theorem p90_ok : p90.Ok := by
  refine PFn.Ok.of (ps := [p127]) (fun p h => by simp at h; subst h; exact p127_ok) (fun args x h => ?_)
  have c := fun k a m => @call127 [p127] rfl (drawA (CP [p127])) k a m
  simp only [p90] at h
  split at h <;> cases h
  rename_i a b
  refine ⟨rfl, EvC.run (by kernel_rfl) (by rw [CP_P]; exact Tryz.func90) rfl ?_⟩
  apply EvX.seq
  apply EvX.reg0
  · intro call
    simp only [QRun, stepA, wantedA, opA, pureA, loadA, effA, binA, bin, evalA, ofV, ofCell, Fr.put, enterA_n, enterA_t, setArgs, List.length_cons, List.length_nil, Tr.get_set, Nat.zero_testBit, cond_false, true_and, Nat.reduceAdd, Nat.reduceSub, ble_dec, beq_dec, Nat.reduceLeDiff, decide_true, decide_false, cond_true, Nat.reduceEqDiff, if_true, if_false, reduceIte, operands, Option.map_some, Option.map_none, CP_P, Tryz.ntmps90]
    exact ⟨rfl, rfl⟩
  simp only [Ex.thn]
  apply EvX.seq
  apply EvX.reg 0
  · intro k _
    simp only [QRun, stepA, wantedA, opA, pureA, loadA, effA, binA, bin, evalA, ofV, ofCell, Fr.put, enterA_n, enterA_t, setArgs, List.length_cons, List.length_nil, Tr.get_set, Nat.zero_testBit, cond_false, true_and, Nat.reduceAdd, Nat.reduceSub, ble_dec, beq_dec, Nat.reduceLeDiff, decide_true, decide_false, cond_true, Nat.reduceEqDiff, if_true, if_false, reduceIte, operands, Option.map_some, Option.map_none, CP_P, cl_127, c]
    exact ⟨rfl, rfl⟩
  simp only [Ex.thn]
  apply EvX.seq
  apply EvX.reg 0
  · intro k _
    simp only [QRun, stepA, wantedA, opA, pureA, loadA, effA, binA, bin, evalA, ofV, ofCell, Fr.put, enterA_n, enterA_t, setArgs, List.length_cons, List.length_nil, Tr.get_set, Nat.zero_testBit, cond_false, true_and, Nat.reduceAdd, Nat.reduceSub, ble_dec, beq_dec, Nat.reduceLeDiff, decide_true, decide_false, cond_true, Nat.reduceEqDiff, if_true, if_false, reduceIte, operands, Option.map_some, Option.map_none, CP_P, cl_127, c]
    exact ⟨rfl, rfl⟩
  simp only [Ex.thn]
  apply EvX.seq
  apply EvX.seq
  apply EvX.reg0
  · intro call
    simp only [QRun, stepA, wantedA, opA, pureA, loadA, effA, binA, bin, evalA, ofV, ofCell, Fr.put, enterA_n, enterA_t, setArgs, List.length_cons, List.length_nil, Tr.get_set, Nat.zero_testBit, cond_false, true_and, Nat.reduceAdd, Nat.reduceSub, ble_dec, beq_dec, Nat.reduceLeDiff, decide_true, decide_false, cond_true, Nat.reduceEqDiff, if_true, if_false, reduceIte, operands, Option.map_some, Option.map_none, CP_P]
    exact ⟨rfl, rfl⟩
  simp only [Ex.thn]
  apply EvX.cond2
  · simp only [evalA, Tr.get_set, Nat.reduceEqDiff, if_true, if_false, reduceIte]; exact rfl
  · intro h; cases h
  intro _
  apply EvX.skip
  simp only [Ex.thn]
  apply EvX.seq
  apply EvX.seq
  apply EvX.reg0
  · intro call
    simp only [QRun, stepA, wantedA, opA, pureA, loadA, effA, binA, bin, evalA, ofV, ofCell, Fr.put, enterA_n, enterA_t, setArgs, List.length_cons, List.length_nil, Tr.get_set, Nat.zero_testBit, cond_false, true_and, Nat.reduceAdd, Nat.reduceSub, ble_dec, beq_dec, Nat.reduceLeDiff, decide_true, decide_false, cond_true, Nat.reduceEqDiff, if_true, if_false, reduceIte, operands, Option.map_some, Option.map_none, CP_P]
    exact ⟨rfl, rfl⟩
  simp only [Ex.thn]
  apply EvX.cond2
  · simp only [evalA, Tr.get_set, Nat.reduceEqDiff, if_true, if_false, reduceIte]; exact rfl
  · intro h; cases h
  intro _
  apply EvX.skip
  simp only [Ex.thn]
  apply EvX.seq
  apply EvX.seq
  apply EvX.reg0
  · intro call
    simp only [QRun, stepA, wantedA, opA, pureA, loadA, effA, binA, bin, evalA, ofV, ofCell, Fr.put, enterA_n, enterA_t, setArgs, List.length_cons, List.length_nil, Tr.get_set, Nat.zero_testBit, cond_false, true_and, Nat.reduceAdd, Nat.reduceSub, ble_dec, beq_dec, Nat.reduceLeDiff, decide_true, decide_false, cond_true, Nat.reduceEqDiff, if_true, if_false, reduceIte, operands, Option.map_some, Option.map_none, CP_P]
    exact ⟨rfl, rfl⟩
  simp only [Ex.thn]
  apply EvX.cond2
  · simp only [evalA, Tr.get_set, Nat.reduceEqDiff, if_true, if_false, reduceIte]; exact rfl
  · intro hlt
    have hlt := of_decide_eq_true hlt
    apply EvX.seq
    apply EvX.reg0
    · intro call
      simp only [QRun, stepA, wantedA, opA, pureA, loadA, effA, binA, bin, evalA, ofV, ofCell, Fr.put, enterA_n, enterA_t, setArgs, List.length_cons, List.length_nil, Tr.get_set, Nat.zero_testBit, cond_false, true_and, Nat.reduceAdd, Nat.reduceSub, ble_dec, beq_dec, Nat.reduceLeDiff, decide_true, decide_false, cond_true, Nat.reduceEqDiff, if_true, if_false, reduceIte, operands, Option.map_some, Option.map_none, CP_P]
      exact ⟨rfl, rfl⟩
    simp only [Ex.thn]
    apply EvX.ret
    simp only [Ex.thn]
    exact Fin.one rfl (by simp [Tr.get_set, cmp3, hlt])
  intro hlt
  have hlt := of_decide_eq_false hlt
  apply EvX.skip
  simp only [Ex.thn]
  apply EvX.seq
  apply EvX.seq
  apply EvX.reg0
  · intro call
    simp only [QRun, stepA, wantedA, opA, pureA, loadA, effA, binA, bin, evalA, ofV, ofCell, Fr.put, enterA_n, enterA_t, setArgs, List.length_cons, List.length_nil, Tr.get_set, Nat.zero_testBit, cond_false, true_and, Nat.reduceAdd, Nat.reduceSub, ble_dec, beq_dec, Nat.reduceLeDiff, decide_true, decide_false, cond_true, Nat.reduceEqDiff, if_true, if_false, reduceIte, operands, Option.map_some, Option.map_none, CP_P]
    exact ⟨rfl, rfl⟩
  simp only [Ex.thn]
  apply EvX.cond2
  · simp only [evalA, Tr.get_set, Nat.reduceEqDiff, if_true, if_false, reduceIte]; exact rfl
  · intro hgt
    have hgt := of_decide_eq_true hgt
    apply EvX.seq
    apply EvX.reg0
    · intro call
      simp only [QRun, stepA, wantedA, opA, pureA, loadA, effA, binA, bin, evalA, ofV, ofCell, Fr.put, enterA_n, enterA_t, setArgs, List.length_cons, List.length_nil, Tr.get_set, Nat.zero_testBit, cond_false, true_and, Nat.reduceAdd, Nat.reduceSub, ble_dec, beq_dec, Nat.reduceLeDiff, decide_true, decide_false, cond_true, Nat.reduceEqDiff, if_true, if_false, reduceIte, operands, Option.map_some, Option.map_none, CP_P]
      exact ⟨rfl, rfl⟩
    simp only [Ex.thn]
    apply EvX.ret
    simp only [Ex.thn]
    exact Fin.one rfl (by simp [Tr.get_set, cmp3]; omega)
  intro hgt
  have hgt := of_decide_eq_false hgt
  apply EvX.skip
  simp only [Ex.thn]
  apply EvX.seq
  apply EvX.reg0
  · intro call
    simp only [QRun, stepA, wantedA, opA, pureA, loadA, effA, binA, bin, evalA, ofV, ofCell, Fr.put, enterA_n, enterA_t, setArgs, List.length_cons, List.length_nil, Tr.get_set, Nat.zero_testBit, cond_false, true_and, Nat.reduceAdd, Nat.reduceSub, ble_dec, beq_dec, Nat.reduceLeDiff, decide_true, decide_false, cond_true, Nat.reduceEqDiff, if_true, if_false, reduceIte, operands, Option.map_some, Option.map_none, CP_P]
    exact ⟨rfl, rfl⟩
  simp only [Ex.thn]
  apply EvX.ret
  exact Fin.one rfl (by simp [Tr.get_set, cmp3]; omega)
theorem call90 {ps : List PFn} (h : findP ps 90 = some p90) {D : CallF → DrawF} (k : Nat) (a b : Int) (m : Mem) : Vz.call (CP ps) D k 90 [.int .i64 a, .int .i64 b] m = some (.int .i64 (cmp3 a b), m) := call_told h k m rfl rfl
theorem cl_90 (args : List AV) : calleeA Tryz.prog (.fn (.func 90) [] []) args = some (.enter 90 args) := by rw [callee_of Tryz.func90 (by kernel_rfl) (by kernel_rfl)]; simp

/-! ### Lists of numbers, of pairs -/
def encInts (l : List Int) : List AV := l.map (.int .i64 ·)
def decInts : List AV → Option (List Int)
  | [] => some []
  | .int .i64 a :: r => (decInts r).map (a :: ·)
  | _ => none
theorem decInts_eq : ∀ {xs : List AV} {l : List Int}, decInts xs = some l → xs = encInts l
  | [], l, h => by simp only [decInts, Option.some.injEq] at h; subst h; rfl
  | x :: xs, l, h => by
    unfold decInts at h
    split at h
    · rename_i heq; cases heq
    · rename_i a r heq
      cases heq
      cases hr : decInts xs with
      | none => simp [hr] at h
      | some k => simp only [hr, Option.map_some, Option.some.injEq] at h; subst h; rw [decInts_eq hr]; rfl
    · cases h
def encPairs : List (Int × Int) → List AV
  | [] => []
  | p :: l => .int .i64 p.1 :: .int .i64 p.2 :: encPairs l
def decPairs : List AV → Option (List (Int × Int))
  | [] => some []
  | .int .i64 a :: .int .i64 b :: r => (decPairs r).map ((a, b) :: ·)
  | _ => none
theorem decPairs_eq : ∀ {xs : List AV} {l : List (Int × Int)}, decPairs xs = some l → xs = encPairs l
  | xs, l, h => by
    unfold decPairs at h
    split at h
    · cases h; rfl
    · rename_i a b r
      cases hr : decPairs r with
      | none => simp [hr] at h
      | some k => simp only [hr, Option.map_some, Option.some.injEq] at h; subst h; rw [decPairs_eq hr]; rfl
    · cases h
termination_by xs => xs.length
theorem encInts_length (l : List Int) : (encInts l).length = l.length := by simp [encInts]
theorem encPairs_length : ∀ l : List (Int × Int), (encPairs l).length = l.length * 2
  | [] => rfl
  | p :: l => by simp only [encPairs, List.length_cons, encPairs_length l]; omega
theorem takeInt {l : List Int} {i : Nat} (h : i < l.length) : takeN 1 ((encInts l).drop i) = some [.int .i64 l[i]] := by
  have : (encInts l).drop i = .int .i64 l[i] :: (encInts l).drop (i + 1) := by
    rw [List.drop_eq_getElem_cons (by rw [encInts_length]; exact h)]
    simp [encInts]
  rw [this]
  rfl
theorem takePair : ∀ {l : List (Int × Int)} {i : Nat} (h : i < l.length), takeN 2 ((encPairs l).drop (i * 2)) = some [.int .i64 l[i].1, .int .i64 l[i].2]
  | p :: l, 0, _ => rfl
  | p :: l, i + 1, h => by
    have : (i + 1) * 2 = i * 2 + 1 + 1 := by omega
    rw [this]
    simp only [encPairs, List.drop_succ_cons, List.getElem_cons_succ]
    exact takePair (by simpa using h)
theorem natOf_cast (k : IntKind) (i : Nat) : natOf? (some (.int k (i : Int))) = some i := rfl
theorem wrap_nat {i : Nat} (h : i ≤ 9223372036854775807) : IntKind.i64.wrap (i : Int) = (i : Int) := by rw [IntKind.wrap_i64]; omega
theorem wrap_succ {i : Nat} (h : i + 1 ≤ 9223372036854775807) : IntKind.i64.wrap ((i : Int) + 1) = ((i + 1 : Nat) : Int) := by rw [IntKind.wrap_i64]; omega
theorem wrap_pred {i : Nat} (h : i + 1 ≤ 9223372036854775807) : IntKind.i64.wrap (((i + 1 : Nat) : Int) - 1) = (i : Int) := by rw [IntKind.wrap_i64]; omega
theorem sz_3 : sizeT Tryz.prog 3 = some 1 := by kernel_rfl
theorem sz_70 : sizeT Tryz.prog 70 = some 2 := by kernel_rfl
theorem ag_3 : aggT Tryz.prog 3 = some false := by kernel_rfl
theorem ag_70 : aggT Tryz.prog 70 = some true := by kernel_rfl

/-! ### cmp.Or -/
def orInts : List Int → Int
  | [] => 0
  | a :: l => if a = 0 then orInts l else a
def p89 : PFn := ⟨89, fun
  | [.ro xs n 1] => match decInts xs with
    | some l => bif Nat.beq l.length n && Nat.ble n 9223372036854775807 then some (.int .i64 (orInts l)) else none
    | none => none
  | _ => none⟩
theorem orInts_drop {l : List Int} {i : Nat} (h : i < l.length) : orInts (l.drop i) = if l[i] = 0 then orInts (l.drop (i + 1)) else l[i] := by
  rw [List.drop_eq_getElem_cons h]
  rfl
theorem p89_ok : p89.Ok := by
  refine PFn.Ok.of (ps := []) (fun p h => by cases h) (fun args x h => ?_)
  simp only [p89] at h
  split at h
  rotate_left
  · cases h
  rename_i xs n
  cases hl : decInts xs with
  | none => simp [hl] at h
  | some l =>
  simp only [hl] at h
  cases hb : Nat.beq l.length n && Nat.ble n 9223372036854775807 with
  | false => simp [hb] at h
  | true =>
  simp only [hb, cond_true, Option.some.injEq] at h
  rw [Bool.and_eq_true_iff] at hb
  have hn := Nat.eq_of_beq_eq_true hb.1
  have hmax := Nat.le_of_ble_eq_true hb.2
  subst hn; subst h
  have := decInts_eq hl
  subst this
  clear hl hb
  refine ⟨rfl, EvC.run (by kernel_rfl) (by rw [CP_P]; exact Tryz.func89) rfl ?_⟩
  apply EvX.seq
  apply EvX.reg0
  · intro call
    simp only [QRun, stepA, wantedA, opA, pureA, loadA, effA, binA, bin, evalA, ofV, ofCell, Fr.put, enterA_n, enterA_t, setArgs, List.length_cons, List.length_nil, Tr.get_set, Nat.zero_testBit, cond_false, true_and, Nat.reduceAdd, Nat.reduceSub, ble_dec, beq_dec, Nat.reduceLeDiff, decide_true, decide_false, cond_true, Nat.reduceEqDiff, if_true, if_false, reduceIte, operands, Option.map_some, Option.map_none, CP_P, Tryz.ntmps89]
    exact ⟨rfl, rfl⟩
  simp only [Ex.thn]
  apply EvX.seq
  apply EvX.reg0
  · intro call
    simp only [QRun, stepA, wantedA, opA, pureA, loadA, effA, binA, bin, evalA, ofV, ofCell, Fr.put, enterA_n, enterA_t, setArgs, List.length_cons, List.length_nil, Tr.get_set, Nat.zero_testBit, cond_false, true_and, Nat.reduceAdd, Nat.reduceSub, ble_dec, beq_dec, Nat.reduceLeDiff, decide_true, decide_false, cond_true, Nat.reduceEqDiff, if_true, if_false, reduceIte, operands, Option.map_some, Option.map_none, CP_P]
    exact ⟨rfl, rfl⟩
  simp only [Ex.thn]
  apply EvX.seq
  apply EvX.seq
  apply EvX.reg0
  · intro call
    simp only [QRun, stepA, wantedA, opA, pureA, loadA, effA, binA, bin, evalA, ofV, ofCell, Fr.put, enterA_n, enterA_t, setArgs, List.length_cons, List.length_nil, Tr.get_set, Nat.zero_testBit, cond_false, true_and, Nat.reduceAdd, Nat.reduceSub, ble_dec, beq_dec, Nat.reduceLeDiff, decide_true, decide_false, cond_true, Nat.reduceEqDiff, if_true, if_false, reduceIte, operands, Option.map_some, Option.map_none, CP_P, lenA, Tryz.underlying31, List.getElem?_toArray, List.getElem?_cons_zero, natOf?, natOf_cast, Tryz.underlying31, Tryz.underlying28, sz_3, sz_70, ag_3, ag_70, Nat.mul_one, Bool.and_true, Bool.true_and, Mem.load, Bool.and_self]
    exact ⟨rfl, rfl⟩
  simp only [Ex.thn]
  apply EvX.block
  refine EvX.loop (fun k fr m => ∃ i : Nat, k = l.length - i ∧ i ≤ l.length ∧ fr.n = 18 ∧ fr.t.get 3 = some (.int .i64 0) ∧ fr.t.get 6 = some (.ro (encInts l) l.length 1) ∧ fr.t.get 7 = some (.int .i64 l.length) ∧
    fr.t.get 8 = some (.int .i64 (i : Int)) ∧ orInts (l.drop i) = orInts l) ?_ l.length _ _ ⟨0, by simp, by simp, rfl, by simp [Tr.get_set], by simp [Tr.get_set], by simp [Tr.get_set], by simp [Tr.get_set], rfl⟩
  rintro k fr m ⟨i, rfl, hil, hfn, h3, h6, h7, h8, hor⟩
  apply EvX.seq
  apply EvX.reg0
  · intro call
    simp only [QRun, stepA, wantedA, opA, pureA, loadA, effA, binA, bin, evalA, ofV, ofCell, Fr.put, enterA_n, enterA_t, setArgs, List.length_cons, List.length_nil, Tr.get_set, Nat.zero_testBit, cond_false, true_and, Nat.reduceAdd, Nat.reduceSub, ble_dec, beq_dec, Nat.reduceLeDiff, decide_true, decide_false, cond_true, Nat.reduceEqDiff, if_true, if_false, reduceIte, operands, Option.map_some, Option.map_none, CP_P, hfn, h7, h8]
    exact ⟨rfl, rfl⟩
  simp only [Ex.thn]
  apply EvX.seq
  apply EvX.cond2
  · simp only [evalA, Tr.get_set, Nat.reduceEqDiff, if_true, if_false, reduceIte]; exact rfl
  rotate_left
  · intro hlt
    have hlt := of_decide_eq_false hlt
    have hi : i = l.length := by omega
    subst hi
    apply EvX.exit
    simp only [Ex.thn, Ex.blk, beq_dec, decide_true, cond_true]
    apply EvX.seq
    apply EvX.reg0
    · intro call
      simp only [QRun, stepA, wantedA, opA, pureA, loadA, effA, binA, bin, evalA, ofV, ofCell, Fr.put, enterA_n, enterA_t, setArgs, List.length_cons, List.length_nil, Tr.get_set, Nat.zero_testBit, cond_false, true_and, Nat.reduceAdd, Nat.reduceSub, ble_dec, beq_dec, Nat.reduceLeDiff, decide_true, decide_false, cond_true, Nat.reduceEqDiff, if_true, if_false, reduceIte, operands, Option.map_some, Option.map_none, CP_P, hfn, h3]
      exact ⟨rfl, rfl⟩
    simp only [Ex.thn]
    apply EvX.ret
    exact Fin.one rfl (by rw [List.drop_length] at hor; simp [Tr.get_set, ← hor, orInts])
  intro hlt
  have hlt := of_decide_eq_true hlt
  have hlt : i < l.length := by omega
  have hlt' : i + 1 ≤ l.length := hlt
  apply EvX.skip
  simp only [Ex.thn]
  apply EvX.seq
  apply EvX.block
  apply EvX.seq
  apply EvX.reg0
  · intro call
    simp only [QRun, stepA, wantedA, opA, pureA, loadA, effA, binA, bin, evalA, ofV, ofCell, Fr.put, enterA_n, enterA_t, setArgs, List.length_cons, List.length_nil, Tr.get_set, Nat.zero_testBit, cond_false, true_and, Nat.reduceAdd, Nat.reduceSub, ble_dec, beq_dec, Nat.reduceLeDiff, decide_true, decide_false, cond_true, Nat.reduceEqDiff, if_true, if_false, reduceIte, operands, Option.map_some, Option.map_none, CP_P, hfn, h6, h8, natOf?, natOf_cast, Tryz.underlying31, Tryz.underlying28, sz_3, sz_70, ag_3, ag_70, Nat.mul_one, Bool.and_true, Bool.true_and, Mem.load, Bool.and_self, hlt', Nat.le_of_lt hlt, encInts_length, takeInt hlt]
    exact ⟨rfl, rfl⟩
  simp only [Ex.thn]
  apply EvX.seq
  apply EvX.reg0
  · intro call
    simp only [QRun, stepA, wantedA, opA, pureA, loadA, effA, binA, bin, evalA, ofV, ofCell, Fr.put, enterA_n, enterA_t, setArgs, List.length_cons, List.length_nil, Tr.get_set, Nat.zero_testBit, cond_false, true_and, Nat.reduceAdd, Nat.reduceSub, ble_dec, beq_dec, Nat.reduceLeDiff, decide_true, decide_false, cond_true, Nat.reduceEqDiff, if_true, if_false, reduceIte, operands, Option.map_some, Option.map_none, CP_P, hfn, h3]
    exact ⟨rfl, rfl⟩
  simp only [Ex.thn]
  apply EvX.cond2
  · simp only [evalA, Tr.get_set, Nat.reduceEqDiff, if_true, if_false, reduceIte]; exact rfl
  · intro hne
    apply EvX.seq
    apply EvX.reg0
    · intro call
      simp only [QRun, stepA, wantedA, opA, pureA, loadA, effA, binA, bin, evalA, ofV, ofCell, Fr.put, enterA_n, enterA_t, setArgs, List.length_cons, List.length_nil, Tr.get_set, Nat.zero_testBit, cond_false, true_and, Nat.reduceAdd, Nat.reduceSub, ble_dec, beq_dec, Nat.reduceLeDiff, decide_true, decide_false, cond_true, Nat.reduceEqDiff, if_true, if_false, reduceIte, operands, Option.map_some, Option.map_none, CP_P, hfn]
      exact ⟨rfl, rfl⟩
    simp only [Ex.thn]
    apply EvX.ret
    simp only [Ex.thn, Ex.blk]
    refine Fin.one rfl ?_
    have hne' : l[i] ≠ 0 := by simpa using hne
    rw [orInts_drop hlt, if_neg hne'] at hor
    simp [Tr.get_set, ← hor]
  intro he
  have he : l[i] = 0 := by simpa using he
  apply EvX.skip
  simp only [Ex.thn, Ex.blk]
  apply EvX.reg0
  · intro call
    simp only [QRun, stepA, wantedA, opA, pureA, loadA, effA, binA, bin, evalA, ofV, ofCell, Fr.put, enterA_n, enterA_t, setArgs, List.length_cons, List.length_nil, Tr.get_set, Nat.zero_testBit, cond_false, true_and, Nat.reduceAdd, Nat.reduceSub, ble_dec, beq_dec, Nat.reduceLeDiff, decide_true, decide_false, cond_true, Nat.reduceEqDiff, if_true, if_false, reduceIte, operands, Option.map_some, Option.map_none, CP_P, hfn, h8, wrap_succ (show i + 1 ≤ 9223372036854775807 by omega)]
    exact ⟨rfl, rfl⟩
  simp only [Ex.thn]
  refine ⟨l.length - (i + 1), by omega, i + 1, rfl, hlt', trivial, ?_, ?_, ?_, ?_, ?_⟩
  · simp [Tr.get_set, h3]
  · simp [Tr.get_set, h6]
  · simp [Tr.get_set, h7]
  · simp [Tr.get_set]
  · rw [← hor, orInts_drop hlt, if_pos he]

theorem call89 {ps : List PFn} (h : findP ps 89 = some p89) {D : CallF → DrawF} (k : Nat) {x : AV} {l : List Int} {n : Nat} (m : Mem) (hv : viewA 8 m x = some (.ro (encInts l) n 1)) (hn : l.length = n) (hm : n ≤ 9223372036854775807) (hd : decInts (encInts l) = some l) :
    Vz.call (CP ps) D k 89 [x] m = some (.int .i64 (orInts l), m) := by
  refine call_told h k m (args' := [.ro (encInts l) n 1]) (by simp only [mapO, hv]) ?_
  simp only [p89, hd, hn, Nat.beq_refl, Nat.ble_eq_true_of_le hm, Bool.and_self, cond_true]
theorem cl_89 (args : List AV) : calleeA Tryz.prog (.fn (.func 89) [] []) args = some (.enter 89 args) := by rw [callee_of Tryz.func89 (by kernel_rfl) (by kernel_rfl)]; simp

theorem ze_3 : zeroT Tryz.prog 3 = some (.int .i64 0) := by kernel_rfl
theorem by_3 : bytesT Tryz.prog 3 = some 8 := by kernel_rfl
/-! ### compare -/
def cmpPair (p q : Int × Int) : Int := if cmp3 p.1 q.1 = 0 then cmp3 p.2 q.2 else cmp3 p.1 q.1
def p60 : PFn := ⟨60, fun | [.agg [.int .i64 a, .int .i64 b], .agg [.int .i64 c, .int .i64 d]] => some (.int .i64 (cmpPair (a, b) (c, d))) | _ => none⟩
theorem p60_ok : p60.Ok := by
  refine PFn.Ok.of (ps := [p90, p89]) (fun p h => by simp at h; rcases h with rfl | rfl; exact p90_ok; exact p89_ok) (fun args x h => ?_)
  have c90 := fun k a b m => @call90 [p90, p89] rfl (drawA (CP [p90, p89])) k a b m
  simp only [p60] at h
  split at h <;> cases h
  rename_i a b c d
  refine ⟨rfl, EvC.run (by kernel_rfl) (by rw [CP_P]; exact Tryz.func60) rfl ?_⟩
  apply EvX.seq
  apply EvX.reg0
  · intro call
    simp only [QRun, stepA, wantedA, opA, pureA, loadA, effA, binA, bin, evalA, ofV, ofCell, Fr.put, enterA_n, enterA_t, setArgs, List.length_cons, List.length_nil, Tr.get_set, Nat.zero_testBit, cond_false, true_and, Nat.reduceAdd, Nat.reduceSub, ble_dec, beq_dec, Nat.reduceLeDiff, decide_true, decide_false, cond_true, Nat.reduceEqDiff, if_true, if_false, reduceIte, operands, Option.map_some, Option.map_none, CP_P, Tryz.ntmps60, Mem.fresh, Mem.load, Mem.live, Win.read, Win.cell, setCells, Mem.empty, Mem.store, List.length_cons, List.length_nil, AV.cells, allCells, AV.isCell, takeN, Nat.zero_le, Nat.le_refl, Nat.zero_add, Nat.add_zero, Bool.not_false, Tr.get_nil]
    exact ⟨rfl, rfl⟩
  simp only [Ex.thn]
  apply EvX.seq
  apply EvX.drw 528 0
  · kernel_rfl
  · intro k _
    simp only [QRun, stepA, wantedA, opA, pureA, loadA, effA, binA, bin, evalA, ofV, ofCell, Fr.put, enterA_n, enterA_t, setArgs, List.length_cons, List.length_nil, Tr.get_set, Nat.zero_testBit, cond_false, true_and, Nat.reduceAdd, Nat.reduceSub, ble_dec, beq_dec, Nat.reduceLeDiff, decide_true, decide_false, cond_true, Nat.reduceEqDiff, if_true, if_false, reduceIte, operands, Option.map_some, Option.map_none, CP_P, cl_90, c90, cl_89, Mem.fresh, Mem.load, Mem.live, Win.read, Win.cell, setCells, Mem.empty, Mem.store, List.length_cons, List.length_nil, AV.cells, allCells, AV.isCell, takeN, Nat.zero_le, Nat.le_refl, Nat.zero_add, Nat.add_zero, Bool.not_false, Tr.get_nil, Tryz.underlying70, Tryz.underlying31, sz_3, ag_3, ze_3, by_3, List.getElem?_toArray, List.getElem?_cons_zero, List.getElem?_cons_succ, show Nat.testBit 528 0 = false from rfl, show Nat.testBit 528 1 = false from rfl, show Nat.testBit 528 2 = false from rfl, show Nat.testBit 528 3 = false from rfl, show Nat.testBit 528 4 = true from rfl, show Nat.testBit 528 5 = false from rfl, show Nat.testBit 528 6 = false from rfl, show Nat.testBit 528 7 = false from rfl, show Nat.testBit 528 8 = false from rfl, show Nat.testBit 528 9 = true from rfl, show Nat.testBit 528 10 = false from rfl, show Nat.testBit 528 11 = false from rfl, show Nat.testBit 528 12 = false from rfl, partsA, fillA, putCells, replicateA, AV.cells, List.append_nil, List.nil_append, List.cons_append, Bool.and_true, Bool.true_and, Bool.and_self, eq_self, Nat.reduceMul]
    rw [call89 (ps := [p90, p89]) rfl k (l := [cmp3 a c, cmp3 b d]) (n := 2) _ ?hv rfl (by decide) rfl]
    · simp only [QRun, stepA, wantedA, opA, pureA, loadA, effA, binA, bin, evalA, ofV, ofCell, Fr.put, enterA_n, enterA_t, setArgs, List.length_cons, List.length_nil, Tr.get_set, Nat.zero_testBit, cond_false, true_and, Nat.reduceAdd, Nat.reduceSub, ble_dec, beq_dec, Nat.reduceLeDiff, decide_true, decide_false, cond_true, Nat.reduceEqDiff, if_true, if_false, reduceIte, operands, Option.map_some, Option.map_none, CP_P, show Nat.testBit 528 0 = false from rfl, show Nat.testBit 528 1 = false from rfl, show Nat.testBit 528 2 = false from rfl, show Nat.testBit 528 3 = false from rfl, show Nat.testBit 528 4 = true from rfl, show Nat.testBit 528 5 = false from rfl, show Nat.testBit 528 6 = false from rfl, show Nat.testBit 528 7 = false from rfl, show Nat.testBit 528 8 = false from rfl, show Nat.testBit 528 9 = true from rfl, show Nat.testBit 528 10 = false from rfl, show Nat.testBit 528 11 = false from rfl, show Nat.testBit 528 12 = false from rfl]
      exact ⟨rfl, rfl⟩
    case hv => simp [viewA, mapO, Mem.load, Mem.live, Win.read, Win.cell, Tr.get_set, ble_dec, encInts]
  simp only [Ex.thn]
  apply EvX.ret
  exact Fin.one rfl (by simp [Tr.get_set, cmpPair, orInts]; split <;> simp_all)

theorem ze_70 : zeroT Tryz.prog 70 = some (.agg [.int .i64 0, .int .i64 0]) := by kernel_rfl
theorem call60 {ps : List PFn} (h : findP ps 60 = some p60) {D : CallF → DrawF} (k : Nat) (a b c d : Int) (m : Mem) : Vz.call (CP ps) D k 60 [.agg [.int .i64 a, .int .i64 b], .agg [.int .i64 c, .int .i64 d]] m = some (.int .i64 (cmpPair (a, b) (c, d)), m) := call_told h k m rfl rfl
theorem cl_60 (args : List AV) : calleeA Tryz.prog (.fn (.func 60) [] []) args = some (.enter 60 args) := by rw [callee_of Tryz.func60 (by kernel_rfl) (by kernel_rfl)]; simp

/-! ### checkPairs -/
def badP (f : Int) (p : Int × Int) : Prop := p.1 < 0 ∨ p.1 ≥ f ∨ p.2 < 0 ∨ p.2 ≥ f
instance (f : Int) (p : Int × Int) : Decidable (badP f p) := by unfold badP; exact inferInstance
def notUp : Option (Int × Int) → Int × Int → Prop
  | some q, p => 0 ≤ cmpPair q p
  | none, _ => False
instance (q : Option (Int × Int)) (p : Int × Int) : Decidable (notUp q p) := by cases q <;> unfold notUp <;> exact inferInstance
def goPairs (f : Int) : Option (Int × Int) → List (Int × Int) → Int
  | _, [] => 0
  | q, p :: l => if badP f p then 4 else if notUp q p then 13 else goPairs f (some p) l
def pairsErr (f : Int) (l : List (Int × Int)) : Int := if l.length > 8192 then 3 else goPairs f none l
def prevOf (l : List (Int × Int)) : Nat → Option (Int × Int)
  | 0 => none
  | i + 1 => l[i]?
theorem goPairs_drop {f : Int} {l : List (Int × Int)} {i : Nat} (h : i < l.length) : goPairs f (prevOf l i) (l.drop i) = if badP f l[i] then 4 else if notUp (prevOf l i) l[i] then 13 else goPairs f (prevOf l (i + 1)) (l.drop (i + 1)) := by
  rw [List.drop_eq_getElem_cons h]
  have : prevOf l (i + 1) = some l[i] := List.getElem?_eq_getElem h
  rw [this]
  rfl
def specPairs : List AV → Option AV
  | [.ro xs n 2, .int .i64 f] => match decPairs xs with
    | some l => bif Nat.beq l.length n && Nat.ble n 9223372036854775807 then some (.int .i64 (pairsErr f l)) else none
    | none => none
  | _ => none
theorem specPairs_some {args : List AV} {x : AV} (h : specPairs args = some x) : ∃ l f, args = [.ro (encPairs l) l.length 2, .int .i64 f] ∧ x = .int .i64 (pairsErr f l) ∧ l.length ≤ 9223372036854775807 := by
  unfold specPairs at h
  split at h
  rotate_left
  · cases h
  rename_i xs n f
  cases hl : decPairs xs with
  | none => simp [hl] at h
  | some l =>
  simp only [hl] at h
  cases hb : Nat.beq l.length n && Nat.ble n 9223372036854775807 with
  | false => simp [hb] at h
  | true =>
  simp only [hb, cond_true, Option.some.injEq] at h
  rw [Bool.and_eq_true_iff] at hb
  have hn := Nat.eq_of_beq_eq_true hb.1
  subst hn
  exact ⟨l, f, by rw [decPairs_eq hl], h.symm, Nat.le_of_ble_eq_true hb.2⟩
def p34 : PFn := ⟨34, specPairs⟩
theorem p34_ok : p34.Ok := by
  refine PFn.Ok.of (ps := [p60]) (fun p h => by simp at h; subst h; exact p60_ok) (fun args x h => ?_)
  have c60 := fun k a b c d m => @call60 [p60] rfl (drawA (CP [p60])) k a b c d m
  obtain ⟨l, f, rfl, rfl, hmax⟩ := specPairs_some h
  clear h
  refine ⟨rfl, EvC.run (by kernel_rfl) (by rw [CP_P]; exact Tryz.func34) rfl ?_⟩
  apply EvX.seq
  apply EvX.reg0
  · intro call
    simp only [QRun, stepA, wantedA, opA, pureA, loadA, effA, binA, bin, evalA, ofV, ofCell, Fr.put, enterA_n, enterA_t, setArgs, List.length_cons, List.length_nil, Tr.get_set, Nat.zero_testBit, cond_false, true_and, Nat.reduceAdd, Nat.reduceSub, ble_dec, beq_dec, Nat.reduceLeDiff, decide_true, decide_false, cond_true, Nat.reduceEqDiff, if_true, if_false, reduceIte, operands, Option.map_some, Option.map_none, CP_P, Tryz.ntmps34]
    exact ⟨rfl, rfl⟩
  simp only [Ex.thn]
  apply EvX.seq
  apply EvX.seq
  apply EvX.reg0
  · intro call
    simp only [QRun, stepA, wantedA, opA, pureA, loadA, effA, binA, bin, evalA, ofV, ofCell, Fr.put, enterA_n, enterA_t, setArgs, List.length_cons, List.length_nil, Tr.get_set, Nat.zero_testBit, cond_false, true_and, Nat.reduceAdd, Nat.reduceSub, ble_dec, beq_dec, Nat.reduceLeDiff, decide_true, decide_false, cond_true, Nat.reduceEqDiff, if_true, if_false, reduceIte, operands, Option.map_some, Option.map_none, CP_P, lenA, Mem.fresh, Mem.load, Mem.live, Win.read, Win.cell, setCells, Mem.empty, Mem.store, List.length_cons, List.length_nil, AV.cells, allCells, AV.isCell, takeN, Nat.zero_le, Nat.le_refl, Nat.zero_add, Nat.add_zero, Bool.not_false, Tr.get_nil, List.getElem?_toArray, List.getElem?_cons_zero, List.getElem?_cons_succ, beq_self_eq_true, Bool.and_true, Bool.true_and, Bool.and_self, eq_self, show (true == false) = false from rfl, show (false == true) = false from rfl, show (false == false) = true from rfl, Tryz.underlying70, Tryz.underlying28, sz_3, sz_70, ag_3, ag_70, ze_70]
    exact ⟨rfl, rfl⟩
  simp only [Ex.thn]
  apply EvX.cond2
  · simp only [evalA, Tr.get_set, Nat.reduceEqDiff, if_true, if_false, reduceIte]; exact rfl
  · intro hlt
    have hlt := of_decide_eq_true hlt
    apply EvX.seq
    apply EvX.reg0
    · intro call
      simp only [QRun, stepA, wantedA, opA, pureA, loadA, effA, binA, bin, evalA, ofV, ofCell, Fr.put, enterA_n, enterA_t, setArgs, List.length_cons, List.length_nil, Tr.get_set, Nat.zero_testBit, cond_false, true_and, Nat.reduceAdd, Nat.reduceSub, ble_dec, beq_dec, Nat.reduceLeDiff, decide_true, decide_false, cond_true, Nat.reduceEqDiff, if_true, if_false, reduceIte, operands, Option.map_some, Option.map_none, CP_P]
      exact ⟨rfl, rfl⟩
    simp only [Ex.thn]
    apply EvX.ret
    simp only [Ex.thn]
    exact Fin.one rfl (by simp [Tr.get_set, pairsErr]; omega)
  intro hlt
  have hlt := of_decide_eq_false hlt
  have hpe : pairsErr f l = goPairs f none l := by unfold pairsErr; rw [if_neg (by omega)]
  rw [hpe]
  apply EvX.skip
  simp only [Ex.thn]
  apply EvX.seq
  apply EvX.seq
  apply EvX.reg0
  · intro call
    simp only [QRun, stepA, wantedA, opA, pureA, loadA, effA, binA, bin, evalA, ofV, ofCell, Fr.put, enterA_n, enterA_t, setArgs, List.length_cons, List.length_nil, Tr.get_set, Nat.zero_testBit, cond_false, true_and, Nat.reduceAdd, Nat.reduceSub, ble_dec, beq_dec, Nat.reduceLeDiff, decide_true, decide_false, cond_true, Nat.reduceEqDiff, if_true, if_false, reduceIte, operands, Option.map_some, Option.map_none, CP_P, lenA, Mem.fresh, Mem.load, Mem.live, Win.read, Win.cell, setCells, Mem.empty, Mem.store, List.length_cons, List.length_nil, AV.cells, allCells, AV.isCell, takeN, Nat.zero_le, Nat.le_refl, Nat.zero_add, Nat.add_zero, Bool.not_false, Tr.get_nil, List.getElem?_toArray, List.getElem?_cons_zero, List.getElem?_cons_succ, beq_self_eq_true, Bool.and_true, Bool.true_and, Bool.and_self, eq_self, show (true == false) = false from rfl, show (false == true) = false from rfl, show (false == false) = true from rfl, Tryz.underlying70, Tryz.underlying28, sz_3, sz_70, ag_3, ag_70, ze_70]
    exact ⟨rfl, rfl⟩
  simp only [Ex.thn]
  apply EvX.block
  refine EvX.loop (fun k fr m => ∃ i : Nat, k = l.length - i ∧ i ≤ l.length ∧ fr.n = 50 ∧ fr.t.get 0 = some (.ro (encPairs l) l.length 2) ∧ fr.t.get 1 = some (.int .i64 f) ∧ fr.t.get 10 = some (.ro (encPairs l) l.length 2) ∧ fr.t.get 11 = some (.int .i64 l.length) ∧
    fr.t.get 12 = some (.int .i64 (i : Int)) ∧ goPairs f (prevOf l i) (l.drop i) = goPairs f none l) ?_ l.length _ _ ⟨0, by simp, by simp, rfl, by simp [Tr.get_set], by simp [Tr.get_set], by simp [Tr.get_set], by simp [Tr.get_set], by simp [Tr.get_set], rfl⟩
  rintro k fr m ⟨i, rfl, hil, hfn, h0, h1, h10, h11, h12, hgo⟩
  apply EvX.seq
  apply EvX.reg0
  · intro call
    simp only [QRun, stepA, wantedA, opA, pureA, loadA, effA, binA, bin, evalA, ofV, ofCell, Fr.put, enterA_n, enterA_t, setArgs, List.length_cons, List.length_nil, Tr.get_set, Nat.zero_testBit, cond_false, true_and, Nat.reduceAdd, Nat.reduceSub, ble_dec, beq_dec, Nat.reduceLeDiff, decide_true, decide_false, cond_true, Nat.reduceEqDiff, if_true, if_false, reduceIte, operands, Option.map_some, Option.map_none, CP_P, hfn, h11, h12]
    exact ⟨rfl, rfl⟩
  simp only [Ex.thn]
  apply EvX.seq
  apply EvX.cond2
  · simp only [evalA, Tr.get_set, Nat.reduceEqDiff, if_true, if_false, reduceIte]; exact rfl
  rotate_left
  · intro hge
    have hge := of_decide_eq_false hge
    have hi : i = l.length := by omega
    subst hi
    apply EvX.exit
    simp only [Ex.thn, Ex.blk, beq_dec, decide_true, cond_true]
    apply EvX.seq
    apply EvX.reg0
    · intro call
      simp only [QRun, stepA, wantedA, opA, pureA, loadA, effA, binA, bin, evalA, ofV, ofCell, Fr.put, enterA_n, enterA_t, setArgs, List.length_cons, List.length_nil, Tr.get_set, Nat.zero_testBit, cond_false, true_and, Nat.reduceAdd, Nat.reduceSub, ble_dec, beq_dec, Nat.reduceLeDiff, decide_true, decide_false, cond_true, Nat.reduceEqDiff, if_true, if_false, reduceIte, operands, Option.map_some, Option.map_none, CP_P, hfn]
      exact ⟨rfl, rfl⟩
    simp only [Ex.thn]
    apply EvX.ret
    exact Fin.one rfl (by rw [List.drop_length] at hgo; simp [Tr.get_set, ← hgo, goPairs])
  intro hlt
  have hlt := of_decide_eq_true hlt
  have hlt : i < l.length := by omega
  have hlt' : i + 1 ≤ l.length := hlt
  have hmul : i * 2 ≤ l.length * 2 := by omega
  rw [goPairs_drop hlt] at hgo
  generalize hp : l[i] = p at hgo
  have htk := takePair hlt
  rw [hp] at htk
  apply EvX.skip
  simp only [Ex.thn]
  apply EvX.seq
  apply EvX.block
  apply EvX.seq
  apply EvX.reg0
  · intro call
    simp only [QRun, stepA, wantedA, opA, pureA, loadA, effA, binA, bin, evalA, ofV, ofCell, Fr.put, enterA_n, enterA_t, setArgs, List.length_cons, List.length_nil, Tr.get_set, Nat.zero_testBit, cond_false, true_and, Nat.reduceAdd, Nat.reduceSub, ble_dec, beq_dec, Nat.reduceLeDiff, decide_true, decide_false, cond_true, Nat.reduceEqDiff, if_true, if_false, reduceIte, operands, Option.map_some, Option.map_none, CP_P, hfn, h10, h12, natOf?, natOf_cast, hlt', hmul, encPairs_length, htk, Mem.fresh, Mem.load, Mem.live, Win.read, Win.cell, setCells, Mem.empty, Mem.store, List.length_cons, List.length_nil, AV.cells, allCells, AV.isCell, takeN, Nat.zero_le, Nat.le_refl, Nat.zero_add, Nat.add_zero, Bool.not_false, Tr.get_nil, List.getElem?_toArray, List.getElem?_cons_zero, List.getElem?_cons_succ, beq_self_eq_true, Bool.and_true, Bool.true_and, Bool.and_self, eq_self, show (true == false) = false from rfl, show (false == true) = false from rfl, show (false == false) = true from rfl, Tryz.underlying70, Tryz.underlying28, sz_3, sz_70, ag_3, ag_70, ze_70]
    exact ⟨rfl, rfl⟩
  simp only [Ex.thn]
  by_cases b1 : p.1 < 0
  · have d1 := decide_eq_true b1
    have hbad : badP f p := .inl b1
    apply EvX.seq
    apply EvX.seq
    apply EvX.reg0
    · intro call
      simp only [QRun, stepA, wantedA, opA, pureA, loadA, effA, binA, bin, evalA, ofV, ofCell, Fr.put, enterA_n, enterA_t, setArgs, List.length_cons, List.length_nil, Tr.get_set, Nat.zero_testBit, cond_false, true_and, Nat.reduceAdd, Nat.reduceSub, ble_dec, beq_dec, Nat.reduceLeDiff, decide_true, decide_false, cond_true, Nat.reduceEqDiff, if_true, if_false, reduceIte, operands, Option.map_some, Option.map_none, CP_P, hfn, h1, d1, Mem.fresh, Mem.load, Mem.live, Win.read, Win.cell, setCells, Mem.empty, Mem.store, List.length_cons, List.length_nil, AV.cells, allCells, AV.isCell, takeN, Nat.zero_le, Nat.le_refl, Nat.zero_add, Nat.add_zero, Bool.not_false, Tr.get_nil, List.getElem?_toArray, List.getElem?_cons_zero, List.getElem?_cons_succ, beq_self_eq_true, Bool.and_true, Bool.true_and, Bool.and_self, eq_self, show (true == false) = false from rfl, show (false == true) = false from rfl, show (false == false) = true from rfl, Tryz.underlying70, Tryz.underlying28, sz_3, sz_70, ag_3, ag_70, ze_70]
      exact ⟨rfl, rfl⟩
    simp only [Ex.thn]
    apply EvX.cond2 (t := true)
    · simp only [evalA, Tr.get_set, Nat.reduceEqDiff, if_true, if_false, reduceIte]
    · intro _
      apply EvX.seq
      apply EvX.reg0
      · intro call
        simp only [QRun, stepA, wantedA, opA, pureA, loadA, effA, binA, bin, evalA, ofV, ofCell, Fr.put, enterA_n, enterA_t, setArgs, List.length_cons, List.length_nil, Tr.get_set, Nat.zero_testBit, cond_false, true_and, Nat.reduceAdd, Nat.reduceSub, ble_dec, beq_dec, Nat.reduceLeDiff, decide_true, decide_false, cond_true, Nat.reduceEqDiff, if_true, if_false, reduceIte, operands, Option.map_some, Option.map_none, CP_P, hfn]
        exact ⟨rfl, rfl⟩
      simp only [Ex.thn]
      apply EvX.ret
      simp only [Ex.thn, Ex.blk]
      exact Fin.one rfl (by rw [← hgo, if_pos hbad]; simp [Tr.get_set])
    · intro h; cases h
  have d1 := decide_eq_false b1
  by_cases b2 : p.1 ≥ f
  · have d2 := decide_eq_true b2
    have hbad : badP f p := .inr (.inl b2)
    apply EvX.seq
    apply EvX.seq
    apply EvX.reg0
    · intro call
      simp only [QRun, stepA, wantedA, opA, pureA, loadA, effA, binA, bin, evalA, ofV, ofCell, Fr.put, enterA_n, enterA_t, setArgs, List.length_cons, List.length_nil, Tr.get_set, Nat.zero_testBit, cond_false, true_and, Nat.reduceAdd, Nat.reduceSub, ble_dec, beq_dec, Nat.reduceLeDiff, decide_true, decide_false, cond_true, Nat.reduceEqDiff, if_true, if_false, reduceIte, operands, Option.map_some, Option.map_none, CP_P, hfn, h1, d1, d2, Mem.fresh, Mem.load, Mem.live, Win.read, Win.cell, setCells, Mem.empty, Mem.store, List.length_cons, List.length_nil, AV.cells, allCells, AV.isCell, takeN, Nat.zero_le, Nat.le_refl, Nat.zero_add, Nat.add_zero, Bool.not_false, Tr.get_nil, List.getElem?_toArray, List.getElem?_cons_zero, List.getElem?_cons_succ, beq_self_eq_true, Bool.and_true, Bool.true_and, Bool.and_self, eq_self, show (true == false) = false from rfl, show (false == true) = false from rfl, show (false == false) = true from rfl, Tryz.underlying70, Tryz.underlying28, sz_3, sz_70, ag_3, ag_70, ze_70]
      exact ⟨rfl, rfl⟩
    simp only [Ex.thn]
    apply EvX.cond2 (t := true)
    · simp only [evalA, Tr.get_set, Nat.reduceEqDiff, if_true, if_false, reduceIte]
    · intro _
      apply EvX.seq
      apply EvX.reg0
      · intro call
        simp only [QRun, stepA, wantedA, opA, pureA, loadA, effA, binA, bin, evalA, ofV, ofCell, Fr.put, enterA_n, enterA_t, setArgs, List.length_cons, List.length_nil, Tr.get_set, Nat.zero_testBit, cond_false, true_and, Nat.reduceAdd, Nat.reduceSub, ble_dec, beq_dec, Nat.reduceLeDiff, decide_true, decide_false, cond_true, Nat.reduceEqDiff, if_true, if_false, reduceIte, operands, Option.map_some, Option.map_none, CP_P, hfn]
        exact ⟨rfl, rfl⟩
      simp only [Ex.thn]
      apply EvX.ret
      simp only [Ex.thn, Ex.blk]
      exact Fin.one rfl (by rw [← hgo, if_pos hbad]; simp [Tr.get_set])
    · intro h; cases h
  have d2 := decide_eq_false b2
  by_cases b3 : p.2 < 0
  · have d3 := decide_eq_true b3
    have hbad : badP f p := .inr (.inr (.inl b3))
    apply EvX.seq
    apply EvX.seq
    apply EvX.reg0
    · intro call
      simp only [QRun, stepA, wantedA, opA, pureA, loadA, effA, binA, bin, evalA, ofV, ofCell, Fr.put, enterA_n, enterA_t, setArgs, List.length_cons, List.length_nil, Tr.get_set, Nat.zero_testBit, cond_false, true_and, Nat.reduceAdd, Nat.reduceSub, ble_dec, beq_dec, Nat.reduceLeDiff, decide_true, decide_false, cond_true, Nat.reduceEqDiff, if_true, if_false, reduceIte, operands, Option.map_some, Option.map_none, CP_P, hfn, h1, d1, d2, d3, Mem.fresh, Mem.load, Mem.live, Win.read, Win.cell, setCells, Mem.empty, Mem.store, List.length_cons, List.length_nil, AV.cells, allCells, AV.isCell, takeN, Nat.zero_le, Nat.le_refl, Nat.zero_add, Nat.add_zero, Bool.not_false, Tr.get_nil, List.getElem?_toArray, List.getElem?_cons_zero, List.getElem?_cons_succ, beq_self_eq_true, Bool.and_true, Bool.true_and, Bool.and_self, eq_self, show (true == false) = false from rfl, show (false == true) = false from rfl, show (false == false) = true from rfl, Tryz.underlying70, Tryz.underlying28, sz_3, sz_70, ag_3, ag_70, ze_70]
      exact ⟨rfl, rfl⟩
    simp only [Ex.thn]
    apply EvX.cond2 (t := true)
    · simp only [evalA, Tr.get_set, Nat.reduceEqDiff, if_true, if_false, reduceIte]
    · intro _
      apply EvX.seq
      apply EvX.reg0
      · intro call
        simp only [QRun, stepA, wantedA, opA, pureA, loadA, effA, binA, bin, evalA, ofV, ofCell, Fr.put, enterA_n, enterA_t, setArgs, List.length_cons, List.length_nil, Tr.get_set, Nat.zero_testBit, cond_false, true_and, Nat.reduceAdd, Nat.reduceSub, ble_dec, beq_dec, Nat.reduceLeDiff, decide_true, decide_false, cond_true, Nat.reduceEqDiff, if_true, if_false, reduceIte, operands, Option.map_some, Option.map_none, CP_P, hfn]
        exact ⟨rfl, rfl⟩
      simp only [Ex.thn]
      apply EvX.ret
      simp only [Ex.thn, Ex.blk]
      exact Fin.one rfl (by rw [← hgo, if_pos hbad]; simp [Tr.get_set])
    · intro h; cases h
  have d3 := decide_eq_false b3
  by_cases b4 : p.2 ≥ f
  · have d4 := decide_eq_true b4
    have hbad : badP f p := .inr (.inr (.inr b4))
    apply EvX.seq
    apply EvX.seq
    apply EvX.reg0
    · intro call
      simp only [QRun, stepA, wantedA, opA, pureA, loadA, effA, binA, bin, evalA, ofV, ofCell, Fr.put, enterA_n, enterA_t, setArgs, List.length_cons, List.length_nil, Tr.get_set, Nat.zero_testBit, cond_false, true_and, Nat.reduceAdd, Nat.reduceSub, ble_dec, beq_dec, Nat.reduceLeDiff, decide_true, decide_false, cond_true, Nat.reduceEqDiff, if_true, if_false, reduceIte, operands, Option.map_some, Option.map_none, CP_P, hfn, h1, d1, d2, d3, d4, Mem.fresh, Mem.load, Mem.live, Win.read, Win.cell, setCells, Mem.empty, Mem.store, List.length_cons, List.length_nil, AV.cells, allCells, AV.isCell, takeN, Nat.zero_le, Nat.le_refl, Nat.zero_add, Nat.add_zero, Bool.not_false, Tr.get_nil, List.getElem?_toArray, List.getElem?_cons_zero, List.getElem?_cons_succ, beq_self_eq_true, Bool.and_true, Bool.true_and, Bool.and_self, eq_self, show (true == false) = false from rfl, show (false == true) = false from rfl, show (false == false) = true from rfl, Tryz.underlying70, Tryz.underlying28, sz_3, sz_70, ag_3, ag_70, ze_70]
      exact ⟨rfl, rfl⟩
    simp only [Ex.thn]
    apply EvX.cond2 (t := true)
    · simp only [evalA, Tr.get_set, Nat.reduceEqDiff, if_true, if_false, reduceIte]
    · intro _
      apply EvX.seq
      apply EvX.reg0
      · intro call
        simp only [QRun, stepA, wantedA, opA, pureA, loadA, effA, binA, bin, evalA, ofV, ofCell, Fr.put, enterA_n, enterA_t, setArgs, List.length_cons, List.length_nil, Tr.get_set, Nat.zero_testBit, cond_false, true_and, Nat.reduceAdd, Nat.reduceSub, ble_dec, beq_dec, Nat.reduceLeDiff, decide_true, decide_false, cond_true, Nat.reduceEqDiff, if_true, if_false, reduceIte, operands, Option.map_some, Option.map_none, CP_P, hfn]
        exact ⟨rfl, rfl⟩
      simp only [Ex.thn]
      apply EvX.ret
      simp only [Ex.thn, Ex.blk]
      exact Fin.one rfl (by rw [← hgo, if_pos hbad]; simp [Tr.get_set])
    · intro h; cases h
  have d4 := decide_eq_false b4
  have hok : ¬ badP f p := fun h => by rcases h with h | h | h | h <;> contradiction
  rw [if_neg hok] at hgo
  apply EvX.seq
  apply EvX.seq
  apply EvX.reg0
  · intro call
    simp only [QRun, stepA, wantedA, opA, pureA, loadA, effA, binA, bin, evalA, ofV, ofCell, Fr.put, enterA_n, enterA_t, setArgs, List.length_cons, List.length_nil, Tr.get_set, Nat.zero_testBit, cond_false, true_and, Nat.reduceAdd, Nat.reduceSub, ble_dec, beq_dec, Nat.reduceLeDiff, decide_true, decide_false, cond_true, Nat.reduceEqDiff, if_true, if_false, reduceIte, operands, Option.map_some, Option.map_none, CP_P, hfn, h1, d1, d2, d3, d4, Mem.fresh, Mem.load, Mem.live, Win.read, Win.cell, setCells, Mem.empty, Mem.store, List.length_cons, List.length_nil, AV.cells, allCells, AV.isCell, takeN, Nat.zero_le, Nat.le_refl, Nat.zero_add, Nat.add_zero, Bool.not_false, Tr.get_nil, List.getElem?_toArray, List.getElem?_cons_zero, List.getElem?_cons_succ, beq_self_eq_true, Bool.and_true, Bool.true_and, Bool.and_self, eq_self, show (true == false) = false from rfl, show (false == true) = false from rfl, show (false == false) = true from rfl, Tryz.underlying70, Tryz.underlying28, sz_3, sz_70, ag_3, ag_70, ze_70]
    exact ⟨rfl, rfl⟩
  simp only [Ex.thn]
  apply EvX.cond2 (t := false)
  · simp only [evalA, Tr.get_set, Nat.reduceEqDiff, if_true, if_false, reduceIte]
  · intro h; cases h
  intro _
  apply EvX.skip
  simp only [Ex.thn]
  rcases i with _ | j
  · have d5 : decide (((0 : Nat) : Int) > 0) = false := rfl
    rw [if_neg (show ¬ notUp (prevOf l 0) p from fun h => h)] at hgo
    apply EvX.seq
    apply EvX.drw 512 0
    · kernel_rfl
    · intro k _
      simp only [QRun, stepA, wantedA, opA, pureA, loadA, effA, binA, bin, evalA, ofV, ofCell, Fr.put, enterA_n, enterA_t, setArgs, List.length_cons, List.length_nil, Tr.get_set, Nat.zero_testBit, cond_false, true_and, Nat.reduceAdd, Nat.reduceSub, ble_dec, beq_dec, Nat.reduceLeDiff, decide_true, decide_false, cond_true, Nat.reduceEqDiff, if_true, if_false, reduceIte, operands, Option.map_some, Option.map_none, CP_P, Mem.fresh, Mem.load, Mem.live, Win.read, Win.cell, setCells, Mem.empty, Mem.store, List.length_cons, List.length_nil, AV.cells, allCells, AV.isCell, takeN, Nat.zero_le, Nat.le_refl, Nat.zero_add, Nat.add_zero, Bool.not_false, Tr.get_nil, List.getElem?_toArray, List.getElem?_cons_zero, List.getElem?_cons_succ, beq_self_eq_true, Bool.and_true, Bool.true_and, Bool.and_self, eq_self, show (true == false) = false from rfl, show (false == true) = false from rfl, show (false == false) = true from rfl, Tryz.underlying70, Tryz.underlying28, sz_3, sz_70, ag_3, ag_70, ze_70, show Nat.testBit 512 0 = false from rfl, show Nat.testBit 512 1 = false from rfl, show Nat.testBit 512 2 = false from rfl, show Nat.testBit 512 3 = false from rfl, show Nat.testBit 512 4 = false from rfl, show Nat.testBit 512 5 = false from rfl, show Nat.testBit 512 6 = false from rfl, show Nat.testBit 512 7 = false from rfl, show Nat.testBit 512 8 = false from rfl, show Nat.testBit 512 9 = true from rfl, show Nat.testBit 512 10 = false from rfl, show Nat.testBit 512 11 = false from rfl, hfn, h0, d5]
      exact ⟨rfl, rfl⟩
    simp only [Ex.thn]
    apply EvX.cond2 (t := false)
    · simp only [evalA, Tr.get_set, Nat.reduceEqDiff, if_true, if_false, reduceIte]
    · intro h; cases h
    intro _
    apply EvX.skip
    simp only [Ex.thn, Ex.blk]
    apply EvX.reg0
    · intro call
      simp only [QRun, stepA, wantedA, opA, pureA, loadA, effA, binA, bin, evalA, ofV, ofCell, Fr.put, enterA_n, enterA_t, setArgs, List.length_cons, List.length_nil, Tr.get_set, Nat.zero_testBit, cond_false, true_and, Nat.reduceAdd, Nat.reduceSub, ble_dec, beq_dec, Nat.reduceLeDiff, decide_true, decide_false, cond_true, Nat.reduceEqDiff, if_true, if_false, reduceIte, operands, Option.map_some, Option.map_none, CP_P, hfn, h12, wrap_succ (show 0 + 1 ≤ 9223372036854775807 by omega)]
      exact ⟨rfl, rfl⟩
    simp only [Ex.thn]
    refine ⟨l.length - (0 + 1), by omega, 0 + 1, rfl, hlt', trivial, ?_, ?_, ?_, ?_, ?_, ?_⟩
    · simp [Tr.get_set, h0]
    · simp [Tr.get_set, h1]
    · simp [Tr.get_set, h10]
    · simp [Tr.get_set, h11]
    · simp [Tr.get_set]
    · exact hgo
  · have d5 : decide (((j + 1 : Nat) : Int) > 0) = true := decide_eq_true (by omega)
    have hj : j < l.length := by omega
    have hj' : j + 1 ≤ l.length := hj
    have hmul' : j * 2 ≤ l.length * 2 := by omega
    have htq := takePair hj
    have hprev : prevOf l (j + 1) = some l[j] := List.getElem?_eq_getElem hj
    rw [hprev] at hgo
    generalize hq : l[j] = q at htq hgo
    apply EvX.seq
    apply EvX.drw 512 0
    · kernel_rfl
    · intro k _
      simp only [QRun, stepA, wantedA, opA, pureA, loadA, effA, binA, bin, evalA, ofV, ofCell, Fr.put, enterA_n, enterA_t, setArgs, List.length_cons, List.length_nil, Tr.get_set, Nat.zero_testBit, cond_false, true_and, Nat.reduceAdd, Nat.reduceSub, ble_dec, beq_dec, Nat.reduceLeDiff, decide_true, decide_false, cond_true, Nat.reduceEqDiff, if_true, if_false, reduceIte, operands, Option.map_some, Option.map_none, CP_P, Mem.fresh, Mem.load, Mem.live, Win.read, Win.cell, setCells, Mem.empty, Mem.store, List.length_cons, List.length_nil, AV.cells, allCells, AV.isCell, takeN, Nat.zero_le, Nat.le_refl, Nat.zero_add, Nat.add_zero, Bool.not_false, Tr.get_nil, List.getElem?_toArray, List.getElem?_cons_zero, List.getElem?_cons_succ, beq_self_eq_true, Bool.and_true, Bool.true_and, Bool.and_self, eq_self, show (true == false) = false from rfl, show (false == true) = false from rfl, show (false == false) = true from rfl, Tryz.underlying70, Tryz.underlying28, sz_3, sz_70, ag_3, ag_70, ze_70, show Nat.testBit 512 0 = false from rfl, show Nat.testBit 512 1 = false from rfl, show Nat.testBit 512 2 = false from rfl, show Nat.testBit 512 3 = false from rfl, show Nat.testBit 512 4 = false from rfl, show Nat.testBit 512 5 = false from rfl, show Nat.testBit 512 6 = false from rfl, show Nat.testBit 512 7 = false from rfl, show Nat.testBit 512 8 = false from rfl, show Nat.testBit 512 9 = true from rfl, show Nat.testBit 512 10 = false from rfl, show Nat.testBit 512 11 = false from rfl, hfn, h0, d5, wrap_pred (show j + 1 ≤ 9223372036854775807 by omega), natOf?, natOf_cast, hj', hmul', encPairs_length, htq, cl_60, c60]
      exact ⟨rfl, rfl⟩
    simp only [Ex.thn]
    apply EvX.cond2
    · simp only [evalA, Tr.get_set, Nat.reduceEqDiff, if_true, if_false, reduceIte]; exact rfl
    · intro hu
      have hu : notUp (some q) p := of_decide_eq_true hu
      apply EvX.seq
      apply EvX.reg0
      · intro call
        simp only [QRun, stepA, wantedA, opA, pureA, loadA, effA, binA, bin, evalA, ofV, ofCell, Fr.put, enterA_n, enterA_t, setArgs, List.length_cons, List.length_nil, Tr.get_set, Nat.zero_testBit, cond_false, true_and, Nat.reduceAdd, Nat.reduceSub, ble_dec, beq_dec, Nat.reduceLeDiff, decide_true, decide_false, cond_true, Nat.reduceEqDiff, if_true, if_false, reduceIte, operands, Option.map_some, Option.map_none, CP_P, hfn]
        exact ⟨rfl, rfl⟩
      simp only [Ex.thn]
      apply EvX.ret
      simp only [Ex.thn, Ex.blk]
      exact Fin.one rfl (by rw [← hgo, if_pos hu]; simp [Tr.get_set])
    intro hu
    have hu : ¬ notUp (some q) p := of_decide_eq_false hu
    rw [if_neg hu] at hgo
    apply EvX.skip
    simp only [Ex.thn, Ex.blk]
    apply EvX.reg0
    · intro call
      simp only [QRun, stepA, wantedA, opA, pureA, loadA, effA, binA, bin, evalA, ofV, ofCell, Fr.put, enterA_n, enterA_t, setArgs, List.length_cons, List.length_nil, Tr.get_set, Nat.zero_testBit, cond_false, true_and, Nat.reduceAdd, Nat.reduceSub, ble_dec, beq_dec, Nat.reduceLeDiff, decide_true, decide_false, cond_true, Nat.reduceEqDiff, if_true, if_false, reduceIte, operands, Option.map_some, Option.map_none, CP_P, hfn, h12, wrap_succ (show j + 1 + 1 ≤ 9223372036854775807 by omega)]
      exact ⟨rfl, rfl⟩
    simp only [Ex.thn]
    refine ⟨l.length - ((j + 1) + 1), by omega, (j + 1) + 1, rfl, hlt', trivial, ?_, ?_, ?_, ?_, ?_, ?_⟩
    · simp [Tr.get_set, h0]
    · simp [Tr.get_set, h1]
    · simp [Tr.get_set, h10]
    · simp [Tr.get_set, h11]
    · simp [Tr.get_set]
    · exact hgo
end Go.Vz
