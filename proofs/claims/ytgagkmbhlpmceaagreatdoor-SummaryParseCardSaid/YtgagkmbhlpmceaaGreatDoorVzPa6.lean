/-
  line, run.
-/
import Derived.Test.YtgagkmbhlpmceaaGreatDoorVzPa5
set_option linter.unusedVariables false
set_option linter.unusedSimpArgs false
namespace Go.Vz
open Go Go.Proofs
set_option maxHeartbeats 4000000
set_option maxRecDepth 20000
/-- a list of summaries behind a line: the error, the list -/
def linePush (l : List Sm) (w : List Nat) (a b : Int) : Int × List Sm :=
  match l.getLast? with
  | none => (2, [])
  | some s => if w = wThrow then (grownE (l.dropLast ++ [{ s with th := s.th ++ [(a, b)] }]), l.dropLast ++ [{ s with th := s.th ++ [(a, b)] }])
    else if s.th ≠ [] then (13, [])
    else (grownE (l.dropLast ++ [{ s with ex := s.ex ++ [(a, b)] }]), l.dropLast ++ [{ s with ex := s.ex ++ [(a, b)] }])
def lineP (l : List Sm) (s : List Nat) : Int × List Sm :=
  match splitN 32 s with
  | [] => (2, [])
  | w :: ws => match numsP ws with
    | none => (2, [])
    | some n => if w = wFunc ∧ n.length = 1 then (grownE (l ++ [⟨n.headD 0, [], []⟩]), l ++ [⟨n.headD 0, [], []⟩])
      else if w ≠ wExit ∧ w ≠ wThrow then (2, [])
      else match n with
        | [a, b] => linePush l w a b
        | _ => (2, [])
def LinePost (r : Int × List Sm) (m' : Mem) (x : AV) : Prop := WFm m' ∧ ((r.1 = 0 ∧ ∃ y' cs', x = .tup [y', .niliface] ∧ SumC m' y' r.2 cs') ∨ (r.1 ≠ 0 ∧ ∃ q, x = .tup [.nilsl, .iface 89 (.ptr q 0)] ∧ WinC m' q 1 [.int .i64 r.1] q 93))
theorem GrownPost.line {y : AV} {l : List Sm} {m m' : Mem} {x : AV} {cs : List Nat} (h : GrownPost y l m m' x) (hs : SumC m y l cs) : LinePost (grownE l, l) m' x := by
  obtain ⟨w, k, h⟩ := h
  refine ⟨w, h.imp (fun ⟨e, h⟩ => ⟨e, y, cs, h, hs.frame k (fun c _ hc => by cases hc)⟩) (fun ⟨e, q, h1, h2⟩ => ⟨e, q, h1, h2⟩)⟩
theorem GrownPost.tup {y : AV} {l : List Sm} {m m' : Mem} {x : AV} (h : GrownPost y l m m' x) : ∃ a b, x = .tup [a, b] := by
  obtain ⟨_, _, h | ⟨_, q, h, _⟩⟩ := h
  · exact ⟨_, _, h.2⟩
  · exact ⟨_, _, h⟩
theorem layWin_row {m : Mem} (w : WFm m) {xs : List AV} {n sz h : Nat} (hn : 0 < n) (hl : xs.length = n * sz) :
    WFm (layWin m.nxt n sz (xs, m.newCls h)).2 ∧ KeepB m.nxt m (layWin m.nxt n sz (xs, m.newCls h)).2 ∧ OwnS m.nxt (layWin m.nxt n sz (xs, m.newCls h)).2.nxt (layWin m.nxt n sz (xs, m.newCls h)).2 (layWin m.nxt n sz (xs, m.newCls h)).1 sz n xs := by
  refine ⟨⟨fun v hv => ?_, fun v hv => ?_⟩, ⟨by show m.nxt ≤ m.nxt + 1 + 1; omega, fun v hv => ?_, fun v hv => ?_⟩, .inr ⟨hn, hl, m.nxt + 1, ⟨setCells .nil 0 xs, 0, xs.length, m.nxt, none⟩, ⟨h, none, 0, false⟩, rfl, ⟨⟨Nat.le_succ _, Nat.le_refl _⟩, ⟨Nat.lt_succ_self _, by show m.nxt < m.nxt + 1 + 1; omega⟩, Tr.get_set_same _ _ _, Tr.get_set_same _ _ _, .inl rfl, rfl, rfl, hl, read_all (by omega) hl.symm⟩⟩⟩
  · have hv' : m.nxt + 1 + 1 ≤ v := hv
    show (m.obs.set (m.nxt + 1) _).get v = none
    rw [Tr.get_set_ne _ _ (by omega)]; exact w.obs v (by omega)
  · have hv' : m.nxt + 1 + 1 ≤ v := hv
    show (m.cls.set m.nxt _).get v = none
    rw [Tr.get_set_ne _ _ (by omega)]; exact w.cls v (by omega)
  · show (m.obs.set (m.nxt + 1) _).get v = _
    rw [Tr.get_set_ne _ _ (by omega)]
  · show (m.cls.set m.nxt _).get v = _
    rw [Tr.get_set_ne _ _ (by omega)]
theorem adopt_tupRow {m : Mem} {x : AV} {xs : List AV} {n sz : Nat} (hp : plainAs (x :: xs) = true) : adoptA (.tup [.ro (x :: xs) n sz, .bool true]) m =
    (.tup [(layWin m.nxt n sz (x :: xs, m.newCls (hiA (.tup [.ro (x :: xs) n sz, .bool true])))).1, .bool true], (layWin m.nxt n sz (x :: xs, m.newCls (hiA (.tup [.ro (x :: xs) n sz, .bool true])))).2) := by
  have e0 : plainA (.tup [.ro (x :: xs) n sz, .bool true]) = false := rfl
  have e1 := layAs_plain m.nxt (x :: xs) (m.newCls (hiA (.tup [.ro (x :: xs) n sz, .bool true]))) hp
  simp only [layAs] at e1
  simp only [adoptA, e0, cond_false, layA, layAs, e1]
theorem adopt_nums {m : Mem} (w : WFm m) (l : List Int) : ∃ xn m', adoptA (.tup [slI l, .bool true]) m = (.tup [xn, .bool true], m') ∧ WFm m' ∧ KeepB m.nxt m m' ∧ OwnS m.nxt m'.nxt m' xn 1 l.length (encInts l) := by
  cases l with
  | nil => exact ⟨.nilsl, m, rfl, w, KeepB.refl _ _, .inl ⟨rfl, rfl, rfl⟩⟩
  | cons a l =>
    have e1 : slI (a :: l) = .ro (.int .i64 a :: encInts l) (l.length + 1) 1 := by unfold slI; rw [if_neg (by simp)]; rfl
    have e3 := adopt_tupRow (m := m) (x := .int .i64 a) (xs := encInts l) (n := l.length + 1) (sz := 1) (encInts_plain (a :: l))
    rw [← e1] at e3
    obtain ⟨h1, h2, h3⟩ := layWin_row (h := hiA (.tup [slI (a :: l), .bool true])) w (xs := encInts (a :: l)) (n := l.length + 1) (sz := 1) (by omega) (by rw [encInts_length, Nat.mul_one]; rfl)
    exact ⟨_, _, e3, h1, h2, h3⟩
theorem splitN_wlen (c : Nat) : ∀ s : List Nat, ∀ w ∈ splitN c s, w.length ≤ s.length
  | [], w, h => by simp [splitN] at h; subst h; simp
  | x :: s, w, h => by
    have ih := splitN_wlen c s
    unfold splitN at h
    split at h
    · rcases List.mem_cons.1 h with e | e
      · subst e; simp
      · have := ih w e; simp; omega
    · split at h
      · rename_i u us hs
        rw [hs] at ih
        rcases List.mem_cons.1 h with e | e
        · subst e; have := ih u (by simp); simp; omega
        · have := ih w (by simp [e]); simp; omega
      · rcases List.mem_cons.1 h with e | e
        · subst e; simp
        · cases e
theorem getLast_of : ∀ {l : List Sm}, l ≠ [] → ∃ l0 s, l = l0 ++ [s] ∧ l.getLast? = some s ∧ l.dropLast = l0
  | [], h => absurd rfl h
  | [s], _ => ⟨[], s, rfl, rfl, rfl⟩
  | a :: b :: l, _ => by
    obtain ⟨l0, s, h1, h2, h3⟩ := getLast_of (l := b :: l) (by simp)
    exact ⟨a :: l0, s, by rw [h1]; rfl, by rw [List.getLast?_cons_cons]; exact h2, by rw [← h3]; rfl⟩
theorem eqN_iff (a b : List Nat) : eqNats a b = decide (a = b) := by
  rw [Bool.eq_iff_iff, decide_eq_true_eq]
  refine ⟨eqNats_eq, fun h => ?_⟩
  subst h
  induction a with
  | nil => rfl
  | cons x a ih => simp [eqNats, ih]
theorem one1 : (((1 : Nat) : Int) == 1) = true := rfl
theorem nat_func0 : natOf { data := #[102, 117, 110, 99] } = wFunc := by decide
theorem lineRun {qs : List MPrim} {ps : List PFn} (h45 : (CT qs ps).isPrim 45 = false) (h78 : (CT qs ps).isPrim 78 = false) (h11 : findP ps 11 = some p11n) (h76 : findP ps 76 = some p76) (h77 : findP ps 77 = some p77) {m0 : Mem} {y : AV} {l : List Sm} {cs : List Nat} (w0 : WFm m0) (h : SumC m0 y l cs) {s : List Nat} (hs : s.length ≤ 100000) (hl : l.length ≤ 1000) (hok : ∀ x ∈ l, x.ex.length ≤ 100000 ∧ x.th.length ≤ 100000) :
    ∃ x m', LinePost (lineP l s) m' x ∧ EvC (CT qs ps) (drawA (CT qs ps)) 45 [y, .str s] m0 x m' := by
  refine EvC.runT (K := fun x m' => LinePost (lineP l s) m' x) h45 (by rw [CT_P]; exact Tryz.func45) rfl ?_
  obtain ⟨w, ws, hsp⟩ : ∃ w ws, splitN 32 s = w :: ws := by
    cases hh : splitN 32 s with
    | nil => exact absurd hh (splitN_ne 32 s)
    | cons w ws => exact ⟨w, ws, rfl⟩
  have hwl := splitN_wlen 32 s
  have hln := splitN_len 32 s
  rw [hsp] at hwl hln
  simp only [List.length_cons] at hln
  obtain ⟨xw, M1, e1, w1, k1, o1⟩ := adopt_strs w0 32 s
  have c76 := fun k => callT (qs := qs) (ps := ps) (p := p76) (f := 76) h76 (D := drawA (CT qs ps)) k m0 (args := [.str s, .str [32]]) (args' := [.str s, .str [32]]) rfl (specSplit_enc (by decide) (by omega))
  rw [e1] at c76
  rw [hsp] at o1
  obtain ⟨v, rfl, hld⟩ := o1.load (by simp)
  have ldw : M1.load (.ptr v 0) 1 = some [.str w] := hld 0 1 (by simp)
  have vw : viewA 8 M1 (.sl v 1 ws.length 1) = some (.ro (encStrs ws) ws.length 1) := by
    have := hld 1 (ws.length * 1) (by simp; omega)
    rw [show ((encStrs (w :: ws)).drop 1).take (ws.length * 1) = encStrs ws by simp only [encStrs, List.map_cons, List.drop_succ_cons, List.drop_zero]; exact List.take_of_length_le (by simp)] at this
    rw [viewA]
    simp only [this, encStrs_view, Option.map_some]
  have c77 := fun k => callT (qs := qs) (ps := ps) (p := p77) (f := 77) h77 (D := drawA (CT qs ps)) k M1 (args := [.sl v 1 ws.length 1]) (args' := [.ro (encStrs ws) ws.length 1]) (by simp only [mapO, vw]) (spec77_enc (by omega) (fun u hu => by have := hwl u (by simp [hu]); omega))
  have hsub : ws.length + 1 - 1 = ws.length := Nat.add_sub_cancel ..
  have hone : 1 ≤ ws.length + 1 := by omega
  have hs1 := h.frame (keep_frame w0 k1 []) (fun c _ hc => by cases hc)
  apply EvX.seq
  apply EvX.reg0
  · intro call
    simp only [QRun, stepA, wantedA, opA, pureA, loadA, effA, binA, bin, evalA, ofV, ofCell, Fr.put, setArgs, kS, Nat.zero_testBit, Nat.reduceAdd, Nat.reduceSub, Nat.reduceLeDiff, decide_true, decide_false, Nat.reduceEqDiff, if_true, if_false, reduceIte, operands, Tryz.ntmps45]
    exact ⟨rfl, rfl⟩
  simp only [Ex.thn]
  apply EvX.seq
  apply EvX.reg 0
  · intro k _
    simp only [QRun, stepA, wantedA, opA, pureA, loadA, effA, binA, bin, evalA, ofV, ofCell, Fr.put, setArgs, kS, Nat.zero_testBit, Nat.reduceAdd, Nat.reduceSub, Nat.reduceLeDiff, decide_true, decide_false, Nat.reduceEqDiff, if_true, if_false, reduceIte, operands, cl_76, c76, nat_sp, AV.cells, takeN, beq_self_eq_true, eq_self, kA1, kA2, kB, kC]
    exact ⟨rfl, rfl⟩
  simp only [Ex.thn]
  cases hn : numsP ws with
  | none =>
    have hv : lineP l s = (2, []) := by unfold lineP; rw [hsp]; simp only [hn]
    have hnv : numsV ws = .tup [.nilsl, .bool false] := by unfold numsV; rw [hn]
    have e2 : adoptA (numsV ws) M1 = (.tup [.nilsl, .bool false], M1) := by rw [hnv]; rfl
    rw [e2] at c77
    apply EvX.seq
    apply EvX.reg 0
    · intro k _
      simp only [QRun, stepA, wantedA, opA, pureA, loadA, effA, binA, bin, evalA, ofV, ofCell, Fr.put, setArgs, kS, Nat.zero_testBit, Nat.reduceAdd, Nat.reduceSub, Nat.reduceLeDiff, decide_true, decide_false, Nat.reduceEqDiff, if_true, if_false, reduceIte, operands, sliceA, bounds, natOf?, natOf_cast, natOf_0, natOf_1, List.length_cons, hsub, hone, Nat.zero_mul, Nat.mul_one, Nat.one_mul, Nat.zero_lt_succ, Nat.le_add_left, cl_77, c77, AV.cells, takeN, beq_self_eq_true, eq_self, kA1, kA2, kB, kC]
      exact ⟨rfl, rfl⟩
    simp only [Ex.thn]
    apply EvX.seq
    apply EvX.reg0
    · intro call
      simp only [QRun, stepA, wantedA, opA, pureA, loadA, effA, binA, bin, evalA, ofV, ofCell, Fr.put, setArgs, kS, Nat.zero_testBit, Nat.reduceAdd, Nat.reduceSub, Nat.reduceLeDiff, decide_true, decide_false, Nat.reduceEqDiff, if_true, if_false, reduceIte, operands, sliceA, bounds, natOf?, natOf_cast, natOf_0, natOf_1, List.length_cons, hsub, hone, Nat.zero_mul, Nat.mul_one, Nat.one_mul, Nat.zero_lt_succ, Nat.le_add_left, ldw, AV.cells, takeN, beq_self_eq_true, eq_self, kA1, kA2, kB, kC]
      exact ⟨rfl, rfl⟩
    simp only [Ex.thn]
    apply EvX.seq
    apply EvX.block
    apply EvX.seq
    apply EvX.reg0
    · intro call
      simp only [QRun, stepA, wantedA, opA, pureA, loadA, effA, binA, bin, evalA, ofV, ofCell, Fr.put, setArgs, kS, Nat.zero_testBit, Nat.reduceAdd, Nat.reduceSub, Nat.reduceLeDiff, decide_true, decide_false, Nat.reduceEqDiff, if_true, if_false, reduceIte, operands, unA, AV.cells, takeN, beq_self_eq_true, eq_self, kA1, kA2, kB, kC]
      exact ⟨rfl, rfl⟩
    simp only [Ex.thn]
    apply EvX.cond2 (t := true)
    · simp only [evalA, Tr.get_set, Nat.reduceEqDiff, if_true, if_false, reduceIte]
    rotate_left
    · intro h; cases h
    intro _
    apply EvX.seq
    apply EvX.reg0
    · intro call
      simp only [QRun, stepA, wantedA, opA, pureA, loadA, effA, binA, bin, evalA, ofV, ofCell, Fr.put, setArgs, kS, Nat.zero_testBit, Nat.reduceAdd, Nat.reduceSub, Nat.reduceLeDiff, decide_true, decide_false, Nat.reduceEqDiff, if_true, if_false, reduceIte, operands, partsA, fillA, putCells, allCells, AV.isCell, AV.cells, takeN, beq_self_eq_true, eq_self, kA1, kA2, kB, kC]
      exact ⟨rfl, rfl⟩
    simp only [Ex.thn]
    apply EvX.ret
    simp only [Ex.thn, Ex.blk]
    refine Fin.twoT (K := fun x m' => LinePost (lineP l s) m' x) (x := .nilsl) (y := .iface 89 (.ptr M1.nxt 0)) (t := 4) (u := 5) rfl (by simp only [Tr.get_set, if_true, if_false, reduceIte, Nat.reduceEqDiff]) (by simp only [Tr.get_set, if_true, if_false, reduceIte, Nat.reduceEqDiff]) ?_
    rw [hv]
    exact ⟨fresh_wf w1 _ _, .inr ⟨by decide, M1.nxt, rfl, fresh_winC M1 93 [.int .i64 2]⟩⟩
  | some n =>
    have hnv : numsV ws = .tup [slI n, .bool true] := by unfold numsV; rw [hn]
    obtain ⟨xn, M2, e2, w2, k2, o2⟩ := adopt_nums w1 n
    rw [hnv, e2] at c77
    have hs2 := hs1.frame (keep_frame w1 k2 []) (fun c _ hc => by cases hc)
    have ldw2 := w1.load k2 ldw
    have hlenN := o2.lenA (t := 31) sl_t31
    apply EvX.seq
    apply EvX.reg 0
    · intro k _
      simp only [QRun, stepA, wantedA, opA, pureA, loadA, effA, binA, bin, evalA, ofV, ofCell, Fr.put, setArgs, kS, Nat.zero_testBit, Nat.reduceAdd, Nat.reduceSub, Nat.reduceLeDiff, decide_true, decide_false, Nat.reduceEqDiff, if_true, if_false, reduceIte, operands, sliceA, bounds, natOf?, natOf_cast, natOf_0, natOf_1, List.length_cons, hsub, hone, Nat.zero_mul, Nat.mul_one, Nat.one_mul, Nat.zero_lt_succ, Nat.le_add_left, cl_77, c77, AV.cells, takeN, beq_self_eq_true, eq_self, kA1, kA2, kB, kC]
      exact ⟨rfl, rfl⟩
    simp only [Ex.thn]
    apply EvX.seq
    apply EvX.reg0
    · intro call
      simp only [QRun, stepA, wantedA, opA, pureA, loadA, effA, binA, bin, evalA, ofV, ofCell, Fr.put, setArgs, kS, Nat.zero_testBit, Nat.reduceAdd, Nat.reduceSub, Nat.reduceLeDiff, decide_true, decide_false, Nat.reduceEqDiff, if_true, if_false, reduceIte, operands, sliceA, bounds, natOf?, natOf_cast, natOf_0, natOf_1, List.length_cons, hsub, hone, Nat.zero_mul, Nat.mul_one, Nat.one_mul, Nat.zero_lt_succ, Nat.le_add_left, ldw2, AV.cells, takeN, beq_self_eq_true, eq_self, kA1, kA2, kB, kC]
      exact ⟨rfl, rfl⟩
    simp only [Ex.thn]
    apply EvX.seq
    apply EvX.block
    apply EvX.seq
    apply EvX.reg0
    · intro call
      simp only [QRun, stepA, wantedA, opA, pureA, loadA, effA, binA, bin, evalA, ofV, ofCell, Fr.put, setArgs, kS, Nat.zero_testBit, Nat.reduceAdd, Nat.reduceSub, Nat.reduceLeDiff, decide_true, decide_false, Nat.reduceEqDiff, if_true, if_false, reduceIte, operands, unA, AV.cells, takeN, beq_self_eq_true, eq_self, kA1, kA2, kB, kC]
      exact ⟨rfl, rfl⟩
    simp only [Ex.thn]
    apply EvX.cond2 (t := false)
    · simp only [evalA, Tr.get_set, Nat.reduceEqDiff, if_true, if_false, reduceIte]
    · intro h; cases h
    intro _
    apply EvX.seq
    by_cases b1 : w = wFunc
    · have hf : eqNats w wFunc = true := by rw [eqN_iff]; exact decide_eq_true b1
      by_cases b2 : n.length = 1
      · obtain ⟨a, rfl⟩ : ∃ a, n = [a] := by
          match n, b2 with
          | [a], _ => exact ⟨a, rfl⟩
        have hv : lineP l s = (grownE (l ++ [⟨a, [], []⟩]), l ++ [⟨a, [], []⟩]) := by unfold lineP; rw [hsp]; simp only [hn]; rw [if_pos ⟨b1, rfl⟩]; rfl
        obtain ⟨vn, rfl, hldn⟩ := o2.load (by simp)
        have ld0 : M2.load (.ptr vn 0) 1 = some [.int .i64 a] := hldn 0 1 (by simp)
        obtain ⟨y', M3, cs', a1, a2, w3, s3⟩ := hs2.push w2 a (by omega)
        have hok3 : okSums (l ++ [⟨a, [], []⟩]) := fun x hx => by
          rcases List.mem_append.1 hx with e | e
          · have := hok x e; omega
          · rw [List.mem_singleton] at e; subst e; simp
        obtain ⟨x, M4, hG, N, hN⟩ := grown h78 h11 w3 s3 (by simp) (by simp; omega) hok3
        obtain ⟨ra, rb, hx⟩ := hG.tup
        apply EvX.reg0
        · intro call
          simp only [QRun, stepA, wantedA, opA, pureA, loadA, effA, binA, bin, evalA, ofV, ofCell, Fr.put, setArgs, kS, Nat.zero_testBit, Nat.reduceAdd, Nat.reduceSub, Nat.reduceLeDiff, decide_true, decide_false, Nat.reduceEqDiff, if_true, if_false, reduceIte, operands, nat_func0, binS, hf, hlenN, one1, AV.cells, takeN, beq_self_eq_true, eq_self, kA1, kA2, kB, kC]
          exact ⟨rfl, rfl⟩
        simp only [Ex.thn]
        apply EvX.cond2 (t := true)
        · simp only [evalA, Tr.get_set, Nat.reduceEqDiff, if_true, if_false, reduceIte, one1]
        rotate_left
        · intro h; cases h
        intro _
        apply EvX.seq
        apply EvX.reg N
        · intro k hk
          have hN' := hN k hk
          rw [hx] at hN'
          simp only [QRun, stepA, wantedA, opA, pureA, loadA, effA, binA, bin, evalA, ofV, ofCell, Fr.put, setArgs, kS, Nat.zero_testBit, Nat.reduceAdd, Nat.reduceSub, Nat.reduceLeDiff, decide_true, decide_false, Nat.reduceEqDiff, if_true, if_false, reduceIte, operands, sliceA, bounds, natOf?, natOf_cast, natOf_0, natOf_1, List.length_cons, hsub, hone, Nat.zero_mul, Nat.mul_one, Nat.one_mul, Nat.zero_lt_succ, Nat.le_add_left, ld0, a1, a2, cl_78, hN', partsA, fillA, putCells, replicateA, List.append_nil, List.nil_append, List.cons_append, Nat.reduceMul, allCells, AV.isCell, AV.cells, takeN, beq_self_eq_true, eq_self, kA1, kA2, kB, kC]
          exact ⟨rfl, rfl⟩
        simp only [Ex.thn]
        apply EvX.ret
        simp only [Ex.thn, Ex.blk]
        refine Fin.twoT (K := fun x m' => LinePost (lineP l s) m' x) (x := ra) (y := rb) (t := 4) (u := 5) rfl (by simp only [Tr.get_set, if_true, if_false, reduceIte, Nat.reduceEqDiff]) (by simp only [Tr.get_set, if_true, if_false, reduceIte, Nat.reduceEqDiff]) ?_
        rw [hv, ← hx]
        exact hG.line s3
      · have d2 : ((n.length : Int) == 1) = false := by rw [beq_eq_false_iff_ne]; omega
        have hx1 : eqNats w wExit = false := by rw [b1]; rfl
        have hx2 : eqNats w wThrow = false := by rw [b1]; rfl
        have hlenY : lenA Tryz.prog 22 y = lenA Tryz.prog 22 y := rfl
        have hv : lineP l s = (2, []) := by
          unfold lineP; rw [hsp]; simp only [hn]
          rw [if_neg (fun h => b2 h.2), if_pos ⟨by rw [b1]; decide, by rw [b1]; decide⟩]
        apply EvX.reg0
        · intro call
          simp only [QRun, stepA, wantedA, opA, pureA, loadA, effA, binA, bin, evalA, ofV, ofCell, Fr.put, setArgs, kS, Nat.zero_testBit, Nat.reduceAdd, Nat.reduceSub, Nat.reduceLeDiff, decide_true, decide_false, Nat.reduceEqDiff, if_true, if_false, reduceIte, operands, nat_func0, binS, hf, hlenN, d2, AV.cells, takeN, beq_self_eq_true, eq_self, kA1, kA2, kB, kC]
          exact ⟨rfl, rfl⟩
        simp only [Ex.thn]
        apply EvX.cond2 (t := false)
        · simp only [evalA, Tr.get_set, Nat.reduceEqDiff, if_true, if_false, reduceIte]
        · intro h; cases h
        intro _
        apply EvX.seq
        apply EvX.reg0
        · intro call
          simp only [QRun, stepA, wantedA, opA, pureA, loadA, effA, binA, bin, evalA, ofV, ofCell, Fr.put, setArgs, kS, Nat.zero_testBit, Nat.reduceAdd, Nat.reduceSub, Nat.reduceLeDiff, decide_true, decide_false, Nat.reduceEqDiff, if_true, if_false, reduceIte, operands, nat_exit0, nat_throw0, binS, unA, hlenN, hx1, hx2, AV.cells, takeN, beq_self_eq_true, eq_self, kA1, kA2, kB, kC]
          exact ⟨rfl, rfl⟩
        simp only [Ex.thn]
        apply EvX.cond2 (t := true)
        · simp only [evalA, Tr.get_set, Nat.reduceEqDiff, if_true, if_false, reduceIte]
        rotate_left
        · intro h; cases h
        intro _
        apply EvX.seq
        apply EvX.reg0
        · intro call
          simp only [QRun, stepA, wantedA, opA, pureA, loadA, effA, binA, bin, evalA, ofV, ofCell, Fr.put, setArgs, kS, Nat.zero_testBit, Nat.reduceAdd, Nat.reduceSub, Nat.reduceLeDiff, decide_true, decide_false, Nat.reduceEqDiff, if_true, if_false, reduceIte, operands, partsA, fillA, putCells, allCells, AV.isCell, AV.cells, takeN, beq_self_eq_true, eq_self, kA1, kA2, kB, kC]
          exact ⟨rfl, rfl⟩
        simp only [Ex.thn]
        apply EvX.ret
        simp only [Ex.thn, Ex.blk]
        refine Fin.twoT (K := fun x m' => LinePost (lineP l s) m' x) (x := .nilsl) (y := .iface 89 (.ptr M2.nxt 0)) (t := 4) (u := 5) rfl (by simp only [Tr.get_set, if_true, if_false, reduceIte, Nat.reduceEqDiff]) (by simp only [Tr.get_set, if_true, if_false, reduceIte, Nat.reduceEqDiff]) ?_
        rw [hv]
        exact ⟨fresh_wf w2 _ _, .inr ⟨by decide, M2.nxt, rfl, fresh_winC M2 93 [.int .i64 2]⟩⟩
    have hf : eqNats w wFunc = false := by rw [eqN_iff]; exact decide_eq_false b1
    obtain ⟨ys, c0, cr, hcs, hsl, hrw, hnd⟩ := hs2
    have hlenY := hsl.ownS.lenA (t := 22) Tryz.underlying22
    replace hs2 : SumC M2 y l cs := ⟨ys, c0, cr, hcs, hsl, hrw, hnd⟩
    apply EvX.reg0
    · intro call
      simp only [QRun, stepA, wantedA, opA, pureA, loadA, effA, binA, bin, evalA, ofV, ofCell, Fr.put, setArgs, kS, Nat.zero_testBit, Nat.reduceAdd, Nat.reduceSub, Nat.reduceLeDiff, decide_true, decide_false, Nat.reduceEqDiff, if_true, if_false, reduceIte, operands, nat_func0, binS, hf, AV.cells, takeN, beq_self_eq_true, eq_self, kA1, kA2, kB, kC]
      exact ⟨rfl, rfl⟩
    simp only [Ex.thn]
    apply EvX.cond2 (t := false)
    · simp only [evalA, Tr.get_set, Nat.reduceEqDiff, if_true, if_false, reduceIte]
    · intro h; cases h
    intro _
    apply EvX.seq
    by_cases b3 : w ≠ wExit ∧ w ≠ wThrow
    · have hx1 : eqNats w wExit = false := by rw [eqN_iff]; exact decide_eq_false b3.1
      have hx2 : eqNats w wThrow = false := by rw [eqN_iff]; exact decide_eq_false b3.2
      have hv : lineP l s = (2, []) := by
        unfold lineP; rw [hsp]; simp only [hn]
        rw [if_neg (fun h => b1 h.1), if_pos b3]
      apply EvX.reg0
      · intro call
        simp only [QRun, stepA, wantedA, opA, pureA, loadA, effA, binA, bin, evalA, ofV, ofCell, Fr.put, setArgs, kS, Nat.zero_testBit, Nat.reduceAdd, Nat.reduceSub, Nat.reduceLeDiff, decide_true, decide_false, Nat.reduceEqDiff, if_true, if_false, reduceIte, operands, nat_exit0, nat_throw0, binS, unA, hlenN, hlenY, hx1, hx2, AV.cells, takeN, beq_self_eq_true, eq_self, kA1, kA2, kB, kC]
        exact ⟨rfl, rfl⟩
      simp only [Ex.thn]
      apply EvX.cond2 (t := true)
      · simp only [evalA, Tr.get_set, Nat.reduceEqDiff, if_true, if_false, reduceIte]
      rotate_left
      · intro h; cases h
      intro _
      apply EvX.seq
      apply EvX.reg0
      · intro call
        simp only [QRun, stepA, wantedA, opA, pureA, loadA, effA, binA, bin, evalA, ofV, ofCell, Fr.put, setArgs, kS, Nat.zero_testBit, Nat.reduceAdd, Nat.reduceSub, Nat.reduceLeDiff, decide_true, decide_false, Nat.reduceEqDiff, if_true, if_false, reduceIte, operands, partsA, fillA, putCells, allCells, AV.isCell, AV.cells, takeN, beq_self_eq_true, eq_self, kA1, kA2, kB, kC]
        exact ⟨rfl, rfl⟩
      simp only [Ex.thn]
      apply EvX.ret
      simp only [Ex.thn, Ex.blk]
      refine Fin.twoT (K := fun x m' => LinePost (lineP l s) m' x) (x := .nilsl) (y := .iface 89 (.ptr M2.nxt 0)) (t := 4) (u := 5) rfl (by simp only [Tr.get_set, if_true, if_false, reduceIte, Nat.reduceEqDiff]) (by simp only [Tr.get_set, if_true, if_false, reduceIte, Nat.reduceEqDiff]) ?_
      rw [hv]
      exact ⟨fresh_wf w2 _ _, .inr ⟨by decide, M2.nxt, rfl, fresh_winC M2 93 [.int .i64 2]⟩⟩
    have hw2 : (w = wExit ∧ eqNats w wExit = true) ∨ (w = wThrow ∧ eqNats w wExit = false ∧ eqNats w wThrow = true) := by
      by_cases c1 : w = wExit
      · exact .inl ⟨c1, by rw [eqN_iff]; exact decide_eq_true c1⟩
      · by_cases c2 : w = wThrow
        · exact .inr ⟨c2, by rw [eqN_iff]; exact decide_eq_false c1, by rw [eqN_iff]; exact decide_eq_true c2⟩
        · exact absurd ⟨c1, c2⟩ b3
    by_cases b4 : n.length = 2
    rotate_left
    · have d4 : ((n.length : Int) != 2) = true := by rw [bne_iff_ne]; omega
      have hv : lineP l s = (2, []) := by
        unfold lineP; rw [hsp]; simp only [hn]
        rw [if_neg (fun h => b1 h.1), if_neg b3]
        match n, b4 with
        | [], _ => rfl
        | [_], _ => rfl
        | [_, _], h => exact absurd rfl h
        | _ :: _ :: _ :: _, _ => rfl
      rcases hw2 with ⟨_, hx1⟩ | ⟨_, hx1, hx2⟩
      · apply EvX.reg0
        · intro call
          simp only [QRun, stepA, wantedA, opA, pureA, loadA, effA, binA, bin, evalA, ofV, ofCell, Fr.put, setArgs, kS, Nat.zero_testBit, Nat.reduceAdd, Nat.reduceSub, Nat.reduceLeDiff, decide_true, decide_false, Nat.reduceEqDiff, if_true, if_false, reduceIte, operands, nat_exit0, nat_throw0, binS, unA, hlenN, hlenY, hx1, d4, AV.cells, takeN, beq_self_eq_true, eq_self, kA1, kA2, kB, kC]
          exact ⟨rfl, rfl⟩
        simp only [Ex.thn]
        apply EvX.cond2 (t := true)
        · simp only [evalA, Tr.get_set, Nat.reduceEqDiff, if_true, if_false, reduceIte]
        rotate_left
        · intro h; cases h
        intro _
        apply EvX.seq
        apply EvX.reg0
        · intro call
          simp only [QRun, stepA, wantedA, opA, pureA, loadA, effA, binA, bin, evalA, ofV, ofCell, Fr.put, setArgs, kS, Nat.zero_testBit, Nat.reduceAdd, Nat.reduceSub, Nat.reduceLeDiff, decide_true, decide_false, Nat.reduceEqDiff, if_true, if_false, reduceIte, operands, partsA, fillA, putCells, allCells, AV.isCell, AV.cells, takeN, beq_self_eq_true, eq_self, kA1, kA2, kB, kC]
          exact ⟨rfl, rfl⟩
        simp only [Ex.thn]
        apply EvX.ret
        simp only [Ex.thn, Ex.blk]
        refine Fin.twoT (K := fun x m' => LinePost (lineP l s) m' x) (x := .nilsl) (y := .iface 89 (.ptr M2.nxt 0)) (t := 4) (u := 5) rfl (by simp only [Tr.get_set, if_true, if_false, reduceIte, Nat.reduceEqDiff]) (by simp only [Tr.get_set, if_true, if_false, reduceIte, Nat.reduceEqDiff]) ?_
        rw [hv]
        exact ⟨fresh_wf w2 _ _, .inr ⟨by decide, M2.nxt, rfl, fresh_winC M2 93 [.int .i64 2]⟩⟩
      · apply EvX.reg0
        · intro call
          simp only [QRun, stepA, wantedA, opA, pureA, loadA, effA, binA, bin, evalA, ofV, ofCell, Fr.put, setArgs, kS, Nat.zero_testBit, Nat.reduceAdd, Nat.reduceSub, Nat.reduceLeDiff, decide_true, decide_false, Nat.reduceEqDiff, if_true, if_false, reduceIte, operands, nat_exit0, nat_throw0, binS, unA, hlenN, hlenY, hx1, hx2, d4, AV.cells, takeN, beq_self_eq_true, eq_self, kA1, kA2, kB, kC]
          exact ⟨rfl, rfl⟩
        simp only [Ex.thn]
        apply EvX.cond2 (t := true)
        · simp only [evalA, Tr.get_set, Nat.reduceEqDiff, if_true, if_false, reduceIte]
        rotate_left
        · intro h; cases h
        intro _
        apply EvX.seq
        apply EvX.reg0
        · intro call
          simp only [QRun, stepA, wantedA, opA, pureA, loadA, effA, binA, bin, evalA, ofV, ofCell, Fr.put, setArgs, kS, Nat.zero_testBit, Nat.reduceAdd, Nat.reduceSub, Nat.reduceLeDiff, decide_true, decide_false, Nat.reduceEqDiff, if_true, if_false, reduceIte, operands, partsA, fillA, putCells, allCells, AV.isCell, AV.cells, takeN, beq_self_eq_true, eq_self, kA1, kA2, kB, kC]
          exact ⟨rfl, rfl⟩
        simp only [Ex.thn]
        apply EvX.ret
        simp only [Ex.thn, Ex.blk]
        refine Fin.twoT (K := fun x m' => LinePost (lineP l s) m' x) (x := .nilsl) (y := .iface 89 (.ptr M2.nxt 0)) (t := 4) (u := 5) rfl (by simp only [Tr.get_set, if_true, if_false, reduceIte, Nat.reduceEqDiff]) (by simp only [Tr.get_set, if_true, if_false, reduceIte, Nat.reduceEqDiff]) ?_
        rw [hv]
        exact ⟨fresh_wf w2 _ _, .inr ⟨by decide, M2.nxt, rfl, fresh_winC M2 93 [.int .i64 2]⟩⟩
    have d4 : ((n.length : Int) != 2) = false := by rw [bne_eq_false_iff_eq]; omega
    obtain ⟨a, b, rfl⟩ : ∃ a b, n = [a, b] := by
      match n, b4 with
      | [a, b], _ => exact ⟨a, b, rfl⟩
    have hlp : lineP l s = linePush l w a b := by
      unfold lineP; rw [hsp]; simp only [hn]
      rw [if_neg (fun h => b1 h.1), if_neg b3]
    by_cases b5 : l.length = 0
    · have d5 : ((l.length : Int) == 0) = true := by rw [beq_iff_eq]; omega
      have hv : lineP l s = (2, []) := by
        rw [hlp]
        have := List.length_eq_zero_iff.1 b5
        subst this
        rfl
      rcases hw2 with ⟨_, hx1⟩ | ⟨_, hx1, hx2⟩
      · apply EvX.reg0
        · intro call
          simp only [QRun, stepA, wantedA, opA, pureA, loadA, effA, binA, bin, evalA, ofV, ofCell, Fr.put, setArgs, kS, Nat.zero_testBit, Nat.reduceAdd, Nat.reduceSub, Nat.reduceLeDiff, decide_true, decide_false, Nat.reduceEqDiff, if_true, if_false, reduceIte, operands, nat_exit0, nat_throw0, binS, unA, hlenN, hlenY, hx1, show (((2 : Nat) : Int) != 2) = false from rfl, d5, AV.cells, takeN, beq_self_eq_true, eq_self, kA1, kA2, kB, kC]
          exact ⟨rfl, rfl⟩
        simp only [Ex.thn]
        apply EvX.cond2 (t := true)
        · simp only [evalA, Tr.get_set, Nat.reduceEqDiff, if_true, if_false, reduceIte]
        rotate_left
        · intro h; cases h
        intro _
        apply EvX.seq
        apply EvX.reg0
        · intro call
          simp only [QRun, stepA, wantedA, opA, pureA, loadA, effA, binA, bin, evalA, ofV, ofCell, Fr.put, setArgs, kS, Nat.zero_testBit, Nat.reduceAdd, Nat.reduceSub, Nat.reduceLeDiff, decide_true, decide_false, Nat.reduceEqDiff, if_true, if_false, reduceIte, operands, partsA, fillA, putCells, allCells, AV.isCell, AV.cells, takeN, beq_self_eq_true, eq_self, kA1, kA2, kB, kC]
          exact ⟨rfl, rfl⟩
        simp only [Ex.thn]
        apply EvX.ret
        simp only [Ex.thn, Ex.blk]
        refine Fin.twoT (K := fun x m' => LinePost (lineP l s) m' x) (x := .nilsl) (y := .iface 89 (.ptr M2.nxt 0)) (t := 4) (u := 5) rfl (by simp only [Tr.get_set, if_true, if_false, reduceIte, Nat.reduceEqDiff]) (by simp only [Tr.get_set, if_true, if_false, reduceIte, Nat.reduceEqDiff]) ?_
        rw [hv]
        exact ⟨fresh_wf w2 _ _, .inr ⟨by decide, M2.nxt, rfl, fresh_winC M2 93 [.int .i64 2]⟩⟩
      · apply EvX.reg0
        · intro call
          simp only [QRun, stepA, wantedA, opA, pureA, loadA, effA, binA, bin, evalA, ofV, ofCell, Fr.put, setArgs, kS, Nat.zero_testBit, Nat.reduceAdd, Nat.reduceSub, Nat.reduceLeDiff, decide_true, decide_false, Nat.reduceEqDiff, if_true, if_false, reduceIte, operands, nat_exit0, nat_throw0, binS, unA, hlenN, hlenY, hx1, hx2, show (((2 : Nat) : Int) != 2) = false from rfl, d5, AV.cells, takeN, beq_self_eq_true, eq_self, kA1, kA2, kB, kC]
          exact ⟨rfl, rfl⟩
        simp only [Ex.thn]
        apply EvX.cond2 (t := true)
        · simp only [evalA, Tr.get_set, Nat.reduceEqDiff, if_true, if_false, reduceIte]
        rotate_left
        · intro h; cases h
        intro _
        apply EvX.seq
        apply EvX.reg0
        · intro call
          simp only [QRun, stepA, wantedA, opA, pureA, loadA, effA, binA, bin, evalA, ofV, ofCell, Fr.put, setArgs, kS, Nat.zero_testBit, Nat.reduceAdd, Nat.reduceSub, Nat.reduceLeDiff, decide_true, decide_false, Nat.reduceEqDiff, if_true, if_false, reduceIte, operands, partsA, fillA, putCells, allCells, AV.isCell, AV.cells, takeN, beq_self_eq_true, eq_self, kA1, kA2, kB, kC]
          exact ⟨rfl, rfl⟩
        simp only [Ex.thn]
        apply EvX.ret
        simp only [Ex.thn, Ex.blk]
        refine Fin.twoT (K := fun x m' => LinePost (lineP l s) m' x) (x := .nilsl) (y := .iface 89 (.ptr M2.nxt 0)) (t := 4) (u := 5) rfl (by simp only [Tr.get_set, if_true, if_false, reduceIte, Nat.reduceEqDiff]) (by simp only [Tr.get_set, if_true, if_false, reduceIte, Nat.reduceEqDiff]) ?_
        rw [hv]
        exact ⟨fresh_wf w2 _ _, .inr ⟨by decide, M2.nxt, rfl, fresh_winC M2 93 [.int .i64 2]⟩⟩
    have d5 : ((l.length : Int) == 0) = false := by rw [beq_eq_false_iff_ne]; omega
    obtain ⟨l0, sm, rfl, hgl, hdl⟩ := getLast_of (l := l) (fun e => b5 (by rw [e]; rfl))
    have hl0 : l0.length + 1 ≤ 1000 := by simpa using hl
    have hsm := hok sm (by simp)
    have d5s : (((l0.length + 1 : Nat) : Int) == 0) = false := by rw [beq_eq_false_iff_ne]; omega
    obtain ⟨vy, e, t, cl, x0, c1, ce, ct, L2⟩ := hs2.last
    have hy := L2.y
    subst hy
    obtain ⟨vn, rfl, hldn⟩ := o2.load (by simp)
    have ld0 : M2.load (.ptr vn 0) 1 = some [.int .i64 a] := hldn 0 1 (by simp)
    have ld1 : M2.load (.ptr vn 1) 1 = some [.int .i64 b] := hldn 1 1 (by simp)
    have kf := fresh_keep M2 (some 70) [.int .i64 0, .int .i64 0]
    have ld0f := w2.load kf ld0
    have ld1f := w2.load kf ld1
    obtain ⟨M3, st3, w3, n3, k3, b3w⟩ := box_winC w2 70 (zs := [.int .i64 0, .int .i64 0]) (xs := [.int .i64 a, .int .i64 b]) rfl rfl
    have L3 := L2.frame k3 (fun c _ hc => by cases hc)
    have ldp : M3.load (.ptr M2.nxt 0) 2 = some [.int .i64 a, .int .i64 b] := b3w.load (k := 0) (a := 2) (by simp)
    have hlenY' : lenA Tryz.prog 22 (.sl vy 0 (l0.length + 1) 3) = some (.int .i64 ((l0.length + 1 : Nat) : Int)) := by simp only [lenA, Tryz.underlying22]
    have wp : IntKind.i64.wrap (((l0.length + 1 : Nat) : Int) - 1) = (l0.length : Int) := wrap_pred (by omega)
    have hlt1 : l0.length + 1 ≤ l0.length + 1 := Nat.le_refl _
    have hok2 : okSums (l0 ++ [sm]) := fun x hx => by have := hok x hx; omega
    have hx0 := L3.len
    have ldt : M3.load (.ptr vy (l0.length * 3 + 2)) 1 = some [t] := by
      have := L3.win.load (k := l0.length * 3 + 2) (a := 1) (by omega)
      rw [show x0 ++ [AV.int .i64 sm.fn, e, t] = (x0 ++ [AV.int .i64 sm.fn, e]) ++ [t] by simp, List.drop_left' (by simp [hx0])] at this
      exact this
    have lde : M3.load (.ptr vy (l0.length * 3 + 1)) 1 = some [e] := by
      have := L3.win.load (k := l0.length * 3 + 1) (a := 1) (by omega)
      rw [show x0 ++ [AV.int .i64 sm.fn, e, t] = (x0 ++ [AV.int .i64 sm.fn]) ++ [e, t] by simp, List.drop_left' (by simp [hx0])] at this
      exact this
    have kf3 := fresh_keep M3 (some 70) [.int .i64 a, .int .i64 b]
    have ldtf := w3.load kf3 ldt
    have ldef := w3.load kf3 lde
    have ldpf := w3.load kf3 ldp
    rcases hw2 with ⟨hwe, hx1⟩ | ⟨hwt, hx1, hx2⟩
    rotate_left
    · apply EvX.reg0
      · intro call
        simp only [QRun, stepA, wantedA, opA, pureA, loadA, effA, binA, bin, evalA, ofV, ofCell, Fr.put, setArgs, kS, Nat.zero_testBit, Nat.reduceAdd, Nat.reduceSub, Nat.reduceLeDiff, decide_true, decide_false, Nat.reduceEqDiff, if_true, if_false, reduceIte, operands, nat_exit0, nat_throw0, binS, unA, hlenN, hlenY, hx1, hx2, show (((2 : Nat) : Int) != 2) = false from rfl, d4, d5, d5s, AV.cells, takeN, beq_self_eq_true, eq_self, kA1, kA2, kB, kC]
        exact ⟨rfl, rfl⟩
      simp only [Ex.thn]
      apply EvX.cond2 (t := false)
      · simp only [evalA, Tr.get_set, Nat.reduceEqDiff, if_true, if_false, reduceIte, d5s]
      · intro h; cases h
      intro _
      apply EvX.skip
      simp only [Ex.thn, Ex.blk]
      apply EvX.seq
      apply EvX.reg0
      · intro call
        simp only [QRun, stepA, wantedA, opA, pureA, loadA, effA, binA, bin, evalA, ofV, ofCell, Fr.put, setArgs, kS, Nat.zero_testBit, Nat.reduceAdd, Nat.reduceSub, Nat.reduceLeDiff, decide_true, decide_false, Nat.reduceEqDiff, if_true, if_false, reduceIte, operands, sliceA, bounds, natOf?, natOf_cast, natOf_0, natOf_1, List.length_cons, hsub, hone, Nat.zero_mul, Nat.mul_one, Nat.one_mul, Nat.zero_lt_succ, Nat.le_add_left, hlenY', wp, hlt1, AV.cells, takeN, beq_self_eq_true, eq_self, kA1, kA2, kB, kC]
        exact ⟨rfl, rfl⟩
      simp only [Ex.thn]
      apply EvX.seq
      apply EvX.drwA 128 [M2, M2.fresh (some 70) [.int .i64 0, .int .i64 0]] 0
      · kernel_rfl
      · intro k _
        simp only [QRunA, stepA, wantedA, opA, pureA, loadA, effA, binA, bin, evalA, ofV, ofCell, Fr.put, setArgs, kS, Nat.reduceAdd, Nat.reduceSub, Nat.reduceLeDiff, decide_true, decide_false, Nat.reduceEqDiff, if_true, if_false, reduceIte, operands, sliceA, bounds, natOf?, natOf_cast, natOf_0, natOf_1, List.length_cons, hsub, hone, Nat.zero_mul, Nat.mul_one, Nat.one_mul, Nat.zero_lt_succ, Nat.le_add_left, ld0, ld1, ld0f, ld1f, st3, List.mem_cons, List.not_mem_nil, or_false, or_true, true_or, forall_eq_or_imp, forall_eq, and_self, partsA, fillA, putCells, allCells, AV.isCell, AV.cells, takeN, beq_self_eq_true, eq_self, kA1, kA2, kB, kC, show Nat.testBit 128 0 = false from rfl, show Nat.testBit 128 1 = false from rfl, show Nat.testBit 128 2 = false from rfl, show Nat.testBit 128 3 = false from rfl, show Nat.testBit 128 4 = false from rfl, show Nat.testBit 128 5 = false from rfl, show Nat.testBit 128 6 = false from rfl, show Nat.testBit 128 7 = true from rfl, show Nat.testBit 128 8 = false from rfl, show Nat.testBit 128 9 = false from rfl]
        exact ⟨rfl, rfl⟩
      simp only [Ex.thn]
      apply EvX.seq
      obtain ⟨t', M4, M5, cs5, p1, p2, p3, p4, w5, s5⟩ := L3.pushTh w3 a b (by omega)
      have htc : t'.cells = [t'] := cells_of_cell p3
      have hokN : okSums (l0 ++ [{ sm with th := sm.th ++ [(a, b)] }]) := fun x hx => by
        rcases List.mem_append.1 hx with e' | e'
        · exact hok2 x (by simp [e'])
        · rw [List.mem_singleton] at e'; subst e'; simp only [List.length_append, List.length_singleton]; omega
      obtain ⟨x, M6, hG, N, hN⟩ := grown h78 h11 w5 s5 (by simp) (by simp; omega) hokN
      obtain ⟨ra, rb, hx⟩ := hG.tup
      have hv : lineP (l0 ++ [sm]) s = (grownE (l0 ++ [{ sm with th := sm.th ++ [(a, b)] }]), (l0 ++ [{ sm with th := sm.th ++ [(a, b)] }])) := by
        rw [hlp]; unfold linePush; rw [hgl]; simp only [hdl]; rw [if_pos hwt]
      apply EvX.seq
      apply EvX.reg0
      · intro call
        simp only [QRun, stepA, wantedA, opA, pureA, loadA, effA, binA, bin, evalA, ofV, ofCell, Fr.put, setArgs, kS, Nat.zero_testBit, Nat.reduceAdd, Nat.reduceSub, Nat.reduceLeDiff, decide_true, decide_false, Nat.reduceEqDiff, if_true, if_false, reduceIte, operands, nat_throw0, binS, hx2, AV.cells, takeN, beq_self_eq_true, eq_self, kA1, kA2, kB, kC]
        exact ⟨rfl, rfl⟩
      simp only [Ex.thn]
      apply EvX.cond2 (t := true)
      · simp only [evalA, Tr.get_set, Nat.reduceEqDiff, if_true, if_false, reduceIte]
      rotate_left
      · intro h; cases h
      intro _
      apply EvX.seq
      apply EvX.drwA 64 [M3, M3.fresh (some 70) [.int .i64 a, .int .i64 b]] 0
      · kernel_rfl
      · intro k _
        simp only [QRunA, stepA, wantedA, opA, pureA, loadA, effA, binA, bin, evalA, ofV, ofCell, Fr.put, setArgs, kS, Nat.reduceAdd, Nat.reduceSub, Nat.reduceLeDiff, decide_true, decide_false, Nat.reduceEqDiff, if_true, if_false, reduceIte, operands, sliceA, bounds, natOf?, natOf_cast, natOf_0, natOf_1, List.length_cons, hsub, hone, Nat.zero_mul, Nat.mul_one, Nat.one_mul, Nat.zero_lt_succ, Nat.le_add_left, ldt, ldtf, ldp, ldpf, p1, p2, p4, htc, cells_int, cells_agg, List.mem_cons, List.not_mem_nil, or_false, or_true, true_or, forall_eq_or_imp, forall_eq, and_self, partsA, fillA, putCells, replicateA, List.append_nil, List.nil_append, List.cons_append, Nat.reduceMul, allCells, AV.isCell, takeN, beq_self_eq_true, eq_self, kA1, kA2, kB, kC, show Nat.testBit 64 0 = false from rfl, show Nat.testBit 64 1 = false from rfl, show Nat.testBit 64 2 = false from rfl, show Nat.testBit 64 3 = false from rfl, show Nat.testBit 64 4 = false from rfl, show Nat.testBit 64 5 = false from rfl, show Nat.testBit 64 6 = true from rfl, show Nat.testBit 64 7 = false from rfl, show Nat.testBit 64 8 = false from rfl, show Nat.testBit 64 9 = false from rfl, show Nat.testBit 64 10 = false from rfl, show Nat.testBit 64 11 = false from rfl]
        exact ⟨rfl, rfl⟩
      simp only [Ex.thn]
      apply EvX.seq
      apply EvX.reg N
      · intro k hk
        have hN' := hN k hk
        rw [hx] at hN'
        simp only [QRun, stepA, wantedA, opA, pureA, loadA, effA, binA, bin, evalA, ofV, ofCell, Fr.put, setArgs, kS, Nat.zero_testBit, Nat.reduceAdd, Nat.reduceSub, Nat.reduceLeDiff, decide_true, decide_false, Nat.reduceEqDiff, if_true, if_false, reduceIte, operands, sliceA, bounds, natOf?, natOf_cast, natOf_0, natOf_1, List.length_cons, hsub, hone, Nat.zero_mul, Nat.mul_one, Nat.one_mul, Nat.zero_lt_succ, Nat.le_add_left, cl_78, hN', AV.cells, takeN, beq_self_eq_true, eq_self, kA1, kA2, kB, kC]
        exact ⟨rfl, rfl⟩
      simp only [Ex.thn]
      apply EvX.ret
      simp only [Ex.thn, Ex.blk]
      refine Fin.twoT (K := fun x m' => LinePost (lineP (l0 ++ [sm]) s) m' x) (x := ra) (y := rb) (t := 4) (u := 5) rfl (by simp only [Tr.get_set, if_true, if_false, reduceIte, Nat.reduceEqDiff]) (by simp only [Tr.get_set, if_true, if_false, reduceIte, Nat.reduceEqDiff]) ?_
      rw [hv, ← hx]
      exact hG.line s5
    have hx2 : eqNats w wThrow = false := by rw [hwe]; rfl
    have hnt : ¬ w = wThrow := fun e => by rw [hwe] at e; revert e; decide
    apply EvX.reg0
    · intro call
      simp only [QRun, stepA, wantedA, opA, pureA, loadA, effA, binA, bin, evalA, ofV, ofCell, Fr.put, setArgs, kS, Nat.zero_testBit, Nat.reduceAdd, Nat.reduceSub, Nat.reduceLeDiff, decide_true, decide_false, Nat.reduceEqDiff, if_true, if_false, reduceIte, operands, nat_exit0, nat_throw0, binS, unA, hlenN, hlenY, hx1, show (((2 : Nat) : Int) != 2) = false from rfl, d4, d5, d5s, AV.cells, takeN, beq_self_eq_true, eq_self, kA1, kA2, kB, kC]
      exact ⟨rfl, rfl⟩
    simp only [Ex.thn]
    apply EvX.cond2 (t := false)
    · simp only [evalA, Tr.get_set, Nat.reduceEqDiff, if_true, if_false, reduceIte, d5s]
    · intro h; cases h
    intro _
    apply EvX.skip
    simp only [Ex.thn, Ex.blk]
    apply EvX.seq
    apply EvX.reg0
    · intro call
      simp only [QRun, stepA, wantedA, opA, pureA, loadA, effA, binA, bin, evalA, ofV, ofCell, Fr.put, setArgs, kS, Nat.zero_testBit, Nat.reduceAdd, Nat.reduceSub, Nat.reduceLeDiff, decide_true, decide_false, Nat.reduceEqDiff, if_true, if_false, reduceIte, operands, sliceA, bounds, natOf?, natOf_cast, natOf_0, natOf_1, List.length_cons, hsub, hone, Nat.zero_mul, Nat.mul_one, Nat.one_mul, Nat.zero_lt_succ, Nat.le_add_left, hlenY', wp, hlt1, AV.cells, takeN, beq_self_eq_true, eq_self, kA1, kA2, kB, kC]
      exact ⟨rfl, rfl⟩
    simp only [Ex.thn]
    apply EvX.seq
    apply EvX.drwA 128 [M2, M2.fresh (some 70) [.int .i64 0, .int .i64 0]] 0
    · kernel_rfl
    · intro k _
      simp only [QRunA, stepA, wantedA, opA, pureA, loadA, effA, binA, bin, evalA, ofV, ofCell, Fr.put, setArgs, kS, Nat.reduceAdd, Nat.reduceSub, Nat.reduceLeDiff, decide_true, decide_false, Nat.reduceEqDiff, if_true, if_false, reduceIte, operands, sliceA, bounds, natOf?, natOf_cast, natOf_0, natOf_1, List.length_cons, hsub, hone, Nat.zero_mul, Nat.mul_one, Nat.one_mul, Nat.zero_lt_succ, Nat.le_add_left, ld0, ld1, ld0f, ld1f, st3, List.mem_cons, List.not_mem_nil, or_false, or_true, true_or, forall_eq_or_imp, forall_eq, and_self, partsA, fillA, putCells, allCells, AV.isCell, AV.cells, takeN, beq_self_eq_true, eq_self, kA1, kA2, kB, kC, show Nat.testBit 128 0 = false from rfl, show Nat.testBit 128 1 = false from rfl, show Nat.testBit 128 2 = false from rfl, show Nat.testBit 128 3 = false from rfl, show Nat.testBit 128 4 = false from rfl, show Nat.testBit 128 5 = false from rfl, show Nat.testBit 128 6 = false from rfl, show Nat.testBit 128 7 = true from rfl, show Nat.testBit 128 8 = false from rfl, show Nat.testBit 128 9 = false from rfl]
      exact ⟨rfl, rfl⟩
    simp only [Ex.thn]
    apply EvX.seq
    apply EvX.seq
    apply EvX.reg0
    · intro call
      simp only [QRun, stepA, wantedA, opA, pureA, loadA, effA, binA, bin, evalA, ofV, ofCell, Fr.put, setArgs, kS, Nat.zero_testBit, Nat.reduceAdd, Nat.reduceSub, Nat.reduceLeDiff, decide_true, decide_false, Nat.reduceEqDiff, if_true, if_false, reduceIte, operands, nat_throw0, binS, hx2, AV.cells, takeN, beq_self_eq_true, eq_self, kA1, kA2, kB, kC]
      exact ⟨rfl, rfl⟩
    simp only [Ex.thn]
    apply EvX.cond2 (t := false)
    · simp only [evalA, Tr.get_set, Nat.reduceEqDiff, if_true, if_false, reduceIte]
    · intro h; cases h
    intro _
    apply EvX.skip
    simp only [Ex.thn, Ex.blk]
    have hlenT := L3.th.ownS.lenA (t := 28) sl_t28
    apply EvX.seq
    apply EvX.seq
    by_cases b6 : ((sm.th.length : Int) > 0)
    · have d6 := decide_eq_true b6
      have hne : sm.th ≠ [] := fun e => by rw [e] at b6; simp at b6
      have hv : lineP (l0 ++ [sm]) s = (13, []) := by
        rw [hlp]; unfold linePush; rw [hgl]; simp only; rw [if_neg hnt, if_pos hne]
      apply EvX.reg0
      · intro call
        simp only [QRun, stepA, wantedA, opA, pureA, loadA, effA, binA, bin, evalA, ofV, ofCell, Fr.put, setArgs, kS, Nat.zero_testBit, Nat.reduceAdd, Nat.reduceSub, Nat.reduceLeDiff, decide_true, decide_false, Nat.reduceEqDiff, if_true, if_false, reduceIte, operands, ldt, hlenT, d6, sliceA, bounds, natOf?, natOf_cast, natOf_0, natOf_1, List.length_cons, hsub, hone, Nat.zero_mul, Nat.mul_one, Nat.one_mul, Nat.zero_lt_succ, Nat.le_add_left, AV.cells, takeN, beq_self_eq_true, eq_self, kA1, kA2, kB, kC]
        exact ⟨rfl, rfl⟩
      simp only [Ex.thn]
      apply EvX.cond2 (t := true)
      · simp only [evalA, Tr.get_set, Nat.reduceEqDiff, if_true, if_false, reduceIte]
      rotate_left
      · intro h; cases h
      intro _
      apply EvX.seq
      apply EvX.reg0
      · intro call
        simp only [QRun, stepA, wantedA, opA, pureA, loadA, effA, binA, bin, evalA, ofV, ofCell, Fr.put, setArgs, kS, Nat.zero_testBit, Nat.reduceAdd, Nat.reduceSub, Nat.reduceLeDiff, decide_true, decide_false, Nat.reduceEqDiff, if_true, if_false, reduceIte, operands, partsA, fillA, putCells, allCells, AV.isCell, AV.cells, takeN, beq_self_eq_true, eq_self, kA1, kA2, kB, kC]
        exact ⟨rfl, rfl⟩
      simp only [Ex.thn]
      apply EvX.ret
      simp only [Ex.thn, Ex.blk]
      refine Fin.twoT (K := fun x m' => LinePost (lineP (l0 ++ [sm]) s) m' x) (x := .nilsl) (y := .iface 89 (.ptr M3.nxt 0)) (t := 4) (u := 5) rfl (by simp only [Tr.get_set, if_true, if_false, reduceIte, Nat.reduceEqDiff]) (by simp only [Tr.get_set, if_true, if_false, reduceIte, Nat.reduceEqDiff]) ?_
      rw [hv]
      exact ⟨fresh_wf w3 _ _, .inr ⟨by decide, M3.nxt, rfl, fresh_winC M3 93 [.int .i64 13]⟩⟩
    have d6 := decide_eq_false b6
    have hth : sm.th = [] := List.length_eq_zero_iff.1 (by omega)
    obtain ⟨t', M4, M5, cs5, p1, p2, p3, p4, w5, s5⟩ := L3.pushEx w3 a b (by omega)
    have htc : t'.cells = [t'] := cells_of_cell p3
    have hokN : okSums (l0 ++ [{ sm with ex := sm.ex ++ [(a, b)] }]) := fun x hx => by
      rcases List.mem_append.1 hx with e' | e'
      · exact hok2 x (by simp [e'])
      · rw [List.mem_singleton] at e'; subst e'; simp only [List.length_append, List.length_singleton]; omega
    obtain ⟨x, M6, hG, N, hN⟩ := grown h78 h11 w5 s5 (by simp) (by simp; omega) hokN
    obtain ⟨ra, rb, hx⟩ := hG.tup
    have hv : lineP (l0 ++ [sm]) s = (grownE (l0 ++ [{ sm with ex := sm.ex ++ [(a, b)] }]), (l0 ++ [{ sm with ex := sm.ex ++ [(a, b)] }])) := by
      rw [hlp]; unfold linePush; rw [hgl]; simp only [hdl]; rw [if_neg hnt, if_neg (fun h => h hth)]
    apply EvX.reg0
    · intro call
      simp only [QRun, stepA, wantedA, opA, pureA, loadA, effA, binA, bin, evalA, ofV, ofCell, Fr.put, setArgs, kS, Nat.zero_testBit, Nat.reduceAdd, Nat.reduceSub, Nat.reduceLeDiff, decide_true, decide_false, Nat.reduceEqDiff, if_true, if_false, reduceIte, operands, ldt, hlenT, d6, sliceA, bounds, natOf?, natOf_cast, natOf_0, natOf_1, List.length_cons, hsub, hone, Nat.zero_mul, Nat.mul_one, Nat.one_mul, Nat.zero_lt_succ, Nat.le_add_left, AV.cells, takeN, beq_self_eq_true, eq_self, kA1, kA2, kB, kC]
      exact ⟨rfl, rfl⟩
    simp only [Ex.thn]
    apply EvX.cond2 (t := false)
    · simp only [evalA, Tr.get_set, Nat.reduceEqDiff, if_true, if_false, reduceIte]
    · intro h; cases h
    intro _
    apply EvX.skip
    simp only [Ex.thn, Ex.blk]
    apply EvX.seq
    apply EvX.drwA 64 [M3, M3.fresh (some 70) [.int .i64 a, .int .i64 b]] 0
    · kernel_rfl
    · intro k _
      simp only [QRunA, stepA, wantedA, opA, pureA, loadA, effA, binA, bin, evalA, ofV, ofCell, Fr.put, setArgs, kS, Nat.reduceAdd, Nat.reduceSub, Nat.reduceLeDiff, decide_true, decide_false, Nat.reduceEqDiff, if_true, if_false, reduceIte, operands, sliceA, bounds, natOf?, natOf_cast, natOf_0, natOf_1, List.length_cons, hsub, hone, Nat.zero_mul, Nat.mul_one, Nat.one_mul, Nat.zero_lt_succ, Nat.le_add_left, lde, ldef, ldp, ldpf, p1, p2, p4, htc, cells_int, cells_agg, List.mem_cons, List.not_mem_nil, or_false, or_true, true_or, forall_eq_or_imp, forall_eq, and_self, partsA, fillA, putCells, replicateA, List.append_nil, List.nil_append, List.cons_append, Nat.reduceMul, allCells, AV.isCell, takeN, beq_self_eq_true, eq_self, kA1, kA2, kB, kC, show Nat.testBit 64 0 = false from rfl, show Nat.testBit 64 1 = false from rfl, show Nat.testBit 64 2 = false from rfl, show Nat.testBit 64 3 = false from rfl, show Nat.testBit 64 4 = false from rfl, show Nat.testBit 64 5 = false from rfl, show Nat.testBit 64 6 = true from rfl, show Nat.testBit 64 7 = false from rfl, show Nat.testBit 64 8 = false from rfl, show Nat.testBit 64 9 = false from rfl, show Nat.testBit 64 10 = false from rfl, show Nat.testBit 64 11 = false from rfl]
      exact ⟨rfl, rfl⟩
    simp only [Ex.thn]
    apply EvX.seq
    apply EvX.reg N
    · intro k hk
      have hN' := hN k hk
      rw [hx] at hN'
      simp only [QRun, stepA, wantedA, opA, pureA, loadA, effA, binA, bin, evalA, ofV, ofCell, Fr.put, setArgs, kS, Nat.zero_testBit, Nat.reduceAdd, Nat.reduceSub, Nat.reduceLeDiff, decide_true, decide_false, Nat.reduceEqDiff, if_true, if_false, reduceIte, operands, sliceA, bounds, natOf?, natOf_cast, natOf_0, natOf_1, List.length_cons, hsub, hone, Nat.zero_mul, Nat.mul_one, Nat.one_mul, Nat.zero_lt_succ, Nat.le_add_left, cl_78, hN', AV.cells, takeN, beq_self_eq_true, eq_self, kA1, kA2, kB, kC]
      exact ⟨rfl, rfl⟩
    simp only [Ex.thn]
    apply EvX.ret
    refine Fin.twoT (K := fun x m' => LinePost (lineP (l0 ++ [sm]) s) m' x) (x := ra) (y := rb) (t := 4) (u := 5) rfl (by simp only [Tr.get_set, if_true, if_false, reduceIte, Nat.reduceEqDiff]) (by simp only [Tr.get_set, if_true, if_false, reduceIte, Nat.reduceEqDiff]) ?_
    rw [hv, ← hx]
    exact hG.line s5
end Go.Vz
