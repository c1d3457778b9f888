/-
  Splitting, told.
-/
import Derived.Test.YtgagkmbhlpmceaaGreatDoorVzPa1
set_option linter.unusedVariables false
set_option linter.unusedSimpArgs false
namespace Go.Vz
open Go Go.Proofs
set_option maxHeartbeats 4000000
set_option maxRecDepth 20000
def specCount : List AV → Option AV
  | [.str s, .str [c]] => bif Nat.ble c 255 then some (.int .i64 (((splitN c s).length - 1 : Nat) : Int)) else none
  | _ => none
def p167 : PFn := ⟨167, specCount⟩
theorem specCount_enc (s : List Nat) {c : Nat} (hc : c ≤ 255) : specCount [.str s, .str [c]] = some (.int .i64 (((splitN c s).length - 1 : Nat) : Int)) := by
  show (bif Nat.ble c 255 then some (AV.int .i64 (((splitN c s).length - 1 : Nat) : Int)) else none) = _
  rw [Nat.ble_eq_true_of_le hc]; rfl
theorem p167_ok : p167.Ok := by
  refine PFn.Ok.ofT (qs := []) (ps := []) (fun q h => by cases h) (fun p h => by cases h) (fun args x h => ?_)
  have h' : ∃ s c, args = [.str s, .str [c]] ∧ c ≤ 255 ∧ x = .int .i64 (((splitN c s).length - 1 : Nat) : Int) := by
    have h2 : specCount args = some x := h
    unfold specCount at h2
    split at h2
    · rename_i s c
      cases hb : Nat.ble c 255 with
      | false => rw [hb] at h2; cases h2
      | true => rw [hb, cond_true, Option.some.injEq] at h2; exact ⟨s, c, rfl, Nat.le_of_ble_eq_true hb, h2.symm⟩
    · cases h2
  clear h
  obtain ⟨s, c, rfl, hc, rfl⟩ := h'
  have e1 := fun m => ext_191 s hc m
  rw [cnt_add, Nat.add_zero] at e1
  refine ⟨rfl, EvC.run (by kernel_rfl) (by rw [CT_P]; exact Tryz.func167) rfl ?_⟩
  apply EvX.seq
  apply EvX.reg0
  · intro call
    simp only [QRun, stepA, wantedA, opA, pureA, loadA, effA, binA, bin, evalA, ofV, ofCell, Fr.put, setArgs, kS, Nat.zero_testBit, Nat.reduceAdd, Nat.reduceSub, Nat.reduceLeDiff, decide_true, decide_false, Nat.reduceEqDiff, if_true, if_false, reduceIte, operands, Tryz.ntmps167]
    exact ⟨rfl, rfl⟩
  simp only [Ex.thn]
  apply EvX.seq
  apply EvX.seq
  apply EvX.reg0
  · intro call
    simp only [QRun, stepA, wantedA, opA, pureA, loadA, effA, binA, bin, evalA, ofV, ofCell, Fr.put, setArgs, kS, Nat.zero_testBit, Nat.reduceAdd, Nat.reduceSub, Nat.reduceLeDiff, decide_true, decide_false, Nat.reduceEqDiff, if_true, if_false, reduceIte, operands, lenOne, show ((1 : Int) == 0) = false from rfl, AV.cells, takeN, beq_self_eq_true, eq_self, kA1, kA2, kB]
    exact ⟨rfl, rfl⟩
  simp only [Ex.thn]
  apply EvX.cond2 (t := false)
  · simp only [evalA, Tr.get_set, Nat.reduceEqDiff, if_true, if_false, reduceIte]
  · intro h; cases h
  intro _
  apply EvX.skip
  simp only [Ex.thn, Ex.blk]
  apply EvX.seq
  apply EvX.seq
  apply EvX.reg0
  · intro call
    simp only [QRun, stepA, wantedA, opA, pureA, loadA, effA, binA, bin, evalA, ofV, ofCell, Fr.put, setArgs, kS, Nat.zero_testBit, Nat.reduceAdd, Nat.reduceSub, Nat.reduceLeDiff, decide_true, decide_false, Nat.reduceEqDiff, if_true, if_false, reduceIte, operands, lenOne, show ((1 : Int) == 1) = true from rfl, AV.cells, takeN, beq_self_eq_true, eq_self, kA1, kA2, kB]
    exact ⟨rfl, rfl⟩
  simp only [Ex.thn]
  apply EvX.cond2 (t := true)
  · simp only [evalA, Tr.get_set, Nat.reduceEqDiff, if_true, if_false, reduceIte]
  rotate_left
  · intro h; cases h
  intro _
  apply EvX.seq
  apply EvX.reg0
  · intro call
    simp only [QRun, stepA, wantedA, opA, pureA, loadA, effA, binA, bin, evalA, ofV, ofCell, Fr.put, setArgs, kS, Nat.zero_testBit, Nat.reduceAdd, Nat.reduceSub, Nat.reduceLeDiff, decide_true, decide_false, Nat.reduceEqDiff, if_true, if_false, reduceIte, operands, natOf?, cl_191, CT_ext, e1, AV.cells, takeN, beq_self_eq_true, eq_self, kA1, kA2, kB]
    exact ⟨rfl, rfl⟩
  simp only [Ex.thn]
  apply EvX.ret
  simp only [Ex.thn, Ex.blk]
  exact Fin.one rfl (by simp only [Tr.get_set, if_true, if_false, reduceIte, Nat.reduceEqDiff])
/-! ### Split -/
def encStrs (ws : List (List Nat)) : List AV := ws.map .str
theorem encStrs_length (ws : List (List Nat)) : (encStrs ws).length = ws.length := by simp [encStrs]
theorem encStrs_all : ∀ ws, allCells (encStrs ws) = true
  | [] => rfl
  | w :: ws => by simp only [encStrs, List.map_cons, allCells]; exact Bool.and_eq_true_iff.2 ⟨rfl, encStrs_all ws⟩
theorem encStrs_plain : ∀ ws, plainAs (encStrs ws) = true
  | [] => rfl
  | w :: ws => by simp only [encStrs, List.map_cons, plainAs]; exact Bool.and_eq_true_iff.2 ⟨rfl, encStrs_plain ws⟩
theorem view_str (n : Nat) (m : Mem) (s : List Nat) : viewA (n + 1) m (.str s) = some (.str s) := rfl
theorem tree_str (n : Nat) (m : Mem) (s : List Nat) : treeA (n + 1) m (.str s) = some (.str s) := rfl
theorem encStrs_view (n : Nat) (m : Mem) : ∀ l, mapO (viewA (n + 1) m) (encStrs l) = some (encStrs l)
  | [] => rfl
  | a :: l => by
    have := encStrs_view n m l
    simp only [encStrs] at this
    simp only [encStrs, List.map_cons, mapO, view_str, this]
theorem encStrs_tree (n : Nat) (m : Mem) : ∀ l, mapO (treeA (n + 1) m) (encStrs l) = some (encStrs l)
  | [] => rfl
  | a :: l => by
    have := encStrs_tree n m l
    simp only [encStrs] at this
    simp only [encStrs, List.map_cons, mapO, tree_str, this]
def rowStrs (c : Nat) (s : List Nat) : AV := .ro (encStrs (splitN c s)) (splitN c s).length 1
def specGen : List AV → Option AV
  | [.str s, .str [c], .int .i64 0, .int .i64 (-1)] => bif Nat.ble c 255 && Nat.ble s.length 1000000 then some (rowStrs c s) else none
  | _ => none
theorem specGen_enc {s : List Nat} {c : Nat} (hc : c ≤ 255) (hs : s.length ≤ 1000000) : specGen [.str s, .str [c], .int .i64 0, .int .i64 (-1)] = some (rowStrs c s) := by
  show (bif Nat.ble c 255 && Nat.ble s.length 1000000 then some (rowStrs c s) else none) = _
  rw [Nat.ble_eq_true_of_le hc, Nat.ble_eq_true_of_le hs]; rfl
theorem replicateA_append (z : AV) : ∀ n, replicateA (n + 1) [z] = z :: replicateA n [z] := fun n => rfl
def p114 : PFn := ⟨114, specGen⟩
theorem p114_ok : p114.OkT := by
  refine PFn.OkT.of (qs := []) (ps := [p167, p168]) (fun q h => by cases h) (fun p h => by simp at h; rcases h with rfl | rfl; exact p167_ok.tree; exact p168_ok.tree) (fun args y hs => ?_)
  have h' : ∃ s c, args = [.str s, .str [c], .int .i64 0, .int .i64 (-1)] ∧ c ≤ 255 ∧ s.length ≤ 1000000 ∧ y = rowStrs c s := by
    have h2 : specGen args = some y := hs
    unfold specGen at h2
    split at h2
    · rename_i s c
      cases hb : Nat.ble c 255 && Nat.ble s.length 1000000 with
      | false => rw [hb] at h2; cases h2
      | true =>
        rw [hb, cond_true, Option.some.injEq] at h2
        rw [Bool.and_eq_true_iff] at hb
        exact ⟨s, c, rfl, Nat.le_of_ble_eq_true hb.1, Nat.le_of_ble_eq_true hb.2, h2.symm⟩
    · cases h2
  clear hs
  obtain ⟨s, c, rfl, hc, hs, rfl⟩ := h'
  refine EvC.runT (K := fun x m' => treeA 8 m' x = some (rowStrs c s)) (by kernel_rfl) (by rw [CT_P]; exact Tryz.func114) rfl ?_
  have c167 := fun k m => callTp (qs := []) (ps := [p167, p168]) (p := p167) (f := 167) rfl (D := drawA (CT [] [p167, p168])) k m (args := [.str s, .str [c]]) (args' := [.str s, .str [c]]) rfl (specCount_enc s hc) rfl
  have c168 := fun k m t => callTp (qs := []) (ps := [p167, p168]) (p := p168) (f := 168) rfl (D := drawA (CT [] [p167, p168])) k m (args := [.str t, .str [c]]) (args' := [.str t, .str [c]]) rfl (specIdx_enc t hc) rfl
  have hsl := splitN_len c s
  obtain ⟨n, hn⟩ : ∃ n, (splitN c s).length = n + 1 := ⟨(splitN c s).length - 1, by have := List.length_pos_iff.2 (splitN_ne c s); omega⟩
  rw [hn] at c167 hsl
  rw [Nat.add_sub_cancel] at c167
  have hn6 : n ≤ 1000000 := by omega
  have wn : IntKind.i64.wrap ((n : Int) + 1) = ((n + 1 : Nat) : Int) := wrap_succ (by omega)
  have wl : IntKind.i64.wrap ((s.length : Int) + 1) = ((s.length + 1 : Nat) : Int) := wrap_succ (by omega)
  have wp : IntKind.i64.wrap (((n + 1 : Nat) : Int) - 1) = (n : Int) := wrap_pred (by omega)
  have hmin : minA [.int .i64 ((n + 1 : Nat) : Int), .int .i64 ((s.length + 1 : Nat) : Int)] = some (.int .i64 ((n + 1 : Nat) : Int)) := by
    simp only [minA]; rw [if_neg (by omega)]
  have h16 : (n + 1) * 16 ≤ 281474976710656 := by omega
  have hmx : n + 1 ≤ 9223372036854775807 := by omega
  apply EvX.seq
  apply EvX.reg0
  · intro call
    simp only [QRun, stepA, wantedA, opA, pureA, loadA, effA, binA, bin, evalA, ofV, ofCell, Fr.put, setArgs, kS, Nat.zero_testBit, Nat.reduceAdd, Nat.reduceSub, Nat.reduceLeDiff, decide_true, decide_false, Nat.reduceEqDiff, if_true, if_false, reduceIte, operands, Tryz.ntmps114]
    exact ⟨rfl, rfl⟩
  simp only [Ex.thn]
  apply EvX.seq
  apply EvX.seq
  apply EvX.reg0
  · intro call
    simp only [QRun, stepA, wantedA, opA, pureA, loadA, effA, binA, bin, evalA, ofV, ofCell, Fr.put, setArgs, kS, Nat.zero_testBit, Nat.reduceAdd, Nat.reduceSub, Nat.reduceLeDiff, decide_true, decide_false, Nat.reduceEqDiff, if_true, if_false, reduceIte, operands, show ((-1 : Int) == 0) = false from rfl, AV.cells, takeN, beq_self_eq_true, eq_self, kA1, kA2, kB]
    exact ⟨rfl, rfl⟩
  simp only [Ex.thn]
  apply EvX.cond2 (t := false)
  · simp only [evalA, Tr.get_set, Nat.reduceEqDiff, if_true, if_false, reduceIte]
  · intro h; cases h
  intro _
  apply EvX.skip
  simp only [Ex.thn, Ex.blk]
  apply EvX.seq
  apply EvX.seq
  apply EvX.reg0
  · intro call
    simp only [QRun, stepA, wantedA, opA, pureA, loadA, effA, binA, bin, evalA, ofV, ofCell, Fr.put, setArgs, kS, Nat.zero_testBit, Nat.reduceAdd, Nat.reduceSub, Nat.reduceLeDiff, decide_true, decide_false, Nat.reduceEqDiff, if_true, if_false, reduceIte, operands, natOf_nil, binS, eqNats, AV.cells, takeN, beq_self_eq_true, eq_self, kA1, kA2, kB]
    exact ⟨rfl, rfl⟩
  simp only [Ex.thn]
  apply EvX.cond2 (t := false)
  · simp only [evalA, Tr.get_set, Nat.reduceEqDiff, if_true, if_false, reduceIte]
  · intro h; cases h
  intro _
  apply EvX.skip
  simp only [Ex.thn, Ex.blk]
  apply EvX.seq
  apply EvX.seq
  apply EvX.reg0
  · intro call
    simp only [QRun, stepA, wantedA, opA, pureA, loadA, effA, binA, bin, evalA, ofV, ofCell, Fr.put, setArgs, kS, Nat.zero_testBit, Nat.reduceAdd, Nat.reduceSub, Nat.reduceLeDiff, decide_true, decide_false, Nat.reduceEqDiff, if_true, if_false, reduceIte, operands, show decide ((-1 : Int) < 0) = true from rfl, AV.cells, takeN, beq_self_eq_true, eq_self, kA1, kA2, kB]
    exact ⟨rfl, rfl⟩
  simp only [Ex.thn]
  apply EvX.cond2 (t := true)
  · simp only [evalA, Tr.get_set, Nat.reduceEqDiff, if_true, if_false, reduceIte]
  rotate_left
  · intro h; cases h
  intro _
  apply EvX.reg 0
  · intro k _
    simp only [QRun, stepA, wantedA, opA, pureA, loadA, effA, binA, bin, evalA, ofV, ofCell, Fr.put, setArgs, kS, Nat.zero_testBit, Nat.reduceAdd, Nat.reduceSub, Nat.reduceLeDiff, decide_true, decide_false, Nat.reduceEqDiff, if_true, if_false, reduceIte, operands, cl_167, c167, wn, AV.cells, takeN, beq_self_eq_true, eq_self, kA1, kA2, kB]
    exact ⟨rfl, rfl⟩
  simp only [Ex.thn, Ex.blk]
  apply EvX.seq
  apply EvX.reg0
  · intro call
    simp only [QRun, stepA, wantedA, opA, pureA, loadA, effA, binA, bin, evalA, ofV, ofCell, Fr.put, setArgs, kS, Nat.zero_testBit, Nat.reduceAdd, Nat.reduceSub, Nat.reduceLeDiff, decide_true, decide_false, Nat.reduceEqDiff, if_true, if_false, reduceIte, operands, lenS 9 st_9, wl, hmin, AV.cells, takeN, beq_self_eq_true, eq_self, kA1, kA2, kB]
    exact ⟨rfl, rfl⟩
  simp only [Ex.thn]
  have w0 : WFm (Mem.empty.fresh (some 9) (replicateA (n + 1) [.str []])) := fresh_wf WFm.empty _ _
  have b0 : WinC (Mem.empty.fresh (some 9) (replicateA (n + 1) [.str []])) 0 (n + 1) (replicateA (n + 1) [.str []]) 0 9 := by
    have := fresh_winC Mem.empty 9 (replicateA (n + 1) [.str []])
    rw [replicateA_length, List.length_singleton, Nat.mul_one] at this
    exact this
  generalize hM0 : Mem.empty.fresh (some 9) (replicateA (n + 1) [.str []]) = M0 at w0 b0
  apply EvX.seq
  apply EvX.reg0
  · intro call
    simp only [QRun, stepA, wantedA, opA, pureA, loadA, effA, binA, bin, evalA, ofV, ofCell, Fr.put, setArgs, kS, Nat.zero_testBit, Nat.reduceAdd, Nat.reduceSub, Nat.reduceLeDiff, decide_true, decide_false, Nat.reduceEqDiff, if_true, if_false, reduceIte, operands, natOf?, natOf_cast, h16, hmx, hM0, show Mem.empty.nxt = 0 from rfl, AV.cells, takeN, beq_self_eq_true, eq_self, kA1, kA2, kB]
    exact ⟨rfl, rfl⟩
  simp only [Ex.thn]
  apply EvX.seq
  apply EvX.reg0
  · intro call
    simp only [QRun, stepA, wantedA, opA, pureA, loadA, effA, binA, bin, evalA, ofV, ofCell, Fr.put, setArgs, kS, Nat.zero_testBit, Nat.reduceAdd, Nat.reduceSub, Nat.reduceLeDiff, decide_true, decide_false, Nat.reduceEqDiff, if_true, if_false, reduceIte, operands, wp, AV.cells, takeN, beq_self_eq_true, eq_self, kA1, kA2, kB]
    exact ⟨rfl, rfl⟩
  simp only [Ex.thn]
  apply EvX.seq
  apply EvX.reg0
  · intro call
    simp only [QRun, stepA, wantedA, opA, pureA, loadA, effA, binA, bin, evalA, ofV, ofCell, Fr.put, setArgs, kS, Nat.zero_testBit, Nat.reduceAdd, Nat.reduceSub, Nat.reduceLeDiff, decide_true, decide_false, Nat.reduceEqDiff, if_true, if_false, reduceIte, operands]
    exact ⟨rfl, rfl⟩
  simp only [Ex.thn]
  apply EvX.seq
  apply EvX.block
  refine EvX.loop (fun k fr m => ∃ (i : Nat) (ws : List (List Nat)) (cur : List Nat), k = n - i ∧ i ≤ n ∧ fr.n = 66 ∧ fr.t.get 0 = some (.str cur) ∧ fr.t.get 1 = some (.str [c]) ∧ fr.t.get 2 = some (.int .i64 0) ∧ fr.t.get 3 = some (.int .i64 (n : Int)) ∧ fr.t.get 9 = some (.sl 0 0 (n + 1) 1) ∧ fr.t.get 10 = some (.int .i64 (i : Int)) ∧
    WFm m ∧ WinC m 0 (n + 1) (encStrs ws ++ replicateA (n + 1 - i) [.str []]) 0 9 ∧ ws.length = i ∧ splitN c s = ws ++ splitN c cur ∧ cur.length ≤ s.length) ?_ n _ _
    ⟨0, [], s, by simp, by simp, rfl, by simp [Tr.get_set], by simp [Tr.get_set], by simp [Tr.get_set], by simp [Tr.get_set], by simp [Tr.get_set], by simp [Tr.get_set], w0, b0, rfl, rfl, Nat.le_refl _⟩
  rintro k fr m ⟨i, ws, cur, rfl, hil, hfn, h0, h1, h2, h3, h9, h10, hw, hb, hws, hsp, hcl⟩
  have hsc : (splitN c cur).length = n + 1 - i := by
    have := congrArg List.length hsp
    rw [List.length_append, hn, hws] at this
    omega
  apply EvX.seq
  apply EvX.seq
  apply EvX.reg0
  · intro call
    simp only [QRun, stepA, wantedA, opA, pureA, loadA, effA, binA, bin, evalA, ofV, ofCell, Fr.put, setArgs, kS, Nat.zero_testBit, Nat.reduceAdd, Nat.reduceSub, Nat.reduceLeDiff, decide_true, decide_false, Nat.reduceEqDiff, if_true, if_false, reduceIte, operands, hfn, h3, h10, AV.cells, takeN, beq_self_eq_true, eq_self, kA1, kA2, kB]
    exact ⟨rfl, rfl⟩
  simp only [Ex.thn]
  apply EvX.cond2
  · simp only [evalA, Tr.get_set, Nat.reduceEqDiff, if_true, if_false, reduceIte]; exact rfl
  rotate_left
  · intro hge
    have hge := of_decide_eq_false hge
    have hi : i = n := by omega
    subst hi
    have hcut : cutN c cur = none := by
      cases hc' : cutN c cur with
      | none => rfl
      | some p =>
        obtain ⟨a, b⟩ := p
        rw [splitN_cut hc', List.length_cons] at hsc
        have := List.length_pos_iff.2 (splitN_ne c b)
        omega
    rw [splitN_none hcut] at hsp
    obtain ⟨m1, st, w1, n1, k1, b1⟩ := hb.store hw (k := i) (zs := [.str cur]) (by simp) rfl
    have hcells : (encStrs ws ++ replicateA (i + 1 - i) [AV.str []]).take i ++ [AV.str cur] ++ (encStrs ws ++ replicateA (i + 1 - i) [AV.str []]).drop (i + [AV.str cur].length) = encStrs (splitN c s) := by
      rw [hsp, show i + 1 - i = 0 + 1 by omega, replicateA_append]
      have e1 : (encStrs ws).length = i := by rw [encStrs_length, hws]
      rw [List.take_left' e1, List.drop_of_length_le (by simp [e1, replicateA])]
      simp [encStrs]
    rw [hcells] at b1
    have hi1 : i + 1 ≤ i + 1 := Nat.le_refl _
    have wi : IntKind.i64.wrap ((i : Int) + 1) = ((i + 1 : Nat) : Int) := wrap_succ (by omega)
    apply EvX.exit
    simp only [Ex.thn, Ex.blk, beq_dec, decide_true, cond_true]
    apply EvX.seq
    apply EvX.reg0
    · intro call
      simp only [QRun, stepA, wantedA, opA, pureA, loadA, effA, binA, bin, evalA, ofV, ofCell, Fr.put, setArgs, kS, Nat.zero_testBit, Nat.reduceAdd, Nat.reduceSub, Nat.reduceLeDiff, decide_true, decide_false, Nat.reduceEqDiff, if_true, if_false, reduceIte, operands, hfn, h0, h9, h10, natOf?, natOf_cast, hi1, st, AV.cells, takeN, beq_self_eq_true, eq_self, kA1, kA2, kB]
      exact ⟨rfl, rfl⟩
    simp only [Ex.thn]
    apply EvX.seq
    apply EvX.reg0
    · intro call
      simp only [QRun, stepA, wantedA, opA, pureA, loadA, effA, binA, bin, evalA, ofV, ofCell, Fr.put, setArgs, kS, Nat.zero_testBit, Nat.reduceAdd, Nat.reduceSub, Nat.reduceLeDiff, decide_true, decide_false, Nat.reduceEqDiff, if_true, if_false, reduceIte, operands, hfn, h9, h10, sliceA, bounds, natOf?, natOf_cast, wi, Nat.zero_mul, Nat.sub_zero, AV.cells, takeN, beq_self_eq_true, eq_self, kA1, kA2, kB]
      exact ⟨rfl, rfl⟩
    simp only [Ex.thn]
    apply EvX.ret
    refine Fin.oneT (K := fun x m' => treeA 8 m' x = some (rowStrs c s)) (x := .sl 0 0 (i + 1) 1) (t := 8) rfl (by simp only [Tr.get_set, if_true, if_false, reduceIte, Nat.reduceEqDiff]) ?_
    obtain ⟨W, q, hW, _⟩ := b1.ownW
    have hos : OwnS 0 m1.nxt m1 (.sl 0 0 (i + 1) 1) 1 (i + 1) (encStrs (splitN c s)) := .inr ⟨by omega, by rw [encStrs_length, hn, Nat.mul_one], 0, W, q, rfl, by rw [Nat.mul_one]; exact hW⟩
    unfold rowStrs
    rw [hn]
    exact hos.tree (by omega) (by omega) (encStrs_tree 6 m1 _)
  intro hlt
  have hlt := of_decide_eq_true hlt
  have hlt : i < n := by omega
  have hlt' : i + 1 ≤ n + 1 := by omega
  obtain ⟨a, b, hcut⟩ : ∃ a b, cutN c cur = some (a, b) := by
    cases hc' : cutN c cur with
    | none => rw [splitN_none hc', List.length_singleton] at hsc; omega
    | some p => exact ⟨p.1, p.2, rfl⟩
  obtain ⟨q1, q2⟩ := cutN_spec hcut
  have hix : idx cur c 0 = ((a.length : Nat) : Int) := by rw [idx_cut, hcut]; rfl
  have hlen : cur.length = a.length + (b.length + 1) := by rw [q1]; simp
  have ht : cur.take a.length = a := by rw [q1]; simp
  have hd : cur.drop (a.length + 1) = b := by rw [q1]; simp
  have ct : cur.take cur.length = cur := List.take_length
  have d1 : decide (((a.length : Nat) : Int) < 0) = false := decide_eq_false (by omega)
  have ha' : a.length ≤ cur.length := by omega
  have ha'' : a.length + 1 ≤ cur.length := by omega
  have wa : IntKind.i64.wrap (((a.length : Nat) : Int) + 0) = ((a.length : Nat) : Int) := by rw [Int.add_zero]; exact wrap_nat (by omega)
  have wa0 : IntKind.i64.wrap ((a.length : Nat) : Int) = ((a.length : Nat) : Int) := wrap_nat (by omega)
  have wr : IntKind.i64.wrap (((a.length : Nat) : Int) + 1) = ((a.length + 1 : Nat) : Int) := wrap_succ (by omega)
  obtain ⟨m1, st, w1, n1, k1, b1⟩ := hb.store hw (k := i) (zs := [.str a]) (by simp; omega) rfl
  have hcells : (encStrs ws ++ replicateA (n + 1 - i) [AV.str []]).take i ++ [AV.str a] ++ (encStrs ws ++ replicateA (n + 1 - i) [AV.str []]).drop (i + [AV.str a].length) = encStrs (ws ++ [a]) ++ replicateA (n + 1 - (i + 1)) [AV.str []] := by
    rw [show n + 1 - i = (n + 1 - (i + 1)) + 1 by omega, replicateA_append]
    have e1 : (encStrs ws).length = i := by rw [encStrs_length, hws]
    have e2 : (encStrs ws ++ [AV.str []]).length = i + [AV.str a].length := by simp [e1]
    rw [List.take_left' e1, show encStrs ws ++ AV.str [] :: replicateA (n + 1 - (i + 1)) [AV.str []] = (encStrs ws ++ [AV.str []]) ++ replicateA (n + 1 - (i + 1)) [AV.str []] by simp, List.drop_left' e2]
    simp [encStrs]
  rw [hcells] at b1
  apply EvX.skip
  simp only [Ex.thn]
  apply EvX.block
  apply EvX.seq
  apply EvX.reg 0
  · intro k _
    simp only [QRun, stepA, wantedA, opA, pureA, loadA, effA, binA, bin, evalA, ofV, ofCell, Fr.put, setArgs, kS, Nat.zero_testBit, Nat.reduceAdd, Nat.reduceSub, Nat.reduceLeDiff, decide_true, decide_false, Nat.reduceEqDiff, if_true, if_false, reduceIte, operands, hfn, h0, h1, h2, h9, h10, AV.cells, takeN, beq_self_eq_true, eq_self, kA1, kA2, kB, cl_168, c168, hix]
    exact ⟨rfl, rfl⟩
  simp only [Ex.thn]
  apply EvX.seq
  apply EvX.seq
  apply EvX.reg0
  · intro call
    simp only [QRun, stepA, wantedA, opA, pureA, loadA, effA, binA, bin, evalA, ofV, ofCell, Fr.put, setArgs, kS, Nat.zero_testBit, Nat.reduceAdd, Nat.reduceSub, Nat.reduceLeDiff, decide_true, decide_false, Nat.reduceEqDiff, if_true, if_false, reduceIte, operands, hfn, d1, AV.cells, takeN, beq_self_eq_true, eq_self, kA1, kA2, kB]
    exact ⟨rfl, rfl⟩
  simp only [Ex.thn]
  apply EvX.cond2 (t := false)
  · simp only [evalA, Tr.get_set, Nat.reduceEqDiff, if_true, if_false, reduceIte]
  · intro h; cases h
  intro _
  apply EvX.skip
  simp only [Ex.thn, Ex.blk]
  apply EvX.seq
  apply EvX.reg0
  · intro call
    simp only [QRun, stepA, wantedA, opA, pureA, loadA, effA, binA, bin, evalA, ofV, ofCell, Fr.put, setArgs, kS, Nat.zero_testBit, Nat.reduceAdd, Nat.reduceSub, Nat.reduceLeDiff, decide_true, decide_false, Nat.reduceEqDiff, if_true, if_false, reduceIte, operands, hfn, h0, h1, h2, h9, h10, AV.cells, takeN, beq_self_eq_true, eq_self, kA1, kA2, kB, sliceA, bounds, natOf?, natOf_cast, wa, wa0, ha', ht, List.drop_zero, hlt', st, Int.add_zero]
    exact ⟨rfl, rfl⟩
  simp only [Ex.thn]
  apply EvX.seq
  apply EvX.reg0
  · intro call
    simp only [QRun, stepA, wantedA, opA, pureA, loadA, effA, binA, bin, evalA, ofV, ofCell, Fr.put, setArgs, kS, Nat.zero_testBit, Nat.reduceAdd, Nat.reduceSub, Nat.reduceLeDiff, decide_true, decide_false, Nat.reduceEqDiff, if_true, if_false, reduceIte, operands, hfn, h0, h1, h2, h9, h10, AV.cells, takeN, beq_self_eq_true, eq_self, kA1, kA2, kB, lenOne, sliceA, bounds, natOf?, natOf_cast, wr, ha'', hd, ct]
    exact ⟨rfl, rfl⟩
  simp only [Ex.thn]
  apply EvX.reg0
  · intro call
    simp only [QRun, stepA, wantedA, opA, pureA, loadA, effA, binA, bin, evalA, ofV, ofCell, Fr.put, setArgs, kS, Nat.zero_testBit, Nat.reduceAdd, Nat.reduceSub, Nat.reduceLeDiff, decide_true, decide_false, Nat.reduceEqDiff, if_true, if_false, reduceIte, operands, hfn, h10, wrap_succ (show i + 1 ≤ 9223372036854775807 by omega)]
    exact ⟨rfl, rfl⟩
  simp only [Ex.thn, Ex.blk]
  refine ⟨n - (i + 1), by omega, i + 1, ws ++ [a], b, rfl, by omega, trivial, ?_, ?_, ?_, ?_, ?_, ?_, w1, b1, by simp [hws], by rw [hsp, splitN_cut hcut]; simp, by omega⟩
  · simp [Tr.get_set]
  · simp [Tr.get_set, h1]
  · simp [Tr.get_set, h2]
  · simp [Tr.get_set, h3]
  · simp [Tr.get_set, h9]
  · simp [Tr.get_set]
def specSplit : List AV → Option AV
  | [.str s, .str [c]] => bif Nat.ble c 255 && Nat.ble s.length 1000000 then some (rowStrs c s) else none
  | _ => none
theorem specSplit_enc {s : List Nat} {c : Nat} (hc : c ≤ 255) (hs : s.length ≤ 1000000) : specSplit [.str s, .str [c]] = some (rowStrs c s) := by
  show (bif Nat.ble c 255 && Nat.ble s.length 1000000 then some (rowStrs c s) else none) = _
  rw [Nat.ble_eq_true_of_le hc, Nat.ble_eq_true_of_le hs]; rfl
theorem adopt_strs {m : Mem} (w : WFm m) (c : Nat) (s : List Nat) : ∃ x m', adoptA (rowStrs c s) m = (x, m') ∧ WFm m' ∧ KeepB m.nxt m m' ∧ OwnS m.nxt m'.nxt m' x 1 (splitN c s).length (encStrs (splitN c s)) := by
  obtain ⟨h1, h2, h3⟩ := adopt_row w (List.length_pos_iff.2 (splitN_ne c s)) (sz := 1) (by omega) (by rw [encStrs_length, Nat.mul_one]) (encStrs_plain (splitN c s))
  exact ⟨_, _, rfl, h1, h2, h3⟩
def p76 : PFn := ⟨76, specSplit⟩
theorem p76_ok : p76.OkT := by
  refine PFn.OkT.of (qs := []) (ps := [p114]) (fun q h => by cases h) (fun p h => by simp at h; subst h; exact p114_ok) (fun args y hs => ?_)
  have h' : ∃ s c, args = [.str s, .str [c]] ∧ c ≤ 255 ∧ s.length ≤ 1000000 ∧ y = rowStrs c s := by
    have h2 : specSplit args = some y := hs
    unfold specSplit at h2
    split at h2
    · rename_i s c
      cases hb : Nat.ble c 255 && Nat.ble s.length 1000000 with
      | false => rw [hb] at h2; cases h2
      | true =>
        rw [hb, cond_true, Option.some.injEq] at h2
        rw [Bool.and_eq_true_iff] at hb
        exact ⟨s, c, rfl, Nat.le_of_ble_eq_true hb.1, Nat.le_of_ble_eq_true hb.2, h2.symm⟩
    · cases h2
  clear hs
  obtain ⟨s, c, rfl, hc, hs, rfl⟩ := h'
  refine EvC.runT (K := fun x m' => treeA 8 m' x = some (rowStrs c s)) (by kernel_rfl) (by rw [CT_P]; exact Tryz.func76) rfl ?_
  obtain ⟨x, m', e, w', k', o'⟩ := adopt_strs WFm.empty c s
  have c114 := fun k => callT (qs := []) (ps := [p114]) (p := p114) (f := 114) rfl (D := drawA (CT [] [p114])) k Mem.empty (args := [.str s, .str [c], .int .i64 0, .int .i64 (-1)]) (args' := [.str s, .str [c], .int .i64 0, .int .i64 (-1)]) rfl (specGen_enc hc hs)
  rw [e] at c114
  apply EvX.seq
  apply EvX.reg0
  · intro call
    simp only [QRun, stepA, wantedA, opA, pureA, loadA, effA, binA, bin, evalA, ofV, ofCell, Fr.put, setArgs, kS, Nat.zero_testBit, Nat.reduceAdd, Nat.reduceSub, Nat.reduceLeDiff, decide_true, decide_false, Nat.reduceEqDiff, if_true, if_false, reduceIte, operands, Tryz.ntmps76]
    exact ⟨rfl, rfl⟩
  simp only [Ex.thn]
  apply EvX.seq
  apply EvX.reg 0
  · intro k _
    simp only [QRun, stepA, wantedA, opA, pureA, loadA, effA, binA, bin, evalA, ofV, ofCell, Fr.put, setArgs, kS, Nat.zero_testBit, Nat.reduceAdd, Nat.reduceSub, Nat.reduceLeDiff, decide_true, decide_false, Nat.reduceEqDiff, if_true, if_false, reduceIte, operands, cl_114, c114, AV.cells, takeN, beq_self_eq_true, eq_self, kA1, kA2, kB]
    exact ⟨rfl, rfl⟩
  simp only [Ex.thn]
  apply EvX.ret
  refine Fin.oneT (K := fun x m' => treeA 8 m' x = some (rowStrs c s)) (x := x) (t := 4) rfl (by simp only [Tr.get_set, if_true, if_false, reduceIte, Nat.reduceEqDiff]) ?_
  exact o'.tree (List.length_pos_iff.2 (splitN_ne c s)) (by omega) (encStrs_tree 6 m' _)
end Go.Vz
