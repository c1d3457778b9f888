/-
  Cutting and splitting at a byte, told.
-/
import Derived.Test.YtgagkmbhlpmceaaGreatDoorVzTx5
set_option linter.unusedVariables false
set_option linter.unusedSimpArgs false
namespace Go.Vz
open Go Go.Proofs
set_option maxHeartbeats 4000000
set_option maxRecDepth 20000
theorem sz_9 : sizeT Tryz.prog 9 = some 1 := by kernel_rfl
theorem ag_9 : aggT Tryz.prog 9 = some false := by kernel_rfl
theorem ze_9 : zeroT Tryz.prog 9 = some (.str []) := by kernel_rfl
theorem by_9 : bytesT Tryz.prog 9 = some 16 := by kernel_rfl
theorem kB : type_of% (And.intro st_9 (And.intro sz_9 (And.intro ag_9 (And.intro ze_9 (And.intro by_9 (And.intro Tryz.underlying142 (Tryz.underlying5))))))) := And.intro st_9 (And.intro sz_9 (And.intro ag_9 (And.intro ze_9 (And.intro by_9 (And.intro Tryz.underlying142 (Tryz.underlying5))))))
/-! ### plain -/
def cutN (c : Nat) : List Nat → Option (List Nat × List Nat)
  | [] => none
  | x :: s => if x = c then some ([], s) else (cutN c s).map fun p => (x :: p.1, p.2)
theorem idx_cut (c : Nat) : ∀ (s : List Nat) (i : Nat), idx s c i = match cutN c s with | none => -1 | some (a, _) => ((a.length + i : Nat) : Int)
  | [], i => rfl
  | x :: s, i => by
    unfold idx cutN
    by_cases h : x = c
    · subst h
      simp
    · rw [show Nat.beq x c = false by rw [beq_dec]; exact decide_eq_false h, cond_false, if_neg h, idx_cut c s (i + 1)]
      cases cutN c s with
      | none => rfl
      | some p =>
        show ((p.1.length + (i + 1) : Nat) : Int) = (((x :: p.1).length + i : Nat) : Int)
        rw [List.length_cons, show p.1.length + (i + 1) = p.1.length + 1 + i by omega]
theorem cutN_spec {c : Nat} : ∀ {s a b : List Nat}, cutN c s = some (a, b) → s = a ++ c :: b ∧ ¬ c ∈ a
  | [], a, b, h => by cases h
  | x :: s, a, b, h => by
    unfold cutN at h
    split at h
    · rename_i e
      simp only [Option.some.injEq, Prod.mk.injEq] at h
      obtain ⟨rfl, rfl⟩ := h
      exact ⟨by simp [e], by simp⟩
    · rename_i e
      cases hc : cutN c s with
      | none => rw [hc] at h; cases h
      | some p =>
        obtain ⟨a', b'⟩ := p
        rw [hc] at h
        simp only [Option.map_some, Option.some.injEq, Prod.mk.injEq] at h
        obtain ⟨rfl, rfl⟩ := h
        obtain ⟨h1, h2⟩ := cutN_spec hc
        refine ⟨by rw [h1]; rfl, fun h => ?_⟩
        rcases List.mem_cons.1 h with e' | e'
        · exact e e'.symm
        · exact h2 e'
theorem cutN_none {c : Nat} : ∀ {s : List Nat}, cutN c s = none → ¬ c ∈ s
  | [], _ => by simp
  | x :: s, h => by
    unfold cutN at h
    split at h
    · cases h
    · rename_i e
      have h' : cutN c s = none := by
        cases hc : cutN c s with
        | none => rfl
        | some p => rw [hc] at h; cases h
      intro hm
      rcases List.mem_cons.1 hm with e' | e'
      · exact e e'.symm
      · exact cutN_none h' e'
def splitN (c : Nat) : List Nat → List (List Nat)
  | [] => [[]]
  | x :: s => if x = c then [] :: splitN c s else match splitN c s with
    | w :: ws => (x :: w) :: ws
    | [] => [[x]]
theorem splitN_ne (c : Nat) : ∀ s, splitN c s ≠ []
  | [] => by simp [splitN]
  | x :: s => by
    unfold splitN
    split
    · simp
    · split <;> simp
theorem splitN_cut {c : Nat} : ∀ {s a b : List Nat}, cutN c s = some (a, b) → splitN c s = a :: splitN c b
  | [], a, b, h => by cases h
  | x :: s, a, b, h => by
    unfold cutN at h
    split at h
    · rename_i e
      simp only [Option.some.injEq, Prod.mk.injEq] at h
      obtain ⟨rfl, rfl⟩ := h
      rw [splitN, if_pos e]
    · rename_i e
      cases hc : cutN c s with
      | none => rw [hc] at h; cases h
      | some p =>
        obtain ⟨a', b'⟩ := p
        rw [hc] at h
        simp only [Option.map_some, Option.some.injEq, Prod.mk.injEq] at h
        obtain ⟨rfl, rfl⟩ := h
        rw [splitN, if_neg e, splitN_cut hc]
theorem splitN_none {c : Nat} : ∀ {s : List Nat}, cutN c s = none → splitN c s = [s]
  | [], _ => rfl
  | x :: s, h => by
    unfold cutN at h
    split at h
    · cases h
    · rename_i e
      have h' : cutN c s = none := by
        cases hc : cutN c s with
        | none => rfl
        | some p => rw [hc] at h; cases h
      rw [splitN, if_neg e, splitN_none h']
theorem cnt_add (c : Nat) : ∀ (s : List Nat) (i : Nat), cnt s c i = (splitN c s).length - 1 + i
  | [], i => by simp [cnt, splitN]
  | x :: s, i => by
    have hne := List.length_pos_iff.2 (splitN_ne c s)
    unfold cnt splitN
    by_cases h : x = c
    · subst h
      rw [Nat.beq_refl, cond_true, if_pos rfl, cnt_add x s (i + 1)]
      simp only [List.length_cons]
      omega
    · rw [show Nat.beq x c = false by rw [beq_dec]; exact decide_eq_false h, cond_false, if_neg h, cnt_add c s i]
      cases hs : splitN c s with
      | nil => exact absurd hs (splitN_ne c s)
      | cons w ws => simp
theorem splitN_len (c : Nat) : ∀ s : List Nat, (splitN c s).length ≤ s.length + 1
  | [] => by simp [splitN]
  | x :: s => by
    have ih := splitN_len c s
    unfold splitN
    split
    · simp; exact ih
    · split
      · rename_i w ws hs; rw [hs] at ih; simp at ih ⊢; omega
      · simp
theorem eqNats_eq : ∀ {a b : List Nat}, eqNats a b = true → a = b
  | [], [], _ => rfl
  | x :: a, y :: b, h => by
    simp only [eqNats, Bool.and_eq_true] at h
    rw [Nat.eq_of_beq_eq_true h.1, eqNats_eq h.2]
  | [], _ :: _, h => by simp [eqNats] at h
  | _ :: _, [], h => by simp [eqNats] at h
/-! ### the library's -/
theorem ext_187 (s : List Nat) {c : Nat} (hc : c ≤ 255) (m : Mem) : extS 187 [.str s, .int .u8 (c : Int)] m = some (.int .i64 (idx s c 0), m) := by
  show (bif Nat.ble c 255 then some (AV.int .i64 (idx s c 0), m) else none) = _
  rw [Nat.ble_eq_true_of_le hc]; rfl
theorem ext_191 (s : List Nat) {c : Nat} (hc : c ≤ 255) (m : Mem) : extS 191 [.str s, .int .u8 (c : Int)] m = some (.int .i64 (cnt s c 0 : Nat), m) := by
  show (bif Nat.ble c 255 then some (AV.int .i64 (cnt s c 0 : Nat), m) else none) = _
  rw [Nat.ble_eq_true_of_le hc]; rfl
theorem cl_187 (args : List AV) : calleeA Tryz.prog (.fn (.func 187) [] []) args = some (.ext 187 args) := by
  unfold calleeA
  simp only [Tryz.func187, show (Tryz.f187.name == "runtime.NumGoroutine") = false by kernel_rfl, show Tryz.f187.body.isSome = false by kernel_rfl, cond_false, List.nil_append, List.append_nil]
theorem cl_191 (args : List AV) : calleeA Tryz.prog (.fn (.func 191) [] []) args = some (.ext 191 args) := by
  unfold calleeA
  simp only [Tryz.func191, show (Tryz.f191.name == "runtime.NumGoroutine") = false by kernel_rfl, show Tryz.f191.body.isSome = false by kernel_rfl, cond_false, List.nil_append, List.append_nil]
theorem lenOne (c : Nat) : lenA Tryz.prog 9 (.str [c]) = some (.int .i64 1) := by simp only [lenA, st_9]; rfl
def specIdx : List AV → Option AV
  | [.str s, .str [c]] => bif Nat.ble c 255 then some (.int .i64 (idx s c 0)) else none
  | _ => none
theorem specIdx_enc (s : List Nat) {c : Nat} (hc : c ≤ 255) : specIdx [.str s, .str [c]] = some (.int .i64 (idx s c 0)) := by
  show (bif Nat.ble c 255 then some (AV.int .i64 (idx s c 0)) else none) = _
  rw [Nat.ble_eq_true_of_le hc]; rfl
theorem specIdx_some {args : List AV} {x : AV} (h : specIdx args = some x) : ∃ s c, args = [.str s, .str [c]] ∧ c ≤ 255 ∧ x = .int .i64 (idx s c 0) := by
  unfold specIdx at h
  split at h
  · rename_i s c
    cases hb : Nat.ble c 255 with
    | false => rw [hb] at h; cases h
    | true => rw [hb, cond_true, Option.some.injEq] at h; exact ⟨s, c, rfl, Nat.le_of_ble_eq_true hb, h.symm⟩
  · cases h
def p162 : PFn := ⟨162, fun | [.str s, .int .u8 (.ofNat c)] => bif Nat.ble c 255 then some (.int .i64 (idx s c 0)) else none | _ => none⟩
theorem p162_ok : p162.Ok := by
  refine PFn.Ok.ofT (qs := []) (ps := []) (fun q h => by cases h) (fun p h => by cases h) (fun args x h => ?_)
  simp only [p162] at h
  split at h
  rotate_left
  · cases h
  rename_i s c
  cases hb : Nat.ble c 255 with
  | false => rw [hb] at h; cases h
  | true =>
  rw [hb, cond_true, Option.some.injEq] at h
  subst h
  have hb := Nat.le_of_ble_eq_true hb
  have e1 := fun m => ext_187 s hb m
  refine ⟨rfl, EvC.run (by kernel_rfl) (by rw [CT_P]; exact Tryz.func162) rfl ?_⟩
  show EvX _ _ _ (enterA _ [.str s, .int .u8 (c : Int)]) _ _
  apply EvX.seq
  apply EvX.reg0
  · intro call
    simp only [QRun, stepA, wantedA, opA, pureA, loadA, effA, binA, bin, evalA, ofV, ofCell, Fr.put, setArgs, kS, Nat.zero_testBit, Nat.reduceAdd, Nat.reduceSub, Nat.reduceLeDiff, decide_true, decide_false, Nat.reduceEqDiff, if_true, if_false, reduceIte, operands, Tryz.ntmps162]
    exact ⟨rfl, rfl⟩
  simp only [Ex.thn]
  apply EvX.seq
  apply EvX.reg0
  · intro call
    simp only [QRun, stepA, wantedA, opA, pureA, loadA, effA, binA, bin, evalA, ofV, ofCell, Fr.put, setArgs, kS, Nat.zero_testBit, Nat.reduceAdd, Nat.reduceSub, Nat.reduceLeDiff, decide_true, decide_false, Nat.reduceEqDiff, if_true, if_false, reduceIte, operands, cl_187, CT_ext, e1, AV.cells, takeN, beq_self_eq_true, eq_self, kA1, kA2, kB]
    exact ⟨rfl, rfl⟩
  simp only [Ex.thn]
  apply EvX.ret
  exact Fin.one rfl (by simp only [Tr.get_set, if_true, if_false, reduceIte, Nat.reduceEqDiff])
theorem cl_162 (args : List AV) : calleeA Tryz.prog (.fn (.func 162) [] []) args = some (.enter 162 args) := by rw [callee_of Tryz.func162 (by kernel_rfl) (by kernel_rfl)]; simp
theorem cl_113 (args : List AV) : calleeA Tryz.prog (.fn (.func 113) [] []) args = some (.enter 113 args) := by rw [callee_of Tryz.func113 (by kernel_rfl) (by kernel_rfl)]; simp
theorem cl_168 (args : List AV) : calleeA Tryz.prog (.fn (.func 168) [] []) args = some (.enter 168 args) := by rw [callee_of Tryz.func168 (by kernel_rfl) (by kernel_rfl)]; simp
theorem cl_75 (args : List AV) : calleeA Tryz.prog (.fn (.func 75) [] []) args = some (.enter 75 args) := by rw [callee_of Tryz.func75 (by kernel_rfl) (by kernel_rfl)]; simp
theorem cl_44 (args : List AV) : calleeA Tryz.prog (.fn (.func 44) [] []) args = some (.enter 44 args) := by rw [callee_of Tryz.func44 (by kernel_rfl) (by kernel_rfl)]; simp
theorem cl_167 (args : List AV) : calleeA Tryz.prog (.fn (.func 167) [] []) args = some (.enter 167 args) := by rw [callee_of Tryz.func167 (by kernel_rfl) (by kernel_rfl)]; simp
theorem cl_114 (args : List AV) : calleeA Tryz.prog (.fn (.func 114) [] []) args = some (.enter 114 args) := by rw [callee_of Tryz.func114 (by kernel_rfl) (by kernel_rfl)]; simp
theorem cl_76 (args : List AV) : calleeA Tryz.prog (.fn (.func 76) [] []) args = some (.enter 76 args) := by rw [callee_of Tryz.func76 (by kernel_rfl) (by kernel_rfl)]; simp
def p113 : PFn := ⟨113, specIdx⟩
theorem p113_ok : p113.Ok := by
  refine PFn.Ok.ofT (qs := []) (ps := [p162]) (fun q h => by cases h) (fun p h => by simp at h; subst h; exact p162_ok.tree) (fun args x h => ?_)
  obtain ⟨s, c, rfl, hc, rfl⟩ := specIdx_some h
  clear h
  have c162 := fun k m => callTp (qs := []) (ps := [p162]) (p := p162) (f := 162) rfl (D := drawA (CT [] [p162])) k m (args := [.str s, .int .u8 (c : Int)]) (args' := [.str s, .int .u8 (c : Int)]) (x := .int .i64 (idx s c 0)) rfl (by show (bif Nat.ble c 255 then some (AV.int .i64 (idx s c 0)) else none) = _; rw [Nat.ble_eq_true_of_le hc]; rfl) rfl
  refine ⟨rfl, EvC.run (by kernel_rfl) (by rw [CT_P]; exact Tryz.func113) rfl ?_⟩
  apply EvX.seq
  apply EvX.reg0
  · intro call
    simp only [QRun, stepA, wantedA, opA, pureA, loadA, effA, binA, bin, evalA, ofV, ofCell, Fr.put, setArgs, kS, Nat.zero_testBit, Nat.reduceAdd, Nat.reduceSub, Nat.reduceLeDiff, decide_true, decide_false, Nat.reduceEqDiff, if_true, if_false, reduceIte, operands, Tryz.ntmps113]
    exact ⟨rfl, rfl⟩
  simp only [Ex.thn]
  apply EvX.seq
  apply EvX.reg0
  · intro call
    simp only [QRun, stepA, wantedA, opA, pureA, loadA, effA, binA, bin, evalA, ofV, ofCell, Fr.put, setArgs, kS, Nat.zero_testBit, Nat.reduceAdd, Nat.reduceSub, Nat.reduceLeDiff, decide_true, decide_false, Nat.reduceEqDiff, if_true, if_false, reduceIte, operands, lenOne, AV.cells, takeN, beq_self_eq_true, eq_self, kA1, kA2, kB]
    exact ⟨rfl, rfl⟩
  simp only [Ex.thn]
  apply EvX.seq
  apply EvX.block
  apply EvX.seq
  cases he : eqNats [c] s with
  | true =>
    have hs := eqNats_eq he
    subst hs
    apply EvX.reg0
    · intro call
      simp only [QRun, stepA, wantedA, opA, pureA, loadA, effA, binA, bin, evalA, ofV, ofCell, Fr.put, setArgs, kS, Nat.zero_testBit, Nat.reduceAdd, Nat.reduceSub, Nat.reduceLeDiff, decide_true, decide_false, Nat.reduceEqDiff, if_true, if_false, reduceIte, operands, binS, he, show ((1 : Int) == 0) = false from rfl, AV.cells, takeN, beq_self_eq_true, eq_self, kA1, kA2, kB]
      exact ⟨rfl, rfl⟩
    simp only [Ex.thn]
    apply EvX.cond2 (t := true)
    · simp only [evalA, Tr.get_set, Nat.reduceEqDiff, if_true, if_false, reduceIte]
    rotate_left
    · intro h; cases h
    intro _
    apply EvX.seq
    apply EvX.reg0
    · intro call
      simp only [QRun, stepA, wantedA, opA, pureA, loadA, effA, binA, bin, evalA, ofV, ofCell, Fr.put, setArgs, kS, Nat.zero_testBit, Nat.reduceAdd, Nat.reduceSub, Nat.reduceLeDiff, decide_true, decide_false, Nat.reduceEqDiff, if_true, if_false, reduceIte, operands]
      exact ⟨rfl, rfl⟩
    simp only [Ex.thn]
    apply EvX.ret
    simp only [Ex.thn, Ex.blk]
    exact Fin.one rfl (by simp [Tr.get_set, idx])
  | false =>
    apply EvX.reg0
    · intro call
      simp only [QRun, stepA, wantedA, opA, pureA, loadA, effA, binA, bin, evalA, ofV, ofCell, Fr.put, setArgs, kS, Nat.zero_testBit, Nat.reduceAdd, Nat.reduceSub, Nat.reduceLeDiff, decide_true, decide_false, Nat.reduceEqDiff, if_true, if_false, reduceIte, operands, binS, he, show ((1 : Int) == 0) = false from rfl, AV.cells, takeN, beq_self_eq_true, eq_self, kA1, kA2, kB]
      exact ⟨rfl, rfl⟩
    simp only [Ex.thn]
    apply EvX.cond2 (t := false)
    · simp only [evalA, Tr.get_set, Nat.reduceEqDiff, if_true, if_false, reduceIte]
    · intro h; cases h
    intro _
    apply EvX.seq
    apply EvX.reg0
    · intro call
      simp only [QRun, stepA, wantedA, opA, pureA, loadA, effA, binA, bin, evalA, ofV, ofCell, Fr.put, setArgs, kS, Nat.zero_testBit, Nat.reduceAdd, Nat.reduceSub, Nat.reduceLeDiff, decide_true, decide_false, Nat.reduceEqDiff, if_true, if_false, reduceIte, operands, show ((1 : Int) == 1) = true from rfl, AV.cells, takeN, beq_self_eq_true, eq_self, kA1, kA2, kB]
      exact ⟨rfl, rfl⟩
    simp only [Ex.thn]
    apply EvX.cond2 (t := true)
    · simp only [evalA, Tr.get_set, Nat.reduceEqDiff, if_true, if_false, reduceIte]
    rotate_left
    · intro h; cases h
    intro _
    apply EvX.seq
    apply EvX.reg 0
    · intro k _
      simp only [QRun, stepA, wantedA, opA, pureA, loadA, effA, binA, bin, evalA, ofV, ofCell, Fr.put, setArgs, kS, Nat.zero_testBit, Nat.reduceAdd, Nat.reduceSub, Nat.reduceLeDiff, decide_true, decide_false, Nat.reduceEqDiff, if_true, if_false, reduceIte, operands, natOf?, cl_162, c162, AV.cells, takeN, beq_self_eq_true, eq_self, kA1, kA2, kB]
      exact ⟨rfl, rfl⟩
    simp only [Ex.thn]
    apply EvX.ret
    simp only [Ex.thn, Ex.blk]
    exact Fin.one rfl (by simp only [Tr.get_set, if_true, if_false, reduceIte, Nat.reduceEqDiff])
def p168 : PFn := ⟨168, specIdx⟩
theorem p168_ok : p168.Ok := by
  refine PFn.Ok.ofT (qs := []) (ps := [p113]) (fun q h => by cases h) (fun p h => by simp at h; subst h; exact p113_ok.tree) (fun args x h => ?_)
  obtain ⟨s, c, rfl, hc, rfl⟩ := specIdx_some h
  clear h
  have c113 := fun k m => callTp (qs := []) (ps := [p113]) (p := p113) (f := 113) rfl (D := drawA (CT [] [p113])) k m (args := [.str s, .str [c]]) (args' := [.str s, .str [c]]) rfl (specIdx_enc s hc) rfl
  refine ⟨rfl, EvC.run (by kernel_rfl) (by rw [CT_P]; exact Tryz.func168) rfl ?_⟩
  apply EvX.seq
  apply EvX.reg0
  · intro call
    simp only [QRun, stepA, wantedA, opA, pureA, loadA, effA, binA, bin, evalA, ofV, ofCell, Fr.put, setArgs, kS, Nat.zero_testBit, Nat.reduceAdd, Nat.reduceSub, Nat.reduceLeDiff, decide_true, decide_false, Nat.reduceEqDiff, if_true, if_false, reduceIte, operands, Tryz.ntmps168]
    exact ⟨rfl, rfl⟩
  simp only [Ex.thn]
  apply EvX.seq
  apply EvX.reg 0
  · intro k _
    simp only [QRun, stepA, wantedA, opA, pureA, loadA, effA, binA, bin, evalA, ofV, ofCell, Fr.put, setArgs, kS, Nat.zero_testBit, Nat.reduceAdd, Nat.reduceSub, Nat.reduceLeDiff, decide_true, decide_false, Nat.reduceEqDiff, if_true, if_false, reduceIte, operands, cl_113, c113, AV.cells, takeN, beq_self_eq_true, eq_self, kA1, kA2, kB]
    exact ⟨rfl, rfl⟩
  simp only [Ex.thn]
  apply EvX.ret
  exact Fin.one rfl (by simp only [Tr.get_set, if_true, if_false, reduceIte, Nat.reduceEqDiff])
/-! ### Cut -/
def cutV (s : List Nat) (c : Nat) : AV := match cutN c s with
  | none => .tup [.str s, .str [], .bool false]
  | some (a, b) => .tup [.str a, .str b, .bool true]
theorem cutV_plain (s : List Nat) (c : Nat) : plainA (cutV s c) = true := by
  unfold cutV
  split <;> rfl
def specCut : List AV → Option AV
  | [.str s, .str [c]] => bif Nat.ble c 255 && Nat.ble s.length 9223372036854775806 then some (cutV s c) else none
  | _ => none
theorem specCut_enc {s : List Nat} {c : Nat} (hc : c ≤ 255) (hs : s.length ≤ 9223372036854775806) : specCut [.str s, .str [c]] = some (cutV s c) := by
  show (bif Nat.ble c 255 && Nat.ble s.length 9223372036854775806 then some (cutV s c) else none) = _
  rw [Nat.ble_eq_true_of_le hc, Nat.ble_eq_true_of_le hs]; rfl
theorem specCut_some {args : List AV} {x : AV} (h : specCut args = some x) : ∃ s c, args = [.str s, .str [c]] ∧ c ≤ 255 ∧ s.length ≤ 9223372036854775806 ∧ x = cutV s c := by
  unfold specCut at h
  split at h
  · rename_i s c
    cases hb : Nat.ble c 255 && Nat.ble s.length 9223372036854775806 with
    | false => rw [hb] at h; cases h
    | true =>
      rw [hb, cond_true, Option.some.injEq] at h
      rw [Bool.and_eq_true_iff] at hb
      exact ⟨s, c, rfl, Nat.le_of_ble_eq_true hb.1, Nat.le_of_ble_eq_true hb.2, h.symm⟩
  · cases h
theorem Fin.threeP {C : Cfg} {fn : Func} {t u v : Nat} {fr : Fr} {m : Mem} {x y z : AV} (hr : fn.results = #[.tmp t, .tmp u, .tmp v]) (hx : fr.t.get t = some x) (hy : fr.t.get u = some y) (hz : fr.t.get v = some z) : (match Ex.ret with | .exit _ => False | _ => True) ∧ ∃ xs, Vz.results C.P m fr fn.results.toList = some xs ∧ Vz.one xs = .tup [x, y, z] :=
  ⟨trivial, [x, y, z], by rw [hr]; simp [Vz.results, hx, hy, hz], rfl⟩
def p75 : PFn := ⟨75, specCut⟩
theorem p75_ok : p75.Ok := by
  refine PFn.Ok.ofT (qs := []) (ps := [p113]) (fun q h => by cases h) (fun p h => by simp at h; subst h; exact p113_ok.tree) (fun args x h => ?_)
  obtain ⟨s, c, rfl, hc, hs, rfl⟩ := specCut_some h
  clear h
  have c113 := fun k m => callTp (qs := []) (ps := [p113]) (p := p113) (f := 113) rfl (D := drawA (CT [] [p113])) k m (args := [.str s, .str [c]]) (args' := [.str s, .str [c]]) rfl (specIdx_enc s hc) rfl
  refine ⟨cutV_plain s c, EvC.run (by kernel_rfl) (by rw [CT_P]; exact Tryz.func75) rfl ?_⟩
  apply EvX.seq
  apply EvX.reg0
  · intro call
    simp only [QRun, stepA, wantedA, opA, pureA, loadA, effA, binA, bin, evalA, ofV, ofCell, Fr.put, setArgs, kS, Nat.zero_testBit, Nat.reduceAdd, Nat.reduceSub, Nat.reduceLeDiff, decide_true, decide_false, Nat.reduceEqDiff, if_true, if_false, reduceIte, operands, Tryz.ntmps75, natOf_nil]
    exact ⟨rfl, rfl⟩
  simp only [Ex.thn]
  apply EvX.seq
  apply EvX.seq
  apply EvX.reg 0
  · intro k _
    simp only [QRun, stepA, wantedA, opA, pureA, loadA, effA, binA, bin, evalA, ofV, ofCell, Fr.put, setArgs, kS, Nat.zero_testBit, Nat.reduceAdd, Nat.reduceSub, Nat.reduceLeDiff, decide_true, decide_false, Nat.reduceEqDiff, if_true, if_false, reduceIte, operands, cl_113, c113, AV.cells, takeN, beq_self_eq_true, eq_self, kA1, kA2, kB]
    exact ⟨rfl, rfl⟩
  simp only [Ex.thn]
  rw [idx_cut c s 0]
  unfold cutV
  cases hcut : cutN c s with
  | none =>
    simp only
    apply EvX.seq
    apply EvX.reg0
    · intro call
      simp only [QRun, stepA, wantedA, opA, pureA, loadA, effA, binA, bin, evalA, ofV, ofCell, Fr.put, setArgs, kS, Nat.zero_testBit, Nat.reduceAdd, Nat.reduceSub, Nat.reduceLeDiff, decide_true, decide_false, Nat.reduceEqDiff, if_true, if_false, reduceIte, operands, show decide ((-1 : Int) ≥ 0) = false from rfl, AV.cells, takeN, beq_self_eq_true, eq_self, kA1, kA2, kB]
      exact ⟨rfl, rfl⟩
    simp only [Ex.thn]
    apply EvX.cond2 (t := false)
    · simp only [evalA, Tr.get_set, Nat.reduceEqDiff, if_true, if_false, reduceIte]
    · intro h; cases h
    intro _
    apply EvX.skip
    simp only [Ex.thn, Ex.blk]
    apply EvX.seq
    apply EvX.reg0
    · intro call
      simp only [QRun, stepA, wantedA, opA, pureA, loadA, effA, binA, bin, evalA, ofV, ofCell, Fr.put, setArgs, kS, Nat.zero_testBit, Nat.reduceAdd, Nat.reduceSub, Nat.reduceLeDiff, decide_true, decide_false, Nat.reduceEqDiff, if_true, if_false, reduceIte, operands, natOf_nil]
      exact ⟨rfl, rfl⟩
    simp only [Ex.thn]
    apply EvX.ret
    exact Fin.threeP rfl (by simp only [Tr.get_set, if_true, if_false, reduceIte, Nat.reduceEqDiff]) (by simp only [Tr.get_set, if_true, if_false, reduceIte, Nat.reduceEqDiff]) (by simp only [Tr.get_set, if_true, if_false, reduceIte, Nat.reduceEqDiff])
  | some p =>
    obtain ⟨a, b⟩ := p
    obtain ⟨h1, h2⟩ := cutN_spec hcut
    have hlen : s.length = a.length + (b.length + 1) := by rw [h1]; simp
    have ht : s.take a.length = a := by rw [h1]; simp
    have hd : s.drop (a.length + 1) = b := by rw [h1]; simp
    have d1 : decide (((a.length : Nat) : Int) ≥ 0) = true := decide_eq_true (by omega)
    have ha' : a.length ≤ s.length := by omega
    have ha'' : a.length + 1 ≤ s.length := by omega
    have wr : IntKind.i64.wrap (((a.length : Nat) : Int) + 1) = ((a.length + 1 : Nat) : Int) := wrap_succ (by omega)
    have st : s.take s.length = s := List.take_length
    simp only [Nat.add_zero]
    apply EvX.seq
    apply EvX.reg0
    · intro call
      simp only [QRun, stepA, wantedA, opA, pureA, loadA, effA, binA, bin, evalA, ofV, ofCell, Fr.put, setArgs, kS, Nat.zero_testBit, Nat.reduceAdd, Nat.reduceSub, Nat.reduceLeDiff, decide_true, decide_false, Nat.reduceEqDiff, if_true, if_false, reduceIte, operands, d1, AV.cells, takeN, beq_self_eq_true, eq_self, kA1, kA2, kB]
      exact ⟨rfl, rfl⟩
    simp only [Ex.thn]
    apply EvX.cond2 (t := true)
    · simp only [evalA, Tr.get_set, Nat.reduceEqDiff, if_true, if_false, reduceIte]
    rotate_left
    · intro h; cases h
    intro _
    apply EvX.seq
    apply EvX.drw 0 0
    · kernel_rfl
    · intro k _
      simp only [QRun, stepA, wantedA, opA, pureA, loadA, effA, binA, bin, evalA, ofV, ofCell, Fr.put, setArgs, kS, Nat.zero_testBit, Nat.reduceAdd, Nat.reduceSub, Nat.reduceLeDiff, decide_true, decide_false, Nat.reduceEqDiff, if_true, if_false, reduceIte, operands, sliceA, bounds, natOf?, natOf_cast, lenOne, wr, ha', ha'', ht, hd, st, List.drop_zero, AV.cells, takeN, beq_self_eq_true, eq_self, kA1, kA2, kB]
      exact ⟨rfl, rfl⟩
    simp only [Ex.thn]
    apply EvX.ret
    simp only [Ex.thn, Ex.blk]
    exact Fin.threeP rfl (by simp only [Tr.get_set, if_true, if_false, reduceIte, Nat.reduceEqDiff]) (by simp only [Tr.get_set, if_true, if_false, reduceIte, Nat.reduceEqDiff]) (by simp only [Tr.get_set, if_true, if_false, reduceIte, Nat.reduceEqDiff])
def p44 : PFn := ⟨44, specCut⟩
theorem cutV_tup (s : List Nat) (c : Nat) : ∃ a b d, cutV s c = .tup [a, b, d] := by
  unfold cutV
  split
  · exact ⟨_, _, _, rfl⟩
  · exact ⟨_, _, _, rfl⟩
theorem p44_ok : p44.Ok := by
  refine PFn.Ok.ofT (qs := []) (ps := [p75]) (fun q h => by cases h) (fun p h => by simp at h; subst h; exact p75_ok.tree) (fun args x h => ?_)
  obtain ⟨s, c, rfl, hc, hs, rfl⟩ := specCut_some h
  clear h
  have c75 := fun k m => callTp (qs := []) (ps := [p75]) (p := p75) (f := 75) rfl (D := drawA (CT [] [p75])) k m (args := [.str s, .str [c]]) (args' := [.str s, .str [c]]) rfl (specCut_enc hc hs) (cutV_plain s c)
  refine ⟨cutV_plain s c, EvC.run (by kernel_rfl) (by rw [CT_P]; exact Tryz.func44) rfl ?_⟩
  obtain ⟨a, b, d, e⟩ := cutV_tup s c
  rw [e] at c75 ⊢
  apply EvX.seq
  apply EvX.reg0
  · intro call
    simp only [QRun, stepA, wantedA, opA, pureA, loadA, effA, binA, bin, evalA, ofV, ofCell, Fr.put, setArgs, kS, Nat.zero_testBit, Nat.reduceAdd, Nat.reduceSub, Nat.reduceLeDiff, decide_true, decide_false, Nat.reduceEqDiff, if_true, if_false, reduceIte, operands, Tryz.ntmps44, natOf_nil]
    exact ⟨rfl, rfl⟩
  simp only [Ex.thn]
  apply EvX.seq
  apply EvX.reg 0
  · intro k _
    simp only [QRun, stepA, wantedA, opA, pureA, loadA, effA, binA, bin, evalA, ofV, ofCell, Fr.put, setArgs, kS, Nat.zero_testBit, Nat.reduceAdd, Nat.reduceSub, Nat.reduceLeDiff, decide_true, decide_false, Nat.reduceEqDiff, if_true, if_false, reduceIte, operands, cl_75, c75, AV.cells, takeN, beq_self_eq_true, eq_self, kA1, kA2, kB]
    exact ⟨rfl, rfl⟩
  simp only [Ex.thn]
  apply EvX.ret
  exact Fin.threeP rfl (by simp only [Tr.get_set, if_true, if_false, reduceIte, Nat.reduceEqDiff]) (by simp only [Tr.get_set, if_true, if_false, reduceIte, Nat.reduceEqDiff]) (by simp only [Tr.get_set, if_true, if_false, reduceIte, Nat.reduceEqDiff])
end Go.Vz
