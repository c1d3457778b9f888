/-
  Both Texts, told.
-/
import Derived.Test.YtgagkmbhlpmceaaGreatDoorVzTx3
set_option linter.unusedVariables false
set_option linter.unusedSimpArgs false
namespace Go.Vz
open Go Go.Proofs
set_option maxHeartbeats 4000000
set_option maxRecDepth 20000
theorem co_5 : Tryz.prog.cellsOf 5 = 1 := by kernel_rfl
theorem bldString {qs : List MPrim} {ps : List PFn} (hp : (CT qs ps).isPrim 42 = false) {m : Mem} {v : Nat} {s cs : List Nat} (h : Bld m v s cs) (hmx : s.length ≤ 1000000000) : ∃ x m', x = .str s ∧ EvC (CT qs ps) (drawA (CT qs ps)) 42 [.ptr v 0] m x m' := by
  obtain ⟨⟨p, y, q1, q2, q3⟩, q4, q5⟩ := h
  have l1 : m.load (.ptr v 1) 1 = some [y] := q1.load (k := 1) (a := 1) (by omega)
  refine EvC.runT (K := fun x m' => x = .str s) hp (by rw [CT_P]; exact Tryz.func42) rfl ?_
  apply EvX.seq
  apply EvX.reg0
  · intro call
    simp only [QRun, stepA, wantedA, opA, pureA, loadA, effA, binA, bin, evalA, ofV, ofCell, Fr.put, setArgs, kS, Nat.zero_testBit, Nat.reduceAdd, Nat.reduceSub, Nat.reduceLeDiff, decide_true, decide_false, Nat.reduceEqDiff, if_true, if_false, reduceIte, operands, Tryz.ntmps42, natOf_nil]
    exact ⟨rfl, rfl⟩
  simp only [Ex.thn]
  rcases q3 with ⟨rfl, h0, h1, h2⟩ | ⟨hn, hl, vy, cl, rfl, rfl, wy⟩
  · have : s = [] := List.length_eq_zero_iff.1 h0
    subst this
    have hlen : lenA Tryz.prog 73 .nilsl = some (.int .i64 (Int.ofNat 0)) := by simp only [lenA, Tryz.underlying73]; rfl
    apply EvX.seq
    apply EvX.drw 0 0
    · kernel_rfl
    · intro k _
      simp only [QRun, stepA, wantedA, opA, pureA, loadA, effA, binA, bin, evalA, ofV, ofCell, Fr.put, setArgs, kS, Nat.zero_testBit, Nat.reduceAdd, Nat.reduceSub, Nat.reduceLeDiff, decide_true, decide_false, Nat.reduceEqDiff, if_true, if_false, reduceIte, operands, l1, hlen, AV.cells, takeN, beq_self_eq_true, eq_self, kA1, kA2, Tryz.underlying22, st_9, Tryz.underlying75, Tryz.underlying72, Tryz.underlying73, sz_72, sz_73, ag_72, ag_73, sz_75, sz_5, by_5, ze_5, ze_75, Tryz.underlying141, Tryz.underlying5]
      exact ⟨rfl, rfl⟩
    simp only [Ex.thn]
    apply EvX.ret
    exact Fin.oneT (K := fun x m' => x = .str []) (x := .str []) (t := 2) rfl (by simp only [Tr.get_set, if_true, if_false, reduceIte, Nat.reduceEqDiff]) rfl
  · obtain ⟨W, c, hW, hWc, hWty⟩ := wy.ownW
    have hlive := hW.live
    have hlo := hW.lo
    have hhi := hW.hi
    cases s with
    | nil => simp at hn
    | cons b s =>
      replace l1 : m.load (.ptr v 1) 1 = some [.sl vy 0 (s.length + 1) 1] := l1
      have hlen : lenA Tryz.prog 73 (.sl vy 0 (s.length + 1) 1) = some (.int .i64 (Int.ofNat (s.length + 1))) := by simp only [lenA, Tryz.underlying73]; rfl
      have hrd : W.read 0 (s.length + 1) = some (encB (b :: s)) := by have := hW.rd; rwa [Nat.mul_one] at this
      have hby := encB_bytes q5
      have hhi' : s.length + 1 ≤ W.hi := by rw [hhi]; simp
      have hbig : s.length + 1 ≤ 9223372036854775807 := by simp only [List.length_cons] at hmx; omega
      apply EvX.seq
      apply EvX.drw 0 0
      · kernel_rfl
      · intro k _
        simp only [QRun, stepA, wantedA, opA, pureA, loadA, effA, binA, bin, evalA, ofV, ofCell, Fr.put, setArgs, kS, Nat.zero_testBit, Nat.reduceAdd, Nat.reduceSub, Nat.reduceLeDiff, decide_true, decide_false, Nat.reduceEqDiff, if_true, if_false, reduceIte, operands, l1, hlen, hlive, hlo, hWty, hhi', hbig, hrd, hby, tyIs, co_5, AV.cells, takeN, beq_self_eq_true, eq_self, kA1, kA2, Tryz.underlying22, st_9, Tryz.underlying75, Tryz.underlying72, Tryz.underlying73, sz_72, sz_73, ag_72, ag_73, sz_75, sz_5, by_5, ze_5, ze_75, Tryz.underlying141, Tryz.underlying5]
        exact ⟨rfl, rfl⟩
      simp only [Ex.thn]
      apply EvX.ret
      exact Fin.oneT (K := fun x m' => x = .str (b :: s)) (x := .str (b :: s)) (t := 2) rfl (by simp only [Tr.get_set, if_true, if_false, reduceIte, Nat.reduceEqDiff]) rfl
theorem dig_bytes (n : Nat) : ∀ b ∈ dig n, b ≤ 255 := by
  intro b hb
  unfold dig at hb
  rw [List.mem_map] at hb
  obtain ⟨u, _, rfl⟩ := hb
  have := u.toNat_lt
  omega
theorem linePair_bytes {w : List Nat} (hw : ∀ b ∈ w, b ≤ 255) (p : Int × Int) : ∀ b ∈ linePair w p, b ≤ 255 := by
  intro b hb
  simp only [linePair, List.mem_append, List.mem_singleton] at hb
  rcases hb with ((((h | h) | h) | h) | h) | h
  · exact hw b h
  · omega
  · exact dig_bytes _ b h
  · omega
  · exact dig_bytes _ b h
  · omega
theorem lineFunc_bytes (a : Int) : ∀ b ∈ lineFunc a, b ≤ 255 := by
  intro b hb
  simp only [lineFunc, List.mem_append, List.mem_singleton] at hb
  rcases hb with ((h | h) | h) | h
  · simp only [wFunc, List.mem_cons, List.not_mem_nil, or_false] at h; omega
  · omega
  · exact dig_bytes _ b h
  · omega
theorem cl_40 (args : List AV) : calleeA Tryz.prog (.fn (.func 40) [] []) args = some (.enter 40 args) := by rw [callee_of Tryz.func40 (by kernel_rfl) (by kernel_rfl)]; simp
theorem writePairs {qs : List MPrim} {ps : List PFn} (h38 : (CT qs ps).isPrim 38 = false) (h39 : (CT qs ps).isPrim 39 = false) (h72 : (CT qs ps).isPrim 72 = false) (h40 : findP ps 40 = some p40) {m0 : Mem} {v : Nat} {s0 cs0 : List Nat} (w0 : WFm m0) (hB : Bld m0 v s0 cs0) {word : List Nat} (hwd : word.length ≤ 5) (hwb : ∀ b ∈ word, b ≤ 255) {x : AV} {l : List (Int × Int)} (hx : ipr x = some l) (hl : l.length ≤ 8192) (hok : ∀ p ∈ l, okPair p) (hs0 : s0.length ≤ 900000000) :
    ∃ x' m', (x' = .tup [] ∧ ∃ cs', WFm m' ∧ FrameC m0 m' (v :: cs0) ∧ Bld m' v (s0 ++ textPairs word l) cs' ∧ (∀ c ∈ cs', c ∈ cs0 ∨ m0.nxt ≤ c)) ∧ EvC (CT qs ps) (drawA (CT qs ps)) 38 [.str word, x, .ptr v 0] m0 x' m' := by
  refine EvC.runT (K := fun x' m' => x' = .tup [] ∧ ∃ cs', WFm m' ∧ FrameC m0 m' (v :: cs0) ∧ Bld m' v (s0 ++ textPairs word l) cs' ∧ (∀ c ∈ cs', c ∈ cs0 ∨ m0.nxt ≤ c)) h38 (by rw [CT_P]; exact Tryz.func38) rfl ?_
  have c40 := fun k (n : Nat) (hn : n ≤ 9223372036854775807) m => callTp (qs := qs) (ps := ps) (p := p40) (f := 40) h40 (D := drawA (CT qs ps)) k m (by simp only [mapO, view_int] : mapO (viewA 8 m) [.int .i64 (n : Int)] = some [.int .i64 (n : Int)]) (spec40 (a := (n : Int)) (by omega) (by omega)) rfl
  apply EvX.seq
  apply EvX.reg0
  · intro call
    simp only [QRun, stepA, wantedA, opA, pureA, loadA, effA, binA, bin, evalA, ofV, ofCell, Fr.put, setArgs, kS, Nat.zero_testBit, Nat.reduceAdd, Nat.reduceSub, Nat.reduceLeDiff, decide_true, decide_false, Nat.reduceEqDiff, if_true, if_false, reduceIte, operands, Tryz.ntmps38, ipr_len hx sl_t28, AV.cells, takeN, beq_self_eq_true, eq_self, kA1, kA2, Tryz.underlying22, st_9, Tryz.underlying75, Tryz.underlying72, Tryz.underlying73, sz_72, sz_73, ag_72, ag_73, sz_75, sz_5, by_5, ze_5, ze_75, Tryz.underlying141, Tryz.underlying5]
    exact ⟨rfl, rfl⟩
  simp only [Ex.thn]
  apply EvX.block
  refine EvX.loop (fun k fr m => ∃ (i : Nat) (cs : List Nat), k = l.length - i ∧ i ≤ l.length ∧ fr.n = 27 ∧ fr.t.get 0 = some (.str word) ∧ fr.t.get 2 = some (.ptr v 0) ∧ fr.t.get 7 = some x ∧ fr.t.get 8 = some (.int .i64 (l.length : Int)) ∧ fr.t.get 9 = some (.int .i64 (i : Int)) ∧
    WFm m ∧ FrameC m0 m (v :: cs0) ∧ Bld m v (s0 ++ textPairs word (l.take i)) cs ∧ (∀ c ∈ cs, c ∈ cs0 ∨ m0.nxt ≤ c)) ?_ l.length _ _
    ⟨0, cs0, by simp, by simp, rfl, by simp [Tr.get_set], by simp [Tr.get_set], by simp [Tr.get_set], by simp [Tr.get_set], by simp [Tr.get_set], w0, FrameC.refl _ _, by simpa [textPairs] using hB, fun c hc => .inl hc⟩
  rintro k fr m ⟨i, cs, rfl, hil, hfn, h0, h2, h7, h8, h9, hw, hf, hb, hcs⟩
  apply EvX.seq
  apply EvX.reg0
  · intro call
    simp only [QRun, stepA, wantedA, opA, pureA, loadA, effA, binA, bin, evalA, ofV, ofCell, Fr.put, setArgs, kS, Nat.zero_testBit, Nat.reduceAdd, Nat.reduceSub, Nat.reduceLeDiff, decide_true, decide_false, Nat.reduceEqDiff, if_true, if_false, reduceIte, operands, hfn, h8, h9, AV.cells, takeN, beq_self_eq_true, eq_self, kA1, kA2, Tryz.underlying22, st_9, Tryz.underlying75, Tryz.underlying72, Tryz.underlying73, sz_72, sz_73, ag_72, ag_73, sz_75, sz_5, by_5, ze_5, ze_75, Tryz.underlying141, Tryz.underlying5]
    exact ⟨rfl, rfl⟩
  simp only [Ex.thn]
  apply EvX.seq
  apply EvX.cond2
  · simp only [evalA, Tr.get_set, Nat.reduceEqDiff, if_true, if_false, reduceIte]; exact rfl
  rotate_left
  · intro hge
    have hge := of_decide_eq_false hge
    have hi : i = l.length := by omega
    subst hi
    rw [List.take_length] at hb
    apply EvX.exit
    simp only [Ex.thn, Ex.blk, beq_dec, decide_true, cond_true]
    exact ⟨trivial, [], rfl, rfl, cs, hw, hf, hb, hcs⟩
  intro hlt
  have hlt := of_decide_eq_true hlt
  have hlt : i < l.length := by omega
  have hlt' : i + 1 ≤ l.length := hlt
  have hmul : i * 2 ≤ l.length * 2 := by omega
  have hx0 := ipr_at hx hlt
  have h7' := h7
  rw [hx0] at h7'
  have hdr := dropPair hlt
  have htk := textPairs_take word hlt
  have hop := hok l[i] (List.getElem_mem _)
  have htl := textPairs_len hwd (l := l.take i) (fun q hq => hok q (List.mem_of_mem_take hq))
  rw [List.length_take, Nat.min_eq_left hil] at htl
  generalize hq : l[i] = q at hdr htk hop
  obtain ⟨qa, qb⟩ := q
  have hlp := linePair_len hwd hop
  unfold okPair at hop
  simp only at hop hdr
  obtain ⟨a, rfl⟩ := Int.eq_ofNat_of_zero_le hop.1
  obtain ⟨b, rfl⟩ := Int.eq_ofNat_of_zero_le hop.2.2.1
  have ha4 := dig_len (n := a) (by omega)
  have hb4 := dig_len (n := b) (by omega)
  have ca := fun k => c40 k a (by omega)
  have cb := fun k => c40 k b (by omega)
  obtain ⟨m1, st, w1, n1, k1, b1⟩ := box_winC hw 70 (zs := [.int .i64 0, .int .i64 0]) (xs := [.int .i64 a, .int .i64 b]) rfl rfl
  have ld0 : m1.load (.ptr m.nxt 0) 1 = some [.int .i64 a] := b1.load (k := 0) (a := 1) (by simp)
  have ld1 : m1.load (.ptr m.nxt 1) 1 = some [.int .i64 b] := b1.load (k := 1) (a := 1) (by simp)
  have hb1 := hb.frame k1 (by simp) (by simp)
  have hlb := linePair_bytes hwb ((a : Int), (b : Int))
  have hpos : 0 < (linePair word ((a : Int), (b : Int))).length := by simp only [linePair, List.length_append, List.length_singleton]; omega
  obtain ⟨m2, cs2, w2, k2, hb2, hc2, N, hN⟩ := writeString h39 h72 w1 hb1 hpos hlb (by rw [List.length_append]; omega)
  have f1 : binS .add word [32] = some (.str (word ++ [32])) := add_s (by simp only [List.length_append, List.length_singleton]; omega)
  have f2 : binS .add (word ++ [32]) (dig a) = some (.str (word ++ [32] ++ dig a)) := add_s (by simp only [List.length_append, List.length_singleton]; omega)
  have f3 : binS .add (word ++ [32] ++ dig a) [32] = some (.str (word ++ [32] ++ dig a ++ [32])) := add_s (by simp only [List.length_append, List.length_singleton]; omega)
  have f4 : binS .add (word ++ [32] ++ dig a ++ [32]) (dig b) = some (.str (word ++ [32] ++ dig a ++ [32] ++ dig b)) := add_s (by simp only [List.length_append, List.length_singleton]; omega)
  have f5 : binS .add (word ++ [32] ++ dig a ++ [32] ++ dig b) [10] = some (.str (linePair word ((a : Int), (b : Int)))) := add_s (by simp only [List.length_append, List.length_singleton]; omega)
  apply EvX.skip
  simp only [Ex.thn]
  apply EvX.seq
  apply EvX.block
  apply EvX.seq
  apply EvX.reg0
  · intro call
    simp only [QRun, stepA, wantedA, opA, pureA, loadA, effA, binA, bin, evalA, ofV, ofCell, Fr.put, setArgs, kS, Nat.zero_testBit, Nat.reduceAdd, Nat.reduceSub, Nat.reduceLeDiff, decide_true, decide_false, Nat.reduceEqDiff, if_true, if_false, reduceIte, operands, hfn, h0, h2, h7', h9, natOf?, natOf_cast, hlt', hmul, encPairs_length, hdr, List.drop_zero, List.drop_succ_cons, List.length_cons, takeN, Option.map_some, Nat.le_add_left, Nat.zero_le, AV.cells, takeN, beq_self_eq_true, eq_self, kA1, kA2, Tryz.underlying22, st_9, Tryz.underlying75, Tryz.underlying72, Tryz.underlying73, sz_72, sz_73, ag_72, ag_73, sz_75, sz_5, by_5, ze_5, ze_75, Tryz.underlying141, Tryz.underlying5, st]
    exact ⟨rfl, rfl⟩
  simp only [Ex.thn]
  apply EvX.drw 528 N
  · kernel_rfl
  · intro k hk
    simp only [QRun, stepA, wantedA, opA, pureA, loadA, effA, binA, bin, evalA, ofV, ofCell, Fr.put, setArgs, kS, Nat.zero_testBit, Nat.reduceAdd, Nat.reduceSub, Nat.reduceLeDiff, decide_true, decide_false, Nat.reduceEqDiff, if_true, if_false, reduceIte, operands, hfn, h0, h2, h7', h9, natOf?, natOf_cast, hlt', hmul, encPairs_length, hdr, List.drop_zero, List.drop_succ_cons, List.length_cons, takeN, Option.map_some, Nat.le_add_left, Nat.zero_le, AV.cells, takeN, beq_self_eq_true, eq_self, kA1, kA2, Tryz.underlying22, st_9, Tryz.underlying75, Tryz.underlying72, Tryz.underlying73, sz_72, sz_73, ag_72, ag_73, sz_75, sz_5, by_5, ze_5, ze_75, Tryz.underlying141, Tryz.underlying5, ld0, ld1, nat_sp, nat_nl, f1, f2, f3, f4, f5, cl_40, cl_39, ca, cb, Int.toNat_natCast, hN k hk, show Nat.testBit 528 0 = false from rfl, show Nat.testBit 528 1 = false from rfl, show Nat.testBit 528 2 = false from rfl, show Nat.testBit 528 3 = false from rfl, show Nat.testBit 528 4 = true from rfl, show Nat.testBit 528 5 = false from rfl, show Nat.testBit 528 6 = false from rfl, show Nat.testBit 528 7 = false from rfl, show Nat.testBit 528 8 = false from rfl, show Nat.testBit 528 9 = true from rfl, show Nat.testBit 528 10 = false from rfl, show Nat.testBit 528 11 = false from rfl, show Nat.testBit 528 12 = false from rfl]
    exact ⟨rfl, rfl⟩
  simp only [Ex.thn, Ex.blk]
  apply EvX.reg0
  · intro call
    simp only [QRun, stepA, wantedA, opA, pureA, loadA, effA, binA, bin, evalA, ofV, ofCell, Fr.put, setArgs, kS, Nat.zero_testBit, Nat.reduceAdd, Nat.reduceSub, Nat.reduceLeDiff, decide_true, decide_false, Nat.reduceEqDiff, if_true, if_false, reduceIte, operands, hfn, h9, wrap_succ (show i + 1 ≤ 9223372036854775807 by omega)]
    exact ⟨rfl, rfl⟩
  simp only [Ex.thn]
  refine ⟨l.length - (i + 1), by omega, i + 1, cs2, rfl, hlt', trivial, ?_, ?_, ?_, ?_, ?_, w2, ?_, ?_, ?_⟩
  · simp [Tr.get_set, h0]
  · simp [Tr.get_set, h2]
  · simp [Tr.get_set, h7]
  · simp [Tr.get_set, h8]
  · simp [Tr.get_set]
  · refine (hf.then k1 (by simp)).then k2 (fun c hc => ?_)
    rcases List.mem_cons.1 hc with e | e
    · exact .inl (by simp [e])
    · rcases hcs c e with e | e
      · exact .inl (by simp [e])
      · exact .inr e
  · rw [htk, ← List.append_assoc]; exact hb2
  · intro c hc
    have hn0 := hf.nxt
    rcases hc2 c hc with e | e
    · exact hcs c e
    · exact .inr (by omega)
end Go.Vz
