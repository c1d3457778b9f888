/-
  The reference's more and last, run; the plain law of its line.
-/
import Derived.Test.YtgagkmbhlpmceaaGreatDoorVzRa1
set_option linter.unusedVariables false
set_option linter.unusedSimpArgs false
namespace Go.Vz
open Go Go.Proofs
set_option maxHeartbeats 4000000
set_option maxRecDepth 20000
theorem kD : type_of% (And.intro Tryz.underlying3 (And.intro Tryz.underlying77 (And.intro Tryz.underlying22 (And.intro sz_24 (And.intro ag_24 (And.intro Tryz.underlying24 (And.intro by_30 (And.intro by_70 (And.intro natOf_0 (And.intro natOf_1 (And.intro pl_93 (And.intro pl_30 (And.intro pl_70 (ze_93)))))))))))))) := And.intro Tryz.underlying3 (And.intro Tryz.underlying77 (And.intro Tryz.underlying22 (And.intro sz_24 (And.intro ag_24 (And.intro Tryz.underlying24 (And.intro by_30 (And.intro by_70 (And.intro natOf_0 (And.intro natOf_1 (And.intro pl_93 (And.intro pl_30 (And.intro pl_70 (ze_93)))))))))))))
/-! ### the plain law -/
theorem goSums_step {f : Int} {q : Option Int} {a : Sm} {r : List Sm} (h : goSums f q (a :: r) = 0) (k : List Sm) : goSums f q (a :: k) = goSums f (some a.fn) k ∧ goSums f none (a :: k) = goSums f (some a.fn) k := by
  obtain ⟨h1, h2, h3, h4, _⟩ := goSums_cons.1 h
  constructor
  · rw [goSums, if_neg (by omega), if_neg h2, if_neg (by simpa using h3), if_neg (by simpa using h4)]
  · rw [goSums, if_neg (by omega), if_neg (notMore_none _), if_neg (by simpa using h3), if_neg (by simpa using h4)]
theorem goSums_end (s' : Sm) (r : List Sm) : ∀ (l0 : List Sm) (q : Option Int), goSums 1024 q (l0 ++ r) = 0 → goSums 1024 q (l0 ++ [s']) = match l0.getLast? with
    | none => goSums 1024 q [s']
    | some a => goSums 1024 none [a, s']
  | [], q, _ => rfl
  | [a], q, h => by
    rw [List.singleton_append] at h
    show goSums 1024 q [a, s'] = goSums 1024 none [a, s']
    rw [(goSums_step h [s']).1, (goSums_step h [s']).2]
  | a :: b :: l0, q, h => by
    rw [List.cons_append] at h ⊢
    rw [(goSums_step h _).1, goSums_end s' r (b :: l0) (some a.fn) (goSums_cons.1 h).2.2.2.2, List.getLast?_cons_cons]
    have hne : (b :: l0).getLast? ≠ none := by simp
    cases hg : (b :: l0).getLast? with
    | none => exact absurd hg hne
    | some x => rfl
theorem check_grown {l0 r : List Sm} {s' : Sm} (h : sumsErr 1024 (l0 ++ r) = 0) : sumsErr 1024 (l0 ++ [s']) = grownE (l0 ++ [s']) := by
  have hg : goSums 1024 none (l0 ++ r) = 0 := by
    unfold sumsErr at h
    split at h
    · cases h
    · split at h
      · cases h
      · exact h
  unfold grownE
  by_cases hl : (l0 ++ [s']).length > 256
  · rw [if_pos hl]
    unfold sumsErr
    rw [if_neg (by omega), if_pos hl]
  · rw [if_neg hl]
    unfold sumsErr
    rw [if_neg (by omega), if_neg hl, if_neg (by omega), if_neg (by rw [List.length_drop]; omega), goSums_end s' r l0 none hg]
    rcases List.eq_nil_or_concat l0 with rfl | ⟨k, a, rfl⟩
    · rfl
    · rw [List.concat_eq_append, List.getLast?_append]
      simp
def pushR (l : List Sm) (w : List Nat) (a b : Int) : Int × List Sm :=
  match l.getLast? with
  | none => (2, [])
  | some s => if w = wThrow then (sumsErr 1024 (l.dropLast ++ [{ s with th := s.th ++ [(a, b)] }]), l.dropLast ++ [{ s with th := s.th ++ [(a, b)] }])
    else if s.th ≠ [] then (13, [])
    else (sumsErr 1024 (l.dropLast ++ [{ s with ex := s.ex ++ [(a, b)] }]), l.dropLast ++ [{ s with ex := s.ex ++ [(a, b)] }])
/-- the reference's line -/
def lineR (l : List Sm) (s : List Nat) : Int × List Sm :=
  match splitN 32 s with
  | [w, a] => if w = wFunc then (match numN a with
    | some n => (sumsErr 1024 (l ++ [⟨n, [], []⟩]), l ++ [⟨n, [], []⟩])
    | none => (2, [])) else (2, [])
  | [w, a, b] => if w ≠ wExit ∧ w ≠ wThrow then (2, []) else (match numN a, numN b with
    | some a, some b => pushR l w a b
    | _, _ => (2, []))
  | _ => (2, [])
theorem pushR_eq {l : List Sm} (h : sumsErr 1024 l = 0) (w : List Nat) (a b : Int) : pushR l w a b = linePush l w a b := by
  unfold pushR linePush
  rcases List.eq_nil_or_concat l with rfl | ⟨k, s, rfl⟩
  · rfl
  · rw [List.concat_eq_append] at h ⊢
    rw [(last_snoc k s).1, (last_snoc k s).2]
    simp only
    rw [check_grown h, check_grown h]
theorem numsP_long : ∀ {ws : List (List Nat)} {n : List Int}, numsP ws = some n → n.length = ws.length
  | [], n, h => by simp only [numsP, Option.some.injEq] at h; subst h; rfl
  | w :: ws, n, h => by
    unfold numsP at h
    split at h
    · rename_i a l _ hl
      simp only [Option.some.injEq] at h
      subst h
      rw [List.length_cons, List.length_cons, numsP_long hl]
    · cases h
theorem lineR_eq {l : List Sm} (h : sumsErr 1024 l = 0) (s : List Nat) : lineR l s = lineP l s := by
  unfold lineR lineP
  match hs : splitN 32 s with
  | [] => exact absurd hs (splitN_ne 32 s)
  | [w] =>
    simp only [numsP]
    rw [if_neg (by rintro ⟨_, e⟩; simp at e)]
    split <;> rfl
  | [w, a] =>
    simp only [numsP]
    cases hn : numN a with
    | none => simp
    | some n =>
      simp only
      by_cases c : w = wFunc
      · rw [if_pos c, if_pos ⟨c, rfl⟩]
        have := check_grown (l0 := l) (r := []) (s' := ⟨(n : Int), [], []⟩) (by simpa using h)
        simp only [List.headD_cons]
        rw [this]
      · rw [if_neg c, if_neg (fun e => c e.1)]
        split <;> rfl
  | [w, a, b] =>
    simp only [numsP]
    by_cases c : w ≠ wExit ∧ w ≠ wThrow
    · rw [if_pos c]
      cases hn : numN a with
      | none => rfl
      | some n =>
        cases hm : numN b with
        | none => rfl
        | some m =>
          simp only
          rw [if_neg (by rintro ⟨_, e⟩; simp at e), if_pos c]
    · rw [if_neg c]
      cases hn : numN a with
      | none => rfl
      | some n =>
        cases hm : numN b with
        | none => rfl
        | some m =>
          simp only
          rw [if_neg (by rintro ⟨_, e⟩; simp at e), if_neg c, pushR_eq h]
  | w :: a :: b :: c :: ws =>
    simp only
    cases hn : numsP (a :: b :: c :: ws) with
    | none => rfl
    | some n =>
      have hl := numsP_long hn
      simp only [List.length_cons] at hl
      simp only
      rw [if_neg (by rintro ⟨_, e⟩; omega)]
      split
      · rfl
      · split
        · simp at hl
        · rfl
/-! ### memory -/
theorem load_frame {m m' : Mem} (w : WFm m) (k : FrameC m m' []) {v j n : Nat} {xs : List AV} (h : m.load (.ptr v j) n = some xs) : m'.load (.ptr v j) n = some xs := by
  unfold Mem.load at h ⊢
  simp only at h ⊢
  cases hl : m.live v with
  | none => rw [hl] at h; cases h
  | some p =>
    obtain ⟨W, c⟩ := p
    obtain ⟨h1, h2, h3⟩ := Mem.live_spec hl
    have hlt : W.cls < m.nxt := by
      rcases Nat.lt_or_ge W.cls m.nxt with e | e
      · exact e
      · rw [w.cls _ e] at h2; cases h2
    have e1 : m'.live v = some (W, c) := by
      rw [← hl]
      unfold Mem.live
      simp only [h1, k.obs v W h1 hlt (by simp), k.cls W.cls hlt (by simp)]
    rw [hl] at h
    rw [e1]
    exact h
/-- a copy in a class of its own -/
theorem SlC.copy {m : Mem} {y : AV} {sz n : Nat} {xs : List AV} {cs : List Nat} {e : TypeId} (w : WFm m) (h : SlC m y sz n xs cs e) {bytes : Nat} (hc : allCells xs = true) (hb1 : n * bytes ≤ 140737488355328) (hb2 : n ≤ 9223372036854775807) :
    ∃ y' m' cs', sourceA m sz y = some (n, xs) ∧ appendA e sz bytes m .nilsl n xs = some (y', m') ∧ WFm m' ∧ FrameC m m' [] ∧ SlC m' y' sz n xs cs' e ∧ (∀ c ∈ cs', m.nxt ≤ c) := by
  rcases h with ⟨rfl, rfl, rfl, rfl⟩ | ⟨h1, h2, v, cl, rfl, rfl, h4⟩
  · exact ⟨.nilsl, m, [], rfl, rfl, w, FrameC.refl _ _, .inl ⟨rfl, rfl, rfl, rfl⟩, fun c hc => by cases hc⟩
  · obtain ⟨y', m', cs', a1, a2, a3, a4, a5, a6⟩ := SlC.append w (.inl ⟨rfl, rfl, rfl, rfl⟩ : SlC m .nilsl sz 0 [] [] e) (bytes := bytes) (n' := n) (zs := xs) h1 h2 hc (by rw [Nat.zero_add]; exact hb1) (by omega)
    refine ⟨y', m', cs', ?_, a1, a2, a3, by rw [Nat.zero_add, List.nil_append] at a4; exact a4, fun c hc => ?_⟩
    · have := h4.load (k := 0) (a := n * sz) (by omega)
      rw [List.drop_zero, List.take_of_length_le (by omega)] at this
      simp only [sourceA, Nat.beq_refl, cond_true, this]
    · rcases a6 with rfl | rfl
      · cases hc
      · rw [List.mem_singleton] at hc; omega
theorem encPairs_snoc (a b : Int) : ∀ l : List (Int × Int), encPairs l ++ [AV.int .i64 a, .int .i64 b] = encPairs (l ++ [(a, b)])
  | [] => rfl
  | p :: l => by
    have ih := encPairs_snoc a b l
    simp only [encPairs, List.cons_append, ih]
theorem encPairs_cells : ∀ l : List (Int × Int), allCells (encPairs l) = true
  | [] => rfl
  | p :: l => by
    have ih := encPairs_cells l
    simp only [encPairs, allCells, ih]
    rfl
theorem moreRun {qs : List MPrim} {ps : List PFn} (h86 : (CT qs ps).isPrim 86 = false) {m : Mem} {e : AV} {l : List (Int × Int)} {ce : List Nat} (w : WFm m) (h : SlC m e 2 l.length (encPairs l) ce 70) (a b : Int) (hl : l.length ≤ 1000000) :
    ∃ y m', (WFm m' ∧ FrameC m m' [] ∧ ∃ cs, SlC m' y 2 (l ++ [(a, b)]).length (encPairs (l ++ [(a, b)])) cs 70 ∧ ∀ c ∈ cs, m.nxt ≤ c) ∧ EvC (CT qs ps) (drawA (CT qs ps)) 86 [e, .int .i64 a, .int .i64 b] m y m' := by
  obtain ⟨y1, M1, c1, s1, a1, w1, k1, o1, n1⟩ := h.copy w (bytes := 16) (encPairs_cells l) (by omega) (by omega)
  obtain ⟨y2, M2, c2, s2, a2, w2, k2, o2, n2, hc2⟩ := o1.appendLit w1 (bytes := 16) (zs := [.int .i64 a, .int .i64 b]) rfl rfl (by omega) (by omega)
  refine EvC.runT (K := fun y m' => WFm m' ∧ FrameC m m' [] ∧ ∃ cs, SlC m' y 2 (l ++ [(a, b)]).length (encPairs (l ++ [(a, b)])) cs 70 ∧ ∀ c ∈ cs, m.nxt ≤ c) h86 (by rw [CT_P]; exact Tryz.func86) rfl ?_
  apply EvX.seq
  apply EvX.reg0
  · intro call
    simp only [QRun, stepA, wantedA, opA, pureA, loadA, effA, binA, bin, evalA, ofV, ofCell, Fr.put, setArgs, kS, Nat.zero_testBit, Nat.reduceAdd, Nat.reduceSub, Nat.reduceLeDiff, decide_true, decide_false, Nat.reduceEqDiff, if_true, if_false, reduceIte, operands, Tryz.ntmps86]
    exact ⟨rfl, rfl⟩
  simp only [Ex.thn]
  apply EvX.seq
  apply EvX.reg0
  · intro call
    simp only [QRun, stepA, wantedA, opA, pureA, loadA, effA, binA, bin, evalA, ofV, ofCell, Fr.put, setArgs, kS, Nat.zero_testBit, Nat.reduceAdd, Nat.reduceSub, Nat.reduceLeDiff, decide_true, decide_false, Nat.reduceEqDiff, if_true, if_false, reduceIte, operands]
    exact ⟨rfl, rfl⟩
  simp only [Ex.thn]
  apply EvX.seq
  apply EvX.reg0
  · intro call
    simp only [QRun, stepA, wantedA, opA, pureA, loadA, effA, binA, bin, evalA, ofV, ofCell, Fr.put, setArgs, kS, Nat.zero_testBit, Nat.reduceAdd, Nat.reduceSub, Nat.reduceLeDiff, decide_true, decide_false, Nat.reduceEqDiff, if_true, if_false, reduceIte, operands, s1, a1, AV.cells, takeN, beq_self_eq_true, eq_self, kA1, kA2, kB, kD]
    exact ⟨rfl, rfl⟩
  simp only [Ex.thn]
  apply EvX.seq
  apply EvX.reg0
  · intro call
    simp only [QRun, stepA, wantedA, opA, pureA, loadA, effA, binA, bin, evalA, ofV, ofCell, Fr.put, setArgs, kS, Nat.zero_testBit, Nat.reduceAdd, Nat.reduceSub, Nat.reduceLeDiff, decide_true, decide_false, Nat.reduceEqDiff, if_true, if_false, reduceIte, operands, s2, a2, partsA, fillA, putCells, replicateA, List.append_nil, List.nil_append, List.cons_append, Nat.reduceMul, allCells, AV.isCell, AV.cells, takeN, beq_self_eq_true, eq_self, kA1, kA2, kB, kD]
    exact ⟨rfl, rfl⟩
  simp only [Ex.thn]
  apply EvX.seq
  apply EvX.reg0
  · intro call
    simp only [QRun, stepA, wantedA, opA, pureA, loadA, effA, binA, bin, evalA, ofV, ofCell, Fr.put, setArgs, kS, Nat.zero_testBit, Nat.reduceAdd, Nat.reduceSub, Nat.reduceLeDiff, decide_true, decide_false, Nat.reduceEqDiff, if_true, if_false, reduceIte, operands]
    exact ⟨rfl, rfl⟩
  simp only [Ex.thn]
  apply EvX.ret
  refine Fin.oneT (K := fun y m' => WFm m' ∧ FrameC m m' [] ∧ ∃ cs, SlC m' y 2 (l ++ [(a, b)]).length (encPairs (l ++ [(a, b)])) cs 70 ∧ ∀ c ∈ cs, m.nxt ≤ c) (x := y2) (t := 6) rfl (by simp only [Tr.get_set, if_true, if_false, reduceIte, Nat.reduceEqDiff]) ?_
  refine ⟨w2, k1.then k2 (fun c hc => .inr (n1 c hc)), c2, ?_, fun c hc => ?_⟩
  · rw [encPairs_snoc] at o2; rw [List.length_append]; exact o2
  · rcases hc2 c hc with e1 | e1
    · exact n1 c e1
    · have := k1.nxt; omega
/-- a result and a cell's aggregate -/
theorem Fin.cellT {C : Cfg} {fn : Func} {t u ty sz : Nat} {fr : Fr} {m : Mem} {x p : AV} {xs : List AV} {K : AV → Mem → Prop} (hr : fn.results = #[.tmp t, .cell u ty]) (hx : fr.t.get t = some x) (hu : fr.t.get u = some p) (hs : sizeT C.P ty = some sz) (hg : aggT C.P ty = some true) (hl : m.load p sz = some xs) (hk : K (.tup [x, .agg xs]) m) : (match Ex.ret with | .exit _ => False | _ => True) ∧ ∃ ys, Vz.results C.P m fr fn.results.toList = some ys ∧ K (Vz.one ys) m :=
  ⟨trivial, [x, .agg xs], by rw [hr]; simp [Vz.results, hx, hu, hs, hg, hl], hk⟩
def LastPost (m : Mem) (fn : Int) (e t : AV) (x0 : List AV) (n : Nat) (x : AV) (m' : Mem) : Prop := WFm m' ∧ FrameC m m' [] ∧ ∃ y c0, x = .tup [y, .agg [.int .i64 fn, e, t]] ∧ SlC m' y 3 n x0 c0 30 ∧ ∀ c ∈ c0, m.nxt ≤ c
theorem lastRun {qs : List MPrim} {ps : List PFn} (h85 : (CT qs ps).isPrim 85 = false) {m : Mem} {y : AV} {l0 : List Sm} {s : Sm} {v : Nat} {e t : AV} {cl : Nat} {x0 : List AV} {c1 ce ct : List Nat} (w : WFm m) (h : LastC m y l0 s v e t cl x0 c1 ce ct) (hl : l0.length ≤ 1000000) :
    ∃ x m', LastPost m s.fn e t x0 l0.length x m' ∧ EvC (CT qs ps) (drawA (CT qs ps)) 85 [y] m x m' := by
  have hy := h.y
  subst hy
  have hx0 := h.len
  have kf := fresh_frame m (some 30) [.int .i64 0, .nilsl, .nilsl] [] w
  have wf := fresh_wf w (some 30) [.int .i64 0, .nilsl, .nilsl]
  have h1 := h.frame kf (fun c _ hc => by cases hc)
  have hlen : lenA Tryz.prog 22 (.sl v 0 (l0.length + 1) 3) = some (.int .i64 ((l0.length + 1 : Nat) : Int)) := by simp only [lenA, Tryz.underlying22]
  have wp : IntKind.i64.wrap (((l0.length + 1 : Nat) : Int) - 1) = (l0.length : Int) := wrap_pred (by omega)
  have hle : l0.length ≤ l0.length + 1 := Nat.le_succ _
  have hlt1 : l0.length + 1 ≤ l0.length + 1 := Nat.le_refl _
  have hsub : l0.length - 0 = l0.length := Nat.sub_zero _
  obtain ⟨y1, M2, c0, s1, a1, w2, k2, o2, n2⟩ : ∃ y1 M2 c0, sourceA (m.fresh (some 30) [.int .i64 0, .nilsl, .nilsl]) 3 (.sl v 0 l0.length 3) = some (l0.length, x0) ∧ appendA 30 3 56 (m.fresh (some 30) [.int .i64 0, .nilsl, .nilsl]) .nilsl l0.length x0 = some (y1, M2) ∧ WFm M2 ∧ FrameC (m.fresh (some 30) [.int .i64 0, .nilsl, .nilsl]) M2 [] ∧ SlC M2 y1 3 l0.length x0 c0 30 ∧ (∀ c ∈ c0, (m.fresh (some 30) [.int .i64 0, .nilsl, .nilsl]).nxt ≤ c) := by
    have hld := h1.win.load (k := 0) (a := l0.length * 3) (by omega)
    rw [List.drop_zero, List.take_left' hx0] at hld
    have hsrc : sourceA (m.fresh (some 30) [.int .i64 0, .nilsl, .nilsl]) 3 (.sl v 0 l0.length 3) = some (l0.length, x0) := by simp only [sourceA, Nat.beq_refl, cond_true, hld]
    rcases Nat.eq_zero_or_pos l0.length with e0 | e0
    · have : x0 = [] := List.length_eq_zero_iff.1 (by omega)
      subst this
      exact ⟨.nilsl, _, [], hsrc, by rw [e0]; rfl, wf, FrameC.refl _ _, by rw [e0]; exact .inl ⟨rfl, rfl, rfl, rfl⟩, fun c hc => by cases hc⟩
    · obtain ⟨y', m', cs', q1, q2, q3, q4, q5, q6⟩ := SlC.append wf (.inl ⟨rfl, rfl, rfl, rfl⟩ : SlC _ .nilsl 3 0 [] [] 30) (bytes := 56) (n' := l0.length) (zs := x0) e0 hx0 h.rows.cells (by omega) (by omega)
      refine ⟨y', m', cs', hsrc, q1, q2, q3, by rw [Nat.zero_add, List.nil_append] at q4; exact q4, fun c hc => ?_⟩
      rcases q6 with rfl | rfl
      · cases hc
      · rw [List.mem_singleton] at hc; omega
  have b2 : WinC M2 m.nxt 3 [.int .i64 0, .nilsl, .nilsl] m.nxt 30 := (fresh_winC m 30 [.int .i64 0, .nilsl, .nilsl]).frame k2 (fun hc => by cases hc)
  have h2 := h1.frame k2 (fun c _ hc => by cases hc)
  have hec := h.ex.cell
  have htc := h.th.cell
  have hld2 : M2.load (.ptr v (l0.length * 3)) 3 = some [.int .i64 s.fn, e, t] := by
    have := h2.win.load (k := l0.length * 3) (a := 3) (by omega)
    rw [List.drop_left' hx0] at this
    exact this
  have hld2' : M2.load (.ptr v (0 + l0.length * 3)) 3 = some [.int .i64 s.fn, e, t] := by rw [Nat.zero_add]; exact hld2
  obtain ⟨M3, st3, w3, n3, k3, b3⟩ := b2.store w2 (k := 0) (zs := [.int .i64 s.fn, e, t]) (by simp) (by show (true && (e.isCell && (t.isCell && true))) = true; rw [hec, htc]; rfl)
  have hcells : (AV.agg [.int .i64 s.fn, e, t]).cells = [.int .i64 s.fn, e, t] := by rw [cells_agg]
  have hnx : m.nxt + 1 ≤ M2.nxt := by have := k2.nxt; rw [fresh_nxt] at this; exact this
  have kk : FrameC m M3 [] := ((kf.then k2 (fun c hc => .inl hc)).then k3 (fun c hc => by rw [List.mem_singleton] at hc; subst hc; exact .inr (Nat.le_refl _)))
  have o3 := o2.frame k3 (fun c hc he => by rw [List.mem_singleton] at he; subst he; have := n2 m.nxt hc; rw [fresh_nxt] at this; omega)
  have ld3 : M3.load (.ptr m.nxt 0) 3 = some [.int .i64 s.fn, e, t] := by
    have := b3.load (k := 0) (a := 3) (by omega)
    simpa using this
  refine EvC.runT (K := fun x m' => LastPost m s.fn e t x0 l0.length x m') h85 (by rw [CT_P]; exact Tryz.func85) rfl ?_
  apply EvX.seq
  apply EvX.reg0
  · intro call
    simp only [QRun, stepA, wantedA, opA, pureA, loadA, effA, binA, bin, evalA, ofV, ofCell, Fr.put, setArgs, kS, Nat.zero_testBit, Nat.reduceAdd, Nat.reduceSub, Nat.reduceLeDiff, decide_true, decide_false, Nat.reduceEqDiff, if_true, if_false, reduceIte, operands, Tryz.ntmps85, partsA, fillA, putCells, replicateA, List.append_nil, List.nil_append, List.cons_append, Nat.reduceMul, allCells, AV.isCell, AV.cells, takeN, beq_self_eq_true, eq_self, kA1, kA2, kB, kD]
    exact ⟨rfl, rfl⟩
  simp only [Ex.thn]
  apply EvX.seq
  apply EvX.reg0
  · intro call
    simp only [QRun, stepA, wantedA, opA, pureA, loadA, effA, binA, bin, evalA, ofV, ofCell, Fr.put, setArgs, kS, Nat.zero_testBit, Nat.reduceAdd, Nat.reduceSub, Nat.reduceLeDiff, decide_true, decide_false, Nat.reduceEqDiff, if_true, if_false, reduceIte, operands]
    exact ⟨rfl, rfl⟩
  simp only [Ex.thn]
  apply EvX.seq
  apply EvX.reg0
  · intro call
    simp only [QRun, stepA, wantedA, opA, pureA, loadA, effA, binA, bin, evalA, ofV, ofCell, Fr.put, setArgs, kS, Nat.zero_testBit, Nat.reduceAdd, Nat.reduceSub, Nat.reduceLeDiff, decide_true, decide_false, Nat.reduceEqDiff, if_true, if_false, reduceIte, operands, sliceA, bounds, natOf?, natOf_cast, natOf_0, natOf_1, Nat.zero_mul, Nat.mul_one, Nat.one_mul, hle, hlt1, Nat.zero_lt_succ, Nat.le_add_left, hlen, wp, hsub, s1, a1, AV.cells, takeN, beq_self_eq_true, eq_self, kA1, kA2, kB, kD]
    exact ⟨rfl, rfl⟩
  simp only [Ex.thn]
  apply EvX.seq
  apply EvX.drwA 0 [M2] 0
  · kernel_rfl
  · intro k _
    simp only [QRunA, stepA, wantedA, opA, pureA, loadA, effA, binA, bin, evalA, ofV, ofCell, Fr.put, setArgs, kS, Nat.reduceAdd, Nat.reduceSub, Nat.reduceLeDiff, decide_true, decide_false, Nat.reduceEqDiff, if_true, if_false, reduceIte, operands, sliceA, bounds, natOf?, natOf_cast, natOf_0, natOf_1, Nat.zero_mul, Nat.mul_one, Nat.one_mul, hle, hlt1, Nat.zero_lt_succ, Nat.le_add_left, hlen, wp, hld2, hld2', hcells, st3, List.mem_cons, List.not_mem_nil, or_false, or_true, true_or, forall_eq_or_imp, forall_eq, and_self, takeN, beq_self_eq_true, eq_self, kA1, kA2, kB, kD, show Nat.testBit 0 0 = false from rfl, show Nat.testBit 0 1 = false from rfl, show Nat.testBit 0 2 = false from rfl, show Nat.testBit 0 3 = false from rfl, show Nat.testBit 0 4 = false from rfl, show Nat.testBit 0 5 = false from rfl, show Nat.testBit 0 6 = false from rfl, show Nat.testBit 0 7 = false from rfl, show Nat.testBit 0 8 = false from rfl, show Nat.testBit 0 9 = false from rfl]
    exact ⟨rfl, rfl⟩
  simp only [Ex.thn]
  apply EvX.ret
  refine Fin.cellT (K := fun x m' => LastPost m s.fn e t x0 l0.length x m') (x := y1) (p := .ptr m.nxt 0) (t := 2) (u := 3) (ty := 30) (sz := 3) (xs := [.int .i64 s.fn, e, t]) rfl (by simp only [Tr.get_set, if_true, if_false, reduceIte, Nat.reduceEqDiff]) (by simp only [Tr.get_set, if_true, if_false, reduceIte, Nat.reduceEqDiff]) sz_30 ag_30 ld3 ?_
  exact ⟨w3, kk, y1, c0, rfl, o3, fun c hc => by have := n2 c hc; rw [fresh_nxt] at this; omega⟩
end Go.Vz
