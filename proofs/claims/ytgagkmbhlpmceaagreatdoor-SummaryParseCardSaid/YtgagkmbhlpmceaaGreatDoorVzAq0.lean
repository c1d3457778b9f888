/-
  Lemmas for functions that make slices.
-/
import Derived.Test.YtgagkmbhlpmceaaGreatDoorVzKeep
import Derived.Test.YtgagkmbhlpmceaaGreatDoorVzF5
import Derived.Sort.Grow
import Derived.Deep.Draws
set_option linter.unusedVariables false
set_option linter.unusedSimpArgs false
namespace Go.Vz
open Go Go.Proofs Go.RowKit Go.Sort
theorem load_rp (m : Mem) (cs : List AV) (n : Nat) : m.load (.rp cs) n = takeN n cs := rfl
theorem encInts_all : ∀ l : List Int, allCells (encInts l) = true
  | [] => rfl
  | a :: l => by simp only [encInts, List.map_cons, allCells]; exact Bool.and_eq_true_iff.2 ⟨rfl, encInts_all l⟩
theorem below_drewN' (w : World) (n : Nat) : Below w.heap.size w (w.drewN n) := ⟨rfl, rfl, rfl, Nat.le_refl _, fun _ _ => rfl⟩
theorem below_grow' (w : World) (os : Array Obj) : Below w.heap.size w (grow w os) :=
  ⟨rfl, rfl, rfl, by show w.heap.size ≤ (w.heap ++ os).size; simp, fun k hk => by show (w.heap ++ os)[k]? = _; exact Array.getElem?_append_left hk⟩
/-- a slice of whole numbers that came in -/
def isl : AV → Option (List Int)
  | .nilsl => some []
  | .ro xs n 1 => match decInts xs with
    | some l => bif Nat.beq l.length n then some l else none
    | none => none
  | _ => none
theorem isl_cases {x : AV} {l : List Int} (h : isl x = some l) : (x = .nilsl ∧ l = []) ∨ x = .ro (encInts l) l.length 1 := by
  unfold isl at h
  split at h
  · cases h; exact .inl ⟨rfl, rfl⟩
  · rename_i xs n
    cases hd : decInts xs with
    | none => simp [hd] at h
    | some l' =>
      simp only [hd] at h
      cases hb : Nat.beq l'.length n with
      | false => simp [hb] at h
      | true =>
        simp only [hb, cond_true, Option.some.injEq] at h
        subst h
        rw [← Nat.eq_of_beq_eq_true hb, decInts_eq hd]
        exact .inr rfl
  · cases h
theorem decInts_enc : ∀ l : List Int, decInts (encInts l) = some l
  | [] => rfl
  | a :: l => by
    have := decInts_enc l
    simp only [encInts] at this
    simp only [encInts, List.map_cons, decInts, this, Option.map_some]
theorem isl_ro (l : List Int) : isl (.ro (encInts l) l.length 1) = some l := by
  simp only [isl, decInts_enc, Nat.beq_refl, cond_true]
/-- a box: a new block, written at once -/
theorem box_new {m : Mem} (w : WFm m) (t : Option TypeId) {zs xs : List AV} (hl : xs.length = zs.length) (hc : allCells xs = true) :
    ∃ m', (m.fresh t zs).store (.ptr m.nxt 0) xs = some m' ∧ WFm m' ∧ KeepB m.nxt m m' ∧ m'.nxt = m.nxt + 1 ∧ ∀ k a, k + a ≤ xs.length → m'.load (.ptr m.nxt k) a = some ((xs.drop k).take a) := by
  refine ⟨{ m.fresh t zs with obs := (m.fresh t zs).obs.set m.nxt (.win { (⟨setCells .nil 0 zs, 0, zs.length, m.nxt, t⟩ : Win) with cells := setCells (setCells .nil 0 zs) 0 xs }), cls := (m.fresh t zs).cls.set m.nxt { (⟨zs.length, none, 0, false⟩ : Cl) with own := some m.nxt, st := 0 + 1 } }, ?_, ⟨fun v hv => ?_, fun v hv => ?_⟩, ⟨Nat.le_succ _, fun v hv => ?_, fun v hv => ?_⟩, rfl, fun k a hk => ?_⟩
  · have e1 : Nat.ble 0 0 = true := rfl
    have e2 : Nat.ble (0 + xs.length) zs.length = true := Nat.ble_eq_true_of_le (by omega)
    simp only [Mem.store, fresh_live, Bool.not_false, e1, e2, hc, Bool.and_self, cond_true]
  · have hv' : m.nxt + 1 ≤ v := hv
    show (Tr.set (m.obs.set m.nxt _) m.nxt _).get v = none
    rw [Tr.get_set_ne _ _ (by omega), Tr.get_set_ne _ _ (by omega)]; exact w.obs v (by omega)
  · have hv' : m.nxt + 1 ≤ v := hv
    show (Tr.set (m.cls.set m.nxt _) m.nxt _).get v = none
    rw [Tr.get_set_ne _ _ (by omega), Tr.get_set_ne _ _ (by omega)]; exact w.cls v (by omega)
  · show (Tr.set (m.obs.set m.nxt _) m.nxt _).get v = _
    rw [Tr.get_set_ne _ _ (by omega), Tr.get_set_ne _ _ (by omega)]
  · show (Tr.set (m.cls.set m.nxt _) m.nxt _).get v = _
    rw [Tr.get_set_ne _ _ (by omega), Tr.get_set_ne _ _ (by omega)]
  · have H : OwnW m.nxt (m.nxt + 1) { m.fresh t zs with obs := (m.fresh t zs).obs.set m.nxt (.win { (⟨setCells .nil 0 zs, 0, zs.length, m.nxt, t⟩ : Win) with cells := setCells (setCells .nil 0 zs) 0 xs }), cls := (m.fresh t zs).cls.set m.nxt { (⟨zs.length, none, 0, false⟩ : Cl) with own := some m.nxt, st := 0 + 1 } } m.nxt xs.length xs
        { (⟨setCells .nil 0 zs, 0, zs.length, m.nxt, t⟩ : Win) with cells := setCells (setCells .nil 0 zs) 0 xs } { (⟨zs.length, none, 0, false⟩ : Cl) with own := some m.nxt, st := 0 + 1 } :=
      ⟨⟨Nat.le_refl _, Nat.le_refl _⟩, ⟨Nat.lt_succ_self _, Nat.lt_succ_self _⟩, Tr.get_set_same _ _ _, Tr.get_set_same _ _ _, .inr rfl, rfl, rfl, hl.symm, read_all (t := setCells .nil 0 zs) (k0 := 0) (hi := zs.length) (by omega) rfl⟩
    exact H.load hk
/-- a block that is not written yet -/
theorem fresh_load (m : Mem) (t : Option TypeId) (xs : List AV) {k a : Nat} (hk : k + a ≤ xs.length) : (m.fresh t xs).load (.ptr m.nxt k) a = some ((xs.drop k).take a) := by
  have H : OwnW m.nxt (m.nxt + 1) (m.fresh t xs) m.nxt xs.length xs ⟨setCells .nil 0 xs, 0, xs.length, m.nxt, t⟩ ⟨xs.length, none, 0, false⟩ :=
    ⟨⟨Nat.le_refl _, Nat.le_refl _⟩, ⟨Nat.lt_succ_self _, Nat.lt_succ_self _⟩, Tr.get_set_same _ _ _, Tr.get_set_same _ _ _, .inl rfl, rfl, rfl, rfl, read_all (by omega) rfl⟩
  exact H.load hk
/-- one element more -/
theorem append_lit {lo : Nat} {m : Mem} {y : AV} {sz n : Nat} {xs : List AV} (w : WFm m) (h : OwnS lo m.nxt m y sz n xs) (hlo : lo ≤ m.nxt) {e : TypeId} {bytes : Nat} {cs : List AV} (hcs : cs.length = sz) (hc : allCells cs = true)
    (hb1 : (n + 1) * bytes ≤ 140737488355328) (hb2 : n + 1 ≤ 9223372036854775807) :
    ∃ y' m', sourceA (m.fresh (some e) cs) sz (.sl m.nxt 0 1 sz) = some (1, cs) ∧ appendA e sz bytes (m.fresh (some e) cs) y 1 cs = some (y', m') ∧ WFm m' ∧ KeepB lo m m' ∧ OwnS lo m'.nxt m' y' sz (n + 1) (xs ++ cs) ∧ m.nxt ≤ m'.nxt := by
  subst hcs
  have k1 := fresh_keep m (some e) cs
  have w1 := fresh_wf w (some e) cs
  obtain ⟨y', m', a1, a2, a3, a4, a5⟩ := OwnS.append w1 ((h.keep k1 (Nat.le_refl _)).wide (Nat.le_refl _) (Nat.le_succ _)) (Nat.le_succ_of_le hlo) (e := e) (bytes := bytes) (n' := 1) (cs := cs) (by omega) (by omega) hc hb1 hb2
  refine ⟨y', m', ?_, a1, a2, (k1.less hlo).trans a3, a4, by rw [a5, fresh_nxt]; omega⟩
  have := fresh_load m (some e) cs (k := 0) (a := 1 * cs.length) (by omega)
  rw [List.drop_zero, Nat.one_mul, List.take_length] at this
  simp only [sourceA, Nat.beq_refl, cond_true, Nat.one_mul, this]
/-- a row that a told call gave -/
theorem adopt_row {m : Mem} (w : WFm m) {xs : List AV} {n sz : Nat} (hn : 0 < n) (hsz : 0 < sz) (hl : xs.length = n * sz) (hp : plainAs xs = true) :
    WFm (adoptA (.ro xs n sz) m).2 ∧ KeepB m.nxt m (adoptA (.ro xs n sz) m).2 ∧ OwnS m.nxt (adoptA (.ro xs n sz) m).2.nxt (adoptA (.ro xs n sz) m).2 (adoptA (.ro xs n sz) m).1 sz n xs := by
  have hne : xs ≠ [] := fun e => by rw [e] at hl; have := Nat.mul_pos hn hsz; simp at hl; omega
  cases xs with
  | nil => exact absurd rfl hne
  | cons x xs =>
    have e : adoptA (.ro (x :: xs) n sz) m = layWin m.nxt n sz (x :: xs, m.newCls (hiA (.ro (x :: xs) n sz))) := by
      have e0 : plainA (.ro (x :: xs) n sz) = false := rfl
      have e1 := layAs_plain m.nxt (x :: xs) (m.newCls (hiA (.ro (x :: xs) n sz))) hp
      simp only [layAs] at e1
      simp only [adoptA, e0, cond_false, layA, e1]
    rw [e]
    generalize hh : hiA (.ro (x :: xs) n sz) = h
    refine ⟨⟨fun v hv => ?_, fun v hv => ?_⟩, ⟨by show m.nxt ≤ m.nxt + 1 + 1; omega, fun v hv => ?_, fun v hv => ?_⟩, .inr ⟨hn, hl, m.nxt + 1, ⟨setCells .nil 0 (x :: xs), 0, (x :: xs).length, m.nxt, none⟩, ⟨h, none, 0, false⟩, rfl, ⟨⟨Nat.le_succ _, Nat.le_refl _⟩, ⟨Nat.lt_succ_self _, by show m.nxt < m.nxt + 1 + 1; omega⟩, Tr.get_set_same _ _ _, Tr.get_set_same _ _ _, .inl rfl, rfl, rfl, hl, read_all (by omega) hl.symm⟩⟩⟩
    · have hv' : m.nxt + 1 + 1 ≤ v := hv
      show (m.obs.set (m.nxt + 1) _).get v = none
      rw [Tr.get_set_ne _ _ (by omega)]; exact w.obs v (by omega)
    · have hv' : m.nxt + 1 + 1 ≤ v := hv
      show (m.cls.set m.nxt _).get v = none
      rw [Tr.get_set_ne _ _ (by omega)]; exact w.cls v (by omega)
    · show (m.obs.set (m.nxt + 1) _).get v = _
      rw [Tr.get_set_ne _ _ (by omega)]
    · show (m.cls.set m.nxt _).get v = _
      rw [Tr.get_set_ne _ _ (by omega)]
theorem encInts_plain : ∀ l : List Int, plainAs (encInts l) = true
  | [] => rfl
  | a :: l => by simp only [encInts, List.map_cons, plainAs]; exact Bool.and_eq_true_iff.2 ⟨rfl, encInts_plain l⟩
theorem encInts_view (n : Nat) (m : Mem) : ∀ l : List Int, mapO (viewA (n + 1) m) (encInts l) = some (encInts l)
  | [] => rfl
  | a :: l => by
    have := encInts_view n m l
    simp only [encInts] at this
    simp only [encInts, List.map_cons, mapO, view_int, this]
theorem tree_int (n : Nat) (m : Mem) (k : IntKind) (a : Int) : treeA (n + 1) m (.int k a) = some (.int k a) := rfl
theorem encInts_tree (n : Nat) (m : Mem) : ∀ l : List Int, mapO (treeA (n + 1) m) (encInts l) = some (encInts l)
  | [] => rfl
  | a :: l => by
    have := encInts_tree n m l
    simp only [encInts] at this
    simp only [encInts, List.map_cons, mapO, tree_int, this]
/-- what a call gives back -/
def slI (l : List Int) : AV := if l = [] then .nilsl else .ro (encInts l) l.length 1
theorem isl_slI (l : List Int) : isl (slI l) = some l := by
  unfold slI
  split
  · rename_i h; rw [h]; rfl
  · exact isl_ro l
theorem OwnS.ints {lo hi : Nat} {m : Mem} {y : AV} {l : List Int} (h : OwnS lo hi m y 1 l.length (encInts l)) : treeA 8 m y = some (slI l) := by
  unfold slI
  split
  · rename_i h0
    subst h0
    rcases h with ⟨rfl, _⟩ | ⟨h, _⟩
    · rfl
    · simp at h
  · rename_i h0
    exact h.tree (List.length_pos_iff.2 h0) (by omega) (encInts_tree 6 m l)
theorem treeA_sl {n : Nat} {m : Mem} {v len sz : Nat} {xs ys : List AV} (hb : Nat.beq (len * sz) 0 = false) (hl : m.load (.ptr v 0) (len * sz) = some xs) (hf : froA m v = false) (hm : mapO (treeA n m) xs = some ys) : treeA (n + 1) m (.sl v 0 len sz) = some (.ro ys len sz) := by
  simp only [treeA, hb, cond_false, hl, hf, Nat.beq_refl, Bool.not_false, Bool.and_self, cond_true, hm, Option.map_some]
/-- pairs that came in -/
def ipr : AV → Option (List (Int × Int))
  | .nilsl => some []
  | .ro xs n 2 => match decPairs xs with
    | some l => bif Nat.beq l.length n then some l else none
    | none => none
  | _ => none
theorem ipr_cases {x : AV} {l : List (Int × Int)} (h : ipr x = some l) : (x = .nilsl ∧ l = []) ∨ x = .ro (encPairs l) l.length 2 := by
  unfold ipr at h
  split at h
  · cases h; exact .inl ⟨rfl, rfl⟩
  · rename_i xs n
    cases hd : decPairs xs with
    | none => simp [hd] at h
    | some l' =>
      simp only [hd] at h
      cases hb : Nat.beq l'.length n with
      | false => simp [hb] at h
      | true =>
        simp only [hb, cond_true, Option.some.injEq] at h
        subst h
        rw [← Nat.eq_of_beq_eq_true hb, decPairs_eq hd]
        exact .inr rfl
  · cases h
theorem ipr_ro (l : List (Int × Int)) : ipr (.ro (encPairs l) l.length 2) = some l := by
  simp only [ipr, decPairs_enc, Nat.beq_refl, cond_true]
theorem ipr_at {x : AV} {l : List (Int × Int)} (h : ipr x = some l) {i : Nat} (hi : i < l.length) : x = .ro (encPairs l) l.length 2 := by
  rcases ipr_cases h with ⟨_, rfl⟩ | h
  · simp at hi
  · exact h
theorem isl_at {x : AV} {l : List Int} (h : isl x = some l) {i : Nat} (hi : i < l.length) : x = .ro (encInts l) l.length 1 := by
  rcases isl_cases h with ⟨_, rfl⟩ | h
  · simp at hi
  · exact h
theorem ipr_len {x : AV} {l : List (Int × Int)} (h : ipr x = some l) {t e : TypeId} (ht : Tryz.prog.underlying t = some (.slice e)) : lenA Tryz.prog t x = some (.int .i64 l.length) := by
  rcases ipr_cases h with ⟨rfl, rfl⟩ | rfl <;> simp only [lenA, ht] <;> rfl
theorem isl_len {x : AV} {l : List Int} (h : isl x = some l) {t e : TypeId} (ht : Tryz.prog.underlying t = some (.slice e)) : lenA Tryz.prog t x = some (.int .i64 l.length) := by
  rcases isl_cases h with ⟨rfl, rfl⟩ | rfl <;> simp only [lenA, ht] <;> rfl
theorem ipr_view {x : AV} {l : List (Int × Int)} (h : ipr x = some l) (n : Nat) (m : Mem) : viewA (n + 2) m x = some x := by
  rcases ipr_cases h with ⟨rfl, rfl⟩ | rfl
  · rfl
  · exact viewRow n m l _
theorem isl_view {x : AV} {l : List Int} (h : isl x = some l) (n : Nat) (m : Mem) : viewA (n + 2) m x = some x := by
  rcases isl_cases h with ⟨rfl, rfl⟩ | rfl
  · rfl
  · rw [viewA, encInts_view]; rfl
theorem EvC.runT {C : Cfg} {D : CallF → DrawF} {f : FuncId} {args : List AV} {fn : Func} {body : Code} (hp : C.isPrim f = false) (hf : C.P.funcs[f]? = some fn) (hb : fn.body = some body) {m : Mem} {K : AV → Mem → Prop}
    (h : EvX C D body (enterA fn.ntmps args) m (fun e fr1 m1 => (match e with | .exit _ => False | _ => True) ∧ ∃ xs, Vz.results C.P m1 fr1 fn.results.toList = some xs ∧ K (Vz.one xs) m1)) : ∃ x m', K x m' ∧ EvC C D f args m x m' := by
  obtain ⟨e, fr1, m1, ⟨he, xs, hx, hk⟩, hN⟩ := h
  exact ⟨_, m1, hk, EvC.of hp hf hb ⟨e, fr1, m1, ⟨he, rfl, xs, hx, rfl⟩, hN⟩⟩
theorem Fin.oneT {C : Cfg} {fn : Func} {t : Nat} {fr : Fr} {m : Mem} {x : AV} {K : AV → Mem → Prop} (hr : fn.results = #[.tmp t]) (hx : fr.t.get t = some x) (hk : K x m) : (match Ex.ret with | .exit _ => False | _ => True) ∧ ∃ xs, Vz.results C.P m fr fn.results.toList = some xs ∧ K (Vz.one xs) m :=
  ⟨trivial, [x], by rw [hr]; simp [Vz.results, hx], hk⟩
theorem sl_t31 : Tryz.prog.underlying 31 = some (.slice 3) := by kernel_rfl
theorem sl_t95 : Tryz.prog.underlying 95 = some (.slice 70) := by kernel_rfl
theorem sl_t28 : Tryz.prog.underlying 28 = some (.slice 70) := by kernel_rfl
theorem dropInt {l : List Int} {i : Nat} (h : i < l.length) : (encInts l).drop i = .int .i64 l[i] :: (encInts l).drop (i + 1) := by
  rw [List.drop_eq_getElem_cons (by rw [encInts_length]; exact h)]
  simp [encInts]
theorem OwnS.lenA {lo hi : Nat} {m : Mem} {y : AV} {sz n : Nat} {xs : List AV} (h : OwnS lo hi m y sz n xs) {t e : TypeId} (ht : Tryz.prog.underlying t = some (.slice e)) : Vz.lenA Tryz.prog t y = some (.int .i64 n) := by
  rcases h with ⟨rfl, rfl, _⟩ | ⟨_, _, v, W, c, rfl, _⟩ <;> simp only [Vz.lenA, ht] <;> rfl
theorem OwnS.ints7 {lo hi : Nat} {m : Mem} {y : AV} {l : List Int} (h : OwnS lo hi m y 1 l.length (encInts l)) : treeA 7 m y = some (slI l) := by
  unfold slI
  split
  · rename_i h0
    subst h0
    rcases h with ⟨rfl, _⟩ | ⟨h, _⟩
    · rfl
    · simp at h
  · rename_i h0
    exact h.tree (List.length_pos_iff.2 h0) (by omega) (encInts_tree 5 m l)
theorem Fin.twoT {C : Cfg} {fn : Func} {t u : Nat} {fr : Fr} {m : Mem} {x y : AV} {K : AV → Mem → Prop} (hr : fn.results = #[.tmp t, .tmp u]) (hx : fr.t.get t = some x) (hy : fr.t.get u = some y) (hk : K (.tup [x, y]) m) : (match Ex.ret with | .exit _ => False | _ => True) ∧ ∃ xs, Vz.results C.P m fr fn.results.toList = some xs ∧ K (Vz.one xs) m :=
  ⟨trivial, [x, y], by rw [hr]; simp [Vz.results, hx, hy], hk⟩
theorem mapO_two {f : AV → Option AV} {xs : List AV} {a b : AV} (h : mapO f xs = some [a, b]) : ∃ x y, xs = [x, y] ∧ f x = some a ∧ f y = some b := by
  match xs, h with
  | [], h => simp [mapO] at h
  | [x], h => cases hx : f x <;> simp [mapO, hx] at h
  | [x, y], h =>
    cases hx : f x with
    | none => simp [mapO, hx] at h
    | some x' =>
      cases hy : f y with
      | none => simp [mapO, hx, hy] at h
      | some y' =>
        simp only [mapO, hx, hy, Option.some.injEq, List.cons.injEq, and_true] at h
        exact ⟨x, y, rfl, by rw [hx, h.1], by rw [hy, h.2]⟩
  | x :: y :: z :: l, h =>
    have := mapO_length h
    simp at this
theorem take_cells3 {a b c : AV} : ([a, b, c].drop 1).take 1 = [b] ∧ ([a, b, c].drop 2).take 1 = [c] := ⟨rfl, rfl⟩
end Go.Vz
