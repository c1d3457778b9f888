/-
  WHAT CAME IN, AS V SEES IT: a reading of an argument gives its tree.
-/
import Derived.Test.YtgagkmbhlpmceaaGreatDoorVzF5
import Derived.Deep.Slices
import Derived.Carry
import Derived.LaidHandle
import Derived.ChangeArms
set_option linter.unusedVariables false
set_option linter.unusedSimpArgs false
namespace Go.Vz
open Go Go.Proofs Go.RowKit
section
variable {H : Type} {enc : TypeId × Value → H} {W : World} {spare : Nat → Bool} {held : Bool}
abbrev VW (W : World) := VRel W W.heap.size (fun _ => none)
abbrev VWs (W : World) := VRels W W.heap.size (fun _ => none)
theorem mapM_get {α β : Type} {f : α → Option β} : ∀ {l : List α} {r : List β}, l.mapM f = some r → r.length = l.length ∧ ∀ i (h : i < l.length), ∃ y, f l[i] = some y ∧ r[i]? = some y
  | [], r, h => by simp at h; subst h; exact ⟨rfl, fun i h => by simp at h⟩
  | x :: l, r, h => by
    simp only [List.mapM_cons, Option.bind_eq_bind, Option.bind_eq_some_iff] at h
    obtain ⟨y, hy, ys, hys, h⟩ := h
    cases h
    obtain ⟨h1, h2⟩ := mapM_get hys
    refine ⟨by simp [h1], fun i hi => ?_⟩
    cases i with
    | zero => exact ⟨y, hy, rfl⟩
    | succ i => obtain ⟨z, q1, q2⟩ := h2 i (by simpa using hi); exact ⟨z, q1, by simpa using q2⟩
theorem cells_get {a : Addr} {n : Nat} {cs : List Value} (h : W.cells? 0 a n = some cs) : cs.length = n ∧ ∀ j u, cs[j]? = some u → W.cell? (a.add j) = some u := by
  unfold World.cells? at h
  rw [if_pos (Nat.zero_le _)] at h
  obtain ⟨h1, h2⟩ := mapM_get h
  rw [List.length_range] at h1
  refine ⟨h1, fun j u hu => ?_⟩
  have hj : j < n := by rw [← h1]; exact (List.getElem?_eq_some_iff.1 hu).1
  obtain ⟨y, q1, q2⟩ := h2 j (by simpa using hj)
  rw [hu] at q2
  cases q2
  simpa using q1
/-- a slice of elements that are read -/
theorem slice_read {α : Type} {f : α → List AV} {good : α → Prop} {P : Program} {t e : TypeId} {sz : Nat} (hu : P.underlying t = some (.slice e)) (hc : P.cellsOf e = sz + 1)
    (he : ∀ fuel cs d, DataW.trod enc P W 0 spare held fuel e cs = some d → cs.length = sz + 1 → ∃ a, VWs W (f a) cs ∧ good a) {fuel : Nat} {v : Value} {d : DataW H × List MemPlace} (h : DataW.trod enc P W 0 spare held fuel t [v] = some d) :
    ∃ l : List α, VW W (.ro (l.flatMap f) l.length (sz + 1)) v ∧ l.length ≤ maxLen ∧ ∀ a ∈ l, good a := by
  rcases _root_.Go.Deep.open_slice hu h with ⟨h1, _⟩ | ⟨a, len, cap, m, n, D, Pl, h1, hb, hl, hm, hmm, _, hel⟩
  · cases h1
    exact ⟨[], .ron _, Nat.zero_le _, fun a ha => by cases ha⟩
  · cases h1
    have hml : len ≤ m := by rw [hmm]; split <;> omega
    have hspot : 0 < len → a.spot = none ∧ a.block < W.heap.size := fun hpos => by
      obtain ⟨cs, q1, _⟩ := hel 0 (by omega)
      obtain ⟨q2, q3⟩ := cells_get q1
      rw [Nat.zero_mul, Addr.add_zero'] at q1 q3
      have hcs : 0 < cs.length := by rw [q2, hc]; omega
      have hcell := q3 0 cs[0] (List.getElem?_eq_getElem hcs)
      rw [Addr.add_zero'] at hcell
      refine ⟨?_, cell_lt hcell⟩
      cases hs : a.spot with
      | none => rfl
      | some s =>
        unfold World.cell? at hcell
        split at hcell
        · simp [hs] at hcell
        · cases hcell
    have build : ∀ k, k ≤ len → ∃ (l : List α) (us : List Value), l.length = k ∧ us.length = k * (sz + 1) ∧ VWs W (l.flatMap f) us ∧ (∀ j u, us[j]? = some u → W.cell? (a.add j) = some u) ∧ ∀ x ∈ l, good x := by
      intro k
      induction k with
      | zero => intro _; exact ⟨[], [], rfl, by simp, .nil, fun j u h => by simp at h, fun x hx => by cases hx⟩
      | succ k ih =>
        intro hk
        obtain ⟨l, us, e1, e2, e3, e4, e5⟩ := ih (by omega)
        obtain ⟨cs, q1, q2⟩ := hel k (by omega)
        obtain ⟨q3, q4⟩ := cells_get q1
        rw [hc] at q1 q3 q4
        obtain ⟨x, r1, r2⟩ := he _ _ _ q2 q3
        refine ⟨l ++ [x], us ++ cs, by simp [e1], by rw [List.length_append, e2, q3, Nat.succ_mul], ?_, fun j u hj => ?_, fun y hy => ?_⟩
        · rw [List.flatMap_append]
          simpa using e3.append r1
        · by_cases hjl : j < us.length
          · rw [List.getElem?_append_left hjl] at hj
            exact e4 j u hj
          · rw [List.getElem?_append_right (by omega)] at hj
            have := q4 (j - us.length) u hj
            rw [add_add a _ _ (hspot (by omega)).1, show k * (sz + 1) + (j - us.length) = j by omega] at this
            exact this
        · rcases List.mem_append.1 hy with h | h
          · exact e5 y h
          · rw [List.mem_singleton] at h; subst h; exact r2
    obtain ⟨l, us, e1, e2, e3, e4, e5⟩ := build len (Nat.le_refl _)
    refine ⟨l, ?_, by omega, e5⟩
    rw [e1]
    have hlen : (l.flatMap f).length = len * (sz + 1) := by rw [e3.length, e2]
    refine .ro _ _ _ a cap us hl hlen (fun hpos => hspot ?_) e4 e3
    rcases Nat.eq_zero_or_pos len with h0 | h0
    · rw [hlen, h0] at hpos; simp at hpos
    · exact h0
theorem encPairs_flat : ∀ l : List (Int × Int), l.flatMap (fun p => [AV.int .i64 p.1, .int .i64 p.2]) = encPairs l
  | [] => rfl
  | p :: l => by rw [List.flatMap_cons, encPairs_flat l]; rfl
theorem encSums_flat : ∀ l : List Sm, l.flatMap (fun s => [AV.int .i64 s.fn, .ro (encPairs s.ex) s.ex.length 2, .ro (encPairs s.th) s.th.length 2]) = encSums l
  | [] => rfl
  | p :: l => by rw [List.flatMap_cons, encSums_flat l]; rfl
theorem co_70 : Tryz.prog.cellsOf 70 = 2 := by kernel_rfl
theorem co_30 : Tryz.prog.cellsOf 30 = 3 := by kernel_rfl
theorem co_3 : Tryz.prog.cellsOf 3 = 1 := by kernel_rfl
theorem co_28 : Tryz.prog.cellsOf 28 = 1 := by kernel_rfl
theorem list_two {α : Type} {l : List α} (h : l.length = 2) : ∃ a b, l = [a, b] := by
  rcases l with _ | ⟨a, _ | ⟨b, _ | ⟨c, r⟩⟩⟩ <;> simp at h
  exact ⟨a, b, rfl⟩
theorem list_three {α : Type} {l : List α} (h : l.length = 3) : ∃ a b c, l = [a, b, c] := by
  rcases l with _ | ⟨a, _ | ⟨b, _ | ⟨c, _ | ⟨d, r⟩⟩⟩⟩ <;> simp at h
  exact ⟨a, b, c, rfl⟩
theorem pair_read {fuel : Nat} {cs : List Value} {d : DataW H × List MemPlace} (h : DataW.trod enc Tryz.prog W 0 spare held fuel 70 cs = some d) : ∃ p : Int × Int, VWs W [.int .i64 p.1, .int .i64 p.2] cs ∧ True := by
  obtain ⟨xs, n, _, _, hl, hxl, hf⟩ := DataW.trod_struct Tryz.underlying70 h
  rw [co_70] at hl
  obtain ⟨a, b, rfl⟩ := list_two hl
  obtain ⟨x0, x1, rfl⟩ := list_two (show xs.length = 2 from hxl)
  have h0 := hf 0 { name := "In", type := 3, offset := 0, embedded := false, tag := "", pkgPath := "", byteOffset := 0 } rfl
  have h1 := hf 1 { name := "Out", type := 3, offset := 1, embedded := false, tag := "", pkgPath := "", byteOffset := 8 } rfl
  simp only [co_3, List.drop_zero, List.take_succ_cons, List.take_zero, List.drop_succ_cons] at h0 h1
  obtain ⟨n0, e0, _⟩ := DataW.trod_int Tryz.underlying3 h0
  obtain ⟨n1, e1, _⟩ := DataW.trod_int Tryz.underlying3 h1
  cases e0; cases e1
  exact ⟨(n0, n1), .cons _ _ _ _ (.int _ _) (.cons _ _ _ _ (.int _ _) .nil), trivial⟩
theorem pairs_read {fuel : Nat} {v : Value} {d : DataW H × List MemPlace} (h : DataW.trod enc Tryz.prog W 0 spare held fuel 28 [v] = some d) : ∃ l : List (Int × Int), VW W (.ro (encPairs l) l.length 2) v ∧ l.length ≤ maxLen := by
  obtain ⟨l, h1, h2, _⟩ := slice_read (f := fun p : Int × Int => [AV.int .i64 p.1, .int .i64 p.2]) (good := fun _ => True) (sz := 1) Tryz.underlying28 co_70 (fun _ _ _ h _ => pair_read h) h
  rw [encPairs_flat] at h1
  exact ⟨l, h1, h2⟩
theorem sum_read {fuel : Nat} {cs : List Value} {d : DataW H × List MemPlace} (h : DataW.trod enc Tryz.prog W 0 spare held fuel 30 cs = some d) :
    ∃ s : Sm, VWs W [.int .i64 s.fn, .ro (encPairs s.ex) s.ex.length 2, .ro (encPairs s.th) s.th.length 2] cs ∧ (s.ex.length ≤ 9223372036854775807 ∧ s.th.length ≤ 9223372036854775807) := by
  obtain ⟨xs, n, _, _, hl, hxl, hf⟩ := DataW.trod_struct Tryz.underlying30 h
  rw [co_30] at hl
  obtain ⟨a, b, c, rfl⟩ := list_three hl
  obtain ⟨x0, x1, x2, rfl⟩ := list_three (show xs.length = 3 from hxl)
  have h0 := hf 0 { name := "Func", type := 3, offset := 0, embedded := false, tag := "", pkgPath := "", byteOffset := 0 } rfl
  have h1 := hf 1 { name := "Exit", type := 28, offset := 1, embedded := false, tag := "", pkgPath := "", byteOffset := 8 } rfl
  have h2 := hf 2 { name := "Throw", type := 28, offset := 2, embedded := false, tag := "", pkgPath := "", byteOffset := 32 } rfl
  simp only [co_3, co_28, List.drop_zero, List.take_succ_cons, List.take_zero, List.drop_succ_cons] at h0 h1 h2
  obtain ⟨n0, e0, _⟩ := DataW.trod_int Tryz.underlying3 h0
  obtain ⟨l1, r1, m1⟩ := pairs_read h1
  obtain ⟨l2, r2, m2⟩ := pairs_read h2
  cases e0
  exact ⟨⟨n0, l1, l2⟩, .cons _ _ _ _ (.int _ _) (.cons _ _ _ _ r1 (.cons _ _ _ _ r2 .nil)), m1, m2⟩
theorem sums_read {fuel : Nat} {v : Value} {d : DataW H × List MemPlace} (h : DataW.trod enc Tryz.prog W 0 spare held fuel 22 [v] = some d) : ∃ l : List Sm, VW W (.ro (encSums l) l.length 3) v ∧ l.length ≤ maxLen ∧ okSums l := by
  obtain ⟨l, h1, h2, h3⟩ := slice_read (f := fun s : Sm => [AV.int .i64 s.fn, .ro (encPairs s.ex) s.ex.length 2, .ro (encPairs s.th) s.th.length 2]) (good := fun s => s.ex.length ≤ 9223372036854775807 ∧ s.th.length ≤ 9223372036854775807) (sz := 2) Tryz.underlying22 co_30 (fun _ _ _ h _ => sum_read h) h
  rw [encSums_flat] at h1
  exact ⟨l, h1, h2, h3⟩
/-- SummaryCheck's call, whatever came in -/
theorem check_calls {W : World} (L : LaidErr W W.heap.size) {fuel : Nat} {v : Value} {n : Int} {d : DataW H × List MemPlace} (h : DataW.trod enc Tryz.prog W 0 spare held fuel 22 [v] = some d) :
    Calls Tryz.prog 3 #[v, .int .i64 n] W (fun e W' => e = .returned (.bool true) ∧ Below W.heap.size W W') := by
  obtain ⟨l, h1, h2, h3⟩ := sums_read h
  obtain ⟨_, q⟩ := p3_ok W L [.ro (encSums l) l.length 3, .int .i64 n] (.bool true) (by
    have hm : l.length ≤ 9223372036854775807 := h2
    simp only [p3, specTrue, specSums_enc hm h3, Option.map_some])
  refine Calls.mono (q #[v, .int .i64 n] (.cons _ _ _ _ h1 (.cons _ _ _ _ (.int _ _) .nil))) (fun e W' ⟨⟨u, e1, e2⟩, e3⟩ => ?_)
  cases e2
  exact ⟨e1, e3⟩
end
end Go.Vz
#print axioms Go.Vz.check_calls
