/-
  LISTS OF SUMMARIES in the run's memory; Check of what a run made.
-/
import Derived.Test.YtgagkmbhlpmceaaGreatDoorVzPa3
set_option linter.unusedVariables false
set_option linter.unusedSimpArgs false
namespace Go.Vz
open Go Go.Proofs
/-! ### lists of summaries that came in, nil rows too -/
def iprs (x : AV) : Option (List (Int × Int)) := match ipr x with
  | some l => bif Nat.ble l.length 9223372036854775807 then some l else none
  | none => none
theorem iprs_ipr {x : AV} {l : List (Int × Int)} (h : iprs x = some l) : ipr x = some l ∧ l.length ≤ 9223372036854775807 := by
  unfold iprs at h
  cases hx : ipr x with
  | none => simp [hx] at h
  | some l' =>
    simp only [hx] at h
    cases hb : Nat.ble l'.length 9223372036854775807 with
    | false => simp [hb] at h
    | true =>
      simp only [hb, cond_true, Option.some.injEq] at h
      subst h
      exact ⟨rfl, Nat.le_of_ble_eq_true hb⟩
def decS : List AV → Option (List Sm)
  | [] => some []
  | .int .i64 a :: e :: t :: r => match iprs e, iprs t, decS r with
    | some le, some lt, some l => some (⟨a, le, lt⟩ :: l)
    | _, _, _ => none
  | _ => none
def isums : AV → Option (List Sm)
  | .nilsl => some []
  | .ro xs n 3 => match decS xs with
    | some l => bif Nat.beq l.length n && Nat.ble n 9223372036854775807 then some l else none
    | none => none
  | _ => none
theorem ipr_rel {W : World} {B : Nat} {g : Map} {x : AV} {l : List (Int × Int)} {v : Value} (h : ipr x = some l) (hv : VRel W B g x v) : VRel W B g (.ro (encPairs l) l.length 2) v := by
  rcases ipr_cases h with ⟨rfl, rfl⟩ | rfl
  · cases hv; exact .ron 2
  · exact hv
theorem decS_rel {W : World} {B : Nat} {g : Map} : ∀ {xs : List AV} {l : List Sm} {us : List Value}, decS xs = some l → VRels W B g xs us → VRels W B g (encSums l) us ∧ okSums l ∧ xs.length = l.length * 3
  | [], l, us, h, hv => by simp only [decS, Option.some.injEq] at h; subst h; exact ⟨hv, (fun s hs => by cases hs), rfl⟩
  | [_], _, _, h, _ => by unfold decS at h; split at h <;> simp_all
  | [_, _], _, _, h, _ => by unfold decS at h; split at h <;> simp_all
  | x :: e :: t :: r, l, us, h, hv => by
    unfold decS at h
    split at h
    · rename_i heq; cases heq
    · rename_i a e' t' r' heq
      simp only [List.cons.injEq] at heq
      obtain ⟨rfl, rfl, rfl, rfl⟩ := heq
      split at h
      · rename_i le lt l' h1 h2 h3
        simp only [Option.some.injEq] at h
        subst h
        cases hv with | cons _ u0 _ us0 q0 hv =>
        cases hv with | cons _ u1 _ us1 q1 hv =>
        cases hv with | cons _ u2 _ us2 q2 hv =>
        obtain ⟨r1, r2, r3⟩ := decS_rel h3 hv
        refine ⟨.cons _ _ _ _ q0 (.cons _ _ _ _ (ipr_rel (iprs_ipr h1).1 q1) (.cons _ _ _ _ (ipr_rel (iprs_ipr h2).1 q2) r1)), fun s hs => ?_, by simp only [List.length_cons, r3]; omega⟩
        cases hs with
        | head => exact ⟨(iprs_ipr h1).2, (iprs_ipr h2).2⟩
        | tail _ hs => exact r2 s hs
      · cases h
    · cases h
theorem decS_ok : ∀ {xs : List AV} {l : List Sm}, decS xs = some l → okSums l ∧ xs.length = l.length * 3
  | [], l, h => by simp only [decS, Option.some.injEq] at h; subst h; exact ⟨fun s hs => (by cases hs), rfl⟩
  | [_], _, h => by unfold decS at h; split at h <;> simp_all
  | [_, _], _, h => by unfold decS at h; split at h <;> simp_all
  | x :: e :: t :: r, l, h => by
    unfold decS at h
    split at h
    · rename_i heq; cases heq
    · rename_i a e' t' r' heq
      simp only [List.cons.injEq] at heq
      obtain ⟨rfl, rfl, rfl, rfl⟩ := heq
      split at h
      · rename_i le lt l' h1 h2 h3
        simp only [Option.some.injEq] at h
        subst h
        obtain ⟨r2, r3⟩ := decS_ok h3
        refine ⟨fun s hs => ?_, by simp only [List.length_cons, r3]; omega⟩
        cases hs with
        | head => exact ⟨(iprs_ipr h1).2, (iprs_ipr h2).2⟩
        | tail _ hs => exact r2 s hs
      · cases h
    · cases h
theorem isums_ok {x : AV} {l : List Sm} (h : isums x = some l) : l.length ≤ 9223372036854775807 ∧ okSums l := by
  unfold isums at h
  split at h
  · cases h; exact ⟨by simp, fun s hs => by cases hs⟩
  · rename_i xs n
    cases hd : decS xs with
    | none => simp [hd] at h
    | some l' =>
      simp only [hd] at h
      cases hb : Nat.beq l'.length n && Nat.ble n 9223372036854775807 with
      | false => simp [hb] at h
      | true =>
        simp only [hb, cond_true, Option.some.injEq] at h
        subst h
        rw [Bool.and_eq_true_iff] at hb
        have := Nat.eq_of_beq_eq_true hb.1
        subst this
        exact ⟨Nat.le_of_ble_eq_true hb.2, (decS_ok hd).1⟩
  · cases h
theorem isums_rel {W : World} {B : Nat} {g : Map} {x : AV} {l : List Sm} {v : Value} (h : isums x = some l) (hv : VRel W B g x v) : VRel W B g (.ro (encSums l) l.length 3) v := by
  unfold isums at h
  split at h
  · cases h; cases hv; exact .ron 3
  · rename_i xs n
    cases hd : decS xs with
    | none => simp [hd] at h
    | some l' =>
      simp only [hd] at h
      cases hb : Nat.beq l'.length n && Nat.ble n 9223372036854775807 with
      | false => simp [hb] at h
      | true =>
        simp only [hb, cond_true, Option.some.injEq] at h
        subst h
        rw [Bool.and_eq_true_iff] at hb
        have hn := Nat.eq_of_beq_eq_true hb.1
        subst hn
        have hlen := (decS_ok hd).2
        generalize hnn : l'.length = n at hv ⊢
        cases hv with
        | ron =>
          have : l' = [] := List.length_eq_zero_iff.1 hnn
          subst this
          exact .ron 3
        | ro _ _ _ a cap us h1 h2 h3 h4 h5 =>
          obtain ⟨q1, _, _⟩ := decS_rel hd h5
          exact .ro _ n 3 a cap us h1 (by rw [encSums_length, hnn]) (by rw [encSums_length, ← hlen]; exact h3) h4 q1
  · cases h
/-- Check, of such a list -/
def p11n : PFn := ⟨11, fun | [x, .int .i64 f] => (isums x).map fun l => .int .i64 (sumsErr f l) | _ => none⟩
theorem p11n_ok : p11n.Ok := by
  intro W L args y hs
  simp only [p11n] at hs
  split at hs
  · rename_i x f
    cases hx : isums x with
    | none => simp [hx] at hs
    | some l =>
      simp only [hx, Option.map_some, Option.some.injEq] at hs
      subst hs
      obtain ⟨h1, h2⟩ := isums_ok hx
      obtain ⟨q1, q2⟩ := p11_ok W L [.ro (encSums l) l.length 3, .int .i64 f] (.int .i64 (sumsErr f l)) (specSums_enc h1 h2 f)
      refine ⟨q1, fun vs hv => ?_⟩
      obtain ⟨u, v, rfl, r1, r2⟩ := args_two hv
      exact q2 #[u, v] (.cons _ _ _ _ (isums_rel hx r1) (.cons _ _ _ _ r2 .nil))
  · cases hs
def p17n : PFn := ⟨17, fun | [x] => (isums x).map fun l => .tup [.str (textRes l).1, .int .i64 (textRes l).2] | _ => none⟩
theorem p17n_ok : p17n.Ok := by
  intro W L args y hs
  simp only [p17n] at hs
  split at hs
  · rename_i x
    cases hx : isums x with
    | none => simp [hx] at hs
    | some l =>
      simp only [hx, Option.map_some, Option.some.injEq] at hs
      subst hs
      obtain ⟨h1, h2⟩ := isums_ok hx
      obtain ⟨q1, q2⟩ := p17_ok W L [.ro (encSums l) l.length 3] (.tup [.str (textRes l).1, .int .i64 (textRes l).2]) (specTx_enc h1 h2)
      refine ⟨q1, fun vs hv => ?_⟩
      obtain ⟨u, rfl, r1⟩ := args_one hv
      exact q2 #[u] (.cons _ _ _ _ (isums_rel hx r1) .nil)
  · cases hs
/-! ### what a run gives -/
def slP (l : List (Int × Int)) : AV := if l = [] then .nilsl else .ro (encPairs l) l.length 2
def sumCells : List Sm → List AV
  | [] => []
  | s :: l => .int .i64 s.fn :: slP s.ex :: slP s.th :: sumCells l
def sumsV (l : List Sm) : AV := if l = [] then .nilsl else .ro (sumCells l) l.length 3
theorem ipr_slP (l : List (Int × Int)) : ipr (slP l) = some l := by
  unfold slP
  split
  · rename_i h; rw [h]; rfl
  · exact ipr_ro l
theorem iprs_slP {l : List (Int × Int)} (h : l.length ≤ 9223372036854775807) : iprs (slP l) = some l := by
  unfold iprs; rw [ipr_slP]; simp only [Nat.ble_eq_true_of_le h, cond_true]
theorem decS_cells : ∀ {l : List Sm}, okSums l → decS (sumCells l) = some l
  | [], _ => rfl
  | s :: l, h => by
    have h1 := h s (by simp)
    simp only [sumCells, decS, iprs_slP h1.1, iprs_slP h1.2, decS_cells (l := l) (fun x hx => h x (by simp [hx]))]
theorem sumCells_length : ∀ l : List Sm, (sumCells l).length = l.length * 3
  | [] => rfl
  | s :: l => by simp only [sumCells, List.length_cons, sumCells_length l]; omega
theorem isums_cells {l : List Sm} (h : okSums l) (hl : l.length ≤ 9223372036854775807) : isums (.ro (sumCells l) l.length 3) = some l := by
  simp only [isums, decS_cells h, Nat.beq_refl, Nat.ble_eq_true_of_le hl, Bool.and_self, cond_true]
theorem isums_sumsV {l : List Sm} (h : okSums l) (hl : l.length ≤ 9223372036854775807) : isums (sumsV l) = some l := by
  unfold sumsV
  split
  · rename_i h; rw [h]; rfl
  · exact isums_cells h hl
/-! ### in memory -/
def RowsC (m : Mem) : List AV → List Sm → List Nat → Prop
  | xs, [], cs => xs = [] ∧ cs = []
  | xs, s :: l, cs => ∃ e t xs' ce ct cr, xs = .int .i64 s.fn :: e :: t :: xs' ∧ cs = ce ++ (ct ++ cr) ∧ SlC m e 2 s.ex.length (encPairs s.ex) ce 70 ∧ SlC m t 2 s.th.length (encPairs s.th) ct 70 ∧ RowsC m xs' l cr
theorem RowsC.frame {m m' : Mem} {X : List Nat} (k : FrameC m m' X) : ∀ {l : List Sm} {xs : List AV} {cs : List Nat}, RowsC m xs l cs → (∀ c ∈ cs, ¬ c ∈ X) → RowsC m' xs l cs
  | [], xs, cs, h, _ => h
  | s :: l, xs, cs, ⟨e, t, xs', ce, ct, cr, h1, h2, h3, h4, h5⟩, hx => by
    subst h2
    exact ⟨e, t, xs', ce, ct, cr, h1, rfl, h3.frame k (fun c hc => hx c (by simp [hc])), h4.frame k (fun c hc => hx c (by simp [hc])), h5.frame k (fun c hc => hx c (by simp [hc]))⟩
theorem RowsC.lt {m : Mem} : ∀ {l : List Sm} {xs : List AV} {cs : List Nat}, RowsC m xs l cs → ∀ c ∈ cs, c < m.nxt
  | [], xs, cs, h, c, hc => by obtain ⟨_, rfl⟩ := h; cases hc
  | s :: l, xs, cs, ⟨e, t, xs', ce, ct, cr, h1, h2, h3, h4, h5⟩, c, hc => by
    subst h2
    simp only [List.mem_append] at hc
    rcases hc with h | h | h
    · exact h3.lt c h
    · exact h4.lt c h
    · exact RowsC.lt h5 c h
theorem RowsC.len {m : Mem} : ∀ {l : List Sm} {xs : List AV} {cs : List Nat}, RowsC m xs l cs → xs.length = l.length * 3
  | [], xs, cs, h => by obtain ⟨rfl, _⟩ := h; rfl
  | s :: l, xs, cs, ⟨e, t, xs', ce, ct, cr, h1, h2, h3, h4, h5⟩ => by
    subst h1
    simp only [List.length_cons, RowsC.len h5]; omega
theorem RowsC.cells {m : Mem} : ∀ {l : List Sm} {xs : List AV} {cs : List Nat}, RowsC m xs l cs → allCells xs = true
  | [], xs, cs, h => by obtain ⟨rfl, _⟩ := h; rfl
  | s :: l, xs, cs, ⟨e, t, xs', ce, ct, cr, h1, h2, h3, h4, h5⟩ => by
    subst h1
    simp only [allCells, h3.cell, h4.cell, RowsC.cells h5, show AV.isCell (.int .i64 s.fn) = true from rfl, Bool.and_self]
theorem RowsC.append {m : Mem} : ∀ {l : List Sm} {xs : List AV} {cs : List Nat} {l' : List Sm} {xs' : List AV} {cs' : List Nat}, RowsC m xs l cs → RowsC m xs' l' cs' → RowsC m (xs ++ xs') (l ++ l') (cs ++ cs')
  | [], xs, cs, l', xs', cs', h, k => by obtain ⟨rfl, rfl⟩ := h; exact k
  | s :: l, xs, cs, l', xs', cs', ⟨e, t, ys, ce, ct, cr, h1, h2, h3, h4, h5⟩, k => by
    subst h1 h2
    exact ⟨e, t, ys ++ xs', ce, ct, cr ++ cs', by simp, by simp, h3, h4, RowsC.append h5 k⟩
theorem RowsC.split {m : Mem} : ∀ {l : List Sm} {l' : List Sm} {xs : List AV} {cs : List Nat}, RowsC m xs (l ++ l') cs → ∃ x1 x2 c1 c2, xs = x1 ++ x2 ∧ cs = c1 ++ c2 ∧ RowsC m x1 l c1 ∧ RowsC m x2 l' c2
  | [], l', xs, cs, h => ⟨[], xs, [], cs, rfl, rfl, ⟨rfl, rfl⟩, h⟩
  | s :: l, l', xs, cs, ⟨e, t, ys, ce, ct, cr, h1, h2, h3, h4, h5⟩ => by
    obtain ⟨x1, x2, c1, c2, rfl, rfl, k1, k2⟩ := RowsC.split h5
    subst h1 h2
    exact ⟨.int .i64 s.fn :: e :: t :: x1, x2, ce ++ (ct ++ c1), c2, by simp, by simp, ⟨e, t, x1, ce, ct, c1, rfl, rfl, h3, h4, k1⟩, k2⟩
theorem encPairs_tree (n : Nat) (m : Mem) : ∀ l : List (Int × Int), mapO (treeA (n + 1) m) (encPairs l) = some (encPairs l)
  | [] => rfl
  | p :: l => by
    have ih := encPairs_tree n m l
    simp only [encPairs, mapO, tree_int, ih]
theorem SlC.pview {m : Mem} {y : AV} {l : List (Int × Int)} {cs : List Nat} (h : SlC m y 2 l.length (encPairs l) cs 70) (n : Nat) : viewA (n + 2) m y = some (slP l) ∧ treeA (n + 2) m y = some (slP l) := by
  unfold slP
  rcases Nat.eq_zero_or_pos l.length with h0 | h0
  · have := List.length_eq_zero_iff.1 h0
    subst this
    rcases h with ⟨rfl, _⟩ | ⟨h, _⟩
    · exact ⟨rfl, rfl⟩
    · simp at h
  · rw [if_neg (List.length_pos_iff.1 h0)]
    exact ⟨h.ownS.view h0 (viewPairs n m l), h.ownS.tree h0 (by omega) (encPairs_tree n m l)⟩
theorem RowsC.view {m : Mem} (n : Nat) : ∀ {l : List Sm} {xs : List AV} {cs : List Nat}, RowsC m xs l cs → mapO (viewA (n + 2) m) xs = some (sumCells l) ∧ mapO (treeA (n + 2) m) xs = some (sumCells l)
  | [], xs, cs, h => by obtain ⟨rfl, _⟩ := h; exact ⟨rfl, rfl⟩
  | s :: l, xs, cs, ⟨e, t, xs', ce, ct, cr, h1, h2, h3, h4, h5⟩ => by
    subst h1
    obtain ⟨q1, q2⟩ := RowsC.view n h5
    simp only [mapO, view_int, tree_int, (h3.pview n).1, (h4.pview n).1, (h3.pview n).2, (h4.pview n).2, q1, q2, sumCells, and_self]
/-- a list of summaries of the run's own -/
def SumC (m : Mem) (y : AV) (l : List Sm) (cs : List Nat) : Prop := ∃ xs c0 cr, cs = c0 ++ cr ∧ SlC m y 3 l.length xs c0 30 ∧ RowsC m xs l cr ∧ (c0 ++ cr).Nodup
theorem SumC.frame {m m' : Mem} {X : List Nat} {y : AV} {l : List Sm} {cs : List Nat} (h : SumC m y l cs) (k : FrameC m m' X) (hx : ∀ c ∈ cs, ¬ c ∈ X) : SumC m' y l cs := by
  obtain ⟨xs, c0, cr, rfl, h1, h2, h3⟩ := h
  exact ⟨xs, c0, cr, rfl, h1.frame k (fun c hc => hx c (by simp [hc])), h2.frame k (fun c hc => hx c (by simp [hc])), h3⟩
theorem SumC.lt {m : Mem} {y : AV} {l : List Sm} {cs : List Nat} (h : SumC m y l cs) : ∀ c ∈ cs, c < m.nxt := by
  obtain ⟨xs, c0, cr, rfl, h1, h2, h3⟩ := h
  intro c hc
  rcases List.mem_append.1 hc with h | h
  · exact h1.lt c h
  · exact h2.lt c h
theorem SumC.nil (m : Mem) : SumC m .nilsl [] [] := ⟨[], [], [], rfl, .inl ⟨rfl, rfl, rfl, rfl⟩, ⟨rfl, rfl⟩, by simp⟩
theorem SumC.tree {m : Mem} {y : AV} {l : List Sm} {cs : List Nat} (h : SumC m y l cs) (n : Nat) : treeA (n + 3) m y = some (sumsV l) := by
  obtain ⟨xs, c0, cr, rfl, h1, h2, h3⟩ := h
  unfold sumsV
  rcases Nat.eq_zero_or_pos l.length with h0 | h0
  · have := List.length_eq_zero_iff.1 h0
    subst this
    rcases h1 with ⟨rfl, _⟩ | ⟨h, _⟩
    · rfl
    · simp at h
  · rw [if_neg (List.length_pos_iff.1 h0)]
    exact h1.ownS.tree h0 (by omega) (h2.view n).2
/-- its tail, seen -/
theorem SumC.tail {m : Mem} {y : AV} {l : List Sm} {cs : List Nat} (h : SumC m y l cs) {k : Nat} (hk : k < l.length) : ∃ v, y = .sl v 0 l.length 3 ∧ viewA 8 m (.sl v (k * 3) (l.length - k) 3) = some (.ro (sumCells (l.drop k)) (l.drop k).length 3) := by
  obtain ⟨xs, c0, cr, rfl, h1, h2, h3⟩ := h
  rcases h1 with ⟨_, h, _⟩ | ⟨q1, q2, v, cl, rfl, rfl, q5⟩
  · omega
  · refine ⟨v, rfl, ?_⟩
    have hl := q5.load (k := k * 3) (a := (l.length - k) * 3) (by rw [← Nat.add_mul]; exact Nat.mul_le_mul_right _ (by omega))
    have hsp : RowsC m xs (l.take k ++ l.drop k) cr := by rw [List.take_append_drop]; exact h2
    obtain ⟨x1, x2, c1, c2, rfl, rfl, r1, r2⟩ := hsp.split
    have e1 := r1.len
    rw [List.length_take, Nat.min_eq_left (by omega)] at e1
    have e2 := r2.len
    rw [List.length_drop] at e2
    rw [List.drop_left' e1, List.take_of_length_le (by omega)] at hl
    rw [viewA]
    simp only [hl, (r2.view 5).1, Option.map_some, List.length_drop]
theorem keep_frame {m m' : Mem} (w : WFm m) (k : KeepB m.nxt m m') (X : List Nat) : FrameC m m' X := by
  refine ⟨k.nxt, fun u W hu _ _ => ?_, fun c hc _ => k.cls c hc⟩
  rw [k.obs u]
  · exact hu
  · rcases Nat.lt_or_ge u m.nxt with h | h
    · exact h
    · rw [w.obs u h] at hu; cases hu
theorem SlC.nodup {m : Mem} {y : AV} {sz n : Nat} {xs : List AV} {cs : List Nat} {e : TypeId} (h : SlC m y sz n xs cs e) : cs.Nodup := by
  rcases h with ⟨_, _, _, rfl⟩ | ⟨_, _, v, cl, _, rfl, _⟩ <;> simp
theorem nodup_put {A B c c' : List Nat} {N : Nat} (h : (A ++ (c ++ B)).Nodup) (hlt : ∀ x ∈ A ++ (c ++ B), x < N) (hc : c'.Nodup) (hs : ∀ x ∈ c', x ∈ c ∨ N ≤ x) : (A ++ (c' ++ B)).Nodup := by
  rw [List.nodup_append] at h ⊢
  obtain ⟨h1, h2, h3⟩ := h
  rw [List.nodup_append] at h2 ⊢
  obtain ⟨h4, h5, h6⟩ := h2
  refine ⟨h1, ⟨hc, h5, fun a ha b hb => ?_⟩, fun a ha b hb => ?_⟩
  · rcases hs a ha with e | e
    · exact h6 a e b hb
    · intro e'; subst e'; have := hlt a (by simp [hb]); omega
  · rcases List.mem_append.1 hb with e | e
    · rcases hs b e with e | e
      · exact h3 a ha b (by simp [e])
      · intro e'; subst e'; have := hlt a (by simp [ha]); omega
    · exact h3 a ha b (by simp [e])
/-- a new summary at the end -/
theorem SumC.push {m : Mem} {y : AV} {l : List Sm} {cs : List Nat} (w : WFm m) (h : SumC m y l cs) (a : Int) (hl : l.length ≤ 1000000) :
    ∃ y' m' cs', sourceA (m.fresh (some 30) [.int .i64 a, .nilsl, .nilsl]) 3 (.sl m.nxt 0 1 3) = some (1, [.int .i64 a, .nilsl, .nilsl]) ∧ appendA 30 3 56 (m.fresh (some 30) [.int .i64 a, .nilsl, .nilsl]) y 1 [.int .i64 a, .nilsl, .nilsl] = some (y', m') ∧ WFm m' ∧ SumC m' y' (l ++ [⟨a, [], []⟩]) cs' := by
  have hlt := h.lt
  obtain ⟨xs, c0, cr, rfl, h1, h2, h3⟩ := h
  obtain ⟨y', m', c0', a1, a2, w', k, s', n', hc⟩ := h1.appendLit w (bytes := 56) (zs := [.int .i64 a, .nilsl, .nilsl]) rfl rfl (by omega) (by omega)
  have hd : ∀ c ∈ cr, ¬ c ∈ c0 := fun c hcr hc0 => by
    rw [List.nodup_append] at h3
    exact h3.2.2 c hc0 c hcr rfl
  refine ⟨y', m', c0' ++ (cr ++ []), a1, a2, w', xs ++ [.int .i64 a, .nilsl, .nilsl], c0', cr ++ [], rfl, by rw [List.length_append]; exact s', (h2.frame k hd).append ⟨.nilsl, .nilsl, [], [], [], [], rfl, rfl, .inl ⟨rfl, rfl, rfl, rfl⟩, .inl ⟨rfl, rfl, rfl, rfl⟩, ⟨rfl, rfl⟩⟩, ?_⟩
  rw [List.append_nil]
  exact nodup_put (A := []) (c := c0) (c' := c0') (B := cr) h3 hlt s'.nodup hc
/-- the parts of the last one -/
structure LastC (m : Mem) (y : AV) (l0 : List Sm) (s : Sm) (v : Nat) (e t : AV) (cl : Nat) (x0 : List AV) (c1 ce ct : List Nat) : Prop where
  y : y = .sl v 0 (l0.length + 1) 3
  win : WinC m v ((l0.length + 1) * 3) (x0 ++ [.int .i64 s.fn, e, t]) cl 30
  rows : RowsC m x0 l0 c1
  ex : SlC m e 2 s.ex.length (encPairs s.ex) ce 70
  th : SlC m t 2 s.th.length (encPairs s.th) ct 70
  nd : ([cl] ++ (c1 ++ (ce ++ (ct ++ [])))).Nodup
theorem SumC.last {m : Mem} {y : AV} {l0 : List Sm} {s : Sm} {cs : List Nat} (h : SumC m y (l0 ++ [s]) cs) : ∃ v e t cl x0 c1 ce ct, LastC m y l0 s v e t cl x0 c1 ce ct := by
  obtain ⟨xs, c0, cr, rfl, h1, h2, h3⟩ := h
  obtain ⟨x1, x2, c1, c2, rfl, rfl, r1, e, t, xs', ce, ct, cr', rfl, rfl, q3, q4, rfl, rfl⟩ := h2.split
  rcases h1 with ⟨_, h, _⟩ | ⟨q1, q2, v, cl, hy, rfl, q5⟩
  · simp at h
  · rw [List.length_append, List.length_singleton] at hy q5
    exact ⟨v, e, t, cl, x1, c1, ce, ct, hy, q5, r1, q3, q4, h3⟩
theorem LastC.len {m : Mem} {y : AV} {l0 : List Sm} {s : Sm} {v : Nat} {e t : AV} {cl : Nat} {x0 : List AV} {c1 ce ct : List Nat} (h : LastC m y l0 s v e t cl x0 c1 ce ct) : x0.length = l0.length * 3 := h.rows.len
theorem LastC.sum {m : Mem} {y : AV} {l0 : List Sm} {s : Sm} {v : Nat} {e t : AV} {cl : Nat} {x0 : List AV} {c1 ce ct : List Nat} (h : LastC m y l0 s v e t cl x0 c1 ce ct) : SumC m y (l0 ++ [s]) ([cl] ++ (c1 ++ (ce ++ (ct ++ [])))) := by
  refine ⟨x0 ++ [.int .i64 s.fn, e, t], [cl], c1 ++ (ce ++ (ct ++ [])), rfl, .inr ⟨by simp, by simp [h.len]; omega, v, cl, ?_, rfl, ?_⟩, h.rows.append ⟨e, t, [], ce, ct, [], rfl, rfl, h.ex, h.th, ⟨rfl, rfl⟩⟩, h.nd⟩
  · rw [List.length_append, List.length_singleton]; exact h.y
  · rw [List.length_append, List.length_singleton]; exact h.win
theorem LastC.lt {m : Mem} {y : AV} {l0 : List Sm} {s : Sm} {v : Nat} {e t : AV} {cl : Nat} {x0 : List AV} {c1 ce ct : List Nat} (h : LastC m y l0 s v e t cl x0 c1 ce ct) : ∀ c ∈ [cl] ++ (c1 ++ (ce ++ (ct ++ []))), c < m.nxt := h.sum.lt
theorem LastC.frame {m m' : Mem} {y : AV} {l0 : List Sm} {s : Sm} {v : Nat} {e t : AV} {cl : Nat} {x0 : List AV} {c1 ce ct X : List Nat} (h : LastC m y l0 s v e t cl x0 c1 ce ct) (k : FrameC m m' X) (hx : ∀ c ∈ [cl] ++ (c1 ++ (ce ++ (ct ++ []))), ¬ c ∈ X) : LastC m' y l0 s v e t cl x0 c1 ce ct :=
  ⟨h.y, h.win.frame k (hx cl (by simp)), h.rows.frame k (fun c hc => hx c (by simp [hc])), h.ex.frame k (fun c hc => hx c (by simp [hc])), h.th.frame k (fun c hc => hx c (by simp [hc])), h.nd⟩
/-- one pair more for its throw list -/
theorem LastC.pushTh {m : Mem} (w : WFm m) {y : AV} {l0 : List Sm} {s : Sm} {v : Nat} {e t : AV} {cl : Nat} {x0 : List AV} {c1 ce ct : List Nat} (h : LastC m y l0 s v e t cl x0 c1 ce ct) (a b : Int) (hl : s.th.length ≤ 1000000) :
    ∃ t' m1 m2 cs', sourceA (m.fresh (some 70) [.int .i64 a, .int .i64 b]) 2 (.sl m.nxt 0 1 2) = some (1, [.int .i64 a, .int .i64 b]) ∧ appendA 70 2 16 (m.fresh (some 70) [.int .i64 a, .int .i64 b]) t 1 [.int .i64 a, .int .i64 b] = some (t', m1) ∧ t'.isCell = true ∧ m1.store (.ptr v (l0.length * 3 + 2)) [t'] = some m2 ∧ WFm m2 ∧ SumC m2 y (l0 ++ [{ s with th := s.th ++ [(a, b)] }]) cs' := by
  have hlt := h.lt
  obtain ⟨t', m1, ct', a1, a2, w1, k1, s1, n1, hc⟩ := h.th.appendLit w (bytes := 16) (zs := [.int .i64 a, .int .i64 b]) rfl rfl (by omega) (by omega)
  have hnd := h.nd
  have hcl : ¬ cl ∈ ct := fun hc => by rw [List.singleton_append, List.nodup_cons] at hnd; exact hnd.1 (by simp [hc])
  have hnd2 : (c1 ++ (ce ++ (ct ++ []))).Nodup := by rw [List.singleton_append, List.nodup_cons] at hnd; exact hnd.2
  have hc1 : ∀ c ∈ c1, ¬ c ∈ ct := fun c h1 h2 => by rw [List.nodup_append] at hnd2; exact hnd2.2.2 c h1 c (by simp [h2]) rfl
  have hce : ∀ c ∈ ce, ¬ c ∈ ct := fun c h1 h2 => by
    rw [List.nodup_append] at hnd2
    have := hnd2.2.1
    rw [List.nodup_append] at this
    exact this.2.2 c h1 c (by simp [h2]) rfl
  have b1 := h.win.frame k1 hcl
  have hx0 := h.len
  obtain ⟨m2, st, w2, n2, k2, b2⟩ := b1.store w1 (k := l0.length * 3 + 2) (zs := [t']) (by simp; omega) (by simp only [allCells, s1.cell, Bool.and_self])
  have e2 : (x0 ++ [AV.int .i64 s.fn, e, t]).take (l0.length * 3 + 2) ++ [t'] ++ (x0 ++ [AV.int .i64 s.fn, e, t]).drop (l0.length * 3 + 2 + [t'].length) = x0 ++ [AV.int .i64 s.fn, e, t'] := by
    rw [show x0 ++ [AV.int .i64 s.fn, e, t] = (x0 ++ [AV.int .i64 s.fn, e]) ++ [t] by simp, List.take_left' (by simp [hx0]), List.drop_of_length_le (by simp [hx0])]
    simp
  rw [e2] at b2
  have hnd' : ([cl] ++ (c1 ++ (ce ++ (ct' ++ [])))).Nodup := by
    have := nodup_put (A := [cl] ++ (c1 ++ ce)) (c := ct) (c' := ct') (B := []) (N := m.nxt) (by simpa using hnd) (fun x hx => hlt x (by simpa using hx)) s1.nodup hc
    simpa using this
  have hcl' : ¬ cl ∈ ct' := fun hc => by rw [List.singleton_append, List.nodup_cons] at hnd'; exact hnd'.1 (by simp [hc])
  have hcl1 : ∀ c ∈ c1, ¬ c ∈ [cl] := fun c hc he => by rw [List.mem_singleton] at he; subst he; rw [List.singleton_append, List.nodup_cons] at hnd'; exact hnd'.1 (by simp [hc])
  have hcle : ∀ c ∈ ce, ¬ c ∈ [cl] := fun c hc he => by rw [List.mem_singleton] at he; subst he; rw [List.singleton_append, List.nodup_cons] at hnd'; exact hnd'.1 (by simp [hc])
  refine ⟨t', m1, m2, _, a1, a2, s1.cell, st, w2, LastC.sum (l0 := l0) (s := { s with th := s.th ++ [(a, b)] }) (e := e) (t := t') (cl := cl) (x0 := x0) (c1 := c1) (ce := ce) (ct := ct') ⟨h.y, b2, (h.rows.frame k1 hc1).frame k2 hcl1, (h.ex.frame k1 hce).frame k2 hcle, ?_, hnd'⟩⟩
  have s2 := s1.frame k2 (fun c hc he => by rw [List.mem_singleton] at he; subst he; exact hcl' hc)
  have e3 : encPairs s.th ++ [AV.int .i64 a, .int .i64 b] = encPairs (s.th ++ [(a, b)]) := by
    have : ∀ l : List (Int × Int), encPairs l ++ [AV.int .i64 a, .int .i64 b] = encPairs (l ++ [(a, b)]) := by
      intro l
      induction l with
      | nil => rfl
      | cons p l ih => simp only [encPairs, List.cons_append, ih]
    exact this s.th
  rw [e3] at s2
  show SlC m2 t' 2 (s.th ++ [(a, b)]).length (encPairs (s.th ++ [(a, b)])) ct' 70
  rw [List.length_append]
  exact s2
/-- .. for its exit list -/
theorem LastC.pushEx {m : Mem} (w : WFm m) {y : AV} {l0 : List Sm} {s : Sm} {v : Nat} {e t : AV} {cl : Nat} {x0 : List AV} {c1 ce ct : List Nat} (h : LastC m y l0 s v e t cl x0 c1 ce ct) (a b : Int) (hl : s.ex.length ≤ 1000000) :
    ∃ e' m1 m2 cs', sourceA (m.fresh (some 70) [.int .i64 a, .int .i64 b]) 2 (.sl m.nxt 0 1 2) = some (1, [.int .i64 a, .int .i64 b]) ∧ appendA 70 2 16 (m.fresh (some 70) [.int .i64 a, .int .i64 b]) e 1 [.int .i64 a, .int .i64 b] = some (e', m1) ∧ e'.isCell = true ∧ m1.store (.ptr v (l0.length * 3 + 1)) [e'] = some m2 ∧ WFm m2 ∧ SumC m2 y (l0 ++ [{ s with ex := s.ex ++ [(a, b)] }]) cs' := by
  have hlt := h.lt
  obtain ⟨e', m1, ce', a1, a2, w1, k1, s1, n1, hc⟩ := h.ex.appendLit w (bytes := 16) (zs := [.int .i64 a, .int .i64 b]) rfl rfl (by omega) (by omega)
  have hnd := h.nd
  have hcl : ¬ cl ∈ ce := fun hc => by rw [List.singleton_append, List.nodup_cons] at hnd; exact hnd.1 (by simp [hc])
  have hnd2 : (c1 ++ (ce ++ (ct ++ []))).Nodup := by rw [List.singleton_append, List.nodup_cons] at hnd; exact hnd.2
  have hc1 : ∀ c ∈ c1, ¬ c ∈ ce := fun c h1 h2 => by rw [List.nodup_append] at hnd2; exact hnd2.2.2 c h1 c (by simp [h2]) rfl
  have hct : ∀ c ∈ ct, ¬ c ∈ ce := fun c h1 h2 => by
    rw [List.nodup_append] at hnd2
    have := hnd2.2.1
    rw [List.nodup_append] at this
    exact this.2.2 c h2 c (by simp [h1]) rfl
  have b1 := h.win.frame k1 hcl
  have hx0 := h.len
  obtain ⟨m2, st, w2, n2, k2, b2⟩ := b1.store w1 (k := l0.length * 3 + 1) (zs := [e']) (by simp; omega) (by simp only [allCells, s1.cell, Bool.and_self])
  have e2 : (x0 ++ [AV.int .i64 s.fn, e, t]).take (l0.length * 3 + 1) ++ [e'] ++ (x0 ++ [AV.int .i64 s.fn, e, t]).drop (l0.length * 3 + 1 + [e'].length) = x0 ++ [AV.int .i64 s.fn, e', t] := by
    rw [show x0 ++ [AV.int .i64 s.fn, e, t] = (x0 ++ [AV.int .i64 s.fn]) ++ [e, t] by simp, List.take_left' (by simp [hx0]),
      show (x0 ++ [AV.int .i64 s.fn]) ++ [e, t] = (x0 ++ [AV.int .i64 s.fn, e]) ++ [t] by simp, List.drop_left' (by simp [hx0])]
    simp
  rw [e2] at b2
  have hnd' : ([cl] ++ (c1 ++ (ce' ++ (ct ++ [])))).Nodup := by
    have := nodup_put (A := [cl] ++ c1) (c := ce) (c' := ce') (B := ct ++ []) (N := m.nxt) (by simpa using hnd) (fun x hx => hlt x (by simpa using hx)) s1.nodup hc
    simpa using this
  have hcl' : ¬ cl ∈ ce' := fun hc => by rw [List.singleton_append, List.nodup_cons] at hnd'; exact hnd'.1 (by simp [hc])
  have hcl1 : ∀ c ∈ c1, ¬ c ∈ [cl] := fun c hc he => by rw [List.mem_singleton] at he; subst he; rw [List.singleton_append, List.nodup_cons] at hnd'; exact hnd'.1 (by simp [hc])
  have hclt : ∀ c ∈ ct, ¬ c ∈ [cl] := fun c hc he => by rw [List.mem_singleton] at he; subst he; rw [List.singleton_append, List.nodup_cons] at hnd'; exact hnd'.1 (by simp [hc])
  have s2 := s1.frame k2 (fun c hc he => by rw [List.mem_singleton] at he; subst he; exact hcl' hc)
  have e3 : encPairs s.ex ++ [AV.int .i64 a, .int .i64 b] = encPairs (s.ex ++ [(a, b)]) := by
    have : ∀ l : List (Int × Int), encPairs l ++ [AV.int .i64 a, .int .i64 b] = encPairs (l ++ [(a, b)]) := by
      intro l
      induction l with
      | nil => rfl
      | cons p l ih => simp only [encPairs, List.cons_append, ih]
    exact this s.ex
  rw [e3] at s2
  have s3 : SlC m2 e' 2 (s.ex ++ [(a, b)]).length (encPairs (s.ex ++ [(a, b)])) ce' 70 := by rw [List.length_append]; exact s2
  exact ⟨e', m1, m2, _, a1, a2, s1.cell, st, w2, LastC.sum (l0 := l0) (s := { s with ex := s.ex ++ [(a, b)] }) (e := e') (t := t) (cl := cl) (x0 := x0) (c1 := c1) (ce := ce') (ct := ct) ⟨h.y, b2, (h.rows.frame k1 hc1).frame k2 hcl1, s3, (h.th.frame k1 hct).frame k2 hclt, hnd'⟩⟩
end Go.Vz
