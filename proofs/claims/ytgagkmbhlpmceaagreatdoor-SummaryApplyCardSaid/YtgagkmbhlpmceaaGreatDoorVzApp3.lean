/-
  V's APPEND: the operation.
-/
import Derived.Test.YtgagkmbhlpmceaaGreatDoorVzApp2
set_option linter.unusedVariables false
set_option linter.unusedSimpArgs false
namespace Go.Vz
open Go Go.RowKit
section
variable {w0 : World} {base : Nat} {g g' : Map} {P : Program} {m m' : Mem} {w w' : World}
theorem size_zeroCells' (z : Array Value) (n : Nat) : (Builtin.zeroCells z n).size = n * z.size := size_zeroCells z n
theorem tyIs_spec {t : Option TypeId} {e : TypeId} (h : tyIs t e = true) : t = some e := by
  cases t with
  | none => cases h
  | some u => rw [Nat.eq_of_beq_eq_true h]
theorem nty_spec {ty : Option TypeId} {e t : TypeId} {k lo : Nat} (h : (bif tyIs ty e && Nat.beq k lo then some e else none) = some t) : ty = some e ∧ lo = k ∧ e = t := by
  cases hb : tyIs ty e && Nat.beq k lo with
  | false => rw [hb] at h; cases h
  | true =>
    rw [hb] at h
    rw [Bool.and_eq_true_iff] at hb
    exact ⟨tyIs_spec hb.1, (Nat.eq_of_beq_eq_true hb.2).symm, Option.some.inj h⟩
theorem appendA_run (R : Rel w0 base g m w) {t u ty e : TypeId} {d : TypeDesc} {i : TypeInfo} {z : Value} {sz bytes : Nat} (ht : P.underlying t = some (.slice e)) (hu : P.underlying u = some d) (hd : ∀ k, d ≠ .int k)
    (hi : P.info? e = some i) (hz : i.zero = some z) (hsz : i.size = sz + 1) (hby : i.bytes = bytes) (hzs : z.cells.size = sz + 1)
    {s x : AV} {sv xv : Value} {n : Nat} {cs : List AV} (hs : VRel w0 base g s sv) (hx : VRel w0 base g x xv) (hsrc : sourceA m (sz + 1) x = some (n, cs)) {s' : AV} (h : appendA e (sz + 1) bytes m s n cs = some (s', m')) :
    ∃ v w' g', (Builtin.append_ #[t, u] ty #[sv, xv]).run P w = .ok v w' ∧ g.le g' ∧ VRel w0 base g' s' v ∧ Rel w0 base g' m' w' := by
  obtain ⟨hcl, hlen, news, hnr, hnrun⟩ := source_run (P := P) R hsrc hx
  obtain ⟨_, _, newd, hdr, hdrun⟩ := source_run (P := P) R.drew hsrc hx
  have hnl : news.size = n * (sz + 1) := by have := hnr.length; rw [Array.length_toList (xs := news)] at this; omega
  have hdl : newd.size = n * (sz + 1) := by have := hdr.length; rw [Array.length_toList (xs := newd)] at this; omega
  rw [← hsz] at hnrun hdrun
  unfold appendA at h
  split at h
  · -- the nil slice
    cases hs
    cases hn : Nat.beq n 0 with
    | true =>
      simp only [hn, cond_true, Option.some.injEq, Prod.mk.injEq] at h
      obtain ⟨rfl, rfl⟩ := h
      have := Nat.eq_of_beq_eq_true hn
      subst this
      exact ⟨_, w, g, append_fits ht hu hd hi hlen (Nat.le_refl 0) hnrun (fun a h => by cases h) (fun _ => rfl), Map.le_refl g, .nilsl, R⟩
    | false =>
      simp only [hn, cond_false] at h
      have hn0 : 0 < n := by
        rcases Nat.eq_zero_or_pos n with h0 | h0
        · subst h0; simp at hn
        · exact h0
      cases hb : Nat.ble (n * bytes) 140737488355328 && Nat.ble n 9223372036854775807 && allCells cs with
      | false => simp [hb] at h
      | true =>
        simp only [hb, cond_true, Option.some.injEq, Prod.mk.injEq] at h
        obtain ⟨rfl, rfl⟩ := h
        simp only [Bool.and_eq_true] at hb
        obtain ⟨⟨hb1, hb2⟩, hb3⟩ := hb
        have hb1 := Nat.le_of_ble_eq_true hb1
        have hb2 := Nat.le_of_ble_eq_true hb2
        have hrun := append_grows (w := w) (ty := ty) ht hu hd hi hz (sb := none) (sLen := 0) (sCap := 0) (old := #[]) hlen (by omega) (by omega)
          (by rw [Nat.zero_add, hby, nextslicecap_zero hn0]; omega) (.inr trivial) (by simp [Builtin.firstCells]) hdrun
        simp only [Nat.zero_add, Array.empty_append] at hrun
        have hge := grownCap_ge w n 0 e
        have hcm := grownCap_le_maxLen w n 0 e (by simp only [maxLen]; omega)
        have hsize : (newd ++ Builtin.zeroCells z.cells (grownCap w n 0 e - n)).size = grownCap w n 0 e * (sz + 1) := by
          rw [Array.size_append, size_zeroCells', hzs, hdl, ← Nat.add_mul]; congr 1; omega
        obtain ⟨q1, q2⟩ := R.drew.fresh' (some e) cs (newd ++ Builtin.zeroCells z.cells (grownCap w n 0 e - n)) e (fun t h => Option.some.inj h) (0, 0) false (fun _ => rfl) hb3 (by
          have hdl' : newd.toList.length = newd.size := Array.length_toList
          rw [Array.toList_append, List.take_append_of_le_length (by omega), List.take_of_length_le (by omega)]
          exact hdr)
        refine ⟨_, _, _, hrun, q1, ?_, q2⟩
        refine .sl _ _ _ _ _ _ _ (Map.add_same _ _ _) hge hcm (fun _ => ⟨0, rfl, rfl, ?_⟩)
        show 0 + _ ≤ (newd ++ Builtin.zeroCells z.cells (grownCap w n 0 e - n)).size
        rw [hsize]; omega
  · rename_i v k len z'
    cases hzz : Nat.beq z' (sz + 1) with
    | false => simp [hzz] at h
    | true =>
      simp only [hzz, cond_true] at h
      have := Nat.eq_of_beq_eq_true hzz
      subst this
      cases hs with | sl _ _ _ _ a cap p hp hn hm hpl =>
      cases hn0 : Nat.beq n 0 with
      | true =>
        simp only [hn0, cond_true, Option.some.injEq, Prod.mk.injEq] at h
        obtain ⟨rfl, rfl⟩ := h
        have := Nat.eq_of_beq_eq_true hn0
        subst this
        have hnews : news = #[] := Array.eq_empty_of_size_eq_zero (by rw [hnl]; simp)
        subst hnews
        refine ⟨_, w, g, append_fits ht hu hd hi hlen (by omega) hnrun (fun a' h => by rfl) (fun h => by cases h), Map.le_refl g, ?_, R⟩
        exact .sl _ _ _ _ _ _ p hp hn hm hpl
      | false =>
        simp only [hn0, cond_false] at h
        have hnpos : 0 < n := by
          rcases Nat.eq_zero_or_pos n with h0 | h0
          · subst h0; simp at hn0
          · exact h0
        cases hb : Nat.ble ((len + n) * bytes) 140737488355328 && Nat.ble (len + n) 9223372036854775807 && allCells cs with
        | false => simp [hb] at h
        | true =>
          simp only [hb, cond_true] at h
          simp only [Bool.and_eq_true] at hb
          obtain ⟨⟨hb1, hb2⟩, hb3⟩ := hb
          have hb1 := Nat.le_of_ble_eq_true hb1
          have hb2 := Nat.le_of_ble_eq_true hb2
          cases hl : m.live v with
          | none => simp [hl] at h
          | some Wc =>
            obtain ⟨W, c⟩ := Wc
            simp only [hl] at h
            cases hc : !c.fro && Nat.ble W.lo k && Nat.ble (k + len * (sz + 1)) W.hi with
            | false => simp [hc] at h
            | true =>
              simp only [hc, cond_true, Option.some.injEq, Prod.mk.injEq] at h
              obtain ⟨rfl, rfl⟩ := h
              simp only [Bool.and_eq_true, Bool.not_eq_true'] at hc
              obtain ⟨⟨hfro, hlo⟩, hhi⟩ := hc
              have hlo := Nat.le_of_ble_eq_true hlo
              have hhi := Nat.le_of_ble_eq_true hhi
              obtain ⟨h1, h2, h3⟩ := Mem.live_spec hl
              obtain ⟨p0, hp0, cells, eb, fr, c0, hheap, hcsz, hc0, hfr, hhb, hown⟩ := R.obj v _ h1
              have hhb1 := hhb.1
              rw [hp] at hp0; cases hp0
              rw [h2] at hc0; cases hc0
              have := hfr hfro
              subst this
              have hplb := R.pl v p hp
              by_cases hfit : len + n ≤ cap
              · -- it stays in its block
                obtain ⟨o, rfl, ho, hbd⟩ := hpl (by omega)
                have hcl' : cells.toList.length = cells.size := Array.length_toList
                have hnl' : news.toList.length = news.size := Array.length_toList
                have hroom : o + len * (sz + 1) + 0 + news.toList.length ≤ cells.size := by
                  rw [hnl', hnl]
                  have h4 : len * (sz + 1) + n * (sz + 1) ≤ cap * (sz + 1) := by rw [← Nat.add_mul]; exact Nat.mul_le_mul_right _ hfit
                  omega
                have hst : (storeCells ((⟨p.b, o, none⟩ : Addr).add (len * i.size)) news.toList).run P w = .ok () (w.setRow p.b (cells.toList.take (o + len * (sz + 1) + 0) ++ news.toList ++ cells.toList.drop (o + len * (sz + 1) + 0 + news.toList.length)).toArray) := by
                  rw [Addr.add_lit, hsz]
                  exact run_storeCells_at P p.b (o + len * (sz + 1)) eb news.toList 0 cells w hheap hroom (hnr.oneCell hb3)
                have hrun := append_fits (w := w) (ty := ty) ht hu hd hi (sb := some ⟨p.b, o, none⟩) hlen hfit hnrun (fun a' h => by cases h; exact hst) (fun h => by cases h)
                have hbb := butBlock_setRow w p.b (cells.toList.take (o + len * (sz + 1) + 0) ++ news.toList ++ cells.toList.drop (o + len * (sz + 1) + 0 + news.toList.length)).toArray
                have hnewb := setRow_heap w p.b cells (cells.toList.take (o + len * (sz + 1) + 0) ++ news.toList ++ cells.toList.drop (o + len * (sz + 1) + 0 + news.toList.length)).toArray eb (0, 0) hheap
                have hsize : (cells.toList.take (o + len * (sz + 1) + 0) ++ news.toList ++ cells.toList.drop (o + len * (sz + 1) + 0 + news.toList.length)).toArray.size = cells.size := by
                  rw [List.size_toArray, List.length_append, List.length_append, List.length_take, List.length_drop]
                  omega
                have hread : ∀ j, (cells.toList.take (o + len * (sz + 1) + 0) ++ news.toList ++ cells.toList.drop (o + len * (sz + 1) + 0 + news.toList.length)).toArray[j]? =
                    if j < o + len * (sz + 1) then cells[j]? else if j < o + len * (sz + 1) + news.size then news[j - (o + len * (sz + 1))]? else cells[j]? := by
                  intro j
                  have htl : (cells.toList.take (o + len * (sz + 1))).length = o + len * (sz + 1) := by rw [List.length_take]; omega
                  simp only [List.getElem?_toArray, List.append_assoc, Nat.add_zero]
                  by_cases j1 : j < o + len * (sz + 1)
                  · rw [if_pos j1, List.getElem?_append_left (by omega), List.getElem?_take, if_pos j1, Array.getElem?_toList]
                  · rw [if_neg j1, List.getElem?_append_right (by omega), htl]
                    by_cases j2 : j < o + len * (sz + 1) + news.size
                    · rw [if_pos j2, List.getElem?_append_left (by omega), Array.getElem?_toList]
                    · rw [if_neg j2, List.getElem?_append_right (by omega), List.getElem?_drop, Array.getElem?_toList]
                      congr 1; omega
                generalize hX : (cells.toList.take (o + len * (sz + 1) + 0) ++ news.toList ++ cells.toList.drop (o + len * (sz + 1) + 0 + news.toList.length)).toArray = X at hrun hbb hnewb hsize hread
                have hh := R.appended (bif tyIs W.ty e && Nat.beq k W.lo then some e else none) (w' := w.setRow p.b X) (k := k) (pp := k + len * (sz + 1)) (pn := p) (cs := cs) hl hp hfro hheap (hbb.below hplb.1) (fun b _ hb => hbb.other b hb)
                  ⟨X, hnewb, hsize, fun j hj => by rw [hread, if_pos (by omega)]⟩ ⟨hplb.1, by rw [hbb.size]; exact hplb.2.1⟩ (.inl ⟨rfl, rfl⟩)
                  ⟨X, eb, hnewb, by rw [hsize]; exact hcsz, ⟨(by
                    have h4 : len * (sz + 1) + n * (sz + 1) ≤ cap * (sz + 1) := by rw [← Nat.add_mul]; exact Nat.mul_le_mul_right _ hfit
                    omega), fun t ht => by
                    obtain ⟨t1, t2, t3⟩ := nty_spec ht
                    obtain ⟨t4, t5⟩ := hhb.2 e t1
                    exact ⟨by rw [t4, t3], by rw [t5, t2]⟩⟩, fun j y hj1 hj2 hy => by
                    rw [setCells_get] at hy
                    by_cases hin : k + len * (sz + 1) ≤ j ∧ j < k + len * (sz + 1) + cs.length
                    · rw [if_pos hin] at hy
                      obtain ⟨uu, hu1, hu2⟩ := hnr.get hy
                      refine ⟨allCells_mem hb3 y (List.mem_of_getElem? hy), o + (j - k), uu, by omega, ?_, hu2⟩
                      rw [hread, if_neg (by omega), if_pos (by omega), show o + (j - k) - (o + len * (sz + 1)) = j - (k + len * (sz + 1)) by omega]
                      simpa using hu1
                    · rw [if_neg hin] at hy
                      obtain ⟨y1, oj, uu, y2, y3, y4⟩ := (hown h3).2 j y (Win.cell_iff.2 ⟨by omega, by omega, hy⟩)
                      exact ⟨y1, oj, uu, y2, by rw [hread, if_pos (by omega)]; exact y3, y4⟩⟩
                refine ⟨_, _, _, hrun, hh.1, ?_, hh.2⟩
                refine .sl _ _ _ _ _ _ p (Map.add_same _ _ _) hfit hm (fun _ => ⟨o, rfl, ho, hbd⟩)
              · -- it moves
                have hgr : cap < len + n := by omega
                -- the old cells
                have hold : ∃ old : Array Value, (Builtin.firstCells i.size len (.slice (some a) len cap)).run P w.drew = .ok old w.drew ∧ old.size = len * (sz + 1) ∧
                    ∀ j, j < len * (sz + 1) → ∃ o, a = ⟨p.b, o, none⟩ ∧ o + p.d = k ∧ old[j]? = cells[o + j]? := by
                  rcases Nat.eq_zero_or_pos cap with h0 | h0
                  · have : len = 0 := by omega
                    subst this
                    exact ⟨#[], by simp [Builtin.firstCells, loadCells, loadCellsFrom], by simp, fun j hj => by simp at hj⟩
                  · obtain ⟨o, rfl, ho, hbd⟩ := hpl h0
                    have h4 : len * (sz + 1) ≤ cap * (sz + 1) := Nat.mul_le_mul_right _ hn
                    have hlenx : ((cells.toList.drop o).take (len * (sz + 1))).length = len * (sz + 1) := by
                      have hcl' : cells.toList.length = cells.size := Array.length_toList
                      rw [List.length_take, List.length_drop]; omega
                    refine ⟨((cells.toList.drop o).take (len * (sz + 1))).toArray, ?_, by rw [List.size_toArray]; exact hlenx, fun j hj => ⟨o, rfl, ho, ?_⟩⟩
                    · have hc' : ∀ j u, ((cells.toList.drop o).take (len * (sz + 1)))[j]? = some u → w.drew.cell? ((⟨p.b, o, none⟩ : Addr).add j) = some u := fun j u hj => by
                        rw [Addr.add_lit, cell_block (w := w.drew) hheap]
                        rw [List.getElem?_take] at hj
                        by_cases hjl : j < len * (sz + 1)
                        · rw [if_pos hjl, List.getElem?_drop] at hj; simpa using hj
                        · rw [if_neg hjl] at hj; cases hj
                      have := run_loadCells_list (P := P) (w := w.drew) ⟨p.b, o, none⟩ _ hc'
                      rw [hlenx] at this
                      simp only [Builtin.firstCells, hsz, this]
                    · simp only [List.getElem?_toArray, List.getElem?_take, if_pos hj, List.getElem?_drop, Array.getElem?_toList]
                obtain ⟨old, hold1, hold2, hold3⟩ := hold
                have hrun := append_grows (w := w) (ty := ty) ht hu hd hi hz (sb := some a) hlen hgr (by omega) (by rw [hby]; exact growslice_fits hgr hb1) (.inr trivial) hold1 hdrun
                have hge := grownCap_ge w (len + n) cap e
                have hcm := grownCap_le_maxLen w (len + n) cap e (by simp only [maxLen]; omega)
                have hsize : (old ++ newd ++ Builtin.zeroCells z.cells (grownCap w (len + n) cap e - (len + n))).size = grownCap w (len + n) cap e * (sz + 1) := by
                  rw [Array.size_append, Array.size_append, size_zeroCells', hzs, hdl, hold2, ← Nat.add_mul, ← Nat.add_mul]; congr 1; omega
                have hread : ∀ j, j < (len + n) * (sz + 1) → (old ++ newd ++ Builtin.zeroCells z.cells (grownCap w (len + n) cap e - (len + n)))[j]? =
                    if j < len * (sz + 1) then old[j]? else newd[j - len * (sz + 1)]? := by
                  intro j hj
                  have hmul : (len + n) * (sz + 1) = len * (sz + 1) + n * (sz + 1) := Nat.add_mul _ _ _
                  rw [Array.append_assoc]
                  by_cases j1 : j < len * (sz + 1)
                  · rw [if_pos j1, Array.getElem?_append_left (by omega)]
                  · rw [if_neg j1, Array.getElem?_append_right (by omega), hold2, Array.getElem?_append_left (by omega)]
                generalize hX : old ++ newd ++ Builtin.zeroCells z.cells (grownCap w (len + n) cap e - (len + n)) = X at hrun hsize hread
                have hh := R.appended (bif tyIs W.ty e && Nat.beq k W.lo then some e else none) (w' := w.drew.alloc (.cells X e (0, 0))) (k := k) (pp := k + len * (sz + 1)) (pn := ⟨w.heap.size, k, grownCap w (len + n) cap e * (sz + 1)⟩) (cs := cs) hl hp hfro hheap
                  ((Below.refl base w).drew.alloc (show base ≤ w.drew.heap.size from R.nb) _) (fun b hb _ => heap_alloc_lt w.drew _ hb)
                  ⟨cells, by rw [heap_alloc_lt w.drew _ hplb.2.1]; exact hheap, rfl, fun _ _ => rfl⟩ ⟨R.nb, by rw [size_alloc]; exact Nat.lt_succ_self _⟩ (.inr (Nat.le_refl _))
                  ⟨X, e, heap_alloc w.drew _, hsize, ⟨(by
                    have h4 : len * (sz + 1) + n * (sz + 1) ≤ grownCap w (len + n) cap e * (sz + 1) := by rw [← Nat.add_mul]; exact Nat.mul_le_mul_right _ hge
                    show k + len * (sz + 1) + cs.length ≤ k + grownCap w (len + n) cap e * (sz + 1)
                    omega), fun t ht => ⟨(nty_spec ht).2.2, rfl⟩⟩, fun j y hj1 hj2 hy => by
                    have hmul : (len + n) * (sz + 1) = len * (sz + 1) + n * (sz + 1) := Nat.add_mul _ _ _
                    rw [setCells_get] at hy
                    by_cases hin : k + len * (sz + 1) ≤ j ∧ j < k + len * (sz + 1) + cs.length
                    · rw [if_pos hin] at hy
                      obtain ⟨uu, hu1, hu2⟩ := hdr.get hy
                      refine ⟨allCells_mem hb3 y (List.mem_of_getElem? hy), j - k, uu, by show j - k + k = j; omega, ?_, hu2⟩
                      rw [hread _ (by omega), if_neg (by omega), show j - k - len * (sz + 1) = j - (k + len * (sz + 1)) by omega]
                      simpa using hu1
                    · rw [if_neg hin] at hy
                      obtain ⟨y1, oj, uu, y2, y3, y4⟩ := (hown h3).2 j y (Win.cell_iff.2 ⟨by omega, by omega, hy⟩)
                      obtain ⟨o, ha, ho, hoj⟩ := hold3 (j - k) (by omega)
                      refine ⟨y1, j - k, uu, by show j - k + k = j; omega, ?_, y4⟩
                      rw [hread _ (by omega), if_pos (by omega), hoj, show o + (j - k) = oj by omega]
                      exact y3⟩
                refine ⟨_, _, _, hrun, hh.1, ?_, hh.2⟩
                exact .sl _ _ _ _ _ _ _ (Map.add_same _ _ _) hge hcm (fun _ => ⟨0, rfl, Nat.zero_add k, by rw [Nat.zero_add]; exact Nat.le_refl _⟩)
  · cases h
end
end Go.Vz
