/-
  V's READING OPERATIONS.
-/
import Derived.Test.YtgagkmbhlpmceaaGreatDoorVzPure6
import Derived.Laws.Cells
set_option linter.unusedVariables false
set_option linter.unusedSimpArgs false
namespace Go.Vz
open Go Go.RowKit
theorem Mem.live_spec {m : Mem} {v : Nat} {W : Win} {c : Cl} (h : m.live v = some (W, c)) : m.obs.get v = some (.win W) ∧ m.cls.get W.cls = some c ∧ Owns c v := by
  unfold Mem.live at h
  split at h
  · rename_i W' hw
    split at h
    · rename_i c' hc
      split at h
      · rename_i ho
        cases h
        exact ⟨hw, hc, .inl ho⟩
      · rename_i u ho
        cases hb : Nat.beq u v with
        | false => simp [hb] at h
        | true =>
          simp only [hb, cond_true] at h
          cases h
          exact ⟨hw, hc, .inr (by rw [ho, Nat.eq_of_beq_eq_true hb])⟩
    · cases h
  · cases h
theorem Win.read_spec {W : Win} : ∀ {n k : Nat} {xs : List AV}, W.read k n = some xs → xs.length = n ∧ ∀ j x, xs[j]? = some x → W.cell (k + j) = some x
  | 0, k, xs, h => by simp only [Win.read] at h; cases h; simp
  | n + 1, k, xs, h => by
    simp only [Win.read] at h
    cases h1 : W.cell k with
    | none => simp [h1] at h
    | some x =>
      cases h2 : W.read (k + 1) n with
      | none => simp [h1, h2] at h
      | some l =>
        simp only [h1, h2] at h
        cases h
        obtain ⟨hl, hc⟩ := Win.read_spec h2
        refine ⟨by simp [hl], fun j y hy => ?_⟩
        cases j with
        | zero => simp at hy; subst hy; exact h1
        | succ j => simp at hy; have := hc j y hy; rwa [show k + 1 + j = k + (j + 1) by omega] at this
section
variable {w0 : World} {base : Nat} {g : Map} {P : Program} {m : Mem} {w : World} {r : Operand → Option AV} {ρ : Operand → Value}
/-- the cells of a list of places, chosen -/
theorem choose_cells (cells : Array Value) (p : Pl) : ∀ (xs : List AV) (o : Nat), (∀ j x, xs[j]? = some x → x.isCell = true ∧ ∃ o' u, o' + p.d = o + p.d + j ∧ cells[o']? = some u ∧ VRel w0 base g x u) →
    ∃ us : List Value, VRels w0 base g xs us ∧ allCells xs = true ∧ ∀ j u, us[j]? = some u → cells[o + j]? = some u
  | [], o, h => ⟨[], .nil, rfl, fun j u hu => by simp at hu⟩
  | x :: xs, o, h => by
    obtain ⟨hx, o', u, ho, hu, hr⟩ := h 0 x (by simp)
    have : o' = o := by omega
    subst this
    obtain ⟨us, h1, h2, h3⟩ := choose_cells cells p xs (o' + 1) (fun j y hy => by
      obtain ⟨hy1, o2, u2, ho2, hu2, hr2⟩ := h (j + 1) y (by simpa using hy)
      exact ⟨hy1, o2, u2, by omega, hu2, hr2⟩)
    refine ⟨u :: us, .cons _ _ _ _ hr h1, by simp [allCells, hx, h2], fun j v hv => ?_⟩
    cases j with
    | zero => simp at hv; subst hv; simpa using hu
    | succ j => simp at hv; have := h3 j v hv; rwa [show o' + 1 + j = o' + (j + 1) by omega] at this
theorem cell_block {w : World} {b o : Nat} {cells : Array Value} {e : TypeId} {fr : Nat × Nat} (h : w.heap[b]? = some (.cells cells e fr)) : w.cell? ⟨b, o, none⟩ = cells[o]? := by
  simp [World.cell?, h]
theorem allCells_of {xs : List AV} (h : ∀ x ∈ xs, x.isCell = true) : allCells xs = true := by
  induction xs with
  | nil => rfl
  | cons x xs ih => simp only [allCells, Bool.and_eq_true]; exact ⟨h x (by simp), ih fun y hy => h y (by simp [hy])⟩
/-- what V reads lies there -/
theorem Rel.load (R : Rel w0 base g m w) {a : AV} {ad : Addr} {n : Nat} {xs : List AV} (h : m.load a n = some xs) (ha : VRel w0 base g a (.pointer (some ad))) :
    xs.length = n ∧ ∃ us : List Value, VRels w0 base g xs us ∧ ∀ j u, us[j]? = some u → w.cell? (ad.add j) = some u := by
  unfold Mem.load at h
  split at h
  · rename_i v k
    split at h
    · rename_i W c hl
      obtain ⟨h1, h2, h3⟩ := Mem.live_spec hl
      obtain ⟨hlen, hcells⟩ := Win.read_spec h
      obtain ⟨p, hp, cells, e, fr, c', hheap, hsz, hc', hfr, hhb, hown⟩ := R.obj v _ h1
      have hhb1 := hhb.1
      rw [h2] at hc'
      cases hc'
      cases ha with | ptr _ _ o p' hp' ho =>
      rw [hp] at hp'
      cases hp'
      obtain ⟨us, hu1, hu2, hu3⟩ := choose_cells (w0 := w0) (base := base) (g := g) cells p xs o (fun j x hx => by
        have := (hown h3).2 _ _ (hcells j x hx)
        rwa [← ho] at this)
      exact ⟨hlen, us, hu1, fun j u hu => by rw [Addr.add_lit, cell_block hheap]; exact hu3 j u hu⟩
    · cases h
  · rename_i cs
    obtain ⟨e, hl⟩ := takeN_eq h
    cases ha with | rp _ _ us hs hc hrel =>
    refine ⟨by rw [e, List.length_take]; omega, us.take n, by rw [e]; exact hrel.take n, fun j u hu => ?_⟩
    have hu' : us[j]? = some u := by
      rw [List.getElem?_take] at hu
      split at hu
      · exact hu
      · cases hu
    have hpos : 0 < cs.length := by rw [hrel.length]; exact Nat.lt_of_le_of_lt (Nat.zero_le j) (List.getElem?_eq_some_iff.1 hu').1
    have hb := (hs hpos).2
    have hcell := hc j u hu'
    rw [R.below.cell (by rw [show (ad.add j).block = ad.block by unfold Addr.add; split <;> rfl]; exact hb)]
    exact hcell
  · cases h
theorem load_addr {a : AV} {n : Nat} {xs : List AV} {u : Value} (h : m.load a n = some xs) (hu : VRel w0 base g a u) : ∃ ad, u = .pointer (some ad) := by
  unfold Mem.load at h
  split at h
  · cases hu; exact ⟨_, rfl⟩
  · cases hu; exact ⟨_, rfl⟩
  · cases h
/-- a variable read -/
theorem Rel.loadVar (R : Rel w0 base g m w) {t : TypeId} {a : AV} {ad : Addr} {n : Nat} (hs : sizeT P t = some n) (ha : VRel w0 base g a (.pointer (some ad))) :
    (aggT P t = some true → ∀ xs, m.load a n = some xs → ∃ v, VRel w0 base g (.agg xs) v ∧ (Go.loadVar t ad).run P w = .ok v w) ∧
    (aggT P t = some false → ∀ x, m.load a 1 = some [x] → ∃ v, VRel w0 base g x v ∧ (Go.loadVar t ad).run P w = .ok v w) := by
  refine ⟨fun hg xs h => ?_, fun hg x h => ?_⟩
  · obtain ⟨hl, us, hu, hc⟩ := R.load h ha
    refine ⟨.agg us.toArray, .agg _ _ (by simpa using hu), ?_⟩
    have hn : us.length = n := by rw [← hu.length]; exact hl
    have := run_loadCells_list (P := P) (w := w) ad us hc
    rw [hn] at this
    simp only [Go.loadVar, Sem.run_bind, aggT_run hg, Result.andThen_ok, if_true, sizeT_run hs, this, Sem.run_pure]
  · obtain ⟨hl, us, hu, hc⟩ := R.load h ha
    cases hu with | cons _ v _ vs h1 h2 =>
    refine ⟨v, h1, ?_⟩
    have := hc 0 v (by simp)
    rw [Addr.add_zero'] at this
    simp only [Go.loadVar, Sem.run_bind, aggT_run hg, Result.andThen_ok, Bool.false_eq_true, if_false, run_load, this]
end
end Go.Vz
