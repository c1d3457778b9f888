/-
  The plain law: the program's Apply and the reference's give the same facts.
-/
import Derived.Test.YtgagkmbhlpmceaaGreatDoorVzAp2
set_option linter.unusedVariables false
set_option linter.unusedSimpArgs false
namespace Go.Vz
open Go
/-- ascending lists of the same members are one -/
theorem asc_ext : ∀ {l k : List Int}, l.Pairwise (· < ·) → k.Pairwise (· < ·) → (∀ x, x ∈ l ↔ x ∈ k) → l = k
  | [], [], _, _, _ => rfl
  | [], b :: k, _, _, h => by have := (h b).2 (by simp); cases this
  | a :: l, [], _, _, h => by have := (h a).1 (by simp); cases this
  | a :: l, b :: k, h1, h2, h => by
    rw [List.pairwise_cons] at h1 h2
    have hab : a = b := by
      have e1 : a = b ∨ a ∈ k := by simpa using (h a).1 (by simp)
      have e2 : b = a ∨ b ∈ l := by simpa using (h b).2 (by simp)
      rcases e1 with e1 | e1
      · exact e1
      · rcases e2 with e2 | e2
        · exact e2.symm
        · have := h1.1 b e2; have := h2.1 a e1; omega
    subst hab
    rw [asc_ext h1.2 h2.2 (fun x => ?_)]
    constructor
    · intro hx
      have : x = a ∨ x ∈ k := by simpa using (h x).1 (by simp [hx])
      rcases this with e | e
      · subst e; have := h1.1 x hx; omega
      · exact e
    · intro hx
      have : x = a ∨ x ∈ l := by simpa using (h x).2 (by simp [hx])
      rcases this with e | e
      · subst e; have := h2.1 x hx; omega
      · exact e
theorem insN_mem (a x : Int) : ∀ l : List Int, x ∈ insN a l ↔ x = a ∨ x ∈ l
  | [] => by simp [insN]
  | b :: l => by
    unfold insN
    split
    · simp
    · simp only [List.mem_cons, insN_mem a x l]
      constructor
      · rintro (h | h | h) <;> simp [h]
      · rintro (h | h | h) <;> simp [h]
theorem insN_asc (a : Int) : ∀ {l : List Int}, l.Pairwise (· < ·) → ¬ a ∈ l → (insN a l).Pairwise (· < ·)
  | [], _, _ => by simp [insN]
  | b :: l, h, hn => by
    rw [List.pairwise_cons] at h
    unfold insN
    split
    · rename_i hab
      rw [List.pairwise_cons]
      refine ⟨fun x hx => ?_, by rw [List.pairwise_cons]; exact h⟩
      cases hx with
      | head => exact hab
      | tail _ hx => have := h.1 x hx; omega
    · rename_i hab
      rw [List.pairwise_cons]
      refine ⟨fun x hx => ?_, insN_asc a h.2 (fun h' => hn (by simp [h']))⟩
      rw [insN_mem] at hx
      rcases hx with e | e
      · subst e
        have : x ≠ b := fun e => hn (by simp [e])
        omega
      · exact h.1 x e
theorem insF_mem (a x : Int) (l : List Int) : x ∈ insF a l ↔ x = a ∨ x ∈ l := by
  unfold insF
  split
  · rename_i h
    have h : a ∈ l := by simpa using h
    constructor
    · exact .inr
    · rintro (e | e)
      · subst e; exact h
      · exact e
  · exact insN_mem a x l
theorem insF_asc (a : Int) {l : List Int} (h : l.Pairwise (· < ·)) : (insF a l).Pairwise (· < ·) := by
  unfold insF
  split
  · exact h
  · rename_i hn
    exact insN_asc a h (by simpa using hn)
theorem goR_asc (l : List Int) : ∀ {f : List (Int × Int)} {acc : List Int}, acc.Pairwise (· < ·) → (goR l acc f).Pairwise (· < ·)
  | [], acc, h => h
  | p :: f, acc, h => by
    unfold goR
    split
    · exact goR_asc l (insF_asc _ h)
    · exact goR_asc l h
theorem goR_mem (l : List Int) (x : Int) : ∀ {f : List (Int × Int)} {acc : List Int}, x ∈ goR l acc f ↔ x ∈ acc ∨ ∃ p ∈ f, p.2 = x ∧ p.2 ≠ 0 ∧ (p.1 = 0 ∨ l.contains p.1 = true)
  | [], acc => by simp [goR]
  | p :: f, acc => by
    unfold goR
    split
    · rename_i h
      rw [goR_mem l x, insF_mem]
      constructor
      · rintro ((e | e) | ⟨q, h1, h2⟩)
        · exact .inr ⟨p, by simp, e.symm, h⟩
        · exact .inl e
        · exact .inr ⟨q, by simp [h1], h2⟩
      · rintro (e | ⟨q, h1, h2⟩)
        · exact .inl (.inr e)
        · cases h1 with
          | head => exact .inl (.inl h2.1.symm)
          | tail _ h1 => exact .inr ⟨q, h1, h2⟩
    · rename_i h
      rw [goR_mem l x]
      constructor
      · rintro (e | ⟨q, h1, h2⟩)
        · exact .inl e
        · exact .inr ⟨q, by simp [h1], h2⟩
      · rintro (e | ⟨q, h1, h2⟩)
        · exact .inl e
        · cases h1 with
          | head => exact absurd h2.2 h
          | tail _ h1 => exact .inr ⟨q, h1, h2⟩
theorem outsOf_mem (s : List Int) (x : Int) : ∀ f : List (Int × Int), x ∈ outsOf s f ↔ ∃ p ∈ f, p.2 = x ∧ p.2 ≠ 0 ∧ (p.1 = 0 ∨ s.contains p.1 = true)
  | [] => by simp [outsOf]
  | p :: f => by
    have ih := outsOf_mem s x f
    unfold outsOf
    split
    · rename_i h
      rw [ih]
      constructor
      · rintro ⟨q, h1, h2⟩; exact ⟨q, by simp [h1], h2⟩
      · rintro ⟨q, h1, h2⟩
        cases h1 with
        | head => exact absurd h h2.2.1
        | tail _ h1 => exact ⟨q, h1, h2⟩
    · rename_i h
      split
      · rename_i h'
        rw [List.mem_cons, ih]
        constructor
        · rintro (e | ⟨q, h1, h2⟩)
          · refine ⟨p, by simp, e.symm, h, ?_⟩
            rw [Bool.or_eq_true] at h'
            rcases h' with h' | h'
            · exact .inr h'
            · exact .inl (by simpa using h')
          · exact ⟨q, by simp [h1], h2⟩
        · rintro ⟨q, h1, h2⟩
          cases h1 with
          | head => exact .inl h2.1.symm
          | tail _ h1 => exact .inr ⟨q, h1, h2⟩
      · rename_i h'
        rw [ih]
        constructor
        · rintro ⟨q, h1, h2⟩; exact ⟨q, by simp [h1], h2⟩
        · rintro ⟨q, h1, h2⟩
          cases h1 with
          | head =>
            refine absurd ?_ h'
            rw [Bool.or_eq_true]
            rcases h2.2.2 with e | e
            · exact .inr (by simpa using e)
            · exact .inl e
          | tail _ h1 => exact ⟨q, h1, h2⟩
theorem compact_go {d : Array Int} (hs : ∀ i j, i ≤ j → j < d.size → d[i]! ≤ d[j]!) : ∀ m, m ≤ d.size → (Lib.compactUpTo d m).Pairwise (· < ·) ∧ (∀ x, x ∈ Lib.compactUpTo d m ↔ ∃ j, j < m ∧ d[j]! = x)
  | 0, _ => ⟨.nil, fun x => by simp [Lib.compactUpTo]⟩
  | m + 1, hm => by
    obtain ⟨h1, h2⟩ := compact_go hs m (by omega)
    rw [Lib.compactUpTo_succ]
    cases hk : Lib.keeps d m with
    | true =>
      simp only [if_true]
      refine ⟨?_, fun x => ?_⟩
      · rw [List.pairwise_append]
        refine ⟨h1, by simp, fun a ha b hb => ?_⟩
        rw [List.mem_singleton] at hb
        subst hb
        obtain ⟨j, hj, rfl⟩ := (h2 a).1 ha
        have hk' : m = 0 ∨ d[m]! ≠ d[m - 1]! := by simpa [Lib.keeps] using hk
        have e1 := hs j (m - 1) (by omega) (by omega)
        have e2 := hs (m - 1) m (by omega) (by omega)
        rcases hk' with h | h
        · omega
        · omega
      · rw [List.mem_append, h2, List.mem_singleton]
        constructor
        · rintro (⟨j, hj, e⟩ | e)
          · exact ⟨j, by omega, e⟩
          · exact ⟨m, by omega, e.symm⟩
        · rintro ⟨j, hj, e⟩
          rcases Nat.lt_or_ge j m with h | h
          · exact .inl ⟨j, h, e⟩
          · have : j = m := by omega
            subst this
            exact .inr e.symm
    | false =>
      simp only [Bool.false_eq_true, if_false, List.append_nil]
      refine ⟨h1, fun x => ?_⟩
      rw [h2]
      have hk' : m ≠ 0 ∧ d[m]! = d[m - 1]! := by
        have : ¬ (m = 0 ∨ d[m]! ≠ d[m - 1]!) := by simpa only [Lib.keeps, decide_eq_false_iff_not] using hk
        refine ⟨fun h => this (.inl h), ?_⟩
        rcases Classical.em (d[m]! = d[m - 1]!) with h | h
        · exact h
        · exact absurd (.inr h) this
      constructor
      · rintro ⟨j, hj, e⟩; exact ⟨j, by omega, e⟩
      · rintro ⟨j, hj, e⟩
        rcases Nat.lt_or_ge j m with h | h
        · exact ⟨j, h, e⟩
        · have : j = m := by omega
          subst this
          exact ⟨j - 1, by omega, by rw [← e, hk'.2]⟩
theorem compact_sorted {l : List Int} (h : l.Pairwise (· ≤ ·)) : (Lib.compact l).Pairwise (· < ·) ∧ ∀ x, x ∈ Lib.compact l ↔ x ∈ l := by
  have hs : ∀ i j, i ≤ j → j < l.toArray.size → l.toArray[i]! ≤ l.toArray[j]! := fun i j hij hj => by
    simp only [List.size_toArray] at hj
    rw [getElem!_pos _ i (by simp; omega), getElem!_pos _ j (by simpa using hj)]
    simp only [List.getElem_toArray]
    rcases Nat.eq_or_lt_of_le hij with e | e
    · subst e; exact Int.le_refl _
    · exact List.pairwise_iff_getElem.1 h i j (by omega) hj e
  obtain ⟨h1, h2⟩ := compact_go hs l.length (by simp)
  refine ⟨h1, fun x => ?_⟩
  show x ∈ Lib.compactUpTo l.toArray l.length ↔ _
  rw [h2, List.mem_iff_getElem]
  constructor
  · rintro ⟨j, hj, e⟩
    exact ⟨j, hj, by rw [getElem!_pos _ j (by simpa using hj)] at e; simpa using e⟩
  · rintro ⟨j, hj, e⟩
    exact ⟨j, hj, by rw [getElem!_pos _ j (by simpa using hj)]; simpa using e⟩
theorem sortI_pair (l : List Int) : (sortI l).Pairwise (· ≤ ·) := sortedB_pairwise (sortI_sorted l)
theorem sortI_mem (l : List Int) (x : Int) : x ∈ sortI l ↔ x ∈ l := by unfold sortI; exact List.mem_mergeSort
/-- the two are one -/
theorem apply_eq (f : List (Int × Int)) (l : List Int) : applyL f l = applyR f l := by
  obtain ⟨h1, h2⟩ := compact_sorted (sortI_pair (outsOf (sortI l) f))
  refine asc_ext h1 (goR_asc l .nil) (fun x => ?_)
  show x ∈ Lib.compact (sortI (outsOf (sortI l) f)) ↔ x ∈ goR l [] f
  rw [h2, sortI_mem, outsOf_mem, goR_mem]
  have hc : ∀ a, (sortI l).contains a = l.contains a := fun a => by
    rw [Bool.eq_iff_iff, List.contains_iff_mem, List.contains_iff_mem, sortI_mem]
  simp only [hc, List.not_mem_nil, false_or]
end Go.Vz
