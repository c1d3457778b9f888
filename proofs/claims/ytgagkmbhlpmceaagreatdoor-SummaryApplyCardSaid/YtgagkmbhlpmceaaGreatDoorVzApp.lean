/-
  V's APPEND.
-/
import Derived.Test.YtgagkmbhlpmceaaGreatDoorVzMem
set_option linter.unusedVariables false
set_option linter.unusedSimpArgs false
namespace Go.Vz
open Go Go.RowKit
section
variable {P : Program} {w w' : World}
theorem append_fits {t u ty e : TypeId} {d : TypeDesc} {i : TypeInfo} (ht : P.underlying t = some (.slice e)) (hu : P.underlying u = some d) (hd : ∀ k, d ≠ .int k) (hi : P.info? e = some i)
    {sb : Option Addr} {sLen sCap n : Nat} {xv : Value} {new : Array Value} (hlen : ∀ w, (Builtin.lenOf xv).run P w = .ok n w) (hfit : sLen + n ≤ sCap)
    (hnew : (Builtin.firstCells i.size n xv).run P w = .ok new w) (hst : ∀ a, sb = some a → (storeCells (a.add (sLen * i.size)) new.toList).run P w = .ok () w') (hno : sb = none → w' = w) :
    (Builtin.append_ #[t, u] ty #[.slice sb sLen sCap, xv]).run P w = .ok (.slice sb (sLen + n) sCap) w' := by
  have hz : (match d with | .int _ => true | _ => false) = false := by cases d <;> first | rfl | exact absurd rfl (hd _)
  cases sb with
  | none =>
    have := hno rfl
    subst this
    simp [Builtin.append_, run_underlying ht, run_underlying hu, sizeOf, typeInfo, hi, hlen, hfit, hnew]
  | some a =>
    simp [Builtin.append_, run_underlying ht, run_underlying hu, sizeOf, typeInfo, hi, hlen, hfit, hnew]
    cases d <;> first | (exact absurd rfl (hd _)) | simp [hlen, hfit, hnew, hst a rfl]
theorem append_grows {t u ty e : TypeId} {d : TypeDesc} {i : TypeInfo} {z : Value} (ht : P.underlying t = some (.slice e)) (hu : P.underlying u = some d) (hd : ∀ k, d ≠ .int k) (hi : P.info? e = some i) (hz : i.zero = some z)
    {sb : Option Addr} {sLen sCap n : Nat} {xv : Value} {old new : Array Value} (hlen : ∀ w, (Builtin.lenOf xv).run P w = .ok n w) (hgr : sCap < sLen + n) (h63 : sLen + n ≤ 9223372036854775807)
    (h48 : Builtin.nextslicecap (sLen + n) sCap * i.bytes ≤ 281474976710656) (hb : 0 < i.bytes ∨ True)
    (hold : (Builtin.firstCells i.size sLen (.slice sb sLen sCap)).run P w.drew = .ok old w.drew) (hnew : (Builtin.firstCells i.size n xv).run P w.drew = .ok new w.drew) :
    (Builtin.append_ #[t, u] ty #[.slice sb sLen sCap, xv]).run P w = .ok (.slice (some ⟨w.heap.size, 0, none⟩) (sLen + n) (grownCap w (sLen + n) sCap e))
      (w.drew.alloc (.cells (old ++ new ++ Builtin.zeroCells z.cells (grownCap w (sLen + n) sCap e - (sLen + n))) e)) := by
  have hn : ¬ (sLen + n ≤ sCap) := by omega
  have h63' : ¬ (9223372036854775807 < ((sLen : Int) + (n : Int))) := by omega
  have h48' : ¬ (281474976710656 < Builtin.nextslicecap (sLen + n) sCap * i.bytes) := by omega
  simp [Builtin.append_, run_underlying ht, run_underlying hu, sizeOf, typeInfo, zeroValue, hi, hz, hlen, hn, h63', h48', Question.forced, hold, hnew, newRow, grownCap]
end
section
variable {w0 : World} {base : Nat} {g g' : Map} {P : Program} {m m' : Mem} {w w' : World}
theorem VRels.ints (s : List UInt8) : VRels w0 base g ((s.map (·.toNat)).map fun b => .int .u8 (b : Nat)) (s.map fun b => .int .u8 b.toNat) := by
  induction s with
  | nil => exact .nil
  | cons b s ih => exact .cons _ _ _ _ (.int _ _) ih
/-- what is appended lies there -/
theorem source_run (R : Rel w0 base g m w) {sz n : Nat} {x : AV} {cs : List AV} {xv : Value} (h : sourceA m sz x = some (n, cs)) (hx : VRel w0 base g x xv) :
    cs.length = n * sz ∧ (∀ w, (Builtin.lenOf xv).run P w = .ok n w) ∧ ∃ news : Array Value, VRels w0 base g cs news.toList ∧ (Builtin.firstCells sz n xv).run P w = .ok news w := by
  unfold sourceA at h
  split at h
  · cases h; cases hx
    exact ⟨by simp, fun w => rfl, #[], .nil, rfl⟩
  · rename_i v k n' z
    cases hb : Nat.beq z sz with
    | false => simp [hb] at h
    | true =>
      simp only [hb, cond_true] at h
      have := Nat.eq_of_beq_eq_true hb
      subst this
      cases hl : m.load (.ptr v k) (n' * z) with
      | none => simp [hl] at h
      | some xs =>
        simp only [hl] at h
        cases h
        cases hx with | sl _ _ _ _ a cap p hp hn hm hpl =>
        rcases Nat.eq_zero_or_pos cap with h0 | h0
        · have hn0 : n = 0 := by omega
          subst hn0
          rw [Nat.zero_mul] at hl ⊢
          have hcs : cs = [] := by
            simp only [Mem.load] at hl
            split at hl
            · simp only [Win.read] at hl; cases hl; rfl
            · cases hl
          subst hcs
          exact ⟨rfl, fun w => rfl, #[], .nil, by simp [Builtin.firstCells, loadCells, loadCellsFrom]⟩
        · obtain ⟨o, rfl, ho, hbd⟩ := hpl h0
          obtain ⟨hlen, us, hu1, hu2⟩ := R.load hl (.ptr v k o p hp ho)
          refine ⟨hlen, fun w => rfl, us.toArray, by simpa using hu1, ?_⟩
          have := run_loadCells_list (P := P) (w := w) ⟨p.b, o, none⟩ us hu2
          rw [← hu1.length, hlen] at this
          simp only [Builtin.firstCells, this]
  · rename_i xs n' z
    cases hb : Nat.beq z sz && Nat.beq xs.length (n' * z) with
    | false => simp [hb] at h
    | true =>
      simp only [hb, cond_true] at h
      rw [Bool.and_eq_true_iff] at hb
      have := Nat.eq_of_beq_eq_true hb.1
      subst this
      cases h
      cases hx with
      | ron _ => exact ⟨by simp, fun w => rfl, #[], .nil, rfl⟩
      | ro _ _ _ a cap us hn hlen hs hc hrel =>
      refine ⟨hlen, fun w => rfl, us.toArray, by simpa using hrel, ?_⟩
      have hcells : ∀ j u, us[j]? = some u → w.cell? (a.add j) = some u := fun j u hu => by
        have hpos : 0 < cs.length := by rw [hrel.length]; exact Nat.lt_of_le_of_lt (Nat.zero_le j) (List.getElem?_eq_some_iff.1 hu).1
        rw [R.below.cell (by rw [show (a.add j).block = a.block by unfold Addr.add; split <;> rfl]; exact (hs hpos).2)]
        exact hc j u hu
      have := run_loadCells_list (P := P) (w := w) a us hcells
      rw [← hrel.length, hlen] at this
      simp only [Builtin.firstCells, this]
  · rename_i l
    cases hb : Nat.beq sz 1 with
    | false => simp [hb] at h
    | true =>
      simp only [hb, cond_true] at h
      have := Nat.eq_of_beq_eq_true hb
      subst this
      cases h
      cases hx with | str _ s e =>
      subst e
      refine ⟨by simp, fun w => by rw [natOf_length]; rfl, s.data.map fun b => .int .u8 b.toNat, by rw [Array.toList_map]; exact VRels.ints s.data.toList, ?_⟩
      rw [natOf_length]
      simp only [Builtin.firstCells, Sem.run_pure]
      rw [show s.extract 0 s.size = s from by simp]
  · cases h
end
end Go.Vz
