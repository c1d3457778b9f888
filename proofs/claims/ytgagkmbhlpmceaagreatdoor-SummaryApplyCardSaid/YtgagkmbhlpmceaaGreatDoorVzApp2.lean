/-
  V's APPEND: the relation behind it.
-/
import Derived.Test.YtgagkmbhlpmceaaGreatDoorVzApp
set_option linter.unusedVariables false
set_option linter.unusedSimpArgs false
namespace Go.Vz
open Go Go.RowKit
section
variable {w0 : World} {base : Nat} {g g' : Map} {P : Program} {m m' : Mem} {w w' : World}
/-- whom a class belongs to behind an append at pp by window v -/
def ownBehind (c : Cl) (pp nxt : Nat) : Option Nat := bif Nat.beq pp c.hw then (match c.own with | none => none | some _ => some nxt) else some nxt
theorem ownBehind_none {c : Cl} {pp nxt : Nat} (h : ownBehind c pp nxt = none) : pp = c.hw ∧ c.own = none := by
  unfold ownBehind at h
  cases hb : Nat.beq pp c.hw with
  | false => simp [hb] at h
  | true =>
    simp only [hb, cond_true] at h
    refine ⟨Nat.eq_of_beq_eq_true hb, ?_⟩
    cases ho : c.own with
    | none => rfl
    | some u => simp [ho] at h
theorem ownBehind_some {c : Cl} {pp nxt u : Nat} (h : ownBehind c pp nxt = some u) : u = nxt := by
  unfold ownBehind at h
  cases hb : Nat.beq pp c.hw with
  | false => simp [hb] at h; exact h.symm
  | true =>
    simp only [hb, cond_true] at h
    cases ho : c.own with
    | none => simp [ho] at h
    | some q => simp [ho] at h; exact h.symm
theorem Rel.appended (R : Rel w0 base g m w) (nty : Option TypeId) {v k pp : Nat} {W : Win} {c : Cl} {p pn : Pl} {cells : Array Value} {e : TypeId} {cs : List AV}
    (hl : m.live v = some (W, c)) (hp : g v = some p) (hfro : c.fro = false) (hheap : w.heap[p.b]? = some (.cells cells e (0, 0)))
    (hbelow : Below base w w') (H1 : ∀ b, b < w.heap.size → b ≠ p.b → w'.heap[b]? = w.heap[b]?)
    (H2 : ∃ cells', w'.heap[p.b]? = some (.cells cells' e (0, 0)) ∧ cells'.size = cells.size ∧ ∀ i, i + p.d < pp → cells'[i]? = cells[i]?)
    (hpn : base ≤ pn.b ∧ pn.b < w'.heap.size) (hpnew : (pn.b = p.b ∧ pn.d = p.d) ∨ w.heap.size ≤ pn.b)
    (hnew : ∃ cellsn en, w'.heap[pn.b]? = some (.cells cellsn en (0, 0)) ∧ cellsn.size = pn.n ∧ (pp + cs.length ≤ pn.d + pn.n ∧ ∀ t, nty = some t → en = t ∧ pn.d = k) ∧
      ∀ j x, k ≤ j → j < pp + cs.length → (setCells W.cells pp cs).get j = some x → x.isCell = true ∧ ∃ o u, o + pn.d = j ∧ cellsn[o]? = some u ∧ VRel w0 base g x u) :
    g.le (g.add m.nxt pn) ∧ Rel w0 base (g.add m.nxt pn)
      { obs := m.obs.set m.nxt (.win ⟨setCells W.cells pp cs, k, pp + cs.length, W.cls, nty⟩)
        cls := m.cls.set W.cls { c with hw := pp + cs.length, own := ownBehind c pp m.nxt, st := c.st + 1 }
        nxt := m.nxt + 1 } w' := by
  have hg0 : g m.nxt = none := (R.fresh m.nxt (Nat.le_refl _)).2
  have hle := Map.le_add (g := g) pn hg0
  obtain ⟨h1, h2, h3⟩ := Mem.live_spec hl
  have hsz : w.heap.size ≤ w'.heap.size := hbelow.size
  have hcls : W.cls < m.nxt := by
    rcases Nat.lt_or_ge W.cls m.nxt with h | h
    · exact h
    · rw [R.clss _ h] at h2; cases h2
  generalize hc' : ({ c with hw := pp + cs.length, own := ownBehind c pp m.nxt, st := c.st + 1 } : Cl) = c'
  have hfro' : c'.fro = c.fro := by rw [← hc']
  have hown' : c'.own = ownBehind c pp m.nxt := by rw [← hc']
  have hhw' : c'.hw = pp + cs.length := by rw [← hc']
  refine ⟨hle, R.below.trans hbelow, R.room, fun u hu => ?_, fun u hu => ?_, fun u q hq => ?_, fun u o' hu => ?_, fun u1 u2 q1 q2 hq1 hq2 hb => ?_⟩
  · have hu' : m.nxt + 1 ≤ u := hu
    have h := R.fresh u (by omega)
    exact ⟨by rw [Tr.get_set_ne _ _ (by omega)]; exact h.1, by rw [Map.add_ne _ _ (by omega)]; exact h.2⟩
  · have hu' : m.nxt + 1 ≤ u := hu
    show (m.cls.set W.cls c').get u = none
    rw [Tr.get_set_ne _ _ (by omega)]; exact R.clss u (by omega)
  · by_cases e' : u = m.nxt
    · subst e'
      rw [Map.add_same] at hq; cases hq
      exact ⟨hpn.1, hpn.2, _, Tr.get_set_same _ _ _⟩
    · rw [Map.add_ne _ _ e'] at hq
      obtain ⟨a1, a2, o', a3⟩ := R.pl u q hq
      exact ⟨a1, by omega, o', by rw [Tr.get_set_ne _ _ e']; exact a3⟩
  · by_cases e' : u = m.nxt
    · subst e'
      rw [Tr.get_set_same] at hu; cases hu
      obtain ⟨cellsn, en, n1, n2, n3, n4⟩ := hnew
      refine ⟨pn, Map.add_same _ _ _, cellsn, en, (0, 0), c', n1, n2, Tr.get_set_same _ _ _, fun _ => rfl, n3, fun _ => ⟨fun _ => by rw [hhw']; exact Nat.le_refl _, fun j x hx => ?_⟩⟩
      obtain ⟨b1, b2, b3⟩ := Win.cell_iff.1 hx
      obtain ⟨c1, o, y, c2, c3, c4⟩ := n4 j x b1 b2 b3
      exact ⟨c1, o, y, c2, c3, c4.mono hle⟩
    · rw [Tr.get_set_ne _ _ e'] at hu
      obtain ⟨q, hq, hrel⟩ := R.obj u o' hu
      refine ⟨q, by rw [Map.add_ne _ _ e']; exact hq, ?_⟩
      have hqlt := (R.pl u q hq).2.1
      by_cases hcl : ∃ U, o' = .win U ∧ U.cls = W.cls
      · obtain ⟨U, rfl, hUW⟩ := hcl
        by_cases hno : ownBehind c pp m.nxt = none
        · -- all windows of the class may still be read
          obtain ⟨hpp, hco⟩ := ownBehind_none hno
          obtain ⟨cellsu, eu, fru, cu, r1, r2, r3, r4, r5, r6⟩ := hrel
          rw [hUW, h2] at r3
          cases r3
          have r6' := r6 (.inl hco)
          have hhi := r6'.1 hco
          by_cases hqb : q.b = p.b
          · have hdd : q.d = p.d := by
              rcases R.sep u v q p hq hp hqb with e2 | ⟨V1, U1, d1, d2, d3, d4⟩
              · subst e2; rw [hp] at hq; cases hq; rfl
              · exact d4
            obtain ⟨cells', s1, s2, s3⟩ := H2
            rw [hqb, hheap] at r1
            cases r1
            refine ⟨cells', _, (0, 0), c', by rw [hqb]; exact s1, by rw [s2]; exact r2, by rw [hUW]; exact Tr.get_set_same _ _ _, fun _ => rfl, r5, fun _ => ⟨fun _ => by rw [hhw']; omega, fun j x hx => ?_⟩⟩
            obtain ⟨t1, o, y, t2, t3, t4⟩ := r6'.2 j x hx
            have hj := (Win.cell_iff.1 hx).2.1
            exact ⟨t1, o, y, t2, by rw [s3 o (by omega)]; exact t3, t4.mono hle⟩
          · refine ⟨cellsu, eu, fru, c', by rw [H1 q.b hqlt hqb]; exact r1, r2, by rw [hUW]; exact Tr.get_set_same _ _ _, by rw [hfro']; exact r4, r5, fun _ => ⟨fun _ => by rw [hhw']; omega, fun j x hx => ?_⟩⟩
            obtain ⟨t1, o, y, t2, t3, t4⟩ := r6'.2 j x hx
            exact ⟨t1, o, y, t2, t3, t4.mono hle⟩
        · refine ORel.stale (c := c) (c' := c') hrel (by rw [hUW]; exact h2) (by rw [hUW]; exact Tr.get_set_same _ _ _) hfro' (fun ho => ?_) (fun cells2 e2 fr2 hh => ?_)
          · rcases ho with ho | ho
            · rw [hown'] at ho; exact hno ho
            · rw [hown'] at ho; exact e' (ownBehind_some ho)
          · by_cases hqb : q.b = p.b
            · obtain ⟨cells', s1, s2, s3⟩ := H2
              rw [hqb, hheap] at hh
              cases hh
              exact ⟨cells', by rw [hqb]; exact s1, s2⟩
            · exact ⟨cells2, by rw [H1 q.b hqlt hqb]; exact hh, rfl⟩
      · refine hrel.keep hle (H1 q.b hqlt (fun hqb => ?_)) (fun U hU => ?_)
        · rcases R.sep u v q p hq hp hqb with e2 | ⟨V1, U1, d1, d2, d3, d4⟩
          · subst e2
            rw [h1] at hu; cases hu
            exact hcl ⟨W, rfl, rfl⟩
          · rw [hu] at d1
            rw [h1] at d2
            cases d1; cases d2
            exact hcl ⟨V1, rfl, d3⟩
        · subst hU
          show (m.cls.set W.cls c').get U.cls = _
          rw [Tr.get_set_ne]
          exact fun e2 => hcl ⟨U, rfl, e2⟩
  · -- who shares a block
    have both : ∀ u q, u ≠ m.nxt → g u = some q → pn.b = q.b → ∃ U, m.obs.get u = some (.win U) ∧ U.cls = W.cls ∧ q.d = pn.d := by
      intro u q hu hq hb
      rcases hpnew with ⟨e1, e2⟩ | hge
      · rcases R.sep u v q p hq hp (by rw [← hb, e1]) with e3 | ⟨V1, U1, d1, d2, d3, d4⟩
        · subst e3; rw [hp] at hq; cases hq; exact ⟨W, h1, rfl, e2.symm⟩
        · rw [h1] at d2; cases d2; exact ⟨V1, d1, d3, by rw [d4, e2]⟩
      · have := (R.pl u q hq).2.1; omega
    by_cases e1 : u1 = m.nxt
    · by_cases e2 : u2 = m.nxt
      · exact .inl (by rw [e1, e2])
      · subst e1
        rw [Map.add_same] at hq1; cases hq1
        rw [Map.add_ne _ _ e2] at hq2
        obtain ⟨U, d1, d2, d3⟩ := both u2 q2 e2 hq2 hb
        exact .inr ⟨_, U, Tr.get_set_same _ _ _, by rw [Tr.get_set_ne _ _ e2]; exact d1, d2.symm, d3.symm⟩
    · rw [Map.add_ne _ _ e1] at hq1
      by_cases e2 : u2 = m.nxt
      · subst e2
        rw [Map.add_same] at hq2; cases hq2
        obtain ⟨U, d1, d2, d3⟩ := both u1 q1 e1 hq1 hb.symm
        exact .inr ⟨U, _, by rw [Tr.get_set_ne _ _ e1]; exact d1, Tr.get_set_same _ _ _, d2, d3⟩
      · rw [Map.add_ne _ _ e2] at hq2
        rcases R.sep u1 u2 q1 q2 hq1 hq2 hb with e | ⟨V, U, d1, d2, d3, d4⟩
        · exact .inl e
        · exact .inr ⟨V, U, by rw [Tr.get_set_ne _ _ e1]; exact d1, by rw [Tr.get_set_ne _ _ e2]; exact d2, d3, d4⟩
end
end Go.Vz
