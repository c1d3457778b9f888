/-
  V's APPEND.
-/
import Derived.Test.YtgagkmbhlpmceaaGreatDoorVzBaseA
import Derived.Laws.IdiomStrings
import Derived.Laws.RangeString
import Derived.Lib.UnsafeStr
import Derived.LoopN
import Derived.Orders
set_option linter.unusedVariables false
set_option linter.unusedSimpArgs false
namespace Go.Vz
open Go Go.RowKit
section
variable {P : Program} {w w' : World}
theorem append_fits {t u ty e : TypeId} {d : TypeDesc} {i : TypeInfo} (ht : P.underlying t = some (.slice e)) (hu : P.underlying u = some d) (hd : ∀ k, d ≠ .int k) (hi : P.info? e = some i)
    {sb : Option Addr} {sLen sCap n : Nat} {xv : Value} {new : Array Value} (hlen : ∀ w, (Builtin.lenOf xv).run P w = .ok n w) (hfit : sLen + n ≤ sCap)
    (hnew : (Builtin.firstCells i.size n xv).run P w = .ok new w) (hst : ∀ a, sb = some a → (storeCells (a.add (sLen * i.size)) new.toList).run P w = .ok () w') (hno : sb = none → w' = w) :
    (Builtin.append_ #[t, u] ty #[.slice sb sLen sCap, xv]).run P w = .ok (.slice sb (sLen + n) sCap) w' := by
  have hz : (match d with | .int _ => true | _ => false) = false := by cases d <;> first | rfl | exact absurd rfl (hd _)
  cases sb with
  | none =>
    have := hno rfl
    subst this
    simp [Builtin.append_, run_underlying ht, run_underlying hu, sizeOf, typeInfo, hi, hlen, hfit, hnew]
  | some a =>
    simp [Builtin.append_, run_underlying ht, run_underlying hu, sizeOf, typeInfo, hi, hlen, hfit, hnew]
    cases d <;> first | (exact absurd rfl (hd _)) | simp [hlen, hfit, hnew, hst a rfl]
theorem append_grows {t u ty e : TypeId} {d : TypeDesc} {i : TypeInfo} {z : Value} (ht : P.underlying t = some (.slice e)) (hu : P.underlying u = some d) (hd : ∀ k, d ≠ .int k) (hi : P.info? e = some i) (hz : i.zero = some z)
    {sb : Option Addr} {sLen sCap n : Nat} {xv : Value} {old new : Array Value} (hlen : ∀ w, (Builtin.lenOf xv).run P w = .ok n w) (hgr : sCap < sLen + n) (h63 : sLen + n ≤ 9223372036854775807)
    (h48 : Builtin.nextslicecap (sLen + n) sCap * i.bytes ≤ 281474976710656) (hb : 0 < i.bytes ∨ True)
    (hold : (Builtin.firstCells i.size sLen (.slice sb sLen sCap)).run P w.drew = .ok old w.drew) (hnew : (Builtin.firstCells i.size n xv).run P w.drew = .ok new w.drew) :
    (Builtin.append_ #[t, u] ty #[.slice sb sLen sCap, xv]).run P w = .ok (.slice (some ⟨w.heap.size, 0, none⟩) (sLen + n) (grownCap w (sLen + n) sCap e))
      (w.drew.alloc (.cells (old ++ new ++ Builtin.zeroCells z.cells (grownCap w (sLen + n) sCap e - (sLen + n))) e)) := by
  have hn : ¬ (sLen + n ≤ sCap) := by omega
  have h63' : ¬ (9223372036854775807 < ((sLen : Int) + (n : Int))) := by omega
  have h48' : ¬ (281474976710656 < Builtin.nextslicecap (sLen + n) sCap * i.bytes) := by omega
  simp [Builtin.append_, run_underlying ht, run_underlying hu, sizeOf, typeInfo, zeroValue, hi, hz, hlen, hn, h63', h48', Question.forced, hold, hnew, newRow, grownCap]
end
section
variable {w0 : World} {base : Nat} {g g' : Map} {P : Program} {m m' : Mem} {w w' : World}
theorem VRels.ints (s : List UInt8) : VRels w0 base g ((s.map (·.toNat)).map fun b => .int .u8 (b : Nat)) (s.map fun b => .int .u8 b.toNat) := by
  induction s with
  | nil => exact .nil
  | cons b s ih => exact .cons _ _ _ _ (.int _ _) ih
/-- what is appended lies there -/
theorem source_run (R : Rel w0 base g m w) {sz n : Nat} {x : AV} {cs : List AV} {xv : Value} (h : sourceA m sz x = some (n, cs)) (hx : VRel w0 base g x xv) :
    cs.length = n * sz ∧ (∀ w, (Builtin.lenOf xv).run P w = .ok n w) ∧ ∃ news : Array Value, VRels w0 base g cs news.toList ∧ (Builtin.firstCells sz n xv).run P w = .ok news w := by
  unfold sourceA at h
  split at h
  · cases h; cases hx
    exact ⟨by simp, fun w => rfl, #[], .nil, rfl⟩
  · rename_i v k n' z
    cases hb : Nat.beq z sz with
    | false => simp [hb] at h
    | true =>
      simp only [hb, cond_true] at h
      have := Nat.eq_of_beq_eq_true hb
      subst this
      cases hl : m.load (.ptr v k) (n' * z) with
      | none => simp [hl] at h
      | some xs =>
        simp only [hl] at h
        cases h
        cases hx with | sl _ _ _ _ a cap p hp hn hm hpl =>
        rcases Nat.eq_zero_or_pos cap with h0 | h0
        · have hn0 : n = 0 := by omega
          subst hn0
          rw [Nat.zero_mul] at hl ⊢
          have hcs : cs = [] := by
            simp only [Mem.load] at hl
            split at hl
            · simp only [Win.read] at hl; cases hl; rfl
            · cases hl
          subst hcs
          exact ⟨rfl, fun w => rfl, #[], .nil, by simp [Builtin.firstCells, loadCells, loadCellsFrom]⟩
        · obtain ⟨o, rfl, ho, hbd⟩ := hpl h0
          obtain ⟨hlen, us, hu1, hu2⟩ := R.load hl (.ptr v k o p hp ho)
          refine ⟨hlen, fun w => rfl, us.toArray, by simpa using hu1, ?_⟩
          have := run_loadCells_list (P := P) (w := w) ⟨p.b, o, none⟩ us hu2
          rw [← hu1.length, hlen] at this
          simp only [Builtin.firstCells, this]
  · rename_i xs n' z
    cases hb : Nat.beq z sz && Nat.beq xs.length (n' * z) with
    | false => simp [hb] at h
    | true =>
      simp only [hb, cond_true] at h
      rw [Bool.and_eq_true_iff] at hb
      have := Nat.eq_of_beq_eq_true hb.1
      subst this
      cases h
      cases hx with
      | ron _ => exact ⟨by simp, fun w => rfl, #[], .nil, rfl⟩
      | ro _ _ _ a cap us hn hlen hs hc hrel =>
      refine ⟨hlen, fun w => rfl, us.toArray, by simpa using hrel, ?_⟩
      have hcells : ∀ j u, us[j]? = some u → w.cell? (a.add j) = some u := fun j u hu => by
        have hpos : 0 < cs.length := by rw [hrel.length]; exact Nat.lt_of_le_of_lt (Nat.zero_le j) (List.getElem?_eq_some_iff.1 hu).1
        rw [R.below.cell (by rw [show (a.add j).block = a.block by unfold Addr.add; split <;> rfl]; exact (hs hpos).2)]
        exact hc j u hu
      have := run_loadCells_list (P := P) (w := w) a us hcells
      rw [← hrel.length, hlen] at this
      simp only [Builtin.firstCells, this]
  · rename_i l
    cases hb : Nat.beq sz 1 with
    | false => simp [hb] at h
    | true =>
      simp only [hb, cond_true] at h
      have := Nat.eq_of_beq_eq_true hb
      subst this
      cases h
      cases hx with | str _ s e =>
      subst e
      refine ⟨by simp, fun w => by rw [natOf_length]; rfl, s.data.map fun b => .int .u8 b.toNat, by rw [Array.toList_map]; exact VRels.ints s.data.toList, ?_⟩
      rw [natOf_length]
      simp only [Builtin.firstCells, Sem.run_pure]
      rw [show s.extract 0 s.size = s from by simp]
  · cases h
end
end Go.Vz

/-
  V's APPEND: the relation behind it.
-/
set_option linter.unusedVariables false
set_option linter.unusedSimpArgs false
namespace Go.Vz
open Go Go.RowKit
section
variable {w0 : World} {base : Nat} {g g' : Map} {P : Program} {m m' : Mem} {w w' : World}
/-- whom a class belongs to behind an append at pp by window v -/
def ownBehind (c : Cl) (pp nxt : Nat) : Option Nat := bif Nat.beq pp c.hw then (match c.own with | none => none | some _ => some nxt) else some nxt
theorem ownBehind_none {c : Cl} {pp nxt : Nat} (h : ownBehind c pp nxt = none) : pp = c.hw ∧ c.own = none := by
  unfold ownBehind at h
  cases hb : Nat.beq pp c.hw with
  | false => simp [hb] at h
  | true =>
    simp only [hb, cond_true] at h
    refine ⟨Nat.eq_of_beq_eq_true hb, ?_⟩
    cases ho : c.own with
    | none => rfl
    | some u => simp [ho] at h
theorem ownBehind_some {c : Cl} {pp nxt u : Nat} (h : ownBehind c pp nxt = some u) : u = nxt := by
  unfold ownBehind at h
  cases hb : Nat.beq pp c.hw with
  | false => simp [hb] at h; exact h.symm
  | true =>
    simp only [hb, cond_true] at h
    cases ho : c.own with
    | none => simp [ho] at h
    | some q => simp [ho] at h; exact h.symm
theorem Rel.appended (R : Rel w0 base g m w) (nty : Option TypeId) {v k pp : Nat} {W : Win} {c : Cl} {p pn : Pl} {cells : Array Value} {e : TypeId} {cs : List AV}
    (hl : m.live v = some (W, c)) (hp : g v = some p) (hfro : c.fro = false) (hheap : w.heap[p.b]? = some (.cells cells e (0, 0)))
    (hbelow : Below base w w') (H1 : ∀ b, b < w.heap.size → b ≠ p.b → w'.heap[b]? = w.heap[b]?)
    (H2 : ∃ cells', w'.heap[p.b]? = some (.cells cells' e (0, 0)) ∧ cells'.size = cells.size ∧ ∀ i, i + p.d < pp → cells'[i]? = cells[i]?)
    (hpn : base ≤ pn.b ∧ pn.b < w'.heap.size) (hpnew : (pn.b = p.b ∧ pn.d = p.d) ∨ w.heap.size ≤ pn.b)
    (hnew : ∃ cellsn en, w'.heap[pn.b]? = some (.cells cellsn en (0, 0)) ∧ cellsn.size = pn.n ∧ (pp + cs.length ≤ pn.d + pn.n ∧ ∀ t, nty = some t → en = t ∧ pn.d = k) ∧
      ∀ j x, k ≤ j → j < pp + cs.length → (setCells W.cells pp cs).get j = some x → x.isCell = true ∧ ∃ o u, o + pn.d = j ∧ cellsn[o]? = some u ∧ VRel w0 base g x u) :
    g.le (g.add m.nxt pn) ∧ Rel w0 base (g.add m.nxt pn)
      { obs := m.obs.set m.nxt (.win ⟨setCells W.cells pp cs, k, pp + cs.length, W.cls, nty⟩)
        cls := m.cls.set W.cls { c with hw := pp + cs.length, own := ownBehind c pp m.nxt, st := c.st + 1 }
        nxt := m.nxt + 1 } w' := by
  have hg0 : g m.nxt = none := (R.fresh m.nxt (Nat.le_refl _)).2
  have hle := Map.le_add (g := g) pn hg0
  obtain ⟨h1, h2, h3⟩ := Mem.live_spec hl
  have hsz : w.heap.size ≤ w'.heap.size := hbelow.size
  have hcls : W.cls < m.nxt := by
    rcases Nat.lt_or_ge W.cls m.nxt with h | h
    · exact h
    · rw [R.clss _ h] at h2; cases h2
  generalize hc' : ({ c with hw := pp + cs.length, own := ownBehind c pp m.nxt, st := c.st + 1 } : Cl) = c'
  have hfro' : c'.fro = c.fro := by rw [← hc']
  have hown' : c'.own = ownBehind c pp m.nxt := by rw [← hc']
  have hhw' : c'.hw = pp + cs.length := by rw [← hc']
  refine ⟨hle, R.below.trans hbelow, R.room, fun u hu => ?_, fun u hu => ?_, fun u q hq => ?_, fun u o' hu => ?_, fun u1 u2 q1 q2 hq1 hq2 hb => ?_⟩
  · have hu' : m.nxt + 1 ≤ u := hu
    have h := R.fresh u (by omega)
    exact ⟨by rw [Tr.get_set_ne _ _ (by omega)]; exact h.1, by rw [Map.add_ne _ _ (by omega)]; exact h.2⟩
  · have hu' : m.nxt + 1 ≤ u := hu
    show (m.cls.set W.cls c').get u = none
    rw [Tr.get_set_ne _ _ (by omega)]; exact R.clss u (by omega)
  · by_cases e' : u = m.nxt
    · subst e'
      rw [Map.add_same] at hq; cases hq
      exact ⟨hpn.1, hpn.2, _, Tr.get_set_same _ _ _⟩
    · rw [Map.add_ne _ _ e'] at hq
      obtain ⟨a1, a2, o', a3⟩ := R.pl u q hq
      exact ⟨a1, by omega, o', by rw [Tr.get_set_ne _ _ e']; exact a3⟩
  · by_cases e' : u = m.nxt
    · subst e'
      rw [Tr.get_set_same] at hu; cases hu
      obtain ⟨cellsn, en, n1, n2, n3, n4⟩ := hnew
      refine ⟨pn, Map.add_same _ _ _, cellsn, en, (0, 0), c', n1, n2, Tr.get_set_same _ _ _, fun _ => rfl, n3, fun _ => ⟨fun _ => by rw [hhw']; exact Nat.le_refl _, fun j x hx => ?_⟩⟩
      obtain ⟨b1, b2, b3⟩ := Win.cell_iff.1 hx
      obtain ⟨c1, o, y, c2, c3, c4⟩ := n4 j x b1 b2 b3
      exact ⟨c1, o, y, c2, c3, c4.mono hle⟩
    · rw [Tr.get_set_ne _ _ e'] at hu
      obtain ⟨q, hq, hrel⟩ := R.obj u o' hu
      refine ⟨q, by rw [Map.add_ne _ _ e']; exact hq, ?_⟩
      have hqlt := (R.pl u q hq).2.1
      by_cases hcl : ∃ U, o' = .win U ∧ U.cls = W.cls
      · obtain ⟨U, rfl, hUW⟩ := hcl
        by_cases hno : ownBehind c pp m.nxt = none
        · -- all windows of the class may still be read
          obtain ⟨hpp, hco⟩ := ownBehind_none hno
          obtain ⟨cellsu, eu, fru, cu, r1, r2, r3, r4, r5, r6⟩ := hrel
          rw [hUW, h2] at r3
          cases r3
          have r6' := r6 (.inl hco)
          have hhi := r6'.1 hco
          by_cases hqb : q.b = p.b
          · have hdd : q.d = p.d := by
              rcases R.sep u v q p hq hp hqb with e2 | ⟨V1, U1, d1, d2, d3, d4⟩
              · subst e2; rw [hp] at hq; cases hq; rfl
              · exact d4
            obtain ⟨cells', s1, s2, s3⟩ := H2
            rw [hqb, hheap] at r1
            cases r1
            refine ⟨cells', _, (0, 0), c', by rw [hqb]; exact s1, by rw [s2]; exact r2, by rw [hUW]; exact Tr.get_set_same _ _ _, fun _ => rfl, r5, fun _ => ⟨fun _ => by rw [hhw']; omega, fun j x hx => ?_⟩⟩
            obtain ⟨t1, o, y, t2, t3, t4⟩ := r6'.2 j x hx
            have hj := (Win.cell_iff.1 hx).2.1
            exact ⟨t1, o, y, t2, by rw [s3 o (by omega)]; exact t3, t4.mono hle⟩
          · refine ⟨cellsu, eu, fru, c', by rw [H1 q.b hqlt hqb]; exact r1, r2, by rw [hUW]; exact Tr.get_set_same _ _ _, by rw [hfro']; exact r4, r5, fun _ => ⟨fun _ => by rw [hhw']; omega, fun j x hx => ?_⟩⟩
            obtain ⟨t1, o, y, t2, t3, t4⟩ := r6'.2 j x hx
            exact ⟨t1, o, y, t2, t3, t4.mono hle⟩
        · refine ORel.stale (c := c) (c' := c') hrel (by rw [hUW]; exact h2) (by rw [hUW]; exact Tr.get_set_same _ _ _) hfro' (fun ho => ?_) (fun cells2 e2 fr2 hh => ?_)
          · rcases ho with ho | ho
            · rw [hown'] at ho; exact hno ho
            · rw [hown'] at ho; exact e' (ownBehind_some ho)
          · by_cases hqb : q.b = p.b
            · obtain ⟨cells', s1, s2, s3⟩ := H2
              rw [hqb, hheap] at hh
              cases hh
              exact ⟨cells', by rw [hqb]; exact s1, s2⟩
            · exact ⟨cells2, by rw [H1 q.b hqlt hqb]; exact hh, rfl⟩
      · refine hrel.keep hle (H1 q.b hqlt (fun hqb => ?_)) (fun U hU => ?_)
        · rcases R.sep u v q p hq hp hqb with e2 | ⟨V1, U1, d1, d2, d3, d4⟩
          · subst e2
            rw [h1] at hu; cases hu
            exact hcl ⟨W, rfl, rfl⟩
          · rw [hu] at d1
            rw [h1] at d2
            cases d1; cases d2
            exact hcl ⟨V1, rfl, d3⟩
        · subst hU
          show (m.cls.set W.cls c').get U.cls = _
          rw [Tr.get_set_ne]
          exact fun e2 => hcl ⟨U, rfl, e2⟩
  · -- who shares a block
    have both : ∀ u q, u ≠ m.nxt → g u = some q → pn.b = q.b → ∃ U, m.obs.get u = some (.win U) ∧ U.cls = W.cls ∧ q.d = pn.d := by
      intro u q hu hq hb
      rcases hpnew with ⟨e1, e2⟩ | hge
      · rcases R.sep u v q p hq hp (by rw [← hb, e1]) with e3 | ⟨V1, U1, d1, d2, d3, d4⟩
        · subst e3; rw [hp] at hq; cases hq; exact ⟨W, h1, rfl, e2.symm⟩
        · rw [h1] at d2; cases d2; exact ⟨V1, d1, d3, by rw [d4, e2]⟩
      · have := (R.pl u q hq).2.1; omega
    by_cases e1 : u1 = m.nxt
    · by_cases e2 : u2 = m.nxt
      · exact .inl (by rw [e1, e2])
      · subst e1
        rw [Map.add_same] at hq1; cases hq1
        rw [Map.add_ne _ _ e2] at hq2
        obtain ⟨U, d1, d2, d3⟩ := both u2 q2 e2 hq2 hb
        exact .inr ⟨_, U, Tr.get_set_same _ _ _, by rw [Tr.get_set_ne _ _ e2]; exact d1, d2.symm, d3.symm⟩
    · rw [Map.add_ne _ _ e1] at hq1
      by_cases e2 : u2 = m.nxt
      · subst e2
        rw [Map.add_same] at hq2; cases hq2
        obtain ⟨U, d1, d2, d3⟩ := both u1 q1 e1 hq1 hb.symm
        exact .inr ⟨U, _, by rw [Tr.get_set_ne _ _ e1]; exact d1, Tr.get_set_same _ _ _, d2, d3⟩
      · rw [Map.add_ne _ _ e2] at hq2
        rcases R.sep u1 u2 q1 q2 hq1 hq2 hb with e | ⟨V, U, d1, d2, d3, d4⟩
        · exact .inl e
        · exact .inr ⟨V, U, by rw [Tr.get_set_ne _ _ e1]; exact d1, by rw [Tr.get_set_ne _ _ e2]; exact d2, d3, d4⟩
end
end Go.Vz

/-
  V's APPEND: the operation.
-/
set_option linter.unusedVariables false
set_option linter.unusedSimpArgs false
namespace Go.Vz
open Go Go.RowKit
section
variable {w0 : World} {base : Nat} {g g' : Map} {P : Program} {m m' : Mem} {w w' : World}
theorem size_zeroCells' (z : Array Value) (n : Nat) : (Builtin.zeroCells z n).size = n * z.size := size_zeroCells z n
theorem tyIs_spec {t : Option TypeId} {e : TypeId} (h : tyIs t e = true) : t = some e := by
  cases t with
  | none => cases h
  | some u => rw [Nat.eq_of_beq_eq_true h]
theorem nty_spec {ty : Option TypeId} {e t : TypeId} {k lo : Nat} (h : (bif tyIs ty e && Nat.beq k lo then some e else none) = some t) : ty = some e ∧ lo = k ∧ e = t := by
  cases hb : tyIs ty e && Nat.beq k lo with
  | false => rw [hb] at h; cases h
  | true =>
    rw [hb] at h
    rw [Bool.and_eq_true_iff] at hb
    exact ⟨tyIs_spec hb.1, (Nat.eq_of_beq_eq_true hb.2).symm, Option.some.inj h⟩
theorem appendA_run (R : Rel w0 base g m w) {t u ty e : TypeId} {d : TypeDesc} {i : TypeInfo} {z : Value} {sz bytes : Nat} (ht : P.underlying t = some (.slice e)) (hu : P.underlying u = some d) (hd : ∀ k, d ≠ .int k)
    (hi : P.info? e = some i) (hz : i.zero = some z) (hsz : i.size = sz + 1) (hby : i.bytes = bytes) (hzs : z.cells.size = sz + 1)
    {s x : AV} {sv xv : Value} {n : Nat} {cs : List AV} (hs : VRel w0 base g s sv) (hx : VRel w0 base g x xv) (hsrc : sourceA m (sz + 1) x = some (n, cs)) {s' : AV} (h : appendA e (sz + 1) bytes m s n cs = some (s', m')) :
    ∃ v w' g', (Builtin.append_ #[t, u] ty #[sv, xv]).run P w = .ok v w' ∧ g.le g' ∧ VRel w0 base g' s' v ∧ Rel w0 base g' m' w' := by
  obtain ⟨hcl, hlen, news, hnr, hnrun⟩ := source_run (P := P) R hsrc hx
  obtain ⟨_, _, newd, hdr, hdrun⟩ := source_run (P := P) R.drew hsrc hx
  have hnl : news.size = n * (sz + 1) := by have := hnr.length; rw [Array.length_toList (xs := news)] at this; omega
  have hdl : newd.size = n * (sz + 1) := by have := hdr.length; rw [Array.length_toList (xs := newd)] at this; omega
  rw [← hsz] at hnrun hdrun
  unfold appendA at h
  split at h
  · -- the nil slice
    cases hs
    cases hn : Nat.beq n 0 with
    | true =>
      simp only [hn, cond_true, Option.some.injEq, Prod.mk.injEq] at h
      obtain ⟨rfl, rfl⟩ := h
      have := Nat.eq_of_beq_eq_true hn
      subst this
      exact ⟨_, w, g, append_fits ht hu hd hi hlen (Nat.le_refl 0) hnrun (fun a h => by cases h) (fun _ => rfl), Map.le_refl g, .nilsl, R⟩
    | false =>
      simp only [hn, cond_false] at h
      have hn0 : 0 < n := by
        rcases Nat.eq_zero_or_pos n with h0 | h0
        · subst h0; simp at hn
        · exact h0
      cases hb : Nat.ble (n * bytes) 140737488355328 && Nat.ble n 9223372036854775807 && allCells cs with
      | false => simp [hb] at h
      | true =>
        simp only [hb, cond_true, Option.some.injEq, Prod.mk.injEq] at h
        obtain ⟨rfl, rfl⟩ := h
        simp only [Bool.and_eq_true] at hb
        obtain ⟨⟨hb1, hb2⟩, hb3⟩ := hb
        have hb1 := Nat.le_of_ble_eq_true hb1
        have hb2 := Nat.le_of_ble_eq_true hb2
        have hrun := append_grows (w := w) (ty := ty) ht hu hd hi hz (sb := none) (sLen := 0) (sCap := 0) (old := #[]) hlen (by omega) (by omega)
          (by rw [Nat.zero_add, hby, nextslicecap_zero hn0]; omega) (.inr trivial) (by simp [Builtin.firstCells]) hdrun
        simp only [Nat.zero_add, Array.empty_append] at hrun
        have hge := grownCap_ge w n 0 e
        have hcm := grownCap_le_maxLen w n 0 e (by simp only [maxLen]; omega)
        have hsize : (newd ++ Builtin.zeroCells z.cells (grownCap w n 0 e - n)).size = grownCap w n 0 e * (sz + 1) := by
          rw [Array.size_append, size_zeroCells', hzs, hdl, ← Nat.add_mul]; congr 1; omega
        obtain ⟨q1, q2⟩ := R.drew.fresh' (some e) cs (newd ++ Builtin.zeroCells z.cells (grownCap w n 0 e - n)) e (fun t h => Option.some.inj h) (0, 0) false (fun _ => rfl) hb3 (by
          have hdl' : newd.toList.length = newd.size := Array.length_toList
          rw [Array.toList_append, List.take_append_of_le_length (by omega), List.take_of_length_le (by omega)]
          exact hdr)
        refine ⟨_, _, _, hrun, q1, ?_, q2⟩
        refine .sl _ _ _ _ _ _ _ (Map.add_same _ _ _) hge hcm (fun _ => ⟨0, rfl, rfl, ?_⟩)
        show 0 + _ ≤ (newd ++ Builtin.zeroCells z.cells (grownCap w n 0 e - n)).size
        rw [hsize]; omega
  · rename_i v k len z'
    cases hzz : Nat.beq z' (sz + 1) with
    | false => simp [hzz] at h
    | true =>
      simp only [hzz, cond_true] at h
      have := Nat.eq_of_beq_eq_true hzz
      subst this
      cases hs with | sl _ _ _ _ a cap p hp hn hm hpl =>
      cases hn0 : Nat.beq n 0 with
      | true =>
        simp only [hn0, cond_true, Option.some.injEq, Prod.mk.injEq] at h
        obtain ⟨rfl, rfl⟩ := h
        have := Nat.eq_of_beq_eq_true hn0
        subst this
        have hnews : news = #[] := Array.eq_empty_of_size_eq_zero (by rw [hnl]; simp)
        subst hnews
        refine ⟨_, w, g, append_fits ht hu hd hi hlen (by omega) hnrun (fun a' h => by rfl) (fun h => by cases h), Map.le_refl g, ?_, R⟩
        exact .sl _ _ _ _ _ _ p hp hn hm hpl
      | false =>
        simp only [hn0, cond_false] at h
        have hnpos : 0 < n := by
          rcases Nat.eq_zero_or_pos n with h0 | h0
          · subst h0; simp at hn0
          · exact h0
        cases hb : Nat.ble ((len + n) * bytes) 140737488355328 && Nat.ble (len + n) 9223372036854775807 && allCells cs with
        | false => simp [hb] at h
        | true =>
          simp only [hb, cond_true] at h
          simp only [Bool.and_eq_true] at hb
          obtain ⟨⟨hb1, hb2⟩, hb3⟩ := hb
          have hb1 := Nat.le_of_ble_eq_true hb1
          have hb2 := Nat.le_of_ble_eq_true hb2
          cases hl : m.live v with
          | none => simp [hl] at h
          | some Wc =>
            obtain ⟨W, c⟩ := Wc
            simp only [hl] at h
            cases hc : !c.fro && Nat.ble W.lo k && Nat.ble (k + len * (sz + 1)) W.hi with
            | false => simp [hc] at h
            | true =>
              simp only [hc, cond_true, Option.some.injEq, Prod.mk.injEq] at h
              obtain ⟨rfl, rfl⟩ := h
              simp only [Bool.and_eq_true, Bool.not_eq_true'] at hc
              obtain ⟨⟨hfro, hlo⟩, hhi⟩ := hc
              have hlo := Nat.le_of_ble_eq_true hlo
              have hhi := Nat.le_of_ble_eq_true hhi
              obtain ⟨h1, h2, h3⟩ := Mem.live_spec hl
              obtain ⟨p0, hp0, cells, eb, fr, c0, hheap, hcsz, hc0, hfr, hhb, hown⟩ := R.obj v _ h1
              have hhb1 := hhb.1
              rw [hp] at hp0; cases hp0
              rw [h2] at hc0; cases hc0
              have := hfr hfro
              subst this
              have hplb := R.pl v p hp
              by_cases hfit : len + n ≤ cap
              · -- it stays in its block
                obtain ⟨o, rfl, ho, hbd⟩ := hpl (by omega)
                have hcl' : cells.toList.length = cells.size := Array.length_toList
                have hnl' : news.toList.length = news.size := Array.length_toList
                have hroom : o + len * (sz + 1) + 0 + news.toList.length ≤ cells.size := by
                  rw [hnl', hnl]
                  have h4 : len * (sz + 1) + n * (sz + 1) ≤ cap * (sz + 1) := by rw [← Nat.add_mul]; exact Nat.mul_le_mul_right _ hfit
                  omega
                have hst : (storeCells ((⟨p.b, o, none⟩ : Addr).add (len * i.size)) news.toList).run P w = .ok () (w.setRow p.b (cells.toList.take (o + len * (sz + 1) + 0) ++ news.toList ++ cells.toList.drop (o + len * (sz + 1) + 0 + news.toList.length)).toArray) := by
                  rw [Addr.add_lit, hsz]
                  exact run_storeCells_at P p.b (o + len * (sz + 1)) eb news.toList 0 cells w hheap hroom (hnr.oneCell hb3)
                have hrun := append_fits (w := w) (ty := ty) ht hu hd hi (sb := some ⟨p.b, o, none⟩) hlen hfit hnrun (fun a' h => by cases h; exact hst) (fun h => by cases h)
                have hbb := butBlock_setRow w p.b (cells.toList.take (o + len * (sz + 1) + 0) ++ news.toList ++ cells.toList.drop (o + len * (sz + 1) + 0 + news.toList.length)).toArray
                have hnewb := setRow_heap w p.b cells (cells.toList.take (o + len * (sz + 1) + 0) ++ news.toList ++ cells.toList.drop (o + len * (sz + 1) + 0 + news.toList.length)).toArray eb (0, 0) hheap
                have hsize : (cells.toList.take (o + len * (sz + 1) + 0) ++ news.toList ++ cells.toList.drop (o + len * (sz + 1) + 0 + news.toList.length)).toArray.size = cells.size := by
                  rw [List.size_toArray, List.length_append, List.length_append, List.length_take, List.length_drop]
                  omega
                have hread : ∀ j, (cells.toList.take (o + len * (sz + 1) + 0) ++ news.toList ++ cells.toList.drop (o + len * (sz + 1) + 0 + news.toList.length)).toArray[j]? =
                    if j < o + len * (sz + 1) then cells[j]? else if j < o + len * (sz + 1) + news.size then news[j - (o + len * (sz + 1))]? else cells[j]? := by
                  intro j
                  have htl : (cells.toList.take (o + len * (sz + 1))).length = o + len * (sz + 1) := by rw [List.length_take]; omega
                  simp only [List.getElem?_toArray, List.append_assoc, Nat.add_zero]
                  by_cases j1 : j < o + len * (sz + 1)
                  · rw [if_pos j1, List.getElem?_append_left (by omega), List.getElem?_take, if_pos j1, Array.getElem?_toList]
                  · rw [if_neg j1, List.getElem?_append_right (by omega), htl]
                    by_cases j2 : j < o + len * (sz + 1) + news.size
                    · rw [if_pos j2, List.getElem?_append_left (by omega), Array.getElem?_toList]
                    · rw [if_neg j2, List.getElem?_append_right (by omega), List.getElem?_drop, Array.getElem?_toList]
                      congr 1; omega
                generalize hX : (cells.toList.take (o + len * (sz + 1) + 0) ++ news.toList ++ cells.toList.drop (o + len * (sz + 1) + 0 + news.toList.length)).toArray = X at hrun hbb hnewb hsize hread
                have hh := R.appended (bif tyIs W.ty e && Nat.beq k W.lo then some e else none) (w' := w.setRow p.b X) (k := k) (pp := k + len * (sz + 1)) (pn := p) (cs := cs) hl hp hfro hheap (hbb.below hplb.1) (fun b _ hb => hbb.other b hb)
                  ⟨X, hnewb, hsize, fun j hj => by rw [hread, if_pos (by omega)]⟩ ⟨hplb.1, by rw [hbb.size]; exact hplb.2.1⟩ (.inl ⟨rfl, rfl⟩)
                  ⟨X, eb, hnewb, by rw [hsize]; exact hcsz, ⟨(by
                    have h4 : len * (sz + 1) + n * (sz + 1) ≤ cap * (sz + 1) := by rw [← Nat.add_mul]; exact Nat.mul_le_mul_right _ hfit
                    omega), fun t ht => by
                    obtain ⟨t1, t2, t3⟩ := nty_spec ht
                    obtain ⟨t4, t5⟩ := hhb.2 e t1
                    exact ⟨by rw [t4, t3], by rw [t5, t2]⟩⟩, fun j y hj1 hj2 hy => by
                    rw [setCells_get] at hy
                    by_cases hin : k + len * (sz + 1) ≤ j ∧ j < k + len * (sz + 1) + cs.length
                    · rw [if_pos hin] at hy
                      obtain ⟨uu, hu1, hu2⟩ := hnr.get hy
                      refine ⟨allCells_mem hb3 y (List.mem_of_getElem? hy), o + (j - k), uu, by omega, ?_, hu2⟩
                      rw [hread, if_neg (by omega), if_pos (by omega), show o + (j - k) - (o + len * (sz + 1)) = j - (k + len * (sz + 1)) by omega]
                      simpa using hu1
                    · rw [if_neg hin] at hy
                      obtain ⟨y1, oj, uu, y2, y3, y4⟩ := (hown h3).2 j y (Win.cell_iff.2 ⟨by omega, by omega, hy⟩)
                      exact ⟨y1, oj, uu, y2, by rw [hread, if_pos (by omega)]; exact y3, y4⟩⟩
                refine ⟨_, _, _, hrun, hh.1, ?_, hh.2⟩
                refine .sl _ _ _ _ _ _ p (Map.add_same _ _ _) hfit hm (fun _ => ⟨o, rfl, ho, hbd⟩)
              · -- it moves
                have hgr : cap < len + n := by omega
                -- the old cells
                have hold : ∃ old : Array Value, (Builtin.firstCells i.size len (.slice (some a) len cap)).run P w.drew = .ok old w.drew ∧ old.size = len * (sz + 1) ∧
                    ∀ j, j < len * (sz + 1) → ∃ o, a = ⟨p.b, o, none⟩ ∧ o + p.d = k ∧ old[j]? = cells[o + j]? := by
                  rcases Nat.eq_zero_or_pos cap with h0 | h0
                  · have : len = 0 := by omega
                    subst this
                    exact ⟨#[], by simp [Builtin.firstCells, loadCells, loadCellsFrom], by simp, fun j hj => by simp at hj⟩
                  · obtain ⟨o, rfl, ho, hbd⟩ := hpl h0
                    have h4 : len * (sz + 1) ≤ cap * (sz + 1) := Nat.mul_le_mul_right _ hn
                    have hlenx : ((cells.toList.drop o).take (len * (sz + 1))).length = len * (sz + 1) := by
                      have hcl' : cells.toList.length = cells.size := Array.length_toList
                      rw [List.length_take, List.length_drop]; omega
                    refine ⟨((cells.toList.drop o).take (len * (sz + 1))).toArray, ?_, by rw [List.size_toArray]; exact hlenx, fun j hj => ⟨o, rfl, ho, ?_⟩⟩
                    · have hc' : ∀ j u, ((cells.toList.drop o).take (len * (sz + 1)))[j]? = some u → w.drew.cell? ((⟨p.b, o, none⟩ : Addr).add j) = some u := fun j u hj => by
                        rw [Addr.add_lit, cell_block (w := w.drew) hheap]
                        rw [List.getElem?_take] at hj
                        by_cases hjl : j < len * (sz + 1)
                        · rw [if_pos hjl, List.getElem?_drop] at hj; simpa using hj
                        · rw [if_neg hjl] at hj; cases hj
                      have := run_loadCells_list (P := P) (w := w.drew) ⟨p.b, o, none⟩ _ hc'
                      rw [hlenx] at this
                      simp only [Builtin.firstCells, hsz, this]
                    · simp only [List.getElem?_toArray, List.getElem?_take, if_pos hj, List.getElem?_drop, Array.getElem?_toList]
                obtain ⟨old, hold1, hold2, hold3⟩ := hold
                have hrun := append_grows (w := w) (ty := ty) ht hu hd hi hz (sb := some a) hlen hgr (by omega) (by rw [hby]; exact growslice_fits hgr hb1) (.inr trivial) hold1 hdrun
                have hge := grownCap_ge w (len + n) cap e
                have hcm := grownCap_le_maxLen w (len + n) cap e (by simp only [maxLen]; omega)
                have hsize : (old ++ newd ++ Builtin.zeroCells z.cells (grownCap w (len + n) cap e - (len + n))).size = grownCap w (len + n) cap e * (sz + 1) := by
                  rw [Array.size_append, Array.size_append, size_zeroCells', hzs, hdl, hold2, ← Nat.add_mul, ← Nat.add_mul]; congr 1; omega
                have hread : ∀ j, j < (len + n) * (sz + 1) → (old ++ newd ++ Builtin.zeroCells z.cells (grownCap w (len + n) cap e - (len + n)))[j]? =
                    if j < len * (sz + 1) then old[j]? else newd[j - len * (sz + 1)]? := by
                  intro j hj
                  have hmul : (len + n) * (sz + 1) = len * (sz + 1) + n * (sz + 1) := Nat.add_mul _ _ _
                  rw [Array.append_assoc]
                  by_cases j1 : j < len * (sz + 1)
                  · rw [if_pos j1, Array.getElem?_append_left (by omega)]
                  · rw [if_neg j1, Array.getElem?_append_right (by omega), hold2, Array.getElem?_append_left (by omega)]
                generalize hX : old ++ newd ++ Builtin.zeroCells z.cells (grownCap w (len + n) cap e - (len + n)) = X at hrun hsize hread
                have hh := R.appended (bif tyIs W.ty e && Nat.beq k W.lo then some e else none) (w' := w.drew.alloc (.cells X e (0, 0))) (k := k) (pp := k + len * (sz + 1)) (pn := ⟨w.heap.size, k, grownCap w (len + n) cap e * (sz + 1)⟩) (cs := cs) hl hp hfro hheap
                  ((Below.refl base w).drew.alloc (show base ≤ w.drew.heap.size from R.nb) _) (fun b hb _ => heap_alloc_lt w.drew _ hb)
                  ⟨cells, by rw [heap_alloc_lt w.drew _ hplb.2.1]; exact hheap, rfl, fun _ _ => rfl⟩ ⟨R.nb, by rw [size_alloc]; exact Nat.lt_succ_self _⟩ (.inr (Nat.le_refl _))
                  ⟨X, e, heap_alloc w.drew _, hsize, ⟨(by
                    have h4 : len * (sz + 1) + n * (sz + 1) ≤ grownCap w (len + n) cap e * (sz + 1) := by rw [← Nat.add_mul]; exact Nat.mul_le_mul_right _ hge
                    show k + len * (sz + 1) + cs.length ≤ k + grownCap w (len + n) cap e * (sz + 1)
                    omega), fun t ht => ⟨(nty_spec ht).2.2, rfl⟩⟩, fun j y hj1 hj2 hy => by
                    have hmul : (len + n) * (sz + 1) = len * (sz + 1) + n * (sz + 1) := Nat.add_mul _ _ _
                    rw [setCells_get] at hy
                    by_cases hin : k + len * (sz + 1) ≤ j ∧ j < k + len * (sz + 1) + cs.length
                    · rw [if_pos hin] at hy
                      obtain ⟨uu, hu1, hu2⟩ := hdr.get hy
                      refine ⟨allCells_mem hb3 y (List.mem_of_getElem? hy), j - k, uu, by show j - k + k = j; omega, ?_, hu2⟩
                      rw [hread _ (by omega), if_neg (by omega), show j - k - len * (sz + 1) = j - (k + len * (sz + 1)) by omega]
                      simpa using hu1
                    · rw [if_neg hin] at hy
                      obtain ⟨y1, oj, uu, y2, y3, y4⟩ := (hown h3).2 j y (Win.cell_iff.2 ⟨by omega, by omega, hy⟩)
                      obtain ⟨o, ha, ho, hoj⟩ := hold3 (j - k) (by omega)
                      refine ⟨y1, j - k, uu, by show j - k + k = j; omega, ?_, y4⟩
                      rw [hread _ (by omega), if_pos (by omega), hoj, show o + (j - k) = oj by omega]
                      exact y3⟩
                refine ⟨_, _, _, hrun, hh.1, ?_, hh.2⟩
                exact .sl _ _ _ _ _ _ _ (Map.add_same _ _ _) hge hcm (fun _ => ⟨0, rfl, Nat.zero_add k, by rw [Nat.zero_add]; exact Nat.le_refl _⟩)
  · cases h
end
end Go.Vz

/-
  V's WRITING OPERATIONS.
-/
set_option linter.unusedVariables false
set_option linter.unusedSimpArgs false
namespace Go.Vz
open Go Go.RowKit
section
variable {w0 : World} {base : Nat} {g g' : Map} {P : Program} {m m' : Mem} {w w' : World} {r : Operand → Option AV} {ρ : Operand → Value}
/-- no window -/
def Ob.plain : Ob → Prop
  | .win _ => False
  | _ => True
theorem bump_get {m : Mem} {q c : Nat} {x : Cl} (h : m.cls.get c = some x) : ∃ x', (m.bump q id).cls.get c = some x' ∧ x'.hw = x.hw ∧ x'.own = x.own ∧ x'.fro = x.fro := by
  unfold Mem.bump
  cases hq : m.cls.get q with
  | none => exact ⟨x, h, rfl, rfl, rfl⟩
  | some y =>
    by_cases e : c = q
    · subst e
      rw [h] at hq; cases hq
      exact ⟨_, Tr.get_set_same _ _ _, rfl, rfl, rfl⟩
    · exact ⟨x, by show (m.cls.set q _).get c = _; rw [Tr.get_set_ne _ _ e]; exact h, rfl, rfl, rfl⟩
theorem bump_none {m : Mem} {q c : Nat} (h : m.cls.get c = none) : (m.bump q id).cls.get c = none := by
  unfold Mem.bump
  cases hq : m.cls.get q with
  | none => exact h
  | some y =>
    show (m.cls.set q _).get c = none
    rw [Tr.get_set_ne]
    · exact h
    · intro e; subst e; rw [h] at hq; cases hq
theorem bump_obs (m : Mem) (q : Nat) : (m.bump q id).obs = m.obs ∧ (m.bump q id).nxt = m.nxt := by
  unfold Mem.bump
  cases m.cls.get q <;> exact ⟨rfl, rfl⟩
theorem ORel.keepBump {v q : Nat} {p : Pl} {o : Ob} (h : ORel w0 base g m w v p o) (hh : w'.heap[p.b]? = w.heap[p.b]?) (hm : ∀ c x, m.cls.get c = some x → ∃ x', m'.cls.get c = some x' ∧ x'.hw = x.hw ∧ x'.own = x.own ∧ x'.fro = x.fro) : ORel w0 base g m' w' v p o := by
  cases o with
  | win W =>
    obtain ⟨cells, e, fr, c, h1, h2, h3, h4, h5, h6⟩ := h
    obtain ⟨c', e1, e2, e3, e4⟩ := hm _ _ h3
    exact ⟨cells, e, fr, c', by rw [hh]; exact h1, h2, e1, by rw [e4]; exact h4, h5, fun ho => by
      have ho' : Owns c v := by unfold Owns at ho ⊢; rw [e3] at ho; exact ho
      exact ⟨fun hc => by rw [e2]; exact (h6 ho').1 (by rw [e3] at hc; exact hc), (h6 ho').2⟩⟩
  | map es clock => obtain ⟨hd, es', h1, h2⟩ := h; exact ⟨hd, es', by rw [hh]; exact h1, h2⟩
  | siter s pos => obtain ⟨hd, s', h1, h2⟩ := h; exact ⟨hd, s', h1, by rw [hh]; exact h2⟩
  | miter q since seen last => obtain ⟨hd, q', h1, h2⟩ := h; exact ⟨hd, q', h1, by rw [hh]; exact h2⟩
theorem Rel.setOb (R : Rel w0 base g m w) {q : Nat} {o o' : Ob} {p : Pl} {obj : Obj} (ho : m.obs.get q = some o) (hnw : o.plain) (hp : g q = some p)
    (hnew : ∀ m' w', w'.heap[p.b]? = some obj → ORel w0 base g m' w' q p o') : Rel w0 base g (m.setOb q o') { w with heap := w.heap.setIfInBounds p.b obj } := by
  have hpl := R.pl q p hp
  have hbb := butBlock_set w p.b obj
  have hobs : (m.setOb q o').obs = m.obs.set q o' := rfl
  have hnxt : (m.setOb q o').nxt = m.nxt := (bump_obs m q).2
  have hcls : (m.setOb q o').cls = (m.bump q id).cls := rfl
  have hmine : ({ w with heap := w.heap.setIfInBounds p.b obj } : World).heap[p.b]? = some obj := by simp [hpl.2.1]
  refine ⟨R.below.trans (hbb.below hpl.1), R.room, fun u hu => ?_, fun u hu => ?_, fun u s hs => ?_, fun u o2 hu => ?_, fun u1 u2 q1 q2 hq1 hq2 hb => ?_⟩
  · rw [hnxt] at hu
    have h := R.fresh u hu
    exact ⟨by rw [hobs, Tr.get_set_ne _ _ (fun e => by rw [e, ho] at h; cases h.1)]; exact h.1, h.2⟩
  · rw [hnxt] at hu
    rw [hcls]; exact bump_none (R.clss u hu)
  · obtain ⟨a1, a2, o2, a3⟩ := R.pl u s hs
    refine ⟨a1, by rw [hbb.size]; exact a2, ?_⟩
    by_cases e : u = q
    · subst e; exact ⟨o', by rw [hobs]; exact Tr.get_set_same _ _ _⟩
    · exact ⟨o2, by rw [hobs, Tr.get_set_ne _ _ e]; exact a3⟩
  · rw [hobs] at hu
    by_cases e : u = q
    · subst e
      rw [Tr.get_set_same] at hu; cases hu
      exact ⟨p, hp, hnew _ _ hmine⟩
    · rw [Tr.get_set_ne _ _ e] at hu
      obtain ⟨s, hs, hrel⟩ := R.obj u o2 hu
      refine ⟨s, hs, hrel.keepBump (q := q) (hbb.other s.b (fun hsb => ?_)) (fun c x hx => by rw [hcls]; exact bump_get hx)⟩
      rcases R.sep u q s p hs hp hsb with e' | ⟨V1, U1, d1, d2, _⟩
      · exact e e'
      · rw [ho] at d2; cases d2; exact hnw
  · rcases R.sep u1 u2 q1 q2 hq1 hq2 hb with e | ⟨V, U, d1, d2, d3, d4⟩
    · exact .inl e
    · refine .inr ⟨V, U, ?_, ?_, d3, d4⟩
      · rw [hobs, Tr.get_set_ne]
        · exact d1
        · intro e; subst e; rw [ho] at d1; cases d1; exact hnw
      · rw [hobs, Tr.get_set_ne]
        · exact d2
        · intro e; subst e; rw [ho] at d2; cases d2; exact hnw
theorem run_setObj {b : Nat} {o o' : Obj} (h : w.heap[b]? = some o) (hc : ∀ c e f, o ≠ .cells c e f) : (Go.setObj b o').run P w = .ok () { w with heap := w.heap.setIfInBounds b o' } := by
  unfold Go.setObj
  simp only [Sem.run, h]

/-- what an effect comes to -/
def EffTo (w0 : World) (base : Nat) (g : Map) (P : Program) (s : Sem Next) (w : World) (m' : Mem) : Res → Prop
  | .val x => ∃ v w' g', s.run P w = .ok (.value v) w' ∧ g.le g' ∧ VRel w0 base g' x v ∧ Rel w0 base g' m' w'
  | .skip => ∃ w' g', s.run P w = .ok .skip w' ∧ g.le g' ∧ Rel w0 base g' m' w'
  | .enter f args => ∃ vs : Array Value, s.run P w = .ok (.enter f vs) w ∧ VRels w0 base g args vs.toList ∧ Rel w0 base g m' w
  | .ext f args => ∃ vs : Array Value, s = callFunc f vs ∧ VRels w0 base g args vs.toList ∧ Rel w0 base g m' w
theorem EffTo.ofVal {s : Sem Value} {x : AV} {v : Value} {w' : World} {g' : Map} (h : s.run P w = .ok v w') (hle : g.le g') (hv : VRel w0 base g' x v) (hR : Rel w0 base g' m' w') :
    EffTo w0 base g P (do pure (Next.value (← s))) w m' (.val x) := ⟨v, w', g', by rw [Sem.run_bind, h]; rfl, hle, hv, hR⟩

/-! ### Lists of cells -/
theorem replicateA_rel {zs : List AV} {us : List Value} (h : VRels w0 base g zs us) : ∀ n, VRels w0 base g (replicateA n zs) ((List.replicate n us).flatten)
  | 0 => .nil
  | n + 1 => by rw [List.replicate_succ, List.flatten_cons]; exact h.append (replicateA_rel h n)
theorem replicate_flatten (us : List Value) (hu : 0 < us.length) : ∀ n, (List.range (n * us.length)).map (fun i => us[i % us.length]!) = (List.replicate n us).flatten
  | 0 => by simp
  | n + 1 => by
    rw [List.replicate_succ', List.flatten_concat, ← replicate_flatten us hu n, Nat.succ_mul, List.range_add, List.map_append]
    congr 1
    rw [List.map_map]
    apply List.ext_getElem?
    intro i
    by_cases hi : i < us.length
    · simp [hi, Nat.add_mod, Nat.mod_eq_of_lt hi]
    · simp [hi, List.getElem?_eq_none (Nat.le_of_not_lt hi)]
theorem zero_cells (z : Array Value) (n : Nat) (hz : 0 < z.size) : ((Array.range (n * z.size)).map (fun i => z[i % z.size]!)).toList = (List.replicate n z.toList).flatten := by
  have := replicate_flatten z.toList (by simpa using hz) n
  rw [← this]
  simp
  intro a _
  have h := Nat.mod_lt a hz
  rw [getElem!_pos z _ h, Array.getElem?_eq_getElem h]
  rfl
end
end Go.Vz

/-
  V's WRITING OPERATIONS, one by one.
-/
set_option linter.unusedVariables false
set_option linter.unusedSimpArgs false
namespace Go.Vz
open Go Go.RowKit
theorem ofCell_isCell {v : Value} {x : AV} (h : ofCell v = some x) : x.isCell = true := by
  unfold ofCell at h
  split at h <;> cases h <;> rfl
theorem ofCells_all : ∀ {vs : List Value} {xs : List AV}, ofCells vs = some xs → allCells xs = true
  | [], xs, h => by simp only [ofCells] at h; cases h; rfl
  | v :: vs, xs, h => by
    simp only [ofCells] at h
    cases h1 : ofCell v with
    | none => simp [h1] at h
    | some x =>
      cases h2 : ofCells vs with
      | none => simp [h1, h2] at h
      | some ys =>
        simp only [h1, h2, Option.some.injEq] at h
        subst h
        simp only [allCells, ofCell_isCell h1, ofCells_all h2, Bool.and_self]
theorem cells_of_cell {x : AV} (h : x.isCell = true) : x.cells = [x] := by cases x <;> first | rfl | cases h
theorem ofV_all {v : Value} {x : AV} (h : ofV v = some x) : allCells x.cells = true := by
  unfold ofV at h
  split at h
  · rename_i cs
    cases h1 : ofCells cs.toList with
    | none => simp [h1] at h
    | some xs => simp only [h1, Option.map_some, Option.some.injEq] at h; subst h; exact ofCells_all h1
  · have hx := ofCell_isCell h
    rw [cells_of_cell hx]
    simp only [allCells, hx, Bool.and_self]
theorem zeroT_all {P : Program} {t : TypeId} {x : AV} (h : zeroT P t = some x) : allCells x.cells = true := by
  unfold zeroT at h
  cases hi : P.info? t with
  | none => simp [hi] at h
  | some i =>
    simp only [hi] at h
    cases hz : i.zero with
    | none => simp [hz] at h
    | some z => simp only [hz] at h; exact ofV_all h
theorem replicateA_length (zs : List AV) : ∀ n, (replicateA n zs).length = n * zs.length
  | 0 => by simp [replicateA]
  | n + 1 => by simp only [replicateA, List.length_append, replicateA_length zs n, Nat.succ_mul]; omega
theorem allCells_append {xs ys : List AV} (h : allCells xs = true) (k : allCells ys = true) : allCells (xs ++ ys) = true :=
  allCells_of fun x hx => by
    rcases List.mem_append.1 hx with h1 | h1
    · exact allCells_mem h x h1
    · exact allCells_mem k x h1
theorem replicateA_all {zs : List AV} (h : allCells zs = true) : ∀ n, allCells (replicateA n zs) = true
  | 0 => rfl
  | n + 1 => allCells_append h (replicateA_all h n)
section
variable {w0 : World} {base : Nat} {g g' : Map} {P : Program} {m m' : Mem} {w w' : World} {r : Operand → Option AV} {ρ : Operand → Value}

theorem eff_alloc (R : Rel w0 base g m w) {t : TypeId} {z : AV} (hz : zeroT P t = some z) :
    EffTo w0 base g P (do pure (Next.value (← Instr.alloc t true (.tuple #[])))) w (m.fresh (some t) z.cells) (.val (.ptr m.nxt 0)) := by
  obtain ⟨zv, h1, _, h2⟩ := zeroT_run (w0 := w0) (base := base) (g := g) hz
  obtain ⟨q1, q2⟩ := R.fresh1 z.cells zv.cells t (zeroT_all hz) (VRels.cells h1)
  refine EffTo.ofVal (v := .pointer (some ⟨w.heap.size, 0, none⟩)) (w' := w.alloc (.cells zv.cells t (0, 0))) ?_ q1 (.ptr _ _ 0 _ (Map.add_same _ _ _) rfl) q2
  simp only [Instr.alloc, Sem.run_bind, h2, Result.andThen_ok, newVar, newRow, run_newObj, Sem.run_pure]
  rfl
theorem eff_box (R : Rel w0 base g m w) {t : TypeId} {x : AV} {v : Value} (hx : VRel w0 base g x v) (ha : allCells x.cells = true) :
    EffTo w0 base g P (do pure (Next.value (← Instr.box t v))) w (m.fresh (some t) x.cells) (.val (.ptr m.nxt 0)) := by
  obtain ⟨q1, q2⟩ := R.fresh1 x.cells v.cells t ha (VRels.cells hx)
  refine EffTo.ofVal (v := .pointer (some ⟨w.heap.size, 0, none⟩)) (w' := w.alloc (.cells v.cells t (0, 0))) ?_ q1 (.ptr _ _ 0 _ (Map.add_same _ _ _) rfl) q2
  simp only [Instr.box, Sem.run_bind, Result.andThen_ok, newVar, newRow, run_newObj, Sem.run_pure]
  rfl
theorem store_addr {a : AV} {xs : List AV} {u : Value} (h : m.store a xs = some m') (hu : VRel w0 base g a u) : (∃ v k, a = .ptr v k) ∧ ∃ ad, u = .pointer (some ad) := by
  unfold Mem.store at h
  split at h
  · cases hu; exact ⟨⟨_, _, rfl⟩, _, rfl⟩
  · cases h
theorem eff_store (R : Rel w0 base g m w) {t : TypeId} {a x : AV} {u v : Value} {n : Nat} (ha : VRel w0 base g a u) (hx : VRel w0 base g x v) (hs : sizeT P t = some n) (hn : x.cells.length = n) (h : m.store a x.cells = some m') :
    EffTo w0 base g P (do Instr.storeAt t u v; pure .skip) w m' .skip := by
  obtain ⟨⟨vv, k, rfl⟩, ad, rfl⟩ := store_addr h ha
  have hc := VRels.cells hx
  obtain ⟨w', h1, h2⟩ := R.store h ha hc
  have hsz : v.cells.size = n := by
    have := hc.length
    rw [Array.length_toList (xs := v.cells)] at this
    omega
  refine ⟨w', g, ?_, Map.le_refl g, h2⟩
  simp only [Instr.storeAt, Sem.run_bind, Instr.sureAddr, Sem.run_pure, Result.andThen_ok, storeVar, sizeT_run hs, hsz, ne_eq, not_true_eq_false, if_false, h1]
theorem eff_buildSlice (R : Rel w0 base g m w) {t e : TypeId} {len n : Nat} {parts : Array (Nat × Operand)} {z : AV} {ps : List (Nat × AV)} {cs : List AV} (hr : ∀ y a, r y = some a → VRel w0 base g a (ρ y)) (hu : P.underlying t = some (.slice e)) (hs : sizeT P e = some (n + 1)) (hz : zeroT P e = some z)
    (hp : partsA r parts.toList = some ps) (hsmall : len * (n + 1) ≤ 16777216) (hzl : z.cells.length = n + 1) (hf : fillA (fun i => some (i * (n + 1), n + 1)) (replicateA len z.cells) ps = some cs) (hc : allCells cs = true) :
    EffTo w0 base g P (do pure (Next.value (← Instr.buildSlice t len (parts.map fun (i, x) => (i, ρ x))))) w (m.fresh (some e) cs) (.val (.sl m.nxt 0 len (n + 1))) := by
  obtain ⟨zv, h1, _, h2⟩ := zeroT_run (w0 := w0) (base := base) (g := g) hz
  have hzc := VRels.cells h1
  have hzs : zv.cells.size = n + 1 := by
    have := hzc.length
    rw [Array.length_toList (xs := zv.cells)] at this
    omega
  have hrange : ((Array.range (len * (n + 1))).map (fun i => zv.cells[i % zv.cells.size]!)).toList = (List.replicate len zv.cells.toList).flatten := by
    have := zero_cells zv.cells len (by omega)
    rw [show len * (n + 1) = len * zv.cells.size by rw [hzs]]
    exact this
  obtain ⟨us, hus, hru⟩ := fillA_rel (vs := (Array.range (len * (n + 1))).map (fun i => zv.cells[i % zv.cells.size]!)) hf (by rw [hrange]; exact replicateA_rel hzc len) (partsA_rel hr hp)
  obtain ⟨q1, q2⟩ := R.fresh1 cs us e hc hru
  have hzero : (do if len * (n + 1) = 0 then pure #[] else do pure (← zeroValue e).cells : Sem (Array Value)).run P w = .ok (if len * (n + 1) = 0 then #[] else zv.cells) w := by
    split <;> simp [h2]
  have hus' : Instr.fill (fun i => some (i * (n + 1), n + 1)) ((Array.range (len * (n + 1))).map (fun i => (if len * (n + 1) = 0 then #[] else zv.cells)[i % (if len * (n + 1) = 0 then #[] else zv.cells).size]!)) (parts.map fun (i, x) => (i, ρ x)).toList = some us := by
    by_cases h0 : len * (n + 1) = 0
    · rw [if_pos h0]
      rw [h0] at hus ⊢
      rw [show Array.range 0 = #[] from rfl] at hus ⊢
      simpa using hus
    · rw [if_neg h0]; simpa using hus
  have hsz : us.size = len * (n + 1) := by
    have e1 := hru.length
    rw [Array.length_toList (xs := us)] at e1
    have e2 : cs.length = (replicateA len z.cells).length := by
      clear hus hus' hru q1 q2 hc
      -- laying parts keeps the number of cells
      have key : ∀ (ps : List (Nat × AV)) (as bs : List AV), fillA (fun i => some (i * (n + 1), n + 1)) as ps = some bs → bs.length = as.length := by
        intro ps
        induction ps with
        | nil => intro as bs h; simp only [fillA] at h; cases h; rfl
        | cons q ps ih =>
          obtain ⟨i, x⟩ := q
          intro as bs h
          simp only [fillA] at h
          cases hb : Nat.beq x.cells.length (n + 1) with
          | false => simp [hb] at h
          | true =>
            simp only [hb, cond_true] at h
            cases hpc : putCells as (i * (n + 1)) x.cells with
            | none => simp [hpc] at h
            | some ds =>
              simp only [hpc] at h
              obtain ⟨hl, e⟩ := putCells_eq hpc
              rw [ih ds bs h, e, List.length_append, List.length_append, List.length_take, List.length_drop]
              omega
      exact key ps _ _ hf
    rw [replicateA_length, hzl] at e2
    omega
  refine EffTo.ofVal (v := .slice (some ⟨w.heap.size, 0, none⟩) len len) (w' := w.alloc (.cells us e (0, 0))) ?_ q1 (.sl _ _ _ _ _ _ _ (Map.add_same _ _ _) (Nat.le_refl _) ?_ (fun _ => ⟨0, rfl, rfl, ?_⟩)) q2
  · have hbig : ¬ (16777216 < len * (n + 1)) := by omega
    by_cases h0 : len * (n + 1) = 0
    · simp only [h0, if_true] at hus'
      have h0' : len = 0 := by
        rcases Nat.mul_eq_zero.1 h0 with h | h
        · exact h
        · omega
      subst h0'
      rw [show Array.range 0 = #[] from rfl] at hus'
      have hus2 : Instr.fill (fun i => some (i * (n + 1), n + 1)) #[] (List.map (fun x : Nat × Operand => (x.fst, ρ x.snd)) parts.toList) = some us := by simpa using hus'
      have hr0 : Array.range 0 = #[] := rfl
      simp [hus2, Instr.buildSlice, run_underlying hu, sizeT_run hs, newRow, hr0]
    · simp only [h0, if_false] at hus'
      have h0' : ¬ len = 0 := fun h => h0 (by rw [h]; simp)
      simp only [Array.toList_map] at hus'
      simp [Instr.buildSlice, run_underlying hu, sizeT_run hs, newRow, hbig, h0, h0', h2, hus']
  · have : len ≤ len * (n + 1) := Nat.le_mul_of_pos_right _ (by omega)
    simp only [maxLen]; omega
  · show 0 + len * (n + 1) ≤ us.size
    omega
end
end Go.Vz

/-
  V's WRITING OPERATIONS: maps.
-/
set_option linter.unusedVariables false
set_option linter.unusedSimpArgs false
namespace Go.Vz
open Go Go.RowKit
section
variable {w0 : World} {base : Nat} {g g' : Map} {P : Program} {m m' : Mem} {w w' : World} {r : Operand → Option AV} {ρ : Operand → Value}

/-- a map's new entries -/
theorem Rel.setMap (R : Rel w0 base g m w) {q : Nat} {es fs : List (AV × AV × Nat)} {clock clock' : Nat} {p : Pl} {es' fs' : Array MapEntry} (ho : m.obs.get q = some (.map es clock)) (hp : g q = some p)
    (hh : w.heap[p.b]? = some (.map es' clock)) (hf : ERels w0 base g fs fs'.toList) :
    Rel w0 base g (m.setOb q (.map fs clock')) { w with heap := w.heap.setIfInBounds p.b (.map fs' clock') } ∧ (Go.setObj p.b (.map fs' clock')).run P w = .ok () { w with heap := w.heap.setIfInBounds p.b (.map fs' clock') } := by
  obtain ⟨p', hp', hd, _⟩ := R.obj q _ ho
  rw [hp] at hp'; cases hp'
  exact ⟨R.setOb ho trivial hp fun m' w' h => ⟨hd, fs', h, hf⟩, run_setObj hh (by intro _ _ _ h; cases h)⟩

theorem ERels.push {es : List (AV × AV × Nat)} {cs : Array MapEntry} (h : ERels w0 base g es cs.toList) {k x : AV} {u v : Value} {b : Nat} (hk : VRel w0 base g k u) (hx : VRel w0 base g x v) :
    ERels w0 base g (es ++ [(k, x, b)]) (cs.push { key := u, val := v, born := b }).toList := by
  rw [Array.toList_push]
  exact h.append (.cons _ _ _ _ _ _ hk hx rfl .nil)
theorem entry_at {cs : Array MapEntry} {n : Nat} {e : MapEntry} (h : cs.toList[n]? = some e) : cs[n]? = some e := by simpa using h

theorem eff_update (R : Rel w0 base g m w) {t kt et : TypeId} (hu : P.underlying t = some (.map kt et)) {key x : AV} {ku xu mu : Value} {q : Nat} {b : Bool} (hkb : eqKey P kt key key = some b) (hk : VRel w0 base g key ku) (hx : VRel w0 base g x xu)
    {es : List (AV × AV × Nat)} {clock : Nat} (ho : m.obs.get q = some (.map es clock)) (hm : VRel w0 base g (.map q) mu) {res : Res}
    (h : (match findA P kt key es 0 with
          | some (some (i, _, _)) => some (Res.skip, m.setOb q (.map (modifyA (fun e => (key, x, e.2.2)) es i) clock))
          | some none => some (.skip, m.setOb q (.map (es ++ [(key, x, clock)]) (clock + 1)))
          | none => none) = some (res, m')) :
    EffTo w0 base g P (do Instr.mapUpdate t mu ku xu; pure .skip) w m' res := by
  obtain ⟨p, es', rfl, hp, hh, hrel⟩ := R.map ho hm
  have hget := run_getObj (P := P) hh (by intro _ _ _ h; cases h)
  split at h
  · rename_i i v c hf
    cases h
    obtain ⟨qf, hq1, n, e, hj, hn, hq⟩ := findKey_run hkb hk w hf hrel
    obtain ⟨n', k', hj', hn', heq⟩ := findA_spec hf
    have hnn : n = n' := by omega
    subst hnn
    obtain ⟨e', he', hkey, hval, hborn⟩ := hrel.get hn'
    rw [hn] at he'; cases he'
    have hi : i = n := by omega
    subst hi; subst hq
    have hent := entry_at hn
    have hmod : ERels w0 base g (modifyA (fun e => (key, x, e.2.2)) es i) (es'.modify i fun e => { e with key := ku, val := xu }).toList := by
      rw [Array.toList_modify]
      exact hrel.modify i fun k x b e _ _ hb => ⟨hk, hx, hb⟩
    obtain ⟨h1, h2⟩ := R.setMap (P := P) ho hp hh hmod (clock' := clock)
    refine ⟨_, g, ?_, Map.le_refl g, h1⟩
    have hstay := keyStays heq hk hkey w
    simp only [Instr.mapUpdate, Sem.run_bind, run_underlying hu, Result.andThen_ok, hget, checkKey_run hkb hk, hq1, hent, Option.map_some, Option.getD_some, hstay, h2, Sem.run_pure]
  · rename_i hf
    cases h
    obtain ⟨qf, hq1, hq⟩ := findKey_run hkb hk w hf hrel
    cases hq
    obtain ⟨h1, h2⟩ := R.setMap (P := P) ho hp hh (hrel.push hk hx (b := clock)) (clock' := clock + 1)
    refine ⟨_, g, ?_, Map.le_refl g, h1⟩
    simp only [Instr.mapUpdate, Sem.run_bind, run_underlying hu, Result.andThen_ok, hget, checkKey_run hkb hk, hq1, h2, Sem.run_pure]
  · cases h

theorem eff_mapEntry (R : Rel w0 base g m w) {t kt et : TypeId} (hu : P.underlying t = some (.map kt et)) {key : AV} {ku mu : Value} {q : Nat} {b : Bool} (hkb : eqKey P kt key key = some b) (hk : VRel w0 base g key ku)
    {es : List (AV × AV × Nat)} {clock : Nat} (ho : m.obs.get q = some (.map es clock)) (hm : VRel w0 base g (.map q) mu) {res : Res}
    (h : (match findA P kt key es 0, zeroT P et with
          | some (some (i, v, b)), _ => some (Res.val (.tup [v, .int .i64 b]), m.setOb q (.map (modifyA (fun e => (key, e.2)) es i) clock))
          | some none, some z => some (.val (.tup [z, .int .i64 clock]), m.setOb q (.map (es ++ [(key, z, clock)]) (clock + 1)))
          | _, _ => none) = some (res, m')) :
    EffTo w0 base g P (do pure (Next.value (← Instr.mapEntry t mu ku))) w m' res := by
  obtain ⟨p, es', rfl, hp, hh, hrel⟩ := R.map ho hm
  have hget := run_getObj (P := P) hh (by intro _ _ _ h; cases h)
  split at h
  · rename_i i v c hf
    cases h
    obtain ⟨qf, hq1, n, e, hj, hn, hq⟩ := findKey_run hkb hk w hf hrel
    obtain ⟨n', k', hj', hn', heq⟩ := findA_spec hf
    have hnn : n = n' := by omega
    subst hnn
    obtain ⟨e', he', hkey, hval, hborn⟩ := hrel.get hn'
    rw [hn] at he'; cases he'
    have hi : i = n := by omega
    subst hi; subst hq
    have hent := entry_at hn
    have hmod : ERels w0 base g (modifyA (fun e => (key, e.2)) es i) (es'.modify i fun e => { e with key := ku }).toList := by
      rw [Array.toList_modify]
      exact hrel.modify i fun k x b e _ hx hb => ⟨hk, hx, hb⟩
    obtain ⟨h1, h2⟩ := R.setMap (P := P) ho hp hh hmod (clock' := clock)
    have hstay := keyStays heq hk hkey w
    refine EffTo.ofVal (v := .tuple #[e.val, goInt e.born]) (w' := _) ?_ (Map.le_refl g) (tuple_two hval (by rw [hborn]; exact .int _ _)) h1
    simp only [Instr.mapEntry, Sem.run_bind, run_underlying hu, Result.andThen_ok, hget, checkKey_run hkb hk, hq1, hent, Option.map_some, Option.getD_some, hstay, h2, Sem.run_pure]
  · rename_i z hf hz
    cases h
    obtain ⟨qf, hq1, hq⟩ := findKey_run hkb hk w hf hrel
    cases hq
    obtain ⟨zv, hz1, _, hz2⟩ := zeroT_run (w0 := w0) (base := base) (g := g) hz
    obtain ⟨h1, h2⟩ := R.setMap (P := P) ho hp hh (hrel.push hk hz1 (b := clock)) (clock' := clock + 1)
    refine EffTo.ofVal (v := .tuple #[zv, goInt clock]) (w' := _) ?_ (Map.le_refl g) (tuple_two hz1 (.int _ _)) h1
    simp only [Instr.mapEntry, Sem.run_bind, run_underlying hu, Result.andThen_ok, hget, checkKey_run hkb hk, hq1, hz2, h2, Sem.run_pure]
  · cases h

theorem findBorn_spec {b : Nat} : ∀ {es : List (AV × AV × Nat)} {cs : List MapEntry} {i j : Nat}, findBorn b es i = some j → ERels w0 base g es cs →
    ∃ n, j = i + n ∧ cs.findIdx? (fun e => (e.born : Int) == (b : Int)) = some n
  | [], cs, i, j, h, hr => by simp [findBorn] at h
  | (k, x, c) :: es, [], i, j, h, hr => by cases hr
  | (k, x, c) :: es, e :: cs, i, j, h, hr => by
    cases hr with | cons _ _ _ _ _ _ h1 h2 h3 h4 =>
    simp only [findBorn] at h
    cases hb : Nat.beq b c with
    | true =>
      simp only [hb, cond_true, Option.some.injEq] at h
      have := Nat.eq_of_beq_eq_true hb
      refine ⟨0, by omega, ?_⟩
      rw [List.findIdx?_cons, if_pos]
      rw [beq_iff_eq, h3, this]
    | false =>
      simp only [hb, cond_false] at h
      obtain ⟨n, hj, hn⟩ := findBorn_spec h h4
      refine ⟨n + 1, by omega, ?_⟩
      rw [List.findIdx?_cons, if_neg, hn]
      · rfl
      · rw [beq_iff_eq, h3]
        intro he
        have : c = b := by omega
        subst this
        simp at hb
theorem eff_entryStore (R : Rel w0 base g m w) {t : TypeId} {x : AV} {xu mu : Value} {q b : Nat} {k : IntKind} (hx : VRel w0 base g x xu)
    {es : List (AV × AV × Nat)} {clock : Nat} (ho : m.obs.get q = some (.map es clock)) (hm : VRel w0 base g (.map q) mu) {i : Nat} (h : findBorn b es 0 = some i) :
    EffTo w0 base g P (do Instr.entryStore t mu (.int k b) xu; pure .skip) w (m.setOb q (.map (modifyA (fun e => (e.1, x, e.2.2)) es i) clock)) .skip := by
  obtain ⟨p, es', rfl, hp, hh, hrel⟩ := R.map ho hm
  have hget := run_getObj (P := P) hh (by intro _ _ _ h; cases h)
  obtain ⟨n, hj, hn⟩ := findBorn_spec h hrel
  have hi : i = n := by omega
  subst hi
  have hmod : ERels w0 base g (modifyA (fun e => (e.1, x, e.2.2)) es i) (es'.modify i fun e => { e with val := xu }).toList := by
    rw [Array.toList_modify]
    exact hrel.modify i fun k x b e hk _ hb => ⟨hk, hx, hb⟩
  obtain ⟨h1, h2⟩ := R.setMap (P := P) ho hp hh hmod (clock' := clock)
  refine ⟨_, g, ?_, Map.le_refl g, h1⟩
  have hidx : es'.findIdx? (fun e => (e.born : Int) == (b : Int)) = some i := by rw [← hn, ← List.findIdx?_toArray, Array.toArray_toList]
  simp only [Instr.entryStore, Sem.run_bind, Result.andThen_ok, hget, asInt, asIntOf, Sem.run_pure, hidx, h2]
theorem eff_delete (R : Rel w0 base g m w) {t kt et ty : TypeId} (hu : P.underlying t = some (.map kt et)) {key : AV} {ku mu : Value} {q : Nat} {b : Bool} (hkb : eqKey P kt key key = some b) (hk : VRel w0 base g key ku)
    {es : List (AV × AV × Nat)} {clock : Nat} (ho : m.obs.get q = some (.map es clock)) (hm : VRel w0 base g (.map q) mu) {ats : Array TypeId} (hat : ats[0]? = some t) {res : Res}
    (h : (match findA P kt key es 0 with
            | some (some (i, _, _)) => some (Res.val (.tup []), m.setOb q (.map (eraseA es i) clock))
            | some none => some (.val (.tup []), m.setOb q (.map es clock))
            | none => none) = some (res, m')) :
    EffTo w0 base g P (do pure (Next.value (← Builtin.delete_ ats ty #[mu, ku]))) w m' res := by
  obtain ⟨p, es', rfl, hp, hh, hrel⟩ := R.map ho hm
  have hget := run_getObj (P := P) hh (by intro _ _ _ h; cases h)
  have a0 : (#[Value.map (some p.b), ku])[0]? = some (.map (some p.b)) := rfl
  have a1 : (#[Value.map (some p.b), ku])[1]? = some ku := rfl
  split at h
  · rename_i i v c hf
    cases h
    obtain ⟨qf, hq1, n, e, hj, hn, hq⟩ := findKey_run hkb hk w hf hrel
    have hi : i = n := by omega
    subst hi; subst hq
    have hmod : ERels w0 base g (eraseA es i) (es'.eraseIdxIfInBounds i).toList := by
      rw [Array.toList_eraseIdxIfInBounds]
      exact hrel.erase i
    obtain ⟨h1, h2⟩ := R.setMap (P := P) ho hp hh hmod (clock' := clock)
    refine EffTo.ofVal (v := .tuple #[]) (w' := _) ?_ (Map.le_refl g) (.tup _ _ .nil) h1
    simp only [Builtin.delete_, hat, a0, a1, Sem.run_bind, run_underlying hu, Result.andThen_ok, hget, checkKey_run hkb hk, hq1, h2, Sem.run_pure]
  · rename_i hf
    cases h
    obtain ⟨qf, hq1, hq⟩ := findKey_run hkb hk w hf hrel
    cases hq
    obtain ⟨h1, h2⟩ := R.setMap (P := P) ho hp hh hrel (clock' := clock)
    refine EffTo.ofVal (v := .tuple #[]) (w' := _) ?_ (Map.le_refl g) (.tup _ _ .nil) h1
    simp only [Builtin.delete_, hat, a0, a1, Sem.run_bind, run_underlying hu, Result.andThen_ok, hget, checkKey_run hkb hk, hq1, h2, Sem.run_pure]
  · cases h
/-- a new object that is no window -/
theorem Rel.freshOb (R : Rel w0 base g m w) (o : Ob) (obj : Obj) (ho : o.plain) (hnew : ∀ g' m' w', g.le g' → w'.heap[w.heap.size]? = some obj → ORel w0 base g' m' w' m.nxt ⟨w.heap.size, 0, 0⟩ o) :
    g.le (g.add m.nxt ⟨w.heap.size, 0, 0⟩) ∧ Rel w0 base (g.add m.nxt ⟨w.heap.size, 0, 0⟩) (m.freshOb o) (w.alloc obj) :=
  R.newOb o obj ⟨0, none, 0, false⟩ 0 (fun W h => by subst h; cases ho) (fun g' m' w' hle _ hh _ => hnew g' m' w' hle hh)
end
end Go.Vz

/-
  V's WRITING OPERATIONS: the others.
-/
set_option linter.unusedVariables false
set_option linter.unusedSimpArgs false
namespace Go.Vz
open Go Go.RowKit
section
variable {w0 : World} {base : Nat} {g g' : Map} {P : Program} {m m' : Mem} {w w' : World} {r : Operand → Option AV} {ρ : Operand → Value}

theorem ints_all : ∀ l : List Nat, allCells (l.map fun b => AV.int .u8 (b : Nat)) = true
  | [] => rfl
  | _ :: l => by simp only [List.map_cons, allCells, AV.isCell, ints_all l, Bool.and_self]
theorem eff_bytes (R : Rel w0 base g m w) {s d e : TypeId} {l : List Nat} {u : Value} (hs : P.underlying s = some .string) (hd : P.underlying d = some (.slice e)) (he : P.underlying e = some (.int .u8)) (hl : l.length ≤ 9223372036854775807) (hu : VRel w0 base g (.str l) u) :
    EffTo w0 base g P (do pure (Next.value (← convert s d u))) w (m.freshFro (l.map fun b => .int .u8 (b : Nat))) (.val (.sl m.nxt 0 l.length 1)) := by
  cases hu with | str _ b hb =>
  subst hb
  have hrun := run_bytes_of_string (P := P) w s d e b hs hd he
  have hln : (natOf b).length = b.size := natOf_length b
  have hge := grownCap_ge w b.size 0 e
  have hcm := grownCap_le_maxLen w b.size 0 e (by simp only [maxLen]; omega)
  have hsz : (bytesRow b (grownCap w b.size 0 e)).size = grownCap w b.size 0 e := by
    unfold bytesRow
    rw [Array.size_append, Array.size_map, Array.size_replicate]
    show b.size + _ = _
    omega
  obtain ⟨q1, q2⟩ := R.drew.fresh' none ((natOf b).map fun b => .int .u8 (b : Nat)) (bytesRow b (grownCap w b.size 0 e)) e (fun t h => by cases h) ((bytesRow b (grownCap w b.size 0 e)).size, (bytesRow b (grownCap w b.size 0 e)).size + 1) true (fun h => by cases h) (ints_all _) (by
    unfold bytesRow
    have hdl : (Array.map (fun b => Value.int .u8 b.toNat) b.data : Array Value).toList.length = b.size := by rw [Array.length_toList, Array.size_map]; rfl
    rw [Array.toList_append, List.take_append_of_le_length (by rw [List.length_map, hdl]; omega), List.take_of_length_le (by rw [List.length_map, hdl]; omega), Array.toList_map]
    exact VRels.ints b.data.toList)
  refine EffTo.ofVal hrun q1 ?_ q2
  rw [hln]
  refine .sl _ _ _ _ _ _ _ (Map.add_same _ _ _) hge hcm (fun _ => ⟨0, rfl, rfl, ?_⟩)
  show 0 + _ ≤ (bytesRow b (grownCap w b.size 0 e)).size
  rw [hsz]; omega
theorem eff_makeMap (R : Rel w0 base g m w) {t : TypeId} {h : Option Value} (hh : (h = none) ∨ ∃ kt et k n, P.underlying t = some (.map kt et) ∧ h = some (.int k n)) :
    EffTo w0 base g P (do pure (Next.value (← Instr.makeMap t h))) w (m.freshOb (.map [] 0)) (.val (.map m.nxt)) := by
  obtain ⟨q1, q2⟩ := R.freshOb (.map [] 0) (.map #[] 0) trivial (fun g' m' w' _ h => ⟨rfl, #[], h, .nil⟩)
  refine EffTo.ofVal (v := .map (some w.heap.size)) (w' := w.alloc (.map #[] 0)) ?_ q1 (.map _ _ (Map.add_same _ _ _)) q2
  rcases hh with rfl | ⟨kt, et, k, n, hu, rfl⟩
  · simp only [Instr.makeMap, Sem.run_bind, Sem.run_pure, Result.andThen_ok, run_newObj]
    rfl
  · simp only [Instr.makeMap, Sem.run_bind, Sem.run_pure, Result.andThen_ok, run_newObj, run_underlying hu, asInt, asIntOf]
    rfl
theorem eff_makeSlice (R : Rel w0 base g m w) {t e : TypeId} {n bytes l : Nat} {z : AV} {k k' : IntKind} (hu : P.underlying t = some (.slice e)) (hs : sizeT P e = some (n + 1)) (hb : bytesT P e = some bytes) (hz : zeroT P e = some z)
    (h63 : l ≤ 9223372036854775807) (h48 : l * bytes ≤ 281474976710656) (hzl : z.cells.length = n + 1) :
    EffTo w0 base g P (do pure (Next.value (← Instr.makeSlice t (.int k l) (.int k' l)))) w (m.fresh (some e) (replicateA l z.cells)) (.val (.sl m.nxt 0 l (n + 1))) := by
  obtain ⟨zv, h1, ⟨i, hi, hiz⟩, h2⟩ := zeroT_run (w0 := w0) (base := base) (g := g) hz
  have hzc := VRels.cells h1
  have hzs : zv.cells.size = n + 1 := by
    have := hzc.length
    rw [Array.length_toList (xs := zv.cells)] at this
    omega
  have his : i.size = n + 1 := by unfold sizeT at hs; rw [hi] at hs; exact Option.some.inj hs
  have hib : i.bytes = bytes := by unfold bytesT at hb; rw [hi] at hb; exact Option.some.inj hb
  have hrun := run_make (P := P) w t e i zv hu hi hiz k k' (l : Int) (l : Int) (by omega) (by omega) (by rw [hib, ← Int.natCast_mul, Nat.mul_comm]; exact Int.ofNat_le.2 h48) (by omega)
  simp only [Int.toNat_natCast, his] at hrun
  have hcells : (madeCells zv.cells (l * (n + 1))).toList = (List.replicate l zv.cells.toList).flatten := by
    have := zero_cells zv.cells l (by omega)
    unfold madeCells
    rw [← hzs]
    exact this
  obtain ⟨q1, q2⟩ := R.fresh1 (replicateA l z.cells) (madeCells zv.cells (l * (n + 1))) e (replicateA_all (zeroT_all hz) l) (by rw [hcells]; exact replicateA_rel hzc l)
  refine EffTo.ofVal hrun q1 (.sl _ _ _ _ _ _ _ (Map.add_same _ _ _) (Nat.le_refl _) (by simp only [maxLen]; omega) (fun _ => ⟨0, rfl, rfl, ?_⟩)) q2
  show 0 + _ ≤ (madeCells zv.cells (l * (n + 1))).size
  rw [size_madeCells]; omega
theorem eff_rangeS (R : Rel w0 base g m w) {t : TypeId} {s : List Nat} {u : Value} (hu : P.underlying t = some .string) (hx : VRel w0 base g (.str s) u) :
    EffTo w0 base g P (do pure (Next.value (← Instr.range t u))) w (m.freshOb (.siter s 0)) (.val (.ptr m.nxt 0)) := by
  cases hx with | str _ b hb =>
  obtain ⟨q1, q2⟩ := R.freshOb (.siter s 0) (.stringIter b 0) trivial (fun g' m' w' _ h => ⟨rfl, b, hb, h⟩)
  refine EffTo.ofVal (v := .pointer (some ⟨w.heap.size, 0, none⟩)) (w' := w.alloc (.stringIter b 0)) ?_ q1 (.ptr _ _ 0 _ (Map.add_same _ _ _) rfl) q2
  simp only [Instr.range, Sem.run_bind, run_underlying hu, Result.andThen_ok, Sem.run_pure, run_newObj]
  rfl
theorem eff_rangeN (R : Rel w0 base g m w) {t kt et : TypeId} {u : Value} (hu : P.underlying t = some (.map kt et)) (hx : VRel w0 base g .nilmap u) :
    EffTo w0 base g P (do pure (Next.value (← Instr.range t u))) w (m.freshOb (.miter none 0 [] 0)) (.val (.ptr m.nxt 0)) := by
  cases hx
  obtain ⟨q1, q2⟩ := R.freshOb (.miter none 0 [] 0) (.mapIter none 0 #[] 0) trivial (fun g' m' w' _ h => ⟨rfl, none, rfl, h⟩)
  refine EffTo.ofVal (v := .pointer (some ⟨w.heap.size, 0, none⟩)) (w' := w.alloc (.mapIter none 0 #[] 0)) ?_ q1 (.ptr _ _ 0 _ (Map.add_same _ _ _) rfl) q2
  simp only [Instr.range, Sem.run_bind, run_underlying hu, Result.andThen_ok, Sem.run_pure, run_newObj]
  rfl
theorem eff_rangeM (R : Rel w0 base g m w) {t kt et : TypeId} {u : Value} {q clock : Nat} {es : List (AV × AV × Nat)} (hu : P.underlying t = some (.map kt et)) (ho : m.obs.get q = some (.map es clock)) (hx : VRel w0 base g (.map q) u) :
    EffTo w0 base g P (do pure (Next.value (← Instr.range t u))) w (m.freshOb (.miter (some q) clock [] clock)) (.val (.ptr m.nxt 0)) := by
  obtain ⟨p, es', rfl, hp, hh, hrel⟩ := R.map ho hx
  have hget := run_getObj (P := P) hh (by intro _ _ _ h; cases h)
  obtain ⟨q1, q2⟩ := R.freshOb (.miter (some q) clock [] clock) (.mapIter (some p.b) clock #[] clock) trivial (fun g' m' w' hle h => ⟨rfl, some p.b, ⟨p, hle _ _ hp, rfl⟩, h⟩)
  refine EffTo.ofVal (v := .pointer (some ⟨w.heap.size, 0, none⟩)) (w' := w.alloc (.mapIter (some p.b) clock #[] clock)) ?_ q1 (.ptr _ _ 0 _ (Map.add_same _ _ _) rfl) q2
  simp only [Instr.range, Sem.run_bind, run_underlying hu, Result.andThen_ok, Sem.run_pure, run_newObj, hget]
  rfl
theorem eff_nextS (R : Rel w0 base g m w) {ty : TypeId} {q pos : Nat} {s : List Nat} {u : Value} {res : Res} (hx : VRel w0 base g (.ptr q 0) u) (ho : m.obs.get q = some (.siter s pos))
    (h : (bif Nat.ble (pos + 1) s.length then
          (match s[pos]? with
          | some c => bif Nat.ble c 127 then some (Res.val (.tup [.bool true, .int .i64 pos, .int .i32 c]), m.setOb q (.siter s (pos + 1))) else none
          | none => none) else some (.val (.tup [.bool false]), m)) = some (res, m')) :
    EffTo w0 base g P (do pure (Next.value (← Instr.next u true ty))) w m' res := by
  obtain ⟨p, hp, hd, s', hs', hh⟩ := R.obj q _ ho
  have hget := run_getObj (P := P) hh (by intro _ _ _ h; cases h)
  cases hx with | ptr _ _ o p' hp' hod =>
  rw [hp] at hp'; cases hp'
  have ho0 : o = 0 := by omega
  subst ho0; subst hs'
  rw [natOf_length] at h
  cases hb : Nat.ble (pos + 1) s'.size with
  | false =>
    simp only [hb, cond_false, Option.some.injEq, Prod.mk.injEq] at h
    obtain ⟨rfl, rfl⟩ := h
    have hlt : ¬ pos < s'.size := fun hlt => by
      have := Nat.ble_eq_true_of_le (show pos + 1 ≤ s'.size from hlt)
      rw [hb] at this; cases this
    refine EffTo.ofVal (v := .tuple #[.bool false]) ?_ (Map.le_refl g) (.tup _ _ (.cons _ _ _ _ (.bool _) .nil)) R
    simp only [Instr.next, Sem.run_bind, hget, Result.andThen_ok, if_neg hlt, Sem.run_pure]
  | true =>
    simp only [hb, cond_true, natOf_get] at h
    have hlt : pos < s'.size := Nat.le_of_ble_eq_true hb
    have hat : s'[pos]? = some (s'[pos]'hlt) := by simp [hlt]
    rw [hat] at h
    simp only [Option.map_some] at h
    cases hc : Nat.ble (s'[pos]'hlt).toNat 127 with
    | false => simp [hc] at h
    | true =>
      simp only [hc, cond_true, Option.some.injEq, Prod.mk.injEq] at h
      obtain ⟨rfl, rfl⟩ := h
      have hle : (s'[pos]'hlt).toNat < 128 := Nat.lt_succ_of_le (Nat.le_of_ble_eq_true hc)
      have hR := R.setOb (o' := .siter (natOf s') (pos + 1)) (obj := .stringIter s' (pos + 1)) ho trivial hp (fun m' w' h => ⟨hd, s', rfl, h⟩)
      have hset := run_setObj (P := P) (o' := .stringIter s' (pos + 1)) hh (by intro _ _ _ h; cases h)
      refine EffTo.ofVal (v := .tuple #[.bool true, goInt pos, .int .i32 (s'[pos]'hlt).toNat]) ?_ (Map.le_refl g) (.tup _ _ (.cons _ _ _ _ (.bool _) (.cons _ _ _ _ (.int _ _) (.cons _ _ _ _ (.int _ _) .nil)))) hR
      simp only [Instr.next, Sem.run_bind, hget, Result.andThen_ok, if_pos hlt, Sem.run_pure, decode_ascii s' pos hlt hle, hset]
theorem eff_nextM (R : Rel w0 base g m w) {ty : TypeId} {q since last : Nat} {u : Value} {res : Res} {f : Option Nat} {seen : List Nat} (hx : VRel w0 base g (.ptr q 0) u)
    (h : (match f with
      | none => some (Res.val (.tup [.bool false]), m)
      | some f => match m.obs.get f with
        | some (.map es clock) =>
          (match es with
          | [] => some (.val (.tup [.bool false]), m)
          | [(k, v, b)] => bif Nat.ble (b + 1) since then
              (match seen with
              | [] => some (.val (.tup [.bool true, k, v]), m.setOb q (.miter (some f) since [b] clock))
              | [b'] => bif Nat.beq b b' && Nat.ble (b + 1) last then some (.val (.tup [.bool false]), m) else none
              | _ => none) else none
          | _ => none)
        | _ => none) = some (res, m')) (ho : m.obs.get q = some (.miter f since seen last)) :
    EffTo w0 base g P (do pure (Next.value (← Instr.next u false ty))) w m' res := by
  obtain ⟨p, hp, hd, f', hf', hh⟩ := R.obj q _ ho
  have hget := run_getObj (P := P) hh (by intro _ _ _ h; cases h)
  cases hx with | ptr _ _ o p' hp' hod =>
  rw [hp] at hp'; cases hp'
  have ho0 : o = 0 := by omega
  subst ho0
  cases f with
  | none =>
    cases hf'
    cases h
    refine EffTo.ofVal (v := .tuple #[.bool false]) ?_ (Map.le_refl g) (.tup _ _ (.cons _ _ _ _ (.bool _) .nil)) R
    simp only [Instr.next, Sem.run_bind, hget, Result.andThen_ok, Sem.run_pure]
  | some f =>
    obtain ⟨pf, hpf, rfl⟩ := hf'
    cases hmo : m.obs.get f with
    | none => simp [hmo] at h
    | some om =>
      cases om <;> simp only [hmo] at h <;> try (cases h; done)
      rename_i es clock
      obtain ⟨pf', hpf', hdf, es', hhf, hrel⟩ := R.obj f _ hmo
      rw [hpf] at hpf'; cases hpf'
      have hgetm := run_getObj (P := P) hhf (by intro _ _ _ h; cases h)
      have hover : VRel w0 base g (.tup [.bool false]) (.tuple #[.bool false]) := .tup _ _ (.cons _ _ _ _ (.bool _) .nil)
      split at h
      · cases h
        have hes : es' = #[] := by
          cases hl : es'.toList with
          | nil => exact Array.toList_eq_nil_iff.1 hl
          | cons _ _ => rw [hl] at hrel; cases hrel
        subst hes
        refine EffTo.ofVal (v := .tuple #[.bool false]) ?_ (Map.le_refl g) hover R
        simp [Instr.next, hget, hgetm, Question.forced]
      · rename_i k v b
        cases hb : Nat.ble (b + 1) since with
        | false => simp [hb] at h
        | true =>
          simp only [hb, cond_true] at h
          have hbs : b < since := Nat.le_of_ble_eq_true hb
          obtain ⟨e, hes, hk, hv, hbn⟩ : ∃ e, es' = #[e] ∧ VRel w0 base g k e.key ∧ VRel w0 base g v e.val ∧ e.born = b := by
            rcases hl : es'.toList with _ | ⟨e, rest⟩
            · rw [hl] at hrel; cases hrel
            · rw [hl] at hrel
              cases hrel with | cons _ _ _ _ _ _ h1 h2 h3 h4 =>
              cases h4
              exact ⟨e, by rw [← Array.toArray_toList (xs := es'), hl], h1, h2, h3⟩
          subst hes; subst hbn
          cases seen with
          | nil =>
            simp only [Option.some.injEq, Prod.mk.injEq] at h
            obtain ⟨rfl, rfl⟩ := h
            have hR := R.setOb (o' := .miter (some f) since [e.born] clock) (obj := .mapIter (some pf.b) since #[e.born] clock) ho trivial hp (fun m' w' h => ⟨hd, some pf.b, ⟨pf, hpf, rfl⟩, h⟩)
            have hset := run_setObj (P := P) (o' := .mapIter (some pf.b) since #[e.born] clock) hh (by intro _ _ _ h; cases h)
            refine EffTo.ofVal (v := .tuple #[.bool true, e.key, e.val]) ?_ (Map.le_refl g) (.tup _ _ (.cons _ _ _ _ (.bool _) (.cons _ _ _ _ hk (.cons _ _ _ _ hv .nil)))) hR
            have hnl : ¬ since ≤ e.born := by omega
            simp [Instr.next, hget, hgetm, Question.forced, hbs, hnl, hset]
          | cons b' tl =>
            cases tl with
            | cons _ _ => cases h
            | nil =>
            cases hbb : Nat.beq e.born b' && Nat.ble (e.born + 1) last with
            | false => simp [hbb] at h
            | true =>
              simp only [hbb, cond_true, Option.some.injEq, Prod.mk.injEq] at h
              obtain ⟨rfl, rfl⟩ := h
              simp only [Bool.and_eq_true] at hbb
              have h1 := Nat.eq_of_beq_eq_true hbb.1
              have h2 : e.born < last := Nat.le_of_ble_eq_true hbb.2
              subst h1
              have hnl : ¬ last ≤ e.born := by omega
              refine EffTo.ofVal (v := .tuple #[.bool false]) ?_ (Map.le_refl g) hover R
              simp [Instr.next, hget, hgetm, Question.forced, hbs, hnl]
      · cases h
theorem eff_call (R : Rel w0 base g m w) {f : AV} {args : List AV} {fv : Value} {vs : Array Value} {res : Res} (hf : VRel w0 base g f fv) (ha : VRels w0 base g args vs.toList) (h : calleeA P f args = some res) :
    EffTo w0 base g P (do let d ← Deferred.ofValue fv vs; invoke d.target d.args) w m res := by
  unfold calleeA at h
  split at h
  · rename_i k first cap
    cases hf with | fn _ _ _ us ws h1 h2 =>
    split at h
    · rename_i fn hfn
      have hargs : VRels w0 base g (first ++ args ++ cap) ((us ++ vs) ++ ws).toList := by
        rw [Array.toList_append, Array.toList_append]
        exact (h1.append ha).append h2
      cases hng : fn.name == "runtime.NumGoroutine" with
      | true => simp [hng] at h
      | false =>
        simp only [hng, cond_false] at h
        cases hbd : fn.body.isSome with
        | true =>
          simp only [hbd, cond_true, Option.some.injEq] at h
          subst h
          have hno : fn.body.isNone = false := by cases hb : fn.body <;> simp_all
          refine ⟨_, ?_, hargs, R⟩
          simp only [Deferred.ofValue, Sem.run_bind, Sem.run_pure, Result.andThen_ok, invoke, callFunc, run_program, hfn, hng, hno, Bool.false_eq_true, if_false]
        | false =>
          simp only [hbd, cond_false, Option.some.injEq] at h
          subst h
          refine ⟨_, ?_, hargs, R⟩
          rfl
    · cases h
  · cases h
/-- a block whose bytes a string shares -/
theorem Rel.froze (R : Rel w0 base g m w) {v : Nat} {W : Win} {c : Cl} {p : Pl} {cells : Array Value} {e : TypeId} {fr fr' : Nat × Nat} (hl : m.live v = some (W, c)) (hp : g v = some p) (hheap : w.heap[p.b]? = some (.cells cells e fr))
    (hbb : ButBlock w w' p.b) (hnew : w'.heap[p.b]? = some (.cells cells e fr')) : Rel w0 base g { m with cls := m.cls.set W.cls { c with fro := true, st := c.st + 1 } } w' := by
  obtain ⟨h1, h2, h3⟩ := Mem.live_spec hl
  have hpl := R.pl v p hp
  refine ⟨R.below.trans (hbb.below hpl.1), R.room, R.fresh, fun u hu => ?_, fun u q hq => ?_, fun u o' hu => ?_, R.sep⟩
  · have := R.clss u hu
    show (m.cls.set W.cls _).get u = none
    rw [Tr.get_set_ne _ _ (fun e => by rw [e, h2] at this; cases this)]
    exact this
  · obtain ⟨a1, a2, a3⟩ := R.pl u q hq
    exact ⟨a1, by rw [hbb.size]; exact a2, a3⟩
  · obtain ⟨q, hq, hrel⟩ := R.obj u o' hu
    refine ⟨q, hq, ?_⟩
    by_cases hcl : ∃ U, o' = .win U ∧ U.cls = W.cls
    · obtain ⟨U, rfl, hUW⟩ := hcl
      obtain ⟨cellsu, eu, fru, cu, r1, r2, r3, r4, r5, r6⟩ := hrel
      rw [hUW, h2] at r3
      cases r3
      by_cases hqb : q.b = p.b
      · rw [hqb, hheap] at r1
        cases r1
        exact ⟨cells, e, fr', { c with fro := true, st := c.st + 1 }, by rw [hqb]; exact hnew, r2, by rw [hUW]; exact Tr.get_set_same _ _ _, (fun hc => by cases hc), r5, r6⟩
      · exact ⟨cellsu, eu, fru, { c with fro := true, st := c.st + 1 }, by rw [hbb.other q.b hqb]; exact r1, r2, by rw [hUW]; exact Tr.get_set_same _ _ _, (fun hc => by cases hc), r5, r6⟩
    · refine hrel.keep (Map.le_refl g) (hbb.other q.b (fun hqb => ?_)) (fun U hU => ?_)
      · rcases R.sep u v q p hq hp hqb with e' | ⟨V1, U1, d1, d2, d3, d4⟩
        · subst e'
          rw [h1] at hu; cases hu
          exact hcl ⟨W, rfl, rfl⟩
        · rw [hu] at d1
          rw [h1] at d2
          cases d1; cases d2
          exact hcl ⟨V1, rfl, d3⟩
      · subst hU
        show (m.cls.set W.cls _).get U.cls = _
        rw [Tr.get_set_ne]
        exact fun e' => hcl ⟨U, rfl, e'⟩
theorem bytesOf_rel : ∀ {xs : List AV} {us : List Value} {l : List Nat}, bytesOf xs = some l → VRels w0 base g xs us → ∃ bs : List UInt8, bs.map (·.toNat) = l ∧ us = bs.map fun b => Value.int .u8 b.toNat
  | [], us, l, h, hr => by simp only [bytesOf, Option.some.injEq] at h; subst h; cases hr; exact ⟨[], rfl, rfl⟩
  | x :: xs, us, l, h, hr => by
    cases hr with | cons _ u _ us h1 h2 =>
    unfold bytesOf at h
    split at h
    · rename_i heq; cases heq
    · rename_i b l' heq
      cases heq
      cases hb : Nat.ble b 255 with
      | false => simp [hb] at h
      | true =>
        simp only [hb, cond_true] at h
        cases hl : bytesOf xs with
        | none => simp [hl] at h
        | some r =>
          simp only [hl, Option.some.injEq] at h
          subst h
          obtain ⟨bs, e1, e2⟩ := bytesOf_rel hl h2
          cases h1
          have hb' : b < 256 := Nat.lt_succ_of_le (Nat.le_of_ble_eq_true hb)
          refine ⟨UInt8.ofNat b :: bs, ?_, ?_⟩
          · simp [e1, Nat.mod_eq_of_lt hb']
          · simp [e2, Nat.mod_eq_of_lt hb']
    · cases h
theorem freeze_heap (w : World) {b n : Nat} {cells : Array Value} {e : TypeId} {fr : Nat × Nat} (h : w.heap[b]? = some (.cells cells e fr)) (hn : n ≠ 0) :
    ButBlock w (w.freeze ⟨b, 0, none⟩ n) b ∧ ∃ fr', (w.freeze ⟨b, 0, none⟩ n).heap[b]? = some (.cells cells e fr') := by
  unfold World.freeze
  rw [if_neg hn]
  refine ⟨⟨rfl, rfl, rfl, by simp, fun k hk => ?_⟩, ?_⟩
  · simp only [Array.getElem?_modify]
    rw [if_neg (fun e => hk e.symm)]
  · obtain ⟨lo, hi⟩ := fr
    simp only [Array.getElem?_modify, h, if_true]
    exact ⟨_, rfl⟩
theorem eff_unsafeString (R : Rel w0 base g m w) {ats : Array TypeId} {pt e ty : TypeId} {v k n : Nat} {pu : Value} {W : Win} {c : Cl} {xs : List AV} {l : List Nat} (hat : ats[0]? = some pt) (hpt : P.underlying pt = some (.pointer e)) (hp : VRel w0 base g (.ptr v k) pu)
    (hl : m.live v = some (W, c)) (hty : tyIs W.ty e = true) (hk : k = W.lo) (hhi : k + (n + 1) ≤ W.hi) (hc1 : P.cellsOf e = 1) (h63 : n + 1 ≤ 9223372036854775807) (hx : W.read k (n + 1) = some xs) (hb : bytesOf xs = some l) (hlen : ats.size = 2) :
    EffTo w0 base g P (do pure (Next.value (← Builtin.unsafeString_ ats ty #[pu, .int .i64 ((n + 1 : Nat) : Int)]))) w { m with cls := m.cls.set W.cls { c with fro := true, st := c.st + 1 } } (.val (.str l)) := by
  obtain ⟨h1, h2, h3⟩ := Mem.live_spec hl
  cases hp with | ptr _ _ o p hgp ho =>
  obtain ⟨p', hp', cells, e', fr, c', hheap, hcs, hc', _, hhb, hown⟩ := R.obj _ _ h1
  rw [hgp] at hp'; cases hp'
  obtain ⟨he, hlo⟩ := hhb.2 e (tyIs_spec hty)
  subst he
  have hhb1 := hhb.1
  have ho0 : o = 0 := by omega
  subst ho0
  have hload : m.load (.ptr v k) (n + 1) = some xs := by simp only [Mem.load, hl]; exact hx
  obtain ⟨hxl, us, hu1, hu2⟩ := R.load hload (.ptr v k 0 p hgp (by omega))
  obtain ⟨bs, e1, e2⟩ := bytesOf_rel hb hu1
  subst e2
  have hbl : bs.length = n + 1 := by have := hu1.length; simp at this; omega
  obtain ⟨t, ts, hats⟩ : ∃ t ts, ats = #[t, ts] := by
    rcases ats with ⟨_ | ⟨a, _ | ⟨b, _ | ⟨c, r⟩⟩⟩⟩ <;> simp at hlen
    exact ⟨a, b, rfl⟩
  subst hats
  simp at hat
  subst hat
  have hrun := Lib.run_unsafeString_row (P := P) w t ts ty e' hpt hc1 p.b cells.size (by simp [World.shape?, hheap]) bs (fun h => by rw [h] at hbl; cases hbl) (by omega) (by omega) (fun j x hj => hu2 j _ (by simp [hj]))
  rw [hbl] at hrun
  obtain ⟨hbb, fr', hnew⟩ := freeze_heap w hheap (n := n + 1) (by omega)
  refine EffTo.ofVal hrun (Map.le_refl g) (.str _ _ ?_) (R.froze hl hgp hheap hbb hnew)
  rw [← e1]
  simp [natOf]
end
end Go.Vz

/-
  V's WRITING OPERATIONS: the theorem.
-/
set_option linter.unusedVariables false
set_option linter.unusedSimpArgs false
namespace Go.Vz
open Go Go.RowKit
section
variable {w0 : World} {base : Nat} {g g' : Map} {P : Program} {m m' : Mem} {w w' : World} {r : Operand → Option AV} {ρ : Operand → Value}

theorem args_of {args : Array Operand} {xs : List AV} (hr : ∀ y a, r y = some a → VRel w0 base g a (ρ y)) (h : operands r args.toList = some xs) : VRels w0 base g xs (args.map ρ).toList := by
  rw [Array.toList_map]; exact operands_rel hr h
theorem args_two {args : Array Value} {x y : AV} (h : VRels w0 base g [x, y] args.toList) : ∃ u v, args = #[u, v] ∧ VRel w0 base g x u ∧ VRel w0 base g y v := by
  rcases hl : args.toList with _ | ⟨u, _ | ⟨v, rest⟩⟩ <;> rw [hl] at h
  · cases h
  · cases h with | cons _ _ _ _ _ h2 => cases h2
  · cases h with | cons _ _ _ _ h1 h2 => cases h2 with | cons _ _ _ _ h3 h4 =>
    cases h4
    exact ⟨u, v, by rw [← Array.toArray_toList (xs := args), hl], h1, h3⟩
theorem args_one {args : Array Value} {x : AV} (h : VRels w0 base g [x] args.toList) : ∃ u, args = #[u] ∧ VRel w0 base g x u := by
  rcases hl : args.toList with _ | ⟨u, rest⟩ <;> rw [hl] at h
  · cases h
  · cases h with | cons _ _ _ _ h1 h2 =>
    cases h2
    exact ⟨u, by rw [← Array.toArray_toList (xs := args), hl], h1⟩
theorem ats_two {ats : Array TypeId} {t u : TypeId} (h0 : ats[0]? = some t) (h1 : ats[1]? = some u) : ∃ rest, ats.toList = t :: u :: rest := by
  rcases hl : ats.toList with _ | ⟨a, _ | ⟨b, rest⟩⟩
  · rw [← Array.getElem?_toList, hl] at h0; cases h0
  · rw [← Array.getElem?_toList, hl] at h1; cases h1
  · rw [← Array.getElem?_toList, hl] at h0 h1; cases h0; cases h1; exact ⟨rest, rfl⟩
/-- append looks at its first two types alone -/
theorem append_ats {ats : Array TypeId} {t u ty : TypeId} {x y : Value} (h0 : ats[0]? = some t) (h1 : ats[1]? = some u) : Builtin.append_ ats ty #[x, y] = Builtin.append_ #[t, u] ty #[x, y] := by
  unfold Builtin.append_
  rw [h0, h1]
  rfl
theorem two_ats {ats : Array TypeId} (h : ats.size = 2) : ∃ t ts, ats = #[t, ts] := by
  rcases ats with ⟨_ | ⟨a, _ | ⟨b, _ | ⟨c, r⟩⟩⟩⟩ <;> simp at h
  exact ⟨a, b, rfl⟩
theorem storeSlice (R : Rel w0 base g m w) {v k n sz : Nat} {xs : List AV} {us : List Value} {sv : Value} (h : m.store (.ptr v k) xs = some m') (hs : VRel w0 base g (.sl v k n sz) sv) (hn : 0 < n) (hr : VRels w0 base g xs us) :
    ∃ a cap w', sv = .slice (some a) n cap ∧ (storeCells a us).run P w = .ok () w' ∧ Rel w0 base g m' w' := by
  cases hs with | sl _ _ _ _ a cap p hp h1 h2 h3 =>
  obtain ⟨o, rfl, ho, hb⟩ := h3 (by omega)
  obtain ⟨w', q1, q2⟩ := R.store h (.ptr v k o p hp ho) hr
  exact ⟨_, cap, w', rfl, q1 P, q2⟩

theorem effA_sound (R : Rel w0 base g m w) {o : Oper} {res : Res} (hr : ∀ y a, r y = some a → VRel w0 base g a (ρ y)) (h : effA P r m o.op = some (res, m')) :
    EffTo w0 base g P (execOp ρ o) w m' res := by
  obtain ⟨dst, op, ty, pos, after, guard⟩ := o
  simp only at h
  cases op <;> simp only [effA] at h <;> try (cases h; done)
  case alloc t =>
    split at h
    · rename_i z hz; cases h; exact eff_alloc R hz
    · cases h
  case box t x =>
    split at h
    · rename_i a ha
      cases hc : allCells a.cells with
      | false => simp [hc] at h
      | true => simp only [hc, cond_true] at h; cases h; exact eff_box R (hr _ _ ha) hc
    · cases h
  case store t x y =>
    split at h
    · rename_i a v n ha hv hn
      cases hb : Nat.beq n v.cells.length with
      | false => simp [hb] at h
      | true =>
        simp only [hb, cond_true] at h
        cases hst : m.store a v.cells with
        | none => simp [hst] at h
        | some m1 =>
          simp only [hst, Option.map_some, Option.some.injEq, Prod.mk.injEq] at h
          obtain ⟨rfl, rfl⟩ := h
          exact eff_store R (hr _ _ ha) (hr _ _ hv) hn (Nat.eq_of_beq_eq_true hb).symm hst
    · cases h
  case buildSlice t len parts =>
    split at h
    · rename_i e hu
      split at h
      · rename_i n z ps hs hz hp
        cases hb : Nat.ble (len * (n + 1)) 16777216 && Nat.beq z.cells.length (n + 1) with
        | false => simp [hb] at h
        | true =>
          simp only [hb, cond_true] at h
          rw [Bool.and_eq_true_iff] at hb
          split at h
          · rename_i cs hf
            cases hc : allCells cs with
            | false => simp [hc] at h
            | true =>
              simp only [hc, cond_true] at h
              cases h
              exact eff_buildSlice R hr hu hs hz hp (Nat.le_of_ble_eq_true hb.1) (Nat.eq_of_beq_eq_true hb.2) hf hc
          · cases h
      · cases h
    · cases h
  case convert s d x =>
    split at h
    · rename_i e l hs hd hx
      split at h
      · rename_i he
        cases hb : Nat.ble l.length 9223372036854775807 with
        | false => simp [hb] at h
        | true => simp only [hb, cond_true] at h; cases h; exact eff_bytes R hs hd he (Nat.le_of_ble_eq_true hb) (hr _ _ hx)
      · cases h
    · cases h
  case makeMap t rs =>
    split at h
    · cases h; exact eff_makeMap R (.inl rfl)
    · rename_i hh
      split at h
      · rename_i kt et k n hu hn
        cases h
        have h1 := hr _ _ hn
        generalize hv : ρ hh = u at h1
        cases h1
        exact eff_makeMap R (.inr ⟨kt, et, k, n, hu, by simp [hv]⟩)
      · cases h
  case makeSlice t l c =>
    split at h
    · rename_i e hu
      split at h
      · rename_i n bytes z lv cv hs hb hz hl hc
        cases hk : Nat.ble lv cv && Nat.ble cv 9223372036854775807 && Nat.ble (cv * bytes) 281474976710656 && Nat.beq z.cells.length (n + 1) && Nat.beq lv cv with
        | false => simp [hk] at h
        | true =>
          simp only [hk, cond_true] at h
          cases h
          simp only [Bool.and_eq_true] at hk
          obtain ⟨⟨⟨⟨_, k2⟩, k3⟩, k4⟩, k5⟩ := hk
          have := Nat.eq_of_beq_eq_true k5
          subst this
          obtain ⟨k1, e1⟩ := natOf?_rel hr hl
          obtain ⟨k1', e2⟩ := natOf?_rel hr hc
          have := eff_makeSlice (P := P) (k := k1) (k' := k1') R hu hs hb hz (Nat.le_of_ble_eq_true k2) (Nat.le_of_ble_eq_true k3) (Nat.eq_of_beq_eq_true k4)
          rw [← e1, ← e2] at this
          exact this
      · cases h
    · cases h
  case mapUpdate t x k y =>
    split at h
    · rename_i kt et q key v hu hx hk hv
      split at h
      · rename_i es clock ho
        cases hkt : keyT P kt key with
        | false => simp [hkt] at h
        | true =>
          simp only [hkt, cond_true] at h
          unfold keyT at hkt
          obtain ⟨b, hkb⟩ := Option.isSome_iff_exists.1 hkt
          exact eff_update R hu hkb (hr _ _ hk) (hr _ _ hv) ho (hr _ _ hx) h
      · cases h
    · cases h
  case insert t x k y =>
    split at h
    · rename_i kt et q key v hu hx hk hv
      split at h
      · rename_i es clock ho
        cases hkt : keyT P kt key with
        | false => simp [hkt] at h
        | true =>
          simp only [hkt, cond_true] at h
          unfold keyT at hkt
          obtain ⟨b, hkb⟩ := Option.isSome_iff_exists.1 hkt
          exact eff_update R hu hkb (hr _ _ hk) (hr _ _ hv) ho (hr _ _ hx) h
      · cases h
    · cases h
  case mapEntry t x k =>
    split at h
    · rename_i kt et q key hu hx hk
      split at h
      · rename_i es clock ho
        cases hkt : keyT P kt key with
        | false => simp [hkt] at h
        | true =>
          simp only [hkt, cond_true] at h
          unfold keyT at hkt
          obtain ⟨b, hkb⟩ := Option.isSome_iff_exists.1 hkt
          exact eff_mapEntry R hu hkb (hr _ _ hk) ho (hr _ _ hx) h
      · cases h
    · cases h
  case entryStore t x s y =>
    split at h
    · rename_i q b v hx hs hv
      split at h
      · rename_i es clock ho
        split at h
        · rename_i i hf
          cases h
          obtain ⟨k, e⟩ := natOf?_rel hr hs
          have := eff_entryStore (P := P) (t := t) (k := k) R (hr _ _ hv) ho (hr _ _ hx) hf
          rw [← e] at this
          exact this
        · cases h
      · cases h
    · cases h
  case range t x =>
    split at h
    · rename_i s hu hx; cases h; exact eff_rangeS R hu (hr _ _ hx)
    · rename_i kt et hu hx; cases h; exact eff_rangeN R hu (hr _ _ hx)
    · rename_i kt et q hu hx
      split at h
      · rename_i es clock ho; cases h; exact eff_rangeM R hu ho (hr _ _ hx)
      · cases h
    · cases h
  case next x isS =>
    split at h
    · rename_i q hx
      split at h
      · rename_i s pos ho; exact eff_nextS R (hr _ _ hx) ho h
      · cases h
    · rename_i q hx
      split at h
      · rename_i a b c ho; exact eff_nextM (f := none) (since := a) (seen := b) (last := c) R (hr _ _ hx) h ho
      · rename_i f since seen last ho; exact eff_nextM (f := some f) (since := since) (seen := seen) (last := last) R (hr _ _ hx) h ho
      · cases h
    · cases h
  case call c =>
    obtain ⟨callee, args, ats⟩ := c
    cases callee with
    | value f =>
      simp only at h
      split at h
      · rename_i gv xs hg hxs
        cases hc : calleeA P gv xs with
        | none => simp [hc] at h
        | some rs =>
          simp only [hc, Option.map_some, Option.some.injEq, Prod.mk.injEq] at h
          obtain ⟨rfl, rfl⟩ := h
          exact eff_call R (hr _ _ hg) (args_of hr hxs) hc
      · cases h
    | invoke _ _ => cases h
    | builtin b =>
      cases b <;> simp only at h <;> try (cases h; done)
      case append =>
        split at h
        · rename_i t u s x ht hut hxs
          split at h
          · rename_i e ud hu hud
            split at h
            · cases h
            · rename_i hni
              split at h
              · rename_i n bytes z hs hb hz
                cases hk : Nat.beq z.cells.length (n + 1) with
                | false => simp [hk] at h
                | true =>
                  simp only [hk, cond_true] at h
                  split at h
                  · rename_i cnt cs hsrc
                    cases ha : appendA e (n + 1) bytes m s cnt cs with
                    | none => simp [ha] at h
                    | some q =>
                      obtain ⟨s', m1⟩ := q
                      simp only [ha, Option.map_some, Option.some.injEq, Prod.mk.injEq] at h
                      obtain ⟨rfl, rfl⟩ := h
                      obtain ⟨u1, u2, hargs, r1, r2⟩ := args_two (args_of hr hxs)
                      obtain ⟨zv, h1, ⟨i, hi, hiz⟩, h2⟩ := zeroT_run (w0 := w0) (base := base) (g := g) hz
                      have hzs : zv.cells.size = n + 1 := by
                        have := (VRels.cells h1).length
                        rw [Array.length_toList (xs := zv.cells), Nat.eq_of_beq_eq_true hk] at this
                        omega
                      have his : i.size = n + 1 := by unfold sizeT at hs; rw [hi] at hs; exact Option.some.inj hs
                      have hib : i.bytes = bytes := by unfold bytesT at hb; rw [hi] at hb; exact Option.some.inj hb
                      obtain ⟨v, w', g', q1, q2, q3, q4⟩ := appendA_run (P := P) (ty := ty) R hu hud (fun k e => hni k (by rw [e])) hi hiz his hib hzs r1 r2 hsrc ha
                      refine ⟨v, w', g', ?_, q2, q3, q4⟩
                      simp only [execOp, resolve, Sem.run_bind, Sem.run_pure, Result.andThen_ok, invoke, builtin, hargs, append_ats ht hut, q1]
                  · cases h
              · cases h
          · cases h
        · cases h
      case unsafeString =>
        split at h
        · rename_i pt p n ht hxs
          obtain ⟨u1, u2, hargs, r1, r2⟩ := args_two (args_of hr hxs)
          cases r2
          split at h
          · cases hs2 : Nat.beq ats.size 2 with
            | false => simp [hs2] at h
            | true =>
              simp only [hs2, cond_true] at h
              cases h
              cases r1
              obtain ⟨t, ts, rfl⟩ := two_ats (Nat.eq_of_beq_eq_true hs2)
              have hrun := Lib.run_unsafeString_none (P := P) w t ts ty none
              refine EffTo.ofVal (v := .string .empty) (w' := w) ?_ (Map.le_refl g) (.str _ _ rfl) R
              simp only [hargs]
              exact hrun
          · rename_i v k n
            split at h
            · rename_i e W c hpt hl
              cases hb : tyIs W.ty e && Nat.beq k W.lo && Nat.ble (k + (n + 1)) W.hi && Nat.beq (P.cellsOf e) 1 && Nat.ble (n + 1) 9223372036854775807 && Nat.beq ats.size 2 with
              | false => simp [hb] at h
              | true =>
                simp only [hb, cond_true] at h
                simp only [Bool.and_eq_true] at hb
                split at h
                · rename_i xs hx
                  split at h
                  · rename_i l hbl
                    cases h
                    have := eff_unsafeString (P := P) (ty := ty) R ht hpt r1 hl hb.1.1.1.1.1 (Nat.eq_of_beq_eq_true hb.1.1.1.1.2) (Nat.le_of_ble_eq_true hb.1.1.1.2) (Nat.eq_of_beq_eq_true hb.1.1.2) (Nat.le_of_ble_eq_true hb.1.2) hx hbl (Nat.eq_of_beq_eq_true hb.2)
                    simp only [execOp, resolve]
                    rw [hargs]
                    exact this
                  · cases h
                · cases h
            · cases h
          · cases h
        · cases h
      case copy =>
        split at h
        · rename_i t d x ht hxs
          split at h
          · rename_i e hu
            split at h
            · rename_i sz hs
              split at h
              · rename_i cnt cs hsrc
                obtain ⟨u1, u2, hargs, r1, r2⟩ := args_two (args_of hr hxs)
                obtain ⟨hcl, hlen, news, hnr, hnrun⟩ := source_run (P := P) R hsrc r2
                have a0 : (#[u1, u2] : Array Value)[0]? = some u1 := rfl
                have a1 : (#[u1, u2] : Array Value)[1]? = some u2 := rfl
                split at h
                · rename_i v k len z
                  cases hb : Nat.beq z (sz + 1) && Nat.ble cnt len with
                  | false => simp [hb] at h
                  | true =>
                    simp only [hb, cond_true] at h
                    rw [Bool.and_eq_true_iff] at hb
                    have hle := Nat.le_of_ble_eq_true hb.2
                    have hmin : Nat.min cnt len = cnt := Nat.min_eq_left hle
                    cases cnt with
                    | zero =>
                      cases h
                      have hn0 : news = #[] := Array.eq_empty_of_size_eq_zero (by
                        have := hnr.length
                        rw [Array.length_toList (xs := news), hcl] at this
                        omega)
                      subst hn0
                      cases r1 with | sl _ _ _ _ a cap p hp h1 h2 h3 =>
                      refine EffTo.ofVal (v := goInt 0) (w' := w) ?_ (Map.le_refl g) (.int _ _) R
                      simp only [hargs, Builtin.copy_, ht, a0, a1, Sem.run_bind, run_underlying hu, Result.andThen_ok, hlen, hmin, sizeT_run hs, hnrun, Sem.run_pure, storeCells, Array.toList_empty, List.size_toArray, List.length_nil]
                      rfl
                    | succ cnt =>
                      cases hst : m.store (.ptr v k) cs with
                      | none => simp [hst] at h
                      | some m1 =>
                        simp only [hst, Option.map_some, Option.some.injEq, Prod.mk.injEq] at h
                        obtain ⟨rfl, rfl⟩ := h
                        obtain ⟨a, cap, w', rfl, q1, q2⟩ := storeSlice (P := P) R hst r1 (by omega) hnr
                        refine EffTo.ofVal (v := goInt (cnt + 1 : Nat)) (w' := w') ?_ (Map.le_refl g) (.int _ _) q2
                        simp only [hargs, Builtin.copy_, ht, a0, a1, Sem.run_bind, run_underlying hu, Result.andThen_ok, hlen, hmin, sizeT_run hs, hnrun, Sem.run_pure, q1]
                · cases h
              · cases h
            · cases h
          · cases h
        · cases h
      case delete =>
        split at h
        · rename_i t q key ht hxs
          split at h
          · rename_i kt et es clock hu ho
            cases hkt : keyT P kt key with
            | false => simp [hkt] at h
            | true =>
              simp only [hkt, cond_true] at h
              unfold keyT at hkt
              obtain ⟨b, hkb⟩ := Option.isSome_iff_exists.1 hkt
              obtain ⟨u1, u2, hargs, r1, r2⟩ := args_two (args_of hr hxs)
              have := eff_delete (P := P) (ty := ty) R hu hkb r2 ho r1 ht h
              simp only [execOp, resolve]
              rw [hargs]
              exact this
          · cases h
        · cases h
      case clear =>
        split at h
        · rename_i t x ht hxs
          obtain ⟨u1, hargs, r1⟩ := args_one (args_of hr hxs)
          have a0 : (#[u1] : Array Value)[0]? = some u1 := rfl
          split at h
          · rename_i e hu
            cases h
            cases r1
            refine EffTo.ofVal (v := .tuple #[]) (w' := w) ?_ (Map.le_refl g) (.tup _ _ .nil) R
            simp only [hargs, Builtin.clear_, ht, a0, Sem.run_bind, run_underlying hu, Result.andThen_ok, Sem.run_pure]
          · rename_i e v k n sz hu
            split at h
            · cases h
              cases r1
              refine EffTo.ofVal (v := .tuple #[]) (w' := w) ?_ (Map.le_refl g) (.tup _ _ .nil) R
              simp only [hargs, Builtin.clear_, ht, a0, Sem.run_bind, run_underlying hu, Result.andThen_ok, Sem.run_pure]
            · rename_i n z zc hs hz
              cases hb : Nat.beq z sz && Nat.beq zc.cells.length sz with
              | false => simp [hb] at h
              | true =>
                simp only [hb, cond_true] at h
                cases hst : m.store (.ptr v k) (replicateA (n + 1) zc.cells) with
                | none => simp [hst] at h
                | some m1 =>
                  simp only [hst, Option.map_some, Option.some.injEq, Prod.mk.injEq] at h
                  obtain ⟨rfl, rfl⟩ := h
                  obtain ⟨zv, h1, _, h2⟩ := zeroT_run (w0 := w0) (base := base) (g := g) hz
                  obtain ⟨a, cap, w', rfl, q1, q2⟩ := storeSlice (P := P) R hst r1 (by omega) (replicateA_rel (VRels.cells h1) (n + 1))
                  refine EffTo.ofVal (v := .tuple #[]) (w' := w') ?_ (Map.le_refl g) (.tup _ _ .nil) q2
                  have hzc : (Builtin.zeroCells zv.cells (n + 1)).toList = (List.replicate (n + 1) zv.cells.toList).flatten := by
                    rcases Nat.eq_zero_or_pos zv.cells.size with h0 | h0
                    · have : zv.cells = #[] := Array.eq_empty_of_size_eq_zero h0
                      rw [this]
                      simp [Builtin.zeroCells]
                    · exact zero_cells zv.cells (n + 1) h0
                  simp only [hargs, Builtin.clear_, ht, a0, Sem.run_bind, run_underlying hu, Result.andThen_ok, Sem.run_pure, h2, hzc, q1]
            · cases h
          · cases h
        · cases h
end
end Go.Vz

/-
  V's RUN: what it comes to, the machine comes to.
-/
set_option linter.unusedVariables false
set_option linter.unusedSimpArgs false
namespace Go.Vz
open Go Go.RowKit

/-- how a call ends -/
def CallPost (w0 : World) (base : Nat) (g : Map) (m' : Mem) (x : AV) : Ending → World → Prop := fun e w' => ∃ g' v, e = .returned v ∧ g.le g' ∧ VRel w0 base g' x v ∧ Rel w0 base g' m' w'
def HCall (P : Program) (w0 : World) (base : Nat) (call : CallF) : Prop := ∀ f args m x m', call f args m = some (x, m') → ∀ g w (vs : Array Value), VRels w0 base g args vs.toList → Rel w0 base g m w →
  Calls P f vs w (CallPost w0 base g m' x)
/-- what a machine's settings must keep -/
structure Cfg.Ok (C : Cfg) (w0 : World) (base : Nat) : Prop where
  mixed : C.P.follows .mixedOrders = true
  glob : ∀ g cs, C.glob g = some cs → ∀ μ, VRel w0 base μ (.rp cs) (.pointer (some ⟨g, 0, none⟩))
  prim : ∀ f args m x m', C.isPrim f = true → C.prim f args m = some (x, m') → ∀ g w (vs : Array Value), VRels w0 base g args vs.toList → Rel w0 base g m w → Calls C.P f vs w (CallPost w0 base g m' x)
  ext : ∀ f args m x m', C.ext f args m = some (x, m') → ∀ g w (vs : Array Value), VRels w0 base g args vs.toList → Rel w0 base g m w →
    ∃ v w' g', (callFunc f vs).run C.P w = .ok (.value v) w' ∧ g.le g' ∧ VRel w0 base g' x v ∧ Rel w0 base g' m' w'
/-- behind a piece of code -/
structure After (w0 : World) (base : Nat) (g : Map) (fr : Fr) (m : Mem) (g' : Map) (a : Act) (w : World) : Prop where
  le : g.le g'
  fr : FrRel w0 base g' fr a
  rel : Rel w0 base g' m w
  none : a.defers = []
def exOf : Ex → Exit
  | .normal => .normal
  | .exit i => .exit i
  | .ret => .ret
section
variable {w0 : World} {base : Nat} {C : Cfg}

theorem evalA_rel (H : C.Ok w0 base) {g : Map} {fr : Fr} {a : Act} (hf : FrRel w0 base g fr a) : ∀ y x, evalA C fr y = some x → VRel w0 base g x (a.eval y) := by
  intro y x h
  cases y with
  | tmp t =>
    obtain ⟨v, h1, h2⟩ := hf.slot t x h
    show VRel w0 base g x (a.tmps.getD t undef)
    rw [Array.getD_eq_getD_getElem?, h1]
    exact h2
  | const v => exact ofV_rel h
  | global k =>
    simp only [evalA] at h
    cases hk : C.glob k with
    | none => simp [hk] at h
    | some cs => simp only [hk, Option.map_some, Option.some.injEq] at h; subst h; exact H.glob k cs hk g
  | func f => simp only [evalA, Option.some.injEq] at h; subst h; exact .fn _ _ _ _ _ .nil .nil
theorem wanted_run {g : Map} {fr : Fr} {a : Act} (hf : FrRel w0 base g fr a) {ops : Array Oper} {o : Oper} {b : Bool} (h : wantedA ops.toList fr o = some b) : Region.wanted o (yielded ops a.tmps) = b := by
  unfold wantedA at h
  unfold Region.wanted
  cases hg : o.guard with
  | none => simp only [hg, Option.some.injEq] at h ⊢; exact h
  | some q =>
    obtain ⟨j, want⟩ := q
    simp only [hg, Array.getElem?_toList] at h ⊢
    cases hj : ops[j]? with
    | none => simp [hj] at h
    | some og =>
      simp only [hj] at h
      cases hd : og.dst with
      | none => simp [hd] at h
      | some t =>
        simp only [hd] at h
        unfold yielded
        simp only [hj, Option.bind_some, hd]
        cases hx : fr.t.get t with
        | none => simp [hx] at h
        | some x =>
          obtain ⟨v, h1, h2⟩ := hf.slot t x hx
          rw [h1]
          simp only [hx] at h
          split at h
          · rename_i b' heq
            cases heq
            cases h2
            cases h
            cases b' <;> cases want <;> rfl
          · rename_i heq
            cases heq
            cases h2
            cases h
            rfl
          · cases h
theorem FrRel.putAct {g : Map} {fr fr' : Fr} {a : Act} (r : FrRel w0 base g fr a) {d : Option Tmp} {x : AV} {v : Value} (h : fr.put d x = some fr') (hv : VRel w0 base g x v) : FrRel w0 base g fr' (a.put d v) := r.put h hv
theorem put_defers' (a : Act) (d : Option Tmp) (v : Value) : (a.put d v).defers = a.defers := by cases d <;> rfl

/-- one operation, its operands as they are given -/
def opR (C : Cfg) (call : CallF) (r : Operand → Option AV) (m : Mem) (o : Oper) : Option (AV × Mem) :=
  match pureA C.P r o.op with
  | some x => some (x, m)
  | none => match loadA C.P r m o.op with
    | some x => some (x, m)
    | none => match effA C.P r m o.op with
      | some (.val x, m) => some (x, m)
      | some (.skip, m) => some (.tup [], m)
      | some (.enter f args, m) => call f args m
      | some (.ext f args, m) => C.ext f args m
      | none => none
theorem opR_wp (H : C.Ok w0 base) {call : CallF} (hc : HCall C.P w0 base call) {g : Map} {r : Operand → Option AV} {m m' : Mem} {w : World} {a : Act} (hr : ∀ y x, r y = some x → VRel w0 base g x (a.eval y)) (R : Rel w0 base g m w) {o : Oper} {x : AV}
    (h : opR C call r m o = some (x, m')) {K : Act → World → Prop} {Q : Exit → Act → World → Prop} (hK : ∀ g' v w', g.le g' → VRel w0 base g' x v → Rel w0 base g' m' w' → K (a.put o.dst v) w') : o.wp C.P a w K Q := by
  unfold opR at h
  unfold Oper.wp
  split at h
  · rename_i x' hp
    simp only [Option.some.injEq, Prod.mk.injEq] at h
    obtain ⟨rfl, rfl⟩ := h
    obtain ⟨v, h1, h2⟩ := pureA_sound hr hp
    rw [h2 w]
    exact hK g v w (Map.le_refl g) h1 R
  · split at h
    · rename_i x' hp
      simp only [Option.some.injEq, Prod.mk.injEq] at h
      obtain ⟨rfl, rfl⟩ := h
      obtain ⟨v, h1, h2⟩ := loadA_sound R hr hp
      rw [h2]
      exact hK g v w (Map.le_refl g) h1 R
    · split at h
      · rename_i x' m1 he
        simp only [Option.some.injEq, Prod.mk.injEq] at h
        obtain ⟨rfl, rfl⟩ := h
        obtain ⟨v, w', g', h1, h2, h3, h4⟩ := effA_sound R hr he
        rw [h1]
        exact hK g' v w' h2 h3 h4
      · rename_i m1 he
        simp only [Option.some.injEq, Prod.mk.injEq] at h
        obtain ⟨rfl, rfl⟩ := h
        obtain ⟨w', g', h1, h2, h3⟩ := effA_sound R hr he
        rw [h1]
        exact hK g' undef w' h2 (.tup _ _ .nil) h3
      · rename_i f args m1 he
        obtain ⟨vs, h1, h2, h3⟩ := effA_sound R hr he
        rw [h1]
        refine Calls.mono (hc _ _ _ _ _ h g w vs h2 h3) (fun e w'' he => ?_)
        obtain ⟨g', v, rfl, q1, q2, q3⟩ := he
        exact hK g' v w'' q1 q2 q3
      · rename_i f args m1 he
        obtain ⟨vs, h1, h2, h3⟩ := effA_sound R hr he
        obtain ⟨v, w', g', q1, q2, q3, q4⟩ := H.ext _ _ _ _ _ h g w vs h2 h3
        rw [h1, q1]
        exact hK g' v w' q2 q3 q4
      · cases h
theorem opA_wp (H : C.Ok w0 base) {call : CallF} (hc : HCall C.P w0 base call) {g : Map} {fr : Fr} {m m' : Mem} {w : World} {a : Act} (hf : FrRel w0 base g fr a) (R : Rel w0 base g m w) {o : Oper} {x : AV}
    (h : opA C call fr m o = some (x, m')) {K : Act → World → Prop} {Q : Exit → Act → World → Prop} (hK : ∀ g' v w', g.le g' → VRel w0 base g' x v → Rel w0 base g' m' w' → K (a.put o.dst v) w') : o.wp C.P a w K Q :=
  opR_wp H hc (evalA_rel H hf) R h hK
theorem runOps_wp (H : C.Ok w0 base) {call : CallF} (hc : HCall C.P w0 base call) {ops : Array Oper} {Q : Exit → Act → World → Prop} : ∀ {rest : List Oper} {g : Map} {fr fr' : Fr} {m m' : Mem} {w : World} {a : Act}, FrRel w0 base g fr a → Rel w0 base g m w → a.defers = [] →
    runOps C call ops.toList rest fr m = some (fr', m') → (∀ g' a' w', After w0 base g fr' m' g' a' w' → Q .normal a' w') → wpList C.P ops Q rest a w
  | [], g, fr, fr', m, m', w, a, hf, R, hd, h, hQ => by
    simp only [runOps, Option.some.injEq, Prod.mk.injEq] at h
    obtain ⟨rfl, rfl⟩ := h
    exact hQ g a w ⟨Map.le_refl g, hf, R, hd⟩
  | o :: rest, g, fr, fr', m, m', w, a, hf, R, hd, h, hQ => by
    simp only [runOps] at h
    unfold wpList
    split at h
    · rename_i hw
      rw [if_pos (wanted_run hf hw)]
      split at h
      · rename_i x m1 ho
        split at h
        · rename_i fr1 hp
          refine .inl (opA_wp H hc hf R ho (fun g' v w' q1 q2 q3 => ?_))
          exact runOps_wp H hc ((hf.mono q1).put hp q2) q3 (by rw [put_defers']; exact hd) h (fun g2 a2 w2 q => hQ g2 a2 w2 ⟨Map.le_trans q1 q.le, q.fr, q.rel, q.none⟩)
        · cases h
      · cases h
    · rename_i hw
      rw [if_neg (by rw [wanted_run hf hw]; decide)]
      split at h
      · rename_i fr1 hp
        exact runOps_wp H hc (hf.put hp (.tup _ _ .nil)) R (by rw [put_defers']; exact hd) h hQ
      · cases h
    · cases h

/-! ### Frames -/
theorem setArgs_get : ∀ (xs : List AV) (t : Tr AV) (k j : Nat), (setArgs t k xs).get j = if k ≤ j ∧ j < k + xs.length then xs[j - k]? else t.get j
  | [], t, k, j => by simp only [setArgs, List.length_nil]; rw [if_neg (by omega)]
  | x :: xs, t, k, j => by
    simp only [setArgs, setArgs_get xs, List.length_cons, Tr.get_set]
    by_cases h1 : k + 1 ≤ j ∧ j < k + 1 + xs.length
    · rw [if_pos h1, if_pos (by omega), show j - k = (j - (k + 1)) + 1 by omega, List.getElem?_cons_succ]
    · rw [if_neg h1]
      by_cases h2 : j = k
      · subst h2
        rw [if_pos rfl, if_pos (by omega), Nat.sub_self]; rfl
      · rw [if_neg h2, if_neg (by omega)]
theorem enterA_rel {g : Map} {args : List AV} {vs : Array Value} (h : VRels w0 base g args vs.toList) (n : Nat) : FrRel w0 base g (enterA n args) { tmps := vs ++ Array.replicate (n - vs.size) undef, defers := [] } := by
  have hl : args.length = vs.size := by have := h.length; rw [Array.length_toList (xs := vs)] at this; exact this
  refine ⟨?_, fun t x hx => ?_⟩
  · show (vs ++ Array.replicate (n - vs.size) undef).size = args.length + (n - args.length)
    rw [Array.size_append, Array.size_replicate, hl]
  · simp only [enterA, setArgs_get, Tr.get_nil, Nat.zero_le, true_and, Nat.zero_add, Nat.sub_zero] at hx
    by_cases ht : t < args.length
    · rw [if_pos ht] at hx
      obtain ⟨v, h1, h2⟩ := h.get hx
      refine ⟨v, ?_, h2⟩
      show (vs ++ Array.replicate (n - vs.size) undef)[t]? = some v
      rw [Array.getElem?_append_left (by omega)]
      simpa using h1
    · rw [if_neg ht] at hx; cases hx
/-- one result -/
def resOf (tmps : Array Value) : ResultVar → Sem Value
  | .tmp t => pure (tmps.getD t undef)
  | .cell c t => do loadVar t (← asAddr (tmps.getD c undef))
theorem results_eq (fn : Func) (tmps : Array Value) : Go.results fn tmps = (do
    let vs ← fn.results.mapM (resOf tmps)
    pure (if h : vs.size = 1 then vs[0] else .tuple vs)) := by
  unfold Go.results
  congr 1
theorem results_list {g : Map} {fr : Fr} {m : Mem} {w : World} {a : Act} (hf : FrRel w0 base g fr a) (R : Rel w0 base g m w) : ∀ {l : List ResultVar} {xs : List AV}, Vz.results C.P m fr l = some xs →
    ∃ vs : List Value, VRels w0 base g xs vs ∧ (l.mapM (resOf a.tmps)).run C.P w = .ok vs w
  | [], xs, h => by
    simp only [Vz.results, Option.some.injEq] at h
    subst h
    exact ⟨[], .nil, by simp⟩
  | r :: rs, xs, h => by
    simp only [Vz.results] at h
    split at h
    · rename_i x ys hx hys
      cases h
      obtain ⟨us, h1, h2⟩ := results_list hf R hys
      have hone : ∃ v, VRel w0 base g x v ∧ (resOf a.tmps r).run C.P w = .ok v w := by
        cases r with
        | tmp t =>
          obtain ⟨v, q1, q2⟩ := hf.slot t x hx
          exact ⟨v, q2, by simp only [resOf, Array.getD_eq_getD_getElem?, q1, Option.getD_some, Sem.run_pure]⟩
        | cell c t =>
          simp only at hx
          split at hx
          · rename_i y n hy hs hg
            cases hl : m.load y n with
            | none => simp [hl] at hx
            | some zs =>
              simp only [hl, Option.map_some, Option.some.injEq] at hx
              subst hx
              obtain ⟨u, q1, q2⟩ := hf.slot c y hy
              obtain ⟨ad, rfl⟩ := load_addr hl q2
              obtain ⟨v, hv1, hv2⟩ := (R.loadVar (P := C.P) hs q2).1 hg zs hl
              exact ⟨v, hv1, by simp only [resOf, Array.getD_eq_getD_getElem?, q1, Option.getD_some, Sem.run_bind, asAddr, Sem.run_pure, Result.andThen_ok, hv2]⟩
          · rename_i y n hy hs hg
            split at hx
            · rename_i z hl
              cases hx
              obtain ⟨u, q1, q2⟩ := hf.slot c y hy
              obtain ⟨ad, rfl⟩ := load_addr hl q2
              obtain ⟨v, hv1, hv2⟩ := (R.loadVar (P := C.P) hs q2).2 hg _ hl
              exact ⟨v, hv1, by simp only [resOf, Array.getD_eq_getD_getElem?, q1, Option.getD_some, Sem.run_bind, asAddr, Sem.run_pure, Result.andThen_ok, hv2]⟩
            · cases hx
          · cases hx
      obtain ⟨v, q1, q2⟩ := hone
      refine ⟨v :: us, .cons _ _ _ _ q1 h1, ?_⟩
      simp only [List.mapM_cons, Sem.run_bind, q2, Result.andThen_ok, h2, Sem.run_pure]
    · cases h
theorem results_run {g : Map} {fr : Fr} {m : Mem} {w : World} {a : Act} (hf : FrRel w0 base g fr a) (R : Rel w0 base g m w) {fn : Func} {xs : List AV} (h : Vz.results C.P m fr fn.results.toList = some xs) :
    ∃ v, VRel w0 base g (one xs) v ∧ (Go.results fn a.tmps).run C.P w = .ok v w := by
  obtain ⟨vs, h1, h2⟩ := results_list (C := C) hf R h
  have hm : (fn.results.mapM (resOf a.tmps)).run C.P w = .ok vs.toArray w := by
    rw [Array.mapM_eq_mapM_toList]
    simp [h2]
  refine ⟨if h : vs.toArray.size = 1 then vs.toArray[0] else .tuple vs.toArray, ?_, ?_⟩
  · rcases vs with _ | ⟨v, _ | ⟨u, vs⟩⟩
    · cases h1; exact .tup _ _ .nil
    · cases h1 with | cons _ _ _ _ q1 q2 => cases q2; exact q1
    · cases h1 with | cons _ _ _ _ q1 q2 => cases q2 with | cons _ _ _ _ q2 q3 => exact .tup _ _ (.cons _ _ _ _ q1 (.cons _ _ _ _ q2 q3))
  · rw [results_eq, Sem.run_bind, hm]
    rfl

/-! ### Code -/
abbrev DrawOk (C : Cfg) (w0 : World) (base : Nat) (draw : CallF → DrawF) : Prop := ∀ call, HCall C.P w0 base call → ∀ (id : Nat) (ops : Array Oper) (fr fr' : Fr) (m m' : Mem), draw call ops.toList fr m = some (fr', m') →
  ∀ (g : Map) (w : World) (a : Act), FrRel w0 base g fr a → Rel w0 base g m w → a.defers = [] → ∀ Q : Exit → Act → World → Prop, (∀ g' a' w', After w0 base g fr' m' g' a' w' → Q .normal a' w') → (Code.region id ops true).wp C.P Q a w
/-- what a run of code says -/
abbrev Says (C : Cfg) (w0 : World) (base : Nat) (c : Code) (fr : Fr) (m : Mem) (ex : Ex) (fr' : Fr) (m' : Mem) : Prop := ∀ (g : Map) (w : World) (a : Act), FrRel w0 base g fr a → Rel w0 base g m w → a.defers = [] →
  ∀ Q : Exit → Act → World → Prop, (∀ g' a' w', After w0 base g fr' m' g' a' w' → Q (exOf ex) a' w') → c.wp C.P Q a w
theorem call_of_exec (H : C.Ok w0 base) {draw : CallF → DrawF} {n : Nat} (ih : ∀ c fr m ex fr' m', exec C draw n c fr m = some (ex, fr', m') → Says C w0 base c fr m ex fr' m') : HCall C.P w0 base (Vz.call C draw n) := by
  intro f args m x m' h g w vs hv R
  unfold Vz.call at h
  cases hp : C.isPrim f with
  | true => simp only [hp, cond_true] at h; exact H.prim f args m x m' hp h g w vs hv R
  | false =>
    simp only [hp, cond_false] at h
    split at h
    · rename_i fn hfn
      split at h
      · rename_i body hb
        refine calls_of_wp hfn hb ?_
        have fin : ∀ (ex : Ex) (fr' : Fr) (m1 : Mem), (exOf ex = .normal ∨ exOf ex = .ret) → exec C draw n body (enterA fn.ntmps args) m = some (ex, fr', m1) → (Vz.results C.P m1 fr' fn.results.toList).map (fun xs => (one xs, m1)) = some (x, m') →
            body.wp C.P (bodyPost C.P fn (CallPost w0 base g m' x)) { tmps := vs ++ Array.replicate (fn.ntmps - vs.size) undef, defers := [] } w := by
          intro ex fr' m1 hex he hres
          cases hxs : Vz.results C.P m1 fr' fn.results.toList with
          | none => simp [hxs] at hres
          | some xs =>
            simp only [hxs, Option.map_some, Option.some.injEq, Prod.mk.injEq] at hres
            obtain ⟨rfl, rfl⟩ := hres
            refine ih _ _ _ _ _ _ he g w _ (enterA_rel hv _) R rfl _ (fun g' a' w' q => ?_)
            obtain ⟨v, q1, q2⟩ := results_run (C := C) q.fr q.rel hxs
            have : a'.defers = [] ∧ ∃ v, (Go.results fn a'.tmps).run C.P w' = .ok v w' ∧ CallPost w0 base g m1 (one xs) (.returned v) w' := ⟨q.none, v, q2, g', v, rfl, q.le, q1, q.rel⟩
            rcases hex with e | e <;> rw [e] <;> exact this
        split at h
        · rename_i fr' m1 he; exact fin .normal fr' m1 (.inl rfl) he h
        · rename_i fr' m1 he; exact fin .ret fr' m1 (.inr rfl) he h
        · cases h
      · cases h
    · cases h
section
variable {draw : CallF → DrawF} {n : Nat} {fr : Fr} {m : Mem}
theorem exec_skip : exec C draw (n + 1) .skip fr m = some (.normal, fr, m) := rfl
theorem exec_exit {id : Nat} : exec C draw (n + 1) (.exit id) fr m = some (.exit id, fr, m) := rfl
theorem exec_ret : exec C draw (n + 1) .ret fr m = some (.ret, fr, m) := rfl
theorem exec_region {id : Nat} {ops : Array Oper} : exec C draw (n + 1) (.region id ops false) fr m = (runOps C (Vz.call C draw n) ops.toList ops.toList fr m).map fun (fr, m) => (.normal, fr, m) := rfl
theorem exec_draw {id : Nat} {ops : Array Oper} : exec C draw (n + 1) (.region id ops true) fr m = (draw (Vz.call C draw n) ops.toList fr m).map fun (fr, m) => (.normal, fr, m) := rfl
theorem exec_seq {a b : Code} : exec C draw (n + 1) (.seq a b) fr m = match exec C draw n a fr m with
      | some (.normal, fr, m) => exec C draw n b fr m
      | r => r := rfl
theorem exec_cond {x : Operand} {a b : Code} : exec C draw (n + 1) (.cond x a b) fr m = match evalA C fr x with
      | some (.bool true) => exec C draw n a fr m
      | some (.bool false) => exec C draw n b fr m
      | _ => none := rfl
theorem exec_block {id : Nat} {a : Code} : exec C draw (n + 1) (.block id a) fr m = match exec C draw n a fr m with
      | some (.exit i, fr, m) => bif Nat.beq i id then some (.normal, fr, m) else some (.exit i, fr, m)
      | r => r := rfl
theorem exec_loop {a : Code} : exec C draw (n + 1) (.loop a) fr m = match exec C draw n a fr m with
      | some (.normal, fr, m) => exec C draw n (.loop a) fr m
      | r => r := rfl
end
theorem exec_says (H : C.Ok w0 base) {draw : CallF → DrawF} (hD : DrawOk C w0 base draw) : ∀ (n : Nat) (c : Code) (fr : Fr) (m : Mem) (ex : Ex) (fr' : Fr) (m' : Mem), exec C draw n c fr m = some (ex, fr', m') →
    Says C w0 base c fr m ex fr' m' ∧ ∀ b, c = .loop b → ∀ (g : Map) (w : World) (a : Act), FrRel w0 base g fr a → Rel w0 base g m w → a.defers = [] →
      ∀ Q : Exit → Act → World → Prop, (∀ g' a' w', After w0 base g fr' m' g' a' w' → Q (exOf ex) a' w') → Code.rounds C.P b Q n a w
  | 0, c, fr, m, ex, fr', m', h => by simp only [exec] at h; cases h
  | n + 1, c, fr, m, ex, fr', m', h => by
    have ih := exec_says H hD n
    have hc : HCall C.P w0 base (Vz.call C draw n) := call_of_exec H (fun c fr m ex fr' m' h => (ih c fr m ex fr' m' h).1)
    cases c <;> try (simp only [exec] at h; cases h; done)
    case skip =>
      rw [exec_skip] at h
      cases h
      exact ⟨fun g w a hf R hd Q hQ => wp_skip (hQ g a w ⟨Map.le_refl g, hf, R, hd⟩), fun b e => by cases e⟩
    case exit id =>
      rw [exec_exit] at h
      cases h
      exact ⟨fun g w a hf R hd Q hQ => wp_exit (hQ g a w ⟨Map.le_refl g, hf, R, hd⟩), fun b e => by cases e⟩
    case ret =>
      rw [exec_ret] at h
      cases h
      exact ⟨fun g w a hf R hd Q hQ => wp_ret (hQ g a w ⟨Map.le_refl g, hf, R, hd⟩), fun b e => by cases e⟩
    case region id ops d =>
      refine ⟨fun g w a hf R hd Q hQ => ?_, fun b e => by cases e⟩
      cases d with
      | false =>
        rw [exec_region] at h
        cases hr : runOps C (Vz.call C draw n) ops.toList ops.toList fr m with
        | none => simp [hr] at h
        | some q =>
          obtain ⟨fr1, m1⟩ := q
          simp only [hr, Option.map_some, Option.some.injEq, Prod.mk.injEq] at h
          obtain ⟨rfl, rfl, rfl⟩ := h
          exact wp_region_list (runOps_wp H hc hf R hd hr hQ)
      | true =>
        rw [exec_draw] at h
        cases hr : draw (Vz.call C draw n) ops.toList fr m with
        | none => simp [hr] at h
        | some q =>
          obtain ⟨fr1, m1⟩ := q
          simp only [hr, Option.map_some, Option.some.injEq, Prod.mk.injEq] at h
          obtain ⟨rfl, rfl, rfl⟩ := h
          exact hD _ hc id ops fr fr1 m m1 hr g w a hf R hd Q hQ
    case seq x y =>
      rw [exec_seq] at h
      refine ⟨fun g w a hf R hd Q hQ => ?_, fun b e => by cases e⟩
      split at h
      · rename_i fr1 m1 h1
        refine wp_seq ((ih _ _ _ _ _ _ h1).1 g w a hf R hd _ (fun g' a' w' q => ?_))
        exact (ih _ _ _ _ _ _ h).1 g' w' a' q.fr q.rel q.none _ (fun g2 a2 w2 q2 => hQ g2 a2 w2 ⟨Map.le_trans q.le q2.le, q2.fr, q2.rel, q2.none⟩)
      · rename_i r hne
        refine wp_seq ((ih _ _ _ _ _ _ h).1 g w a hf R hd _ (fun g' a' w' q => ?_))
        cases ex with
        | normal => exact absurd h (hne _ _)
        | exit i => exact hQ g' a' w' q
        | ret => exact hQ g' a' w' q
    case cond x y z =>
      rw [exec_cond] at h
      refine ⟨fun g w a hf R hd Q hQ => ?_, fun b e => by cases e⟩
      split at h
      · rename_i he
        have := evalA_rel H hf _ _ he
        generalize hv : a.eval x = v at this
        cases this
        exact wp_cond_true hv ((ih _ _ _ _ _ _ h).1 g w a hf R hd Q hQ)
      · rename_i he
        have := evalA_rel H hf _ _ he
        generalize hv : a.eval x = v at this
        cases this
        exact wp_cond_false hv ((ih _ _ _ _ _ _ h).1 g w a hf R hd Q hQ)
      · cases h
    case block id x =>
      rw [exec_block] at h
      refine ⟨fun g w a hf R hd Q hQ => ?_, fun b e => by cases e⟩
      split at h
      · rename_i i fr1 m1 h1
        refine wp_block ((ih _ _ _ _ _ _ h1).1 g w a hf R hd _ (fun g' a' w' q => ?_))
        show Exit.inBlock id Q (.exit i) a' w'
        simp only [Exit.inBlock]
        cases hi : Nat.beq i id with
        | true =>
          simp only [hi, cond_true, Option.some.injEq, Prod.mk.injEq] at h
          obtain ⟨rfl, rfl, rfl⟩ := h
          rw [if_pos (Nat.eq_of_beq_eq_true hi)]
          exact hQ g' a' w' q
        | false =>
          simp only [hi, cond_false, Option.some.injEq, Prod.mk.injEq] at h
          obtain ⟨rfl, rfl, rfl⟩ := h
          rw [if_neg (fun e => by subst e; simp at hi)]
          exact hQ g' a' w' q
      · rename_i r hne
        refine wp_block ((ih _ _ _ _ _ _ h).1 g w a hf R hd _ (fun g' a' w' q => ?_))
        cases ex with
        | normal => exact hQ g' a' w' q
        | exit i => exact absurd h (hne _ _ _)
        | ret => exact hQ g' a' w' q
    case loop x =>
      rw [exec_loop] at h
      have key : ∀ (g : Map) (w : World) (a : Act), FrRel w0 base g fr a → Rel w0 base g m w → a.defers = [] →
          ∀ Q : Exit → Act → World → Prop, (∀ g' a' w', After w0 base g fr' m' g' a' w' → Q (exOf ex) a' w') → Code.rounds C.P x Q (n + 1) a w := by
        intro g w a hf R hd Q hQ
        split at h
        · rename_i fr1 m1 h1
          rw [rounds_succ]
          refine (ih _ _ _ _ _ _ h1).1 g w a hf R hd _ (fun g' a' w' q => ?_)
          exact (ih _ _ _ _ _ _ h).2 x rfl g' w' a' q.fr q.rel q.none Q (fun g2 a2 w2 q2 => hQ g2 a2 w2 ⟨Map.le_trans q.le q2.le, q2.fr, q2.rel, q2.none⟩)
        · rename_i r hne
          rw [rounds_succ]
          refine (ih _ _ _ _ _ _ h).1 g w a hf R hd _ (fun g' a' w' q => ?_)
          cases ex with
          | normal => exact absurd h (hne _ _)
          | exit i => exact hQ g' a' w' q
          | ret => exact hQ g' a' w' q
      exact ⟨fun g w a hf R hd Q hQ => wp_loop_rounds (n + 1) (key g w a hf R hd Q hQ), fun b e => by cases e; exact key⟩
end
end Go.Vz

/-
  V's DRAWN REGIONS: the text's order is run; every other order comes to the same, for it is looked at, pair by pair.
-/
set_option linter.unusedVariables false
set_option linter.unusedSimpArgs false
namespace Go.Vz
open Go Go.RowKit

/-! ### What an operation looks at -/
def opt (x : Option Operand) : List Operand := match x with | some y => [y] | none => []
def opsOf (o : Op) : List Operand :=
  match o with
  | .move x | .assign x | .nilCheck x | .unOp _ _ x | .convert _ _ x | .makeInterface _ x | .extract x _ | .field _ x _ | .fieldAddr _ x _ | .typeAssert x _ _ _ | .load _ x | .box _ x | .range _ x | .next x _ => [x]
  | .pick a b c => [a, b, c]
  | .binOp _ _ x y _ => [x, y]
  | .makeFunc _ a b => a.toList ++ b.toList
  | .index _ x y | .indexAddr _ x y | .lookup _ x y _ | .store _ x y | .makeSlice _ x y | .mapEntry _ x y => [x, y]
  | .slice _ x lo hi _ => x :: (opt lo ++ opt hi)
  | .build _ ps | .buildSlice _ _ ps => ps.toList.map (·.2)
  | .makeMap _ r => opt r
  | .mapUpdate _ x y z | .insert _ x y z | .entryStore _ x y z => [x, y, z]
  | .call c => (match c.callee with | .value f => [f] | _ => []) ++ c.args.toList
  | _ => []
section
variable {P : Program} {r r' : Operand → Option AV} {m : Mem}
theorem operands_congr : ∀ {l : List Operand}, (∀ y ∈ l, r y = r' y) → operands r l = operands r' l
  | [], _ => rfl
  | x :: xs, h => by simp only [operands]; rw [h x (by simp), operands_congr (fun y hy => h y (by simp [hy]))]
theorem partsA_congr : ∀ {l : List (Nat × Operand)}, (∀ y ∈ l.map (·.2), r y = r' y) → partsA r l = partsA r' l
  | [], _ => rfl
  | (i, x) :: xs, h => by simp only [partsA]; rw [h x (by simp), partsA_congr (fun y hy => h y (by simp at hy ⊢; exact .inr hy))]
theorem bounds_congr {lo hi : Option Operand} (h : ∀ y ∈ opt lo ++ opt hi, r y = r' y) (n : Nat) : bounds r lo hi n = bounds r' lo hi n := by
  unfold bounds
  cases lo <;> cases hi <;> simp_all [opt]
theorem pureA_congr (o : Op) (h : ∀ y ∈ opsOf o, r y = r' y) : pureA P r o = pureA P r' o := by
  cases o <;> simp only [opsOf] at h <;> simp only [pureA] <;> try rfl
  case build t ps => rw [partsA_congr h]
  case makeFunc f a b => rw [operands_congr (fun y hy => h y (by simp [hy])), operands_congr (l := b.toList) (fun y hy => h y (by simp [hy]))]
  case slice t x lo hi mx =>
    have hb := bounds_congr (r := r) (r' := r') (lo := lo) (hi := hi) (fun y hy => h y (by simp at hy ⊢; exact .inr hy))
    cases mx <;> simp only [pureA]
    rw [h x (by simp)]
    unfold sliceA
    simp only [hb]
  case call c =>
    have ha := operands_congr (l := c.args.toList) (fun y hy => h y (by simp [hy]))
    cases hc : c.callee <;> simp only [ha]
  all_goals simp_all
theorem loadA_congr (o : Op) (h : ∀ y ∈ opsOf o, r y = r' y) (m : Mem) : loadA P r m o = loadA P r' m o := by
  cases o <;> simp only [opsOf] at h <;> simp only [loadA] <;> try rfl
  case slice t x lo hi mx =>
    have hb := bounds_congr (r := r) (r' := r') (lo := lo) (hi := hi) (fun y hy => h y (by simp at hy ⊢; exact .inr hy))
    cases mx <;> simp only [loadA]
    rw [h x (by simp)]
    simp only [hb]
  case call c =>
    have ha := operands_congr (l := c.args.toList) (fun y hy => h y (by simp [hy]))
    cases hc : c.callee <;> simp only [ha]
  all_goals simp_all
theorem effA_congr (o : Op) (h : ∀ y ∈ opsOf o, r y = r' y) (m : Mem) : effA P r m o = effA P r' m o := by
  cases o <;> simp only [opsOf] at h <;> simp only [effA] <;> try rfl
  case buildSlice t n ps => rw [partsA_congr h]
  case makeMap t x => cases x <;> simp_all [opt]
  case call c =>
    have ha := operands_congr (l := c.args.toList) (fun y hy => h y (by simp [hy]))
    cases hc : c.callee with
    | value f => have hf := h f (by simp [hc]); simp only [hf, ha]
    | invoke _ _ => rfl
    | builtin b => cases b <;> simp only [ha]
  all_goals simp_all
end

/-! ### The check -/
/-- an operation as it was run: its kind (0: looks at no memory, or is not wanted; 1: reads it; 2: the others), the frame and the memory before it, its value, the memory behind it -/
structure It where
  o : Oper
  i : Nat
  anc : Nat
  kd : Nat
  fr : Fr
  m : Mem
  x : AV
  m' : Mem
def ancOf (ms : Tr Nat) (i : Nat) : List Edge → Nat → Option Nat
  | [], acc => some acc
  | e :: es, acc => bif Region.binds .any e then
      (bif Nat.ble (e.on + 1) i then
        (match ms.get e.on with
        | some a => ancOf ms i es (Nat.lor (Nat.lor acc a) (2 ^ e.on))
        | none => none) else none)
      else ancOf ms i es acc
def stepA (C : Cfg) (call : CallF) (ops : List Oper) (fr : Fr) (m : Mem) (o : Oper) : Option (Nat × AV × Mem) :=
  match wantedA ops fr o with
  | some false => some (0, .tup [], m)
  | some true => match pureA C.P (evalA C fr) o.op with
    | some x => some (0, x, m)
    | none => match loadA C.P (evalA C fr) m o.op with
      | some x => some (1, x, m)
      | none => match opA C call fr m o with
        | some (x, m') => some (2, x, m')
        | none => none
  | none => none
def traceA (C : Cfg) (call : CallF) (ops : List Oper) : List Oper → Nat → Tr Nat → Fr → Mem → Option (List It × Fr × Mem)
  | [], _, _, fr, m => some ([], fr, m)
  | o :: rest, i, ms, fr, m => match ancOf ms i o.after.toList 0, stepA C call ops fr m o with
    | some a, some (kd, x, m') => match fr.put o.dst x with
      | some fr' => match traceA C call ops rest (i + 1) (ms.set i a) fr' m' with
        | some (its, fr'', m'') => some (⟨o, i, a, kd, fr, m, x, m'⟩ :: its, fr'', m'')
        | none => none
      | none => none
    | _, _ => none
def tmpsOf : List Operand → List Nat
  | [] => []
  | .tmp t :: l => t :: tmpsOf l
  | _ :: l => tmpsOf l
def looksA (ops : List Oper) (o : Oper) : List Nat :=
  match o.guard with
  | none => tmpsOf (opsOf o.op)
  | some (j, _) => match ops[j]? with
    | some g => match g.dst with
      | some t => t :: tmpsOf (opsOf o.op)
      | none => tmpsOf (opsOf o.op)
    | none => tmpsOf (opsOf o.op)
def notIn (t : Nat) : List Nat → Bool
  | [] => true
  | u :: l => !Nat.beq t u && notIn t l
def dstOut (d : Option Tmp) (l : List Nat) : Bool := match d with | none => true | some t => notIn t l
def dstNe (d e : Option Tmp) : Bool := match d, e with | some t, some u => !Nat.beq t u | _, _ => true
mutual
def beqA : AV → AV → Bool
  | .bool a, .bool b => a == b
  | .int k a, .int l b => decide (k = l) && decide (a = b)
  | .str a, .str b => eqNats a b
  | .ptr v k, .ptr u l => Nat.beq v u && Nat.beq k l
  | .nilptr, .nilptr => true
  | .sl v k n z, .sl u l p y => Nat.beq v u && Nat.beq k l && Nat.beq n p && Nat.beq z y
  | .nilsl, .nilsl => true
  | .map r, .map s => Nat.beq r s
  | .nilmap, .nilmap => true
  | .nilfn, .nilfn => true
  | .fn f a b, .fn g c d => decide (f = g) && beqAs a c && beqAs b d
  | .iface t x, .iface u y => decide (t = u) && beqA x y
  | .niliface, .niliface => true
  | .agg a, .agg b => beqAs a b
  | .tup a, .tup b => beqAs a b
  | .ro a n z, .ro b p y => beqAs a b && Nat.beq n p && Nat.beq z y
  | .rp a, .rp b => beqAs a b
  | _, _ => false
def beqAs : List AV → List AV → Bool
  | [], [] => true
  | x :: xs, y :: ys => beqA x y && beqAs xs ys
  | _, _ => false
end
def loadsSame (C : Cfg) (it : It) (m : Mem) : Bool := match loadA C.P (evalA C it.fr) m it.o.op with
  | some y => beqA y it.x
  | none => false
/-- j may go ahead of i -/
def pairOk (C : Cfg) (ops : List Oper) (i j : It) : Bool :=
  bif Nat.testBit j.anc i.i then true else
    dstOut i.o.dst (looksA ops j.o) && dstNe i.o.dst j.o.dst && dstOut j.o.dst (looksA ops i.o) &&
    (match i.kd, j.kd with
    | 2, 2 => false
    | 2, 1 => loadsSame C j i.m
    | 1, 2 => loadsSame C i j.m'
    | _, _ => true)
def allOk (C : Cfg) (ops : List Oper) (i : It) : List It → Bool
  | [] => true
  | j :: l => pairOk C ops i j && allOk C ops i l
def pairsOk (C : Cfg) (ops : List Oper) : List It → Bool
  | [] => true
  | i :: l => allOk C ops i l && pairsOk C ops l
def drawA (C : Cfg) (call : CallF) : DrawF := fun ops fr m =>
  match traceA C call ops ops 0 .nil fr m with
  | some (its, fr', m') => bif pairsOk C ops its then some (fr', m') else none
  | none => none
mutual
theorem beqA_eq : ∀ {x y : AV}, beqA x y = true → x = y
  | .bool a, y, h => by cases y <;> simp_all [beqA]
  | .int k a, y, h => by cases y <;> simp_all [beqA]
  | .str a, y, h => by
    cases y <;> simp only [beqA] at h <;> try (cases h; done)
    rename_i b
    have : ∀ (a b : List Nat), eqNats a b = true → a = b := by
      intro a
      induction a with
      | nil => intro b h; cases b <;> simp_all [eqNats]
      | cons x xs ih => intro b h; cases b with
        | nil => simp [eqNats] at h
        | cons y ys => simp only [eqNats, Bool.and_eq_true] at h; rw [Nat.eq_of_beq_eq_true h.1, ih ys h.2]
    rw [this a b h]
  | .ptr v k, y, h => by cases y <;> simp_all [beqA]
  | .nilptr, y, h => by cases y <;> simp_all [beqA]
  | .sl v k n z, y, h => by cases y <;> simp_all [beqA]
  | .nilsl, y, h => by cases y <;> simp_all [beqA]
  | .map r, y, h => by cases y <;> simp_all [beqA]
  | .nilmap, y, h => by cases y <;> simp_all [beqA]
  | .nilfn, y, h => by cases y <;> simp_all [beqA]
  | .fn f a b, y, h => by
    cases y <;> simp only [beqA] at h <;> try (cases h; done)
    simp only [Bool.and_eq_true, decide_eq_true_eq] at h
    rw [h.1.1, beqAs_eq h.1.2, beqAs_eq h.2]
  | .iface t x, y, h => by
    cases y <;> simp only [beqA] at h <;> try (cases h; done)
    simp only [Bool.and_eq_true, decide_eq_true_eq] at h
    rw [h.1, beqA_eq h.2]
  | .niliface, y, h => by cases y <;> simp_all [beqA]
  | .agg a, y, h => by
    cases y <;> simp only [beqA] at h <;> try (cases h; done)
    rw [beqAs_eq h]
  | .tup a, y, h => by
    cases y <;> simp only [beqA] at h <;> try (cases h; done)
    rw [beqAs_eq h]
  | .ro a n z, y, h => by
    cases y <;> simp only [beqA] at h <;> try (cases h; done)
    simp only [Bool.and_eq_true] at h
    rw [beqAs_eq h.1.1, Nat.eq_of_beq_eq_true h.1.2, Nat.eq_of_beq_eq_true h.2]
  | .rp a, y, h => by
    cases y <;> simp only [beqA] at h <;> try (cases h; done)
    rw [beqAs_eq h]
theorem beqAs_eq : ∀ {x y : List AV}, beqAs x y = true → x = y
  | [], [], _ => rfl
  | x :: xs, y :: ys, h => by simp only [beqAs, Bool.and_eq_true] at h; rw [beqA_eq h.1, beqAs_eq h.2]
  | [], _ :: _, h => by simp [beqAs] at h
  | _ :: _, [], h => by simp [beqAs] at h
end
mutual
theorem beqA_refl : ∀ x : AV, beqA x x = true
  | .bool a => by simp [beqA]
  | .int k a => by simp [beqA]
  | .str a => by
    simp only [beqA]
    induction a with
    | nil => rfl
    | cons x xs ih => simp [eqNats, ih]
  | .ptr v k => by simp [beqA]
  | .nilptr => rfl
  | .sl v k n z => by simp [beqA]
  | .nilsl => rfl
  | .map r => by simp [beqA]
  | .nilmap => rfl
  | .nilfn => rfl
  | .fn f a b => by simp [beqA, beqAs_refl a, beqAs_refl b]
  | .iface t x => by simp [beqA, beqA_refl x]
  | .niliface => rfl
  | .agg a => by simp [beqA, beqAs_refl a]
  | .tup a => by simp [beqA, beqAs_refl a]
  | .ro a n z => by simp [beqA, beqAs_refl a]
  | .rp a => by simp [beqA, beqAs_refl a]
theorem beqAs_refl : ∀ x : List AV, beqAs x x = true
  | [] => rfl
  | x :: xs => by simp [beqAs, beqA_refl x, beqAs_refl xs]
end
end Go.Vz

/-
  V's DRAWN REGIONS: why the check is enough.
-/
set_option linter.unusedVariables false
set_option linter.unusedSimpArgs false
namespace Go.Vz
open Go Go.RowKit

/-! ### Frames as functions -/
def evalF (C : Cfg) (F : Nat → Option AV) : Operand → Option AV
  | .tmp t => F t
  | .const v => ofV v
  | .global g => (C.glob g).map .rp
  | .func f => some (.fn (.func f) [] [])
theorem evalA_eq (C : Cfg) (fr : Fr) : evalA C fr = evalF C fr.t.get := by funext y; cases y <;> rfl
def wantedF (ops : List Oper) (F : Nat → Option AV) (o : Oper) : Option Bool :=
  match o.guard with
  | none => some true
  | some (j, want) => match ops[j]? with
    | some g => match g.dst with
      | some t => match F t with
        | some (.bool b) => some (b == want)
        | some (.tup []) => some false
        | _ => none
      | none => none
    | none => none
theorem wantedA_eq (ops : List Oper) (fr : Fr) (o : Oper) : wantedA ops fr o = wantedF ops fr.t.get o := rfl
def upd (F : Nat → Option AV) (d : Option Tmp) (x : AV) : Nat → Option AV := match d with
  | none => F
  | some t => fun s => if s = t then some x else F s
theorem put_upd {fr fr' : Fr} {d : Option Tmp} {x : AV} (h : fr.put d x = some fr') : fr'.t.get = upd fr.t.get d x ∧ fr'.n = fr.n ∧ ∀ t, d = some t → t < fr.n := by
  cases d with
  | none => simp only [Fr.put, Option.some.injEq] at h; subst h; exact ⟨rfl, rfl, fun t h => by cases h⟩
  | some t =>
    simp only [Fr.put] at h
    cases hb : Nat.ble (t + 1) fr.n with
    | false => simp [hb] at h
    | true =>
      simp only [hb, cond_true, Option.some.injEq] at h
      subst h
      exact ⟨by funext s; simp only [upd, Tr.get_set], rfl, fun u hu => by cases hu; exact Nat.le_of_ble_eq_true hb⟩
theorem notIn_spec {t : Nat} : ∀ {l : List Nat}, notIn t l = true → t ∉ l
  | [], _, h => by cases h
  | u :: l, h, hm => by
    simp only [notIn, Bool.and_eq_true, Bool.not_eq_true'] at h
    cases hm with
    | head => simp at h
    | tail _ hm => exact notIn_spec h.2 hm
theorem upd_out {F : Nat → Option AV} {d : Option Tmp} {x : AV} {l : List Nat} (h : dstOut d l = true) : ∀ t ∈ l, upd F d x t = F t := by
  intro t ht
  cases d with
  | none => rfl
  | some u =>
    have := notIn_spec h
    simp only [upd]
    rw [if_neg (fun e => by subst e; exact this ht)]
theorem upd_comm {F : Nat → Option AV} {d e : Option Tmp} {x y : AV} (h : dstNe d e = true) : upd (upd F d x) e y = upd (upd F e y) d x := by
  cases d with
  | none => rfl
  | some t => cases e with
    | none => rfl
    | some u =>
      simp only [dstNe, Bool.not_eq_true'] at h
      have hne : t ≠ u := fun e => by subst e; simp at h
      funext s
      simp only [upd]
      by_cases h1 : s = u
      · subst h1; rw [if_pos rfl, if_neg (Ne.symm hne), if_pos rfl]
      · rw [if_neg h1, if_neg h1]
theorem mem_tmpsOf {t : Nat} : ∀ {l : List Operand}, Operand.tmp t ∈ l → t ∈ tmpsOf l
  | x :: l, h => by
    cases h with
    | head => simp [tmpsOf]
    | tail _ h => cases x <;> simp only [tmpsOf] <;> first | exact List.mem_cons_of_mem _ (mem_tmpsOf h) | exact mem_tmpsOf h
theorem looks_ops {ops : List Oper} {o : Oper} {t : Nat} (h : t ∈ tmpsOf (opsOf o.op)) : t ∈ looksA ops o := by
  unfold looksA
  split
  · exact h
  · split
    · split
      · exact List.mem_cons_of_mem _ h
      · exact h
    · exact h
section
variable {C : Cfg} {call : CallF} {ops : List Oper} {F G : Nat → Option AV} {m m' : Mem} {o : Oper}
theorem evalF_agree (h : ∀ t ∈ looksA ops o, F t = G t) : ∀ y ∈ opsOf o.op, evalF C F y = evalF C G y := by
  intro y hy
  cases y with
  | tmp t => exact h t (looks_ops (mem_tmpsOf hy))
  | _ => rfl
theorem wantedF_agree (h : ∀ t ∈ looksA ops o, F t = G t) : wantedF ops F o = wantedF ops G o := by
  unfold wantedF
  cases hg : o.guard with
  | none => rfl
  | some q =>
    obtain ⟨j, want⟩ := q
    simp only
    cases hj : ops[j]? with
    | none => rfl
    | some og =>
      simp only
      cases hd : og.dst with
      | none => rfl
      | some t =>
        have ht : t ∈ looksA ops o := by unfold looksA; simp [hg, hj, hd]
        simp only [h t ht]
theorem opR_agree (h : ∀ t ∈ looksA ops o, F t = G t) : opR C call (evalF C F) m o = opR C call (evalF C G) m o := by
  have he := evalF_agree (C := C) h
  unfold opR
  rw [pureA_congr o.op he, loadA_congr o.op he, effA_congr o.op he]
end

/-! ### Runs of what is not yet listed -/
section
variable {C : Cfg} {call : CallF} {ops : List Oper} {n : Nat}
structure ItOk (C : Cfg) (call : CallF) (ops : List Oper) (n : Nat) (it : It) : Prop where
  step : stepA C call ops it.fr it.m it.o = some (it.kd, it.x, it.m')
  dst : ∀ t, it.o.dst = some t → t < n
structure StepAt (C : Cfg) (ops : List Oper) (it : It) (F : Nat → Option AV) (m : Mem) : Prop where
  agree : ∀ t ∈ looksA ops it.o, F t = it.fr.t.get t
  load : it.kd = 1 → loadA C.P (evalA C it.fr) m it.o.op = some it.x
  eff : it.kd = 2 → m = it.m
def nextM (it : It) (m : Mem) : Mem := if it.kd = 2 then it.m' else m
def Runs (C : Cfg) (call : CallF) (ops : List Oper) (n : Nat) : List It → (Nat → Option AV) → Mem → (Nat → Option AV) → Mem → Prop
  | [], F, m, F', m' => F = F' ∧ m = m'
  | it :: l, F, m, F', m' => ItOk C call ops n it ∧ StepAt C ops it F m ∧ Runs C call ops n l (upd F it.o.dst it.x) (nextM it m) F' m'
theorem Runs.swap {i j : It} {l : List It} {F F' : Nat → Option AV} {m m' : Mem} (h : Runs C call ops n (i :: j :: l) F m F' m') (hp : pairOk C ops i j = true) (hna : Nat.testBit j.anc i.i = false) :
    Runs C call ops n (j :: i :: l) F m F' m' := by
  obtain ⟨hi, si, hj, sj, hl⟩ := h
  unfold pairOk at hp
  rw [hna, cond_false, Bool.and_eq_true, Bool.and_eq_true, Bool.and_eq_true] at hp
  obtain ⟨⟨⟨h1, h2⟩, h3⟩, h4⟩ := hp
  have hsame : ∀ {it : It} {M : Mem}, loadsSame C it M = true → loadA C.P (evalA C it.fr) M it.o.op = some it.x := by
    intro it M h
    unfold loadsSame at h
    split at h
    · rename_i y hy; rw [hy, beqA_eq h]
    · cases h
  have hnm : nextM j (nextM i m) = nextM i (nextM j m) := by
    unfold nextM
    by_cases e1 : i.kd = 2 <;> by_cases e2 : j.kd = 2
    · rw [e1, e2] at h4; cases h4
    · simp [e1, e2]
    · simp [e1, e2]
    · simp [e1, e2]
  refine ⟨hj, ⟨fun t ht => ?_, fun k1 => ?_, fun k2 => ?_⟩, hi, ⟨fun t ht => ?_, fun k1 => ?_, fun k2 => ?_⟩, ?_⟩
  · rw [← sj.agree t ht, upd_out h1 t ht]
  · by_cases e1 : i.kd = 2
    · rw [e1, k1] at h4
      rw [si.eff e1]; exact hsame h4
    · have := sj.load k1
      unfold nextM at this
      rw [if_neg e1] at this
      exact this
  · have := sj.eff k2
    unfold nextM at this
    rw [if_neg (fun e1 => by rw [e1, k2] at h4; cases h4)] at this
    exact this
  · rw [upd_out h3 t ht]; exact si.agree t ht
  · by_cases e2 : j.kd = 2
    · rw [e2, k1] at h4
      unfold nextM
      rw [if_pos e2]
      exact hsame h4
    · unfold nextM
      rw [if_neg e2]
      exact si.load k1
  · unfold nextM
    rw [if_neg (fun e2 => by rw [e2, k2] at h4; cases h4)]
    exact si.eff k2
  · rw [upd_comm h2, hnm] at hl
    exact hl
theorem Runs.bubble {j : It} {post : List It} : ∀ {pre : List It} {F F' : Nat → Option AV} {m m' : Mem}, Runs C call ops n (pre ++ j :: post) F m F' m' → (∀ i ∈ pre, pairOk C ops i j = true ∧ Nat.testBit j.anc i.i = false) →
    Runs C call ops n (j :: (pre ++ post)) F m F' m'
  | [], _, _, _, _, h, _ => h
  | i :: pre, F, F', m, m', h, hp => by
    obtain ⟨h1, h2, h3⟩ := h
    have := Runs.bubble h3 (fun k hk => hp k (List.mem_cons_of_mem _ hk))
    exact Runs.swap (l := pre ++ post) ⟨h1, h2, this⟩ (hp i List.mem_cons_self).1 (hp i List.mem_cons_self).2
end

/-! ### What comes before -/
inductive Anc (ops : Array Oper) : Nat → Nat → Prop where
  | edge {j : Nat} {o : Oper} {e : Edge} : ops[j]? = some o → e ∈ o.after → Region.binds .any e = true → Anc ops e.on j
  | step {i j : Nat} {o : Oper} {e : Edge} : ops[j]? = some o → e ∈ o.after → Region.binds .any e = true → Anc ops i e.on → Anc ops i j
def Closed (ops : Array Oper) (listed : Array Bool) : Prop := ∀ k o, ops[k]? = some o → listed.getD k false = true → ∀ e ∈ o.after, Region.binds .any e = true → listed.getD e.on false = true
theorem Anc.listed {ops : Array Oper} {listed : Array Bool} (hc : Closed ops listed) {i j : Nat} (h : Anc ops i j) : listed.getD j false = true → listed.getD i false = true := by
  induction h with
  | edge h1 h2 h3 => exact fun hl => hc _ _ h1 hl _ h2 h3
  | step h1 h2 h3 _ ih => exact fun hl => ih (hc _ _ h1 hl _ h2 h3)
theorem Anc.ready {ops : Array Oper} {listed : Array Bool} (hc : Closed ops listed) {i j : Nat} (h : Anc ops i j) (hr : ∀ o, ops[j]? = some o → ∀ e ∈ o.after, Region.binds .any e = true → listed.getD e.on false = true) : listed.getD i false = true := by
  cases h with
  | edge h1 h2 h3 => exact hr _ h1 _ h2 h3
  | step h1 h2 h3 h4 => exact h4.listed hc (hr _ h1 _ h2 h3)
theorem ancOf_spec {ops : Array Oper} {ms : Tr Nat} {i : Nat} {o : Oper} (ho : ops[i]? = some o) (hms : ∀ k a, ms.get k = some a → ∀ b, Nat.testBit a b = true → Anc ops b k) :
    ∀ {es : List Edge} {acc a : Nat}, (∀ e ∈ es, e ∈ o.after) → ancOf ms i es acc = some a → (∀ b, Nat.testBit acc b = true → Anc ops b i) →
      (∀ b, Nat.testBit a b = true → Anc ops b i) ∧ ∀ e ∈ es, Region.binds .any e = true → e.on < i
  | [], acc, a, _, h, hb => by simp only [ancOf, Option.some.injEq] at h; subst h; exact ⟨hb, fun e he => by cases he⟩
  | e :: es, acc, a, hes, h, hb => by
    simp only [ancOf] at h
    cases hbd : Region.binds .any e with
    | false =>
      simp only [hbd, cond_false] at h
      obtain ⟨h1, h2⟩ := ancOf_spec ho hms (fun e he => hes e (List.mem_cons_of_mem _ he)) h hb
      refine ⟨h1, fun e' he' hb' => ?_⟩
      cases he' with
      | head => rw [hbd] at hb'; cases hb'
      | tail _ he' => exact h2 e' he' hb'
    | true =>
      simp only [hbd, cond_true] at h
      cases hle : Nat.ble (e.on + 1) i with
      | false => simp [hle] at h
      | true =>
        simp only [hle, cond_true] at h
        cases hg : ms.get e.on with
        | none => simp [hg] at h
        | some a0 =>
          simp only [hg] at h
          have hmem := hes e List.mem_cons_self
          obtain ⟨h1, h2⟩ := ancOf_spec ho hms (fun e he => hes e (List.mem_cons_of_mem _ he)) h (fun b hbb => by
            have hbb' : Nat.testBit ((acc ||| a0) ||| 2 ^ e.on) b = true := hbb
            rw [Nat.testBit_or, Nat.testBit_or, Nat.testBit_two_pow, Bool.or_eq_true, Bool.or_eq_true, decide_eq_true_eq] at hbb'
            rcases hbb' with (h | h) | h
            · exact hb b h
            · exact .step ho hmem hbd (hms _ _ hg b h)
            · subst h; exact .edge ho hmem hbd)
          refine ⟨h1, fun e' he' hb' => ?_⟩
          cases he' with
          | head => exact Nat.le_of_ble_eq_true hle
          | tail _ he' => exact h2 e' he' hb'
end Go.Vz

/-
  V's DRAWN REGIONS: the theorem.
-/
set_option linter.unusedVariables false
set_option linter.unusedSimpArgs false
namespace Go.Vz
open Go Go.RowKit
section
variable {C : Cfg} {w0 : World} {base : Nat} {call : CallF} {ops : Array Oper} {n : Nat}
/-- frames -/
structure FrF (w0 : World) (base : Nat) (g : Map) (n : Nat) (F : Nat → Option AV) (a : Act) : Prop where
  size : a.tmps.size = n
  slot : ∀ t x, F t = some x → ∃ v, a.tmps[t]? = some v ∧ VRel w0 base g x v
theorem FrRel.toF {g : Map} {fr : Fr} {a : Act} (h : FrRel w0 base g fr a) : FrF w0 base g fr.n fr.t.get a := ⟨h.size, h.slot⟩
theorem FrF.mono {g g' : Map} (h : g.le g') {F : Nat → Option AV} {a : Act} (r : FrF w0 base g n F a) : FrF w0 base g' n F a :=
  ⟨r.size, fun t x hx => let ⟨v, h1, h2⟩ := r.slot t x hx; ⟨v, h1, h2.mono h⟩⟩
theorem FrF.put {g : Map} {F : Nat → Option AV} {a : Act} (r : FrF w0 base g n F a) {d : Option Tmp} {x : AV} {v : Value} (hd : ∀ t, d = some t → t < n) (hv : VRel w0 base g x v) : FrF w0 base g n (upd F d x) (a.put d v) := by
  cases d with
  | none => exact r
  | some t =>
    have ht : t < a.tmps.size := by rw [r.size]; exact hd t rfl
    refine ⟨by simp [Act.put, r.size], fun s y hy => ?_⟩
    simp only [upd] at hy
    by_cases e : s = t
    · subst e
      simp only [if_true, Option.some.injEq] at hy
      subst hy
      exact ⟨v, by simp [Act.put, ht], hv⟩
    · simp only [e, if_false] at hy
      obtain ⟨u, hu, hr⟩ := r.slot s y hy
      exact ⟨u, by simp [Act.put, Array.getElem?_setIfInBounds_ne (Ne.symm e), hu], hr⟩
theorem evalF_rel (H : C.Ok w0 base) {g : Map} {F : Nat → Option AV} {a : Act} (hf : FrF w0 base g n F a) : ∀ y x, evalF C F y = some x → VRel w0 base g x (a.eval y) := by
  intro y x h
  cases y with
  | tmp t =>
    obtain ⟨v, h1, h2⟩ := hf.slot t x h
    show VRel w0 base g x (a.tmps.getD t undef)
    rw [Array.getD_eq_getD_getElem?, h1]
    exact h2
  | const v => exact ofV_rel h
  | global k =>
    simp only [evalF] at h
    cases hk : C.glob k with
    | none => simp [hk] at h
    | some cs => simp only [hk, Option.map_some, Option.some.injEq] at h; subst h; exact H.glob k cs hk g
  | func f => simp only [evalF, Option.some.injEq] at h; subst h; exact .fn _ _ _ _ _ .nil .nil
theorem wantedF_run {g : Map} {F : Nat → Option AV} {a : Act} (hf : FrF w0 base g n F a) {o : Oper} {b : Bool} (h : wantedF ops.toList F o = some b) : Region.wanted o (yielded ops a.tmps) = b := by
  unfold wantedF at h
  unfold Region.wanted
  cases hg : o.guard with
  | none => simp only [hg, Option.some.injEq] at h ⊢; exact h
  | some q =>
    obtain ⟨j, want⟩ := q
    simp only [hg, Array.getElem?_toList] at h ⊢
    cases hj : ops[j]? with
    | none => simp [hj] at h
    | some og =>
      simp only [hj] at h
      cases hd : og.dst with
      | none => simp [hd] at h
      | some t =>
        simp only [hd] at h
        unfold yielded
        simp only [hj, Option.bind_some, hd]
        cases hx : F t with
        | none => simp [hx] at h
        | some x =>
          obtain ⟨v, h1, h2⟩ := hf.slot t x hx
          rw [h1]
          simp only [hx] at h
          split at h
          · rename_i b' heq
            cases heq
            cases h2
            cases h
            cases b' <;> cases want <;> rfl
          · rename_i heq
            cases heq
            cases h2
            cases h
            rfl
          · cases h
theorem getD_true {l : Array Bool} {k : Nat} (hk : k < l.size) : l.getD k true = l.getD k false := by
  simp only [Array.getD_eq_getD_getElem?, Array.getElem?_eq_getElem hk, Option.getD_some]
/-- one operation, at its turn -/
theorem it_wp (H : C.Ok w0 base) (hc : HCall C.P w0 base call) {Q : Exit → Act → World → Prop} {it : It} {F : Nat → Option AV} {m : Mem} {g : Map} {a : Act} {w : World} (hi : ItOk C call ops.toList n it) (hs : StepAt C ops.toList it F m) (ho : ops[it.i]? = some it.o)
    (hf : FrF w0 base g n F a) (R : Rel w0 base g m w) {K : Act → World → Prop} (hK : ∀ g' v w', g.le g' → VRel w0 base g' it.x v → Rel w0 base g' (nextM it m) w' → K (a.put it.o.dst v) w') : wpOp C.P ops Q it.i K a w := by
  have hst := hi.step
  unfold stepA at hst
  unfold wpOp
  simp only [ho]
  have hagree : ∀ t ∈ looksA ops.toList it.o, it.fr.t.get t = F t := fun t ht => (hs.agree t ht).symm
  have hw : wantedA ops.toList it.fr it.o = wantedF ops.toList F it.o := by rw [wantedA_eq]; exact wantedF_agree hagree
  rw [hw] at hst
  have hops := evalF_agree (C := C) hagree
  split at hst
  · rename_i hwf
    rw [if_neg (by rw [wantedF_run hf hwf]; decide)]
    simp only [Option.some.injEq, Prod.mk.injEq] at hst
    obtain ⟨h1, h2, h3⟩ := hst
    refine hK g undef w (Map.le_refl g) (by rw [← h2]; exact .tup _ _ .nil) ?_
    unfold nextM
    rw [if_neg (by rw [← h1]; decide)]
    exact R
  · rename_i hwf
    rw [if_pos (wantedF_run hf hwf)]
    left
    rw [evalA_eq, pureA_congr it.o.op hops] at hst
    split at hst
    · rename_i x hp
      simp only [Option.some.injEq, Prod.mk.injEq] at hst
      obtain ⟨h1, h2, h3⟩ := hst
      refine opR_wp (call := call) (r := evalF C F) (m' := m) H hc (evalF_rel H hf) R (x := x) (by unfold opR; rw [hp]) (fun g' v w' q1 q2 q3 => ?_)
      refine hK g' v w' q1 (by rw [← h2]; exact q2) ?_
      unfold nextM
      rw [if_neg (by rw [← h1]; decide)]
      exact q3
    · rename_i hpn
      rw [loadA_congr it.o.op hops] at hst
      split at hst
      · rename_i x hl
        simp only [Option.some.injEq, Prod.mk.injEq] at hst
        obtain ⟨h1, h2, h3⟩ := hst
        have hld := hs.load h1.symm
        rw [evalA_eq, loadA_congr it.o.op hops] at hld
        refine opR_wp (call := call) (r := evalF C F) (m' := m) H hc (evalF_rel H hf) R (x := it.x) (by unfold opR; rw [hpn, hld]) (fun g' v w' q1 q2 q3 => ?_)
        refine hK g' v w' q1 q2 ?_
        unfold nextM
        rw [if_neg (by rw [← h1]; decide)]
        exact q3
      · rename_i hln
        split at hst
        · rename_i x m1 he
          simp only [Option.some.injEq, Prod.mk.injEq] at hst
          obtain ⟨h1, h2, h3⟩ := hst
          have hm := hs.eff h1.symm
          have he' : opR C call (evalF C F) m it.o = some (x, m1) := by
            rw [hm, ← opR_agree hagree, ← evalA_eq]
            exact he
          refine opR_wp (call := call) H hc (evalF_rel H hf) R he' (fun g' v w' q1 q2 q3 => ?_)
          refine hK g' v w' q1 (by rw [← h2]; exact q2) ?_
          unfold nextM
          rw [if_pos h1.symm, ← h3]
          exact q3
        · cases hst
  · cases hst
theorem wpAny_of_runs (H : C.Ok w0 base) (hc : HCall C.P w0 base call) {Q : Exit → Act → World → Prop} {F' : Nat → Option AV} {m' : Mem}
    (hlow : ∀ k o, ops[k]? = some o → ∀ e ∈ o.after, Region.binds .any e = true → e.on < k) : ∀ (k : Nat) (l : List It) (listed : Array Bool) (g : Map) (F : Nat → Option AV) (m : Mem) (a : Act) (w : World), l.length = k → listed.size = ops.size →
    (∀ it ∈ l, ops[it.i]? = some it.o) → (∀ j, j < ops.size → (listed.getD j false = false ↔ j ∈ l.map (·.i))) → (l.map (·.i)).Pairwise (· < ·) → (∀ it ∈ l, ∀ b, Nat.testBit it.anc b = true → Anc ops b it.i) → Closed ops listed →
    l.Pairwise (fun i j => pairOk C ops.toList i j = true) → Runs C call ops.toList n l F m F' m' → FrF w0 base g n F a → Rel w0 base g m w → a.defers = [] →
    (∀ g' a' w', g.le g' → FrF w0 base g' n F' a' → Rel w0 base g' m' w' → a'.defers = [] → Q .normal a' w') → wpAny C.P .any ops Q k listed a w := by
  intro k
  induction k with
  | zero =>
    intro l listed g F m a w hk hsz hops hun hsort hanc hcl hpair hruns hf R hd hQ
    have hl : l = [] := List.eq_nil_of_length_eq_zero hk
    subst hl
    obtain ⟨rfl, rfl⟩ := hruns
    refine ⟨?_, hQ g a w (Map.le_refl g) hf R hd⟩
    rw [List.eq_nil_iff_forall_not_mem]
    intro j hj
    obtain ⟨h1, o, ho, _⟩ := mem_ready.1 hj
    have hjs : j < ops.size := (Array.getElem?_eq_some_iff.1 ho).1
    rw [getD_true (by omega)] at h1
    have := (hun j hjs).1 h1
    cases this
  | succ k ih =>
    intro l listed g F m a w hk hsz hops hun hsort hanc hcl hpair hruns hf R hd hQ
    have hidx : ∀ {it : It}, it ∈ l → it.i < ops.size := fun h => (Array.getElem?_eq_some_iff.1 (hops _ h)).1
    refine ⟨fun hnil => ?_, fun j hj => ?_⟩
    · -- the first that is not listed is ready
      exfalso
      cases l with
      | nil => simp at hk
      | cons it l =>
        have hmem : it.i ∈ Region.ready .any ops listed := by
          rw [mem_ready]
          refine ⟨?_, it.o, hops it List.mem_cons_self, fun e he hb => ?_⟩
          · rw [getD_true (by have := hidx (it := it) List.mem_cons_self; omega)]
            exact (hun it.i (hidx List.mem_cons_self)).2 (by simp)
          · have hlt := hlow it.i it.o (hops it List.mem_cons_self) e he hb
            cases hx : listed.getD e.on false with
            | true => rfl
            | false =>
              have hin := (hun e.on (by have := hidx (it := it) List.mem_cons_self; omega)).1 hx
              simp only [List.map_cons, List.mem_cons] at hin
              rcases hin with h | h
              · omega
              · rw [List.map_cons] at hsort
                have hlt2 : it.i < e.on := (List.pairwise_cons.1 hsort).1 e.on h
                omega
        rw [hnil] at hmem
        cases hmem
    · obtain ⟨h1, o, ho, hall⟩ := mem_ready.1 hj
      have hjs : j < ops.size := (Array.getElem?_eq_some_iff.1 ho).1
      rw [getD_true (by omega)] at h1
      obtain ⟨it, hit, rfl⟩ := List.mem_map.1 ((hun j hjs).1 h1)
      obtain ⟨pre, post, rfl⟩ := List.append_of_mem hit
      have hready : ∀ i, Anc ops i it.i → listed.getD i false = true := fun i hi => hi.ready hcl (fun o' ho' e he hb => by
        rw [ho] at ho'; cases ho'; exact hall e he hb)
      have hb : Runs C call ops.toList n (it :: (pre ++ post)) F m F' m' := by
        refine hruns.bubble (fun i hi => ⟨?_, ?_⟩)
        · exact (List.pairwise_append.1 hpair).2.2 i hi it List.mem_cons_self
        · cases hx : Nat.testBit it.anc i.i with
          | false => rfl
          | true =>
            exfalso
            have hli := hready i.i (hanc it (by simp) i.i hx)
            have hui := (hun i.i (hidx (by simp [hi]))).2 (by simp; exact .inl ⟨i, hi, rfl⟩)
            rw [hli] at hui; cases hui
      obtain ⟨q1, q2, q3⟩ := hb
      refine it_wp H hc q1 q2 (hops it (by simp)) hf R (fun g' v w' r1 r2 r3 => ?_)
      have hsub : (pre ++ post).Sublist (pre ++ it :: post) := (List.Sublist.refl pre).append (List.sublist_cons_self it post)
      have hne : ∀ i ∈ pre ++ post, i.i ≠ it.i := by
        intro i hi he
        rw [List.map_append, List.map_cons, List.pairwise_append] at hsort
        obtain ⟨s1, s2, s3⟩ := hsort
        rcases List.mem_append.1 hi with h | h
        · have := s3 i.i (List.mem_map_of_mem h) it.i List.mem_cons_self
          omega
        · have := (List.pairwise_cons.1 s2).1 i.i (List.mem_map_of_mem h)
          omega
      refine ih (pre ++ post) (listed.setIfInBounds it.i true) g' _ _ _ w' ?_ ?_ ?_ ?_ ?_ ?_ ?_ ?_ q3 ((hf.mono r1).put q1.dst r2) r3 (by rw [put_defers']; exact hd)
        (fun g2 a2 w2 s1 s2 s3 s4 => hQ g2 a2 w2 (Map.le_trans r1 s1) s2 s3 s4)
      · simp at hk ⊢; omega
      · simpa using hsz
      · exact fun i hi => hops i (hsub.subset hi)
      · intro i hi
        by_cases he : i = it.i
        · subst he
          constructor
          · intro h
            simp [hsz, hi] at h
          · intro h
            obtain ⟨i', hi', he'⟩ := List.mem_map.1 h
            exact absurd he' (hne i' hi')
        · rw [getD_set_ne false (Ne.symm he), hun i hi]
          simp only [List.map_append, List.map_cons, List.mem_append, List.mem_cons, he, false_or]
      · exact hsort.sublist (hsub.map _)
      · exact fun i hi => hanc i (hsub.subset hi)
      · intro i oi hoi hl e he hbd
        by_cases hii : i = it.i
        · subst hii
          rw [ho] at hoi; cases hoi
          exact getD_set_true (hall e he hbd)
        · rw [getD_set_ne false (Ne.symm hii)] at hl
          exact getD_set_true (hcl i oi hoi hl e he hbd)
      · exact hpair.sublist hsub
theorem allOk_spec {i : It} : ∀ {l : List It}, allOk C ops.toList i l = true → ∀ j ∈ l, pairOk C ops.toList i j = true
  | [], _, j, hj => by cases hj
  | k :: l, h, j, hj => by
    simp only [allOk, Bool.and_eq_true] at h
    cases hj with
    | head => exact h.1
    | tail _ hj => exact allOk_spec h.2 j hj
theorem pairsOk_spec : ∀ {l : List It}, pairsOk C ops.toList l = true → l.Pairwise (fun i j => pairOk C ops.toList i j = true)
  | [], _ => .nil
  | i :: l, h => by
    simp only [pairsOk, Bool.and_eq_true] at h
    exact .cons (allOk_spec h.1) (pairsOk_spec h.2)
theorem stepA_m {fr : Fr} {m m' : Mem} {o : Oper} {kd : Nat} {x : AV} (h : stepA C call ops.toList fr m o = some (kd, x, m')) : (kd = 2 ∨ m' = m) ∧ (kd = 1 → loadA C.P (evalA C fr) m o.op = some x) := by
  unfold stepA at h
  split at h
  · cases h; exact ⟨.inr rfl, fun h => by cases h⟩
  · split at h
    · cases h; exact ⟨.inr rfl, fun h => by cases h⟩
    · split at h
      · rename_i hl; cases h; exact ⟨.inr rfl, fun _ => hl⟩
      · split at h
        · cases h; exact ⟨.inl rfl, fun h => by cases h⟩
        · cases h
  · cases h
theorem traceA_spec : ∀ {rest : List Oper} {i : Nat} {ms : Tr Nat} {fr fr' : Fr} {m m' : Mem} {its : List It}, traceA C call ops.toList rest i ms fr m = some (its, fr', m') → (∀ k, rest[k]? = ops[i + k]?) →
    (∀ k a, ms.get k = some a → ∀ b, Nat.testBit a b = true → Anc ops b k) →
    its.map (·.i) = List.range' i rest.length ∧ (∀ it ∈ its, ops[it.i]? = some it.o) ∧ (∀ it ∈ its, ∀ b, Nat.testBit it.anc b = true → Anc ops b it.i) ∧
    (∀ it ∈ its, ∀ e ∈ it.o.after, Region.binds .any e = true → e.on < it.i) ∧ Runs C call ops.toList fr.n its fr.t.get m fr'.t.get m' ∧ fr'.n = fr.n
  | [], i, ms, fr, fr', m, m', its, h, hr, hms => by
    simp only [traceA, Option.some.injEq, Prod.mk.injEq] at h
    obtain ⟨rfl, rfl, rfl⟩ := h
    exact ⟨rfl, (fun it hit => nomatch hit), (fun it hit => nomatch hit), (fun it hit => nomatch hit), ⟨rfl, rfl⟩, rfl⟩
  | o :: rest, i, ms, fr, fr', m, m', its, h, hr, hms => by
    have ho : ops[i]? = some o := by have := hr 0; simpa using this.symm
    simp only [traceA] at h
    split at h
    · rename_i a kd x m1 ha hst
      split at h
      · rename_i fr1 hput
        split at h
        · rename_i its' fr2 m2 htr
          simp only [Option.some.injEq, Prod.mk.injEq] at h
          obtain ⟨rfl, rfl, rfl⟩ := h
          obtain ⟨ha1, ha2⟩ := ancOf_spec ho hms (fun e he => by simpa using he) ha (fun b hb => by simp at hb)
          obtain ⟨p1, p2, p3⟩ := put_upd hput
          obtain ⟨q1, q2, q3, q4, q5, q6⟩ := traceA_spec htr (fun k => by have := hr (k + 1); simpa [Nat.add_assoc, Nat.add_comm 1 k] using this) (fun k b hk b' hb' => by
            rw [Tr.get_set] at hk
            by_cases e : k = i
            · subst e; rw [if_pos rfl] at hk; cases hk; exact ha1 b' hb'
            · rw [if_neg e] at hk; exact hms k b hk b' hb')
          obtain ⟨s1, s2⟩ := stepA_m hst
          refine ⟨by simp [q1, List.range'_succ], fun it hit => ?_, fun it hit => ?_, fun it hit => ?_, ⟨⟨hst, p3⟩, ⟨fun _ _ => rfl, s2, fun _ => rfl⟩, ?_⟩, by rw [q6, p2]⟩
          · cases hit with
            | head => exact ho
            | tail _ hit => exact q2 it hit
          · cases hit with
            | head => exact ha1
            | tail _ hit => exact q3 it hit
          · cases hit with
            | head => exact fun e he hb => ha2 e (by simpa using he) hb
            | tail _ hit => exact q4 it hit
          · rw [← p1, ← p2]
            have : nextM ⟨o, i, a, kd, fr, m, x, m1⟩ m = m1 := by
              unfold nextM
              by_cases e : kd = 2
              · rw [if_pos e]
              · rw [if_neg e]; rcases s1 with h | h
                · exact absurd h e
                · exact h.symm
            rw [this]
            exact q5
        · cases h
      · cases h
    · cases h
theorem drawA_ok (H : C.Ok w0 base) : DrawOk C w0 base (drawA C) := by
  intro call hc id ops fr fr' m m' h g w a hf R hd Q hQ
  unfold drawA at h
  split at h
  · rename_i its fr1 m1 htr
    cases hp : pairsOk C ops.toList its with
    | false => simp [hp] at h
    | true =>
      simp only [hp, cond_true, Option.some.injEq, Prod.mk.injEq] at h
      obtain ⟨rfl, rfl⟩ := h
      obtain ⟨q1, q2, q3, q4, q5, q6⟩ := traceA_spec htr (fun k => by simp) (fun k a hk => by simp [Tr.get_nil] at hk)
      rw [Array.length_toList (xs := ops)] at q1
      refine wp_region_any H.mixed ?_
      have hlen : its.length = ops.size := by have := congrArg List.length q1; simpa using this
      refine wpAny_of_runs (n := fr.n) (F' := fr1.t.get) (m' := m1) H hc (fun k o ho e he hb => ?_) ops.size its (Array.replicate ops.size false) g fr.t.get m a _ hlen (by simp) q2 (fun j hj => ?_) ?_ q3 ?_ (pairsOk_spec hp) q5 hf.toF R.drew hd (fun g' a' w' s1 s2 s3 s4 => ?_)
      · have hk : k < ops.size := (Array.getElem?_eq_some_iff.1 ho).1
        have : k ∈ its.map (·.i) := by rw [q1, List.mem_range']; exact ⟨k, hk, by omega⟩
        obtain ⟨it, hit, rfl⟩ := List.mem_map.1 this
        have := q2 it hit
        rw [ho] at this; cases this
        exact q4 it hit e he hb
      · rw [q1]
        constructor
        · intro _; rw [List.mem_range']; exact ⟨j, hj, by omega⟩
        · intro _; simp [hj]
      · rw [q1]; exact List.pairwise_lt_range'
      · intro k o ho hl
        simp only [Array.getD_eq_getD_getElem?, Array.getElem?_replicate] at hl
        split at hl <;> cases hl
      · exact hQ g' a' w' ⟨s1, ⟨by rw [s2.size, q6], s2.slot⟩, s3, s4⟩
  · cases h
end

/-- V's calls, and the machine's -/
theorem call_sound {C : Cfg} {w0 : World} {base : Nat} (H : C.Ok w0 base) (n : Nat) : HCall C.P w0 base (Vz.call C (drawA C) n) :=
  call_of_exec H (fun c fr m ex fr' m' h => (exec_says H (drawA_ok H) n c fr m ex fr' m' h).1)
end Go.Vz

/-
  A LOGIC OF V's RUNS: with enough fuel.
-/
set_option linter.unusedVariables false
set_option linter.unusedSimpArgs false
namespace Go.Vz
open Go
section
variable {C : Cfg} {D : CallF → DrawF}
def EvC (C : Cfg) (D : CallF → DrawF) (f : FuncId) (args : List AV) (m : Mem) (x : AV) (m' : Mem) : Prop := ∃ N, ∀ k, N ≤ k → Vz.call C D k f args m = some (x, m')
def EvX (C : Cfg) (D : CallF → DrawF) (c : Code) (fr : Fr) (m : Mem) (Q : Ex → Fr → Mem → Prop) : Prop := ∃ e fr' m', Q e fr' m' ∧ ∃ N, ∀ k, N ≤ k → exec C D k c fr m = some (e, fr', m')
variable {fr fr' : Fr} {m m' : Mem} {Q : Ex → Fr → Mem → Prop}
theorem EvX.mono {c : Code} {Q' : Ex → Fr → Mem → Prop} (h : EvX C D c fr m Q) (hq : ∀ e fr m, Q e fr m → Q' e fr m) : EvX C D c fr m Q' :=
  let ⟨e, fr', m', q, r⟩ := h; ⟨e, fr', m', hq _ _ _ q, r⟩
theorem EvX.skip (h : Q .normal fr m) : EvX C D .skip fr m Q := ⟨_, _, _, h, 1, fun k hk => by obtain ⟨j, rfl⟩ : ∃ j, k = j + 1 := ⟨k - 1, by omega⟩; rfl⟩
theorem EvX.exit {i : Nat} (h : Q (.exit i) fr m) : EvX C D (.exit i) fr m Q := ⟨_, _, _, h, 1, fun k hk => by obtain ⟨j, rfl⟩ : ∃ j, k = j + 1 := ⟨k - 1, by omega⟩; rfl⟩
theorem EvX.ret (h : Q .ret fr m) : EvX C D .ret fr m Q := ⟨_, _, _, h, 1, fun k hk => by obtain ⟨j, rfl⟩ : ∃ j, k = j + 1 := ⟨k - 1, by omega⟩; rfl⟩
/-- go on with K, if it ends normally -/
def Ex.thn (K : Fr → Mem → Prop) (Q : Ex → Fr → Mem → Prop) : Ex → Fr → Mem → Prop
  | .normal, fr, m => K fr m
  | e, fr, m => Q e fr m
theorem EvX.seq {a b : Code} (h : EvX C D a fr m (Ex.thn (fun fr' m' => EvX C D b fr' m' Q) Q)) : EvX C D (.seq a b) fr m Q := by
  obtain ⟨e, fr1, m1, q, N, hN⟩ := h
  cases e with
  | normal =>
    obtain ⟨e2, fr2, m2, q2, N2, hN2⟩ := q
    refine ⟨e2, fr2, m2, q2, max N N2 + 1, fun k hk => ?_⟩
    obtain ⟨j, rfl⟩ : ∃ j, k = j + 1 := ⟨k - 1, by omega⟩
    rw [exec_seq, hN j (by omega)]
    exact hN2 j (by omega)
  | exit i =>
    refine ⟨_, _, _, q, N + 1, fun k hk => ?_⟩
    obtain ⟨j, rfl⟩ : ∃ j, k = j + 1 := ⟨k - 1, by omega⟩
    rw [exec_seq, hN j (by omega)]
  | ret =>
    refine ⟨_, _, _, q, N + 1, fun k hk => ?_⟩
    obtain ⟨j, rfl⟩ : ∃ j, k = j + 1 := ⟨k - 1, by omega⟩
    rw [exec_seq, hN j (by omega)]
theorem EvX.cond {x : Operand} {a b : Code} {t : Bool} (hx : evalA C fr x = some (.bool t)) (h : EvX C D (bif t then a else b) fr m Q) : EvX C D (.cond x a b) fr m Q := by
  obtain ⟨e, fr1, m1, q, N, hN⟩ := h
  refine ⟨_, _, _, q, N + 1, fun k hk => ?_⟩
  obtain ⟨j, rfl⟩ : ∃ j, k = j + 1 := ⟨k - 1, by omega⟩
  rw [exec_cond, hx]
  cases t <;> exact hN j (by omega)
def Ex.blk (id : Nat) (Q : Ex → Fr → Mem → Prop) : Ex → Fr → Mem → Prop
  | .exit i, fr, m => bif Nat.beq i id then Q .normal fr m else Q (.exit i) fr m
  | e, fr, m => Q e fr m
theorem EvX.block {id : Nat} {a : Code} (h : EvX C D a fr m (Ex.blk id Q)) : EvX C D (.block id a) fr m Q := by
  obtain ⟨e, fr1, m1, q, N, hN⟩ := h
  cases e with
  | normal =>
    refine ⟨_, _, _, q, N + 1, fun k hk => ?_⟩
    obtain ⟨j, rfl⟩ : ∃ j, k = j + 1 := ⟨k - 1, by omega⟩
    rw [exec_block, hN j (by omega)]
  | exit i =>
    simp only [Ex.blk] at q
    cases hb : Nat.beq i id with
    | true =>
      rw [hb, cond_true] at q
      refine ⟨_, _, _, q, N + 1, fun k hk => ?_⟩
      obtain ⟨j, rfl⟩ : ∃ j, k = j + 1 := ⟨k - 1, by omega⟩
      rw [exec_block, hN j (by omega)]
      simp only [hb, cond_true]
    | false =>
      rw [hb, cond_false] at q
      refine ⟨_, _, _, q, N + 1, fun k hk => ?_⟩
      obtain ⟨j, rfl⟩ : ∃ j, k = j + 1 := ⟨k - 1, by omega⟩
      rw [exec_block, hN j (by omega)]
      simp only [hb, cond_false]
  | ret =>
    refine ⟨_, _, _, q, N + 1, fun k hk => ?_⟩
    obtain ⟨j, rfl⟩ : ∃ j, k = j + 1 := ⟨k - 1, by omega⟩
    rw [exec_block, hN j (by omega)]
theorem EvX.loop {a : Code} (I : Nat → Fr → Mem → Prop) (step : ∀ n fr m, I n fr m → EvX C D a fr m (Ex.thn (fun fr' m' => ∃ n', n' < n ∧ I n' fr' m') Q)) : ∀ (n : Nat) (fr : Fr) (m : Mem), I n fr m → EvX C D (.loop a) fr m Q := by
  intro n
  induction n using Nat.strongRecOn with
  | _ n ih =>
    intro fr m hI
    obtain ⟨e, fr1, m1, q, N, hN⟩ := step n fr m hI
    cases e with
    | normal =>
      obtain ⟨n', hlt, hI'⟩ := q
      obtain ⟨e2, fr2, m2, q2, N2, hN2⟩ := ih n' hlt fr1 m1 hI'
      refine ⟨e2, fr2, m2, q2, max N N2 + 1, fun k hk => ?_⟩
      obtain ⟨j, rfl⟩ : ∃ j, k = j + 1 := ⟨k - 1, by omega⟩
      rw [exec_loop, hN j (by omega)]
      exact hN2 j (by omega)
    | exit i =>
      refine ⟨_, _, _, q, N + 1, fun k hk => ?_⟩
      obtain ⟨j, rfl⟩ : ∃ j, k = j + 1 := ⟨k - 1, by omega⟩
      rw [exec_loop, hN j (by omega)]
    | ret =>
      refine ⟨_, _, _, q, N + 1, fun k hk => ?_⟩
      obtain ⟨j, rfl⟩ : ∃ j, k = j + 1 := ⟨k - 1, by omega⟩
      rw [exec_loop, hN j (by omega)]
/-- a region without calls -/
theorem EvX.region {id : Nat} {ops : Array Oper} (h : ∀ call, runOps C call ops.toList ops.toList fr m = some (fr', m')) (q : Q .normal fr' m') : EvX C D (.region id ops false) fr m Q :=
  ⟨_, _, _, q, 1, fun k hk => by obtain ⟨j, rfl⟩ : ∃ j, k = j + 1 := ⟨k - 1, by omega⟩; rw [exec_region, h]; rfl⟩
/-- one with calls -/
theorem EvX.regionC {id : Nat} {ops : Array Oper} (N : Nat) (h : ∀ k, N ≤ k → runOps C (Vz.call C D k) ops.toList ops.toList fr m = some (fr', m')) (q : Q .normal fr' m') : EvX C D (.region id ops false) fr m Q :=
  ⟨_, _, _, q, N + 1, fun k hk => by obtain ⟨j, rfl⟩ : ∃ j, k = j + 1 := ⟨k - 1, by omega⟩; rw [exec_region, h j (by omega)]; rfl⟩
theorem EvX.draw {id : Nat} {ops : Array Oper} (N : Nat) (h : ∀ k, N ≤ k → D (Vz.call C D k) ops.toList fr m = some (fr', m')) (q : Q .normal fr' m') : EvX C D (.region id ops true) fr m Q :=
  ⟨_, _, _, q, N + 1, fun k hk => by obtain ⟨j, rfl⟩ : ∃ j, k = j + 1 := ⟨k - 1, by omega⟩; rw [exec_draw, h j (by omega)]; rfl⟩
/-- a call -/
theorem EvC.of {f : FuncId} {args : List AV} {fn : Func} {body : Code} {x : AV} (hp : C.isPrim f = false) (hf : C.P.funcs[f]? = some fn) (hb : fn.body = some body)
    (h : EvX C D body (enterA fn.ntmps args) m (fun e fr1 m1 => (match e with | .exit _ => False | _ => True) ∧ m1 = m' ∧ ∃ xs, Vz.results C.P m1 fr1 fn.results.toList = some xs ∧ one xs = x)) : EvC C D f args m x m' := by
  obtain ⟨e, fr1, m1, ⟨he, rfl, xs, hxs, rfl⟩, N, hN⟩ := h
  refine ⟨N, fun k hk => ?_⟩
  unfold Vz.call
  rw [hp, cond_false]
  simp only [hf, hb, hN k hk]
  cases e with
  | normal => simp only [hxs, Option.map_some]
  | exit _ => exact he.elim
  | ret => simp only [hxs, Option.map_some]
end
end Go.Vz

/-
  A REGION's RUN, step by step; a drawn region's too, if its table of edges allows.
-/
set_option linter.unusedVariables false
set_option linter.unusedSimpArgs false
namespace Go.Vz
open Go
section
variable {C : Cfg} {call : CallF}
/-- E: the operations (bits) that leave the memory as it is -/
def QRun (C : Cfg) (call : CallF) (ops : List Oper) (E : Nat) : List Oper → Nat → Fr → Mem → (Fr → Mem → Prop) → Prop
  | [], _, fr, m, K => K fr m
  | o :: rest, i, fr, m, K => match stepA C call ops fr m o with
    | some (kd, x, m1) => (bif Nat.testBit E i then m1 = m else True) ∧ (match fr.put o.dst x with
      | some fr1 => QRun C call ops E rest (i + 1) fr1 m1 K
      | none => False)
    | none => False
theorem stepA_run {ops : List Oper} {fr : Fr} {m m1 : Mem} {o : Oper} {kd : Nat} {x : AV} (h : stepA C call ops fr m o = some (kd, x, m1)) :
    (wantedA ops fr o = some false ∧ x = .tup [] ∧ m1 = m) ∨ (wantedA ops fr o = some true ∧ opA C call fr m o = some (x, m1)) := by
  unfold stepA at h
  split at h
  · rename_i hw
    simp only [Option.some.injEq, Prod.mk.injEq] at h
    exact .inl ⟨hw, h.2.1.symm, h.2.2.symm⟩
  · rename_i hw
    refine .inr ⟨hw, ?_⟩
    split at h
    · rename_i y hp
      simp only [Option.some.injEq, Prod.mk.injEq] at h
      unfold opA; rw [hp, ← h.2.1, ← h.2.2]
    · rename_i hp
      split at h
      · rename_i y hl
        simp only [Option.some.injEq, Prod.mk.injEq] at h
        unfold opA; rw [hp, hl, ← h.2.1, ← h.2.2]
      · split at h
        · rename_i y m2 ho
          simp only [Option.some.injEq, Prod.mk.injEq] at h
          rw [ho, ← h.2.1, ← h.2.2]
        · cases h
  · cases h
theorem QRun.runOps {ops : List Oper} {E : Nat} : ∀ {rest : List Oper} {i : Nat} {fr : Fr} {m : Mem} {K : Fr → Mem → Prop}, QRun C call ops E rest i fr m K → ∃ fr' m', K fr' m' ∧ Vz.runOps C call ops rest fr m = some (fr', m')
  | [], i, fr, m, K, h => ⟨fr, m, h, rfl⟩
  | o :: rest, i, fr, m, K, h => by
    unfold QRun at h
    split at h
    · rename_i kd x m1 hs
      obtain ⟨_, h⟩ := h
      split at h
      · rename_i fr1 hp
        obtain ⟨fr', m', hk, hr⟩ := QRun.runOps h
        refine ⟨fr', m', hk, ?_⟩
        unfold Vz.runOps
        rcases stepA_run hs with ⟨hw, rfl, rfl⟩ | ⟨hw, ho⟩
        · rw [hw]; simp only [hp]; exact hr
        · rw [hw]; simp only [ho, hp]; exact hr
      · exact h.elim
    · exact h.elim
variable {D : CallF → DrawF} {fr fr' : Fr} {m m' : Mem} {Q : Ex → Fr → Mem → Prop}
/-- a region in the text's order -/
theorem EvX.reg {id : Nat} {ops : Array Oper} (N : Nat) (h : ∀ k, N ≤ k → QRun C (Vz.call C D k) ops.toList 0 ops.toList 0 fr m (fun fr1 m1 => fr1 = fr' ∧ m1 = m')) (q : Q .normal fr' m') : EvX C D (.region id ops false) fr m Q :=
  EvX.regionC N (fun k hk => let ⟨_, _, ⟨e1, e2⟩, h⟩ := (h k hk).runOps; by rw [h, e1, e2]) q
theorem EvX.reg0 {id : Nat} {ops : Array Oper} (h : ∀ call, QRun C call ops.toList 0 ops.toList 0 fr m (fun fr1 m1 => fr1 = fr' ∧ m1 = m')) (q : Q .normal fr' m') : EvX C D (.region id ops false) fr m Q :=
  EvX.reg 0 (fun k _ => h _) q

/-! ### A drawn region -/
/-- what kind an operation may be, by its looks -/
def kindS (P : Program) : Op → Nat
  | .move _ | .assign _ | .pick .. | .nilCheck _ | .binOp .. | .unOp .. | .makeInterface .. | .makeFunc .. | .extract .. | .field .. | .index .. | .fieldAddr .. | .indexAddr .. | .build .. | .typeAssert .. => 0
  | .load .. | .lookup .. | .slice .. => 1
  | .convert _ d _ => match P.underlying d with
    | some (.int _) => 0
    | _ => 2
  | .call c => match c.callee with
    | .builtin .len => 1
    | .builtin .min | .builtin .max | .builtin .unsafeSliceData => 0
    | _ => 2
  | _ => 2
def masksA : List Oper → Nat → Tr Nat → Option (List Nat)
  | [], _, _ => some []
  | o :: rest, i, ms => match ancOf ms i o.after.toList 0 with
    | some a => match masksA rest (i + 1) (ms.set i a) with
      | some l => some (a :: l)
      | none => none
    | none => none
def pairS (P : Program) (ops : List Oper) (E : Nat) (q : Bool) (i : Nat) (oi : Oper) (j : Nat) (oj : Oper) (aj : Nat) : Bool :=
  bif Nat.testBit aj i then true else
    dstOut oi.dst (looksA ops oj) && dstNe oi.dst oj.dst && dstOut oj.dst (looksA ops oi) &&
    (match kindS P oi.op, kindS P oj.op with
    | 0, _ | _, 0 | 1, 1 => true
    | 2, 1 => Nat.testBit E i && q
    | 1, 2 => Nat.testBit E j && q
    | _, _ => false)
/-- q: what stands between i and j leaves the memory as it is -/
def allS (P : Program) (ops : List Oper) (E : Nat) (q : Bool) (i : Nat) (oi : Oper) : List Oper → List Nat → Nat → Bool
  | [], _, _ => true
  | oj :: rest, aj :: as, j => pairS P ops E q i oi j oj aj && allS P ops E (q && (Nat.testBit E j || Nat.ble (kindS P oj.op) 1)) i oi rest as (j + 1)
  | _ :: _, [], _ => false
def pairsS (P : Program) (ops : List Oper) (E : Nat) : List Oper → List Nat → Nat → Bool
  | [], _, _ => true
  | oi :: rest, _ :: as, i => allS P ops E true i oi rest as (i + 1) && pairsS P ops E rest as (i + 1)
  | _ :: _, [], _ => false
/-- does the table of edges allow it? -/
def okQ (P : Program) (ops : List Oper) (E : Nat) : Bool := match masksA ops 0 .nil with
  | some l => pairsS P ops E ops l 0
  | none => false
theorem kindS_pure {P : Program} {r : Operand → Option AV} {m : Mem} {o : Op} (h : kindS P o = 0) : loadA P r m o = none ∧ effA P r m o = none := by
  cases o <;> simp only [kindS] at h <;> (try cases h) <;> (try exact ⟨rfl, rfl⟩)
  case convert s d x =>
    split at h
    · rename_i k hd
      refine ⟨?_, ?_⟩
      · simp only [loadA, hd]
        split <;> first | rfl | (rename_i h1 _; cases h1) | (rename_i h1; cases h1)
      · simp only [effA, hd]
        split <;> first | rfl | (rename_i h1 _; cases h1) | (rename_i h1; cases h1)
    · cases h
  case call c =>
    split at h
    all_goals first | (exact absurd h (by decide)) | (rename_i hc; refine ⟨by simp only [loadA, hc], by simp only [effA, hc]⟩)
theorem kindS_load {P : Program} {r : Operand → Option AV} {m : Mem} {o : Op} (h : kindS P o = 1) : effA P r m o = none := by
  cases o <;> simp only [kindS] at h <;> (try cases h) <;> (try rfl)
  case convert s d x => split at h <;> cases h
  case call c =>
    split at h
    all_goals first | (exact absurd h (by decide)) | (rename_i hc; simp only [effA, hc])
theorem stepA_kind {ops : List Oper} {fr : Fr} {m m1 : Mem} {o : Oper} {kd : Nat} {x : AV} (h : stepA C call ops fr m o = some (kd, x, m1)) :
    (kindS C.P o.op = 0 → kd = 0) ∧ (kindS C.P o.op = 1 → kd = 0 ∨ kd = 1) ∧ (kd = 0 ∨ kd = 1 ∨ kd = 2) ∧ (kd ≠ 2 → m1 = m) ∧ (kd = 1 → loadA C.P (evalA C fr) m o.op = some x) := by
  have key : ∀ k, k ≠ 2 → effA C.P (evalA C fr) m o.op = none → pureA C.P (evalA C fr) o.op = none → loadA C.P (evalA C fr) m o.op = none → opA C call fr m o = none := fun _ _ h1 h2 h3 => by
    unfold opA; rw [h2, h3, h1]
  unfold stepA at h
  split at h
  · simp only [Option.some.injEq, Prod.mk.injEq] at h
    obtain ⟨rfl, rfl, rfl⟩ := h
    exact ⟨fun _ => rfl, fun _ => .inl rfl, .inl rfl, fun _ => rfl, fun h => by cases h⟩
  · split at h
    · simp only [Option.some.injEq, Prod.mk.injEq] at h
      obtain ⟨rfl, rfl, rfl⟩ := h
      exact ⟨fun _ => rfl, fun _ => .inl rfl, .inl rfl, fun _ => rfl, fun h => by cases h⟩
    · rename_i hp
      split at h
      · rename_i y hl
        simp only [Option.some.injEq, Prod.mk.injEq] at h
        obtain ⟨rfl, rfl, rfl⟩ := h
        refine ⟨fun h0 => ?_, fun _ => .inr rfl, .inr (.inl rfl), fun _ => rfl, fun _ => hl⟩
        rw [(kindS_pure h0).1] at hl; cases hl
      · rename_i hl
        split at h
        · rename_i y m2 ho
          simp only [Option.some.injEq, Prod.mk.injEq] at h
          obtain ⟨rfl, rfl, rfl⟩ := h
          refine ⟨fun h0 => ?_, fun h0 => ?_, .inr (.inr rfl), fun h => absurd rfl h, fun h => by cases h⟩
          · rw [key 0 (by decide) (kindS_pure h0).2 hp hl] at ho; cases ho
          · rw [key 0 (by decide) (kindS_load h0) hp hl] at ho; cases ho
        · cases h
  · cases h
/-- the memories of a trace hang together -/
def ChainM : List It → Mem → Prop
  | [], _ => True
  | it :: l, m => it.m = m ∧ ChainM l it.m'
structure ItQ (C : Cfg) (call : CallF) (ops : List Oper) (E : Nat) (it : It) : Prop where
  step : stepA C call ops it.fr it.m it.o = some (it.kd, it.x, it.m')
  quiet : Nat.testBit E it.i = true → it.m' = it.m
theorem QRun.trace {ops : List Oper} {E : Nat} : ∀ {rest : List Oper} {as : List Nat} {i : Nat} {ms : Tr Nat} {fr : Fr} {m : Mem} {K : Fr → Mem → Prop}, masksA rest i ms = some as → QRun C call ops E rest i fr m K →
    ∃ its fr' m', K fr' m' ∧ traceA C call ops rest i ms fr m = some (its, fr', m') ∧ its.map (·.o) = rest ∧ its.map (·.anc) = as ∧ its.map (·.i) = List.range' i rest.length ∧ ChainM its m ∧ ∀ it ∈ its, ItQ C call ops E it
  | [], as, i, ms, fr, m, K, hm, h => by
    simp only [masksA, Option.some.injEq] at hm
    subst hm
    exact ⟨[], fr, m, h, rfl, rfl, rfl, rfl, trivial, (fun it hit => nomatch hit)⟩
  | o :: rest, as, i, ms, fr, m, K, hm, h => by
    simp only [masksA] at hm
    cases ha : ancOf ms i o.after.toList 0 with
    | none => simp [ha] at hm
    | some a =>
      simp only [ha] at hm
      cases hr : masksA rest (i + 1) (ms.set i a) with
      | none => simp [hr] at hm
      | some l =>
        simp only [hr, Option.some.injEq] at hm
        subst hm
        unfold QRun at h
        split at h
        · rename_i kd x m1 hs
          obtain ⟨hq, h⟩ := h
          split at h
          · rename_i fr1 hp
            obtain ⟨its, fr', m', q1, q2, q3, q4, q5, q6, q7⟩ := QRun.trace hr h
            refine ⟨⟨o, i, a, kd, fr, m, x, m1⟩ :: its, fr', m', q1, ?_, by simp [q3], by simp [q4], by simp [q5, List.range'_succ], ⟨rfl, q6⟩, fun it hit => ?_⟩
            · simp only [traceA, ha, hs, hp, q2]
            · cases hit with
              | head => exact ⟨hs, fun hb => by simp only at hb; rw [hb] at hq; exact hq⟩
              | tail _ hit => exact q7 it hit
          · exact h.elim
        · exact h.elim
theorem pairOk_of {ops : List Oper} {E : Nat} {q : Bool} {i j : It} (hi : ItQ C call ops E i) (hj : ItQ C call ops E j) (hq : q = true → j.m = i.m') (h : pairS C.P ops E q i.i i.o j.i j.o j.anc = true) : pairOk C ops i j = true := by
  obtain ⟨a1, a2, a3, a4, a5⟩ := stepA_kind hi.step
  obtain ⟨b1, b2, b3, b4, b5⟩ := stepA_kind hj.step
  unfold pairS at h
  unfold pairOk
  cases ht : Nat.testBit j.anc i.i with
  | true => simp
  | false =>
    rw [ht, cond_false] at h
    rw [cond_false]
    rw [Bool.and_eq_true] at h ⊢
    refine ⟨h.1, ?_⟩
    have h2 := h.2
    have same : ∀ {it : It} {M : Mem}, loadA C.P (evalA C it.fr) M it.o.op = some it.x → loadsSame C it M = true := fun h => by
      unfold loadsSame; rw [h]; exact beqA_refl _
    rcases a3 with ha | ha | ha <;> rcases b3 with hb | hb | hb <;> rw [ha, hb] <;> try rfl
    · -- i reads, j acts
      have hki : kindS C.P i.o.op ≠ 0 := fun e => by rw [a1 e] at ha; cases ha
      have hkj : kindS C.P j.o.op ≠ 0 := fun e => by rw [b1 e] at hb; cases hb
      have hkj1 : kindS C.P j.o.op ≠ 1 := fun e => by rcases b2 e with e | e <;> rw [e] at hb <;> cases hb
      split at h2
      · exact absurd ‹_› hki
      · exact absurd ‹_› hkj
      · exact absurd ‹_› hkj1
      · rename_i e1; exact absurd e1 hkj1
      · rw [Bool.and_eq_true] at h2
        show loadsSame C i j.m' = true
        have e1 := hj.quiet h2.1
        have e2 := hq h2.2
        have e3 := a4 (by rw [ha]; decide)
        rw [e1, e2, e3]
        exact same (a5 ha)
      · cases h2
    · -- i acts, j reads
      have hki : kindS C.P i.o.op ≠ 0 := fun e => by rw [a1 e] at ha; cases ha
      have hki1 : kindS C.P i.o.op ≠ 1 := fun e => by rcases a2 e with e | e <;> rw [e] at ha <;> cases ha
      have hkj : kindS C.P j.o.op ≠ 0 := fun e => by rw [b1 e] at hb; cases hb
      split at h2
      · exact absurd ‹_› hki
      · exact absurd ‹_› hkj
      · exact absurd ‹_› hki1
      · rw [Bool.and_eq_true] at h2
        show loadsSame C j i.m = true
        have e1 := hi.quiet h2.1
        have e2 := hq h2.2
        rw [← e1, ← e2]
        exact same (b5 hb)
      · rename_i e1 _; exact absurd e1 hki1
      · cases h2
    · -- both act
      have hki : kindS C.P i.o.op ≠ 0 := fun e => by rw [a1 e] at ha; cases ha
      have hki1 : kindS C.P i.o.op ≠ 1 := fun e => by rcases a2 e with e | e <;> rw [e] at ha <;> cases ha
      have hkj : kindS C.P j.o.op ≠ 0 := fun e => by rw [b1 e] at hb; cases hb
      have hkj1 : kindS C.P j.o.op ≠ 1 := fun e => by rcases b2 e with e | e <;> rw [e] at hb <;> cases hb
      split at h2
      · exact absurd ‹_› hki
      · exact absurd ‹_› hkj
      · exact absurd ‹_› hki1
      · rename_i e1; exact absurd e1 hkj1
      · rename_i e1 _; exact absurd e1 hki1
      · cases h2
theorem allOk_of {ops : List Oper} {E : Nat} {i : It} (hi : ItQ C call ops E i) : ∀ {l : List It} {q : Bool} {k : Nat} {mc : Mem}, (∀ it ∈ l, ItQ C call ops E it) → ChainM l mc → l.map (·.i) = List.range' k l.length → (q = true → mc = i.m') →
    allS C.P ops E q i.i i.o (l.map (·.o)) (l.map (·.anc)) k = true → allOk C ops i l = true
  | [], _, _, _, _, _, _, _, _ => rfl
  | j :: l, q, k, mc, hl, hc, hk, hq, h => by
    obtain ⟨hm, hc⟩ := hc
    simp only [List.map_cons, List.length_cons, List.range'_succ, List.cons.injEq] at hk
    simp only [List.map_cons, allS, Bool.and_eq_true] at h
    have hj := hl j List.mem_cons_self
    simp only [allOk, Bool.and_eq_true]
    refine ⟨pairOk_of hi hj (fun e => by rw [hm]; exact hq e) (by rw [hk.1]; exact h.1), allOk_of hi (fun it hit => hl it (List.mem_cons_of_mem _ hit)) hc hk.2 (fun e => ?_) h.2⟩
    rw [Bool.and_eq_true, Bool.or_eq_true] at e
    rw [← hq e.1, ← hm]
    rcases e.2 with e2 | e2
    · exact hj.quiet (by rw [hk.1]; exact e2)
    · obtain ⟨b1, b2, b3, b4, b5⟩ := stepA_kind hj.step
      refine b4 (fun e3 => ?_)
      have hle := Nat.le_of_ble_eq_true e2
      have hk0 : kindS C.P j.o.op ≠ 0 := fun e => by rw [b1 e] at e3; cases e3
      have hk1 : kindS C.P j.o.op ≠ 1 := fun e => by rcases b2 e with e | e <;> rw [e] at e3 <;> cases e3
      omega
theorem pairsOk_of {ops : List Oper} {E : Nat} : ∀ {l : List It} {k : Nat} {mc : Mem}, (∀ it ∈ l, ItQ C call ops E it) → ChainM l mc → l.map (·.i) = List.range' k l.length →
    pairsS C.P ops E (l.map (·.o)) (l.map (·.anc)) k = true → pairsOk C ops l = true
  | [], _, _, _, _, _, _ => rfl
  | i :: l, k, mc, hl, hc, hk, h => by
    obtain ⟨hm, hc⟩ := hc
    simp only [List.map_cons, List.length_cons, List.range'_succ, List.cons.injEq] at hk
    simp only [List.map_cons, pairsS, Bool.and_eq_true] at h
    simp only [pairsOk, Bool.and_eq_true]
    exact ⟨allOk_of (hl i List.mem_cons_self) (fun it hit => hl it (List.mem_cons_of_mem _ hit)) hc hk.2 (fun _ => rfl) (by rw [hk.1]; exact h.1), pairsOk_of (fun it hit => hl it (List.mem_cons_of_mem _ hit)) hc hk.2 h.2⟩
theorem QRun.draw {ops : List Oper} {E : Nat} (hok : okQ C.P ops E = true) {fr : Fr} {m : Mem} {K : Fr → Mem → Prop} (h : QRun C call ops E ops 0 fr m K) : ∃ fr' m', K fr' m' ∧ drawA C call ops fr m = some (fr', m') := by
  unfold okQ at hok
  split at hok
  · rename_i as hm
    obtain ⟨its, fr', m', q1, q2, q3, q4, q5, q6, q7⟩ := h.trace hm
    refine ⟨fr', m', q1, ?_⟩
    have hlen : its.length = ops.length := by have := congrArg List.length q3; simpa using this
    have := pairsOk_of (k := 0) q7 q6 (by rw [q5, hlen]) (by rw [q3, q4]; exact hok)
    unfold drawA
    rw [q2]
    simp only [this, cond_true]
  · cases hok
/-- a drawn region -/
theorem EvX.drw {id : Nat} {ops : Array Oper} (E N : Nat) (hok : okQ C.P ops.toList E = true) (h : ∀ k, N ≤ k → QRun C (Vz.call C (drawA C) k) ops.toList E ops.toList 0 fr m (fun fr1 m1 => fr1 = fr' ∧ m1 = m')) (q : Q .normal fr' m') : EvX C (drawA C) (.region id ops true) fr m Q :=
  EvX.draw N (fun k hk => let ⟨_, _, ⟨e1, e2⟩, h⟩ := (h k hk).draw hok; by rw [h, e1, e2]) q
end
end Go.Vz
