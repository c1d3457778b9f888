/-
  V's PURE OPERATIONS: all of them.
-/
import Derived.Test.YtgagkmbhlpmceaaGreatDoorVzPure4
set_option linter.unusedVariables false
set_option linter.unusedSimpArgs false
namespace Go.Vz
open Go Go.RowKit
section
variable {w0 : World} {base : Nat} {g : Map} {P : Program} {r : Operand → Option AV} {ρ : Operand → Value}

/-- an operation comes to a value, whatever the world -/
def PureTo (w0 : World) (base : Nat) (g : Map) (P : Program) (s : Sem Next) (x : AV) : Prop := ∃ v, VRel w0 base g x v ∧ ∀ w, s.run P w = .ok (.value v) w
/-- the same of a value -/
def ValTo (w0 : World) (base : Nat) (g : Map) (P : Program) (s : Sem Value) (x : AV) : Prop := ∃ v, VRel w0 base g x v ∧ ∀ w, s.run P w = .ok v w
theorem ValTo.next {s : Sem Value} {x : AV} (h : ValTo w0 base g P s x) : PureTo w0 base g P (do pure (Next.value (← s))) x :=
  let ⟨v, h1, h2⟩ := h; ⟨v, h1, fun w => by rw [Sem.run_bind, h2]; rfl⟩

theorem VRel.congr {x : AV} {v u : Value} (h : VRel w0 base g x v) (e : v = u) : VRel w0 base g x u := e ▸ h
theorem add_add (a : Addr) (m n : Nat) (h : a.spot = none) : (a.add m).add n = a.add (m + n) := by
  obtain ⟨b, o, s⟩ := a
  simp only at h
  subst h
  rw [Addr.add_lit, Addr.add_lit, Addr.add_lit, Nat.add_assoc]

theorem binA_run {op : BinOp} {t : TypeId} {ox oy : Operand} {x y : AV} {u v : Value} {z : AV} (h : binA P op t ox oy x y = some z) (hx : VRel w0 base g x u) (hy : VRel w0 base g y v) :
    ValTo w0 base g P (do eqGuard op t ox oy u v; Go.binOp op t u v) z := by
  unfold binA at h
  split at h
  · rename_i k a k' b
    cases hx; cases hy
    have hg : ∀ w, (eqGuard op t ox oy (.int k a) (.int k' b)).run P w = .ok () w := fun w => by cases op <;> rfl
    by_cases hs : op = .shl ∨ op = .shr
    · have h' : shiftA op k a b = some z := by rcases hs with rfl | rfl <;> exact h
      obtain ⟨v, h1, h2⟩ := shiftA_run (w0 := w0) (base := base) (g := g) (P := P) (k' := k') hs h' t
      exact ⟨v, h1, fun w => by rw [Sem.run_bind, hg, Result.andThen_ok, h2]⟩
    · have h' : (if k = k' then bin op k a b else none) = some z := by
        split at h
        · exact absurd (Or.inl rfl) hs
        · exact absurd (Or.inr rfl) hs
        · exact h
      split at h'
      · rename_i e
        subst e
        obtain ⟨v, h1, h2⟩ := bin_run (w0 := w0) (base := base) (g := g) (P := P) ⟨fun e => hs (.inl e), fun e => hs (.inr e)⟩ h' t
        exact ⟨v, h1, fun w => by rw [Sem.run_bind, hg, Result.andThen_ok, h2]⟩
      · cases h'
  · cases hx with | str _ s e => cases hy with | str _ s' e' =>
      subst e; subst e'
      have hg : ∀ w, (eqGuard op t ox oy (.string s) (.string s')).run P w = .ok () w := fun w => by cases op <;> rfl
      obtain ⟨v, h1, h2⟩ := binS_run (w0 := w0) (base := base) (g := g) (P := P) h t
      exact ⟨v, h1, fun w => by rw [Sem.run_bind, hg, Result.andThen_ok, h2]⟩
  · cases hx; cases hy
    split at h
    · rename_i ms hu
      cases hl : isLitNil ox || isLitNil oy with
      | false => simp [hl] at h
      | true =>
        simp only [hl, cond_true] at h
        have hc : ((match ox with | .const _ => true | _ => false) || (match oy with | .const _ => true | _ => false)) = true := by
          rcases Bool.or_eq_true_iff.1 hl with h1 | h1
          · unfold isLitNil at h1; split at h1
            · exact Bool.or_eq_true_iff.2 (.inl rfl)
            · cases h1
          · unfold isLitNil at h1; split at h1
            · exact Bool.or_eq_true_iff.2 (.inr rfl)
            · cases h1
        have hg : ∀ w, (eqGuard op t ox oy .nilIface .nilIface).run P w = .ok () w := fun w => by
          cases op <;> simp only [eqGuard] <;> first | rfl | skip
          all_goals (
            cases ox <;> cases oy <;> first
              | rfl
              | (cases hc; done))
        have he : ∀ w, (Op.equal t .nilIface .nilIface).run P w = .ok true w := fun w => by rw [Op.equal, Op.maxDepth, Op.equalIn, Sem.run_bind, run_underlying hu]; rfl
        split at h <;> cases h
        · exact ⟨_, .bool _, fun w => by rw [Sem.run_bind, hg, Result.andThen_ok]; simp only [Go.binOp, Sem.run_bind, he, Result.andThen_ok, Sem.run_pure]⟩
        · exact ⟨_, .bool _, fun w => by rw [Sem.run_bind, hg, Result.andThen_ok]; simp only [Go.binOp, Sem.run_bind, he, Result.andThen_ok, Sem.run_pure]; rfl⟩
    · cases h
  · split at h
    · cases he : eqA P t x y with
      | none => simp [he] at h
      | some b =>
        simp only [he, Option.map_some, Option.some.injEq] at h
        subst h
        obtain ⟨_, h2, h3⟩ := eqA_run he hx hy
        exact ⟨_, .bool b, fun w => by rw [Sem.run_bind, h2, Result.andThen_ok, h3 .eql (.inl rfl) w]⟩
    · cases he : eqA P t x y with
      | none => simp [he] at h
      | some b =>
        simp only [he, Option.map_some, Option.some.injEq] at h
        subst h
        obtain ⟨_, h2, h3⟩ := eqA_run he hx hy
        exact ⟨_, .bool (!b), fun w => by rw [Sem.run_bind, h2, Result.andThen_ok, h3 .neq (.inr rfl) w]⟩
    · cases h

theorem unA_run {op : UnOp} {x : AV} {u : Value} {z : AV} (h : unA op x = some z) (hx : VRel w0 base g x u) : ValTo w0 base g P (Op.unary op u) z := by
  unfold unA at h
  split at h
  · cases hx; cases h; exact ⟨_, .int _ _, fun w => by simp [Op.unary, Op.intArith]⟩
  · cases hx; simp only [bin] at h; cases h; exact ⟨_, .int _ _, fun w => by simp [Op.unary, Op.intBits]⟩
  · cases hx; cases h; exact ⟨_, .bool _, fun w => by simp [Op.unary]⟩
  · cases h
theorem convA_run {s d : TypeId} {x : AV} {u : Value} {z : AV} (h : convA P s d x = some z) (hx : VRel w0 base g x u) : ValTo w0 base g P (convert s d u) z := by
  unfold convA at h
  split at h
  · rename_i ds k k' n hs hd
    cases hx; cases h
    exact ⟨_, .int _ _, fun w => by simp [convert, run_underlying hd, run_underlying hs, Conv.intToInt]⟩
  · rename_i ds l hs hd
    cases hx with | str _ s' e =>
    subst e
    cases h
    exact ⟨_, .str _ s' rfl, fun w => by simp [convert, run_underlying hd, run_underlying hs]⟩
  · cases h

theorem lenA_run {ats : Array TypeId} {t ty : TypeId} {x : AV} {u : Value} {z : AV} (ht : ats[0]? = some t) (h : lenA P t x = some z) (hx : VRel w0 base g x u) : ValTo w0 base g P (Builtin.len_ ats ty #[u]) z := by
  unfold lenA at h
  split at h
  · rename_i hu; cases hx with | str _ s e => subst e; cases h; exact ⟨_, .int _ _, fun w => by rw [natOf_length]; simp [Builtin.len_, ht, run_underlying hu, goInt]⟩
  · rename_i hu; cases hx; cases h; exact ⟨_, .int _ _, fun w => by simp [Builtin.len_, ht, run_underlying hu, goInt]⟩
  · rename_i hu; cases hx <;> cases h <;> exact ⟨_, .int _ _, fun w => by simp [Builtin.len_, ht, run_underlying hu, goInt]⟩
  · rename_i hu; cases hx; cases h; exact ⟨_, .int _ _, fun w => by simp [Builtin.len_, ht, run_underlying hu, goInt]⟩
  · rename_i hu; cases h; exact ⟨_, .int _ _, fun w => by simp [Builtin.len_, ht, run_underlying hu, goInt]⟩
  · rename_i hu; cases hx; cases h; exact ⟨_, .int _ _, fun w => by simp [Builtin.len_, ht, run_underlying hu, goInt]⟩
  · cases h

/-- a cut of what came in -/
theorem VRels.cut {xs : List AV} {us : List Value} (h : VRels w0 base g xs us) (l k : Nat) : VRels w0 base g ((xs.take k).drop l) ((us.take k).drop l) := (h.take k).drop l
theorem cut_cells {a : Addr} {us : List Value} (hc : ∀ j u, us[j]? = some u → w0.cell? (a.add j) = some u) (hs : us ≠ [] → a.spot = none) (l k : Nat) :
    ∀ j u, ((us.take k).drop l)[j]? = some u → w0.cell? ((a.add l).add j) = some u := by
  intro j u hu
  rw [List.getElem?_drop] at hu
  have h1 : us[l + j]? = some u := by
    rw [List.getElem?_take] at hu
    split at hu
    · exact hu
    · cases hu
  rw [add_add _ _ _ (hs (by intro e; rw [e] at h1; simp at h1))]
  exact hc _ _ h1

theorem sliceA_run {t : TypeId} {x : AV} {u : Value} {z : AV} {lo hi : Option Operand} (hr : ∀ y a, r y = some a → VRel w0 base g a (ρ y)) (h : sliceA P r t x lo hi = some z) (hx : VRel w0 base g x u) :
    ValTo w0 base g P (Instr.sliceAt t u (lo.map ρ) (hi.map ρ) none) z := by
  unfold sliceA at h
  split at h
  · rename_i l hu
    cases hx with | str _ s e =>
    subst e
    cases hb : bounds r lo hi (natOf s).length with
    | none => simp [hb] at h
    | some lh =>
      obtain ⟨l, k⟩ := lh
      simp only [hb] at h
      cases h
      rw [natOf_length] at hb
      obtain ⟨h1, h2, h3⟩ := bounds_run (P := P) hr hb (Nat.le_refl _) false
      refine ⟨.string (s.extract l k), .str _ _ (natOf_extract s l k), fun w => ?_⟩
      simp [Instr.sliceAt, Instr.slice, run_underlying hu, h3]
  · rename_i e v k n sz hu
    cases hsz : sizeT P e with
    | none => simp [hsz] at h
    | some zz =>
      cases hb : bounds r lo hi n with
      | none => simp [hsz, hb] at h
      | some lh =>
        obtain ⟨l, m⟩ := lh
        simp only [hsz, hb] at h
        cases he : Nat.beq zz sz with
        | false => simp [he] at h
        | true =>
          simp only [he, cond_true] at h
          cases h
          have := Nat.eq_of_beq_eq_true he
          subst this
          cases hx with | sl _ _ _ _ a cap p hv hn hm hp =>
          obtain ⟨h1, h2, h3⟩ := bounds_run (P := P) hr hb hn true
          refine ⟨.slice (some (if cap = l then a else a.add (l * zz))) (m - l) (cap - l), ?_, fun w => ?_⟩
          · refine .sl v _ _ _ _ _ p hv (by omega) (by omega) (fun hlt => ?_)
            obtain ⟨o, ha, ho, hb⟩ := hp (by omega)
            refine ⟨o + l * zz, by rw [if_neg (by omega), ha, Addr.add_lit], by omega, ?_⟩
            have : l * zz + (cap - l) * zz = cap * zz := by rw [← Nat.add_mul]; congr 1; omega
            omega
          · simp only [Instr.sliceAt, Sem.run_bind, run_underlying hu, Result.andThen_ok, Instr.slice, h3, sizeT_run hsz, Sem.run_pure]
            split <;> rfl
  · rename_i e cs n sz hu
    cases hsz : sizeT P e with
    | none => simp [hsz] at h
    | some zz =>
      cases hb : bounds r lo hi n with
      | none => simp [hsz, hb] at h
      | some lh =>
        obtain ⟨l, m⟩ := lh
        simp only [hsz, hb] at h
        cases he : Nat.beq zz sz with
        | false => simp [he] at h
        | true =>
          simp only [he, cond_true] at h
          cases h
          have := Nat.eq_of_beq_eq_true he
          subst this
          cases hx with
          | ron _ =>
            obtain ⟨h1, h2, h3⟩ := bounds_run (P := P) hr hb (Nat.le_refl 0) true
            have hm : m = 0 := by omega
            have hl : l = 0 := by omega
            subst hm; subst hl
            exact ⟨.slice none 0 0, by simpa using VRel.ron zz, fun w => by
              simp only [Instr.sliceAt, Sem.run_bind, run_underlying hu, Result.andThen_ok, Instr.slice, h3, sizeT_run hsz, Sem.run_pure]
              rfl⟩
          | ro _ _ _ a cap us hn hlen hs hc hrel =>
            obtain ⟨h1, h2, h3⟩ := bounds_run (P := P) hr hb hn true
            have hul : us.length = n * zz := by rw [← hrel.length]; exact hlen
            have hsp : us ≠ [] → a.spot = none := fun hne => (hs (by rw [hlen, ← hul]; exact List.length_pos_iff.2 hne)).1
            have hle : m * zz ≤ n * zz := Nat.mul_le_mul_right _ h2
            have hlz : l * zz ≤ m * zz := Nat.mul_le_mul_right _ h1
            have hlen' : ((cs.take (m * zz)).drop (l * zz)).length = (m - l) * zz := by
              rw [List.length_drop, List.length_take, hlen, Nat.sub_mul]; omega
            refine ⟨.slice (some (if cap = l then a else a.add (l * zz))) (m - l) (cap - l), ?_, fun w => ?_⟩
            · by_cases hcl : cap = l
              · rw [if_pos hcl]
                have hml : m = l := by omega
                subst hml
                have hnil : ((cs.take (m * zz)).drop (m * zz)) = [] := List.eq_nil_of_length_eq_zero (by rw [hlen']; simp)
                rw [hnil]
                exact .ro [] _ _ a _ [] (by omega) (by simp) (fun h => by simp at h) (fun j u h => by simp at h) .nil
              · rw [if_neg hcl]
                refine .ro _ _ _ _ _ ((us.take (m * zz)).drop (l * zz)) (by omega) hlen' (fun hpos => ?_) (cut_cells hc hsp _ _) (hrel.cut _ _)
                have hpos' : 0 < cs.length := by
                  rcases Nat.eq_zero_or_pos cs.length with h0 | h0
                  · rw [List.eq_nil_of_length_eq_zero h0] at hpos; simp at hpos
                  · exact h0
                obtain ⟨hs1, hs2⟩ := hs hpos'
                obtain ⟨ab, ao, asp⟩ := a
                simp only at hs1 hs2
                subst hs1
                rw [Addr.add_lit]
                exact ⟨rfl, hs2⟩
            · simp only [Instr.sliceAt, Sem.run_bind, run_underlying hu, Result.andThen_ok, Instr.slice, h3, sizeT_run hsz, Sem.run_pure]
              split <;> rfl
  · rename_i e hu
    cases hsz : sizeT P e with
    | none => simp [hsz] at h
    | some zz =>
      cases hb : bounds r lo hi 0 with
      | none => simp [hsz, hb] at h
      | some lh =>
        obtain ⟨l, m⟩ := lh
        simp only [hsz, hb] at h
        cases h
        cases hx
        obtain ⟨h1, h2, h3⟩ := bounds_run (P := P) hr hb (Nat.le_refl 0) true
        have hm : m = 0 := by omega
        have hl : l = 0 := by omega
        subst hm; subst hl
        exact ⟨_, .nilsl, fun w => by
          simp only [Instr.sliceAt, Sem.run_bind, run_underlying hu, Result.andThen_ok, Instr.slice, h3, sizeT_run hsz, Sem.run_pure]
          rfl⟩
  · rename_i n e cs hu
    cases hsz : sizeT P e with
    | none => simp [hsz] at h
    | some zz =>
      cases hb : bounds r lo hi n with
      | none => simp [hsz, hb] at h
      | some lh =>
        obtain ⟨l, m⟩ := lh
        simp only [hsz, hb] at h
        cases he : Nat.ble (n * zz) cs.length with
        | false => simp [he] at h
        | true =>
          simp only [he, cond_true] at h
          cases h
          have hle0 := Nat.le_of_ble_eq_true he
          cases hx with | rp _ a us hs hc hrel =>
          obtain ⟨h1, h2, h3⟩ := bounds_run (P := P) hr hb (Nat.le_refl n) false
          have hul : us.length = cs.length := hrel.length.symm
          have hsp : us ≠ [] → a.spot = none := fun hne => (hs (by rw [← hul]; exact List.length_pos_iff.2 hne)).1
          have hle : m * zz ≤ n * zz := Nat.mul_le_mul_right _ h2
          have hlz : l * zz ≤ m * zz := Nat.mul_le_mul_right _ h1
          have hlen' : ((cs.take (m * zz)).drop (l * zz)).length = (m - l) * zz := by
            rw [List.length_drop, List.length_take, Nat.sub_mul]; omega
          refine ⟨.slice (some (if n = l then a else a.add (l * zz))) (m - l) (n - l), ?_, fun w => ?_⟩
          · by_cases hcl : n = l
            · rw [if_pos hcl]
              have hml : m = l := by omega
              subst hml
              have hnil : ((cs.take (m * zz)).drop (m * zz)) = [] := List.eq_nil_of_length_eq_zero (by rw [hlen']; simp)
              rw [hnil]
              exact .ro [] _ _ a _ [] (by omega) (by simp) (fun h => by simp at h) (fun j u h => by simp at h) .nil
            · rw [if_neg hcl]
              refine .ro _ _ _ _ _ ((us.take (m * zz)).drop (l * zz)) (by omega) hlen' (fun hpos => ?_) (cut_cells hc hsp _ _) (hrel.cut _ _)
              have hpos' : 0 < cs.length := by
                rcases Nat.eq_zero_or_pos cs.length with h0 | h0
                · rw [List.eq_nil_of_length_eq_zero h0] at hpos; simp at hpos
                · exact h0
              obtain ⟨hs1, hs2⟩ := hs hpos'
              obtain ⟨ab, ao, asp⟩ := a
              simp only at hs1 hs2
              subst hs1
              rw [Addr.add_lit]
              exact ⟨rfl, hs2⟩
          · simp only [Instr.sliceAt, Sem.run_bind, run_underlying hu, Result.andThen_ok, Instr.sureAddr, h3, sizeT_run hsz, Sem.run_pure]
  · cases h
end
end Go.Vz
