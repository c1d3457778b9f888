/-
  V's MAPS: keys and what is found.
-/
import Derived.Test.YtgagkmbhlpmceaaGreatDoorVzLoad
set_option linter.unusedVariables false
set_option linter.unusedSimpArgs false
namespace Go.Vz
open Go Go.RowKit
section
variable {w0 : World} {base : Nat} {g : Map} {P : Program} {m : Mem} {w : World} {r : Operand → Option AV} {ρ : Operand → Value}

theorem ERels.length {es : List (AV × AV × Nat)} {cs : List MapEntry} (h : ERels w0 base g es cs) : es.length = cs.length := by
  induction h with
  | nil => rfl
  | cons _ _ _ _ _ _ _ _ _ _ ih => simp [ih]
theorem ERels.get {es : List (AV × AV × Nat)} {cs : List MapEntry} (h : ERels w0 base g es cs) {i : Nat} {k x : AV} {b : Nat} (hi : es[i]? = some (k, x, b)) :
    ∃ e, cs[i]? = some e ∧ VRel w0 base g k e.key ∧ VRel w0 base g x e.val ∧ e.born = b := by
  induction h generalizing i with
  | nil => simp at hi
  | cons k' x' b' e es cs h1 h2 h3 h4 ih =>
    cases i with
    | zero => simp at hi; obtain ⟨rfl, rfl, rfl⟩ := hi; exact ⟨e, by simp, h1, h2, h3⟩
    | succ i => simp at hi; obtain ⟨e', he, hr⟩ := ih hi; exact ⟨e', by simpa using he, hr⟩
theorem ERels.append {es fs : List (AV × AV × Nat)} {cs ds : List MapEntry} (h : ERels w0 base g es cs) (k : ERels w0 base g fs ds) : ERels w0 base g (es ++ fs) (cs ++ ds) := by
  induction h with
  | nil => simpa using k
  | cons k' x' b' e es cs h1 h2 h3 h4 ih => exact .cons _ _ _ _ _ _ h1 h2 h3 ih
theorem ERels.modify {es : List (AV × AV × Nat)} {cs : List MapEntry} (h : ERels w0 base g es cs) {f : AV × AV × Nat → AV × AV × Nat} {f' : MapEntry → MapEntry} (i : Nat)
    (hf : ∀ k x b e, VRel w0 base g k e.key → VRel w0 base g x e.val → e.born = b → VRel w0 base g (f (k, x, b)).1 (f' e).key ∧ VRel w0 base g (f (k, x, b)).2.1 (f' e).val ∧ (f' e).born = (f (k, x, b)).2.2) :
    ERels w0 base g (modifyA f es i) (cs.modify i f') := by
  induction h generalizing i with
  | nil => cases i <;> exact .nil
  | cons k' x' b' e es cs h1 h2 h3 h4 ih =>
    cases i with
    | zero =>
      simp only [modifyA, List.modify_zero_cons]
      obtain ⟨a1, a2, a3⟩ := hf _ _ _ _ h1 h2 h3
      exact .cons _ _ _ _ _ _ a1 a2 a3 h4
    | succ i => simp only [modifyA, List.modify_succ_cons]; exact .cons _ _ _ _ _ _ h1 h2 h3 (ih i)
theorem ERels.erase {es : List (AV × AV × Nat)} {cs : List MapEntry} (h : ERels w0 base g es cs) (i : Nat) : ERels w0 base g (eraseA es i) (cs.eraseIdx i) := by
  induction h generalizing i with
  | nil => cases i <;> exact .nil
  | cons k' x' b' e es cs h1 h2 h3 h4 ih =>
    cases i with
    | zero => simpa [eraseA] using h4
    | succ i => simp only [eraseA, List.eraseIdx_cons_succ]; exact .cons _ _ _ _ _ _ h1 h2 h3 (ih i)

/-! ### Keys -/
theorem eqScalar_desc {t : TypeId} {x y : AV} {b : Bool} (h : eqScalar P t x y = some b) : ∃ d, P.underlying t = some d ∧ ((∃ k, d = .int k) ∨ d = .string ∨ d = .bool) := by
  unfold eqScalar at h
  split at h
  · rename_i hu; exact ⟨_, hu, .inl ⟨_, rfl⟩⟩
  · rename_i hu; exact ⟨_, hu, .inr (.inl rfl)⟩
  · rename_i hu; exact ⟨_, hu, .inr (.inr rfl)⟩
  · cases h
theorem checkKey_scalar {t : TypeId} {x y : AV} {b : Bool} (h : eqScalar P t x y = some b) (u : Value) (em : Bool) (d : Nat) (w : World) : (Instr.checkKey em (d + 1) t u).run P w = .ok () w := by
  obtain ⟨kd, hu, hk⟩ := eqScalar_desc h
  rw [Instr.checkKey, Sem.run_bind, run_underlying hu]
  rcases hk with ⟨k, rfl⟩ | rfl | rfl <;> rfl
theorem checkKey_fields {xs : Array Value} (em : Bool) (d : Nat) (w : World) : ∀ {fs : List Field} {i : Nat} {as bs : List AV} {b : Bool}, flatF P fs i = true → eqFieldsA P fs as bs = some b →
    VRels w0 base g as (xs.toList.drop i) →
    (forIn fs PUnit.unit fun f _ => do
      if f.name ≠ "_" then Instr.checkKey em (d + 1) f.type (← part f.type xs f.offset)
      pure (ForInStep.yield PUnit.unit) : Sem PUnit).run P w = .ok PUnit.unit w
  | [], i, as, bs, b, hf, h, hx => rfl
  | f :: fs, i, as, bs, b, hf, h, hx => by
    simp only [flatF, Bool.and_eq_true, bne_iff_ne, ne_eq] at hf
    obtain ⟨⟨⟨hn, ho⟩, hsc⟩, hrest⟩ := hf
    have ho' : f.offset = i := Nat.eq_of_beq_eq_true ho
    cases as with
    | nil => cases bs <;> simp [eqFieldsA] at h
    | cons x as => cases bs with
      | nil => simp [eqFieldsA] at h
      | cons y bs =>
        simp only [eqFieldsA] at h
        obtain ⟨u, hu, hru⟩ := hx.get (i := 0) (x := x) (by simp)
        rw [List.getElem?_drop] at hu
        simp only [Nat.add_zero, Array.getElem?_toList] at hu
        have hx1 := hx.drop 1
        rw [List.drop_drop] at hx1
        simp only [List.drop_succ_cons, List.drop_zero] at hx1
        cases h1 : eqScalar P f.type x y with
        | none => simp [h1] at h
        | some a =>
          cases h2 : eqFieldsA P fs as bs with
          | none => simp [h1, h2] at h
          | some c =>
            have ih := checkKey_fields em d w hrest h2 hx1
            simp only [List.forIn_cons, Sem.run_bind, ne_eq, hn, not_false_eq_true, if_true, ho', scalar_part hsc hu, Result.andThen_ok, checkKey_scalar h1 u em d, Sem.run_pure]
            exact ih
theorem checkKey_run {t : TypeId} {x y : AV} {u : Value} {b : Bool} (h : eqKey P t x y = some b) (hx : VRel w0 base g x u) (em : Bool) (w : World) : (Instr.checkKey em 10000 t u).run P w = .ok () w := by
  unfold eqKey at h
  split at h
  · rename_i fs hf
    split at h
    · cases hx with | agg _ us hx =>
      obtain ⟨⟨fa, hu, rfl⟩, hfl, hst⟩ := flatS_spec hf
      have := checkKey_fields (w0 := w0) (base := base) (g := g) (xs := us) em 9998 w hfl h (by simpa using hx)
      show (Instr.checkKey em (9999 + 1) t (.agg us)).run P w = _
      rw [Instr.checkKey, Sem.run_bind, run_underlying hu]
      simp only [Result.andThen_ok]
      rw [← Array.forIn_toList, Sem.run_bind, this]
      rfl
    · cases h
  · exact checkKey_scalar h u em 9999 w

/-! ### What is found -/
theorem findA_spec {t : TypeId} {k : AV} : ∀ {es : List (AV × AV × Nat)} {i j : Nat} {v : AV} {b : Nat}, findA P t k es i = some (some (j, v, b)) →
    ∃ n k', j = i + n ∧ es[n]? = some (k', v, b) ∧ eqKey P t k k' = some true
  | [], i, j, v, b, h => by simp [findA] at h
  | (k', v', b') :: es, i, j, v, b, h => by
    simp only [findA] at h
    split at h
    · rename_i he
      cases h
      exact ⟨0, k', rfl, by simp, he⟩
    · obtain ⟨n, k2, hj, hn, he⟩ := findA_spec h
      exact ⟨n + 1, k2, by omega, by simpa using hn, he⟩
    · cases h
/-- what the machine finds -/
def Found (w0 : World) (base : Nat) (g : Map) (cs : List MapEntry) (i : Nat) : Option (Nat × AV × Nat) → Option (Nat × Value) → Prop
  | none, r => r = none
  | some (j, v, b), r => ∃ n e, j = i + n ∧ cs[n]? = some e ∧ r = some (j, e.val)
theorem eqNats_true {a b : ByteArray} (h : eqNats (natOf a) (natOf b) = true) : a = b := by
  unfold natOf at h
  rw [eqNats_map, beq_iff_eq] at h
  cases a; cases b
  simp only [ByteArray.mk.injEq]
  exact Array.toList_inj.1 h
theorem sameNow_run {t : TypeId} {d : TypeDesc} (hu : P.underlying t = some d) {x y : AV} {u v : Value} {b : Bool} (h : eqScalar P t x y = some b) (hx : VRel w0 base g x u) (hy : VRel w0 base g y v) : Instr.sameNow d u v = some b := by
  unfold eqScalar at h
  split at h
  · rename_i k' hu'
    rw [hu] at hu'; cases hu'
    cases hx; cases hy
    split at h
    · rename_i e; subst e; cases h; simp [Instr.sameNow]
    · cases h
  · rename_i hu'
    rw [hu] at hu'; cases hu'
    cases hx with | str _ s e => cases hy with | str _ s' e' =>
      subst e; subst e'
      cases h
      simp only [Instr.sameNow, beq_toListBytes, toList_eq']
      congr 1
      exact (eqNats_map _ _).symm
  · rename_i hu'
    rw [hu] at hu'; cases hu'
    cases hx; cases hy; cases h
    simp [Instr.sameNow]
  · cases h
theorem findNow_run {t : TypeId} {d : TypeDesc} (hu : P.underlying t = some d) (hf : flatS P t = none) {k : AV} {u : Value} (hk : VRel w0 base g k u) :
    ∀ {es : List (AV × AV × Nat)} {cs : List MapEntry} {i : Nat} {res : Option (Nat × AV × Nat)}, findA P t k es i = some res → ERels w0 base g es cs → ∃ r, Instr.findNow d u cs i = some r ∧ Found w0 base g cs i res r
  | [], [], i, res, h, hr => by simp only [findA] at h; cases h; exact ⟨none, rfl, rfl⟩
  | [], _ :: _, i, res, h, hr => by cases hr
  | _ :: _, [], i, res, h, hr => by cases hr
  | (k', v', b') :: es, c :: cs, i, res, h, hr => by
    cases hr with | cons _ _ _ _ _ _ h1 h2 h3 h4 =>
    simp only [findA] at h
    have hek : ∀ b, eqKey P t k k' = some b → Instr.sameNow d u c.key = some b := fun b hb => by
      unfold eqKey at hb
      rw [hf] at hb
      exact sameNow_run hu hb hk h1
    split at h
    · rename_i he
      cases h
      exact ⟨some (i, c.val), by simp only [Instr.findNow, hek _ he], 0, c, rfl, by simp, rfl⟩
    · rename_i he
      obtain ⟨r, hr1, hr2⟩ := findNow_run hu hf hk h h4
      refine ⟨r, by simp only [Instr.findNow, hek _ he, hr1], ?_⟩
      cases res with
      | none => exact hr2
      | some q =>
        obtain ⟨j, v, b⟩ := q
        obtain ⟨n, e, hj, hn, hre⟩ := hr2
        exact ⟨n + 1, e, by omega, by simpa using hn, hre⟩
    · cases h
theorem findAsking_run {t : TypeId} {k : AV} {u : Value} (hk : VRel w0 base g k u) (w : World) :
    ∀ {es : List (AV × AV × Nat)} {cs : List MapEntry} {i : Nat} {res : Option (Nat × AV × Nat)}, findA P t k es i = some res → ERels w0 base g es cs → ∃ r, (Instr.findAsking t u cs i).run P w = .ok r w ∧ Found w0 base g cs i res r
  | [], [], i, res, h, hr => by simp only [findA] at h; cases h; exact ⟨none, rfl, rfl⟩
  | [], _ :: _, i, res, h, hr => by cases hr
  | _ :: _, [], i, res, h, hr => by cases hr
  | (k', v', b') :: es, c :: cs, i, res, h, hr => by
    cases hr with | cons _ _ _ _ _ _ h1 h2 h3 h4 =>
    simp only [findA] at h
    split at h
    · rename_i he
      cases h
      exact ⟨some (i, c.val), by simp only [Instr.findAsking, Sem.run_bind, eqKey_run he hk h1 w, Result.andThen_ok, if_true, Sem.run_pure], 0, c, rfl, by simp, rfl⟩
    · rename_i he
      obtain ⟨r, hr1, hr2⟩ := findAsking_run hk w h h4
      refine ⟨r, by simp only [Instr.findAsking, Sem.run_bind, eqKey_run he hk h1 w, Result.andThen_ok, Bool.false_eq_true, if_false, hr1], ?_⟩
      cases res with
      | none => exact hr2
      | some q =>
        obtain ⟨j, v, b⟩ := q
        obtain ⟨n, e, hj, hn, hre⟩ := hr2
        exact ⟨n + 1, e, by omega, by simpa using hn, hre⟩
    · cases h
theorem findKey_run {t : TypeId} {k : AV} {u : Value} {b : Bool} (hkt : eqKey P t k k = some b) (hk : VRel w0 base g k u) (w : World) {es : List (AV × AV × Nat)} {cs : List MapEntry} {res : Option (Nat × AV × Nat)}
    (h : findA P t k es 0 = some res) (hr : ERels w0 base g es cs) : ∃ q, (Instr.findKey t u cs).run P w = .ok q w ∧ Found w0 base g cs 0 res q := by
  cases hf : flatS P t with
  | none =>
    have hkt' : eqScalar P t k k = some b := by unfold eqKey at hkt; rw [hf] at hkt; exact hkt
    obtain ⟨d, hu, _⟩ := eqScalar_desc hkt'
    obtain ⟨q, h1, h2⟩ := findNow_run hu hf hk h hr
    exact ⟨q, by simp only [Instr.findKey, Sem.run_bind, run_underlying hu, Result.andThen_ok, h1, Sem.run_pure], h2⟩
  | some fs =>
    obtain ⟨⟨fa, hu, rfl⟩, hfl, hst⟩ := flatS_spec hf
    obtain ⟨q, h1, h2⟩ := findAsking_run hk w h hr
    cases cs with
    | nil =>
      cases hr
      simp only [findA] at h
      cases h
      exact ⟨none, by simp only [Instr.findKey, Sem.run_bind, run_underlying hu, Result.andThen_ok, Instr.findNow, Sem.run_pure], rfl⟩
    | cons c cs =>
      refine ⟨q, ?_, h2⟩
      simp only [Instr.findKey, Sem.run_bind, run_underlying hu, Result.andThen_ok, Instr.findNow, Instr.sameNow]
      exact h1
/-- a key that is equal stays -/
theorem sameBits_scalar {t : TypeId} {x y : AV} {u v : Value} (h : eqScalar P t x y = some true) (hx : VRel w0 base g x u) (hy : VRel w0 base g y v) (n : Nat) : Instr.sameBits n v u = true := by
  unfold eqScalar at h
  split at h
  · cases hx; cases hy
    split at h
    · rename_i e; subst e
      simp only [Option.some.injEq, beq_iff_eq] at h
      subst h
      simp [Instr.sameBits]
    · cases h
  · cases hx with | str _ s e => cases hy with | str _ s' e' =>
      subst e; subst e'
      simp only [Option.some.injEq] at h
      rw [eqNats_true h]
      simp only [Instr.sameBits, beq_toListBytes]
      exact beq_self_eq_true _
  · cases hx; cases hy
    simp only [Option.some.injEq, beq_iff_eq] at h
    subst h
    simp [Instr.sameBits]
  · cases h
theorem sameBits_fields (n : Nat) : ∀ {fs : List Field} {xs ys : List AV} {us vs : List Value}, eqFieldsA P fs xs ys = some true → VRels w0 base g xs us → VRels w0 base g ys vs →
    us.length = vs.length ∧ ((vs.zip us).all fun (x, y) => Instr.sameBits n x y) = true
  | [], [], [], us, vs, h, hx, hy => by cases hx; cases hy; exact ⟨rfl, rfl⟩
  | f :: fs, x :: xs, y :: ys, us, vs, h, hx, hy => by
    cases hx with | cons _ u _ us hx1 hx2 => cases hy with | cons _ v _ vs hy1 hy2 =>
    simp only [eqFieldsA] at h
    cases h1 : eqScalar P f.type x y with
    | none => simp [h1] at h
    | some a =>
      cases h2 : eqFieldsA P fs xs ys with
      | none => simp [h1, h2] at h
      | some c =>
        simp only [h1, h2, Option.some.injEq, Bool.and_eq_true] at h
        obtain ⟨rfl, rfl⟩ := h
        obtain ⟨hl, hal⟩ := sameBits_fields n h2 hx2 hy2
        exact ⟨by simp [hl], by simp [sameBits_scalar h1 hx1 hy1 n, hal]⟩
  | [], _ :: _, _, us, vs, h, hx, hy => by simp [eqFieldsA] at h
  | [], [], _ :: _, us, vs, h, hx, hy => by simp [eqFieldsA] at h
  | _ :: _, [], _, us, vs, h, hx, hy => by simp [eqFieldsA] at h
  | _ :: _, _ :: _, [], us, vs, h, hx, hy => by simp [eqFieldsA] at h
theorem keyStays {t : TypeId} {x y : AV} {u v : Value} (h : eqKey P t x y = some true) (hx : VRel w0 base g x u) (hy : VRel w0 base g y v) (w : World) : (Instr.keyThatStays v u).run P w = .ok u w := by
  have hs : Instr.sameBits 10000 v u = true := by
    unfold eqKey at h
    split at h
    · split at h
      · cases hx with | agg _ us hx => cases hy with | agg _ vs hy =>
        obtain ⟨hl, hal⟩ := sameBits_fields 9999 h hx hy
        show (vs.size == us.size && (vs.toList.zip us.toList).all fun (x, y) => Instr.sameBits 9999 x y) = true
        rw [hal, Bool.and_true, beq_iff_eq]
        simpa using hl.symm
      · cases h
    · exact sameBits_scalar h hx hy 10000
  simp [Instr.keyThatStays, hs]
end
end Go.Vz
