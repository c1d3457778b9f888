/-
  V's PURE OPERATIONS: the theorem.
-/
import Derived.Test.YtgagkmbhlpmceaaGreatDoorVzPure5
import Derived.Lib.UnsafeStr
set_option linter.unusedVariables false
set_option linter.unusedSimpArgs false
namespace Go.Vz
open Go Go.RowKit
section
variable {w0 : World} {base : Nat} {g : Map} {P : Program} {r : Operand → Option AV} {ρ : Operand → Value}

theorem cells_at {a : Addr} {us : List Value} (hc : ∀ j u, us[j]? = some u → w0.cell? (a.add j) = some u) (hs : us ≠ [] → a.spot = none) (l : Nat) :
    ∀ j u, (us.drop l)[j]? = some u → w0.cell? ((a.add l).add j) = some u := by
  intro j u hu
  rw [List.getElem?_drop] at hu
  rw [add_add _ _ _ (hs (by intro e; rw [e] at hu; simp at hu))]
  exact hc _ _ hu
/-- a place further on in what came in -/
theorem VRel.rpAt {xs : List AV} {a : Addr} {us : List Value} (hs : 0 < xs.length → a.spot = none ∧ a.block < base) (hc : ∀ j u, us[j]? = some u → w0.cell? (a.add j) = some u) (hrel : VRels w0 base g xs us) (l : Nat) :
    VRel w0 base g (.rp (xs.drop l)) (.pointer (some (a.add l))) := by
  have hsp : us ≠ [] → a.spot = none := fun hne => (hs (by rw [hrel.length]; exact List.length_pos_iff.2 hne)).1
  refine .rp _ _ (us.drop l) (fun hpos => ?_) (cells_at hc hsp l) (hrel.drop l)
  obtain ⟨h1, h2⟩ := hs (by rw [List.length_drop] at hpos; omega)
  obtain ⟨ab, ao, asp⟩ := a
  simp only at h1 h2
  subst h1
  rw [Addr.add_lit]
  exact ⟨rfl, h2⟩
theorem oper_eq {o : Oper} {ρ : Operand → Value} {op : Op} (h : o.op = op) : execOp ρ o = execOp ρ { o with op := op } := by rw [← h]

theorem pureA_sound {o : Oper} {x : AV} (hr : ∀ y a, r y = some a → VRel w0 base g a (ρ y)) (h : pureA P r o.op = some x) : PureTo w0 base g P (execOp ρ o) x := by
  obtain ⟨dst, op, ty, pos, after, guard⟩ := o
  simp only at h
  unfold pureA at h
  split at h
  · exact ⟨_, hr _ _ h, fun w => rfl⟩
  · exact ⟨_, hr _ _ h, fun w => rfl⟩
  · rename_i c a b
    split at h
    · rename_i hc
      have h1 := hr _ _ hc
      generalize hv : ρ c = v at h1
      cases h1
      exact ⟨_, hr _ _ h, fun w => by simp [execOp, hv, asBool]⟩
    · rename_i hc
      have h1 := hr _ _ hc
      generalize hv : ρ c = v at h1
      cases h1
      exact ⟨_, hr _ _ h, fun w => by simp [execOp, hv, asBool]⟩
    · cases h
  · rename_i y
    split at h
    · rename_i v k he
      cases h
      have h1 := hr _ _ he
      generalize hv : ρ y = u at h1
      refine ⟨u, h1, fun w => ?_⟩
      cases h1
      simp [execOp, hv]
    · rename_i cs he
      cases h
      have h1 := hr _ _ he
      generalize hv : ρ y = u at h1
      refine ⟨u, h1, fun w => ?_⟩
      cases h1
      simp [execOp, hv]
    · rename_i f a b he
      cases h
      have h1 := hr _ _ he
      generalize hv : ρ y = u at h1
      refine ⟨u, h1, fun w => ?_⟩
      cases h1
      simp [execOp, hv]
    · rename_i t z he
      cases h
      have h1 := hr _ _ he
      generalize hv : ρ y = u at h1
      refine ⟨u, h1, fun w => ?_⟩
      cases h1
      simp [execOp, hv]
    · cases h
  · rename_i bop t y z ty'
    split at h
    · rename_i a b ha hb
      exact (binA_run h (hr _ _ ha) (hr _ _ hb)).next
    · cases h
  · rename_i uop t y
    split at h
    · rename_i a ha
      exact (unA_run h (hr _ _ ha)).next
    · cases h
  · rename_i s d y
    split at h
    · rename_i a ha
      exact (convA_run h (hr _ _ ha)).next
    · cases h
  · rename_i t y
    split at h
    · cases h
    · rename_i d hd hu
      cases ha : r y with
      | none => simp [ha] at h
      | some a =>
        simp only [ha, Option.map_some, Option.some.injEq] at h
        subst h
        refine ⟨_, .iface t a _ (hr _ _ ha), fun w => ?_⟩
        simp only [execOp, Instr.makeInterface, Sem.run_bind, run_underlying hu, Result.andThen_ok]
        cases d <;> first | rfl | exact absurd rfl (hd _)
    · cases h
  · rename_i fn first cap
    split at h
    · rename_i a b ha hb
      cases h
      have h1 := operands_rel hr ha
      have h2 := operands_rel hr hb
      refine ⟨_, .fn fn a b (first.map ρ) (cap.map ρ) (by simpa using h1) (by simpa using h2), fun w => by simp [execOp, Instr.makeFunc]⟩
    · cases h
  · rename_i t i
    split at h
    · rename_i l he
      have h1 := hr _ _ he
      generalize hv : ρ t = u at h1
      cases h1 with | tup _ vs h1 =>
      obtain ⟨v, hv1, hv2⟩ := h1.get h
      have hv1' : vs[i]? = some v := by simpa using hv1
      exact ⟨v, hv2, fun w => by simp [execOp, Instr.extract, hv, hv1']⟩
    · cases h
  · rename_i t y i
    split at h
    · rename_i fs cs hu he
      split at h
      · rename_i f hf
        have h1 := hr _ _ he
        generalize hv : ρ y = u at h1
        cases h1 with | agg _ vs h1 =>
        obtain ⟨v, hv1, hv2⟩ := partA_run h h1
        exact ⟨v, hv1, fun w => by simp [execOp, Instr.field, hv, run_underlying hu, hf, asAgg, hv2]⟩
      · cases h
    · cases h
  · rename_i t y i
    split at h
    · rename_i s n hu he hi
      have h1 := hr _ _ he
      generalize hv : ρ y = u at h1
      cases h1 with | str _ s' e =>
      subst e
      obtain ⟨k, hk⟩ := natOf?_rel hr hi
      rw [natOf_get] at h
      cases hg : s'[n]? with
      | none => simp [hg] at h
      | some b =>
        simp only [hg, Option.map_some, Option.some.injEq] at h
        subst h
        exact ⟨.int .u8 b.toNat, .int .u8 _, fun w => by simp [execOp, Instr.index, hv, hk, asIntOf, run_underlying hu, hg]⟩
    · rename_i len e cs n hu he hi
      split at h
      · rename_i z hz
        cases hb : Nat.ble (n + 1) len with
        | false => simp [hb] at h
        | true =>
          simp only [hb, cond_true] at h
          have hlt : n < len := Nat.le_of_ble_eq_true hb
          have h1 := hr _ _ he
          generalize hv : ρ y = u at h1
          cases h1 with | agg _ vs h1 =>
          obtain ⟨k, hk⟩ := natOf?_rel hr hi
          obtain ⟨v, hv1, hv2⟩ := partA_run h h1
          exact ⟨v, hv1, fun w => by simp [execOp, Instr.index, hv, hk, asIntOf, run_underlying hu, hlt, sizeT_run hz, hv2]⟩
      · cases h
    · cases h
  · rename_i t y i
    split at h
    · rename_i fs a hu he
      split at h
      · rename_i f hf
        split at h
        · rename_i m hm
          have h1 := hr _ _ he
          split at h
          · rename_i v k
            cases h
            generalize hv : ρ y = u at h1
            cases h1 with | ptr _ _ o p h2 h3 =>
            refine ⟨.pointer (some ⟨p.b, o + f.offset, none⟩), .ptr _ _ _ p h2 (by omega), fun w => ?_⟩
            simp [execOp, Instr.fieldAt, hv, run_underlying hu, hf, Instr.sureAddr, fieldPlace, sizeT_run hm, Addr.add_lit]
          · rename_i cs
            cases hb : Nat.ble f.offset cs.length with
            | false => simp [hb] at h
            | true =>
              simp only [hb, cond_true] at h
              cases h
              generalize hv : ρ y = u at h1
              cases h1 with | rp _ a us h2 h3 h4 =>
              refine ⟨.pointer (some (a.add f.offset)), VRel.rpAt h2 h3 h4 _, fun w => ?_⟩
              simp [execOp, Instr.fieldAt, hv, run_underlying hu, hf, Instr.sureAddr, fieldPlace, sizeT_run hm]
          · cases h
        · cases h
      · cases h
    · cases h
  · rename_i t y i
    split at h
    · rename_i e v k n sz j hu he hi
      split at h
      · rename_i z hz
        cases hb : Nat.beq z sz && Nat.ble (j + 1) n with
        | false => simp [hb] at h
        | true =>
          simp only [hb, cond_true] at h
          cases h
          rw [Bool.and_eq_true_iff] at hb
          have := Nat.eq_of_beq_eq_true hb.1
          subst this
          have hlt : j < n := Nat.le_of_ble_eq_true hb.2
          have h1 := hr _ _ he
          generalize hv : ρ y = u at h1
          cases h1 with | sl _ _ _ _ a cap p h2 h3 h4 h5 =>
          obtain ⟨kk, hk⟩ := natOf?_rel hr hi
          obtain ⟨o, ha, ho, hbd⟩ := h5 (by omega)
          refine ⟨.pointer (some ⟨p.b, o + j * z, none⟩), .ptr _ _ _ p h2 (by omega), fun w => ?_⟩
          simp [execOp, Instr.indexAt, hv, hk, asIntOf, run_underlying hu, hlt, sizeT_run hz, ha, Addr.add_lit]
      · cases h
    · rename_i e cs n sz j hu he hi
      split at h
      · rename_i z hz
        cases hb : Nat.beq z sz && Nat.ble (j + 1) n && Nat.ble (j * sz) cs.length with
        | false => simp [hb] at h
        | true =>
          simp only [hb, cond_true] at h
          cases h
          rw [Bool.and_eq_true_iff, Bool.and_eq_true_iff] at hb
          have := Nat.eq_of_beq_eq_true hb.1.1
          subst this
          have hlt : j < n := Nat.le_of_ble_eq_true hb.1.2
          have h1 := hr _ _ he
          generalize hv : ρ y = u at h1
          cases h1 with
          | ron _ => exact absurd hlt (Nat.not_lt_zero _)
          | ro _ _ _ a cap us h2 h3 h4 h5 h6 =>
          obtain ⟨kk, hk⟩ := natOf?_rel hr hi
          refine ⟨.pointer (some (a.add (j * z))), VRel.rpAt h4 h5 h6 _, fun w => ?_⟩
          simp [execOp, Instr.indexAt, hv, hk, asIntOf, run_underlying hu, hlt, sizeT_run hz]
      · cases h
    · rename_i len e v k j hu he hi
      split at h
      · rename_i z hz
        cases hb : Nat.ble (j + 1) len with
        | false => simp [hb] at h
        | true =>
          simp only [hb, cond_true] at h
          cases h
          have hlt : j < len := Nat.le_of_ble_eq_true hb
          have h1 := hr _ _ he
          generalize hv : ρ y = u at h1
          cases h1 with | ptr _ _ o p h2 h3 =>
          obtain ⟨kk, hk⟩ := natOf?_rel hr hi
          refine ⟨.pointer (some ⟨p.b, o + j * z, none⟩), .ptr _ _ _ p h2 (by omega), fun w => ?_⟩
          simp [execOp, Instr.indexAt, hv, hk, asIntOf, run_underlying hu, hlt, sizeT_run hz, Instr.sureAddr, Addr.add_lit]
      · cases h
    · rename_i len e cs j hu he hi
      split at h
      · rename_i z hz
        cases hb : Nat.ble (j + 1) len && Nat.ble (j * z) cs.length with
        | false => simp [hb] at h
        | true =>
          simp only [hb, cond_true] at h
          cases h
          rw [Bool.and_eq_true_iff] at hb
          have hlt : j < len := Nat.le_of_ble_eq_true hb.1
          have h1 := hr _ _ he
          generalize hv : ρ y = u at h1
          cases h1 with | rp _ a us h2 h3 h4 =>
          obtain ⟨kk, hk⟩ := natOf?_rel hr hi
          refine ⟨.pointer (some (a.add (j * z))), VRel.rpAt h2 h3 h4 _, fun w => ?_⟩
          simp [execOp, Instr.indexAt, hv, hk, asIntOf, run_underlying hu, hlt, sizeT_run hz, Instr.sureAddr]
      · cases h
    · cases h
  · rename_i t y lo hi
    split at h
    · rename_i a ha
      exact (sliceA_run hr h (hr _ _ ha)).next
    · cases h
  · rename_i t parts
    split at h
    · rename_i fs z ps hu hz hps
      split at h
      · rename_i places hpl
        cases hf : fillA (places[·]?) z.cells ps with
        | none => simp [hf] at h
        | some cs =>
          simp only [hf, Option.map_some, Option.some.injEq] at h
          subst h
          obtain ⟨zv, hz1, ⟨it, hit, hiz⟩, hz2⟩ := zeroT_run (w0 := w0) (base := base) (g := g) hz
          obtain ⟨us, hus, hru⟩ := fillA_rel hf (VRels.cells hz1) (partsA_rel hr hps)
          refine ⟨.agg us, .agg _ _ hru, fun w => ?_⟩
          have hb : P.built t (parts.map fun (i, x) => (i, ρ x)).toList = some us := by
            unfold Program.built
            simp only [hit, hu, hiz, hpl]
            simpa using hus
          simp only [execOp, Sem.run_bind, run_build w t _ us hb, Result.andThen_ok, Sem.run_pure]
      · cases h
    · rename_i n e z ps hu hz hps
      split at h
      · rename_i m hm
        cases hf : fillA (fun i => some (i * m, m)) z.cells ps with
        | none => simp [hf] at h
        | some cs =>
          simp only [hf, Option.map_some, Option.some.injEq] at h
          subst h
          obtain ⟨zv, hz1, ⟨it, hit, hiz⟩, hz2⟩ := zeroT_run (w0 := w0) (base := base) (g := g) hz
          obtain ⟨us, hus, hru⟩ := fillA_rel hf (VRels.cells hz1) (partsA_rel hr hps)
          refine ⟨.agg us, .agg _ _ hru, fun w => ?_⟩
          have hb : P.built t (parts.map fun (i, x) => (i, ρ x)).toList = some us := by
            unfold sizeT at hm
            cases hie : P.info? e with
            | none => simp [hie] at hm
            | some ie =>
              simp only [hie, Option.map_some, Option.some.injEq] at hm
              unfold Program.built
              simp only [hit, hu, hiz, hie, hm]
              simpa using hus
          simp only [execOp, Sem.run_bind, run_build w t _ us hb, Result.andThen_ok, Sem.run_pure]
      · cases h
    · cases h
  · rename_i y xt t ok
    split at h
    · cases h
    · cases h
    · rename_i d hd hu
      split at h
      · rename_i u v he
        have h1 := hr _ _ he
        generalize hv : ρ y = q at h1
        cases h1 with | iface _ _ q' h1 =>
        split at h
        · rename_i e
          subst e
          cases h
          cases ok with
          | true =>
            refine ⟨.tuple #[q', .bool true], .tup _ _ (.cons _ _ _ _ h1 (.cons _ _ _ _ (.bool true) .nil)), fun w => ?_⟩
            simp only [execOp, Instr.typeAssert, hv, Sem.run_bind, run_underlying hu, Result.andThen_ok]
            cases d <;> first | (exact absurd rfl (hd _)) | simp
          | false =>
            refine ⟨q', h1, fun w => ?_⟩
            simp only [execOp, Instr.typeAssert, hv, Sem.run_bind, run_underlying hu, Result.andThen_ok]
            cases d <;> first | (exact absurd rfl (hd _)) | simp
        · rename_i hne
          cases ok with
          | false => simp at h
          | true =>
            simp only [cond_true] at h
            cases hz : zeroT P t with
            | none => simp [hz] at h
            | some z =>
              simp only [hz, Option.map_some, Option.some.injEq] at h
              subst h
              obtain ⟨zv, hz1, _, hz2⟩ := zeroT_run (w0 := w0) (base := base) (g := g) hz
              refine ⟨.tuple #[zv, .bool false], .tup _ _ (.cons _ _ _ _ hz1 (.cons _ _ _ _ (.bool false) .nil)), fun w => ?_⟩
              simp only [execOp, Instr.typeAssert, hv, Sem.run_bind, run_underlying hu, Result.andThen_ok]
              cases d <;> first | (exact absurd rfl (hd _)) | simp [hne, hz2]
      · rename_i he
        have h1 := hr _ _ he
        generalize hv : ρ y = q at h1
        cases h1
        cases ok with
        | false => simp at h
        | true =>
          simp only [cond_true] at h
          cases hz : zeroT P t with
          | none => simp [hz] at h
          | some z =>
            simp only [hz, Option.map_some, Option.some.injEq] at h
            subst h
            obtain ⟨zv, hz1, _, hz2⟩ := zeroT_run (w0 := w0) (base := base) (g := g) hz
            refine ⟨.tuple #[zv, .bool false], .tup _ _ (.cons _ _ _ _ hz1 (.cons _ _ _ _ (.bool false) .nil)), fun w => ?_⟩
            simp only [execOp, Instr.typeAssert, hv, Sem.run_bind, run_underlying hu, Result.andThen_ok]
            cases d <;> first | (exact absurd rfl (hd _)) | simp [hz2]
      · cases h
  · rename_i c
    split at h
    · rename_i hc
      split at h
      · rename_i t y ht hy
        have h1 := operands_rel hr hy
        obtain ⟨callee, args, argTypes⟩ := c
        simp only at hc hy ht h1
        subst hc
        cases hargs : args.toList with
        | nil => rw [hargs] at h1; cases h1
        | cons a0 rest =>
          cases rest with
          | cons _ _ => rw [hargs] at h1; cases h1 with | cons _ _ _ _ _ h2 => cases h2
          | nil =>
            rw [hargs] at h1
            cases h1 with | cons _ _ _ _ h1 _ =>
            obtain ⟨v, hv1, hv2⟩ := lenA_run (ty := ty) ht h h1
            have ha : args = #[a0] := by rw [← Array.toArray_toList (xs := args), hargs]
            subst ha
            refine ⟨v, hv1, fun w => ?_⟩
            simp [execOp, resolve, invoke, builtin, hv2 w]
      · cases h
    · rename_i hc
      split at h
      · rename_i hy
        cases h
        have h1 := operands_rel hr hy
        obtain ⟨callee, args, argTypes⟩ := c
        simp only at hc hy h1
        subst hc
        cases hargs : args.toList with
        | nil => rw [hargs] at h1; cases h1
        | cons a0 rest =>
          cases rest with
          | cons _ _ => rw [hargs] at h1; cases h1 with | cons _ _ _ _ _ h2 => cases h2
          | nil =>
            rw [hargs] at h1
            have ha : args = #[a0] := by rw [← Array.toArray_toList (xs := args), hargs]
            subst ha
            simp only [List.map_cons, List.map_nil] at h1
            generalize hv0 : ρ a0 = v0 at h1
            cases h1 with | cons _ _ _ _ h1 _ =>
            cases h1
            exact ⟨_, .nilptr, fun w => by simp [execOp, resolve, invoke, builtin, hv0, Lib.run_unsafeSliceData_nil]⟩
      · rename_i v k n z hy
        cases h
        have h1 := operands_rel hr hy
        obtain ⟨callee, args, argTypes⟩ := c
        simp only at hc hy h1
        subst hc
        cases hargs : args.toList with
        | nil => rw [hargs] at h1; cases h1
        | cons a0 rest =>
          cases rest with
          | cons _ _ => rw [hargs] at h1; cases h1 with | cons _ _ _ _ _ h2 => cases h2
          | nil =>
            rw [hargs] at h1
            have ha : args = #[a0] := by rw [← Array.toArray_toList (xs := args), hargs]
            subst ha
            simp only [List.map_cons, List.map_nil] at h1
            generalize hv0 : ρ a0 = v0 at h1
            cases h1 with | cons _ _ _ _ h1 _ =>
            cases h1 with | sl _ _ _ _ a cap p q1 q2 q3 q4 =>
            obtain ⟨o, rfl, ho, _⟩ := q4 (by omega)
            have hc0 : cap ≠ 0 := by omega
            exact ⟨_, .ptr _ _ o p q1 ho, fun w => by simp [execOp, resolve, invoke, builtin, hv0, Lib.run_unsafeSliceData_row (P := P) w argTypes ty _ (n + 1) cap hc0]⟩
      · cases h
    · rename_i hc
      split at h
      · rename_i xs hy
        have h1 := operands_rel hr hy
        obtain ⟨callee, args, argTypes⟩ := c
        simp only at hc hy h1
        subst hc
        unfold minA at h
        split at h
        · rename_i k a k' b
          cases h
          cases hargs : args.toList with
          | nil => rw [hargs] at h1; cases h1
          | cons a0 rest =>
            rw [hargs] at h1
            cases rest with
            | nil => cases h1 with | cons _ _ _ _ _ h2 => cases h2
            | cons a1 rest =>
              cases rest with
              | cons _ _ => cases h1 with | cons _ _ _ _ _ h2 => cases h2 with | cons _ _ _ _ _ h3 => cases h3
              | nil =>
                have ha : args = #[a0, a1] := by rw [← Array.toArray_toList (xs := args), hargs]
                subst ha
                simp only [List.map_cons, List.map_nil] at h1
                generalize hv0 : ρ a0 = v0 at h1
                generalize hv1 : ρ a1 = v1 at h1
                cases h1 with | cons _ _ _ _ h1 h2 => cases h2 with | cons _ _ _ _ h2 _ =>
                cases h1; cases h2
                exact ⟨_, .int k _, fun w => by simp [execOp, resolve, invoke, builtin, hv0, hv1, Builtin.min_, Builtin.min2]⟩
        · cases h
      · cases h
    · rename_i hc
      split at h
      · rename_i xs hy
        have h1 := operands_rel hr hy
        obtain ⟨callee, args, argTypes⟩ := c
        simp only at hc hy h1
        subst hc
        unfold maxA at h
        split at h
        · rename_i k a k' b
          cases h
          cases hargs : args.toList with
          | nil => rw [hargs] at h1; cases h1
          | cons a0 rest =>
            rw [hargs] at h1
            cases rest with
            | nil => cases h1 with | cons _ _ _ _ _ h2 => cases h2
            | cons a1 rest =>
              cases rest with
              | cons _ _ => cases h1 with | cons _ _ _ _ _ h2 => cases h2 with | cons _ _ _ _ _ h3 => cases h3
              | nil =>
                have ha : args = #[a0, a1] := by rw [← Array.toArray_toList (xs := args), hargs]
                subst ha
                simp only [List.map_cons, List.map_nil] at h1
                generalize hv0 : ρ a0 = v0 at h1
                generalize hv1 : ρ a1 = v1 at h1
                cases h1 with | cons _ _ _ _ h1 h2 => cases h2 with | cons _ _ _ _ h2 _ =>
                cases h1; cases h2
                exact ⟨_, .int k _, fun w => by simp [execOp, resolve, invoke, builtin, hv0, hv1, Builtin.max_, Builtin.max2]⟩
        · cases h
      · cases h
    · cases h
  · cases h
end
end Go.Vz
