/-
  V's WRITING OPERATIONS: the theorem.
-/
import Derived.Test.YtgagkmbhlpmceaaGreatDoorVzEff4
set_option linter.unusedVariables false
set_option linter.unusedSimpArgs false
namespace Go.Vz
open Go Go.RowKit
section
variable {w0 : World} {base : Nat} {g g' : Map} {P : Program} {m m' : Mem} {w w' : World} {r : Operand → Option AV} {ρ : Operand → Value}

theorem args_of {args : Array Operand} {xs : List AV} (hr : ∀ y a, r y = some a → VRel w0 base g a (ρ y)) (h : operands r args.toList = some xs) : VRels w0 base g xs (args.map ρ).toList := by
  rw [Array.toList_map]; exact operands_rel hr h
theorem args_two {args : Array Value} {x y : AV} (h : VRels w0 base g [x, y] args.toList) : ∃ u v, args = #[u, v] ∧ VRel w0 base g x u ∧ VRel w0 base g y v := by
  rcases hl : args.toList with _ | ⟨u, _ | ⟨v, rest⟩⟩ <;> rw [hl] at h
  · cases h
  · cases h with | cons _ _ _ _ _ h2 => cases h2
  · cases h with | cons _ _ _ _ h1 h2 => cases h2 with | cons _ _ _ _ h3 h4 =>
    cases h4
    exact ⟨u, v, by rw [← Array.toArray_toList (xs := args), hl], h1, h3⟩
theorem args_one {args : Array Value} {x : AV} (h : VRels w0 base g [x] args.toList) : ∃ u, args = #[u] ∧ VRel w0 base g x u := by
  rcases hl : args.toList with _ | ⟨u, rest⟩ <;> rw [hl] at h
  · cases h
  · cases h with | cons _ _ _ _ h1 h2 =>
    cases h2
    exact ⟨u, by rw [← Array.toArray_toList (xs := args), hl], h1⟩
theorem ats_two {ats : Array TypeId} {t u : TypeId} (h0 : ats[0]? = some t) (h1 : ats[1]? = some u) : ∃ rest, ats.toList = t :: u :: rest := by
  rcases hl : ats.toList with _ | ⟨a, _ | ⟨b, rest⟩⟩
  · rw [← Array.getElem?_toList, hl] at h0; cases h0
  · rw [← Array.getElem?_toList, hl] at h1; cases h1
  · rw [← Array.getElem?_toList, hl] at h0 h1; cases h0; cases h1; exact ⟨rest, rfl⟩
/-- append looks at its first two types alone -/
theorem append_ats {ats : Array TypeId} {t u ty : TypeId} {x y : Value} (h0 : ats[0]? = some t) (h1 : ats[1]? = some u) : Builtin.append_ ats ty #[x, y] = Builtin.append_ #[t, u] ty #[x, y] := by
  unfold Builtin.append_
  rw [h0, h1]
  rfl
theorem two_ats {ats : Array TypeId} (h : ats.size = 2) : ∃ t ts, ats = #[t, ts] := by
  rcases ats with ⟨_ | ⟨a, _ | ⟨b, _ | ⟨c, r⟩⟩⟩⟩ <;> simp at h
  exact ⟨a, b, rfl⟩
theorem storeSlice (R : Rel w0 base g m w) {v k n sz : Nat} {xs : List AV} {us : List Value} {sv : Value} (h : m.store (.ptr v k) xs = some m') (hs : VRel w0 base g (.sl v k n sz) sv) (hn : 0 < n) (hr : VRels w0 base g xs us) :
    ∃ a cap w', sv = .slice (some a) n cap ∧ (storeCells a us).run P w = .ok () w' ∧ Rel w0 base g m' w' := by
  cases hs with | sl _ _ _ _ a cap p hp h1 h2 h3 =>
  obtain ⟨o, rfl, ho, hb⟩ := h3 (by omega)
  obtain ⟨w', q1, q2⟩ := R.store h (.ptr v k o p hp ho) hr
  exact ⟨_, cap, w', rfl, q1 P, q2⟩

theorem effA_sound (R : Rel w0 base g m w) {o : Oper} {res : Res} (hr : ∀ y a, r y = some a → VRel w0 base g a (ρ y)) (h : effA P r m o.op = some (res, m')) :
    EffTo w0 base g P (execOp ρ o) w m' res := by
  obtain ⟨dst, op, ty, pos, after, guard⟩ := o
  simp only at h
  cases op <;> simp only [effA] at h <;> try (cases h; done)
  case alloc t =>
    split at h
    · rename_i z hz; cases h; exact eff_alloc R hz
    · cases h
  case box t x =>
    split at h
    · rename_i a ha
      cases hc : allCells a.cells with
      | false => simp [hc] at h
      | true => simp only [hc, cond_true] at h; cases h; exact eff_box R (hr _ _ ha) hc
    · cases h
  case store t x y =>
    split at h
    · rename_i a v n ha hv hn
      cases hb : Nat.beq n v.cells.length with
      | false => simp [hb] at h
      | true =>
        simp only [hb, cond_true] at h
        cases hst : m.store a v.cells with
        | none => simp [hst] at h
        | some m1 =>
          simp only [hst, Option.map_some, Option.some.injEq, Prod.mk.injEq] at h
          obtain ⟨rfl, rfl⟩ := h
          exact eff_store R (hr _ _ ha) (hr _ _ hv) hn (Nat.eq_of_beq_eq_true hb).symm hst
    · cases h
  case buildSlice t len parts =>
    split at h
    · rename_i e hu
      split at h
      · rename_i n z ps hs hz hp
        cases hb : Nat.ble (len * (n + 1)) 16777216 && Nat.beq z.cells.length (n + 1) with
        | false => simp [hb] at h
        | true =>
          simp only [hb, cond_true] at h
          rw [Bool.and_eq_true_iff] at hb
          split at h
          · rename_i cs hf
            cases hc : allCells cs with
            | false => simp [hc] at h
            | true =>
              simp only [hc, cond_true] at h
              cases h
              exact eff_buildSlice R hr hu hs hz hp (Nat.le_of_ble_eq_true hb.1) (Nat.eq_of_beq_eq_true hb.2) hf hc
          · cases h
      · cases h
    · cases h
  case convert s d x =>
    split at h
    · rename_i e l hs hd hx
      split at h
      · rename_i he
        cases hb : Nat.ble l.length 9223372036854775807 with
        | false => simp [hb] at h
        | true => simp only [hb, cond_true] at h; cases h; exact eff_bytes R hs hd he (Nat.le_of_ble_eq_true hb) (hr _ _ hx)
      · cases h
    · cases h
  case makeMap t rs =>
    split at h
    · cases h; exact eff_makeMap R (.inl rfl)
    · rename_i hh
      split at h
      · rename_i kt et k n hu hn
        cases h
        have h1 := hr _ _ hn
        generalize hv : ρ hh = u at h1
        cases h1
        exact eff_makeMap R (.inr ⟨kt, et, k, n, hu, by simp [hv]⟩)
      · cases h
  case makeSlice t l c =>
    split at h
    · rename_i e hu
      split at h
      · rename_i n bytes z lv cv hs hb hz hl hc
        cases hk : Nat.ble lv cv && Nat.ble cv 9223372036854775807 && Nat.ble (cv * bytes) 281474976710656 && Nat.beq z.cells.length (n + 1) && Nat.beq lv cv with
        | false => simp [hk] at h
        | true =>
          simp only [hk, cond_true] at h
          cases h
          simp only [Bool.and_eq_true] at hk
          obtain ⟨⟨⟨⟨_, k2⟩, k3⟩, k4⟩, k5⟩ := hk
          have := Nat.eq_of_beq_eq_true k5
          subst this
          obtain ⟨k1, e1⟩ := natOf?_rel hr hl
          obtain ⟨k1', e2⟩ := natOf?_rel hr hc
          have := eff_makeSlice (P := P) (k := k1) (k' := k1') R hu hs hb hz (Nat.le_of_ble_eq_true k2) (Nat.le_of_ble_eq_true k3) (Nat.eq_of_beq_eq_true k4)
          rw [← e1, ← e2] at this
          exact this
      · cases h
    · cases h
  case mapUpdate t x k y =>
    split at h
    · rename_i kt et q key v hu hx hk hv
      split at h
      · rename_i es clock ho
        cases hkt : keyT P kt key with
        | false => simp [hkt] at h
        | true =>
          simp only [hkt, cond_true] at h
          unfold keyT at hkt
          obtain ⟨b, hkb⟩ := Option.isSome_iff_exists.1 hkt
          exact eff_update R hu hkb (hr _ _ hk) (hr _ _ hv) ho (hr _ _ hx) h
      · cases h
    · cases h
  case insert t x k y =>
    split at h
    · rename_i kt et q key v hu hx hk hv
      split at h
      · rename_i es clock ho
        cases hkt : keyT P kt key with
        | false => simp [hkt] at h
        | true =>
          simp only [hkt, cond_true] at h
          unfold keyT at hkt
          obtain ⟨b, hkb⟩ := Option.isSome_iff_exists.1 hkt
          exact eff_update R hu hkb (hr _ _ hk) (hr _ _ hv) ho (hr _ _ hx) h
      · cases h
    · cases h
  case mapEntry t x k =>
    split at h
    · rename_i kt et q key hu hx hk
      split at h
      · rename_i es clock ho
        cases hkt : keyT P kt key with
        | false => simp [hkt] at h
        | true =>
          simp only [hkt, cond_true] at h
          unfold keyT at hkt
          obtain ⟨b, hkb⟩ := Option.isSome_iff_exists.1 hkt
          exact eff_mapEntry R hu hkb (hr _ _ hk) ho (hr _ _ hx) h
      · cases h
    · cases h
  case entryStore t x s y =>
    split at h
    · rename_i q b v hx hs hv
      split at h
      · rename_i es clock ho
        split at h
        · rename_i i hf
          cases h
          obtain ⟨k, e⟩ := natOf?_rel hr hs
          have := eff_entryStore (P := P) (t := t) (k := k) R (hr _ _ hv) ho (hr _ _ hx) hf
          rw [← e] at this
          exact this
        · cases h
      · cases h
    · cases h
  case range t x =>
    split at h
    · rename_i s hu hx; cases h; exact eff_rangeS R hu (hr _ _ hx)
    · rename_i kt et hu hx; cases h; exact eff_rangeN R hu (hr _ _ hx)
    · rename_i kt et q hu hx
      split at h
      · rename_i es clock ho; cases h; exact eff_rangeM R hu ho (hr _ _ hx)
      · cases h
    · cases h
  case next x isS =>
    split at h
    · rename_i q hx
      split at h
      · rename_i s pos ho; exact eff_nextS R (hr _ _ hx) ho h
      · cases h
    · rename_i q hx
      split at h
      · rename_i a b c ho; exact eff_nextM (f := none) (since := a) (seen := b) (last := c) R (hr _ _ hx) h ho
      · rename_i f since seen last ho; exact eff_nextM (f := some f) (since := since) (seen := seen) (last := last) R (hr _ _ hx) h ho
      · cases h
    · cases h
  case call c =>
    obtain ⟨callee, args, ats⟩ := c
    cases callee with
    | value f =>
      simp only at h
      split at h
      · rename_i gv xs hg hxs
        cases hc : calleeA P gv xs with
        | none => simp [hc] at h
        | some rs =>
          simp only [hc, Option.map_some, Option.some.injEq, Prod.mk.injEq] at h
          obtain ⟨rfl, rfl⟩ := h
          exact eff_call R (hr _ _ hg) (args_of hr hxs) hc
      · cases h
    | invoke _ _ => cases h
    | builtin b =>
      cases b <;> simp only at h <;> try (cases h; done)
      case append =>
        split at h
        · rename_i t u s x ht hut hxs
          split at h
          · rename_i e ud hu hud
            split at h
            · cases h
            · rename_i hni
              split at h
              · rename_i n bytes z hs hb hz
                cases hk : Nat.beq z.cells.length (n + 1) with
                | false => simp [hk] at h
                | true =>
                  simp only [hk, cond_true] at h
                  split at h
                  · rename_i cnt cs hsrc
                    cases ha : appendA e (n + 1) bytes m s cnt cs with
                    | none => simp [ha] at h
                    | some q =>
                      obtain ⟨s', m1⟩ := q
                      simp only [ha, Option.map_some, Option.some.injEq, Prod.mk.injEq] at h
                      obtain ⟨rfl, rfl⟩ := h
                      obtain ⟨u1, u2, hargs, r1, r2⟩ := args_two (args_of hr hxs)
                      obtain ⟨zv, h1, ⟨i, hi, hiz⟩, h2⟩ := zeroT_run (w0 := w0) (base := base) (g := g) hz
                      have hzs : zv.cells.size = n + 1 := by
                        have := (VRels.cells h1).length
                        rw [Array.length_toList (xs := zv.cells), Nat.eq_of_beq_eq_true hk] at this
                        omega
                      have his : i.size = n + 1 := by unfold sizeT at hs; rw [hi] at hs; exact Option.some.inj hs
                      have hib : i.bytes = bytes := by unfold bytesT at hb; rw [hi] at hb; exact Option.some.inj hb
                      obtain ⟨v, w', g', q1, q2, q3, q4⟩ := appendA_run (P := P) (ty := ty) R hu hud (fun k e => hni k (by rw [e])) hi hiz his hib hzs r1 r2 hsrc ha
                      refine ⟨v, w', g', ?_, q2, q3, q4⟩
                      simp only [execOp, resolve, Sem.run_bind, Sem.run_pure, Result.andThen_ok, invoke, builtin, hargs, append_ats ht hut, q1]
                  · cases h
              · cases h
          · cases h
        · cases h
      case unsafeString =>
        split at h
        · rename_i pt p n ht hxs
          obtain ⟨u1, u2, hargs, r1, r2⟩ := args_two (args_of hr hxs)
          cases r2
          split at h
          · cases hs2 : Nat.beq ats.size 2 with
            | false => simp [hs2] at h
            | true =>
              simp only [hs2, cond_true] at h
              cases h
              cases r1
              obtain ⟨t, ts, rfl⟩ := two_ats (Nat.eq_of_beq_eq_true hs2)
              have hrun := Lib.run_unsafeString_none (P := P) w t ts ty none
              refine EffTo.ofVal (v := .string .empty) (w' := w) ?_ (Map.le_refl g) (.str _ _ rfl) R
              simp only [hargs]
              exact hrun
          · rename_i v k n
            split at h
            · rename_i e W c hpt hl
              cases hb : tyIs W.ty e && Nat.beq k W.lo && Nat.ble (k + (n + 1)) W.hi && Nat.beq (P.cellsOf e) 1 && Nat.ble (n + 1) 9223372036854775807 && Nat.beq ats.size 2 with
              | false => simp [hb] at h
              | true =>
                simp only [hb, cond_true] at h
                simp only [Bool.and_eq_true] at hb
                split at h
                · rename_i xs hx
                  split at h
                  · rename_i l hbl
                    cases h
                    have := eff_unsafeString (P := P) (ty := ty) R ht hpt r1 hl hb.1.1.1.1.1 (Nat.eq_of_beq_eq_true hb.1.1.1.1.2) (Nat.le_of_ble_eq_true hb.1.1.1.2) (Nat.eq_of_beq_eq_true hb.1.1.2) (Nat.le_of_ble_eq_true hb.1.2) hx hbl (Nat.eq_of_beq_eq_true hb.2)
                    simp only [execOp, resolve]
                    rw [hargs]
                    exact this
                  · cases h
                · cases h
            · cases h
          · cases h
        · cases h
      case copy =>
        split at h
        · rename_i t d x ht hxs
          split at h
          · rename_i e hu
            split at h
            · rename_i sz hs
              split at h
              · rename_i cnt cs hsrc
                obtain ⟨u1, u2, hargs, r1, r2⟩ := args_two (args_of hr hxs)
                obtain ⟨hcl, hlen, news, hnr, hnrun⟩ := source_run (P := P) R hsrc r2
                have a0 : (#[u1, u2] : Array Value)[0]? = some u1 := rfl
                have a1 : (#[u1, u2] : Array Value)[1]? = some u2 := rfl
                split at h
                · rename_i v k len z
                  cases hb : Nat.beq z (sz + 1) && Nat.ble cnt len with
                  | false => simp [hb] at h
                  | true =>
                    simp only [hb, cond_true] at h
                    rw [Bool.and_eq_true_iff] at hb
                    have hle := Nat.le_of_ble_eq_true hb.2
                    have hmin : Nat.min cnt len = cnt := Nat.min_eq_left hle
                    cases cnt with
                    | zero =>
                      cases h
                      have hn0 : news = #[] := Array.eq_empty_of_size_eq_zero (by
                        have := hnr.length
                        rw [Array.length_toList (xs := news), hcl] at this
                        omega)
                      subst hn0
                      cases r1 with | sl _ _ _ _ a cap p hp h1 h2 h3 =>
                      refine EffTo.ofVal (v := goInt 0) (w' := w) ?_ (Map.le_refl g) (.int _ _) R
                      simp only [hargs, Builtin.copy_, ht, a0, a1, Sem.run_bind, run_underlying hu, Result.andThen_ok, hlen, hmin, sizeT_run hs, hnrun, Sem.run_pure, storeCells, Array.toList_empty, List.size_toArray, List.length_nil]
                      rfl
                    | succ cnt =>
                      cases hst : m.store (.ptr v k) cs with
                      | none => simp [hst] at h
                      | some m1 =>
                        simp only [hst, Option.map_some, Option.some.injEq, Prod.mk.injEq] at h
                        obtain ⟨rfl, rfl⟩ := h
                        obtain ⟨a, cap, w', rfl, q1, q2⟩ := storeSlice (P := P) R hst r1 (by omega) hnr
                        refine EffTo.ofVal (v := goInt (cnt + 1 : Nat)) (w' := w') ?_ (Map.le_refl g) (.int _ _) q2
                        simp only [hargs, Builtin.copy_, ht, a0, a1, Sem.run_bind, run_underlying hu, Result.andThen_ok, hlen, hmin, sizeT_run hs, hnrun, Sem.run_pure, q1]
                · cases h
              · cases h
            · cases h
          · cases h
        · cases h
      case delete =>
        split at h
        · rename_i t q key ht hxs
          split at h
          · rename_i kt et es clock hu ho
            cases hkt : keyT P kt key with
            | false => simp [hkt] at h
            | true =>
              simp only [hkt, cond_true] at h
              unfold keyT at hkt
              obtain ⟨b, hkb⟩ := Option.isSome_iff_exists.1 hkt
              obtain ⟨u1, u2, hargs, r1, r2⟩ := args_two (args_of hr hxs)
              have := eff_delete (P := P) (ty := ty) R hu hkb r2 ho r1 ht h
              simp only [execOp, resolve]
              rw [hargs]
              exact this
          · cases h
        · cases h
      case clear =>
        split at h
        · rename_i t x ht hxs
          obtain ⟨u1, hargs, r1⟩ := args_one (args_of hr hxs)
          have a0 : (#[u1] : Array Value)[0]? = some u1 := rfl
          split at h
          · rename_i e hu
            cases h
            cases r1
            refine EffTo.ofVal (v := .tuple #[]) (w' := w) ?_ (Map.le_refl g) (.tup _ _ .nil) R
            simp only [hargs, Builtin.clear_, ht, a0, Sem.run_bind, run_underlying hu, Result.andThen_ok, Sem.run_pure]
          · rename_i e v k n sz hu
            split at h
            · cases h
              cases r1
              refine EffTo.ofVal (v := .tuple #[]) (w' := w) ?_ (Map.le_refl g) (.tup _ _ .nil) R
              simp only [hargs, Builtin.clear_, ht, a0, Sem.run_bind, run_underlying hu, Result.andThen_ok, Sem.run_pure]
            · rename_i n z zc hs hz
              cases hb : Nat.beq z sz && Nat.beq zc.cells.length sz with
              | false => simp [hb] at h
              | true =>
                simp only [hb, cond_true] at h
                cases hst : m.store (.ptr v k) (replicateA (n + 1) zc.cells) with
                | none => simp [hst] at h
                | some m1 =>
                  simp only [hst, Option.map_some, Option.some.injEq, Prod.mk.injEq] at h
                  obtain ⟨rfl, rfl⟩ := h
                  obtain ⟨zv, h1, _, h2⟩ := zeroT_run (w0 := w0) (base := base) (g := g) hz
                  obtain ⟨a, cap, w', rfl, q1, q2⟩ := storeSlice (P := P) R hst r1 (by omega) (replicateA_rel (VRels.cells h1) (n + 1))
                  refine EffTo.ofVal (v := .tuple #[]) (w' := w') ?_ (Map.le_refl g) (.tup _ _ .nil) q2
                  have hzc : (Builtin.zeroCells zv.cells (n + 1)).toList = (List.replicate (n + 1) zv.cells.toList).flatten := by
                    rcases Nat.eq_zero_or_pos zv.cells.size with h0 | h0
                    · have : zv.cells = #[] := Array.eq_empty_of_size_eq_zero h0
                      rw [this]
                      simp [Builtin.zeroCells]
                    · exact zero_cells zv.cells (n + 1) h0
                  simp only [hargs, Builtin.clear_, ht, a0, Sem.run_bind, run_underlying hu, Result.andThen_ok, Sem.run_pure, h2, hzc, q1]
            · cases h
          · cases h
        · cases h
end
end Go.Vz
