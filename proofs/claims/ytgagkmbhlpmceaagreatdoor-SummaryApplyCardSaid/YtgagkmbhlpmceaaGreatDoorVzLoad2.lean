/-
  V's READING OPERATIONS: the theorem.
-/
import Derived.Test.YtgagkmbhlpmceaaGreatDoorVzMap
import Derived.Lib.UnsafeStr
import Derived.Lib.Builder
set_option linter.unusedVariables false
set_option linter.unusedSimpArgs false
namespace Go.Vz
open Go Go.RowKit
section
variable {w0 : World} {base : Nat} {g : Map} {P : Program} {m : Mem} {w : World} {r : Operand → Option AV} {ρ : Operand → Value}

/-- the entries of a map -/
theorem Rel.map (R : Rel w0 base g m w) {q : Nat} {es : List (AV × AV × Nat)} {clock : Nat} {u : Value} (h : m.obs.get q = some (.map es clock)) (hu : VRel w0 base g (.map q) u) :
    ∃ p es', u = .map (some p.b) ∧ g q = some p ∧ w.heap[p.b]? = some (.map es' clock) ∧ ERels w0 base g es es'.toList := by
  obtain ⟨p, hp, hd, es', hh, hr⟩ := R.obj q _ h
  cases hu with | map _ p' hp' =>
  rw [hp] at hp'
  cases hp'
  exact ⟨p, es', rfl, hp, hh, hr⟩
theorem run_getObj {w : World} {b : Nat} {o : Obj} (h : w.heap[b]? = some o) (hc : ∀ c e f, o ≠ .cells c e f) : (getObj b).run P w = .ok o w := by
  unfold getObj
  simp only [Sem.run, h]
theorem tuple_two {x y : AV} {u v : Value} (h : VRel w0 base g x u) (k : VRel w0 base g y v) : VRel w0 base g (.tup [x, y]) (.tuple #[u, v]) := .tup _ _ (.cons _ _ _ _ h (.cons _ _ _ _ k .nil))

theorem lookup_run (R : Rel w0 base g m w) {t kt et : TypeId} (hu : P.underlying t = some (.map kt et)) {key mv : AV} {ku mu : Value} {b ok : Bool} (hkb : eqKey P kt key key = some b) (hkr : VRel w0 base g key ku)
    {es : List (AV × AV × Nat)} (he : mapEs m mv = some es) (hmr : VRel w0 base g mv mu) {x : AV}
    (h : (match findA P kt key es 0 with
          | some (some (_, v, _)) => some (bif ok then .tup [v, .bool true] else v)
          | some none => match zeroT P et with
            | some z => some (bif ok then .tup [z, .bool false] else z)
            | none => none
          | none => none) = some x) : ∃ v, VRel w0 base g x v ∧ (Instr.lookup t mu ku ok).run P w = .ok v w := by
  have tail : ∀ es' : Array MapEntry, ERels w0 base g es es'.toList → ∃ v, VRel w0 base g x v ∧ (do
      Instr.checkKey es'.isEmpty 10000 kt ku
      let (v, ok') ← match ← Instr.findKey kt ku es'.toList with
        | some (_, v) => pure (v, true)
        | none => pure (← zeroValue et, false)
      pure (if ok then Value.tuple #[v, .bool ok'] else v) : Sem Value).run P w = .ok v w := by
    intro es' hrel
    split at h
    · rename_i j v c hf
      cases h
      obtain ⟨q, hq1, n, e, hj, hn, hq⟩ := findKey_run hkb hkr w hf hrel
      obtain ⟨n', k', hj', hn', _⟩ := findA_spec hf
      have hnn : n = n' := by omega
      subst hnn
      obtain ⟨e', he', _, hval, _⟩ := hrel.get hn'
      rw [hn] at he'
      cases he'
      subst hq
      refine ⟨if ok then .tuple #[e.val, .bool true] else e.val, ?_, by simp only [Sem.run_bind, checkKey_run hkb hkr, Result.andThen_ok, hq1, Sem.run_pure]⟩
      cases ok with
      | true => exact tuple_two hval (.bool true)
      | false => exact hval
    · rename_i hf
      obtain ⟨q, hq1, hq⟩ := findKey_run hkb hkr w hf hrel
      cases hq
      cases hz : zeroT P et with
      | none => simp [hz] at h
      | some z =>
        simp only [hz] at h
        cases h
        obtain ⟨zv, hz1, _, hz2⟩ := zeroT_run (w0 := w0) (base := base) (g := g) hz
        refine ⟨if ok then .tuple #[zv, .bool false] else zv, ?_, by simp only [Sem.run_bind, checkKey_run hkb hkr, Result.andThen_ok, hq1, hz2, Sem.run_pure]⟩
        cases ok with
        | true => exact tuple_two hz1 (.bool false)
        | false => exact hz1
    · cases h
  cases mv <;> simp only [mapEs] at he <;> try (cases he; done)
  case nilmap =>
    cases he
    cases hmr
    obtain ⟨v, hv1, hv2⟩ := tail #[] .nil
    refine ⟨v, hv1, ?_⟩
    simp only [Instr.lookup, Sem.run_bind, run_underlying hu, Result.andThen_ok, Sem.run_pure] at hv2 ⊢
    exact hv2
  case map q =>
    cases ho : m.obs.get q with
    | none => simp [ho] at he
    | some o =>
      cases o <;> simp only [ho] at he <;> try (cases he; done)
      case map es2 clock =>
        cases he
        obtain ⟨p, es', rfl, _, hh, hrel⟩ := R.map ho hmr
        obtain ⟨v, hv1, hv2⟩ := tail es' hrel
        refine ⟨v, hv1, ?_⟩
        simp only [Instr.lookup, Sem.run_bind, run_underlying hu, Result.andThen_ok, Sem.run_pure, run_getObj hh (by intro _ _ _ h; cases h)] at hv2 ⊢
        exact hv2

theorem liesAt_head {e : TypeId} {count : Nat} (hc : P.cellsOf e ≠ 0) (hn : 1 ≤ count) : liesAt P P.depth e count 0 e 1 = true := by
  have hd : P.depth = (2 * (P.types.size + Made.depth) + 1) + 1 := rfl
  rw [hd]
  simp only [liesAt, Bool.or_eq_true]
  left
  rw [hd]
  simp [rowAt, hc, hn, sameLayout]
theorem loadA_sound (R : Rel w0 base g m w) {o : Oper} {x : AV} (hr : ∀ y a, r y = some a → VRel w0 base g a (ρ y)) (h : loadA P r m o.op = some x) :
    ∃ v, VRel w0 base g x v ∧ (execOp ρ o).run P w = .ok (.value v) w := by
  obtain ⟨dst, op, ty, pos, after, guard⟩ := o
  simp only at h
  unfold loadA at h
  split at h
  · rename_i t y
    split at h
    · rename_i a n ha hn
      have h1 := hr _ _ ha
      generalize hv : ρ y = u at h1
      split at h
      · rename_i hg
        cases hl : m.load a n with
        | none => simp [hl] at h
        | some xs =>
          simp only [hl, Option.map_some, Option.some.injEq] at h
          subst h
          obtain ⟨ad, rfl⟩ := load_addr hl h1
          obtain ⟨v, hv1, hv2⟩ := (R.loadVar (P := P) hn h1).1 hg xs hl
          exact ⟨v, hv1, by simp [execOp, Instr.loadAt, hv, Instr.sureAddr, hv2]⟩
      · rename_i hg
        split at h
        · rename_i z hl
          cases h
          obtain ⟨ad, rfl⟩ := load_addr hl h1
          obtain ⟨v, hv1, hv2⟩ := (R.loadVar (P := P) hn h1).2 hg _ hl
          exact ⟨v, hv1, by simp [execOp, Instr.loadAt, hv, Instr.sureAddr, hv2]⟩
        · cases h
      · cases h
    · cases h
  · rename_i s d y
    split at h
    · rename_i t v k hs hd ha
      split at h
      · rename_i n W c hsz hl
        cases hb : Nat.ble W.lo k && Nat.ble (k + 1) W.hi with
        | false => simp [hb] at h
        | true =>
          simp only [hb, cond_true] at h
          cases h
          rw [Bool.and_eq_true_iff] at hb
          have hb1 := Nat.le_of_ble_eq_true hb.1
          have hb2 := Nat.le_of_ble_eq_true hb.2
          obtain ⟨q1, q2, q3⟩ := Mem.live_spec hl
          obtain ⟨p, hp, cells, e, fr, c', hheap, hcs, _, _, hhb, _⟩ := R.obj _ _ q1
          have h1 := hr _ _ ha
          generalize hv : ρ y = u at h1
          cases h1 with | ptr _ _ o p' hp' ho =>
          rw [hp] at hp'; cases hp'
          obtain ⟨i, hi, hiz⟩ : ∃ i, P.info? t = some i ∧ i.size = n + 1 := by
            unfold sizeT at hsz
            cases hi : P.info? t with
            | none => simp [hi] at hsz
            | some i => simp only [hi, Option.map_some, Option.some.injEq] at hsz; exact ⟨i, rfl, hsz⟩
          have hhb1 := hhb.1
          have hrun := Lib.run_to_unsafe (P := P) w (e := e) (cells := cells.size) ⟨p.b, o, none⟩ hs hd hi (by omega) (by simp [World.shape?, hheap]) (by show o < cells.size; omega)
          exact ⟨_, .ptr _ _ o p hp ho, by simp only [execOp, hv, Sem.run_bind, hrun, Result.andThen_ok, Sem.run_pure]⟩
      · cases h
    · rename_i u v k hs hd ha
      split at h
      · rename_i n W c hsz hl
        cases hb : tyIs W.ty u && Nat.beq k W.lo && Nat.ble (k + (n + 1)) W.hi with
        | false => simp [hb] at h
        | true =>
          simp only [hb, cond_true] at h
          cases h
          simp only [Bool.and_eq_true] at hb
          have hb1 := Nat.eq_of_beq_eq_true hb.1.2
          have hb2 := Nat.le_of_ble_eq_true hb.2
          obtain ⟨q1, q2, q3⟩ := Mem.live_spec hl
          obtain ⟨p, hp, cells, e, fr, c', hheap, hcs, _, _, hhb, _⟩ := R.obj _ _ q1
          have hty : W.ty = some u := by
            cases hw : W.ty with
            | none => rw [hw] at hb; exact absurd hb.1.1 (by intro h; cases h)
            | some t => rw [hw] at hb; rw [Nat.eq_of_beq_eq_true hb.1.1]
          obtain ⟨he, hlo⟩ := hhb.2 u hty
          subst he
          have h1 := hr _ _ ha
          generalize hv : ρ y = uu at h1
          cases h1 with | ptr _ _ o p' hp' ho =>
          rw [hp] at hp'; cases hp'
          have ho0 : o = 0 := by omega
          subst ho0
          obtain ⟨i, hi, hiz⟩ : ∃ i, P.info? e = some i ∧ i.size = n + 1 := by
            unfold sizeT at hsz
            cases hi : P.info? e with
            | none => simp [hi] at hsz
            | some i => simp only [hi, Option.map_some, Option.some.injEq] at hsz; exact ⟨i, rfl, hsz⟩
          have hhb1 := hhb.1
          have hcell : P.cellsOf e = n + 1 := by unfold Program.cellsOf; rw [hi]; exact hiz
          have hlies := liesAt_head (P := P) (e := e) (count := cells.size / P.cellsOf e) (by rw [hcell]; omega) (by rw [hcell]; exact Nat.div_pos (by omega) (by omega))
          have hrun := Lib.run_from_unsafe (P := P) w (e := e) (cells := cells.size) ⟨p.b, 0, none⟩ hs hd hi (by simp [World.shape?, hheap]) hlies
          exact ⟨_, .ptr _ _ 0 p hp ho, by simp only [execOp, hv, Sem.run_bind, hrun, Result.andThen_ok, Sem.run_pure]⟩
      · cases h
    · cases h
  · rename_i t y lo hi
    split at h
    · rename_i n e v k hu ha
      split at h
      · rename_i z l hh hz hb
        split at h
        · cases h
        · rename_i n
          cases hbl : Nat.ble (n + 1) 9223372036854775807 with
          | false => simp [hbl] at h
          | true =>
          simp only [hbl, cond_true] at h
          have hml : n + 1 ≤ maxLen := by have := Nat.le_of_ble_eq_true hbl; simp only [maxLen]; omega
          split at h
          · rename_i xs hl
            cases h
            have h1 := hr _ _ ha
            generalize hv : ρ y = u at h1
            cases h1 with | ptr _ _ o p hp ho =>
            obtain ⟨b1, b2, b3⟩ := bounds_run (P := P) hr hb (Nat.le_refl _) false
            have hmul : (n + 1) * (z + 1) = n * (z + 1) + z + 1 := by rw [Nat.succ_mul]; omega
            -- the last cell lies there
            have h2 : VRel w0 base g (.ptr v (k + (n + 1) * (z + 1) - 1)) (.pointer (some ⟨p.b, o + ((n + 1) * (z + 1) - 1), none⟩)) := .ptr _ _ _ p hp (by omega)
            obtain ⟨hlen, us, hu1, hu2⟩ := R.load hl h2
            have hus : us.length = 1 := by rw [← hu1.length]; exact hlen
            obtain ⟨u0, hu0⟩ : ∃ u0, us[0]? = some u0 := ⟨us[0], List.getElem?_eq_getElem (by omega)⟩
            have hcell := hu2 0 u0 hu0
            rw [Addr.add_zero'] at hcell
            have hsize : o + ((n + 1) * (z + 1) - 1) < p.n := by
              simp only [Mem.load] at hl
              cases hlv : m.live v with
              | none => simp [hlv] at hl
              | some Wc =>
                obtain ⟨W, c⟩ := Wc
                obtain ⟨q1, q2, q3⟩ := Mem.live_spec hlv
                obtain ⟨p', hp', cells, e', fr, c', hheap, hsz, _⟩ := R.obj _ _ q1
                rw [hp] at hp'; cases hp'
                rw [cell_block hheap] at hcell
                have := (Array.getElem?_eq_some_iff.1 hcell).1
                omega
            refine ⟨.slice (some (if n + 1 = l then ⟨p.b, o, none⟩ else ⟨p.b, o + l * (z + 1), none⟩)) (hh - l) (n + 1 - l), ?_, ?_⟩
            · by_cases hn : n + 1 = l
              · rw [if_pos hn]
                refine .sl v _ _ _ _ _ p hp (by omega) (by omega) (fun hlt => by omega)
              · rw [if_neg hn]
                refine .sl v _ _ _ _ _ p hp (by omega) (by omega) (fun hlt => ⟨o + l * (z + 1), rfl, by omega, ?_⟩)
                · have : l * (z + 1) + (n + 1 - l) * (z + 1) = (n + 1) * (z + 1) := by rw [← Nat.add_mul]; congr 1; omega
                  omega
            · simp only [execOp, Instr.sliceAt, hv, Sem.run_bind, run_underlying hu, Result.andThen_ok, Instr.sureAddr, Sem.run_pure, b3, sizeT_run hz, Addr.add_lit, Option.map_none]
          · cases h
      · cases h
    · cases h
  · rename_i t y i ok
    split at h
    · rename_i kt et mv key hu hmv hkey
      cases hk : keyT P kt key with
      | false => simp [hk] at h
      | true =>
        simp only [hk, cond_true] at h
        unfold keyT at hk
        obtain ⟨b, hkb⟩ := Option.isSome_iff_exists.1 hk
        cases he : mapEs m mv with
        | none => simp [he] at h
        | some es =>
          simp only [he] at h
          obtain ⟨v, hv1, hv2⟩ := lookup_run (P := P) R hu hkb (hr _ _ hkey) he (hr _ _ hmv) (ok := ok) h
          exact ⟨v, hv1, by simp only [execOp, Sem.run_bind, hv2, Result.andThen_ok, Sem.run_pure]⟩
    · cases h
  · rename_i c
    split at h
    · rename_i hc
      split at h
      · rename_i t q ht hy
        split at h
        · rename_i kt et es clock hu ho
          cases h
          have h1 := operands_rel hr hy
          obtain ⟨callee, args, argTypes⟩ := c
          simp only at hc hy ht h1
          subst hc
          cases hargs : args.toList with
          | nil => rw [hargs] at h1; cases h1
          | cons a0 rest =>
            cases rest with
            | cons _ _ => rw [hargs] at h1; cases h1 with | cons _ _ _ _ _ h2 => cases h2
            | nil =>
              rw [hargs] at h1
              cases h1 with | cons _ _ _ _ h1 _ =>
              have ha : args = #[a0] := by rw [← Array.toArray_toList (xs := args), hargs]
              subst ha
              generalize hv : ρ a0 = u at h1
              obtain ⟨p, es', rfl, _, hh, hrel⟩ := R.map ho h1
              refine ⟨.int .i64 es.length, .int _ _, ?_⟩
              have hl : es.length = es'.size := by simpa using hrel.length
              simp [execOp, resolve, invoke, builtin, Builtin.len_, ht, hv, run_underlying hu, run_getObj hh (by intro _ _ _ h; cases h), goInt, hl]
        · cases h
      · cases h
    · cases h
  · cases h
end
end Go.Vz
