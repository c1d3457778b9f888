/-
  V's WRITING OPERATIONS: maps.
-/
import Derived.Test.YtgagkmbhlpmceaaGreatDoorVzEff2
set_option linter.unusedVariables false
set_option linter.unusedSimpArgs false
namespace Go.Vz
open Go Go.RowKit
section
variable {w0 : World} {base : Nat} {g g' : Map} {P : Program} {m m' : Mem} {w w' : World} {r : Operand → Option AV} {ρ : Operand → Value}

/-- a map's new entries -/
theorem Rel.setMap (R : Rel w0 base g m w) {q : Nat} {es fs : List (AV × AV × Nat)} {clock clock' : Nat} {p : Pl} {es' fs' : Array MapEntry} (ho : m.obs.get q = some (.map es clock)) (hp : g q = some p)
    (hh : w.heap[p.b]? = some (.map es' clock)) (hf : ERels w0 base g fs fs'.toList) :
    Rel w0 base g (m.setOb q (.map fs clock')) { w with heap := w.heap.setIfInBounds p.b (.map fs' clock') } ∧ (Go.setObj p.b (.map fs' clock')).run P w = .ok () { w with heap := w.heap.setIfInBounds p.b (.map fs' clock') } := by
  obtain ⟨p', hp', hd, _⟩ := R.obj q _ ho
  rw [hp] at hp'; cases hp'
  exact ⟨R.setOb ho trivial hp fun m' w' h => ⟨hd, fs', h, hf⟩, run_setObj hh (by intro _ _ _ h; cases h)⟩

theorem ERels.push {es : List (AV × AV × Nat)} {cs : Array MapEntry} (h : ERels w0 base g es cs.toList) {k x : AV} {u v : Value} {b : Nat} (hk : VRel w0 base g k u) (hx : VRel w0 base g x v) :
    ERels w0 base g (es ++ [(k, x, b)]) (cs.push { key := u, val := v, born := b }).toList := by
  rw [Array.toList_push]
  exact h.append (.cons _ _ _ _ _ _ hk hx rfl .nil)
theorem entry_at {cs : Array MapEntry} {n : Nat} {e : MapEntry} (h : cs.toList[n]? = some e) : cs[n]? = some e := by simpa using h

theorem eff_update (R : Rel w0 base g m w) {t kt et : TypeId} (hu : P.underlying t = some (.map kt et)) {key x : AV} {ku xu mu : Value} {q : Nat} {b : Bool} (hkb : eqKey P kt key key = some b) (hk : VRel w0 base g key ku) (hx : VRel w0 base g x xu)
    {es : List (AV × AV × Nat)} {clock : Nat} (ho : m.obs.get q = some (.map es clock)) (hm : VRel w0 base g (.map q) mu) {res : Res}
    (h : (match findA P kt key es 0 with
          | some (some (i, _, _)) => some (Res.skip, m.setOb q (.map (modifyA (fun e => (key, x, e.2.2)) es i) clock))
          | some none => some (.skip, m.setOb q (.map (es ++ [(key, x, clock)]) (clock + 1)))
          | none => none) = some (res, m')) :
    EffTo w0 base g P (do Instr.mapUpdate t mu ku xu; pure .skip) w m' res := by
  obtain ⟨p, es', rfl, hp, hh, hrel⟩ := R.map ho hm
  have hget := run_getObj (P := P) hh (by intro _ _ _ h; cases h)
  split at h
  · rename_i i v c hf
    cases h
    obtain ⟨qf, hq1, n, e, hj, hn, hq⟩ := findKey_run hkb hk w hf hrel
    obtain ⟨n', k', hj', hn', heq⟩ := findA_spec hf
    have hnn : n = n' := by omega
    subst hnn
    obtain ⟨e', he', hkey, hval, hborn⟩ := hrel.get hn'
    rw [hn] at he'; cases he'
    have hi : i = n := by omega
    subst hi; subst hq
    have hent := entry_at hn
    have hmod : ERels w0 base g (modifyA (fun e => (key, x, e.2.2)) es i) (es'.modify i fun e => { e with key := ku, val := xu }).toList := by
      rw [Array.toList_modify]
      exact hrel.modify i fun k x b e _ _ hb => ⟨hk, hx, hb⟩
    obtain ⟨h1, h2⟩ := R.setMap (P := P) ho hp hh hmod (clock' := clock)
    refine ⟨_, g, ?_, Map.le_refl g, h1⟩
    have hstay := keyStays heq hk hkey w
    simp only [Instr.mapUpdate, Sem.run_bind, run_underlying hu, Result.andThen_ok, hget, checkKey_run hkb hk, hq1, hent, Option.map_some, Option.getD_some, hstay, h2, Sem.run_pure]
  · rename_i hf
    cases h
    obtain ⟨qf, hq1, hq⟩ := findKey_run hkb hk w hf hrel
    cases hq
    obtain ⟨h1, h2⟩ := R.setMap (P := P) ho hp hh (hrel.push hk hx (b := clock)) (clock' := clock + 1)
    refine ⟨_, g, ?_, Map.le_refl g, h1⟩
    simp only [Instr.mapUpdate, Sem.run_bind, run_underlying hu, Result.andThen_ok, hget, checkKey_run hkb hk, hq1, h2, Sem.run_pure]
  · cases h

theorem eff_mapEntry (R : Rel w0 base g m w) {t kt et : TypeId} (hu : P.underlying t = some (.map kt et)) {key : AV} {ku mu : Value} {q : Nat} {b : Bool} (hkb : eqKey P kt key key = some b) (hk : VRel w0 base g key ku)
    {es : List (AV × AV × Nat)} {clock : Nat} (ho : m.obs.get q = some (.map es clock)) (hm : VRel w0 base g (.map q) mu) {res : Res}
    (h : (match findA P kt key es 0, zeroT P et with
          | some (some (i, v, b)), _ => some (Res.val (.tup [v, .int .i64 b]), m.setOb q (.map (modifyA (fun e => (key, e.2)) es i) clock))
          | some none, some z => some (.val (.tup [z, .int .i64 clock]), m.setOb q (.map (es ++ [(key, z, clock)]) (clock + 1)))
          | _, _ => none) = some (res, m')) :
    EffTo w0 base g P (do pure (Next.value (← Instr.mapEntry t mu ku))) w m' res := by
  obtain ⟨p, es', rfl, hp, hh, hrel⟩ := R.map ho hm
  have hget := run_getObj (P := P) hh (by intro _ _ _ h; cases h)
  split at h
  · rename_i i v c hf
    cases h
    obtain ⟨qf, hq1, n, e, hj, hn, hq⟩ := findKey_run hkb hk w hf hrel
    obtain ⟨n', k', hj', hn', heq⟩ := findA_spec hf
    have hnn : n = n' := by omega
    subst hnn
    obtain ⟨e', he', hkey, hval, hborn⟩ := hrel.get hn'
    rw [hn] at he'; cases he'
    have hi : i = n := by omega
    subst hi; subst hq
    have hent := entry_at hn
    have hmod : ERels w0 base g (modifyA (fun e => (key, e.2)) es i) (es'.modify i fun e => { e with key := ku }).toList := by
      rw [Array.toList_modify]
      exact hrel.modify i fun k x b e _ hx hb => ⟨hk, hx, hb⟩
    obtain ⟨h1, h2⟩ := R.setMap (P := P) ho hp hh hmod (clock' := clock)
    have hstay := keyStays heq hk hkey w
    refine EffTo.ofVal (v := .tuple #[e.val, goInt e.born]) (w' := _) ?_ (Map.le_refl g) (tuple_two hval (by rw [hborn]; exact .int _ _)) h1
    simp only [Instr.mapEntry, Sem.run_bind, run_underlying hu, Result.andThen_ok, hget, checkKey_run hkb hk, hq1, hent, Option.map_some, Option.getD_some, hstay, h2, Sem.run_pure]
  · rename_i z hf hz
    cases h
    obtain ⟨qf, hq1, hq⟩ := findKey_run hkb hk w hf hrel
    cases hq
    obtain ⟨zv, hz1, _, hz2⟩ := zeroT_run (w0 := w0) (base := base) (g := g) hz
    obtain ⟨h1, h2⟩ := R.setMap (P := P) ho hp hh (hrel.push hk hz1 (b := clock)) (clock' := clock + 1)
    refine EffTo.ofVal (v := .tuple #[zv, goInt clock]) (w' := _) ?_ (Map.le_refl g) (tuple_two hz1 (.int _ _)) h1
    simp only [Instr.mapEntry, Sem.run_bind, run_underlying hu, Result.andThen_ok, hget, checkKey_run hkb hk, hq1, hz2, h2, Sem.run_pure]
  · cases h

theorem findBorn_spec {b : Nat} : ∀ {es : List (AV × AV × Nat)} {cs : List MapEntry} {i j : Nat}, findBorn b es i = some j → ERels w0 base g es cs →
    ∃ n, j = i + n ∧ cs.findIdx? (fun e => (e.born : Int) == (b : Int)) = some n
  | [], cs, i, j, h, hr => by simp [findBorn] at h
  | (k, x, c) :: es, [], i, j, h, hr => by cases hr
  | (k, x, c) :: es, e :: cs, i, j, h, hr => by
    cases hr with | cons _ _ _ _ _ _ h1 h2 h3 h4 =>
    simp only [findBorn] at h
    cases hb : Nat.beq b c with
    | true =>
      simp only [hb, cond_true, Option.some.injEq] at h
      have := Nat.eq_of_beq_eq_true hb
      refine ⟨0, by omega, ?_⟩
      rw [List.findIdx?_cons, if_pos]
      rw [beq_iff_eq, h3, this]
    | false =>
      simp only [hb, cond_false] at h
      obtain ⟨n, hj, hn⟩ := findBorn_spec h h4
      refine ⟨n + 1, by omega, ?_⟩
      rw [List.findIdx?_cons, if_neg, hn]
      · rfl
      · rw [beq_iff_eq, h3]
        intro he
        have : c = b := by omega
        subst this
        simp at hb
theorem eff_entryStore (R : Rel w0 base g m w) {t : TypeId} {x : AV} {xu mu : Value} {q b : Nat} {k : IntKind} (hx : VRel w0 base g x xu)
    {es : List (AV × AV × Nat)} {clock : Nat} (ho : m.obs.get q = some (.map es clock)) (hm : VRel w0 base g (.map q) mu) {i : Nat} (h : findBorn b es 0 = some i) :
    EffTo w0 base g P (do Instr.entryStore t mu (.int k b) xu; pure .skip) w (m.setOb q (.map (modifyA (fun e => (e.1, x, e.2.2)) es i) clock)) .skip := by
  obtain ⟨p, es', rfl, hp, hh, hrel⟩ := R.map ho hm
  have hget := run_getObj (P := P) hh (by intro _ _ _ h; cases h)
  obtain ⟨n, hj, hn⟩ := findBorn_spec h hrel
  have hi : i = n := by omega
  subst hi
  have hmod : ERels w0 base g (modifyA (fun e => (e.1, x, e.2.2)) es i) (es'.modify i fun e => { e with val := xu }).toList := by
    rw [Array.toList_modify]
    exact hrel.modify i fun k x b e hk _ hb => ⟨hk, hx, hb⟩
  obtain ⟨h1, h2⟩ := R.setMap (P := P) ho hp hh hmod (clock' := clock)
  refine ⟨_, g, ?_, Map.le_refl g, h1⟩
  have hidx : es'.findIdx? (fun e => (e.born : Int) == (b : Int)) = some i := by rw [← hn, ← List.findIdx?_toArray, Array.toArray_toList]
  simp only [Instr.entryStore, Sem.run_bind, Result.andThen_ok, hget, asInt, asIntOf, Sem.run_pure, hidx, h2]
theorem eff_delete (R : Rel w0 base g m w) {t kt et ty : TypeId} (hu : P.underlying t = some (.map kt et)) {key : AV} {ku mu : Value} {q : Nat} {b : Bool} (hkb : eqKey P kt key key = some b) (hk : VRel w0 base g key ku)
    {es : List (AV × AV × Nat)} {clock : Nat} (ho : m.obs.get q = some (.map es clock)) (hm : VRel w0 base g (.map q) mu) {ats : Array TypeId} (hat : ats[0]? = some t) {res : Res}
    (h : (match findA P kt key es 0 with
            | some (some (i, _, _)) => some (Res.val (.tup []), m.setOb q (.map (eraseA es i) clock))
            | some none => some (.val (.tup []), m.setOb q (.map es clock))
            | none => none) = some (res, m')) :
    EffTo w0 base g P (do pure (Next.value (← Builtin.delete_ ats ty #[mu, ku]))) w m' res := by
  obtain ⟨p, es', rfl, hp, hh, hrel⟩ := R.map ho hm
  have hget := run_getObj (P := P) hh (by intro _ _ _ h; cases h)
  have a0 : (#[Value.map (some p.b), ku])[0]? = some (.map (some p.b)) := rfl
  have a1 : (#[Value.map (some p.b), ku])[1]? = some ku := rfl
  split at h
  · rename_i i v c hf
    cases h
    obtain ⟨qf, hq1, n, e, hj, hn, hq⟩ := findKey_run hkb hk w hf hrel
    have hi : i = n := by omega
    subst hi; subst hq
    have hmod : ERels w0 base g (eraseA es i) (es'.eraseIdxIfInBounds i).toList := by
      rw [Array.toList_eraseIdxIfInBounds]
      exact hrel.erase i
    obtain ⟨h1, h2⟩ := R.setMap (P := P) ho hp hh hmod (clock' := clock)
    refine EffTo.ofVal (v := .tuple #[]) (w' := _) ?_ (Map.le_refl g) (.tup _ _ .nil) h1
    simp only [Builtin.delete_, hat, a0, a1, Sem.run_bind, run_underlying hu, Result.andThen_ok, hget, checkKey_run hkb hk, hq1, h2, Sem.run_pure]
  · rename_i hf
    cases h
    obtain ⟨qf, hq1, hq⟩ := findKey_run hkb hk w hf hrel
    cases hq
    obtain ⟨h1, h2⟩ := R.setMap (P := P) ho hp hh hrel (clock' := clock)
    refine EffTo.ofVal (v := .tuple #[]) (w' := _) ?_ (Map.le_refl g) (.tup _ _ .nil) h1
    simp only [Builtin.delete_, hat, a0, a1, Sem.run_bind, run_underlying hu, Result.andThen_ok, hget, checkKey_run hkb hk, hq1, h2, Sem.run_pure]
  · cases h
/-- a new object that is no window -/
theorem Rel.freshOb (R : Rel w0 base g m w) (o : Ob) (obj : Obj) (ho : o.plain) (hnew : ∀ g' m' w', g.le g' → w'.heap[w.heap.size]? = some obj → ORel w0 base g' m' w' m.nxt ⟨w.heap.size, 0, 0⟩ o) :
    g.le (g.add m.nxt ⟨w.heap.size, 0, 0⟩) ∧ Rel w0 base (g.add m.nxt ⟨w.heap.size, 0, 0⟩) (m.freshOb o) (w.alloc obj) :=
  R.newOb o obj ⟨0, none, 0, false⟩ 0 (fun W h => by subst h; cases ho) (fun g' m' w' hle _ hh _ => hnew g' m' w' hle hh)
end
end Go.Vz
