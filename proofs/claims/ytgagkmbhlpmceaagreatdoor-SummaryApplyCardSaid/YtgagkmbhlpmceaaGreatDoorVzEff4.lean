/-
  V's WRITING OPERATIONS: the others.
-/
import Derived.Test.YtgagkmbhlpmceaaGreatDoorVzEff3
import Derived.Laws.IdiomStrings
import Derived.Laws.RangeString
import Derived.Lib.UnsafeStr
set_option linter.unusedVariables false
set_option linter.unusedSimpArgs false
namespace Go.Vz
open Go Go.RowKit
section
variable {w0 : World} {base : Nat} {g g' : Map} {P : Program} {m m' : Mem} {w w' : World} {r : Operand → Option AV} {ρ : Operand → Value}

theorem ints_all : ∀ l : List Nat, allCells (l.map fun b => AV.int .u8 (b : Nat)) = true
  | [] => rfl
  | _ :: l => by simp only [List.map_cons, allCells, AV.isCell, ints_all l, Bool.and_self]
theorem eff_bytes (R : Rel w0 base g m w) {s d e : TypeId} {l : List Nat} {u : Value} (hs : P.underlying s = some .string) (hd : P.underlying d = some (.slice e)) (he : P.underlying e = some (.int .u8)) (hl : l.length ≤ 9223372036854775807) (hu : VRel w0 base g (.str l) u) :
    EffTo w0 base g P (do pure (Next.value (← convert s d u))) w (m.freshFro (l.map fun b => .int .u8 (b : Nat))) (.val (.sl m.nxt 0 l.length 1)) := by
  cases hu with | str _ b hb =>
  subst hb
  have hrun := run_bytes_of_string (P := P) w s d e b hs hd he
  have hln : (natOf b).length = b.size := natOf_length b
  have hge := grownCap_ge w b.size 0 e
  have hcm := grownCap_le_maxLen w b.size 0 e (by simp only [maxLen]; omega)
  have hsz : (bytesRow b (grownCap w b.size 0 e)).size = grownCap w b.size 0 e := by
    unfold bytesRow
    rw [Array.size_append, Array.size_map, Array.size_replicate]
    show b.size + _ = _
    omega
  obtain ⟨q1, q2⟩ := R.drew.fresh' none ((natOf b).map fun b => .int .u8 (b : Nat)) (bytesRow b (grownCap w b.size 0 e)) e (fun t h => by cases h) ((bytesRow b (grownCap w b.size 0 e)).size, (bytesRow b (grownCap w b.size 0 e)).size + 1) true (fun h => by cases h) (ints_all _) (by
    unfold bytesRow
    have hdl : (Array.map (fun b => Value.int .u8 b.toNat) b.data : Array Value).toList.length = b.size := by rw [Array.length_toList, Array.size_map]; rfl
    rw [Array.toList_append, List.take_append_of_le_length (by rw [List.length_map, hdl]; omega), List.take_of_length_le (by rw [List.length_map, hdl]; omega), Array.toList_map]
    exact VRels.ints b.data.toList)
  refine EffTo.ofVal hrun q1 ?_ q2
  rw [hln]
  refine .sl _ _ _ _ _ _ _ (Map.add_same _ _ _) hge hcm (fun _ => ⟨0, rfl, rfl, ?_⟩)
  show 0 + _ ≤ (bytesRow b (grownCap w b.size 0 e)).size
  rw [hsz]; omega
theorem eff_makeMap (R : Rel w0 base g m w) {t : TypeId} {h : Option Value} (hh : (h = none) ∨ ∃ kt et k n, P.underlying t = some (.map kt et) ∧ h = some (.int k n)) :
    EffTo w0 base g P (do pure (Next.value (← Instr.makeMap t h))) w (m.freshOb (.map [] 0)) (.val (.map m.nxt)) := by
  obtain ⟨q1, q2⟩ := R.freshOb (.map [] 0) (.map #[] 0) trivial (fun g' m' w' _ h => ⟨rfl, #[], h, .nil⟩)
  refine EffTo.ofVal (v := .map (some w.heap.size)) (w' := w.alloc (.map #[] 0)) ?_ q1 (.map _ _ (Map.add_same _ _ _)) q2
  rcases hh with rfl | ⟨kt, et, k, n, hu, rfl⟩
  · simp only [Instr.makeMap, Sem.run_bind, Sem.run_pure, Result.andThen_ok, run_newObj]
    rfl
  · simp only [Instr.makeMap, Sem.run_bind, Sem.run_pure, Result.andThen_ok, run_newObj, run_underlying hu, asInt, asIntOf]
    rfl
theorem eff_makeSlice (R : Rel w0 base g m w) {t e : TypeId} {n bytes l : Nat} {z : AV} {k k' : IntKind} (hu : P.underlying t = some (.slice e)) (hs : sizeT P e = some (n + 1)) (hb : bytesT P e = some bytes) (hz : zeroT P e = some z)
    (h63 : l ≤ 9223372036854775807) (h48 : l * bytes ≤ 281474976710656) (hzl : z.cells.length = n + 1) :
    EffTo w0 base g P (do pure (Next.value (← Instr.makeSlice t (.int k l) (.int k' l)))) w (m.fresh (some e) (replicateA l z.cells)) (.val (.sl m.nxt 0 l (n + 1))) := by
  obtain ⟨zv, h1, ⟨i, hi, hiz⟩, h2⟩ := zeroT_run (w0 := w0) (base := base) (g := g) hz
  have hzc := VRels.cells h1
  have hzs : zv.cells.size = n + 1 := by
    have := hzc.length
    rw [Array.length_toList (xs := zv.cells)] at this
    omega
  have his : i.size = n + 1 := by unfold sizeT at hs; rw [hi] at hs; exact Option.some.inj hs
  have hib : i.bytes = bytes := by unfold bytesT at hb; rw [hi] at hb; exact Option.some.inj hb
  have hrun := run_make (P := P) w t e i zv hu hi hiz k k' (l : Int) (l : Int) (by omega) (by omega) (by rw [hib, ← Int.natCast_mul, Nat.mul_comm]; exact Int.ofNat_le.2 h48) (by omega)
  simp only [Int.toNat_natCast, his] at hrun
  have hcells : (madeCells zv.cells (l * (n + 1))).toList = (List.replicate l zv.cells.toList).flatten := by
    have := zero_cells zv.cells l (by omega)
    unfold madeCells
    rw [← hzs]
    exact this
  obtain ⟨q1, q2⟩ := R.fresh1 (replicateA l z.cells) (madeCells zv.cells (l * (n + 1))) e (replicateA_all (zeroT_all hz) l) (by rw [hcells]; exact replicateA_rel hzc l)
  refine EffTo.ofVal hrun q1 (.sl _ _ _ _ _ _ _ (Map.add_same _ _ _) (Nat.le_refl _) (by simp only [maxLen]; omega) (fun _ => ⟨0, rfl, rfl, ?_⟩)) q2
  show 0 + _ ≤ (madeCells zv.cells (l * (n + 1))).size
  rw [size_madeCells]; omega
theorem eff_rangeS (R : Rel w0 base g m w) {t : TypeId} {s : List Nat} {u : Value} (hu : P.underlying t = some .string) (hx : VRel w0 base g (.str s) u) :
    EffTo w0 base g P (do pure (Next.value (← Instr.range t u))) w (m.freshOb (.siter s 0)) (.val (.ptr m.nxt 0)) := by
  cases hx with | str _ b hb =>
  obtain ⟨q1, q2⟩ := R.freshOb (.siter s 0) (.stringIter b 0) trivial (fun g' m' w' _ h => ⟨rfl, b, hb, h⟩)
  refine EffTo.ofVal (v := .pointer (some ⟨w.heap.size, 0, none⟩)) (w' := w.alloc (.stringIter b 0)) ?_ q1 (.ptr _ _ 0 _ (Map.add_same _ _ _) rfl) q2
  simp only [Instr.range, Sem.run_bind, run_underlying hu, Result.andThen_ok, Sem.run_pure, run_newObj]
  rfl
theorem eff_rangeN (R : Rel w0 base g m w) {t kt et : TypeId} {u : Value} (hu : P.underlying t = some (.map kt et)) (hx : VRel w0 base g .nilmap u) :
    EffTo w0 base g P (do pure (Next.value (← Instr.range t u))) w (m.freshOb (.miter none 0 [] 0)) (.val (.ptr m.nxt 0)) := by
  cases hx
  obtain ⟨q1, q2⟩ := R.freshOb (.miter none 0 [] 0) (.mapIter none 0 #[] 0) trivial (fun g' m' w' _ h => ⟨rfl, none, rfl, h⟩)
  refine EffTo.ofVal (v := .pointer (some ⟨w.heap.size, 0, none⟩)) (w' := w.alloc (.mapIter none 0 #[] 0)) ?_ q1 (.ptr _ _ 0 _ (Map.add_same _ _ _) rfl) q2
  simp only [Instr.range, Sem.run_bind, run_underlying hu, Result.andThen_ok, Sem.run_pure, run_newObj]
  rfl
theorem eff_rangeM (R : Rel w0 base g m w) {t kt et : TypeId} {u : Value} {q clock : Nat} {es : List (AV × AV × Nat)} (hu : P.underlying t = some (.map kt et)) (ho : m.obs.get q = some (.map es clock)) (hx : VRel w0 base g (.map q) u) :
    EffTo w0 base g P (do pure (Next.value (← Instr.range t u))) w (m.freshOb (.miter (some q) clock [] clock)) (.val (.ptr m.nxt 0)) := by
  obtain ⟨p, es', rfl, hp, hh, hrel⟩ := R.map ho hx
  have hget := run_getObj (P := P) hh (by intro _ _ _ h; cases h)
  obtain ⟨q1, q2⟩ := R.freshOb (.miter (some q) clock [] clock) (.mapIter (some p.b) clock #[] clock) trivial (fun g' m' w' hle h => ⟨rfl, some p.b, ⟨p, hle _ _ hp, rfl⟩, h⟩)
  refine EffTo.ofVal (v := .pointer (some ⟨w.heap.size, 0, none⟩)) (w' := w.alloc (.mapIter (some p.b) clock #[] clock)) ?_ q1 (.ptr _ _ 0 _ (Map.add_same _ _ _) rfl) q2
  simp only [Instr.range, Sem.run_bind, run_underlying hu, Result.andThen_ok, Sem.run_pure, run_newObj, hget]
  rfl
theorem eff_nextS (R : Rel w0 base g m w) {ty : TypeId} {q pos : Nat} {s : List Nat} {u : Value} {res : Res} (hx : VRel w0 base g (.ptr q 0) u) (ho : m.obs.get q = some (.siter s pos))
    (h : (bif Nat.ble (pos + 1) s.length then
          (match s[pos]? with
          | some c => bif Nat.ble c 127 then some (Res.val (.tup [.bool true, .int .i64 pos, .int .i32 c]), m.setOb q (.siter s (pos + 1))) else none
          | none => none) else some (.val (.tup [.bool false]), m)) = some (res, m')) :
    EffTo w0 base g P (do pure (Next.value (← Instr.next u true ty))) w m' res := by
  obtain ⟨p, hp, hd, s', hs', hh⟩ := R.obj q _ ho
  have hget := run_getObj (P := P) hh (by intro _ _ _ h; cases h)
  cases hx with | ptr _ _ o p' hp' hod =>
  rw [hp] at hp'; cases hp'
  have ho0 : o = 0 := by omega
  subst ho0; subst hs'
  rw [natOf_length] at h
  cases hb : Nat.ble (pos + 1) s'.size with
  | false =>
    simp only [hb, cond_false, Option.some.injEq, Prod.mk.injEq] at h
    obtain ⟨rfl, rfl⟩ := h
    have hlt : ¬ pos < s'.size := fun hlt => by
      have := Nat.ble_eq_true_of_le (show pos + 1 ≤ s'.size from hlt)
      rw [hb] at this; cases this
    refine EffTo.ofVal (v := .tuple #[.bool false]) ?_ (Map.le_refl g) (.tup _ _ (.cons _ _ _ _ (.bool _) .nil)) R
    simp only [Instr.next, Sem.run_bind, hget, Result.andThen_ok, if_neg hlt, Sem.run_pure]
  | true =>
    simp only [hb, cond_true, natOf_get] at h
    have hlt : pos < s'.size := Nat.le_of_ble_eq_true hb
    have hat : s'[pos]? = some (s'[pos]'hlt) := by simp [hlt]
    rw [hat] at h
    simp only [Option.map_some] at h
    cases hc : Nat.ble (s'[pos]'hlt).toNat 127 with
    | false => simp [hc] at h
    | true =>
      simp only [hc, cond_true, Option.some.injEq, Prod.mk.injEq] at h
      obtain ⟨rfl, rfl⟩ := h
      have hle : (s'[pos]'hlt).toNat < 128 := Nat.lt_succ_of_le (Nat.le_of_ble_eq_true hc)
      have hR := R.setOb (o' := .siter (natOf s') (pos + 1)) (obj := .stringIter s' (pos + 1)) ho trivial hp (fun m' w' h => ⟨hd, s', rfl, h⟩)
      have hset := run_setObj (P := P) (o' := .stringIter s' (pos + 1)) hh (by intro _ _ _ h; cases h)
      refine EffTo.ofVal (v := .tuple #[.bool true, goInt pos, .int .i32 (s'[pos]'hlt).toNat]) ?_ (Map.le_refl g) (.tup _ _ (.cons _ _ _ _ (.bool _) (.cons _ _ _ _ (.int _ _) (.cons _ _ _ _ (.int _ _) .nil)))) hR
      simp only [Instr.next, Sem.run_bind, hget, Result.andThen_ok, if_pos hlt, Sem.run_pure, decode_ascii s' pos hlt hle, hset]
theorem eff_nextM (R : Rel w0 base g m w) {ty : TypeId} {q since last : Nat} {u : Value} {res : Res} {f : Option Nat} {seen : List Nat} (hx : VRel w0 base g (.ptr q 0) u)
    (h : (match f with
      | none => some (Res.val (.tup [.bool false]), m)
      | some f => match m.obs.get f with
        | some (.map es clock) =>
          (match es with
          | [] => some (.val (.tup [.bool false]), m)
          | [(k, v, b)] => bif Nat.ble (b + 1) since then
              (match seen with
              | [] => some (.val (.tup [.bool true, k, v]), m.setOb q (.miter (some f) since [b] clock))
              | [b'] => bif Nat.beq b b' && Nat.ble (b + 1) last then some (.val (.tup [.bool false]), m) else none
              | _ => none) else none
          | _ => none)
        | _ => none) = some (res, m')) (ho : m.obs.get q = some (.miter f since seen last)) :
    EffTo w0 base g P (do pure (Next.value (← Instr.next u false ty))) w m' res := by
  obtain ⟨p, hp, hd, f', hf', hh⟩ := R.obj q _ ho
  have hget := run_getObj (P := P) hh (by intro _ _ _ h; cases h)
  cases hx with | ptr _ _ o p' hp' hod =>
  rw [hp] at hp'; cases hp'
  have ho0 : o = 0 := by omega
  subst ho0
  cases f with
  | none =>
    cases hf'
    cases h
    refine EffTo.ofVal (v := .tuple #[.bool false]) ?_ (Map.le_refl g) (.tup _ _ (.cons _ _ _ _ (.bool _) .nil)) R
    simp only [Instr.next, Sem.run_bind, hget, Result.andThen_ok, Sem.run_pure]
  | some f =>
    obtain ⟨pf, hpf, rfl⟩ := hf'
    cases hmo : m.obs.get f with
    | none => simp [hmo] at h
    | some om =>
      cases om <;> simp only [hmo] at h <;> try (cases h; done)
      rename_i es clock
      obtain ⟨pf', hpf', hdf, es', hhf, hrel⟩ := R.obj f _ hmo
      rw [hpf] at hpf'; cases hpf'
      have hgetm := run_getObj (P := P) hhf (by intro _ _ _ h; cases h)
      have hover : VRel w0 base g (.tup [.bool false]) (.tuple #[.bool false]) := .tup _ _ (.cons _ _ _ _ (.bool _) .nil)
      split at h
      · cases h
        have hes : es' = #[] := by
          cases hl : es'.toList with
          | nil => exact Array.toList_eq_nil_iff.1 hl
          | cons _ _ => rw [hl] at hrel; cases hrel
        subst hes
        refine EffTo.ofVal (v := .tuple #[.bool false]) ?_ (Map.le_refl g) hover R
        simp [Instr.next, hget, hgetm, Question.forced]
      · rename_i k v b
        cases hb : Nat.ble (b + 1) since with
        | false => simp [hb] at h
        | true =>
          simp only [hb, cond_true] at h
          have hbs : b < since := Nat.le_of_ble_eq_true hb
          obtain ⟨e, hes, hk, hv, hbn⟩ : ∃ e, es' = #[e] ∧ VRel w0 base g k e.key ∧ VRel w0 base g v e.val ∧ e.born = b := by
            rcases hl : es'.toList with _ | ⟨e, rest⟩
            · rw [hl] at hrel; cases hrel
            · rw [hl] at hrel
              cases hrel with | cons _ _ _ _ _ _ h1 h2 h3 h4 =>
              cases h4
              exact ⟨e, by rw [← Array.toArray_toList (xs := es'), hl], h1, h2, h3⟩
          subst hes; subst hbn
          cases seen with
          | nil =>
            simp only [Option.some.injEq, Prod.mk.injEq] at h
            obtain ⟨rfl, rfl⟩ := h
            have hR := R.setOb (o' := .miter (some f) since [e.born] clock) (obj := .mapIter (some pf.b) since #[e.born] clock) ho trivial hp (fun m' w' h => ⟨hd, some pf.b, ⟨pf, hpf, rfl⟩, h⟩)
            have hset := run_setObj (P := P) (o' := .mapIter (some pf.b) since #[e.born] clock) hh (by intro _ _ _ h; cases h)
            refine EffTo.ofVal (v := .tuple #[.bool true, e.key, e.val]) ?_ (Map.le_refl g) (.tup _ _ (.cons _ _ _ _ (.bool _) (.cons _ _ _ _ hk (.cons _ _ _ _ hv .nil)))) hR
            have hnl : ¬ since ≤ e.born := by omega
            simp [Instr.next, hget, hgetm, Question.forced, hbs, hnl, hset]
          | cons b' tl =>
            cases tl with
            | cons _ _ => cases h
            | nil =>
            cases hbb : Nat.beq e.born b' && Nat.ble (e.born + 1) last with
            | false => simp [hbb] at h
            | true =>
              simp only [hbb, cond_true, Option.some.injEq, Prod.mk.injEq] at h
              obtain ⟨rfl, rfl⟩ := h
              simp only [Bool.and_eq_true] at hbb
              have h1 := Nat.eq_of_beq_eq_true hbb.1
              have h2 : e.born < last := Nat.le_of_ble_eq_true hbb.2
              subst h1
              have hnl : ¬ last ≤ e.born := by omega
              refine EffTo.ofVal (v := .tuple #[.bool false]) ?_ (Map.le_refl g) hover R
              simp [Instr.next, hget, hgetm, Question.forced, hbs, hnl]
      · cases h
theorem eff_call (R : Rel w0 base g m w) {f : AV} {args : List AV} {fv : Value} {vs : Array Value} {res : Res} (hf : VRel w0 base g f fv) (ha : VRels w0 base g args vs.toList) (h : calleeA P f args = some res) :
    EffTo w0 base g P (do let d ← Deferred.ofValue fv vs; invoke d.target d.args) w m res := by
  unfold calleeA at h
  split at h
  · rename_i k first cap
    cases hf with | fn _ _ _ us ws h1 h2 =>
    split at h
    · rename_i fn hfn
      have hargs : VRels w0 base g (first ++ args ++ cap) ((us ++ vs) ++ ws).toList := by
        rw [Array.toList_append, Array.toList_append]
        exact (h1.append ha).append h2
      cases hng : fn.name == "runtime.NumGoroutine" with
      | true => simp [hng] at h
      | false =>
        simp only [hng, cond_false] at h
        cases hbd : fn.body.isSome with
        | true =>
          simp only [hbd, cond_true, Option.some.injEq] at h
          subst h
          have hno : fn.body.isNone = false := by cases hb : fn.body <;> simp_all
          refine ⟨_, ?_, hargs, R⟩
          simp only [Deferred.ofValue, Sem.run_bind, Sem.run_pure, Result.andThen_ok, invoke, callFunc, run_program, hfn, hng, hno, Bool.false_eq_true, if_false]
        | false =>
          simp only [hbd, cond_false, Option.some.injEq] at h
          subst h
          refine ⟨_, ?_, hargs, R⟩
          rfl
    · cases h
  · cases h
/-- a block whose bytes a string shares -/
theorem Rel.froze (R : Rel w0 base g m w) {v : Nat} {W : Win} {c : Cl} {p : Pl} {cells : Array Value} {e : TypeId} {fr fr' : Nat × Nat} (hl : m.live v = some (W, c)) (hp : g v = some p) (hheap : w.heap[p.b]? = some (.cells cells e fr))
    (hbb : ButBlock w w' p.b) (hnew : w'.heap[p.b]? = some (.cells cells e fr')) : Rel w0 base g { m with cls := m.cls.set W.cls { c with fro := true, st := c.st + 1 } } w' := by
  obtain ⟨h1, h2, h3⟩ := Mem.live_spec hl
  have hpl := R.pl v p hp
  refine ⟨R.below.trans (hbb.below hpl.1), R.room, R.fresh, fun u hu => ?_, fun u q hq => ?_, fun u o' hu => ?_, R.sep⟩
  · have := R.clss u hu
    show (m.cls.set W.cls _).get u = none
    rw [Tr.get_set_ne _ _ (fun e => by rw [e, h2] at this; cases this)]
    exact this
  · obtain ⟨a1, a2, a3⟩ := R.pl u q hq
    exact ⟨a1, by rw [hbb.size]; exact a2, a3⟩
  · obtain ⟨q, hq, hrel⟩ := R.obj u o' hu
    refine ⟨q, hq, ?_⟩
    by_cases hcl : ∃ U, o' = .win U ∧ U.cls = W.cls
    · obtain ⟨U, rfl, hUW⟩ := hcl
      obtain ⟨cellsu, eu, fru, cu, r1, r2, r3, r4, r5, r6⟩ := hrel
      rw [hUW, h2] at r3
      cases r3
      by_cases hqb : q.b = p.b
      · rw [hqb, hheap] at r1
        cases r1
        exact ⟨cells, e, fr', { c with fro := true, st := c.st + 1 }, by rw [hqb]; exact hnew, r2, by rw [hUW]; exact Tr.get_set_same _ _ _, (fun hc => by cases hc), r5, r6⟩
      · exact ⟨cellsu, eu, fru, { c with fro := true, st := c.st + 1 }, by rw [hbb.other q.b hqb]; exact r1, r2, by rw [hUW]; exact Tr.get_set_same _ _ _, (fun hc => by cases hc), r5, r6⟩
    · refine hrel.keep (Map.le_refl g) (hbb.other q.b (fun hqb => ?_)) (fun U hU => ?_)
      · rcases R.sep u v q p hq hp hqb with e' | ⟨V1, U1, d1, d2, d3, d4⟩
        · subst e'
          rw [h1] at hu; cases hu
          exact hcl ⟨W, rfl, rfl⟩
        · rw [hu] at d1
          rw [h1] at d2
          cases d1; cases d2
          exact hcl ⟨V1, rfl, d3⟩
      · subst hU
        show (m.cls.set W.cls _).get U.cls = _
        rw [Tr.get_set_ne]
        exact fun e' => hcl ⟨U, rfl, e'⟩
theorem bytesOf_rel : ∀ {xs : List AV} {us : List Value} {l : List Nat}, bytesOf xs = some l → VRels w0 base g xs us → ∃ bs : List UInt8, bs.map (·.toNat) = l ∧ us = bs.map fun b => Value.int .u8 b.toNat
  | [], us, l, h, hr => by simp only [bytesOf, Option.some.injEq] at h; subst h; cases hr; exact ⟨[], rfl, rfl⟩
  | x :: xs, us, l, h, hr => by
    cases hr with | cons _ u _ us h1 h2 =>
    unfold bytesOf at h
    split at h
    · rename_i heq; cases heq
    · rename_i b l' heq
      cases heq
      cases hb : Nat.ble b 255 with
      | false => simp [hb] at h
      | true =>
        simp only [hb, cond_true] at h
        cases hl : bytesOf xs with
        | none => simp [hl] at h
        | some r =>
          simp only [hl, Option.some.injEq] at h
          subst h
          obtain ⟨bs, e1, e2⟩ := bytesOf_rel hl h2
          cases h1
          have hb' : b < 256 := Nat.lt_succ_of_le (Nat.le_of_ble_eq_true hb)
          refine ⟨UInt8.ofNat b :: bs, ?_, ?_⟩
          · simp [e1, Nat.mod_eq_of_lt hb']
          · simp [e2, Nat.mod_eq_of_lt hb']
    · cases h
theorem freeze_heap (w : World) {b n : Nat} {cells : Array Value} {e : TypeId} {fr : Nat × Nat} (h : w.heap[b]? = some (.cells cells e fr)) (hn : n ≠ 0) :
    ButBlock w (w.freeze ⟨b, 0, none⟩ n) b ∧ ∃ fr', (w.freeze ⟨b, 0, none⟩ n).heap[b]? = some (.cells cells e fr') := by
  unfold World.freeze
  rw [if_neg hn]
  refine ⟨⟨rfl, rfl, rfl, by simp, fun k hk => ?_⟩, ?_⟩
  · simp only [Array.getElem?_modify]
    rw [if_neg (fun e => hk e.symm)]
  · obtain ⟨lo, hi⟩ := fr
    simp only [Array.getElem?_modify, h, if_true]
    exact ⟨_, rfl⟩
theorem eff_unsafeString (R : Rel w0 base g m w) {ats : Array TypeId} {pt e ty : TypeId} {v k n : Nat} {pu : Value} {W : Win} {c : Cl} {xs : List AV} {l : List Nat} (hat : ats[0]? = some pt) (hpt : P.underlying pt = some (.pointer e)) (hp : VRel w0 base g (.ptr v k) pu)
    (hl : m.live v = some (W, c)) (hty : tyIs W.ty e = true) (hk : k = W.lo) (hhi : k + (n + 1) ≤ W.hi) (hc1 : P.cellsOf e = 1) (h63 : n + 1 ≤ 9223372036854775807) (hx : W.read k (n + 1) = some xs) (hb : bytesOf xs = some l) (hlen : ats.size = 2) :
    EffTo w0 base g P (do pure (Next.value (← Builtin.unsafeString_ ats ty #[pu, .int .i64 ((n + 1 : Nat) : Int)]))) w { m with cls := m.cls.set W.cls { c with fro := true, st := c.st + 1 } } (.val (.str l)) := by
  obtain ⟨h1, h2, h3⟩ := Mem.live_spec hl
  cases hp with | ptr _ _ o p hgp ho =>
  obtain ⟨p', hp', cells, e', fr, c', hheap, hcs, hc', _, hhb, hown⟩ := R.obj _ _ h1
  rw [hgp] at hp'; cases hp'
  obtain ⟨he, hlo⟩ := hhb.2 e (tyIs_spec hty)
  subst he
  have hhb1 := hhb.1
  have ho0 : o = 0 := by omega
  subst ho0
  have hload : m.load (.ptr v k) (n + 1) = some xs := by simp only [Mem.load, hl]; exact hx
  obtain ⟨hxl, us, hu1, hu2⟩ := R.load hload (.ptr v k 0 p hgp (by omega))
  obtain ⟨bs, e1, e2⟩ := bytesOf_rel hb hu1
  subst e2
  have hbl : bs.length = n + 1 := by have := hu1.length; simp at this; omega
  obtain ⟨t, ts, hats⟩ : ∃ t ts, ats = #[t, ts] := by
    rcases ats with ⟨_ | ⟨a, _ | ⟨b, _ | ⟨c, r⟩⟩⟩⟩ <;> simp at hlen
    exact ⟨a, b, rfl⟩
  subst hats
  simp at hat
  subst hat
  have hrun := Lib.run_unsafeString_row (P := P) w t ts ty e' hpt hc1 p.b cells.size (by simp [World.shape?, hheap]) bs (fun h => by rw [h] at hbl; cases hbl) (by omega) (by omega) (fun j x hj => hu2 j _ (by simp [hj]))
  rw [hbl] at hrun
  obtain ⟨hbb, fr', hnew⟩ := freeze_heap w hheap (n := n + 1) (by omega)
  refine EffTo.ofVal hrun (Map.le_refl g) (.str _ _ ?_) (R.froze hl hgp hheap hbb hnew)
  rw [← e1]
  simp [natOf]
end
end Go.Vz
