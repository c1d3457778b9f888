/-
  V's WRITING OPERATIONS.
-/
import Derived.Test.YtgagkmbhlpmceaaGreatDoorVzApp3
set_option linter.unusedVariables false
set_option linter.unusedSimpArgs false
namespace Go.Vz
open Go Go.RowKit
section
variable {w0 : World} {base : Nat} {g g' : Map} {P : Program} {m m' : Mem} {w w' : World} {r : Operand → Option AV} {ρ : Operand → Value}
/-- no window -/
def Ob.plain : Ob → Prop
  | .win _ => False
  | _ => True
theorem bump_get {m : Mem} {q c : Nat} {x : Cl} (h : m.cls.get c = some x) : ∃ x', (m.bump q id).cls.get c = some x' ∧ x'.hw = x.hw ∧ x'.own = x.own ∧ x'.fro = x.fro := by
  unfold Mem.bump
  cases hq : m.cls.get q with
  | none => exact ⟨x, h, rfl, rfl, rfl⟩
  | some y =>
    by_cases e : c = q
    · subst e
      rw [h] at hq; cases hq
      exact ⟨_, Tr.get_set_same _ _ _, rfl, rfl, rfl⟩
    · exact ⟨x, by show (m.cls.set q _).get c = _; rw [Tr.get_set_ne _ _ e]; exact h, rfl, rfl, rfl⟩
theorem bump_none {m : Mem} {q c : Nat} (h : m.cls.get c = none) : (m.bump q id).cls.get c = none := by
  unfold Mem.bump
  cases hq : m.cls.get q with
  | none => exact h
  | some y =>
    show (m.cls.set q _).get c = none
    rw [Tr.get_set_ne]
    · exact h
    · intro e; subst e; rw [h] at hq; cases hq
theorem bump_obs (m : Mem) (q : Nat) : (m.bump q id).obs = m.obs ∧ (m.bump q id).nxt = m.nxt := by
  unfold Mem.bump
  cases m.cls.get q <;> exact ⟨rfl, rfl⟩
theorem ORel.keepBump {v q : Nat} {p : Pl} {o : Ob} (h : ORel w0 base g m w v p o) (hh : w'.heap[p.b]? = w.heap[p.b]?) (hm : ∀ c x, m.cls.get c = some x → ∃ x', m'.cls.get c = some x' ∧ x'.hw = x.hw ∧ x'.own = x.own ∧ x'.fro = x.fro) : ORel w0 base g m' w' v p o := by
  cases o with
  | win W =>
    obtain ⟨cells, e, fr, c, h1, h2, h3, h4, h5, h6⟩ := h
    obtain ⟨c', e1, e2, e3, e4⟩ := hm _ _ h3
    exact ⟨cells, e, fr, c', by rw [hh]; exact h1, h2, e1, by rw [e4]; exact h4, h5, fun ho => by
      have ho' : Owns c v := by unfold Owns at ho ⊢; rw [e3] at ho; exact ho
      exact ⟨fun hc => by rw [e2]; exact (h6 ho').1 (by rw [e3] at hc; exact hc), (h6 ho').2⟩⟩
  | map es clock => obtain ⟨hd, es', h1, h2⟩ := h; exact ⟨hd, es', by rw [hh]; exact h1, h2⟩
  | siter s pos => obtain ⟨hd, s', h1, h2⟩ := h; exact ⟨hd, s', h1, by rw [hh]; exact h2⟩
  | miter q since seen last => obtain ⟨hd, q', h1, h2⟩ := h; exact ⟨hd, q', h1, by rw [hh]; exact h2⟩
theorem Rel.setOb (R : Rel w0 base g m w) {q : Nat} {o o' : Ob} {p : Pl} {obj : Obj} (ho : m.obs.get q = some o) (hnw : o.plain) (hp : g q = some p)
    (hnew : ∀ m' w', w'.heap[p.b]? = some obj → ORel w0 base g m' w' q p o') : Rel w0 base g (m.setOb q o') { w with heap := w.heap.setIfInBounds p.b obj } := by
  have hpl := R.pl q p hp
  have hbb := butBlock_set w p.b obj
  have hobs : (m.setOb q o').obs = m.obs.set q o' := rfl
  have hnxt : (m.setOb q o').nxt = m.nxt := (bump_obs m q).2
  have hcls : (m.setOb q o').cls = (m.bump q id).cls := rfl
  have hmine : ({ w with heap := w.heap.setIfInBounds p.b obj } : World).heap[p.b]? = some obj := by simp [hpl.2.1]
  refine ⟨R.below.trans (hbb.below hpl.1), R.room, fun u hu => ?_, fun u hu => ?_, fun u s hs => ?_, fun u o2 hu => ?_, fun u1 u2 q1 q2 hq1 hq2 hb => ?_⟩
  · rw [hnxt] at hu
    have h := R.fresh u hu
    exact ⟨by rw [hobs, Tr.get_set_ne _ _ (fun e => by rw [e, ho] at h; cases h.1)]; exact h.1, h.2⟩
  · rw [hnxt] at hu
    rw [hcls]; exact bump_none (R.clss u hu)
  · obtain ⟨a1, a2, o2, a3⟩ := R.pl u s hs
    refine ⟨a1, by rw [hbb.size]; exact a2, ?_⟩
    by_cases e : u = q
    · subst e; exact ⟨o', by rw [hobs]; exact Tr.get_set_same _ _ _⟩
    · exact ⟨o2, by rw [hobs, Tr.get_set_ne _ _ e]; exact a3⟩
  · rw [hobs] at hu
    by_cases e : u = q
    · subst e
      rw [Tr.get_set_same] at hu; cases hu
      exact ⟨p, hp, hnew _ _ hmine⟩
    · rw [Tr.get_set_ne _ _ e] at hu
      obtain ⟨s, hs, hrel⟩ := R.obj u o2 hu
      refine ⟨s, hs, hrel.keepBump (q := q) (hbb.other s.b (fun hsb => ?_)) (fun c x hx => by rw [hcls]; exact bump_get hx)⟩
      rcases R.sep u q s p hs hp hsb with e' | ⟨V1, U1, d1, d2, _⟩
      · exact e e'
      · rw [ho] at d2; cases d2; exact hnw
  · rcases R.sep u1 u2 q1 q2 hq1 hq2 hb with e | ⟨V, U, d1, d2, d3, d4⟩
    · exact .inl e
    · refine .inr ⟨V, U, ?_, ?_, d3, d4⟩
      · rw [hobs, Tr.get_set_ne]
        · exact d1
        · intro e; subst e; rw [ho] at d1; cases d1; exact hnw
      · rw [hobs, Tr.get_set_ne]
        · exact d2
        · intro e; subst e; rw [ho] at d2; cases d2; exact hnw
theorem run_setObj {b : Nat} {o o' : Obj} (h : w.heap[b]? = some o) (hc : ∀ c e f, o ≠ .cells c e f) : (Go.setObj b o').run P w = .ok () { w with heap := w.heap.setIfInBounds b o' } := by
  unfold Go.setObj
  simp only [Sem.run, h]

/-- what an effect comes to -/
def EffTo (w0 : World) (base : Nat) (g : Map) (P : Program) (s : Sem Next) (w : World) (m' : Mem) : Res → Prop
  | .val x => ∃ v w' g', s.run P w = .ok (.value v) w' ∧ g.le g' ∧ VRel w0 base g' x v ∧ Rel w0 base g' m' w'
  | .skip => ∃ w' g', s.run P w = .ok .skip w' ∧ g.le g' ∧ Rel w0 base g' m' w'
  | .enter f args => ∃ vs : Array Value, s.run P w = .ok (.enter f vs) w ∧ VRels w0 base g args vs.toList ∧ Rel w0 base g m' w
  | .ext f args => ∃ vs : Array Value, s = callFunc f vs ∧ VRels w0 base g args vs.toList ∧ Rel w0 base g m' w
theorem EffTo.ofVal {s : Sem Value} {x : AV} {v : Value} {w' : World} {g' : Map} (h : s.run P w = .ok v w') (hle : g.le g') (hv : VRel w0 base g' x v) (hR : Rel w0 base g' m' w') :
    EffTo w0 base g P (do pure (Next.value (← s))) w m' (.val x) := ⟨v, w', g', by rw [Sem.run_bind, h]; rfl, hle, hv, hR⟩

/-! ### Lists of cells -/
theorem replicateA_rel {zs : List AV} {us : List Value} (h : VRels w0 base g zs us) : ∀ n, VRels w0 base g (replicateA n zs) ((List.replicate n us).flatten)
  | 0 => .nil
  | n + 1 => by rw [List.replicate_succ, List.flatten_cons]; exact h.append (replicateA_rel h n)
theorem replicate_flatten (us : List Value) (hu : 0 < us.length) : ∀ n, (List.range (n * us.length)).map (fun i => us[i % us.length]!) = (List.replicate n us).flatten
  | 0 => by simp
  | n + 1 => by
    rw [List.replicate_succ', List.flatten_concat, ← replicate_flatten us hu n, Nat.succ_mul, List.range_add, List.map_append]
    congr 1
    rw [List.map_map]
    apply List.ext_getElem?
    intro i
    by_cases hi : i < us.length
    · simp [hi, Nat.add_mod, Nat.mod_eq_of_lt hi]
    · simp [hi, List.getElem?_eq_none (Nat.le_of_not_lt hi)]
theorem zero_cells (z : Array Value) (n : Nat) (hz : 0 < z.size) : ((Array.range (n * z.size)).map (fun i => z[i % z.size]!)).toList = (List.replicate n z.toList).flatten := by
  have := replicate_flatten z.toList (by simpa using hz) n
  rw [← this]
  simp
  intro a _
  have h := Nat.mod_lt a hz
  rw [getElem!_pos z _ h, Array.getElem?_eq_getElem h]
  rfl
end
end Go.Vz
