/-
  V's DRAWN REGIONS: the theorem.
-/
import Derived.Test.YtgagkmbhlpmceaaGreatDoorVzDraw2
set_option linter.unusedVariables false
set_option linter.unusedSimpArgs false
namespace Go.Vz
open Go Go.RowKit
section
variable {C : Cfg} {w0 : World} {base : Nat} {call : CallF} {ops : Array Oper} {n : Nat}
/-- frames -/
structure FrF (w0 : World) (base : Nat) (g : Map) (n : Nat) (F : Nat → Option AV) (a : Act) : Prop where
  size : a.tmps.size = n
  slot : ∀ t x, F t = some x → ∃ v, a.tmps[t]? = some v ∧ VRel w0 base g x v
theorem FrRel.toF {g : Map} {fr : Fr} {a : Act} (h : FrRel w0 base g fr a) : FrF w0 base g fr.n fr.t.get a := ⟨h.size, h.slot⟩
theorem FrF.mono {g g' : Map} (h : g.le g') {F : Nat → Option AV} {a : Act} (r : FrF w0 base g n F a) : FrF w0 base g' n F a :=
  ⟨r.size, fun t x hx => let ⟨v, h1, h2⟩ := r.slot t x hx; ⟨v, h1, h2.mono h⟩⟩
theorem FrF.put {g : Map} {F : Nat → Option AV} {a : Act} (r : FrF w0 base g n F a) {d : Option Tmp} {x : AV} {v : Value} (hd : ∀ t, d = some t → t < n) (hv : VRel w0 base g x v) : FrF w0 base g n (upd F d x) (a.put d v) := by
  cases d with
  | none => exact r
  | some t =>
    have ht : t < a.tmps.size := by rw [r.size]; exact hd t rfl
    refine ⟨by simp [Act.put, r.size], fun s y hy => ?_⟩
    simp only [upd] at hy
    by_cases e : s = t
    · subst e
      simp only [if_true, Option.some.injEq] at hy
      subst hy
      exact ⟨v, by simp [Act.put, ht], hv⟩
    · simp only [e, if_false] at hy
      obtain ⟨u, hu, hr⟩ := r.slot s y hy
      exact ⟨u, by simp [Act.put, Array.getElem?_setIfInBounds_ne (Ne.symm e), hu], hr⟩
theorem evalF_rel (H : C.Ok w0 base) {g : Map} {F : Nat → Option AV} {a : Act} (hf : FrF w0 base g n F a) : ∀ y x, evalF C F y = some x → VRel w0 base g x (a.eval y) := by
  intro y x h
  cases y with
  | tmp t =>
    obtain ⟨v, h1, h2⟩ := hf.slot t x h
    show VRel w0 base g x (a.tmps.getD t undef)
    rw [Array.getD_eq_getD_getElem?, h1]
    exact h2
  | const v => exact ofV_rel h
  | global k =>
    simp only [evalF] at h
    cases hk : C.glob k with
    | none => simp [hk] at h
    | some cs => simp only [hk, Option.map_some, Option.some.injEq] at h; subst h; exact H.glob k cs hk g
  | func f => simp only [evalF, Option.some.injEq] at h; subst h; exact .fn _ _ _ _ _ .nil .nil
theorem wantedF_run {g : Map} {F : Nat → Option AV} {a : Act} (hf : FrF w0 base g n F a) {o : Oper} {b : Bool} (h : wantedF ops.toList F o = some b) : Region.wanted o (yielded ops a.tmps) = b := by
  unfold wantedF at h
  unfold Region.wanted
  cases hg : o.guard with
  | none => simp only [hg, Option.some.injEq] at h ⊢; exact h
  | some q =>
    obtain ⟨j, want⟩ := q
    simp only [hg, Array.getElem?_toList] at h ⊢
    cases hj : ops[j]? with
    | none => simp [hj] at h
    | some og =>
      simp only [hj] at h
      cases hd : og.dst with
      | none => simp [hd] at h
      | some t =>
        simp only [hd] at h
        unfold yielded
        simp only [hj, Option.bind_some, hd]
        cases hx : F t with
        | none => simp [hx] at h
        | some x =>
          obtain ⟨v, h1, h2⟩ := hf.slot t x hx
          rw [h1]
          simp only [hx] at h
          split at h
          · rename_i b' heq
            cases heq
            cases h2
            cases h
            cases b' <;> cases want <;> rfl
          · rename_i heq
            cases heq
            cases h2
            cases h
            rfl
          · cases h
theorem getD_true {l : Array Bool} {k : Nat} (hk : k < l.size) : l.getD k true = l.getD k false := by
  simp only [Array.getD_eq_getD_getElem?, Array.getElem?_eq_getElem hk, Option.getD_some]
/-- one operation, at its turn -/
theorem it_wp (H : C.Ok w0 base) (hc : HCall C.P w0 base call) {Q : Exit → Act → World → Prop} {it : It} {F : Nat → Option AV} {m : Mem} {g : Map} {a : Act} {w : World} (hi : ItOk C call ops.toList n it) (hs : StepAt C ops.toList it F m) (ho : ops[it.i]? = some it.o)
    (hf : FrF w0 base g n F a) (R : Rel w0 base g m w) {K : Act → World → Prop} (hK : ∀ g' v w', g.le g' → VRel w0 base g' it.x v → Rel w0 base g' (nextM it m) w' → K (a.put it.o.dst v) w') : wpOp C.P ops Q it.i K a w := by
  have hst := hi.step
  unfold stepA at hst
  unfold wpOp
  simp only [ho]
  have hagree : ∀ t ∈ looksA ops.toList it.o, it.fr.t.get t = F t := fun t ht => (hs.agree t ht).symm
  have hw : wantedA ops.toList it.fr it.o = wantedF ops.toList F it.o := by rw [wantedA_eq]; exact wantedF_agree hagree
  rw [hw] at hst
  have hops := evalF_agree (C := C) hagree
  split at hst
  · rename_i hwf
    rw [if_neg (by rw [wantedF_run hf hwf]; decide)]
    simp only [Option.some.injEq, Prod.mk.injEq] at hst
    obtain ⟨h1, h2, h3⟩ := hst
    refine hK g undef w (Map.le_refl g) (by rw [← h2]; exact .tup _ _ .nil) ?_
    unfold nextM
    rw [if_neg (by rw [← h1]; decide)]
    exact R
  · rename_i hwf
    rw [if_pos (wantedF_run hf hwf)]
    left
    rw [evalA_eq, pureA_congr it.o.op hops] at hst
    split at hst
    · rename_i x hp
      simp only [Option.some.injEq, Prod.mk.injEq] at hst
      obtain ⟨h1, h2, h3⟩ := hst
      refine opR_wp (call := call) (r := evalF C F) (m' := m) H hc (evalF_rel H hf) R (x := x) (by unfold opR; rw [hp]) (fun g' v w' q1 q2 q3 => ?_)
      refine hK g' v w' q1 (by rw [← h2]; exact q2) ?_
      unfold nextM
      rw [if_neg (by rw [← h1]; decide)]
      exact q3
    · rename_i hpn
      rw [loadA_congr it.o.op hops] at hst
      split at hst
      · rename_i x hl
        simp only [Option.some.injEq, Prod.mk.injEq] at hst
        obtain ⟨h1, h2, h3⟩ := hst
        have hld := hs.load h1.symm
        rw [evalA_eq, loadA_congr it.o.op hops] at hld
        refine opR_wp (call := call) (r := evalF C F) (m' := m) H hc (evalF_rel H hf) R (x := it.x) (by unfold opR; rw [hpn, hld]) (fun g' v w' q1 q2 q3 => ?_)
        refine hK g' v w' q1 q2 ?_
        unfold nextM
        rw [if_neg (by rw [← h1]; decide)]
        exact q3
      · rename_i hln
        split at hst
        · rename_i x m1 he
          simp only [Option.some.injEq, Prod.mk.injEq] at hst
          obtain ⟨h1, h2, h3⟩ := hst
          have hm := hs.eff h1.symm
          have he' : opR C call (evalF C F) m it.o = some (x, m1) := by
            rw [hm, ← opR_agree hagree, ← evalA_eq]
            exact he
          refine opR_wp (call := call) H hc (evalF_rel H hf) R he' (fun g' v w' q1 q2 q3 => ?_)
          refine hK g' v w' q1 (by rw [← h2]; exact q2) ?_
          unfold nextM
          rw [if_pos h1.symm, ← h3]
          exact q3
        · cases hst
  · cases hst
theorem wpAny_of_runs (H : C.Ok w0 base) (hc : HCall C.P w0 base call) {Q : Exit → Act → World → Prop} {F' : Nat → Option AV} {m' : Mem}
    (hlow : ∀ k o, ops[k]? = some o → ∀ e ∈ o.after, Region.binds .any e = true → e.on < k) : ∀ (k : Nat) (l : List It) (listed : Array Bool) (g : Map) (F : Nat → Option AV) (m : Mem) (a : Act) (w : World), l.length = k → listed.size = ops.size →
    (∀ it ∈ l, ops[it.i]? = some it.o) → (∀ j, j < ops.size → (listed.getD j false = false ↔ j ∈ l.map (·.i))) → (l.map (·.i)).Pairwise (· < ·) → (∀ it ∈ l, ∀ b, Nat.testBit it.anc b = true → Anc ops b it.i) → Closed ops listed →
    l.Pairwise (fun i j => pairOk C ops.toList i j = true) → Runs C call ops.toList n l F m F' m' → FrF w0 base g n F a → Rel w0 base g m w → a.defers = [] →
    (∀ g' a' w', g.le g' → FrF w0 base g' n F' a' → Rel w0 base g' m' w' → a'.defers = [] → Q .normal a' w') → wpAny C.P .any ops Q k listed a w := by
  intro k
  induction k with
  | zero =>
    intro l listed g F m a w hk hsz hops hun hsort hanc hcl hpair hruns hf R hd hQ
    have hl : l = [] := List.eq_nil_of_length_eq_zero hk
    subst hl
    obtain ⟨rfl, rfl⟩ := hruns
    refine ⟨?_, hQ g a w (Map.le_refl g) hf R hd⟩
    rw [List.eq_nil_iff_forall_not_mem]
    intro j hj
    obtain ⟨h1, o, ho, _⟩ := mem_ready.1 hj
    have hjs : j < ops.size := (Array.getElem?_eq_some_iff.1 ho).1
    rw [getD_true (by omega)] at h1
    have := (hun j hjs).1 h1
    cases this
  | succ k ih =>
    intro l listed g F m a w hk hsz hops hun hsort hanc hcl hpair hruns hf R hd hQ
    have hidx : ∀ {it : It}, it ∈ l → it.i < ops.size := fun h => (Array.getElem?_eq_some_iff.1 (hops _ h)).1
    refine ⟨fun hnil => ?_, fun j hj => ?_⟩
    · -- the first that is not listed is ready
      exfalso
      cases l with
      | nil => simp at hk
      | cons it l =>
        have hmem : it.i ∈ Region.ready .any ops listed := by
          rw [mem_ready]
          refine ⟨?_, it.o, hops it List.mem_cons_self, fun e he hb => ?_⟩
          · rw [getD_true (by have := hidx (it := it) List.mem_cons_self; omega)]
            exact (hun it.i (hidx List.mem_cons_self)).2 (by simp)
          · have hlt := hlow it.i it.o (hops it List.mem_cons_self) e he hb
            cases hx : listed.getD e.on false with
            | true => rfl
            | false =>
              have hin := (hun e.on (by have := hidx (it := it) List.mem_cons_self; omega)).1 hx
              simp only [List.map_cons, List.mem_cons] at hin
              rcases hin with h | h
              · omega
              · rw [List.map_cons] at hsort
                have hlt2 : it.i < e.on := (List.pairwise_cons.1 hsort).1 e.on h
                omega
        rw [hnil] at hmem
        cases hmem
    · obtain ⟨h1, o, ho, hall⟩ := mem_ready.1 hj
      have hjs : j < ops.size := (Array.getElem?_eq_some_iff.1 ho).1
      rw [getD_true (by omega)] at h1
      obtain ⟨it, hit, rfl⟩ := List.mem_map.1 ((hun j hjs).1 h1)
      obtain ⟨pre, post, rfl⟩ := List.append_of_mem hit
      have hready : ∀ i, Anc ops i it.i → listed.getD i false = true := fun i hi => hi.ready hcl (fun o' ho' e he hb => by
        rw [ho] at ho'; cases ho'; exact hall e he hb)
      have hb : Runs C call ops.toList n (it :: (pre ++ post)) F m F' m' := by
        refine hruns.bubble (fun i hi => ⟨?_, ?_⟩)
        · exact (List.pairwise_append.1 hpair).2.2 i hi it List.mem_cons_self
        · cases hx : Nat.testBit it.anc i.i with
          | false => rfl
          | true =>
            exfalso
            have hli := hready i.i (hanc it (by simp) i.i hx)
            have hui := (hun i.i (hidx (by simp [hi]))).2 (by simp; exact .inl ⟨i, hi, rfl⟩)
            rw [hli] at hui; cases hui
      obtain ⟨q1, q2, q3⟩ := hb
      refine it_wp H hc q1 q2 (hops it (by simp)) hf R (fun g' v w' r1 r2 r3 => ?_)
      have hsub : (pre ++ post).Sublist (pre ++ it :: post) := (List.Sublist.refl pre).append (List.sublist_cons_self it post)
      have hne : ∀ i ∈ pre ++ post, i.i ≠ it.i := by
        intro i hi he
        rw [List.map_append, List.map_cons, List.pairwise_append] at hsort
        obtain ⟨s1, s2, s3⟩ := hsort
        rcases List.mem_append.1 hi with h | h
        · have := s3 i.i (List.mem_map_of_mem h) it.i List.mem_cons_self
          omega
        · have := (List.pairwise_cons.1 s2).1 i.i (List.mem_map_of_mem h)
          omega
      refine ih (pre ++ post) (listed.setIfInBounds it.i true) g' _ _ _ w' ?_ ?_ ?_ ?_ ?_ ?_ ?_ ?_ q3 ((hf.mono r1).put q1.dst r2) r3 (by rw [put_defers']; exact hd)
        (fun g2 a2 w2 s1 s2 s3 s4 => hQ g2 a2 w2 (Map.le_trans r1 s1) s2 s3 s4)
      · simp at hk ⊢; omega
      · simpa using hsz
      · exact fun i hi => hops i (hsub.subset hi)
      · intro i hi
        by_cases he : i = it.i
        · subst he
          constructor
          · intro h
            simp [hsz, hi] at h
          · intro h
            obtain ⟨i', hi', he'⟩ := List.mem_map.1 h
            exact absurd he' (hne i' hi')
        · rw [getD_set_ne false (Ne.symm he), hun i hi]
          simp only [List.map_append, List.map_cons, List.mem_append, List.mem_cons, he, false_or]
      · exact hsort.sublist (hsub.map _)
      · exact fun i hi => hanc i (hsub.subset hi)
      · intro i oi hoi hl e he hbd
        by_cases hii : i = it.i
        · subst hii
          rw [ho] at hoi; cases hoi
          exact getD_set_true (hall e he hbd)
        · rw [getD_set_ne false (Ne.symm hii)] at hl
          exact getD_set_true (hcl i oi hoi hl e he hbd)
      · exact hpair.sublist hsub
theorem allOk_spec {i : It} : ∀ {l : List It}, allOk C ops.toList i l = true → ∀ j ∈ l, pairOk C ops.toList i j = true
  | [], _, j, hj => by cases hj
  | k :: l, h, j, hj => by
    simp only [allOk, Bool.and_eq_true] at h
    cases hj with
    | head => exact h.1
    | tail _ hj => exact allOk_spec h.2 j hj
theorem pairsOk_spec : ∀ {l : List It}, pairsOk C ops.toList l = true → l.Pairwise (fun i j => pairOk C ops.toList i j = true)
  | [], _ => .nil
  | i :: l, h => by
    simp only [pairsOk, Bool.and_eq_true] at h
    exact .cons (allOk_spec h.1) (pairsOk_spec h.2)
theorem stepA_m {fr : Fr} {m m' : Mem} {o : Oper} {kd : Nat} {x : AV} (h : stepA C call ops.toList fr m o = some (kd, x, m')) : (kd = 2 ∨ m' = m) ∧ (kd = 1 → loadA C.P (evalA C fr) m o.op = some x) := by
  unfold stepA at h
  split at h
  · cases h; exact ⟨.inr rfl, fun h => by cases h⟩
  · split at h
    · cases h; exact ⟨.inr rfl, fun h => by cases h⟩
    · split at h
      · rename_i hl; cases h; exact ⟨.inr rfl, fun _ => hl⟩
      · split at h
        · cases h; exact ⟨.inl rfl, fun h => by cases h⟩
        · cases h
  · cases h
theorem traceA_spec : ∀ {rest : List Oper} {i : Nat} {ms : Tr Nat} {fr fr' : Fr} {m m' : Mem} {its : List It}, traceA C call ops.toList rest i ms fr m = some (its, fr', m') → (∀ k, rest[k]? = ops[i + k]?) →
    (∀ k a, ms.get k = some a → ∀ b, Nat.testBit a b = true → Anc ops b k) →
    its.map (·.i) = List.range' i rest.length ∧ (∀ it ∈ its, ops[it.i]? = some it.o) ∧ (∀ it ∈ its, ∀ b, Nat.testBit it.anc b = true → Anc ops b it.i) ∧
    (∀ it ∈ its, ∀ e ∈ it.o.after, Region.binds .any e = true → e.on < it.i) ∧ Runs C call ops.toList fr.n its fr.t.get m fr'.t.get m' ∧ fr'.n = fr.n
  | [], i, ms, fr, fr', m, m', its, h, hr, hms => by
    simp only [traceA, Option.some.injEq, Prod.mk.injEq] at h
    obtain ⟨rfl, rfl, rfl⟩ := h
    exact ⟨rfl, (fun it hit => nomatch hit), (fun it hit => nomatch hit), (fun it hit => nomatch hit), ⟨rfl, rfl⟩, rfl⟩
  | o :: rest, i, ms, fr, fr', m, m', its, h, hr, hms => by
    have ho : ops[i]? = some o := by have := hr 0; simpa using this.symm
    simp only [traceA] at h
    split at h
    · rename_i a kd x m1 ha hst
      split at h
      · rename_i fr1 hput
        split at h
        · rename_i its' fr2 m2 htr
          simp only [Option.some.injEq, Prod.mk.injEq] at h
          obtain ⟨rfl, rfl, rfl⟩ := h
          obtain ⟨ha1, ha2⟩ := ancOf_spec ho hms (fun e he => by simpa using he) ha (fun b hb => by simp at hb)
          obtain ⟨p1, p2, p3⟩ := put_upd hput
          obtain ⟨q1, q2, q3, q4, q5, q6⟩ := traceA_spec htr (fun k => by have := hr (k + 1); simpa [Nat.add_assoc, Nat.add_comm 1 k] using this) (fun k b hk b' hb' => by
            rw [Tr.get_set] at hk
            by_cases e : k = i
            · subst e; rw [if_pos rfl] at hk; cases hk; exact ha1 b' hb'
            · rw [if_neg e] at hk; exact hms k b hk b' hb')
          obtain ⟨s1, s2⟩ := stepA_m hst
          refine ⟨by simp [q1, List.range'_succ], fun it hit => ?_, fun it hit => ?_, fun it hit => ?_, ⟨⟨hst, p3⟩, ⟨fun _ _ => rfl, s2, fun _ => rfl⟩, ?_⟩, by rw [q6, p2]⟩
          · cases hit with
            | head => exact ho
            | tail _ hit => exact q2 it hit
          · cases hit with
            | head => exact ha1
            | tail _ hit => exact q3 it hit
          · cases hit with
            | head => exact fun e he hb => ha2 e (by simpa using he) hb
            | tail _ hit => exact q4 it hit
          · rw [← p1, ← p2]
            have : nextM ⟨o, i, a, kd, fr, m, x, m1⟩ m = m1 := by
              unfold nextM
              by_cases e : kd = 2
              · rw [if_pos e]
              · rw [if_neg e]; rcases s1 with h | h
                · exact absurd h e
                · exact h.symm
            rw [this]
            exact q5
        · cases h
      · cases h
    · cases h
theorem drawA_ok (H : C.Ok w0 base) : DrawOk C w0 base (drawA C) := by
  intro call hc id ops fr fr' m m' h g w a hf R hd Q hQ
  unfold drawA at h
  split at h
  · rename_i its fr1 m1 htr
    cases hp : pairsOk C ops.toList its with
    | false => simp [hp] at h
    | true =>
      simp only [hp, cond_true, Option.some.injEq, Prod.mk.injEq] at h
      obtain ⟨rfl, rfl⟩ := h
      obtain ⟨q1, q2, q3, q4, q5, q6⟩ := traceA_spec htr (fun k => by simp) (fun k a hk => by simp [Tr.get_nil] at hk)
      rw [Array.length_toList (xs := ops)] at q1
      refine wp_region_any H.mixed ?_
      have hlen : its.length = ops.size := by have := congrArg List.length q1; simpa using this
      refine wpAny_of_runs (n := fr.n) (F' := fr1.t.get) (m' := m1) H hc (fun k o ho e he hb => ?_) ops.size its (Array.replicate ops.size false) g fr.t.get m a _ hlen (by simp) q2 (fun j hj => ?_) ?_ q3 ?_ (pairsOk_spec hp) q5 hf.toF R.drew hd (fun g' a' w' s1 s2 s3 s4 => ?_)
      · have hk : k < ops.size := (Array.getElem?_eq_some_iff.1 ho).1
        have : k ∈ its.map (·.i) := by rw [q1, List.mem_range']; exact ⟨k, hk, by omega⟩
        obtain ⟨it, hit, rfl⟩ := List.mem_map.1 this
        have := q2 it hit
        rw [ho] at this; cases this
        exact q4 it hit e he hb
      · rw [q1]
        constructor
        · intro _; rw [List.mem_range']; exact ⟨j, hj, by omega⟩
        · intro _; simp [hj]
      · rw [q1]; exact List.pairwise_lt_range'
      · intro k o ho hl
        simp only [Array.getD_eq_getD_getElem?, Array.getElem?_replicate] at hl
        split at hl <;> cases hl
      · exact hQ g' a' w' ⟨s1, ⟨by rw [s2.size, q6], s2.slot⟩, s3, s4⟩
  · cases h
end

/-- V's calls, and the machine's -/
theorem call_sound {C : Cfg} {w0 : World} {base : Nat} (H : C.Ok w0 base) (n : Nat) : HCall C.P w0 base (Vz.call C (drawA C) n) :=
  call_of_exec H (fun c fr m ex fr' m' h => (exec_says H (drawA_ok H) n c fr m ex fr' m' h).1)
end Go.Vz
