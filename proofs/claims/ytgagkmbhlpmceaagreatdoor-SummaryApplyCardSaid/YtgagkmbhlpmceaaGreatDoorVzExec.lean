/-
  V's RUN: what it comes to, the machine comes to.
-/
import Derived.Test.YtgagkmbhlpmceaaGreatDoorVzEff5
import Derived.LoopN
set_option linter.unusedVariables false
set_option linter.unusedSimpArgs false
namespace Go.Vz
open Go Go.RowKit

/-- how a call ends -/
def CallPost (w0 : World) (base : Nat) (g : Map) (m' : Mem) (x : AV) : Ending → World → Prop := fun e w' => ∃ g' v, e = .returned v ∧ g.le g' ∧ VRel w0 base g' x v ∧ Rel w0 base g' m' w'
def HCall (P : Program) (w0 : World) (base : Nat) (call : CallF) : Prop := ∀ f args m x m', call f args m = some (x, m') → ∀ g w (vs : Array Value), VRels w0 base g args vs.toList → Rel w0 base g m w →
  Calls P f vs w (CallPost w0 base g m' x)
/-- what a machine's settings must keep -/
structure Cfg.Ok (C : Cfg) (w0 : World) (base : Nat) : Prop where
  mixed : C.P.follows .mixedOrders = true
  glob : ∀ g cs, C.glob g = some cs → ∀ μ, VRel w0 base μ (.rp cs) (.pointer (some ⟨g, 0, none⟩))
  prim : ∀ f args m x m', C.isPrim f = true → C.prim f args m = some (x, m') → ∀ g w (vs : Array Value), VRels w0 base g args vs.toList → Rel w0 base g m w → Calls C.P f vs w (CallPost w0 base g m' x)
  ext : ∀ f args m x m', C.ext f args m = some (x, m') → ∀ g w (vs : Array Value), VRels w0 base g args vs.toList → Rel w0 base g m w →
    ∃ v w' g', (callFunc f vs).run C.P w = .ok (.value v) w' ∧ g.le g' ∧ VRel w0 base g' x v ∧ Rel w0 base g' m' w'
/-- behind a piece of code -/
structure After (w0 : World) (base : Nat) (g : Map) (fr : Fr) (m : Mem) (g' : Map) (a : Act) (w : World) : Prop where
  le : g.le g'
  fr : FrRel w0 base g' fr a
  rel : Rel w0 base g' m w
  none : a.defers = []
def exOf : Ex → Exit
  | .normal => .normal
  | .exit i => .exit i
  | .ret => .ret
section
variable {w0 : World} {base : Nat} {C : Cfg}

theorem evalA_rel (H : C.Ok w0 base) {g : Map} {fr : Fr} {a : Act} (hf : FrRel w0 base g fr a) : ∀ y x, evalA C fr y = some x → VRel w0 base g x (a.eval y) := by
  intro y x h
  cases y with
  | tmp t =>
    obtain ⟨v, h1, h2⟩ := hf.slot t x h
    show VRel w0 base g x (a.tmps.getD t undef)
    rw [Array.getD_eq_getD_getElem?, h1]
    exact h2
  | const v => exact ofV_rel h
  | global k =>
    simp only [evalA] at h
    cases hk : C.glob k with
    | none => simp [hk] at h
    | some cs => simp only [hk, Option.map_some, Option.some.injEq] at h; subst h; exact H.glob k cs hk g
  | func f => simp only [evalA, Option.some.injEq] at h; subst h; exact .fn _ _ _ _ _ .nil .nil
theorem wanted_run {g : Map} {fr : Fr} {a : Act} (hf : FrRel w0 base g fr a) {ops : Array Oper} {o : Oper} {b : Bool} (h : wantedA ops.toList fr o = some b) : Region.wanted o (yielded ops a.tmps) = b := by
  unfold wantedA at h
  unfold Region.wanted
  cases hg : o.guard with
  | none => simp only [hg, Option.some.injEq] at h ⊢; exact h
  | some q =>
    obtain ⟨j, want⟩ := q
    simp only [hg, Array.getElem?_toList] at h ⊢
    cases hj : ops[j]? with
    | none => simp [hj] at h
    | some og =>
      simp only [hj] at h
      cases hd : og.dst with
      | none => simp [hd] at h
      | some t =>
        simp only [hd] at h
        unfold yielded
        simp only [hj, Option.bind_some, hd]
        cases hx : fr.t.get t with
        | none => simp [hx] at h
        | some x =>
          obtain ⟨v, h1, h2⟩ := hf.slot t x hx
          rw [h1]
          simp only [hx] at h
          split at h
          · rename_i b' heq
            cases heq
            cases h2
            cases h
            cases b' <;> cases want <;> rfl
          · rename_i heq
            cases heq
            cases h2
            cases h
            rfl
          · cases h
theorem FrRel.putAct {g : Map} {fr fr' : Fr} {a : Act} (r : FrRel w0 base g fr a) {d : Option Tmp} {x : AV} {v : Value} (h : fr.put d x = some fr') (hv : VRel w0 base g x v) : FrRel w0 base g fr' (a.put d v) := r.put h hv
theorem put_defers' (a : Act) (d : Option Tmp) (v : Value) : (a.put d v).defers = a.defers := by cases d <;> rfl

/-- one operation, its operands as they are given -/
def opR (C : Cfg) (call : CallF) (r : Operand → Option AV) (m : Mem) (o : Oper) : Option (AV × Mem) :=
  match pureA C.P r o.op with
  | some x => some (x, m)
  | none => match loadA C.P r m o.op with
    | some x => some (x, m)
    | none => match effA C.P r m o.op with
      | some (.val x, m) => some (x, m)
      | some (.skip, m) => some (.tup [], m)
      | some (.enter f args, m) => call f args m
      | some (.ext f args, m) => C.ext f args m
      | none => none
theorem opR_wp (H : C.Ok w0 base) {call : CallF} (hc : HCall C.P w0 base call) {g : Map} {r : Operand → Option AV} {m m' : Mem} {w : World} {a : Act} (hr : ∀ y x, r y = some x → VRel w0 base g x (a.eval y)) (R : Rel w0 base g m w) {o : Oper} {x : AV}
    (h : opR C call r m o = some (x, m')) {K : Act → World → Prop} {Q : Exit → Act → World → Prop} (hK : ∀ g' v w', g.le g' → VRel w0 base g' x v → Rel w0 base g' m' w' → K (a.put o.dst v) w') : o.wp C.P a w K Q := by
  unfold opR at h
  unfold Oper.wp
  split at h
  · rename_i x' hp
    simp only [Option.some.injEq, Prod.mk.injEq] at h
    obtain ⟨rfl, rfl⟩ := h
    obtain ⟨v, h1, h2⟩ := pureA_sound hr hp
    rw [h2 w]
    exact hK g v w (Map.le_refl g) h1 R
  · split at h
    · rename_i x' hp
      simp only [Option.some.injEq, Prod.mk.injEq] at h
      obtain ⟨rfl, rfl⟩ := h
      obtain ⟨v, h1, h2⟩ := loadA_sound R hr hp
      rw [h2]
      exact hK g v w (Map.le_refl g) h1 R
    · split at h
      · rename_i x' m1 he
        simp only [Option.some.injEq, Prod.mk.injEq] at h
        obtain ⟨rfl, rfl⟩ := h
        obtain ⟨v, w', g', h1, h2, h3, h4⟩ := effA_sound R hr he
        rw [h1]
        exact hK g' v w' h2 h3 h4
      · rename_i m1 he
        simp only [Option.some.injEq, Prod.mk.injEq] at h
        obtain ⟨rfl, rfl⟩ := h
        obtain ⟨w', g', h1, h2, h3⟩ := effA_sound R hr he
        rw [h1]
        exact hK g' undef w' h2 (.tup _ _ .nil) h3
      · rename_i f args m1 he
        obtain ⟨vs, h1, h2, h3⟩ := effA_sound R hr he
        rw [h1]
        refine Calls.mono (hc _ _ _ _ _ h g w vs h2 h3) (fun e w'' he => ?_)
        obtain ⟨g', v, rfl, q1, q2, q3⟩ := he
        exact hK g' v w'' q1 q2 q3
      · rename_i f args m1 he
        obtain ⟨vs, h1, h2, h3⟩ := effA_sound R hr he
        obtain ⟨v, w', g', q1, q2, q3, q4⟩ := H.ext _ _ _ _ _ h g w vs h2 h3
        rw [h1, q1]
        exact hK g' v w' q2 q3 q4
      · cases h
theorem opA_wp (H : C.Ok w0 base) {call : CallF} (hc : HCall C.P w0 base call) {g : Map} {fr : Fr} {m m' : Mem} {w : World} {a : Act} (hf : FrRel w0 base g fr a) (R : Rel w0 base g m w) {o : Oper} {x : AV}
    (h : opA C call fr m o = some (x, m')) {K : Act → World → Prop} {Q : Exit → Act → World → Prop} (hK : ∀ g' v w', g.le g' → VRel w0 base g' x v → Rel w0 base g' m' w' → K (a.put o.dst v) w') : o.wp C.P a w K Q :=
  opR_wp H hc (evalA_rel H hf) R h hK
theorem runOps_wp (H : C.Ok w0 base) {call : CallF} (hc : HCall C.P w0 base call) {ops : Array Oper} {Q : Exit → Act → World → Prop} : ∀ {rest : List Oper} {g : Map} {fr fr' : Fr} {m m' : Mem} {w : World} {a : Act}, FrRel w0 base g fr a → Rel w0 base g m w → a.defers = [] →
    runOps C call ops.toList rest fr m = some (fr', m') → (∀ g' a' w', After w0 base g fr' m' g' a' w' → Q .normal a' w') → wpList C.P ops Q rest a w
  | [], g, fr, fr', m, m', w, a, hf, R, hd, h, hQ => by
    simp only [runOps, Option.some.injEq, Prod.mk.injEq] at h
    obtain ⟨rfl, rfl⟩ := h
    exact hQ g a w ⟨Map.le_refl g, hf, R, hd⟩
  | o :: rest, g, fr, fr', m, m', w, a, hf, R, hd, h, hQ => by
    simp only [runOps] at h
    unfold wpList
    split at h
    · rename_i hw
      rw [if_pos (wanted_run hf hw)]
      split at h
      · rename_i x m1 ho
        split at h
        · rename_i fr1 hp
          refine .inl (opA_wp H hc hf R ho (fun g' v w' q1 q2 q3 => ?_))
          exact runOps_wp H hc ((hf.mono q1).put hp q2) q3 (by rw [put_defers']; exact hd) h (fun g2 a2 w2 q => hQ g2 a2 w2 ⟨Map.le_trans q1 q.le, q.fr, q.rel, q.none⟩)
        · cases h
      · cases h
    · rename_i hw
      rw [if_neg (by rw [wanted_run hf hw]; decide)]
      split at h
      · rename_i fr1 hp
        exact runOps_wp H hc (hf.put hp (.tup _ _ .nil)) R (by rw [put_defers']; exact hd) h hQ
      · cases h
    · cases h

/-! ### Frames -/
theorem setArgs_get : ∀ (xs : List AV) (t : Tr AV) (k j : Nat), (setArgs t k xs).get j = if k ≤ j ∧ j < k + xs.length then xs[j - k]? else t.get j
  | [], t, k, j => by simp only [setArgs, List.length_nil]; rw [if_neg (by omega)]
  | x :: xs, t, k, j => by
    simp only [setArgs, setArgs_get xs, List.length_cons, Tr.get_set]
    by_cases h1 : k + 1 ≤ j ∧ j < k + 1 + xs.length
    · rw [if_pos h1, if_pos (by omega), show j - k = (j - (k + 1)) + 1 by omega, List.getElem?_cons_succ]
    · rw [if_neg h1]
      by_cases h2 : j = k
      · subst h2
        rw [if_pos rfl, if_pos (by omega), Nat.sub_self]; rfl
      · rw [if_neg h2, if_neg (by omega)]
theorem enterA_rel {g : Map} {args : List AV} {vs : Array Value} (h : VRels w0 base g args vs.toList) (n : Nat) : FrRel w0 base g (enterA n args) { tmps := vs ++ Array.replicate (n - vs.size) undef, defers := [] } := by
  have hl : args.length = vs.size := by have := h.length; rw [Array.length_toList (xs := vs)] at this; exact this
  refine ⟨?_, fun t x hx => ?_⟩
  · show (vs ++ Array.replicate (n - vs.size) undef).size = args.length + (n - args.length)
    rw [Array.size_append, Array.size_replicate, hl]
  · simp only [enterA, setArgs_get, Tr.get_nil, Nat.zero_le, true_and, Nat.zero_add, Nat.sub_zero] at hx
    by_cases ht : t < args.length
    · rw [if_pos ht] at hx
      obtain ⟨v, h1, h2⟩ := h.get hx
      refine ⟨v, ?_, h2⟩
      show (vs ++ Array.replicate (n - vs.size) undef)[t]? = some v
      rw [Array.getElem?_append_left (by omega)]
      simpa using h1
    · rw [if_neg ht] at hx; cases hx
/-- one result -/
def resOf (tmps : Array Value) : ResultVar → Sem Value
  | .tmp t => pure (tmps.getD t undef)
  | .cell c t => do loadVar t (← asAddr (tmps.getD c undef))
theorem results_eq (fn : Func) (tmps : Array Value) : Go.results fn tmps = (do
    let vs ← fn.results.mapM (resOf tmps)
    pure (if h : vs.size = 1 then vs[0] else .tuple vs)) := by
  unfold Go.results
  congr 1
theorem results_list {g : Map} {fr : Fr} {m : Mem} {w : World} {a : Act} (hf : FrRel w0 base g fr a) (R : Rel w0 base g m w) : ∀ {l : List ResultVar} {xs : List AV}, Vz.results C.P m fr l = some xs →
    ∃ vs : List Value, VRels w0 base g xs vs ∧ (l.mapM (resOf a.tmps)).run C.P w = .ok vs w
  | [], xs, h => by
    simp only [Vz.results, Option.some.injEq] at h
    subst h
    exact ⟨[], .nil, by simp⟩
  | r :: rs, xs, h => by
    simp only [Vz.results] at h
    split at h
    · rename_i x ys hx hys
      cases h
      obtain ⟨us, h1, h2⟩ := results_list hf R hys
      have hone : ∃ v, VRel w0 base g x v ∧ (resOf a.tmps r).run C.P w = .ok v w := by
        cases r with
        | tmp t =>
          obtain ⟨v, q1, q2⟩ := hf.slot t x hx
          exact ⟨v, q2, by simp only [resOf, Array.getD_eq_getD_getElem?, q1, Option.getD_some, Sem.run_pure]⟩
        | cell c t =>
          simp only at hx
          split at hx
          · rename_i y n hy hs hg
            cases hl : m.load y n with
            | none => simp [hl] at hx
            | some zs =>
              simp only [hl, Option.map_some, Option.some.injEq] at hx
              subst hx
              obtain ⟨u, q1, q2⟩ := hf.slot c y hy
              obtain ⟨ad, rfl⟩ := load_addr hl q2
              obtain ⟨v, hv1, hv2⟩ := (R.loadVar (P := C.P) hs q2).1 hg zs hl
              exact ⟨v, hv1, by simp only [resOf, Array.getD_eq_getD_getElem?, q1, Option.getD_some, Sem.run_bind, asAddr, Sem.run_pure, Result.andThen_ok, hv2]⟩
          · rename_i y n hy hs hg
            split at hx
            · rename_i z hl
              cases hx
              obtain ⟨u, q1, q2⟩ := hf.slot c y hy
              obtain ⟨ad, rfl⟩ := load_addr hl q2
              obtain ⟨v, hv1, hv2⟩ := (R.loadVar (P := C.P) hs q2).2 hg _ hl
              exact ⟨v, hv1, by simp only [resOf, Array.getD_eq_getD_getElem?, q1, Option.getD_some, Sem.run_bind, asAddr, Sem.run_pure, Result.andThen_ok, hv2]⟩
            · cases hx
          · cases hx
      obtain ⟨v, q1, q2⟩ := hone
      refine ⟨v :: us, .cons _ _ _ _ q1 h1, ?_⟩
      simp only [List.mapM_cons, Sem.run_bind, q2, Result.andThen_ok, h2, Sem.run_pure]
    · cases h
theorem results_run {g : Map} {fr : Fr} {m : Mem} {w : World} {a : Act} (hf : FrRel w0 base g fr a) (R : Rel w0 base g m w) {fn : Func} {xs : List AV} (h : Vz.results C.P m fr fn.results.toList = some xs) :
    ∃ v, VRel w0 base g (one xs) v ∧ (Go.results fn a.tmps).run C.P w = .ok v w := by
  obtain ⟨vs, h1, h2⟩ := results_list (C := C) hf R h
  have hm : (fn.results.mapM (resOf a.tmps)).run C.P w = .ok vs.toArray w := by
    rw [Array.mapM_eq_mapM_toList]
    simp [h2]
  refine ⟨if h : vs.toArray.size = 1 then vs.toArray[0] else .tuple vs.toArray, ?_, ?_⟩
  · rcases vs with _ | ⟨v, _ | ⟨u, vs⟩⟩
    · cases h1; exact .tup _ _ .nil
    · cases h1 with | cons _ _ _ _ q1 q2 => cases q2; exact q1
    · cases h1 with | cons _ _ _ _ q1 q2 => cases q2 with | cons _ _ _ _ q2 q3 => exact .tup _ _ (.cons _ _ _ _ q1 (.cons _ _ _ _ q2 q3))
  · rw [results_eq, Sem.run_bind, hm]
    rfl

/-! ### Code -/
abbrev DrawOk (C : Cfg) (w0 : World) (base : Nat) (draw : CallF → DrawF) : Prop := ∀ call, HCall C.P w0 base call → ∀ (id : Nat) (ops : Array Oper) (fr fr' : Fr) (m m' : Mem), draw call ops.toList fr m = some (fr', m') →
  ∀ (g : Map) (w : World) (a : Act), FrRel w0 base g fr a → Rel w0 base g m w → a.defers = [] → ∀ Q : Exit → Act → World → Prop, (∀ g' a' w', After w0 base g fr' m' g' a' w' → Q .normal a' w') → (Code.region id ops true).wp C.P Q a w
/-- what a run of code says -/
abbrev Says (C : Cfg) (w0 : World) (base : Nat) (c : Code) (fr : Fr) (m : Mem) (ex : Ex) (fr' : Fr) (m' : Mem) : Prop := ∀ (g : Map) (w : World) (a : Act), FrRel w0 base g fr a → Rel w0 base g m w → a.defers = [] →
  ∀ Q : Exit → Act → World → Prop, (∀ g' a' w', After w0 base g fr' m' g' a' w' → Q (exOf ex) a' w') → c.wp C.P Q a w
theorem call_of_exec (H : C.Ok w0 base) {draw : CallF → DrawF} {n : Nat} (ih : ∀ c fr m ex fr' m', exec C draw n c fr m = some (ex, fr', m') → Says C w0 base c fr m ex fr' m') : HCall C.P w0 base (Vz.call C draw n) := by
  intro f args m x m' h g w vs hv R
  unfold Vz.call at h
  cases hp : C.isPrim f with
  | true => simp only [hp, cond_true] at h; exact H.prim f args m x m' hp h g w vs hv R
  | false =>
    simp only [hp, cond_false] at h
    split at h
    · rename_i fn hfn
      split at h
      · rename_i body hb
        refine calls_of_wp hfn hb ?_
        have fin : ∀ (ex : Ex) (fr' : Fr) (m1 : Mem), (exOf ex = .normal ∨ exOf ex = .ret) → exec C draw n body (enterA fn.ntmps args) m = some (ex, fr', m1) → (Vz.results C.P m1 fr' fn.results.toList).map (fun xs => (one xs, m1)) = some (x, m') →
            body.wp C.P (bodyPost C.P fn (CallPost w0 base g m' x)) { tmps := vs ++ Array.replicate (fn.ntmps - vs.size) undef, defers := [] } w := by
          intro ex fr' m1 hex he hres
          cases hxs : Vz.results C.P m1 fr' fn.results.toList with
          | none => simp [hxs] at hres
          | some xs =>
            simp only [hxs, Option.map_some, Option.some.injEq, Prod.mk.injEq] at hres
            obtain ⟨rfl, rfl⟩ := hres
            refine ih _ _ _ _ _ _ he g w _ (enterA_rel hv _) R rfl _ (fun g' a' w' q => ?_)
            obtain ⟨v, q1, q2⟩ := results_run (C := C) q.fr q.rel hxs
            have : a'.defers = [] ∧ ∃ v, (Go.results fn a'.tmps).run C.P w' = .ok v w' ∧ CallPost w0 base g m1 (one xs) (.returned v) w' := ⟨q.none, v, q2, g', v, rfl, q.le, q1, q.rel⟩
            rcases hex with e | e <;> rw [e] <;> exact this
        split at h
        · rename_i fr' m1 he; exact fin .normal fr' m1 (.inl rfl) he h
        · rename_i fr' m1 he; exact fin .ret fr' m1 (.inr rfl) he h
        · cases h
      · cases h
    · cases h
section
variable {draw : CallF → DrawF} {n : Nat} {fr : Fr} {m : Mem}
theorem exec_skip : exec C draw (n + 1) .skip fr m = some (.normal, fr, m) := rfl
theorem exec_exit {id : Nat} : exec C draw (n + 1) (.exit id) fr m = some (.exit id, fr, m) := rfl
theorem exec_ret : exec C draw (n + 1) .ret fr m = some (.ret, fr, m) := rfl
theorem exec_region {id : Nat} {ops : Array Oper} : exec C draw (n + 1) (.region id ops false) fr m = (runOps C (Vz.call C draw n) ops.toList ops.toList fr m).map fun (fr, m) => (.normal, fr, m) := rfl
theorem exec_draw {id : Nat} {ops : Array Oper} : exec C draw (n + 1) (.region id ops true) fr m = (draw (Vz.call C draw n) ops.toList fr m).map fun (fr, m) => (.normal, fr, m) := rfl
theorem exec_seq {a b : Code} : exec C draw (n + 1) (.seq a b) fr m = match exec C draw n a fr m with
      | some (.normal, fr, m) => exec C draw n b fr m
      | r => r := rfl
theorem exec_cond {x : Operand} {a b : Code} : exec C draw (n + 1) (.cond x a b) fr m = match evalA C fr x with
      | some (.bool true) => exec C draw n a fr m
      | some (.bool false) => exec C draw n b fr m
      | _ => none := rfl
theorem exec_block {id : Nat} {a : Code} : exec C draw (n + 1) (.block id a) fr m = match exec C draw n a fr m with
      | some (.exit i, fr, m) => bif Nat.beq i id then some (.normal, fr, m) else some (.exit i, fr, m)
      | r => r := rfl
theorem exec_loop {a : Code} : exec C draw (n + 1) (.loop a) fr m = match exec C draw n a fr m with
      | some (.normal, fr, m) => exec C draw n (.loop a) fr m
      | r => r := rfl
end
theorem exec_says (H : C.Ok w0 base) {draw : CallF → DrawF} (hD : DrawOk C w0 base draw) : ∀ (n : Nat) (c : Code) (fr : Fr) (m : Mem) (ex : Ex) (fr' : Fr) (m' : Mem), exec C draw n c fr m = some (ex, fr', m') →
    Says C w0 base c fr m ex fr' m' ∧ ∀ b, c = .loop b → ∀ (g : Map) (w : World) (a : Act), FrRel w0 base g fr a → Rel w0 base g m w → a.defers = [] →
      ∀ Q : Exit → Act → World → Prop, (∀ g' a' w', After w0 base g fr' m' g' a' w' → Q (exOf ex) a' w') → Code.rounds C.P b Q n a w
  | 0, c, fr, m, ex, fr', m', h => by simp only [exec] at h; cases h
  | n + 1, c, fr, m, ex, fr', m', h => by
    have ih := exec_says H hD n
    have hc : HCall C.P w0 base (Vz.call C draw n) := call_of_exec H (fun c fr m ex fr' m' h => (ih c fr m ex fr' m' h).1)
    cases c <;> try (simp only [exec] at h; cases h; done)
    case skip =>
      rw [exec_skip] at h
      cases h
      exact ⟨fun g w a hf R hd Q hQ => wp_skip (hQ g a w ⟨Map.le_refl g, hf, R, hd⟩), fun b e => by cases e⟩
    case exit id =>
      rw [exec_exit] at h
      cases h
      exact ⟨fun g w a hf R hd Q hQ => wp_exit (hQ g a w ⟨Map.le_refl g, hf, R, hd⟩), fun b e => by cases e⟩
    case ret =>
      rw [exec_ret] at h
      cases h
      exact ⟨fun g w a hf R hd Q hQ => wp_ret (hQ g a w ⟨Map.le_refl g, hf, R, hd⟩), fun b e => by cases e⟩
    case region id ops d =>
      refine ⟨fun g w a hf R hd Q hQ => ?_, fun b e => by cases e⟩
      cases d with
      | false =>
        rw [exec_region] at h
        cases hr : runOps C (Vz.call C draw n) ops.toList ops.toList fr m with
        | none => simp [hr] at h
        | some q =>
          obtain ⟨fr1, m1⟩ := q
          simp only [hr, Option.map_some, Option.some.injEq, Prod.mk.injEq] at h
          obtain ⟨rfl, rfl, rfl⟩ := h
          exact wp_region_list (runOps_wp H hc hf R hd hr hQ)
      | true =>
        rw [exec_draw] at h
        cases hr : draw (Vz.call C draw n) ops.toList fr m with
        | none => simp [hr] at h
        | some q =>
          obtain ⟨fr1, m1⟩ := q
          simp only [hr, Option.map_some, Option.some.injEq, Prod.mk.injEq] at h
          obtain ⟨rfl, rfl, rfl⟩ := h
          exact hD _ hc id ops fr fr1 m m1 hr g w a hf R hd Q hQ
    case seq x y =>
      rw [exec_seq] at h
      refine ⟨fun g w a hf R hd Q hQ => ?_, fun b e => by cases e⟩
      split at h
      · rename_i fr1 m1 h1
        refine wp_seq ((ih _ _ _ _ _ _ h1).1 g w a hf R hd _ (fun g' a' w' q => ?_))
        exact (ih _ _ _ _ _ _ h).1 g' w' a' q.fr q.rel q.none _ (fun g2 a2 w2 q2 => hQ g2 a2 w2 ⟨Map.le_trans q.le q2.le, q2.fr, q2.rel, q2.none⟩)
      · rename_i r hne
        refine wp_seq ((ih _ _ _ _ _ _ h).1 g w a hf R hd _ (fun g' a' w' q => ?_))
        cases ex with
        | normal => exact absurd h (hne _ _)
        | exit i => exact hQ g' a' w' q
        | ret => exact hQ g' a' w' q
    case cond x y z =>
      rw [exec_cond] at h
      refine ⟨fun g w a hf R hd Q hQ => ?_, fun b e => by cases e⟩
      split at h
      · rename_i he
        have := evalA_rel H hf _ _ he
        generalize hv : a.eval x = v at this
        cases this
        exact wp_cond_true hv ((ih _ _ _ _ _ _ h).1 g w a hf R hd Q hQ)
      · rename_i he
        have := evalA_rel H hf _ _ he
        generalize hv : a.eval x = v at this
        cases this
        exact wp_cond_false hv ((ih _ _ _ _ _ _ h).1 g w a hf R hd Q hQ)
      · cases h
    case block id x =>
      rw [exec_block] at h
      refine ⟨fun g w a hf R hd Q hQ => ?_, fun b e => by cases e⟩
      split at h
      · rename_i i fr1 m1 h1
        refine wp_block ((ih _ _ _ _ _ _ h1).1 g w a hf R hd _ (fun g' a' w' q => ?_))
        show Exit.inBlock id Q (.exit i) a' w'
        simp only [Exit.inBlock]
        cases hi : Nat.beq i id with
        | true =>
          simp only [hi, cond_true, Option.some.injEq, Prod.mk.injEq] at h
          obtain ⟨rfl, rfl, rfl⟩ := h
          rw [if_pos (Nat.eq_of_beq_eq_true hi)]
          exact hQ g' a' w' q
        | false =>
          simp only [hi, cond_false, Option.some.injEq, Prod.mk.injEq] at h
          obtain ⟨rfl, rfl, rfl⟩ := h
          rw [if_neg (fun e => by subst e; simp at hi)]
          exact hQ g' a' w' q
      · rename_i r hne
        refine wp_block ((ih _ _ _ _ _ _ h).1 g w a hf R hd _ (fun g' a' w' q => ?_))
        cases ex with
        | normal => exact hQ g' a' w' q
        | exit i => exact absurd h (hne _ _ _)
        | ret => exact hQ g' a' w' q
    case loop x =>
      rw [exec_loop] at h
      have key : ∀ (g : Map) (w : World) (a : Act), FrRel w0 base g fr a → Rel w0 base g m w → a.defers = [] →
          ∀ Q : Exit → Act → World → Prop, (∀ g' a' w', After w0 base g fr' m' g' a' w' → Q (exOf ex) a' w') → Code.rounds C.P x Q (n + 1) a w := by
        intro g w a hf R hd Q hQ
        split at h
        · rename_i fr1 m1 h1
          rw [rounds_succ]
          refine (ih _ _ _ _ _ _ h1).1 g w a hf R hd _ (fun g' a' w' q => ?_)
          exact (ih _ _ _ _ _ _ h).2 x rfl g' w' a' q.fr q.rel q.none Q (fun g2 a2 w2 q2 => hQ g2 a2 w2 ⟨Map.le_trans q.le q2.le, q2.fr, q2.rel, q2.none⟩)
        · rename_i r hne
          rw [rounds_succ]
          refine (ih _ _ _ _ _ _ h).1 g w a hf R hd _ (fun g' a' w' q => ?_)
          cases ex with
          | normal => exact absurd h (hne _ _)
          | exit i => exact hQ g' a' w' q
          | ret => exact hQ g' a' w' q
      exact ⟨fun g w a hf R hd Q hQ => wp_loop_rounds (n + 1) (key g w a hf R hd Q hQ), fun b e => by cases e; exact key⟩
end
end Go.Vz
