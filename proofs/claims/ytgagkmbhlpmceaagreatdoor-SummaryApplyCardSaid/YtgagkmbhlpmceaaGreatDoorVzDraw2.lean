/-
  V's DRAWN REGIONS: why the check is enough.
-/
import Derived.Test.YtgagkmbhlpmceaaGreatDoorVzDraw
set_option linter.unusedVariables false
set_option linter.unusedSimpArgs false
namespace Go.Vz
open Go Go.RowKit

/-! ### Frames as functions -/
def evalF (C : Cfg) (F : Nat → Option AV) : Operand → Option AV
  | .tmp t => F t
  | .const v => ofV v
  | .global g => (C.glob g).map .rp
  | .func f => some (.fn (.func f) [] [])
theorem evalA_eq (C : Cfg) (fr : Fr) : evalA C fr = evalF C fr.t.get := by funext y; cases y <;> rfl
def wantedF (ops : List Oper) (F : Nat → Option AV) (o : Oper) : Option Bool :=
  match o.guard with
  | none => some true
  | some (j, want) => match ops[j]? with
    | some g => match g.dst with
      | some t => match F t with
        | some (.bool b) => some (b == want)
        | some (.tup []) => some false
        | _ => none
      | none => none
    | none => none
theorem wantedA_eq (ops : List Oper) (fr : Fr) (o : Oper) : wantedA ops fr o = wantedF ops fr.t.get o := rfl
def upd (F : Nat → Option AV) (d : Option Tmp) (x : AV) : Nat → Option AV := match d with
  | none => F
  | some t => fun s => if s = t then some x else F s
theorem put_upd {fr fr' : Fr} {d : Option Tmp} {x : AV} (h : fr.put d x = some fr') : fr'.t.get = upd fr.t.get d x ∧ fr'.n = fr.n ∧ ∀ t, d = some t → t < fr.n := by
  cases d with
  | none => simp only [Fr.put, Option.some.injEq] at h; subst h; exact ⟨rfl, rfl, fun t h => by cases h⟩
  | some t =>
    simp only [Fr.put] at h
    cases hb : Nat.ble (t + 1) fr.n with
    | false => simp [hb] at h
    | true =>
      simp only [hb, cond_true, Option.some.injEq] at h
      subst h
      exact ⟨by funext s; simp only [upd, Tr.get_set], rfl, fun u hu => by cases hu; exact Nat.le_of_ble_eq_true hb⟩
theorem notIn_spec {t : Nat} : ∀ {l : List Nat}, notIn t l = true → t ∉ l
  | [], _, h => by cases h
  | u :: l, h, hm => by
    simp only [notIn, Bool.and_eq_true, Bool.not_eq_true'] at h
    cases hm with
    | head => simp at h
    | tail _ hm => exact notIn_spec h.2 hm
theorem upd_out {F : Nat → Option AV} {d : Option Tmp} {x : AV} {l : List Nat} (h : dstOut d l = true) : ∀ t ∈ l, upd F d x t = F t := by
  intro t ht
  cases d with
  | none => rfl
  | some u =>
    have := notIn_spec h
    simp only [upd]
    rw [if_neg (fun e => by subst e; exact this ht)]
theorem upd_comm {F : Nat → Option AV} {d e : Option Tmp} {x y : AV} (h : dstNe d e = true) : upd (upd F d x) e y = upd (upd F e y) d x := by
  cases d with
  | none => rfl
  | some t => cases e with
    | none => rfl
    | some u =>
      simp only [dstNe, Bool.not_eq_true'] at h
      have hne : t ≠ u := fun e => by subst e; simp at h
      funext s
      simp only [upd]
      by_cases h1 : s = u
      · subst h1; rw [if_pos rfl, if_neg (Ne.symm hne), if_pos rfl]
      · rw [if_neg h1, if_neg h1]
theorem mem_tmpsOf {t : Nat} : ∀ {l : List Operand}, Operand.tmp t ∈ l → t ∈ tmpsOf l
  | x :: l, h => by
    cases h with
    | head => simp [tmpsOf]
    | tail _ h => cases x <;> simp only [tmpsOf] <;> first | exact List.mem_cons_of_mem _ (mem_tmpsOf h) | exact mem_tmpsOf h
theorem looks_ops {ops : List Oper} {o : Oper} {t : Nat} (h : t ∈ tmpsOf (opsOf o.op)) : t ∈ looksA ops o := by
  unfold looksA
  split
  · exact h
  · split
    · split
      · exact List.mem_cons_of_mem _ h
      · exact h
    · exact h
section
variable {C : Cfg} {call : CallF} {ops : List Oper} {F G : Nat → Option AV} {m m' : Mem} {o : Oper}
theorem evalF_agree (h : ∀ t ∈ looksA ops o, F t = G t) : ∀ y ∈ opsOf o.op, evalF C F y = evalF C G y := by
  intro y hy
  cases y with
  | tmp t => exact h t (looks_ops (mem_tmpsOf hy))
  | _ => rfl
theorem wantedF_agree (h : ∀ t ∈ looksA ops o, F t = G t) : wantedF ops F o = wantedF ops G o := by
  unfold wantedF
  cases hg : o.guard with
  | none => rfl
  | some q =>
    obtain ⟨j, want⟩ := q
    simp only
    cases hj : ops[j]? with
    | none => rfl
    | some og =>
      simp only
      cases hd : og.dst with
      | none => rfl
      | some t =>
        have ht : t ∈ looksA ops o := by unfold looksA; simp [hg, hj, hd]
        simp only [h t ht]
theorem opR_agree (h : ∀ t ∈ looksA ops o, F t = G t) : opR C call (evalF C F) m o = opR C call (evalF C G) m o := by
  have he := evalF_agree (C := C) h
  unfold opR
  rw [pureA_congr o.op he, loadA_congr o.op he, effA_congr o.op he]
end

/-! ### Runs of what is not yet listed -/
section
variable {C : Cfg} {call : CallF} {ops : List Oper} {n : Nat}
structure ItOk (C : Cfg) (call : CallF) (ops : List Oper) (n : Nat) (it : It) : Prop where
  step : stepA C call ops it.fr it.m it.o = some (it.kd, it.x, it.m')
  dst : ∀ t, it.o.dst = some t → t < n
structure StepAt (C : Cfg) (ops : List Oper) (it : It) (F : Nat → Option AV) (m : Mem) : Prop where
  agree : ∀ t ∈ looksA ops it.o, F t = it.fr.t.get t
  load : it.kd = 1 → loadA C.P (evalA C it.fr) m it.o.op = some it.x
  eff : it.kd = 2 → m = it.m
def nextM (it : It) (m : Mem) : Mem := if it.kd = 2 then it.m' else m
def Runs (C : Cfg) (call : CallF) (ops : List Oper) (n : Nat) : List It → (Nat → Option AV) → Mem → (Nat → Option AV) → Mem → Prop
  | [], F, m, F', m' => F = F' ∧ m = m'
  | it :: l, F, m, F', m' => ItOk C call ops n it ∧ StepAt C ops it F m ∧ Runs C call ops n l (upd F it.o.dst it.x) (nextM it m) F' m'
theorem Runs.swap {i j : It} {l : List It} {F F' : Nat → Option AV} {m m' : Mem} (h : Runs C call ops n (i :: j :: l) F m F' m') (hp : pairOk C ops i j = true) (hna : Nat.testBit j.anc i.i = false) :
    Runs C call ops n (j :: i :: l) F m F' m' := by
  obtain ⟨hi, si, hj, sj, hl⟩ := h
  unfold pairOk at hp
  rw [hna, cond_false, Bool.and_eq_true, Bool.and_eq_true, Bool.and_eq_true] at hp
  obtain ⟨⟨⟨h1, h2⟩, h3⟩, h4⟩ := hp
  have hsame : ∀ {it : It} {M : Mem}, loadsSame C it M = true → loadA C.P (evalA C it.fr) M it.o.op = some it.x := by
    intro it M h
    unfold loadsSame at h
    split at h
    · rename_i y hy; rw [hy, beqA_eq h]
    · cases h
  have hnm : nextM j (nextM i m) = nextM i (nextM j m) := by
    unfold nextM
    by_cases e1 : i.kd = 2 <;> by_cases e2 : j.kd = 2
    · rw [e1, e2] at h4; cases h4
    · simp [e1, e2]
    · simp [e1, e2]
    · simp [e1, e2]
  refine ⟨hj, ⟨fun t ht => ?_, fun k1 => ?_, fun k2 => ?_⟩, hi, ⟨fun t ht => ?_, fun k1 => ?_, fun k2 => ?_⟩, ?_⟩
  · rw [← sj.agree t ht, upd_out h1 t ht]
  · by_cases e1 : i.kd = 2
    · rw [e1, k1] at h4
      rw [si.eff e1]; exact hsame h4
    · have := sj.load k1
      unfold nextM at this
      rw [if_neg e1] at this
      exact this
  · have := sj.eff k2
    unfold nextM at this
    rw [if_neg (fun e1 => by rw [e1, k2] at h4; cases h4)] at this
    exact this
  · rw [upd_out h3 t ht]; exact si.agree t ht
  · by_cases e2 : j.kd = 2
    · rw [e2, k1] at h4
      unfold nextM
      rw [if_pos e2]
      exact hsame h4
    · unfold nextM
      rw [if_neg e2]
      exact si.load k1
  · unfold nextM
    rw [if_neg (fun e2 => by rw [e2, k2] at h4; cases h4)]
    exact si.eff k2
  · rw [upd_comm h2, hnm] at hl
    exact hl
theorem Runs.bubble {j : It} {post : List It} : ∀ {pre : List It} {F F' : Nat → Option AV} {m m' : Mem}, Runs C call ops n (pre ++ j :: post) F m F' m' → (∀ i ∈ pre, pairOk C ops i j = true ∧ Nat.testBit j.anc i.i = false) →
    Runs C call ops n (j :: (pre ++ post)) F m F' m'
  | [], _, _, _, _, h, _ => h
  | i :: pre, F, F', m, m', h, hp => by
    obtain ⟨h1, h2, h3⟩ := h
    have := Runs.bubble h3 (fun k hk => hp k (List.mem_cons_of_mem _ hk))
    exact Runs.swap (l := pre ++ post) ⟨h1, h2, this⟩ (hp i List.mem_cons_self).1 (hp i List.mem_cons_self).2
end

/-! ### What comes before -/
inductive Anc (ops : Array Oper) : Nat → Nat → Prop where
  | edge {j : Nat} {o : Oper} {e : Edge} : ops[j]? = some o → e ∈ o.after → Region.binds .any e = true → Anc ops e.on j
  | step {i j : Nat} {o : Oper} {e : Edge} : ops[j]? = some o → e ∈ o.after → Region.binds .any e = true → Anc ops i e.on → Anc ops i j
def Closed (ops : Array Oper) (listed : Array Bool) : Prop := ∀ k o, ops[k]? = some o → listed.getD k false = true → ∀ e ∈ o.after, Region.binds .any e = true → listed.getD e.on false = true
theorem Anc.listed {ops : Array Oper} {listed : Array Bool} (hc : Closed ops listed) {i j : Nat} (h : Anc ops i j) : listed.getD j false = true → listed.getD i false = true := by
  induction h with
  | edge h1 h2 h3 => exact fun hl => hc _ _ h1 hl _ h2 h3
  | step h1 h2 h3 _ ih => exact fun hl => ih (hc _ _ h1 hl _ h2 h3)
theorem Anc.ready {ops : Array Oper} {listed : Array Bool} (hc : Closed ops listed) {i j : Nat} (h : Anc ops i j) (hr : ∀ o, ops[j]? = some o → ∀ e ∈ o.after, Region.binds .any e = true → listed.getD e.on false = true) : listed.getD i false = true := by
  cases h with
  | edge h1 h2 h3 => exact hr _ h1 _ h2 h3
  | step h1 h2 h3 h4 => exact h4.listed hc (hr _ h1 _ h2 h3)
theorem ancOf_spec {ops : Array Oper} {ms : Tr Nat} {i : Nat} {o : Oper} (ho : ops[i]? = some o) (hms : ∀ k a, ms.get k = some a → ∀ b, Nat.testBit a b = true → Anc ops b k) :
    ∀ {es : List Edge} {acc a : Nat}, (∀ e ∈ es, e ∈ o.after) → ancOf ms i es acc = some a → (∀ b, Nat.testBit acc b = true → Anc ops b i) →
      (∀ b, Nat.testBit a b = true → Anc ops b i) ∧ ∀ e ∈ es, Region.binds .any e = true → e.on < i
  | [], acc, a, _, h, hb => by simp only [ancOf, Option.some.injEq] at h; subst h; exact ⟨hb, fun e he => by cases he⟩
  | e :: es, acc, a, hes, h, hb => by
    simp only [ancOf] at h
    cases hbd : Region.binds .any e with
    | false =>
      simp only [hbd, cond_false] at h
      obtain ⟨h1, h2⟩ := ancOf_spec ho hms (fun e he => hes e (List.mem_cons_of_mem _ he)) h hb
      refine ⟨h1, fun e' he' hb' => ?_⟩
      cases he' with
      | head => rw [hbd] at hb'; cases hb'
      | tail _ he' => exact h2 e' he' hb'
    | true =>
      simp only [hbd, cond_true] at h
      cases hle : Nat.ble (e.on + 1) i with
      | false => simp [hle] at h
      | true =>
        simp only [hle, cond_true] at h
        cases hg : ms.get e.on with
        | none => simp [hg] at h
        | some a0 =>
          simp only [hg] at h
          have hmem := hes e List.mem_cons_self
          obtain ⟨h1, h2⟩ := ancOf_spec ho hms (fun e he => hes e (List.mem_cons_of_mem _ he)) h (fun b hbb => by
            have hbb' : Nat.testBit ((acc ||| a0) ||| 2 ^ e.on) b = true := hbb
            rw [Nat.testBit_or, Nat.testBit_or, Nat.testBit_two_pow, Bool.or_eq_true, Bool.or_eq_true, decide_eq_true_eq] at hbb'
            rcases hbb' with (h | h) | h
            · exact hb b h
            · exact .step ho hmem hbd (hms _ _ hg b h)
            · subst h; exact .edge ho hmem hbd)
          refine ⟨h1, fun e' he' hb' => ?_⟩
          cases he' with
          | head => exact Nat.le_of_ble_eq_true hle
          | tail _ he' => exact h2 e' he' hb'
end Go.Vz
