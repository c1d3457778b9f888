/-
  A DRAWN REGION, some of whose acts (A) are not bound to its loads: the loads read the same about those acts.
-/
import Derived.Test.YtgagkmbhlpmceaaGreatDoorVzBaseB
set_option linter.unusedVariables false
set_option linter.unusedSimpArgs false
namespace Go.Vz
open Go
section
variable {C : Cfg} {call : CallF}
/-- L: the memories of the region -/
def QRunA (C : Cfg) (call : CallF) (ops : List Oper) (A : Nat) (L : List Mem) : List Oper → Nat → Fr → Mem → (Fr → Mem → Prop) → Prop
  | [], _, fr, m, K => K fr m
  | o :: rest, i, fr, m, K => match stepA C call ops fr m o with
    | some (kd, x, m1) => (bif Nat.testBit A i then m ∈ L ∧ m1 ∈ L else True) ∧ (bif Nat.beq kd 1 then ∀ M ∈ L, loadA C.P (evalA C fr) M o.op = some x else True) ∧ (match fr.put o.dst x with
      | some fr1 => QRunA C call ops A L rest (i + 1) fr1 m1 K
      | none => False)
    | none => False
def pairB (P : Program) (ops : List Oper) (A : Nat) (i : Nat) (oi : Oper) (j : Nat) (oj : Oper) (aj : Nat) : Bool :=
  bif Nat.testBit aj i then true else
    dstOut oi.dst (looksA ops oj) && dstNe oi.dst oj.dst && dstOut oj.dst (looksA ops oi) && !(Nat.beq (kindS P oi.op) 2 && Nat.beq (kindS P oj.op) 2) && (bif Nat.beq (kindS P oi.op) 2 && Nat.beq (kindS P oj.op) 1 then Nat.testBit A i else true) && (bif Nat.beq (kindS P oi.op) 1 && Nat.beq (kindS P oj.op) 2 then Nat.testBit A j else true)
def allB (P : Program) (ops : List Oper) (A : Nat) (i : Nat) (oi : Oper) : List Oper → List Nat → Nat → Bool
  | [], _, _ => true
  | oj :: rest, aj :: as, j => pairB P ops A i oi j oj aj && allB P ops A i oi rest as (j + 1)
  | _ :: _, [], _ => false
def pairsB (P : Program) (ops : List Oper) (A : Nat) : List Oper → List Nat → Nat → Bool
  | [], _, _ => true
  | oi :: rest, _ :: as, i => allB P ops A i oi rest as (i + 1) && pairsB P ops A rest as (i + 1)
  | _ :: _, [], _ => false
def okB (P : Program) (ops : List Oper) (A : Nat) : Bool := match masksA ops 0 .nil with
  | some l => pairsB P ops A ops l 0
  | none => false
structure ItA (C : Cfg) (call : CallF) (ops : List Oper) (A : Nat) (L : List Mem) (it : It) : Prop where
  step : stepA C call ops it.fr it.m it.o = some (it.kd, it.x, it.m')
  m : Nat.testBit A it.i = true → it.m ∈ L ∧ it.m' ∈ L
  same : it.kd = 1 → ∀ M ∈ L, loadA C.P (evalA C it.fr) M it.o.op = some it.x
theorem QRunA.trace {ops : List Oper} {A : Nat} {L : List Mem} : ∀ {rest : List Oper} {as : List Nat} {i : Nat} {ms : Tr Nat} {fr : Fr} {m : Mem} {K : Fr → Mem → Prop}, masksA rest i ms = some as → QRunA C call ops A L rest i fr m K →
    ∃ its fr' m', K fr' m' ∧ traceA C call ops rest i ms fr m = some (its, fr', m') ∧ its.map (·.o) = rest ∧ its.map (·.anc) = as ∧ its.map (·.i) = List.range' i rest.length ∧ ∀ it ∈ its, ItA C call ops A L it
  | [], as, i, ms, fr, m, K, hm, h => by
    simp only [masksA, Option.some.injEq] at hm
    subst hm
    exact ⟨[], fr, m, h, rfl, rfl, rfl, rfl, (fun it hit => nomatch hit)⟩
  | o :: rest, as, i, ms, fr, m, K, hm, h => by
    simp only [masksA] at hm
    cases ha : ancOf ms i o.after.toList 0 with
    | none => simp [ha] at hm
    | some a =>
      simp only [ha] at hm
      cases hr : masksA rest (i + 1) (ms.set i a) with
      | none => simp [hr] at hm
      | some l =>
        simp only [hr, Option.some.injEq] at hm
        subst hm
        unfold QRunA at h
        split at h
        · rename_i kd x m1 hs
          obtain ⟨h1, h2, h⟩ := h
          split at h
          · rename_i fr1 hp
            obtain ⟨its, fr', m', q1, q2, q3, q4, q5, q7⟩ := QRunA.trace hr h
            refine ⟨⟨o, i, a, kd, fr, m, x, m1⟩ :: its, fr', m', q1, ?_, by simp [q3], by simp [q4], by simp [q5, List.range'_succ], fun it hit => ?_⟩
            · simp only [traceA, ha, hs, hp, q2]
            · cases hit with
              | head => exact ⟨hs, fun hb => by simp only at hb; rw [hb] at h1; exact h1, fun hb => by simp only at hb; subst hb; exact h2⟩
              | tail _ hit => exact q7 it hit
          · exact h.elim
        · exact h.elim
theorem pairOk_ofB {ops : List Oper} {A : Nat} {L : List Mem} {i j : It} (hi : ItA C call ops A L i) (hj : ItA C call ops A L j) (h : pairB C.P ops A i.i i.o j.i j.o j.anc = true) : pairOk C ops i j = true := by
  obtain ⟨a1, a2, a3, a4, a5⟩ := stepA_kind hi.step
  obtain ⟨b1, b2, b3, b4, b5⟩ := stepA_kind hj.step
  unfold pairB at h
  unfold pairOk
  cases ht : Nat.testBit j.anc i.i with
  | true => simp
  | false =>
    rw [ht, cond_false, Bool.and_eq_true, Bool.and_eq_true, Bool.and_eq_true] at h
    rw [cond_false]
    rw [Bool.and_eq_true]
    obtain ⟨⟨⟨h1, h2⟩, h3⟩, h4⟩ := h
    refine ⟨h1, ?_⟩
    have same : ∀ {it : It} {M : Mem}, loadA C.P (evalA C it.fr) M it.o.op = some it.x → loadsSame C it M = true := fun h => by
      unfold loadsSame; rw [h]; exact beqA_refl _
    have k2 : ∀ {k kd : Nat}, (k = 0 → kd = 0) → (k = 1 → kd = 0 ∨ kd = 1) → kd = 2 → k ≠ 0 ∧ k ≠ 1 := by
      intro k kd q1 q2 e
      refine ⟨fun e0 => ?_, fun e1 => ?_⟩
      · have := q1 e0; omega
      · have := q2 e1; omega
    have le2 : ∀ o : Op, kindS C.P o ≤ 2 := fun o => by
      unfold kindS
      split <;> try omega
      · split <;> omega
      · split <;> omega
    have k12 : ∀ {k kd : Nat}, (k = 0 → kd = 0) → kd = 1 → k = 1 ∨ k = 2 ∨ 2 < k := by
      intro k kd q1 e
      have : k ≠ 0 := fun e0 => by have := q1 e0; omega
      omega
    rcases a3 with ha | ha | ha <;> rcases b3 with hb | hb | hb <;> rw [ha, hb] <;> try rfl
    · have e2 := k2 b1 b2 hb
      have e4 : kindS C.P j.o.op = 2 := by have := le2 j.o.op; omega
      have e3 : kindS C.P i.o.op = 1 := by
        rcases k12 a1 ha with e | e | e
        · exact e
        · rw [e, e4] at h2; cases h2
        · have := le2 i.o.op; omega
      rw [e3, e4] at h4
      exact same (hi.same ha _ (hj.m h4).2)
    · have e1 := k2 a1 a2 ha
      have e3 : kindS C.P i.o.op = 2 := by have := le2 i.o.op; omega
      have e4 : kindS C.P j.o.op = 1 := by
        rcases k12 b1 hb with e | e | e
        · exact e
        · rw [e3, e] at h2; cases h2
        · have := le2 j.o.op; omega
      rw [e3, e4] at h3
      exact same (hj.same hb _ (hi.m h3).1)
    · have e1 := k2 a1 a2 ha
      have e2 := k2 b1 b2 hb
      have e3 : kindS C.P i.o.op = 2 := by have := le2 i.o.op; omega
      have e4 : kindS C.P j.o.op = 2 := by have := le2 j.o.op; omega
      rw [e3, e4] at h2
      cases h2
theorem allOk_ofB {ops : List Oper} {A : Nat} {L : List Mem} {i : It} (hi : ItA C call ops A L i) : ∀ {l : List It} {k : Nat}, (∀ it ∈ l, ItA C call ops A L it) → l.map (·.i) = List.range' k l.length → allB C.P ops A i.i i.o (l.map (·.o)) (l.map (·.anc)) k = true → allOk C ops i l = true
  | [], _, _, _, _ => rfl
  | j :: l, k, hl, hk, h => by
    simp only [List.map_cons, List.length_cons, List.range'_succ, List.cons.injEq] at hk
    simp only [List.map_cons, allB, Bool.and_eq_true] at h
    simp only [allOk, Bool.and_eq_true]
    exact ⟨pairOk_ofB hi (hl j List.mem_cons_self) (by rw [hk.1]; exact h.1), allOk_ofB hi (fun it hit => hl it (List.mem_cons_of_mem _ hit)) hk.2 h.2⟩
theorem pairsOk_ofB {ops : List Oper} {A : Nat} {L : List Mem} : ∀ {l : List It} {k : Nat}, (∀ it ∈ l, ItA C call ops A L it) → l.map (·.i) = List.range' k l.length → pairsB C.P ops A (l.map (·.o)) (l.map (·.anc)) k = true → pairsOk C ops l = true
  | [], _, _, _, _ => rfl
  | i :: l, k, hl, hk, h => by
    simp only [List.map_cons, List.length_cons, List.range'_succ, List.cons.injEq] at hk
    simp only [List.map_cons, pairsB, Bool.and_eq_true] at h
    simp only [pairsOk, Bool.and_eq_true]
    exact ⟨allOk_ofB (hl i List.mem_cons_self) (fun it hit => hl it (List.mem_cons_of_mem _ hit)) hk.2 (by rw [hk.1]; exact h.1), pairsOk_ofB (fun it hit => hl it (List.mem_cons_of_mem _ hit)) hk.2 h.2⟩
theorem QRunA.draw {ops : List Oper} {A : Nat} {L : List Mem} (hok : okB C.P ops A = true) {fr : Fr} {m : Mem} {K : Fr → Mem → Prop} (h : QRunA C call ops A L ops 0 fr m K) : ∃ fr' m', K fr' m' ∧ drawA C call ops fr m = some (fr', m') := by
  unfold okB at hok
  split at hok
  · rename_i as ha
    obtain ⟨its, fr', m', q1, q2, q3, q4, q5, q7⟩ := h.trace ha
    refine ⟨fr', m', q1, ?_⟩
    have hlen : its.length = ops.length := by have := congrArg List.length q3; simpa using this
    have := pairsOk_ofB (k := 0) q7 (by rw [q5, hlen]) (by rw [q3, q4]; exact hok)
    unfold drawA
    rw [q2]
    simp only [this, cond_true]
  · cases hok
/-- a drawn region, its free acts named -/
theorem EvX.drwA {id : Nat} {ops : Array Oper} {fr fr' : Fr} {m m' : Mem} {Q : Ex → Fr → Mem → Prop} (A : Nat) (L : List Mem) (N : Nat) (hok : okB C.P ops.toList A = true) (h : ∀ k, N ≤ k → QRunA C (Vz.call C (drawA C) k) ops.toList A L ops.toList 0 fr m (fun fr1 m1 => fr1 = fr' ∧ m1 = m')) (q : Q .normal fr' m') : EvX C (drawA C) (.region id ops true) fr m Q :=
  EvX.draw N (fun k hk => let ⟨_, _, ⟨e1, e2⟩, h⟩ := (h k hk).draw hok; by rw [h, e1, e2]) q
end
end Go.Vz
