/-
  A DRAWN REGION whose calls make memory: its loads read the same in every memory of the region.
-/
import Derived.Test.YtgagkmbhlpmceaaGreatDoorVzBaseB
set_option linter.unusedVariables false
set_option linter.unusedSimpArgs false
namespace Go.Vz
open Go
section
variable {C : Cfg} {call : CallF}
/-- L: the memories of the region -/
def QRunS (C : Cfg) (call : CallF) (ops : List Oper) (L : List Mem) : List Oper → Fr → Mem → (Fr → Mem → Prop) → Prop
  | [], fr, m, K => K fr m
  | o :: rest, fr, m, K => match stepA C call ops fr m o with
    | some (kd, x, m1) => m1 ∈ L ∧ (bif Nat.beq kd 1 then ∀ M ∈ L, loadA C.P (evalA C fr) M o.op = some x else True) ∧ (match fr.put o.dst x with
      | some fr1 => QRunS C call ops L rest fr1 m1 K
      | none => False)
    | none => False
def pairT (P : Program) (ops : List Oper) (i : Nat) (oi : Oper) (oj : Oper) (aj : Nat) : Bool :=
  bif Nat.testBit aj i then true else
    dstOut oi.dst (looksA ops oj) && dstNe oi.dst oj.dst && dstOut oj.dst (looksA ops oi) && !(Nat.beq (kindS P oi.op) 2 && Nat.beq (kindS P oj.op) 2)
def allT (P : Program) (ops : List Oper) (i : Nat) (oi : Oper) : List Oper → List Nat → Bool
  | [], _ => true
  | oj :: rest, aj :: as => pairT P ops i oi oj aj && allT P ops i oi rest as
  | _ :: _, [] => false
def pairsT (P : Program) (ops : List Oper) : List Oper → List Nat → Nat → Bool
  | [], _, _ => true
  | oi :: rest, _ :: as, i => allT P ops i oi rest as && pairsT P ops rest as (i + 1)
  | _ :: _, [], _ => false
def okT (P : Program) (ops : List Oper) : Bool := match masksA ops 0 .nil with
  | some l => pairsT P ops ops l 0
  | none => false
structure ItS (C : Cfg) (call : CallF) (ops : List Oper) (L : List Mem) (it : It) : Prop where
  step : stepA C call ops it.fr it.m it.o = some (it.kd, it.x, it.m')
  m : it.m ∈ L
  m' : it.m' ∈ L
  same : it.kd = 1 → ∀ M ∈ L, loadA C.P (evalA C it.fr) M it.o.op = some it.x
theorem QRunS.trace {ops : List Oper} {L : List Mem} : ∀ {rest : List Oper} {as : List Nat} {i : Nat} {ms : Tr Nat} {fr : Fr} {m : Mem} {K : Fr → Mem → Prop}, m ∈ L → masksA rest i ms = some as → QRunS C call ops L rest fr m K →
    ∃ its fr' m', K fr' m' ∧ traceA C call ops rest i ms fr m = some (its, fr', m') ∧ its.map (·.o) = rest ∧ its.map (·.anc) = as ∧ its.map (·.i) = List.range' i rest.length ∧ ∀ it ∈ its, ItS C call ops L it
  | [], as, i, ms, fr, m, K, hL, hm, h => by
    simp only [masksA, Option.some.injEq] at hm
    subst hm
    exact ⟨[], fr, m, h, rfl, rfl, rfl, rfl, (fun it hit => nomatch hit)⟩
  | o :: rest, as, i, ms, fr, m, K, hL, hm, h => by
    simp only [masksA] at hm
    cases ha : ancOf ms i o.after.toList 0 with
    | none => simp [ha] at hm
    | some a =>
      simp only [ha] at hm
      cases hr : masksA rest (i + 1) (ms.set i a) with
      | none => simp [hr] at hm
      | some l =>
        simp only [hr, Option.some.injEq] at hm
        subst hm
        unfold QRunS at h
        split at h
        · rename_i kd x m1 hs
          obtain ⟨h1, h2, h⟩ := h
          split at h
          · rename_i fr1 hp
            obtain ⟨its, fr', m', q1, q2, q3, q4, q5, q7⟩ := QRunS.trace h1 hr h
            refine ⟨⟨o, i, a, kd, fr, m, x, m1⟩ :: its, fr', m', q1, ?_, by simp [q3], by simp [q4], by simp [q5, List.range'_succ], fun it hit => ?_⟩
            · simp only [traceA, ha, hs, hp, q2]
            · cases hit with
              | head => exact ⟨hs, hL, h1, fun hb => by simp only at hb; subst hb; exact h2⟩
              | tail _ hit => exact q7 it hit
          · exact h.elim
        · exact h.elim
theorem pairOk_ofT {ops : List Oper} {L : List Mem} {i j : It} (hi : ItS C call ops L i) (hj : ItS C call ops L j) (h : pairT C.P ops i.i i.o j.o j.anc = true) : pairOk C ops i j = true := by
  obtain ⟨a1, a2, a3, a4, a5⟩ := stepA_kind hi.step
  obtain ⟨b1, b2, b3, b4, b5⟩ := stepA_kind hj.step
  unfold pairT at h
  unfold pairOk
  cases ht : Nat.testBit j.anc i.i with
  | true => simp
  | false =>
    rw [ht, cond_false] at h
    rw [cond_false]
    rw [Bool.and_eq_true] at h ⊢
    refine ⟨h.1, ?_⟩
    have h2 := h.2
    have same : ∀ {it : It} {M : Mem}, loadA C.P (evalA C it.fr) M it.o.op = some it.x → loadsSame C it M = true := fun h => by
      unfold loadsSame; rw [h]; exact beqA_refl _
    have k2 : ∀ {k kd : Nat}, (k = 0 → kd = 0) → (k = 1 → kd = 0 ∨ kd = 1) → kd = 2 → k ≠ 0 ∧ k ≠ 1 := by
      intro k kd q1 q2 e
      refine ⟨fun e0 => ?_, fun e1 => ?_⟩
      · have := q1 e0; omega
      · have := q2 e1; omega
    have le2 : ∀ o : Op, kindS C.P o ≤ 2 := fun o => by
      unfold kindS
      split <;> try omega
      · split <;> omega
      · split <;> omega
    rcases a3 with ha | ha | ha <;> rcases b3 with hb | hb | hb <;> rw [ha, hb] <;> try rfl
    · exact same (hi.same ha _ hj.m')
    · exact same (hj.same hb _ hi.m)
    · have e1 := k2 a1 a2 ha
      have e2 := k2 b1 b2 hb
      have e3 : kindS C.P i.o.op = 2 := by have := le2 i.o.op; omega
      have e4 : kindS C.P j.o.op = 2 := by have := le2 j.o.op; omega
      rw [e3, e4] at h2
      cases h2
theorem allOk_ofT {ops : List Oper} {L : List Mem} {i : It} (hi : ItS C call ops L i) : ∀ {l : List It}, (∀ it ∈ l, ItS C call ops L it) → allT C.P ops i.i i.o (l.map (·.o)) (l.map (·.anc)) = true → allOk C ops i l = true
  | [], _, _ => rfl
  | j :: l, hl, h => by
    simp only [List.map_cons, allT, Bool.and_eq_true] at h
    simp only [allOk, Bool.and_eq_true]
    exact ⟨pairOk_ofT hi (hl j List.mem_cons_self) h.1, allOk_ofT hi (fun it hit => hl it (List.mem_cons_of_mem _ hit)) h.2⟩
theorem pairsOk_ofT {ops : List Oper} {L : List Mem} : ∀ {l : List It} {k : Nat}, (∀ it ∈ l, ItS C call ops L it) → l.map (·.i) = List.range' k l.length → pairsT C.P ops (l.map (·.o)) (l.map (·.anc)) k = true → pairsOk C ops l = true
  | [], _, _, _, _ => rfl
  | i :: l, k, hl, hk, h => by
    simp only [List.map_cons, List.length_cons, List.range'_succ, List.cons.injEq] at hk
    simp only [List.map_cons, pairsT, Bool.and_eq_true] at h
    simp only [pairsOk, Bool.and_eq_true]
    exact ⟨allOk_ofT (hl i List.mem_cons_self) (fun it hit => hl it (List.mem_cons_of_mem _ hit)) (by rw [hk.1]; exact h.1), pairsOk_ofT (fun it hit => hl it (List.mem_cons_of_mem _ hit)) hk.2 h.2⟩
theorem QRunS.draw {ops : List Oper} {L : List Mem} (hok : okT C.P ops = true) {fr : Fr} {m : Mem} (hm : m ∈ L) {K : Fr → Mem → Prop} (h : QRunS C call ops L ops fr m K) : ∃ fr' m', K fr' m' ∧ drawA C call ops fr m = some (fr', m') := by
  unfold okT at hok
  split at hok
  · rename_i as ha
    obtain ⟨its, fr', m', q1, q2, q3, q4, q5, q7⟩ := h.trace hm ha
    refine ⟨fr', m', q1, ?_⟩
    have hlen : its.length = ops.length := by have := congrArg List.length q3; simpa using this
    have := pairsOk_ofT (k := 0) q7 (by rw [q5, hlen]) (by rw [q3, q4]; exact hok)
    unfold drawA
    rw [q2]
    simp only [this, cond_true]
  · cases hok
/-- a drawn region, its memories named -/
theorem EvX.drwS {id : Nat} {ops : Array Oper} {fr fr' : Fr} {m m' : Mem} {Q : Ex → Fr → Mem → Prop} (L : List Mem) (N : Nat) (hok : okT C.P ops.toList = true) (hm : m ∈ L) (h : ∀ k, N ≤ k → QRunS C (Vz.call C (drawA C) k) ops.toList L ops.toList fr m (fun fr1 m1 => fr1 = fr' ∧ m1 = m')) (q : Q .normal fr' m') : EvX C (drawA C) (.region id ops true) fr m Q :=
  EvX.draw N (fun k hk => let ⟨_, _, ⟨e1, e2⟩, h⟩ := (h k hk).draw hok hm; by rw [h, e1, e2]) q
end
end Go.Vz
