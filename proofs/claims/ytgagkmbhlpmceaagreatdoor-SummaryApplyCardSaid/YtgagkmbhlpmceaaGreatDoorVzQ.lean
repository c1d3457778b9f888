/-
  A REGION's RUN, step by step; a drawn region's too, if its table of edges allows.
-/
import Derived.Test.YtgagkmbhlpmceaaGreatDoorVzLog
set_option linter.unusedVariables false
set_option linter.unusedSimpArgs false
namespace Go.Vz
open Go
section
variable {C : Cfg} {call : CallF}
/-- E: the operations (bits) that leave the memory as it is -/
def QRun (C : Cfg) (call : CallF) (ops : List Oper) (E : Nat) : List Oper → Nat → Fr → Mem → (Fr → Mem → Prop) → Prop
  | [], _, fr, m, K => K fr m
  | o :: rest, i, fr, m, K => match stepA C call ops fr m o with
    | some (kd, x, m1) => (bif Nat.testBit E i then m1 = m else True) ∧ (match fr.put o.dst x with
      | some fr1 => QRun C call ops E rest (i + 1) fr1 m1 K
      | none => False)
    | none => False
theorem stepA_run {ops : List Oper} {fr : Fr} {m m1 : Mem} {o : Oper} {kd : Nat} {x : AV} (h : stepA C call ops fr m o = some (kd, x, m1)) :
    (wantedA ops fr o = some false ∧ x = .tup [] ∧ m1 = m) ∨ (wantedA ops fr o = some true ∧ opA C call fr m o = some (x, m1)) := by
  unfold stepA at h
  split at h
  · rename_i hw
    simp only [Option.some.injEq, Prod.mk.injEq] at h
    exact .inl ⟨hw, h.2.1.symm, h.2.2.symm⟩
  · rename_i hw
    refine .inr ⟨hw, ?_⟩
    split at h
    · rename_i y hp
      simp only [Option.some.injEq, Prod.mk.injEq] at h
      unfold opA; rw [hp, ← h.2.1, ← h.2.2]
    · rename_i hp
      split at h
      · rename_i y hl
        simp only [Option.some.injEq, Prod.mk.injEq] at h
        unfold opA; rw [hp, hl, ← h.2.1, ← h.2.2]
      · split at h
        · rename_i y m2 ho
          simp only [Option.some.injEq, Prod.mk.injEq] at h
          rw [ho, ← h.2.1, ← h.2.2]
        · cases h
  · cases h
theorem QRun.runOps {ops : List Oper} {E : Nat} : ∀ {rest : List Oper} {i : Nat} {fr : Fr} {m : Mem} {K : Fr → Mem → Prop}, QRun C call ops E rest i fr m K → ∃ fr' m', K fr' m' ∧ Vz.runOps C call ops rest fr m = some (fr', m')
  | [], i, fr, m, K, h => ⟨fr, m, h, rfl⟩
  | o :: rest, i, fr, m, K, h => by
    unfold QRun at h
    split at h
    · rename_i kd x m1 hs
      obtain ⟨_, h⟩ := h
      split at h
      · rename_i fr1 hp
        obtain ⟨fr', m', hk, hr⟩ := QRun.runOps h
        refine ⟨fr', m', hk, ?_⟩
        unfold Vz.runOps
        rcases stepA_run hs with ⟨hw, rfl, rfl⟩ | ⟨hw, ho⟩
        · rw [hw]; simp only [hp]; exact hr
        · rw [hw]; simp only [ho, hp]; exact hr
      · exact h.elim
    · exact h.elim
variable {D : CallF → DrawF} {fr fr' : Fr} {m m' : Mem} {Q : Ex → Fr → Mem → Prop}
/-- a region in the text's order -/
theorem EvX.reg {id : Nat} {ops : Array Oper} (N : Nat) (h : ∀ k, N ≤ k → QRun C (Vz.call C D k) ops.toList 0 ops.toList 0 fr m (fun fr1 m1 => fr1 = fr' ∧ m1 = m')) (q : Q .normal fr' m') : EvX C D (.region id ops false) fr m Q :=
  EvX.regionC N (fun k hk => let ⟨_, _, ⟨e1, e2⟩, h⟩ := (h k hk).runOps; by rw [h, e1, e2]) q
theorem EvX.reg0 {id : Nat} {ops : Array Oper} (h : ∀ call, QRun C call ops.toList 0 ops.toList 0 fr m (fun fr1 m1 => fr1 = fr' ∧ m1 = m')) (q : Q .normal fr' m') : EvX C D (.region id ops false) fr m Q :=
  EvX.reg 0 (fun k _ => h _) q

/-! ### A drawn region -/
/-- what kind an operation may be, by its looks -/
def kindS (P : Program) : Op → Nat
  | .move _ | .assign _ | .pick .. | .nilCheck _ | .binOp .. | .unOp .. | .makeInterface .. | .makeFunc .. | .extract .. | .field .. | .index .. | .fieldAddr .. | .indexAddr .. | .build .. | .typeAssert .. => 0
  | .load .. | .lookup .. | .slice .. => 1
  | .convert _ d _ => match P.underlying d with
    | some (.int _) => 0
    | _ => 2
  | .call c => match c.callee with
    | .builtin .len => 1
    | .builtin .min | .builtin .max | .builtin .unsafeSliceData => 0
    | _ => 2
  | _ => 2
def masksA : List Oper → Nat → Tr Nat → Option (List Nat)
  | [], _, _ => some []
  | o :: rest, i, ms => match ancOf ms i o.after.toList 0 with
    | some a => match masksA rest (i + 1) (ms.set i a) with
      | some l => some (a :: l)
      | none => none
    | none => none
def pairS (P : Program) (ops : List Oper) (E : Nat) (q : Bool) (i : Nat) (oi : Oper) (j : Nat) (oj : Oper) (aj : Nat) : Bool :=
  bif Nat.testBit aj i then true else
    dstOut oi.dst (looksA ops oj) && dstNe oi.dst oj.dst && dstOut oj.dst (looksA ops oi) &&
    (match kindS P oi.op, kindS P oj.op with
    | 0, _ | _, 0 | 1, 1 => true
    | 2, 1 => Nat.testBit E i && q
    | 1, 2 => Nat.testBit E j && q
    | _, _ => false)
/-- q: what stands between i and j leaves the memory as it is -/
def allS (P : Program) (ops : List Oper) (E : Nat) (q : Bool) (i : Nat) (oi : Oper) : List Oper → List Nat → Nat → Bool
  | [], _, _ => true
  | oj :: rest, aj :: as, j => pairS P ops E q i oi j oj aj && allS P ops E (q && (Nat.testBit E j || Nat.ble (kindS P oj.op) 1)) i oi rest as (j + 1)
  | _ :: _, [], _ => false
def pairsS (P : Program) (ops : List Oper) (E : Nat) : List Oper → List Nat → Nat → Bool
  | [], _, _ => true
  | oi :: rest, _ :: as, i => allS P ops E true i oi rest as (i + 1) && pairsS P ops E rest as (i + 1)
  | _ :: _, [], _ => false
/-- does the table of edges allow it? -/
def okQ (P : Program) (ops : List Oper) (E : Nat) : Bool := match masksA ops 0 .nil with
  | some l => pairsS P ops E ops l 0
  | none => false
theorem kindS_pure {P : Program} {r : Operand → Option AV} {m : Mem} {o : Op} (h : kindS P o = 0) : loadA P r m o = none ∧ effA P r m o = none := by
  cases o <;> simp only [kindS] at h <;> (try cases h) <;> (try exact ⟨rfl, rfl⟩)
  case convert s d x =>
    split at h
    · rename_i k hd
      refine ⟨?_, ?_⟩
      · simp only [loadA, hd]
        split <;> first | rfl | (rename_i h1 _; cases h1) | (rename_i h1; cases h1)
      · simp only [effA, hd]
        split <;> first | rfl | (rename_i h1 _; cases h1) | (rename_i h1; cases h1)
    · cases h
  case call c =>
    split at h
    all_goals first | (exact absurd h (by decide)) | (rename_i hc; refine ⟨by simp only [loadA, hc], by simp only [effA, hc]⟩)
theorem kindS_load {P : Program} {r : Operand → Option AV} {m : Mem} {o : Op} (h : kindS P o = 1) : effA P r m o = none := by
  cases o <;> simp only [kindS] at h <;> (try cases h) <;> (try rfl)
  case convert s d x => split at h <;> cases h
  case call c =>
    split at h
    all_goals first | (exact absurd h (by decide)) | (rename_i hc; simp only [effA, hc])
theorem stepA_kind {ops : List Oper} {fr : Fr} {m m1 : Mem} {o : Oper} {kd : Nat} {x : AV} (h : stepA C call ops fr m o = some (kd, x, m1)) :
    (kindS C.P o.op = 0 → kd = 0) ∧ (kindS C.P o.op = 1 → kd = 0 ∨ kd = 1) ∧ (kd = 0 ∨ kd = 1 ∨ kd = 2) ∧ (kd ≠ 2 → m1 = m) ∧ (kd = 1 → loadA C.P (evalA C fr) m o.op = some x) := by
  have key : ∀ k, k ≠ 2 → effA C.P (evalA C fr) m o.op = none → pureA C.P (evalA C fr) o.op = none → loadA C.P (evalA C fr) m o.op = none → opA C call fr m o = none := fun _ _ h1 h2 h3 => by
    unfold opA; rw [h2, h3, h1]
  unfold stepA at h
  split at h
  · simp only [Option.some.injEq, Prod.mk.injEq] at h
    obtain ⟨rfl, rfl, rfl⟩ := h
    exact ⟨fun _ => rfl, fun _ => .inl rfl, .inl rfl, fun _ => rfl, fun h => by cases h⟩
  · split at h
    · simp only [Option.some.injEq, Prod.mk.injEq] at h
      obtain ⟨rfl, rfl, rfl⟩ := h
      exact ⟨fun _ => rfl, fun _ => .inl rfl, .inl rfl, fun _ => rfl, fun h => by cases h⟩
    · rename_i hp
      split at h
      · rename_i y hl
        simp only [Option.some.injEq, Prod.mk.injEq] at h
        obtain ⟨rfl, rfl, rfl⟩ := h
        refine ⟨fun h0 => ?_, fun _ => .inr rfl, .inr (.inl rfl), fun _ => rfl, fun _ => hl⟩
        rw [(kindS_pure h0).1] at hl; cases hl
      · rename_i hl
        split at h
        · rename_i y m2 ho
          simp only [Option.some.injEq, Prod.mk.injEq] at h
          obtain ⟨rfl, rfl, rfl⟩ := h
          refine ⟨fun h0 => ?_, fun h0 => ?_, .inr (.inr rfl), fun h => absurd rfl h, fun h => by cases h⟩
          · rw [key 0 (by decide) (kindS_pure h0).2 hp hl] at ho; cases ho
          · rw [key 0 (by decide) (kindS_load h0) hp hl] at ho; cases ho
        · cases h
  · cases h
/-- the memories of a trace hang together -/
def ChainM : List It → Mem → Prop
  | [], _ => True
  | it :: l, m => it.m = m ∧ ChainM l it.m'
structure ItQ (C : Cfg) (call : CallF) (ops : List Oper) (E : Nat) (it : It) : Prop where
  step : stepA C call ops it.fr it.m it.o = some (it.kd, it.x, it.m')
  quiet : Nat.testBit E it.i = true → it.m' = it.m
theorem QRun.trace {ops : List Oper} {E : Nat} : ∀ {rest : List Oper} {as : List Nat} {i : Nat} {ms : Tr Nat} {fr : Fr} {m : Mem} {K : Fr → Mem → Prop}, masksA rest i ms = some as → QRun C call ops E rest i fr m K →
    ∃ its fr' m', K fr' m' ∧ traceA C call ops rest i ms fr m = some (its, fr', m') ∧ its.map (·.o) = rest ∧ its.map (·.anc) = as ∧ its.map (·.i) = List.range' i rest.length ∧ ChainM its m ∧ ∀ it ∈ its, ItQ C call ops E it
  | [], as, i, ms, fr, m, K, hm, h => by
    simp only [masksA, Option.some.injEq] at hm
    subst hm
    exact ⟨[], fr, m, h, rfl, rfl, rfl, rfl, trivial, (fun it hit => nomatch hit)⟩
  | o :: rest, as, i, ms, fr, m, K, hm, h => by
    simp only [masksA] at hm
    cases ha : ancOf ms i o.after.toList 0 with
    | none => simp [ha] at hm
    | some a =>
      simp only [ha] at hm
      cases hr : masksA rest (i + 1) (ms.set i a) with
      | none => simp [hr] at hm
      | some l =>
        simp only [hr, Option.some.injEq] at hm
        subst hm
        unfold QRun at h
        split at h
        · rename_i kd x m1 hs
          obtain ⟨hq, h⟩ := h
          split at h
          · rename_i fr1 hp
            obtain ⟨its, fr', m', q1, q2, q3, q4, q5, q6, q7⟩ := QRun.trace hr h
            refine ⟨⟨o, i, a, kd, fr, m, x, m1⟩ :: its, fr', m', q1, ?_, by simp [q3], by simp [q4], by simp [q5, List.range'_succ], ⟨rfl, q6⟩, fun it hit => ?_⟩
            · simp only [traceA, ha, hs, hp, q2]
            · cases hit with
              | head => exact ⟨hs, fun hb => by simp only at hb; rw [hb] at hq; exact hq⟩
              | tail _ hit => exact q7 it hit
          · exact h.elim
        · exact h.elim
theorem pairOk_of {ops : List Oper} {E : Nat} {q : Bool} {i j : It} (hi : ItQ C call ops E i) (hj : ItQ C call ops E j) (hq : q = true → j.m = i.m') (h : pairS C.P ops E q i.i i.o j.i j.o j.anc = true) : pairOk C ops i j = true := by
  obtain ⟨a1, a2, a3, a4, a5⟩ := stepA_kind hi.step
  obtain ⟨b1, b2, b3, b4, b5⟩ := stepA_kind hj.step
  unfold pairS at h
  unfold pairOk
  cases ht : Nat.testBit j.anc i.i with
  | true => simp
  | false =>
    rw [ht, cond_false] at h
    rw [cond_false]
    rw [Bool.and_eq_true] at h ⊢
    refine ⟨h.1, ?_⟩
    have h2 := h.2
    have same : ∀ {it : It} {M : Mem}, loadA C.P (evalA C it.fr) M it.o.op = some it.x → loadsSame C it M = true := fun h => by
      unfold loadsSame; rw [h]; exact beqA_refl _
    rcases a3 with ha | ha | ha <;> rcases b3 with hb | hb | hb <;> rw [ha, hb] <;> try rfl
    · -- i reads, j acts
      have hki : kindS C.P i.o.op ≠ 0 := fun e => by rw [a1 e] at ha; cases ha
      have hkj : kindS C.P j.o.op ≠ 0 := fun e => by rw [b1 e] at hb; cases hb
      have hkj1 : kindS C.P j.o.op ≠ 1 := fun e => by rcases b2 e with e | e <;> rw [e] at hb <;> cases hb
      split at h2
      · exact absurd ‹_› hki
      · exact absurd ‹_› hkj
      · exact absurd ‹_› hkj1
      · rename_i e1; exact absurd e1 hkj1
      · rw [Bool.and_eq_true] at h2
        show loadsSame C i j.m' = true
        have e1 := hj.quiet h2.1
        have e2 := hq h2.2
        have e3 := a4 (by rw [ha]; decide)
        rw [e1, e2, e3]
        exact same (a5 ha)
      · cases h2
    · -- i acts, j reads
      have hki : kindS C.P i.o.op ≠ 0 := fun e => by rw [a1 e] at ha; cases ha
      have hki1 : kindS C.P i.o.op ≠ 1 := fun e => by rcases a2 e with e | e <;> rw [e] at ha <;> cases ha
      have hkj : kindS C.P j.o.op ≠ 0 := fun e => by rw [b1 e] at hb; cases hb
      split at h2
      · exact absurd ‹_› hki
      · exact absurd ‹_› hkj
      · exact absurd ‹_› hki1
      · rw [Bool.and_eq_true] at h2
        show loadsSame C j i.m = true
        have e1 := hi.quiet h2.1
        have e2 := hq h2.2
        rw [← e1, ← e2]
        exact same (b5 hb)
      · rename_i e1 _; exact absurd e1 hki1
      · cases h2
    · -- both act
      have hki : kindS C.P i.o.op ≠ 0 := fun e => by rw [a1 e] at ha; cases ha
      have hki1 : kindS C.P i.o.op ≠ 1 := fun e => by rcases a2 e with e | e <;> rw [e] at ha <;> cases ha
      have hkj : kindS C.P j.o.op ≠ 0 := fun e => by rw [b1 e] at hb; cases hb
      have hkj1 : kindS C.P j.o.op ≠ 1 := fun e => by rcases b2 e with e | e <;> rw [e] at hb <;> cases hb
      split at h2
      · exact absurd ‹_› hki
      · exact absurd ‹_› hkj
      · exact absurd ‹_› hki1
      · rename_i e1; exact absurd e1 hkj1
      · rename_i e1 _; exact absurd e1 hki1
      · cases h2
theorem allOk_of {ops : List Oper} {E : Nat} {i : It} (hi : ItQ C call ops E i) : ∀ {l : List It} {q : Bool} {k : Nat} {mc : Mem}, (∀ it ∈ l, ItQ C call ops E it) → ChainM l mc → l.map (·.i) = List.range' k l.length → (q = true → mc = i.m') →
    allS C.P ops E q i.i i.o (l.map (·.o)) (l.map (·.anc)) k = true → allOk C ops i l = true
  | [], _, _, _, _, _, _, _, _ => rfl
  | j :: l, q, k, mc, hl, hc, hk, hq, h => by
    obtain ⟨hm, hc⟩ := hc
    simp only [List.map_cons, List.length_cons, List.range'_succ, List.cons.injEq] at hk
    simp only [List.map_cons, allS, Bool.and_eq_true] at h
    have hj := hl j List.mem_cons_self
    simp only [allOk, Bool.and_eq_true]
    refine ⟨pairOk_of hi hj (fun e => by rw [hm]; exact hq e) (by rw [hk.1]; exact h.1), allOk_of hi (fun it hit => hl it (List.mem_cons_of_mem _ hit)) hc hk.2 (fun e => ?_) h.2⟩
    rw [Bool.and_eq_true, Bool.or_eq_true] at e
    rw [← hq e.1, ← hm]
    rcases e.2 with e2 | e2
    · exact hj.quiet (by rw [hk.1]; exact e2)
    · obtain ⟨b1, b2, b3, b4, b5⟩ := stepA_kind hj.step
      refine b4 (fun e3 => ?_)
      have hle := Nat.le_of_ble_eq_true e2
      have hk0 : kindS C.P j.o.op ≠ 0 := fun e => by rw [b1 e] at e3; cases e3
      have hk1 : kindS C.P j.o.op ≠ 1 := fun e => by rcases b2 e with e | e <;> rw [e] at e3 <;> cases e3
      omega
theorem pairsOk_of {ops : List Oper} {E : Nat} : ∀ {l : List It} {k : Nat} {mc : Mem}, (∀ it ∈ l, ItQ C call ops E it) → ChainM l mc → l.map (·.i) = List.range' k l.length →
    pairsS C.P ops E (l.map (·.o)) (l.map (·.anc)) k = true → pairsOk C ops l = true
  | [], _, _, _, _, _, _ => rfl
  | i :: l, k, mc, hl, hc, hk, h => by
    obtain ⟨hm, hc⟩ := hc
    simp only [List.map_cons, List.length_cons, List.range'_succ, List.cons.injEq] at hk
    simp only [List.map_cons, pairsS, Bool.and_eq_true] at h
    simp only [pairsOk, Bool.and_eq_true]
    exact ⟨allOk_of (hl i List.mem_cons_self) (fun it hit => hl it (List.mem_cons_of_mem _ hit)) hc hk.2 (fun _ => rfl) (by rw [hk.1]; exact h.1), pairsOk_of (fun it hit => hl it (List.mem_cons_of_mem _ hit)) hc hk.2 h.2⟩
theorem QRun.draw {ops : List Oper} {E : Nat} (hok : okQ C.P ops E = true) {fr : Fr} {m : Mem} {K : Fr → Mem → Prop} (h : QRun C call ops E ops 0 fr m K) : ∃ fr' m', K fr' m' ∧ drawA C call ops fr m = some (fr', m') := by
  unfold okQ at hok
  split at hok
  · rename_i as hm
    obtain ⟨its, fr', m', q1, q2, q3, q4, q5, q6, q7⟩ := h.trace hm
    refine ⟨fr', m', q1, ?_⟩
    have hlen : its.length = ops.length := by have := congrArg List.length q3; simpa using this
    have := pairsOk_of (k := 0) q7 q6 (by rw [q5, hlen]) (by rw [q3, q4]; exact hok)
    unfold drawA
    rw [q2]
    simp only [this, cond_true]
  · cases hok
/-- a drawn region -/
theorem EvX.drw {id : Nat} {ops : Array Oper} (E N : Nat) (hok : okQ C.P ops.toList E = true) (h : ∀ k, N ≤ k → QRun C (Vz.call C (drawA C) k) ops.toList E ops.toList 0 fr m (fun fr1 m1 => fr1 = fr' ∧ m1 = m')) (q : Q .normal fr' m') : EvX C (drawA C) (.region id ops true) fr m Q :=
  EvX.draw N (fun k hk => let ⟨_, _, ⟨e1, e2⟩, h⟩ := (h k hk).draw hok; by rw [h, e1, e2]) q
end
end Go.Vz
