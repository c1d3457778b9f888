/-
  A LOGIC OF V's RUNS: with enough fuel.
-/
import Derived.Test.YtgagkmbhlpmceaaGreatDoorVzDraw3
set_option linter.unusedVariables false
set_option linter.unusedSimpArgs false
namespace Go.Vz
open Go
section
variable {C : Cfg} {D : CallF → DrawF}
def EvC (C : Cfg) (D : CallF → DrawF) (f : FuncId) (args : List AV) (m : Mem) (x : AV) (m' : Mem) : Prop := ∃ N, ∀ k, N ≤ k → Vz.call C D k f args m = some (x, m')
def EvX (C : Cfg) (D : CallF → DrawF) (c : Code) (fr : Fr) (m : Mem) (Q : Ex → Fr → Mem → Prop) : Prop := ∃ e fr' m', Q e fr' m' ∧ ∃ N, ∀ k, N ≤ k → exec C D k c fr m = some (e, fr', m')
variable {fr fr' : Fr} {m m' : Mem} {Q : Ex → Fr → Mem → Prop}
theorem EvX.mono {c : Code} {Q' : Ex → Fr → Mem → Prop} (h : EvX C D c fr m Q) (hq : ∀ e fr m, Q e fr m → Q' e fr m) : EvX C D c fr m Q' :=
  let ⟨e, fr', m', q, r⟩ := h; ⟨e, fr', m', hq _ _ _ q, r⟩
theorem EvX.skip (h : Q .normal fr m) : EvX C D .skip fr m Q := ⟨_, _, _, h, 1, fun k hk => by obtain ⟨j, rfl⟩ : ∃ j, k = j + 1 := ⟨k - 1, by omega⟩; rfl⟩
theorem EvX.exit {i : Nat} (h : Q (.exit i) fr m) : EvX C D (.exit i) fr m Q := ⟨_, _, _, h, 1, fun k hk => by obtain ⟨j, rfl⟩ : ∃ j, k = j + 1 := ⟨k - 1, by omega⟩; rfl⟩
theorem EvX.ret (h : Q .ret fr m) : EvX C D .ret fr m Q := ⟨_, _, _, h, 1, fun k hk => by obtain ⟨j, rfl⟩ : ∃ j, k = j + 1 := ⟨k - 1, by omega⟩; rfl⟩
/-- go on with K, if it ends normally -/
def Ex.thn (K : Fr → Mem → Prop) (Q : Ex → Fr → Mem → Prop) : Ex → Fr → Mem → Prop
  | .normal, fr, m => K fr m
  | e, fr, m => Q e fr m
theorem EvX.seq {a b : Code} (h : EvX C D a fr m (Ex.thn (fun fr' m' => EvX C D b fr' m' Q) Q)) : EvX C D (.seq a b) fr m Q := by
  obtain ⟨e, fr1, m1, q, N, hN⟩ := h
  cases e with
  | normal =>
    obtain ⟨e2, fr2, m2, q2, N2, hN2⟩ := q
    refine ⟨e2, fr2, m2, q2, max N N2 + 1, fun k hk => ?_⟩
    obtain ⟨j, rfl⟩ : ∃ j, k = j + 1 := ⟨k - 1, by omega⟩
    rw [exec_seq, hN j (by omega)]
    exact hN2 j (by omega)
  | exit i =>
    refine ⟨_, _, _, q, N + 1, fun k hk => ?_⟩
    obtain ⟨j, rfl⟩ : ∃ j, k = j + 1 := ⟨k - 1, by omega⟩
    rw [exec_seq, hN j (by omega)]
  | ret =>
    refine ⟨_, _, _, q, N + 1, fun k hk => ?_⟩
    obtain ⟨j, rfl⟩ : ∃ j, k = j + 1 := ⟨k - 1, by omega⟩
    rw [exec_seq, hN j (by omega)]
theorem EvX.cond {x : Operand} {a b : Code} {t : Bool} (hx : evalA C fr x = some (.bool t)) (h : EvX C D (bif t then a else b) fr m Q) : EvX C D (.cond x a b) fr m Q := by
  obtain ⟨e, fr1, m1, q, N, hN⟩ := h
  refine ⟨_, _, _, q, N + 1, fun k hk => ?_⟩
  obtain ⟨j, rfl⟩ : ∃ j, k = j + 1 := ⟨k - 1, by omega⟩
  rw [exec_cond, hx]
  cases t <;> exact hN j (by omega)
def Ex.blk (id : Nat) (Q : Ex → Fr → Mem → Prop) : Ex → Fr → Mem → Prop
  | .exit i, fr, m => bif Nat.beq i id then Q .normal fr m else Q (.exit i) fr m
  | e, fr, m => Q e fr m
theorem EvX.block {id : Nat} {a : Code} (h : EvX C D a fr m (Ex.blk id Q)) : EvX C D (.block id a) fr m Q := by
  obtain ⟨e, fr1, m1, q, N, hN⟩ := h
  cases e with
  | normal =>
    refine ⟨_, _, _, q, N + 1, fun k hk => ?_⟩
    obtain ⟨j, rfl⟩ : ∃ j, k = j + 1 := ⟨k - 1, by omega⟩
    rw [exec_block, hN j (by omega)]
  | exit i =>
    simp only [Ex.blk] at q
    cases hb : Nat.beq i id with
    | true =>
      rw [hb, cond_true] at q
      refine ⟨_, _, _, q, N + 1, fun k hk => ?_⟩
      obtain ⟨j, rfl⟩ : ∃ j, k = j + 1 := ⟨k - 1, by omega⟩
      rw [exec_block, hN j (by omega)]
      simp only [hb, cond_true]
    | false =>
      rw [hb, cond_false] at q
      refine ⟨_, _, _, q, N + 1, fun k hk => ?_⟩
      obtain ⟨j, rfl⟩ : ∃ j, k = j + 1 := ⟨k - 1, by omega⟩
      rw [exec_block, hN j (by omega)]
      simp only [hb, cond_false]
  | ret =>
    refine ⟨_, _, _, q, N + 1, fun k hk => ?_⟩
    obtain ⟨j, rfl⟩ : ∃ j, k = j + 1 := ⟨k - 1, by omega⟩
    rw [exec_block, hN j (by omega)]
theorem EvX.loop {a : Code} (I : Nat → Fr → Mem → Prop) (step : ∀ n fr m, I n fr m → EvX C D a fr m (Ex.thn (fun fr' m' => ∃ n', n' < n ∧ I n' fr' m') Q)) : ∀ (n : Nat) (fr : Fr) (m : Mem), I n fr m → EvX C D (.loop a) fr m Q := by
  intro n
  induction n using Nat.strongRecOn with
  | _ n ih =>
    intro fr m hI
    obtain ⟨e, fr1, m1, q, N, hN⟩ := step n fr m hI
    cases e with
    | normal =>
      obtain ⟨n', hlt, hI'⟩ := q
      obtain ⟨e2, fr2, m2, q2, N2, hN2⟩ := ih n' hlt fr1 m1 hI'
      refine ⟨e2, fr2, m2, q2, max N N2 + 1, fun k hk => ?_⟩
      obtain ⟨j, rfl⟩ : ∃ j, k = j + 1 := ⟨k - 1, by omega⟩
      rw [exec_loop, hN j (by omega)]
      exact hN2 j (by omega)
    | exit i =>
      refine ⟨_, _, _, q, N + 1, fun k hk => ?_⟩
      obtain ⟨j, rfl⟩ : ∃ j, k = j + 1 := ⟨k - 1, by omega⟩
      rw [exec_loop, hN j (by omega)]
    | ret =>
      refine ⟨_, _, _, q, N + 1, fun k hk => ?_⟩
      obtain ⟨j, rfl⟩ : ∃ j, k = j + 1 := ⟨k - 1, by omega⟩
      rw [exec_loop, hN j (by omega)]
/-- a region without calls -/
theorem EvX.region {id : Nat} {ops : Array Oper} (h : ∀ call, runOps C call ops.toList ops.toList fr m = some (fr', m')) (q : Q .normal fr' m') : EvX C D (.region id ops false) fr m Q :=
  ⟨_, _, _, q, 1, fun k hk => by obtain ⟨j, rfl⟩ : ∃ j, k = j + 1 := ⟨k - 1, by omega⟩; rw [exec_region, h]; rfl⟩
/-- one with calls -/
theorem EvX.regionC {id : Nat} {ops : Array Oper} (N : Nat) (h : ∀ k, N ≤ k → runOps C (Vz.call C D k) ops.toList ops.toList fr m = some (fr', m')) (q : Q .normal fr' m') : EvX C D (.region id ops false) fr m Q :=
  ⟨_, _, _, q, N + 1, fun k hk => by obtain ⟨j, rfl⟩ : ∃ j, k = j + 1 := ⟨k - 1, by omega⟩; rw [exec_region, h j (by omega)]; rfl⟩
theorem EvX.draw {id : Nat} {ops : Array Oper} (N : Nat) (h : ∀ k, N ≤ k → D (Vz.call C D k) ops.toList fr m = some (fr', m')) (q : Q .normal fr' m') : EvX C D (.region id ops true) fr m Q :=
  ⟨_, _, _, q, N + 1, fun k hk => by obtain ⟨j, rfl⟩ : ∃ j, k = j + 1 := ⟨k - 1, by omega⟩; rw [exec_draw, h j (by omega)]; rfl⟩
/-- a call -/
theorem EvC.of {f : FuncId} {args : List AV} {fn : Func} {body : Code} {x : AV} (hp : C.isPrim f = false) (hf : C.P.funcs[f]? = some fn) (hb : fn.body = some body)
    (h : EvX C D body (enterA fn.ntmps args) m (fun e fr1 m1 => (match e with | .exit _ => False | _ => True) ∧ m1 = m' ∧ ∃ xs, Vz.results C.P m1 fr1 fn.results.toList = some xs ∧ one xs = x)) : EvC C D f args m x m' := by
  obtain ⟨e, fr1, m1, ⟨he, rfl, xs, hxs, rfl⟩, N, hN⟩ := h
  refine ⟨N, fun k hk => ?_⟩
  unfold Vz.call
  rw [hp, cond_false]
  simp only [hf, hb, hN k hk]
  cases e with
  | normal => simp only [hxs, Option.map_some]
  | exit _ => exact he.elim
  | ret => simp only [hxs, Option.map_some]
end
end Go.Vz
