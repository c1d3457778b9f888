/-
  FUNCTIONS THAT ARE TOLD: a function of a plain result, proved once over what comes in, is from then on a word of V: what V has made is seen as what came in.
-/
import Derived.Test.YtgagkmbhlpmceaaGreatDoorVzSim
set_option linter.unusedVariables false
set_option linter.unusedSimpArgs false
namespace Go.Vz
open Go Go.Proofs Go.RowKit
def mapO (f : AV → Option AV) : List AV → Option (List AV)
  | [] => some []
  | x :: xs => match f x, mapO f xs with
    | some y, some ys => some (y :: ys)
    | _, _ => none
/-- a value, seen as what came in -/
def viewA : Nat → Mem → AV → Option AV
  | 0, _, _ => none
  | n + 1, m, x => match x with
    | .sl v k len sz => match m.load (.ptr v k) (len * sz) with
      | some xs => (mapO (viewA n m) xs).map fun ys => .ro ys len sz
      | none => none
    | .ro xs len sz => (mapO (viewA n m) xs).map fun ys => .ro ys len sz
    | .rp xs => (mapO (viewA n m) xs).map .rp
    | .agg xs => (mapO (viewA n m) xs).map .agg
    | .tup xs => (mapO (viewA n m) xs).map .tup
    | .iface t x => (viewA n m x).map (.iface t ·)
    | .ptr _ _ | .map _ | .fn _ _ _ => none
    | x => some x
mutual
/-- plain values -/
def plainA : AV → Bool
  | .bool _ | .int _ _ | .str _ | .nilptr | .nilsl | .nilmap | .nilfn | .niliface => true
  | .agg xs | .tup xs => plainAs xs
  | _ => false
def plainAs : List AV → Bool
  | [] => true
  | x :: xs => plainA x && plainAs xs
end
section
variable {w0 w1 : World} {base base1 : Nat} {g g1 : Map} {m : Mem} {w : World}
mutual
theorem plain_rel : ∀ {x : AV} {v : Value}, plainA x = true → VRel w0 base g x v → VRel w1 base1 g1 x v
  | .bool _, _, _, .bool b => .bool b
  | .int _ _, _, _, .int k n => .int k n
  | .str _, _, _, .str l s e => .str l s e
  | .nilptr, _, _, .nilptr => .nilptr
  | .nilsl, _, _, .nilsl => .nilsl
  | .nilmap, _, _, .nilmap => .nilmap
  | .nilfn, _, _, .nilfn => .nilfn
  | .niliface, _, _, .niliface => .niliface
  | .agg xs, _, h, .agg _ vs h1 => .agg _ vs (plain_rels (by simpa [plainA] using h) h1)
  | .tup xs, _, h, .tup _ vs h1 => .tup _ vs (plain_rels (by simpa [plainA] using h) h1)
  | .ptr _ _, _, h, _ => by simp [plainA] at h
  | .sl .., _, h, _ => by simp [plainA] at h
  | .map _, _, h, _ => by simp [plainA] at h
  | .fn .., _, h, _ => by simp [plainA] at h
  | .iface .., _, h, _ => by simp [plainA] at h
  | .ro .., _, h, _ => by simp [plainA] at h
  | .rp _, _, h, _ => by simp [plainA] at h
theorem plain_rels : ∀ {xs : List AV} {vs : List Value}, plainAs xs = true → VRels w0 base g xs vs → VRels w1 base1 g1 xs vs
  | [], _, _, .nil => .nil
  | x :: xs, _, h, .cons _ v _ vs h1 h2 => by
    simp only [plainAs, Bool.and_eq_true] at h
    exact .cons _ v _ vs (plain_rel h.1 h1) (plain_rels h.2 h2)
end
theorem cell_lt {a : Addr} {u : Value} (h : w.cell? a = some u) : a.block < w.heap.size := by
  rcases Nat.lt_or_ge a.block w.heap.size with h' | h'
  · exact h'
  · simp [World.cell?, Array.getElem?_eq_none h'] at h
theorem mapO_rel {f : AV → Option AV} (hf : ∀ x y u, f x = some y → VRel w0 base g x u → VRel w1 base1 g1 y u) : ∀ {xs ys : List AV} {us : List Value}, mapO f xs = some ys → VRels w0 base g xs us → VRels w1 base1 g1 ys us
  | [], ys, us, h, hr => by simp only [mapO, Option.some.injEq] at h; subst h; cases hr; exact .nil
  | x :: xs, ys, us, h, hr => by
    cases hr with | cons _ u _ us h1 h2 =>
    simp only [mapO] at h
    cases hx : f x with
    | none => simp [hx] at h
    | some y =>
      cases hs : mapO f xs with
      | none => simp [hx, hs] at h
      | some zs =>
        simp only [hx, hs, Option.some.injEq] at h
        subst h
        exact .cons _ _ _ _ (hf x y u hx h1) (mapO_rel hf hs h2)
theorem mapO_length {f : AV → Option AV} : ∀ {xs ys : List AV}, mapO f xs = some ys → ys.length = xs.length
  | [], ys, h => by simp only [mapO, Option.some.injEq] at h; subst h; rfl
  | x :: xs, ys, h => by
    simp only [mapO] at h
    cases hx : f x with
    | none => simp [hx] at h
    | some y =>
      cases hs : mapO f xs with
      | none => simp [hx, hs] at h
      | some zs =>
        simp only [hx, hs, Option.some.injEq] at h
        subst h
        simp [mapO_length hs]
theorem view_rel (R : Rel w0 base g m w) : ∀ (n : Nat) (x y : AV) (u : Value), viewA n m x = some y → VRel w0 base g x u → VRel w w.heap.size (fun _ => none) y u
  | 0, x, y, u, h, _ => by simp [viewA] at h
  | n + 1, x, y, u, h, hr => by
    have ih := view_rel R n
    have lift : ∀ {a : Addr} {us : List Value} {k : Nat}, (0 < k → a.spot = none ∧ a.block < base) → us.length = k → (∀ j v, us[j]? = some v → w0.cell? (a.add j) = some v) →
        (0 < k → a.spot = none ∧ a.block < w.heap.size) ∧ ∀ j v, us[j]? = some v → w.cell? (a.add j) = some v := by
      intro a us k h1 h2 h3
      refine ⟨fun hk => ⟨(h1 hk).1, Nat.lt_of_lt_of_le (h1 hk).2 R.nb⟩, fun j v hj => ?_⟩
      have hk : 0 < k := by rw [← h2]; exact Nat.lt_of_le_of_lt (Nat.zero_le j) (List.getElem?_eq_some_iff.1 hj).1
      rw [R.below.cell (by rw [show (a.add j).block = a.block by unfold Addr.add; split <;> rfl]; exact (h1 hk).2)]
      exact h3 j v hj
    cases x <;> simp only [viewA] at h <;> try (cases h; done)
    case bool => cases h; cases hr; exact .bool _
    case int => cases h; cases hr; exact .int _ _
    case str => cases h; cases hr with | str _ s e => exact .str _ _ e
    case nilptr => cases h; cases hr; exact .nilptr
    case nilsl => cases h; cases hr; exact .nilsl
    case nilmap => cases h; cases hr; exact .nilmap
    case nilfn => cases h; cases hr; exact .nilfn
    case niliface => cases h; cases hr; exact .niliface
    case sl v k len sz =>
      cases hl : m.load (.ptr v k) (len * sz) with
      | none => simp [hl] at h
      | some xs =>
        simp only [hl] at h
        cases hm : mapO (viewA n m) xs with
        | none => simp [hm] at h
        | some ys =>
          simp only [hm, Option.map_some, Option.some.injEq] at h
          subst h
          have hlm := mapO_length hm
          cases hr with | sl _ _ _ _ a cap p hp h1 h2 h3 =>
          rcases Nat.eq_zero_or_pos cap with h0 | h0
          · have hn0 : len = 0 := by omega
            subst hn0
            have hxs : xs = [] := by
              rw [Nat.zero_mul] at hl
              simp only [Mem.load] at hl
              split at hl
              · simp only [Win.read] at hl; cases hl; rfl
              · cases hl
            subst hxs
            have hys : ys = [] := List.eq_nil_of_length_eq_zero hlm
            subst hys
            exact .ro [] 0 sz a cap [] h1 (by simp) (fun h => by simp at h) (fun j u h => by simp at h) .nil
          · obtain ⟨o, rfl, ho, hb⟩ := h3 h0
            obtain ⟨hlen, us, hu1, hu2⟩ := R.load hl (.ptr v k o p hp ho)
            exact .ro ys len sz _ cap us h1 (by rw [hlm, hlen]) (fun _ => ⟨rfl, (R.pl v p hp).2.1⟩) hu2 (mapO_rel (fun x y u => ih x y u) hm hu1)
    case ro xs len sz =>
      cases hm : mapO (viewA n m) xs with
      | none => simp [hm] at h
      | some ys =>
        simp only [hm, Option.map_some, Option.some.injEq] at h
        subst h
        have hlm := mapO_length hm
        cases hr with
        | ron _ =>
          have hys : ys = [] := List.eq_nil_of_length_eq_zero hlm
          subst hys
          exact .ron sz
        | ro _ _ _ a cap us h1 h2 h3 h4 h5 =>
          obtain ⟨q1, q2⟩ := lift h3 (by rw [← h5.length]) h4
          exact .ro ys len sz a cap us h1 (by rw [hlm, h2]) (by rw [hlm]; exact q1) q2 (mapO_rel (fun x y u => ih x y u) hm h5)
    case rp xs =>
      cases hm : mapO (viewA n m) xs with
      | none => simp [hm] at h
      | some ys =>
        simp only [hm, Option.map_some, Option.some.injEq] at h
        subst h
        have hlm := mapO_length hm
        cases hr with | rp _ a us h3 h4 h5 =>
        obtain ⟨q1, q2⟩ := lift h3 (by rw [← h5.length]) h4
        exact .rp ys a us (by rw [hlm]; exact q1) q2 (mapO_rel (fun x y u => ih x y u) hm h5)
    case agg xs =>
      cases hm : mapO (viewA n m) xs with
      | none => simp [hm] at h
      | some ys =>
        simp only [hm, Option.map_some, Option.some.injEq] at h
        subst h
        cases hr with | agg _ vs h1 => exact .agg _ _ (mapO_rel (fun x y u => ih x y u) hm h1)
    case tup xs =>
      cases hm : mapO (viewA n m) xs with
      | none => simp [hm] at h
      | some ys =>
        simp only [hm, Option.map_some, Option.some.injEq] at h
        subst h
        cases hr with | tup _ vs h1 => exact .tup _ _ (mapO_rel (fun x y u => ih x y u) hm h1)
    case iface t x =>
      cases hm : viewA n m x with
      | none => simp [hm] at h
      | some y =>
        simp only [hm, Option.map_some, Option.some.injEq] at h
        subst h
        cases hr with | iface _ _ v h1 => exact .iface _ _ _ (ih x y v hm h1)
end

/-! ### Functions as they are told -/
structure PFn where
  f : FuncId
  spec : List AV → Option AV
/-- the function does as it is told -/
def PFn.Ok (p : PFn) : Prop := ∀ (W : World), LaidErr W W.heap.size → ∀ args x, p.spec args = some x → plainA x = true ∧ ∀ vs : Array Value, VRels W W.heap.size (fun _ => none) args vs.toList →
  Calls Tryz.prog p.f vs W (fun e w' => (∃ v, e = .returned v ∧ VRel W W.heap.size (fun _ => none) x v) ∧ Below W.heap.size W w')
def findP : List PFn → FuncId → Option PFn
  | [], _ => none
  | p :: ps, f => bif Nat.beq p.f f then some p else findP ps f
theorem findP_mem : ∀ {ps : List PFn} {f : FuncId} {p : PFn}, findP ps f = some p → p ∈ ps ∧ p.f = f
  | [], _, _, h => by simp [findP] at h
  | q :: ps, f, p, h => by
    simp only [findP] at h
    cases hb : Nat.beq q.f f with
    | true => simp only [hb, cond_true, Option.some.injEq] at h; subst h; exact ⟨List.mem_cons_self, Nat.eq_of_beq_eq_true hb⟩
    | false => simp only [hb, cond_false] at h; obtain ⟨h1, h2⟩ := findP_mem h; exact ⟨List.mem_cons_of_mem _ h1, h2⟩
def primP (ps : List PFn) (f : FuncId) (args : List AV) (m : Mem) : Option (AV × Mem) :=
  match findP ps f with
  | some p => match mapO (viewA 8 m) args with
    | some l => (p.spec l).map fun x => (x, m)
    | none => none
  | none => primL f args m
noncomputable def CP (ps : List PFn) : Cfg := { P := Tryz.prog, glob := fun _ => none, prim := primP ps, isPrim := fun f => (findP ps f).isSome || (Nat.beq f 46 || Nat.beq f 13), ext := extS }
theorem CP_ok {ps : List PFn} (H : ∀ p ∈ ps, p.Ok) {w0 : World} {base : Nat} (L : LaidErr w0 base) : (CP ps).Ok w0 base where
  mixed := by kernel_rfl
  glob := fun g cs h => by cases h
  prim := fun f args m x m' hp h g w vs hv R => by
    have h' : primP ps f args m = some (x, m') := h
    unfold primP at h'
    split at h'
    · rename_i p hf
      obtain ⟨h1, rfl⟩ := findP_mem hf
      split at h'
      · rename_i l ha
        cases hs : p.spec l with
        | none => simp [hs] at h'
        | some y =>
          simp only [hs, Option.map_some, Option.some.injEq, Prod.mk.injEq] at h'
          obtain ⟨rfl, rfl⟩ := h'
          have hL : LaidErr w w.heap.size := L.at R
          obtain ⟨q1, q2⟩ := H p h1 w hL l y hs
          exact Calls.mono (q2 vs (mapO_rel (fun x y u => view_rel R 8 x y u) ha hv)) (fun e w' ⟨⟨v, e1, e2⟩, e3⟩ => ⟨g, v, e1, Map.le_refl g, plain_rel q1 e2, R.grow e3⟩)
      · cases h'
    · rename_i hf
      refine (C1_ok L).prim f args m x m' ?_ h' g w vs hv R
      have hp' : ((findP ps f).isSome || (Nat.beq f 46 || Nat.beq f 13)) = true := hp
      rw [hf] at hp'
      exact hp'
  ext := fun f args m x m' h g w vs hv R => extS_ok h hv R
/-- a function is as it is told, if V runs so from nothing -/
theorem PFn.Ok.of {ps : List PFn} (H : ∀ p ∈ ps, p.Ok) {p : PFn} (h : ∀ args x, p.spec args = some x → plainA x = true ∧ ∃ m', EvC (CP ps) (drawA (CP ps)) p.f args Mem.empty x m') : p.Ok := by
  intro W L args x hs
  obtain ⟨h1, m', N, hN⟩ := h args x hs
  refine ⟨h1, fun vs hv => Calls.mono (call_sound (CP_ok H L) N p.f args Mem.empty x m' (hN N (Nat.le_refl N)) (fun _ => none) W vs hv (Rel.start W)) (fun e w' he => ?_)⟩
  obtain ⟨g', v, rfl, _, hv', hR⟩ := he
  exact ⟨⟨v, rfl, plain_rel h1 hv'⟩, hR.below⟩
end Go.Vz
