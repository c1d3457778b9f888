/-
  WHAT STAYS: lemmas on V's memories.
-/
import Derived.Test.YtgagkmbhlpmceaaGreatDoorVzTree
import Derived.Test.YtgagkmbhlpmceaaGreatDoorVzQS
set_option linter.unusedVariables false
set_option linter.unusedSimpArgs false
namespace Go.Vz
open Go
/-- numbers of what is there are below the next -/
structure WFm (m : Mem) : Prop where
  obs : ∀ v, m.nxt ≤ v → m.obs.get v = none
  cls : ∀ v, m.nxt ≤ v → m.cls.get v = none
/-- what lies below b stays -/
structure KeepB (b : Nat) (m m' : Mem) : Prop where
  nxt : m.nxt ≤ m'.nxt
  obs : ∀ v, v < b → m'.obs.get v = m.obs.get v
  cls : ∀ v, v < b → m'.cls.get v = m.cls.get v
theorem KeepB.refl (b : Nat) (m : Mem) : KeepB b m m := ⟨Nat.le_refl _, fun _ _ => rfl, fun _ _ => rfl⟩
theorem KeepB.trans {b : Nat} {m m' m'' : Mem} (h : KeepB b m m') (k : KeepB b m' m'') : KeepB b m m'' :=
  ⟨Nat.le_trans h.nxt k.nxt, fun v hv => (k.obs v hv).trans (h.obs v hv), fun v hv => (k.cls v hv).trans (h.cls v hv)⟩
theorem KeepB.less {b b' : Nat} {m m' : Mem} (h : KeepB b m m') (hb : b' ≤ b) : KeepB b' m m' :=
  ⟨h.nxt, fun v hv => h.obs v (by omega), fun v hv => h.cls v (by omega)⟩
theorem WFm.empty : WFm Mem.empty := ⟨fun v _ => Tr.get_nil v, fun v _ => Tr.get_nil v⟩
theorem WFm.live {m : Mem} (w : WFm m) {v : Nat} {W : Win} {c : Cl} (h : m.live v = some (W, c)) : v < m.nxt ∧ W.cls < m.nxt := by
  obtain ⟨h1, h2, _⟩ := Mem.live_spec h
  refine ⟨?_, ?_⟩
  · rcases Nat.lt_or_ge v m.nxt with h' | h'
    · exact h'
    · rw [w.obs v h'] at h1; cases h1
  · rcases Nat.lt_or_ge W.cls m.nxt with h' | h'
    · exact h'
    · rw [w.cls _ h'] at h2; cases h2
theorem live_eq {m m' : Mem} {v : Nat} {W : Win} {c : Cl} (h : m.live v = some (W, c)) (h1 : m'.obs.get v = m.obs.get v) (h2 : m'.cls.get W.cls = m.cls.get W.cls) : m'.live v = some (W, c) := by
  obtain ⟨q1, q2, q3⟩ := Mem.live_spec h
  unfold Mem.live at h ⊢
  rw [h1, q1]
  rw [q1] at h
  simp only at h ⊢
  rw [h2]
  exact h
theorem WFm.load {m m' : Mem} (w : WFm m) (k : KeepB m.nxt m m') {a : AV} {n : Nat} {xs : List AV} (h : m.load a n = some xs) : m'.load a n = some xs := by
  unfold Mem.load at h ⊢
  split at h
  · rename_i v j
    split at h
    · rename_i W c hl
      obtain ⟨h1, h2⟩ := w.live hl
      simp only [live_eq hl (k.obs v h1) (k.cls _ h2)]
      exact h
    · cases h
  · exact h
  · cases h
theorem mapO_mono {f f' : AV → Option AV} (hf : ∀ x y, f x = some y → f' x = some y) : ∀ {xs ys : List AV}, mapO f xs = some ys → mapO f' xs = some ys
  | [], ys, h => h
  | x :: xs, ys, h => by
    simp only [mapO] at h ⊢
    cases hx : f x with
    | none => simp [hx] at h
    | some y =>
      cases hs : mapO f xs with
      | none => simp [hx, hs] at h
      | some zs =>
        simp only [hx, hs, Option.some.injEq] at h
        simp only [hf x y hx, mapO_mono hf hs, h]
theorem WFm.view {m m' : Mem} (w : WFm m) (k : KeepB m.nxt m m') : ∀ (n : Nat) (x y : AV), viewA n m x = some y → viewA n m' x = some y
  | 0, x, y, h => by simp [viewA] at h
  | n + 1, x, y, h => by
    have ih := WFm.view w k n
    have mm : ∀ {xs : List AV} {F : List AV → AV}, (mapO (viewA n m) xs).map F = some y → (mapO (viewA n m') xs).map F = some y := fun {xs F} h => by
      cases hm : mapO (viewA n m) xs with
      | none => simp [hm] at h
      | some ys => rw [hm] at h; rw [mapO_mono ih hm]; exact h
    cases x <;> simp only [viewA] at h ⊢ <;> try (exact h) <;> try (exact mm h)
    case sl v j len sz =>
      cases hl : m.load (.ptr v j) (len * sz) with
      | none => simp [hl] at h
      | some xs => simp only [hl] at h; simp only [w.load k hl]; exact mm h
    case ro => exact mm h
    case rp => exact mm h
    case agg => exact mm h
    case tup => exact mm h
    case iface t x =>
      cases hx : viewA n m x with
      | none => simp [hx] at h
      | some z => rw [hx] at h; rw [ih _ _ hx]; exact h
theorem viewA_mono {m : Mem} : ∀ (n : Nat) (x y : AV), viewA n m x = some y → viewA (n + 1) m x = some y
  | 0, x, y, h => by simp [viewA] at h
  | n + 1, x, y, h => by
    have ih := @viewA_mono m n
    have mm : ∀ {xs : List AV} {F : List AV → AV}, (mapO (viewA n m) xs).map F = some y → (mapO (viewA (n + 1) m) xs).map F = some y := fun {xs F} h => by
      cases hm : mapO (viewA n m) xs with
      | none => simp [hm] at h
      | some ys => rw [hm] at h; rw [mapO_mono ih hm]; exact h
    cases x <;> simp only [viewA] at h ⊢ <;> try (exact h)
    case sl v j len sz =>
      cases hl : m.load (.ptr v j) (len * sz) with
      | none => simp [hl] at h
      | some xs => simp only [hl] at h ⊢; exact mm h
    case ro => exact mm h
    case rp => exact mm h
    case agg => exact mm h
    case tup => exact mm h
    case iface t x =>
      cases hx : viewA n m x with
      | none => simp [hx] at h
      | some z => rw [hx] at h; show Option.map _ (viewA (n + 1) m x) = some y; rw [ih _ _ hx]; exact h
theorem viewA_up {m : Mem} {n k : Nat} {x y : AV} (h : viewA n m x = some y) (hk : n ≤ k) : viewA k m x = some y := by
  induction hk with
  | refl => exact h
  | step _ ih => exact viewA_mono _ _ _ ih
/-! ### New blocks -/
theorem fresh_keep (m : Mem) (t : Option TypeId) (xs : List AV) : KeepB m.nxt m (m.fresh t xs) :=
  ⟨Nat.le_succ _, fun v hv => Tr.get_set_ne _ _ (by omega), fun v hv => Tr.get_set_ne _ _ (by omega)⟩
theorem fresh_wf {m : Mem} (w : WFm m) (t : Option TypeId) (xs : List AV) : WFm (m.fresh t xs) :=
  ⟨fun v hv => by have hv' : m.nxt + 1 ≤ v := hv; show (m.obs.set m.nxt _).get v = none; rw [Tr.get_set_ne _ _ (by omega)]; exact w.obs v (by omega),
   fun v hv => by have hv' : m.nxt + 1 ≤ v := hv; show (m.cls.set m.nxt _).get v = none; rw [Tr.get_set_ne _ _ (by omega)]; exact w.cls v (by omega)⟩
theorem fresh_nxt (m : Mem) (t : Option TypeId) (xs : List AV) : (m.fresh t xs).nxt = m.nxt + 1 := rfl
theorem fresh_live (m : Mem) (t : Option TypeId) (xs : List AV) : (m.fresh t xs).live m.nxt = some (⟨setCells .nil 0 xs, 0, xs.length, m.nxt, t⟩, ⟨xs.length, none, 0, false⟩) := by
  unfold Mem.live Mem.fresh
  simp only [Tr.get_set_same]
theorem read_split {W : Win} : ∀ {a b k : Nat} {xs ys : List AV}, W.read k a = some xs → W.read (k + a) b = some ys → W.read k (a + b) = some (xs ++ ys)
  | 0, b, k, xs, ys, h1, h2 => by simp only [Win.read, Option.some.injEq] at h1; subst h1; simpa using h2
  | a + 1, b, k, xs, ys, h1, h2 => by
    simp only [Win.read] at h1
    cases hx : W.cell k with
    | none => simp [hx] at h1
    | some x =>
      cases hr : W.read (k + 1) a with
      | none => simp [hx, hr] at h1
      | some l =>
        simp only [hx, hr, Option.some.injEq] at h1
        subst h1
        rw [show a + 1 + b = (a + b) + 1 by omega]
        simp only [Win.read, hx, read_split hr (by rw [show k + 1 + a = k + (a + 1) by omega]; exact h2), List.cons_append]
/-- a part of what is read -/
theorem read_part {W : Win} : ∀ {a b k : Nat} {xs : List AV}, W.read k (a + b) = some xs → W.read k a = some (xs.take a) ∧ W.read (k + a) b = some (xs.drop a)
  | 0, b, k, xs, h => by simp only [Nat.zero_add] at h; exact ⟨by simp [Win.read], by simpa using h⟩
  | a + 1, b, k, xs, h => by
    rw [show a + 1 + b = (a + b) + 1 by omega] at h
    simp only [Win.read] at h
    cases hx : W.cell k with
    | none => simp [hx] at h
    | some x =>
      cases hr : W.read (k + 1) (a + b) with
      | none => simp [hx, hr] at h
      | some l =>
        simp only [hx, hr, Option.some.injEq] at h
        subst h
        obtain ⟨h1, h2⟩ := read_part hr
        refine ⟨by simp only [Win.read, hx, h1, List.take_succ_cons], ?_⟩
        rw [show k + (a + 1) = k + 1 + a by omega, h2, List.drop_succ_cons]
theorem read_length {W : Win} {k n : Nat} {xs : List AV} (h : W.read k n = some xs) : xs.length = n := (Win.read_spec h).1
theorem read_congr {W W' : Win} : ∀ {n k : Nat} {xs : List AV}, (∀ j x, k ≤ j → j < k + n → W.cell j = some x → W'.cell j = some x) → W.read k n = some xs → W'.read k n = some xs
  | 0, k, xs, _, h => h
  | n + 1, k, xs, hc, h => by
    simp only [Win.read] at h ⊢
    cases hx : W.cell k with
    | none => simp [hx] at h
    | some x =>
      cases hr : W.read (k + 1) n with
      | none => simp [hx, hr] at h
      | some l =>
        simp only [hx, hr] at h
        simp only [hc k x (Nat.le_refl _) (by omega) hx, read_congr (fun j x h1 h2 h3 => hc j x (by omega) (by omega) h3) hr]
        exact h
/-! ### Slices of the run's own -/
/-- y: a slice of n elements of sz cells, xs, in a window of its own; its numbers: between lo and hi -/
structure OwnW (lo hi : Nat) (m : Mem) (v : Nat) (n : Nat) (xs : List AV) (W : Win) (c : Cl) : Prop where
  ge : lo ≤ v ∧ lo ≤ W.cls
  lt : v < hi ∧ W.cls < hi
  ob : m.obs.get v = some (.win W)
  cl : m.cls.get W.cls = some c
  own : c.own = none ∨ c.own = some v
  fro : c.fro = false
  lo : W.lo = 0
  hi : W.hi = n
  rd : W.read 0 n = some xs
theorem OwnW.live {lo hi : Nat} {m : Mem} {v n : Nat} {xs : List AV} {W : Win} {c : Cl} (h : OwnW lo hi m v n xs W c) : m.live v = some (W, c) := by
  unfold Mem.live
  simp only [h.ob, h.cl]
  rcases h.own with e | e
  · simp only [e]
  · simp only [e, Nat.beq_refl, cond_true]
theorem OwnW.keep {lo hi b : Nat} {m m' : Mem} {v n : Nat} {xs : List AV} {W : Win} {c : Cl} (h : OwnW lo hi m v n xs W c) (k : KeepB b m m') (hb : hi ≤ b) : OwnW lo hi m' v n xs W c :=
  { h with ob := by rw [k.obs v (by have := h.lt; omega)]; exact h.ob, cl := by rw [k.cls _ (by have := h.lt; omega)]; exact h.cl }
theorem OwnW.load {lo hi : Nat} {m : Mem} {v n : Nat} {xs : List AV} {W : Win} {c : Cl} (h : OwnW lo hi m v n xs W c) {k a : Nat} (hk : k + a ≤ n) : m.load (.ptr v k) a = some ((xs.drop k).take a) := by
  simp only [Mem.load, h.live]
  have h1 := h.rd
  rw [show n = k + (n - k) by omega] at h1
  obtain ⟨_, h2⟩ := read_part h1
  rw [show n - k = a + (n - k - a) by omega] at h2
  have h3 := (read_part h2).1
  rw [Nat.zero_add] at h3
  exact h3
def OwnS (lo hi : Nat) (m : Mem) (y : AV) (sz n : Nat) (xs : List AV) : Prop :=
  (y = .nilsl ∧ n = 0 ∧ xs = []) ∨ (0 < n ∧ xs.length = n * sz ∧ ∃ v W c, y = .sl v 0 n sz ∧ OwnW lo hi m v (n * sz) xs W c)
theorem OwnS.keep {lo hi b : Nat} {m m' : Mem} {y : AV} {sz n : Nat} {xs : List AV} (h : OwnS lo hi m y sz n xs) (k : KeepB b m m') (hb : hi ≤ b) : OwnS lo hi m' y sz n xs := by
  rcases h with h | ⟨h1, h2, v, W, c, h3, h4⟩
  · exact .inl h
  · exact .inr ⟨h1, h2, v, W, c, h3, h4.keep k hb⟩
theorem OwnS.wide {lo hi lo' hi' : Nat} {m : Mem} {y : AV} {sz n : Nat} {xs : List AV} (h : OwnS lo hi m y sz n xs) (h1 : lo' ≤ lo) (h2 : hi ≤ hi') : OwnS lo' hi' m y sz n xs := by
  rcases h with h | ⟨q1, q2, v, W, c, q3, q4⟩
  · exact .inl h
  · exact .inr ⟨q1, q2, v, W, c, q3, { q4 with ge := by have := q4.ge; omega, lt := by have := q4.lt; omega }⟩
theorem OwnS.view {lo hi : Nat} {m : Mem} {y : AV} {sz n k : Nat} {xs ys : List AV} (h : OwnS lo hi m y sz n xs) (hn : 0 < n) (hv : mapO (viewA k m) xs = some ys) : viewA (k + 1) m y = some (.ro ys n sz) := by
  rcases h with ⟨_, h, _⟩ | ⟨h1, h2, v, W, c, rfl, h4⟩
  · omega
  · simp only [viewA, Mem.load, h4.live, h4.rd, hv, Option.map_some]
theorem OwnS.tree {lo hi : Nat} {m : Mem} {y : AV} {sz n k : Nat} {xs ys : List AV} (h : OwnS lo hi m y sz n xs) (hn : 0 < n) (hz : 0 < sz) (hv : mapO (treeA k m) xs = some ys) : treeA (k + 1) m y = some (.ro ys n sz) := by
  rcases h with ⟨_, h, _⟩ | ⟨h1, h2, v, W, c, rfl, h4⟩
  · omega
  · have hz' : Nat.beq (n * sz) 0 = false := by
      cases hb : Nat.beq (n * sz) 0 with
      | false => rfl
      | true => have := Nat.eq_of_beq_eq_true hb; have := Nat.mul_pos hn hz; omega
    simp only [treeA, hz', cond_false, Mem.load, h4.live, h4.rd, froA, h4.fro, Nat.beq_refl, Bool.not_false, Bool.and_self, cond_true, hv, Option.map_some]
/-- an element is read -/
theorem OwnS.load {lo hi : Nat} {m : Mem} {y : AV} {sz n : Nat} {xs : List AV} (h : OwnS lo hi m y sz n xs) (hn : 0 < n) : ∃ v, y = .sl v 0 n sz ∧ ∀ k a, k + a ≤ n * sz → m.load (.ptr v k) a = some ((xs.drop k).take a) := by
  rcases h with ⟨_, h, _⟩ | ⟨h1, h2, v, W, c, rfl, h4⟩
  · omega
  · exact ⟨v, rfl, fun k a hk => h4.load hk⟩
theorem OwnS.len {lo hi : Nat} {m : Mem} {y : AV} {sz n : Nat} {xs : List AV} (h : OwnS lo hi m y sz n xs) : xs.length = n * sz := by
  rcases h with ⟨_, h, h'⟩ | ⟨_, h, _⟩
  · simp [h, h']
  · exact h
/-- one block more of its own: an append -/
theorem OwnS.append {lo hi : Nat} {m : Mem} {y : AV} {sz n : Nat} {xs : List AV} (w : WFm m) (h : OwnS lo hi m y sz n xs) (hlo : lo ≤ m.nxt) {e : TypeId} {bytes : Nat} {n' : Nat} {cs : List AV} (hn' : 0 < n') (hcs : cs.length = n' * sz) (hc : allCells cs = true)
    (hb1 : (n + n') * bytes ≤ 140737488355328) (hb2 : n + n' ≤ 9223372036854775807) :
    ∃ y' m', appendA e sz bytes m y n' cs = some (y', m') ∧ WFm m' ∧ KeepB lo m m' ∧ OwnS lo m'.nxt m' y' sz (n + n') (xs ++ cs) ∧ m'.nxt = m.nxt + 1 := by
  have hn0 : Nat.beq n' 0 = false := by cases hb : Nat.beq n' 0 with | false => rfl | true => have := Nat.eq_of_beq_eq_true hb; omega
  rcases h with ⟨rfl, rfl, rfl⟩ | ⟨h1, h2, v, W, c, rfl, h4⟩
  · rw [Nat.zero_add] at hb1 hb2 ⊢
    refine ⟨.sl m.nxt 0 n' sz, m.fresh (some e) cs, ?_, fresh_wf w _ _, (fresh_keep m _ _).less hlo, .inr ⟨hn', by simpa using hcs, m.nxt, _, _, rfl, ⟨⟨hlo, hlo⟩, ⟨Nat.lt_succ_self _, Nat.lt_succ_self _⟩, Tr.get_set_same _ _ _, Tr.get_set_same _ _ _, .inl rfl, rfl, rfl, hcs, ?_⟩⟩, rfl⟩
    · simp only [appendA, hn0, cond_false, Nat.ble_eq_true_of_le hb1, Nat.ble_eq_true_of_le hb2, hc, Bool.and_self, cond_true]
    · exact read_all (by omega) hcs.symm
  · have hv := h4.lt
    have hg := h4.ge
    have hwl := w.live h4.live
    have hlen : xs.length = n * sz := h2
    have hp : Nat.ble W.lo 0 = true := by rw [h4.lo]; rfl
    have hp2 : Nat.ble (0 + n * sz) W.hi = true := by rw [h4.hi, Nat.zero_add]; exact Nat.ble_eq_true_of_le (Nat.le_refl _)
    obtain ⟨own, hod⟩ : ∃ own, own = bif Nat.beq (0 + n * sz) c.hw then (match c.own with | none => none | some _ => some m.nxt) else some m.nxt := ⟨_, rfl⟩
    have hown : own = none ∨ own = some m.nxt := by
      rw [hod]
      cases Nat.beq (0 + n * sz) c.hw
      · exact .inr rfl
      · cases c.own
        · exact .inl rfl
        · exact .inr rfl
    refine ⟨.sl m.nxt 0 (n + n') sz,
      { obs := m.obs.set m.nxt (.win ⟨setCells W.cells (0 + n * sz) cs, 0, 0 + n * sz + cs.length, W.cls, bif tyIs W.ty e && Nat.beq 0 W.lo then some e else none⟩)
        cls := m.cls.set W.cls { c with hw := 0 + n * sz + cs.length, own := own, st := c.st + 1 }
        nxt := m.nxt + 1 }, ?_, ⟨fun u hu => ?_, fun u hu => ?_⟩, ⟨Nat.le_succ _, fun u hu => Tr.get_set_ne _ _ (by omega), fun u hu => Tr.get_set_ne _ _ (by omega)⟩,
      .inr ⟨by omega, ?_, m.nxt, ⟨setCells W.cells (0 + n * sz) cs, 0, 0 + n * sz + cs.length, W.cls, bif tyIs W.ty e && Nat.beq 0 W.lo then some e else none⟩, { c with hw := 0 + n * sz + cs.length, own := own, st := c.st + 1 }, rfl,
        ⟨⟨hlo, hg.2⟩, ⟨Nat.lt_succ_self _, Nat.lt_succ_of_lt hwl.2⟩, Tr.get_set_same _ _ _, Tr.get_set_same _ _ _, hown, h4.fro, rfl, ?_, ?_⟩⟩, rfl⟩
    · simp only [appendA, Nat.beq_refl, cond_true, hn0, cond_false, Nat.ble_eq_true_of_le hb1, Nat.ble_eq_true_of_le hb2, hc, Bool.and_self, h4.live, h4.fro, Bool.not_false, hp, hp2, hod]
      rfl
    · have hu' : m.nxt + 1 ≤ u := hu
      show (m.obs.set m.nxt _).get u = none
      rw [Tr.get_set_ne _ _ (by omega)]; exact w.obs u (by omega)
    · have hu' : m.nxt + 1 ≤ u := hu
      show (m.cls.set W.cls _).get u = none
      rw [Tr.get_set_ne _ _ (by omega)]; exact w.cls u (by omega)
    · simp only [List.length_append, hlen, hcs, Nat.add_mul]
    · show 0 + n * sz + cs.length = (n + n') * sz
      rw [hcs, Nat.add_mul]; omega
    · rw [Nat.add_mul]
      refine read_split (read_congr (W := W) (fun j x j1 j2 hj => ?_) h4.rd) ?_
      · rw [Win.cell_iff] at hj ⊢
        refine ⟨Nat.zero_le _, by show j < 0 + n * sz + cs.length; omega, ?_⟩
        show (setCells W.cells (0 + n * sz) cs).get j = some x
        rw [setCells_get, if_neg (by omega)]
        exact hj.2.2
      · have := read_congr (W := ⟨setCells W.cells (0 + n * sz) cs, 0 + n * sz, 0 + n * sz + cs.length, W.cls, W.ty⟩) (W' := ⟨setCells W.cells (0 + n * sz) cs, 0, 0 + n * sz + cs.length, W.cls, bif tyIs W.ty e && Nat.beq 0 W.lo then some e else none⟩) (k := 0 + n * sz) (n := n' * sz) (xs := cs)
          (fun j x j1 j2 hj => by rw [Win.cell_iff] at hj ⊢; exact ⟨Nat.zero_le _, hj.2.1, hj.2.2⟩) (read_all rfl hcs.symm)
        exact this
theorem setCells_read_over {W : Win} {n : Nat} {ys : List AV} (hl : W.lo = 0) (hh : W.hi = n) (hy : ys.length = n) : Win.read { W with cells := setCells W.cells 0 ys } 0 n = some ys := by
  have := read_all (t := W.cells) (k0 := 0) (hi := W.hi) (ty := W.ty) (c := W.cls) (n := n) (xs := ys) (by omega) hy.symm
  rw [← hl] at this ⊢
  simp only [hl] at this ⊢
  exact this
/-- its cells are written anew -/
theorem OwnS.store {lo hi : Nat} {m : Mem} {y : AV} {sz n : Nat} {xs : List AV} (w : WFm m) (h : OwnS lo hi m y sz n xs) (hn : 0 < n) {ys : List AV} (hl : ys.length = xs.length) (hc : allCells ys = true) :
    ∃ v m', y = .sl v 0 n sz ∧ m.store (.ptr v 0) ys = some m' ∧ WFm m' ∧ KeepB lo m m' ∧ OwnS lo hi m' y sz n ys ∧ m'.nxt = m.nxt := by
  rcases h with ⟨_, h, _⟩ | ⟨h1, h2, v, W, c, rfl, h4⟩
  · omega
  · have hwl := w.live h4.live
    have hg := h4.ge
    refine ⟨v, { m with obs := m.obs.set v (.win { W with cells := setCells W.cells 0 ys }), cls := m.cls.set W.cls { c with own := some v, st := c.st + 1 } }, rfl, ?_, ⟨fun u hu => ?_, fun u hu => ?_⟩, ⟨Nat.le_refl _, fun u hu => Tr.get_set_ne _ _ (by omega), fun u hu => Tr.get_set_ne _ _ (by omega)⟩,
      .inr ⟨h1, by omega, v, { W with cells := setCells W.cells 0 ys }, { c with own := some v, st := c.st + 1 }, rfl, ⟨hg, h4.lt, Tr.get_set_same _ _ _, Tr.get_set_same _ _ _, .inr rfl, h4.fro, h4.lo, h4.hi, ?_⟩⟩, rfl⟩
    · have e1 : Nat.ble W.lo 0 = true := by rw [h4.lo]; rfl
      have e2 : Nat.ble (0 + ys.length) W.hi = true := by rw [h4.hi]; exact Nat.ble_eq_true_of_le (by omega)
      simp only [Mem.store, h4.live, h4.fro, Bool.not_false, e1, e2, hc, Bool.and_self, cond_true]
    · have hu' : m.nxt ≤ u := hu
      show (m.obs.set v _).get u = none
      rw [Tr.get_set_ne _ _ (by omega)]; exact w.obs u hu'
    · have hu' : m.nxt ≤ u := hu
      show (m.cls.set W.cls _).get u = none
      rw [Tr.get_set_ne _ _ (by omega)]; exact w.cls u hu'
    · exact setCells_read_over h4.lo h4.hi (by omega)
/-! ### What is laid, seen -/
mutual
def wfT : Nat → AV → Bool
  | 0, _ => false
  | n + 1, .ro xs k sz => Nat.beq xs.length (k * sz) && wfTs n xs
  | n + 1, .agg xs => wfTs n xs
  | n + 1, .tup xs => wfTs n xs
  | _ + 1, .bool _ | _ + 1, .int _ _ | _ + 1, .str _ | _ + 1, .nilptr | _ + 1, .nilsl | _ + 1, .nilmap | _ + 1, .nilfn | _ + 1, .niliface => true
  | _ + 1, _ => false
def wfTs : Nat → List AV → Bool
  | _, [] => true
  | n, x :: xs => wfT n x && wfTs n xs
end
theorem lay_viewN (c : Nat) (n : Nat) (ih : ∀ (x : AV) (m : Mem), wfT n x = true → WFm m → (∃ q, m.cls.get c = some q ∧ q.own = none) → WFm (layA c x m).2 ∧ KeepB m.nxt m (layA c x m).2 ∧ viewA n (layA c x m).2 (layA c x m).1 = some x) :
    ∀ (xs : List AV) (m : Mem), wfTs n xs = true → WFm m → (∃ q, m.cls.get c = some q ∧ q.own = none) → WFm (layAs c xs m).2 ∧ KeepB m.nxt m (layAs c xs m).2 ∧ mapO (viewA n (layAs c xs m).2) (layAs c xs m).1 = some xs
  | [], m, _, w, _ => ⟨w, KeepB.refl _ _, rfl⟩
  | x :: xs, m, h, w, hq => by
    simp only [wfTs, Bool.and_eq_true] at h
    obtain ⟨w1, k1, v1⟩ := ih x m h.1 w hq
    have hq1 : ∃ q, (layA c x m).2.cls.get c = some q ∧ q.own = none := by
      obtain ⟨q, h1, h2⟩ := hq
      refine ⟨q, ?_, h2⟩
      rw [k1.cls c]
      · exact h1
      · rcases Nat.lt_or_ge c m.nxt with h' | h'
        · exact h'
        · rw [w.cls c h'] at h1; cases h1
    obtain ⟨w2, k2, v2⟩ := lay_viewN c n ih xs _ h.2 w1 hq1
    simp only [layAs]
    refine ⟨w2, k1.trans (k2.less k1.nxt), ?_⟩
    simp only [mapO, w1.view k2 n _ _ v1, v2]
theorem lay_view (c : Nat) : ∀ (n : Nat) (x : AV) (m : Mem), wfT n x = true → WFm m → (∃ q, m.cls.get c = some q ∧ q.own = none) → WFm (layA c x m).2 ∧ KeepB m.nxt m (layA c x m).2 ∧ viewA n (layA c x m).2 (layA c x m).1 = some x
  | 0, x, m, h, _, _ => by cases x <;> simp [wfT] at h
  | n + 1, x, m, h, w, hq => by
    have ih := lay_viewN c n (lay_view c n)
    cases x <;> simp only [wfT] at h <;> try (cases h; done)
    case ro xs k sz =>
      rw [Bool.and_eq_true] at h
      have hl := Nat.eq_of_beq_eq_true h.1
      cases xs with
      | nil => exact ⟨w, KeepB.refl _ _, rfl⟩
      | cons x xs =>
        obtain ⟨w1, k1, v1⟩ := ih (x :: xs) m h.2 w hq
        have e : layA c (.ro (x :: xs) k sz) m = layWin c k sz (layAs c (x :: xs) m) := by simp only [layA, layAs]
        rw [e]
        have hlen : (layAs c (x :: xs) m).1.length = (x :: xs).length := layAs_length c _ _
        generalize layAs c (x :: xs) m = r at w1 k1 v1 hlen ⊢
        obtain ⟨q, hq1, hq2⟩ := hq
        have hc : c < m.nxt := by
          rcases Nat.lt_or_ge c m.nxt with h' | h'
          · exact h'
          · rw [w.cls c h'] at hq1; cases hq1
        have kw : KeepB r.2.nxt r.2 (layWin c k sz r).2 := ⟨Nat.le_succ _, fun v hv => Tr.get_set_ne _ _ (by omega), fun _ _ => rfl⟩
        refine ⟨⟨fun v hv => ?_, fun v hv => ?_⟩, k1.trans (kw.less k1.nxt), ?_⟩
        · have hv' : r.2.nxt + 1 ≤ v := hv
          show (r.2.obs.set r.2.nxt _).get v = none
          rw [Tr.get_set_ne _ _ (by omega)]; exact w1.obs v (by omega)
        · have hv' : r.2.nxt + 1 ≤ v := hv
          exact w1.cls v (by omega)
        · have hlive : (layWin c k sz r).2.live r.2.nxt = some (⟨setCells .nil 0 r.1, 0, r.1.length, c, none⟩, q) := by
            unfold Mem.live layWin
            simp only [Tr.get_set_same]
            rw [k1.cls c hc, hq1]
            simp only [hq2]
          show viewA (n + 1) (layWin c k sz r).2 (.sl r.2.nxt 0 k sz) = _
          simp only [viewA, Mem.load, hlive, read_all (t := .nil) (k0 := 0) (ty := none) (c := c) (show r.1.length = 0 + r.1.length by omega) (show k * sz = r.1.length by omega), mapO_mono (fun x y h => w1.view kw n x y h) v1, Option.map_some]
    case agg xs =>
      obtain ⟨w1, k1, v1⟩ := ih xs m h w hq
      simp only [layA]
      exact ⟨w1, k1, by simp only [viewA, v1, Option.map_some]⟩
    case tup xs =>
      obtain ⟨w1, k1, v1⟩ := ih xs m h w hq
      simp only [layA]
      exact ⟨w1, k1, by simp only [viewA, v1, Option.map_some]⟩
    all_goals exact ⟨w, KeepB.refl _ _, rfl⟩
theorem newCls_keep (m : Mem) (h : Nat) : KeepB m.nxt m (m.newCls h) := ⟨Nat.le_succ _, fun v hv => rfl, fun v hv => Tr.get_set_ne _ _ (by omega)⟩
theorem newCls_wf {m : Mem} (w : WFm m) (h : Nat) : WFm (m.newCls h) :=
  ⟨fun v hv => w.obs v (by have hv' : m.nxt + 1 ≤ v := hv; omega), fun v hv => by have hv' : m.nxt + 1 ≤ v := hv; show (m.cls.set m.nxt _).get v = none; rw [Tr.get_set_ne _ _ (by omega)]; exact w.cls v (by omega)⟩
/-- what a told call gave, seen -/
theorem adopt_view {n : Nat} {y : AV} {m : Mem} (h : wfT n y = true) (w : WFm m) : WFm (adoptA y m).2 ∧ KeepB m.nxt m (adoptA y m).2 ∧ viewA n (adoptA y m).2 (adoptA y m).1 = some y := by
  unfold adoptA
  cases hp : plainA y with
  | true =>
    simp only [cond_true]
    refine ⟨w, KeepB.refl _ _, ?_⟩
    obtain ⟨_, _, v1⟩ := lay_view m.nxt n y (m.newCls 0) h (newCls_wf w _) ⟨_, Tr.get_set_same _ _ _, rfl⟩
    rw [layA_plain _ _ _ hp] at v1
    simp only at v1
    have key : ∀ (k : Nat) (a b : Mem) (x y : AV), plainA x = true → viewA k a x = some y → viewA k b x = some y := by
      intro k a b
      induction k with
      | zero => intro x y _ h; simp [viewA] at h
      | succ k ih =>
        have hm : ∀ (xs ys : List AV), plainAs xs = true → mapO (viewA k a) xs = some ys → mapO (viewA k b) xs = some ys := by
          intro xs
          induction xs with
          | nil => intro ys _ h; exact h
          | cons x xs ih2 =>
            intro ys hp h
            simp only [plainAs, Bool.and_eq_true] at hp
            simp only [mapO] at h ⊢
            cases hx : viewA k a x with
            | none => simp [hx] at h
            | some z =>
              cases hs : mapO (viewA k a) xs with
              | none => simp [hx, hs] at h
              | some zs =>
                simp only [hx, hs] at h
                simp only [ih x z hp.1 hx, ih2 zs hp.2 hs]
                exact h
        intro x y hp h
        cases x <;> simp only [plainA] at hp <;> simp only [viewA] at h ⊢ <;> try (exact h) <;> try (cases hp; done)
        case agg xs =>
          cases hs : mapO (viewA k a) xs with
          | none => simp [hs] at h
          | some zs => rw [hs] at h; rw [hm _ _ hp hs]; exact h
        case tup xs =>
          cases hs : mapO (viewA k a) xs with
          | none => simp [hs] at h
          | some zs => rw [hs] at h; rw [hm _ _ hp hs]; exact h
        all_goals cases hp
    exact key n _ _ _ _ hp v1
  | false =>
    simp only [cond_false]
    obtain ⟨w1, k1, v1⟩ := lay_view m.nxt n y (m.newCls (hiA y)) h (newCls_wf w _) ⟨_, Tr.get_set_same _ _ _, rfl⟩
    exact ⟨w1, (newCls_keep m _).trans (k1.less (Nat.le_succ _)), v1⟩
theorem view_tup {n : Nat} {m : Mem} {x : AV} {ys : List AV} (h : viewA (n + 1) m x = some (.tup ys)) : ∃ xs, x = .tup xs ∧ mapO (viewA n m) xs = some ys := by
  cases x <;> simp only [viewA] at h <;> try (cases h; done)
  case tup xs =>
    cases hs : mapO (viewA n m) xs with
    | none => simp [hs] at h
    | some zs => simp only [hs, Option.map_some, Option.some.injEq, AV.tup.injEq] at h; subst h; exact ⟨xs, rfl, hs⟩
  case sl v k len sz =>
    split at h
    · rename_i xs _
      cases hs : mapO (viewA n m) xs <;> simp [hs] at h
    · cases h
  case ro xs _ _ => cases hs : mapO (viewA n m) xs <;> simp [hs] at h
  case rp xs => cases hs : mapO (viewA n m) xs <;> simp [hs] at h
  case agg xs => cases hs : mapO (viewA n m) xs <;> simp [hs] at h
  case iface t x => cases hs : viewA n m x <;> simp [hs] at h
end Go.Vz
