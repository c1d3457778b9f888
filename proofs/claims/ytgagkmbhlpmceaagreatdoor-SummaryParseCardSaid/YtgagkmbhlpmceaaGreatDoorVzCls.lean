/-
  WINDOWS BY THEIR CLASSES: what a step leaves as it is, told by the classes that it touches.
-/
import Derived.Test.YtgagkmbhlpmceaaGreatDoorVzKeep
set_option linter.unusedVariables false
set_option linter.unusedSimpArgs false
namespace Go.Vz
open Go
/-- windows of no class of X stay -/
structure FrameC (m m' : Mem) (X : List Nat) : Prop where
  nxt : m.nxt ≤ m'.nxt
  obs : ∀ u W, m.obs.get u = some (.win W) → W.cls < m.nxt → ¬ W.cls ∈ X → m'.obs.get u = some (.win W)
  cls : ∀ c, c < m.nxt → ¬ c ∈ X → m'.cls.get c = m.cls.get c
theorem FrameC.refl (m : Mem) (X : List Nat) : FrameC m m X := ⟨Nat.le_refl _, fun _ _ h _ _ => h, fun _ _ _ => rfl⟩
theorem FrameC.trans {m m' m'' : Mem} {X Y : List Nat} (h : FrameC m m' X) (k : FrameC m' m'' Y) : FrameC m m'' (X ++ Y) :=
  ⟨Nat.le_trans h.nxt k.nxt, fun u W h1 h2 h3 => k.obs u W (h.obs u W h1 h2 (fun hx => h3 (List.mem_append_left _ hx))) (Nat.lt_of_lt_of_le h2 h.nxt) (fun hy => h3 (List.mem_append_right _ hy)),
   fun c h2 h3 => (k.cls c (Nat.lt_of_lt_of_le h2 h.nxt) (fun hy => h3 (List.mem_append_right _ hy))).trans (h.cls c h2 (fun hx => h3 (List.mem_append_left _ hx)))⟩
/-- classes that are new need not be named -/
theorem FrameC.less {m m' : Mem} {X Y : List Nat} (h : FrameC m m' X) (hs : ∀ c ∈ X, c ∈ Y ∨ m.nxt ≤ c) : FrameC m m' Y :=
  ⟨h.nxt, fun u W h1 h2 h3 => h.obs u W h1 h2 (fun hx => by rcases hs _ hx with e | e; exact h3 e; omega), fun c h2 h3 => h.cls c h2 (fun hx => by rcases hs _ hx with e | e; exact h3 e; omega)⟩
theorem FrameC.then {m m' m'' : Mem} {X Y : List Nat} (h : FrameC m m' X) (k : FrameC m' m'' Y) (hs : ∀ c ∈ Y, c ∈ X ∨ m.nxt ≤ c) : FrameC m m'' X :=
  (h.trans k).less (fun c hc => by rcases List.mem_append.1 hc with e | e; exact .inl e; exact hs c e)
structure WinC (m : Mem) (v n : Nat) (xs : List AV) (cl : Nat) (e : TypeId) : Prop where
  ex : ∃ W c, m.obs.get v = some (.win W) ∧ W.cls = cl ∧ m.cls.get cl = some c ∧ (c.own = none ∨ c.own = some v) ∧ c.fro = false ∧ W.lo = 0 ∧ W.hi = n ∧ W.read 0 n = some xs ∧ W.ty = some e
  lt : v < m.nxt ∧ cl < m.nxt
theorem WinC.frame {m m' : Mem} {v n cl : Nat} {xs : List AV} {e : TypeId} {X : List Nat} (h : WinC m v n xs cl e) (k : FrameC m m' X) (hx : ¬ cl ∈ X) : WinC m' v n xs cl e := by
  obtain ⟨⟨W, c, h1, h2, h3, h4⟩, h5, h6⟩ := h
  refine ⟨⟨W, c, k.obs v W h1 (by omega) (by rw [h2]; exact hx), h2, (k.cls cl h6 hx).trans h3, h4⟩, ?_, ?_⟩
  · have := k.nxt; omega
  · have := k.nxt; omega
theorem WinC.ownW {m : Mem} {v n cl : Nat} {xs : List AV} {e : TypeId} (h : WinC m v n xs cl e) : ∃ W c, OwnW 0 m.nxt m v n xs W c ∧ W.cls = cl ∧ W.ty = some e := by
  obtain ⟨⟨W, c, h1, h2, h3, h4, h5, h6, h7, h8, h9⟩, h10, h11⟩ := h
  exact ⟨W, c, ⟨⟨Nat.zero_le _, Nat.zero_le _⟩, ⟨h10, by omega⟩, h1, by rw [h2]; exact h3, h4, h5, h6, h7, h8⟩, h2, h9⟩
theorem WinC.load {m : Mem} {v n cl : Nat} {xs : List AV} {e : TypeId} (h : WinC m v n xs cl e) {k a : Nat} (hk : k + a ≤ n) : m.load (.ptr v k) a = some ((xs.drop k).take a) := by
  obtain ⟨W, c, h1, _⟩ := h.ownW
  exact h1.load hk
theorem WinC.length {m : Mem} {v n cl : Nat} {xs : List AV} {e : TypeId} (h : WinC m v n xs cl e) : xs.length = n := by
  obtain ⟨W, c, h1, _⟩ := h.ownW
  exact read_length h1.rd
theorem read_zone {t : Tr AV} {k hi : Nat} {ty : Option TypeId} {c n : Nat} {xs : List AV} (hh : k + xs.length ≤ hi) (hn : n = xs.length) : Win.read ⟨setCells t k xs, 0, hi, c, ty⟩ k n = some xs := by
  have := read_congr (W := ⟨setCells t k xs, k, k + xs.length, c, ty⟩) (W' := ⟨setCells t k xs, 0, hi, c, ty⟩) (k := k) (n := n) (xs := xs)
    (fun j x j1 j2 hj => by rw [Win.cell_iff] at hj ⊢; exact ⟨Nat.zero_le _, by have h1 : j < k + xs.length := hj.2.1; show j < hi; omega, hj.2.2⟩) (read_all rfl hn)
  exact this
/-- cells are written -/
theorem WinC.store {m : Mem} (w : WFm m) {v n cl : Nat} {xs : List AV} {e : TypeId} (h : WinC m v n xs cl e) {k : Nat} {zs : List AV} (hk : k + zs.length ≤ n) (hz : allCells zs = true) :
    ∃ m', m.store (.ptr v k) zs = some m' ∧ WFm m' ∧ m'.nxt = m.nxt ∧ FrameC m m' [cl] ∧ WinC m' v n (xs.take k ++ zs ++ xs.drop (k + zs.length)) cl e := by
  have hlen := h.length
  obtain ⟨⟨W, c, h1, h2, h3, h4, h5, h6, h7, h8, h9⟩, h10, h11⟩ := h
  subst h2
  have hlive : m.live v = some (W, c) := by
    unfold Mem.live
    simp only [h1, h3]
    rcases h4 with e | e
    · simp only [e]
    · simp only [e, Nat.beq_refl, cond_true]
  refine ⟨{ m with obs := m.obs.set v (.win { W with cells := setCells W.cells k zs }), cls := m.cls.set W.cls { c with own := some v, st := c.st + 1 } }, ?_, ⟨fun u hu => ?_, fun u hu => ?_⟩, rfl, ⟨Nat.le_refl _, fun u W' hu hlt hx => ?_, fun c' hc hx => ?_⟩,
    ⟨⟨{ W with cells := setCells W.cells k zs }, { c with own := some v, st := c.st + 1 }, Tr.get_set_same _ _ _, rfl, Tr.get_set_same _ _ _, .inr rfl, h5, h6, h7, ?_, h9⟩, h10, h11⟩⟩
  · have e1 : Nat.ble W.lo k = true := by rw [h6]; exact Nat.ble_eq_true_of_le (Nat.zero_le _)
    have e2 : Nat.ble (k + zs.length) W.hi = true := by rw [h7]; exact Nat.ble_eq_true_of_le hk
    simp only [Mem.store, hlive, h5, Bool.not_false, e1, e2, hz, Bool.and_self, cond_true]
  · have hu' : m.nxt ≤ u := hu
    show (m.obs.set v _).get u = none
    rw [Tr.get_set_ne _ _ (by omega)]; exact w.obs u hu'
  · have hu' : m.nxt ≤ u := hu
    show (m.cls.set W.cls _).get u = none
    rw [Tr.get_set_ne _ _ (by omega)]; exact w.cls u hu'
  · have hne : u ≠ v := fun e => by
      subst e
      rw [h1] at hu
      cases hu
      exact hx (by simp)
    show (m.obs.set v _).get u = _
    rw [Tr.get_set_ne _ _ hne]; exact hu
  · have hne : c' ≠ W.cls := fun e => hx (by simp [e])
    show (m.cls.set W.cls _).get c' = _
    rw [Tr.get_set_ne _ _ hne]
  · have h8' := h8
    rw [show n = k + (zs.length + (n - k - zs.length)) by omega] at h8
    obtain ⟨r1, r2⟩ := read_part h8
    rw [Nat.zero_add] at r2
    obtain ⟨r3, r4⟩ := read_part r2
    have s1 : Win.read { W with cells := setCells W.cells k zs } 0 k = some (xs.take k) := read_congr (W := W) (fun j x j1 j2 hj => by
      rw [Win.cell_iff] at hj ⊢
      refine ⟨hj.1, hj.2.1, ?_⟩
      show (setCells W.cells k zs).get j = some x
      rw [setCells_get, if_neg (by omega)]
      exact hj.2.2) r1
    have s2 : Win.read { W with cells := setCells W.cells k zs } k zs.length = some zs := by
      have := read_zone (t := W.cells) (k := k) (hi := W.hi) (ty := W.ty) (c := W.cls) (n := zs.length) (xs := zs) (by omega) rfl
      rw [← h6] at this
      exact this
    have s3 : Win.read { W with cells := setCells W.cells k zs } (k + zs.length) (n - k - zs.length) = some ((xs.drop k).drop zs.length) := read_congr (W := W) (fun j x j1 j2 hj => by
      rw [Win.cell_iff] at hj ⊢
      refine ⟨hj.1, hj.2.1, ?_⟩
      show (setCells W.cells k zs).get j = some x
      rw [setCells_get, if_neg (by omega)]
      exact hj.2.2) r4
    have s23 := read_split s2 s3
    have s123 := read_split s1 (by rw [Nat.zero_add]; exact s23)
    rw [show k + (zs.length + (n - k - zs.length)) = n by omega, List.drop_drop] at s123
    rw [List.append_assoc]
    exact s123
theorem fresh_frame (m : Mem) (t : Option TypeId) (xs : List AV) (X : List Nat) (w : WFm m) : FrameC m (m.fresh t xs) X := by
  refine ⟨Nat.le_succ _, fun u W hu _ _ => ?_, fun c hc _ => Tr.get_set_ne _ _ (by omega)⟩
  show (m.obs.set m.nxt _).get u = _
  rw [Tr.get_set_ne]
  · exact hu
  · intro e; rw [e, w.obs _ (Nat.le_refl _)] at hu; cases hu
theorem fresh_winC (m : Mem) (e : TypeId) (xs : List AV) : WinC (m.fresh (some e) xs) m.nxt xs.length xs m.nxt e :=
  ⟨⟨_, _, Tr.get_set_same _ _ _, rfl, Tr.get_set_same _ _ _, .inl rfl, rfl, rfl, rfl, read_all (by omega) rfl, rfl⟩, Nat.lt_succ_self _, Nat.lt_succ_self _⟩
/-- a box, written at once -/
theorem box_winC {m : Mem} (w : WFm m) (e : TypeId) {zs xs : List AV} (hl : xs.length = zs.length) (hc : allCells xs = true) :
    ∃ m', (m.fresh (some e) zs).store (.ptr m.nxt 0) xs = some m' ∧ WFm m' ∧ m'.nxt = m.nxt + 1 ∧ FrameC m m' [] ∧ WinC m' m.nxt xs.length xs m.nxt e := by
  obtain ⟨m', h1, h2, h3, h4, h5⟩ := (fresh_winC m e zs).store (fresh_wf w _ _) (k := 0) (zs := xs) (by omega) hc
  refine ⟨m', h1, h2, h3, (fresh_frame m (some e) zs [] w).then h4 (fun c hc => ?_), ?_⟩
  · rw [List.mem_singleton] at hc; subst hc; exact .inr (Nat.le_refl _)
  · have e1 : zs.take 0 ++ xs ++ zs.drop (0 + xs.length) = xs := by rw [List.take_zero, List.nil_append, List.drop_of_length_le (by omega), List.append_nil]
    rw [e1, ← hl] at h5
    exact h5
/-- a slice of the run's own, in a class of its own -/
def SlC (m : Mem) (y : AV) (sz n : Nat) (xs : List AV) (cs : List Nat) (e : TypeId) : Prop :=
  (y = .nilsl ∧ n = 0 ∧ xs = [] ∧ cs = []) ∨ (0 < n ∧ xs.length = n * sz ∧ ∃ v cl, y = .sl v 0 n sz ∧ cs = [cl] ∧ WinC m v (n * sz) xs cl e)
theorem SlC.frame {m m' : Mem} {y : AV} {sz n : Nat} {xs : List AV} {cs X : List Nat} {e : TypeId} (h : SlC m y sz n xs cs e) (k : FrameC m m' X) (hx : ∀ c ∈ cs, ¬ c ∈ X) : SlC m' y sz n xs cs e := by
  rcases h with h | ⟨h1, h2, v, cl, h3, h4, h5⟩
  · exact .inl h
  · exact .inr ⟨h1, h2, v, cl, h3, h4, h5.frame k (hx cl (by rw [h4]; simp))⟩
theorem SlC.lt {m : Mem} {y : AV} {sz n : Nat} {xs : List AV} {cs : List Nat} {e : TypeId} (h : SlC m y sz n xs cs e) : ∀ c ∈ cs, c < m.nxt := by
  rcases h with ⟨_, _, _, rfl⟩ | ⟨h1, h2, v, cl, h3, rfl, h5⟩
  · intro c hc; cases hc
  · intro c hc; rw [List.mem_singleton] at hc; subst hc; exact h5.lt.2
theorem SlC.len {m : Mem} {y : AV} {sz n : Nat} {xs : List AV} {cs : List Nat} {e : TypeId} (h : SlC m y sz n xs cs e) : xs.length = n * sz := by
  rcases h with ⟨_, h, h', _⟩ | ⟨_, h, _⟩
  · simp [h, h']
  · exact h
theorem SlC.ownS {m : Mem} {y : AV} {sz n : Nat} {xs : List AV} {cs : List Nat} {e : TypeId} (h : SlC m y sz n xs cs e) : OwnS 0 m.nxt m y sz n xs := by
  rcases h with ⟨h1, h2, h3, _⟩ | ⟨h1, h2, v, cl, h3, h4, h5⟩
  · exact .inl ⟨h1, h2, h3⟩
  · obtain ⟨W, c, q1, _⟩ := h5.ownW
    exact .inr ⟨h1, h2, v, W, c, h3, q1⟩
theorem SlC.cell {m : Mem} {y : AV} {sz n : Nat} {xs : List AV} {cs : List Nat} {e : TypeId} (h : SlC m y sz n xs cs e) : y.isCell = true := by
  rcases h with ⟨rfl, _⟩ | ⟨_, _, v, cl, rfl, _⟩ <;> rfl
/-- elements more -/
theorem SlC.append {m : Mem} {y : AV} {sz n : Nat} {xs : List AV} {cs : List Nat} {e : TypeId} (w : WFm m) (h : SlC m y sz n xs cs e) {bytes : Nat} {n' : Nat} {zs : List AV} (hn' : 0 < n') (hcs : zs.length = n' * sz) (hc : allCells zs = true)
    (hb1 : (n + n') * bytes ≤ 140737488355328) (hb2 : n + n' ≤ 9223372036854775807) :
    ∃ y' m' cs', appendA e sz bytes m y n' zs = some (y', m') ∧ WFm m' ∧ FrameC m m' cs ∧ SlC m' y' sz (n + n') (xs ++ zs) cs' e ∧ m'.nxt = m.nxt + 1 ∧ (cs' = cs ∨ cs' = [m.nxt]) := by
  have hn0 : Nat.beq n' 0 = false := by cases hb : Nat.beq n' 0 with | false => rfl | true => have := Nat.eq_of_beq_eq_true hb; omega
  rcases h with ⟨rfl, rfl, rfl, rfl⟩ | ⟨h1, h2, v, cl, rfl, rfl, h4⟩
  · rw [Nat.zero_add] at hb1 hb2 ⊢
    refine ⟨.sl m.nxt 0 n' sz, m.fresh (some e) zs, [m.nxt], ?_, fresh_wf w _ _, fresh_frame m _ _ _ w, .inr ⟨hn', by simpa using hcs, m.nxt, m.nxt, rfl, rfl, ?_⟩, rfl, .inr rfl⟩
    · simp only [appendA, hn0, cond_false, Nat.ble_eq_true_of_le hb1, Nat.ble_eq_true_of_le hb2, hc, Bool.and_self, cond_true]
    · have := fresh_winC m e zs
      rw [hcs] at this
      exact this
  · obtain ⟨⟨W, c, q1, rfl, q3, q4, q5, q6, q7, q8, q9⟩, q10, q11⟩ := h4
    have hlive : m.live v = some (W, c) := by
      unfold Mem.live
      simp only [q1, q3]
      rcases q4 with e | e
      · simp only [e]
      · simp only [e, Nat.beq_refl, cond_true]
    have hp : Nat.ble W.lo 0 = true := by rw [q6]; rfl
    have hp2 : Nat.ble (0 + n * sz) W.hi = true := by rw [q7, Nat.zero_add]; exact Nat.ble_eq_true_of_le (Nat.le_refl _)
    obtain ⟨own, hod⟩ : ∃ own, own = bif Nat.beq (0 + n * sz) c.hw then (match c.own with | none => none | some _ => some m.nxt) else some m.nxt := ⟨_, rfl⟩
    have hown : own = none ∨ own = some m.nxt := by
      rw [hod]
      cases Nat.beq (0 + n * sz) c.hw
      · exact .inr rfl
      · cases c.own
        · exact .inl rfl
        · exact .inr rfl
    have hty : (bif tyIs W.ty e && Nat.beq 0 W.lo then some e else none) = some e := by
      rw [q9, q6]; simp [tyIs]
    refine ⟨.sl m.nxt 0 (n + n') sz,
      { obs := m.obs.set m.nxt (.win ⟨setCells W.cells (0 + n * sz) zs, 0, 0 + n * sz + zs.length, W.cls, some e⟩)
        cls := m.cls.set W.cls { c with hw := 0 + n * sz + zs.length, own := own, st := c.st + 1 }
        nxt := m.nxt + 1 }, [W.cls], ?_, ⟨fun u hu => ?_, fun u hu => ?_⟩, ⟨Nat.le_succ _, fun u W' hu hlt hx => ?_, fun c' hc hx => ?_⟩,
      .inr ⟨by omega, ?_, m.nxt, W.cls, rfl, rfl, ⟨⟨⟨setCells W.cells (0 + n * sz) zs, 0, 0 + n * sz + zs.length, W.cls, some e⟩, { c with hw := 0 + n * sz + zs.length, own := own, st := c.st + 1 },
        Tr.get_set_same _ _ _, rfl, Tr.get_set_same _ _ _, hown, q5, rfl, ?_, ?_, rfl⟩, Nat.lt_succ_self _, Nat.lt_succ_of_lt q11⟩⟩, rfl, .inl rfl⟩
    · simp only [appendA, Nat.beq_refl, cond_true, hn0, cond_false, Nat.ble_eq_true_of_le hb1, Nat.ble_eq_true_of_le hb2, hc, Bool.and_self, hlive, q5, Bool.not_false, hp, hp2, hod, hty]
      rfl
    · have hu' : m.nxt + 1 ≤ u := hu
      show (m.obs.set m.nxt _).get u = none
      rw [Tr.get_set_ne _ _ (by omega)]; exact w.obs u (by omega)
    · have hu' : m.nxt + 1 ≤ u := hu
      show (m.cls.set W.cls _).get u = none
      rw [Tr.get_set_ne _ _ (by omega)]; exact w.cls u (by omega)
    · show (m.obs.set m.nxt _).get u = _
      rw [Tr.get_set_ne]
      · exact hu
      · intro e; rw [e, w.obs _ (Nat.le_refl _)] at hu; cases hu
    · have hne : c' ≠ W.cls := fun e => hx (by simp [e])
      show (m.cls.set W.cls _).get c' = _
      rw [Tr.get_set_ne _ _ hne]
    · simp only [List.length_append, h2, hcs, Nat.add_mul]
    · show 0 + n * sz + zs.length = (n + n') * sz
      rw [hcs, Nat.add_mul]; omega
    · rw [Nat.add_mul]
      refine read_split (read_congr (W := W) (fun j x j1 j2 hj => ?_) q8) ?_
      · rw [Win.cell_iff] at hj ⊢
        refine ⟨Nat.zero_le _, by show j < 0 + n * sz + zs.length; omega, ?_⟩
        show (setCells W.cells (0 + n * sz) zs).get j = some x
        rw [setCells_get, if_neg (by omega)]
        exact hj.2.2
      · exact read_zone (by omega) (by omega)
/-- one element more, out of a literal -/
theorem SlC.appendLit {m : Mem} {y : AV} {sz n : Nat} {xs : List AV} {cs : List Nat} {e : TypeId} (w : WFm m) (h : SlC m y sz n xs cs e) {bytes : Nat} {zs : List AV} (hzs : zs.length = sz) (hc : allCells zs = true)
    (hb1 : (n + 1) * bytes ≤ 140737488355328) (hb2 : n + 1 ≤ 9223372036854775807) :
    ∃ y' m' cs', sourceA (m.fresh (some e) zs) sz (.sl m.nxt 0 1 sz) = some (1, zs) ∧ appendA e sz bytes (m.fresh (some e) zs) y 1 zs = some (y', m') ∧ WFm m' ∧ FrameC m m' cs ∧ SlC m' y' sz (n + 1) (xs ++ zs) cs' e ∧ m.nxt ≤ m'.nxt ∧ (∀ c ∈ cs', c ∈ cs ∨ m.nxt ≤ c) := by
  subst hzs
  have k1 := fresh_frame m (some e) zs [] w
  have w1 := fresh_wf w (some e) zs
  obtain ⟨y', m', cs', a1, a2, a3, a4, a5, a6⟩ := SlC.append w1 (h.frame k1 (fun c _ hx => by cases hx)) (bytes := bytes) (n' := 1) (zs := zs) (by omega) (by omega) hc hb1 hb2
  refine ⟨y', m', cs', ?_, a1, a2, ((fresh_frame m (some e) zs cs w).then a3 (fun c hc => .inl hc)), a4, by rw [a5, fresh_nxt]; omega, fun c hc => ?_⟩
  · have := (fresh_winC m e zs).load (k := 0) (a := zs.length) (by omega)
    rw [List.drop_zero, List.take_length] at this
    simp only [sourceA, Nat.beq_refl, cond_true, Nat.one_mul, this]
  · rcases a6 with rfl | rfl
    · exact .inl hc
    · rw [List.mem_singleton] at hc; subst hc; exact .inr (by rw [fresh_nxt]; omega)
end Go.Vz
