/-
  The plain law: Parse of a text that Text gives is the list.
-/
import Derived.Test.YtgagkmbhlpmceaaGreatDoorVzPa7
set_option linter.unusedVariables false
set_option linter.unusedSimpArgs false
namespace Go.Vz
open Go
theorem cutN_line (c : Nat) : ∀ (a b : List Nat), ¬ c ∈ a → cutN c (a ++ c :: b) = some (a, b)
  | [], b, _ => by simp [cutN]
  | x :: a, b, h => by
    have hx : ¬ x = c := fun e => h (by simp [e])
    rw [List.cons_append, cutN, if_neg hx, cutN_line c a b (fun h' => h (by simp [h']))]
    rfl
theorem splitN_one (c : Nat) : ∀ (a : List Nat), ¬ c ∈ a → splitN c a = [a]
  | [], _ => rfl
  | x :: a, h => by
    have hx : ¬ x = c := fun e => h (by simp [e])
    rw [splitN, if_neg hx, splitN_one c a (fun h' => h (by simp [h']))]
theorem splitN_line {c : Nat} {a b : List Nat} (h : ¬ c ∈ a) : splitN c (a ++ c :: b) = a :: splitN c b := splitN_cut (cutN_line c a b h)
theorem dig_dig : ∀ (n : Nat), ∀ b ∈ dig n, 48 ≤ b ∧ b ≤ 57 := by
  intro n
  induction n using Nat.strongRecOn with
  | _ n ih =>
    intro b hb
    rw [dig_step] at hb
    rcases List.mem_append.1 hb with h | h
    · split at h
      · cases h
      · exact ih (n / 10) (by omega) b h
    · rw [List.mem_singleton] at h; omega
theorem dig_all (n : Nat) : (dig n).all isDig = true := by
  rw [List.all_eq_true]
  intro b hb
  have := dig_dig n b hb
  unfold isDig
  simp [this]
theorem valD_snoc : ∀ (s : List Nat) (acc d : Nat), valD acc (s ++ [d]) = valD acc s * 10 + (d - 48)
  | [], acc, d => rfl
  | b :: s, acc, d => valD_snoc s (acc * 10 + (b - 48)) d
theorem valD_dig : ∀ n : Nat, valD 0 (dig n) = n := by
  intro n
  induction n using Nat.strongRecOn with
  | _ n ih =>
    rw [dig_step]
    by_cases h : n < 10
    · rw [if_pos h, List.nil_append]
      show 0 * 10 + (48 + n % 10 - 48) = n
      omega
    · rw [if_neg h, valD_snoc, ih (n / 10) (by omega)]
      omega
theorem dig_head : ∀ n : Nat, (dig n).head? = some 48 → n = 0 := by
  intro n
  induction n using Nat.strongRecOn with
  | _ n ih =>
    intro h
    rw [dig_step] at h
    by_cases hn : n < 10
    · rw [if_pos hn, List.nil_append] at h
      simp only [List.head?_cons, Option.some.injEq] at h
      omega
    · rw [if_neg hn] at h
      have hne := dig_ne (n / 10)
      cases hd : dig (n / 10) with
      | nil => exact absurd hd hne
      | cons x xs =>
        rw [hd] at h
        have := ih (n / 10) (by omega) (by rw [hd]; simpa using h)
        omega
theorem numN_dig {n : Nat} (h : n < 10000) : numN (dig n) = some n := by
  have h1 := dig_len h
  have h2 := List.length_pos_iff.2 (dig_ne n)
  unfold numN
  rw [if_neg (by omega)]
  rw [if_neg]
  · rw [if_pos (dig_all n), valD_dig]
  · rintro ⟨q1, q2⟩
    have := dig_head n q1
    subst this
    exact q2 (dig_small (by omega))
/-! ### prefixes of what is valid -/
theorem goPairs_pre (f : Int) : ∀ (l k : List (Int × Int)) (q : Option (Int × Int)), goPairs f q (l ++ k) = 0 → goPairs f q l = 0
  | [], _, _, _ => rfl
  | p :: l, k, q, h => by
    rw [List.cons_append] at h
    unfold goPairs at h ⊢
    split at h
    · cases h
    · rename_i h1
      split at h
      · cases h
      · rename_i h2
        rw [if_neg h1, if_neg h2]
        exact goPairs_pre f l k _ h
theorem pairsErr_pre {f : Int} {l k : List (Int × Int)} (h : pairsErr f (l ++ k) = 0) : pairsErr f l = 0 := by
  unfold pairsErr at h ⊢
  split at h
  · cases h
  · rename_i h1
    rw [List.length_append] at h1
    rw [if_neg (by omega)]
    exact goPairs_pre f l k none h
theorem pairsErr_nil (f : Int) : pairsErr f [] = 0 := rfl
theorem goSums_cons {f : Int} {q : Option Int} {s : Sm} {l : List Sm} : goSums f q (s :: l) = 0 ↔ (0 ≤ s.fn ∧ s.fn < 256) ∧ ¬ notMore q s.fn ∧ pairsErr f s.ex = 0 ∧ pairsErr f s.th = 0 ∧ goSums f (some s.fn) l = 0 := by
  constructor
  · intro h
    unfold goSums at h
    split at h
    · cases h
    · rename_i h1
      split at h
      · cases h
      · rename_i h2
        split at h
        · rename_i h3; exact absurd h h3
        · rename_i h3
          split at h
          · rename_i h4; exact absurd h h4
          · rename_i h4
            exact ⟨by omega, h2, by simpa using h3, by simpa using h4, h⟩
  · rintro ⟨h1, h2, h3, h4, h5⟩
    unfold goSums
    rw [if_neg (by omega), if_neg h2, if_neg (by simpa using h3), if_neg (by simpa using h4)]
    exact h5
theorem notMore_none (a : Int) : ¬ notMore none a := fun h => h
theorem goSums_none {f : Int} {q : Option Int} {s : Sm} {l : List Sm} (h : goSums f q (s :: l) = 0) : goSums f none (s :: l) = 0 := by
  rw [goSums_cons] at h ⊢
  exact ⟨h.1, notMore_none _, h.2.2⟩
theorem goSums_mid {s s' : Sm} {r : List Sm} (hf : s'.fn = s.fn) (he : pairsErr 1024 s'.ex = 0) (ht : pairsErr 1024 s'.th = 0) : ∀ (l0 : List Sm) (q : Option Int), goSums 1024 q (l0 ++ s :: r) = 0 → goSums 1024 none ((l0 ++ [s']).drop ((l0 ++ [s']).length - 2)) = 0
  | [], q, h => by
    rw [List.nil_append, goSums_cons] at h
    show goSums 1024 none [s'] = 0
    rw [goSums_cons, hf]
    exact ⟨h.1, notMore_none _, he, ht, rfl⟩
  | [a], q, h => by
    rw [List.singleton_append, goSums_cons, goSums_cons] at h
    show goSums 1024 none [a, s'] = 0
    rw [goSums_cons, goSums_cons, hf]
    exact ⟨h.1, notMore_none _, h.2.2.1, h.2.2.2.1, h.2.2.2.2.1, h.2.2.2.2.2.1, he, ht, rfl⟩
  | a :: b :: l0, q, h => by
    rw [List.cons_append, goSums_cons] at h
    have ih := goSums_mid hf he ht (b :: l0) (some a.fn) h.2.2.2.2
    have e : ((a :: b :: l0) ++ [s']).drop (((a :: b :: l0) ++ [s']).length - 2) = ((b :: l0) ++ [s']).drop (((b :: l0) ++ [s']).length - 2) := by
      simp only [List.cons_append, List.length_cons, List.length_append, List.length_nil]
      rw [show l0.length + (0 + 1) + 1 + 1 - 2 = (l0.length + (0 + 1) + 1 - 2) + 1 by omega, List.drop_succ_cons]
    rw [e]
    exact ih
theorem grownE_mid {l0 r : List Sm} {s s' : Sm} (h : sumsErr 1024 (l0 ++ s :: r) = 0) (hf : s'.fn = s.fn) (he : pairsErr 1024 s'.ex = 0) (ht : pairsErr 1024 s'.th = 0) : grownE (l0 ++ [s']) = 0 := by
  have h1 := (sumsErr_ok h).1
  rw [List.length_append, List.length_cons] at h1
  have h2 : goSums 1024 none (l0 ++ s :: r) = 0 := by
    unfold sumsErr at h
    rw [if_neg (by omega)] at h
    split at h
    · cases h
    · exact h
  unfold grownE
  rw [if_neg (by simp; omega)]
  unfold sumsErr
  rw [if_neg (by omega), if_neg (by rw [List.length_drop]; simp; omega)]
  exact goSums_mid hf he ht l0 none h2
/-! ### lines -/
theorem no32 (n : Nat) : ¬ 32 ∈ dig n := fun h => by have := dig_dig n 32 h; omega
theorem no10 (n : Nat) : ¬ 10 ∈ dig n := fun h => by have := dig_dig n 10 h; omega
theorem lineP_func {l : List Sm} {a : Nat} (h : a < 10000) : lineP l (wFunc ++ 32 :: dig a) = (grownE (l ++ [⟨a, [], []⟩]), l ++ [⟨a, [], []⟩]) := by
  unfold lineP
  rw [splitN_line (by decide), splitN_one 32 (dig a) (no32 a)]
  simp only [numsP, numN_dig h]
  rw [if_pos ⟨trivial, rfl⟩]
  rfl
theorem lineP_pair {l0 : List Sm} {s : Sm} {w : List Nat} (hw : w = wExit ∨ w = wThrow) {a b : Nat} (ha : a < 10000) (hb : b < 10000) : lineP (l0 ++ [s]) (w ++ 32 :: (dig a ++ 32 :: dig b)) = linePush (l0 ++ [s]) w a b := by
  have h32 : ¬ 32 ∈ w := by rcases hw with rfl | rfl <;> decide
  unfold lineP
  rw [splitN_line h32, splitN_line (no32 a), splitN_one 32 (dig b) (no32 b)]
  simp only [numsP, numN_dig ha, numN_dig hb]
  rw [if_neg (by rintro ⟨e, _⟩; rw [e] at hw; revert hw; decide), if_neg (by rintro ⟨e1, e2⟩; rcases hw with e | e; exact e1 e; exact e2 e)]
theorem last_snoc (l0 : List Sm) (s : Sm) : (l0 ++ [s]).getLast? = some s ∧ (l0 ++ [s]).dropLast = l0 := ⟨by simp, by simp⟩
theorem goP_line {f : Nat} {n : Int} {l : List Sm} {a b : List Nat} (h : ¬ 10 ∈ a) (h0 : (lineP l a).1 = 0) : goP (f + 1) n l (a ++ 10 :: b) = goP f (n + 1) (lineP l a).2 b := by
  rw [goP, if_neg (by simp), cutN_line 10 a b h]
  simp only
  rw [if_pos h0]
theorem pairs_exit {l0 r : List Sm} {s : Sm} (hl : sumsErr 1024 (l0 ++ s :: r) = 0) (rest : List Nat) (R : List Sm × Int × Int)
    (K : ∀ (f : Nat) (n : Int), rest.length < f → goP f n (l0 ++ [⟨s.fn, s.ex, []⟩]) rest = R) : ∀ (e2 e1 : List (Int × Int)) (f : Nat) (n : Int), e1 ++ e2 = s.ex → (textPairs wExit e2 ++ rest).length < f → goP f n (l0 ++ [⟨s.fn, e1, []⟩]) (textPairs wExit e2 ++ rest) = R
  | [], e1, f, n, he, hf => by rw [List.append_nil] at he; subst he; exact K f n (by simpa [textPairs] using hf)
  | p :: e2, e1, f, n, he, hf => by
    have hok : okSm s := (sumsErr_ok hl).2 s (by simp)
    have hp : okPair p := hok.2.2.1.2 p (by rw [← he]; simp)
    have hpe : pairsErr 1024 s.ex = 0 := by
      have h2 : ∀ (l : List Sm) (q : Option Int), goSums 1024 q (l ++ s :: r) = 0 → pairsErr 1024 s.ex = 0 := by
        intro l
        induction l with
        | nil => intro q h; rw [List.nil_append, goSums_cons] at h; exact h.2.2.1
        | cons a l ih => intro q h; rw [List.cons_append, goSums_cons] at h; exact ih _ h.2.2.2.2
      have h1 := (sumsErr_ok hl).1
      unfold sumsErr at hl
      rw [if_neg (by omega), if_neg (by omega)] at hl
      exact h2 l0 none hl
    obtain ⟨pa, pb⟩ := p
    unfold okPair at hp
    simp only at hp
    obtain ⟨a, rfl⟩ := Int.eq_ofNat_of_zero_le hp.1
    obtain ⟨b, rfl⟩ := Int.eq_ofNat_of_zero_le hp.2.2.1
    have hg : grownE (l0 ++ [⟨s.fn, e1 ++ [((a : Int), (b : Int))], []⟩]) = 0 := grownE_mid hl rfl (by
      have e : e1 ++ [((a : Int), (b : Int))] ++ e2 = s.ex := by rw [← he]; simp
      rw [← e] at hpe; exact pairsErr_pre hpe) (pairsErr_nil 1024)
    have hlp : lineP (l0 ++ [⟨s.fn, e1, []⟩]) (wExit ++ 32 :: (dig a ++ 32 :: dig b)) = (grownE (l0 ++ [⟨s.fn, e1 ++ [((a : Int), (b : Int))], []⟩]), l0 ++ [⟨s.fn, e1 ++ [((a : Int), (b : Int))], []⟩]) := by
      rw [lineP_pair (.inl rfl) (by omega) (by omega)]
      unfold linePush
      rw [(last_snoc l0 _).1]
      simp only [(last_snoc l0 _).2]
      rw [if_neg (by decide), if_neg (by simp)]
    obtain ⟨f', rfl⟩ : ∃ f', f = f' + 1 := ⟨f - 1, by omega⟩
    have et : textPairs wExit (((a : Int), (b : Int)) :: e2) ++ rest = (wExit ++ 32 :: (dig a ++ 32 :: dig b)) ++ 10 :: (textPairs wExit e2 ++ rest) := by
      simp [textPairs, linePair]
    rw [et] at hf ⊢
    rw [goP_line (by
      simp only [List.mem_append, List.mem_cons]
      rintro (h | h | h | h | h)
      · revert h; decide
      · omega
      · exact no10 a h
      · omega
      · exact no10 b h) (by rw [hlp]; exact hg), hlp]
    refine pairs_exit hl rest R K e2 (e1 ++ [((a : Int), (b : Int))]) f' (n + 1) (by rw [← he]; simp) ?_
    simp only [List.length_append, List.length_cons] at hf ⊢
    omega
theorem pairs_throw {l0 r : List Sm} {s : Sm} (hl : sumsErr 1024 (l0 ++ s :: r) = 0) (rest : List Nat) (R : List Sm × Int × Int)
    (K : ∀ (f : Nat) (n : Int), rest.length < f → goP f n (l0 ++ [s]) rest = R) : ∀ (e2 e1 : List (Int × Int)) (f : Nat) (n : Int), e1 ++ e2 = s.th → (textPairs wThrow e2 ++ rest).length < f → goP f n (l0 ++ [⟨s.fn, s.ex, e1⟩]) (textPairs wThrow e2 ++ rest) = R
  | [], e1, f, n, he, hf => by rw [List.append_nil] at he; subst he; exact K f n (by simpa [textPairs] using hf)
  | p :: e2, e1, f, n, he, hf => by
    have hok : okSm s := (sumsErr_ok hl).2 s (by simp)
    have hp : okPair p := hok.2.2.2.2 p (by rw [← he]; simp)
    have hpe : pairsErr 1024 s.ex = 0 ∧ pairsErr 1024 s.th = 0 := by
      have h2 : ∀ (l : List Sm) (q : Option Int), goSums 1024 q (l ++ s :: r) = 0 → pairsErr 1024 s.ex = 0 ∧ pairsErr 1024 s.th = 0 := by
        intro l
        induction l with
        | nil => intro q h; rw [List.nil_append, goSums_cons] at h; exact ⟨h.2.2.1, h.2.2.2.1⟩
        | cons a l ih => intro q h; rw [List.cons_append, goSums_cons] at h; exact ih _ h.2.2.2.2
      have h1 := (sumsErr_ok hl).1
      unfold sumsErr at hl
      rw [if_neg (by omega), if_neg (by omega)] at hl
      exact h2 l0 none hl
    obtain ⟨pa, pb⟩ := p
    unfold okPair at hp
    simp only at hp
    obtain ⟨a, rfl⟩ := Int.eq_ofNat_of_zero_le hp.1
    obtain ⟨b, rfl⟩ := Int.eq_ofNat_of_zero_le hp.2.2.1
    have hg : grownE (l0 ++ [⟨s.fn, s.ex, e1 ++ [((a : Int), (b : Int))]⟩]) = 0 := grownE_mid hl rfl hpe.1 (by
      have e : e1 ++ [((a : Int), (b : Int))] ++ e2 = s.th := by rw [← he]; simp
      have h2 := hpe.2
      rw [← e] at h2; exact pairsErr_pre h2)
    have hlp : lineP (l0 ++ [⟨s.fn, s.ex, e1⟩]) (wThrow ++ 32 :: (dig a ++ 32 :: dig b)) = (grownE (l0 ++ [⟨s.fn, s.ex, e1 ++ [((a : Int), (b : Int))]⟩]), l0 ++ [⟨s.fn, s.ex, e1 ++ [((a : Int), (b : Int))]⟩]) := by
      rw [lineP_pair (.inr rfl) (by omega) (by omega)]
      unfold linePush
      rw [(last_snoc l0 _).1]
      simp only [(last_snoc l0 _).2]
      rw [if_pos trivial]
    obtain ⟨f', rfl⟩ : ∃ f', f = f' + 1 := ⟨f - 1, by omega⟩
    have et : textPairs wThrow (((a : Int), (b : Int)) :: e2) ++ rest = (wThrow ++ 32 :: (dig a ++ 32 :: dig b)) ++ 10 :: (textPairs wThrow e2 ++ rest) := by
      simp [textPairs, linePair]
    rw [et] at hf ⊢
    rw [goP_line (by
      simp only [List.mem_append, List.mem_cons]
      rintro (h | h | h | h | h)
      · revert h; decide
      · omega
      · exact no10 a h
      · omega
      · exact no10 b h) (by rw [hlp]; exact hg), hlp]
    refine pairs_throw hl rest R K e2 (e1 ++ [((a : Int), (b : Int))]) f' (n + 1) (by rw [← he]; simp) ?_
    simp only [List.length_append, List.length_cons] at hf ⊢
    omega
theorem goP_text : ∀ (l1 l0 : List Sm) (f : Nat) (n : Int), sumsErr 1024 (l0 ++ l1) = 0 → (textOf l1).length < f → goP f n l0 (textOf l1) = (l0 ++ l1, 0, 0)
  | [], l0, f, n, _, hf => by
    obtain ⟨f', rfl⟩ : ∃ f', f = f' + 1 := ⟨f - 1, by simp [textOf] at hf; omega⟩
    simp [textOf, goP]
  | s :: l1, l0, f, n, h, hf => by
    have hok : okSm s := (sumsErr_ok h).2 s (by simp)
    obtain ⟨fn, ex, th⟩ := s
    have hfn0 := hok.1
    have hfn1 := hok.2.1
    simp only at hfn0 hfn1
    obtain ⟨a, rfl⟩ := Int.eq_ofNat_of_zero_le hfn0
    have hg : grownE (l0 ++ [⟨(a : Int), [], []⟩]) = 0 := grownE_mid h rfl (pairsErr_nil 1024) (pairsErr_nil 1024)
    have et : textOf (⟨(a : Int), ex, th⟩ :: l1) = (wFunc ++ 32 :: dig a) ++ 10 :: (textPairs wExit ex ++ (textPairs wThrow th ++ textOf l1)) := by
      simp [textOf, textSum, lineFunc]
    obtain ⟨f', rfl⟩ : ∃ f', f = f' + 1 := ⟨f - 1, by omega⟩
    rw [et] at hf ⊢
    have hlp := lineP_func (l := l0) (a := a) (by omega)
    rw [goP_line (by
      simp only [List.mem_append, List.mem_cons]
      rintro (h | h | h)
      · revert h; decide
      · omega
      · exact no10 a h) (by rw [hlp]; exact hg), hlp]
    refine pairs_exit (s := ⟨(a : Int), ex, th⟩) h _ _ (fun f2 n2 hf2 => pairs_throw (s := ⟨(a : Int), ex, th⟩) h _ _ (fun f3 n3 hf3 => ?_) th [] f2 n2 rfl hf2) ex [] f' (n + 1) rfl ?_
    · have := goP_text l1 (l0 ++ [⟨(a : Int), ex, th⟩]) f3 n3 (by simpa using h) hf3
      rw [this]; simp
    · simp only [List.length_append, List.length_cons] at hf ⊢
      omega
/-- the law -/
theorem parse_text {l : List Sm} (h : sumsErr 1024 l = 0) (hl : (textOf l).length ≤ 65536) : parseP (textOf l) = (l, 0, 0) := by
  unfold parseP
  rw [if_neg (by omega), goP_text l [] _ _ (by simpa using h) (Nat.lt_succ_self _)]
  rfl
end Go.Vz
