/-
  V's SETTINGS FOR THIS SEAT: what is taken as told, and why it may be.
-/
import Derived.Test.YtgagkmbhlpmceaaGreatDoorVzBaseB
import Derived.Test.YtgagkmbhlpmceaaGreatDoorVzAs
import Derived.Lib.Bytealg
import Derived.Lib.LaidTab
import Derived.Lib.ItoaNum
import Derived.KernelRfl
set_option linter.unusedVariables false
set_option linter.unusedSimpArgs false
namespace Go.Vz
open Go Go.Proofs Go.RowKit
def idx : List Nat → Nat → Nat → Int
  | [], _, _ => -1
  | x :: s, c, i => bif Nat.beq x c then (i : Int) else idx s c (i + 1)
def cnt : List Nat → Nat → Nat → Nat
  | [], _, i => i
  | x :: s, c, i => bif Nat.beq x c then cnt s c (i + 1) else cnt s c i
def extS : FuncId → List AV → Mem → Option (AV × Mem)
  | 187, [.str s, .int .u8 (.ofNat c)], m => bif Nat.ble c 255 then some (.int .i64 (idx s c 0), m) else none
  | 191, [.str s, .int .u8 (.ofNat c)], m => bif Nat.ble c 255 then some (.int .i64 (cnt s c 0), m) else none
  | 111, [x], m => some (x, m)
  | _, _, _ => none
def primAs : List AV → Mem → Option (AV × Mem)
  | [.niliface, _], m => some (.bool false, m)
  | [.iface 89 (.ptr e j), .iface 91 (.ptr v k)], m => (m.store (.ptr v k) [.ptr e j]).map fun m => (.bool true, m)
  | _, _ => none
section
variable {w0 : World} {base : Nat} {g : Map} {m m' : Mem} {w w' : World}
theorem Below.less {b b' : Nat} {w w' : World} (h : Below b w w') (hb : b' ≤ b) : Below b' w w' := ⟨h.os, h.tape, h.output, h.size, fun k hk => h.block k (by omega)⟩
/-- what a call makes for itself turns nothing -/
theorem Rel.grow (R : Rel w0 base g m w) (h : Below w.heap.size w w') : Rel w0 base g m w' := by
  refine ⟨R.below.trans (Below.less h R.nb), R.room, R.fresh, R.clss, fun v p hp => ?_, fun v o ho => ?_, R.sep⟩
  · obtain ⟨a1, a2, a3⟩ := R.pl v p hp
    exact ⟨a1, Nat.lt_of_lt_of_le a2 h.size, a3⟩
  · obtain ⟨p, hp, hr⟩ := R.obj v o ho
    exact ⟨p, hp, hr.keep (Map.le_refl g) (h.block p.b (R.pl v p hp).2.1) (fun _ _ => rfl)⟩
theorem idx_eq (c : Nat) (hc : c ≤ 255) : ∀ (l : List UInt8) (i : Nat), idx (l.map (·.toNat)) c i = if Lib.indexByte l c.toUInt8 = -1 then -1 else Lib.indexByte l c.toUInt8 + i
  | [], i => by simp [idx, Lib.indexByte]
  | b :: l, i => by
    have ih := idx_eq c hc l (i + 1)
    have hge := Lib.indexByte_ge l c.toUInt8
    simp only [List.map_cons, idx]
    have hb : (b == c.toUInt8) = Nat.beq b.toNat c := by
      rw [Bool.eq_iff_iff, beq_iff_eq, Nat.beq_eq]
      constructor
      · intro h; subst h; simp; omega
      · intro h; subst h; simp
    unfold Lib.indexByte
    rw [hb]
    cases Nat.beq b.toNat c with
    | true => simp
    | false =>
      simp only [cond_false, Bool.false_eq_true, if_false, ih, beq_iff_eq]
      by_cases h1 : Lib.indexByte l c.toUInt8 = -1
      · simp [h1]
      · rw [if_neg h1, if_neg h1, if_neg (by omega)]; omega
theorem cnt_eq (c : Nat) (hc : c ≤ 255) : ∀ (l : List UInt8) (i : Nat), cnt (l.map (·.toNat)) c i = Lib.countByte l c.toUInt8 + i
  | [], i => by simp [cnt, Lib.countByte]
  | b :: l, i => by
    have hb : (b == c.toUInt8) = Nat.beq b.toNat c := by
      rw [Bool.eq_iff_iff, beq_iff_eq, Nat.beq_eq]
      constructor
      · intro h; subst h; simp; omega
      · intro h; subst h; simp
    simp only [List.map_cons, cnt, Lib.countByte, List.count_cons]
    rw [hb]
    have ih0 := cnt_eq c hc l i
    have ih1 := cnt_eq c hc l (i + 1)
    unfold Lib.countByte at ih0 ih1
    cases Nat.beq b.toNat c with
    | true => simp only [cond_true, ih1, if_true]; omega
    | false => simp only [cond_false, ih0, Bool.false_eq_true, if_false]; omega
theorem extS_ok {f : FuncId} {args : List AV} {x : AV} (h : extS f args m = some (x, m')) {vs : Array Value} (hv : VRels w0 base g args vs.toList) (R : Rel w0 base g m w) :
    ∃ v w' g', (callFunc f vs).run Tryz.prog w = .ok (.value v) w' ∧ g.le g' ∧ VRel w0 base g' x v ∧ Rel w0 base g' m' w' := by
  unfold extS at h
  split at h
  · rename_i m0 s c
    obtain ⟨u, v, rfl, h1, h2⟩ := args_two hv
    cases h1 with | str _ b hb =>
    cases h2
    subst hb
    cases hc : Nat.ble c 255 with
    | false => simp [hc] at h
    | true =>
      simp only [hc, cond_true, Option.some.injEq, Prod.mk.injEq] at h
      obtain ⟨rfl, rfl⟩ := h
      have hrun := run_callFunc_extern (P := Tryz.prog) (e := Extern.BytealgIndexByte.indexByte) Tryz.func187 (by kernel_rfl) (by kernel_rfl) (by kernel_rfl) (by kernel_rfl) #[.string b, .int .u8 (Int.ofNat c)] w
      rw [Lib.run_indexByteString] at hrun
      refine ⟨_, w, g, hrun, Map.le_refl g, ?_, R⟩
      have he := idx_eq c (Nat.le_of_ble_eq_true hc) b.data.toList 0
      have e2 : (Int.ofNat c).toNat.toUInt8 = c.toUInt8 := rfl
      rw [e2]
      have : idx (natOf b) c 0 = Lib.indexByte b.data.toList c.toUInt8 := by
        unfold natOf
        rw [he]
        split
        · rename_i h; rw [h]
        · simp
      rw [this]
      exact .int _ _
  · rename_i m0 s c
    obtain ⟨u, v, rfl, h1, h2⟩ := args_two hv
    cases h1 with | str _ b hb =>
    cases h2
    subst hb
    cases hc : Nat.ble c 255 with
    | false => simp [hc] at h
    | true =>
      simp only [hc, cond_true, Option.some.injEq, Prod.mk.injEq] at h
      obtain ⟨rfl, rfl⟩ := h
      have hrun := run_callFunc_extern (P := Tryz.prog) (e := Extern.BytealgCount.count) Tryz.func191 (by kernel_rfl) (by kernel_rfl) (by kernel_rfl) (by kernel_rfl) #[.string b, .int .u8 (Int.ofNat c)] w
      rw [Lib.run_countString] at hrun
      refine ⟨_, w, g, hrun, Map.le_refl g, ?_, R⟩
      have he := cnt_eq c (Nat.le_of_ble_eq_true hc) b.data.toList 0
      have e2 : (Int.ofNat c).toNat.toUInt8 = c.toUInt8 := rfl
      rw [e2]
      have : cnt (natOf b) c 0 = Lib.countByte b.data.toList c.toUInt8 := by
        unfold natOf
        rw [he]; rfl
      rw [this]
      exact .int _ _
  · rename_i m0 y
    obtain ⟨u, rfl, h1⟩ := args_one hv
    cases h
    have hrun := run_callFunc_extern (P := Tryz.prog) (e := Extern.AbiNoEscape.same) Tryz.func111 (by kernel_rfl) (by kernel_rfl) (by kernel_rfl) (by kernel_rfl) #[u] w
    rw [Lib.run_noEscape] at hrun
    exact ⟨_, w, g, hrun, Map.le_refl g, h1, R⟩
  · cases h
/-- what is laid: errors.errorType -/
def LaidErr (w0 : World) (base : Nat) : Prop := 2 < base ∧ w0.cell? ⟨0, 0, none⟩ = some (.iface 191 (.agg #[.pointer (some ⟨9, 77, none⟩)])) ∧ Lib.TabIs Tryz.prog w0 "internal/strconv.uint64pow10" .u64 Lib.pow10Tab
theorem gPow : Tryz.prog.globalNamed "internal/strconv.uint64pow10" = some 2 := by kernel_rfl
theorem LaidErr.at (L : LaidErr w0 base) (R : Rel w0 base g m w) : LaidErr w w.heap.size := by
  refine ⟨Nat.lt_of_lt_of_le L.1 R.nb, ?_, ?_⟩
  · rw [R.below.cell (by exact Nat.lt_trans (by decide) L.1)]; exact L.2.1
  · have h := L.2.2
    unfold Lib.TabIs World.var? at h ⊢
    rw [gPow] at h ⊢
    simp only [Option.bind_some] at h ⊢
    rw [R.below.block 2 L.1]
    exact h
theorem Rel.place (R : Rel w0 base g m w) {v k : Nat} {xs : List AV} {ad : Addr} (h : m.store (.ptr v k) xs = some m') (hx : xs ≠ []) (ha : VRel w0 base g (.ptr v k) (.pointer (some ad))) : (∃ old, w.cell? ad = some old) ∧ w.frozen? ad = false := by
  simp only [Mem.store] at h
  cases hl : m.live v with
  | none => simp [hl] at h
  | some Wc =>
    obtain ⟨W, c⟩ := Wc
    simp only [hl] at h
    cases hb : !c.fro && Nat.ble W.lo k && Nat.ble (k + xs.length) W.hi && allCells xs with
    | false => simp [hb] at h
    | true =>
      simp only [Bool.and_eq_true, Bool.not_eq_true'] at hb
      obtain ⟨⟨⟨hfro, hlo⟩, hhi⟩, hcx⟩ := hb
      have hlo := Nat.le_of_ble_eq_true hlo
      have hhi := Nat.le_of_ble_eq_true hhi
      obtain ⟨h1, h2, h3⟩ := Mem.live_spec hl
      obtain ⟨p, hp, cells, e, fr, c0, hheap, hsz, hc0, hfr, hhb, hown⟩ := R.obj v _ h1
      have hhb1 := hhb.1
      rw [h2] at hc0; cases hc0
      have hfr0 := hfr hfro
      subst hfr0
      cases ha with | ptr _ _ o p' hp' ho =>
      rw [hp] at hp'; cases hp'
      have hlen : 0 < xs.length := List.length_pos_iff.2 hx
      have ho' : o < cells.size := by omega
      refine ⟨⟨cells[o], ?_⟩, ?_⟩
      · rw [cell_block hheap]; exact Array.getElem?_eq_getElem ho'
      · simp [World.frozen?, hheap]
theorem storeCells_one {P : Program} {ad : Addr} {u : Value} (hu : u.oneCell' = true) (hc : ∃ old, w.cell? ad = some old) (hf : w.frozen? ad = false) (h : (storeCells ad [u]).run P w = .ok () w') : w' = w.setCell ad u := by
  obtain ⟨old, hc⟩ := hc
  have hst : (store ad u).run P w = .ok () (w.setCell ad u) := by rw [run_store P w ad u _ hu, hc]; simp [hf]
  simp only [storeCells, Addr.add_zero', Sem.run_bind, hst, Result.andThen_ok, Sem.run_pure] at h
  cases h
  rfl
theorem primAs_ok (L : LaidErr w0 base) {args : List AV} {x : AV} (h : primAs args m = some (x, m')) {vs : Array Value} (hv : VRels w0 base g args vs.toList) (R : Rel w0 base g m w) : Calls Tryz.prog 46 vs w (CallPost w0 base g m' x) := by
  unfold primAs at h
  split at h
  · cases h
    obtain ⟨u, v, rfl, h1, h2⟩ := args_two hv
    cases h1
    exact Calls.mono (as_nil v w) (fun e w' ⟨h1, h2⟩ => ⟨g, _, h1, Map.le_refl g, .bool false, by rw [h2]; exact R⟩)
  · rename_i m0 e j v k
    obtain ⟨u1, u2, rfl, h1, h2⟩ := args_two hv
    cases hst : m.store (.ptr v k) [.ptr e j] with
    | none => simp [hst] at h
    | some m1 =>
      simp only [hst, Option.map_some, Option.some.injEq, Prod.mk.injEq] at h
      obtain ⟨rfl, rfl⟩ := h
      cases h1 with | iface _ _ ev hev =>
      cases h2 with | iface _ _ tv htv =>
      have hev' := hev
      have htv' := htv
      cases hev with | ptr _ _ oe pe hge hoe =>
      cases htv with | ptr _ _ ot pt hgt hot =>
      have hcell0 : w.cell? ⟨0, 0, none⟩ = some (.iface 191 (.agg #[.pointer (some ⟨9, 77, none⟩)])) := by
        rw [R.below.cell (by exact Nat.lt_trans (by decide) L.1)]; exact L.2.1
      obtain ⟨⟨old, hold⟩, hfro⟩ := R.place hst (by simp) htv'
      refine Calls.mono (as_hit ⟨pe.b, oe, none⟩ ⟨pt.b, ot, none⟩ old w hcell0 hold hfro) (fun ev w' ⟨q1, q2⟩ => ?_)
      have hgrow : Below w.heap.size w ((((w.alloc (.cells #[.pointer (some ⟨pt.b, ot, none⟩)] 91)).alloc (.cells #[.pointer (some ⟨9, 91, none⟩), .pointer (some ⟨w.heap.size, 0, none⟩), .int .u64 150] 151)).alloc (.cells #[.pointer (some ⟨9, 91, none⟩), .pointer (some ⟨w.heap.size, 0, none⟩), .int .u64 150] 151)).alloc (.cells #[.pointer (some ⟨pe.b, oe, none⟩)] 89)) := by
        refine Below.alloc (Below.alloc (Below.alloc (Below.alloc (Below.refl _ _) ?_ _) ?_ _) ?_ _) ?_ _ <;> simp [size_alloc] <;> omega
      have R1 := R.grow hgrow
      obtain ⟨w2, hs2, R2⟩ := R1.store hst htv' (.cons _ _ _ _ hev' .nil)
      obtain ⟨hc1, hf1⟩ := R1.place hst (by simp) htv'
      have e2 := storeCells_one rfl hc1 hf1 (hs2 Tryz.prog)
      refine ⟨g, _, q1, Map.le_refl g, .bool true, ?_⟩
      rw [q2, ← e2]
      exact R2
  · cases h
end
end Go.Vz
