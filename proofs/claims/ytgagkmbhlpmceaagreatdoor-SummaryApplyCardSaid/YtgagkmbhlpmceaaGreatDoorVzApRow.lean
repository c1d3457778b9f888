/-
  SummaryApply returns true for every summary and every list of facts: the tied card of its row, without conditions of ours.
-/
import Derived.Test.YtgagkmbhlpmceaaGreatDoorVzCheckRow
import Derived.Test.YtgagkmbhlpmceaaGreatDoorVzAp3
set_option linter.unusedVariables false
set_option linter.unusedSimpArgs false
namespace Go.Vz
open Go Go.Proofs Go.RowKit
section
variable {W : World} {H : Type} {enc : TypeId × Value → H} {spare : Nat → Bool} {held : Bool}
theorem ints_flat : ∀ l : List Int, l.flatMap (fun a => [AV.int .i64 a]) = encInts l
  | [] => rfl
  | a :: l => by rw [List.flatMap_cons, ints_flat l]; rfl
theorem int_read {fuel : Nat} {cs : List Value} {d : DataW H × List MemPlace} (h : DataW.trod enc Tryz.prog W 0 spare held fuel 3 cs = some d) (hl : cs.length = 1) : ∃ a : Int, VWs W [.int .i64 a] cs ∧ True := by
  obtain ⟨v, rfl⟩ : ∃ v, cs = [v] := by
    rcases cs with _ | ⟨v, _ | ⟨u, r⟩⟩ <;> simp at hl
    exact ⟨v, rfl⟩
  obtain ⟨n0, e0, _⟩ := DataW.trod_int Tryz.underlying3 h
  cases e0
  exact ⟨n0, .cons _ _ _ _ (.int _ _) .nil, trivial⟩
theorem ints_read {fuel : Nat} {v : Value} {d : DataW H × List MemPlace} (h : DataW.trod enc Tryz.prog W 0 spare held fuel 31 [v] = some d) : ∃ l : List Int, VW W (.ro (encInts l) l.length 1) v ∧ l.length ≤ maxLen := by
  obtain ⟨l, h1, h2, _⟩ := slice_read (f := fun a : Int => [AV.int .i64 a]) (good := fun _ => True) (sz := 0) Tryz.underlying31 co_3 (fun _ _ _ h hl => int_read h hl) h
  rw [ints_flat] at h1
  exact ⟨l, h1, h2⟩
/-- SummaryApply's call, whatever came in -/
theorem apply_calls {W : World} (L : LaidErr W W.heap.size) {fuel fuel' : Nat} {cs : Array Value} {v : Value} {d d' : DataW H × List MemPlace} (h : DataW.trod enc Tryz.prog W 0 spare held fuel 30 cs.toList = some d) (h' : DataW.trod enc Tryz.prog W 0 spare held fuel' 31 [v] = some d') :
    Calls Tryz.prog 4 #[.agg cs, v] W (fun e W' => e = .returned (.bool true) ∧ Below W.heap.size W W') := by
  obtain ⟨s, h1, h2, h3⟩ := sum_read h
  obtain ⟨l, h4, h5⟩ := ints_read h'
  have h5' : l.length ≤ 9223372036854775807 := h5
  obtain ⟨_, q⟩ := p4_ok W L [.agg [.int .i64 s.fn, .ro (encPairs s.ex) s.ex.length 2, .ro (encPairs s.th) s.th.length 2], .ro (encInts l) l.length 1] (.bool true) (by
    simp only [p4, spec4, ipr_ro, isl_ro, Nat.ble_eq_true_of_le h2, Nat.ble_eq_true_of_le h3, Nat.ble_eq_true_of_le h5', Bool.and_self, cond_true])
  refine Calls.mono (q #[.agg cs, v] (.cons _ _ _ _ (.agg _ _ h1) (.cons _ _ _ _ h4 .nil))) (fun e W' ⟨⟨u, e1, e2⟩, e3⟩ => ?_)
  cases e2
  exact ⟨e1, e3⟩
end
end Go.Vz
namespace Go.Proofs.YtgagkmbhlpmceaaGreatDoor.Summ
open Go Go.Vz Go.ChangeShapes Go.WideShapes Go.ChangeAt Go.RowKit
set_option maxRecDepth 100000 in
theorem contractA (H : Type) (enc : TypeId × Value → H) (W : World) (base : Nat) (args : Array Value) (ds gs : List (DataW H)) (before : List MemPlace)
    (hval : ∀ (j : Nat) t v, Tryz.f4.params[j]? = some t → args[j]? = some v → Value.okWide Tryz.prog W .any base t v)
    (hW : DataW.Whole enc Tryz.prog Tryz.f4.params.toList Rows.summaryApplySpec.vars false W args.toList ds gs before) (hL : laidMetH Tryz.prog Rows.summaryApplyRow.laid W) :
    Calls Tryz.prog 4 args W fun e W' => ∃ v, e = .returned v ∧ Rows.summaryApplySpec.post enc Tryz.prog Tryz.f4 false true false false W args v W' := by
  have hW' := hW
  have hlt := hW.lt
  obtain ⟨p, q, hA0, hV, rfl, hfz, hnd⟩ := hW
  have hA : DataW.TrodAll enc Tryz.prog W 0 (fun _ => true) true Tryz.f4.params.toList args.toList ds p := hA0
  rw [Tryz.params4] at hA hval
  obtain ⟨v0, vs0, d0, ds0, p0, q0, hargs, rfl, rfl, h0, r0⟩ := trodAll_cons hA
  obtain ⟨v1, vs1, d1, ds1, p1, q1, rfl, rfl, rfl, h1, r1⟩ := trodAll_cons r0
  obtain ⟨rfl, rfl, rfl⟩ := trodAll_nil r1
  obtain rfl : args = #[v0, v1] := by cases args; simp_all
  obtain ⟨rfl, rfl⟩ := trodVars_none hV
  have h0' := h0
  have h1' := h1
  obtain ⟨cs, rfl, hcs⟩ := okWide_struct Tryz.underlying30 (hval 0 30 v0 rfl rfl)
  obtain ⟨sa, sl, sc, rfl⟩ := okWide_slice Tryz.underlying31 (hval 1 31 v1 rfl rfl)
  obtain ⟨fuel, hf⟩ := h0
  obtain ⟨fuel', hf'⟩ := h1
  refine (apply_calls (laidErr hL) (cs := cs) hf hf').mono fun e W' ⟨he, hb⟩ => ?_
  subst he
  refine ⟨_, rfl, post_of_below (pa := p0 ++ (p1 ++ [])) (pv := []) hW' (fun _ _ _ => trodAll_cons_mk (shut_bool Tryz.underlying4 true) trodAll_mk0)
    (fun sp hsp => trodAll_cons_mk (WideElems.Trod_stays laidOut (by kernel_rfl) (of_decide_eq_true (by kernel_rfl)) h0' (fun x hx => hb.same (hlt x (by simp [hx]))) (fun x hx => hsp x (by simp [hx])))
      (trodAll_cons_mk (WideElems.Trod_stays laidOut (by kernel_rfl) (of_decide_eq_true (by kernel_rfl)) h1' (fun x hx => hb.same (hlt x (by simp [hx]))) (fun x hx => hsp x (by simp [hx]))) trodAll_mk0)) (fun _ _ => rfl) (by simp) hb (ok_one (by kernel_rfl) rfl (okWide_bool_mk Tryz.underlying4 _))⟩
theorem readsA (os : Os) {H : Type} (enc : TypeId × Value → H) : ∃ places, DataW.whole enc Tryz.prog ((laidWorld os).forCall (fun _ _ => 0) ⟨#[], #[.agg #[.int .i64 0, .slice none 0 0, .slice none 0 0], .slice none 0 0], []⟩).memory Tryz.f4.params.toList Rows.summaryApplySpec.vars false #[Value.agg #[.int .i64 0, .slice none 0 0, .slice none 0 0], .slice none 0 0].toList 8 = some ([.agg [.lit (.int .i64 0), .nil, .nil], .nil], [], places) :=
  ⟨[], by kernel_rfl⟩
set_option maxRecDepth 100000 in
theorem liftedA (os : Os) (started : os.Started) (H : Type) (enc : TypeId × Value → H) (F : Stop.Interp) :
    ReturnsInHanded {} Tryz.checked os 4 .any ((OpenSpec.ofChange Rows.summaryApplySpec).preRow enc Tryz.prog Tryz.f4 Rows.summaryApplyRow.domain false Rows.summaryApplyRow.laid) (((OpenSpec.ofChange Rows.summaryApplySpec).at F).post enc Tryz.prog Tryz.f4 false true false false) := by
  obtain ⟨places, hx⟩ := readsA os enc
  refine returnsInHanded_of_row (C := Tryz.checked) (s := OpenSpec.ofChange Rows.summaryApplySpec) own started (by kernel_rfl) Tryz.func4
    (witness_row_at (enc := enc) (C := Tryz.checked) false (laidWorld os) #[.agg #[.int .i64 0, .slice none 0 0, .slice none 0 0], .slice none 0 0] rfl (by kernel_rfl) (by kernel_rfl) (by kernel_rfl)
      (OpenSpec.preRow_of_cond 8 hx (by kernel_rfl) (fun k hk => by cases hk) (by kernel_rfl) (laid_met os _))) ?_
  intro W base args ds gs before hval hW _ _ _ hL _ _
  exact contractA H enc W base args ds gs before hval hW hL
theorem saidA : Rows.SummaryApplySaid :=
  OpenClaim.holds_of_cond 4 Tryz.f4 rfl rfl rfl rfl rfl rfl rfl ⟨rfl, rfl, rfl, rfl, rfl⟩ rfl rfl rfl rfl rfl (by kernel_rfl) Tryz.func4 (by kernel_rfl)
    (of_decide_eq_true (by kernel_rfl)) (by unfold Func.isWrapper; first | (rw [if_pos (by decide +kernel)]; kernel_rfl) | (rw [if_neg (by decide +kernel)]; exact ⟨rfl, rfl⟩))
    (fun os started H enc _ F => by rw [OpenClaim.pre_eq_preRow]; exact liftedA os started H enc F)
theorem plainA' (f : FuncId) (fn : Func) (hf : Tryz.pinned.checked.prog.funcNamed "dataflow/dataflowlaw35.SummaryApply" = some f) (hfn : Tryz.pinned.checked.prog.funcs[f]? = some fn) :
    true = Tryz.pinned.checked.prog.looks [] ∧ ∀ (j : Nat) t, fn.params[j]? = some t → Tryz.pinned.checked.prog.wantsStandIn t = false := by
  obtain rfl : f = 4 := Option.some.inj ((show Tryz.prog.funcNamed "dataflow/dataflowlaw35.SummaryApply" = some 4 by kernel_rfl).symm.trans hf) |>.symm
  obtain rfl : fn = Tryz.f4 := (Option.some.inj (Tryz.func4.symm.trans hfn)).symm
  refine ⟨by kernel_rfl, fun j t ht => ?_⟩
  rw [Tryz.params4] at ht
  have ht' : t = 30 ∨ t = 31 := by have := Array.mem_of_getElem? ht; simpa using this
  rcases ht' with rfl | rfl
  · exact (show Tryz.prog.wantsStandIn 30 = false by kernel_rfl)
  · exact (show Tryz.prog.wantsStandIn 31 = false by kernel_rfl)
theorem summaryApply_card : Rows.SummaryApplyCardSaid :=
  Claim7.holds_tied_plain_at .later [] _ _ _ _ saidA (fun _ h => by cases h) (by kernel_rfl) (fun _ h => by cases h) summaryApply_row_tie rfl ⟨rfl, rfl⟩ (by kernel_rfl) rfl plainA' (by kernel_rfl)
end Go.Proofs.YtgagkmbhlpmceaaGreatDoor.Summ
#print axioms Go.Proofs.YtgagkmbhlpmceaaGreatDoor.Summ.summaryApply_card
