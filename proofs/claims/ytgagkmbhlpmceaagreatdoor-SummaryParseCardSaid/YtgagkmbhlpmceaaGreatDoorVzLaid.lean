/-
  What the rows' lists give, and a world for the witness.
-/
import Derived.Test.YtgagkmbhlpmceaaGreatDoorVzIn
import Derived.Test.YtgagkmbhlpmceaaGreatDoorCards
import Derived.Test.YtgagkmbhlpmceaaGreatDoorTie
import Derived.WalkKit
import Derived.ProofKit
import Derived.OpenShut
import Derived.Deep.DeepHandedRow
import Derived.LaidLaws
set_option linter.unusedVariables false
set_option linter.unusedSimpArgs false
namespace Go.Proofs.YtgagkmbhlpmceaaGreatDoor.Summ
open Go Go.Vz Go.ChangeShapes Go.WideShapes Go.ChangeAt Go.RowKit
theorem own : ownKnob Tryz.prog.godebug = none := by kernel_rfl
theorem laidOut : laidOutB Tryz.prog = true := by kernel_rfl
theorem gEt : Tryz.prog.globalNamed "errors.errorType" = some 0 := by kernel_rfl
theorem rtOf : (Tryz.prog.cutTypes.find? (·.1 == "internal/reflectlite.rtype")).map (·.2) = some 191 := by kernel_rfl
theorem oneRow : ((List.range 331).filter fun t => Tryz.prog.rowNamed t [101, 114, 114, 111, 114]) = [77] := by kernel_rfl
theorem typesSize : Tryz.prog.types.size = 331 := by kernel_rfl
theorem gTy : (Tryz.prog.globals[2]?).map (·.type) = some 263 := by kernel_rfl
theorem co_231 : Tryz.prog.cellsOf 231 = 1 := by kernel_rfl
theorem co_263 : Tryz.prog.cellsOf 263 = 20 := by kernel_rfl
theorem powTab : (Rows.laid_internal_strconv_uint64pow10 : DataW Unit) = Lib.tabData .u64 Lib.pow10Tab := by kernel_rfl
/-- the list gives errors.errorType's cell, and the powers' table -/
theorem laidErr {W : World} (h : laidMetH Tryz.prog Rows.summaryCheckRow.laid W) : LaidErr W W.heap.size := by
  have h' : laidMet Tryz.prog [("math/bits.deBruijn32tab", Rows.laid_math_bits_deBruijn32tab), ("math/bits.deBruijn64tab", Rows.laid_math_bits_deBruijn64tab), ("internal/strconv.uint64pow10", Rows.laid_internal_strconv_uint64pow10), ("unicode/utf8.acceptRanges", Rows.laid_unicode_utf8_acceptRanges), ("strconv.ErrRange", Rows.laid_strconv_ErrRange), ("strconv.ErrSyntax", Rows.laid_strconv_ErrSyntax), ("unicode/utf8.first", Rows.laid_unicode_utf8_first)] W ∧ handlesMet Tryz.prog [("errors.errorType", Rows.laid_errors_errorType)] W := h
  obtain ⟨name, u, ty, e1, e2, e3, e4, e5⟩ := h'.2 _ (List.mem_singleton.2 rfl)
  have en : name = [101, 114, 114, 111, 114] := (Option.some.inj e1).symm
  subst en
  obtain rfl := Option.some.inj (rtOf.symm.trans e2)
  have hm : ty ∈ (List.range 331).filter fun t => Tryz.prog.rowNamed t [101, 114, 114, 111, 114] := List.mem_filter.2 ⟨List.mem_range.2 (by rw [← typesSize]; exact e3), e4⟩
  rw [oneRow] at hm
  obtain rfl := List.mem_singleton.1 hm
  have hh : typeHandle Tryz.prog 77 = .pointer (some ⟨9, 77, none⟩) := by kernel_rfl
  rw [hh] at e5
  have hc : W.cell? ⟨0, 0, none⟩ = some (.iface 191 (.agg #[.pointer (some ⟨9, 77, none⟩)])) := by simpa using World.var?_cell gEt e5 0
  obtain ⟨ps, hv, _⟩ := h'.1
  obtain ⟨_, _, _, _, _, _, _, _, _, _, hv, _⟩ := hv
  obtain ⟨_, _, _, _, _, _, _, _, _, _, hv, _⟩ := hv
  obtain ⟨g, t, cs, fuel, p, q, hg, ht, hvar, hd, _, _⟩ := hv
  obtain rfl := Option.some.inj (gPow.symm.trans hg)
  obtain rfl := Option.some.inj (gTy.symm.trans ht)
  rw [powTab] at hd
  have hcs := Lib.cells_of_tab Tryz.underlying263 Tryz.underlying231 co_231 co_263 hd
  refine ⟨?_, hc, ?_⟩
  · have hv2 := hvar
    unfold World.var? at hv2
    rw [gPow] at hv2
    rcases Nat.lt_or_ge 2 W.heap.size with h | h
    · exact h
    · simp only [Option.bind_some, Array.getElem?_eq_none h] at hv2
      cases hv2
  · unfold Lib.TabIs
    rw [hvar, ← hcs]
mutual
/-- a datum's cells -/
def flatD : DataW Unit → List Value
  | .lit (.int k n) => [.int k n]
  | .agg l => flatDs l
  | _ => []
def flatDs : List (DataW Unit) → List Value
  | [] => []
  | d :: l => flatD d ++ flatDs l
end
def setG (h : Array Obj) (i : Nat) (cs : Array Value) : Array Obj := h.modify i fun
  | .cells _ t fr => .cells cs t fr
  | o => o
noncomputable def low : Nat := (World.holding Tryz.prog default ⟨#[], #[], []⟩).heap.size
abbrev rangeS : ByteArray := { data := #[118, 97, 108, 117, 101, 32, 111, 117, 116, 32, 111, 102, 32, 114, 97, 110, 103, 101] }
abbrev syntaxS : ByteArray := { data := #[105, 110, 118, 97, 108, 105, 100, 32, 115, 121, 110, 116, 97, 120] }
noncomputable def laidWorld (os : Os) : World :=
  let w0 := World.holding Tryz.prog os ⟨#[.cells #[.string rangeS] 303, .cells #[.string syntaxS] 303], #[], []⟩
  { w0 with heap := setG (setG (setG (setG (setG (setG (setG (setG w0.heap 0 #[.iface 191 (.agg #[.pointer (some ⟨9, 77, none⟩)])]) 2 (flatD Rows.laid_internal_strconv_uint64pow10).toArray)
      3 (flatD Rows.laid_math_bits_deBruijn32tab).toArray) 4 (flatD Rows.laid_math_bits_deBruijn64tab).toArray) 5 (flatD Rows.laid_unicode_utf8_first).toArray) 6 (flatD Rows.laid_unicode_utf8_acceptRanges).toArray)
      7 #[.iface 301 (.pointer (some ⟨low + 1, 0, none⟩))]) 8 #[.iface 301 (.pointer (some ⟨low, 0, none⟩))] }
theorem laid_met (os : Os) (args : Array Value) : laidMetH Tryz.prog Rows.summaryCheckRow.laid ((laidWorld os).forCall (fun _ _ => 0) ⟨#[], args, []⟩).memory :=
  laidMetH_of_parts (laidMet_of_run' 8 (by kernel_rfl) (by kernel_rfl)) (by kernel_rfl)
end Go.Proofs.YtgagkmbhlpmceaaGreatDoor.Summ
