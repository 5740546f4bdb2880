/- What the rows' lists give a walk where strconv's tables, errors.errorType and strconv's two errors stand, and a world that meets them. -/
import Derived.Test.YtjjmoaaongnjiaaGreatDoorLaid3
namespace Go.Proofs.YtjjmoaaongnjiaaGreatDoor
open Go.ChangeShapes Go.WideShapes Go.ChangeAt Go.RowKit
set_option linter.unusedVariables false

theorem laid_x {W : World} (h : laidMetH Tryz.prog [("math/bits.deBruijn32tab", Rows.laid_math_bits_deBruijn32tab), ("math/bits.deBruijn64tab", Rows.laid_math_bits_deBruijn64tab), ("internal/strconv.uint64pow10", Rows.laid_internal_strconv_uint64pow10), ("errors.errorType", Rows.laid_errors_errorType), ("strconv.ErrRange", Rows.laid_strconv_ErrRange), ("strconv.ErrSyntax", Rows.laid_strconv_ErrSyntax)] W) : PTab W ∧ ETok W := by
  have h' : laidMet Tryz.prog [("math/bits.deBruijn32tab", Rows.laid_math_bits_deBruijn32tab), ("math/bits.deBruijn64tab", Rows.laid_math_bits_deBruijn64tab), ("internal/strconv.uint64pow10", Rows.laid_internal_strconv_uint64pow10), ("strconv.ErrRange", Rows.laid_strconv_ErrRange), ("strconv.ErrSyntax", Rows.laid_strconv_ErrSyntax)] W ∧ handlesMet Tryz.prog [("errors.errorType", Rows.laid_errors_errorType)] W := h
  exact ⟨ptab_of_head h'.1.tail.tail, etok_of_handles h'.2⟩
def errText : DataW Unit → ByteArray
  | .iface _ (.ptr (.agg [.lit (.string l)])) => ⟨l.toArray⟩
  | _ => ⟨#[]⟩
/-- A world that meets the list: the settled one, the listed variables' cells laid, each error in a block of its own. -/
noncomputable def laidWorld6 (os : Os) : World :=
  let w0 := World.holding Tryz.prog os ⟨#[], #[], []⟩
  { w0 with heap := ((w0.heap
    |>.modify 1 (fun
      | .cells _ t frozen => .cells #[.iface 109 (.agg #[.pointer (some ⟨7, 26, none⟩)])] t frozen
      | o => o)
    |>.modify 5 (fun
      | .cells _ t frozen => .cells (tabCells Rows.laid_math_bits_deBruijn32tab) t frozen
      | o => o)
    |>.modify 6 (fun
      | .cells _ t frozen => .cells (tabCells Rows.laid_math_bits_deBruijn64tab) t frozen
      | o => o)
    |>.modify 2 (fun
      | .cells _ t frozen => .cells (tabCells Rows.laid_internal_strconv_uint64pow10) t frozen
      | o => o)
    |>.modify 4 (fun
      | .cells _ t frozen => .cells #[.iface 148 (.pointer (some ⟨w0.heap.size, 0, none⟩))] t frozen
      | o => o)
    |>.modify 3 (fun
      | .cells _ t frozen => .cells #[.iface 148 (.pointer (some ⟨w0.heap.size + 1, 0, none⟩))] t frozen
      | o => o)).push (.cells #[.string (errText Rows.laid_strconv_ErrRange)] 150 (0, 0))).push (.cells #[.string (errText Rows.laid_strconv_ErrSyntax)] 150 (0, 0))
  }
set_option maxRecDepth 100000 in
theorem laidMet_x (os : Os) (args : Array Value) : laidMetH Tryz.prog [("math/bits.deBruijn32tab", Rows.laid_math_bits_deBruijn32tab), ("math/bits.deBruijn64tab", Rows.laid_math_bits_deBruijn64tab), ("internal/strconv.uint64pow10", Rows.laid_internal_strconv_uint64pow10), ("errors.errorType", Rows.laid_errors_errorType), ("strconv.ErrRange", Rows.laid_strconv_ErrRange), ("strconv.ErrSyntax", Rows.laid_strconv_ErrSyntax)] ((laidWorld6 os).forCall (fun _ _ => 0) ⟨#[], args, []⟩).memory :=
  laidMetH_of_parts (laidMet_of_run' 8 (by kernel_rfl) (by kernel_rfl)) (by kernel_rfl)
end Go.Proofs.YtjjmoaaongnjiaaGreatDoor
