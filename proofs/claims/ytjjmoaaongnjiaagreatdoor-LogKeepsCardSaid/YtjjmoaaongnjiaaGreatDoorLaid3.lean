/- What the rows' lists give a walk where strconv's table of powers is among them, and a world that meets them. -/
import Derived.Test.YtjjmoaaongnjiaaGreatDoorLaid
import Derived.Lib.LaidTab
import Derived.Lib.ItoaNum
import Derived.Stop.LaidErr
namespace Go.Proofs.YtjjmoaaongnjiaaGreatDoor
open Go.ChangeShapes Go.WideShapes Go.ChangeAt Go.RowKit
set_option linter.unusedVariables false

/-- the table of powers -/
def PTab (w : World) : Prop := Lib.TabIs Tryz.prog w "internal/strconv.uint64pow10" .u64 Lib.pow10Tab
theorem Tryz.powName : Tryz.prog.globalNamed "internal/strconv.uint64pow10" = some 2 := by kernel_rfl
theorem PTab.lt {w : World} (h : PTab w) : 2 < w.heap.size := by
  have h0 := Lib.TabIs.cell h Tryz.powName 0 (by decide)
  rcases Nat.lt_or_ge 2 w.heap.size with h1 | h1
  · exact h1
  · simp [World.cell?, Array.getElem?_eq_none h1] at h0
theorem PTab.later {w w1 : World} (h : PTab w) (hb : Below w.heap.size w w1) : PTab w1 := by
  have e := hb.block _ h.lt
  unfold PTab Lib.TabIs World.var? at h ⊢
  rw [Tryz.powName] at h ⊢
  simp only [Option.bind_some] at h ⊢
  rw [e]
  exact h
theorem ptab_of_head {W : World} {rest : List (String × DataW Unit)} (h : laidMet Tryz.prog (("internal/strconv.uint64pow10", Rows.laid_internal_strconv_uint64pow10) :: rest) W) : PTab W :=
  Lib.tabIs_of_head (zs := Lib.pow10Tab) Tryz.powName (t := 132) (by kernel_rfl) (e := 95) (n := 20) (by kernel_rfl) (by kernel_rfl) (by kernel_rfl) (by kernel_rfl) h
theorem laid_p {W : World} (h : laidMetH Tryz.prog [("math/bits.deBruijn32tab", Rows.laid_math_bits_deBruijn32tab), ("math/bits.deBruijn64tab", Rows.laid_math_bits_deBruijn64tab), ("internal/strconv.uint64pow10", Rows.laid_internal_strconv_uint64pow10)] W) : PTab W := by
  have h' : laidMet Tryz.prog [("math/bits.deBruijn32tab", Rows.laid_math_bits_deBruijn32tab), ("math/bits.deBruijn64tab", Rows.laid_math_bits_deBruijn64tab), ("internal/strconv.uint64pow10", Rows.laid_internal_strconv_uint64pow10)] W := h
  exact ptab_of_head h'.tail.tail
def litCells : List (DataW Unit) → List Value
  | .lit (.int k n) :: r => .int k n :: litCells r
  | _ => []
def tabCells : DataW Unit → Array Value
  | .agg l => (litCells l).toArray
  | _ => #[]
/-- A world that meets the lists: the settled one, the listed variables' cells laid. -/
noncomputable def laidWorld3 (os : Os) : World :=
  let w0 := World.holding Tryz.prog os ⟨#[], #[], []⟩
  { w0 with heap := w0.heap
    |>.modify 1 (fun
      | .cells _ t frozen => .cells #[.iface 109 (.agg #[.pointer (some ⟨7, 26, none⟩)])] t frozen
      | o => o)
    |>.modify 5 (fun
      | .cells _ t frozen => .cells (tabCells Rows.laid_math_bits_deBruijn32tab) t frozen
      | o => o)
    |>.modify 6 (fun
      | .cells _ t frozen => .cells (tabCells Rows.laid_math_bits_deBruijn64tab) t frozen
      | o => o)
    |>.modify 2 (fun
      | .cells _ t frozen => .cells (tabCells Rows.laid_internal_strconv_uint64pow10) t frozen
      | o => o)
  }
set_option maxRecDepth 100000 in
theorem laidMet_p (os : Os) (args : Array Value) : laidMetH Tryz.prog [("math/bits.deBruijn32tab", Rows.laid_math_bits_deBruijn32tab), ("math/bits.deBruijn64tab", Rows.laid_math_bits_deBruijn64tab), ("internal/strconv.uint64pow10", Rows.laid_internal_strconv_uint64pow10)] ((laidWorld3 os).forCall (fun _ _ => 0) ⟨#[], args, []⟩).memory :=
  laidMet_of_run' 8 (by kernel_rfl) (by kernel_rfl)
end Go.Proofs.YtjjmoaaongnjiaaGreatDoor
