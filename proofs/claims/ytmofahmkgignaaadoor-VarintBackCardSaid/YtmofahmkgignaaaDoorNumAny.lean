/- Contracts of package number and its reference in one piece each: what each returns, for every argument. No condition. -/
import Derived.Test.YtmofahmkgignaaaDoorNumRef
import Derived.Test.YtmofahmkgignaaaDoorTold
import Derived.Test.YtmofahmkgignaaaDoorRules
namespace Go.Proofs.YtmofahmkgignaaaDoor
open Go.ChangeShapes Go.WideShapes Go.ChangeAt Go.RowKit
set_option linter.unusedVariables false

instance (n : Int) : Decidable (MayBe n) := by unfold MayBe; infer_instance
/-- may a number be -/
def mayB (n : Int) : Bool := decide (0 ≤ n) && decide (n ≤ 1073741823)
theorem mayB_iff {n : Int} : mayB n = true ↔ MayBe n := by unfold mayB MayBe; simp
theorem mayB_not {n : Int} (h : ¬ MayBe n) : mayB n = false := by
  cases hb : mayB n
  · rfl
  · exact absurd (mayB_iff.1 hb) h
theorem rmay_any (n : Int) (w : World) : Calls Tryd.prog 17 #[.int .i64 n] w fun e w' => e = .returned (.bool (mayB n)) ∧ w = w' := by
  by_cases h : MayBe n
  · rw [mayB_iff.2 h]; exact rmay_yes n h.1 h.2 w
  · rw [mayB_not h]; exact rmay_no n h w
instance (n known : Int) : Decidable (NeedOk n known) := by unfold NeedOk; infer_instance
def needE (n known : Int) : Int := if NeedOk n known then 0 else 1
def needV (n known : Int) : Int := if NeedOk n known then leastN (n - known) else 0
theorem need_any (n known : Int) (w : World) :
    Calls Tryd.prog 19 #[.int .i64 n, .int .i64 known] w fun e w' => e = .returned (.tuple #[.int .i64 (needV n known), errV (needE n known)]) ∧ w = w' := by
  unfold needV needE
  by_cases h : NeedOk n known
  · rw [if_pos h, if_pos h]; exact need_yes n known h w
  · rw [if_neg h, if_neg h]; exact need_no n known h w
def CutOk (n b : Int) : Prop := MayBe n ∧ 1 ≤ b ∧ b ≤ 4
instance (n b : Int) : Decidable (CutOk n b) := by unfold CutOk; infer_instance
def cutE (n b : Int) : Int := if CutOk n b then 0 else 1
def cutV (n b : Int) : Int := if CutOk n b then n % rnd b else 0
theorem cut_any (n b : Int) (w : World) :
    Calls Tryd.prog 21 #[.int .i64 n, .int .i64 b] w fun e w' => e = .returned (.tuple #[.int .i64 (cutV n b), errV (cutE n b)]) ∧ w = w' := by
  unfold cutV cutE
  by_cases h : CutOk n b
  · rw [if_pos h, if_pos h]; exact cut_yes n b h.1.1 h.1.2 h.2.1 h.2.2 w
  · rw [if_neg h, if_neg h]; exact cut_no n b h w
instance (cut b next : Int) : Decidable (WholeOk cut b next) := by unfold WholeOk; infer_instance
def wholeE (cut b next : Int) : Int := if WholeOk cut b next then 0 else 1
def wholeV (cut b next : Int) : Int := if WholeOk cut b next then wholeN cut b next else 0
theorem whole_any (cut b next : Int) (w : World) :
    Calls Tryd.prog 23 #[.int .i64 cut, .int .i64 b, .int .i64 next] w fun e w' => e = .returned (.tuple #[.int .i64 (wholeV cut b next), errV (wholeE cut b next)]) ∧ w = w' := by
  unfold wholeV wholeE
  by_cases h : WholeOk cut b next
  · rw [if_pos h, if_pos h]; exact whole_yes cut b next h w
  · rw [if_neg h, if_neg h]; exact whole_no cut b next h w
end Go.Proofs.YtmofahmkgignaaaDoor
