/- Contracts of wireref1.Round and wireref1.Far. -/
import Derived.Test.YtmofahmkgignaaaNumber
namespace Go.Proofs.Ytmofahmkgignaaa
open Go.ChangeShapes Go.WideShapes Go.ChangeAt Go.RowKit
set_option linter.unusedVariables false

set_option maxHeartbeats 1000000 in
theorem rround_any (n : Int) (h1 : 1 ≤ n) (h2 : n ≤ 4) (w : World) :
    Calls Try.prog 14 #[.int .i64 n] w fun e w' => e = .returned (.int .i64 (rnd n)) ∧ w = w' := by
  rcases four h1 h2 with rfl | rfl | rfl | rfl
  all_goals
    go_enter Try.func14, Try.ntmps14
    go_wp2
    refine wp_loop_rounds 5 ?_
    repeat (rw [rounds_succ]; go_wp2)
    go_ret
    exact ⟨rfl, rfl⟩

def farN (n : Int) : Int := if n < 0 then -n else n
theorem far_any (n : Int) (h1 : -9223372036854775807 ≤ n) (h2 : n ≤ 9223372036854775807) (w : World) :
    Calls Try.prog 15 #[.int .i64 n] w fun e w' => e = .returned (.int .i64 (farN n)) ∧ w = w' := by
  by_cases h : n < 0
  · go_enter Try.func15, Try.ntmps15
    go_wp2
    go_ret
    exact ⟨end_int (by unfold farN; omega), rfl⟩
  · go_enter Try.func15, Try.ntmps15
    go_wp2
    go_ret
    exact ⟨end_int (by unfold farN; omega), rfl⟩

theorem wholeN_near (cut b next : Int) (h : WholeOk cut b next) :
    (rnd b ≤ wholeN cut b next → ¬ (farN (wholeN cut b next - rnd b - next) < farN (wholeN cut b next - next))) ∧
    (wholeN cut b next + rnd b ≤ 1073741823 → ¬ (farN (wholeN cut b next + rnd b - next) ≤ farN (wholeN cut b next - next))) := by
  obtain ⟨⟨n1, n2⟩, ⟨b1, b2⟩, c1, c2, c3⟩ := h
  rcases four b1 b2 with rfl | rfl | rfl | rfl <;> simp [rnd] at c2 <;> simp [wholeN, wholeUp, rnd, farN] <;> omega
end Go.Proofs.Ytmofahmkgignaaa
