/- A row of ints copied into a short array: what lies there behind so many rounds. No program here. -/
import Derived.Test.YthnolkbolmbkdaaBase
namespace Go.Proofs.Ythnolkbolmbkdaa
open Go.ChangeShapes Go.WideShapes Go.ChangeAt Go.RowKit
set_option linter.unusedVariables false

/-- what of the first j of a row lies at i -/
def vv (r : List Int) (j i : Nat) : Int := if i < j then ith r i else 0
theorem vv_zero (r : List Int) (i : Nat) : vv r 0 i = 0 := rfl
theorem vv_far {r : List Int} {i : Nat} (h : r.length ≤ i) : ith r i = 0 := by unfold ith; simp [List.getD, List.getElem?_eq_none h]
theorem vv_end {K : Nat} {r : List Int} {j i : Nat} (hi : i < K) (h : r.length ≤ j ∨ K ≤ j) : vv r j i = ith r i := by
  unfold vv
  split
  · rfl
  · rw [vv_far (by omega)]
theorem vv_end2 {r : List Int} {j : Nat} (h : r.length ≤ j ∨ 2 ≤ j) : (#[.int .i64 (vv r j 0), .int .i64 (vv r j 1)] : Array Value) = #[.int .i64 (ith r 0), .int .i64 (ith r 1)] := by
  rw [vv_end (by omega) h, vv_end (by omega) h]
theorem vv_end3 {r : List Int} {j : Nat} (h : r.length ≤ j ∨ 3 ≤ j) : (#[.int .i64 (vv r j 0), .int .i64 (vv r j 1), .int .i64 (vv r j 2)] : Array Value) = #[.int .i64 (ith r 0), .int .i64 (ith r 1), .int .i64 (ith r 2)] := by
  rw [vv_end (by omega) h, vv_end (by omega) h, vv_end (by omega) h]
theorem vv_end5 {r : List Int} {j : Nat} (h : r.length ≤ j ∨ 5 ≤ j) : (#[.int .i64 (vv r j 0), .int .i64 (vv r j 1), .int .i64 (vv r j 2), .int .i64 (vv r j 3), .int .i64 (vv r j 4)] : Array Value) = #[.int .i64 (ith r 0), .int .i64 (ith r 1), .int .i64 (ith r 2), .int .i64 (ith r 3), .int .i64 (ith r 4)] := by
  rw [vv_end (by omega) h, vv_end (by omega) h, vv_end (by omega) h, vv_end (by omega) h, vv_end (by omega) h]
theorem vv_next2 (r : List Int) {j : Nat} (h : j < 2) : (#[.int .i64 (vv r j 0), .int .i64 (vv r j 1)] : Array Value)[j]? = some (.int .i64 0) ∧ (#[.int .i64 (vv r j 0), .int .i64 (vv r j 1)] : Array Value).setIfInBounds j (.int .i64 (ith r j)) = #[.int .i64 (vv r (j + 1) 0), .int .i64 (vv r (j + 1) 1)] := by
  rcases j with _ | _ | j
  · simp [vv]
  · simp [vv]
  · omega
theorem vv_next3 (r : List Int) {j : Nat} (h : j < 3) : (#[.int .i64 (vv r j 0), .int .i64 (vv r j 1), .int .i64 (vv r j 2)] : Array Value)[j]? = some (.int .i64 0) ∧ (#[.int .i64 (vv r j 0), .int .i64 (vv r j 1), .int .i64 (vv r j 2)] : Array Value).setIfInBounds j (.int .i64 (ith r j)) = #[.int .i64 (vv r (j + 1) 0), .int .i64 (vv r (j + 1) 1), .int .i64 (vv r (j + 1) 2)] := by
  rcases j with _ | _ | _ | j
  · simp [vv]
  · simp [vv]
  · simp [vv]
  · omega
theorem vv_next5 (r : List Int) {j : Nat} (h : j < 5) : (#[.int .i64 (vv r j 0), .int .i64 (vv r j 1), .int .i64 (vv r j 2), .int .i64 (vv r j 3), .int .i64 (vv r j 4)] : Array Value)[j]? = some (.int .i64 0) ∧ (#[.int .i64 (vv r j 0), .int .i64 (vv r j 1), .int .i64 (vv r j 2), .int .i64 (vv r j 3), .int .i64 (vv r j 4)] : Array Value).setIfInBounds j (.int .i64 (ith r j)) = #[.int .i64 (vv r (j + 1) 0), .int .i64 (vv r (j + 1) 1), .int .i64 (vv r (j + 1) 2), .int .i64 (vv r (j + 1) 3), .int .i64 (vv r (j + 1) 4)] := by
  rcases j with _ | _ | _ | _ | _ | j
  · simp [vv]
  · simp [vv]
  · simp [vv]
  · simp [vv]
  · simp [vv]
  · omega
end Go.Proofs.Ythnolkbolmbkdaa
