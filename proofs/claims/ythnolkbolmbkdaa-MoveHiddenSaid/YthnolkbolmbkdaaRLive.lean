/- Contracts of the reference's IDs.Live, and of wiresame.IDs. Condition: the blocks hold IDs as the calls leave them. -/
import Derived.Test.YthnolkbolmbkdaaRIds
namespace Go.Proofs.Ythnolkbolmbkdaa
open Go.ChangeShapes Go.WideShapes Go.ChangeAt Go.RowKit
set_option linter.unusedVariables false

theorem liveFrom_snoc : ∀ (N : List Int) (Gn : List Bool) (k : Nat) (x : Int) (g : Bool), Gn.length = N.length → liveFrom (N ++ [x]) (Gn ++ [g]) k = liveFrom N Gn k ++ (if g then [] else [⟨((k + N.length : Nat) : Int), x⟩])
  | [], [], k, x, g, _ => by cases g <;> simp [liveFrom]
  | y :: r, b :: s, k, x, g, h => by
    have h' : s.length = r.length := by simpa using h
    have ih := liveFrom_snoc r s (k + 1) x g h'
    have e : k + 1 + r.length = k + (y :: r).length := by simp; omega
    rw [e] at ih
    cases b with
    | true => simp only [List.cons_append, liveFrom, if_true]; exact ih
    | false => simp only [List.cons_append, liveFrom, Bool.false_eq_true, if_false]; rw [ih]
  | [], _ :: _, _, _, _, h => by simp at h
  | _ :: _, [], _, _, _, h => by simp at h
theorem liveOf_snoc {N : List Int} {Gn : List Bool} (h : Gn.length = N.length) (x : Int) (g : Bool) : liveOf (N ++ [x]) (Gn ++ [g]) = liveOf N Gn ++ (if g then [] else [⟨(N.length : Int), x⟩]) := by
  unfold liveOf
  rw [liveFrom_snoc N Gn 0 x g h, Nat.zero_add]
theorem liveOf_step {N : List Int} {Gn : List Bool} (h : Gn.length = N.length) {i : Nat} (hi : i < N.length) : liveOf (N.take (i + 1)) (Gn.take (i + 1)) = liveOf (N.take i) (Gn.take i) ++ (if Gn[i]'(by omega) then [] else [⟨(i : Int), N[i]⟩]) := by
  rw [List.take_succ_eq_append_getElem hi, List.take_succ_eq_append_getElem (by omega : i < Gn.length), liveOf_snoc (by rw [List.length_take, List.length_take, h])]
  rw [List.length_take, Nat.min_eq_left (Nat.le_of_lt hi)]
theorem liveOf_le {N : List Int} {Gn : List Bool} (h : Gn.length = N.length) (i : Nat) : (liveOf (N.take i) (Gn.take i)).length ≤ i := by
  induction i with
  | zero => simp [liveOf, liveFrom]
  | succ i ih =>
    by_cases hi : i < N.length
    · rw [liveOf_step h hi, List.length_append]
      split <;> simp <;> omega
    · rw [List.take_of_length_le (by omega), List.take_of_length_le (by omega)]
      rw [List.take_of_length_le (by omega), List.take_of_length_le (by omega)] at ih
      omega

end Go.Proofs.Ythnolkbolmbkdaa
