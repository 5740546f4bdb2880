/- Contract of the reference's IDs.Issue. Condition: the blocks hold IDs as the calls leave them. -/
import Derived.Test.YthnolkbolmbkdaaRLive
import Derived.Deep.RegionLaw
namespace Go.Proofs.Ythnolkbolmbkdaa
open Go.ChangeShapes Go.WideShapes Go.ChangeAt Go.RowKit
set_option linter.unusedVariables false

def rissE (lim : Int) (N : List Int) (Gn : List Bool) (x : Int) : Int := if MayBe x then (if x ∈ N then 7 else if lim ≤ ((liveOf N Gn).length : Int) ∨ 100 ≤ N.length then 4 else 0) else 1
def rissG (lim : Int) (N : List Int) (Gn : List Bool) (x : Int) : List Bool := if rissE lim N Gn x = 0 then Gn ++ [false] else Gn
def rissN (lim : Int) (N : List Int) (Gn : List Bool) (x : Int) : List Int := if rissE lim N Gn x = 0 then N ++ [x] else N
def rissD (lim : Int) (N : List Int) (Gn : List Bool) (x : Int) : One := if rissE lim N Gn x = 0 then ⟨N.length, x⟩ else ⟨0, 0⟩
theorem riss_bad {lim : Int} {N : List Int} {Gn : List Bool} {x : Int} (h : rissE lim N Gn x ≠ 0) : rissG lim N Gn x = Gn ∧ rissN lim N Gn x = N ∧ rissD lim N Gn x = ⟨0, 0⟩ := by
  unfold rissG rissN rissD
  rw [if_neg h, if_neg h, if_neg h]
  exact ⟨rfl, rfl, rfl⟩
theorem riss_ok {lim : Int} {N : List Int} {Gn : List Bool} {x : Int} (h : rissE lim N Gn x = 0) : rissG lim N Gn x = Gn ++ [false] ∧ rissN lim N Gn x = N ++ [x] ∧ rissD lim N Gn x = ⟨N.length, x⟩ := by
  unfold rissG rissN rissD
  rw [if_pos h, if_pos h, if_pos h]
  exact ⟨rfl, rfl, rfl⟩
end Go.Proofs.Ythnolkbolmbkdaa
