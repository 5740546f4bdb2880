/- Plain words on ranges that are right. No program here. -/
import Derived.Test.YtjjmoaaongnjiaaGreatDoorRngs
namespace Go.Proofs.YtjjmoaaongnjiaaGreatDoor
open Go.ChangeShapes Go.WideShapes Go.ChangeAt Go.RowKit
set_option linter.unusedVariables false

abbrev okH (r : Rng) : Prop := 0 ≤ r.hi ∧ r.hi ≤ 1073741823
abbrev okN (r : Rng) : Prop := (0 ≤ r.lo ∧ r.lo ≤ 1073741823) ∧ okH r
theorem rngUp_each {L : List Rng} : ∀ {n : Nat}, rngUp L n = 0 → ∀ i, i < n → rngOne L i = 0
  | 0, _, i, hi => by omega
  | n + 1, h, i, hi => by
    rw [rngUp] at h
    by_cases h0 : rngUp L n = 0
    · rw [if_pos h0] at h
      by_cases he : i = n
      · rw [he]; exact h
      · exact rngUp_each h0 i (by omega)
    · rw [if_neg h0] at h; exact absurd h h0
theorem rngE_len {L : List Rng} (h : rngE L = 0) : L.length ≤ 12 := by
  unfold rngE at h
  by_cases h1 : 12 < L.length
  · rw [if_pos h1] at h; cases h
  · omega
theorem rngE_each {L : List Rng} (h : rngE L = 0) {i : Nat} (hi : i < L.length) : rngOne L i = 0 := by
  have hl := rngE_len h
  unfold rngE at h
  rw [if_neg (by omega)] at h
  exact rngUp_each h i hi
theorem rngE_ok {L : List Rng} (h : rngE L = 0) : ∀ r ∈ L, okN r := fun r hr => by
  obtain ⟨i, hi, rfl⟩ := List.getElem_of_mem hr
  have h1 := rngE_each h hi
  unfold rngOne at h1
  rw [rat_get hi] at h1
  by_cases h2 : mayB L[i].lo = true ∧ mayB L[i].hi = true
  · have a := mayB_iff.1 h2.1
    have b := mayB_iff.1 h2.2
    exact ⟨a, b⟩
  · rw [if_neg h2] at h1; cases h1

theorem rngOne_ok {L : List Rng} {i : Nat} (h : rngOne L i = 0) : okN (rat L i) ∧ (rat L i).lo ≤ (rat L i).hi ∧ (0 < i → (rat L i).hi + 1 < (rat L (i - 1)).lo) := by
  unfold rngOne at h
  by_cases h2 : mayB (rat L i).lo = true ∧ mayB (rat L i).hi = true
  · rw [if_pos h2] at h
    by_cases h3 : (rat L i).hi < (rat L i).lo ∨ (0 < i ∧ (rat L (i - 1)).lo ≤ (rat L i).hi + 1)
    · rw [if_pos h3] at h; cases h
    · refine ⟨⟨mayB_iff.1 h2.1, mayB_iff.1 h2.2⟩, ?_, fun h0 => ?_⟩ <;> omega
  · rw [if_neg h2] at h; cases h
end Go.Proofs.YtjjmoaaongnjiaaGreatDoor
