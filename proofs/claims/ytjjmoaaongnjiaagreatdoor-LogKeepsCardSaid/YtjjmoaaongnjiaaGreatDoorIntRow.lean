/- Slices of ints of the call's own. No condition of its own. -/
import Derived.Test.YtjjmoaaongnjiaaGreatDoorLst
namespace Go.Proofs.YtjjmoaaongnjiaaGreatDoor
open Go.ChangeShapes Go.WideShapes Go.ChangeAt Go.RowKit
set_option linter.unusedVariables false

def intRow (n : Int) : List Value := [.int .i64 n]
theorem intRow_one (n : Int) : (intRow n).length = 1 ∧ ∀ u ∈ intRow n, u.oneCell' = true := ⟨rfl, by intro u hu; simp [intRow] at hu; rw [hu]; rfl⟩
theorem Tryz.elInt : Elem Tryz.prog 22 3 1 8 := ⟨Tryz.underlying22, ⟨.int .i64 0, rfl, by kernel_rfl⟩, by decide, by decide⟩
theorem flat_ints (zs : List Int) : flat (zs.map intRow) = zs.map (Value.int .i64) := by
  induction zs with
  | nil => rfl
  | cons z r ih => simp only [List.map_cons, flat, List.flatten_cons] at ih ⊢; rw [ih]; rfl
theorem ints_of_lst {w : World} {A : Option Addr} {n cap : Nat} {zs : List Int} (h : Lst w 3 1 (.slice A n cap) (zs.map intRow)) (hb : ∀ z ∈ zs, -9223372036854775808 ≤ z ∧ z ≤ 9223372036854775807) : IntsIn w (.slice A zs.length cap) zs := by
  obtain ⟨A', cap', hv, hc, hm, hA⟩ := h.shape
  rw [List.length_map] at hv hc
  simp only [Value.slice.injEq] at hv
  obtain ⟨rfl, rfl, rfl⟩ := hv
  refine ⟨hb, A, cap, rfl, hc, hm, fun hne => ?_⟩
  rcases hA with ⟨_, h0, _⟩ | ⟨g, rfl⟩
  · simp at h0; exact absurd h0 hne
  · refine ⟨g, 0, rfl, h.lt g (by simp [Value.ownBlock]), fun i hi => ?_⟩
    have := h.cell rfl (i := i) (j := 0) (e := intRow (ith zs i)) (u := .int .i64 (ith zs i)) (by unfold ith; simp [hi, List.getD]) rfl
    simpa using this
end Go.Proofs.YtjjmoaaongnjiaaGreatDoor
