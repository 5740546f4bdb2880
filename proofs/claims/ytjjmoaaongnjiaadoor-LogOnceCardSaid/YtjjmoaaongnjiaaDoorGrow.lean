/- slices.Grow of no ranges, by the shelf's contract laid in plain words; slices.Concat of two. Condition: the slices can be read. -/
import Derived.Shelf.Spec.SlicesGrow
import Derived.Test.YtjjmoaaongnjiaaDoorAdd
namespace Go.Proofs.YtjjmoaaongnjiaaDoor
open Go.Shelf Go.ChangeShapes Go.WideShapes Go.ChangeAt Go.RowKit
set_option linter.unusedVariables false
def laysGrow_ren : Go.Shelf.Ren := ⟨fun | 4 => 33 | n => n, fun | 0 => 0 | 3 => 3 | 4 => 4 | 9 => 9 | 20 => 20 | 22 => 22 | 25 => 31 | n => n, fun | n => n⟩
theorem laysGrow : Go.Proofs.Lays8.n4 Tryd.prog laysGrow_ren := {
  mixed := by kernel_rfl
  f4 := ⟨ "slices.Grow[[]wanderwire/api.Range,wanderwire/api.Range]", by decide, Tryd.func33.trans (congrArg some (by kernel_rfl))⟩
  t0 := Tryd.underlying0
  a0 := Tryd.isAgg0
  z0 := Tryd.sizeOf0
  v0 := Tryd.zeroValue0
  t3 := Tryd.underlying3
  a3 := Tryd.isAgg3
  z3 := Tryd.sizeOf3
  v3 := Tryd.zeroValue3
  t4 := Tryd.underlying4
  a4 := Tryd.isAgg4
  z4 := Tryd.sizeOf4
  v4 := Tryd.zeroValue4
  t9 := Tryd.underlying9
  a9 := Tryd.isAgg9
  z9 := Tryd.sizeOf9
  v9 := Tryd.zeroValue9
  t20 := Tryd.underlying20
  a20 := Tryd.isAgg20
  z20 := Tryd.sizeOf20
  v20 := Tryd.zeroValue20
  t22 := Tryd.underlying22
  a22 := Tryd.isAgg22
  z22 := Tryd.sizeOf22
  v22 := Tryd.zeroValue22
}

theorem rgrow (n : Nat) (w : World) (hn : n ≤ 1000) :
    Calls Tryd.prog 33 #[.slice none 0 0, .int .i64 n] w fun e w' => ∃ A cap, e = .returned (.slice A 0 cap) ∧ Lst w' 31 2 (.slice A 0 cap) [] ∧ Below w.heap.size w w' ∧ ∀ k, k ∈ blocks (.slice A 0 0) → w.heap.size ≤ k := by
  rcases Nat.eq_zero_or_pos n with h0 | h0
  · refine Calls.mono (P := Tryd.prog) (Any8.slices_Grow_room laysGrow none 0 0 n w (Nat.le_refl _) (by omega) (by omega) (by omega)) ?_
    rintro e w' ⟨rfl, rfl⟩
    exact ⟨none, 0, rfl, Lst.nil _ _ _, Below.refl _ _, by simp [Value.ownBlock]⟩
  · obtain ⟨z, hz, hinfo⟩ := (Tryd.elRange).info
    obtain ⟨i, hi, hz0, hz1, hz2⟩ := info_parts hinfo
    refine Calls.mono (P := Tryd.prog) (Any8.slices_Grow_grow laysGrow i z hi hz0 (by omega) none 0 0 n [] w (Nat.le_refl _) (by omega) (by rw [hz2]; omega) (by omega) (by simp) (fun _ => rfl) (by intro a ha; cases ha)) ?_
    rintro e w' ⟨rfl, rfl⟩
    have hG := grownCap_ge w (0 + n) 0 31
    have hM := grownCap_le_maxLen w (0 + n) 0 31 (by unfold maxLen; omega)
    refine ⟨_, _, rfl, ⟨?_, by simp⟩, ((Below.refl _ _).drew).alloc (Nat.le_refl _) _, fun k hk => ?_⟩
    · refine World.ownsRow_made w.drew _ _ (Nat.zero_le _) hM ?_
      simp only [Array.size_append, Builtin.zeroCells, Array.size_map, Array.size_range, hz]
      show 0 + (0 + n - 0) * 2 + (grownCap w (0 + n) 0 31 - (0 + n)) * 2 = grownCap w (0 + n) 0 31 * 2
      omega
    · have : w.heap.size = k := by simpa [Value.ownBlock] using hk
      omega
end Go.Proofs.YtjjmoaaongnjiaaDoor
