/- strconv.Itoa at a number that may be one. Condition: the table of powers lies there. -/
import Derived.Test.YtjjmoaaongnjiaaGreatDoorShelf
import Derived.Test.YtjjmoaaongnjiaaGreatDoorLaid3
import Derived.Test.YtjjmoaaongnjiaaGreatDoorSince
import Derived.Lib.ItoaMem
import Derived.Sort.Grow
namespace Go.Proofs.YtjjmoaaongnjiaaGreatDoor
open Go.ChangeShapes Go.WideShapes Go.ChangeAt Go.RowKit
set_option linter.unusedVariables false

/-- the decimal numeral -/
def ita (n : Int) : ByteArray := ⟨(Lib.itoa n).toArray⟩
theorem nDig : ∀ (k u : Nat), u < 10 ^ k → 1 ≤ Lib.nDigits u ∧ Lib.nDigits u ≤ k + (if k = 0 then 1 else 0)
  | 0, u, h => by
    have : u = 0 := by simpa using h
    subst this
    unfold Lib.nDigits
    simp
  | k + 1, u, h => by
    unfold Lib.nDigits
    by_cases h10 : u < 10
    · rw [dif_pos h10]; simp
    · rw [dif_neg h10]
      have ih := nDig k (u / 10) (by rw [Nat.pow_succ] at h; omega)
      cases k with
      | zero => simp at h; omega
      | succ k => simp only [Nat.add_eq_zero_iff, Nat.one_ne_zero, and_false, if_false] at ih ⊢; omega
theorem ita_size {n : Int} (h0 : 0 ≤ n) (h1 : n ≤ 1073741823) : 1 ≤ (ita n).size ∧ (ita n).size ≤ 10 := by
  obtain ⟨u, rfl⟩ : ∃ u : Nat, n = u := ⟨n.toNat, by omega⟩
  have e : (ita (u : Int)).size = Lib.nDigits u := by
    show (Lib.itoa (u : Int)).toArray.size = _
    rw [Lib.itoa_nonneg, List.size_toArray, Lib.decDigits_length]
  rw [e]
  have := nDig 10 u (by omega)
  simpa using this
theorem below_grow (w : World) (k : Nat) (os : Array Obj) : Below w.heap.size w (Go.Sort.grow (w.drewN k) os) :=
  ⟨rfl, rfl, rfl, by show w.heap.size ≤ (w.heap ++ os).size; simp, fun i hi => by
    show (w.heap ++ os)[i]? = w.heap[i]?
    rw [Array.getElem?_append_left hi]⟩
theorem itoaC (n : Int) (h0 : 0 ≤ n) (h1 : n ≤ 1073741823) (w : World) (hp : PTab w) :
    Calls Tryz.prog 20 #[.int .i64 n] w fun e w' => e = .returned (.string (ita n)) ∧ Below w.heap.size w w' := by
  refine (Tryz.strconv_Itoa n (by omega) (by omega) w hp).mono ?_
  rintro e w' ⟨rfl, k, os, rfl⟩
  exact ⟨rfl, below_grow w k os⟩
end Go.Proofs.YtjjmoaaongnjiaaGreatDoor
