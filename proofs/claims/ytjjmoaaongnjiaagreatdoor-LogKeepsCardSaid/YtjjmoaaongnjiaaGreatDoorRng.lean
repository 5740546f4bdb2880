/- Ranges as rows of two cells, and wiresame.Ranges on two slices that hold one list. Condition: the slices are the call's own. -/
import Derived.Test.YtjjmoaaongnjiaaGreatDoorLst
import Derived.Test.YtjjmoaaongnjiaaGreatDoorRules
import Derived.Deep.QuietTactic
import Derived.BigQuiet
namespace Go.Proofs.YtjjmoaaongnjiaaGreatDoor
open Go.ChangeShapes Go.WideShapes Go.ChangeAt Go.RowKit
set_option linter.unusedVariables false

/-- a range of numbers -/
structure Rng where
  lo : Int
  hi : Int
deriving DecidableEq
def rngRow (r : Rng) : List Value := [.int .i64 r.lo, .int .i64 r.hi]
theorem rngRow_one (r : Rng) : (rngRow r).length = 2 ∧ ∀ u ∈ rngRow r, u.oneCell' = true := ⟨rfl, by intro u hu; simp [rngRow] at hu; rcases hu with rfl | rfl <;> rfl⟩
theorem Tryz.elRange : Elem Tryz.prog 31 34 2 16 := ⟨Tryz.underlying31, ⟨.agg #[.int .i64 0, .int .i64 0], rfl, by kernel_rfl⟩, by decide, by decide⟩
theorem elem_of_rng {L : List Rng} {i : Nat} (h : i < L.length) : (L.map rngRow)[i]? = some (rngRow L[i]) := by simp [h]

set_option maxHeartbeats 1600000 in
theorem rngeq (A B : Option Addr) (ca cb n : Nat) (L : List Rng) (w : World) (hn : L.length = n) (h : Lst w 34 2 (.slice A n ca) (L.map rngRow)) (h' : Lst w 34 2 (.slice B n cb) (L.map rngRow)) (hm : n ≤ 1000000) :
    Calls Tryz.prog 17 #[.slice A n ca, .slice B n cb] w fun e w' => e = .returned (.bool true) ∧ Below w.heap.size w w' := by
  obtain ⟨A', cap, hve, hcap, hmx, hA⟩ := h.shape
  obtain ⟨B', cap2, hvg, hcap2, hmx2, hB⟩ := h'.shape
  simp only [List.length_map, Value.slice.injEq] at hve hvg
  obtain ⟨rfl, _, rfl⟩ := hve
  obtain ⟨rfl, _, rfl⟩ := hvg
  have H := Lib.hid h
  have H' := Lib.hid h'
  have HA := Lib.hid hA
  have HB := Lib.hid hB
  have HN := Lib.hid hn
  have hq : ((n : Int) != (n : Int)) = false := by simp
  clear h h' hA hB hn
  go_enter Tryz.func17, Tryz.ntmps17
  go_wp2_with fail
  go_loopw [5] (fun s5 wr => ∃ i : Nat, s5 = .int .i64 i ∧ i ≤ n ∧ Since w wr) (fun s5 _ => n - (intOf s5).toNat)
  case atStart => exact ⟨0, rfl, Nat.zero_le _, Since.refl _⟩
  case round =>
    obtain ⟨i, rfl, hi, hs⟩ := hrel
    by_cases hlt : i < n
    case neg =>
      obtain rfl : i = n := by omega
      have hf : decide ((i : Int) < (i : Int)) = false := by simp
      go_wp2_with fail
      go_ret
      exact ⟨rfl, (by refine Since.out ?_; repeat (first | with_reducible assumption | with_reducible exact Since.refl _ | with_reducible refine Since.later ?_ (by with_reducible assumption) | with_reducible refine Since.only ?_ (by with_reducible assumption) (by first | assumption | omega | (simp; done) | (simp; omega)) | with_reducible refine Since.alloc ?_ _ | with_reducible refine Since.drewN ?_ _ | with_reducible refine Since.drew ?_ | with_reducible refine Since.set ?_ (by first | assumption | omega | (simp; done) | (simp; omega)) _))⟩
    have hlt' : (i : Int) < (n : Int) := by omega
    have hil : i < L.length := by rw [HN.out]; exact hlt
    rcases HA.out with ⟨_, h0, _⟩ | ⟨qa, rfl⟩
    · have : L = [] := by simpa using h0
      have := HN.out
      simp_all
    rcases HB.out with ⟨_, h0, _⟩ | ⟨qb, rfl⟩
    · have : L = [] := by simpa using h0
      have := HN.out
      simp_all
    have a0 : wr.cell? ⟨qa, i * 2, none⟩ = some (.int .i64 L[i].lo) := (H.out.later hs).cell rfl (elem_of_rng hil) (j := 0) rfl
    have a1 : wr.cell? ⟨qa, i * 2 + 1, none⟩ = some (.int .i64 L[i].hi) := (H.out.later hs).cell rfl (elem_of_rng hil) (j := 1) rfl
    have b0 : wr.cell? ⟨qb, i * 2, none⟩ = some (.int .i64 L[i].lo) := (H'.out.later hs).cell rfl (elem_of_rng hil) (j := 0) rfl
    have b1 : wr.cell? ⟨qb, i * 2 + 1, none⟩ = some (.int .i64 L[i].hi) := (H'.out.later hs).cell rfl (elem_of_rng hil) (j := 1) rfl
    generalize L[i].lo = ds at *
    generalize L[i].hi = dn at *
    go_wp2_with fail
    go_quiet (fail)
    go_wp2_with fail
    go_roundw
    case rel => exact ⟨i + 1, by go_num, by omega, (by refine Since.out ?_; repeat (first | with_reducible assumption | with_reducible exact Since.refl _ | with_reducible refine Since.later ?_ (by with_reducible assumption) | with_reducible refine Since.only ?_ (by with_reducible assumption) (by first | assumption | omega | (simp; done) | (simp; omega)) | with_reducible refine Since.alloc ?_ _ | with_reducible refine Since.drewN ?_ _ | with_reducible refine Since.drew ?_ | with_reducible refine Since.set ?_ (by first | assumption | omega | (simp; done) | (simp; omega)) _))⟩
    case measure => simp [intOf]; omega
end Go.Proofs.YtjjmoaaongnjiaaGreatDoor
