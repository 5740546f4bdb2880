/- Contracts of ranges.Add and ranges.Count at whatever slice, and of wiresame.Ranges at two that can be read. Condition: the slices can be read. -/
import Derived.Test.YtjjmoaaongnjiaaGreatDoorAdd
import Derived.Test.YtjjmoaaongnjiaaGreatDoorSet
namespace Go.Proofs.YtjjmoaaongnjiaaGreatDoor
open Go.ChangeShapes Go.WideShapes Go.ChangeAt Go.RowKit
set_option linter.unusedVariables false

set_option maxHeartbeats 3200000 in
set_option maxRecDepth 100000 in
theorem radd_bad (A : Option Addr) (n cap : Nat) (L : List Rng) (x : Int) (w : World) (hn : L.length = n) (hb : ∀ r ∈ L, okI r.lo ∧ okI r.hi) (h : Rd w 2 (.slice A n cap) (L.map rngRow)) (hE : rngE L ≠ 0) :
    Calls Tryz.prog 19 #[.slice A n cap, .int .i64 x] w fun e w' => e = .returned (.tuple #[.slice none 0 0, .bool false, errV (rngE L)]) ∧ Below w.heap.size w w' := by
  have H := Lib.hid h
  have HN := Lib.hid hn
  have HB := Lib.hid hb
  have HE := Lib.hid hE
  rw [errV_pos hE]
  clear h hn hb hE
  go_enter Tryz.func19, Tryz.ntmps19
  go_wp2_with (go_at_call 27; refine (rcheck A n cap L _ HN.out HB.out H.out).mono ?_; rintro e w1 ⟨rfl, hb1⟩; rw [errV_pos HE.out])
  go_ret3
  exact ⟨rfl, hb1⟩
set_option maxHeartbeats 1600000 in
theorem rngeqB (A B : Option Addr) (ca cb n : Nat) (L : List Rng) (w : World) (hn : L.length = n) (h : Rd w 2 (.slice A n ca) (L.map rngRow)) (h' : Rd w 2 (.slice B n cb) (L.map rngRow)) :
    Calls Tryz.prog 17 #[.slice A n ca, .slice B n cb] w fun e w' => e = .returned (.bool true) ∧ Below w.heap.size w w' := by
  have H := Lib.hid h
  have H' := Lib.hid h'
  have HN := Lib.hid hn
  have hcm : n ≤ 9223372036854775807 := by
    obtain ⟨A', cap', hv, h1, h2, _⟩ := h.shape
    rw [List.length_map, hn] at h1
    unfold maxLen at h2
    omega
  have hq : ((n : Int) != (n : Int)) = false := by simp
  clear h h' hn
  go_enter Tryz.func17, Tryz.ntmps17
  go_wp2_with fail
  go_loopw [5] (fun s5 wr => ∃ i : Nat, s5 = .int .i64 i ∧ i ≤ n ∧ Since w wr) (fun s5 _ => n - (intOf s5).toNat)
  case atStart => exact ⟨0, rfl, Nat.zero_le _, Since.refl _⟩
  case round =>
    obtain ⟨i, rfl, hi, hs⟩ := hrel
    by_cases hlt : i < n
    case neg =>
      obtain rfl : i = n := by omega
      have hf : decide ((i : Int) < (i : Int)) = false := by simp
      go_wp2_with fail
      go_ret
      exact ⟨rfl, (by refine Since.out ?_; repeat (first | with_reducible assumption | with_reducible exact Since.refl _ | with_reducible refine Since.later ?_ (by with_reducible assumption) | with_reducible refine Since.only ?_ (by with_reducible assumption) (by first | assumption | omega | (simp; done) | (simp; omega)) | with_reducible refine Since.alloc ?_ _ | with_reducible refine Since.drewN ?_ _ | with_reducible refine Since.drew ?_ | with_reducible refine Since.set ?_ (by first | assumption | omega | (simp; done) | (simp; omega)) _))⟩
    have hlt' : (i : Int) < (n : Int) := by omega
    have hil : i < L.length := by rw [HN.out]; exact hlt
    obtain ⟨b, off, rfl, hbl, hc⟩ := H.out.rng (i := i) hil
    obtain ⟨b2, off2, rfl, hbl2, hc2⟩ := H'.out.rng (i := i) hil
    obtain ⟨a0, a1⟩ := hc wr hs i hil
    obtain ⟨b0, b1⟩ := hc2 wr hs i hil
    have lb : b < wr.heap.size := Nat.lt_of_lt_of_le hbl hs.le
    have lb2 : b2 < wr.heap.size := Nat.lt_of_lt_of_le hbl2 hs.le
    generalize (rat L i).lo = ds at *
    generalize (rat L i).hi = dn at *
    clear hc hc2 hil
    go_wp2_with fail
    go_quiet (fail)
    go_wp2_with fail
    go_roundw
    case rel => exact ⟨i + 1, by go_num, by omega, (by refine Since.out ?_; repeat (first | with_reducible assumption | with_reducible exact Since.refl _ | with_reducible refine Since.later ?_ (by with_reducible assumption) | with_reducible refine Since.only ?_ (by with_reducible assumption) (by first | assumption | omega | (simp; done) | (simp; omega)) | with_reducible refine Since.alloc ?_ _ | with_reducible refine Since.drewN ?_ _ | with_reducible refine Since.drew ?_ | with_reducible refine Since.set ?_ (by first | assumption | omega | (simp; done) | (simp; omega)) _))⟩
    case measure => simp [intOf]; omega
end Go.Proofs.YtjjmoaaongnjiaaGreatDoor
