/- Contracts of wireref1.Round and wireref1.Far. -/
import Derived.Test.YthnolkbolmbkdaaDoorNumber
import Derived.Test.YthnolkbolmbkdaaDoorRMay
namespace Go.Proofs.YthnolkbolmbkdaaDoor
open Go.ChangeShapes Go.WideShapes Go.ChangeAt Go.RowKit
set_option linter.unusedVariables false

set_option maxHeartbeats 1000000 in
theorem rround_any (n : Int) (h1 : 1 ≤ n) (h2 : n ≤ 4) (w : World) :
    Calls Tryd.prog 89 #[.int .i64 n] w fun e w' => e = .returned (.int .i64 (rnd n)) ∧ w = w' := by
  rcases four h1 h2 with rfl | rfl | rfl | rfl
  all_goals
    go_enter Tryd.func89, Tryd.ntmps89
    go_wp2
    refine wp_loop_rounds 5 ?_
    repeat (rw [rounds_succ]; go_wp2)
    go_ret
    exact ⟨rfl, rfl⟩

set_option maxHeartbeats 1000000 in
theorem rneed_any (n known : Int) (h1 : known < n) (h2 : -1 ≤ known) (h3 : n ≤ 1073741823) (w : World) :
    Calls Tryd.prog 88 #[.int .i64 n, .int .i64 known] w fun e w' => e = .returned (.int .i64 (leastN (n - known))) ∧ w = w' := by
  go_enter Tryd.func88, Tryd.ntmps88
  go_wp2
  go_loop [5] (fun b => ∃ k : Int, 1 ≤ k ∧ k ≤ leastN (n - known) ∧ b = .int .i64 k) (fun b => (4 - intOf b).toNat)
  case atStart => exact ⟨1, by omega, (leastN_bounds _).1, rfl⟩
  case round =>
    obtain ⟨k, k1, k2, rfl⟩ := hrel
    obtain ⟨l1, l2⟩ := leastN_bounds (n - known)
    have k4 : k ≤ 4 := by omega
    obtain ⟨r1, r2⟩ := rnd_bounds k
    by_cases hlt : rnd k < 2 * (n - known)
    · have hu := leastN_up (n - known) k k1 k2 hlt (by omega)
      go_wp2_with (go_at_call 89; refine (rround_any k k1 k4 _).mono ?_; rintro e w' ⟨rfl, rfl⟩)
      go_round
      case rel => exact ⟨k + 1, by omega, hu, rfl⟩
      case measure => simp [intOf]; omega
    · have hu := leastN_at (n - known) k k1 k2 (by omega)
      have HU := Lib.hid hu
      clear hu
      go_wp2_with (go_at_call 89; refine (rround_any k k1 k4 _).mono ?_; rintro e w' ⟨rfl, rfl⟩)
      go_ret
      exact ⟨end_int HU.out, rfl⟩
set_option maxHeartbeats 4000000 in
theorem rwhole_yes (cut b next : Int) (h : WholeOk cut b next) (w : World) :
    Calls Tryd.prog 90 #[.int .i64 cut, .int .i64 b, .int .i64 next] w fun e w' => e = .returned (.tuple #[.int .i64 (wholeN cut b next), .bool true]) ∧ w = w' := by
  obtain ⟨⟨n1, n2⟩, ⟨b1, b2⟩, c1, c2, c3⟩ := h
  rcases four b1 b2 with rfl | rfl | rfl | rfl
  all_goals
    simp only [rnd] at c2
    simp at c2
    go_enter Tryd.func90, Tryd.ntmps90
    go_wp2_with (first | (go_at_call 65; refine (rmay_yes next n1 n2 _).mono ?_; rintro e w' ⟨rfl, rfl⟩) | (go_at_call 89; refine (rround_any _ b1 b2 _).mono ?_; rintro e w' ⟨rfl, rfl⟩; simp only [rnd]))
    all_goals
      go_ret2
      exact ⟨end_int2 (by unfold wholeN wholeUp rnd; simp; omega), rfl⟩
theorem rwhole_no (cut b next : Int) (h : ¬ WholeOk cut b next) (w : World) :
    Calls Tryd.prog 90 #[.int .i64 cut, .int .i64 b, .int .i64 next] w fun e w' => e = .returned (.tuple #[.int .i64 0, .bool false]) ∧ w = w' := by
  by_cases hm : MayBe next
  case neg =>
    clear h
    go_enter Tryd.func90, Tryd.ntmps90
    go_wp2_with (go_at_call 65; refine (rmay_no next hm _).mono ?_; rintro e w' ⟨rfl, rfl⟩)
    go_ret2
    exact ⟨rfl, rfl⟩
  have n1 := hm.1
  have n2 := hm.2
  by_cases hb1 : b < 1
  · clear h hm
    go_enter Tryd.func90, Tryd.ntmps90
    go_wp2_with (go_at_call 65; refine (rmay_yes next n1 n2 _).mono ?_; rintro e w' ⟨rfl, rfl⟩)
    go_ret2
    exact ⟨rfl, rfl⟩
  by_cases hb2 : 4 < b
  · clear h hm
    go_enter Tryd.func90, Tryd.ntmps90
    go_wp2_with (go_at_call 65; refine (rmay_yes next n1 n2 _).mono ?_; rintro e w' ⟨rfl, rfl⟩)
    go_ret2
    exact ⟨rfl, rfl⟩
  by_cases h0 : cut < 0
  · clear h hm
    go_enter Tryd.func90, Tryd.ntmps90
    go_wp2_with (go_at_call 65; refine (rmay_yes next n1 n2 _).mono ?_; rintro e w' ⟨rfl, rfl⟩)
    go_ret2
    exact ⟨rfl, rfl⟩
  have b1 : 1 ≤ b := by omega
  have b2 : b ≤ 4 := by omega
  obtain ⟨r1, r2⟩ := rnd_bounds b
  by_cases hr : rnd b ≤ cut
  · clear h hm
    go_enter Tryd.func90, Tryd.ntmps90
    go_wp2_with (first | (go_at_call 65; refine (rmay_yes next n1 n2 _).mono ?_; rintro e w' ⟨rfl, rfl⟩) | (go_at_call 89; refine (rround_any _ b1 b2 _).mono ?_; rintro e w' ⟨rfl, rfl⟩))
    go_ret2
    exact ⟨rfl, rfl⟩
  · have hc : 1073741823 < cut := by
      rcases Int.lt_or_le 1073741823 cut with h1 | h1
      · exact h1
      · exact absurd ⟨hm, ⟨b1, b2⟩, by omega, by omega, h1⟩ h
    clear h hm
    go_enter Tryd.func90, Tryd.ntmps90
    go_wp2_with (first | (go_at_call 65; refine (rmay_yes next n1 n2 _).mono ?_; rintro e w' ⟨rfl, rfl⟩) | (go_at_call 89; refine (rround_any _ b1 b2 _).mono ?_; rintro e w' ⟨rfl, rfl⟩))
    go_ret2
    exact ⟨rfl, rfl⟩
end Go.Proofs.YthnolkbolmbkdaaDoor
