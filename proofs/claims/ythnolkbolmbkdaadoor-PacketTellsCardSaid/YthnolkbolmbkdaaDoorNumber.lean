/- Contracts of package number: bytes, round, Least, Need, Short, Cut, Whole. No condition but that the arguments are ints. -/
import Derived.Test.YthnolkbolmbkdaaDoorMay
namespace Go.Proofs.YthnolkbolmbkdaaDoor
open Go.ChangeShapes Go.WideShapes Go.ChangeAt Go.RowKit
set_option linter.unusedVariables false

/-- the round of so many bytes -/
def rnd (b : Int) : Int := if b = 1 then 256 else if b = 2 then 65536 else if b = 3 then 16777216 else 4294967296
theorem rnd_bounds (b : Int) : 256 ≤ rnd b ∧ rnd b ≤ 4294967296 := by
  unfold rnd
  omega
theorem four {b : Int} (h1 : 1 ≤ b) (h2 : b ≤ 4) : b = 1 ∨ b = 2 ∨ b = 3 ∨ b = 4 := by omega

theorem nbytes_yes (n : Int) (h1 : 1 ≤ n) (h2 : n ≤ 4) (w : World) :
    Calls Tryd.prog 122 #[.int .i64 n] w fun e w' => e = .returned (.bool true) ∧ w = w' := by
  go_enter Tryd.func122, Tryd.ntmps122
  go_wp2
  go_ret
  exact ⟨rfl, rfl⟩
theorem nbytes_no (n : Int) (h : ¬ (1 ≤ n ∧ n ≤ 4)) (w : World) :
    Calls Tryd.prog 122 #[.int .i64 n] w fun e w' => e = .returned (.bool false) ∧ w = w' := by
  by_cases h1 : 1 ≤ n
  · have h2 : decide (n ≤ 4) = false := by simp; omega
    clear h
    go_enter Tryd.func122, Tryd.ntmps122
    go_wp2
    go_ret
    exact ⟨rfl, rfl⟩
  · clear h
    go_enter Tryd.func122, Tryd.ntmps122
    go_wp2
    go_ret
    exact ⟨rfl, rfl⟩

theorem round_any (n : Int) (h1 : 1 ≤ n) (h2 : n ≤ 4) (w : World) :
    Calls Tryd.prog 120 #[.int .i64 n] w fun e w' => e = .returned (.int .i64 (rnd n)) ∧ w = w' := by
  rcases four h1 h2 with rfl | rfl | rfl | rfl
  all_goals
    go_enter Tryd.func120, Tryd.ntmps120
    go_wp2
    go_ret
    exact ⟨rfl, rfl⟩

theorem short_any (x b : Int) (h0 : 0 ≤ x) (h1 : 1 ≤ b) (h2 : b ≤ 4) (w : World) :
    Calls Tryd.prog 121 #[.int .i64 x, .int .i64 b] w fun e w' => e = .returned (.int .i64 (x % rnd b)) ∧ w = w' := by
  obtain ⟨r1, r2⟩ := rnd_bounds b
  go_enter Tryd.func121, Tryd.ntmps121
  go_wp2_with (go_at_call 120; refine (round_any b h1 h2 _).mono ?_; rintro e w' ⟨rfl, rfl⟩)
  go_ret
  exact ⟨rfl, rfl⟩

/-! Whole -/
def wholeUp (cut r next : Int) : Int := if cut < next + r / 2 then cut + (next + r / 2 - cut) / r * r else cut
def wholeN (cut b next : Int) : Int := if 1073741823 < wholeUp cut (rnd b) next then wholeUp cut (rnd b) next - rnd b else wholeUp cut (rnd b) next
/-- what Whole takes -/
def WholeOk (cut b next : Int) : Prop := MayBe next ∧ (1 ≤ b ∧ b ≤ 4) ∧ 0 ≤ cut ∧ cut < rnd b ∧ cut ≤ 1073741823

set_option maxHeartbeats 1000000 in
theorem whole_yes (cut b next : Int) (h : WholeOk cut b next) (w : World) :
    Calls Tryd.prog 111 #[.int .i64 cut, .int .i64 b, .int .i64 next] w fun e w' => e = .returned (.tuple #[.int .i64 (wholeN cut b next), .nilIface]) ∧ w = w' := by
  obtain ⟨⟨n1, n2⟩, ⟨b1, b2⟩, c1, c2, c3⟩ := h
  rcases four b1 b2 with rfl | rfl | rfl | rfl
  all_goals
    simp only [rnd] at c2
    simp at c2
    go_enter Tryd.func111, Tryd.ntmps111
    go_wp2_with (first | (go_at_call 72; refine (may_yes next n1 n2 _).mono ?_; rintro e w' ⟨rfl, rfl⟩) | (go_at_call 122; refine (nbytes_yes _ b1 b2 _).mono ?_; rintro e w' ⟨rfl, rfl⟩) | (go_at_call 120; refine (round_any _ b1 b2 _).mono ?_; rintro e w' ⟨rfl, rfl⟩; simp only [rnd]))
    all_goals
      go_ret2
      exact ⟨end_int2 (by unfold wholeN wholeUp rnd; simp; omega), rfl⟩

theorem whole_no (cut b next : Int) (h : ¬ WholeOk cut b next) (w : World) :
    Calls Tryd.prog 111 #[.int .i64 cut, .int .i64 b, .int .i64 next] w fun e w' => e = .returned (.tuple #[.int .i64 0, .iface 113 (.int .i64 1)]) ∧ w = w' := by
  by_cases hm : MayBe next
  case neg =>
    clear h
    go_enter Tryd.func111, Tryd.ntmps111
    go_wp2_with (go_at_call 72; refine (may_no next hm _).mono ?_; rintro e w' ⟨rfl, rfl⟩)
    go_ret2
    exact ⟨rfl, rfl⟩
  have n1 := hm.1
  have n2 := hm.2
  by_cases hb : 1 ≤ b ∧ b ≤ 4
  case neg =>
    clear h hm
    go_enter Tryd.func111, Tryd.ntmps111
    go_wp2_with (first | (go_at_call 72; refine (may_yes next n1 n2 _).mono ?_; rintro e w' ⟨rfl, rfl⟩) | (go_at_call 122; refine (nbytes_no _ hb _).mono ?_; rintro e w' ⟨rfl, rfl⟩))
    go_ret2
    exact ⟨rfl, rfl⟩
  by_cases h0 : 0 ≤ cut
  case neg =>
    obtain ⟨b1, b2⟩ := hb
    clear h hm
    go_enter Tryd.func111, Tryd.ntmps111
    go_wp2_with (first | (go_at_call 72; refine (may_yes next n1 n2 _).mono ?_; rintro e w' ⟨rfl, rfl⟩) | (go_at_call 122; refine (nbytes_yes _ b1 b2 _).mono ?_; rintro e w' ⟨rfl, rfl⟩))
    go_ret2
    exact ⟨rfl, rfl⟩
  by_cases hr : rnd b ≤ cut
  · obtain ⟨b1, b2⟩ := hb
    clear h hm
    go_enter Tryd.func111, Tryd.ntmps111
    go_wp2_with (first | (go_at_call 72; refine (may_yes next n1 n2 _).mono ?_; rintro e w' ⟨rfl, rfl⟩) | (go_at_call 122; refine (nbytes_yes _ b1 b2 _).mono ?_; rintro e w' ⟨rfl, rfl⟩) | (go_at_call 120; refine (round_any _ b1 b2 _).mono ?_; rintro e w' ⟨rfl, rfl⟩))
    go_ret2
    exact ⟨rfl, rfl⟩
  · have hc : 1073741823 < cut := by
      rcases Int.lt_or_le 1073741823 cut with h1 | h1
      · exact h1
      · exact absurd ⟨hm, hb, h0, by omega, h1⟩ h
    obtain ⟨b1, b2⟩ := hb
    clear h hm
    go_enter Tryd.func111, Tryd.ntmps111
    go_wp2_with (first | (go_at_call 72; refine (may_yes next n1 n2 _).mono ?_; rintro e w' ⟨rfl, rfl⟩) | (go_at_call 122; refine (nbytes_yes _ b1 b2 _).mono ?_; rintro e w' ⟨rfl, rfl⟩) | (go_at_call 120; refine (round_any _ b1 b2 _).mono ?_; rintro e w' ⟨rfl, rfl⟩))
    go_ret2
    exact ⟨rfl, rfl⟩

/-! Need -/
def leastN (d : Int) : Int := if 2 * d ≤ 256 then 1 else if 2 * d ≤ 65536 then 2 else if 2 * d ≤ 16777216 then 3 else 4
theorem leastN_bounds (d : Int) : 1 ≤ leastN d ∧ leastN d ≤ 4 := by unfold leastN; omega
theorem leastN_up (d k : Int) (h1 : 1 ≤ k) (h2 : k ≤ leastN d) (h : rnd k < 2 * d) (hd : d ≤ 1073741824) : k + 1 ≤ leastN d := by
  obtain ⟨_, b⟩ := leastN_bounds d
  rcases four h1 (by omega) with rfl | rfl | rfl | rfl <;> simp [rnd] at h <;> unfold leastN at * <;> omega
theorem leastN_at (d k : Int) (h1 : 1 ≤ k) (h2 : k ≤ leastN d) (h : 2 * d ≤ rnd k) : k = leastN d := by
  obtain ⟨_, b⟩ := leastN_bounds d
  rcases four h1 (by omega) with rfl | rfl | rfl | rfl <;> simp [rnd] at h <;> unfold leastN at * <;> omega

set_option maxHeartbeats 1000000 in
theorem least_any (n known : Int) (h1 : known < n) (h2 : -1 ≤ known) (h3 : n ≤ 1073741823) (w : World) :
    Calls Tryd.prog 109 #[.int .i64 n, .int .i64 known] w fun e w' => e = .returned (.int .i64 (leastN (n - known))) ∧ w = w' := by
  go_enter Tryd.func109, Tryd.ntmps109
  go_wp2
  go_loop [5] (fun b => ∃ k : Int, 1 ≤ k ∧ k ≤ leastN (n - known) ∧ b = .int .i64 k) (fun b => (4 - intOf b).toNat)
  case atStart => exact ⟨1, by omega, (leastN_bounds _).1, rfl⟩
  case round =>
    obtain ⟨k, k1, k2, rfl⟩ := hrel
    obtain ⟨l1, l2⟩ := leastN_bounds (n - known)
    have k4 : k ≤ 4 := by omega
    obtain ⟨r1, r2⟩ := rnd_bounds k
    by_cases hlt : rnd k < 2 * (n - known)
    · have hu := leastN_up (n - known) k k1 k2 hlt (by omega)
      go_wp2_with (go_at_call 120; refine (round_any k k1 k4 _).mono ?_; rintro e w' ⟨rfl, rfl⟩)
      go_round
      case rel => exact ⟨k + 1, by omega, hu, rfl⟩
      case measure => simp [intOf]; omega
    · have hu := leastN_at (n - known) k k1 k2 (by omega)
      have HU := Lib.hid hu
      clear hu
      go_wp2_with (go_at_call 120; refine (round_any k k1 k4 _).mono ?_; rintro e w' ⟨rfl, rfl⟩)
      go_ret
      exact ⟨end_int HU.out, rfl⟩

/-- what Need takes -/
def NeedOk (n known : Int) : Prop := MayBe n ∧ -1 ≤ known ∧ known < n
theorem need_yes (n known : Int) (h : NeedOk n known) (w : World) :
    Calls Tryd.prog 85 #[.int .i64 n, .int .i64 known] w fun e w' => e = .returned (.tuple #[.int .i64 (leastN (n - known)), .nilIface]) ∧ w = w' := by
  obtain ⟨⟨n1, n2⟩, k1, k2⟩ := h
  go_enter Tryd.func85, Tryd.ntmps85
  go_wp2_with (first | (go_at_call 72; refine (may_yes n n1 n2 _).mono ?_; rintro e w' ⟨rfl, rfl⟩) | (go_at_call 109; refine (least_any n known k2 k1 n2 _).mono ?_; rintro e w' ⟨rfl, rfl⟩))
  go_ret2
  exact ⟨rfl, rfl⟩
theorem need_no (n known : Int) (h : ¬ NeedOk n known) (w : World) :
    Calls Tryd.prog 85 #[.int .i64 n, .int .i64 known] w fun e w' => e = .returned (.tuple #[.int .i64 0, .iface 113 (.int .i64 1)]) ∧ w = w' := by
  by_cases hm : MayBe n
  case neg =>
    clear h
    go_enter Tryd.func85, Tryd.ntmps85
    go_wp2_with (go_at_call 72; refine (may_no n hm _).mono ?_; rintro e w' ⟨rfl, rfl⟩)
    go_ret2
    exact ⟨rfl, rfl⟩
  have n1 := hm.1
  have n2 := hm.2
  by_cases hk : known < -1
  · clear h hm
    go_enter Tryd.func85, Tryd.ntmps85
    go_wp2_with (go_at_call 72; refine (may_yes n n1 n2 _).mono ?_; rintro e w' ⟨rfl, rfl⟩)
    go_ret2
    exact ⟨rfl, rfl⟩
  · have hn : n ≤ known := by
      rcases Int.lt_or_le known n with h1 | h1
      · exact absurd ⟨hm, by omega, h1⟩ h
      · exact h1
    clear h hm
    go_enter Tryd.func85, Tryd.ntmps85
    go_wp2_with (go_at_call 72; refine (may_yes n n1 n2 _).mono ?_; rintro e w' ⟨rfl, rfl⟩)
    go_ret2
    exact ⟨rfl, rfl⟩

/-! plain laws -/
theorem wholeN_cut (cut b next : Int) (h : WholeOk cut b next) : wholeN cut b next % rnd b = cut ∧ 0 ≤ wholeN cut b next ∧ wholeN cut b next ≤ 1073741823 := by
  obtain ⟨⟨n1, n2⟩, ⟨b1, b2⟩, c1, c2, c3⟩ := h
  rcases four b1 b2 with rfl | rfl | rfl | rfl <;> simp [rnd] at c2 <;> simp [wholeN, wholeUp, rnd] <;> omega
theorem wholeN_back (n known more : Int) (h : NeedOk n known) (m1 : known ≤ more) (m2 : more < n) :
    WholeOk (n % rnd (leastN (n - known))) (leastN (n - known)) (more + 1) ∧ wholeN (n % rnd (leastN (n - known))) (leastN (n - known)) (more + 1) = n := by
  obtain ⟨⟨n1, n2⟩, k1, k2⟩ := h
  obtain ⟨b1, b2⟩ := leastN_bounds (n - known)
  have hd : 2 * (n - known) ≤ rnd (leastN (n - known)) := by unfold leastN rnd; omega
  generalize leastN (n - known) = b at *
  rcases four b1 b2 with rfl | rfl | rfl | rfl <;> simp [rnd] at hd <;> simp [WholeOk, MayBe, wholeN, wholeUp, rnd] <;> omega
end Go.Proofs.YthnolkbolmbkdaaDoor
