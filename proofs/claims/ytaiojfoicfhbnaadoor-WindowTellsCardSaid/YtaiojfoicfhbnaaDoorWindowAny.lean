/- Contracts of package window and of the reference's Window in one piece each: what each answers, for every window and number. No condition. -/
import Derived.Test.YtaiojfoicfhbnaaDoorWindow
import Derived.Test.YtaiojfoicfhbnaaDoorTold
namespace Go.Proofs.YtaiojfoicfhbnaaDoor
open Go.ChangeShapes Go.WideShapes Go.ChangeAt Go.RowKit
set_option linter.unusedVariables false

/-- a value where nothing is wrong, 0 with an error -/
def sel (e x : Int) : Int := if e = 0 then x else 0
theorem sel_ok (x : Int) : sel 0 x = x := by unfold sel; rw [if_pos rfl]
theorem sel_bad {e : Int} (h : e ≠ 0) (x : Int) : sel e x = 0 := by unfold sel; rw [if_neg h]
instance (s l y : Int) : Decidable (WinOk s l y) := decidable_of_iff (400 ≤ s ∧ s ≤ 100000 ∧ 400 ≤ l ∧ l ≤ 100000 ∧ 0 ≤ y ∧ y ≤ 100000) ⟨fun ⟨a, b, c, d, e, f⟩ => ⟨a, b, c, d, e, f⟩, fun ⟨a, b, c, d, e, f⟩ => ⟨a, b, c, d, e, f⟩⟩
instance (s l y n : Int) : Decidable (PacOk s l y n) := by unfold PacOk; infer_instance
/-- the fault of a window, and a packet -/
def wE (s l y n : Int) : Int := if PacOk s l y n then 0 else 1
theorem wE_one (s l y : Int) : wE s l y 1 = if WinOk s l y then 0 else 1 := by
  unfold wE
  by_cases h : WinOk s l y
  · rw [if_pos (show PacOk s l y 1 from ⟨h, by omega, by omega⟩), if_pos h]
  · rw [if_neg (fun k : PacOk s l y 1 => h k.1), if_neg h]
theorem sendWE_eq (s l y n : Int) : sendWE s l y n = if PacOk s l y n then (if s < y + n then 8 else 0) else 1 := by
  unfold sendWE
  by_cases h : PacOk s l y n
  · rw [if_pos h]
    obtain ⟨⟨a, b, c, d, e, f⟩, g, i⟩ := h
    rw [if_pos ⟨a, b, c, d, e, f, g, i⟩]
  · rw [if_neg h, if_neg (fun ⟨a, b, c, d, e, f, g, i⟩ => h ⟨⟨a, b, c, d, e, f⟩, g, i⟩)]
theorem backE_eq (s l y n : Int) : backE s l y n = if PacOk s l y n then (if y < n then 3 else 0) else 1 := by
  by_cases h : PacOk s l y n
  · rw [if_pos h, backE_ok h]
  · rw [if_neg h, backE_no h]

theorem wcheck_all (s l y : Int) (w : World) :
    Calls Tryd.prog 20 #[.agg #[.int .i64 s, .int .i64 l, .int .i64 y]] w fun e w' => e = .returned (errV (wE s l y 1)) ∧ w.alloc (winCells s l y) = w' := by
  rw [wE_one]
  by_cases h : WinOk s l y
  · rw [if_pos h]; exact wcheck_yes s l y h w
  · rw [if_neg h]; exact wcheck_no s l y h w
theorem wsend_all (s l y n : Int) (w : World) :
    Calls Tryd.prog 22 #[.agg #[.int .i64 s, .int .i64 l, .int .i64 y], .int .i64 n] w fun e w' => e = .returned (.tuple #[winV (sel (sendWE s l y n) s) (sel (sendWE s l y n) l) (sel (sendWE s l y n) (y + n)), errV (sendWE s l y n)]) ∧ Below w.heap.size w w' := by
  by_cases h : PacOk s l y n ∧ y + n ≤ s
  · have e : sendWE s l y n = 0 := by rw [sendWE_eq, if_pos h.1, if_neg (by omega)]
    rw [e, sel_ok, sel_ok, sel_ok]
    exact wsend_yes s l y n h.1 h.2 w
  · have e : sendWE s l y n ≠ 0 := by
      rw [sendWE_eq]
      by_cases hp : PacOk s l y n
      · rw [if_pos hp, if_pos (by rcases Int.lt_or_le s (y + n) with h1 | h1; exact h1; exact absurd ⟨hp, h1⟩ h)]
        decide
      · rw [if_neg hp]
        decide
    rw [sel_bad e, sel_bad e, sel_bad e, errV_pos e]
    exact wsend_bad s l y n h w
theorem backE_zero {s l y n : Int} (h : PacOk s l y n ∧ n ≤ y) : backE s l y n = 0 := by rw [backE_eq, if_pos h.1, if_neg (by omega)]
theorem backE_bad {s l y n : Int} (h : ¬ (PacOk s l y n ∧ n ≤ y)) : backE s l y n ≠ 0 := by
  rw [backE_eq]
  by_cases hp : PacOk s l y n
  · rw [if_pos hp, if_pos (by rcases Int.lt_or_le y n with h1 | h1; exact h1; exact absurd ⟨hp, h1⟩ h)]
    decide
  · rw [if_neg hp]
    decide
theorem wcame_all (s l y n : Int) (w : World) :
    Calls Tryd.prog 23 #[.agg #[.int .i64 s, .int .i64 l, .int .i64 y], .int .i64 n] w fun e w' => e = .returned (.tuple #[winV (sel (backE s l y n) (cameS s l n)) (sel (backE s l y n) l) (sel (backE s l y n) (y - n)), errV (backE s l y n)]) ∧ Below w.heap.size w w' := by
  by_cases h : PacOk s l y n ∧ n ≤ y
  · rw [backE_zero h, sel_ok, sel_ok, sel_ok]
    exact wcame_yes s l y n h.1 h.2 w
  · have e := backE_bad h
    rw [sel_bad e, sel_bad e, sel_bad e, errV_pos e]
    exact wcame_no s l y n h w
theorem wlost_all (s l y n : Int) (w : World) :
    Calls Tryd.prog 24 #[.agg #[.int .i64 s, .int .i64 l, .int .i64 y], .int .i64 n] w fun e w' => e = .returned (.tuple #[winV (sel (backE s l y n) (lostS s)) (sel (backE s l y n) (lostS s)) (sel (backE s l y n) (y - n)), errV (backE s l y n)]) ∧ Below w.heap.size w w' := by
  by_cases h : PacOk s l y n ∧ n ≤ y
  · rw [backE_zero h, sel_ok, sel_ok]
    exact wlost_yes s l y n h.1 h.2 w
  · have e := backE_bad h
    rw [sel_bad e, sel_bad e, errV_pos e]
    exact wlost_no s l y n h w
set_option maxHeartbeats 1600000 in
theorem rwindow_any (s l y n : Int) (w : World) :
    Calls Tryd.prog 21 #[.agg #[.int .i64 s, .int .i64 l, .int .i64 y], .int .i64 n] w fun e w' => e = .returned (.int .i64 (wE s l y n)) ∧ w.alloc (winCells s l y) = w' := by
  by_cases h : PacOk s l y n
  · have e : wE s l y n = 0 := by unfold wE; rw [if_pos h]
    rw [e]
    clear e
    obtain ⟨⟨a, b, c, d, e, f⟩, g, i⟩ := h
    go_enter Tryd.func21, Tryd.ntmps21
    go_wp2
    go_ret
    exact ⟨rfl, rfl⟩
  · have e : wE s l y n = 1 := by unfold wE; rw [if_neg h]
    rw [e]
    clear e
    by_cases a : 400 ≤ s
    case neg =>
      clear h
      go_enter Tryd.func21, Tryd.ntmps21
      go_wp2
      go_ret
      exact ⟨rfl, rfl⟩
    by_cases b : s ≤ 100000
    case neg =>
      clear h
      go_enter Tryd.func21, Tryd.ntmps21
      go_wp2
      go_ret
      exact ⟨rfl, rfl⟩
    by_cases c : 400 ≤ l
    case neg =>
      clear h
      go_enter Tryd.func21, Tryd.ntmps21
      go_wp2
      go_ret
      exact ⟨rfl, rfl⟩
    by_cases d : l ≤ 100000
    case neg =>
      clear h
      go_enter Tryd.func21, Tryd.ntmps21
      go_wp2
      go_ret
      exact ⟨rfl, rfl⟩
    by_cases f : 0 ≤ y
    case neg =>
      clear h
      go_enter Tryd.func21, Tryd.ntmps21
      go_wp2
      go_ret
      exact ⟨rfl, rfl⟩
    by_cases g : y ≤ 100000
    case neg =>
      clear h
      go_enter Tryd.func21, Tryd.ntmps21
      go_wp2
      go_ret
      exact ⟨rfl, rfl⟩
    by_cases i : 1 ≤ n
    case neg =>
      clear h
      go_enter Tryd.func21, Tryd.ntmps21
      go_wp2
      go_ret
      exact ⟨rfl, rfl⟩
    have j : 200 < n := by
      rcases Int.lt_or_le 200 n with h1 | h1
      · exact h1
      · exact absurd ⟨⟨a, b, c, d, f, g⟩, i, h1⟩ h
    clear h
    go_enter Tryd.func21, Tryd.ntmps21
    go_wp2
    go_ret
    exact ⟨rfl, rfl⟩
end Go.Proofs.YtaiojfoicfhbnaaDoor
