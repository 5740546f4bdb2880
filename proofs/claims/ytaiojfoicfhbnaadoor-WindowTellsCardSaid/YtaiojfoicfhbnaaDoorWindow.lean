/- Contracts of package window: what each answers, for every window and number. No condition. -/
import Derived.Test.YtaiojfoicfhbnaaDoorBase
namespace Go.Proofs.YtaiojfoicfhbnaaDoor
open Go.ChangeShapes Go.WideShapes Go.ChangeAt Go.RowKit
set_option linter.unusedVariables false

abbrev winV (s l y : Int) : Value := .agg #[.int .i64 s, .int .i64 l, .int .i64 y]
abbrev winCells (s l y : Int) : Obj := .cells #[.int .i64 s, .int .i64 l, .int .i64 y] 42
/-- a right window -/
structure WinOk (s l y : Int) : Prop where
  s1 : 400 ≤ s
  s2 : s ≤ 100000
  l1 : 400 ≤ l
  l2 : l ≤ 100000
  y1 : 0 ≤ y
  y2 : y ≤ 100000
/-- a right window, and a packet -/
def PacOk (s l y n : Int) : Prop := WinOk s l y ∧ 1 ≤ n ∧ n ≤ 200

theorem wsize_yes (n : Int) (h1 : 400 ≤ n) (h2 : n ≤ 100000) (w : World) :
    Calls Tryd.prog 44 #[.int .i64 n] w fun e w' => e = .returned (.bool true) ∧ w = w' := by
  go_enter Tryd.func44, Tryd.ntmps44
  go_wp2
  go_ret
  exact ⟨rfl, rfl⟩
theorem wsize_no (n : Int) (h : ¬ (400 ≤ n ∧ n ≤ 100000)) (w : World) :
    Calls Tryd.prog 44 #[.int .i64 n] w fun e w' => e = .returned (.bool false) ∧ w = w' := by
  by_cases h1 : 400 ≤ n
  · have h2 : decide (n ≤ 100000) = false := by simp; omega
    clear h
    go_enter Tryd.func44, Tryd.ntmps44
    go_wp2
    go_ret
    exact ⟨rfl, rfl⟩
  · clear h
    go_enter Tryd.func44, Tryd.ntmps44
    go_wp2
    go_ret
    exact ⟨rfl, rfl⟩

theorem wcheck_yes (s l y : Int) (h : WinOk s l y) (w : World) :
    Calls Tryd.prog 20 #[.agg #[.int .i64 s, .int .i64 l, .int .i64 y]] w fun e w' => e = .returned .nilIface ∧ w.alloc (winCells s l y) = w' := by
  obtain ⟨s1, s2, l1, l2, y1, y2⟩ := h
  go_enter Tryd.func20, Tryd.ntmps20
  go_wp2_with (first | (go_at_call_of 44 (Value.int IntKind.i64 s); refine (wsize_yes s s1 s2 _).mono ?_; rintro e w' ⟨rfl, rfl⟩) | (go_at_call 44; refine (wsize_yes l l1 l2 _).mono ?_; rintro e w' ⟨rfl, rfl⟩))
  go_ret
  exact ⟨rfl, rfl⟩
theorem wcheck_no (s l y : Int) (h : ¬ WinOk s l y) (w : World) :
    Calls Tryd.prog 20 #[.agg #[.int .i64 s, .int .i64 l, .int .i64 y]] w fun e w' => e = .returned (.iface 79 (.int .i64 1)) ∧ w.alloc (winCells s l y) = w' := by
  by_cases hs : 400 ≤ s ∧ s ≤ 100000
  case neg =>
    clear h
    go_enter Tryd.func20, Tryd.ntmps20
    go_wp2_with (go_at_call 44; refine (wsize_no s hs _).mono ?_; rintro e w' ⟨rfl, rfl⟩)
    go_ret
    exact ⟨rfl, rfl⟩
  obtain ⟨s1, s2⟩ := hs
  by_cases hl : 400 ≤ l ∧ l ≤ 100000
  case neg =>
    have hne : s ≠ l := fun hh => hl ⟨by omega, by omega⟩
    clear h
    go_enter Tryd.func20, Tryd.ntmps20
    go_wp2_with (first | (go_at_call_of 44 (Value.int IntKind.i64 s); refine (wsize_yes s s1 s2 _).mono ?_; rintro e w' ⟨rfl, rfl⟩) | (go_at_call 44; refine (wsize_no l hl _).mono ?_; rintro e w' ⟨rfl, rfl⟩))
    go_ret
    exact ⟨rfl, rfl⟩
  obtain ⟨l1, l2⟩ := hl
  by_cases hy : 0 ≤ y
  · have hy2 : 100000 < y := by
      rcases Int.lt_or_le 100000 y with h3 | h3
      · exact h3
      · exact absurd ⟨s1, s2, l1, l2, hy, h3⟩ h
    clear h
    go_enter Tryd.func20, Tryd.ntmps20
    go_wp2_with (first | (go_at_call_of 44 (Value.int IntKind.i64 s); refine (wsize_yes s s1 s2 _).mono ?_; rintro e w' ⟨rfl, rfl⟩) | (go_at_call 44; refine (wsize_yes l l1 l2 _).mono ?_; rintro e w' ⟨rfl, rfl⟩))
    go_ret
    exact ⟨rfl, rfl⟩
  · clear h
    go_enter Tryd.func20, Tryd.ntmps20
    go_wp2_with (first | (go_at_call_of 44 (Value.int IntKind.i64 s); refine (wsize_yes s s1 s2 _).mono ?_; rintro e w' ⟨rfl, rfl⟩) | (go_at_call 44; refine (wsize_yes l l1 l2 _).mono ?_; rintro e w' ⟨rfl, rfl⟩))
    go_ret
    exact ⟨rfl, rfl⟩

theorem wpacket_yes (s l y n : Int) (h : PacOk s l y n) (w : World) :
    Calls Tryd.prog 45 #[.agg #[.int .i64 s, .int .i64 l, .int .i64 y], .int .i64 n] w fun e w' => e = .returned .nilIface ∧ (w.alloc (winCells s l y)).alloc (winCells s l y) = w' := by
  obtain ⟨hw, n1, n2⟩ := h
  go_enter Tryd.func45, Tryd.ntmps45
  go_wp2_with (go_at_call 20; refine (wcheck_yes s l y hw _).mono ?_; rintro e w' ⟨rfl, rfl⟩)
  go_ret
  exact ⟨rfl, rfl⟩
theorem wpacket_no (s l y n : Int) (h : ¬ PacOk s l y n) (w : World) :
    Calls Tryd.prog 45 #[.agg #[.int .i64 s, .int .i64 l, .int .i64 y], .int .i64 n] w fun e w' => e = .returned (.iface 79 (.int .i64 1)) ∧ (w.alloc (winCells s l y)).alloc (winCells s l y) = w' := by
  by_cases hw : WinOk s l y
  case neg =>
    clear h
    go_enter Tryd.func45, Tryd.ntmps45
    go_wp2_with (go_at_call 20; refine (wcheck_no s l y hw _).mono ?_; rintro e w' ⟨rfl, rfl⟩)
    go_ret
    exact ⟨rfl, rfl⟩
  by_cases hn : n < 1
  · clear h
    go_enter Tryd.func45, Tryd.ntmps45
    go_wp2_with (go_at_call 20; refine (wcheck_yes s l y hw _).mono ?_; rintro e w' ⟨rfl, rfl⟩)
    go_ret
    exact ⟨rfl, rfl⟩
  · have hn2 : 200 < n := by
      rcases Int.lt_or_le 200 n with h3 | h3
      · exact h3
      · exact absurd ⟨hw, by omega, h3⟩ h
    clear h
    go_enter Tryd.func45, Tryd.ntmps45
    go_wp2_with (go_at_call 20; refine (wcheck_yes s l y hw _).mono ?_; rintro e w' ⟨rfl, rfl⟩)
    go_ret
    exact ⟨rfl, rfl⟩

theorem wsend_yes (s l y n : Int) (h : PacOk s l y n) (hf : y + n ≤ s) (w : World) :
    Calls Tryd.prog 22 #[.agg #[.int .i64 s, .int .i64 l, .int .i64 y], .int .i64 n] w fun e w' => e = .returned (.tuple #[winV s l (y + n), .nilIface]) ∧ Below w.heap.size w w' := by
  have hh := h
  obtain ⟨⟨s1, s2, l1, l2, y1, y2⟩, n1, n2⟩ := hh
  go_enter Tryd.func22, Tryd.ntmps22
  go_wp2_with (go_at_call 45; refine (wpacket_yes s l y n h _).mono ?_; rintro e w' ⟨rfl, rfl⟩)
  refine bodyPost_ret (v := .tuple #[winV s l (y + n), .nilIface]) (by simp [results, Tryd.results22, go_sem]) rfl ⟨rfl, ?_⟩
  repeat (first | exact Below.refl _ _ | refine Below.alloc ?_ (by simp; omega) _ | refine Below.alloc ?_ (by simp) _)
theorem wsend_full (s l y n : Int) (h : PacOk s l y n) (hf : s < y + n) (w : World) :
    Calls Tryd.prog 22 #[.agg #[.int .i64 s, .int .i64 l, .int .i64 y], .int .i64 n] w fun e w' => e = .returned (.tuple #[winV 0 0 0, .iface 79 (.int .i64 8)]) ∧ Below w.heap.size w w' := by
  have hh := h
  obtain ⟨⟨s1, s2, l1, l2, y1, y2⟩, n1, n2⟩ := hh
  go_enter Tryd.func22, Tryd.ntmps22
  go_wp2_with (go_at_call 45; refine (wpacket_yes s l y n h _).mono ?_; rintro e w' ⟨rfl, rfl⟩)
  refine bodyPost_ret (v := .tuple #[winV 0 0 0, .iface 79 (.int .i64 8)]) (by simp [results, Tryd.results22, go_sem]) rfl ⟨rfl, ?_⟩
  repeat (first | exact Below.refl _ _ | refine Below.alloc ?_ (by simp; omega) _ | refine Below.alloc ?_ (by simp) _)
theorem wsend_no (s l y n : Int) (h : ¬ PacOk s l y n) (w : World) :
    Calls Tryd.prog 22 #[.agg #[.int .i64 s, .int .i64 l, .int .i64 y], .int .i64 n] w fun e w' => e = .returned (.tuple #[winV 0 0 0, .iface 79 (.int .i64 1)]) ∧ Below w.heap.size w w' := by
  go_enter Tryd.func22, Tryd.ntmps22
  go_wp2_with (go_at_call 45; refine (wpacket_no s l y n h _).mono ?_; rintro e w' ⟨rfl, rfl⟩)
  refine bodyPost_ret (v := .tuple #[winV 0 0 0, .iface 79 (.int .i64 1)]) (by simp [results, Tryd.results22, go_sem]) rfl ⟨rfl, ?_⟩
  repeat (first | exact Below.refl _ _ | refine Below.alloc ?_ (by simp; omega) _ | refine Below.alloc ?_ (by simp) _)

theorem wback_yes (s l y n : Int) (h : PacOk s l y n) (hf : n ≤ y) (w : World) :
    Calls Tryd.prog 46 #[.agg #[.int .i64 s, .int .i64 l, .int .i64 y], .int .i64 n] w fun e w' => e = .returned (.tuple #[winV s l (y - n), .nilIface]) ∧ (((w.alloc (winCells s l (y - n))).alloc (winCells s l (y - n))).alloc (winCells s l y)).alloc (winCells s l y) = w' := by
  have hh := h
  obtain ⟨⟨s1, s2, l1, l2, y1, y2⟩, n1, n2⟩ := hh
  go_enter Tryd.func46, Tryd.ntmps46
  go_wp2_with (go_at_call 45; refine (wpacket_yes s l y n h _).mono ?_; rintro e w' ⟨rfl, rfl⟩)
  exact bodyPost_ret (v := .tuple #[winV s l (y - n), .nilIface]) (by simp [results, Tryd.results46, go_sem]) rfl ⟨rfl, rfl⟩
theorem wback_shape (s l y n : Int) (h : PacOk s l y n) (hf : y < n) (w : World) :
    Calls Tryd.prog 46 #[.agg #[.int .i64 s, .int .i64 l, .int .i64 y], .int .i64 n] w fun e w' => e = .returned (.tuple #[winV 0 0 0, .iface 79 (.int .i64 3)]) ∧ (((w.alloc (winCells s l y)).alloc (winCells 0 0 0)).alloc (winCells s l y)).alloc (winCells s l y) = w' := by
  have hh := h
  obtain ⟨⟨s1, s2, l1, l2, y1, y2⟩, n1, n2⟩ := hh
  go_enter Tryd.func46, Tryd.ntmps46
  go_wp2_with (go_at_call 45; refine (wpacket_yes s l y n h _).mono ?_; rintro e w' ⟨rfl, rfl⟩)
  exact bodyPost_ret (v := .tuple #[winV 0 0 0, .iface 79 (.int .i64 3)]) (by simp [results, Tryd.results46, go_sem]) rfl ⟨rfl, rfl⟩
theorem wback_no (s l y n : Int) (h : ¬ PacOk s l y n) (w : World) :
    Calls Tryd.prog 46 #[.agg #[.int .i64 s, .int .i64 l, .int .i64 y], .int .i64 n] w fun e w' => e = .returned (.tuple #[winV 0 0 0, .iface 79 (.int .i64 1)]) ∧ (((w.alloc (winCells s l y)).alloc (winCells 0 0 0)).alloc (winCells s l y)).alloc (winCells s l y) = w' := by
  go_enter Tryd.func46, Tryd.ntmps46
  go_wp2_with (go_at_call 45; refine (wpacket_no s l y n h _).mono ?_; rintro e w' ⟨rfl, rfl⟩)
  exact bodyPost_ret (v := .tuple #[winV 0 0 0, .iface 79 (.int .i64 1)]) (by simp [results, Tryd.results46, go_sem]) rfl ⟨rfl, rfl⟩
/-- the fault of what is sent -/
def sendWE (s l y n : Int) : Int := if 400 ≤ s ∧ s ≤ 100000 ∧ 400 ≤ l ∧ l ≤ 100000 ∧ 0 ≤ y ∧ y ≤ 100000 ∧ 1 ≤ n ∧ n ≤ 200 then (if s < y + n then 8 else 0) else 1
theorem wsend_bad (s l y n : Int) (h : ¬ (PacOk s l y n ∧ y + n ≤ s)) (w : World) :
    Calls Tryd.prog 22 #[.agg #[.int .i64 s, .int .i64 l, .int .i64 y], .int .i64 n] w fun e w' => e = .returned (.tuple #[winV 0 0 0, .iface 79 (.int .i64 (sendWE s l y n))]) ∧ Below w.heap.size w w' := by
  by_cases hp : PacOk s l y n
  · have hlt : s < y + n := by
      rcases Int.lt_or_le s (y + n) with h3 | h3
      · exact h3
      · exact absurd ⟨hp, h3⟩ h
    have he : sendWE s l y n = 8 := by
      obtain ⟨⟨a, b, c, d, e, f⟩, g, i⟩ := hp
      unfold sendWE
      rw [if_pos ⟨a, b, c, d, e, f, g, i⟩, if_pos hlt]
    rw [he]
    exact wsend_full s l y n hp hlt w
  · have he : sendWE s l y n = 1 := by
      unfold sendWE
      rw [if_neg]
      rintro ⟨a, b, c, d, e, f, g, i⟩
      exact hp ⟨⟨a, b, c, d, e, f⟩, g, i⟩
    rw [he]
    exact wsend_no s l y n hp w
/-- whatever Send gives -/
def SendGives (w : World) (e : Ending) (w' : World) : Prop := ∃ a b c er, e = .returned (.tuple #[winV a b c, er]) ∧ Below w.heap.size w w'
theorem wsend_any (s l y n : Int) (w : World) :
    Calls Tryd.prog 22 #[.agg #[.int .i64 s, .int .i64 l, .int .i64 y], .int .i64 n] w (SendGives w) := by
  by_cases h : PacOk s l y n ∧ y + n ≤ s
  · exact (wsend_yes s l y n h.1 h.2 w).mono fun e w' ⟨h1, h2⟩ => ⟨_, _, _, _, h1, h2⟩
  · exact (wsend_bad s l y n h w).mono fun e w' ⟨h1, h2⟩ => ⟨_, _, _, _, h1, h2⟩

/-- the fault of what comes back -/
def backE (s l y n : Int) : Int := if 400 ≤ s ∧ s ≤ 100000 ∧ 400 ≤ l ∧ l ≤ 100000 ∧ 0 ≤ y ∧ y ≤ 100000 ∧ 1 ≤ n ∧ n ≤ 200 then (if y < n then 3 else 0) else 1
theorem backE_no {s l y n : Int} (h : ¬ PacOk s l y n) : backE s l y n = 1 := by
  unfold backE
  rw [if_neg]
  rintro ⟨a, b, c, d, e, f, g, i⟩
  exact h ⟨⟨a, b, c, d, e, f⟩, g, i⟩
theorem backE_ok {s l y n : Int} (h : PacOk s l y n) : backE s l y n = if y < n then 3 else 0 := by
  unfold backE
  obtain ⟨⟨a, b, c, d, e, f⟩, g, i⟩ := h
  rw [if_pos ⟨a, b, c, d, e, f, g, i⟩]
theorem wback_bad (s l y n : Int) (h : ¬ (PacOk s l y n ∧ n ≤ y)) (w : World) :
    Calls Tryd.prog 46 #[.agg #[.int .i64 s, .int .i64 l, .int .i64 y], .int .i64 n] w fun e w' => e = .returned (.tuple #[winV 0 0 0, .iface 79 (.int .i64 (backE s l y n))]) ∧ (((w.alloc (winCells s l y)).alloc (winCells 0 0 0)).alloc (winCells s l y)).alloc (winCells s l y) = w' := by
  by_cases hp : PacOk s l y n
  · have hlt : y < n := by
      rcases Int.lt_or_le y n with h3 | h3
      · exact h3
      · exact absurd ⟨hp, h3⟩ h
    rw [backE_ok hp, if_pos hlt]
    exact wback_shape s l y n hp hlt w
  · rw [backE_no hp]
    exact wback_no s l y n hp w

/-- the size behind what came -/
def cameS (s l n : Int) : Int := if s + (if l ≤ s then n * 200 / s else n) < 100000 then s + (if l ≤ s then n * 200 / s else n) else 100000
theorem moreN (s n : Int) (s1 : 400 ≤ s) (n1 : 1 ≤ n) (n2 : n ≤ 200) : 0 ≤ n * 200 / s ∧ n * 200 / s ≤ 40000 :=
  ⟨Int.ediv_nonneg (by omega) (by omega), Int.le_trans (Int.ediv_le_self _ (by omega)) (by omega)⟩
theorem cameS_bounds (s l n : Int) (s1 : 400 ≤ s) (s2 : s ≤ 100000) (n1 : 1 ≤ n) (n2 : n ≤ 200) : s ≤ cameS s l n ∧ cameS s l n ≤ 100000 := by
  have := moreN s n s1 n1 n2
  unfold cameS
  generalize n * 200 / s = q at *
  omega
theorem wcame_yes (s l y n : Int) (h : PacOk s l y n) (hf : n ≤ y) (w : World) :
    Calls Tryd.prog 23 #[.agg #[.int .i64 s, .int .i64 l, .int .i64 y], .int .i64 n] w fun e w' => e = .returned (.tuple #[winV (cameS s l n) l (y - n), .nilIface]) ∧ Below w.heap.size w w' := by
  have hh := h
  obtain ⟨⟨s1, s2, l1, l2, y1, y2⟩, n1, n2⟩ := hh
  obtain ⟨q1, q2⟩ := moreN s n s1 n1 n2
  go_enter Tryd.func23, Tryd.ntmps23
  go_wp2_with (go_at_call 46; refine (wback_yes s l y n h hf _).mono ?_; rintro e w' ⟨rfl, rfl⟩)
  all_goals
    refine bodyPost_ret (v := .tuple #[winV (cameS s l n) l (y - n), .nilIface]) (by simp [results, Tryd.results23, go_sem]; unfold cameS; generalize n * 200 / s = q at *; omega) rfl ⟨rfl, ?_⟩
    repeat (first | exact Below.refl _ _ | refine Below.alloc ?_ (by simp; omega) _ | refine Below.alloc ?_ (by simp) _)
theorem wcame_no (s l y n : Int) (h : ¬ (PacOk s l y n ∧ n ≤ y)) (w : World) :
    Calls Tryd.prog 23 #[.agg #[.int .i64 s, .int .i64 l, .int .i64 y], .int .i64 n] w fun e w' => e = .returned (.tuple #[winV 0 0 0, .iface 79 (.int .i64 (backE s l y n))]) ∧ Below w.heap.size w w' := by
  go_enter Tryd.func23, Tryd.ntmps23
  go_wp2_with (go_at_call 46; refine (wback_bad s l y n h _).mono ?_; rintro e w' ⟨rfl, rfl⟩)
  refine bodyPost_ret (v := .tuple #[winV 0 0 0, .iface 79 (.int .i64 (backE s l y n))]) (by simp [results, Tryd.results23, go_sem]) rfl ⟨rfl, ?_⟩
  repeat (first | exact Below.refl _ _ | refine Below.alloc ?_ (by simp; omega) _ | refine Below.alloc ?_ (by simp) _)

/-- the size behind what was lost -/
def lostS (s : Int) : Int := if 400 < s / 2 then s / 2 else 400
theorem wlost_yes (s l y n : Int) (h : PacOk s l y n) (hf : n ≤ y) (w : World) :
    Calls Tryd.prog 24 #[.agg #[.int .i64 s, .int .i64 l, .int .i64 y], .int .i64 n] w fun e w' => e = .returned (.tuple #[winV (lostS s) (lostS s) (y - n), .nilIface]) ∧ Below w.heap.size w w' := by
  have hh := h
  obtain ⟨⟨s1, s2, l1, l2, y1, y2⟩, n1, n2⟩ := hh
  go_enter Tryd.func24, Tryd.ntmps24
  go_wp2_with (go_at_call 46; refine (wback_yes s l y n h hf _).mono ?_; rintro e w' ⟨rfl, rfl⟩)
  all_goals
    refine bodyPost_ret (v := .tuple #[winV (lostS s) (lostS s) (y - n), .nilIface]) (by simp [results, Tryd.results24, go_sem]; unfold lostS; try omega) rfl ⟨rfl, ?_⟩
    repeat (first | exact Below.refl _ _ | refine Below.alloc ?_ (by simp; omega) _ | refine Below.alloc ?_ (by simp) _)
theorem wlost_no (s l y n : Int) (h : ¬ (PacOk s l y n ∧ n ≤ y)) (w : World) :
    Calls Tryd.prog 24 #[.agg #[.int .i64 s, .int .i64 l, .int .i64 y], .int .i64 n] w fun e w' => e = .returned (.tuple #[winV 0 0 0, .iface 79 (.int .i64 (backE s l y n))]) ∧ Below w.heap.size w w' := by
  go_enter Tryd.func24, Tryd.ntmps24
  go_wp2_with (go_at_call 46; refine (wback_bad s l y n h _).mono ?_; rintro e w' ⟨rfl, rfl⟩)
  refine bodyPost_ret (v := .tuple #[winV 0 0 0, .iface 79 (.int .i64 (backE s l y n))]) (by simp [results, Tryd.results24, go_sem]) rfl ⟨rfl, ?_⟩
  repeat (first | exact Below.refl _ _ | refine Below.alloc ?_ (by simp; omega) _ | refine Below.alloc ?_ (by simp) _)

theorem wleast (w : World) : Calls Tryd.prog 25 #[] w fun e w' => e = .returned (.int .i64 400) ∧ w = w' := by
  go_enter Tryd.func25, Tryd.ntmps25
  go_wp2
  go_ret
  exact ⟨rfl, rfl⟩
theorem lostS_bounds (s : Int) (s1 : 400 ≤ s) (s2 : s ≤ 100000) : 400 ≤ lostS s ∧ lostS s ≤ s := by unfold lostS; omega
end Go.Proofs.YtaiojfoicfhbnaaDoor
