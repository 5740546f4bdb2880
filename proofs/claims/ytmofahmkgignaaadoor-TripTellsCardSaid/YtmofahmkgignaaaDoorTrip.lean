/- Contracts of trip.Time, trip.right, trip.First, trip.Next, trip.Wait: what each returns, for every argument; the world has at most new blocks. No condition but that the arguments are ints. -/
import Derived.Test.YtmofahmkgignaaaDoorBase
namespace Go.Proofs.YtmofahmkgignaaaDoor
open Go.ChangeShapes Go.WideShapes Go.ChangeAt Go.RowKit
set_option linter.unusedVariables false

theorem time_yes (t : Int) (h1 : 1 ≤ t) (h2 : t ≤ 100000) (w : World) :
    Calls Tryd.prog 39 #[.int .i64 t] w fun e w' => e = .returned (.bool true) ∧ w = w' := by
  go_enter Tryd.func39, Tryd.ntmps39
  go_wp2
  go_ret
  exact ⟨rfl, rfl⟩
theorem time_no (t : Int) (h : ¬ (1 ≤ t ∧ t ≤ 100000)) (w : World) :
    Calls Tryd.prog 39 #[.int .i64 t] w fun e w' => e = .returned (.bool false) ∧ w = w' := by
  by_cases h1 : 1 ≤ t
  · have h2 : decide (t ≤ 100000) = false := by simp; omega
    clear h
    go_enter Tryd.func39, Tryd.ntmps39
    go_wp2
    go_ret
    exact ⟨rfl, rfl⟩
  · clear h
    go_enter Tryd.func39, Tryd.ntmps39
    go_wp2
    go_ret
    exact ⟨rfl, rfl⟩

/-- the three cells of a Trip -/
abbrev tripCells (s v l : Int) : Obj := .cells #[.int .i64 s, .int .i64 v, .int .i64 l] 23
/-- a Trip by value -/
abbrev tripV (s v l : Int) : Value := .agg #[.int .i64 s, .int .i64 v, .int .i64 l]

theorem first_yes (t : Int) (h1 : 1 ≤ t) (h2 : t ≤ 100000) (w : World) :
    Calls Tryd.prog 11 #[.int .i64 t] w fun e w' => e = .returned (.tuple #[.agg #[.int .i64 (8 * t), .int .i64 (4 * t), .int .i64 t], .nilIface]) ∧ w.alloc (tripCells (8 * t) (4 * t) t) = w' := by
  go_enter Tryd.func11, Tryd.ntmps11
  go_wp2_with (go_at_call 39; refine (time_yes t h1 h2 _).mono ?_; rintro e w' ⟨rfl, rfl⟩)
  exact bodyPost_ret (v := .tuple #[.agg #[.int .i64 (8 * t), .int .i64 (4 * t), .int .i64 t], .nilIface]) (by simp [results, Tryd.results11, go_sem]) rfl ⟨rfl, rfl⟩
theorem first_no (t : Int) (h : ¬ (1 ≤ t ∧ t ≤ 100000)) (w : World) :
    Calls Tryd.prog 11 #[.int .i64 t] w fun e w' => e = .returned (.tuple #[.agg #[.int .i64 0, .int .i64 0, .int .i64 0], .iface 68 (.int .i64 1)]) ∧ w.alloc (tripCells 0 0 0) = w' := by
  go_enter Tryd.func11, Tryd.ntmps11
  go_wp2_with (go_at_call 39; refine (time_no t h _).mono ?_; rintro e w' ⟨rfl, rfl⟩)
  exact bodyPost_ret (v := .tuple #[.agg #[.int .i64 0, .int .i64 0, .int .i64 0], .iface 68 (.int .i64 1)]) (by simp [results, Tryd.results11, go_sem]) rfl ⟨rfl, rfl⟩

/-- what the times must be -/
structure TRight (s v l : Int) : Prop where
  s1 : 8 ≤ s
  s2 : s ≤ 800000
  v1 : 0 ≤ v
  v2 : v ≤ 800000
  l1 : 1 ≤ l
  l2 : l ≤ 100000

theorem right_yes (s v l : Int) (h : TRight s v l) (w : World) :
    Calls Tryd.prog 41 #[.agg #[.int .i64 s, .int .i64 v, .int .i64 l]] w fun e w' => e = .returned (.bool true) ∧ w.alloc (tripCells s v l) = w' := by
  obtain ⟨s1, s2, v1, v2, l1, l2⟩ := h
  go_enter Tryd.func41, Tryd.ntmps41
  go_wp2_with (go_at_call 39; refine (time_yes _ l1 l2 _).mono ?_; rintro e w' ⟨rfl, rfl⟩)
  go_ret
  exact ⟨rfl, rfl⟩

theorem right_no (s v l : Int) (h : ¬ TRight s v l) (w : World) :
    Calls Tryd.prog 41 #[.agg #[.int .i64 s, .int .i64 v, .int .i64 l]] w fun e w' => e = .returned (.bool false) ∧ w.alloc (tripCells s v l) = w' := by
  by_cases s1 : 8 ≤ s
  case neg =>
    clear h
    go_enter Tryd.func41, Tryd.ntmps41
    go_wp2_with fail
    go_ret
    exact ⟨rfl, rfl⟩
  by_cases s2 : s ≤ 800000
  case neg =>
    clear h
    go_enter Tryd.func41, Tryd.ntmps41
    go_wp2_with fail
    go_ret
    exact ⟨rfl, rfl⟩
  by_cases v1 : 0 ≤ v
  case neg =>
    clear h
    go_enter Tryd.func41, Tryd.ntmps41
    go_wp2_with fail
    go_ret
    exact ⟨rfl, rfl⟩
  by_cases v2 : v ≤ 800000
  case neg =>
    have v3 : decide (v ≤ 800000) = false := by simpa using v2
    clear h v2
    go_enter Tryd.func41, Tryd.ntmps41
    go_wp2_with fail
    go_ret
    exact ⟨rfl, rfl⟩
  have hl : ¬ (1 ≤ l ∧ l ≤ 100000) := fun hl => h ⟨s1, s2, v1, v2, hl.1, hl.2⟩
  clear h
  go_enter Tryd.func41, Tryd.ntmps41
  go_wp2_with (go_at_call 39; refine (time_no _ hl _).mono ?_; rintro e w' ⟨rfl, rfl⟩)
  go_ret
  exact ⟨rfl, rfl⟩

/-! what Next gives -/
def nextL (l t : Int) : Int := if t < l then t else l
def nextT (l t d : Int) : Int := if nextL l t ≤ t - d then t - d else t
def nextF (s l t d : Int) : Int := nextT l t d - s / 8
def nextS (s l t d : Int) : Int := s + nextF s l t d
def nextV (s v l t d : Int) : Int := v - v / 4 + 2 * (if nextF s l t d < -nextF s l t d then -nextF s l t d else nextF s l t d)

theorem trip3_eq {w : World} {a b c a' b' c' s v l : Int} (h1 : a = a') (h2 : b = b') (h3 : c = c') :
    ((w.alloc (tripCells a b c)).alloc (tripCells a b c)).alloc (tripCells s v l) = ((w.alloc (tripCells a' b' c')).alloc (tripCells a' b' c')).alloc (tripCells s v l) := by rw [h1, h2, h3]
theorem next_yes_x (s v l t d : Int) (h : TRight s v l) (h1 : 1 ≤ t) (h2 : t ≤ 100000) (hd1 : 0 ≤ d) (hd2 : d ≤ 100000) (w : World) :
    Calls Tryd.prog 15 #[.agg #[.int .i64 s, .int .i64 v, .int .i64 l], .int .i64 t, .int .i64 d] w fun e w' => e = .returned (.tuple #[tripV (nextS s l t d) (nextV s v l t d) (nextL l t), .nilIface]) ∧ ((w.alloc (tripCells (nextS s l t d) (nextV s v l t d) (nextL l t))).alloc (tripCells (nextS s l t d) (nextV s v l t d) (nextL l t))).alloc (tripCells s v l) = w' := by
  have hh := h
  obtain ⟨s1, s2, v1, v2, l1, l2⟩ := hh
  go_enter Tryd.func15, Tryd.ntmps15
  go_wp2_with (first | (go_at_call 39; refine (time_yes _ h1 h2 _).mono ?_; rintro e w' ⟨rfl, rfl⟩) | (go_at_call 41; refine (right_yes s v l h _).mono ?_; rintro e w1 ⟨rfl, rfl⟩))
  all_goals
    refine bodyPost_ret (v := .tuple #[tripV (nextS s l t d) (nextV s v l t d) (nextL l t), .nilIface]) ?_ rfl ⟨rfl, ?_⟩
    · simp [results, Tryd.results15, go_sem]
      simp only [nextS, nextV, nextF, nextT, nextL]
      refine ⟨?_, ?_, ?_⟩ <;> omega
    · exact trip3_eq (by simp only [nextS, nextF, nextT, nextL]; omega) (by simp only [nextV, nextF, nextT, nextL]; omega) (by simp only [nextL]; omega)

theorem next_yes (s v l t d : Int) (h : TRight s v l) (h1 : 1 ≤ t) (h2 : t ≤ 100000) (hd1 : 0 ≤ d) (hd2 : d ≤ 100000) (w : World) :
    Calls Tryd.prog 15 #[.agg #[.int .i64 s, .int .i64 v, .int .i64 l], .int .i64 t, .int .i64 d] w fun e w' => e = .returned (.tuple #[tripV (nextS s l t d) (nextV s v l t d) (nextL l t), .nilIface]) ∧ Below w.heap.size w w' :=
  (next_yes_x s v l t d h h1 h2 hd1 hd2 w).mono fun _ _ hh => ⟨hh.1, hh.2 ▸ (((Below.refl _ _).alloc (Nat.le_refl _) _).alloc (by simp) _).alloc (by simp; omega) _⟩

theorem next_no_x (s v l t d : Int) (h : ¬ (TRight s v l ∧ (1 ≤ t ∧ t ≤ 100000) ∧ 0 ≤ d ∧ d ≤ 100000)) (w : World) :
    Calls Tryd.prog 15 #[.agg #[.int .i64 s, .int .i64 v, .int .i64 l], .int .i64 t, .int .i64 d] w fun e w' => e = .returned (.tuple #[tripV 0 0 0, .iface 68 (.int .i64 1)]) ∧ ((w.alloc (tripCells s v l)).alloc (tripCells 0 0 0)).alloc (tripCells s v l) = w' := by
  by_cases hr : TRight s v l
  case neg =>
    clear h
    go_enter Tryd.func15, Tryd.ntmps15
    go_wp2_with (first | (go_at_call 41; refine (right_no s v l hr _).mono ?_; rintro e w1 ⟨rfl, rfl⟩))
    exact bodyPost_ret (v := .tuple #[tripV 0 0 0, .iface 68 (.int .i64 1)]) (by simp [results, Tryd.results15, go_sem]) rfl ⟨rfl, rfl⟩
  by_cases ht : 1 ≤ t ∧ t ≤ 100000
  case neg =>
    clear h
    go_enter Tryd.func15, Tryd.ntmps15
    go_wp2_with (first | (go_at_call 39; refine (time_no _ ht _).mono ?_; rintro e w' ⟨rfl, rfl⟩) | (go_at_call 41; refine (right_yes s v l hr _).mono ?_; rintro e w1 ⟨rfl, rfl⟩))
    exact bodyPost_ret (v := .tuple #[tripV 0 0 0, .iface 68 (.int .i64 1)]) (by simp [results, Tryd.results15, go_sem]) rfl ⟨rfl, rfl⟩
  obtain ⟨t1, t2⟩ := ht
  by_cases hd : 0 ≤ d
  · have hd2 : 100000 < d := by
      rcases Int.lt_or_le 100000 d with h1 | h1
      · exact h1
      · exact absurd ⟨hr, ⟨t1, t2⟩, hd, h1⟩ h
    clear h
    go_enter Tryd.func15, Tryd.ntmps15
    go_wp2_with (first | (go_at_call 39; refine (time_yes _ t1 t2 _).mono ?_; rintro e w' ⟨rfl, rfl⟩) | (go_at_call 41; refine (right_yes s v l hr _).mono ?_; rintro e w1 ⟨rfl, rfl⟩))
    exact bodyPost_ret (v := .tuple #[tripV 0 0 0, .iface 68 (.int .i64 1)]) (by simp [results, Tryd.results15, go_sem]) rfl ⟨rfl, rfl⟩
  · clear h
    go_enter Tryd.func15, Tryd.ntmps15
    go_wp2_with (first | (go_at_call 39; refine (time_yes _ t1 t2 _).mono ?_; rintro e w' ⟨rfl, rfl⟩) | (go_at_call 41; refine (right_yes s v l hr _).mono ?_; rintro e w1 ⟨rfl, rfl⟩))
    exact bodyPost_ret (v := .tuple #[tripV 0 0 0, .iface 68 (.int .i64 1)]) (by simp [results, Tryd.results15, go_sem]) rfl ⟨rfl, rfl⟩

theorem next_no (s v l t d : Int) (h : ¬ (TRight s v l ∧ (1 ≤ t ∧ t ≤ 100000) ∧ 0 ≤ d ∧ d ≤ 100000)) (w : World) :
    Calls Tryd.prog 15 #[.agg #[.int .i64 s, .int .i64 v, .int .i64 l], .int .i64 t, .int .i64 d] w fun e w' => e = .returned (.tuple #[tripV 0 0 0, .iface 68 (.int .i64 1)]) ∧ Below w.heap.size w w' :=
  (next_no_x s v l t d h w).mono fun _ _ hh => ⟨hh.1, hh.2 ▸ (((Below.refl _ _).alloc (Nat.le_refl _) _).alloc (by simp) _).alloc (by simp; omega) _⟩

theorem nextT_le (l t d : Int) (hl : 1 ≤ l) (h1 : 1 ≤ t) (h2 : t ≤ 100000) (hd : 0 ≤ d) : nextL l t ≤ nextT l t d ∧ nextT l t d ≤ t := by
  unfold nextT nextL
  omega

theorem next_right (s v l t d : Int) (h : TRight s v l) (h1 : 1 ≤ t) (h2 : t ≤ 100000) (hd1 : 0 ≤ d) : TRight (nextS s l t d) (nextV s v l t d) (nextL l t) := by
  obtain ⟨s1, s2, v1, v2, l1, l2⟩ := h
  obtain ⟨a, b⟩ := nextT_le l t d l1 h1 h2 hd1
  have c : 1 ≤ nextL l t := by unfold nextL; omega
  have c2 : nextL l t ≤ 100000 := by unfold nextL; omega
  exact ⟨by unfold nextS nextF; omega, by unfold nextS nextF; omega, by unfold nextV nextF; omega, by unfold nextV nextF; omega, c, c2⟩

/-- what Wait gives -/
def waitN (s v : Int) : Int := s / 8 + (if v / 2 < 1 then 1 else v / 2)
theorem wait_yes_x (s v l : Int) (h : TRight s v l) (w : World) :
    Calls Tryd.prog 16 #[.agg #[.int .i64 s, .int .i64 v, .int .i64 l]] w fun e w' => e = .returned (.tuple #[.int .i64 (waitN s v), .nilIface]) ∧ (w.alloc (tripCells s v l)).alloc (tripCells s v l) = w' := by
  have hh := h
  obtain ⟨s1, s2, v1, v2, l1, l2⟩ := hh
  go_enter Tryd.func16, Tryd.ntmps16
  go_wp2_with (go_at_call 41; refine (right_yes s v l h _).mono ?_; rintro e w1 ⟨rfl, rfl⟩)
  all_goals
    go_ret2
    exact ⟨end_int2 (by unfold waitN; omega), rfl⟩
theorem wait_yes (s v l : Int) (h : TRight s v l) (w : World) :
    Calls Tryd.prog 16 #[.agg #[.int .i64 s, .int .i64 v, .int .i64 l]] w fun e w' => e = .returned (.tuple #[.int .i64 (waitN s v), .nilIface]) ∧ Below w.heap.size w w' :=
  (wait_yes_x s v l h w).mono fun _ _ hh => ⟨hh.1, hh.2 ▸ ((Below.refl _ _).alloc (Nat.le_refl _) _).alloc (by simp) _⟩

theorem wait_no_x (s v l : Int) (h : ¬ TRight s v l) (w : World) :
    Calls Tryd.prog 16 #[.agg #[.int .i64 s, .int .i64 v, .int .i64 l]] w fun e w' => e = .returned (.tuple #[.int .i64 0, .iface 68 (.int .i64 1)]) ∧ (w.alloc (tripCells s v l)).alloc (tripCells s v l) = w' := by
  go_enter Tryd.func16, Tryd.ntmps16
  go_wp2_with (go_at_call 41; refine (right_no s v l h _).mono ?_; rintro e w1 ⟨rfl, rfl⟩)
  go_ret2
  exact ⟨rfl, rfl⟩
theorem wait_no (s v l : Int) (h : ¬ TRight s v l) (w : World) :
    Calls Tryd.prog 16 #[.agg #[.int .i64 s, .int .i64 v, .int .i64 l]] w fun e w' => e = .returned (.tuple #[.int .i64 0, .iface 68 (.int .i64 1)]) ∧ Below w.heap.size w w' :=
  (wait_no_x s v l h w).mono fun _ _ hh => ⟨hh.1, hh.2 ▸ ((Below.refl _ _).alloc (Nat.le_refl _) _).alloc (by simp) _⟩

/-- between what it was, and what it is -/
theorem next_between (s l t d hi : Int) (h1 : 8 * l ≤ s) (h2 : s ≤ 8 * hi) (l1 : 1 ≤ l) (t1 : 1 ≤ t) (t2 : t ≤ 100000) (hd : 0 ≤ d) :
    8 * nextL l t ≤ nextS s l t d ∧ nextS s l t d ≤ 8 * (if hi < t then t else hi) := by
  obtain ⟨a, b⟩ := nextT_le l t d l1 t1 t2 hd
  have c : nextL l t ≤ l := by unfold nextL; omega
  have c1 : 1 ≤ nextL l t := by unfold nextL; omega
  unfold nextS nextF
  omega
end Go.Proofs.YtmofahmkgignaaaDoor
