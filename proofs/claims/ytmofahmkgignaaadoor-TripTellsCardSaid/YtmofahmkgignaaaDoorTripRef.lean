/- Contracts of wireref1.Trip and wireref1.Next. Condition of the second: all is right. -/
import Derived.Test.YtmofahmkgignaaaDoorTrip
namespace Go.Proofs.YtmofahmkgignaaaDoor
open Go.ChangeShapes Go.WideShapes Go.ChangeAt Go.RowKit
set_option linter.unusedVariables false

theorem rtrip_yes (s v l : Int) (h : TRight s v l) (w : World) :
    Calls Tryd.prog 13 #[.agg #[.int .i64 s, .int .i64 v, .int .i64 l]] w fun e w' => e = .returned (.bool true) ∧ w.alloc (tripCells s v l) = w' := by
  obtain ⟨s1, s2, v1, v2, l1, l2⟩ := h
  go_enter Tryd.func13, Tryd.ntmps13
  go_wp2
  go_ret
  exact ⟨rfl, rfl⟩
theorem rtrip_no (s v l : Int) (h : ¬ TRight s v l) (w : World) :
    Calls Tryd.prog 13 #[.agg #[.int .i64 s, .int .i64 v, .int .i64 l]] w fun e w' => e = .returned (.bool false) ∧ w.alloc (tripCells s v l) = w' := by
  by_cases s1 : 8 ≤ s
  case neg =>
    clear h
    go_enter Tryd.func13, Tryd.ntmps13
    go_wp2
    go_ret
    exact ⟨rfl, rfl⟩
  by_cases s2 : s ≤ 800000
  case neg =>
    clear h
    go_enter Tryd.func13, Tryd.ntmps13
    go_wp2
    go_ret
    exact ⟨rfl, rfl⟩
  by_cases v1 : 0 ≤ v
  case neg =>
    clear h
    go_enter Tryd.func13, Tryd.ntmps13
    go_wp2
    go_ret
    exact ⟨rfl, rfl⟩
  by_cases v2 : v ≤ 800000
  case neg =>
    clear h
    go_enter Tryd.func13, Tryd.ntmps13
    go_wp2
    go_ret
    exact ⟨rfl, rfl⟩
  by_cases l1 : 1 ≤ l
  case neg =>
    clear h
    go_enter Tryd.func13, Tryd.ntmps13
    go_wp2
    go_ret
    exact ⟨rfl, rfl⟩
  have l2 : decide (l ≤ 100000) = false := by
    rcases Int.lt_or_le 100000 l with h3 | h3
    · simp; omega
    · exact absurd ⟨s1, s2, v1, v2, l1, h3⟩ h
  clear h
  go_enter Tryd.func13, Tryd.ntmps13
  go_wp2
  go_ret
  exact ⟨rfl, rfl⟩

theorem trip2_eq {w : World} {a b c a' b' c' : Int} (h1 : a' = a) (h2 : b' = b) (h3 : c' = c) :
    (w.alloc (tripCells a b c)).alloc (tripCells a b c) = (w.alloc (tripCells a' b' c')).alloc (tripCells a' b' c') := by rw [h1, h2, h3]
set_option maxHeartbeats 4000000 in
theorem rnext_yes (s v l t d : Int) (h : TRight s v l) (h1 : 1 ≤ t) (h2 : t ≤ 100000) (hd1 : 0 ≤ d) (hd2 : d ≤ 100000) (w : World) :
    Calls Tryd.prog 14 #[.agg #[.int .i64 s, .int .i64 v, .int .i64 l], .int .i64 t, .int .i64 d] w fun e w' => e = .returned (tripV (nextS s l t d) (nextV s v l t d) (nextL l t)) ∧ (w.alloc (tripCells (nextS s l t d) (nextV s v l t d) (nextL l t))).alloc (tripCells (nextS s l t d) (nextV s v l t d) (nextL l t)) = w' := by
  have hh := h
  obtain ⟨s1, s2, v1, v2, l1, l2⟩ := hh
  go_enter Tryd.func14, Tryd.ntmps14
  go_wp2
  all_goals
    refine bodyPost_ret (v := tripV (nextS s l t d) (nextV s v l t d) (nextL l t)) ?_ rfl ⟨rfl, ?_⟩
    · simp [results, Tryd.results14, go_sem]
      simp only [nextS, nextV, nextF, nextT, nextL]
      refine ⟨?_, ?_, ?_⟩ <;> omega
    · exact trip2_eq (by simp only [nextS, nextF, nextT, nextL]; omega) (by simp only [nextV, nextF, nextT, nextL]; omega) (by simp only [nextL]; omega)
end Go.Proofs.YtmofahmkgignaaaDoor
