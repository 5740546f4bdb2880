/- Contracts of wireref1.Path, Came, Send. No condition. -/
import Derived.Test.YthnolkbolmbkdaaDoorPath
import Derived.Test.YthnolkbolmbkdaaDoorRMay
namespace Go.Proofs.YthnolkbolmbkdaaDoor
open Go.ChangeShapes Go.WideShapes Go.ChangeAt Go.RowKit
set_option linter.unusedVariables false

theorem rpath_yes (i o : Int) (k : Bool) (h : PathOk i o k) (w : World) :
    Calls Tryd.prog 66 #[.agg #[.int .i64 i, .int .i64 o, .bool k]] w fun e w' => e = .returned (.int .i64 0) ∧ w.alloc (pathCells i o k) = w' := by
  obtain ⟨i1, i2, o1, o2, kn⟩ := h
  cases k
  · have hk := kn rfl
    clear kn
    go_enter Tryd.func66, Tryd.ntmps66
    go_wp2_with (first | (go_at_call_of 65 (Value.int IntKind.i64 i); refine (rmay_yes i i1 i2 _).mono ?_; rintro e w' ⟨rfl, rfl⟩) | (go_at_call 65; refine (rmay_yes o o1 o2 _).mono ?_; rintro e w' ⟨rfl, rfl⟩))
    go_ret
    exact ⟨rfl, rfl⟩
  · clear kn
    go_enter Tryd.func66, Tryd.ntmps66
    go_wp2_with (first | (go_at_call_of 65 (Value.int IntKind.i64 i); refine (rmay_yes i i1 i2 _).mono ?_; rintro e w' ⟨rfl, rfl⟩) | (go_at_call 65; refine (rmay_yes o o1 o2 _).mono ?_; rintro e w' ⟨rfl, rfl⟩))
    go_ret
    exact ⟨rfl, rfl⟩
theorem rpath_no (i o : Int) (k : Bool) (h : ¬ PathOk i o k) (w : World) :
    Calls Tryd.prog 66 #[.agg #[.int .i64 i, .int .i64 o, .bool k]] w fun e w' => e = .returned (.int .i64 (pathE i o k)) ∧ w.alloc (pathCells i o k) = w' := by
  by_cases hi : MayBe i
  case neg =>
    have he : pathE i o k = 1 := by unfold MayBe at hi; unfold pathE; rw [if_neg (by omega)]
    rw [he]
    clear h he
    by_cases ho : MayBe o
    · obtain ⟨o1, o2⟩ := ho
      have hne : i ≠ o := fun hh => hi ⟨by omega, by omega⟩
      go_enter Tryd.func66, Tryd.ntmps66
      go_wp2_with (first | (go_at_call_of 65 (Value.int IntKind.i64 i); refine (rmay_no i hi _).mono ?_; rintro e w' ⟨rfl, rfl⟩) | (go_at_call 65; refine (rmay_yes o o1 o2 _).mono ?_; rintro e w' ⟨rfl, rfl⟩))
      go_ret
      exact ⟨rfl, rfl⟩
    · go_enter Tryd.func66, Tryd.ntmps66
      go_wp2_with (first | (go_at_call_of 65 (Value.int IntKind.i64 i); refine (rmay_no i hi _).mono ?_; rintro e w' ⟨rfl, rfl⟩) | (go_at_call 65; refine (rmay_no o ho _).mono ?_; rintro e w' ⟨rfl, rfl⟩))
      go_ret
      exact ⟨rfl, rfl⟩
  obtain ⟨i1, i2⟩ := hi
  by_cases ho : MayBe o
  case neg =>
    have he : pathE i o k = 1 := by unfold MayBe at ho; unfold pathE; rw [if_neg (by omega)]
    rw [he]
    clear h he
    go_enter Tryd.func66, Tryd.ntmps66
    go_wp2_with (first | (go_at_call_of 65 (Value.int IntKind.i64 i); refine (rmay_yes i i1 i2 _).mono ?_; rintro e w' ⟨rfl, rfl⟩) | (go_at_call 65; refine (rmay_no o ho _).mono ?_; rintro e w' ⟨rfl, rfl⟩))
    go_ret
    exact ⟨rfl, rfl⟩
  obtain ⟨o1, o2⟩ := ho
  cases k
  · have hgt : 3 * i < o := by
      rcases Int.lt_or_le (3 * i) o with h3 | h3
      · exact h3
      · exact absurd ⟨i1, i2, o1, o2, fun _ => h3⟩ h
    have he : pathE i o false = 3 := by unfold pathE; rw [if_pos ⟨i1, i2, o1, o2⟩, if_pos ⟨rfl, hgt⟩]
    rw [he]
    clear h he
    go_enter Tryd.func66, Tryd.ntmps66
    go_wp2_with (first | (go_at_call_of 65 (Value.int IntKind.i64 i); refine (rmay_yes i i1 i2 _).mono ?_; rintro e w' ⟨rfl, rfl⟩) | (go_at_call 65; refine (rmay_yes o o1 o2 _).mono ?_; rintro e w' ⟨rfl, rfl⟩))
    go_ret
    exact ⟨rfl, rfl⟩
  · exact absurd ⟨i1, i2, o1, o2, fun h => by cases h⟩ h

theorem pathE_bne {i o : Int} {k : Bool} (h : ¬ PathOk i o k) : (pathE i o k == 0) = false := beq_eq_false_iff_ne.2 (pathE_no h)

theorem rcame_yes (i o : Int) (k : Bool) (n : Int) (h : cameE i o k n = 0) (w : World) :
    Calls Tryd.prog 23 #[.agg #[.int .i64 i, .int .i64 o, .bool k], .int .i64 n] w fun e w' => e = .returned (.tuple #[pathV (i + n) o k, .int .i64 0]) ∧ Below w.heap.size w w' := by
  by_cases hp : PathOk i o k
  case neg => exact absurd h (by unfold cameE; rw [if_neg (pathE_no hp)]; exact pathE_no hp)
  unfold cameE at h
  rw [if_pos (pathE_ok hp)] at h
  split at h
  · rename_i hh
    obtain ⟨n1, n2, n3⟩ := hh
    have i1 := hp.i1
    have i2 := hp.i2
    clear h
    go_enter Tryd.func23, Tryd.ntmps23
    go_wp2_with (first | (go_at_call 66; refine (rpath_yes i o k hp _).mono ?_; rintro e w' ⟨rfl, rfl⟩) | (go_at_call 65; refine (rmay_yes (i + n) (by omega) n3 _).mono ?_; rintro e w' ⟨rfl, rfl⟩))
    exact bodyPost_ret (v := .tuple #[pathV (i + n) o k, .int .i64 0]) (by simp [results, Tryd.results23, go_sem]) rfl ⟨rfl, below4 _ _ _ _⟩
  · cases h
theorem rcame_no (i o : Int) (k : Bool) (n : Int) (h : cameE i o k n ≠ 0) (w : World) :
    Calls Tryd.prog 23 #[.agg #[.int .i64 i, .int .i64 o, .bool k], .int .i64 n] w fun e w' => e = .returned (.tuple #[pathV 0 0 false, .int .i64 (cameE i o k n)]) ∧ Below w.heap.size w w' := by
  by_cases hp : PathOk i o k
  case neg =>
    have he : cameE i o k n = pathE i o k := by unfold cameE; rw [if_neg (pathE_no hp)]
    rw [he]
    have hb := pathE_bne hp
    clear h he
    go_enter Tryd.func23, Tryd.ntmps23
    go_wp2_with (go_at_call 66; refine (rpath_no i o k hp _).mono ?_; rintro e w' ⟨rfl, rfl⟩)
    exact bodyPost_ret (v := .tuple #[pathV 0 0 false, .int .i64 (pathE i o k)]) (by simp [results, Tryd.results23, go_sem]) rfl ⟨rfl, below4 _ _ _ _⟩
  have i1 := hp.i1
  have i2 := hp.i2
  unfold cameE at h ⊢
  rw [if_pos (pathE_ok hp)] at h ⊢
  split at h
  · exact absurd rfl h
  · rename_i hh
    rw [if_neg hh]
    by_cases hn : 0 ≤ n ∧ n ≤ 200
    · have hm : ¬ MayBe (i + n) := fun hm => hh ⟨hn.1, hn.2, hm.2⟩
      obtain ⟨n1, n2⟩ := hn
      clear h hh
      go_enter Tryd.func23, Tryd.ntmps23
      go_wp2_with (first | (go_at_call 66; refine (rpath_yes i o k hp _).mono ?_; rintro e w' ⟨rfl, rfl⟩) | (go_at_call 65; refine (rmay_no (i + n) hm _).mono ?_; rintro e w' ⟨rfl, rfl⟩))
      exact bodyPost_ret (v := .tuple #[pathV 0 0 false, .int .i64 1]) (by simp [results, Tryd.results23, go_sem]) rfl ⟨rfl, below4 _ _ _ _⟩
    · clear h hh
      by_cases hn0 : n < 0
      · go_enter Tryd.func23, Tryd.ntmps23
        go_wp2_with (first | (go_at_call 66; refine (rpath_yes i o k hp _).mono ?_; rintro e w' ⟨rfl, rfl⟩))
        exact bodyPost_ret (v := .tuple #[pathV 0 0 false, .int .i64 1]) (by simp [results, Tryd.results23, go_sem]) rfl ⟨rfl, below4 _ _ _ _⟩
      · have hn2 : 200 < n := by omega
        clear hn
        go_enter Tryd.func23, Tryd.ntmps23
        go_wp2_with (first | (go_at_call 66; refine (rpath_yes i o k hp _).mono ?_; rintro e w' ⟨rfl, rfl⟩))
        exact bodyPost_ret (v := .tuple #[pathV 0 0 false, .int .i64 1]) (by simp [results, Tryd.results23, go_sem]) rfl ⟨rfl, below4 _ _ _ _⟩

theorem rsend_yes (i o : Int) (k : Bool) (n : Int) (h : sendE i o k n = 0) (w : World) :
    Calls Tryd.prog 24 #[.agg #[.int .i64 i, .int .i64 o, .bool k], .int .i64 n] w fun e w' => e = .returned (.tuple #[pathV i (o + n) k, .int .i64 0]) ∧ Below w.heap.size w w' := by
  by_cases hp : PathOk i o k
  case neg => exact absurd h (by unfold sendE; rw [if_neg (pathE_no hp)]; exact pathE_no hp)
  unfold sendE at h
  rw [if_pos (pathE_ok hp)] at h
  split at h
  · rename_i hh
    obtain ⟨n1, n2, n3⟩ := hh
    have i1 := hp.i1
    have i2 := hp.i2
    have o1 := hp.o1
    have o2 := hp.o2
    cases k
    · have hle : o + n ≤ 3 * i := by
        rcases Int.lt_or_le (3 * i) (o + n) with h3 | h3
        · rw [if_pos ⟨rfl, h3⟩] at h; cases h
        · exact h3
      clear h
      go_enter Tryd.func24, Tryd.ntmps24
      go_wp2_with (first | (go_at_call 66; refine (rpath_yes i o false hp _).mono ?_; rintro e w' ⟨rfl, rfl⟩) | (go_at_call 65; refine (rmay_yes (o + n) (by omega) n3 _).mono ?_; rintro e w' ⟨rfl, rfl⟩))
      exact bodyPost_ret (v := .tuple #[pathV i (o + n) false, .int .i64 0]) (by simp [results, Tryd.results24, go_sem]) rfl ⟨rfl, below4 _ _ _ _⟩
    · clear h
      go_enter Tryd.func24, Tryd.ntmps24
      go_wp2_with (first | (go_at_call 66; refine (rpath_yes i o true hp _).mono ?_; rintro e w' ⟨rfl, rfl⟩) | (go_at_call 65; refine (rmay_yes (o + n) (by omega) n3 _).mono ?_; rintro e w' ⟨rfl, rfl⟩))
      exact bodyPost_ret (v := .tuple #[pathV i (o + n) true, .int .i64 0]) (by simp [results, Tryd.results24, go_sem]) rfl ⟨rfl, below4 _ _ _ _⟩
  · cases h
theorem rsend_no (i o : Int) (k : Bool) (n : Int) (h : sendE i o k n ≠ 0) (w : World) :
    Calls Tryd.prog 24 #[.agg #[.int .i64 i, .int .i64 o, .bool k], .int .i64 n] w fun e w' => e = .returned (.tuple #[pathV 0 0 false, .int .i64 (sendE i o k n)]) ∧ Below w.heap.size w w' := by
  by_cases hp : PathOk i o k
  case neg =>
    have he : sendE i o k n = pathE i o k := by unfold sendE; rw [if_neg (pathE_no hp)]
    rw [he]
    have hb := pathE_bne hp
    clear h he
    go_enter Tryd.func24, Tryd.ntmps24
    go_wp2_with (go_at_call 66; refine (rpath_no i o k hp _).mono ?_; rintro e w' ⟨rfl, rfl⟩)
    exact bodyPost_ret (v := .tuple #[pathV 0 0 false, .int .i64 (pathE i o k)]) (by simp [results, Tryd.results24, go_sem]) rfl ⟨rfl, below4 _ _ _ _⟩
  have i1 := hp.i1
  have i2 := hp.i2
  have o1 := hp.o1
  have o2 := hp.o2
  by_cases hn0 : n < 0
  · have he : sendE i o k n = 1 := by unfold sendE; rw [if_pos (pathE_ok hp), if_neg (fun hh => by omega)]
    rw [he]
    clear h he
    go_enter Tryd.func24, Tryd.ntmps24
    go_wp2_with (first | (go_at_call 66; refine (rpath_yes i o k hp _).mono ?_; rintro e w' ⟨rfl, rfl⟩))
    exact bodyPost_ret (v := .tuple #[pathV 0 0 false, .int .i64 1]) (by simp [results, Tryd.results24, go_sem]) rfl ⟨rfl, below4 _ _ _ _⟩
  by_cases hn2 : 200 < n
  · have he : sendE i o k n = 1 := by unfold sendE; rw [if_pos (pathE_ok hp), if_neg (fun hh => by omega)]
    rw [he]
    clear h he
    go_enter Tryd.func24, Tryd.ntmps24
    go_wp2_with (first | (go_at_call 66; refine (rpath_yes i o k hp _).mono ?_; rintro e w' ⟨rfl, rfl⟩))
    exact bodyPost_ret (v := .tuple #[pathV 0 0 false, .int .i64 1]) (by simp [results, Tryd.results24, go_sem]) rfl ⟨rfl, below4 _ _ _ _⟩
  have n1 : 0 ≤ n := by omega
  have n2 : n ≤ 200 := by omega
  clear hn0 hn2
  by_cases hm : MayBe (o + n)
  case neg =>
    have he : sendE i o k n = 1 := by unfold sendE; rw [if_pos (pathE_ok hp), if_neg (fun hh => hm ⟨by omega, hh.2.2⟩)]
    rw [he]
    clear h he
    go_enter Tryd.func24, Tryd.ntmps24
    go_wp2_with (first | (go_at_call 66; refine (rpath_yes i o k hp _).mono ?_; rintro e w' ⟨rfl, rfl⟩) | (go_at_call 65; refine (rmay_no (o + n) hm _).mono ?_; rintro e w' ⟨rfl, rfl⟩))
    exact bodyPost_ret (v := .tuple #[pathV 0 0 false, .int .i64 1]) (by simp [results, Tryd.results24, go_sem]) rfl ⟨rfl, below4 _ _ _ _⟩
  obtain ⟨m1, m2⟩ := hm
  have hk : k = false ∧ 3 * i < o + n := by
    unfold sendE at h
    rw [if_pos (pathE_ok hp), if_pos ⟨n1, n2, m2⟩] at h
    split at h
    · assumption
    · exact absurd rfl h
  obtain ⟨rfl, hgt⟩ := hk
  have he : sendE i o false n = 8 := by unfold sendE; rw [if_pos (pathE_ok hp), if_pos ⟨n1, n2, m2⟩, if_pos ⟨rfl, hgt⟩]
  rw [he]
  clear h he
  go_enter Tryd.func24, Tryd.ntmps24
  go_wp2_with (first | (go_at_call 66; refine (rpath_yes i o false hp _).mono ?_; rintro e w' ⟨rfl, rfl⟩) | (go_at_call 65; refine (rmay_yes (o + n) m1 m2 _).mono ?_; rintro e w' ⟨rfl, rfl⟩))
  exact bodyPost_ret (v := .tuple #[pathV 0 0 false, .int .i64 8]) (by simp [results, Tryd.results24, go_sem]) rfl ⟨rfl, below4 _ _ _ _⟩
end Go.Proofs.YthnolkbolmbkdaaDoor
