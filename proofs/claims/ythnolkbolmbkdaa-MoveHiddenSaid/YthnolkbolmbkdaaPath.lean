/- Contracts of package path, and of what wireref1 says of paths: what each answers, for every path and number. No condition. -/
import Derived.Test.YthnolkbolmbkdaaMay
import Derived.Test.YthnolkbolmbkdaaTold
import Derived.Deep.RegionWith
namespace Go.Proofs.Ythnolkbolmbkdaa
open Go.ChangeShapes Go.WideShapes Go.ChangeAt Go.RowKit
set_option linter.unusedVariables false

abbrev pathV (i o : Int) (k : Bool) : Value := .agg #[.int .i64 i, .int .i64 o, .bool k]
abbrev pathCells (i o : Int) (k : Bool) : Obj := .cells #[.int .i64 i, .int .i64 o, .bool k] 38
/-- what is wrong with a path -/
def pathE (i o : Int) (k : Bool) : Int := if 0 ≤ i ∧ i ≤ 1073741823 ∧ 0 ≤ o ∧ o ≤ 1073741823 then (if k = false ∧ 3 * i < o then 3 else 0) else 1
/-- a right path -/
structure PathOk (i o : Int) (k : Bool) : Prop where
  i1 : 0 ≤ i
  i2 : i ≤ 1073741823
  o1 : 0 ≤ o
  o2 : o ≤ 1073741823
  kn : k = false → o ≤ 3 * i
theorem pathE_ok {i o : Int} {k : Bool} (h : PathOk i o k) : pathE i o k = 0 := by
  unfold pathE
  rw [if_pos ⟨h.i1, h.i2, h.o1, h.o2⟩, if_neg (fun hh => by have := h.kn hh.1; omega)]
theorem pathE_no {i o : Int} {k : Bool} (h : ¬ PathOk i o k) : pathE i o k ≠ 0 := by
  unfold pathE
  split
  · rename_i h1
    split
    · omega
    · rename_i h2
      exact absurd ⟨h1.1, h1.2.1, h1.2.2.1, h1.2.2.2, fun hk => by
        rcases Int.lt_or_le (3 * i) o with h3 | h3
        · exact absurd ⟨hk, h3⟩ h2
        · exact h3⟩ h
  · omega

theorem pcheck_yes (i o : Int) (k : Bool) (h : PathOk i o k) (w : World) :
    Calls Try.prog 30 #[.agg #[.int .i64 i, .int .i64 o, .bool k]] w fun e w' => e = .returned .nilIface ∧ w.alloc (pathCells i o k) = w' := by
  obtain ⟨i1, i2, o1, o2, kn⟩ := h
  cases k
  · have hk := kn rfl
    clear kn
    go_enter Try.func30, Try.ntmps30
    go_wp2_with (first | (go_at_call_of 29 (Value.int IntKind.i64 i); refine (may_yes i i1 i2 _).mono ?_; rintro e w' ⟨rfl, rfl⟩) | (go_at_call 29; refine (may_yes o o1 o2 _).mono ?_; rintro e w' ⟨rfl, rfl⟩))
    go_ret
    exact ⟨rfl, rfl⟩
  · clear kn
    go_enter Try.func30, Try.ntmps30
    go_wp2_with (first | (go_at_call_of 29 (Value.int IntKind.i64 i); refine (may_yes i i1 i2 _).mono ?_; rintro e w' ⟨rfl, rfl⟩) | (go_at_call 29; refine (may_yes o o1 o2 _).mono ?_; rintro e w' ⟨rfl, rfl⟩))
    go_ret
    exact ⟨rfl, rfl⟩
theorem pcheck_no (i o : Int) (k : Bool) (h : ¬ PathOk i o k) (w : World) :
    Calls Try.prog 30 #[.agg #[.int .i64 i, .int .i64 o, .bool k]] w fun e w' => e = .returned (.iface 58 (.int .i64 (pathE i o k))) ∧ w.alloc (pathCells i o k) = w' := by
  by_cases hi : MayBe i
  case neg =>
    have he : pathE i o k = 1 := by unfold MayBe at hi; unfold pathE; rw [if_neg (by omega)]
    rw [he]
    clear h he
    go_enter Try.func30, Try.ntmps30
    go_wp2_with (go_at_call 29; refine (may_no i hi _).mono ?_; rintro e w' ⟨rfl, rfl⟩)
    go_ret
    exact ⟨rfl, rfl⟩
  obtain ⟨i1, i2⟩ := hi
  by_cases ho : MayBe o
  case neg =>
    have he : pathE i o k = 1 := by unfold MayBe at ho; unfold pathE; rw [if_neg (by omega)]
    rw [he]
    have hne : i ≠ o := fun hh => ho ⟨by omega, by omega⟩
    clear h he
    go_enter Try.func30, Try.ntmps30
    go_wp2_with (first | (go_at_call_of 29 (Value.int IntKind.i64 i); refine (may_yes i i1 i2 _).mono ?_; rintro e w' ⟨rfl, rfl⟩) | (go_at_call 29; refine (may_no o ho _).mono ?_; rintro e w' ⟨rfl, rfl⟩))
    go_ret
    exact ⟨rfl, rfl⟩
  obtain ⟨o1, o2⟩ := ho
  cases k
  · have hgt : 3 * i < o := by
      rcases Int.lt_or_le (3 * i) o with h3 | h3
      · exact h3
      · exact absurd ⟨i1, i2, o1, o2, fun _ => h3⟩ h
    have he : pathE i o false = 3 := by unfold pathE; rw [if_pos ⟨i1, i2, o1, o2⟩, if_pos ⟨rfl, hgt⟩]
    rw [he]
    clear h he
    go_enter Try.func30, Try.ntmps30
    go_wp2_with (first | (go_at_call_of 29 (Value.int IntKind.i64 i); refine (may_yes i i1 i2 _).mono ?_; rintro e w' ⟨rfl, rfl⟩) | (go_at_call 29; refine (may_yes o o1 o2 _).mono ?_; rintro e w' ⟨rfl, rfl⟩))
    go_ret
    exact ⟨rfl, rfl⟩
  · exact absurd ⟨i1, i2, o1, o2, fun h => by cases h⟩ h

theorem pbytes_yes (n : Int) (h1 : 0 ≤ n) (h2 : n ≤ 200) (w : World) :
    Calls Try.prog 31 #[.int .i64 n] w fun e w' => e = .returned (.bool true) ∧ w = w' := by
  go_enter Try.func31, Try.ntmps31
  go_wp2
  go_ret
  exact ⟨rfl, rfl⟩
theorem pbytes_no (n : Int) (h : ¬ (0 ≤ n ∧ n ≤ 200)) (w : World) :
    Calls Try.prog 31 #[.int .i64 n] w fun e w' => e = .returned (.bool false) ∧ w = w' := by
  by_cases h1 : 0 ≤ n
  · have h2 : decide (n ≤ 200) = false := by simp; omega
    clear h
    go_enter Try.func31, Try.ntmps31
    go_wp2
    go_ret
    exact ⟨rfl, rfl⟩
  · clear h
    go_enter Try.func31, Try.ntmps31
    go_wp2
    go_ret
    exact ⟨rfl, rfl⟩

/-! what Came and Send answer: a fault by its number -/
def cameE (i o : Int) (k : Bool) (n : Int) : Int := if pathE i o k = 0 then (if 0 ≤ n ∧ n ≤ 200 ∧ i + n ≤ 1073741823 then 0 else 1) else pathE i o k
def sendE (i o : Int) (k : Bool) (n : Int) : Int := if pathE i o k = 0 then (if 0 ≤ n ∧ n ≤ 200 ∧ o + n ≤ 1073741823 then (if k = false ∧ 3 * i < o + n then 8 else 0) else 1) else pathE i o k
def roomN (i o : Int) (k : Bool) : Int := if k then (if 1073741823 - o < 200 then 1073741823 - o else 200) else if 3 * i - o < (if 1073741823 - o < 200 then 1073741823 - o else 200) then 3 * i - o else (if 1073741823 - o < 200 then 1073741823 - o else 200)

theorem below3 (w : World) (a b : Obj) : Below w.heap.size w ((w.alloc a).alloc b) := ((Below.refl _ _).alloc (Nat.le_refl _) a).alloc (by simp) b
theorem below4 (w : World) (a b c : Obj) : Below w.heap.size w (((w.alloc a).alloc b).alloc c) := (below3 w a b).alloc (by simp; omega) c

theorem came_yes (i o : Int) (k : Bool) (n : Int) (h : cameE i o k n = 0) (w : World) :
    Calls Try.prog 18 #[.agg #[.int .i64 i, .int .i64 o, .bool k], .int .i64 n] w fun e w' => e = .returned (.tuple #[pathV (i + n) o k, .nilIface]) ∧ Below w.heap.size w w' := by
  by_cases hp : PathOk i o k
  case neg => exact absurd h (by unfold cameE; rw [if_neg (pathE_no hp)]; exact pathE_no hp)
  unfold cameE at h
  rw [if_pos (pathE_ok hp)] at h
  split at h
  · rename_i hh
    obtain ⟨n1, n2, n3⟩ := hh
    have i1 := hp.i1
    have i2 := hp.i2
    clear h
    go_enter Try.func18, Try.ntmps18
    go_wp2_with (first | (go_at_call 30; refine (pcheck_yes i o k hp _).mono ?_; rintro e w' ⟨rfl, rfl⟩) | (go_at_call 31; refine (pbytes_yes n n1 n2 _).mono ?_; rintro e w' ⟨rfl, rfl⟩) | (go_at_call 29; refine (may_yes (i + n) (by omega) n3 _).mono ?_; rintro e w' ⟨rfl, rfl⟩))
    exact bodyPost_ret (v := .tuple #[pathV (i + n) o k, .nilIface]) (by simp [results, Try.results18, go_sem]) rfl ⟨rfl, below4 _ _ _ _⟩
  · cases h
theorem came_no (i o : Int) (k : Bool) (n : Int) (h : cameE i o k n ≠ 0) (w : World) :
    Calls Try.prog 18 #[.agg #[.int .i64 i, .int .i64 o, .bool k], .int .i64 n] w fun e w' => e = .returned (.tuple #[pathV 0 0 false, .iface 58 (.int .i64 (cameE i o k n))]) ∧ Below w.heap.size w w' := by
  by_cases hp : PathOk i o k
  case neg =>
    have he : cameE i o k n = pathE i o k := by unfold cameE; rw [if_neg (pathE_no hp)]
    rw [he]
    clear h he
    go_enter Try.func18, Try.ntmps18
    go_wp2_with (go_at_call 30; refine (pcheck_no i o k hp _).mono ?_; rintro e w' ⟨rfl, rfl⟩)
    exact bodyPost_ret (v := .tuple #[pathV 0 0 false, .iface 58 (.int .i64 (pathE i o k))]) (by simp [results, Try.results18, go_sem]) rfl ⟨rfl, below4 _ _ _ _⟩
  have i1 := hp.i1
  have i2 := hp.i2
  unfold cameE at h ⊢
  rw [if_pos (pathE_ok hp)] at h ⊢
  split at h
  · exact absurd rfl h
  · rename_i hh
    rw [if_neg hh]
    by_cases hn : 0 ≤ n ∧ n ≤ 200
    · have hm : ¬ MayBe (i + n) := fun hm => hh ⟨hn.1, hn.2, hm.2⟩
      obtain ⟨n1, n2⟩ := hn
      clear h hh
      go_enter Try.func18, Try.ntmps18
      go_wp2_with (first | (go_at_call 30; refine (pcheck_yes i o k hp _).mono ?_; rintro e w' ⟨rfl, rfl⟩) | (go_at_call 31; refine (pbytes_yes n n1 n2 _).mono ?_; rintro e w' ⟨rfl, rfl⟩) | (go_at_call 29; refine (may_no (i + n) hm _).mono ?_; rintro e w' ⟨rfl, rfl⟩))
      exact bodyPost_ret (v := .tuple #[pathV 0 0 false, .iface 58 (.int .i64 1)]) (by simp [results, Try.results18, go_sem]) rfl ⟨rfl, below4 _ _ _ _⟩
    · clear h hh
      go_enter Try.func18, Try.ntmps18
      go_wp2_with (first | (go_at_call 30; refine (pcheck_yes i o k hp _).mono ?_; rintro e w' ⟨rfl, rfl⟩) | (go_at_call 31; refine (pbytes_no n hn _).mono ?_; rintro e w' ⟨rfl, rfl⟩))
      exact bodyPost_ret (v := .tuple #[pathV 0 0 false, .iface 58 (.int .i64 1)]) (by simp [results, Try.results18, go_sem]) rfl ⟨rfl, below4 _ _ _ _⟩

theorem send_yes (i o : Int) (k : Bool) (n : Int) (h : sendE i o k n = 0) (w : World) :
    Calls Try.prog 28 #[.agg #[.int .i64 i, .int .i64 o, .bool k], .int .i64 n] w fun e w' => e = .returned (.tuple #[pathV i (o + n) k, .nilIface]) ∧ Below w.heap.size w w' := by
  by_cases hp : PathOk i o k
  case neg => exact absurd h (by unfold sendE; rw [if_neg (pathE_no hp)]; exact pathE_no hp)
  unfold sendE at h
  rw [if_pos (pathE_ok hp)] at h
  split at h
  · rename_i hh
    obtain ⟨n1, n2, n3⟩ := hh
    have i1 := hp.i1
    have i2 := hp.i2
    have o1 := hp.o1
    have o2 := hp.o2
    cases k
    · have hle : o + n ≤ 3 * i := by
        rcases Int.lt_or_le (3 * i) (o + n) with h3 | h3
        · rw [if_pos ⟨rfl, h3⟩] at h; cases h
        · exact h3
      clear h
      go_enter Try.func28, Try.ntmps28
      go_wp2_with (first | (go_at_call 30; refine (pcheck_yes i o false hp _).mono ?_; rintro e w' ⟨rfl, rfl⟩) | (go_at_call 31; refine (pbytes_yes n n1 n2 _).mono ?_; rintro e w' ⟨rfl, rfl⟩) | (go_at_call 29; refine (may_yes (o + n) (by omega) n3 _).mono ?_; rintro e w' ⟨rfl, rfl⟩))
      exact bodyPost_ret (v := .tuple #[pathV i (o + n) false, .nilIface]) (by simp [results, Try.results28, go_sem]) rfl ⟨rfl, below4 _ _ _ _⟩
    · clear h
      go_enter Try.func28, Try.ntmps28
      go_wp2_with (first | (go_at_call 30; refine (pcheck_yes i o true hp _).mono ?_; rintro e w' ⟨rfl, rfl⟩) | (go_at_call 31; refine (pbytes_yes n n1 n2 _).mono ?_; rintro e w' ⟨rfl, rfl⟩) | (go_at_call 29; refine (may_yes (o + n) (by omega) n3 _).mono ?_; rintro e w' ⟨rfl, rfl⟩))
      exact bodyPost_ret (v := .tuple #[pathV i (o + n) true, .nilIface]) (by simp [results, Try.results28, go_sem]) rfl ⟨rfl, below4 _ _ _ _⟩
  · cases h
theorem send_no (i o : Int) (k : Bool) (n : Int) (h : sendE i o k n ≠ 0) (w : World) :
    Calls Try.prog 28 #[.agg #[.int .i64 i, .int .i64 o, .bool k], .int .i64 n] w fun e w' => e = .returned (.tuple #[pathV 0 0 false, .iface 58 (.int .i64 (sendE i o k n))]) ∧ Below w.heap.size w w' := by
  by_cases hp : PathOk i o k
  case neg =>
    have he : sendE i o k n = pathE i o k := by unfold sendE; rw [if_neg (pathE_no hp)]
    rw [he]
    clear h he
    go_enter Try.func28, Try.ntmps28
    go_wp2_with (go_at_call 30; refine (pcheck_no i o k hp _).mono ?_; rintro e w' ⟨rfl, rfl⟩)
    exact bodyPost_ret (v := .tuple #[pathV 0 0 false, .iface 58 (.int .i64 (pathE i o k))]) (by simp [results, Try.results28, go_sem]) rfl ⟨rfl, below4 _ _ _ _⟩
  have i1 := hp.i1
  have i2 := hp.i2
  have o1 := hp.o1
  have o2 := hp.o2
  by_cases hn : 0 ≤ n ∧ n ≤ 200
  case neg =>
    have he : sendE i o k n = 1 := by unfold sendE; rw [if_pos (pathE_ok hp), if_neg (fun hh => hn ⟨hh.1, hh.2.1⟩)]
    rw [he]
    clear h he
    go_enter Try.func28, Try.ntmps28
    go_wp2_with (first | (go_at_call 30; refine (pcheck_yes i o k hp _).mono ?_; rintro e w' ⟨rfl, rfl⟩) | (go_at_call 31; refine (pbytes_no n hn _).mono ?_; rintro e w' ⟨rfl, rfl⟩))
    exact bodyPost_ret (v := .tuple #[pathV 0 0 false, .iface 58 (.int .i64 1)]) (by simp [results, Try.results28, go_sem]) rfl ⟨rfl, below4 _ _ _ _⟩
  obtain ⟨n1, n2⟩ := hn
  by_cases hm : MayBe (o + n)
  case neg =>
    have he : sendE i o k n = 1 := by unfold sendE; rw [if_pos (pathE_ok hp), if_neg (fun hh => hm ⟨by omega, hh.2.2⟩)]
    rw [he]
    clear h he
    go_enter Try.func28, Try.ntmps28
    go_wp2_with (first | (go_at_call 30; refine (pcheck_yes i o k hp _).mono ?_; rintro e w' ⟨rfl, rfl⟩) | (go_at_call 31; refine (pbytes_yes n n1 n2 _).mono ?_; rintro e w' ⟨rfl, rfl⟩) | (go_at_call 29; refine (may_no (o + n) hm _).mono ?_; rintro e w' ⟨rfl, rfl⟩))
    exact bodyPost_ret (v := .tuple #[pathV 0 0 false, .iface 58 (.int .i64 1)]) (by simp [results, Try.results28, go_sem]) rfl ⟨rfl, below4 _ _ _ _⟩
  obtain ⟨m1, m2⟩ := hm
  have hk : k = false ∧ 3 * i < o + n := by
    unfold sendE at h
    rw [if_pos (pathE_ok hp), if_pos ⟨n1, n2, m2⟩] at h
    split at h
    · assumption
    · exact absurd rfl h
  obtain ⟨rfl, hgt⟩ := hk
  have he : sendE i o false n = 8 := by unfold sendE; rw [if_pos (pathE_ok hp), if_pos ⟨n1, n2, m2⟩, if_pos ⟨rfl, hgt⟩]
  rw [he]
  clear h he
  go_enter Try.func28, Try.ntmps28
  go_wp2_with (first | (go_at_call 30; refine (pcheck_yes i o false hp _).mono ?_; rintro e w' ⟨rfl, rfl⟩) | (go_at_call 31; refine (pbytes_yes n n1 n2 _).mono ?_; rintro e w' ⟨rfl, rfl⟩) | (go_at_call 29; refine (may_yes (o + n) m1 m2 _).mono ?_; rintro e w' ⟨rfl, rfl⟩))
  exact bodyPost_ret (v := .tuple #[pathV 0 0 false, .iface 58 (.int .i64 8)]) (by simp [results, Try.results28, go_sem]) rfl ⟨rfl, below4 _ _ _ _⟩


end Go.Proofs.Ythnolkbolmbkdaa
