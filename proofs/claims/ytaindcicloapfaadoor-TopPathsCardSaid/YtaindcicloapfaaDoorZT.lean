/- Contracts and plain laws that the claim leans on, part 1 of 1: each part has its own word. No condition beside theirs. -/
import Derived.Test.YtaindcicloapfaaDoorZF
import Derived.Deep.RegionWith
/-! Contracts of package path, and of what wireref1 says of paths: what each answers, for every path and number. No condition. -/
namespace Go.Proofs.YtaindcicloapfaaDoor
open Go.ChangeShapes Go.WideShapes Go.ChangeAt Go.RowKit
set_option linter.unusedVariables false

abbrev pathV (i o : Int) (k : Bool) : Value := .agg #[.int .i64 i, .int .i64 o, .bool k]
abbrev pathCells (i o : Int) (k : Bool) : Obj := .cells #[.int .i64 i, .int .i64 o, .bool k] 53
/-- what is wrong with a path -/
def pathE (i o : Int) (k : Bool) : Int := if 0 ≤ i ∧ i ≤ 1073741823 ∧ 0 ≤ o ∧ o ≤ 1073741823 then (if k = false ∧ 3 * i < o then 3 else 0) else 1
/-- a right path -/
structure PathOk (i o : Int) (k : Bool) : Prop where
  i1 : 0 ≤ i
  i2 : i ≤ 1073741823
  o1 : 0 ≤ o
  o2 : o ≤ 1073741823
  kn : k = false → o ≤ 3 * i
theorem pathE_ok {i o : Int} {k : Bool} (h : PathOk i o k) : pathE i o k = 0 := by
  unfold pathE
  rw [if_pos ⟨h.i1, h.i2, h.o1, h.o2⟩, if_neg (fun hh => by have := h.kn hh.1; omega)]
theorem pathE_no {i o : Int} {k : Bool} (h : ¬ PathOk i o k) : pathE i o k ≠ 0 := by
  unfold pathE
  split
  · rename_i h1
    split
    · omega
    · rename_i h2
      exact absurd ⟨h1.1, h1.2.1, h1.2.2.1, h1.2.2.2, fun hk => by
        rcases Int.lt_or_le (3 * i) o with h3 | h3
        · exact absurd ⟨hk, h3⟩ h2
        · exact h3⟩ h
  · omega

theorem pcheck_yes (i o : Int) (k : Bool) (h : PathOk i o k) (w : World) :
    Calls Tryd.prog 51 #[.agg #[.int .i64 i, .int .i64 o, .bool k]] w fun e w' => e = .returned .nilIface ∧ w.alloc (pathCells i o k) = w' := by
  obtain ⟨i1, i2, o1, o2, kn⟩ := h
  cases k
  · have hk := kn rfl
    clear kn
    go_enter Tryd.func51, Tryd.ntmps51
    go_wp2_with (first | (go_at_call_of 30 (Value.int IntKind.i64 i); refine (may_yes i i1 i2 _).mono ?_; rintro e w' ⟨rfl, rfl⟩) | (go_at_call 30; refine (may_yes o o1 o2 _).mono ?_; rintro e w' ⟨rfl, rfl⟩))
    go_ret
    exact ⟨rfl, rfl⟩
  · clear kn
    go_enter Tryd.func51, Tryd.ntmps51
    go_wp2_with (first | (go_at_call_of 30 (Value.int IntKind.i64 i); refine (may_yes i i1 i2 _).mono ?_; rintro e w' ⟨rfl, rfl⟩) | (go_at_call 30; refine (may_yes o o1 o2 _).mono ?_; rintro e w' ⟨rfl, rfl⟩))
    go_ret
    exact ⟨rfl, rfl⟩
theorem pcheck_no (i o : Int) (k : Bool) (h : ¬ PathOk i o k) (w : World) :
    Calls Tryd.prog 51 #[.agg #[.int .i64 i, .int .i64 o, .bool k]] w fun e w' => e = .returned (.iface 70 (.int .i64 (pathE i o k))) ∧ w.alloc (pathCells i o k) = w' := by
  by_cases hi : MayBe i
  case neg =>
    have he : pathE i o k = 1 := by unfold MayBe at hi; unfold pathE; rw [if_neg (by omega)]
    rw [he]
    clear h he
    go_enter Tryd.func51, Tryd.ntmps51
    go_wp2_with (go_at_call 30; refine (may_no i hi _).mono ?_; rintro e w' ⟨rfl, rfl⟩)
    go_ret
    exact ⟨rfl, rfl⟩
  obtain ⟨i1, i2⟩ := hi
  by_cases ho : MayBe o
  case neg =>
    have he : pathE i o k = 1 := by unfold MayBe at ho; unfold pathE; rw [if_neg (by omega)]
    rw [he]
    have hne : i ≠ o := fun hh => ho ⟨by omega, by omega⟩
    clear h he
    go_enter Tryd.func51, Tryd.ntmps51
    go_wp2_with (first | (go_at_call_of 30 (Value.int IntKind.i64 i); refine (may_yes i i1 i2 _).mono ?_; rintro e w' ⟨rfl, rfl⟩) | (go_at_call 30; refine (may_no o ho _).mono ?_; rintro e w' ⟨rfl, rfl⟩))
    go_ret
    exact ⟨rfl, rfl⟩
  obtain ⟨o1, o2⟩ := ho
  cases k
  · have hgt : 3 * i < o := by
      rcases Int.lt_or_le (3 * i) o with h3 | h3
      · exact h3
      · exact absurd ⟨i1, i2, o1, o2, fun _ => h3⟩ h
    have he : pathE i o false = 3 := by unfold pathE; rw [if_pos ⟨i1, i2, o1, o2⟩, if_pos ⟨rfl, hgt⟩]
    rw [he]
    clear h he
    go_enter Tryd.func51, Tryd.ntmps51
    go_wp2_with (first | (go_at_call_of 30 (Value.int IntKind.i64 i); refine (may_yes i i1 i2 _).mono ?_; rintro e w' ⟨rfl, rfl⟩) | (go_at_call 30; refine (may_yes o o1 o2 _).mono ?_; rintro e w' ⟨rfl, rfl⟩))
    go_ret
    exact ⟨rfl, rfl⟩
  · exact absurd ⟨i1, i2, o1, o2, fun h => by cases h⟩ h

theorem pbytes_yes (n : Int) (h1 : 0 ≤ n) (h2 : n ≤ 200) (w : World) :
    Calls Tryd.prog 52 #[.int .i64 n] w fun e w' => e = .returned (.bool true) ∧ w = w' := by
  go_enter Tryd.func52, Tryd.ntmps52
  go_wp2
  go_ret
  exact ⟨rfl, rfl⟩
theorem pbytes_no (n : Int) (h : ¬ (0 ≤ n ∧ n ≤ 200)) (w : World) :
    Calls Tryd.prog 52 #[.int .i64 n] w fun e w' => e = .returned (.bool false) ∧ w = w' := by
  by_cases h1 : 0 ≤ n
  · have h2 : decide (n ≤ 200) = false := by simp; omega
    clear h
    go_enter Tryd.func52, Tryd.ntmps52
    go_wp2
    go_ret
    exact ⟨rfl, rfl⟩
  · clear h
    go_enter Tryd.func52, Tryd.ntmps52
    go_wp2
    go_ret
    exact ⟨rfl, rfl⟩

/-! what Came and Send answer: a fault by its number -/
def cameE (i o : Int) (k : Bool) (n : Int) : Int := if pathE i o k = 0 then (if 0 ≤ n ∧ n ≤ 200 ∧ i + n ≤ 1073741823 then 0 else 1) else pathE i o k
def sendE (i o : Int) (k : Bool) (n : Int) : Int := if pathE i o k = 0 then (if 0 ≤ n ∧ n ≤ 200 ∧ o + n ≤ 1073741823 then (if k = false ∧ 3 * i < o + n then 8 else 0) else 1) else pathE i o k
def roomN (i o : Int) (k : Bool) : Int := if k then (if 1073741823 - o < 200 then 1073741823 - o else 200) else if 3 * i - o < (if 1073741823 - o < 200 then 1073741823 - o else 200) then 3 * i - o else (if 1073741823 - o < 200 then 1073741823 - o else 200)

theorem below3 (w : World) (a b : Obj) : Below w.heap.size w ((w.alloc a).alloc b) := ((Below.refl _ _).alloc (Nat.le_refl _) a).alloc (by simp) b
theorem below4 (w : World) (a b c : Obj) : Below w.heap.size w (((w.alloc a).alloc b).alloc c) := (below3 w a b).alloc (by simp; omega) c

theorem came_yes (i o : Int) (k : Bool) (n : Int) (h : cameE i o k n = 0) (w : World) :
    Calls Tryd.prog 23 #[.agg #[.int .i64 i, .int .i64 o, .bool k], .int .i64 n] w fun e w' => e = .returned (.tuple #[pathV (i + n) o k, .nilIface]) ∧ Below w.heap.size w w' := by
  by_cases hp : PathOk i o k
  case neg => exact absurd h (by unfold cameE; rw [if_neg (pathE_no hp)]; exact pathE_no hp)
  unfold cameE at h
  rw [if_pos (pathE_ok hp)] at h
  split at h
  · rename_i hh
    obtain ⟨n1, n2, n3⟩ := hh
    have i1 := hp.i1
    have i2 := hp.i2
    clear h
    go_enter Tryd.func23, Tryd.ntmps23
    go_wp2_with (first | (go_at_call 51; refine (pcheck_yes i o k hp _).mono ?_; rintro e w' ⟨rfl, rfl⟩) | (go_at_call 52; refine (pbytes_yes n n1 n2 _).mono ?_; rintro e w' ⟨rfl, rfl⟩) | (go_at_call 30; refine (may_yes (i + n) (by omega) n3 _).mono ?_; rintro e w' ⟨rfl, rfl⟩))
    exact bodyPost_ret (v := .tuple #[pathV (i + n) o k, .nilIface]) (by simp [results, Tryd.results23, go_sem]) rfl ⟨rfl, below4 _ _ _ _⟩
  · cases h
theorem came_no (i o : Int) (k : Bool) (n : Int) (h : cameE i o k n ≠ 0) (w : World) :
    Calls Tryd.prog 23 #[.agg #[.int .i64 i, .int .i64 o, .bool k], .int .i64 n] w fun e w' => e = .returned (.tuple #[pathV 0 0 false, .iface 70 (.int .i64 (cameE i o k n))]) ∧ Below w.heap.size w w' := by
  by_cases hp : PathOk i o k
  case neg =>
    have he : cameE i o k n = pathE i o k := by unfold cameE; rw [if_neg (pathE_no hp)]
    rw [he]
    clear h he
    go_enter Tryd.func23, Tryd.ntmps23
    go_wp2_with (go_at_call 51; refine (pcheck_no i o k hp _).mono ?_; rintro e w' ⟨rfl, rfl⟩)
    exact bodyPost_ret (v := .tuple #[pathV 0 0 false, .iface 70 (.int .i64 (pathE i o k))]) (by simp [results, Tryd.results23, go_sem]) rfl ⟨rfl, below4 _ _ _ _⟩
  have i1 := hp.i1
  have i2 := hp.i2
  unfold cameE at h ⊢
  rw [if_pos (pathE_ok hp)] at h ⊢
  split at h
  · exact absurd rfl h
  · rename_i hh
    rw [if_neg hh]
    by_cases hn : 0 ≤ n ∧ n ≤ 200
    · have hm : ¬ MayBe (i + n) := fun hm => hh ⟨hn.1, hn.2, hm.2⟩
      obtain ⟨n1, n2⟩ := hn
      clear h hh
      go_enter Tryd.func23, Tryd.ntmps23
      go_wp2_with (first | (go_at_call 51; refine (pcheck_yes i o k hp _).mono ?_; rintro e w' ⟨rfl, rfl⟩) | (go_at_call 52; refine (pbytes_yes n n1 n2 _).mono ?_; rintro e w' ⟨rfl, rfl⟩) | (go_at_call 30; refine (may_no (i + n) hm _).mono ?_; rintro e w' ⟨rfl, rfl⟩))
      exact bodyPost_ret (v := .tuple #[pathV 0 0 false, .iface 70 (.int .i64 1)]) (by simp [results, Tryd.results23, go_sem]) rfl ⟨rfl, below4 _ _ _ _⟩
    · clear h hh
      go_enter Tryd.func23, Tryd.ntmps23
      go_wp2_with (first | (go_at_call 51; refine (pcheck_yes i o k hp _).mono ?_; rintro e w' ⟨rfl, rfl⟩) | (go_at_call 52; refine (pbytes_no n hn _).mono ?_; rintro e w' ⟨rfl, rfl⟩))
      exact bodyPost_ret (v := .tuple #[pathV 0 0 false, .iface 70 (.int .i64 1)]) (by simp [results, Tryd.results23, go_sem]) rfl ⟨rfl, below4 _ _ _ _⟩

theorem send_yes (i o : Int) (k : Bool) (n : Int) (h : sendE i o k n = 0) (w : World) :
    Calls Tryd.prog 26 #[.agg #[.int .i64 i, .int .i64 o, .bool k], .int .i64 n] w fun e w' => e = .returned (.tuple #[pathV i (o + n) k, .nilIface]) ∧ Below w.heap.size w w' := by
  by_cases hp : PathOk i o k
  case neg => exact absurd h (by unfold sendE; rw [if_neg (pathE_no hp)]; exact pathE_no hp)
  unfold sendE at h
  rw [if_pos (pathE_ok hp)] at h
  split at h
  · rename_i hh
    obtain ⟨n1, n2, n3⟩ := hh
    have i1 := hp.i1
    have i2 := hp.i2
    have o1 := hp.o1
    have o2 := hp.o2
    cases k
    · have hle : o + n ≤ 3 * i := by
        rcases Int.lt_or_le (3 * i) (o + n) with h3 | h3
        · rw [if_pos ⟨rfl, h3⟩] at h; cases h
        · exact h3
      clear h
      go_enter Tryd.func26, Tryd.ntmps26
      go_wp2_with (first | (go_at_call 51; refine (pcheck_yes i o false hp _).mono ?_; rintro e w' ⟨rfl, rfl⟩) | (go_at_call 52; refine (pbytes_yes n n1 n2 _).mono ?_; rintro e w' ⟨rfl, rfl⟩) | (go_at_call 30; refine (may_yes (o + n) (by omega) n3 _).mono ?_; rintro e w' ⟨rfl, rfl⟩))
      exact bodyPost_ret (v := .tuple #[pathV i (o + n) false, .nilIface]) (by simp [results, Tryd.results26, go_sem]) rfl ⟨rfl, below4 _ _ _ _⟩
    · clear h
      go_enter Tryd.func26, Tryd.ntmps26
      go_wp2_with (first | (go_at_call 51; refine (pcheck_yes i o true hp _).mono ?_; rintro e w' ⟨rfl, rfl⟩) | (go_at_call 52; refine (pbytes_yes n n1 n2 _).mono ?_; rintro e w' ⟨rfl, rfl⟩) | (go_at_call 30; refine (may_yes (o + n) (by omega) n3 _).mono ?_; rintro e w' ⟨rfl, rfl⟩))
      exact bodyPost_ret (v := .tuple #[pathV i (o + n) true, .nilIface]) (by simp [results, Tryd.results26, go_sem]) rfl ⟨rfl, below4 _ _ _ _⟩
  · cases h
theorem send_no (i o : Int) (k : Bool) (n : Int) (h : sendE i o k n ≠ 0) (w : World) :
    Calls Tryd.prog 26 #[.agg #[.int .i64 i, .int .i64 o, .bool k], .int .i64 n] w fun e w' => e = .returned (.tuple #[pathV 0 0 false, .iface 70 (.int .i64 (sendE i o k n))]) ∧ Below w.heap.size w w' := by
  by_cases hp : PathOk i o k
  case neg =>
    have he : sendE i o k n = pathE i o k := by unfold sendE; rw [if_neg (pathE_no hp)]
    rw [he]
    clear h he
    go_enter Tryd.func26, Tryd.ntmps26
    go_wp2_with (go_at_call 51; refine (pcheck_no i o k hp _).mono ?_; rintro e w' ⟨rfl, rfl⟩)
    exact bodyPost_ret (v := .tuple #[pathV 0 0 false, .iface 70 (.int .i64 (pathE i o k))]) (by simp [results, Tryd.results26, go_sem]) rfl ⟨rfl, below4 _ _ _ _⟩
  have i1 := hp.i1
  have i2 := hp.i2
  have o1 := hp.o1
  have o2 := hp.o2
  by_cases hn : 0 ≤ n ∧ n ≤ 200
  case neg =>
    have he : sendE i o k n = 1 := by unfold sendE; rw [if_pos (pathE_ok hp), if_neg (fun hh => hn ⟨hh.1, hh.2.1⟩)]
    rw [he]
    clear h he
    go_enter Tryd.func26, Tryd.ntmps26
    go_wp2_with (first | (go_at_call 51; refine (pcheck_yes i o k hp _).mono ?_; rintro e w' ⟨rfl, rfl⟩) | (go_at_call 52; refine (pbytes_no n hn _).mono ?_; rintro e w' ⟨rfl, rfl⟩))
    exact bodyPost_ret (v := .tuple #[pathV 0 0 false, .iface 70 (.int .i64 1)]) (by simp [results, Tryd.results26, go_sem]) rfl ⟨rfl, below4 _ _ _ _⟩
  obtain ⟨n1, n2⟩ := hn
  by_cases hm : MayBe (o + n)
  case neg =>
    have he : sendE i o k n = 1 := by unfold sendE; rw [if_pos (pathE_ok hp), if_neg (fun hh => hm ⟨by omega, hh.2.2⟩)]
    rw [he]
    clear h he
    go_enter Tryd.func26, Tryd.ntmps26
    go_wp2_with (first | (go_at_call 51; refine (pcheck_yes i o k hp _).mono ?_; rintro e w' ⟨rfl, rfl⟩) | (go_at_call 52; refine (pbytes_yes n n1 n2 _).mono ?_; rintro e w' ⟨rfl, rfl⟩) | (go_at_call 30; refine (may_no (o + n) hm _).mono ?_; rintro e w' ⟨rfl, rfl⟩))
    exact bodyPost_ret (v := .tuple #[pathV 0 0 false, .iface 70 (.int .i64 1)]) (by simp [results, Tryd.results26, go_sem]) rfl ⟨rfl, below4 _ _ _ _⟩
  obtain ⟨m1, m2⟩ := hm
  have hk : k = false ∧ 3 * i < o + n := by
    unfold sendE at h
    rw [if_pos (pathE_ok hp), if_pos ⟨n1, n2, m2⟩] at h
    split at h
    · assumption
    · exact absurd rfl h
  obtain ⟨rfl, hgt⟩ := hk
  have he : sendE i o false n = 8 := by unfold sendE; rw [if_pos (pathE_ok hp), if_pos ⟨n1, n2, m2⟩, if_pos ⟨rfl, hgt⟩]
  rw [he]
  clear h he
  go_enter Tryd.func26, Tryd.ntmps26
  go_wp2_with (first | (go_at_call 51; refine (pcheck_yes i o false hp _).mono ?_; rintro e w' ⟨rfl, rfl⟩) | (go_at_call 52; refine (pbytes_yes n n1 n2 _).mono ?_; rintro e w' ⟨rfl, rfl⟩) | (go_at_call 30; refine (may_yes (o + n) m1 m2 _).mono ?_; rintro e w' ⟨rfl, rfl⟩))
  exact bodyPost_ret (v := .tuple #[pathV 0 0 false, .iface 70 (.int .i64 8)]) (by simp [results, Tryd.results26, go_sem]) rfl ⟨rfl, below4 _ _ _ _⟩

theorem room_yes (i o : Int) (k : Bool) (hp : PathOk i o k) (w : World) :
    Calls Tryd.prog 25 #[.agg #[.int .i64 i, .int .i64 o, .bool k]] w fun e w' => e = .returned (.tuple #[.int .i64 (roomN i o k), .nilIface]) ∧ Below w.heap.size w w' := by
  have i1 := hp.i1
  have i2 := hp.i2
  have o1 := hp.o1
  have o2 := hp.o2
  cases k
  · have hle := hp.kn rfl
    go_enter Tryd.func25, Tryd.ntmps25
    go_wp2_with (go_at_call 51; refine (pcheck_yes i o false hp _).mono ?_; rintro e w' ⟨rfl, rfl⟩)
    all_goals
      go_ret2
      exact ⟨end_int2 (by unfold roomN; simp; try omega), below3 _ _ _⟩
  · go_enter Tryd.func25, Tryd.ntmps25
    go_wp2_with (go_at_call 51; refine (pcheck_yes i o true hp _).mono ?_; rintro e w' ⟨rfl, rfl⟩)
    all_goals
      go_ret2
      exact ⟨end_int2 (by unfold roomN; simp; try omega), below3 _ _ _⟩
theorem room_no (i o : Int) (k : Bool) (hp : ¬ PathOk i o k) (w : World) :
    Calls Tryd.prog 25 #[.agg #[.int .i64 i, .int .i64 o, .bool k]] w fun e w' => e = .returned (.tuple #[.int .i64 0, .iface 70 (.int .i64 (pathE i o k))]) ∧ Below w.heap.size w w' := by
  go_enter Tryd.func25, Tryd.ntmps25
  go_wp2_with (go_at_call 51; refine (pcheck_no i o k hp _).mono ?_; rintro e w' ⟨rfl, rfl⟩)
  go_ret2
  exact ⟨rfl, below3 _ _ _⟩

end Go.Proofs.YtaindcicloapfaaDoor

/-! Contract of wireref1.May. No condition. -/
namespace Go.Proofs.YtaindcicloapfaaDoor
open Go.ChangeShapes Go.WideShapes Go.ChangeAt Go.RowKit

end Go.Proofs.YtaindcicloapfaaDoor

/-! Contracts of wireref1.Path, Came, Send. No condition. -/
namespace Go.Proofs.YtaindcicloapfaaDoor
open Go.ChangeShapes Go.WideShapes Go.ChangeAt Go.RowKit
set_option linter.unusedVariables false

theorem pathE_bne {i o : Int} {k : Bool} (h : ¬ PathOk i o k) : (pathE i o k == 0) = false := beq_eq_false_iff_ne.2 (pathE_no h)

end Go.Proofs.YtaindcicloapfaaDoor

/-! Contracts of package path and its reference in one piece each: what each returns, for every argument. No condition. -/
namespace Go.Proofs.YtaindcicloapfaaDoor
open Go.ChangeShapes Go.WideShapes Go.ChangeAt Go.RowKit
set_option linter.unusedVariables false

theorem pathE_iff {i o : Int} {k : Bool} : pathE i o k = 0 ↔ PathOk i o k := by
  constructor
  · intro h
    by_cases hp : PathOk i o k
    · exact hp
    · exact absurd h (pathE_no hp)
  · exact pathE_ok
def cameI (i o : Int) (k : Bool) (n : Int) : Int := if cameE i o k n = 0 then i + n else 0
def cameO (i o : Int) (k : Bool) (n : Int) : Int := if cameE i o k n = 0 then o else 0
def cameK (i o : Int) (k : Bool) (n : Int) : Bool := if cameE i o k n = 0 then k else false
def sendI (i o : Int) (k : Bool) (n : Int) : Int := if sendE i o k n = 0 then i else 0
def sendO (i o : Int) (k : Bool) (n : Int) : Int := if sendE i o k n = 0 then o + n else 0
def sendK (i o : Int) (k : Bool) (n : Int) : Bool := if sendE i o k n = 0 then k else false
def roomV (i o : Int) (k : Bool) : Int := if pathE i o k = 0 then roomN i o k else 0
def proveE (i o : Int) (k : Bool) : Int := if pathE i o k = 0 then (if i = 0 then 5 else 0) else pathE i o k
def proveI (i o : Int) (k : Bool) : Int := if proveE i o k = 0 then i else 0
def proveO (i o : Int) (k : Bool) : Int := if proveE i o k = 0 then o else 0
def proveK (i o : Int) (k : Bool) : Bool := if proveE i o k = 0 then true else false

theorem pcheck_any (i o : Int) (k : Bool) (w : World) :
    Calls Tryd.prog 51 #[.agg #[.int .i64 i, .int .i64 o, .bool k]] w fun e w' => e = .returned (errV (pathE i o k)) ∧ Below w.heap.size w w' := by
  by_cases h : PathOk i o k
  · rw [pathE_ok h]
    exact (pcheck_yes i o k h w).mono fun _ _ hh => ⟨hh.1, hh.2 ▸ (Below.refl _ _).alloc (Nat.le_refl _) _⟩
  · rw [errV_pos (pathE_no h)]
    exact (pcheck_no i o k h w).mono fun _ _ hh => ⟨hh.1, hh.2 ▸ (Below.refl _ _).alloc (Nat.le_refl _) _⟩
theorem came_any (i o : Int) (k : Bool) (n : Int) (w : World) :
    Calls Tryd.prog 23 #[.agg #[.int .i64 i, .int .i64 o, .bool k], .int .i64 n] w fun e w' => e = .returned (.tuple #[.agg #[.int .i64 (cameI i o k n), .int .i64 (cameO i o k n), .bool (cameK i o k n)], errV (cameE i o k n)]) ∧ Below w.heap.size w w' := by
  unfold cameI cameO cameK
  by_cases h : cameE i o k n = 0
  · rw [if_pos h, if_pos h, if_pos h, h]; exact came_yes i o k n h w
  · rw [if_neg h, if_neg h, if_neg h, errV_pos h]; exact came_no i o k n h w
theorem send_any (i o : Int) (k : Bool) (n : Int) (w : World) :
    Calls Tryd.prog 26 #[.agg #[.int .i64 i, .int .i64 o, .bool k], .int .i64 n] w fun e w' => e = .returned (.tuple #[.agg #[.int .i64 (sendI i o k n), .int .i64 (sendO i o k n), .bool (sendK i o k n)], errV (sendE i o k n)]) ∧ Below w.heap.size w w' := by
  unfold sendI sendO sendK
  by_cases h : sendE i o k n = 0
  · rw [if_pos h, if_pos h, if_pos h, h]; exact send_yes i o k n h w
  · rw [if_neg h, if_neg h, if_neg h, errV_pos h]; exact send_no i o k n h w
theorem room_any (i o : Int) (k : Bool) (w : World) :
    Calls Tryd.prog 25 #[.agg #[.int .i64 i, .int .i64 o, .bool k]] w fun e w' => e = .returned (.tuple #[.int .i64 (roomV i o k), errV (pathE i o k)]) ∧ Below w.heap.size w w' := by
  unfold roomV
  by_cases h : PathOk i o k
  · rw [pathE_ok h, if_pos rfl]; exact room_yes i o k h w
  · rw [if_neg (pathE_no h), errV_pos (pathE_no h)]; exact room_no i o k h w
/-- how much may be sent is as much as there is room for -/
theorem sendE_room {i o n : Int} {k : Bool} (h : PathOk i o k) (n0 : 0 ≤ n) (n1 : n ≤ 200) : sendE i o k n = 0 ↔ n ≤ roomN i o k := by
  unfold sendE roomN
  rw [if_pos (pathE_ok h)]
  have kn := h.kn
  have i1 := h.i1
  have o1 := h.o1
  have o2 := h.o2
  cases k <;> simp <;> split <;> (try split) <;> omega
end Go.Proofs.YtaindcicloapfaaDoor
