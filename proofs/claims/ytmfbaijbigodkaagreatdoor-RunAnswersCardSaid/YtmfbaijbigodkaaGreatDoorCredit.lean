/- Contracts of package credit: what each answers, and what becomes of the credit's block. Condition: the block holds a credit as New and the calls leave it. -/
import Derived.Test.YtmfbaijbigodkaaGreatDoorOnly
import Derived.Test.YtmfbaijbigodkaaGreatDoorMay
import Derived.Deep.QuietTactic
import Derived.BigQuiet
namespace Go.Proofs.YtmfbaijbigodkaaGreatDoor
open Go.ChangeShapes Go.WideShapes Go.ChangeAt Go.RowKit
set_option linter.unusedVariables false

/-- a credit as New and the calls leave it -/
structure CredOk (W L C R : Int) : Prop where
  w1 : 1 ≤ W
  w2 : W ≤ 1000
  r1 : 0 ≤ R
  c1 : R ≤ C
  c2 : C ≤ L
  l1 : W ≤ L
  l2 : L ≤ 1073741823
  lo : W - W / 2 ≤ L - R
  hi : L - R ≤ W
abbrev credCells (W L C R : Int) : Array Value := #[.int .i64 W, .int .i64 L, .int .i64 C, .int .i64 R]

theorem cnew_yes (n : Int) (h1 : 1 ≤ n) (h2 : n ≤ 1000) (w : World) :
    Calls Tryz.prog 40 #[.int .i64 n] w fun e w' => e = .returned (.tuple #[.pointer (some ⟨w.heap.size, 0, none⟩), .nilIface]) ∧ w.alloc (.cells (credCells n n 0 0) 143) = w' := by
  go_enter Tryz.func40, Tryz.ntmps40
  go_wp2
  go_ret2
  exact ⟨rfl, rfl⟩
theorem cnew_no (n : Int) (h : ¬ (1 ≤ n ∧ n ≤ 1000)) (w : World) :
    Calls Tryz.prog 40 #[.int .i64 n] w fun e w' => e = .returned (.tuple #[.pointer none, .iface 84 (.int .i64 1)]) ∧ w = w' := by
  by_cases h1 : n < 1
  · clear h
    go_enter Tryz.func40, Tryz.ntmps40
    go_wp2
    go_ret2
    exact ⟨rfl, rfl⟩
  · have h2 : 1000 < n := by omega
    clear h
    go_enter Tryz.func40, Tryz.ntmps40
    go_wp2
    go_ret2
    exact ⟨rfl, rfl⟩

/-- what Take answers -/
def takeE (L u : Int) : Int := if 0 ≤ u ∧ u ≤ 1073741823 then (if L < u then 8 else 0) else 1
theorem ctake_may (g : Nat) (u : Int) (hm : ¬ MayBe u) (w : World) :
    Calls Tryz.prog 102 #[.pointer (some ⟨g, 0, none⟩), .int .i64 u] w fun e w' => e = .returned (.iface 84 (.int .i64 1)) ∧ w = w' := by
  go_enter Tryz.func102, Tryz.ntmps102
  go_wp2_with (go_at_call 93; refine (may_no u hm _).mono ?_; rintro e w' ⟨rfl, rfl⟩)
  go_ret
  exact ⟨rfl, rfl⟩
theorem ctake_flow (g : Nat) (W L C R u : Int) (hu : L < u) (h0 : 0 ≤ u) (h1 : u ≤ 1073741823) (w : World) (hb : BlockIs w g 143 (credCells W L C R)) :
    Calls Tryz.prog 102 #[.pointer (some ⟨g, 0, none⟩), .int .i64 u] w fun e w' => e = .returned (.iface 84 (.int .i64 8)) ∧ w = w' := by
  have c1 : w.cell? ⟨g, 1, none⟩ = some (.int .i64 L) := hb.cell 1
  clear hb
  go_enter Tryz.func102, Tryz.ntmps102
  go_wp2_with (go_at_call 93; refine (may_yes u h0 h1 _).mono ?_; rintro e w' ⟨rfl, rfl⟩)
  go_ret
  exact ⟨rfl, rfl⟩
/-- the greater of two -/
def maxN (a b : Int) : Int := if a < b then b else a
theorem ctake_yes (g : Nat) (W L C R u : Int) (hu : u ≤ L) (h0 : 0 ≤ u) (h1 : u ≤ 1073741823) (w : World) (hb : BlockIs w g 143 (credCells W L C R)) :
    Calls Tryz.prog 102 #[.pointer (some ⟨g, 0, none⟩), .int .i64 u] w fun e w' => e = .returned .nilIface ∧ BlockIs w' g 143 (credCells W L (maxN C u) R) ∧ Only w w' g := by
  have c1 : w.cell? ⟨g, 1, none⟩ = some (.int .i64 L) := hb.cell 1
  have c2 : w.cell? ⟨g, 2, none⟩ = some (.int .i64 C) := hb.cell 2
  have f2 : w.frozen? ⟨g, 2, none⟩ = false := hb.free 2
  have hlt : decide (L < u) = false := by simp; omega
  by_cases hc : C < u
  · have e : maxN C u = u := by unfold maxN; rw [if_pos hc]
    rw [e]
    clear e
    go_enter Tryz.func102, Tryz.ntmps102
    go_wp2_with (go_at_call 93; refine (may_yes u h0 h1 _).mono ?_; rintro e w' ⟨rfl, rfl⟩)
    go_ret
    exact ⟨rfl, hb.put 2 _, (Only.refl _ _).put _ _⟩
  · have e : maxN C u = C := by unfold maxN; rw [if_neg hc]
    rw [e]
    clear e
    go_enter Tryz.func102, Tryz.ntmps102
    go_wp2_with (go_at_call 93; refine (may_yes u h0 h1 _).mono ?_; rintro e w' ⟨rfl, rfl⟩)
    go_ret
    exact ⟨rfl, hb.put 2 _, (Only.refl _ _).put _ _⟩
theorem ctake_bad (g : Nat) (W L C R u : Int) (h : takeE L u ≠ 0) (w : World) (hb : BlockIs w g 143 (credCells W L C R)) :
    Calls Tryz.prog 102 #[.pointer (some ⟨g, 0, none⟩), .int .i64 u] w fun e w' => e = .returned (.iface 84 (.int .i64 (takeE L u))) ∧ w = w' := by
  by_cases hm : MayBe u
  · have hlt : L < u := by
      unfold takeE at h
      rw [if_pos (show 0 ≤ u ∧ u ≤ 1073741823 from hm)] at h
      rcases Int.lt_or_le L u with h3 | h3
      · exact h3
      · rw [if_neg (by omega)] at h; exact absurd rfl h
    have he : takeE L u = 8 := by unfold takeE; rw [if_pos (show 0 ≤ u ∧ u ≤ 1073741823 from hm), if_pos hlt]
    rw [he]
    exact ctake_flow g W L C R u hlt hm.1 hm.2 w hb
  · have he : takeE L u = 1 := by unfold takeE; rw [if_neg (show ¬ (0 ≤ u ∧ u ≤ 1073741823) from hm)]
    rw [he]
    exact ctake_may g u hm w
theorem takeE_ok {L u : Int} (h : takeE L u = 0) : u ≤ L ∧ 0 ≤ u ∧ u ≤ 1073741823 := by
  unfold takeE at h
  split at h
  · rename_i hm
    split at h
    · cases h
    · exact ⟨by omega, hm.1, hm.2⟩
  · cases h

theorem climit (g : Nat) (W L C R : Int) (w : World) (hb : BlockIs w g 143 (credCells W L C R)) :
    Calls Tryz.prog 49 #[.pointer (some ⟨g, 0, none⟩)] w fun e w' => e = .returned (.int .i64 L) ∧ w = w' := by
  have c1 : w.cell? ⟨g, 1, none⟩ = some (.int .i64 L) := hb.cell 1
  clear hb
  go_enter Tryz.func49, Tryz.ntmps49
  go_wp2
  go_ret
  exact ⟨rfl, rfl⟩
/-- the limit behind n more that are read -/
def limitN (W L R n : Int) : Int := if W / 2 < R + n - (L - W) then R + n + W else L
/-- what Read answers -/
def readE (W L C R n : Int) : Int := if n < 0 then 1 else if C - R < n then 8 else if 1073741823 < limitN W L R n then 4 else 0
theorem cread_neg (g : Nat) (n : Int) (hn : n < 0) (w : World) :
    Calls Tryz.prog 47 #[.pointer (some ⟨g, 0, none⟩), .int .i64 n] w fun e w' => e = .returned (.tuple #[.int .i64 0, .iface 84 (.int .i64 1)]) ∧ w = w' := by
  go_enter Tryz.func47, Tryz.ntmps47
  go_wp2
  go_ret2
  exact ⟨rfl, rfl⟩
theorem cread_flow (g : Nat) (W L C R n : Int) (h : CredOk W L C R) (hn : 0 ≤ n) (hf : C - R < n) (w : World) (hb : BlockIs w g 143 (credCells W L C R)) :
    Calls Tryz.prog 47 #[.pointer (some ⟨g, 0, none⟩), .int .i64 n] w fun e w' => e = .returned (.tuple #[.int .i64 0, .iface 84 (.int .i64 8)]) ∧ ∃ n, w.drewN n = w' := by
  have c2 : w.cell? ⟨g, 2, none⟩ = some (.int .i64 C) := hb.cell 2
  have c3 : w.cell? ⟨g, 3, none⟩ = some (.int .i64 R) := hb.cell 3
  obtain ⟨w1, w2, r1, k1, k2, l1, l2, lo, hi⟩ := h
  have hs : IntKind.i64.wrap (C - R) = C - R := IntWalk.i64_in _ (by omega)
  have hd : decide (C - R < n) = true := by simpa using hf
  clear hb
  go_enter Tryz.func47, Tryz.ntmps47
  go_wp2
  go_quiet (fail)
  go_wp2
  go_ret2
  exact ⟨rfl, _, rfl⟩

set_option maxHeartbeats 1000000 in
theorem cread_full (g : Nat) (W L C R n : Int) (h : CredOk W L C R) (hn : 0 ≤ n) (hf : n ≤ C - R) (hl : 1073741823 < limitN W L R n) (w : World) (hb : BlockIs w g 143 (credCells W L C R)) :
    Calls Tryz.prog 47 #[.pointer (some ⟨g, 0, none⟩), .int .i64 n] w fun e w' => e = .returned (.tuple #[.int .i64 0, .iface 84 (.int .i64 4)]) ∧ ∃ n, w.drewN n = w' := by
  have c0 : w.cell? ⟨g, 0, none⟩ = some (.int .i64 W) := hb.cell 0
  have c1 : w.cell? ⟨g, 1, none⟩ = some (.int .i64 L) := hb.cell 1
  have c2 : w.cell? ⟨g, 2, none⟩ = some (.int .i64 C) := hb.cell 2
  have c3 : w.cell? ⟨g, 3, none⟩ = some (.int .i64 R) := hb.cell 3
  obtain ⟨w1, w2, r1, k1, k2, l1, l2, lo, hi⟩ := h
  have d1 : decide (C - R < n) = false := by simp; omega
  have d0 : decide (n < 0) = false := by simp; omega
  by_cases hq : W / 2 < R + n - (L - W)
  · have hl2 : 1073741823 < R + n + W := by unfold limitN at hl; rw [if_pos hq] at hl; exact hl
    clear hl hb
    have s1 : IntKind.i64.wrap (C - R) = C - R := IntWalk.i64_in _ (by omega)
    have s2 : IntKind.i64.wrap (R + n) = R + n := IntWalk.i64_in _ (by omega)
    have s3 : IntKind.i64.wrap (L - W) = L - W := IntWalk.i64_in _ (by omega)
    have s4 : IntKind.i64.wrap (R + n - (L - W)) = R + n - (L - W) := IntWalk.i64_in _ (by omega)
    have s5 : IntKind.i64.wrap (R + n + W) = R + n + W := IntWalk.i64_in _ (by omega)
    have s6 : W.tdiv 2 = W / 2 := Int.tdiv_eq_ediv_of_nonneg (by omega)
    have s7 : IntKind.i64.wrap (W / 2) = W / 2 := IntWalk.i64_in _ (by omega)
    go_enter Tryz.func47, Tryz.ntmps47
    go_wp2
    go_quiet (fail)
    go_wp2
    go_quiet (fail)
    go_wp2
    go_quiet (fail)
    go_wp2
    go_ret2
    exact ⟨rfl, _, rfl⟩
  · unfold limitN at hl
    rw [if_neg hq] at hl
    omega

set_option maxHeartbeats 1000000 in
theorem cread_yes (g : Nat) (W L C R n : Int) (h : CredOk W L C R) (hn : 0 ≤ n) (hf : n ≤ C - R) (hl : limitN W L R n ≤ 1073741823) (w : World) (hb : BlockIs w g 143 (credCells W L C R)) :
    Calls Tryz.prog 47 #[.pointer (some ⟨g, 0, none⟩), .int .i64 n] w fun e w' => e = .returned (.tuple #[.int .i64 (limitN W L R n), .nilIface]) ∧ BlockIs w' g 143 (credCells W (limitN W L R n) C (R + n)) ∧ Only w w' g := by
  have c0 : w.cell? ⟨g, 0, none⟩ = some (.int .i64 W) := hb.cell 0
  have c1 : w.cell? ⟨g, 1, none⟩ = some (.int .i64 L) := hb.cell 1
  have c2 : w.cell? ⟨g, 2, none⟩ = some (.int .i64 C) := hb.cell 2
  have c3 : w.cell? ⟨g, 3, none⟩ = some (.int .i64 R) := hb.cell 3
  obtain ⟨w1, w2, r1, k1, k2, l1, l2, lo, hi⟩ := h
  have d1 : decide (C - R < n) = false := by simp; omega
  have d0 : decide (n < 0) = false := by simp; omega
  have f1 : ∀ i, w.frozen? ⟨g, i, none⟩ = false := fun i => hb.free i
  by_cases hq : W / 2 < R + n - (L - W)
  · have e : limitN W L R n = R + n + W := by unfold limitN; rw [if_pos hq]
    rw [e] at hl ⊢
    clear e
    have s1 : IntKind.i64.wrap (C - R) = C - R := IntWalk.i64_in _ (by omega)
    have s2 : IntKind.i64.wrap (R + n) = R + n := IntWalk.i64_in _ (by omega)
    have s3 : IntKind.i64.wrap (L - W) = L - W := IntWalk.i64_in _ (by omega)
    have s4 : IntKind.i64.wrap (R + n - (L - W)) = R + n - (L - W) := IntWalk.i64_in _ (by omega)
    have s5 : IntKind.i64.wrap (R + n + W) = R + n + W := IntWalk.i64_in _ (by omega)
    have s6 : W.tdiv 2 = W / 2 := Int.tdiv_eq_ediv_of_nonneg (by omega)
    have s7 : IntKind.i64.wrap (W / 2) = W / 2 := IntWalk.i64_in _ (by omega)
    go_enter Tryz.func47, Tryz.ntmps47
    go_wp2
    go_quiet (fail)
    go_wp2
    go_quiet (fail)
    go_wp2
    go_quiet (fail)
    go_wp2
    go_ret2
    exact ⟨rfl, (hb.drewN _).put 3 _ |>.put 1 _, (((Only.refl _ _).drewN _).put _ _).put _ _⟩
  · have e : limitN W L R n = L := by unfold limitN; rw [if_neg hq]
    rw [e] at hl ⊢
    clear e
    have hq' : decide (W / 2 < R + n - (L - W)) = false := by simpa using hq
    have s1 : IntKind.i64.wrap (C - R) = C - R := IntWalk.i64_in _ (by omega)
    have s2 : IntKind.i64.wrap (R + n) = R + n := IntWalk.i64_in _ (by omega)
    have s3 : IntKind.i64.wrap (L - W) = L - W := IntWalk.i64_in _ (by omega)
    have s4 : IntKind.i64.wrap (R + n - (L - W)) = R + n - (L - W) := IntWalk.i64_in _ (by omega)
    have s5 : IntKind.i64.wrap (R + n + W) = R + n + W := IntWalk.i64_in _ (by omega)
    have s6 : W.tdiv 2 = W / 2 := Int.tdiv_eq_ediv_of_nonneg (by omega)
    have s7 : IntKind.i64.wrap (W / 2) = W / 2 := IntWalk.i64_in _ (by omega)
    go_enter Tryz.func47, Tryz.ntmps47
    go_wp2
    go_quiet (fail)
    go_wp2
    go_quiet (fail)
    go_wp2
    go_ret2
    exact ⟨rfl, (hb.drewN _).put 3 _ |>.put 1 _, (((Only.refl _ _).drewN _).put _ _).put _ _⟩

theorem cread_bad (g : Nat) (W L C R n : Int) (h : CredOk W L C R) (he : readE W L C R n ≠ 0) (w : World) (hb : BlockIs w g 143 (credCells W L C R)) :
    Calls Tryz.prog 47 #[.pointer (some ⟨g, 0, none⟩), .int .i64 n] w fun e w' => e = .returned (.tuple #[.int .i64 0, .iface 84 (.int .i64 (readE W L C R n))]) ∧ ∃ n, w.drewN n = w' := by
  unfold readE at he ⊢
  by_cases h1 : n < 0
  · rw [if_pos h1]
    exact (cread_neg g n h1 w).mono fun _ _ hh => ⟨hh.1, 0, hh.2⟩
  · rw [if_neg h1] at he ⊢
    by_cases h2 : C - R < n
    · rw [if_pos h2]
      exact cread_flow g W L C R n h (by omega) h2 w hb
    · rw [if_neg h2] at he ⊢
      by_cases h3 : 1073741823 < limitN W L R n
      · rw [if_pos h3]
        exact cread_full g W L C R n h (by omega) (by omega) h3 w hb
      · rw [if_neg h3] at he
        exact absurd rfl he
theorem readE_ok {W L C R n : Int} (h : readE W L C R n = 0) : 0 ≤ n ∧ n ≤ C - R ∧ limitN W L R n ≤ 1073741823 := by
  unfold readE at h
  split at h
  · cases h
  · split at h
    · cases h
    · split at h
      · cases h
      · exact ⟨by omega, by omega, by omega⟩

theorem limitN_ok (W L C R n : Int) (h : CredOk W L C R) (hn : 0 ≤ n) (hf : n ≤ C - R) (hl : limitN W L R n ≤ 1073741823) : CredOk W (limitN W L R n) C (R + n) ∧ L ≤ limitN W L R n := by
  obtain ⟨w1, w2, r1, k1, k2, l1, l2, lo, hi⟩ := h
  unfold limitN at hl ⊢
  split at hl
  · rename_i hq
    rw [if_pos hq]
    exact ⟨⟨w1, w2, by omega, by omega, by omega, by omega, hl, by omega, by omega⟩, by omega⟩
  · rename_i hq
    rw [if_neg hq]
    exact ⟨⟨w1, w2, by omega, by omega, by omega, by omega, hl, by omega, by omega⟩, by omega⟩
end Go.Proofs.YtmfbaijbigodkaaGreatDoor
