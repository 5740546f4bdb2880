/- Contracts of package credit and its reference in one piece each: what each answers, and what becomes of the credit's block. Condition: the block holds a credit as New and the calls leave it. -/
import Derived.Test.YtaiojfoicfhbnaaDoorCredit
import Derived.Test.YtaiojfoicfhbnaaDoorMayB
import Derived.Test.YtaiojfoicfhbnaaDoorTold
namespace Go.Proofs.YtaiojfoicfhbnaaDoor
open Go.ChangeShapes Go.WideShapes Go.ChangeAt Go.RowKit
set_option linter.unusedVariables false

/-- what came behind a Take -/
def tC (L C u : Int) : Int := if takeE L u = 0 then maxN C u else C
/-- the limit behind a Read -/
def rL (W L C R n : Int) : Int := if readE W L C R n = 0 then limitN W L R n else L
/-- what was read behind a Read -/
def rR (W L C R n : Int) : Int := if readE W L C R n = 0 then R + n else R
/-- what Read answers -/
def rV (W L C R n : Int) : Int := if readE W L C R n = 0 then limitN W L R n else 0
theorem tC_ok {W L C R : Int} (u : Int) (h : CredOk W L C R) : CredOk W L (tC L C u) R := by
  obtain ⟨w1, w2, r1, k1, k2, l1, l2, lo, hi⟩ := h
  unfold tC
  split
  · rename_i h0
    obtain ⟨h1, h2, h3⟩ := takeE_ok h0
    unfold maxN
    split <;> exact ⟨w1, w2, r1, by omega, by omega, l1, l2, lo, hi⟩
  · exact ⟨w1, w2, r1, k1, k2, l1, l2, lo, hi⟩
theorem rLR_ok {W L C R : Int} (n : Int) (h : CredOk W L C R) : CredOk W (rL W L C R n) C (rR W L C R n) := by
  unfold rL rR
  split
  · rename_i h0
    obtain ⟨h1, h2, h3⟩ := readE_ok h0
    exact (limitN_ok W L C R n h h1 h2 h3).1
  · exact h
def cnewE (n : Int) : Int := if 1 ≤ n ∧ n ≤ 1000 then 0 else 1

theorem ctake_any (g : Nat) (W L C R u : Int) (w : World) (hb : BlockIs w g 81 (credCells W L C R)) :
    Calls Tryd.prog 14 #[.pointer (some ⟨g, 0, none⟩), .int .i64 u] w fun e w' => e = .returned (errV (takeE L u)) ∧ BlockIs w' g 81 (credCells W L (tC L C u) R) ∧ Only w w' g := by
  unfold tC
  by_cases h : takeE L u = 0
  · obtain ⟨h1, h2, h3⟩ := takeE_ok h
    rw [h, if_pos rfl, errV_zero]
    exact ctake_yes g W L C R u h1 h2 h3 w hb
  · rw [if_neg h, errV_pos h]
    refine (ctake_bad g W L C R u h w hb).mono ?_
    rintro e w' ⟨rfl, rfl⟩
    exact ⟨rfl, hb, Only.refl _ _⟩
theorem cread_any (g : Nat) (W L C R n : Int) (ok : CredOk W L C R) (w : World) (hb : BlockIs w g 81 (credCells W L C R)) :
    Calls Tryd.prog 17 #[.pointer (some ⟨g, 0, none⟩), .int .i64 n] w fun e w' => e = .returned (.tuple #[.int .i64 (rV W L C R n), errV (readE W L C R n)]) ∧ BlockIs w' g 81 (credCells W (rL W L C R n) C (rR W L C R n)) ∧ Only w w' g := by
  unfold rL rR rV
  by_cases h : readE W L C R n = 0
  · obtain ⟨h1, h2, h3⟩ := readE_ok h
    rw [h, if_pos rfl, if_pos rfl, if_pos rfl, errV_zero]
    exact cread_yes g W L C R n ok h1 h2 h3 w hb
  · rw [if_neg h, if_neg h, if_neg h, errV_pos h]
    refine (cread_bad g W L C R n ok h w hb).mono ?_
    rintro e w' ⟨rfl, n, rfl⟩
    exact ⟨rfl, hb.drewN _, (Only.refl _ _).drewN _⟩

theorem rtake_any (g : Nat) (W L C R u : Int) (w : World) (hb : BlockIs w g 31 (credCells W L C R)) :
    Calls Tryd.prog 15 #[.pointer (some ⟨g, 0, none⟩), .int .i64 u] w fun e w' => e = .returned (.int .i64 (takeE L u)) ∧ BlockIs w' g 31 (credCells W L (tC L C u) R) ∧ Only w w' g := by
  have c1 : w.cell? ⟨g, 1, none⟩ = some (.int .i64 L) := hb.cell 1
  have c2 : w.cell? ⟨g, 2, none⟩ = some (.int .i64 C) := hb.cell 2
  have f2 : w.frozen? ⟨g, 2, none⟩ = false := hb.free 2
  unfold tC
  by_cases hm : MayBe u
  case neg =>
    have he : takeE L u = 1 := by unfold takeE; rw [if_neg (show ¬ (0 ≤ u ∧ u ≤ 1073741823) from hm)]
    rw [he, if_neg (by decide)]
    clear he
    go_enter Tryd.func15, Tryd.ntmps15
    go_wp2_with (go_at_call 43; refine (rmay_no u hm _).mono ?_; rintro e w' ⟨rfl, rfl⟩)
    go_ret
    exact ⟨rfl, hb, Only.refl _ _⟩
  have h0 := hm.1
  have h1 := hm.2
  by_cases hl : L < u
  · have he : takeE L u = 8 := by unfold takeE; rw [if_pos (show 0 ≤ u ∧ u ≤ 1073741823 from hm), if_pos hl]
    rw [he, if_neg (by decide)]
    clear he hm
    go_enter Tryd.func15, Tryd.ntmps15
    go_wp2_with (go_at_call 43; refine (rmay_yes u h0 h1 _).mono ?_; rintro e w' ⟨rfl, rfl⟩)
    go_ret
    exact ⟨rfl, hb, Only.refl _ _⟩
  have he : takeE L u = 0 := by unfold takeE; rw [if_pos (show 0 ≤ u ∧ u ≤ 1073741823 from hm), if_neg hl]
  have hl' : decide (L < u) = false := by simpa using hl
  rw [he, if_pos rfl]
  clear he hm
  unfold maxN
  by_cases hc : C < u
  · rw [if_pos hc]
    go_enter Tryd.func15, Tryd.ntmps15
    go_wp2_with (go_at_call 43; refine (rmay_yes u h0 h1 _).mono ?_; rintro e w' ⟨rfl, rfl⟩)
    go_ret
    exact ⟨rfl, hb.put 2 _, (Only.refl _ _).put _ _⟩
  · rw [if_neg hc]
    have hc' : decide (C < u) = false := by simpa using hc
    go_enter Tryd.func15, Tryd.ntmps15
    go_wp2_with (go_at_call 43; refine (rmay_yes u h0 h1 _).mono ?_; rintro e w' ⟨rfl, rfl⟩)
    go_ret
    exact ⟨rfl, hb, Only.refl _ _⟩
set_option maxHeartbeats 1000000 in
theorem rgetc_any (g : Nat) (W L C R n : Int) (ok : CredOk W L C R) (w : World) (hb : BlockIs w g 31 (credCells W L C R)) :
    Calls Tryd.prog 16 #[.pointer (some ⟨g, 0, none⟩), .int .i64 n] w fun e w' => e = .returned (.int .i64 (readE W L C R n)) ∧ BlockIs w' g 31 (credCells W (rL W L C R n) C (rR W L C R n)) ∧ Only w w' g := by
  have c0 : w.cell? ⟨g, 0, none⟩ = some (.int .i64 W) := hb.cell 0
  have c1 : w.cell? ⟨g, 1, none⟩ = some (.int .i64 L) := hb.cell 1
  have c2 : w.cell? ⟨g, 2, none⟩ = some (.int .i64 C) := hb.cell 2
  have c3 : w.cell? ⟨g, 3, none⟩ = some (.int .i64 R) := hb.cell 3
  have f1 : ∀ i, w.frozen? ⟨g, i, none⟩ = false := fun i => hb.free i
  obtain ⟨w1, w2, r1, k1, k2, l1, l2, lo, hi⟩ := ok
  unfold rL rR
  by_cases hn : n < 0
  · have he : readE W L C R n = 1 := by unfold readE; rw [if_pos hn]
    rw [he, if_neg (by decide), if_neg (by decide)]
    clear he
    go_enter Tryd.func16, Tryd.ntmps16
    go_wp2
    go_ret
    exact ⟨rfl, hb, Only.refl _ _⟩
  have hn' : decide (n < 0) = false := by simpa using hn
  have s1 : IntKind.i64.wrap (C - R) = C - R := IntWalk.i64_in _ (by omega)
  by_cases hf : C - R < n
  · have he : readE W L C R n = 8 := by unfold readE; rw [if_neg hn, if_pos hf]
    rw [he, if_neg (by decide), if_neg (by decide)]
    clear he
    go_enter Tryd.func16, Tryd.ntmps16
    go_wp2
    go_quiet (fail)
    go_wp2
    go_ret
    exact ⟨rfl, hb.drewN _, (Only.refl _ _).drewN _⟩
  have hf' : decide (C - R < n) = false := by simpa using hf
  have s2 : IntKind.i64.wrap (R + n) = R + n := IntWalk.i64_in _ (by omega)
  have s3 : IntKind.i64.wrap (L - W) = L - W := IntWalk.i64_in _ (by omega)
  have s4 : IntKind.i64.wrap (R + n - (L - W)) = R + n - (L - W) := IntWalk.i64_in _ (by omega)
  have s5 : IntKind.i64.wrap (R + n + W) = R + n + W := IntWalk.i64_in _ (by omega)
  have s6 : W.tdiv 2 = W / 2 := Int.tdiv_eq_ediv_of_nonneg (by omega)
  have s7 : IntKind.i64.wrap (W / 2) = W / 2 := IntWalk.i64_in _ (by omega)
  have h0 : 0 ≤ n := by omega
  by_cases hq : W / 2 < R + n - (L - W)
  · have hl : limitN W L R n = R + n + W := by unfold limitN; rw [if_pos hq]
    by_cases hx : 1073741823 < R + n + W
    · have he : readE W L C R n = 4 := by unfold readE; rw [if_neg hn, if_neg hf, hl, if_pos hx]
      have hm : ¬ MayBe (R + n + W) := by unfold MayBe; omega
      rw [he, if_neg (by decide), if_neg (by decide)]
      clear he hl hn hf
      go_enter Tryd.func16, Tryd.ntmps16
      go_wp2
      go_quiet (fail)
      go_wp2
      go_quiet (fail)
      go_wp2
      go_quiet (fail)
      go_wp2_with (go_at_call 43; refine (rmay_no _ hm _).mono ?_; rintro e w' ⟨rfl, rfl⟩)
      go_ret
      exact ⟨rfl, hb.drewN _, (Only.refl _ _).drewN _⟩
    · have he : readE W L C R n = 0 := by unfold readE; rw [if_neg hn, if_neg hf, hl, if_neg hx]
      rw [he, if_pos rfl, if_pos rfl, hl]
      clear he hl hn hf
      go_enter Tryd.func16, Tryd.ntmps16
      go_wp2
      go_quiet (fail)
      go_wp2
      go_quiet (fail)
      go_wp2
      go_quiet (fail)
      go_wp2_with (go_at_call 43; refine (rmay_yes _ (by omega) (by omega) _).mono ?_; rintro e w' ⟨rfl, rfl⟩)
      go_ret
      exact ⟨rfl, (hb.drewN _).put 3 _ |>.put 1 _, (((Only.refl _ _).drewN _).put _ _).put _ _⟩
  · have hl : limitN W L R n = L := by unfold limitN; rw [if_neg hq]
    have hq' : decide (W / 2 < R + n - (L - W)) = false := by simpa using hq
    have he : readE W L C R n = 0 := by unfold readE; rw [if_neg hn, if_neg hf, hl, if_neg (by omega)]
    rw [he, if_pos rfl, if_pos rfl, hl]
    clear he hl hn hf
    go_enter Tryd.func16, Tryd.ntmps16
    go_wp2
    go_quiet (fail)
    go_wp2
    go_quiet (fail)
    go_wp2_with (go_at_call 43; refine (rmay_yes _ (by omega) (by omega) _).mono ?_; rintro e w' ⟨rfl, rfl⟩)
    go_ret
    exact ⟨rfl, (hb.drewN _).put 3 _ |>.put 1 _, (((Only.refl _ _).drewN _).put _ _).put _ _⟩
end Go.Proofs.YtaiojfoicfhbnaaDoor
