/- WindowHalf: for every window and list the law returns true: more when it comes, half when it is lost. No condition. -/
import Derived.Test.YtaiojfoicfhbnaaWindow
import Derived.Outline
import Derived.Deep.RegionHeld3
import Derived.Deep.DeepCutAuto
import Derived.Test.YtaiojfoicfhbnaaRows
import Derived.WalkKit
import Derived.ProofKit
import Derived.OpenShut
import Derived.ShutString
import Derived.ChangeOld
import Derived.Below
import Derived.Lib.SmallJoins
import Derived.Deep.Slices
import Derived.Deep.Matrix
import Derived.Deep.Strs
namespace Go.Proofs.Ytaiojfoicfhbnaa.windowHalf
open Go.ChangeShapes Go.WideShapes Go.ChangeAt Go.RowKit
open Go.ChangeMaps (open_string shut_string)
set_option linter.unusedVariables false

/-- what holds at the loop's head -/
structure Head (w wr : World) (s l y : Int) : Prop where
  bl : BlockIs wr w.heap.size 35 #[.int .i64 s, .int .i64 l, .int .i64 y]
  hb : Below w.heap.size w wr
  ok : WinOk s l y

theorem head_set {w wX : World} {s l y s' l' y' : Int} {o : Obj} (bY : BlockIs wX w.heap.size 35 #[.int .i64 s, .int .i64 l, .int .i64 y]) (hbX : Below w.heap.size w wX) (hok : WinOk s' l' y') :
    Head w (((((wX.setCell ⟨w.heap.size, 0, none⟩ (.int .i64 s')).setCell ⟨w.heap.size, 1, none⟩ (.int .i64 l')).setCell ⟨w.heap.size, 2, none⟩ (.int .i64 y')).alloc o).drew) s' l' y' :=
  ⟨(((((bY.put 0 _).put 1 _).put 2 _).alloc o).drew), (((((hbX.setCell (Nat.le_refl _) _).setCell (Nat.le_refl _) _).setCell (Nat.le_refl _) _).alloc (by have := hbX.size; simp [World.setCell]; omega) o).drew), hok⟩

theorem tdiv3_neg (z : Int) (h : z < 0) : z.tdiv 3 ≤ 0 ∧ z.tmod 3 ≤ 0 := by
  have e : z = -(-z) := by omega
  rw [e, Int.neg_tdiv, Int.neg_tmod, Int.tdiv_eq_ediv_of_nonneg (by omega), Int.tmod_eq_emod_of_nonneg (by omega)]
  omega

set_option maxRecDepth 100000 in
theorem walk_bad (s l y : Int) (v1 : Value) (w : World) (hw : ¬ WinOk s l y) :
    Calls Try.prog 5 #[.agg #[.int .i64 s, .int .i64 l, .int .i64 y], v1] w fun e w' => e = .returned (.bool true) ∧ Below w.heap.size w w' := by
  have hp : PacOk 1000 2000 100 100 := ⟨⟨by omega, by omega, by omega, by omega, by omega, by omega⟩, by omega, by omega⟩
  have hl : lostS 1000 = 500 := by decide
  have HL := Lib.hid hl
  clear hl
  go_enter Try.func5, Try.ntmps5
  go_wp2_with fail
  refine (wlost_yes 1000 2000 100 100 hp (by omega) _).mono ?_
  rintro e w1 ⟨rfl, hb1⟩
  rw [HL.out]
  have bp := after_alloc hb1
  have x0 : w1.cell? ⟨w.heap.size, 0, none⟩ = some (.int .i64 s) := bp.cell 0
  have x1 : w1.cell? ⟨w.heap.size, 1, none⟩ = some (.int .i64 l) := bp.cell 1
  have x2 : w1.cell? ⟨w.heap.size, 2, none⟩ = some (.int .i64 y) := bp.cell 2
  have lt1 := bp.lt
  go_wp2_with (go_at_call 14; refine (wcheck_no s l y hw _).mono ?_; rintro e w' ⟨rfl, rfl⟩)
  go_ret
  have b1 := below_steps ((Below.refl _ w).alloc (Nat.le_refl _) (winCells s l y)) hb1 (by simp)
  exact ⟨rfl, (b1.alloc b1.size _).alloc (by have := b1.size; simp; omega) _⟩

set_option maxRecDepth 100000 in
set_option maxHeartbeats 4000000 in
theorem walk (s0 l0 y0 : Int) (v1 : Value) (Z : List Int) (w : World) (w0 : (Lit.int .i64 s0).wf = true) (w1 : (Lit.int .i64 l0).wf = true) (w2 : (Lit.int .i64 y0).wf = true) (w3 : IntsIn w v1 Z) :
    Calls Try.prog 5 #[.agg #[.int .i64 s0, .int .i64 l0, .int .i64 y0], v1] w fun e w' => e = .returned (.bool true) ∧ Below w.heap.size w w' := by
  by_cases hw : WinOk s0 l0 y0
  case neg => exact walk_bad s0 l0 y0 v1 w hw
  obtain ⟨bd0, A, cap, rfl, hle0, hm0, hc⟩ := w3
  unfold maxLen at hm0
  have hZ : Z.length ≤ 9223372036854775807 := by omega
  have HC := Lib.hid hc
  have BD := Lib.hid bd0
  clear hc bd0
  have hp : PacOk 1000 2000 100 100 := ⟨⟨by omega, by omega, by omega, by omega, by omega, by omega⟩, by omega, by omega⟩
  have hl : lostS 1000 = 500 := by decide
  have HL := Lib.hid hl
  clear hl
  go_enter Try.func5, Try.ntmps5
  go_wp2_with fail
  refine (wlost_yes 1000 2000 100 100 hp (by omega) _).mono ?_
  rintro e w1' ⟨rfl, hb1⟩
  rw [HL.out]
  have bp := after_alloc hb1
  have x0 : w1'.cell? ⟨w.heap.size, 0, none⟩ = some (.int .i64 s0) := bp.cell 0
  have x1 : w1'.cell? ⟨w.heap.size, 1, none⟩ = some (.int .i64 l0) := bp.cell 1
  have x2 : w1'.cell? ⟨w.heap.size, 2, none⟩ = some (.int .i64 y0) := bp.cell 2
  have lt1 := bp.lt
  have lt2 : w.heap.size < w1'.heap.size + 1 := by omega
  have lt3 : w.heap.size < w1'.heap.size + 1 + 1 := by omega
  go_wp2_with (go_at_call 14; refine (wcheck_yes s0 l0 y0 hw _).mono ?_; rintro e w' ⟨rfl, rfl⟩)
  go_loopw [7, 8] (fun s7 s8 wr => ∃ (k : Nat) (s l y : Int), s7 = .int .i64 y ∧ s8 = .int .i64 k ∧ k ≤ 80 ∧ Head w wr s l y) (fun _ i _ => 80 - (intOf i).toNat)
  case atStart =>
    have b1 := below_steps ((Below.refl _ w).alloc (Nat.le_refl _) (winCells s0 l0 y0)) hb1 (by simp)
    exact ⟨0, s0, l0, y0, rfl, rfl, by omega, (bp.alloc _).alloc _, (b1.alloc b1.size _).alloc (by have := b1.size; simp; omega) _, hw⟩
  case round =>
    obtain ⟨k, s, l, y, rfl, rfl, hk, hH⟩ := hrel
    clear x0 x1 x2 lt1 lt2 lt3
    by_cases hlen : k < Z.length
    case neg =>
      have hlen' : decide ((k : Int) < (Z.length : Int)) = false := by simp; omega
      go_wp2_with fail
      go_ret
      exact ⟨rfl, hH.hb⟩
    by_cases h80 : k < 80
    case neg =>
      have hlen' : (k : Int) < (Z.length : Int) := by omega
      have h80' : decide ((k : Int) < 80) = false := by simp; omega
      go_wp2_with fail
      go_ret
      exact ⟨rfl, hH.hb⟩
    have hlen' : (k : Int) < (Z.length : Int) := by omega
    have h80' : (k : Int) < 80 := by omega
    obtain ⟨b, off, rfl, hlt, hc⟩ := HC.out (by rintro rfl; simp at hlen)
    have hbelow := hH.hb
    have bl := hH.bl
    have ok := hH.ok
    have cz : wr.cell? ⟨b, off + k, none⟩ = some (.int .i64 (ith Z k)) := (hbelow.cell (p := ⟨b, off + k, none⟩) hlt).trans (hc k hlen)
    clear hc
    obtain ⟨zb1, zb2⟩ := ith_bounds BD.out k
    generalize ith Z k = z at *
    have p0 : wr.cell? ⟨w.heap.size, 0, none⟩ = some (.int .i64 s) := bl.cell 0
    have p1 : wr.cell? ⟨w.heap.size, 1, none⟩ = some (.int .i64 l) := bl.cell 1
    have p2 : wr.cell? ⟨w.heap.size, 2, none⟩ = some (.int .i64 y) := bl.cell 2
    have ltb := bl.lt
    by_cases hz : 0 ≤ z
    case neg =>
      obtain ⟨t1, t2⟩ := tdiv3_neg z (by omega)
      have m1 : ((z.tmod 3) == 1) = false := by simp; omega
      have m2 : ((z.tmod 3) == 2) = false := by simp; omega
      have N1 : Hid (¬ (PacOk s l y (z.tdiv 3) ∧ y + z.tdiv 3 ≤ s)) := Lib.hid (fun h => by have := h.1.2.1; omega)
      go_wp2_with (go_at_call 11; refine (wsend_bad s l y _ N1.out _).mono ?_; rintro e w4 ⟨rfl, hb4⟩)
      go_roundw
      case rel => exact ⟨k + 1, s, l, y, rfl, by go_num, by omega, (bl.later hb4).alloc _, (below_steps hbelow hb4 hbelow.size).alloc (Nat.le_trans hbelow.size hb4.size) _, ok⟩
      case measure => simp [intOf]; omega
    have oy1 := ok.y1
    have oy2 := ok.y2
    have os1 := ok.s1
    have os2 := ok.s2
    by_cases hm1 : z % 3 = 1
    · have m1 : (z % 3 == 1) = true := by simp; omega
      clear hm1
      by_cases hp : PacOk s l y (z / 3) ∧ z / 3 ≤ y
      · obtain ⟨hp1, hp2⟩ := hp
        have hn1 := hp1.2.1
        have hn2 := hp1.2.2
        obtain ⟨c1, c2⟩ := cameS_bounds s l (z / 3) ok.s1 ok.s2 hn1 hn2
        have hok2 : WinOk (cameS s l (z / 3)) l (y - z / 3) := ⟨by omega, c2, ok.l1, ok.l2, by omega, by omega⟩
        generalize hS : cameS s l (z / 3) = s' at *
        have HS := Lib.hid hS
        clear hS
        go_wp2_with (first | (go_at_call 11; refine (wsend_any s l y _ _).mono ?_; rintro e w4 ⟨xa, xb, xc, xe, rfl, hb4⟩; have bl4 := bl.later hb4; have r0 : w4.cell? ⟨w.heap.size, 0, none⟩ = some (.int .i64 s) := bl4.cell 0; have r1 : w4.cell? ⟨w.heap.size, 1, none⟩ = some (.int .i64 l) := bl4.cell 1; have r2 : w4.cell? ⟨w.heap.size, 2, none⟩ = some (.int .i64 y) := bl4.cell 2; have lt4 := bl4.lt) | (go_at_call 12; refine (wcame_yes s l y _ hp1 hp2 _).mono ?_; rintro e w5 ⟨rfl, hb5⟩; rw [HS.out]; have bl5 := (bl4.alloc _).later hb5; have u0 : w5.cell? ⟨w.heap.size, 0, none⟩ = some (.int .i64 s) := bl5.cell 0; have u1 : w5.cell? ⟨w.heap.size, 1, none⟩ = some (.int .i64 l) := bl5.cell 1; have bq := after_alloc hb5; have q0 : w5.cell? ⟨w4.heap.size, 0, none⟩ = some (.int .i64 xa) := bq.cell 0; have q1 : w5.cell? ⟨w4.heap.size, 1, none⟩ = some (.int .i64 xb) := bq.cell 1; have q2 : w5.cell? ⟨w4.heap.size, 2, none⟩ = some (.int .i64 xc) := bq.cell 2; have qf : ∀ i, w5.frozen? ⟨w4.heap.size, i, none⟩ = false := fun i => bq.free i; have lq := bq.lt; have nb : ¬ w4.heap.size = w.heap.size := by omega))
        have bX : BlockIs (((w5.setCell ⟨w4.heap.size, 0, none⟩ (.int .i64 s')).setCell ⟨w4.heap.size, 1, none⟩ (.int .i64 l)).setCell ⟨w4.heap.size, 2, none⟩ (.int .i64 (y - z / 3))) w4.heap.size 35 #[.int .i64 s', .int .i64 l, .int .i64 (y - z / 3)] := ((bq.put 0 _).put 1 _).put 2 _
        have bY : BlockIs (((w5.setCell ⟨w4.heap.size, 0, none⟩ (.int .i64 s')).setCell ⟨w4.heap.size, 1, none⟩ (.int .i64 l)).setCell ⟨w4.heap.size, 2, none⟩ (.int .i64 (y - z / 3))) w.heap.size 35 #[.int .i64 s, .int .i64 l, .int .i64 y] := ((bl5.far (p := ⟨w4.heap.size, 0, none⟩) (by simp; omega) _).far (p := ⟨w4.heap.size, 1, none⟩) (by simp; omega) _).far (p := ⟨w4.heap.size, 2, none⟩) (by simp; omega) _
        have hbX : Below w.heap.size w (((w5.setCell ⟨w4.heap.size, 0, none⟩ (.int .i64 s')).setCell ⟨w4.heap.size, 1, none⟩ (.int .i64 l)).setCell ⟨w4.heap.size, 2, none⟩ (.int .i64 (y - z / 3))) :=
          (((below_steps ((below_steps hbelow hb4 hbelow.size).alloc (Nat.le_trans hbelow.size hb4.size) _) hb5 (by have := hb4.size; simp; omega)).setCell (by simp; omega) _).setCell (by simp; omega) _).setCell (by simp; omega) _
        generalize ((w5.setCell ⟨w4.heap.size, 0, none⟩ (.int .i64 s')).setCell ⟨w4.heap.size, 1, none⟩ (.int .i64 l)).setCell ⟨w4.heap.size, 2, none⟩ (.int .i64 (y - z / 3)) = wX at *
        clear q0 q1 q2 u0 u1 r0 r1 r2 p0 p1 p2
        have X0 : wX.cell? ⟨w4.heap.size, 0, none⟩ = some (.int .i64 s') := bX.cell 0
        have X1 : wX.cell? ⟨w4.heap.size, 1, none⟩ = some (.int .i64 l) := bX.cell 1
        have X2 : wX.cell? ⟨w4.heap.size, 2, none⟩ = some (.int .i64 (y - z / 3)) := bX.cell 2
        have Y0 : wX.cell? ⟨w.heap.size, 0, none⟩ = some (.int .i64 s) := bY.cell 0
        have Y1 : wX.cell? ⟨w.heap.size, 1, none⟩ = some (.int .i64 l) := bY.cell 1
        have Y2 : wX.cell? ⟨w.heap.size, 2, none⟩ = some (.int .i64 y) := bY.cell 2
        have Yf : ∀ i, wX.frozen? ⟨w.heap.size, i, none⟩ = false := fun i => bY.free i
        have lX := bX.lt
        have lY := bY.lt
        have g1 : decide (s' < 400) = false := by simp; omega
        go_region_held3 (fun w' => w'.cell? ⟨w4.heap.size, 0, none⟩ = some (.int .i64 s') ∧ w'.cell? ⟨w4.heap.size, 1, none⟩ = some (.int .i64 l) ∧ w'.cell? ⟨w4.heap.size, 2, none⟩ = some (.int .i64 (y - z / 3))) (go_keep) (first | (go_at_call 15; refine (wleast _).mono ?_; rintro e w' ⟨rfl, rfl⟩) | (go_at_call 14; refine (wcheck_yes _ _ _ hok2 _).mono ?_; rintro e w' ⟨rfl, rfl⟩))
        go_wp2_with fail
        go_roundw
        case rel => exact ⟨k + 1, s', l, (y - z / 3), rfl, by go_num, by omega, head_set bY hbX hok2⟩
        case measure => simp [intOf]; omega
      · have HP := Lib.hid hp
        clear hp
        go_wp2_with (first | (go_at_call 11; refine (wsend_any s l y _ _).mono ?_; rintro e w4 ⟨xa, xb, xc, xe, rfl, hb4⟩; have bl4 := bl.later hb4; have r0 : w4.cell? ⟨w.heap.size, 0, none⟩ = some (.int .i64 s) := bl4.cell 0; have r1 : w4.cell? ⟨w.heap.size, 1, none⟩ = some (.int .i64 l) := bl4.cell 1; have r2 : w4.cell? ⟨w.heap.size, 2, none⟩ = some (.int .i64 y) := bl4.cell 2; have lt4 := bl4.lt) | (go_at_call 12; refine (wcame_no s l y _ HP.out _).mono ?_; rintro e w5 ⟨rfl, hb5⟩; have bl5 := (bl4.alloc _).later hb5; have u0 : w5.cell? ⟨w.heap.size, 0, none⟩ = some (.int .i64 s) := bl5.cell 0; have u1 : w5.cell? ⟨w.heap.size, 1, none⟩ = some (.int .i64 l) := bl5.cell 1; have bq := after_alloc hb5; have q0 : w5.cell? ⟨w4.heap.size, 0, none⟩ = some (.int .i64 xa) := bq.cell 0; have q1 : w5.cell? ⟨w4.heap.size, 1, none⟩ = some (.int .i64 xb) := bq.cell 1; have q2 : w5.cell? ⟨w4.heap.size, 2, none⟩ = some (.int .i64 xc) := bq.cell 2; have qf : ∀ i, w5.frozen? ⟨w4.heap.size, i, none⟩ = false := fun i => bq.free i; have lq := bq.lt; have nb : ¬ w4.heap.size = w.heap.size := by omega))
        go_roundw
        case rel => exact ⟨k + 1, s, l, y, rfl, by go_num, by omega, ((bl5.far (p := ⟨w4.heap.size, 0, none⟩) (by simp; omega) _).far (p := ⟨w4.heap.size, 1, none⟩) (by simp; omega) _).far (p := ⟨w4.heap.size, 2, none⟩) (by simp; omega) _, (((below_steps ((below_steps hbelow hb4 hbelow.size).alloc (Nat.le_trans hbelow.size hb4.size) _) hb5 (by have := hb4.size; simp; omega)).setCell (by simp; omega) _).setCell (by simp; omega) _).setCell (by simp; omega) _, ok⟩
        case measure => simp [intOf]; omega
    have m1 : (z % 3 == 1) = false := by simp; omega
    by_cases hm2 : z % 3 = 2
    · have m2 : (z % 3 == 2) = true := by simp; omega
      clear hm1 hm2
      by_cases hp : PacOk s l y (z / 3) ∧ z / 3 ≤ y
      · obtain ⟨hp1, hp2⟩ := hp
        have hn1 := hp1.2.1
        have hn2 := hp1.2.2
        obtain ⟨c1, c2⟩ := lostS_bounds s ok.s1 ok.s2
        have hok2 : WinOk (lostS s) (lostS s) (y - z / 3) := ⟨by omega, by omega, by omega, by omega, by omega, by omega⟩
        generalize hS : lostS s = s' at *
        have HS := Lib.hid hS
        clear hS
        go_wp2_with (first | (go_at_call 11; refine (wsend_any s l y _ _).mono ?_; rintro e w4 ⟨xa, xb, xc, xe, rfl, hb4⟩; have bl4 := bl.later hb4; have r0 : w4.cell? ⟨w.heap.size, 0, none⟩ = some (.int .i64 s) := bl4.cell 0; have r1 : w4.cell? ⟨w.heap.size, 1, none⟩ = some (.int .i64 l) := bl4.cell 1; have r2 : w4.cell? ⟨w.heap.size, 2, none⟩ = some (.int .i64 y) := bl4.cell 2; have lt4 := bl4.lt) | (go_at_call 13; refine (wlost_yes s l y _ hp1 hp2 _).mono ?_; rintro e w5 ⟨rfl, hb5⟩; rw [HS.out]; have bl5 := (bl4.alloc _).later hb5; have u0 : w5.cell? ⟨w.heap.size, 0, none⟩ = some (.int .i64 s) := bl5.cell 0; have u1 : w5.cell? ⟨w.heap.size, 1, none⟩ = some (.int .i64 l) := bl5.cell 1; have bq := after_alloc hb5; have q0 : w5.cell? ⟨w4.heap.size, 0, none⟩ = some (.int .i64 xa) := bq.cell 0; have q1 : w5.cell? ⟨w4.heap.size, 1, none⟩ = some (.int .i64 xb) := bq.cell 1; have q2 : w5.cell? ⟨w4.heap.size, 2, none⟩ = some (.int .i64 xc) := bq.cell 2; have qf : ∀ i, w5.frozen? ⟨w4.heap.size, i, none⟩ = false := fun i => bq.free i; have lq := bq.lt; have nb : ¬ w4.heap.size = w.heap.size := by omega))
        have bX : BlockIs (((w5.setCell ⟨w4.heap.size, 0, none⟩ (.int .i64 s')).setCell ⟨w4.heap.size, 1, none⟩ (.int .i64 s')).setCell ⟨w4.heap.size, 2, none⟩ (.int .i64 (y - z / 3))) w4.heap.size 35 #[.int .i64 s', .int .i64 s', .int .i64 (y - z / 3)] := ((bq.put 0 _).put 1 _).put 2 _
        have bY : BlockIs (((w5.setCell ⟨w4.heap.size, 0, none⟩ (.int .i64 s')).setCell ⟨w4.heap.size, 1, none⟩ (.int .i64 s')).setCell ⟨w4.heap.size, 2, none⟩ (.int .i64 (y - z / 3))) w.heap.size 35 #[.int .i64 s, .int .i64 l, .int .i64 y] := ((bl5.far (p := ⟨w4.heap.size, 0, none⟩) (by simp; omega) _).far (p := ⟨w4.heap.size, 1, none⟩) (by simp; omega) _).far (p := ⟨w4.heap.size, 2, none⟩) (by simp; omega) _
        have hbX : Below w.heap.size w (((w5.setCell ⟨w4.heap.size, 0, none⟩ (.int .i64 s')).setCell ⟨w4.heap.size, 1, none⟩ (.int .i64 s')).setCell ⟨w4.heap.size, 2, none⟩ (.int .i64 (y - z / 3))) :=
          (((below_steps ((below_steps hbelow hb4 hbelow.size).alloc (Nat.le_trans hbelow.size hb4.size) _) hb5 (by have := hb4.size; simp; omega)).setCell (by simp; omega) _).setCell (by simp; omega) _).setCell (by simp; omega) _
        generalize ((w5.setCell ⟨w4.heap.size, 0, none⟩ (.int .i64 s')).setCell ⟨w4.heap.size, 1, none⟩ (.int .i64 s')).setCell ⟨w4.heap.size, 2, none⟩ (.int .i64 (y - z / 3)) = wX at *
        clear q0 q1 q2 u0 u1 r0 r1 r2 p0 p1 p2
        have X0 : wX.cell? ⟨w4.heap.size, 0, none⟩ = some (.int .i64 s') := bX.cell 0
        have X1 : wX.cell? ⟨w4.heap.size, 1, none⟩ = some (.int .i64 s') := bX.cell 1
        have X2 : wX.cell? ⟨w4.heap.size, 2, none⟩ = some (.int .i64 (y - z / 3)) := bX.cell 2
        have Y0 : wX.cell? ⟨w.heap.size, 0, none⟩ = some (.int .i64 s) := bY.cell 0
        have Y1 : wX.cell? ⟨w.heap.size, 1, none⟩ = some (.int .i64 l) := bY.cell 1
        have Y2 : wX.cell? ⟨w.heap.size, 2, none⟩ = some (.int .i64 y) := bY.cell 2
        have Yf : ∀ i, wX.frozen? ⟨w.heap.size, i, none⟩ = false := fun i => bY.free i
        have lX := bX.lt
        have lY := bY.lt
        have g1 : decide (s' < 400) = false := by simp; omega
        go_region_held3 (fun w' => w'.cell? ⟨w4.heap.size, 0, none⟩ = some (.int .i64 s') ∧ w'.cell? ⟨w4.heap.size, 1, none⟩ = some (.int .i64 s') ∧ w'.cell? ⟨w4.heap.size, 2, none⟩ = some (.int .i64 (y - z / 3))) (go_keep) (first | (go_at_call 15; refine (wleast _).mono ?_; rintro e w' ⟨rfl, rfl⟩) | (go_at_call 14; refine (wcheck_yes _ _ _ hok2 _).mono ?_; rintro e w' ⟨rfl, rfl⟩))
        go_wp2_with fail
        go_roundw
        case rel => exact ⟨k + 1, s', s', (y - z / 3), rfl, by go_num, by omega, head_set bY hbX hok2⟩
        case measure => simp [intOf]; omega
      · have HP := Lib.hid hp
        clear hp
        go_wp2_with (first | (go_at_call 11; refine (wsend_any s l y _ _).mono ?_; rintro e w4 ⟨xa, xb, xc, xe, rfl, hb4⟩; have bl4 := bl.later hb4; have r0 : w4.cell? ⟨w.heap.size, 0, none⟩ = some (.int .i64 s) := bl4.cell 0; have r1 : w4.cell? ⟨w.heap.size, 1, none⟩ = some (.int .i64 l) := bl4.cell 1; have r2 : w4.cell? ⟨w.heap.size, 2, none⟩ = some (.int .i64 y) := bl4.cell 2; have lt4 := bl4.lt) | (go_at_call 13; refine (wlost_no s l y _ HP.out _).mono ?_; rintro e w5 ⟨rfl, hb5⟩; have bl5 := (bl4.alloc _).later hb5; have u0 : w5.cell? ⟨w.heap.size, 0, none⟩ = some (.int .i64 s) := bl5.cell 0; have u1 : w5.cell? ⟨w.heap.size, 1, none⟩ = some (.int .i64 l) := bl5.cell 1; have bq := after_alloc hb5; have q0 : w5.cell? ⟨w4.heap.size, 0, none⟩ = some (.int .i64 xa) := bq.cell 0; have q1 : w5.cell? ⟨w4.heap.size, 1, none⟩ = some (.int .i64 xb) := bq.cell 1; have q2 : w5.cell? ⟨w4.heap.size, 2, none⟩ = some (.int .i64 xc) := bq.cell 2; have qf : ∀ i, w5.frozen? ⟨w4.heap.size, i, none⟩ = false := fun i => bq.free i; have lq := bq.lt; have nb : ¬ w4.heap.size = w.heap.size := by omega))
        go_roundw
        case rel => exact ⟨k + 1, s, l, y, rfl, by go_num, by omega, ((bl5.far (p := ⟨w4.heap.size, 0, none⟩) (by simp; omega) _).far (p := ⟨w4.heap.size, 1, none⟩) (by simp; omega) _).far (p := ⟨w4.heap.size, 2, none⟩) (by simp; omega) _, (((below_steps ((below_steps hbelow hb4 hbelow.size).alloc (Nat.le_trans hbelow.size hb4.size) _) hb5 (by have := hb4.size; simp; omega)).setCell (by simp; omega) _).setCell (by simp; omega) _).setCell (by simp; omega) _, ok⟩
        case measure => simp [intOf]; omega
    have m2 : (z % 3 == 2) = false := by simp; omega
    clear hm1 hm2
    by_cases hp : PacOk s l y (z / 3) ∧ y + z / 3 ≤ s
    · obtain ⟨hp1, hp2⟩ := hp
      have hn1 := hp1.2.1
      have hn2 := hp1.2.2
      have hok2 : WinOk s l (y + z / 3) := ⟨os1, os2, ok.l1, ok.l2, by omega, by omega⟩
      go_wp2_with (go_at_call 11; refine (wsend_yes s l y _ hp1 hp2 _).mono ?_; rintro e w4 ⟨rfl, hb4⟩; have bl4 := bl.later hb4; have r0 : w4.cell? ⟨w.heap.size, 0, none⟩ = some (.int .i64 s) := bl4.cell 0; have r1 : w4.cell? ⟨w.heap.size, 1, none⟩ = some (.int .i64 l) := bl4.cell 1; have r2 : w4.cell? ⟨w.heap.size, 2, none⟩ = some (.int .i64 y) := bl4.cell 2; have lt4 := bl4.lt)
      have bX : BlockIs (w4.alloc (winCells s l (y + z / 3))) w4.heap.size 35 #[.int .i64 s, .int .i64 l, .int .i64 (y + z / 3)] := BlockIs.fresh _ _ _
      have bY : BlockIs (w4.alloc (winCells s l (y + z / 3))) w.heap.size 35 #[.int .i64 s, .int .i64 l, .int .i64 y] := bl4.alloc _
      have hbX : Below w.heap.size w (w4.alloc (winCells s l (y + z / 3))) := (below_steps hbelow hb4 hbelow.size).alloc (Nat.le_trans hbelow.size hb4.size) _
      generalize w4.alloc (winCells s l (y + z / 3)) = wX at *
      clear r0 r1 r2 p0 p1 p2
      have X0 : wX.cell? ⟨w4.heap.size, 0, none⟩ = some (.int .i64 s) := bX.cell 0
      have X1 : wX.cell? ⟨w4.heap.size, 1, none⟩ = some (.int .i64 l) := bX.cell 1
      have X2 : wX.cell? ⟨w4.heap.size, 2, none⟩ = some (.int .i64 (y + z / 3)) := bX.cell 2
      have Y0 : wX.cell? ⟨w.heap.size, 0, none⟩ = some (.int .i64 s) := bY.cell 0
      have Y1 : wX.cell? ⟨w.heap.size, 1, none⟩ = some (.int .i64 l) := bY.cell 1
      have Y2 : wX.cell? ⟨w.heap.size, 2, none⟩ = some (.int .i64 y) := bY.cell 2
      have Yf : ∀ i, wX.frozen? ⟨w.heap.size, i, none⟩ = false := fun i => bY.free i
      have lX := bX.lt
      have lY := bY.lt
      have g1 : decide (s < 400) = false := by simp; omega
      go_region_held3 (fun w' => w'.cell? ⟨w4.heap.size, 0, none⟩ = some (.int .i64 s) ∧ w'.cell? ⟨w4.heap.size, 1, none⟩ = some (.int .i64 l) ∧ w'.cell? ⟨w4.heap.size, 2, none⟩ = some (.int .i64 (y + z / 3))) (go_keep) (first | (go_at_call 15; refine (wleast _).mono ?_; rintro e w' ⟨rfl, rfl⟩) | (go_at_call 14; refine (wcheck_yes _ _ _ hok2 _).mono ?_; rintro e w' ⟨rfl, rfl⟩))
      go_wp2_with fail
      go_roundw
      case rel => exact ⟨k + 1, s, l, (y + z / 3), rfl, by go_num, by omega, head_set bY hbX hok2⟩
      case measure => simp [intOf]; omega
    · have HP := Lib.hid hp
      clear hp
      go_wp2_with (go_at_call 11; refine (wsend_bad s l y _ HP.out _).mono ?_; rintro e w4 ⟨rfl, hb4⟩)
      go_roundw
      case rel => exact ⟨k + 1, s, l, y, rfl, by go_num, by omega, (bl.later hb4).alloc _, (below_steps hbelow hb4 hbelow.size).alloc (Nat.le_trans hbelow.size hb4.size) _, ok⟩
      case measure => simp [intOf]; omega

/-! the row -/
theorem own : ownKnob Try.prog.godebug = none := by kernel_rfl
theorem laidOut : laidOutB Try.prog = true := by kernel_rfl
set_option maxRecDepth 100000 in
theorem contract (H : Type) (enc : TypeId × Value → H) (W : World) (base : Nat) (args : Array Value) (ds gs : List (DataW H)) (before : List MemPlace)
    (hval : ∀ (j : Nat) t v, Try.f5.params[j]? = some t → args[j]? = some v → Value.okWide Try.prog W .any base t v)
    (hW : DataW.Whole enc Try.prog Try.f5.params.toList Rows.windowHalfSpec.vars false W args.toList ds gs before) :
    Calls Try.prog 5 args W fun e W' => ∃ v, e = .returned v ∧ Rows.windowHalfSpec.post enc Try.prog Try.f5 false true false false W args v W' := by
  have hW' := hW
  obtain ⟨p, q, hA0, hV, rfl, hfz, hnd⟩ := hW
  have hA : DataW.TrodAll enc Try.prog W 0 (fun _ => true) true Try.f5.params.toList args.toList ds p := hA0
  rw [Try.params5] at hA hval
  obtain ⟨v0, vs0, d0, ds0, p0, q0, hargs, rfl, rfl, h0, r0⟩ := trodAll_cons hA
  obtain ⟨v1, vs1, d1, ds1, p1, q1, rfl, rfl, rfl, h1, r1⟩ := trodAll_cons r0
  obtain ⟨rfl, rfl, rfl⟩ := trodAll_nil r1
  obtain rfl : args = #[v0, v1] := by cases args; simp_all
  obtain ⟨rfl, rfl⟩ := trodVars_none hV
  have k0 := h0
  have lt0 : ∀ x ∈ p0, x.block < W.heap.size := by obtain ⟨m, hm⟩ := k0; exact DataW.trod_lt m _ _ _ hm
  obtain ⟨c0_0, c0_1, c0_2, y0_0, y0_1, y0_2, m0, rfl, hd0, hp0, u0_0, u0_1, u0_2⟩ := Joins.open_agg3 Try.underlying35 (by kernel_rfl) (by kernel_rfl) (hval 0 35 v0 rfl rfl) h0
  obtain ⟨a0_0, e0_0, f0_0, w0_0⟩ := DataW.trod_int Try.underlying3 u0_0
  obtain ⟨a0_1, e0_1, f0_1, w0_1⟩ := DataW.trod_int Try.underlying3 u0_1
  obtain ⟨a0_2, e0_2, f0_2, w0_2⟩ := DataW.trod_int Try.underlying3 u0_2
  simp only [List.cons.injEq, and_true] at e0_0 e0_1 e0_2
  subst e0_0 e0_1 e0_2
  obtain ⟨a1, len1, cap1, rfl⟩ := okWide_slice Try.underlying32 (hval 1 32 v1 rfl rfl)
  have k1 := h1
  have lt1 : ∀ x ∈ p1, x.block < W.heap.size := by obtain ⟨m, hm⟩ := k1; exact DataW.trod_lt m _ _ _ hm
  obtain ⟨z1, w1⟩ : ∃ zs, IntsIn W (.slice a1 len1 cap1) zs := by
    obtain ⟨fuel, hf⟩ := h1
    exact intsIn_open Try.underlying32 Try.underlying3 (by kernel_rfl) hf lt1
  refine (walk a0_0 a0_1 a0_2 (.slice a1 len1 cap1) z1 W w0_0 w0_1 w0_2 w1).mono fun e W' ⟨he, bel⟩ => ?_
  subst he
  exact ⟨_, rfl, _, _, _, [], _, [], hW', trodAll_mk1 (shut_bool Try.underlying4 _), (trodAll_cons_mk (Below.trod laidOut (by kernel_rfl) (of_decide_eq_true (by kernel_rfl)) k0 bel lt0) (trodAll_cons_mk (Below.trod laidOut (by kernel_rfl) (of_decide_eq_true (by kernel_rfl)) k1 bel lt1) trodAll_mk0)), rfl, bel.frame _, fun h => by cases h⟩

set_option maxRecDepth 100000 in
theorem lifted (os : Os) (started : os.Started) (H : Type) (enc : TypeId × Value → H) :
    ReturnsInHanded {} Try.checked os 5 .any (Rows.windowHalfSpec.pre6 enc Try.prog Try.f5 Rows.windowHalfRow.domain false) (Rows.windowHalfSpec.post enc Try.prog Try.f5 false true false false) := by
  refine returnsInHanded_of_change (C := Try.checked) own started (by kernel_rfl) Try.func5
    (ChangeSpec.witness6 (enc := enc) (C := Try.checked) false ⟨#[], #[.agg #[.int .i64 0, .int .i64 0, .int .i64 0], .slice none 0 0], []⟩ 8 (by kernel_rfl) (by kernel_rfl) (by kernel_rfl) (by kernel_rfl)) ?_
  intro W base args ds gs before hval hW _ _
  exact contract H enc W base args ds gs before hval hW

theorem said : Rows.WindowHalfSaid :=
  OpenClaim.holds_of_wide 5 Try.f5 rfl rfl rfl rfl rfl rfl rfl ⟨rfl, rfl, rfl, rfl, rfl⟩ rfl rfl rfl rfl rfl (by kernel_rfl) Try.func5 (by kernel_rfl)
    (of_decide_eq_true (by kernel_rfl)) (by unfold Func.isWrapper; first | (rw [if_pos (by decide +kernel)]; kernel_rfl) | (rw [if_neg (by decide +kernel)]; exact ⟨rfl, rfl⟩))
    (fun os started H enc _ => lifted os started H enc)
#print axioms said
end Go.Proofs.Ytaiojfoicfhbnaa.windowHalf
