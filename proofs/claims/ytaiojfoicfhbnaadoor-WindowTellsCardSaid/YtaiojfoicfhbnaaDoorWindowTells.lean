/- WindowTells: for every window and number the law returns true: what is wrong with any window, what is sent, came, and was lost, is as the reference says. Condition: errors.errorType holds its handle (the row lists it, the card ties it). -/
import Derived.Test.YtaiojfoicfhbnaaDoorWindowAny
import Derived.Test.YtaiojfoicfhbnaaDoorLaid
import Derived.Test.YtaiojfoicfhbnaaDoorRules
import Derived.Test.YtaiojfoicfhbnaaDoorSince
import Derived.Deep.DeepCutAuto
import Derived.Deep.RegionHeld3
import Derived.Test.YtaiojfoicfhbnaaDoorCards
import Derived.Test.YtaiojfoicfhbnaaDoorTie
import Derived.Deep.DeepHandedRow
import Derived.LaidLaws
import Derived.LaidHandle
import Derived.Deep.DeepWitnessRowRef
import Derived.Test.YtaiojfoicfhbnaaDoorRows
import Derived.WalkKit
import Derived.ProofKit
import Derived.OpenShut
import Derived.ShutString
import Derived.ChangeOld
import Derived.Below
import Derived.Lib.SmallJoins
import Derived.Deep.Slices
import Derived.Deep.Matrix
import Derived.Deep.Strs
namespace Go.Proofs.YtaiojfoicfhbnaaDoor.windowTells
open Go.ChangeShapes Go.WideShapes Go.ChangeAt Go.RowKit
open Go.ChangeMaps (open_string shut_string)
set_option linter.unusedVariables false

noncomputable abbrev laidWorld := YtaiojfoicfhbnaaDoor.laidWorld
theorem laidMetW (os : Os) (args : Array Value) : laidMetH Tryd.prog Rows.windowTellsRow.laid ((laidWorld os).forCall (fun _ _ => 0) ⟨#[], args, []⟩).memory := laidMet_et os args
theorem laidWalk {W : World} (h : laidMetH Tryd.prog Rows.windowTellsRow.laid W) : ETok W := laid_et h
abbrev win (s l y : Int) : Array Value := #[.int .i64 s, .int .i64 l, .int .i64 y]
theorem wcheck_b (s l y : Int) (w : World) : Calls Tryd.prog 20 #[.agg #[.int .i64 s, .int .i64 l, .int .i64 y]] w fun e w' => e = .returned (errV (wE s l y 1)) ∧ Below w.heap.size w w' :=
  (wcheck_all s l y w).mono fun _ _ ⟨h1, h2⟩ => ⟨h1, h2 ▸ (Below.refl _ _).alloc (Nat.le_refl _) _⟩
theorem rwindow_b (s l y n : Int) (w : World) : Calls Tryd.prog 21 #[.agg #[.int .i64 s, .int .i64 l, .int .i64 y], .int .i64 n] w fun e w' => e = .returned (.int .i64 (wE s l y n)) ∧ Below w.heap.size w w' :=
  (rwindow_any s l y n w).mono fun _ _ ⟨h1, h2⟩ => ⟨h1, h2 ▸ (Below.refl _ _).alloc (Nat.le_refl _) _⟩
/-- the window's own block, and the one of what is wanted -/
structure At (w wx : World) (s l y a b c : Int) (gp g : Nat) : Prop where
  p : BlockIs wx gp 42 (win s l y)
  q : BlockIs wx g 42 (win a b c)
  since : Since w wx
structure Three (wx : World) (g : Nat) (a b c : Int) : Prop where
  c0 : wx.cell? ⟨g, 0, none⟩ = some (.int .i64 a)
  c1 : wx.cell? ⟨g, 1, none⟩ = some (.int .i64 b)
  c2 : wx.cell? ⟨g, 2, none⟩ = some (.int .i64 c)
theorem three {wx : World} {g : Nat} {a b c : Int} (h : BlockIs wx g 42 (win a b c)) : wx.cell? ⟨g, 0, none⟩ = some (.int .i64 a) ∧ wx.cell? ⟨g, 1, none⟩ = some (.int .i64 b) ∧ wx.cell? ⟨g, 2, none⟩ = some (.int .i64 c) := ⟨h.cell 0, h.cell 1, h.cell 2⟩
theorem three_later {w w1 : World} {g : Nat} {a b c : Int} (hb : Below w.heap.size w w1) (h : w.cell? ⟨g, 0, none⟩ = some (.int .i64 a) ∧ w.cell? ⟨g, 1, none⟩ = some (.int .i64 b) ∧ w.cell? ⟨g, 2, none⟩ = some (.int .i64 c)) : w1.cell? ⟨g, 0, none⟩ = some (.int .i64 a) ∧ w1.cell? ⟨g, 1, none⟩ = some (.int .i64 b) ∧ w1.cell? ⟨g, 2, none⟩ = some (.int .i64 c) :=
  ⟨cell_later hb h.1, cell_later hb h.2.1, cell_later hb h.2.2⟩

set_option maxRecDepth 100000 in
set_option maxHeartbeats 3200000 in
theorem walk (s l y n : Int) (w : World) (w0 : (Lit.int .i64 s).wf = true) (w1 : (Lit.int .i64 l).wf = true) (w2 : (Lit.int .i64 y).wf = true) (w3 : (Lit.int .i64 n).wf = true) (hL : ETok w) :
    Calls Tryd.prog 5 #[.agg #[.int .i64 s, .int .i64 l, .int .i64 y], .int .i64 n] w fun e w' => e = .returned (.bool true) ∧ Below w.heap.size w w' := by
  have HE := Lib.hid hL
  clear hL w0 w1 w2 w3
  go_enter Tryd.func5, Tryd.ntmps5
  go_wp2_with fail
  have hp0 : BlockIs (w.alloc (.cells (win s l y) 42)) w.heap.size 42 (win s l y) := BlockIs.fresh _ _ _
  have hs0 : Since w (w.alloc (.cells (win s l y) 42)) := (by refine Since.out ?_; repeat (first | with_reducible assumption | with_reducible exact Since.refl _ | with_reducible refine Since.later ?_ (by with_reducible assumption) | with_reducible refine Since.only ?_ (by with_reducible assumption) (by first | assumption | omega | (simp; done) | (simp; omega)) | with_reducible refine Since.alloc ?_ _ | with_reducible refine Since.drewN ?_ _ | with_reducible refine Since.drew ?_ | with_reducible refine Since.set ?_ (by first | assumption | omega | (simp; done) | (simp; omega)) _))
  obtain ⟨gp, hgp⟩ : ∃ gp, gp = w.heap.size := ⟨_, rfl⟩
  have hge : w.heap.size ≤ gp := by omega
  rw [← hgp] at hp0 ⊢
  have HGP := Lib.hid hgp
  clear hgp
  generalize w.alloc (.cells (win s l y) 42) = wa at *
  go_cut [5] (fun s5 wx => s5 = .bool true ∧ BlockIs wx gp 42 (win s l y) ∧ Since w wx)
  case first =>
    have k0 := three hp0
    have HP := Lib.hid hp0
    have K0 := Lib.hid k0
    obtain ⟨c0, c1, c2⟩ := k0
    clear hp0
    go_wp2_with fail
    go_region_held3 (fun w' => w'.cell? ⟨gp, 0, none⟩ = some (.int .i64 s) ∧ w'.cell? ⟨gp, 1, none⟩ = some (.int .i64 l) ∧ w'.cell? ⟨gp, 2, none⟩ = some (.int .i64 y)) (first | exact K0.out | exact k1.out | exact k2.out | exact k3.out) (first | (go_at_call 20; refine (wcheck_b s l y _).mono ?_; rintro e w1 ⟨rfl, hb1⟩; have k1 := Lib.hid (show w1.cell? ⟨gp, 0, none⟩ = some (.int .i64 s) ∧ w1.cell? ⟨gp, 1, none⟩ = some (.int .i64 l) ∧ w1.cell? ⟨gp, 2, none⟩ = some (.int .i64 y) from (by first | exact three_later hb1 K0.out | exact three_later hb1 k2.out))) | (go_at_call 21; refine (rwindow_b s l y 1 _).mono ?_; rintro e w2 ⟨rfl, hb2⟩; have k2 := Lib.hid (show w2.cell? ⟨gp, 0, none⟩ = some (.int .i64 s) ∧ w2.cell? ⟨gp, 1, none⟩ = some (.int .i64 l) ∧ w2.cell? ⟨gp, 2, none⟩ = some (.int .i64 y) from (by first | exact three_later hb2 K0.out | exact three_later hb2 k1.out))) | (go_at_call 13; refine (same_yes _ _ (HE.out.later (by refine Since.out ?_; repeat (first | with_reducible assumption | with_reducible exact Since.refl _ | with_reducible refine Since.later ?_ (by with_reducible assumption) | with_reducible refine Since.only ?_ (by with_reducible assumption) (by first | assumption | omega | (simp; done) | (simp; omega)) | with_reducible refine Since.alloc ?_ _ | with_reducible refine Since.drewN ?_ _ | with_reducible refine Since.drew ?_ | with_reducible refine Since.set ?_ (by first | assumption | omega | (simp; done) | (simp; omega)) _)))).mono ?_; rintro e w3 ⟨rfl, hb3⟩; have k3 := Lib.hid (show w3.cell? ⟨gp, 0, none⟩ = some (.int .i64 s) ∧ w3.cell? ⟨gp, 1, none⟩ = some (.int .i64 l) ∧ w3.cell? ⟨gp, 2, none⟩ = some (.int .i64 y) from (by first | exact three_later hb3 k1.out | exact three_later hb3 k2.out))))
    all_goals
      go_wp2_with fail
      go_meet
      case rel => exact ⟨rfl, HP.out.later (by refine Since.out ?_; repeat (first | with_reducible assumption | with_reducible exact Since.refl _ | with_reducible refine Since.later ?_ (by with_reducible assumption) | with_reducible refine Since.only ?_ (by with_reducible assumption) (by first | assumption | omega | (simp; done) | (simp; omega)) | with_reducible refine Since.alloc ?_ _ | with_reducible refine Since.drewN ?_ _ | with_reducible refine Since.drew ?_ | with_reducible refine Since.set ?_ (by first | assumption | omega | (simp; done) | (simp; omega)) _)), (by refine Since.out ?_; repeat (first | with_reducible assumption | with_reducible exact Since.refl _ | with_reducible refine Since.later ?_ (by with_reducible assumption) | with_reducible refine Since.only ?_ (by with_reducible assumption) (by first | assumption | omega | (simp; done) | (simp; omega)) | with_reducible refine Since.alloc ?_ _ | with_reducible refine Since.drewN ?_ _ | with_reducible refine Since.drew ?_ | with_reducible refine Since.set ?_ (by first | assumption | omega | (simp; done) | (simp; omega)) _))⟩
  case rest =>
    obtain ⟨rfl, hp1, hs1⟩ := hcut
    obtain ⟨wb, rfl⟩ : ∃ wb : World, wb = wc := ⟨_, rfl⟩
    have k1 := three hp1
    have HP := Lib.hid hp1
    obtain ⟨c0, c1, c2⟩ := k1
    clear hp1 hp0 hs0
    repeat ((fail_if_success (with_reducible refine stop_at 5 ?_)); first | (go_at_call 21; refine (rwindow_b s l y n _).mono ?_; rintro e w4 ⟨rfl, hb4⟩) | go_values | go_skip | go_guarded | go_step | go_upon | go_back | go_simp)
    have hp4 : BlockIs (w4.alloc (.cells (win 0 0 0) 42)) gp 42 (win s l y) := (HP.out.later hb4).alloc _
    have hq4 : BlockIs (w4.alloc (.cells (win 0 0 0) 42)) w4.heap.size 42 (win 0 0 0) := BlockIs.fresh _ _ _
    have hs4 : Since w (w4.alloc (.cells (win 0 0 0) 42)) := (by refine Since.out ?_; repeat (first | with_reducible assumption | with_reducible exact Since.refl _ | with_reducible refine Since.later ?_ (by with_reducible assumption) | with_reducible refine Since.only ?_ (by with_reducible assumption) (by first | assumption | omega | (simp; done) | (simp; omega)) | with_reducible refine Since.alloc ?_ _ | with_reducible refine Since.drewN ?_ _ | with_reducible refine Since.drew ?_ | with_reducible refine Since.set ?_ (by first | assumption | omega | (simp; done) | (simp; omega)) _))
    have hgw : gp < w4.heap.size := Nat.lt_of_lt_of_le HP.out.lt hb4.size
    clear HP c0 c1 c2 hb4 hs1
    generalize w4.alloc (.cells (win 0 0 0) 42) = wd at *
    generalize w4.heap.size = gw at *
    have hne : gp ≠ gw := by omega
    have hge2 : w.heap.size ≤ gw := by omega
    go_cut [6, 7] (fun s6 s7 wx => s6 = .int .i64 (wE s l y n) ∧ s7 = .int .i64 (sendWE s l y n) ∧ At w wx s l y (sel (sendWE s l y n) s) (sel (sendWE s l y n) l) (sel (sendWE s l y n) (y + n)) gp gw)
    case first =>
      have kp := three hp4
      have kq := three hq4
      obtain ⟨c0, c1, c2⟩ := kp
      obtain ⟨d0, d1, d2⟩ := kq
      have fq := hq4.free
      have HP := Lib.hid hp4
      have HQ := Lib.hid hq4
      clear hp4 hq4
      by_cases hpac : PacOk s l y n
      case neg =>
        have E1 : Hid (wE s l y n = 1) := Lib.hid (by unfold wE; rw [if_neg hpac])
        have E2 : Hid (sendWE s l y n = 1) := Lib.hid (by rw [sendWE_eq, if_neg hpac])
        rw [E1.out]
        clear hpac
        go_wp2_with fail
        go_meet
        case rel => rw [E1.out, E2.out]; exact ⟨rfl, rfl, HP.out, HQ.out, hs4⟩
      have E1 : Hid (wE s l y n = 0) := Lib.hid (by unfold wE; rw [if_pos hpac])
      have E2 : Hid (sendWE s l y n = if s < y + n then 8 else 0) := Lib.hid (by rw [sendWE_eq, if_pos hpac])
      rw [E1.out]
      obtain ⟨⟨s1, s2, l1, l2, y1, y2⟩, n1, n2⟩ := hpac
      by_cases hf : s < y + n
      · have E3 : Hid (sendWE s l y n = 8) := Lib.hid (by rw [E2.out, if_pos hf])
        go_wp2_with fail
        go_meet
        case rel => rw [E1.out, E3.out]; exact ⟨rfl, rfl, HP.out, HQ.out, hs4⟩
      · have E3 : Hid (sendWE s l y n = 0) := Lib.hid (by rw [E2.out, if_neg hf])
        have hf' : decide (s < y + n) = false := by simpa using hf
        clear hf
        go_wp2_with fail
        go_meet
        case rel => rw [E1.out, E3.out]; exact ⟨rfl, rfl, HP.out.far hne _ |>.far hne _ |>.far hne _ |>.far hne _, ((HQ.out.put 0 _).put 1 _).put 2 _ |>.put 2 _, (by refine Since.out ?_; repeat (first | with_reducible assumption | with_reducible exact Since.refl _ | with_reducible refine Since.later ?_ (by with_reducible assumption) | with_reducible refine Since.only ?_ (by with_reducible assumption) (by first | assumption | omega | (simp; done) | (simp; omega)) | with_reducible refine Since.alloc ?_ _ | with_reducible refine Since.drewN ?_ _ | with_reducible refine Since.drew ?_ | with_reducible refine Since.set ?_ (by first | assumption | omega | (simp; done) | (simp; omega)) _))⟩
    case rest =>
      obtain ⟨rfl, rfl, hp5, hq5, hs5⟩ := hcut
      obtain ⟨we, rfl⟩ : ∃ we : World, we = wc := ⟨_, rfl⟩
      obtain ⟨c0, c1, c2⟩ := three hp5
      obtain ⟨d0, d1, d2⟩ := three hq5
      have lp := hp5.lt
      have lq := hq5.lt
      have HP := Lib.hid hp5
      have HQ := Lib.hid hq5
      clear hp5 hq5 hp4 hq4 hs4
      repeat ((fail_if_success (with_reducible refine stop_at 12 ?_)); first | (first | (go_at_call 22; refine (wsend_all s l y n _).mono ?_; rintro e w5 ⟨rfl, hb5⟩; (first | (refine keepk (gp) hb5 (by first | assumption | (simp; omega) | (simp; done)) ?_; intro lk ck fk; refine keepk (gw) hb5 (by first | assumption | (simp; omega) | (simp; done)) ?_; intro lk ck fk) | (refine keepk (gp) hb5 (by first | assumption | (simp; omega) | (simp; done)) ?_; intro lk ck fk))) | (go_at_call 13; refine (same_yes (sendWE s l y n) _ (HE.out.later (by refine Since.out ?_; repeat (first | with_reducible assumption | with_reducible exact Since.refl _ | with_reducible refine Since.later ?_ (by with_reducible assumption) | with_reducible refine Since.only ?_ (by with_reducible assumption) (by first | assumption | omega | (simp; done) | (simp; omega)) | with_reducible refine Since.alloc ?_ _ | with_reducible refine Since.drewN ?_ _ | with_reducible refine Since.drew ?_ | with_reducible refine Since.set ?_ (by first | assumption | omega | (simp; done) | (simp; omega)) _)))).mono ?_; rintro e w6 ⟨rfl, hb6⟩; (first | (refine keepk (gp) hb6 (by first | assumption | (simp; omega) | (simp; done)) ?_; intro lk ck fk; refine keepk (gw) hb6 (by first | assumption | (simp; omega) | (simp; done)) ?_; intro lk ck fk; refine keepk (w5.heap.size) hb6 (by first | assumption | (simp; omega) | (simp; done)) ?_; intro lk ck fk) | (refine keepk (gp) hb6 (by first | assumption | (simp; omega) | (simp; done)) ?_; intro lk ck fk; refine keepk (gw) hb6 (by first | assumption | (simp; omega) | (simp; done)) ?_; intro lk ck fk) | (refine keepk (gp) hb6 (by first | assumption | (simp; omega) | (simp; done)) ?_; intro lk ck fk)))) | go_values | go_skip | go_guarded | go_step | go_upon | go_back | go_simp)
      have hp6 : BlockIs w6 gp 42 (win s l y) := HP.out.later (by refine Since.out ?_; repeat (first | with_reducible assumption | with_reducible exact Since.refl _ | with_reducible refine Since.later ?_ (by with_reducible assumption) | with_reducible refine Since.only ?_ (by with_reducible assumption) (by first | assumption | omega | (simp; done) | (simp; omega)) | with_reducible refine Since.alloc ?_ _ | with_reducible refine Since.drewN ?_ _ | with_reducible refine Since.drew ?_ | with_reducible refine Since.set ?_ (by first | assumption | omega | (simp; done) | (simp; omega)) _))
      have hq6 : BlockIs w6 gw 42 (win (sel (sendWE s l y n) s) (sel (sendWE s l y n) l) (sel (sendWE s l y n) (y + n))) := HQ.out.later (by refine Since.out ?_; repeat (first | with_reducible assumption | with_reducible exact Since.refl _ | with_reducible refine Since.later ?_ (by with_reducible assumption) | with_reducible refine Since.only ?_ (by with_reducible assumption) (by first | assumption | omega | (simp; done) | (simp; omega)) | with_reducible refine Since.alloc ?_ _ | with_reducible refine Since.drewN ?_ _ | with_reducible refine Since.drew ?_ | with_reducible refine Since.set ?_ (by first | assumption | omega | (simp; done) | (simp; omega)) _))
      have hx6 : BlockIs w6 w5.heap.size 42 (win (sel (sendWE s l y n) s) (sel (sendWE s l y n) l) (sel (sendWE s l y n) (y + n))) := BlockIs.later (BlockIs.fresh _ _ _) hb6
      have hs6 : Since w w6 := (by refine Since.out ?_; repeat (first | with_reducible assumption | with_reducible exact Since.refl _ | with_reducible refine Since.later ?_ (by with_reducible assumption) | with_reducible refine Since.only ?_ (by with_reducible assumption) (by first | assumption | omega | (simp; done) | (simp; omega)) | with_reducible refine Since.alloc ?_ _ | with_reducible refine Since.drewN ?_ _ | with_reducible refine Since.drew ?_ | with_reducible refine Since.set ?_ (by first | assumption | omega | (simp; done) | (simp; omega)) _))
      have hgx : gp < w5.heap.size ∧ gw < w5.heap.size := ⟨by assumption, by assumption⟩
      (repeat clear ck); (repeat clear fk); (repeat clear lk)
      clear HP HQ c0 c1 c2 d0 d1 d2 hb6 hb5 hs5 lp lq
      obtain ⟨wf, rfl⟩ : ∃ wf : World, wf = w6 := ⟨_, rfl⟩
      generalize w5.heap.size = gx at *
      have hnx1 : gp ≠ gx := by omega
      have hnx2 : gw ≠ gx := by omega
      obtain ⟨c0, c1, c2⟩ := three hp6
      go_cut [6] (fun s6 wx => s6 = .int .i64 (backE s l y n) ∧ wx = wf)
      case first =>
        by_cases hpac : PacOk s l y n
        case neg =>
          have E1 : Hid (wE s l y n = 1) := Lib.hid (by unfold wE; rw [if_neg hpac])
          have E2 : Hid (backE s l y n = 1) := Lib.hid (backE_no hpac)
          rw [E1.out]
          clear hpac
          go_wp2_with fail
          go_meet
          case rel => rw [E2.out]; exact ⟨rfl, rfl⟩
        have E1 : Hid (wE s l y n = 0) := Lib.hid (by unfold wE; rw [if_pos hpac])
        rw [E1.out]
        by_cases hf : y < n
        · have E2 : Hid (backE s l y n = 3) := Lib.hid (by rw [backE_ok hpac, if_pos hf])
          clear hpac
          go_wp2_with fail
          go_meet
          case rel => rw [E2.out]; exact ⟨rfl, rfl⟩
        · have E2 : Hid (backE s l y n = 0) := Lib.hid (by rw [backE_ok hpac, if_neg hf])
          have hf' : decide (y < n) = false := by simpa using hf
          clear hpac hf
          go_wp2_with fail
          go_meet
          case rel => rw [E2.out]; exact ⟨rfl, rfl⟩
      case rest =>
        obtain ⟨rfl, rfl⟩ := hcut
        have fq := hq6.free
        obtain ⟨d0, d1, d2⟩ := three hq6
        have HP := Lib.hid hp6
        have HQ := Lib.hid hq6
        have HX := Lib.hid hx6
        clear hp6 hq6 hx6
        repeat ((fail_if_success (with_reducible refine stop_at 15 ?_)); first | fail | go_values | go_skip | go_guarded | go_step | go_upon | go_back | go_simp)
        have hp7 := ((HP.out.far (p := ⟨gw, 0, none⟩) hne (.int .i64 0)).far (p := ⟨gw, 1, none⟩) hne (.int .i64 0)).far (p := ⟨gw, 2, none⟩) hne (.int .i64 0)
        have hx7 := ((HX.out.far (p := ⟨gw, 0, none⟩) hnx2.symm (.int .i64 0)).far (p := ⟨gw, 1, none⟩) hnx2.symm (.int .i64 0)).far (p := ⟨gw, 2, none⟩) hnx2.symm (.int .i64 0)
        have hq7 : BlockIs (((wc.setCell ⟨gw, 0, none⟩ (.int .i64 0)).setCell ⟨gw, 1, none⟩ (.int .i64 0)).setCell ⟨gw, 2, none⟩ (.int .i64 0)) gw 42 (win 0 0 0) := ((HQ.out.put 0 (.int .i64 0)).put 1 (.int .i64 0)).put 2 (.int .i64 0)
        have hs7 : Since w (((wc.setCell ⟨gw, 0, none⟩ (.int .i64 0)).setCell ⟨gw, 1, none⟩ (.int .i64 0)).setCell ⟨gw, 2, none⟩ (.int .i64 0)) := (by refine Since.out ?_; repeat (first | with_reducible assumption | with_reducible exact Since.refl _ | with_reducible refine Since.later ?_ (by with_reducible assumption) | with_reducible refine Since.only ?_ (by with_reducible assumption) (by first | assumption | omega | (simp; done) | (simp; omega)) | with_reducible refine Since.alloc ?_ _ | with_reducible refine Since.drewN ?_ _ | with_reducible refine Since.drew ?_ | with_reducible refine Since.set ?_ (by first | assumption | omega | (simp; done) | (simp; omega)) _))
        clear HP HQ HX c0 c1 c2 d0 d1 d2 fq hs6
        generalize (((wc.setCell ⟨gw, 0, none⟩ (.int .i64 0)).setCell ⟨gw, 1, none⟩ (.int .i64 0)).setCell ⟨gw, 2, none⟩ (.int .i64 0)) = wg at *
        go_cut [6] (fun s6 wx => s6 = .int .i64 (backE s l y n) ∧ At w wx s l y (sel (backE s l y n) (cameS s l n)) (sel (backE s l y n) l) (sel (backE s l y n) (y - n)) gp gw ∧ BlockIs wx gx 42 (win (sel (sendWE s l y n) s) (sel (sendWE s l y n) l) (sel (sendWE s l y n) (y + n))))
        case first =>
          obtain ⟨c0, c1, c2⟩ := three hp7
          obtain ⟨d0, d1, d2⟩ := three hq7
          have fq := hq7.free
          have HP := Lib.hid hp7
          have HQ := Lib.hid hq7
          have HX := Lib.hid hx7
          clear hp7 hq7 hx7
          by_cases hpac : PacOk s l y n ∧ n ≤ y
          case neg =>
            have E1 : Hid (backE s l y n ≠ 0) := Lib.hid (backE_bad hpac)
            have E2 : (backE s l y n == 0) = false := by simpa using backE_bad hpac
            clear hpac
            go_wp2_with fail
            go_meet
            case rel => rw [sel_bad E1.out, sel_bad E1.out, sel_bad E1.out]; exact ⟨rfl, ⟨HP.out, HQ.out, (by refine Since.out ?_; repeat (first | with_reducible assumption | with_reducible exact Since.refl _ | with_reducible refine Since.later ?_ (by with_reducible assumption) | with_reducible refine Since.only ?_ (by with_reducible assumption) (by first | assumption | omega | (simp; done) | (simp; omega)) | with_reducible refine Since.alloc ?_ _ | with_reducible refine Since.drewN ?_ _ | with_reducible refine Since.drew ?_ | with_reducible refine Since.set ?_ (by first | assumption | omega | (simp; done) | (simp; omega)) _))⟩, HX.out⟩
          have E0 : Hid (backE s l y n = 0) := Lib.hid (backE_zero hpac)
          rw [E0.out]
          obtain ⟨⟨⟨s1, s2, l1, l2, y1, y2⟩, n1, n2⟩, hy⟩ := hpac
          have hsz : (s == 0) = false := by simp; omega
          by_cases hsl : s < l
          · have hnl : ¬ l ≤ s := by omega
            by_cases hbig : 100000 < s + n
            · have E3 : Hid (cameS s l n = 100000) := Lib.hid (by unfold cameS; rw [if_neg hnl, if_neg (by omega)])
              clear hnl
              go_wp2_with fail
              go_meet
              case rel => rw [E0.out, E3.out]; exact ⟨rfl, ⟨HP.out.far hne _ |>.far hne _ |>.far hne _ |>.far hne _ |>.far hne _ |>.far hne _, (((HQ.out.put 0 _).put 1 _).put 2 _ |>.put 2 _).put 0 _ |>.put 0 _, (by refine Since.out ?_; repeat (first | with_reducible assumption | with_reducible exact Since.refl _ | with_reducible refine Since.later ?_ (by with_reducible assumption) | with_reducible refine Since.only ?_ (by with_reducible assumption) (by first | assumption | omega | (simp; done) | (simp; omega)) | with_reducible refine Since.alloc ?_ _ | with_reducible refine Since.drewN ?_ _ | with_reducible refine Since.drew ?_ | with_reducible refine Since.set ?_ (by first | assumption | omega | (simp; done) | (simp; omega)) _))⟩, HX.out.far hnx2.symm _ |>.far hnx2.symm _ |>.far hnx2.symm _ |>.far hnx2.symm _ |>.far hnx2.symm _ |>.far hnx2.symm _⟩
            · have E3 : Hid (cameS s l n = s + n) := Lib.hid (by unfold cameS; rw [if_neg hnl]; split <;> omega)
              have hb' : decide (100000 < s + n) = false := by simpa using hbig
              clear hnl hbig
              go_wp2_with fail
              go_meet
              case rel => rw [E0.out, E3.out]; exact ⟨rfl, ⟨HP.out.far hne _ |>.far hne _ |>.far hne _ |>.far hne _ |>.far hne _, (((HQ.out.put 0 _).put 1 _).put 2 _ |>.put 2 _).put 0 _, (by refine Since.out ?_; repeat (first | with_reducible assumption | with_reducible exact Since.refl _ | with_reducible refine Since.later ?_ (by with_reducible assumption) | with_reducible refine Since.only ?_ (by with_reducible assumption) (by first | assumption | omega | (simp; done) | (simp; omega)) | with_reducible refine Since.alloc ?_ _ | with_reducible refine Since.drewN ?_ _ | with_reducible refine Since.drew ?_ | with_reducible refine Since.set ?_ (by first | assumption | omega | (simp; done) | (simp; omega)) _))⟩, HX.out.far hnx2.symm _ |>.far hnx2.symm _ |>.far hnx2.symm _ |>.far hnx2.symm _ |>.far hnx2.symm _⟩
          · have hsl' : decide (s < l) = false := by simpa using hsl
            have hls : l ≤ s := by omega
            have hmore := moreN s n s1 n1 n2
            obtain ⟨q, hq⟩ : ∃ q, n * 200 / s = q := ⟨_, rfl⟩
            have hw1 : IntKind.i64.wrap (n * 200) = n * 200 := IntWalk.i64_in _ (by omega)
            have hw2 : (n * 200).tdiv s = q := by rw [Int.tdiv_eq_ediv_of_nonneg (by omega)]; exact hq
            rw [hq] at hmore
            have hw3 : IntKind.i64.wrap q = q := IntWalk.i64_in _ (by omega)
            have hw4 : IntKind.i64.wrap (s + q) = s + q := IntWalk.i64_in _ (by omega)
            have hEq : cameS s l n = if s + q < 100000 then s + q else 100000 := by unfold cameS; rw [if_pos hls, hq]
            have HEQ := Lib.hid hEq
            clear hEq hls hsl hq
            repeat ((fail_if_success (with_reducible refine stop_at 18 ?_)); first | fail | go_values | go_skip | go_guarded | go_step | go_upon | go_back | go_simp)
            go_wp2_with fail
            have hp8 : BlockIs ((((wg.setCell ⟨gw, 0, none⟩ (.int .i64 s)).setCell ⟨gw, 1, none⟩ (.int .i64 l)).setCell ⟨gw, 2, none⟩ (.int .i64 y)).setCell ⟨gw, 2, none⟩ (.int .i64 (y - n))) gp 42 (win s l y) := (((HP.out.far (p := ⟨gw, 0, none⟩) hne (.int .i64 s)).far (p := ⟨gw, 1, none⟩) hne (.int .i64 l)).far (p := ⟨gw, 2, none⟩) hne (.int .i64 y)).far (p := ⟨gw, 2, none⟩) hne (.int .i64 (y - n))
            have hx8 := (((HX.out.far (p := ⟨gw, 0, none⟩) hnx2.symm (.int .i64 s)).far (p := ⟨gw, 1, none⟩) hnx2.symm (.int .i64 l)).far (p := ⟨gw, 2, none⟩) hnx2.symm (.int .i64 y)).far (p := ⟨gw, 2, none⟩) hnx2.symm (.int .i64 (y - n))
            have hq8 : BlockIs ((((wg.setCell ⟨gw, 0, none⟩ (.int .i64 s)).setCell ⟨gw, 1, none⟩ (.int .i64 l)).setCell ⟨gw, 2, none⟩ (.int .i64 y)).setCell ⟨gw, 2, none⟩ (.int .i64 (y - n))) gw 42 (win s l (y - n)) := (((HQ.out.put 0 (.int .i64 s)).put 1 (.int .i64 l)).put 2 (.int .i64 y)).put 2 (.int .i64 (y - n))
            have hs8 : Since w ((((wg.setCell ⟨gw, 0, none⟩ (.int .i64 s)).setCell ⟨gw, 1, none⟩ (.int .i64 l)).setCell ⟨gw, 2, none⟩ (.int .i64 y)).setCell ⟨gw, 2, none⟩ (.int .i64 (y - n))) := (by refine Since.out ?_; repeat (first | with_reducible assumption | with_reducible exact Since.refl _ | with_reducible refine Since.later ?_ (by with_reducible assumption) | with_reducible refine Since.only ?_ (by with_reducible assumption) (by first | assumption | omega | (simp; done) | (simp; omega)) | with_reducible refine Since.alloc ?_ _ | with_reducible refine Since.drewN ?_ _ | with_reducible refine Since.drew ?_ | with_reducible refine Since.set ?_ (by first | assumption | omega | (simp; done) | (simp; omega)) _))
            clear HP HQ HX c0 c1 c2 d0 d1 d2 fq hs7
            generalize (((wg.setCell ⟨gw, 0, none⟩ (.int .i64 s)).setCell ⟨gw, 1, none⟩ (.int .i64 l)).setCell ⟨gw, 2, none⟩ (.int .i64 y)).setCell ⟨gw, 2, none⟩ (.int .i64 (y - n)) = wh at *
            obtain ⟨c0, c1, c2⟩ := three hp8
            obtain ⟨d0, d1, d2⟩ := three hq8
            have fq := hq8.free
            have HP := Lib.hid hp8
            have HQ := Lib.hid hq8
            have HX := Lib.hid hx8
            clear hp8 hq8 hx8 c1 c2 d1 d2
            go_region
            by_cases hbig : 100000 < s + q
            · have E3 : Hid (cameS s l n = 100000) := Lib.hid (by rw [HEQ.out, if_neg (by omega)])
              go_wp2_with fail
              go_meet
              case rel => rw [E0.out, E3.out]; exact ⟨rfl, ⟨HP.out.far (p := ⟨gw, 0, none⟩) hne (.int .i64 (s + q)) |>.far (p := ⟨gw, 0, none⟩) hne _, (HQ.out.put 0 (.int .i64 (s + q))).put 0 _, (by refine Since.out ?_; repeat (first | with_reducible assumption | with_reducible exact Since.refl _ | with_reducible refine Since.later ?_ (by with_reducible assumption) | with_reducible refine Since.only ?_ (by with_reducible assumption) (by first | assumption | omega | (simp; done) | (simp; omega)) | with_reducible refine Since.alloc ?_ _ | with_reducible refine Since.drewN ?_ _ | with_reducible refine Since.drew ?_ | with_reducible refine Since.set ?_ (by first | assumption | omega | (simp; done) | (simp; omega)) _))⟩, HX.out.far (p := ⟨gw, 0, none⟩) hnx2.symm (.int .i64 (s + q)) |>.far (p := ⟨gw, 0, none⟩) hnx2.symm _⟩
            · have E3 : Hid (cameS s l n = s + q) := Lib.hid (by rw [HEQ.out]; split <;> omega)
              have hb' : decide (100000 < s + q) = false := by simpa using hbig
              clear hbig
              go_wp2_with fail
              go_meet
              case rel => rw [E0.out, E3.out]; exact ⟨rfl, ⟨HP.out.far (p := ⟨gw, 0, none⟩) hne (.int .i64 (s + q)), HQ.out.put 0 (.int .i64 (s + q)), (by refine Since.out ?_; repeat (first | with_reducible assumption | with_reducible exact Since.refl _ | with_reducible refine Since.later ?_ (by with_reducible assumption) | with_reducible refine Since.only ?_ (by with_reducible assumption) (by first | assumption | omega | (simp; done) | (simp; omega)) | with_reducible refine Since.alloc ?_ _ | with_reducible refine Since.drewN ?_ _ | with_reducible refine Since.drew ?_ | with_reducible refine Since.set ?_ (by first | assumption | omega | (simp; done) | (simp; omega)) _))⟩, HX.out.far (p := ⟨gw, 0, none⟩) hnx2.symm (.int .i64 (s + q))⟩
        case rest =>
          obtain ⟨rfl, ⟨hp9, hq9, hs9⟩, hx9⟩ := hcut
          obtain ⟨wi, rfl⟩ : ∃ wi : World, wi = wc := ⟨_, rfl⟩
          obtain ⟨c0, c1, c2⟩ := three hp9
          obtain ⟨d0, d1, d2⟩ := three hq9
          obtain ⟨e0, e1, e2⟩ := three hx9
          have fx := hx9.free
          have lp := hp9.lt
          have lq := hq9.lt
          have lx := hx9.lt
          have HP := Lib.hid hp9
          have HQ := Lib.hid hq9
          have HX := Lib.hid hx9
          clear hp9 hq9 hx9 hs7 hp7 hq7 hx7
          repeat ((fail_if_success (with_reducible refine stop_at 25 ?_)); first | (first | (go_at_call 23; refine (wcame_all s l y n _).mono ?_; rintro e w10 ⟨rfl, hb10⟩; (first | (refine keepk (gp) hb10 (by first | assumption | (simp; omega) | (simp; done)) ?_; intro lk ck fk; refine keepk (gw) hb10 (by first | assumption | (simp; omega) | (simp; done)) ?_; intro lk ck fk; refine keepk (gx) hb10 (by first | assumption | (simp; omega) | (simp; done)) ?_; intro lk ck fk) | (refine keepk (gp) hb10 (by first | assumption | (simp; omega) | (simp; done)) ?_; intro lk ck fk; refine keepk (gw) hb10 (by first | assumption | (simp; omega) | (simp; done)) ?_; intro lk ck fk) | (refine keepk (gp) hb10 (by first | assumption | (simp; omega) | (simp; done)) ?_; intro lk ck fk))) | (go_at_call 13; refine (same_yes (backE s l y n) _ (HE.out.later (by refine Since.out ?_; repeat (first | with_reducible assumption | with_reducible exact Since.refl _ | with_reducible refine Since.later ?_ (by with_reducible assumption) | with_reducible refine Since.only ?_ (by with_reducible assumption) (by first | assumption | omega | (simp; done) | (simp; omega)) | with_reducible refine Since.alloc ?_ _ | with_reducible refine Since.drewN ?_ _ | with_reducible refine Since.drew ?_ | with_reducible refine Since.set ?_ (by first | assumption | omega | (simp; done) | (simp; omega)) _)))).mono ?_; rintro e w11 ⟨rfl, hb11⟩; (first | (refine keepk (gp) hb11 (by first | assumption | (simp; omega) | (simp; done)) ?_; intro lk ck fk; refine keepk (gw) hb11 (by first | assumption | (simp; omega) | (simp; done)) ?_; intro lk ck fk; refine keepk (gx) hb11 (by first | assumption | (simp; omega) | (simp; done)) ?_; intro lk ck fk) | (refine keepk (gp) hb11 (by first | assumption | (simp; omega) | (simp; done)) ?_; intro lk ck fk; refine keepk (gw) hb11 (by first | assumption | (simp; omega) | (simp; done)) ?_; intro lk ck fk) | (refine keepk (gp) hb11 (by first | assumption | (simp; omega) | (simp; done)) ?_; intro lk ck fk)))) | go_values | go_skip | go_guarded | go_step | go_upon | go_back | go_simp)
          have hge3 : w.heap.size ≤ gx := by omega
          have hp11 : BlockIs w11 gp 42 (win s l y) := ((((HP.out.later hb10).far (p := ⟨gx, 0, none⟩) hnx1 _).far (p := ⟨gx, 1, none⟩) hnx1 _).far (p := ⟨gx, 2, none⟩) hnx1 _).later hb11
          have hq11 := ((((HQ.out.later hb10).far (p := ⟨gx, 0, none⟩) hnx2 (.int .i64 (sel (backE s l y n) (cameS s l n)))).far (p := ⟨gx, 1, none⟩) hnx2 (.int .i64 (sel (backE s l y n) l))).far (p := ⟨gx, 2, none⟩) hnx2 (.int .i64 (sel (backE s l y n) (y - n)))).later hb11
          have hx11 : BlockIs w11 gx 42 (win (sel (backE s l y n) (cameS s l n)) (sel (backE s l y n) l) (sel (backE s l y n) (y - n))) := ((((HX.out.later hb10).put 0 _).put 1 _).put 2 _).later hb11
          have hs11 : Since w w11 := (by refine Since.out ?_; repeat (first | with_reducible assumption | with_reducible exact Since.refl _ | with_reducible refine Since.later ?_ (by with_reducible assumption) | with_reducible refine Since.only ?_ (by with_reducible assumption) (by first | assumption | omega | (simp; done) | (simp; omega)) | with_reducible refine Since.alloc ?_ _ | with_reducible refine Since.drewN ?_ _ | with_reducible refine Since.drew ?_ | with_reducible refine Since.set ?_ (by first | assumption | omega | (simp; done) | (simp; omega)) _))
          (repeat clear ck); (repeat clear fk); (repeat clear lk)
          clear HP HQ HX c0 c1 c2 d0 d1 d2 e0 e1 e2 fx hb10 hb11 hs9 lp lq lx
          obtain ⟨wj, rfl⟩ : ∃ wj : World, wj = w11 := ⟨_, rfl⟩
          have fq := hq11.free
          obtain ⟨d0, d1, d2⟩ := three hq11
          have HP := Lib.hid hp11
          have HQ := Lib.hid hq11
          have HX := Lib.hid hx11
          clear hp11 hq11 hx11
          repeat ((fail_if_success (with_reducible refine stop_at 26 ?_)); first | fail | go_values | go_skip | go_guarded | go_step | go_upon | go_back | go_simp)
          have hp7 := ((HP.out.far (p := ⟨gw, 0, none⟩) hne (.int .i64 0)).far (p := ⟨gw, 1, none⟩) hne (.int .i64 0)).far (p := ⟨gw, 2, none⟩) hne (.int .i64 0)
          have hx7 := ((HX.out.far (p := ⟨gw, 0, none⟩) hnx2.symm (.int .i64 0)).far (p := ⟨gw, 1, none⟩) hnx2.symm (.int .i64 0)).far (p := ⟨gw, 2, none⟩) hnx2.symm (.int .i64 0)
          have hq7 : BlockIs ((((wj).setCell ⟨gw, 0, none⟩ (.int .i64 0)).setCell ⟨gw, 1, none⟩ (.int .i64 0)).setCell ⟨gw, 2, none⟩ (.int .i64 0)) gw 42 (win 0 0 0) := ((HQ.out.put 0 (.int .i64 0)).put 1 (.int .i64 0)).put 2 (.int .i64 0)
          have hs7 : Since w ((((wj).setCell ⟨gw, 0, none⟩ (.int .i64 0)).setCell ⟨gw, 1, none⟩ (.int .i64 0)).setCell ⟨gw, 2, none⟩ (.int .i64 0)) := (by refine Since.out ?_; repeat (first | with_reducible assumption | with_reducible exact Since.refl _ | with_reducible refine Since.later ?_ (by with_reducible assumption) | with_reducible refine Since.only ?_ (by with_reducible assumption) (by first | assumption | omega | (simp; done) | (simp; omega)) | with_reducible refine Since.alloc ?_ _ | with_reducible refine Since.drewN ?_ _ | with_reducible refine Since.drew ?_ | with_reducible refine Since.set ?_ (by first | assumption | omega | (simp; done) | (simp; omega)) _))
          clear HP HQ HX d0 d1 d2 fq hs11
          generalize (((wj).setCell ⟨gw, 0, none⟩ (.int .i64 0)).setCell ⟨gw, 1, none⟩ (.int .i64 0)).setCell ⟨gw, 2, none⟩ (.int .i64 0) = wk at *
          go_cut [6, 10] (fun s6 s10 wx => s6 = .int .i64 (backE s l y n) ∧ At w wx s l y (sel (backE s l y n) (lostS s)) (sel (backE s l y n) (lostS s)) (sel (backE s l y n) (y - n)) gp gw ∧ BlockIs wx gx 42 (win (sel (backE s l y n) (cameS s l n)) (sel (backE s l y n) l) (sel (backE s l y n) (y - n))))
          case first =>
            obtain ⟨c0, c1, c2⟩ := three hp7
            obtain ⟨d0, d1, d2⟩ := three hq7
            have fq := hq7.free
            have HP := Lib.hid hp7
            have HQ := Lib.hid hq7
            have HX := Lib.hid hx7
            clear hp7 hq7 hx7
            by_cases hpac : PacOk s l y n ∧ n ≤ y
            case neg =>
              have E1 : Hid (backE s l y n ≠ 0) := Lib.hid (backE_bad hpac)
              have E2 : (backE s l y n == 0) = false := by simpa using backE_bad hpac
              clear hpac
              go_wp2_with fail
              go_meet
              case rel => exact ⟨rfl, ⟨HP.out, by rw [sel_bad E1.out, sel_bad E1.out]; exact HQ.out, (by refine Since.out ?_; repeat (first | with_reducible assumption | with_reducible exact Since.refl _ | with_reducible refine Since.later ?_ (by with_reducible assumption) | with_reducible refine Since.only ?_ (by with_reducible assumption) (by first | assumption | omega | (simp; done) | (simp; omega)) | with_reducible refine Since.alloc ?_ _ | with_reducible refine Since.drewN ?_ _ | with_reducible refine Since.drew ?_ | with_reducible refine Since.set ?_ (by first | assumption | omega | (simp; done) | (simp; omega)) _))⟩, HX.out⟩
            have E0 : Hid (backE s l y n = 0) := Lib.hid (backE_zero hpac)
            rw [E0.out]
            have HX0 : Hid (BlockIs wk gx 42 (win (sel 0 (cameS s l n)) (sel 0 l) (sel 0 (y - n)))) := Lib.hid (by have h := HX.out; rw [E0.out] at h; exact h)
            obtain ⟨⟨⟨s1, s2, l1, l2, y1, y2⟩, n1, n2⟩, hy⟩ := hpac
            by_cases hbig : s / 2 < 400
            · have E3 : Hid (lostS s = 400) := Lib.hid (by unfold lostS; rw [if_neg (by omega)])
              go_wp2_with fail
              go_meet
              case rel => rw [E0.out, E3.out]; exact ⟨rfl, ⟨HP.out.far hne _ |>.far hne _ |>.far hne _ |>.far hne _ |>.far hne _ |>.far hne _ |>.far hne _, (((HQ.out.put 0 _).put 1 _).put 2 _ |>.put 2 _).put 0 _ |>.put 0 _ |>.put 1 _, (by refine Since.out ?_; repeat (first | with_reducible assumption | with_reducible exact Since.refl _ | with_reducible refine Since.later ?_ (by with_reducible assumption) | with_reducible refine Since.only ?_ (by with_reducible assumption) (by first | assumption | omega | (simp; done) | (simp; omega)) | with_reducible refine Since.alloc ?_ _ | with_reducible refine Since.drewN ?_ _ | with_reducible refine Since.drew ?_ | with_reducible refine Since.set ?_ (by first | assumption | omega | (simp; done) | (simp; omega)) _))⟩, HX0.out.far hnx2.symm _ |>.far hnx2.symm _ |>.far hnx2.symm _ |>.far hnx2.symm _ |>.far hnx2.symm _ |>.far hnx2.symm _ |>.far hnx2.symm _⟩
            · have E3 : Hid (lostS s = s / 2) := Lib.hid (by unfold lostS; split <;> omega)
              have hb' : decide (s / 2 < 400) = false := by simpa using hbig
              clear hbig
              go_wp2_with fail
              go_meet
              case rel => rw [E0.out, E3.out]; exact ⟨rfl, ⟨HP.out.far hne _ |>.far hne _ |>.far hne _ |>.far hne _ |>.far hne _ |>.far hne _, (((HQ.out.put 0 _).put 1 _).put 2 _ |>.put 2 _).put 0 _ |>.put 1 _, (by refine Since.out ?_; repeat (first | with_reducible assumption | with_reducible exact Since.refl _ | with_reducible refine Since.later ?_ (by with_reducible assumption) | with_reducible refine Since.only ?_ (by with_reducible assumption) (by first | assumption | omega | (simp; done) | (simp; omega)) | with_reducible refine Since.alloc ?_ _ | with_reducible refine Since.drewN ?_ _ | with_reducible refine Since.drew ?_ | with_reducible refine Since.set ?_ (by first | assumption | omega | (simp; done) | (simp; omega)) _))⟩, HX0.out.far hnx2.symm _ |>.far hnx2.symm _ |>.far hnx2.symm _ |>.far hnx2.symm _ |>.far hnx2.symm _ |>.far hnx2.symm _⟩
          case rest =>
            obtain ⟨rfl, ⟨hp9, hq9, hs9⟩, hx9⟩ := hcut
            obtain ⟨wi, rfl⟩ : ∃ wi : World, wi = wc := ⟨_, rfl⟩
            obtain ⟨c0, c1, c2⟩ := three hp9
            obtain ⟨d0, d1, d2⟩ := three hq9
            obtain ⟨e0, e1, e2⟩ := three hx9
            have fx := hx9.free
            have lp := hp9.lt
            have lq := hq9.lt
            have lx := hx9.lt
            clear hp9 hq9 hx9 hs7 hp7 hq7 hx7
            go_wp2_with (first | (go_at_call 24; refine (wlost_all s l y n _).mono ?_; rintro e w10 ⟨rfl, hb10⟩; (first | (refine keepk (gp) hb10 (by first | assumption | (simp; omega) | (simp; done)) ?_; intro lk ck fk; refine keepk (gw) hb10 (by first | assumption | (simp; omega) | (simp; done)) ?_; intro lk ck fk; refine keepk (gx) hb10 (by first | assumption | (simp; omega) | (simp; done)) ?_; intro lk ck fk) | (refine keepk (gp) hb10 (by first | assumption | (simp; omega) | (simp; done)) ?_; intro lk ck fk; refine keepk (gw) hb10 (by first | assumption | (simp; omega) | (simp; done)) ?_; intro lk ck fk) | (refine keepk (gp) hb10 (by first | assumption | (simp; omega) | (simp; done)) ?_; intro lk ck fk))) | (go_at_call 13; refine (same_yes (backE s l y n) _ (HE.out.later (by refine Since.out ?_; repeat (first | with_reducible assumption | with_reducible exact Since.refl _ | with_reducible refine Since.later ?_ (by with_reducible assumption) | with_reducible refine Since.only ?_ (by with_reducible assumption) (by first | assumption | omega | (simp; done) | (simp; omega)) | with_reducible refine Since.alloc ?_ _ | with_reducible refine Since.drewN ?_ _ | with_reducible refine Since.drew ?_ | with_reducible refine Since.set ?_ (by first | assumption | omega | (simp; done) | (simp; omega)) _)))).mono ?_; rintro e w11 ⟨rfl, hb11⟩; (first | (refine keepk (gp) hb11 (by first | assumption | (simp; omega) | (simp; done)) ?_; intro lk ck fk; refine keepk (gw) hb11 (by first | assumption | (simp; omega) | (simp; done)) ?_; intro lk ck fk; refine keepk (gx) hb11 (by first | assumption | (simp; omega) | (simp; done)) ?_; intro lk ck fk) | (refine keepk (gp) hb11 (by first | assumption | (simp; omega) | (simp; done)) ?_; intro lk ck fk; refine keepk (gw) hb11 (by first | assumption | (simp; omega) | (simp; done)) ?_; intro lk ck fk) | (refine keepk (gp) hb11 (by first | assumption | (simp; omega) | (simp; done)) ?_; intro lk ck fk))) | (go_at_call 25; refine (wleast _).mono ?_; rintro e w' ⟨rfl, rfl⟩))
            go_ret
            exact ⟨rfl, (by refine Since.out ?_; repeat (first | with_reducible assumption | with_reducible exact Since.refl _ | with_reducible refine Since.later ?_ (by with_reducible assumption) | with_reducible refine Since.only ?_ (by with_reducible assumption) (by first | assumption | omega | (simp; done) | (simp; omega)) | with_reducible refine Since.alloc ?_ _ | with_reducible refine Since.drewN ?_ _ | with_reducible refine Since.drew ?_ | with_reducible refine Since.set ?_ (by first | assumption | omega | (simp; done) | (simp; omega)) _))⟩

/-! the row -/
theorem own : ownKnob Tryd.prog.godebug = none := by kernel_rfl
theorem laidOut : laidOutB Tryd.prog = true := by kernel_rfl
set_option maxRecDepth 100000 in
theorem contract (H : Type) (enc : TypeId × Value → H) (W : World) (base : Nat) (args : Array Value) (ds gs : List (DataW H)) (before : List MemPlace)
    (hval : ∀ (j : Nat) t v, Tryd.f5.params[j]? = some t → args[j]? = some v → Value.okWide Tryd.prog W .any base t v)
    (hW : DataW.Whole enc Tryd.prog Tryd.f5.params.toList Rows.windowTellsSpec.vars false W args.toList ds gs before) (hL : laidMetH Tryd.prog Rows.windowTellsRow.laid W) :
    Calls Tryd.prog 5 args W fun e W' => ∃ v, e = .returned v ∧ Rows.windowTellsSpec.post enc Tryd.prog Tryd.f5 false true false false W args v W' := by
  have hW' := hW
  obtain ⟨p, q, hA0, hV, rfl, hfz, hnd⟩ := hW
  have hA : DataW.TrodAll enc Tryd.prog W 0 (fun _ => true) true Tryd.f5.params.toList args.toList ds p := hA0
  rw [Tryd.params5] at hA hval
  obtain ⟨v0, vs0, d0, ds0, p0, q0, hargs, rfl, rfl, h0, r0⟩ := trodAll_cons hA
  obtain ⟨v1, vs1, d1, ds1, p1, q1, rfl, rfl, rfl, h1, r1⟩ := trodAll_cons r0
  obtain ⟨rfl, rfl, rfl⟩ := trodAll_nil r1
  obtain rfl : args = #[v0, v1] := by cases args; simp_all
  obtain ⟨rfl, rfl⟩ := trodVars_none hV
  have k0 := h0
  have lt0 : ∀ x ∈ p0, x.block < W.heap.size := by obtain ⟨m, hm⟩ := k0; exact DataW.trod_lt m _ _ _ hm
  obtain ⟨c0_0, c0_1, c0_2, y0_0, y0_1, y0_2, m0, rfl, hd0, hp0, u0_0, u0_1, u0_2⟩ := Joins.open_agg3 Tryd.underlying42 (by kernel_rfl) (by kernel_rfl) (hval 0 42 v0 rfl rfl) h0
  obtain ⟨a0_0, e0_0, f0_0, w0_0⟩ := DataW.trod_int Tryd.underlying3 u0_0
  obtain ⟨a0_1, e0_1, f0_1, w0_1⟩ := DataW.trod_int Tryd.underlying3 u0_1
  obtain ⟨a0_2, e0_2, f0_2, w0_2⟩ := DataW.trod_int Tryd.underlying3 u0_2
  simp only [List.cons.injEq, and_true] at e0_0 e0_1 e0_2
  subst e0_0 e0_1 e0_2
  obtain ⟨a1, rfl, rfl, rfl, w1⟩ := open_int Tryd.underlying3 (hval 1 3 v1 rfl rfl) h1
  have lw := laidWalk hL
  refine (walk a0_0 a0_1 a0_2 a1 W w0_0 w0_1 w0_2 w1 lw).mono fun e W' ⟨he, bel⟩ => ?_
  subst he
  exact ⟨_, rfl, _, _, _, [], _, [], hW', trodAll_mk1 (shut_bool Tryd.underlying4 _), (trodAll_cons_mk (Below.trod laidOut (by kernel_rfl) (of_decide_eq_true (by kernel_rfl)) k0 bel lt0) (trodAll_cons_mk (shut_int Tryd.underlying3 w1) trodAll_mk0)), rfl, bel.frame _, fun h => by cases h⟩

theorem reads (os : Os) {H : Type} (enc : TypeId × Value → H) : ∃ places, DataW.whole enc Tryd.prog ((laidWorld os).forCall (fun _ _ => 0) ⟨#[], #[.agg #[.int .i64 0, .int .i64 0, .int .i64 0], .int .i64 0], []⟩).memory Tryd.f5.params.toList Rows.windowTellsSpec.vars false (#[.agg #[.int .i64 0, .int .i64 0, .int .i64 0], .int .i64 0] : Array Value).toList 8 = some ([.agg [.lit (.int .i64 0), .lit (.int .i64 0), .lit (.int .i64 0)], .lit (.int .i64 0)], [], places) :=
  ⟨[], by kernel_rfl⟩
theorem laid_met (os : Os) : laidMetH Tryd.prog Rows.windowTellsRow.laid ((laidWorld os).forCall (fun _ _ => 0) ⟨#[], #[.agg #[.int .i64 0, .int .i64 0, .int .i64 0], .int .i64 0], []⟩).memory := laidMetW os _

set_option maxRecDepth 100000 in
theorem lifted (os : Os) (started : os.Started) (H : Type) (enc : TypeId × Value → H) (F : Stop.Interp) :
    ReturnsInHanded {} Tryd.checked os 5 .any ((OpenSpec.ofChange Rows.windowTellsSpec).preRow enc Tryd.prog Tryd.f5 Rows.windowTellsRow.domain false Rows.windowTellsRow.laid) (((OpenSpec.ofChange Rows.windowTellsSpec).at F).post enc Tryd.prog Tryd.f5 false true false false) := by
  obtain ⟨places, hx⟩ := reads os enc
  refine returnsInHanded_of_row (C := Tryd.checked) (s := OpenSpec.ofChange Rows.windowTellsSpec) own started (by kernel_rfl) Tryd.func5
    (witness_row_at (enc := enc) (C := Tryd.checked) false (laidWorld os) #[.agg #[.int .i64 0, .int .i64 0, .int .i64 0], .int .i64 0] rfl (by kernel_rfl) (by kernel_rfl) (by kernel_rfl)
      (OpenSpec.preRow_of_cond 8 hx (by kernel_rfl) (fun k hk => by cases hk) (by kernel_rfl) (laid_met os))) ?_
  intro W base args ds gs before hval hW _ _ _ hL _ _
  exact contract H enc W base args ds gs before hval hW hL

theorem said : Rows.WindowTellsSaid :=
  OpenClaim.holds_of_cond 5 Tryd.f5 rfl rfl rfl rfl rfl rfl rfl ⟨rfl, rfl, rfl, rfl, rfl⟩ rfl rfl rfl rfl rfl (by kernel_rfl) Tryd.func5 (by kernel_rfl)
    (of_decide_eq_true (by kernel_rfl)) (by unfold Func.isWrapper; first | (rw [if_pos (by decide +kernel)]; kernel_rfl) | (rw [if_neg (by decide +kernel)]; exact ⟨rfl, rfl⟩))
    (fun os started H enc _ F => by rw [OpenClaim.pre_eq_preRow]; exact lifted os started H enc F)

theorem plain (f : FuncId) (fn : Func) (hf : Tryd.pinned.checked.prog.funcNamed "wanderwire/wirelaw2.WindowTells" = some f) (hfn : Tryd.pinned.checked.prog.funcs[f]? = some fn) :
    true = Tryd.pinned.checked.prog.looks [] ∧ ∀ (j : Nat) t, fn.params[j]? = some t → Tryd.pinned.checked.prog.wantsStandIn t = false := by
  obtain rfl : f = 5 := Option.some.inj ((show Tryd.prog.funcNamed "wanderwire/wirelaw2.WindowTells" = some 5 by kernel_rfl).symm.trans hf) |>.symm
  obtain rfl : fn = Tryd.f5 := (Option.some.inj (Tryd.func5.symm.trans hfn)).symm
  refine ⟨by kernel_rfl, fun j t ht => ?_⟩
  rw [Tryd.params5] at ht
  have ht' := Array.mem_of_getElem? ht
  have hall : (([42, 3] : List Nat).all fun t => !Tryd.prog.wantsStandIn t) = true := by kernel_rfl
  have hq := List.all_eq_true.1 hall t (by simpa using ht')
  have hq2 : Tryd.prog.wantsStandIn t = false := by simpa using hq
  exact hq2

theorem card : Rows.WindowTellsCardSaid :=
  Claim7.holds_tied_plain_at .later [] _ _ _ _ said (fun _ h => by cases h) (by kernel_rfl) (fun _ h => by cases h) windowTells_row_tie rfl ⟨rfl, rfl⟩ (by kernel_rfl) rfl plain (by kernel_rfl)
#print axioms card
end Go.Proofs.YtaiojfoicfhbnaaDoor.windowTells
