/- CreditPlays: for every window and steps the law returns true: whatever comes, and is read, is answered as the reference says. Condition: errors.errorType holds its handle (the row lists it, the card ties it). -/
import Derived.Test.YtaiojfoicfhbnaaDoorCreditAny
import Derived.Test.YtaiojfoicfhbnaaDoorLaid
import Derived.Test.YtaiojfoicfhbnaaDoorRules
import Derived.Test.YtaiojfoicfhbnaaDoorSince
import Derived.Test.YtaiojfoicfhbnaaDoorIns
import Derived.Deep.DeepCutAuto
import Derived.Deep.RegionHeld3
import Derived.Test.YtaiojfoicfhbnaaDoorCards
import Derived.Test.YtaiojfoicfhbnaaDoorTie
import Derived.Deep.DeepHandedRow
import Derived.LaidLaws
import Derived.LaidHandle
import Derived.Deep.DeepWitnessRowRef
import Derived.Test.YtaiojfoicfhbnaaDoorRows
import Derived.WalkKit
import Derived.ProofKit
import Derived.OpenShut
import Derived.ShutString
import Derived.ChangeOld
import Derived.Below
import Derived.Lib.SmallJoins
import Derived.Deep.Slices
import Derived.Deep.Matrix
import Derived.Deep.Strs
namespace Go.Proofs.YtaiojfoicfhbnaaDoor.creditPlays
open Go.ChangeShapes Go.WideShapes Go.ChangeAt Go.RowKit
open Go.ChangeMaps (open_string shut_string)
set_option linter.unusedVariables false

noncomputable abbrev laidWorld := YtaiojfoicfhbnaaDoor.laidWorld
theorem laidMetW (os : Os) (args : Array Value) : laidMetH Tryd.prog Rows.creditPlaysRow.laid ((laidWorld os).forCall (fun _ _ => 0) ⟨#[], args, []⟩).memory := laidMet_et os args
theorem laidWalk {W : World} (h : laidMetH Tryd.prog Rows.creditPlaysRow.laid W) : ETok W := laid_et h
theorem ok0 (n : Int) (h1 : 1 ≤ n) (h2 : n ≤ 1000) : CredOk n n 0 0 := ⟨h1, h2, by omega, by omega, by omega, by omega, by omega, by omega, by omega⟩
/-- both credits, alike -/
def Twins (w wr : World) (n : Int) (gc gm : Nat) : Prop := ∃ L C R : Int, BlockIs wr gc 81 (credCells n L C R) ∧ BlockIs wr gm 31 (credCells n L C R) ∧ CredOk n L C R ∧ Since w wr
/-- what of the first j of a row lies at i -/
def vv (r : List Int) (j i : Nat) : Int := if i < j then ith r i else 0
theorem vv_far {r : List Int} {i : Nat} (h : r.length ≤ i) : ith r i = 0 := by unfold ith; simp [List.getD, List.getElem?_eq_none h]
theorem vv_end {r : List Int} {j i : Nat} (hi : i < 2) (h : r.length ≤ j ∨ 2 ≤ j) : vv r j i = ith r i := by
  unfold vv
  split
  · rfl
  · rw [vv_far (by omega)]
theorem vv_next (r : List Int) {j : Nat} (h : j < 2) : (#[.int .i64 (vv r j 0), .int .i64 (vv r j 1)] : Array Value).setIfInBounds j (.int .i64 (ith r j)) = #[.int .i64 (vv r (j + 1) 0), .int .i64 (vv r (j + 1) 1)] := by
  rcases j with _ | _ | j
  · simp [vv]
  · simp [vv]
  · omega

set_option maxRecDepth 100000 in
set_option maxHeartbeats 1600000 in
theorem walk (n : Int) (v1 : Value) (Z : List (List Int)) (w : World) (w0 : (Lit.int .i64 n).wf = true) (w1 : IntRowsIn w v1 Z) (hL : ETok w) :
    Calls Tryd.prog 3 #[.int .i64 n, v1] w fun e w' => e = .returned (.bool true) ∧ Below w.heap.size w w' := by
  have HE := Lib.hid hL
  obtain ⟨A, cap, rfl, hle0, hm0, hc⟩ := w1
  unfold maxLen at hm0
  have hZ : Z.length ≤ 9223372036854775807 := by omega
  have HC := Lib.hid hc
  clear hc w0 hL
  by_cases hn : 1 ≤ n ∧ n ≤ 1000
  case neg =>
    by_cases hlo : n < 1
    · go_enter Tryd.func3, Tryd.ntmps3
      go_wp2_with (first | (go_at_call 12; refine (cnew_no n hn _).mono ?_; rintro e w5 ⟨rfl, rfl⟩) | (go_at_call 13; refine (same_yes 1 _ (HE.out.later (by refine Since.out ?_; repeat (first | with_reducible assumption | with_reducible exact Since.refl _ | with_reducible refine Since.later ?_ (by with_reducible assumption) | with_reducible refine Since.only ?_ (by with_reducible assumption) (by first | assumption | omega | (simp; done) | (simp; omega)) | with_reducible refine Since.alloc ?_ _ | with_reducible refine Since.drewN ?_ _ | with_reducible refine Since.drew ?_ | with_reducible refine Since.set ?_ (by first | assumption | omega | (simp; done) | (simp; omega)) _)))).mono ?_; rintro e w6 ⟨rfl, hb6⟩))
      go_ret
      exact ⟨rfl, (by refine Since.out ?_; repeat (first | with_reducible assumption | with_reducible exact Since.refl _ | with_reducible refine Since.later ?_ (by with_reducible assumption) | with_reducible refine Since.only ?_ (by with_reducible assumption) (by first | assumption | omega | (simp; done) | (simp; omega)) | with_reducible refine Since.alloc ?_ _ | with_reducible refine Since.drewN ?_ _ | with_reducible refine Since.drew ?_ | with_reducible refine Since.set ?_ (by first | assumption | omega | (simp; done) | (simp; omega)) _))⟩
    · have hhi : 1000 < n := by omega
      go_enter Tryd.func3, Tryd.ntmps3
      go_wp2_with (first | (go_at_call 12; refine (cnew_no n hn _).mono ?_; rintro e w5 ⟨rfl, rfl⟩) | (go_at_call 13; refine (same_yes 1 _ (HE.out.later (by refine Since.out ?_; repeat (first | with_reducible assumption | with_reducible exact Since.refl _ | with_reducible refine Since.later ?_ (by with_reducible assumption) | with_reducible refine Since.only ?_ (by with_reducible assumption) (by first | assumption | omega | (simp; done) | (simp; omega)) | with_reducible refine Since.alloc ?_ _ | with_reducible refine Since.drewN ?_ _ | with_reducible refine Since.drew ?_ | with_reducible refine Since.set ?_ (by first | assumption | omega | (simp; done) | (simp; omega)) _)))).mono ?_; rintro e w6 ⟨rfl, hb6⟩))
      go_ret
      exact ⟨rfl, (by refine Since.out ?_; repeat (first | with_reducible assumption | with_reducible exact Since.refl _ | with_reducible refine Since.later ?_ (by with_reducible assumption) | with_reducible refine Since.only ?_ (by with_reducible assumption) (by first | assumption | omega | (simp; done) | (simp; omega)) | with_reducible refine Since.alloc ?_ _ | with_reducible refine Since.drewN ?_ _ | with_reducible refine Since.drew ?_ | with_reducible refine Since.set ?_ (by first | assumption | omega | (simp; done) | (simp; omega)) _))⟩
  have n1 := hn.1
  have n2 := hn.2
  clear hn
  go_enter Tryd.func3, Tryd.ntmps3
  go_wp2_with fail
  refine (cnew_yes n n1 n2 _).mono ?_
  rintro e w5 ⟨rfl, rfl⟩
  go_wp2_with fail
  refine (same_yes 0 _ (HE.out.later (by refine Since.out ?_; repeat (first | with_reducible assumption | with_reducible exact Since.refl _ | with_reducible refine Since.later ?_ (by with_reducible assumption) | with_reducible refine Since.only ?_ (by with_reducible assumption) (by first | assumption | omega | (simp; done) | (simp; omega)) | with_reducible refine Since.alloc ?_ _ | with_reducible refine Since.drewN ?_ _ | with_reducible refine Since.drew ?_ | with_reducible refine Since.set ?_ (by first | assumption | omega | (simp; done) | (simp; omega)) _)))).mono ?_
  rintro e w6 ⟨rfl, hb6⟩
  go_wp2_with fail
  have hgc : w.heap.size ≤ w.heap.size := Nat.le_refl _
  have hs6 := hb6.size
  have hgm : w.heap.size + 1 ≤ w6.heap.size := by simpa using hs6
  have hT : Twins w (w6.alloc (.cells (credCells n n 0 0) 31)) n w.heap.size w6.heap.size :=
    ⟨n, 0, 0, (BlockIs.later (BlockIs.fresh _ _ _) hb6).alloc _, BlockIs.fresh _ _ _, ok0 n n1 n2, (by refine Since.out ?_; repeat (first | with_reducible assumption | with_reducible exact Since.refl _ | with_reducible refine Since.later ?_ (by with_reducible assumption) | with_reducible refine Since.only ?_ (by with_reducible assumption) (by first | assumption | omega | (simp; done) | (simp; omega)) | with_reducible refine Since.alloc ?_ _ | with_reducible refine Since.drewN ?_ _ | with_reducible refine Since.drew ?_ | with_reducible refine Since.set ?_ (by first | assumption | omega | (simp; done) | (simp; omega)) _))⟩
  generalize w6.alloc (.cells (credCells n n 0 0) 31) = w7 at *
  obtain ⟨gm, hgme⟩ : ∃ gm, w6.heap.size = gm := ⟨_, rfl⟩
  rw [hgme] at hT hgm ⊢
  have HT := Lib.hid hT
  have hne : w.heap.size ≠ gm := by omega
  have hge : w.heap.size ≤ gm := by omega
  clear hT hb6 hs6 hgme hgc hgm
  go_loopw [10] (fun s10 wr => ∃ (k : Nat), s10 = .int .i64 k ∧ k ≤ 120 ∧ Twins w wr n w.heap.size gm) (fun i _ => 120 - (intOf i).toNat)
  case atStart => exact ⟨0, rfl, by omega, HT.out⟩
  case round =>
    obtain ⟨k, rfl, hk, hT⟩ := hrel
    by_cases hlen : k < Z.length
    case neg =>
      have hlen' : decide ((k : Int) < (Z.length : Int)) = false := by simp; omega
      obtain ⟨L, C, R, b1, b2, b3, hs⟩ := hT
      clear b1 b2 b3
      go_wp2_with fail
      go_ret
      exact ⟨rfl, (by refine Since.out ?_; repeat (first | with_reducible assumption | with_reducible exact Since.refl _ | with_reducible refine Since.later ?_ (by with_reducible assumption) | with_reducible refine Since.only ?_ (by with_reducible assumption) (by first | assumption | omega | (simp; done) | (simp; omega)) | with_reducible refine Since.alloc ?_ _ | with_reducible refine Since.drewN ?_ _ | with_reducible refine Since.drew ?_ | with_reducible refine Since.set ?_ (by first | assumption | omega | (simp; done) | (simp; omega)) _))⟩
    by_cases h120 : k < 120
    case neg =>
      have hlen' : (k : Int) < (Z.length : Int) := by omega
      have h120' : decide ((k : Int) < 120) = false := by simp; omega
      obtain ⟨L, C, R, b1, b2, b3, hs⟩ := hT
      clear b1 b2 b3
      go_wp2_with fail
      go_ret
      exact ⟨rfl, (by refine Since.out ?_; repeat (first | with_reducible assumption | with_reducible exact Since.refl _ | with_reducible refine Since.later ?_ (by with_reducible assumption) | with_reducible refine Since.only ?_ (by with_reducible assumption) (by first | assumption | omega | (simp; done) | (simp; omega)) | with_reducible refine Since.alloc ?_ _ | with_reducible refine Since.drewN ?_ _ | with_reducible refine Since.drew ?_ | with_reducible refine Since.set ?_ (by first | assumption | omega | (simp; done) | (simp; omega)) _))⟩
    have hlen' : (k : Int) < (Z.length : Int) := by omega
    have h120' : (k : Int) < 120 := by omega
    obtain ⟨b, off, rfl, hlt, hc⟩ := HC.out (by rintro rfl; simp at hlen)
    obtain ⟨x, hx, hI⟩ := hc k hlen
    clear hc
    generalize Z.getD k [] = r at *
    obtain ⟨bdr, A', cap', rfl, hle', hm', hcr⟩ := hI
    have HX := Lib.hid hx
    have HR := Lib.hid hcr
    have HBD := Lib.hid (ith_bounds bdr)
    unfold maxLen at hm'
    clear hx hcr bdr
    have HTW := Lib.hid hT
    have hs : Since w wr := by obtain ⟨_, _, _, _, _, _, h⟩ := hT; exact h
    have hgcl : w.heap.size < wr.heap.size := by obtain ⟨_, _, _, h, _, _, _⟩ := hT; exact h.lt
    have hgml : gm < wr.heap.size := by obtain ⟨_, _, _, _, h, _, _⟩ := hT; exact h.lt
    clear hT
    obtain ⟨wo, rfl⟩ : ∃ wo : World, wo = wr := ⟨_, rfl⟩
    repeat ((fail_if_success (with_reducible refine stop_at 13 ?_)); first | fail | go_values | go_skip | go_guarded | go_step | go_upon | go_back | go_simp)
    go_cut [] (fun wx => BlockIs wx wo.heap.size 32 #[.int .i64 (ith r 0), .int .i64 (ith r 1)] ∧ Since wo wx)
    case first =>
      go_wp2_with fail
      go_loopw [12] (fun s12 wi => ∃ j : Nat, s12 = .int .i64 j ∧ j ≤ 2 ∧ j ≤ r.length ∧ BlockIs wi wo.heap.size 32 #[.int .i64 (vv r j 0), .int .i64 (vv r j 1)] ∧ Since wo wi) (fun i _ => 2 - (intOf i).toNat)
      case atStart => exact ⟨0, rfl, by omega, by omega, BlockIs.fresh _ _ _, (by refine Since.out ?_; repeat (first | with_reducible assumption | with_reducible exact Since.refl _ | with_reducible refine Since.later ?_ (by with_reducible assumption) | with_reducible refine Since.only ?_ (by with_reducible assumption) (by first | assumption | omega | (simp; done) | (simp; omega)) | with_reducible refine Since.alloc ?_ _ | with_reducible refine Since.drewN ?_ _ | with_reducible refine Since.drew ?_ | with_reducible refine Since.set ?_ (by first | assumption | omega | (simp; done) | (simp; omega)) _))⟩
      case round =>
        obtain ⟨j, rfl, hj2, hjr, hB, hs2⟩ := hrel
        have cx : wr.cell? ⟨b, off + k, none⟩ = some (.slice A' r.length cap') := hs2.cell (Nat.lt_of_lt_of_le hlt hs.le) (hs.cell hlt HX.out)
        by_cases hjl : j < r.length
        case neg =>
          have hjl' : decide ((j : Int) < (r.length : Int)) = false := by simp; omega
          have e0 := Lib.hid (vv_end (i := 0) (by omega) (Or.inl (by omega : r.length ≤ j)))
          have e1 := Lib.hid (vv_end (i := 1) (by omega) (Or.inl (by omega : r.length ≤ j)))
          have HB := Lib.hid hB
          clear hB
          go_wp2_with fail
          go_meet
          case rel => exact ⟨by rw [← e0.out, ← e1.out]; exact HB.out, hs2⟩
        by_cases hj2' : j < 2
        case neg =>
          have hj3 : decide ((j : Int) < 2) = false := by simp; omega
          have hjl' : (j : Int) < (r.length : Int) := by omega
          have e0 := Lib.hid (vv_end (r := r) (i := 0) (by omega) (Or.inr (by omega : 2 ≤ j)))
          have e1 := Lib.hid (vv_end (r := r) (i := 1) (by omega) (Or.inr (by omega : 2 ≤ j)))
          have HB := Lib.hid hB
          clear hB
          go_wp2_with fail
          go_meet
          case rel => exact ⟨by rw [← e0.out, ← e1.out]; exact HB.out, hs2⟩
        have hjl' : (j : Int) < (r.length : Int) := by omega
        have hj3 : (j : Int) < 2 := by omega
        obtain ⟨b2, off2, rfl, hlt2, hc2⟩ := HR.out (by rintro rfl; simp at hjl)
        have cj : wr.cell? ⟨b2, off2 + j, none⟩ = some (.int .i64 (ith r j)) := hs2.cell (Nat.lt_of_lt_of_le hlt2 hs.le) (hs.cell hlt2 (hc2 j hjl))
        have fj := hB.free
        have ij : wr.cell? ⟨wo.heap.size, j, none⟩ = some (.int .i64 0) := by
          rw [hB.cell j]
          rcases j with _ | _ | j
          · simp [vv]
          · simp [vv]
          · omega
        have HB := Lib.hid (hB.put j (.int .i64 (ith r j)))
        have EN := Lib.hid (vv_next r hj2')
        clear hc2 hB
        go_wp2_with fail
        go_roundw
        case rel => exact ⟨j + 1, by go_num, by omega, by omega, by rw [← EN.out]; exact HB.out, (by refine Since.out ?_; repeat (first | with_reducible assumption | with_reducible exact Since.refl _ | with_reducible refine Since.later ?_ (by with_reducible assumption) | with_reducible refine Since.only ?_ (by with_reducible assumption) (by first | assumption | omega | (simp; done) | (simp; omega)) | with_reducible refine Since.alloc ?_ _ | with_reducible refine Since.drewN ?_ _ | with_reducible refine Since.drew ?_ | with_reducible refine Since.set ?_ (by first | assumption | omega | (simp; done) | (simp; omega)) _))⟩
        case measure => simp [intOf]; omega
    case rest =>
      obtain ⟨wv, rfl⟩ : ∃ wv : World, wv = wc := ⟨_, rfl⟩
      obtain ⟨hBv, hs2⟩ := hcut
      have bv := HBD.out 1
      have hgv : w.heap.size < wo.heap.size := hgcl
      have hgvne : wo.heap.size ≠ w.heap.size := by omega
      have hgvne2 : wo.heap.size ≠ gm := by omega
      generalize ith r 0 = v0 at *
      generalize ith r 1 = v1 at *
      have cv0 : wv.cell? ⟨wo.heap.size, 0, none⟩ = some (.int .i64 v0) := hBv.cell 0
      have cv1 : wv.cell? ⟨wo.heap.size, 1, none⟩ = some (.int .i64 v1) := hBv.cell 1
      obtain ⟨L, C, R, hBc0, hBm0, ok, hs0⟩ := HTW.out
      have hBc := BlockIs.later hBc0 hs2
      have hBm := BlockIs.later hBm0 hs2
      have ok1 := tC_ok v1 ok
      have ok2 := rLR_ok v1 ok
      have HBV := Lib.hid hBv
      have hsc : Since w wv := hs.later hs2
      have hgev : w.heap.size ≤ wo.heap.size := Nat.le_of_lt hgv
      clear hBc0 hBm0 hs0 hs2 hs
      repeat ((fail_if_success (with_reducible refine stop_at 17 ?_)); first | fail | go_values | go_skip | go_guarded | go_step | go_upon | go_back | go_simp)
      go_cut [8] (fun s8 wx => s8 = .bool true ∧ Twins w wx n w.heap.size gm)
      case first =>
        by_cases h0 : v0 = 0
        · have h0' : (v0 == 0) = true := by simpa using h0
          clear h0
          go_wp2_with fail
          go_region_held3 (fun w' => w'.cell? ⟨wo.heap.size, 1, none⟩ = some (.int .i64 v1)) (first | exact cv1 | assumption) (first | (go_at_call 14; refine (ctake_any w.heap.size n L C R v1 _ ?_).mono ?_; (first | exact hBc | exact hOm.other hBc (by omega)); rintro e w1 ⟨rfl, hBc1, hOc⟩; have cvc : w1.cell? ⟨wo.heap.size, 1, none⟩ = some (.int .i64 v1) := by first | exact (hOc.other HBV.out hgvne).cell 1 | exact (hOc.other (hOm.other HBV.out hgvne2) hgvne).cell 1) | (go_at_call 15; refine (rtake_any gm n L C R v1 _ ?_).mono ?_; (first | exact hBm | exact hOc.other hBm (by omega)); rintro e w2 ⟨rfl, hBm1, hOm⟩; have cvm : w2.cell? ⟨wo.heap.size, 1, none⟩ = some (.int .i64 v1) := by first | exact (hOm.other HBV.out hgvne2).cell 1 | exact (hOm.other (hOc.other HBV.out hgvne) hgvne2).cell 1) | (go_at_call 13; refine (same_yes _ _ ?_).mono ?_; (exact HE.out.later (by refine Since.out ?_; repeat (first | with_reducible assumption | with_reducible exact Since.refl _ | with_reducible refine Since.later ?_ (by with_reducible assumption) | with_reducible refine Since.only ?_ (by with_reducible assumption) (by first | assumption | omega | (simp; done) | (simp; omega)) | with_reducible refine Since.alloc ?_ _ | with_reducible refine Since.drewN ?_ _ | with_reducible refine Since.drew ?_ | with_reducible refine Since.set ?_ (by first | assumption | omega | (simp; done) | (simp; omega)) _))); rintro e w3 ⟨rfl, hb3⟩; have cve : w3.cell? ⟨wo.heap.size, 1, none⟩ = some (.int .i64 v1) := by first | exact cell_later hb3 cvm | exact cell_later hb3 cvc))
          all_goals
            go_wp2_with fail
            go_meet
            case rel =>
              refine ⟨rfl, L, tC L C v1, R, ?_, ?_, ok1, (by refine Since.out ?_; repeat (first | with_reducible assumption | with_reducible exact Since.refl _ | with_reducible refine Since.later ?_ (by with_reducible assumption) | with_reducible refine Since.only ?_ (by with_reducible assumption) (by first | assumption | omega | (simp; done) | (simp; omega)) | with_reducible refine Since.alloc ?_ _ | with_reducible refine Since.drewN ?_ _ | with_reducible refine Since.drew ?_ | with_reducible refine Since.set ?_ (by first | assumption | omega | (simp; done) | (simp; omega)) _))⟩
              · first | exact (hOm.other hBc1 hne).later hb3 | exact hBc1.later hb3
              · first | exact (hOc.other hBm1 hne.symm).later hb3 | exact hBm1.later hb3
        · have h0' : (v0 == 0) = false := by simpa using h0
          clear h0
          by_cases hr : readE n L C R v1 = 0
          · have F1 : Hid (rV n L C R v1 = rL n L C R v1) := Lib.hid (by unfold rV rL; rw [if_pos hr, if_pos hr])
            have F0 := Lib.hid hr
            clear hr
            go_wp2_with fail
            refine (rgetc_any gm n L C R v1 ok _ hBm).mono ?_
            rintro e w1 ⟨rfl, hBm1, hOm⟩
            have hBc1 := hOm.other hBc hne
            have cv1' : w1.cell? ⟨wo.heap.size, 1, none⟩ = some (.int .i64 v1) := (hOm.other HBV.out hgvne2).cell 1
            rw [F0.out]
            go_wp2_with fail
            refine (cread_any _ n L C R v1 ok _ hBc1).mono ?_
            rintro e w2 ⟨rfl, hBc2, hOc⟩
            have hBm2 := hOc.other hBm1 hne.symm
            have cm : w2.cell? ⟨gm, 1, none⟩ = some (.int .i64 (rL n L C R v1)) := hBm2.cell 1
            rw [F0.out, F1.out]
            go_wp2_with fail
            refine (same_yes _ _ (HE.out.later (by refine Since.out ?_; repeat (first | with_reducible assumption | with_reducible exact Since.refl _ | with_reducible refine Since.later ?_ (by with_reducible assumption) | with_reducible refine Since.only ?_ (by with_reducible assumption) (by first | assumption | omega | (simp; done) | (simp; omega)) | with_reducible refine Since.alloc ?_ _ | with_reducible refine Since.drewN ?_ _ | with_reducible refine Since.drew ?_ | with_reducible refine Since.set ?_ (by first | assumption | omega | (simp; done) | (simp; omega)) _)))).mono ?_
            rintro e w3 ⟨rfl, hb3⟩
            have cm3 := cell_later hb3 cm
            go_wp2_with fail
            go_meet
            case rel => exact ⟨by simp, rL n L C R v1, C, rR n L C R v1, hBc2.later hb3, hBm2.later hb3, ok2, (by refine Since.out ?_; repeat (first | with_reducible assumption | with_reducible exact Since.refl _ | with_reducible refine Since.later ?_ (by with_reducible assumption) | with_reducible refine Since.only ?_ (by with_reducible assumption) (by first | assumption | omega | (simp; done) | (simp; omega)) | with_reducible refine Since.alloc ?_ _ | with_reducible refine Since.drewN ?_ _ | with_reducible refine Since.drew ?_ | with_reducible refine Since.set ?_ (by first | assumption | omega | (simp; done) | (simp; omega)) _))⟩
          · have F1 : Hid (rV n L C R v1 = 0) := Lib.hid (by unfold rV; rw [if_neg hr])
            have F2 : (readE n L C R v1 != 0) = true := by simpa using hr
            have F3 : (readE n L C R v1 == 0) = false := by simpa using hr
            clear hr
            go_wp2_with fail
            refine (rgetc_any gm n L C R v1 ok _ hBm).mono ?_
            rintro e w1 ⟨rfl, hBm1, hOm⟩
            have hBc1 := hOm.other hBc hne
            have cv1' : w1.cell? ⟨wo.heap.size, 1, none⟩ = some (.int .i64 v1) := (hOm.other HBV.out hgvne2).cell 1
            go_wp2_with fail
            refine (cread_any _ n L C R v1 ok _ hBc1).mono ?_
            rintro e w2 ⟨rfl, hBc2, hOc⟩
            have hBm2 := hOc.other hBm1 hne.symm
            rw [F1.out]
            go_wp2_with fail
            refine (same_yes _ _ (HE.out.later (by refine Since.out ?_; repeat (first | with_reducible assumption | with_reducible exact Since.refl _ | with_reducible refine Since.later ?_ (by with_reducible assumption) | with_reducible refine Since.only ?_ (by with_reducible assumption) (by first | assumption | omega | (simp; done) | (simp; omega)) | with_reducible refine Since.alloc ?_ _ | with_reducible refine Since.drewN ?_ _ | with_reducible refine Since.drew ?_ | with_reducible refine Since.set ?_ (by first | assumption | omega | (simp; done) | (simp; omega)) _)))).mono ?_
            rintro e w3 ⟨rfl, hb3⟩
            go_wp2_with fail
            go_meet
            case rel => exact ⟨by simp, rL n L C R v1, C, rR n L C R v1, hBc2.later hb3, hBm2.later hb3, ok2, (by refine Since.out ?_; repeat (first | with_reducible assumption | with_reducible exact Since.refl _ | with_reducible refine Since.later ?_ (by with_reducible assumption) | with_reducible refine Since.only ?_ (by with_reducible assumption) (by first | assumption | omega | (simp; done) | (simp; omega)) | with_reducible refine Since.alloc ?_ _ | with_reducible refine Since.drewN ?_ _ | with_reducible refine Since.drew ?_ | with_reducible refine Since.set ?_ (by first | assumption | omega | (simp; done) | (simp; omega)) _))⟩
      case rest =>
        obtain ⟨rfl, L', C', R', hBc', hBm', ok', hs'⟩ := hcut
        have cm1 : wc.cell? ⟨gm, 1, none⟩ = some (.int .i64 L') := hBm'.cell 1
        have cm2 : wc.cell? ⟨gm, 2, none⟩ = some (.int .i64 C') := hBm'.cell 2
        have cm3 : wc.cell? ⟨gm, 3, none⟩ = some (.int .i64 R') := hBm'.cell 3
        have q1 := ok'.r1
        have q2 := ok'.c1
        have q3 := ok'.c2
        have q4 := ok'.l2
        have hw1 : IntKind.i64.wrap (C' - R') = C' - R' := IntWalk.i64_in _ (by omega)
        have OK := Lib.hid ok'
        have HBC := Lib.hid hBc'
        have HBM := Lib.hid hBm'
        clear ok' hBc' hBm'
        go_wp2_with fail
        go_quiet (first | (go_at_call 18; exact quiet_a (climit _ n L' C' R' _ (HBC.out.drewN _))) | (go_at_call 19; exact quiet_b (cleft _ n L' C' R' OK.out _ (HBC.out.drewN _))))
        go_wp2_with fail
        go_roundw
        case rel => exact ⟨k + 1, by go_num, by omega, L', C', R', HBC.out.drewN _, HBM.out.drewN _, OK.out, (by refine Since.out ?_; repeat (first | with_reducible assumption | with_reducible exact Since.refl _ | with_reducible refine Since.later ?_ (by with_reducible assumption) | with_reducible refine Since.only ?_ (by with_reducible assumption) (by first | assumption | omega | (simp; done) | (simp; omega)) | with_reducible refine Since.alloc ?_ _ | with_reducible refine Since.drewN ?_ _ | with_reducible refine Since.drew ?_ | with_reducible refine Since.set ?_ (by first | assumption | omega | (simp; done) | (simp; omega)) _))⟩
        case measure => simp [intOf]; omega

/-! the row -/
theorem own : ownKnob Tryd.prog.godebug = none := by kernel_rfl
theorem laidOut : laidOutB Tryd.prog = true := by kernel_rfl
set_option maxRecDepth 100000 in
theorem contract (H : Type) (enc : TypeId × Value → H) (W : World) (base : Nat) (args : Array Value) (ds gs : List (DataW H)) (before : List MemPlace)
    (hval : ∀ (j : Nat) t v, Tryd.f3.params[j]? = some t → args[j]? = some v → Value.okWide Tryd.prog W .any base t v)
    (hW : DataW.Whole enc Tryd.prog Tryd.f3.params.toList Rows.creditPlaysSpec.vars false W args.toList ds gs before) (hL : laidMetH Tryd.prog Rows.creditPlaysRow.laid W) :
    Calls Tryd.prog 3 args W fun e W' => ∃ v, e = .returned v ∧ Rows.creditPlaysSpec.post enc Tryd.prog Tryd.f3 false true false false W args v W' := by
  have hW' := hW
  obtain ⟨p, q, hA0, hV, rfl, hfz, hnd⟩ := hW
  have hA : DataW.TrodAll enc Tryd.prog W 0 (fun _ => true) true Tryd.f3.params.toList args.toList ds p := hA0
  rw [Tryd.params3] at hA hval
  obtain ⟨v0, vs0, d0, ds0, p0, q0, hargs, rfl, rfl, h0, r0⟩ := trodAll_cons hA
  obtain ⟨v1, vs1, d1, ds1, p1, q1, rfl, rfl, rfl, h1, r1⟩ := trodAll_cons r0
  obtain ⟨rfl, rfl, rfl⟩ := trodAll_nil r1
  obtain rfl : args = #[v0, v1] := by cases args; simp_all
  obtain ⟨rfl, rfl⟩ := trodVars_none hV
  obtain ⟨a0, rfl, rfl, rfl, w0⟩ := open_int Tryd.underlying3 (hval 0 3 v0 rfl rfl) h0
  obtain ⟨a1, len1, cap1, rfl⟩ := okWide_slice Tryd.underlying22 (hval 1 22 v1 rfl rfl)
  have k1 := h1
  have lt1 : ∀ x ∈ p1, x.block < W.heap.size := by obtain ⟨m, hm⟩ := k1; exact DataW.trod_lt m _ _ _ hm
  obtain ⟨z1, w1⟩ : ∃ zs, IntRowsIn W (.slice a1 len1 cap1) zs := by
    obtain ⟨fuel, hf⟩ := h1
    exact intRowsIn_open Tryd.underlying22 Tryd.underlying33 Tryd.underlying3 (by kernel_rfl) (by kernel_rfl) hf lt1
  have lw := laidWalk hL
  refine (walk a0 (.slice a1 len1 cap1) z1 W w0 w1 lw).mono fun e W' ⟨he, bel⟩ => ?_
  subst he
  exact ⟨_, rfl, _, _, _, [], _, [], hW', trodAll_mk1 (shut_bool Tryd.underlying4 _), (trodAll_cons_mk (shut_int Tryd.underlying3 w0) (trodAll_cons_mk (Below.trod laidOut (by kernel_rfl) (of_decide_eq_true (by kernel_rfl)) k1 bel lt1) trodAll_mk0)), rfl, bel.frame _, fun h => by cases h⟩

theorem reads (os : Os) {H : Type} (enc : TypeId × Value → H) : ∃ places, DataW.whole enc Tryd.prog ((laidWorld os).forCall (fun _ _ => 0) ⟨#[], #[.int .i64 0, .slice none 0 0], []⟩).memory Tryd.f3.params.toList Rows.creditPlaysSpec.vars false (#[.int .i64 0, .slice none 0 0] : Array Value).toList 8 = some ([.lit (.int .i64 0), .nil], [], places) :=
  ⟨[], by kernel_rfl⟩
theorem laid_met (os : Os) : laidMetH Tryd.prog Rows.creditPlaysRow.laid ((laidWorld os).forCall (fun _ _ => 0) ⟨#[], #[.int .i64 0, .slice none 0 0], []⟩).memory := laidMetW os _

set_option maxRecDepth 100000 in
theorem lifted (os : Os) (started : os.Started) (H : Type) (enc : TypeId × Value → H) (F : Stop.Interp) :
    ReturnsInHanded {} Tryd.checked os 3 .any ((OpenSpec.ofChange Rows.creditPlaysSpec).preRow enc Tryd.prog Tryd.f3 Rows.creditPlaysRow.domain false Rows.creditPlaysRow.laid) (((OpenSpec.ofChange Rows.creditPlaysSpec).at F).post enc Tryd.prog Tryd.f3 false true false false) := by
  obtain ⟨places, hx⟩ := reads os enc
  refine returnsInHanded_of_row (C := Tryd.checked) (s := OpenSpec.ofChange Rows.creditPlaysSpec) own started (by kernel_rfl) Tryd.func3
    (witness_row_at (enc := enc) (C := Tryd.checked) false (laidWorld os) #[.int .i64 0, .slice none 0 0] rfl (by kernel_rfl) (by kernel_rfl) (by kernel_rfl)
      (OpenSpec.preRow_of_cond 8 hx (by kernel_rfl) (fun k hk => by cases hk) (by kernel_rfl) (laid_met os))) ?_
  intro W base args ds gs before hval hW _ _ _ hL _ _
  exact contract H enc W base args ds gs before hval hW hL

theorem said : Rows.CreditPlaysSaid :=
  OpenClaim.holds_of_cond 3 Tryd.f3 rfl rfl rfl rfl rfl rfl rfl ⟨rfl, rfl, rfl, rfl, rfl⟩ rfl rfl rfl rfl rfl (by kernel_rfl) Tryd.func3 (by kernel_rfl)
    (of_decide_eq_true (by kernel_rfl)) (by unfold Func.isWrapper; first | (rw [if_pos (by decide +kernel)]; kernel_rfl) | (rw [if_neg (by decide +kernel)]; exact ⟨rfl, rfl⟩))
    (fun os started H enc _ F => by rw [OpenClaim.pre_eq_preRow]; exact lifted os started H enc F)

theorem plain (f : FuncId) (fn : Func) (hf : Tryd.pinned.checked.prog.funcNamed "wanderwire/wirelaw1.CreditPlays" = some f) (hfn : Tryd.pinned.checked.prog.funcs[f]? = some fn) :
    true = Tryd.pinned.checked.prog.looks [] ∧ ∀ (j : Nat) t, fn.params[j]? = some t → Tryd.pinned.checked.prog.wantsStandIn t = false := by
  obtain rfl : f = 3 := Option.some.inj ((show Tryd.prog.funcNamed "wanderwire/wirelaw1.CreditPlays" = some 3 by kernel_rfl).symm.trans hf) |>.symm
  obtain rfl : fn = Tryd.f3 := (Option.some.inj (Tryd.func3.symm.trans hfn)).symm
  refine ⟨by kernel_rfl, fun j t ht => ?_⟩
  rw [Tryd.params3] at ht
  have ht' := Array.mem_of_getElem? ht
  have hall : (([3, 22] : List Nat).all fun t => !Tryd.prog.wantsStandIn t) = true := by kernel_rfl
  have hq := List.all_eq_true.1 hall t (by simpa using ht')
  have hq2 : Tryd.prog.wantsStandIn t = false := by simpa using hq
  exact hq2

theorem card : Rows.CreditPlaysCardSaid :=
  Claim7.holds_tied_plain_at .later [] _ _ _ _ said (fun _ h => by cases h) (by kernel_rfl) (fun _ h => by cases h) creditPlays_row_tie rfl ⟨rfl, rfl⟩ (by kernel_rfl) rfl plain (by kernel_rfl)
#print axioms card
end Go.Proofs.YtaiojfoicfhbnaaDoor.creditPlays
