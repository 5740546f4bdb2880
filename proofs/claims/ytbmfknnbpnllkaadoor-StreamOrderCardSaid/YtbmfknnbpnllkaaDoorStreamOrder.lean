/- StreamOrder: for every text and cuts the law returns true: of pieces of one text what is taken is its beginning, in whatever order they come; when all came, all of it. Conditions: errors.errorType holds its handle (the row lists it, the card ties it); the text is no longer than the form's reach. -/
import Derived.Test.YtbmfknnbpnllkaaDoorBase
import Derived.Test.YtbmfknnbpnllkaaDoorTold
import Derived.Test.YtbmfknnbpnllkaaDoorLaid
import Derived.Test.YtbmfknnbpnllkaaDoorOnly
import Derived.Test.YtbmfknnbpnllkaaDoorSince
import Derived.Test.YtbmfknnbpnllkaaDoorRules
import Derived.Test.YtbmfknnbpnllkaaDoorOut
import Derived.Test.YtbmfknnbpnllkaaDoorLst
import Derived.Test.YtbmfknnbpnllkaaDoorRow
import Derived.Test.YtbmfknnbpnllkaaDoorRng
import Derived.Test.YtbmfknnbpnllkaaDoorStr
import Derived.Test.YtbmfknnbpnllkaaDoorStrm
import Derived.Test.YtbmfknnbpnllkaaDoorConv
import Derived.Test.YtbmfknnbpnllkaaDoorStake
import Derived.Test.YtbmfknnbpnllkaaDoorSgaps
import Derived.Test.YtbmfknnbpnllkaaDoorStrOrd
import Derived.Test.YtbmfknnbpnllkaaDoorIns
import Derived.Deep.DeepCutAuto
import Derived.Test.YtbmfknnbpnllkaaDoorCards
import Derived.Test.YtbmfknnbpnllkaaDoorTie
import Derived.Deep.DeepHandedRow
import Derived.LaidLaws
import Derived.LaidHandle
import Derived.Deep.DeepWitnessRowRef
import Derived.Test.YtbmfknnbpnllkaaDoorRows
import Derived.WalkKit
import Derived.ProofKit
import Derived.OpenShut
import Derived.ShutString
import Derived.ChangeOld
import Derived.Below
import Derived.Lib.SmallJoins
import Derived.Deep.Slices
import Derived.Deep.Matrix
import Derived.Deep.Strs
namespace Go.Proofs.YtbmfknnbpnllkaaDoor.streamOrder
open Go.ChangeShapes Go.WideShapes Go.ChangeAt Go.RowKit
open Go.ChangeMaps (open_string shut_string)
set_option linter.unusedVariables false

noncomputable abbrev laidWorld := YtbmfknnbpnllkaaDoor.laidWorld
theorem laidMetW (os : Os) (args : Array Value) : laidMetH Tryd.prog Rows.streamOrderRow.laid ((laidWorld os).forCall (fun _ _ => 0) ⟨#[], args, []⟩).memory := laidMet_et os args
theorem laidWalk {W : World} (h : laidMetH Tryd.prog Rows.streamOrderRow.laid W) : ETok W := laid_et h

set_option maxRecDepth 100000 in
set_option maxHeartbeats 3200000 in
theorem walk (s : ByteArray) (v1 : Value) (Z : List (List Int)) (w : World) (z0 : s.size ≤ 140737488351232) (w1 : IntRowsIn w v1 Z) (hL : ETok w) :
    Calls Tryd.prog 3 #[.string s, v1] w fun e w' => e = .returned (.bool true) ∧ Below w.heap.size w w' := by
  have HE := Lib.hid hL
  obtain ⟨A, cap, rfl, hle0, hm0, hc⟩ := w1
  unfold maxLen at hm0
  have hZ : Z.length ≤ 9223372036854775807 := by omega
  have HC := Lib.hid hc
  clear hc hL
  have e1 : putE Plc.new 2 (⟨#[99, 100]⟩ : ByteArray).data.toList = 0 := ex1
  have m1 : putM Plc.new 2 (⟨#[99, 100]⟩ : ByteArray).data.toList = exM1 := rfl
  have e3 : putE exM1 0 (⟨#[97, 98, 99]⟩ : ByteArray).data.toList = 0 := ex3
  have m3 : putM exM1 0 (⟨#[97, 98, 99]⟩ : ByteArray).data.toList = exM2 := rfl
  have t9 : takeE 9 = 0 := by decide
  have E1 := Lib.hid e1
  have M1 := Lib.hid m1
  have E3 := Lib.hid e3
  have M3 := Lib.hid m3
  have T9 := Lib.hid t9
  clear e1 m1 e3 m3 t9
  go_enter Tryd.func3, Tryd.ntmps3
  go_wp2_with fail
  refine (snew _).mono ?_
  rintro e w1 ⟨rfl, hz1, hb1⟩
  have HZ1 := Lib.hid hz1
  have HS1 : Hid (Since w w1) := Lib.hid hb1
  clear hz1 hb1
  go_wp2_with fail
  refine (sput _ _ _ 2 _ _ HZ1.out (by show 2 ≤ _; omega)).mono ?_
  rintro e w2 ⟨rfl, hz2, ho2⟩
  rw [E1.out, errV_zero]
  rw [M1.out] at hz2
  have HZ2 := Lib.hid hz2
  have HS2 := Lib.hid (HS1.out.out' ho2 (by simp))
  clear hz2 ho2 HZ1 HS1
  go_wp2_with fail
  refine (stake _ _ _ 9 _ HZ2.out).mono ?_
  rintro e w3 ⟨rfl, hz3, ho3⟩
  rw [T9.out, errV_zero, ex2s]
  rw [ex2] at hz3
  have HZ3 := Lib.hid hz3
  have HS3 := Lib.hid (HS2.out.out' ho3 (by simp))
  clear hz3 ho3 HZ2 HS2
  go_wp2_with fail
  refine (sput _ _ _ 0 _ _ HZ3.out (by show 3 ≤ _; omega)).mono ?_
  rintro e w4 ⟨rfl, hz4, ho4⟩
  rw [E3.out, errV_zero]
  rw [M3.out] at hz4
  have HZ4 := Lib.hid hz4
  have HS4 := Lib.hid (HS3.out.out' ho4 (by simp))
  clear hz4 ho4 HZ3 HS3
  go_wp2_with fail
  refine (stake _ _ _ 9 _ HZ4.out).mono ?_
  rintro e w5 ⟨rfl, hz5, ho5⟩
  have h4 : takeS exM2 (0 + 0) 9 = ⟨#[97, 98, 99, 100]⟩ := ex4
  have h5 : takeK exM2 (0 + 0) 9 = 4 := ex5
  rw [T9.out, errV_zero, h4]
  rw [h5] at hz5
  have HZ5 := Lib.hid hz5
  have HS5 := Lib.hid (HS4.out.out' ho5 (by simp))
  clear hz5 ho5 HZ4 HS4 h4 h5
  by_cases hbig : 60 < s.size
  · have hbig' : (60 : Int) < (s.size : Int) := by omega
    have EF := Lib.hid (exFull hbig exM2)
    go_wp2_with fail
    refine (sput _ _ _ 0 _ _ HZ5.out z0).mono ?_
    rintro e w6 ⟨rfl, hz6, ho6⟩
    rw [EF.out]
    have HS6 := Lib.hid (HS5.out.out' ho6 (by simp))
    clear hz6 ho6
    go_wp2_with fail
    refine (same_yes 4 _ (HE.out.later HS6.out)).mono ?_
    rintro e w7 ⟨rfl, hb7⟩
    go_wp2_with fail
    go_ret
    exact ⟨rfl, HS6.out.later hb7⟩
  have hbig' : decide ((60 : Int) < (s.size : Int)) = false := by simp; omega
  have hs60 : s.size ≤ 60 := by omega
  go_wp2_with fail
  refine (snew _).mono ?_
  rintro e w6 ⟨rfl, hz6, hb6⟩
  have HZ6 := Lib.hid hz6
  have hs6 := HS5.out.later hb6
  have hlw := HS5.out.le
  clear hz6 hb6 HZ5 HS5 E1 M1 E3 M3
  generalize w5.heap.size = g at *
  have hem : s.extract 0 0 = ⟨#[]⟩ := by
    apply ByteArray.ext
    apply Array.ext'
    rw [extract_list]
    rfl
  repeat ((fail_if_success (with_reducible refine stop_at 13 ?_)); first | fail | go_values | go_skip | go_guarded | go_step | go_upon | go_back | go_simp)
  go_cut [14, 15, 16, 17, 18, 19] (fun s14 s15 s16 s17 s18 s19 wx => ∃ (t : Nat) (M : Plc), s14 = .string (s.extract 0 t) ∧ t ≤ s.size ∧ Of M s.data.toList ∧ Sz wx g M t ∧ Since w wx)
  case first =>
    go_wp2_with fail
    go_loopw [14, 15, 16, 17, 18, 19] (fun s14 s15 s16 s17 s18 s19 wr => ∃ (k t : Nat) (M : Plc), s15 = .int .i64 k ∧ k ≤ 60 ∧ s14 = .string (s.extract 0 t) ∧ t ≤ s.size ∧ Of M s.data.toList ∧ Sz wr g M t ∧ Since w wr) (fun _ s15 _ _ _ _ _ => 60 - (intOf s15).toNat)
    case atStart => exact ⟨0, 0, Plc.new, rfl, by omega, by rw [hem], by omega, Of.new _, HZ6.out, hs6⟩
    case round =>
      obtain ⟨k, t, M, rfl, hk, rfl, ht, hof, hz, hs⟩ := hrel
      have HOF := Lib.hid hof
      have HZ := Lib.hid hz
      clear hof hz hs6 HZ6
      by_cases hlen : k < Z.length
      case neg =>
        have hlen' : decide ((k : Int) < (Z.length : Int)) = false := by simp; omega
        go_wp2_with fail
        go_meet
        case rel => exact ⟨t, M, rfl, ht, HOF.out, HZ.out, hs⟩
      by_cases h60 : k < 60
      case neg =>
        have hlen' : (k : Int) < (Z.length : Int) := by omega
        have h60' : decide ((k : Int) < 60) = false := by simp; omega
        go_wp2_with fail
        go_meet
        case rel => exact ⟨t, M, rfl, ht, HOF.out, HZ.out, hs⟩
      have hlen' : (k : Int) < (Z.length : Int) := by omega
      have h60' : (k : Int) < 60 := by omega
      obtain ⟨b, off, rfl, hlt, hc⟩ := HC.out (by rintro rfl; simp at hlen)
      obtain ⟨x, hx, hI⟩ := hc k hlen
      clear hc
      generalize Z.getD k [] = r at *
      obtain ⟨bdr, A', cap', rfl, hle', hm', hcr⟩ := hI
      have HBD := Lib.hid (ith_bounds bdr)
      unfold maxLen at hm'
      have cx : wr.cell? ⟨b, off + k, none⟩ = some (.slice A' r.length cap') := hs.cell hlt hx
      by_cases h3 : r.length = 3
      case neg =>
        have h3' : ((r.length : Int) != 3) = true := by simp; omega
        clear hcr bdr hx
        go_wp2_with fail
        go_roundw
        case rel => exact ⟨k + 1, t, M, by go_num, by omega, rfl, ht, HOF.out, HZ.out, (by refine Since.out ?_; repeat (first | with_reducible assumption | with_reducible exact Since.refl _ | with_reducible refine Since.later ?_ (by with_reducible assumption) | with_reducible refine Since.only ?_ (by with_reducible assumption) (by first | assumption | omega | (simp; done) | (simp; omega)) | with_reducible refine Since.alloc ?_ _ | with_reducible refine Since.drewN ?_ _ | with_reducible refine Since.drew ?_ | with_reducible refine Since.set ?_ (by first | assumption | omega | (simp; done) | (simp; omega)) _))⟩
        case measure => simp [intOf]; omega
      have h3' : ((r.length : Int) != 3) = false := by simp; omega
      obtain ⟨b2, off2, rfl, hlt2, hc2⟩ := hcr (by rintro rfl; simp at h3)
      have q0 : wr.cell? ⟨b2, off2, none⟩ = some (.int .i64 (ith r 0)) := hs.cell hlt2 (by have := hc2 0 (by omega); simpa using this)
      have q1 : wr.cell? ⟨b2, off2 + 1, none⟩ = some (.int .i64 (ith r 1)) := hs.cell hlt2 (hc2 1 (by omega))
      have q2 : wr.cell? ⟨b2, off2 + 2, none⟩ = some (.int .i64 (ith r 2)) := hs.cell hlt2 (hc2 2 (by omega))
      have HQ2 : Hid (b2 < w.heap.size ∧ w.cell? ⟨b2, off2 + 2, none⟩ = some (.int .i64 (ith r 2))) := Lib.hid ⟨hlt2, hc2 2 (by omega)⟩
      have HX : Hid (b < w.heap.size ∧ w.cell? ⟨b, off + k, none⟩ = some (.slice (some ⟨b2, off2, none⟩) r.length cap')) := Lib.hid ⟨hlt, hx⟩
      have hl3 : (2 : Int) < (r.length : Int) := by omega
      have hl31 : (1 : Int) < (r.length : Int) := by omega
      have hl30 : (0 : Int) < (r.length : Int) := by omega
      generalize ith r 0 = x0 at *
      generalize ith r 1 = x1 at *
      generalize ith r 2 = x2 at *
      clear hcr hc2 bdr hx
      by_cases hok : 0 ≤ x0 ∧ x0 ≤ x1 ∧ x1 ≤ (s.size : Int)
      case neg =>
        by_cases a0 : x0 < 0
        · clear hok
          go_wp2_with fail
          go_roundw
          case rel => exact ⟨k + 1, t, M, by go_num, by omega, rfl, ht, HOF.out, HZ.out, (by refine Since.out ?_; repeat (first | with_reducible assumption | with_reducible exact Since.refl _ | with_reducible refine Since.later ?_ (by with_reducible assumption) | with_reducible refine Since.only ?_ (by with_reducible assumption) (by first | assumption | omega | (simp; done) | (simp; omega)) | with_reducible refine Since.alloc ?_ _ | with_reducible refine Since.drewN ?_ _ | with_reducible refine Since.drew ?_ | with_reducible refine Since.set ?_ (by first | assumption | omega | (simp; done) | (simp; omega)) _))⟩
          case measure => simp [intOf]; omega
        have a0' : decide (x0 < 0) = false := by simpa using a0
        by_cases a1 : x1 < x0
        · clear hok
          go_wp2_with fail
          go_roundw
          case rel => exact ⟨k + 1, t, M, by go_num, by omega, rfl, ht, HOF.out, HZ.out, (by refine Since.out ?_; repeat (first | with_reducible assumption | with_reducible exact Since.refl _ | with_reducible refine Since.later ?_ (by with_reducible assumption) | with_reducible refine Since.only ?_ (by with_reducible assumption) (by first | assumption | omega | (simp; done) | (simp; omega)) | with_reducible refine Since.alloc ?_ _ | with_reducible refine Since.drewN ?_ _ | with_reducible refine Since.drew ?_ | with_reducible refine Since.set ?_ (by first | assumption | omega | (simp; done) | (simp; omega)) _))⟩
          case measure => simp [intOf]; omega
        have a1' : decide (x1 < x0) = false := by simpa using a1
        have a2 : (s.size : Int) < x1 := by omega
        clear hok
        go_wp2_with fail
        go_roundw
        case rel => exact ⟨k + 1, t, M, by go_num, by omega, rfl, ht, HOF.out, HZ.out, (by refine Since.out ?_; repeat (first | with_reducible assumption | with_reducible exact Since.refl _ | with_reducible refine Since.later ?_ (by with_reducible assumption) | with_reducible refine Since.only ?_ (by with_reducible assumption) (by first | assumption | omega | (simp; done) | (simp; omega)) | with_reducible refine Since.alloc ?_ _ | with_reducible refine Since.drewN ?_ _ | with_reducible refine Since.drew ?_ | with_reducible refine Since.set ?_ (by first | assumption | omega | (simp; done) | (simp; omega)) _))⟩
        case measure => simp [intOf]; omega
      obtain ⟨a0, a1, a2⟩ := hok
      obtain ⟨f, rfl⟩ := Int.eq_ofNat_of_zero_le a0
      obtain ⟨e, rfl⟩ := Int.eq_ofNat_of_zero_le (show 0 ≤ x1 by omega)
      have a0' : decide ((f : Int) < 0) = false := by simp
      have a1' : decide ((e : Int) < (f : Int)) = false := by simp; omega
      have a2' : decide ((s.size : Int) < (e : Int)) = false := by simp; omega
      obtain ⟨p0, p1, p2⟩ := of_put HZ.out.len HOF.out hs60 (a := f) (b := e) (by omega) (by omega)
      go_wp2_with fail
      refine (sput g M t f (s.extract f e) _ HZ.out (by rw [ByteArray.size_extract]; omega)).mono ?_
      rintro e7 w7 ⟨rfl, hz7, ho7⟩
      rw [p0, errV_zero]
      generalize putM M f (s.extract f e).data.toList = M7 at *
      have HZ7 := Lib.hid hz7
      have HOF7 := Lib.hid p1
      have hs7 : Since w w7 := hs.out' ho7 (fun k hk => by rw [List.mem_singleton.1 hk]; omega)
      have cx7 : w7.cell? ⟨b, off + k, none⟩ = some (.slice (some ⟨b2, off2, none⟩) r.length cap') := hs7.cell HX.out.1 HX.out.2
      have q7 : w7.cell? ⟨b2, off2 + 2, none⟩ = some (.int .i64 x2) := hs7.cell HQ2.out.1 HQ2.out.2
      clear hz7 ho7 p0 p1 p2 HZ HOF cx q0 q1 q2
      go_wp2_with fail
      refine (stake g M7 t x2 _ HZ7.out).mono ?_
      rintro e8 w8 ⟨rfl, hz8, ho8⟩
      obtain ⟨o1, o2⟩ := of_take HOF7.out ht x2
      have HZ8 := Lib.hid hz8
      have hs8 : Since w w8 := hs7.out' ho8 (fun k hk => by rw [List.mem_singleton.1 hk]; omega)
      by_cases hx2 : x2 < 0
      · have E : takeE x2 = 1 := by unfold takeE; rw [if_pos hx2]
        rw [E, errV_pos (show (1 : Int) ≠ 0 by decide)]
        have hk0 := takeK_neg (M := M7) (t := t) hx2
        rw [hk0, Nat.add_zero] at hz8
        have HZ9 := Lib.hid hz8
        clear hz8 ho8 o1 o2 HZ8 cx7 q7 E
        go_wp2_with fail
        go_roundw
        case rel => exact ⟨k + 1, t, M7, by go_num, by omega, rfl, ht, HOF7.out, HZ9.out, (by refine Since.out ?_; repeat (first | with_reducible assumption | with_reducible exact Since.refl _ | with_reducible refine Since.later ?_ (by with_reducible assumption) | with_reducible refine Since.only ?_ (by with_reducible assumption) (by first | assumption | omega | (simp; done) | (simp; omega)) | with_reducible refine Since.alloc ?_ _ | with_reducible refine Since.drewN ?_ _ | with_reducible refine Since.drew ?_ | with_reducible refine Since.set ?_ (by first | assumption | omega | (simp; done) | (simp; omega)) _))⟩
        case measure => simp [intOf]; omega
      · have E : takeE x2 = 0 := by unfold takeE; rw [if_neg hx2]
        rw [E, errV_zero]
        have hSz : (takeS M7 t x2).size = takeK M7 t x2 := cutL_len M7 t _
        generalize takeS M7 t x2 = S at *
        generalize takeK M7 t x2 = K at *
        have hst := extract_size s ht
        have hcat : (s.extract 0 t).size + S.size ≤ 9223372036854775807 := by omega
        have hsz := extract_size s (k := t + K) o1
        clear hz8 ho8 cx7 q7 E
        go_wp2_with fail
        go_roundw
        case rel => exact ⟨k + 1, t + K, M7, by go_num, by omega, rfl, o1, HOF7.out, HZ8.out, hs8⟩
        case measure => simp [intOf]; omega
  case rest =>
    obtain ⟨wo, rfl⟩ : ∃ wo : World, wo = wc := ⟨_, rfl⟩
    obtain ⟨t, M, rfl, ht, hof, hz, hs⟩ := hcut
    have HOF := Lib.hid hof
    have HZ := Lib.hid hz
    clear hof hz HZ6 hs6
    go_wp2_with fail
    go_loopw [20, 21] (fun s20 s21 wr => ∃ (a : Int) (M : Plc), s20 = .int .i64 a ∧ -7 < a ∧ a ≤ s.size ∧ Of M s.data.toList ∧ AllFrom M s.data.toList a.toNat ∧ Sz wr g M t ∧ Since w wr) (fun s20 _ _ => (intOf s20).toNat)
    case atStart => exact ⟨s.size, M, rfl, by omega, by omega, HOF.out, by
      have := AllFrom.start M s.data.toList
      rwa [show s.data.toList.length = s.size from Array.length_toList] at this, HZ.out, hs⟩
    case round =>
      obtain ⟨a, M7, rfl, ha1, ha2, hof, hall, hz, hs⟩ := hrel
      have HOF7 := Lib.hid hof
      have HALL := Lib.hid hall
      have HZ7 := Lib.hid hz
      clear hof hall hz
      by_cases hpos : 0 < a
      case neg =>
        have hpos' : decide (0 < a) = false := by simpa using hpos
        have ha0 : a.toNat = 0 := by omega
        have hall0 : AllFrom M7 s.data.toList 0 := by rw [← ha0]; exact HALL.out
        have h60 : takeE 60 = 0 := by decide
        obtain ⟨o1, o2⟩ := of_take HOF7.out ht 60
        have hk := takeS_all HOF7.out hall0 hs60 ht
        rw [hk, extract_all] at o2
        have hSz : (takeS M7 t 60).size = takeK M7 t 60 := cutL_len M7 t _
        have hst := extract_size s ht
        have hr0 : readyN M7 (t + takeK M7 t 60) = 0 := by
          rw [hk]
          have hl : s.data.toList.length = s.size := Array.length_toList
          have := ready_all HOF7.out hall0 (by omega) (t := s.size) (by omega)
          rw [this]
          omega
        have hg0 := gaps_all HOF7.out hall0
        have HH := Lib.hid (And.intro h60 (And.intro hr0 hg0))
        clear hall0 ha0 h60 hr0 hg0
        go_wp2_with fail
        refine (stake g M7 t 60 _ HZ7.out).mono ?_
        rintro e8 w8 ⟨rfl, hz8, ho8⟩
        rw [HH.out.1, errV_zero]
        have HZ8 := Lib.hid hz8
        have hs8 : Since w w8 := hs.out' ho8 (fun k hk => by rw [List.mem_singleton.1 hk]; omega)
        clear hz8 ho8
        have HR := Lib.hid HH.out.2.1
        have HG := Lib.hid HH.out.2.2
        generalize takeS M7 t 60 = S at *
        generalize takeK M7 t 60 = K at *
        have hcat : (s.extract 0 t).size + S.size ≤ 9223372036854775807 := by omega
        go_wp2_with fail
        refine (sready g M7 (t + K) _ HZ8.out).mono ?_
        rintro e9 w9 ⟨rfl, hb9⟩
        rw [HR.out]
        go_wp2_with fail
        refine (sgaps g M7 (t + K) _ (HZ8.out.later hb9)).mono ?_
        rintro e10 w10 ⟨A10, c10, rfl, hl10, hb10, hk10⟩
        rw [HG.out]
        go_wp2_with fail
        go_ret
        exact ⟨by first | rfl | simp, (hs8.later hb9).later hb10⟩
      obtain ⟨n, rfl⟩ := Int.eq_ofNat_of_zero_le (show 0 ≤ a by omega)
      obtain ⟨f, hf⟩ : ∃ f : Nat, f = n - 7 := ⟨_, rfl⟩
      repeat ((fail_if_success (with_reducible refine stop_at 31 ?_)); first | fail | go_values | go_skip | go_guarded | go_step | go_upon | go_back | go_simp)
      go_cut [21] (fun s21 wx => s21 = .int .i64 f ∧ Since w wx ∧ Sz wx g M7 t)
      case first =>
        by_cases h7 : n < 7
        · have h7' : ((n : Int) - 7) < 0 := by omega
          have f0 : f = 0 := by omega
          subst f0
          go_wp2_with fail
          go_meet
          case rel => exact ⟨rfl, hs, HZ7.out⟩
        · have h7' : decide (((n : Int) - 7) < 0) = false := by simp; omega
          have f0 : (n : Int) - 7 = (f : Int) := by omega
          go_wp2_with fail
          go_meet
          case rel => exact ⟨by rw [← f0], hs, HZ7.out⟩
      case rest =>
        obtain ⟨wv, rfl⟩ : ∃ wv : World, wv = wc := ⟨_, rfl⟩
        obtain ⟨rfl, hsv, hzv⟩ := hcut
        have hfn : f ≤ n := by omega
        have hns : n ≤ s.size := by omega
        have hfn' : (f : Int) ≤ (n : Int) := by omega
        have hf2 : ((n : Int) - 7).toNat = f := by omega
        have HF2 := Lib.hid hf2
        clear hf2 hf
        have hns' : (n : Int) ≤ (s.size : Int) := by omega
        obtain ⟨p0, p1, p2⟩ := of_put hzv.len HOF7.out hs60 (a := f) (b := n) hfn hns
        have hall1 := all_put (d := s.data.toList) (a := f) (b := n) HALL.out p2
        have HZV := Lib.hid hzv
        have HPP := Lib.hid (And.intro p0 (And.intro p1 hall1))
        clear hzv p0 p1 p2 hall1 hpos
        go_wp2_with fail
        refine (sput g M7 t f (s.extract f n) _ HZV.out (by rw [ByteArray.size_extract]; omega)).mono ?_
        rintro e8 w8 ⟨rfl, hz8, ho8⟩
        rw [HPP.out.1, errV_zero]
        have HP := Lib.hid HPP.out.2
        generalize putM M7 f (s.extract f n).data.toList = M8 at *
        have HZ8 := Lib.hid hz8
        have hs8 : Since w w8 := hsv.out' ho8 (fun k hk => by rw [List.mem_singleton.1 hk]; omega)
        clear hz8 ho8 HPP
        go_wp2_with fail
        go_roundw
        case rel => exact ⟨(n : Int) - 7, M8, rfl, by omega, by omega, HP.out.1, by rw [HF2.out]; exact HP.out.2, HZ8.out, hs8⟩
        case measure => simp [intOf]; omega

/-! the row -/
theorem own : ownKnob Tryd.prog.godebug = none := by kernel_rfl
theorem laidOut : laidOutB Tryd.prog = true := by kernel_rfl
set_option maxRecDepth 100000 in
theorem contract (H : Type) (enc : TypeId × Value → H) (W : World) (base : Nat) (args : Array Value) (ds gs : List (DataW H)) (before : List MemPlace)
    (hval : ∀ (j : Nat) t v, Tryd.f3.params[j]? = some t → args[j]? = some v → Value.okWide Tryd.prog W .any base t v)
    (hW : DataW.Whole enc Tryd.prog Tryd.f3.params.toList Rows.streamOrderSpec.vars false W args.toList ds gs before) (hsz : (DataW.weightsEach Tryd.prog (Tryd.f3.params.toList ++ (OpenSpec.ofChange Rows.streamOrderSpec).bare.plain.varTypes Tryd.prog) (ds ++ gs)).all (· ≤ reachBytes) = true) (hL : laidMetH Tryd.prog Rows.streamOrderRow.laid W) :
    Calls Tryd.prog 3 args W fun e W' => ∃ v, e = .returned v ∧ Rows.streamOrderSpec.post enc Tryd.prog Tryd.f3 false true false false W args v W' := by
  have hW' := hW
  obtain ⟨p, q, hA0, hV, rfl, hfz, hnd⟩ := hW
  have hA : DataW.TrodAll enc Tryd.prog W 0 (fun _ => true) true Tryd.f3.params.toList args.toList ds p := hA0
  rw [Tryd.params3] at hA hval
  obtain ⟨v0, vs0, d0, ds0, p0, q0, hargs, rfl, rfl, h0, r0⟩ := trodAll_cons hA
  obtain ⟨v1, vs1, d1, ds1, p1, q1, rfl, rfl, rfl, h1, r1⟩ := trodAll_cons r0
  obtain ⟨rfl, rfl, rfl⟩ := trodAll_nil r1
  obtain rfl : args = #[v0, v1] := by cases args; simp_all
  obtain ⟨rfl, rfl⟩ := trodVars_none hV
  obtain ⟨s0, rfl, rfl, rfl, w0⟩ := open_string Tryd.underlying9 (hval 0 9 v0 rfl rfl) h0
  have z0 : s0.size ≤ 140737488351232 := by
    have hq := sized_string hsz (j := 0) rfl rfl
    simpa [reachBytes] using hq
  obtain ⟨a1, len1, cap1, rfl⟩ := okWide_slice Tryd.underlying22 (hval 1 22 v1 rfl rfl)
  have k1 := h1
  have lt1 : ∀ x ∈ p1, x.block < W.heap.size := by obtain ⟨m, hm⟩ := k1; exact DataW.trod_lt m _ _ _ hm
  obtain ⟨z1, w1⟩ : ∃ zs, IntRowsIn W (.slice a1 len1 cap1) zs := by
    obtain ⟨fuel, hf⟩ := h1
    exact intRowsIn_open Tryd.underlying22 Tryd.underlying33 Tryd.underlying3 (by kernel_rfl) (by kernel_rfl) hf lt1
  have lw := laidWalk hL
  refine (walk s0 (.slice a1 len1 cap1) z1 W z0 w1 lw).mono fun e W' ⟨he, bel⟩ => ?_
  subst he
  exact ⟨_, rfl, _, _, _, [], _, [], hW', trodAll_mk1 (shut_bool Tryd.underlying4 _), (trodAll_cons_mk (shut_string Tryd.underlying9 w0) (trodAll_cons_mk (Below.trod laidOut (by kernel_rfl) (of_decide_eq_true (by kernel_rfl)) k1 bel lt1) trodAll_mk0)), rfl, bel.frame _, fun h => by cases h⟩

theorem reads (os : Os) {H : Type} (enc : TypeId × Value → H) : ∃ places, DataW.whole enc Tryd.prog ((laidWorld os).forCall (fun _ _ => 0) ⟨#[], #[.string ByteArray.empty, .slice none 0 0], []⟩).memory Tryd.f3.params.toList Rows.streamOrderSpec.vars false (#[.string ByteArray.empty, .slice none 0 0] : Array Value).toList 8 = some ([.lit (.string []), .nil], [], places) :=
  ⟨[], by kernel_rfl⟩
theorem laid_met (os : Os) : laidMetH Tryd.prog Rows.streamOrderRow.laid ((laidWorld os).forCall (fun _ _ => 0) ⟨#[], #[.string ByteArray.empty, .slice none 0 0], []⟩).memory := laidMetW os _

set_option maxRecDepth 100000 in
theorem lifted (os : Os) (started : os.Started) (H : Type) (enc : TypeId × Value → H) (F : Stop.Interp) :
    ReturnsInHanded {} Tryd.checked os 3 .any ((OpenSpec.ofChange Rows.streamOrderSpec).preRow enc Tryd.prog Tryd.f3 Rows.streamOrderRow.domain false Rows.streamOrderRow.laid) (((OpenSpec.ofChange Rows.streamOrderSpec).at F).post enc Tryd.prog Tryd.f3 false true false false) := by
  obtain ⟨places, hx⟩ := reads os enc
  refine returnsInHanded_of_row (C := Tryd.checked) (s := OpenSpec.ofChange Rows.streamOrderSpec) own started (by kernel_rfl) Tryd.func3
    (witness_row_at (enc := enc) (C := Tryd.checked) false (laidWorld os) #[.string ByteArray.empty, .slice none 0 0] rfl (by kernel_rfl) (by kernel_rfl) (by kernel_rfl)
      (OpenSpec.preRow_of_cond 8 hx (by kernel_rfl) (fun k hk => by cases hk) (by kernel_rfl) (laid_met os))) ?_
  intro W base args ds gs before hval hW _ _ hsz hL _ _
  exact contract H enc W base args ds gs before hval hW hsz hL

theorem said : Rows.StreamOrderSaid :=
  OpenClaim.holds_of_cond 3 Tryd.f3 rfl rfl rfl rfl rfl rfl rfl ⟨rfl, rfl, rfl, rfl, rfl⟩ rfl rfl rfl rfl rfl (by kernel_rfl) Tryd.func3 (by kernel_rfl)
    (of_decide_eq_true (by kernel_rfl)) (by unfold Func.isWrapper; first | (rw [if_pos (by decide +kernel)]; kernel_rfl) | (rw [if_neg (by decide +kernel)]; exact ⟨rfl, rfl⟩))
    (fun os started H enc _ F => by rw [OpenClaim.pre_eq_preRow]; exact lifted os started H enc F)

theorem plain (f : FuncId) (fn : Func) (hf : Tryd.pinned.checked.prog.funcNamed "wanderwire/wirelaw1.StreamOrder" = some f) (hfn : Tryd.pinned.checked.prog.funcs[f]? = some fn) :
    true = Tryd.pinned.checked.prog.looks [] ∧ ∀ (j : Nat) t, fn.params[j]? = some t → Tryd.pinned.checked.prog.wantsStandIn t = false := by
  obtain rfl : f = 3 := Option.some.inj ((show Tryd.prog.funcNamed "wanderwire/wirelaw1.StreamOrder" = some 3 by kernel_rfl).symm.trans hf) |>.symm
  obtain rfl : fn = Tryd.f3 := (Option.some.inj (Tryd.func3.symm.trans hfn)).symm
  refine ⟨by kernel_rfl, fun j t ht => ?_⟩
  rw [Tryd.params3] at ht
  have ht' := Array.mem_of_getElem? ht
  have hall : (([9, 22] : List Nat).all fun t => !Tryd.prog.wantsStandIn t) = true := by kernel_rfl
  have hq := List.all_eq_true.1 hall t (by simpa using ht')
  have hq2 : Tryd.prog.wantsStandIn t = false := by simpa using hq
  exact hq2

theorem card : Rows.StreamOrderCardSaid :=
  Claim7.holds_tied_plain_at .later [] _ _ _ _ said (fun _ h => by cases h) (by kernel_rfl) (fun _ h => by cases h) streamOrder_row_tie rfl ⟨rfl, rfl⟩ (by kernel_rfl) rfl plain (by kernel_rfl)
#print axioms card
end Go.Proofs.YtbmfknnbpnllkaaDoor.streamOrder
