/- LogStops: for every step to stop at, count and bytes to keep the law returns true: it stops at the step that was told; then all is refused till it crashes; then all goes on. Condition: strconv's tables and errors and errors.errorType hold what the program's text lays (the row lists them, the card ties them). -/
import Derived.Test.YtjjmoaaongnjiaaGreatDoorLogStp
import Derived.Test.YtjjmoaaongnjiaaGreatDoorLogB
import Derived.Test.YtjjmoaaongnjiaaGreatDoorLaid6
import Derived.Test.YtjjmoaaongnjiaaGreatDoorTold
import Derived.Deep.DeepCutAuto
import Derived.Test.YtjjmoaaongnjiaaGreatDoorCards
import Derived.Test.YtjjmoaaongnjiaaGreatDoorTie
import Derived.Deep.DeepHandedRow
import Derived.LaidLaws
import Derived.LaidHandle
import Derived.Deep.DeepWitnessRowRef
import Derived.Test.YtjjmoaaongnjiaaGreatDoorRows
import Derived.WalkKit
import Derived.ProofKit
import Derived.OpenShut
import Derived.ShutString
import Derived.ChangeOld
import Derived.Below
import Derived.Lib.SmallJoins
import Derived.Deep.Slices
import Derived.Deep.Matrix
import Derived.Deep.Strs
namespace Go.Proofs.YtjjmoaaongnjiaaGreatDoor.logStops
open Go.ChangeShapes Go.WideShapes Go.ChangeAt Go.RowKit
open Go.ChangeMaps (open_string shut_string)
set_option linter.unusedVariables false

noncomputable abbrev laidWorld := YtjjmoaaongnjiaaGreatDoor.laidWorld6
theorem laidMetW (os : Os) (args : Array Value) : laidMetH Tryz.prog Rows.logStopsRow.laid ((laidWorld os).forCall (fun _ _ => 0) ⟨#[], args, []⟩).memory := laidMet_x os args
theorem laidWalk {W : World} (h : laidMetH Tryz.prog Rows.logStopsRow.laid W) : PTab W ∧ ETok W := laid_x h
theorem wf_small {x : Int} (h0 : -1 ≤ x) (h1 : x ≤ 1000000) : (Lit.int .i64 x).wf = true := by
  have h2 : IntKind.i64.min = -9223372036854775808 := by decide
  have h3 : IntKind.i64.max = 9223372036854775807 := by decide
  unfold Lit.wf
  simp
  omega
theorem few_of {after i : Nat} {s : LgS} (h : Sp after i s) : s.by_.size ≤ 1000000 := by
  obtain ⟨t, ht⟩ := h.ok
  exact ht.few
theorem same_at (n e : Int) (hn : n ≠ 0) (w : World) (hg : ETok w) : Calls Tryz.prog 16 #[.iface 46 (.int .i64 n), .int .i64 e] w fun ev w' => ev = .returned (.bool (n == e)) ∧ Below w.heap.size w w' := by
  have := same_error n e w hg
  rw [errV_pos hn] at this
  exact this

set_option maxRecDepth 100000 in
set_option maxHeartbeats 8000000 in
theorem walk (after many kp : Int) (w : World) (w0 : (Lit.int .i64 after).wf = true) (w1 : (Lit.int .i64 many).wf = true) (w2 : (Lit.int .i64 kp).wf = true) (hL : PTab w ∧ ETok w) :
    Calls Tryz.prog 4 #[.int .i64 after, .int .i64 many, .int .i64 kp] w fun e w' => e = .returned (.bool true) ∧ Below w.heap.size w w' := by
  have HP := Lib.hid hL.1
  have HE := Lib.hid hL.2
  clear w0 w1 w2 hL
  go_enter Tryz.func4, Tryz.ntmps4
  by_cases hbad : after < 0 ∨ 20 < after ∨ many < 0 ∨ 20 < many
  case pos =>
    by_cases q1 : after < 0
    · clear hbad
      go_wp2_with fail
      go_ret
      exact ⟨rfl, (by refine Since.out ?_; repeat (first | with_reducible assumption | with_reducible exact Since.refl _ | with_reducible refine Since.later ?_ (by with_reducible assumption) | with_reducible refine Since.only ?_ (by with_reducible assumption) (by first | assumption | omega | (simp; done) | (simp; omega)) | with_reducible refine Since.alloc ?_ _ | with_reducible refine Since.drewN ?_ _ | with_reducible refine Since.drew ?_ | with_reducible refine Since.set ?_ (by first | assumption | omega | (simp; done) | (simp; omega)) _))⟩
    have q1' : decide (after < 0) = false := by simpa using q1
    by_cases q2 : 20 < after
    · clear hbad q1
      go_wp2_with fail
      go_ret
      exact ⟨rfl, (by refine Since.out ?_; repeat (first | with_reducible assumption | with_reducible exact Since.refl _ | with_reducible refine Since.later ?_ (by with_reducible assumption) | with_reducible refine Since.only ?_ (by with_reducible assumption) (by first | assumption | omega | (simp; done) | (simp; omega)) | with_reducible refine Since.alloc ?_ _ | with_reducible refine Since.drewN ?_ _ | with_reducible refine Since.drew ?_ | with_reducible refine Since.set ?_ (by first | assumption | omega | (simp; done) | (simp; omega)) _))⟩
    have q2' : decide (20 < after) = false := by simpa using q2
    by_cases q3 : many < 0
    · clear hbad q1 q2
      go_wp2_with fail
      go_ret
      exact ⟨rfl, (by refine Since.out ?_; repeat (first | with_reducible assumption | with_reducible exact Since.refl _ | with_reducible refine Since.later ?_ (by with_reducible assumption) | with_reducible refine Since.only ?_ (by with_reducible assumption) (by first | assumption | omega | (simp; done) | (simp; omega)) | with_reducible refine Since.alloc ?_ _ | with_reducible refine Since.drewN ?_ _ | with_reducible refine Since.drew ?_ | with_reducible refine Since.set ?_ (by first | assumption | omega | (simp; done) | (simp; omega)) _))⟩
    have q3' : decide (many < 0) = false := by simpa using q3
    have q4 : 20 < many := by omega
    clear hbad q1 q2 q3
    go_wp2_with fail
    go_ret
    exact ⟨rfl, (by refine Since.out ?_; repeat (first | with_reducible assumption | with_reducible exact Since.refl _ | with_reducible refine Since.later ?_ (by with_reducible assumption) | with_reducible refine Since.only ?_ (by with_reducible assumption) (by first | assumption | omega | (simp; done) | (simp; omega)) | with_reducible refine Since.alloc ?_ _ | with_reducible refine Since.drewN ?_ _ | with_reducible refine Since.drew ?_ | with_reducible refine Since.set ?_ (by first | assumption | omega | (simp; done) | (simp; omega)) _))⟩
  have q1' : decide (after < 0) = false := by simp; omega
  have q2' : decide (20 < after) = false := by simp; omega
  have q3' : decide (many < 0) = false := by simp; omega
  have q4' : decide (20 < many) = false := by simp; omega
  go_wp2_with fail
  refine (gnew _).mono ?_
  rintro e w1 ⟨rfl, hl1, hb1⟩
  have HW1 : Hid (Own w [] w1 [logT w.heap.size lg0]) := Lib.hid ((Own.start w).add hb1 hl1 (by simp))
  obtain ⟨g, hg⟩ : ∃ g, w.heap.size = g := ⟨_, rfl⟩
  rw [hg] at HW1
  have HG := Lib.hid hg
  rw [hg]
  clear hl1 hb1 hg q1' q2' q3' q4'
  obtain ⟨a, rfl⟩ : ∃ a : Nat, after = a := ⟨after.toNat, by omega⟩
  obtain ⟨mm, rfl⟩ : ∃ m : Nat, many = m := ⟨many.toNat, by omega⟩
  have ha : a ≤ 20 := by omega
  have hmm : mm ≤ 20 := by omega
  clear hbad
  obtain ⟨S, hS, up⟩ := HW1.out.at_ 0 rfl
  go_wp2_with fail
  refine (gfail g lg0 (a : Int) (by omega) _ S hS).mono ?_
  rintro e w2 ⟨rfl, hl⟩
  have HW2 : Hid (Own w [] w2 [logT g (lg0.fail a)]) := Lib.hid (up _ _ hl)
  have HS0 : Hid (Sp a 0 (lg0.fail a)) := Lib.hid (Sp.start a)
  clear hl hS up HW1
  repeat ((fail_if_success (with_reducible refine stop_at 6 ?_)); first | fail | go_values | go_skip | go_guarded | go_step | go_upon | go_back | go_simp)
  go_cut [8] (fun s8 wx => ∃ (i : Nat) (s : LgS), s8 = .int .i64 i ∧ i ≤ 20 ∧ Sq a i s ∧ Own w [] wx [logT g s])
  case first =>
    as_aux_lemma =>
      go_wp2_with fail
      go_loopw [8, 9] (fun s8 s9 wr => ∃ (i : Nat) (s : LgS), s8 = .int .i64 i ∧ s9 = .int .i64 i ∧ i ≤ mm ∧ Sp a i s ∧ Own w [] wr [logT g s]) (fun _ s9 _ => mm - (intOf s9).toNat)
      case atStart => exact ⟨0, _, rfl, rfl, by omega, HS0.out, HW2.out⟩
      case round =>
        obtain ⟨i, s, rfl, rfl, hi, hsp, hw⟩ := hrel
        have HW := Lib.hid hw
        have HSP := Lib.hid hsp
        clear hw hsp HW2 HS0
        by_cases hlt : i < mm
        case neg =>
          have hlt' : decide ((i : Int) < (mm : Int)) = false := by simp; omega
          go_wp2_with fail
          go_meet
          case rel => exact ⟨i, s, rfl, by omega, HSP.out.sq ha, HW.out⟩
        have hlt' : (i : Int) < (mm : Int) := by omega
        have HN := Lib.hid (HSP.out.next (by omega) (by omega))
        have hf1 := few_of HSP.out
        have hf2 := few_of HN.out.2.2.2
        obtain ⟨S, hS, up⟩ := HW.out.at_ 0 rfl
        go_wp2_with fail
        refine (gcame g s (-1) _ S hS (wf_small (by omega) (by omega)) (HP.out.later HW.out.since) hf1).mono ?_
        rintro e w3 ⟨rfl, hl⟩
        rw [HN.out.1] at hl
        have HW3 : Hid (Own w [] w3 [logT g s]) := Lib.hid (up _ _ hl)
        rw [HN.out.2.1]
        obtain ⟨E1, hE1⟩ : ∃ E, (if a < i then (6 : Int) else 1) = E := ⟨_, rfl⟩
        have HE1 := Lib.hid hE1
        rw [hE1]
        clear hl hS up HW hE1
        obtain ⟨b1, hb1⟩ : ∃ b, lgB s (-1) = b := ⟨_, rfl⟩
        rw [hb1]
        clear hb1
        obtain ⟨S, hS, up⟩ := HW3.out.at_ 0 rfl
        go_wp2_with fail
        refine (gcame g s (i : Int) _ S hS (wf_small (by omega) (by omega)) (HP.out.later HW3.out.since) hf1).mono ?_
        rintro e w4 ⟨rfl, hl⟩
        have HW4 : Hid (Own w [] w4 [logT g (lgN s (i : Int))]) := Lib.hid (up _ _ hl)
        rw [HN.out.2.2.1]
        obtain ⟨E2, hE2⟩ : ∃ E, (if a ≤ i then (6 : Int) else 0) = E := ⟨_, rfl⟩
        have HE2 := Lib.hid hE2
        rw [hE2]
        clear hl hS up HW3 hE2
        obtain ⟨b2, hb2⟩ : ∃ b, lgB s (i : Int) = b := ⟨_, rfl⟩
        rw [hb2]
        clear hb2 hf1 hf2
        go_wp2_with fail
        refine (same_error E1 6 _ (HE.out.later HW4.out.since)).mono ?_
        rintro e w5 ⟨rfl, hb5⟩
        have HW5 := Lib.hid (HW4.out.later hb5)
        clear hb5 HW4
        go_wp2_with fail
        refine (same_error E1 1 _ (HE.out.later HW5.out.since)).mono ?_
        rintro e w6 ⟨rfl, hb6⟩
        have HW6 := Lib.hid (HW5.out.later hb6)
        clear hb6 HW5
        go_wp2_with fail
        refine (same_error E2 6 _ (HE.out.later HW6.out.since)).mono ?_
        rintro e w7 ⟨rfl, hb7⟩
        have HW7 := Lib.hid (HW6.out.later hb7)
        clear hb7 HW6
        have HSN := Lib.hid HN.out.2.2.2
        clear HN HSP
        generalize lgN s (i : Int) = s2 at *
        by_cases c1 : a < i
        · have e1 : E1 = 6 := by rw [← HE1.out, if_pos c1]
          have e2 : E2 = 6 := by rw [← HE2.out, if_pos (by omega)]
          subst e1 e2
          have c1' : (a : Int) < (i : Int) := by omega
          have c2' : decide ((i : Int) ≤ (a : Int)) = false := by simp; omega
          have c3' : ((i : Int) == (a : Int)) = false := by rw [beq_eq_false_iff_ne]; omega
          have c4' : decide ((i : Int) < (a : Int)) = false := by simp; omega
          clear HE1 HE2 c1
          go_wp2_with fail
          go_roundw
          case rel => exact ⟨i + 1, s2, by go_num, by go_num, by omega, HSN.out, HW7.out⟩
          case measure => simp [intOf]; omega
        · have e1 : E1 = 1 := by rw [← HE1.out, if_neg c1]
          subst e1
          have c1' : decide ((a : Int) < (i : Int)) = false := by simp; omega
          have c2' : (i : Int) ≤ (a : Int) := by omega
          by_cases c2 : i = a
          · have e2 : E2 = 6 := by rw [← HE2.out, if_pos (by omega)]
            subst e2
            have c3' : ((i : Int) == (a : Int)) = true := by rw [c2]; simp
            have c4' : decide ((i : Int) < (a : Int)) = false := by simp; omega
            clear HE1 HE2 c1 c3' c4' c1' c2'
            subst c2
            go_wp2_with fail
            go_roundw
            case rel => exact ⟨i + 1, s2, by go_num, by go_num, by omega, HSN.out, HW7.out⟩
            case measure => simp [intOf]; omega
          · have e2 : E2 = 0 := by rw [← HE2.out, if_neg (by omega)]
            subst e2
            have c3' : ((i : Int) == (a : Int)) = false := by rw [beq_eq_false_iff_ne]; omega
            have c4' : (i : Int) < (a : Int) := by omega
            rw [errV_zero]
            clear HE1 HE2 c1
            go_wp2_with fail
            go_roundw
            case rel => exact ⟨i + 1, s2, by go_num, by go_num, by omega, HSN.out, HW7.out⟩
            case measure => simp [intOf]; omega
  case rest =>
    as_aux_lemma =>
      obtain ⟨i0, s0, rfl, hi0, hsq0, hw0⟩ := hcut
      have HWA := Lib.hid hw0
      have HQ0 := Lib.hid hsq0
      clear hw0 hsq0 HW2 HS0
      obtain ⟨wo, rfl⟩ : ∃ x : World, x = wc := ⟨_, rfl⟩
      go_wp2_with fail
      go_loopw [8] (fun s8 wr => ∃ (i : Nat) (s : LgS), s8 = .int .i64 i ∧ i ≤ 21 ∧ Sq a i s ∧ Own w [] wr [logT g s]) (fun s8 _ => 22 - (intOf s8).toNat)
      case atStart => exact ⟨i0, s0, rfl, by omega, HQ0.out, HWA.out⟩
      case round =>
        obtain ⟨i, s, rfl, hi, hsq, hw⟩ := hrel
        have HW := Lib.hid hw
        have HSQ := Lib.hid hsq
        clear hw hsq HWA HQ0
        by_cases hle : i ≤ a
        case pos =>
          have hle' : (i : Int) ≤ (a : Int) := by omega
          have HN := Lib.hid (HSQ.out.sync hle)
          obtain ⟨S, hS, up⟩ := HW.out.at_ 0 rfl
          go_wp2_with fail
          refine (gsync g s _ S hS).mono ?_
          rintro e w3 ⟨rfl, hl⟩
          have HW3 : Hid (Own w [] w3 [logT g s.sync]) := Lib.hid (up _ _ hl)
          rw [HN.out.1]
          have HN2 := Lib.hid HN.out.2
          clear hl hS up HW HN
          by_cases c2 : i = a
          · have c3' : ((i : Int) == (a : Int)) = true := by rw [c2]; simp
            rw [if_pos c2, errV_pos (show (6 : Int) ≠ 0 by decide)]
            clear c2 hle
            go_wp2_with fail
            go_roundw
            case rel => exact ⟨i + 1, s.sync, by go_num, by omega, HN2.out, HW3.out⟩
            case measure => simp [intOf]; omega
          · have c3' : ((i : Int) == (a : Int)) = false := by rw [beq_eq_false_iff_ne]; omega
            rw [if_neg c2, errV_zero]
            clear c2 hle
            go_wp2_with fail
            go_roundw
            case rel => exact ⟨i + 1, s.sync, by go_num, by omega, HN2.out, HW3.out⟩
            case measure => simp [intOf]; omega
        have hle' : decide ((i : Int) ≤ (a : Int)) = false := by simp; omega
        have hle2 : ¬ i ≤ a := hle
        have hle3 : (a : Int) < (i : Int) := by omega
        have HN := Lib.hid (HSQ.out.end_ (by omega))
        obtain ⟨m, t, hm, hok, -⟩ := HSQ.out.ok
        have HOK := Lib.hid hok
        clear hok hle
        obtain ⟨S, hS, up⟩ := HW.out.at_ 0 rfl
        go_wp2_with fail
        refine (gsync g s _ S hS).mono ?_
        rintro e w3 ⟨rfl, hl⟩
        rw [HN.out.2.1] at hl
        have HW3 : Hid (Own w [] w3 [logT g s]) := Lib.hid (up _ _ hl)
        rw [HN.out.1, errV_pos (show (6 : Int) ≠ 0 by decide)]
        clear hl hS up HW
        have hf1 := HOK.out.few
        obtain ⟨S, hS, up⟩ := HW3.out.at_ 0 rfl
        go_wp2_with fail
        refine (gcame g s 3 _ S hS (wf_small (by omega) (by omega)) (HP.out.later HW3.out.since) hf1).mono ?_
        rintro e w4 ⟨rfl, hl⟩
        rw [HN.out.2.2.2] at hl
        have HW4 : Hid (Own w [] w4 [logT g s]) := Lib.hid (up _ _ hl)
        rw [HN.out.2.2.1, errV_pos (show (6 : Int) ≠ 0 by decide)]
        obtain ⟨b1, hb1⟩ : ∃ b, lgB s 3 = b := ⟨_, rfl⟩
        rw [hb1]
        clear hl hS up HW3 hb1 hf1 HN HSQ
        go_wp2_with fail
        refine (same_at 6 6 (by decide) _ (HE.out.later HW4.out.since)).mono ?_
        rintro e w5 ⟨rfl, hb5⟩
        have HW5 := Lib.hid (HW4.out.later hb5)
        clear hb5 HW4
        go_wp2_with fail
        refine (same_at 6 6 (by decide) _ (HE.out.later HW5.out.since)).mono ?_
        rintro e w6 ⟨rfl, hb6⟩
        have HW6 := Lib.hid (HW5.out.later hb6)
        clear hb6 HW5
        obtain ⟨S, hS, up⟩ := HW6.out.at_ 0 rfl
        go_wp2_with fail
        refine (gcrash g s (firsts m) t kp _ S hS HOK.out).mono ?_
        rintro e w7 ⟨rfl, j, hwh, hl⟩
        obtain ⟨m2, hm2, e2⟩ := firsts_take m j
        rw [e2] at hl
        have HW7 : Hid (Own w [] w7 [logT g (LgS.left_ (firsts m2))]) := Lib.hid (up _ _ hl)
        have HAG := Lib.hid (again_ (ns := firsts m2) (i := m2) (by omega) rfl)
        have hf2 := (LgS.left_ok (firsts_adds m2 (by omega)).1 (by rw [firsts_len]; omega)).few
        clear hl hS up HW6 hwh e2 HOK
        obtain ⟨S, hS, up⟩ := HW7.out.at_ 0 rfl
        obtain ⟨s1, hs1⟩ : ∃ x, LgS.left_ (firsts m2) = x := ⟨_, rfl⟩
        rw [hs1] at HAG hf2 hS
        go_wp2_with fail
        refine (gcame g s1 500 _ S hS (wf_small (by omega) (by omega)) (HP.out.later HW7.out.since) hf2).mono ?_
        rintro e w8 ⟨rfl, hl⟩
        have HW8 : Hid (Own w [] w8 [logT g (lgN s1 500)]) := Lib.hid (up _ _ hl)
        rw [HAG.out.1, HAG.out.2.1, errV_zero]
        have HA3 := Lib.hid HAG.out.2.2
        clear hl hS up HW7 hf2 hs1 HAG
        generalize lgN s1 500 = s2 at *
        obtain ⟨S, hS, up⟩ := HW8.out.at_ 0 rfl
        go_wp2_with fail
        refine (gsync g s2 _ S hS).mono ?_
        rintro e w9 ⟨rfl, hl⟩
        have HW9 : Hid (Own w [] w9 [logT g s2.sync]) := Lib.hid (up _ _ hl)
        rw [HA3.out.1, errV_zero]
        have HA4 := Lib.hid HA3.out.2
        clear hl hS up HW8 HA3
        generalize s2.sync = s3 at *
        obtain ⟨S, hS, -⟩ := HW9.out.at_ 0 rfl
        go_wp2_with fail
        refine (ghas g s3 500 _ S hS HA4.out.2.2.2).mono ?_
        rintro e w10 ⟨rfl, hb10⟩
        rw [HA4.out.1, HA4.out.2.1, errV_zero]
        have HW10 := Lib.hid (HW9.out.later hb10)
        clear hb10 hS HW9
        obtain ⟨S, hS, -⟩ := HW10.out.at_ 0 rfl
        go_wp2_with fail
        refine (gsafe g s3 _ S hS).mono ?_
        rintro e w11 ⟨rfl, rfl⟩
        rw [HA4.out.2.2.1]
        go_wp2_with fail
        refine (gbytes g s3 _ S hS).mono ?_
        rintro e w12 ⟨rfl, rfl⟩
        go_wp2_with fail
        go_ret
        exact ⟨by first | rfl | simp, HW10.out.since⟩

/-! the row -/
theorem own : ownKnob Tryz.prog.godebug = none := by kernel_rfl
theorem laidOut : laidOutB Tryz.prog = true := by kernel_rfl
set_option maxRecDepth 100000 in
theorem contract (H : Type) (enc : TypeId × Value → H) (W : World) (base : Nat) (args : Array Value) (ds gs : List (DataW H)) (before : List MemPlace)
    (hval : ∀ (j : Nat) t v, Tryz.f4.params[j]? = some t → args[j]? = some v → Value.okWide Tryz.prog W .any base t v)
    (hW : DataW.Whole enc Tryz.prog Tryz.f4.params.toList Rows.logStopsSpec.vars false W args.toList ds gs before) (hL : laidMetH Tryz.prog Rows.logStopsRow.laid W) :
    Calls Tryz.prog 4 args W fun e W' => ∃ v, e = .returned v ∧ Rows.logStopsSpec.post enc Tryz.prog Tryz.f4 false true false false W args v W' := by
  have hW' := hW
  obtain ⟨p, q, hA0, hV, rfl, hfz, hnd⟩ := hW
  have hA : DataW.TrodAll enc Tryz.prog W 0 (fun _ => true) true Tryz.f4.params.toList args.toList ds p := hA0
  rw [Tryz.params4] at hA hval
  obtain ⟨v0, vs0, d0, ds0, p0, q0, hargs, rfl, rfl, h0, r0⟩ := trodAll_cons hA
  obtain ⟨v1, vs1, d1, ds1, p1, q1, rfl, rfl, rfl, h1, r1⟩ := trodAll_cons r0
  obtain ⟨v2, vs2, d2, ds2, p2, q2, rfl, rfl, rfl, h2, r2⟩ := trodAll_cons r1
  obtain ⟨rfl, rfl, rfl⟩ := trodAll_nil r2
  obtain rfl : args = #[v0, v1, v2] := by cases args; simp_all
  obtain ⟨rfl, rfl⟩ := trodVars_none hV
  obtain ⟨a0, rfl, rfl, rfl, w0⟩ := open_int Tryz.underlying3 (hval 0 3 v0 rfl rfl) h0
  obtain ⟨a1, rfl, rfl, rfl, w1⟩ := open_int Tryz.underlying3 (hval 1 3 v1 rfl rfl) h1
  obtain ⟨a2, rfl, rfl, rfl, w2⟩ := open_int Tryz.underlying3 (hval 2 3 v2 rfl rfl) h2
  have lw := laidWalk hL
  refine (walk a0 a1 a2 W w0 w1 w2 lw).mono fun e W' ⟨he, bel⟩ => ?_
  subst he
  exact ⟨_, rfl, _, _, _, [], _, [], hW', trodAll_mk1 (shut_bool Tryz.underlying4 _), (trodAll_cons_mk (shut_int Tryz.underlying3 w0) (trodAll_cons_mk (shut_int Tryz.underlying3 w1) (trodAll_cons_mk (shut_int Tryz.underlying3 w2) trodAll_mk0))), rfl, bel.frame _, fun h => by cases h⟩

theorem reads (os : Os) {H : Type} (enc : TypeId × Value → H) : ∃ places, DataW.whole enc Tryz.prog ((laidWorld os).forCall (fun _ _ => 0) ⟨#[], #[.int .i64 0, .int .i64 0, .int .i64 0], []⟩).memory Tryz.f4.params.toList Rows.logStopsSpec.vars false (#[.int .i64 0, .int .i64 0, .int .i64 0] : Array Value).toList 8 = some ([.lit (.int .i64 0), .lit (.int .i64 0), .lit (.int .i64 0)], [], places) :=
  ⟨[], by kernel_rfl⟩
theorem laid_met (os : Os) : laidMetH Tryz.prog Rows.logStopsRow.laid ((laidWorld os).forCall (fun _ _ => 0) ⟨#[], #[.int .i64 0, .int .i64 0, .int .i64 0], []⟩).memory := laidMetW os _

set_option maxRecDepth 100000 in
theorem lifted (os : Os) (started : os.Started) (H : Type) (enc : TypeId × Value → H) (F : Stop.Interp) :
    ReturnsInHanded {} Tryz.checked os 4 .any ((OpenSpec.ofChange Rows.logStopsSpec).preRow enc Tryz.prog Tryz.f4 Rows.logStopsRow.domain false Rows.logStopsRow.laid) (((OpenSpec.ofChange Rows.logStopsSpec).at F).post enc Tryz.prog Tryz.f4 false true false false) := by
  obtain ⟨places, hx⟩ := reads os enc
  refine returnsInHanded_of_row (C := Tryz.checked) (s := OpenSpec.ofChange Rows.logStopsSpec) own started (by kernel_rfl) Tryz.func4
    (witness_row_at (enc := enc) (C := Tryz.checked) false (laidWorld os) #[.int .i64 0, .int .i64 0, .int .i64 0] rfl (by kernel_rfl) (by kernel_rfl) (by kernel_rfl)
      (OpenSpec.preRow_of_cond 8 hx (by kernel_rfl) (fun k hk => by cases hk) (by kernel_rfl) (laid_met os))) ?_
  intro W base args ds gs before hval hW _ _ _ hL _ _
  exact contract H enc W base args ds gs before hval hW hL

theorem said : Rows.LogStopsSaid :=
  OpenClaim.holds_of_cond 4 Tryz.f4 rfl rfl rfl rfl rfl rfl rfl ⟨rfl, rfl, rfl, rfl, rfl⟩ rfl rfl rfl rfl rfl (by kernel_rfl) Tryz.func4 (by kernel_rfl)
    (of_decide_eq_true (by kernel_rfl)) (by unfold Func.isWrapper; first | (rw [if_pos (by decide +kernel)]; kernel_rfl) | (rw [if_neg (by decide +kernel)]; exact ⟨rfl, rfl⟩))
    (fun os started H enc _ F => by rw [OpenClaim.pre_eq_preRow]; exact lifted os started H enc F)

theorem plain (f : FuncId) (fn : Func) (hf : Tryz.pinned.checked.prog.funcNamed "wanderwire/wirelaw3.LogStops" = some f) (hfn : Tryz.pinned.checked.prog.funcs[f]? = some fn) :
    true = Tryz.pinned.checked.prog.looks [] ∧ ∀ (j : Nat) t, fn.params[j]? = some t → Tryz.pinned.checked.prog.wantsStandIn t = false := by
  obtain rfl : f = 4 := Option.some.inj ((show Tryz.prog.funcNamed "wanderwire/wirelaw3.LogStops" = some 4 by kernel_rfl).symm.trans hf) |>.symm
  obtain rfl : fn = Tryz.f4 := (Option.some.inj (Tryz.func4.symm.trans hfn)).symm
  refine ⟨by kernel_rfl, fun j t ht => ?_⟩
  rw [Tryz.params4] at ht
  have ht' := Array.mem_of_getElem? ht
  have hall : (([3, 3, 3] : List Nat).all fun t => !Tryz.prog.wantsStandIn t) = true := by kernel_rfl
  have hq := List.all_eq_true.1 hall t (by simpa using ht')
  have hq2 : Tryz.prog.wantsStandIn t = false := by simpa using hq
  exact hq2

theorem card : Rows.LogStopsCardSaid :=
  Claim7.holds_tied_plain_at .later [] _ _ _ _ said (fun _ h => by cases h) (by kernel_rfl) (fun _ h => by cases h) logStops_row_tie rfl ⟨rfl, rfl⟩ (by kernel_rfl) rfl plain (by kernel_rfl)
#print axioms card
end Go.Proofs.YtjjmoaaongnjiaaGreatDoor.logStops
