/- VarintTells: for every number, bytes and numbers the law returns true: the bytes of any number, how many, those of any numbers, and the number that any bytes begin with, are as the reference says. Conditions: errors.errorType holds its handle and the table of kinds what the program's text lays (the row lists both, the card ties them). -/
import Derived.Test.YtmofahmkgignaaaDoorVAll
import Derived.Test.YtmofahmkgignaaaDoorVRGet
import Derived.Test.YtmofahmkgignaaaDoorLaid
import Derived.Test.YtmofahmkgignaaaDoorRules
import Derived.Test.YtmofahmkgignaaaDoorSince
import Derived.Deep.DeepCutAuto
import Derived.Test.YtmofahmkgignaaaDoorCards
import Derived.Test.YtmofahmkgignaaaDoorTie
import Derived.Deep.DeepHandedRow
import Derived.LaidLaws
import Derived.LaidHandle
import Derived.Deep.DeepWitnessRowRef
import Derived.Test.YtmofahmkgignaaaDoorRows
import Derived.WalkKit
import Derived.ProofKit
import Derived.OpenShut
import Derived.ShutString
import Derived.ChangeOld
import Derived.Below
import Derived.Lib.SmallJoins
import Derived.Deep.Slices
import Derived.Deep.Matrix
import Derived.Deep.Strs
namespace Go.Proofs.YtmofahmkgignaaaDoor.varintTells
open Go.ChangeShapes Go.WideShapes Go.ChangeAt Go.RowKit
open Go.ChangeMaps (open_string shut_string)
set_option linter.unusedVariables false

noncomputable abbrev laidWorld := YtmofahmkgignaaaDoor.laidWorld
theorem laidMetW (os : Os) (args : Array Value) : laidMetH Tryd.prog Rows.varintTellsRow.laid ((laidWorld os).forCall (fun _ _ => 0) ⟨#[], args, []⟩).memory := laidMet_both os args
theorem laidWalk {W : World} (h : laidMetH Tryd.prog Rows.varintTellsRow.laid W) : ETok W ∧ KTab W := laid_both h

theorem put_in {n : Int} (h : MayBe n) : vputL n = vbytes n ∧ vlongV n = longN n ∧ vputE n = 0 := by unfold vputL vlongV vputE; rw [if_pos h, if_pos h, if_pos h]; exact ⟨rfl, rfl, rfl⟩
theorem put_out {n : Int} (h : ¬ MayBe n) : vputL n = [] ∧ vlongV n = 0 ∧ vputE n = 1 := by unfold vputL vlongV vputE; rw [if_neg h, if_neg h, if_neg h]; exact ⟨rfl, rfl, rfl⟩

set_option maxRecDepth 100000 in
set_option maxHeartbeats 1600000 in
theorem walk (n : Int) (s : ByteArray) (v2 : Value) (zs : List Int) (w : World) (w0 : (Lit.int .i64 n).wf = true) (w1 : s.size ≤ maxLen) (w2 : IntsIn w v2 zs) (hL : ETok w ∧ KTab w) :
    Calls Tryd.prog 7 #[.int .i64 n, .string s, v2] w fun e w' => e = .returned (.bool true) ∧ Below w.heap.size w w' := by
  have HE := Lib.hid hL.1
  have HK := Lib.hid hL.2
  have HV := Lib.hid w2
  obtain ⟨bd0, A, cap, rfl, hle0, hm0, hc⟩ := w2
  have HC := Lib.hid hc
  unfold maxLen at hm0 w1
  have hs : s.size ≤ 9223372036854775807 := by omega
  clear hc hL w0 w1 bd0
  go_enter Tryd.func7, Tryd.ntmps7
  repeat ((fail_if_success (with_reducible refine stop_at 5 ?_)); first | (first | (go_at_call 17; refine (rmay_any n _).mono ?_; rintro e w' ⟨rfl, rfl⟩)) | go_values | go_skip | go_guarded | go_step | go_upon | go_back | go_simp)
  go_cut [7, 8, 9, 10] (fun s7 s8 s9 s10 wx => s7 = .int .i64 (vputE n) ∧ s8 = .string ⟨(vputL n).toArray⟩ ∧ s9 = .int .i64 (vlongV n) ∧ Since w wx)
  case first =>
    by_cases h : MayBe n
    · have HN := Lib.hid (put_in h)
      have m1 := mayB_iff.2 h
      have n0 := h.1
      have n1 := h.2
      clear h
      rw [m1]
      go_wp2_with (first | (go_at_call 28; refine (rbytes_any n n0 n1 _).mono ?_; rintro e w1 ⟨rfl, hb1⟩) | (go_at_call 29; refine (rlong_any n _).mono ?_; rintro e w' ⟨rfl, rfl⟩))
      go_meet
      case rel => exact ⟨by rw [HN.out.2.2], by rw [HN.out.1], by rw [HN.out.2.1], (by refine Since.out ?_; repeat (first | with_reducible assumption | with_reducible exact Since.refl _ | with_reducible refine Since.later ?_ (by with_reducible assumption) | with_reducible refine Since.only ?_ (by with_reducible assumption) (by first | assumption | omega | (simp; done) | (simp; omega)) | with_reducible refine Since.alloc ?_ _ | with_reducible refine Since.drewN ?_ _ | with_reducible refine Since.drew ?_ | with_reducible refine Since.set ?_ (by first | assumption | omega | (simp; done) | (simp; omega)) _))⟩
    · have HN := Lib.hid (put_out h)
      have m1 := mayB_not h
      clear h
      rw [m1]
      go_wp2_with fail
      go_meet
      case rel => exact ⟨by rw [HN.out.2.2], by rw [HN.out.1], by rw [HN.out.2.1], (by refine Since.out ?_; repeat (first | with_reducible assumption | with_reducible exact Since.refl _ | with_reducible refine Since.later ?_ (by with_reducible assumption) | with_reducible refine Since.only ?_ (by with_reducible assumption) (by first | assumption | omega | (simp; done) | (simp; omega)) | with_reducible refine Since.alloc ?_ _ | with_reducible refine Since.drewN ?_ _ | with_reducible refine Since.drew ?_ | with_reducible refine Since.set ?_ (by first | assumption | omega | (simp; done) | (simp; omega)) _))⟩
  case rest =>
    obtain ⟨rfl, rfl, rfl, hs1⟩ := hcut
    repeat ((fail_if_success (with_reducible refine stop_at 15 ?_)); first | (first | (go_at_call 25; refine (vput_any n _ (HK.out.later (by refine Since.out ?_; repeat (first | with_reducible assumption | with_reducible exact Since.refl _ | with_reducible refine Since.later ?_ (by with_reducible assumption) | with_reducible refine Since.only ?_ (by with_reducible assumption) (by first | assumption | omega | (simp; done) | (simp; omega)) | with_reducible refine Since.alloc ?_ _ | with_reducible refine Since.drewN ?_ _ | with_reducible refine Since.drew ?_ | with_reducible refine Since.set ?_ (by first | assumption | omega | (simp; done) | (simp; omega)) _)))).mono ?_; rintro e w1 ⟨rfl, hb1⟩) | (go_at_call 24; refine (vlong_any n _ (HK.out.later (by refine Since.out ?_; repeat (first | with_reducible assumption | with_reducible exact Since.refl _ | with_reducible refine Since.later ?_ (by with_reducible assumption) | with_reducible refine Since.only ?_ (by with_reducible assumption) (by first | assumption | omega | (simp; done) | (simp; omega)) | with_reducible refine Since.alloc ?_ _ | with_reducible refine Since.drewN ?_ _ | with_reducible refine Since.drew ?_ | with_reducible refine Since.set ?_ (by first | assumption | omega | (simp; done) | (simp; omega)) _)))).mono ?_; rintro e w2 ⟨rfl, hb2⟩) | (go_at_call 12; refine (same_yes _ _ (HE.out.later (by refine Since.out ?_; repeat (first | with_reducible assumption | with_reducible exact Since.refl _ | with_reducible refine Since.later ?_ (by with_reducible assumption) | with_reducible refine Since.only ?_ (by with_reducible assumption) (by first | assumption | omega | (simp; done) | (simp; omega)) | with_reducible refine Since.alloc ?_ _ | with_reducible refine Since.drewN ?_ _ | with_reducible refine Since.drew ?_ | with_reducible refine Since.set ?_ (by first | assumption | omega | (simp; done) | (simp; omega)) _)))).mono ?_; rintro e w3 ⟨rfl, hb3⟩) | (go_at_call 30; refine (rget_any s hs _).mono ?_; rintro e w' ⟨rfl, rfl⟩)) | go_values | go_skip | go_guarded | go_step | go_upon | go_back | go_simp)
    go_cut [7, 18] (fun s7 s18 wx => s7 = .int .i64 (getE s.data.toList) ∧ Since w wx)
    case first =>
      by_cases h : getOk s.data.toList
      · have hb : getB s.data.toList = true := decide_eq_true h
        have HN : Hid (getE s.data.toList = 0) := Lib.hid (by unfold getE; rw [if_pos h])
        clear h
        rw [hb]
        go_wp2_with fail
        go_meet
        case rel => exact ⟨by rw [HN.out], (by refine Since.out ?_; repeat (first | with_reducible assumption | with_reducible exact Since.refl _ | with_reducible refine Since.later ?_ (by with_reducible assumption) | with_reducible refine Since.only ?_ (by with_reducible assumption) (by first | assumption | omega | (simp; done) | (simp; omega)) | with_reducible refine Since.alloc ?_ _ | with_reducible refine Since.drewN ?_ _ | with_reducible refine Since.drew ?_ | with_reducible refine Since.set ?_ (by first | assumption | omega | (simp; done) | (simp; omega)) _))⟩
      · have hb : getB s.data.toList = false := decide_eq_false h
        have HN : Hid (getE s.data.toList = 2) := Lib.hid (by unfold getE; rw [if_neg h])
        clear h
        rw [hb]
        go_wp2_with fail
        go_meet
        case rel => exact ⟨by rw [HN.out], (by refine Since.out ?_; repeat (first | with_reducible assumption | with_reducible exact Since.refl _ | with_reducible refine Since.later ?_ (by with_reducible assumption) | with_reducible refine Since.only ?_ (by with_reducible assumption) (by first | assumption | omega | (simp; done) | (simp; omega)) | with_reducible refine Since.alloc ?_ _ | with_reducible refine Since.drewN ?_ _ | with_reducible refine Since.drew ?_ | with_reducible refine Since.set ?_ (by first | assumption | omega | (simp; done) | (simp; omega)) _))⟩
    case rest =>
      obtain ⟨rfl, hs2⟩ := hcut
      have HE2 : Hid (ETok wc) := Lib.hid (HE.out.later (by refine Since.out ?_; repeat (first | with_reducible assumption | with_reducible exact Since.refl _ | with_reducible refine Since.later ?_ (by with_reducible assumption) | with_reducible refine Since.only ?_ (by with_reducible assumption) (by first | assumption | omega | (simp; done) | (simp; omega)) | with_reducible refine Since.alloc ?_ _ | with_reducible refine Since.drewN ?_ _ | with_reducible refine Since.drew ?_ | with_reducible refine Since.set ?_ (by first | assumption | omega | (simp; done) | (simp; omega)) _)))
      repeat ((fail_if_success (with_reducible refine stop_at 21 ?_)); first | (first | (go_at_call 26; refine (vget_any s hs _ (HK.out.later (by refine Since.out ?_; repeat (first | with_reducible assumption | with_reducible exact Since.refl _ | with_reducible refine Since.later ?_ (by with_reducible assumption) | with_reducible refine Since.only ?_ (by with_reducible assumption) (by first | assumption | omega | (simp; done) | (simp; omega)) | with_reducible refine Since.alloc ?_ _ | with_reducible refine Since.drewN ?_ _ | with_reducible refine Since.drew ?_ | with_reducible refine Since.set ?_ (by first | assumption | omega | (simp; done) | (simp; omega)) _)))).mono ?_; rintro e w4 ⟨rfl, hb4⟩) | (go_at_call 12; refine (same_yes _ _ (HE.out.later (by refine Since.out ?_; repeat (first | with_reducible assumption | with_reducible exact Since.refl _ | with_reducible refine Since.later ?_ (by with_reducible assumption) | with_reducible refine Since.only ?_ (by with_reducible assumption) (by first | assumption | omega | (simp; done) | (simp; omega)) | with_reducible refine Since.alloc ?_ _ | with_reducible refine Since.drewN ?_ _ | with_reducible refine Since.drew ?_ | with_reducible refine Since.set ?_ (by first | assumption | omega | (simp; done) | (simp; omega)) _)))).mono ?_; rintro e w3 ⟨rfl, hb3⟩)) | go_values | go_skip | go_guarded | go_step | go_upon | go_back | go_simp)
      go_cut [7] (fun s7 wx => s7 = .int .i64 (if 40 < zs.length then 4 else 0) ∧ Since w wx)
      case first =>
        by_cases h40 : 40 < zs.length
        · have h41 : (40 : Int) < (zs.length : Int) := by omega
          have HI : Hid ((if 40 < zs.length then (4 : Int) else 0) = 4) := Lib.hid (if_pos h40)
          clear h40
          go_wp2_with fail
          go_meet
          case rel => exact ⟨by rw [HI.out], (by refine Since.out ?_; repeat (first | with_reducible assumption | with_reducible exact Since.refl _ | with_reducible refine Since.later ?_ (by with_reducible assumption) | with_reducible refine Since.only ?_ (by with_reducible assumption) (by first | assumption | omega | (simp; done) | (simp; omega)) | with_reducible refine Since.alloc ?_ _ | with_reducible refine Since.drewN ?_ _ | with_reducible refine Since.drew ?_ | with_reducible refine Since.set ?_ (by first | assumption | omega | (simp; done) | (simp; omega)) _))⟩
        · have h41 : decide ((40 : Int) < (zs.length : Int)) = false := by simp; omega
          have HI : Hid ((if 40 < zs.length then (4 : Int) else 0) = 0) := Lib.hid (if_neg h40)
          clear h40
          go_wp2_with fail
          go_meet
          case rel => exact ⟨by rw [HI.out], (by refine Since.out ?_; repeat (first | with_reducible assumption | with_reducible exact Since.refl _ | with_reducible refine Since.later ?_ (by with_reducible assumption) | with_reducible refine Since.only ?_ (by with_reducible assumption) (by first | assumption | omega | (simp; done) | (simp; omega)) | with_reducible refine Since.alloc ?_ _ | with_reducible refine Since.drewN ?_ _ | with_reducible refine Since.drew ?_ | with_reducible refine Since.set ?_ (by first | assumption | omega | (simp; done) | (simp; omega)) _))⟩
      case rest =>
        obtain ⟨rfl, hs3⟩ := hcut
        repeat ((fail_if_success (with_reducible refine stop_at 23 ?_)); first | fail | go_values | go_skip | go_guarded | go_step | go_upon | go_back | go_simp)
        go_cut [7, 8, 10, 22] (fun s7 s8 s10 s22 wx => s7 = .int .i64 (allE zs) ∧ s8 = .string ⟨(allV zs).toArray⟩ ∧ Since w wx)
        case first =>
          by_cases h40 : 40 < zs.length
          · have HA := Lib.hid (allE_long h40)
            have h41 : (0 : Int) < (zs.length : Int) := by omega
            rw [if_pos h40]
            clear h40
            go_wp2_with fail
            refine wp_loop_rounds 1 ?_
            rw [rounds_succ]
            go_wp2_with fail
            go_meet
            case rel => exact ⟨by rw [HA.out.1], by rw [HA.out.2], (by refine Since.out ?_; repeat (first | with_reducible assumption | with_reducible exact Since.refl _ | with_reducible refine Since.later ?_ (by with_reducible assumption) | with_reducible refine Since.only ?_ (by with_reducible assumption) (by first | assumption | omega | (simp; done) | (simp; omega)) | with_reducible refine Since.alloc ?_ _ | with_reducible refine Since.drewN ?_ _ | with_reducible refine Since.drew ?_ | with_reducible refine Since.set ?_ (by first | assumption | omega | (simp; done) | (simp; omega)) _))⟩
          · rw [if_neg h40]
            have H40 := Lib.hid h40
            have hz : zs.length ≤ 40 := by omega
            clear h40
            go_wp2_with fail
            go_loopw [7, 8, 22] (fun s7 s8 s22 wr => ∃ (k : Nat) (e : Int) (l : List UInt8), k ≤ zs.length ∧ s22 = .int .i64 k ∧ s7 = .int .i64 e ∧ s8 = .string ⟨l.toArray⟩ ∧ Hid ((e = 0 ∧ l = allL (zs.take k) ∧ ∀ z ∈ zs.take k, MayBe z) ∨ (e = 1 ∧ l = [] ∧ ¬ ∀ z ∈ zs, MayBe z)) ∧ Since w wr) (fun _ _ s22 _ => zs.length - (intOf s22).toNat)
            case atStart => exact ⟨0, 0, [], Nat.zero_le _, rfl, rfl, rfl, Lib.hid (Or.inl ⟨rfl, by simp [allL], by simp⟩), hs3⟩
            case round =>
              obtain ⟨k, e, l, hkz, rfl, rfl, rfl, hI, hs4⟩ := hrel
              rcases hI.out with ⟨he, hl, hmay⟩ | ⟨he, hl, hmay⟩
              · subst he
                by_cases hlt : k < zs.length
                · obtain ⟨b, off, rfl, hbl, hcc⟩ := HC.out (by rintro rfl; simp at hlt)
                  have cz : wr.cell? ⟨b, off + k, none⟩ = some (.int .i64 (ith zs k)) := hs4.cell hbl (hcc k hlt)
                  have hmem := ith_mem hlt
                  have HT := Lib.hid (take_ith hlt)
                  have hlt2 : (k : Int) < (zs.length : Int) := by omega
                  have HL := Lib.hid hl
                  have HM := Lib.hid hmay
                  obtain ⟨z, hzz⟩ : ∃ z, ith zs k = z := ⟨_, rfl⟩
                  rw [hzz] at cz hmem
                  have HZ := Lib.hid hzz
                  clear hcc hzz hI hl hmay
                  by_cases hm : MayBe z
                  · have m1 := mayB_iff.2 hm
                    have z0 := hm.1
                    have z1 := hm.2
                    have HMZ := Lib.hid hm
                    have hsum : l.length + (vbytes z).length ≤ 9223372036854775807 := by
                      have q1 := allL_short (zs.take k)
                      have q2 := vbytes_four z
                      have q3 : (zs.take k).length ≤ 40 := by rw [List.length_take]; omega
                      rw [HL.out]
                      omega
                    clear hm
                    go_wp2_with (first | (go_at_call 17; refine (rmay_any z _).mono ?_; rintro e w' ⟨rfl, rfl⟩; rw [m1]) | (go_at_call 28; refine (rbytes_any z z0 z1 _).mono ?_; rintro e w6 ⟨rfl, hb6⟩))
                    go_roundw
                    case rel =>
                      refine ⟨k + 1, 0, l ++ vbytes z, by omega, by go_num, rfl, ?_, Lib.hid (Or.inl ⟨rfl, by rw [HT.out, HZ.out, allL_snoc, HL.out], ?_⟩), (by refine Since.out ?_; repeat (first | with_reducible assumption | with_reducible exact Since.refl _ | with_reducible refine Since.later ?_ (by with_reducible assumption) | with_reducible refine Since.only ?_ (by with_reducible assumption) (by first | assumption | omega | (simp; done) | (simp; omega)) | with_reducible refine Since.alloc ?_ _ | with_reducible refine Since.drewN ?_ _ | with_reducible refine Since.drew ?_ | with_reducible refine Since.set ?_ (by first | assumption | omega | (simp; done) | (simp; omega)) _))⟩
                      · first | rfl | simp [ByteArray.mk_append_mk]
                      · rw [HT.out, HZ.out]
                        intro y hy
                        rcases List.mem_append.1 hy with h | h
                        · exact HM.out y h
                        · rw [List.mem_singleton.1 h]; exact HMZ.out
                    case measure => simp [intOf]; omega
                  · have m1 := mayB_not hm
                    have HMZ : Hid (¬ ∀ z ∈ zs, MayBe z) := Lib.hid (fun h => hm (h z hmem))
                    clear hm
                    go_wp2_with (go_at_call 17; refine (rmay_any z _).mono ?_; rintro e w' ⟨rfl, rfl⟩; rw [m1])
                    go_roundw
                    case rel => exact ⟨k + 1, 1, [], by omega, by go_num, rfl, rfl, Lib.hid (Or.inr ⟨rfl, rfl, HMZ.out⟩), (by refine Since.out ?_; repeat (first | with_reducible assumption | with_reducible exact Since.refl _ | with_reducible refine Since.later ?_ (by with_reducible assumption) | with_reducible refine Since.only ?_ (by with_reducible assumption) (by first | assumption | omega | (simp; done) | (simp; omega)) | with_reducible refine Since.alloc ?_ _ | with_reducible refine Since.drewN ?_ _ | with_reducible refine Since.drew ?_ | with_reducible refine Since.set ?_ (by first | assumption | omega | (simp; done) | (simp; omega)) _))⟩
                    case measure => simp [intOf]; omega
                · obtain rfl : k = zs.length := by omega
                  have HA := Lib.hid (allE_ok H40.out (fun z hz2 => hmay z (by rw [List.take_length]; exact hz2)))
                  have HL : Hid (l = allL zs) := Lib.hid (by rw [hl, List.take_length])
                  clear hI hl hmay
                  go_wp2_with fail
                  go_meet
                  case rel => exact ⟨by rw [HA.out.1], by rw [HA.out.2, HL.out], (by refine Since.out ?_; repeat (first | with_reducible assumption | with_reducible exact Since.refl _ | with_reducible refine Since.later ?_ (by with_reducible assumption) | with_reducible refine Since.only ?_ (by with_reducible assumption) (by first | assumption | omega | (simp; done) | (simp; omega)) | with_reducible refine Since.alloc ?_ _ | with_reducible refine Since.drewN ?_ _ | with_reducible refine Since.drew ?_ | with_reducible refine Since.set ?_ (by first | assumption | omega | (simp; done) | (simp; omega)) _))⟩
              · have HA := Lib.hid (allE_bad H40.out hmay)
                subst he hl
                clear hI hmay
                by_cases hlt : k < zs.length
                · have hlt2 : (k : Int) < (zs.length : Int) := by omega
                  go_wp2_with fail
                  go_meet
                  case rel => exact ⟨by rw [HA.out.1], by rw [HA.out.2], (by refine Since.out ?_; repeat (first | with_reducible assumption | with_reducible exact Since.refl _ | with_reducible refine Since.later ?_ (by with_reducible assumption) | with_reducible refine Since.only ?_ (by with_reducible assumption) (by first | assumption | omega | (simp; done) | (simp; omega)) | with_reducible refine Since.alloc ?_ _ | with_reducible refine Since.drewN ?_ _ | with_reducible refine Since.drew ?_ | with_reducible refine Since.set ?_ (by first | assumption | omega | (simp; done) | (simp; omega)) _))⟩
                · have hlt2 : decide ((k : Int) < (zs.length : Int)) = false := by simp; omega
                  go_wp2_with fail
                  go_meet
                  case rel => exact ⟨by rw [HA.out.1], by rw [HA.out.2], (by refine Since.out ?_; repeat (first | with_reducible assumption | with_reducible exact Since.refl _ | with_reducible refine Since.later ?_ (by with_reducible assumption) | with_reducible refine Since.only ?_ (by with_reducible assumption) (by first | assumption | omega | (simp; done) | (simp; omega)) | with_reducible refine Since.alloc ?_ _ | with_reducible refine Since.drewN ?_ _ | with_reducible refine Since.drew ?_ | with_reducible refine Since.set ?_ (by first | assumption | omega | (simp; done) | (simp; omega)) _))⟩
        case rest =>
          obtain ⟨rfl, rfl, hs4⟩ := hcut
          go_wp2_with (first | (go_at_call 27; refine (vall_any _ zs _ (HV.out.keep (by refine Since.out ?_; repeat (first | with_reducible assumption | with_reducible exact Since.refl _ | with_reducible refine Since.later ?_ (by with_reducible assumption) | with_reducible refine Since.only ?_ (by with_reducible assumption) (by first | assumption | omega | (simp; done) | (simp; omega)) | with_reducible refine Since.alloc ?_ _ | with_reducible refine Since.drewN ?_ _ | with_reducible refine Since.drew ?_ | with_reducible refine Since.set ?_ (by first | assumption | omega | (simp; done) | (simp; omega)) _))) (HK.out.later (by refine Since.out ?_; repeat (first | with_reducible assumption | with_reducible exact Since.refl _ | with_reducible refine Since.later ?_ (by with_reducible assumption) | with_reducible refine Since.only ?_ (by with_reducible assumption) (by first | assumption | omega | (simp; done) | (simp; omega)) | with_reducible refine Since.alloc ?_ _ | with_reducible refine Since.drewN ?_ _ | with_reducible refine Since.drew ?_ | with_reducible refine Since.set ?_ (by first | assumption | omega | (simp; done) | (simp; omega)) _)))).mono ?_; rintro e w5 ⟨rfl, hb5⟩) | (go_at_call 12; refine (same_yes _ _ (HE.out.later (by refine Since.out ?_; repeat (first | with_reducible assumption | with_reducible exact Since.refl _ | with_reducible refine Since.later ?_ (by with_reducible assumption) | with_reducible refine Since.only ?_ (by with_reducible assumption) (by first | assumption | omega | (simp; done) | (simp; omega)) | with_reducible refine Since.alloc ?_ _ | with_reducible refine Since.drewN ?_ _ | with_reducible refine Since.drew ?_ | with_reducible refine Since.set ?_ (by first | assumption | omega | (simp; done) | (simp; omega)) _)))).mono ?_; rintro e w3 ⟨rfl, hb3⟩))
          go_ret
          exact ⟨rfl, (by refine Since.out ?_; repeat (first | with_reducible assumption | with_reducible exact Since.refl _ | with_reducible refine Since.later ?_ (by with_reducible assumption) | with_reducible refine Since.only ?_ (by with_reducible assumption) (by first | assumption | omega | (simp; done) | (simp; omega)) | with_reducible refine Since.alloc ?_ _ | with_reducible refine Since.drewN ?_ _ | with_reducible refine Since.drew ?_ | with_reducible refine Since.set ?_ (by first | assumption | omega | (simp; done) | (simp; omega)) _))⟩

/-! the row -/
theorem own : ownKnob Tryd.prog.godebug = none := by kernel_rfl
theorem laidOut : laidOutB Tryd.prog = true := by kernel_rfl
set_option maxRecDepth 100000 in
theorem contract (H : Type) (enc : TypeId × Value → H) (W : World) (base : Nat) (args : Array Value) (ds gs : List (DataW H)) (before : List MemPlace)
    (hval : ∀ (j : Nat) t v, Tryd.f7.params[j]? = some t → args[j]? = some v → Value.okWide Tryd.prog W .any base t v)
    (hW : DataW.Whole enc Tryd.prog Tryd.f7.params.toList Rows.varintTellsSpec.vars false W args.toList ds gs before) (hL : laidMetH Tryd.prog Rows.varintTellsRow.laid W) :
    Calls Tryd.prog 7 args W fun e W' => ∃ v, e = .returned v ∧ Rows.varintTellsSpec.post enc Tryd.prog Tryd.f7 false true false false W args v W' := by
  have hW' := hW
  obtain ⟨p, q, hA0, hV, rfl, hfz, hnd⟩ := hW
  have hA : DataW.TrodAll enc Tryd.prog W 0 (fun _ => true) true Tryd.f7.params.toList args.toList ds p := hA0
  rw [Tryd.params7] at hA hval
  obtain ⟨v0, vs0, d0, ds0, p0, q0, hargs, rfl, rfl, h0, r0⟩ := trodAll_cons hA
  obtain ⟨v1, vs1, d1, ds1, p1, q1, rfl, rfl, rfl, h1, r1⟩ := trodAll_cons r0
  obtain ⟨v2, vs2, d2, ds2, p2, q2, rfl, rfl, rfl, h2, r2⟩ := trodAll_cons r1
  obtain ⟨rfl, rfl, rfl⟩ := trodAll_nil r2
  obtain rfl : args = #[v0, v1, v2] := by cases args; simp_all
  obtain ⟨rfl, rfl⟩ := trodVars_none hV
  obtain ⟨a0, rfl, rfl, rfl, w0⟩ := open_int Tryd.underlying3 (hval 0 3 v0 rfl rfl) h0
  obtain ⟨s1, rfl, rfl, rfl, w1⟩ := open_string Tryd.underlying9 (hval 1 9 v1 rfl rfl) h1
  obtain ⟨a2, len2, cap2, rfl⟩ := okWide_slice Tryd.underlying47 (hval 2 47 v2 rfl rfl)
  have k2 := h2
  have lt2 : ∀ x ∈ p2, x.block < W.heap.size := by obtain ⟨m, hm⟩ := k2; exact DataW.trod_lt m _ _ _ hm
  obtain ⟨z2, w2⟩ : ∃ zs, IntsIn W (.slice a2 len2 cap2) zs := by
    obtain ⟨fuel, hf⟩ := h2
    exact intsIn_open Tryd.underlying47 Tryd.underlying3 (by kernel_rfl) hf lt2
  have lw := laidWalk hL
  refine (walk a0 s1 (.slice a2 len2 cap2) z2 W w0 w1 w2 lw).mono fun e W' ⟨he, bel⟩ => ?_
  subst he
  exact ⟨_, rfl, _, _, _, [], _, [], hW', trodAll_mk1 (shut_bool Tryd.underlying4 _), (trodAll_cons_mk (shut_int Tryd.underlying3 w0) (trodAll_cons_mk (shut_string Tryd.underlying9 w1) (trodAll_cons_mk (Below.trod laidOut (by kernel_rfl) (of_decide_eq_true (by kernel_rfl)) k2 bel lt2) trodAll_mk0))), rfl, bel.frame _, fun h => by cases h⟩

theorem reads (os : Os) {H : Type} (enc : TypeId × Value → H) : ∃ places, DataW.whole enc Tryd.prog ((laidWorld os).forCall (fun _ _ => 0) ⟨#[], #[.int .i64 0, .string ByteArray.empty, .slice none 0 0], []⟩).memory Tryd.f7.params.toList Rows.varintTellsSpec.vars false (#[.int .i64 0, .string ByteArray.empty, .slice none 0 0] : Array Value).toList 8 = some ([.lit (.int .i64 0), .lit (.string []), .nil], [], places) :=
  ⟨[], by kernel_rfl⟩
theorem laid_met (os : Os) : laidMetH Tryd.prog Rows.varintTellsRow.laid ((laidWorld os).forCall (fun _ _ => 0) ⟨#[], #[.int .i64 0, .string ByteArray.empty, .slice none 0 0], []⟩).memory := laidMetW os _

set_option maxRecDepth 100000 in
theorem lifted (os : Os) (started : os.Started) (H : Type) (enc : TypeId × Value → H) (F : Stop.Interp) :
    ReturnsInHanded {} Tryd.checked os 7 .any ((OpenSpec.ofChange Rows.varintTellsSpec).preRow enc Tryd.prog Tryd.f7 Rows.varintTellsRow.domain false Rows.varintTellsRow.laid) (((OpenSpec.ofChange Rows.varintTellsSpec).at F).post enc Tryd.prog Tryd.f7 false true false false) := by
  obtain ⟨places, hx⟩ := reads os enc
  refine returnsInHanded_of_row (C := Tryd.checked) (s := OpenSpec.ofChange Rows.varintTellsSpec) own started (by kernel_rfl) Tryd.func7
    (witness_row_at (enc := enc) (C := Tryd.checked) false (laidWorld os) #[.int .i64 0, .string ByteArray.empty, .slice none 0 0] rfl (by kernel_rfl) (by kernel_rfl) (by kernel_rfl)
      (OpenSpec.preRow_of_cond 8 hx (by kernel_rfl) (fun k hk => by cases hk) (by kernel_rfl) (laid_met os))) ?_
  intro W base args ds gs before hval hW _ _ _ hL _ _
  exact contract H enc W base args ds gs before hval hW hL

theorem said : Rows.VarintTellsSaid :=
  OpenClaim.holds_of_cond 7 Tryd.f7 rfl rfl rfl rfl rfl rfl rfl ⟨rfl, rfl, rfl, rfl, rfl⟩ rfl rfl rfl rfl rfl (by kernel_rfl) Tryd.func7 (by kernel_rfl)
    (of_decide_eq_true (by kernel_rfl)) (by unfold Func.isWrapper; first | (rw [if_pos (by decide +kernel)]; kernel_rfl) | (rw [if_neg (by decide +kernel)]; exact ⟨rfl, rfl⟩))
    (fun os started H enc _ F => by rw [OpenClaim.pre_eq_preRow]; exact lifted os started H enc F)

theorem plain (f : FuncId) (fn : Func) (hf : Tryd.pinned.checked.prog.funcNamed "wanderwire/wirelaw1.VarintTells" = some f) (hfn : Tryd.pinned.checked.prog.funcs[f]? = some fn) :
    true = Tryd.pinned.checked.prog.looks [] ∧ ∀ (j : Nat) t, fn.params[j]? = some t → Tryd.pinned.checked.prog.wantsStandIn t = false := by
  obtain rfl : f = 7 := Option.some.inj ((show Tryd.prog.funcNamed "wanderwire/wirelaw1.VarintTells" = some 7 by kernel_rfl).symm.trans hf) |>.symm
  obtain rfl : fn = Tryd.f7 := (Option.some.inj (Tryd.func7.symm.trans hfn)).symm
  refine ⟨by kernel_rfl, fun j t ht => ?_⟩
  rw [Tryd.params7] at ht
  have ht' := Array.mem_of_getElem? ht
  have hall : (([3, 9, 47] : List Nat).all fun t => !Tryd.prog.wantsStandIn t) = true := by kernel_rfl
  have hq := List.all_eq_true.1 hall t (by simpa using ht')
  have hq2 : Tryd.prog.wantsStandIn t = false := by simpa using hq
  exact hq2

theorem card : Rows.VarintTellsCardSaid :=
  Claim7.holds_tied_plain_at .later [] _ _ _ _ said (fun _ h => by cases h) (by kernel_rfl) (fun _ h => by cases h) varintTells_row_tie rfl ⟨rfl, rfl⟩ (by kernel_rfl) rfl plain (by kernel_rfl)
#print axioms card
end Go.Proofs.YtmofahmkgignaaaDoor.varintTells
