/- VarintBack: for every two numbers, text and numbers the law returns true: a number comes back, whatever is behind it; no number's bytes are the beginning of another one's; numbers one behind the other come back one by one. Conditions: errors.errorType holds its handle and the table of kinds what the program's text lays (the row lists them, the card ties them). -/
import Derived.Test.YtmofahmkgignaaaDoorVAll
import Derived.Test.YtmofahmkgignaaaDoorVRGet
import Derived.Test.YtmofahmkgignaaaDoorLaid
import Derived.Test.YtmofahmkgignaaaDoorRules
import Derived.Test.YtmofahmkgignaaaDoorSince
import Derived.Deep.DeepCutAuto
import Derived.Test.YtmofahmkgignaaaDoorCards
import Derived.Test.YtmofahmkgignaaaDoorTie
import Derived.Deep.DeepHandedRow
import Derived.LaidLaws
import Derived.LaidHandle
import Derived.Deep.DeepWitnessRowRef
import Derived.Test.YtmofahmkgignaaaDoorRows
import Derived.WalkKit
import Derived.ProofKit
import Derived.OpenShut
import Derived.ShutString
import Derived.ChangeOld
import Derived.Below
import Derived.Lib.SmallJoins
import Derived.Deep.Slices
import Derived.Deep.Matrix
import Derived.Deep.Strs
namespace Go.Proofs.YtmofahmkgignaaaDoor.varintBack
open Go.ChangeShapes Go.WideShapes Go.ChangeAt Go.RowKit
open Go.ChangeMaps (open_string shut_string)
set_option linter.unusedVariables false

noncomputable abbrev laidWorld := YtmofahmkgignaaaDoor.laidWorld
theorem laidMetW (os : Os) (args : Array Value) : laidMetH Tryd.prog Rows.varintBackRow.laid ((laidWorld os).forCall (fun _ _ => 0) ⟨#[], args, []⟩).memory := laidMet_k os args
theorem laidWalk {W : World} (h : laidMetH Tryd.prog Rows.varintBackRow.laid W) : KTab W := laid_k h

theorem vput_yes (n : Int) (n0 : 0 ≤ n) (n1 : n ≤ 1073741823) (w : World) (hk : KTab w) :
    Calls Tryd.prog 25 #[.int .i64 n] w fun e w' => e = .returned (.tuple #[.string ⟨(vbytes n).toArray⟩, .nilIface]) ∧ Below w.heap.size w w' := by
  have e := vput_any n w hk
  rw [show vputL n = vbytes n from by unfold vputL; rw [if_pos (show MayBe n from ⟨n0, n1⟩)], show vputE n = 0 from by unfold vputE; rw [if_pos (show MayBe n from ⟨n0, n1⟩)]] at e
  exact e
theorem vput_no (n : Int) (h : ¬ MayBe n) (w : World) (hk : KTab w) :
    Calls Tryd.prog 25 #[.int .i64 n] w fun e w' => e = .returned (.tuple #[.string ⟨#[]⟩, .iface 68 (.int .i64 1)]) ∧ Below w.heap.size w w' := by
  have e := vput_any n w hk
  rw [show vputL n = [] from by unfold vputL; rw [if_neg h], show vputE n = 1 from by unfold vputE; rw [if_neg h]] at e
  exact e
theorem errV_1 : errV 1 = .iface 68 (.int .i64 1) := rfl
theorem vbytes_64 : vbytes 64 = [64, 64] := by decide
theorem getR_back {n : Int} (h : MayBe n) (s : ByteArray) (r : List UInt8) (hs : s.data.toList = vbytes n ++ r) : getR s = .tuple #[.int .i64 n, .int .i64 (longN n), .nilIface] := by
  obtain ⟨h1, h2, h3⟩ := get_back h.1 h.2 r
  unfold getR getV getK getE
  rw [hs, if_pos h1, if_pos h1, if_pos h1, h2, h3]
  rfl
theorem get_at (n : Int) (h : MayBe n) (s : ByteArray) (r : List UInt8) (hs : s.data.toList = vbytes n ++ r) (hz : s.size ≤ 9223372036854775807) (w : World) (hk : KTab w) :
    Calls Tryd.prog 26 #[.string s] w fun e w' => e = .returned (.tuple #[.int .i64 n, .int .i64 (longN n), .nilIface]) ∧ Below w.heap.size w w' := by
  have e := vget_any s hz w hk
  rw [getR_back h s r hs] at e
  exact e
/-- no number's bytes are the beginning of another one's -/
theorem apart {n m : Int} (hn : MayBe n) (hm : MayBe m) (h : (vbytes m).take (vbytes n).length = vbytes n) : m = n := by
  have e : vbytes m = vbytes n ++ (vbytes m).drop (vbytes n).length := by
    have := List.take_append_drop (vbytes n).length (vbytes m)
    rw [h] at this
    exact this.symm
  have h1 := (get_back hn.1 hn.2 ((vbytes m).drop (vbytes n).length)).2.1
  rw [← e] at h1
  have h2 := (get_back hm.1 hm.2 []).2.1
  rw [List.append_nil] at h2
  rw [h1] at h2
  exact h2.symm

theorem extract_drop (l r : List UInt8) : (ByteArray.mk (l ++ r).toArray).extract l.length (l.length + r.length) = ByteArray.mk r.toArray := by
  apply ByteArray.ext
  rw [ByteArray.data_extract]
  simp
theorem extract_take (l : List UInt8) (k : Nat) : ((ByteArray.mk l.toArray).extract 0 k).toList = l.take k := by
  rw [ByteArray.toList_eq, ByteArray.data_extract]
  simp
theorem allL_drop {zs : List Int} {k : Nat} (h : k < zs.length) : allL (zs.drop k) = vbytes (ith zs k) ++ allL (zs.drop (k + 1)) := by
  rw [List.drop_eq_getElem_cons h]
  unfold ith allL
  simp only [List.getD, List.getElem?_eq_getElem h, Option.getD_some, List.flatMap_cons]

set_option maxRecDepth 100000 in
set_option maxHeartbeats 1600000 in
theorem walk (n m : Int) (s : ByteArray) (v3 : Value) (zs : List Int) (w : World) (w0 : (Lit.int .i64 n).wf = true) (w1 : (Lit.int .i64 m).wf = true) (w2 : s.size ≤ 140737488351232) (w3 : IntsIn w v3 zs) (hk : KTab w) :
    Calls Tryd.prog 6 #[.int .i64 n, .int .i64 m, .string s, v3] w fun e w' => e = .returned (.bool true) ∧ Below w.heap.size w w' := by
  have HK := Lib.hid hk
  have HV := Lib.hid w3
  obtain ⟨bd0, A, cap, rfl, hle0, hm0, hc⟩ := w3
  have HC := Lib.hid hc
  unfold maxLen at hm0
  have H64 := Lib.hid vbytes_64
  clear hc hk w0 w1 bd0
  go_enter Tryd.func6, Tryd.ntmps6
  repeat ((fail_if_success (with_reducible refine stop_at 5 ?_)); first | (go_at_call 25; (first | ((with_reducible refine (vput_yes 64 (by omega) (by omega) _ (HK.out.later (by refine Since.out ?_; repeat (first | with_reducible assumption | with_reducible exact Since.refl _ | with_reducible refine Since.later ?_ (by with_reducible assumption) | with_reducible refine Since.only ?_ (by with_reducible assumption) (by first | assumption | omega | (simp; done) | (simp; omega)) | with_reducible refine Since.alloc ?_ _ | with_reducible refine Since.drewN ?_ _ | with_reducible refine Since.drew ?_ | with_reducible refine Since.set ?_ (by first | assumption | omega | (simp; done) | (simp; omega)) _)))).mono ?_); rintro e w1 ⟨rfl, hb1⟩; rw [H64.out]) | ((with_reducible refine (vput_any n _ (HK.out.later (by refine Since.out ?_; repeat (first | with_reducible assumption | with_reducible exact Since.refl _ | with_reducible refine Since.later ?_ (by with_reducible assumption) | with_reducible refine Since.only ?_ (by with_reducible assumption) (by first | assumption | omega | (simp; done) | (simp; omega)) | with_reducible refine Since.alloc ?_ _ | with_reducible refine Since.drewN ?_ _ | with_reducible refine Since.drew ?_ | with_reducible refine Since.set ?_ (by first | assumption | omega | (simp; done) | (simp; omega)) _)))).mono ?_); rintro e w2 ⟨rfl, hb2⟩))) | go_values | go_skip | go_guarded | go_step | go_upon | go_back | go_simp)
  go_cut [11, 12] (fun s11 s12 wx => Since w wx)
  case first =>
    by_cases hn : MayBe n
    case neg =>
      have e1 : vputE n = 1 := by unfold vputE; rw [if_neg hn]
      rw [e1, errV_1]
      clear e1
      go_wp2_with fail
      go_meet
      case rel => exact (by refine Since.out ?_; repeat (first | with_reducible assumption | with_reducible exact Since.refl _ | with_reducible refine Since.later ?_ (by with_reducible assumption) | with_reducible refine Since.only ?_ (by with_reducible assumption) (by first | assumption | omega | (simp; done) | (simp; omega)) | with_reducible refine Since.alloc ?_ _ | with_reducible refine Since.drewN ?_ _ | with_reducible refine Since.drew ?_ | with_reducible refine Since.set ?_ (by first | assumption | omega | (simp; done) | (simp; omega)) _))
    have e1 : vputE n = 0 := by unfold vputE; rw [if_pos hn]
    have e2 : vputL n = vbytes n := by unfold vputL; rw [if_pos hn]
    rw [e1, e2, errV_zero]
    clear e1 e2
    have hlen := vbytes_length n
    obtain ⟨a, ha⟩ : ∃ a, longN n = a := ⟨_, rfl⟩
    have HA := Lib.hid ha
    have HN := Lib.hid hn
    rw [ha] at hlen
    clear hn ha
    have hsz : Hid ((⟨(vbytes n).toArray⟩ ++ s : ByteArray).size ≤ 9223372036854775807) := Lib.hid (by
      have h4 := vbytes_four n
      have : (⟨(vbytes n).toArray⟩ ++ s : ByteArray).size = (vbytes n).length + s.size := by rw [ByteArray.size_append]; rfl
      omega)
    have hov : (vbytes n).length + s.size ≤ 9223372036854775807 := by have h4 := vbytes_four n; omega
    have hdt : Hid ((⟨(vbytes n).toArray⟩ ++ s : ByteArray).data.toList = vbytes n ++ s.data.toList) := Lib.hid (by simp)
    by_cases hm : MayBe m
    case neg =>
      go_wp2_with (first | (go_at_call 26; refine (get_at n HN.out _ _ hdt.out hsz.out _ (HK.out.later (by refine Since.out ?_; repeat (first | with_reducible assumption | with_reducible exact Since.refl _ | with_reducible refine Since.later ?_ (by with_reducible assumption) | with_reducible refine Since.only ?_ (by with_reducible assumption) (by first | assumption | omega | (simp; done) | (simp; omega)) | with_reducible refine Since.alloc ?_ _ | with_reducible refine Since.drewN ?_ _ | with_reducible refine Since.drew ?_ | with_reducible refine Since.set ?_ (by first | assumption | omega | (simp; done) | (simp; omega)) _)))).mono ?_; rintro e w3 ⟨rfl, hb3⟩; rw [HA.out]) | (go_at_call 25; refine (vput_no m hm _ (HK.out.later (by refine Since.out ?_; repeat (first | with_reducible assumption | with_reducible exact Since.refl _ | with_reducible refine Since.later ?_ (by with_reducible assumption) | with_reducible refine Since.only ?_ (by with_reducible assumption) (by first | assumption | omega | (simp; done) | (simp; omega)) | with_reducible refine Since.alloc ?_ _ | with_reducible refine Since.drewN ?_ _ | with_reducible refine Since.drew ?_ | with_reducible refine Since.set ?_ (by first | assumption | omega | (simp; done) | (simp; omega)) _)))).mono ?_; rintro e w4 ⟨rfl, hb4⟩))
      go_meet
      case rel => exact (by refine Since.out ?_; repeat (first | with_reducible assumption | with_reducible exact Since.refl _ | with_reducible refine Since.later ?_ (by with_reducible assumption) | with_reducible refine Since.only ?_ (by with_reducible assumption) (by first | assumption | omega | (simp; done) | (simp; omega)) | with_reducible refine Since.alloc ?_ _ | with_reducible refine Since.drewN ?_ _ | with_reducible refine Since.drew ?_ | with_reducible refine Since.set ?_ (by first | assumption | omega | (simp; done) | (simp; omega)) _))
    have m0 := hm.1
    have m1 := hm.2
    by_cases hmn : m = n
    · subst hmn
      have hq : (m != m) = false := by simp
      go_wp2_with (first | (go_at_call 26; refine (get_at m HN.out _ _ hdt.out hsz.out _ (HK.out.later (by refine Since.out ?_; repeat (first | with_reducible assumption | with_reducible exact Since.refl _ | with_reducible refine Since.later ?_ (by with_reducible assumption) | with_reducible refine Since.only ?_ (by with_reducible assumption) (by first | assumption | omega | (simp; done) | (simp; omega)) | with_reducible refine Since.alloc ?_ _ | with_reducible refine Since.drewN ?_ _ | with_reducible refine Since.drew ?_ | with_reducible refine Since.set ?_ (by first | assumption | omega | (simp; done) | (simp; omega)) _)))).mono ?_; rintro e w3 ⟨rfl, hb3⟩; rw [HA.out]) | (go_at_call 25; refine (vput_yes m m0 m1 _ (HK.out.later (by refine Since.out ?_; repeat (first | with_reducible assumption | with_reducible exact Since.refl _ | with_reducible refine Since.later ?_ (by with_reducible assumption) | with_reducible refine Since.only ?_ (by with_reducible assumption) (by first | assumption | omega | (simp; done) | (simp; omega)) | with_reducible refine Since.alloc ?_ _ | with_reducible refine Since.drewN ?_ _ | with_reducible refine Since.drew ?_ | with_reducible refine Since.set ?_ (by first | assumption | omega | (simp; done) | (simp; omega)) _)))).mono ?_; rintro e w4 ⟨rfl, hb4⟩))
      go_meet
      case rel => exact (by refine Since.out ?_; repeat (first | with_reducible assumption | with_reducible exact Since.refl _ | with_reducible refine Since.later ?_ (by with_reducible assumption) | with_reducible refine Since.only ?_ (by with_reducible assumption) (by first | assumption | omega | (simp; done) | (simp; omega)) | with_reducible refine Since.alloc ?_ _ | with_reducible refine Since.drewN ?_ _ | with_reducible refine Since.drew ?_ | with_reducible refine Since.set ?_ (by first | assumption | omega | (simp; done) | (simp; omega)) _))
    have hq : (m != n) = true := by simpa using hmn
    have ha0 : 0 ≤ a := by omega
    have hap : (((⟨(vbytes m).toArray⟩ : ByteArray).extract 0 a.toNat).toList == vbytes n) = false := by
      rw [extract_take, show a.toNat = (vbytes n).length from by omega]
      cases hcase : (List.take (vbytes n).length (vbytes m) == vbytes n)
      · rfl
      · exact absurd (apart HN.out hm (by simpa using hcase)) hmn
    clear hm hmn
    by_cases hlong : a ≤ (vbytes m).length
    · go_wp2_with (first | (go_at_call 26; refine (get_at n HN.out _ _ hdt.out hsz.out _ (HK.out.later (by refine Since.out ?_; repeat (first | with_reducible assumption | with_reducible exact Since.refl _ | with_reducible refine Since.later ?_ (by with_reducible assumption) | with_reducible refine Since.only ?_ (by with_reducible assumption) (by first | assumption | omega | (simp; done) | (simp; omega)) | with_reducible refine Since.alloc ?_ _ | with_reducible refine Since.drewN ?_ _ | with_reducible refine Since.drew ?_ | with_reducible refine Since.set ?_ (by first | assumption | omega | (simp; done) | (simp; omega)) _)))).mono ?_; rintro e w3 ⟨rfl, hb3⟩; rw [HA.out]) | (go_at_call 25; refine (vput_yes m m0 m1 _ (HK.out.later (by refine Since.out ?_; repeat (first | with_reducible assumption | with_reducible exact Since.refl _ | with_reducible refine Since.later ?_ (by with_reducible assumption) | with_reducible refine Since.only ?_ (by with_reducible assumption) (by first | assumption | omega | (simp; done) | (simp; omega)) | with_reducible refine Since.alloc ?_ _ | with_reducible refine Since.drewN ?_ _ | with_reducible refine Since.drew ?_ | with_reducible refine Since.set ?_ (by first | assumption | omega | (simp; done) | (simp; omega)) _)))).mono ?_; rintro e w4 ⟨rfl, hb4⟩))
      go_meet
      case rel => exact (by refine Since.out ?_; repeat (first | with_reducible assumption | with_reducible exact Since.refl _ | with_reducible refine Since.later ?_ (by with_reducible assumption) | with_reducible refine Since.only ?_ (by with_reducible assumption) (by first | assumption | omega | (simp; done) | (simp; omega)) | with_reducible refine Since.alloc ?_ _ | with_reducible refine Since.drewN ?_ _ | with_reducible refine Since.drew ?_ | with_reducible refine Since.set ?_ (by first | assumption | omega | (simp; done) | (simp; omega)) _))
    · have hshort : decide (a ≤ ((vbytes m).length : Int)) = false := by simp; omega
      go_wp2_with (first | (go_at_call 26; refine (get_at n HN.out _ _ hdt.out hsz.out _ (HK.out.later (by refine Since.out ?_; repeat (first | with_reducible assumption | with_reducible exact Since.refl _ | with_reducible refine Since.later ?_ (by with_reducible assumption) | with_reducible refine Since.only ?_ (by with_reducible assumption) (by first | assumption | omega | (simp; done) | (simp; omega)) | with_reducible refine Since.alloc ?_ _ | with_reducible refine Since.drewN ?_ _ | with_reducible refine Since.drew ?_ | with_reducible refine Since.set ?_ (by first | assumption | omega | (simp; done) | (simp; omega)) _)))).mono ?_; rintro e w3 ⟨rfl, hb3⟩; rw [HA.out]) | (go_at_call 25; refine (vput_yes m m0 m1 _ (HK.out.later (by refine Since.out ?_; repeat (first | with_reducible assumption | with_reducible exact Since.refl _ | with_reducible refine Since.later ?_ (by with_reducible assumption) | with_reducible refine Since.only ?_ (by with_reducible assumption) (by first | assumption | omega | (simp; done) | (simp; omega)) | with_reducible refine Since.alloc ?_ _ | with_reducible refine Since.drewN ?_ _ | with_reducible refine Since.drew ?_ | with_reducible refine Since.set ?_ (by first | assumption | omega | (simp; done) | (simp; omega)) _)))).mono ?_; rintro e w4 ⟨rfl, hb4⟩))
      go_meet
      case rel => exact (by refine Since.out ?_; repeat (first | with_reducible assumption | with_reducible exact Since.refl _ | with_reducible refine Since.later ?_ (by with_reducible assumption) | with_reducible refine Since.only ?_ (by with_reducible assumption) (by first | assumption | omega | (simp; done) | (simp; omega)) | with_reducible refine Since.alloc ?_ _ | with_reducible refine Since.drewN ?_ _ | with_reducible refine Since.drew ?_ | with_reducible refine Since.set ?_ (by first | assumption | omega | (simp; done) | (simp; omega)) _))
  case rest =>
    have hs1 := hcut
    repeat ((fail_if_success (with_reducible refine stop_at 13 ?_)); first | (go_at_call 27; refine (vall_any _ zs _ (HV.out.keep (by refine Since.out ?_; repeat (first | with_reducible assumption | with_reducible exact Since.refl _ | with_reducible refine Since.later ?_ (by with_reducible assumption) | with_reducible refine Since.only ?_ (by with_reducible assumption) (by first | assumption | omega | (simp; done) | (simp; omega)) | with_reducible refine Since.alloc ?_ _ | with_reducible refine Since.drewN ?_ _ | with_reducible refine Since.drew ?_ | with_reducible refine Since.set ?_ (by first | assumption | omega | (simp; done) | (simp; omega)) _))) (HK.out.later (by refine Since.out ?_; repeat (first | with_reducible assumption | with_reducible exact Since.refl _ | with_reducible refine Since.later ?_ (by with_reducible assumption) | with_reducible refine Since.only ?_ (by with_reducible assumption) (by first | assumption | omega | (simp; done) | (simp; omega)) | with_reducible refine Since.alloc ?_ _ | with_reducible refine Since.drewN ?_ _ | with_reducible refine Since.drew ?_ | with_reducible refine Since.set ?_ (by first | assumption | omega | (simp; done) | (simp; omega)) _)))).mono ?_; rintro e w5 ⟨rfl, hb5⟩) | go_values | go_skip | go_guarded | go_step | go_upon | go_back | go_simp)
    by_cases he : allE zs = 0
    case neg =>
      have h1 : errV (allE zs) = .iface 68 (.int .i64 (allE zs)) := errV_pos he
      rw [h1]
      go_wp2_with fail
      go_ret
      exact ⟨rfl, (by refine Since.out ?_; repeat (first | with_reducible assumption | with_reducible exact Since.refl _ | with_reducible refine Since.later ?_ (by with_reducible assumption) | with_reducible refine Since.only ?_ (by with_reducible assumption) (by first | assumption | omega | (simp; done) | (simp; omega)) | with_reducible refine Since.alloc ?_ _ | with_reducible refine Since.drewN ?_ _ | with_reducible refine Since.drew ?_ | with_reducible refine Since.set ?_ (by first | assumption | omega | (simp; done) | (simp; omega)) _))⟩
    have hV : allV zs = allL zs := by unfold allV; rw [if_pos he]
    have hA : allE zs = 0 → ∀ z ∈ zs, MayBe z := by
      unfold allE
      intro h
      split at h
      · cases h
      · split at h
        · assumption
        · cases h
    have hmay := hA he
    have hlen : zs.length ≤ 40 := by
      unfold allE at he
      split at he
      · cases he
      · omega
    rw [he, hV, errV_zero]
    have HM := Lib.hid hmay
    clear he hV hA hmay
    go_wp2_with fail
    go_loopw [11, 18] (fun s11 s18 wr => ∃ k : Nat, k ≤ zs.length ∧ s18 = .int .i64 k ∧ s11 = .string ⟨(allL (zs.drop k)).toArray⟩ ∧ Since w wr) (fun _ s18 _ => zs.length - (intOf s18).toNat)
    case atStart => exact ⟨0, Nat.zero_le _, rfl, rfl, (by refine Since.out ?_; repeat (first | with_reducible assumption | with_reducible exact Since.refl _ | with_reducible refine Since.later ?_ (by with_reducible assumption) | with_reducible refine Since.only ?_ (by with_reducible assumption) (by first | assumption | omega | (simp; done) | (simp; omega)) | with_reducible refine Since.alloc ?_ _ | with_reducible refine Since.drewN ?_ _ | with_reducible refine Since.drew ?_ | with_reducible refine Since.set ?_ (by first | assumption | omega | (simp; done) | (simp; omega)) _))⟩
    case round =>
      obtain ⟨k, hkz, rfl, rfl, hs4⟩ := hrel
      by_cases hlt : k < zs.length
      · obtain ⟨b, off, rfl, hbl, hcc⟩ := HC.out (by rintro rfl; simp at hlt)
        have cz : wr.cell? ⟨b, off + k, none⟩ = some (.int .i64 (ith zs k)) := hs4.cell hbl (hcc k hlt)
        have HMZ := Lib.hid (HM.out _ (ith_mem hlt))
        have hlt2 : (k : Int) < (zs.length : Int) := by omega
        have hdr := allL_drop hlt
        have hshort := allL_short (zs.drop (k + 1))
        rw [List.length_drop] at hshort
        have h4 := vbytes_four (ith zs k)
        have hvl := vbytes_length (ith zs k)
        obtain ⟨z, hzz⟩ : ∃ z, ith zs k = z := ⟨_, rfl⟩
        rw [hzz] at cz HMZ hdr h4 hvl
        clear hcc hzz
        obtain ⟨r, hr⟩ : ∃ r, allL (zs.drop (k + 1)) = r := ⟨_, rfl⟩
        rw [hr] at hshort hdr
        have HR := Lib.hid hr
        rw [hdr]
        have HD := Lib.hid hdr
        clear hr hdr
        have hz : Hid ((⟨(vbytes z ++ r).toArray⟩ : ByteArray).size ≤ 9223372036854775807) := Lib.hid (by
          have : (⟨(vbytes z ++ r).toArray⟩ : ByteArray).size = (vbytes z).length + r.length := by simp [ByteArray.size]
          omega)
        have hl1 : 1 ≤ longN z := by unfold longN; split <;> (try split) <;> omega
        obtain ⟨a, ha⟩ : ∃ a, longN z = a := ⟨_, rfl⟩
        have HA := Lib.hid ha
        rw [ha] at hvl hl1
        have HVL := Lib.hid hvl
        clear ha hvl
        repeat ((fail_if_success (with_reducible refine stop_at 19 ?_)); first | (go_at_call 26; refine (get_at z HMZ.out _ r (by simp) hz.out _ (HK.out.later (by refine Since.out ?_; repeat (first | with_reducible assumption | with_reducible exact Since.refl _ | with_reducible refine Since.later ?_ (by with_reducible assumption) | with_reducible refine Since.only ?_ (by with_reducible assumption) (by first | assumption | omega | (simp; done) | (simp; omega)) | with_reducible refine Since.alloc ?_ _ | with_reducible refine Since.drewN ?_ _ | with_reducible refine Since.drew ?_ | with_reducible refine Since.set ?_ (by first | assumption | omega | (simp; done) | (simp; omega)) _)))).mono ?_; rintro e w6 ⟨rfl, hb6⟩; rw [HA.out]; have cz6 := cell_later hb6 cz) | go_values | go_skip | go_guarded | go_step | go_upon | go_back | go_simp)
        have hle : a ≤ ((vbytes z).length : Int) + (r.length : Int) := by have := HVL.out; omega
        have hcond : 1 ≤ a ∧ a ≤ ((vbytes z).length : Int) + (r.length : Int) := ⟨hl1, hle⟩
        have hres : (⟨(vbytes z ++ r).toArray⟩ : ByteArray).extract a.toNat ((vbytes z).length + r.length) = ⟨(allL (zs.drop (k + 1))).toArray⟩ := by
          have := HVL.out
          rw [HR.out, show a.toNat = (vbytes z).length from by omega]
          exact extract_drop _ _
        have HRES := Lib.hid hres
        clear hres
        go_wp2_with fail
        go_roundw
        case rel => exact ⟨k + 1, by omega, by go_num, by rw [HRES.out], (by refine Since.out ?_; repeat (first | with_reducible assumption | with_reducible exact Since.refl _ | with_reducible refine Since.later ?_ (by with_reducible assumption) | with_reducible refine Since.only ?_ (by with_reducible assumption) (by first | assumption | omega | (simp; done) | (simp; omega)) | with_reducible refine Since.alloc ?_ _ | with_reducible refine Since.drewN ?_ _ | with_reducible refine Since.drew ?_ | with_reducible refine Since.set ?_ (by first | assumption | omega | (simp; done) | (simp; omega)) _))⟩
        case measure => simp [intOf]; omega
      · obtain rfl : k = zs.length := by omega
        rw [List.drop_length]
        have hal : allL [] = [] := rfl
        rw [hal]
        go_wp2_with fail
        go_ret
        exact ⟨rfl, (by refine Since.out ?_; repeat (first | with_reducible assumption | with_reducible exact Since.refl _ | with_reducible refine Since.later ?_ (by with_reducible assumption) | with_reducible refine Since.only ?_ (by with_reducible assumption) (by first | assumption | omega | (simp; done) | (simp; omega)) | with_reducible refine Since.alloc ?_ _ | with_reducible refine Since.drewN ?_ _ | with_reducible refine Since.drew ?_ | with_reducible refine Since.set ?_ (by first | assumption | omega | (simp; done) | (simp; omega)) _))⟩

/-! the row -/
theorem own : ownKnob Tryd.prog.godebug = none := by kernel_rfl
theorem laidOut : laidOutB Tryd.prog = true := by kernel_rfl
set_option maxRecDepth 100000 in
theorem contract (H : Type) (enc : TypeId × Value → H) (W : World) (base : Nat) (args : Array Value) (ds gs : List (DataW H)) (before : List MemPlace)
    (hval : ∀ (j : Nat) t v, Tryd.f6.params[j]? = some t → args[j]? = some v → Value.okWide Tryd.prog W .any base t v)
    (hW : DataW.Whole enc Tryd.prog Tryd.f6.params.toList Rows.varintBackSpec.vars false W args.toList ds gs before) (hsz : (DataW.weightsEach Tryd.prog (Tryd.f6.params.toList ++ (OpenSpec.ofChange Rows.varintBackSpec).bare.plain.varTypes Tryd.prog) (ds ++ gs)).all (· ≤ reachBytes) = true) (hL : laidMetH Tryd.prog Rows.varintBackRow.laid W) :
    Calls Tryd.prog 6 args W fun e W' => ∃ v, e = .returned v ∧ Rows.varintBackSpec.post enc Tryd.prog Tryd.f6 false true false false W args v W' := by
  have hW' := hW
  obtain ⟨p, q, hA0, hV, rfl, hfz, hnd⟩ := hW
  have hA : DataW.TrodAll enc Tryd.prog W 0 (fun _ => true) true Tryd.f6.params.toList args.toList ds p := hA0
  rw [Tryd.params6] at hA hval
  obtain ⟨v0, vs0, d0, ds0, p0, q0, hargs, rfl, rfl, h0, r0⟩ := trodAll_cons hA
  obtain ⟨v1, vs1, d1, ds1, p1, q1, rfl, rfl, rfl, h1, r1⟩ := trodAll_cons r0
  obtain ⟨v2, vs2, d2, ds2, p2, q2, rfl, rfl, rfl, h2, r2⟩ := trodAll_cons r1
  obtain ⟨v3, vs3, d3, ds3, p3, q3, rfl, rfl, rfl, h3, r3⟩ := trodAll_cons r2
  obtain ⟨rfl, rfl, rfl⟩ := trodAll_nil r3
  obtain rfl : args = #[v0, v1, v2, v3] := by cases args; simp_all
  obtain ⟨rfl, rfl⟩ := trodVars_none hV
  obtain ⟨a0, rfl, rfl, rfl, w0⟩ := open_int Tryd.underlying3 (hval 0 3 v0 rfl rfl) h0
  obtain ⟨a1, rfl, rfl, rfl, w1⟩ := open_int Tryd.underlying3 (hval 1 3 v1 rfl rfl) h1
  obtain ⟨s2, rfl, rfl, rfl, w2⟩ := open_string Tryd.underlying9 (hval 2 9 v2 rfl rfl) h2
  have z2 : s2.size ≤ 140737488351232 := by
    have hq := sized_string hsz (j := 2) rfl rfl
    simpa [reachBytes] using hq
  obtain ⟨a3, len3, cap3, rfl⟩ := okWide_slice Tryd.underlying47 (hval 3 47 v3 rfl rfl)
  have k3 := h3
  have lt3 : ∀ x ∈ p3, x.block < W.heap.size := by obtain ⟨m, hm⟩ := k3; exact DataW.trod_lt m _ _ _ hm
  obtain ⟨z3, w3⟩ : ∃ zs, IntsIn W (.slice a3 len3 cap3) zs := by
    obtain ⟨fuel, hf⟩ := h3
    exact intsIn_open Tryd.underlying47 Tryd.underlying3 (by kernel_rfl) hf lt3
  have lw := laidWalk hL
  refine (walk a0 a1 s2 (.slice a3 len3 cap3) z3 W w0 w1 z2 w3 lw).mono fun e W' ⟨he, bel⟩ => ?_
  subst he
  exact ⟨_, rfl, _, _, _, [], _, [], hW', trodAll_mk1 (shut_bool Tryd.underlying4 _), (trodAll_cons_mk (shut_int Tryd.underlying3 w0) (trodAll_cons_mk (shut_int Tryd.underlying3 w1) (trodAll_cons_mk (shut_string Tryd.underlying9 w2) (trodAll_cons_mk (Below.trod laidOut (by kernel_rfl) (of_decide_eq_true (by kernel_rfl)) k3 bel lt3) trodAll_mk0)))), rfl, bel.frame _, fun h => by cases h⟩

theorem reads (os : Os) {H : Type} (enc : TypeId × Value → H) : ∃ places, DataW.whole enc Tryd.prog ((laidWorld os).forCall (fun _ _ => 0) ⟨#[], #[.int .i64 0, .int .i64 0, .string ByteArray.empty, .slice none 0 0], []⟩).memory Tryd.f6.params.toList Rows.varintBackSpec.vars false (#[.int .i64 0, .int .i64 0, .string ByteArray.empty, .slice none 0 0] : Array Value).toList 8 = some ([.lit (.int .i64 0), .lit (.int .i64 0), .lit (.string []), .nil], [], places) :=
  ⟨[], by kernel_rfl⟩
theorem laid_met (os : Os) : laidMetH Tryd.prog Rows.varintBackRow.laid ((laidWorld os).forCall (fun _ _ => 0) ⟨#[], #[.int .i64 0, .int .i64 0, .string ByteArray.empty, .slice none 0 0], []⟩).memory := laidMetW os _

set_option maxRecDepth 100000 in
theorem lifted (os : Os) (started : os.Started) (H : Type) (enc : TypeId × Value → H) (F : Stop.Interp) :
    ReturnsInHanded {} Tryd.checked os 6 .any ((OpenSpec.ofChange Rows.varintBackSpec).preRow enc Tryd.prog Tryd.f6 Rows.varintBackRow.domain false Rows.varintBackRow.laid) (((OpenSpec.ofChange Rows.varintBackSpec).at F).post enc Tryd.prog Tryd.f6 false true false false) := by
  obtain ⟨places, hx⟩ := reads os enc
  refine returnsInHanded_of_row (C := Tryd.checked) (s := OpenSpec.ofChange Rows.varintBackSpec) own started (by kernel_rfl) Tryd.func6
    (witness_row_at (enc := enc) (C := Tryd.checked) false (laidWorld os) #[.int .i64 0, .int .i64 0, .string ByteArray.empty, .slice none 0 0] rfl (by kernel_rfl) (by kernel_rfl) (by kernel_rfl)
      (OpenSpec.preRow_of_cond 8 hx (by kernel_rfl) (fun k hk => by cases hk) (by kernel_rfl) (laid_met os))) ?_
  intro W base args ds gs before hval hW _ _ hsz hL _ _
  exact contract H enc W base args ds gs before hval hW hsz hL

theorem said : Rows.VarintBackSaid :=
  OpenClaim.holds_of_cond 6 Tryd.f6 rfl rfl rfl rfl rfl rfl rfl ⟨rfl, rfl, rfl, rfl, rfl⟩ rfl rfl rfl rfl rfl (by kernel_rfl) Tryd.func6 (by kernel_rfl)
    (of_decide_eq_true (by kernel_rfl)) (by unfold Func.isWrapper; first | (rw [if_pos (by decide +kernel)]; kernel_rfl) | (rw [if_neg (by decide +kernel)]; exact ⟨rfl, rfl⟩))
    (fun os started H enc _ F => by rw [OpenClaim.pre_eq_preRow]; exact lifted os started H enc F)

theorem plain (f : FuncId) (fn : Func) (hf : Tryd.pinned.checked.prog.funcNamed "wanderwire/wirelaw1.VarintBack" = some f) (hfn : Tryd.pinned.checked.prog.funcs[f]? = some fn) :
    true = Tryd.pinned.checked.prog.looks [] ∧ ∀ (j : Nat) t, fn.params[j]? = some t → Tryd.pinned.checked.prog.wantsStandIn t = false := by
  obtain rfl : f = 6 := Option.some.inj ((show Tryd.prog.funcNamed "wanderwire/wirelaw1.VarintBack" = some 6 by kernel_rfl).symm.trans hf) |>.symm
  obtain rfl : fn = Tryd.f6 := (Option.some.inj (Tryd.func6.symm.trans hfn)).symm
  refine ⟨by kernel_rfl, fun j t ht => ?_⟩
  rw [Tryd.params6] at ht
  have ht' := Array.mem_of_getElem? ht
  have hall : (([3, 3, 9, 47] : List Nat).all fun t => !Tryd.prog.wantsStandIn t) = true := by kernel_rfl
  have hq := List.all_eq_true.1 hall t (by simpa using ht')
  have hq2 : Tryd.prog.wantsStandIn t = false := by simpa using hq
  exact hq2

theorem card : Rows.VarintBackCardSaid :=
  Claim7.holds_tied_plain_at .later [] _ _ _ _ said (fun _ h => by cases h) (by kernel_rfl) (fun _ h => by cases h) varintBack_row_tie rfl ⟨rfl, rfl⟩ (by kernel_rfl) rfl plain (by kernel_rfl)
#print axioms card
end Go.Proofs.YtmofahmkgignaaaDoor.varintBack
