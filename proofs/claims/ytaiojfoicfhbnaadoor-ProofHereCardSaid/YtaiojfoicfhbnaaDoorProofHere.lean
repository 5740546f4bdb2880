/- ProofHere: for every path, number and times the law returns true: what is told back is so just on the path on which it was asked, in time, and once. Condition: errors.errorType holds its handle (the row lists it, the card ties it). -/
import Derived.Test.YtaiojfoicfhbnaaDoorProof
import Derived.Test.YtaiojfoicfhbnaaDoorLaid
import Derived.Test.YtaiojfoicfhbnaaDoorRules
import Derived.Test.YtaiojfoicfhbnaaDoorSince
import Derived.Deep.DeepCutAuto
import Derived.Test.YtaiojfoicfhbnaaDoorCards
import Derived.Test.YtaiojfoicfhbnaaDoorTie
import Derived.Deep.DeepHandedRow
import Derived.LaidLaws
import Derived.LaidHandle
import Derived.Deep.DeepWitnessRowRef
import Derived.Test.YtaiojfoicfhbnaaDoorRows
import Derived.WalkKit
import Derived.ProofKit
import Derived.OpenShut
import Derived.ShutString
import Derived.ChangeOld
import Derived.Below
import Derived.Lib.SmallJoins
import Derived.Deep.Slices
import Derived.Deep.Matrix
import Derived.Deep.Strs
namespace Go.Proofs.YtaiojfoicfhbnaaDoor.proofHere
open Go.ChangeShapes Go.WideShapes Go.ChangeAt Go.RowKit
open Go.ChangeMaps (open_string shut_string)
set_option linter.unusedVariables false

noncomputable abbrev laidWorld := YtaiojfoicfhbnaaDoor.laidWorld
theorem laidMetW (os : Os) (args : Array Value) : laidMetH Tryd.prog Rows.proofHereRow.laid ((laidWorld os).forCall (fun _ _ => 0) ⟨#[], args, []⟩).memory := laidMet_et os args
theorem laidWalk {W : World} (h : laidMetH Tryd.prog Rows.proofHereRow.laid W) : ETok W := laid_et h

theorem errV_1 : errV 1 = .iface 79 (.int .i64 1) := rfl
theorem errV_7 : errV 7 = .iface 79 (.int .i64 7) := rfl
theorem fact0 : askE [] 1 77 10 = 0 := by decide
theorem fact1 : ansE 2 77 11 5 = 0 ∧ ansB [⟨1, 77, 10⟩] 2 77 11 5 = false := by decide
theorem fact2 : ansE 1 77 11 5 = 0 ∧ ansB [⟨1, 77, 10⟩] 1 77 11 5 = true ∧ ansB [] 1 77 11 5 = false := by decide
theorem ask1 (p k t : Int) (h : askE [] p k t = 0) : askL [] p k t = [⟨p, k, t⟩] := by unfold askL; rw [if_pos h]; rfl
theorem ask0 {L : List Asked} {p k t : Int} (h : askE L p k t ≠ 0) : askL L p k t = L := by unfold askL; rw [if_neg h]
theorem ans0 {L : List Asked} {p k t l : Int} (h : ansB L p k t l = false) : ansL L p k t l = L := by unfold ansL; rw [h]; rfl
theorem ans1 {p k t l : Int} {q r : Int} (h : ansB [⟨q, k, r⟩] p k t l = true) : ansL [⟨q, k, r⟩] p k t l = [] := by
  unfold ansL
  rw [h, if_pos rfl]
  unfold cut
  simp
theorem fnd1 (q k r : Int) : fnd [⟨q, k, r⟩] k = some ⟨q, k, r⟩ := by unfold fnd; simp
theorem askE_two (q k r p : Int) (hok : AskOk q k r) : askE [⟨q, k, r⟩] p k r = if 0 ≤ p ∧ p < 4 then 7 else 1 := by
  unfold askE
  rw [fnd1]
  by_cases h : 0 ≤ p ∧ p < 4
  · rw [if_pos ⟨h, hok.2⟩, if_pos h]; rfl
  · rw [if_neg (fun k => h k.1), if_neg h]
theorem ansB_other (q k r p t l : Int) (h : p ≠ q) : ansB [⟨q, k, r⟩] p k t l = false := by
  unfold ansB
  rw [fnd1]
  have : ¬ Hits ⟨q, k, r⟩ p k t l := fun ⟨_, e, _⟩ => h e.symm
  simp [this]
theorem ansB_here (q k r t l : Int) (h : ansE q k t l = 0) : ansB [⟨q, k, r⟩] q k t l = (decide (r ≤ t) && decide (t - r ≤ l)) := by
  unfold ansB
  rw [fnd1, h]
  have : Hits ⟨q, k, r⟩ q k t l ↔ (r ≤ t ∧ t - r ≤ l) := ⟨fun ⟨_, _, a, b⟩ => ⟨a, b⟩, fun ⟨a, b⟩ => ⟨rfl, rfl, a, b⟩⟩
  simp [this]

set_option maxRecDepth 100000 in
set_option maxHeartbeats 3200000 in
theorem walk (p k t q late lim : Int) (w : World) (w0 : (Lit.int .i64 p).wf = true) (w1 : (Lit.int .i64 k).wf = true) (w2 : (Lit.int .i64 t).wf = true) (w3 : (Lit.int .i64 q).wf = true) (w4 : (Lit.int .i64 late).wf = true) (w5 : (Lit.int .i64 lim).wf = true) (hL : ETok w) :
    Calls Tryd.prog 7 #[.int .i64 p, .int .i64 k, .int .i64 t, .int .i64 q, .int .i64 late, .int .i64 lim] w fun e w' => e = .returned (.bool true) ∧ Below w.heap.size w w' := by
  have HE := Lib.hid hL
  have F0 := Lib.hid fact0
  have F0L := Lib.hid (ask1 1 77 10 fact0)
  have F1 := Lib.hid fact1
  have F1L := Lib.hid (ans0 fact1.2)
  have F2 := Lib.hid fact2
  have F2L := Lib.hid (ans1 fact2.2.1)
  have F3L := Lib.hid (ans0 fact2.2.2)
  clear hL w0 w1 w2 w3 w4 w5
  go_enter Tryd.func7, Tryd.ntmps7
  go_wp2_with fail
  refine (pnew _).mono ?_
  rintro e w1 ⟨rfl, hp1, hb1⟩
  go_wp2_with fail
  refine (pask_any _ _ [] 1 77 10 _ hp1).mono ?_
  rintro e w2 ⟨rfl, hp2, ho2⟩
  rw [F0.out, errV_zero]
  rw [F0L.out] at hp2
  go_wp2_with fail
  refine (panswer_any _ _ _ 2 77 11 5 _ hp2).mono ?_
  rintro e w3 ⟨rfl, hp3, ho3⟩
  rw [F1.out.1, F1.out.2, errV_zero]
  rw [F1L.out] at hp3
  go_wp2_with fail
  refine (panswer_any _ _ _ 1 77 11 5 _ hp3).mono ?_
  rintro e w4 ⟨rfl, hp4, ho4⟩
  rw [F2.out.1, F2.out.2.1, errV_zero]
  rw [F2L.out] at hp4
  go_wp2_with fail
  refine (panswer_any _ _ _ 1 77 11 5 _ hp4).mono ?_
  rintro e w5 ⟨rfl, hp5, ho5⟩
  rw [F2.out.1, F2.out.2.2, errV_zero]
  have hs1 : Since w w1 := hb1
  have hs5 : Since w w5 := (((hs1.out' ho2 (by simp)).out' ho3 (by simp)).out' ho4 (by simp)).out' ho5 (by simp)
  clear hp1 hp2 hp3 hp4 hp5 hb1 hs1 ho2 ho3 ho4 ho5
  go_wp2_with fail
  refine (pnew _).mono ?_
  rintro e w6 ⟨rfl, hp6, hb6⟩
  have hs6 : Since w w6 := (by refine Since.out ?_; repeat (first | with_reducible assumption | with_reducible exact Since.refl _ | with_reducible refine Since.later ?_ (by with_reducible assumption) | with_reducible refine Since.only ?_ (by with_reducible assumption) (by first | assumption | omega | (simp; done) | (simp; omega)) | with_reducible refine Since.alloc ?_ _ | with_reducible refine Since.drewN ?_ _ | with_reducible refine Since.drew ?_ | with_reducible refine Since.set ?_ (by first | assumption | omega | (simp; done) | (simp; omega)) _))
  have hbb : w.heap.size ≤ w5.heap.size := hs5.le
  obtain ⟨b, hbe⟩ : ∃ b, w5.heap.size = b := ⟨_, rfl⟩
  rw [hbe] at hp6 hbb ⊢
  clear hb6 hs5 hbe
  go_wp2_with fail
  refine (pask_any _ _ [] p k t _ hp6).mono ?_
  rintro e w7 ⟨rfl, hp7, ho7⟩
  have hs7 : Since w w7 := hs6.out' ho7 (by simpa using hbb)
  by_cases hE : askE [] p k t = 0
  case neg =>
    rw [errV_pos hE]
    rw [ask0 hE] at hp7
    clear hE
    go_wp2_with (go_at_call 27; refine (popen _ _ [] _ hp7).mono ?_; rintro e w' ⟨rfl, rfl⟩)
    go_ret
    exact ⟨rfl, (by refine Since.out ?_; repeat (first | with_reducible assumption | with_reducible exact Since.refl _ | with_reducible refine Since.later ?_ (by with_reducible assumption) | with_reducible refine Since.only ?_ (by with_reducible assumption) (by first | assumption | omega | (simp; done) | (simp; omega)) | with_reducible refine Since.alloc ?_ _ | with_reducible refine Since.drewN ?_ _ | with_reducible refine Since.drew ?_ | with_reducible refine Since.set ?_ (by first | assumption | omega | (simp; done) | (simp; omega)) _))⟩
  have hok := (askE_ok hE).1
  rw [hE, errV_zero]
  rw [ask1 p k t hE] at hp7
  have HOK := Lib.hid hok
  have H2 := Lib.hid (askE_two p k t q hok)
  have HL2 : Hid (askL [⟨p, k, t⟩] q k t = [⟨p, k, t⟩]) := Lib.hid (ask0 (by rw [askE_two p k t q hok]; split <;> decide))
  have t1 := hok.2.2.1
  have t2 := hok.2.2.2
  have HP7 := Lib.hid hp7
  clear hE hok hs6 ho7 hp6 hp7
  repeat ((fail_if_success (with_reducible refine stop_at 11 ?_)); first | fail | go_values | go_skip | go_guarded | go_step | go_upon | go_back | go_simp)
  go_cut [] (fun wx => Pr wx (b + 1) b [⟨p, k, t⟩] ∧ Since w wx)
  case first =>
    go_wp2_with fail
    refine (pask_any _ _ _ q k t _ HP7.out).mono ?_
    rintro e w8 ⟨rfl, hp8, ho8⟩
    rw [HL2.out] at hp8
    have hs8 : Since w w8 := hs7.out' ho8 (by simpa using hbb)
    clear ho8 hs7
    go_wp2_with fail
    refine (same_error _ 7 _ (HE.out.later (by refine Since.out ?_; repeat (first | with_reducible assumption | with_reducible exact Since.refl _ | with_reducible refine Since.later ?_ (by with_reducible assumption) | with_reducible refine Since.only ?_ (by with_reducible assumption) (by first | assumption | omega | (simp; done) | (simp; omega)) | with_reducible refine Since.alloc ?_ _ | with_reducible refine Since.drewN ?_ _ | with_reducible refine Since.drew ?_ | with_reducible refine Since.set ?_ (by first | assumption | omega | (simp; done) | (simp; omega)) _)))).mono ?_
    rintro e w9 ⟨rfl, hb9⟩
    have hp9 := hp8.later hb9
    have hs9 : Since w w9 := (by refine Since.out ?_; repeat (first | with_reducible assumption | with_reducible exact Since.refl _ | with_reducible refine Since.later ?_ (by with_reducible assumption) | with_reducible refine Since.only ?_ (by with_reducible assumption) (by first | assumption | omega | (simp; done) | (simp; omega)) | with_reducible refine Since.alloc ?_ _ | with_reducible refine Since.drewN ?_ _ | with_reducible refine Since.drew ?_ | with_reducible refine Since.set ?_ (by first | assumption | omega | (simp; done) | (simp; omega)) _))
    clear hb9 hs8 hp8
    rw [H2.out]
    have HP9 := Lib.hid hp9
    clear hp9
    by_cases hq : 0 ≤ q ∧ q < 4
    · rw [if_pos hq]
      clear hq
      go_wp2_with fail
      go_meet
      case rel => exact ⟨HP9.out, hs9⟩
    · rw [if_neg hq]
      by_cases h0 : 0 ≤ q
      · have h4 : decide (q ≤ 3) = false := by simp; omega
        clear hq
        go_wp2_with fail
        go_meet
        case rel => exact ⟨HP9.out, hs9⟩
      · have h4 : decide (0 ≤ q) = false := by simpa using h0
        clear hq
        go_wp2_with fail
        go_meet
        case rel => exact ⟨HP9.out, hs9⟩
  case rest =>
    obtain ⟨hp9, hs9⟩ := hcut
    have HP9 := Lib.hid hp9
    clear hp9 hs7 HP7
    obtain ⟨wa, rfl⟩ : ∃ wa : World, wa = wc := ⟨_, rfl⟩
    repeat ((fail_if_success (with_reducible refine stop_at 13 ?_)); first | fail | go_values | go_skip | go_guarded | go_step | go_upon | go_back | go_simp)
    go_cut [] (fun wx => Pr wx (b + 1) b [⟨p, k, t⟩] ∧ Since w wx)
    case first =>
      by_cases hq : q = p
      · have hq' : (q != p) = false := by simpa using hq
        clear hq
        go_wp2_with fail
        go_meet
        case rel => exact ⟨HP9.out, hs9⟩
      · have hq' : (q != p) = true := by simpa using hq
        have HB := Lib.hid (ansB_other p k t q late lim hq)
        clear hq
        go_wp2_with fail
        refine (panswer_any _ _ _ q k late lim _ HP9.out).mono ?_
        rintro e w10 ⟨rfl, hp10, ho10⟩
        rw [HB.out]
        rw [ans0 HB.out] at hp10
        have hs10 : Since w w10 := hs9.out' ho10 (by simpa using hbb)
        clear ho10
        by_cases he : ansE q k late lim = 0
        · rw [he, errV_zero]
          clear he
          go_wp2_with (go_at_call 27; refine (popen _ _ _ _ hp10).mono ?_; rintro e w' ⟨rfl, rfl⟩)
          go_meet
          case rel => exact ⟨hp10, hs10⟩
        · rw [errV_pos he]
          clear he
          go_wp2_with (go_at_call 27; refine (popen _ _ _ _ hp10).mono ?_; rintro e w' ⟨rfl, rfl⟩)
          go_meet
          case rel => exact ⟨hp10, hs10⟩
    case rest =>
      obtain ⟨hp10, hs10⟩ := hcut
      clear HP9 hs9
      go_wp2_with fail
      refine (panswer_any _ _ _ p k late lim _ hp10).mono ?_
      rintro e w11 ⟨rfl, hp11, ho11⟩
      have hs11 : Since w w11 := hs10.out' ho11 (by simpa using hbb)
      clear ho11 hs10 hp10
      by_cases he : ansE p k late lim = 0
      case neg =>
        rw [errV_pos he]
        have hr : ¬ (0 ≤ late ∧ late ≤ 100000 ∧ 0 ≤ lim ∧ lim ≤ 100000) := fun ⟨a, b, c, d⟩ => he (by unfold ansE; rw [if_pos ⟨⟨HOK.out.1, HOK.out.2.1, a, b⟩, c, d⟩])
        have HR := Lib.hid hr
        clear he hr
        by_cases a : late < 0
        · go_wp2_with fail
          go_ret
          exact ⟨rfl, (by refine Since.out ?_; repeat (first | with_reducible assumption | with_reducible exact Since.refl _ | with_reducible refine Since.later ?_ (by with_reducible assumption) | with_reducible refine Since.only ?_ (by with_reducible assumption) (by first | assumption | omega | (simp; done) | (simp; omega)) | with_reducible refine Since.alloc ?_ _ | with_reducible refine Since.drewN ?_ _ | with_reducible refine Since.drew ?_ | with_reducible refine Since.set ?_ (by first | assumption | omega | (simp; done) | (simp; omega)) _))⟩
        by_cases b1 : 100000 < late
        · go_wp2_with fail
          go_ret
          exact ⟨rfl, (by refine Since.out ?_; repeat (first | with_reducible assumption | with_reducible exact Since.refl _ | with_reducible refine Since.later ?_ (by with_reducible assumption) | with_reducible refine Since.only ?_ (by with_reducible assumption) (by first | assumption | omega | (simp; done) | (simp; omega)) | with_reducible refine Since.alloc ?_ _ | with_reducible refine Since.drewN ?_ _ | with_reducible refine Since.drew ?_ | with_reducible refine Since.set ?_ (by first | assumption | omega | (simp; done) | (simp; omega)) _))⟩
        by_cases c : lim < 0
        · go_wp2_with fail
          go_ret
          exact ⟨rfl, (by refine Since.out ?_; repeat (first | with_reducible assumption | with_reducible exact Since.refl _ | with_reducible refine Since.later ?_ (by with_reducible assumption) | with_reducible refine Since.only ?_ (by with_reducible assumption) (by first | assumption | omega | (simp; done) | (simp; omega)) | with_reducible refine Since.alloc ?_ _ | with_reducible refine Since.drewN ?_ _ | with_reducible refine Since.drew ?_ | with_reducible refine Since.set ?_ (by first | assumption | omega | (simp; done) | (simp; omega)) _))⟩
        by_cases d : 100000 < lim
        · go_wp2_with fail
          go_ret
          exact ⟨rfl, (by refine Since.out ?_; repeat (first | with_reducible assumption | with_reducible exact Since.refl _ | with_reducible refine Since.later ?_ (by with_reducible assumption) | with_reducible refine Since.only ?_ (by with_reducible assumption) (by first | assumption | omega | (simp; done) | (simp; omega)) | with_reducible refine Since.alloc ?_ _ | with_reducible refine Since.drewN ?_ _ | with_reducible refine Since.drew ?_ | with_reducible refine Since.set ?_ (by first | assumption | omega | (simp; done) | (simp; omega)) _))⟩
        · exact absurd ⟨by omega, by omega, by omega, by omega⟩ HR.out
      have hrange : (0 ≤ late ∧ late ≤ 100000) ∧ 0 ≤ lim ∧ lim ≤ 100000 := by
        unfold ansE at he
        split at he
        · rename_i h
          exact ⟨h.1.2.2, h.2⟩
        · cases he
      have HAN := Lib.hid he
      have HBH := Lib.hid (ansB_here p k t late lim he)
      obtain ⟨⟨l1, l2⟩, l3, l4⟩ := hrange
      rw [he, errV_zero]
      clear he
      by_cases ha : t ≤ late ∧ late - t ≤ lim
      · have HT : Hid (ansB [⟨p, k, t⟩] p k late lim = true) := Lib.hid (by rw [HBH.out]; simp [ha.1, ha.2])
        have HT0 : Hid (ansB [] p k late lim = false) := Lib.hid (ansB_none rfl)
        obtain ⟨ha1, ha2⟩ := ha
        rw [ans1 HT.out] at hp11
        rw [HT.out]
        go_wp2_with fail
        refine (panswer_any _ _ _ p k late lim _ hp11).mono ?_
        rintro e w12 ⟨rfl, hp12, ho12⟩
        rw [HT0.out, HAN.out, errV_zero]
        rw [ans0 HT0.out] at hp12
        have hs12 : Since w w12 := hs11.out' ho12 (by simpa using hbb)
        go_wp2_with (go_at_call 27; refine (popen _ _ _ _ hp12).mono ?_; rintro e w' ⟨rfl, rfl⟩)
        go_ret
        exact ⟨rfl, (by refine Since.out ?_; repeat (first | with_reducible assumption | with_reducible exact Since.refl _ | with_reducible refine Since.later ?_ (by with_reducible assumption) | with_reducible refine Since.only ?_ (by with_reducible assumption) (by first | assumption | omega | (simp; done) | (simp; omega)) | with_reducible refine Since.alloc ?_ _ | with_reducible refine Since.drewN ?_ _ | with_reducible refine Since.drew ?_ | with_reducible refine Since.set ?_ (by first | assumption | omega | (simp; done) | (simp; omega)) _))⟩
      · have HT : Hid (ansB [⟨p, k, t⟩] p k late lim = false) := Lib.hid (by rw [HBH.out]; simp; omega)
        rw [ans0 HT.out] at hp11
        rw [HT.out]
        have HA := Lib.hid ha
        clear ha
        by_cases hb1 : t ≤ late
        · have hb2 : decide (late - t ≤ lim) = false := by have := HA.out; simp; omega
          go_wp2_with fail
          refine (panswer_any _ _ _ p k late lim _ hp11).mono ?_
          rintro e w12 ⟨rfl, hp12, ho12⟩
          rw [HT.out, HAN.out, errV_zero]
          rw [ans0 HT.out] at hp12
          have hs12 : Since w w12 := hs11.out' ho12 (by simpa using hbb)
          go_wp2_with (go_at_call 27; refine (popen _ _ _ _ hp12).mono ?_; rintro e w' ⟨rfl, rfl⟩)
          go_ret
          exact ⟨rfl, (by refine Since.out ?_; repeat (first | with_reducible assumption | with_reducible exact Since.refl _ | with_reducible refine Since.later ?_ (by with_reducible assumption) | with_reducible refine Since.only ?_ (by with_reducible assumption) (by first | assumption | omega | (simp; done) | (simp; omega)) | with_reducible refine Since.alloc ?_ _ | with_reducible refine Since.drewN ?_ _ | with_reducible refine Since.drew ?_ | with_reducible refine Since.set ?_ (by first | assumption | omega | (simp; done) | (simp; omega)) _))⟩
        · have hb2 : decide (t ≤ late) = false := by simpa using hb1
          go_wp2_with fail
          refine (panswer_any _ _ _ p k late lim _ hp11).mono ?_
          rintro e w12 ⟨rfl, hp12, ho12⟩
          rw [HT.out, HAN.out, errV_zero]
          rw [ans0 HT.out] at hp12
          have hs12 : Since w w12 := hs11.out' ho12 (by simpa using hbb)
          go_wp2_with (go_at_call 27; refine (popen _ _ _ _ hp12).mono ?_; rintro e w' ⟨rfl, rfl⟩)
          go_ret
          exact ⟨rfl, (by refine Since.out ?_; repeat (first | with_reducible assumption | with_reducible exact Since.refl _ | with_reducible refine Since.later ?_ (by with_reducible assumption) | with_reducible refine Since.only ?_ (by with_reducible assumption) (by first | assumption | omega | (simp; done) | (simp; omega)) | with_reducible refine Since.alloc ?_ _ | with_reducible refine Since.drewN ?_ _ | with_reducible refine Since.drew ?_ | with_reducible refine Since.set ?_ (by first | assumption | omega | (simp; done) | (simp; omega)) _))⟩

/-! the row -/
theorem own : ownKnob Tryd.prog.godebug = none := by kernel_rfl
theorem laidOut : laidOutB Tryd.prog = true := by kernel_rfl
set_option maxRecDepth 100000 in
theorem contract (H : Type) (enc : TypeId × Value → H) (W : World) (base : Nat) (args : Array Value) (ds gs : List (DataW H)) (before : List MemPlace)
    (hval : ∀ (j : Nat) t v, Tryd.f7.params[j]? = some t → args[j]? = some v → Value.okWide Tryd.prog W .any base t v)
    (hW : DataW.Whole enc Tryd.prog Tryd.f7.params.toList Rows.proofHereSpec.vars false W args.toList ds gs before) (hL : laidMetH Tryd.prog Rows.proofHereRow.laid W) :
    Calls Tryd.prog 7 args W fun e W' => ∃ v, e = .returned v ∧ Rows.proofHereSpec.post enc Tryd.prog Tryd.f7 false true false false W args v W' := by
  have hW' := hW
  obtain ⟨p, q, hA0, hV, rfl, hfz, hnd⟩ := hW
  have hA : DataW.TrodAll enc Tryd.prog W 0 (fun _ => true) true Tryd.f7.params.toList args.toList ds p := hA0
  rw [Tryd.params7] at hA hval
  obtain ⟨v0, vs0, d0, ds0, p0, q0, hargs, rfl, rfl, h0, r0⟩ := trodAll_cons hA
  obtain ⟨v1, vs1, d1, ds1, p1, q1, rfl, rfl, rfl, h1, r1⟩ := trodAll_cons r0
  obtain ⟨v2, vs2, d2, ds2, p2, q2, rfl, rfl, rfl, h2, r2⟩ := trodAll_cons r1
  obtain ⟨v3, vs3, d3, ds3, p3, q3, rfl, rfl, rfl, h3, r3⟩ := trodAll_cons r2
  obtain ⟨v4, vs4, d4, ds4, p4, q4, rfl, rfl, rfl, h4, r4⟩ := trodAll_cons r3
  obtain ⟨v5, vs5, d5, ds5, p5, q5, rfl, rfl, rfl, h5, r5⟩ := trodAll_cons r4
  obtain ⟨rfl, rfl, rfl⟩ := trodAll_nil r5
  obtain rfl : args = #[v0, v1, v2, v3, v4, v5] := by cases args; simp_all
  obtain ⟨rfl, rfl⟩ := trodVars_none hV
  obtain ⟨a0, rfl, rfl, rfl, w0⟩ := open_int Tryd.underlying3 (hval 0 3 v0 rfl rfl) h0
  obtain ⟨a1, rfl, rfl, rfl, w1⟩ := open_int Tryd.underlying3 (hval 1 3 v1 rfl rfl) h1
  obtain ⟨a2, rfl, rfl, rfl, w2⟩ := open_int Tryd.underlying3 (hval 2 3 v2 rfl rfl) h2
  obtain ⟨a3, rfl, rfl, rfl, w3⟩ := open_int Tryd.underlying3 (hval 3 3 v3 rfl rfl) h3
  obtain ⟨a4, rfl, rfl, rfl, w4⟩ := open_int Tryd.underlying3 (hval 4 3 v4 rfl rfl) h4
  obtain ⟨a5, rfl, rfl, rfl, w5⟩ := open_int Tryd.underlying3 (hval 5 3 v5 rfl rfl) h5
  have lw := laidWalk hL
  refine (walk a0 a1 a2 a3 a4 a5 W w0 w1 w2 w3 w4 w5 lw).mono fun e W' ⟨he, bel⟩ => ?_
  subst he
  exact ⟨_, rfl, _, _, _, [], _, [], hW', trodAll_mk1 (shut_bool Tryd.underlying4 _), (trodAll_cons_mk (shut_int Tryd.underlying3 w0) (trodAll_cons_mk (shut_int Tryd.underlying3 w1) (trodAll_cons_mk (shut_int Tryd.underlying3 w2) (trodAll_cons_mk (shut_int Tryd.underlying3 w3) (trodAll_cons_mk (shut_int Tryd.underlying3 w4) (trodAll_cons_mk (shut_int Tryd.underlying3 w5) trodAll_mk0)))))), rfl, bel.frame _, fun h => by cases h⟩

theorem reads (os : Os) {H : Type} (enc : TypeId × Value → H) : ∃ places, DataW.whole enc Tryd.prog ((laidWorld os).forCall (fun _ _ => 0) ⟨#[], #[.int .i64 0, .int .i64 0, .int .i64 0, .int .i64 0, .int .i64 0, .int .i64 0], []⟩).memory Tryd.f7.params.toList Rows.proofHereSpec.vars false (#[.int .i64 0, .int .i64 0, .int .i64 0, .int .i64 0, .int .i64 0, .int .i64 0] : Array Value).toList 8 = some ([.lit (.int .i64 0), .lit (.int .i64 0), .lit (.int .i64 0), .lit (.int .i64 0), .lit (.int .i64 0), .lit (.int .i64 0)], [], places) :=
  ⟨[], by kernel_rfl⟩
theorem laid_met (os : Os) : laidMetH Tryd.prog Rows.proofHereRow.laid ((laidWorld os).forCall (fun _ _ => 0) ⟨#[], #[.int .i64 0, .int .i64 0, .int .i64 0, .int .i64 0, .int .i64 0, .int .i64 0], []⟩).memory := laidMetW os _

set_option maxRecDepth 100000 in
theorem lifted (os : Os) (started : os.Started) (H : Type) (enc : TypeId × Value → H) (F : Stop.Interp) :
    ReturnsInHanded {} Tryd.checked os 7 .any ((OpenSpec.ofChange Rows.proofHereSpec).preRow enc Tryd.prog Tryd.f7 Rows.proofHereRow.domain false Rows.proofHereRow.laid) (((OpenSpec.ofChange Rows.proofHereSpec).at F).post enc Tryd.prog Tryd.f7 false true false false) := by
  obtain ⟨places, hx⟩ := reads os enc
  refine returnsInHanded_of_row (C := Tryd.checked) (s := OpenSpec.ofChange Rows.proofHereSpec) own started (by kernel_rfl) Tryd.func7
    (witness_row_at (enc := enc) (C := Tryd.checked) false (laidWorld os) #[.int .i64 0, .int .i64 0, .int .i64 0, .int .i64 0, .int .i64 0, .int .i64 0] rfl (by kernel_rfl) (by kernel_rfl) (by kernel_rfl)
      (OpenSpec.preRow_of_cond 8 hx (by kernel_rfl) (fun k hk => by cases hk) (by kernel_rfl) (laid_met os))) ?_
  intro W base args ds gs before hval hW _ _ _ hL _ _
  exact contract H enc W base args ds gs before hval hW hL

theorem said : Rows.ProofHereSaid :=
  OpenClaim.holds_of_cond 7 Tryd.f7 rfl rfl rfl rfl rfl rfl rfl ⟨rfl, rfl, rfl, rfl, rfl⟩ rfl rfl rfl rfl rfl (by kernel_rfl) Tryd.func7 (by kernel_rfl)
    (of_decide_eq_true (by kernel_rfl)) (by unfold Func.isWrapper; first | (rw [if_pos (by decide +kernel)]; kernel_rfl) | (rw [if_neg (by decide +kernel)]; exact ⟨rfl, rfl⟩))
    (fun os started H enc _ F => by rw [OpenClaim.pre_eq_preRow]; exact lifted os started H enc F)

theorem plain (f : FuncId) (fn : Func) (hf : Tryd.pinned.checked.prog.funcNamed "wanderwire/wirelaw1.ProofHere" = some f) (hfn : Tryd.pinned.checked.prog.funcs[f]? = some fn) :
    true = Tryd.pinned.checked.prog.looks [] ∧ ∀ (j : Nat) t, fn.params[j]? = some t → Tryd.pinned.checked.prog.wantsStandIn t = false := by
  obtain rfl : f = 7 := Option.some.inj ((show Tryd.prog.funcNamed "wanderwire/wirelaw1.ProofHere" = some 7 by kernel_rfl).symm.trans hf) |>.symm
  obtain rfl : fn = Tryd.f7 := (Option.some.inj (Tryd.func7.symm.trans hfn)).symm
  refine ⟨by kernel_rfl, fun j t ht => ?_⟩
  rw [Tryd.params7] at ht
  have ht' := Array.mem_of_getElem? ht
  have hall : (([3, 3, 3, 3, 3, 3] : List Nat).all fun t => !Tryd.prog.wantsStandIn t) = true := by kernel_rfl
  have hq := List.all_eq_true.1 hall t (by simpa using ht')
  have hq2 : Tryd.prog.wantsStandIn t = false := by simpa using hq
  exact hq2

theorem card : Rows.ProofHereCardSaid :=
  Claim7.holds_tied_plain_at .later [] _ _ _ _ said (fun _ h => by cases h) (by kernel_rfl) (fun _ h => by cases h) proofHere_row_tie rfl ⟨rfl, rfl⟩ (by kernel_rfl) rfl plain (by kernel_rfl)
#print axioms card
end Go.Proofs.YtaiojfoicfhbnaaDoor.proofHere
