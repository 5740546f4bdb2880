/- NumberWhole: for every six numbers the law returns true: who knows as much, or more, tells it right. No condition. -/
import Derived.Test.YtmofahmkgignaaaNumRef
import Derived.Deep.DeepCutAuto
import Derived.Test.YtmofahmkgignaaaRows
import Derived.WalkKit
import Derived.ProofKit
import Derived.OpenShut
import Derived.ShutString
import Derived.ChangeOld
import Derived.Below
import Derived.Lib.SmallJoins
import Derived.Deep.Slices
import Derived.Deep.Matrix
import Derived.Deep.Strs
namespace Go.Proofs.Ytmofahmkgignaaa.numberWhole
open Go.ChangeShapes Go.WideShapes Go.ChangeAt Go.RowKit
open Go.ChangeMaps (open_string shut_string)
set_option linter.unusedVariables false

theorem fact_ok : WholeOk 155 1 4660 ∧ wholeN 155 1 4660 = 4763 := by
  constructor
  · simp [WholeOk, MayBe, rnd]
  · decide

set_option maxRecDepth 100000 in
set_option maxHeartbeats 4000000 in
theorem walk (a0 a1 a2 a3 a4 a5 : Int) (w : World) (w0 : (Lit.int .i64 a0).wf = true) (w1 : (Lit.int .i64 a1).wf = true) (w2 : (Lit.int .i64 a2).wf = true) (w3 : (Lit.int .i64 a3).wf = true) (w4 : (Lit.int .i64 a4).wf = true) (w5 : (Lit.int .i64 a5).wf = true) :
    Calls Try.prog 6 #[.int .i64 a0, .int .i64 a1, .int .i64 a2, .int .i64 a3, .int .i64 a4, .int .i64 a5] w fun e w' => e = .returned (.bool true) ∧ Below w.heap.size w w' := by
  have F1 := Lib.hid fact_ok.2
  go_enter Try.func6, Try.ntmps6
  go_wp2_with fail
  refine (whole_yes 155 1 4660 fact_ok.1 _).mono ?_
  rintro e w' ⟨rfl, rfl⟩
  rw [F1.out]
  go_wp2_with fail
  by_cases hW : WholeOk a3 a4 a5
  · obtain ⟨c1, c2, c3⟩ := wholeN_cut a3 a4 a5 hW
    obtain ⟨f1, f2⟩ := wholeN_near a3 a4 a5 hW
    refine (whole_yes a3 a4 a5 hW _).mono ?_
    rintro e w' ⟨rfl, rfl⟩
    obtain ⟨r1, r2⟩ := rnd_bounds a4
    obtain ⟨⟨n1, n2⟩, ⟨b1, b2⟩, -, -, -⟩ := hW
    generalize wholeN a3 a4 a5 = x at *
    have C1 := Lib.hid c1
    have F2 := Lib.hid f1
    have F3 := Lib.hid f2
    clear c1 f1 f2
    go_upto_if 44 with fail
    go_cut [] (fun wx => wx = w)
    case first =>
      by_cases q1 : rnd a4 ≤ x
      · have g1 : decide (farN (x - rnd a4 - a5) < farN (x - a5)) = false := by simpa using F2.out q1
        by_cases q2 : x + rnd a4 ≤ 1073741823
        · have g2 : decide (farN (x + rnd a4 - a5) ≤ farN (x - a5)) = false := by simpa using F3.out q2
          go_wp2_with (first | (go_at_call 13; refine (cut_yes x a4 c2 c3 b1 b2 _).mono ?_; rintro e w' ⟨rfl, rfl⟩; rw [C1.out]) | (go_at_call 14; refine (rround_any a4 b1 b2 _).mono ?_; rintro e w' ⟨rfl, rfl⟩) | (go_at_call 15; refine (far_any _ (by omega) (by omega) _).mono ?_; rintro e w' ⟨rfl, rfl⟩))
          go_meet
          case rel => rfl
        · go_wp2_with (first | (go_at_call 13; refine (cut_yes x a4 c2 c3 b1 b2 _).mono ?_; rintro e w' ⟨rfl, rfl⟩; rw [C1.out]) | (go_at_call 14; refine (rround_any a4 b1 b2 _).mono ?_; rintro e w' ⟨rfl, rfl⟩) | (go_at_call 15; refine (far_any _ (by omega) (by omega) _).mono ?_; rintro e w' ⟨rfl, rfl⟩))
          go_meet
          case rel => rfl
      · by_cases q2 : x + rnd a4 ≤ 1073741823
        · have g2 : decide (farN (x + rnd a4 - a5) ≤ farN (x - a5)) = false := by simpa using F3.out q2
          go_wp2_with (first | (go_at_call 13; refine (cut_yes x a4 c2 c3 b1 b2 _).mono ?_; rintro e w' ⟨rfl, rfl⟩; rw [C1.out]) | (go_at_call 14; refine (rround_any a4 b1 b2 _).mono ?_; rintro e w' ⟨rfl, rfl⟩) | (go_at_call 15; refine (far_any _ (by omega) (by omega) _).mono ?_; rintro e w' ⟨rfl, rfl⟩))
          go_meet
          case rel => rfl
        · go_wp2_with (first | (go_at_call 13; refine (cut_yes x a4 c2 c3 b1 b2 _).mono ?_; rintro e w' ⟨rfl, rfl⟩; rw [C1.out]) | (go_at_call 14; refine (rround_any a4 b1 b2 _).mono ?_; rintro e w' ⟨rfl, rfl⟩) | (go_at_call 15; refine (far_any _ (by omega) (by omega) _).mono ?_; rintro e w' ⟨rfl, rfl⟩))
          go_meet
          case rel => rfl
    case rest =>
      obtain rfl := hcut
      by_cases hN : NeedOk a0 a1
      · obtain ⟨lb1, lb2⟩ := leastN_bounds (a0 - a1)
        have t1 := hN.1.1
        have t2 := hN.1.2
        have t3 := hN.2.1
        by_cases m1 : a1 ≤ a2
        · by_cases m2 : a2 < a0
          · obtain ⟨k1, k2⟩ := wholeN_back a0 a1 a2 hN m1 m2
            have K2 := Lib.hid k2
            clear k2
            go_wp2_with fail
            refine (need_yes a0 a1 hN _).mono ?_
            rintro e w' ⟨rfl, rfl⟩
            generalize leastN (a0 - a1) = b at *
            go_wp2_with (first | (go_at_call 13; refine (cut_yes a0 b t1 t2 lb1 lb2 _).mono ?_; rintro e w' ⟨rfl, rfl⟩) | (go_at_call 12; refine (whole_yes _ b (a2 + 1) k1 _).mono ?_; rintro e w' ⟨rfl, rfl⟩; rw [K2.out]))
            go_ret
            exact ⟨rfl, Below.refl _ _⟩
          · go_wp2_with (go_at_call 16; refine (need_yes a0 a1 hN _).mono ?_; rintro e w' ⟨rfl, rfl⟩)
            go_ret
            exact ⟨rfl, Below.refl _ _⟩
        · go_wp2_with (go_at_call 16; refine (need_yes a0 a1 hN _).mono ?_; rintro e w' ⟨rfl, rfl⟩)
          go_ret
          exact ⟨rfl, Below.refl _ _⟩
      · go_wp2_with (go_at_call 16; refine (need_no a0 a1 hN _).mono ?_; rintro e w' ⟨rfl, rfl⟩)
        go_ret
        exact ⟨rfl, Below.refl _ _⟩
  · refine (whole_no a3 a4 a5 hW _).mono ?_
    rintro e w' ⟨rfl, rfl⟩
    go_upto_if 44 with fail
    go_cut [] (fun wx => wx = w)
    case first =>
      go_wp2_with fail
      go_meet
      case rel => rfl
    case rest =>
      obtain rfl := hcut
      by_cases hN : NeedOk a0 a1
      · obtain ⟨lb1, lb2⟩ := leastN_bounds (a0 - a1)
        have t1 := hN.1.1
        have t2 := hN.1.2
        have t3 := hN.2.1
        by_cases m1 : a1 ≤ a2
        · by_cases m2 : a2 < a0
          · obtain ⟨k1, k2⟩ := wholeN_back a0 a1 a2 hN m1 m2
            have K2 := Lib.hid k2
            clear k2
            go_wp2_with fail
            refine (need_yes a0 a1 hN _).mono ?_
            rintro e w' ⟨rfl, rfl⟩
            generalize leastN (a0 - a1) = b at *
            go_wp2_with (first | (go_at_call 13; refine (cut_yes a0 b t1 t2 lb1 lb2 _).mono ?_; rintro e w' ⟨rfl, rfl⟩) | (go_at_call 12; refine (whole_yes _ b (a2 + 1) k1 _).mono ?_; rintro e w' ⟨rfl, rfl⟩; rw [K2.out]))
            go_ret
            exact ⟨rfl, Below.refl _ _⟩
          · go_wp2_with (go_at_call 16; refine (need_yes a0 a1 hN _).mono ?_; rintro e w' ⟨rfl, rfl⟩)
            go_ret
            exact ⟨rfl, Below.refl _ _⟩
        · go_wp2_with (go_at_call 16; refine (need_yes a0 a1 hN _).mono ?_; rintro e w' ⟨rfl, rfl⟩)
          go_ret
          exact ⟨rfl, Below.refl _ _⟩
      · go_wp2_with (go_at_call 16; refine (need_no a0 a1 hN _).mono ?_; rintro e w' ⟨rfl, rfl⟩)
        go_ret
        exact ⟨rfl, Below.refl _ _⟩

/-! the row -/
theorem own : ownKnob Try.prog.godebug = none := by kernel_rfl
theorem laidOut : laidOutB Try.prog = true := by kernel_rfl
set_option maxRecDepth 100000 in
theorem contract (H : Type) (enc : TypeId × Value → H) (W : World) (base : Nat) (args : Array Value) (ds gs : List (DataW H)) (before : List MemPlace)
    (hval : ∀ (j : Nat) t v, Try.f6.params[j]? = some t → args[j]? = some v → Value.okWide Try.prog W .any base t v)
    (hW : DataW.Whole enc Try.prog Try.f6.params.toList Rows.numberWholeSpec.vars false W args.toList ds gs before) :
    Calls Try.prog 6 args W fun e W' => ∃ v, e = .returned v ∧ Rows.numberWholeSpec.post enc Try.prog Try.f6 false true false false W args v W' := by
  have hW' := hW
  obtain ⟨p, q, hA0, hV, rfl, hfz, hnd⟩ := hW
  have hA : DataW.TrodAll enc Try.prog W 0 (fun _ => true) true Try.f6.params.toList args.toList ds p := hA0
  rw [Try.params6] at hA hval
  obtain ⟨v0, vs0, d0, ds0, p0, q0, hargs, rfl, rfl, h0, r0⟩ := trodAll_cons hA
  obtain ⟨v1, vs1, d1, ds1, p1, q1, rfl, rfl, rfl, h1, r1⟩ := trodAll_cons r0
  obtain ⟨v2, vs2, d2, ds2, p2, q2, rfl, rfl, rfl, h2, r2⟩ := trodAll_cons r1
  obtain ⟨v3, vs3, d3, ds3, p3, q3, rfl, rfl, rfl, h3, r3⟩ := trodAll_cons r2
  obtain ⟨v4, vs4, d4, ds4, p4, q4, rfl, rfl, rfl, h4, r4⟩ := trodAll_cons r3
  obtain ⟨v5, vs5, d5, ds5, p5, q5, rfl, rfl, rfl, h5, r5⟩ := trodAll_cons r4
  obtain ⟨rfl, rfl, rfl⟩ := trodAll_nil r5
  obtain rfl : args = #[v0, v1, v2, v3, v4, v5] := by cases args; simp_all
  obtain ⟨rfl, rfl⟩ := trodVars_none hV
  obtain ⟨a0, rfl, rfl, rfl, w0⟩ := open_int Try.underlying3 (hval 0 3 v0 rfl rfl) h0
  obtain ⟨a1, rfl, rfl, rfl, w1⟩ := open_int Try.underlying3 (hval 1 3 v1 rfl rfl) h1
  obtain ⟨a2, rfl, rfl, rfl, w2⟩ := open_int Try.underlying3 (hval 2 3 v2 rfl rfl) h2
  obtain ⟨a3, rfl, rfl, rfl, w3⟩ := open_int Try.underlying3 (hval 3 3 v3 rfl rfl) h3
  obtain ⟨a4, rfl, rfl, rfl, w4⟩ := open_int Try.underlying3 (hval 4 3 v4 rfl rfl) h4
  obtain ⟨a5, rfl, rfl, rfl, w5⟩ := open_int Try.underlying3 (hval 5 3 v5 rfl rfl) h5
  refine (walk a0 a1 a2 a3 a4 a5 W w0 w1 w2 w3 w4 w5).mono fun e W' ⟨he, bel⟩ => ?_
  subst he
  exact ⟨_, rfl, _, _, _, [], _, [], hW', trodAll_mk1 (shut_bool Try.underlying4 _), (trodAll_cons_mk (shut_int Try.underlying3 w0) (trodAll_cons_mk (shut_int Try.underlying3 w1) (trodAll_cons_mk (shut_int Try.underlying3 w2) (trodAll_cons_mk (shut_int Try.underlying3 w3) (trodAll_cons_mk (shut_int Try.underlying3 w4) (trodAll_cons_mk (shut_int Try.underlying3 w5) trodAll_mk0)))))), rfl, bel.frame _, fun h => by cases h⟩

set_option maxRecDepth 100000 in
theorem lifted (os : Os) (started : os.Started) (H : Type) (enc : TypeId × Value → H) :
    ReturnsInHanded {} Try.checked os 6 .any (Rows.numberWholeSpec.pre6 enc Try.prog Try.f6 Rows.numberWholeRow.domain false) (Rows.numberWholeSpec.post enc Try.prog Try.f6 false true false false) := by
  refine returnsInHanded_of_change (C := Try.checked) own started (by kernel_rfl) Try.func6
    (ChangeSpec.witness6 (enc := enc) (C := Try.checked) false ⟨#[], #[.int .i64 0, .int .i64 0, .int .i64 0, .int .i64 0, .int .i64 0, .int .i64 0], []⟩ 8 (by kernel_rfl) (by kernel_rfl) (by kernel_rfl) (by kernel_rfl)) ?_
  intro W base args ds gs before hval hW _ _
  exact contract H enc W base args ds gs before hval hW

theorem said : Rows.NumberWholeSaid :=
  OpenClaim.holds_of_wide 6 Try.f6 rfl rfl rfl rfl rfl rfl rfl ⟨rfl, rfl, rfl, rfl, rfl⟩ rfl rfl rfl rfl rfl (by kernel_rfl) Try.func6 (by kernel_rfl)
    (of_decide_eq_true (by kernel_rfl)) (by unfold Func.isWrapper; first | (rw [if_pos (by decide +kernel)]; kernel_rfl) | (rw [if_neg (by decide +kernel)]; exact ⟨rfl, rfl⟩))
    (fun os started H enc _ => lifted os started H enc)
#print axioms said
end Go.Proofs.Ytmofahmkgignaaa.numberWhole
