/- NumberTells: for every five numbers the law returns true: how many bytes any number needs, any cut, and any whole again, are as the reference says. Condition: errors.errorType holds its handle (the row lists it, the card ties it). -/
import Derived.Test.YtmofahmkgignaaaDoorNumAny
import Derived.Test.YtmofahmkgignaaaDoorLaid
import Derived.Test.YtmofahmkgignaaaDoorRules
import Derived.Test.YtmofahmkgignaaaDoorSince
import Derived.Deep.DeepCutAuto
import Derived.Test.YtmofahmkgignaaaDoorCards
import Derived.Test.YtmofahmkgignaaaDoorTie
import Derived.Deep.DeepHandedRow
import Derived.LaidLaws
import Derived.LaidHandle
import Derived.Deep.DeepWitnessRowRef
import Derived.Test.YtmofahmkgignaaaDoorRows
import Derived.WalkKit
import Derived.ProofKit
import Derived.OpenShut
import Derived.ShutString
import Derived.ChangeOld
import Derived.Below
import Derived.Lib.SmallJoins
import Derived.Deep.Slices
import Derived.Deep.Matrix
import Derived.Deep.Strs
namespace Go.Proofs.YtmofahmkgignaaaDoor.numberTells
open Go.ChangeShapes Go.WideShapes Go.ChangeAt Go.RowKit
open Go.ChangeMaps (open_string shut_string)
set_option linter.unusedVariables false

noncomputable abbrev laidWorld := YtmofahmkgignaaaDoor.laidWorld
theorem laidMetW (os : Os) (args : Array Value) : laidMetH Tryd.prog Rows.numberTellsRow.laid ((laidWorld os).forCall (fun _ _ => 0) ⟨#[], args, []⟩).memory := laidMet_et os args
theorem laidWalk {W : World} (h : laidMetH Tryd.prog Rows.numberTellsRow.laid W) : ETok W := laid_et h

theorem need_in {n known : Int} (h : NeedOk n known) : needV n known = leastN (n - known) ∧ needE n known = 0 := by unfold needV needE; rw [if_pos h, if_pos h]; exact ⟨rfl, rfl⟩
theorem need_out {n known : Int} (h : ¬ NeedOk n known) : needV n known = 0 ∧ needE n known = 1 := by unfold needV needE; rw [if_neg h, if_neg h]; exact ⟨rfl, rfl⟩
theorem cut_in {n b : Int} (h : CutOk n b) : cutV n b = n % rnd b ∧ cutE n b = 0 := by unfold cutV cutE; rw [if_pos h, if_pos h]; exact ⟨rfl, rfl⟩
theorem cut_out {n b : Int} (h : ¬ CutOk n b) : cutV n b = 0 ∧ cutE n b = 1 := by unfold cutV cutE; rw [if_neg h, if_neg h]; exact ⟨rfl, rfl⟩
theorem whole_in {a b c : Int} (h : WholeOk a b c) : wholeV a b c = wholeN a b c ∧ wholeE a b c = 0 := by unfold wholeV wholeE; rw [if_pos h, if_pos h]; exact ⟨rfl, rfl⟩
theorem whole_out {a b c : Int} (h : ¬ WholeOk a b c) : wholeV a b c = 0 ∧ wholeE a b c = 1 := by unfold wholeV wholeE; rw [if_neg h, if_neg h]; exact ⟨rfl, rfl⟩
def needB (n known : Int) : Bool := decide (NeedOk n known)
def cutB (n b : Int) : Bool := decide (CutOk n b)
def wholeB (a b c : Int) : Bool := decide (WholeOk a b c)
theorem rwhole_any (cut b next : Int) (w : World) :
    Calls Tryd.prog 22 #[.int .i64 cut, .int .i64 b, .int .i64 next] w fun e w' => e = .returned (.tuple #[.int .i64 (wholeV cut b next), .bool (wholeB cut b next)]) ∧ w = w' := by
  by_cases h : WholeOk cut b next
  · rw [show wholeB cut b next = true from decide_eq_true h, (whole_in h).1]; exact rwhole_yes cut b next h w
  · rw [show wholeB cut b next = false from decide_eq_false h, (whole_out h).1]; exact rwhole_no cut b next h w

theorem need_cases {n known : Int} (h : ¬ NeedOk n known) : mayB n = false ∨ (mayB n = true ∧ known < -1) ∨ (mayB n = true ∧ decide (known < -1) = false ∧ n ≤ known) := by
  by_cases hm : MayBe n
  · refine Or.inr ?_
    by_cases hk : known < -1
    · exact Or.inl ⟨mayB_iff.2 hm, hk⟩
    · refine Or.inr ⟨mayB_iff.2 hm, decide_eq_false hk, ?_⟩
      rcases Int.lt_or_le known n with h1 | h1
      · exact absurd ⟨hm, by omega, h1⟩ h
      · exact h1
  · exact Or.inl (mayB_not hm)
theorem cut_cases {n b : Int} (h : ¬ CutOk n b) : mayB n = false ∨ (mayB n = true ∧ b < 1) ∨ (mayB n = true ∧ decide (b < 1) = false ∧ 4 < b) := by
  by_cases hm : MayBe n
  · refine Or.inr ?_
    by_cases hk : b < 1
    · exact Or.inl ⟨mayB_iff.2 hm, hk⟩
    · refine Or.inr ⟨mayB_iff.2 hm, decide_eq_false hk, ?_⟩
      rcases Int.lt_or_le 4 b with h1 | h1
      · exact h1
      · exact absurd ⟨hm, by omega, h1⟩ h
  · exact Or.inl (mayB_not hm)

set_option maxRecDepth 100000 in
set_option maxHeartbeats 1600000 in
theorem walk (n known b c next : Int) (w : World) (w0 : (Lit.int .i64 n).wf = true) (w1 : (Lit.int .i64 known).wf = true) (w2 : (Lit.int .i64 b).wf = true) (w3 : (Lit.int .i64 c).wf = true) (w4 : (Lit.int .i64 next).wf = true) (hE : ETok w) :
    Calls Tryd.prog 4 #[.int .i64 n, .int .i64 known, .int .i64 b, .int .i64 c, .int .i64 next] w fun e w' => e = .returned (.bool true) ∧ Below w.heap.size w w' := by
  have HE := Lib.hid hE
  clear hE w0 w1 w2 w3 w4
  go_enter Tryd.func4, Tryd.ntmps4
  repeat ((fail_if_success (with_reducible refine stop_at 4 ?_)); first | (first | (go_at_call 17; refine (rmay_any n _).mono ?_; rintro e w' ⟨rfl, rfl⟩)) | go_values | go_skip | go_guarded | go_step | go_upon | go_back | (simp only [Int.not_lt, Int.not_le] at *; go_simp))
  go_cut [11, 12, 13] (fun s11 s12 s13 wx => s11 = .bool (mayB n) ∧ s12 = .int .i64 (needE n known) ∧ s13 = .int .i64 (needV n known) ∧ Since w wx)
  case first =>
    by_cases h : NeedOk n known
    · have HN := Lib.hid (need_in h)
      obtain ⟨hm, k1, k2⟩ := h
      have m1 := mayB_iff.2 hm
      have M1 := Lib.hid m1
      have m2 := hm.2
      have d1 : decide (known < -1) = false := by simp; omega
      have d2 : decide (n ≤ known) = false := by simp; omega
      clear hm
      go_wp2_with (go_at_call 18; refine (rneed_any n known k2 k1 m2 _).mono ?_; rintro e w' ⟨rfl, rfl⟩)
      go_meet
      case rel => exact ⟨by rw [M1.out], by rw [HN.out.2], by rw [HN.out.1], (by refine Since.out ?_; repeat (first | with_reducible assumption | with_reducible exact Since.refl _ | with_reducible refine Since.later ?_ (by with_reducible assumption) | with_reducible refine Since.only ?_ (by with_reducible assumption) (by first | assumption | omega | (simp; omega)) | with_reducible refine Since.alloc ?_ _ | with_reducible refine Since.drewN ?_ _ | with_reducible refine Since.drew ?_ | with_reducible refine Since.set ?_ (by first | assumption | omega | (simp; omega)) _))⟩
    · have HN := Lib.hid (need_out h)
      rcases need_cases h with m1 | ⟨m1, k1⟩ | ⟨m1, k1, k2⟩
      all_goals
        have M1 := Lib.hid m1
        clear h
        go_wp2_with fail
        go_meet
        case rel => exact ⟨by rw [M1.out], by rw [HN.out.2], by rw [HN.out.1], (by refine Since.out ?_; repeat (first | with_reducible assumption | with_reducible exact Since.refl _ | with_reducible refine Since.later ?_ (by with_reducible assumption) | with_reducible refine Since.only ?_ (by with_reducible assumption) (by first | assumption | omega | (simp; omega)) | with_reducible refine Since.alloc ?_ _ | with_reducible refine Since.drewN ?_ _ | with_reducible refine Since.drew ?_ | with_reducible refine Since.set ?_ (by first | assumption | omega | (simp; omega)) _))⟩
  case rest =>
    obtain ⟨rfl, rfl, rfl, hs1⟩ := hcut
    repeat ((fail_if_success (with_reducible refine stop_at 11 ?_)); first | (first | (go_at_call 19; refine (need_any n known _).mono ?_; rintro e w' ⟨rfl, rfl⟩) | (go_at_call 12; refine (same_yes _ _ (HE.out.later (by refine Since.out ?_; repeat (first | with_reducible assumption | with_reducible exact Since.refl _ | with_reducible refine Since.later ?_ (by with_reducible assumption) | with_reducible refine Since.only ?_ (by with_reducible assumption) (by first | assumption | omega | (simp; omega)) | with_reducible refine Since.alloc ?_ _ | with_reducible refine Since.drewN ?_ _ | with_reducible refine Since.drew ?_ | with_reducible refine Since.set ?_ (by first | assumption | omega | (simp; omega)) _)))).mono ?_; rintro e w' ⟨rfl, hb⟩)) | go_values | go_skip | go_guarded | go_step | go_upon | go_back | (simp only [Int.not_lt, Int.not_le] at *; go_simp))
    go_cut [11, 12, 13] (fun s11 s12 s13 wx => s12 = .int .i64 (cutE n b) ∧ s13 = .int .i64 (cutV n b) ∧ Since w wx)
    case first =>
      by_cases h : CutOk n b
      · have HN := Lib.hid (cut_in h)
        obtain ⟨hm, b1, b2⟩ := h
        have m1 := mayB_iff.2 hm
        have n0 := hm.1
        have r1 := (rnd_bounds b).1
        have d1 : decide (b < 1) = false := by simp; omega
        have d2 : decide (4 < b) = false := by simp; omega
        clear hm
        go_wp2_with (go_at_call 20; refine (rround_any b b1 b2 _).mono ?_; rintro e w' ⟨rfl, rfl⟩)
        go_meet
        case rel => exact ⟨by rw [HN.out.2], by rw [HN.out.1], (by refine Since.out ?_; repeat (first | with_reducible assumption | with_reducible exact Since.refl _ | with_reducible refine Since.later ?_ (by with_reducible assumption) | with_reducible refine Since.only ?_ (by with_reducible assumption) (by first | assumption | omega | (simp; omega)) | with_reducible refine Since.alloc ?_ _ | with_reducible refine Since.drewN ?_ _ | with_reducible refine Since.drew ?_ | with_reducible refine Since.set ?_ (by first | assumption | omega | (simp; omega)) _))⟩
      · have HN := Lib.hid (cut_out h)
        rcases cut_cases h with m1 | ⟨m1, k1⟩ | ⟨m1, k1, k2⟩
        all_goals
          clear h
          go_wp2_with fail
          go_meet
          case rel => exact ⟨by rw [HN.out.2], by rw [HN.out.1], (by refine Since.out ?_; repeat (first | with_reducible assumption | with_reducible exact Since.refl _ | with_reducible refine Since.later ?_ (by with_reducible assumption) | with_reducible refine Since.only ?_ (by with_reducible assumption) (by first | assumption | omega | (simp; omega)) | with_reducible refine Since.alloc ?_ _ | with_reducible refine Since.drewN ?_ _ | with_reducible refine Since.drew ?_ | with_reducible refine Since.set ?_ (by first | assumption | omega | (simp; omega)) _))⟩
    case rest =>
      obtain ⟨rfl, rfl, hs2⟩ := hcut
      repeat ((fail_if_success (with_reducible refine stop_at 18 ?_)); first | (first | (go_at_call 21; refine (cut_any n b _).mono ?_; rintro e w' ⟨rfl, rfl⟩) | (go_at_call 12; refine (same_yes _ _ (HE.out.later (by refine Since.out ?_; repeat (first | with_reducible assumption | with_reducible exact Since.refl _ | with_reducible refine Since.later ?_ (by with_reducible assumption) | with_reducible refine Since.only ?_ (by with_reducible assumption) (by first | assumption | omega | (simp; omega)) | with_reducible refine Since.alloc ?_ _ | with_reducible refine Since.drewN ?_ _ | with_reducible refine Since.drew ?_ | with_reducible refine Since.set ?_ (by first | assumption | omega | (simp; omega)) _)))).mono ?_; rintro e w' ⟨rfl, hb⟩) | (go_at_call 22; refine (rwhole_any c b next _).mono ?_; rintro e w' ⟨rfl, rfl⟩)) | go_values | go_skip | go_guarded | go_step | go_upon | go_back | (simp only [Int.not_lt, Int.not_le] at *; go_simp))
      go_cut [12, 18] (fun s12 s18 wx => s12 = .int .i64 (wholeE c b next) ∧ Since w wx)
      case first =>
        by_cases h : WholeOk c b next
        · have HN := Lib.hid (whole_in h)
          have hd : wholeB c b next = true := decide_eq_true h
          clear h
          go_wp2_with fail
          go_meet
          case rel => exact ⟨by rw [HN.out.2], (by refine Since.out ?_; repeat (first | with_reducible assumption | with_reducible exact Since.refl _ | with_reducible refine Since.later ?_ (by with_reducible assumption) | with_reducible refine Since.only ?_ (by with_reducible assumption) (by first | assumption | omega | (simp; omega)) | with_reducible refine Since.alloc ?_ _ | with_reducible refine Since.drewN ?_ _ | with_reducible refine Since.drew ?_ | with_reducible refine Since.set ?_ (by first | assumption | omega | (simp; omega)) _))⟩
        · have HN := Lib.hid (whole_out h)
          have hd : wholeB c b next = false := decide_eq_false h
          clear h
          go_wp2_with fail
          go_meet
          case rel => exact ⟨by rw [HN.out.2], (by refine Since.out ?_; repeat (first | with_reducible assumption | with_reducible exact Since.refl _ | with_reducible refine Since.later ?_ (by with_reducible assumption) | with_reducible refine Since.only ?_ (by with_reducible assumption) (by first | assumption | omega | (simp; omega)) | with_reducible refine Since.alloc ?_ _ | with_reducible refine Since.drewN ?_ _ | with_reducible refine Since.drew ?_ | with_reducible refine Since.set ?_ (by first | assumption | omega | (simp; omega)) _))⟩
      case rest =>
        obtain ⟨rfl, hs3⟩ := hcut
        go_wp2_with (first | (go_at_call 23; refine (whole_any c b next _).mono ?_; rintro e w' ⟨rfl, rfl⟩) | (go_at_call 12; refine (same_yes _ _ (HE.out.later (by refine Since.out ?_; repeat (first | with_reducible assumption | with_reducible exact Since.refl _ | with_reducible refine Since.later ?_ (by with_reducible assumption) | with_reducible refine Since.only ?_ (by with_reducible assumption) (by first | assumption | omega | (simp; omega)) | with_reducible refine Since.alloc ?_ _ | with_reducible refine Since.drewN ?_ _ | with_reducible refine Since.drew ?_ | with_reducible refine Since.set ?_ (by first | assumption | omega | (simp; omega)) _)))).mono ?_; rintro e w' ⟨rfl, hb⟩))
        go_ret
        exact ⟨rfl, (by refine Since.out ?_; repeat (first | with_reducible assumption | with_reducible exact Since.refl _ | with_reducible refine Since.later ?_ (by with_reducible assumption) | with_reducible refine Since.only ?_ (by with_reducible assumption) (by first | assumption | omega | (simp; omega)) | with_reducible refine Since.alloc ?_ _ | with_reducible refine Since.drewN ?_ _ | with_reducible refine Since.drew ?_ | with_reducible refine Since.set ?_ (by first | assumption | omega | (simp; omega)) _))⟩

/-! the row -/
theorem own : ownKnob Tryd.prog.godebug = none := by kernel_rfl
theorem laidOut : laidOutB Tryd.prog = true := by kernel_rfl
set_option maxRecDepth 100000 in
theorem contract (H : Type) (enc : TypeId × Value → H) (W : World) (base : Nat) (args : Array Value) (ds gs : List (DataW H)) (before : List MemPlace)
    (hval : ∀ (j : Nat) t v, Tryd.f4.params[j]? = some t → args[j]? = some v → Value.okWide Tryd.prog W .any base t v)
    (hW : DataW.Whole enc Tryd.prog Tryd.f4.params.toList Rows.numberTellsSpec.vars false W args.toList ds gs before) (hL : laidMetH Tryd.prog Rows.numberTellsRow.laid W) :
    Calls Tryd.prog 4 args W fun e W' => ∃ v, e = .returned v ∧ Rows.numberTellsSpec.post enc Tryd.prog Tryd.f4 false true false false W args v W' := by
  have hW' := hW
  obtain ⟨p, q, hA0, hV, rfl, hfz, hnd⟩ := hW
  have hA : DataW.TrodAll enc Tryd.prog W 0 (fun _ => true) true Tryd.f4.params.toList args.toList ds p := hA0
  rw [Tryd.params4] at hA hval
  obtain ⟨v0, vs0, d0, ds0, p0, q0, hargs, rfl, rfl, h0, r0⟩ := trodAll_cons hA
  obtain ⟨v1, vs1, d1, ds1, p1, q1, rfl, rfl, rfl, h1, r1⟩ := trodAll_cons r0
  obtain ⟨v2, vs2, d2, ds2, p2, q2, rfl, rfl, rfl, h2, r2⟩ := trodAll_cons r1
  obtain ⟨v3, vs3, d3, ds3, p3, q3, rfl, rfl, rfl, h3, r3⟩ := trodAll_cons r2
  obtain ⟨v4, vs4, d4, ds4, p4, q4, rfl, rfl, rfl, h4, r4⟩ := trodAll_cons r3
  obtain ⟨rfl, rfl, rfl⟩ := trodAll_nil r4
  obtain rfl : args = #[v0, v1, v2, v3, v4] := by cases args; simp_all
  obtain ⟨rfl, rfl⟩ := trodVars_none hV
  obtain ⟨a0, rfl, rfl, rfl, w0⟩ := open_int Tryd.underlying3 (hval 0 3 v0 rfl rfl) h0
  obtain ⟨a1, rfl, rfl, rfl, w1⟩ := open_int Tryd.underlying3 (hval 1 3 v1 rfl rfl) h1
  obtain ⟨a2, rfl, rfl, rfl, w2⟩ := open_int Tryd.underlying3 (hval 2 3 v2 rfl rfl) h2
  obtain ⟨a3, rfl, rfl, rfl, w3⟩ := open_int Tryd.underlying3 (hval 3 3 v3 rfl rfl) h3
  obtain ⟨a4, rfl, rfl, rfl, w4⟩ := open_int Tryd.underlying3 (hval 4 3 v4 rfl rfl) h4
  have lw := laidWalk hL
  refine (walk a0 a1 a2 a3 a4 W w0 w1 w2 w3 w4 lw).mono fun e W' ⟨he, bel⟩ => ?_
  subst he
  exact ⟨_, rfl, _, _, _, [], _, [], hW', trodAll_mk1 (shut_bool Tryd.underlying4 _), (trodAll_cons_mk (shut_int Tryd.underlying3 w0) (trodAll_cons_mk (shut_int Tryd.underlying3 w1) (trodAll_cons_mk (shut_int Tryd.underlying3 w2) (trodAll_cons_mk (shut_int Tryd.underlying3 w3) (trodAll_cons_mk (shut_int Tryd.underlying3 w4) trodAll_mk0))))), rfl, bel.frame _, fun h => by cases h⟩

theorem reads (os : Os) {H : Type} (enc : TypeId × Value → H) : ∃ places, DataW.whole enc Tryd.prog ((laidWorld os).forCall (fun _ _ => 0) ⟨#[], #[.int .i64 0, .int .i64 0, .int .i64 0, .int .i64 0, .int .i64 0], []⟩).memory Tryd.f4.params.toList Rows.numberTellsSpec.vars false (#[.int .i64 0, .int .i64 0, .int .i64 0, .int .i64 0, .int .i64 0] : Array Value).toList 8 = some ([.lit (.int .i64 0), .lit (.int .i64 0), .lit (.int .i64 0), .lit (.int .i64 0), .lit (.int .i64 0)], [], places) :=
  ⟨[], by kernel_rfl⟩
theorem laid_met (os : Os) : laidMetH Tryd.prog Rows.numberTellsRow.laid ((laidWorld os).forCall (fun _ _ => 0) ⟨#[], #[.int .i64 0, .int .i64 0, .int .i64 0, .int .i64 0, .int .i64 0], []⟩).memory := laidMetW os _

set_option maxRecDepth 100000 in
theorem lifted (os : Os) (started : os.Started) (H : Type) (enc : TypeId × Value → H) (F : Stop.Interp) :
    ReturnsInHanded {} Tryd.checked os 4 .any ((OpenSpec.ofChange Rows.numberTellsSpec).preRow enc Tryd.prog Tryd.f4 Rows.numberTellsRow.domain false Rows.numberTellsRow.laid) (((OpenSpec.ofChange Rows.numberTellsSpec).at F).post enc Tryd.prog Tryd.f4 false true false false) := by
  obtain ⟨places, hx⟩ := reads os enc
  refine returnsInHanded_of_row (C := Tryd.checked) (s := OpenSpec.ofChange Rows.numberTellsSpec) own started (by kernel_rfl) Tryd.func4
    (witness_row_at (enc := enc) (C := Tryd.checked) false (laidWorld os) #[.int .i64 0, .int .i64 0, .int .i64 0, .int .i64 0, .int .i64 0] rfl (by kernel_rfl) (by kernel_rfl) (by kernel_rfl)
      (OpenSpec.preRow_of_cond 8 hx (by kernel_rfl) (fun k hk => by cases hk) (by kernel_rfl) (laid_met os))) ?_
  intro W base args ds gs before hval hW _ _ _ hL _ _
  exact contract H enc W base args ds gs before hval hW hL

theorem said : Rows.NumberTellsSaid :=
  OpenClaim.holds_of_cond 4 Tryd.f4 rfl rfl rfl rfl rfl rfl rfl ⟨rfl, rfl, rfl, rfl, rfl⟩ rfl rfl rfl rfl rfl (by kernel_rfl) Tryd.func4 (by kernel_rfl)
    (of_decide_eq_true (by kernel_rfl)) (by unfold Func.isWrapper; first | (rw [if_pos (by decide +kernel)]; kernel_rfl) | (rw [if_neg (by decide +kernel)]; exact ⟨rfl, rfl⟩))
    (fun os started H enc _ F => by rw [OpenClaim.pre_eq_preRow]; exact lifted os started H enc F)

theorem plain (f : FuncId) (fn : Func) (hf : Tryd.pinned.checked.prog.funcNamed "wanderwire/wirelaw1.NumberTells" = some f) (hfn : Tryd.pinned.checked.prog.funcs[f]? = some fn) :
    true = Tryd.pinned.checked.prog.looks [] ∧ ∀ (j : Nat) t, fn.params[j]? = some t → Tryd.pinned.checked.prog.wantsStandIn t = false := by
  obtain rfl : f = 4 := Option.some.inj ((show Tryd.prog.funcNamed "wanderwire/wirelaw1.NumberTells" = some 4 by kernel_rfl).symm.trans hf) |>.symm
  obtain rfl : fn = Tryd.f4 := (Option.some.inj (Tryd.func4.symm.trans hfn)).symm
  refine ⟨by kernel_rfl, fun j t ht => ?_⟩
  rw [Tryd.params4] at ht
  have ht' := Array.mem_of_getElem? ht
  have hall : (([3, 3, 3, 3, 3] : List Nat).all fun t => !Tryd.prog.wantsStandIn t) = true := by kernel_rfl
  have hq := List.all_eq_true.1 hall t (by simpa using ht')
  have hq2 : Tryd.prog.wantsStandIn t = false := by simpa using hq
  exact hq2

theorem card : Rows.NumberTellsCardSaid :=
  Claim7.holds_tied_plain_at .later [] _ _ _ _ said (fun _ h => by cases h) (by kernel_rfl) (fun _ h => by cases h) numberTells_row_tie rfl ⟨rfl, rfl⟩ (by kernel_rfl) rfl plain (by kernel_rfl)
#print axioms card
end Go.Proofs.YtmofahmkgignaaaDoor.numberTells
