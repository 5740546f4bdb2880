/- MoveNone: for every name and other number the law returns true: with one name alone nobody moves to another path. Condition: errors.errorType holds its handle (the row lists it, the card ties it). -/
import Derived.Test.YthnolkbolmbkdaaDoorMovL
import Derived.Test.YthnolkbolmbkdaaDoorLaid
import Derived.Test.YthnolkbolmbkdaaDoorTold
import Derived.Test.YthnolkbolmbkdaaDoorCards
import Derived.Test.YthnolkbolmbkdaaDoorTie
import Derived.Test.YthnolkbolmbkdaaDoorCards
import Derived.Test.YthnolkbolmbkdaaDoorTie
import Derived.Deep.DeepHandedRow
import Derived.LaidLaws
import Derived.LaidHandle
import Derived.Deep.DeepWitnessRowRef
import Derived.Test.YthnolkbolmbkdaaDoorRows
import Derived.WalkKit
import Derived.ProofKit
import Derived.OpenShut
import Derived.ShutString
import Derived.ChangeOld
import Derived.Below
import Derived.Lib.SmallJoins
import Derived.Deep.Slices
import Derived.Deep.Matrix
import Derived.Deep.Strs
namespace Go.Proofs.YthnolkbolmbkdaaDoor.moveNone
open Go.ChangeShapes Go.WideShapes Go.ChangeAt Go.RowKit
open Go.ChangeMaps (open_string shut_string)
set_option linter.unusedVariables false

noncomputable abbrev laidWorld := YthnolkbolmbkdaaDoor.laidWorld
theorem laidMetW (os : Os) (args : Array Value) : laidMetH Tryd.prog Rows.moveNoneRow.laid ((laidWorld os).forCall (fun _ _ => 0) ⟨#[], args, []⟩).memory := laidMet_et os args
theorem laidWalk {W : World} (h : laidMetH Tryd.prog Rows.moveNoneRow.laid W) : ETok W := laid_et h
def S1 (x : Int) : MvS := { mv0 4 with L := [⟨0, x⟩], N := [x] }
def S2 (x : Int) : MvS := { S1 x with P := ⟨⟨0, 0, true⟩, ⟨0, 0, false⟩, ⟨9, 0, false⟩, ⟨0, 0, false⟩⟩ }
def S3 (x y : Int) : MvS := { S2 x with As := [⟨2, y, 1⟩] }
def S4 (x : Int) : MvS := { S1 x with P := ⟨⟨0, 0, true⟩, ⟨0, 0, false⟩, ⟨9, 0, true⟩, ⟨0, 0, false⟩⟩ }
theorem e0 : whE (mv0 4) = 5 := rfl
theorem e1 {x : Int} (h : MayBe x) : mOffE (mv0 4) x = 0 ∧ mOff (mv0 4) x = S1 x := by
  have e : mOffE (mv0 4) x = 0 := by unfold mOffE issE mv0; rw [if_pos h]; simp
  exact ⟨e, by unfold mOff; rw [(iss_ok e).1, (iss_ok e).2.1]; rfl⟩
theorem e1' {x : Int} (h : ¬ MayBe x) : mOffE (mv0 4) x = 1 := by unfold mOffE issE; rw [if_neg h]
theorem e2 (x : Int) : mCameE (S1 x) 2 9 = 0 ∧ mCame (S1 x) 2 9 = S2 x := ⟨rfl, rfl⟩
theorem e3 (x : Int) {y : Int} (h : MayBe y) : mAskE (S2 x) 2 y 1 = 0 ∧ mAsk (S2 x) 2 y 1 = S3 x y := by
  have ea : askE [] 2 y 1 = 0 := by unfold askE; rw [if_pos ⟨by omega, h, by omega, by omega⟩]; rfl
  have e : mAskE (S2 x) 2 y 1 = 0 := ea
  refine ⟨e, ?_⟩
  unfold mAsk
  rw [if_pos e]
  show { S2 x with As := askL [] 2 y 1 } = S3 x y
  unfold askL
  rw [if_pos ea]
  rfl
theorem e3' (x : Int) {y : Int} (h : ¬ MayBe y) : mAskE (S2 x) 2 y 1 = 1 := by
  have ea : askE [] 2 y 1 = 1 := by unfold askE; rw [if_neg (fun hh => h hh.2.1)]
  exact ea
theorem e4 (x y : Int) : mMovE (S3 x y) 2 = 6 ∧ mMov (S3 x y) 2 = S3 x y := ⟨rfl, rfl⟩
theorem e5 (x : Int) {y : Int} (h : MayBe y) : ansB (S3 x y).As 2 y 3 5 = true ∧ ansE 2 y 3 5 = 0 ∧ mAns (S3 x y) 2 y 3 5 = S4 x := by
  have hE : ansE 2 y 3 5 = 0 := by unfold ansE; rw [if_pos ⟨⟨by omega, h, by omega, by omega⟩, by omega, by omega⟩]
  have hf : fnd [⟨2, y, 1⟩] y = some ⟨2, y, 1⟩ := by simp [fnd]
  have hB : ansB [⟨2, y, 1⟩] 2 y 3 5 = true := by rw [ansB_some hE hf]; exact decide_eq_true ⟨rfl, rfl, by simp, by simp⟩
  refine ⟨hB, hE, ?_⟩
  unfold mAns ansL
  have hB2 : ansB (S3 x y).As 2 y 3 5 = true := hB
  have hc : cut (S3 x y).As y = [] := by simp [cut, S3]
  rw [if_pos hB2, if_pos hB2, hc]
  rfl
theorem e6 (x : Int) : mMovE (S4 x) 2 = 5 ∧ mMov (S4 x) 2 = S4 x := ⟨rfl, rfl⟩
theorem e7 (x : Int) : mMovE (S4 x) 0 = 7 ∧ mMov (S4 x) 0 = S4 x := ⟨rfl, rfl⟩
theorem e8 (x : Int) : whE (S4 x) = 0 ∧ whA (S4 x) = 0 ∧ whS (S4 x) = 0 := ⟨rfl, rfl, rfl⟩

set_option maxRecDepth 100000 in
set_option maxHeartbeats 1600000 in
theorem walk (x y : Int) (w : World) (w0 : (Lit.int .i64 x).wf = true) (w1 : (Lit.int .i64 y).wf = true) (hL : ETok w) :
    Calls Tryd.prog 3 #[.int .i64 x, .int .i64 y] w fun e w' => e = .returned (.bool true) ∧ Below w.heap.size w w' := by
  have HET := Lib.hid hL
  have LN := Lib.hid (fun W h => lnew 4 (by omega) (by omega) w W h)
  clear w0 w1 hL
  go_enter Tryd.func3, Tryd.ntmps3
  go_wp2_with fail
  refine (LN.out _ (Since.refl _)).mono ?_
  rintro e w1 ⟨g, rfl, hm1, hb1⟩
  go_wp2_with fail
  refine (lwhere hm1).mono ?_
  rintro e w2 ⟨rfl, hb2⟩
  have hm2 := hm1.later hb2
  rw [show whE (mv0 4) = 5 from rfl, show whA (mv0 4) = 0 from rfl, show whS (mv0 4) = 0 from rfl]
  clear hm1 hb1 hb2
  go_wp2_with fail
  refine (loffer x hm2).mono ?_
  rintro e w3 ⟨rfl, hm3, hp3⟩
  by_cases hx : MayBe x
  case neg =>
    rw [e1' hx, errV_pos (by decide)]
    have HS3 := Lib.hid hm3.since
    have EV := Lib.hid (errV_pos (n := 5) (by decide))
    by_cases h0 : x < 0
    · clear hx hm3 hm2 hp3
      go_wp2_with fail
      refine (same_yes 5 _ (HET.out.later HS3.out)).mono ?_
      rintro e w4 ⟨rfl, hb4⟩
      go_wp2_with fail
      go_ret
      exact ⟨by first | rfl | simp, HS3.out.later hb4⟩
    · have h1 : 1073741823 < x := by
        rcases Int.lt_or_le 1073741823 x with h | h
        · exact h
        · exact absurd ⟨by omega, h⟩ hx
      have h0' : decide (x < 0) = false := by simpa using h0
      clear hx hm3 hm2 hp3 h0
      go_wp2_with fail
      refine (same_yes 5 _ (HET.out.later HS3.out)).mono ?_
      rintro e w4 ⟨rfl, hb4⟩
      go_wp2_with fail
      go_ret
      exact ⟨by first | rfl | simp, HS3.out.later hb4⟩
  rw [(e1 hx).1, errV_zero]
  rw [(e1 hx).2] at hm3
  clear hm2 hp3 hx
  go_wp2_with fail
  refine (lcame 2 9 hm3).mono ?_
  rintro e w4 ⟨rfl, hm4, hp4⟩
  rw [(e2 x).1, errV_zero]
  rw [(e2 x).2] at hm4
  clear hm3 hp4
  go_wp2_with fail
  refine (lask 2 y 1 hm4).mono ?_
  rintro e w5 ⟨rfl, hm5, hp5⟩
  by_cases hy : MayBe y
  case neg =>
    rw [e3' x hy, errV_pos (by decide)]
    have HS5 := Lib.hid hm5.since
    by_cases h0 : y < 0
    · clear hy hm5 hm4 hp5
      go_wp2_with fail
      go_ret
      exact ⟨by first | rfl | simp, HS5.out⟩
    · have h1 : 1073741823 < y := by
        rcases Int.lt_or_le 1073741823 y with h | h
        · exact h
        · exact absurd ⟨by omega, h⟩ hy
      have h0' : decide (y < 0) = false := by simpa using h0
      clear hy hm5 hm4 hp5 h0
      go_wp2_with fail
      go_ret
      exact ⟨by first | rfl | simp, HS5.out⟩
  rw [(e3 x hy).1, errV_zero]
  rw [(e3 x hy).2] at hm5
  have HA := Lib.hid (e5 x hy)
  clear hm4 hp5 hy
  go_wp2_with fail
  refine (lmove 2 hm5).mono ?_
  rintro e w6 ⟨rfl, hm6, hp6⟩
  rw [(e4 x y).1]
  rw [(e4 x y).2] at hm6
  clear hm5 hp6
  go_wp2_with fail
  refine (lanswer 2 y 3 5 hm6).mono ?_
  rintro e w7 ⟨rfl, hm7, hp7⟩
  rw [HA.out.1, HA.out.2.1, errV_zero]
  rw [HA.out.2.2] at hm7
  clear hm6 hp7
  go_wp2_with fail
  refine (lmove 2 hm7).mono ?_
  rintro e w8 ⟨rfl, hm8, hp8⟩
  rw [(e6 x).1]
  rw [(e6 x).2] at hm8
  clear hm7 hp8
  go_wp2_with fail
  refine (lmove 0 hm8).mono ?_
  rintro e w9 ⟨rfl, hm9, hp9⟩
  rw [(e7 x).1]
  rw [(e7 x).2] at hm9
  clear hm8 hp9
  go_wp2_with fail
  refine (lwhere hm9).mono ?_
  rintro e w10 ⟨rfl, hb10⟩
  rw [(e8 x).1, (e8 x).2.1, (e8 x).2.2, errV_zero]
  have HS10 := Lib.hid (hm9.since.later hb10)
  clear hm9 hb10
  go_wp2_with fail
  refine (same_yes 5 _ (HET.out.later HS10.out)).mono ?_
  rintro e w11 ⟨rfl, hb11⟩
  have HS11 := Lib.hid (HS10.out.later hb11)
  clear hb11
  go_wp2_with fail
  refine (same_yes 6 _ (HET.out.later HS11.out)).mono ?_
  rintro e w12 ⟨rfl, hb12⟩
  have HS12 := Lib.hid (HS11.out.later hb12)
  clear hb12
  go_wp2_with fail
  refine (same_yes 5 _ (HET.out.later HS12.out)).mono ?_
  rintro e w13 ⟨rfl, hb13⟩
  have HS13 := Lib.hid (HS12.out.later hb13)
  clear hb13
  go_wp2_with fail
  refine (same_yes 7 _ (HET.out.later HS13.out)).mono ?_
  rintro e w14 ⟨rfl, hb14⟩
  go_wp2_with fail
  go_ret
  exact ⟨by first | rfl | simp, HS13.out.later hb14⟩

/-! the row -/
theorem own : ownKnob Tryd.prog.godebug = none := by kernel_rfl
theorem laidOut : laidOutB Tryd.prog = true := by kernel_rfl
set_option maxRecDepth 100000 in
theorem contract (H : Type) (enc : TypeId × Value → H) (W : World) (base : Nat) (args : Array Value) (ds gs : List (DataW H)) (before : List MemPlace)
    (hval : ∀ (j : Nat) t v, Tryd.f3.params[j]? = some t → args[j]? = some v → Value.okWide Tryd.prog W .any base t v)
    (hW : DataW.Whole enc Tryd.prog Tryd.f3.params.toList Rows.moveNoneSpec.vars false W args.toList ds gs before) (hL : laidMetH Tryd.prog Rows.moveNoneRow.laid W) :
    Calls Tryd.prog 3 args W fun e W' => ∃ v, e = .returned v ∧ Rows.moveNoneSpec.post enc Tryd.prog Tryd.f3 false true false false W args v W' := by
  have hW' := hW
  obtain ⟨p, q, hA0, hV, rfl, hfz, hnd⟩ := hW
  have hA : DataW.TrodAll enc Tryd.prog W 0 (fun _ => true) true Tryd.f3.params.toList args.toList ds p := hA0
  rw [Tryd.params3] at hA hval
  obtain ⟨v0, vs0, d0, ds0, p0, q0, hargs, rfl, rfl, h0, r0⟩ := trodAll_cons hA
  obtain ⟨v1, vs1, d1, ds1, p1, q1, rfl, rfl, rfl, h1, r1⟩ := trodAll_cons r0
  obtain ⟨rfl, rfl, rfl⟩ := trodAll_nil r1
  obtain rfl : args = #[v0, v1] := by cases args; simp_all
  obtain ⟨rfl, rfl⟩ := trodVars_none hV
  obtain ⟨a0, rfl, rfl, rfl, w0⟩ := open_int Tryd.underlying3 (hval 0 3 v0 rfl rfl) h0
  obtain ⟨a1, rfl, rfl, rfl, w1⟩ := open_int Tryd.underlying3 (hval 1 3 v1 rfl rfl) h1
  have lw := laidWalk hL
  refine (walk a0 a1 W w0 w1 lw).mono fun e W' ⟨he, bel⟩ => ?_
  subst he
  exact ⟨_, rfl, _, _, _, [], _, [], hW', trodAll_mk1 (shut_bool Tryd.underlying4 _), (trodAll_cons_mk (shut_int Tryd.underlying3 w0) (trodAll_cons_mk (shut_int Tryd.underlying3 w1) trodAll_mk0)), rfl, bel.frame _, fun h => by cases h⟩

theorem reads (os : Os) {H : Type} (enc : TypeId × Value → H) : ∃ places, DataW.whole enc Tryd.prog ((laidWorld os).forCall (fun _ _ => 0) ⟨#[], #[.int .i64 0, .int .i64 0], []⟩).memory Tryd.f3.params.toList Rows.moveNoneSpec.vars false (#[.int .i64 0, .int .i64 0] : Array Value).toList 8 = some ([.lit (.int .i64 0), .lit (.int .i64 0)], [], places) :=
  ⟨[], by kernel_rfl⟩
theorem laid_met (os : Os) : laidMetH Tryd.prog Rows.moveNoneRow.laid ((laidWorld os).forCall (fun _ _ => 0) ⟨#[], #[.int .i64 0, .int .i64 0], []⟩).memory := laidMetW os _

set_option maxRecDepth 100000 in
theorem lifted (os : Os) (started : os.Started) (H : Type) (enc : TypeId × Value → H) (F : Stop.Interp) :
    ReturnsInHanded {} Tryd.checked os 3 .any ((OpenSpec.ofChange Rows.moveNoneSpec).preRow enc Tryd.prog Tryd.f3 Rows.moveNoneRow.domain false Rows.moveNoneRow.laid) (((OpenSpec.ofChange Rows.moveNoneSpec).at F).post enc Tryd.prog Tryd.f3 false true false false) := by
  obtain ⟨places, hx⟩ := reads os enc
  refine returnsInHanded_of_row (C := Tryd.checked) (s := OpenSpec.ofChange Rows.moveNoneSpec) own started (by kernel_rfl) Tryd.func3
    (witness_row_at (enc := enc) (C := Tryd.checked) false (laidWorld os) #[.int .i64 0, .int .i64 0] rfl (by kernel_rfl) (by kernel_rfl) (by kernel_rfl)
      (OpenSpec.preRow_of_cond 8 hx (by kernel_rfl) (fun k hk => by cases hk) (by kernel_rfl) (laid_met os))) ?_
  intro W base args ds gs before hval hW _ _ _ hL _ _
  exact contract H enc W base args ds gs before hval hW hL

theorem said : Rows.MoveNoneSaid :=
  OpenClaim.holds_of_cond 3 Tryd.f3 rfl rfl rfl rfl rfl rfl rfl ⟨rfl, rfl, rfl, rfl, rfl⟩ rfl rfl rfl rfl rfl (by kernel_rfl) Tryd.func3 (by kernel_rfl)
    (of_decide_eq_true (by kernel_rfl)) (by unfold Func.isWrapper; first | (rw [if_pos (by decide +kernel)]; kernel_rfl) | (rw [if_neg (by decide +kernel)]; exact ⟨rfl, rfl⟩))
    (fun os started H enc _ F => by rw [OpenClaim.pre_eq_preRow]; exact lifted os started H enc F)

theorem plain (f : FuncId) (fn : Func) (hf : Tryd.pinned.checked.prog.funcNamed "wanderwire/wirelaw4.MoveNone" = some f) (hfn : Tryd.pinned.checked.prog.funcs[f]? = some fn) :
    true = Tryd.pinned.checked.prog.looks [] ∧ ∀ (j : Nat) t, fn.params[j]? = some t → Tryd.pinned.checked.prog.wantsStandIn t = false := by
  obtain rfl : f = 3 := Option.some.inj ((show Tryd.prog.funcNamed "wanderwire/wirelaw4.MoveNone" = some 3 by kernel_rfl).symm.trans hf) |>.symm
  obtain rfl : fn = Tryd.f3 := (Option.some.inj (Tryd.func3.symm.trans hfn)).symm
  refine ⟨by kernel_rfl, fun j t ht => ?_⟩
  rw [Tryd.params3] at ht
  have ht' := Array.mem_of_getElem? ht
  have hall : (([3, 3] : List Nat).all fun t => !Tryd.prog.wantsStandIn t) = true := by kernel_rfl
  have hq := List.all_eq_true.1 hall t (by simpa using ht')
  have hq2 : Tryd.prog.wantsStandIn t = false := by simpa using hq
  exact hq2

theorem card : Rows.MoveNoneCardSaid :=
  Claim7.holds_tied_plain_at .later [] _ _ _ _ said (fun _ h => by cases h) (by kernel_rfl) (fun _ h => by cases h) moveNone_row_tie rfl ⟨rfl, rfl⟩ (by kernel_rfl) rfl plain (by kernel_rfl)
#print axioms card
end Go.Proofs.YthnolkbolmbkdaaDoor.moveNone
