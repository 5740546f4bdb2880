/- CreditFirst: for every size the law returns true: at first a window is let, and one more is not. Condition: errors.errorType holds its handle (the row lists it, the card ties it). -/
import Derived.Test.YtaiojfoicfhbnaaDoorCreditAny
import Derived.Test.YtaiojfoicfhbnaaDoorLaid
import Derived.Test.YtaiojfoicfhbnaaDoorRules
import Derived.Test.YtaiojfoicfhbnaaDoorSince
import Derived.Test.YtaiojfoicfhbnaaDoorCards
import Derived.Test.YtaiojfoicfhbnaaDoorTie
import Derived.Deep.DeepHandedRow
import Derived.LaidLaws
import Derived.LaidHandle
import Derived.Deep.DeepWitnessRowRef
import Derived.Test.YtaiojfoicfhbnaaDoorRows
import Derived.WalkKit
import Derived.ProofKit
import Derived.OpenShut
import Derived.ShutString
import Derived.ChangeOld
import Derived.Below
import Derived.Lib.SmallJoins
import Derived.Deep.Slices
import Derived.Deep.Matrix
import Derived.Deep.Strs
namespace Go.Proofs.YtaiojfoicfhbnaaDoor.creditFirst
open Go.ChangeShapes Go.WideShapes Go.ChangeAt Go.RowKit
open Go.ChangeMaps (open_string shut_string)
set_option linter.unusedVariables false

noncomputable abbrev laidWorld := YtaiojfoicfhbnaaDoor.laidWorld
theorem laidMetW (os : Os) (args : Array Value) : laidMetH Tryd.prog Rows.creditFirstRow.laid ((laidWorld os).forCall (fun _ _ => 0) ⟨#[], args, []⟩).memory := laidMet_et os args
theorem laidWalk {W : World} (h : laidMetH Tryd.prog Rows.creditFirstRow.laid W) : ETok W := laid_et h

theorem first_facts {n : Int} (h1 : 1 ≤ n) (h2 : n ≤ 1000) : takeE n (n + 1) = 8 ∧ tC n 0 (n + 1) = 0 ∧ takeE n n = 0 ∧ tC n 0 n = n ∧ readE n n n 0 n = 0 ∧ rV n n n 0 n = 2 * n ∧ rL n n n 0 n = 2 * n ∧ rR n n n 0 n = n := by
  have e1 : takeE n (n + 1) = 8 := by unfold takeE; rw [if_pos (by omega), if_pos (by omega)]
  have e2 : takeE n n = 0 := by unfold takeE; rw [if_pos (by omega), if_neg (by omega)]
  have l : limitN n n 0 n = 2 * n := by unfold limitN; rw [if_pos (by omega)]; omega
  have e3 : readE n n n 0 n = 0 := by unfold readE; rw [if_neg (by omega), if_neg (by omega), l, if_neg (by omega)]
  refine ⟨e1, by unfold tC; rw [e1]; rfl, e2, ?_, e3, by unfold rV; rw [e3, if_pos rfl, l], by unfold rL; rw [e3, if_pos rfl, l], by unfold rR; rw [e3, if_pos rfl]; omega⟩
  unfold tC maxN
  rw [e2, if_pos rfl, if_pos (by omega)]
theorem ok0 (n : Int) (h1 : 1 ≤ n) (h2 : n ≤ 1000) : CredOk n n 0 0 := ⟨h1, h2, by omega, by omega, by omega, by omega, by omega, by omega, by omega⟩
theorem ok1 (n : Int) (h1 : 1 ≤ n) (h2 : n ≤ 1000) : CredOk n n n 0 := ⟨h1, h2, by omega, by omega, by omega, by omega, by omega, by omega, by omega⟩
theorem ok2 (n : Int) (h1 : 1 ≤ n) (h2 : n ≤ 1000) : CredOk n (2 * n) n n := ⟨h1, h2, by omega, by omega, by omega, by omega, by omega, by omega, by omega⟩

set_option maxRecDepth 100000 in
set_option maxHeartbeats 1600000 in
theorem walk (n : Int) (w : World) (w0 : (Lit.int .i64 n).wf = true) (hL : ETok w) :
    Calls Tryd.prog 4 #[.int .i64 n] w fun e w' => e = .returned (.bool true) ∧ Below w.heap.size w w' := by
  have HE := Lib.hid hL
  clear hL w0
  by_cases hn : 1 ≤ n ∧ n ≤ 1000
  case neg =>
    by_cases hlo : n < 1
    · go_enter Tryd.func4, Tryd.ntmps4
      go_wp2_with (go_at_call 12; refine (cnew_no n hn _).mono ?_; rintro e w5 ⟨rfl, rfl⟩)
      go_ret
      exact ⟨rfl, (by refine Since.out ?_; repeat (first | with_reducible assumption | with_reducible exact Since.refl _ | with_reducible refine Since.later ?_ (by with_reducible assumption) | with_reducible refine Since.only ?_ (by with_reducible assumption) (by first | assumption | omega | (simp; done) | (simp; omega)) | with_reducible refine Since.alloc ?_ _ | with_reducible refine Since.drewN ?_ _ | with_reducible refine Since.drew ?_ | with_reducible refine Since.set ?_ (by first | assumption | omega | (simp; done) | (simp; omega)) _))⟩
    · have hhi : 1000 < n := by omega
      go_enter Tryd.func4, Tryd.ntmps4
      go_wp2_with (go_at_call 12; refine (cnew_no n hn _).mono ?_; rintro e w5 ⟨rfl, rfl⟩)
      go_ret
      exact ⟨rfl, (by refine Since.out ?_; repeat (first | with_reducible assumption | with_reducible exact Since.refl _ | with_reducible refine Since.later ?_ (by with_reducible assumption) | with_reducible refine Since.only ?_ (by with_reducible assumption) (by first | assumption | omega | (simp; done) | (simp; omega)) | with_reducible refine Since.alloc ?_ _ | with_reducible refine Since.drewN ?_ _ | with_reducible refine Since.drew ?_ | with_reducible refine Since.set ?_ (by first | assumption | omega | (simp; done) | (simp; omega)) _))⟩
  obtain ⟨h1, h2⟩ := hn
  have F := Lib.hid (first_facts h1 h2)
  have n0 := h1
  go_enter Tryd.func4, Tryd.ntmps4
  go_wp2_with fail
  refine (cnew_yes n h1 h2 _).mono ?_
  rintro e w1 ⟨rfl, rfl⟩
  go_wp2_with fail
  refine (ctake_any _ n n 0 0 _ _ (BlockIs.fresh _ _ _)).mono ?_
  rintro e w2 ⟨rfl, hB2, hO2⟩
  rw [F.out.1, errV_pos (show (8 : Int) ≠ 0 by decide)]
  rw [F.out.2.1] at hB2
  go_wp2_with fail
  refine (ctake_any _ n n 0 0 _ _ hB2).mono ?_
  rintro e w3 ⟨rfl, hB3, hO3⟩
  rw [F.out.2.2.1, errV_zero]
  rw [F.out.2.2.2.1] at hB3
  go_wp2_with fail
  refine (cread_any _ n n n 0 n (ok1 n h1 h2) _ hB3).mono ?_
  rintro e w4 ⟨rfl, hB4, hO4⟩
  rw [F.out.2.2.2.2.1, F.out.2.2.2.2.2.1, errV_zero]
  rw [F.out.2.2.2.2.2.2.1, F.out.2.2.2.2.2.2.2] at hB4
  go_wp2_with fail
  refine (same_yes 8 _ (HE.out.later (by refine Since.out ?_; repeat (first | with_reducible assumption | with_reducible exact Since.refl _ | with_reducible refine Since.later ?_ (by with_reducible assumption) | with_reducible refine Since.only ?_ (by with_reducible assumption) (by first | assumption | omega | (simp; done) | (simp; omega)) | with_reducible refine Since.alloc ?_ _ | with_reducible refine Since.drewN ?_ _ | with_reducible refine Since.drew ?_ | with_reducible refine Since.set ?_ (by first | assumption | omega | (simp; done) | (simp; omega)) _)))).mono ?_
  rintro e w5 ⟨rfl, hb5⟩
  have hB5 := hB4.later hb5
  go_wp2_with fail
  refine (climit _ n (2 * n) n n _ hB5).mono ?_
  rintro e w6 ⟨rfl, rfl⟩
  go_wp2_with fail
  refine (cleft _ n (2 * n) n n (ok2 n h1 h2) _ hB5).mono ?_
  rintro e w6 ⟨rfl, n6, rfl⟩
  go_wp2_with fail
  go_ret
  exact ⟨by simp, (by refine Since.out ?_; repeat (first | with_reducible assumption | with_reducible exact Since.refl _ | with_reducible refine Since.later ?_ (by with_reducible assumption) | with_reducible refine Since.only ?_ (by with_reducible assumption) (by first | assumption | omega | (simp; done) | (simp; omega)) | with_reducible refine Since.alloc ?_ _ | with_reducible refine Since.drewN ?_ _ | with_reducible refine Since.drew ?_ | with_reducible refine Since.set ?_ (by first | assumption | omega | (simp; done) | (simp; omega)) _))⟩

/-! the row -/
theorem own : ownKnob Tryd.prog.godebug = none := by kernel_rfl
theorem laidOut : laidOutB Tryd.prog = true := by kernel_rfl
set_option maxRecDepth 100000 in
theorem contract (H : Type) (enc : TypeId × Value → H) (W : World) (base : Nat) (args : Array Value) (ds gs : List (DataW H)) (before : List MemPlace)
    (hval : ∀ (j : Nat) t v, Tryd.f4.params[j]? = some t → args[j]? = some v → Value.okWide Tryd.prog W .any base t v)
    (hW : DataW.Whole enc Tryd.prog Tryd.f4.params.toList Rows.creditFirstSpec.vars false W args.toList ds gs before) (hL : laidMetH Tryd.prog Rows.creditFirstRow.laid W) :
    Calls Tryd.prog 4 args W fun e W' => ∃ v, e = .returned v ∧ Rows.creditFirstSpec.post enc Tryd.prog Tryd.f4 false true false false W args v W' := by
  have hW' := hW
  obtain ⟨p, q, hA0, hV, rfl, hfz, hnd⟩ := hW
  have hA : DataW.TrodAll enc Tryd.prog W 0 (fun _ => true) true Tryd.f4.params.toList args.toList ds p := hA0
  rw [Tryd.params4] at hA hval
  obtain ⟨v0, vs0, d0, ds0, p0, q0, hargs, rfl, rfl, h0, r0⟩ := trodAll_cons hA
  obtain ⟨rfl, rfl, rfl⟩ := trodAll_nil r0
  obtain rfl : args = #[v0] := by cases args; simp_all
  obtain ⟨rfl, rfl⟩ := trodVars_none hV
  obtain ⟨a0, rfl, rfl, rfl, w0⟩ := open_int Tryd.underlying3 (hval 0 3 v0 rfl rfl) h0
  have lw := laidWalk hL
  refine (walk a0 W w0 lw).mono fun e W' ⟨he, bel⟩ => ?_
  subst he
  exact ⟨_, rfl, _, _, _, [], _, [], hW', trodAll_mk1 (shut_bool Tryd.underlying4 _), (trodAll_cons_mk (shut_int Tryd.underlying3 w0) trodAll_mk0), rfl, bel.frame _, fun h => by cases h⟩

theorem reads (os : Os) {H : Type} (enc : TypeId × Value → H) : ∃ places, DataW.whole enc Tryd.prog ((laidWorld os).forCall (fun _ _ => 0) ⟨#[], #[.int .i64 0], []⟩).memory Tryd.f4.params.toList Rows.creditFirstSpec.vars false (#[.int .i64 0] : Array Value).toList 8 = some ([.lit (.int .i64 0)], [], places) :=
  ⟨[], by kernel_rfl⟩
theorem laid_met (os : Os) : laidMetH Tryd.prog Rows.creditFirstRow.laid ((laidWorld os).forCall (fun _ _ => 0) ⟨#[], #[.int .i64 0], []⟩).memory := laidMetW os _

set_option maxRecDepth 100000 in
theorem lifted (os : Os) (started : os.Started) (H : Type) (enc : TypeId × Value → H) (F : Stop.Interp) :
    ReturnsInHanded {} Tryd.checked os 4 .any ((OpenSpec.ofChange Rows.creditFirstSpec).preRow enc Tryd.prog Tryd.f4 Rows.creditFirstRow.domain false Rows.creditFirstRow.laid) (((OpenSpec.ofChange Rows.creditFirstSpec).at F).post enc Tryd.prog Tryd.f4 false true false false) := by
  obtain ⟨places, hx⟩ := reads os enc
  refine returnsInHanded_of_row (C := Tryd.checked) (s := OpenSpec.ofChange Rows.creditFirstSpec) own started (by kernel_rfl) Tryd.func4
    (witness_row_at (enc := enc) (C := Tryd.checked) false (laidWorld os) #[.int .i64 0] rfl (by kernel_rfl) (by kernel_rfl) (by kernel_rfl)
      (OpenSpec.preRow_of_cond 8 hx (by kernel_rfl) (fun k hk => by cases hk) (by kernel_rfl) (laid_met os))) ?_
  intro W base args ds gs before hval hW _ _ _ hL _ _
  exact contract H enc W base args ds gs before hval hW hL

theorem said : Rows.CreditFirstSaid :=
  OpenClaim.holds_of_cond 4 Tryd.f4 rfl rfl rfl rfl rfl rfl rfl ⟨rfl, rfl, rfl, rfl, rfl⟩ rfl rfl rfl rfl rfl (by kernel_rfl) Tryd.func4 (by kernel_rfl)
    (of_decide_eq_true (by kernel_rfl)) (by unfold Func.isWrapper; first | (rw [if_pos (by decide +kernel)]; kernel_rfl) | (rw [if_neg (by decide +kernel)]; exact ⟨rfl, rfl⟩))
    (fun os started H enc _ F => by rw [OpenClaim.pre_eq_preRow]; exact lifted os started H enc F)

theorem plain (f : FuncId) (fn : Func) (hf : Tryd.pinned.checked.prog.funcNamed "wanderwire/wirelaw4.CreditFirst" = some f) (hfn : Tryd.pinned.checked.prog.funcs[f]? = some fn) :
    true = Tryd.pinned.checked.prog.looks [] ∧ ∀ (j : Nat) t, fn.params[j]? = some t → Tryd.pinned.checked.prog.wantsStandIn t = false := by
  obtain rfl : f = 4 := Option.some.inj ((show Tryd.prog.funcNamed "wanderwire/wirelaw4.CreditFirst" = some 4 by kernel_rfl).symm.trans hf) |>.symm
  obtain rfl : fn = Tryd.f4 := (Option.some.inj (Tryd.func4.symm.trans hfn)).symm
  refine ⟨by kernel_rfl, fun j t ht => ?_⟩
  rw [Tryd.params4] at ht
  have ht' := Array.mem_of_getElem? ht
  have hall : (([3] : List Nat).all fun t => !Tryd.prog.wantsStandIn t) = true := by kernel_rfl
  have hq := List.all_eq_true.1 hall t (by simpa using ht')
  have hq2 : Tryd.prog.wantsStandIn t = false := by simpa using hq
  exact hq2

theorem card : Rows.CreditFirstCardSaid :=
  Claim7.holds_tied_plain_at .later [] _ _ _ _ said (fun _ h => by cases h) (by kernel_rfl) (fun _ h => by cases h) creditFirst_row_tie rfl ⟨rfl, rfl⟩ (by kernel_rfl) rfl plain (by kernel_rfl)
#print axioms card
end Go.Proofs.YtaiojfoicfhbnaaDoor.creditFirst
