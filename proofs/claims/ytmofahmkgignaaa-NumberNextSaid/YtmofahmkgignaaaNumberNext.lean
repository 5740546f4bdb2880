/- NumberNext: for every n the law returns true: what is expected needs one byte. No condition. -/
import Derived.Test.YtmofahmkgignaaaNumRef


import Derived.Test.YtmofahmkgignaaaRows
import Derived.WalkKit
import Derived.ProofKit
import Derived.OpenShut
import Derived.ShutString
import Derived.ChangeOld
import Derived.Below
import Derived.Lib.SmallJoins
import Derived.Deep.Slices
import Derived.Deep.Matrix
import Derived.Deep.Strs
namespace Go.Proofs.Ytmofahmkgignaaa.numberNext
open Go.ChangeShapes Go.WideShapes Go.ChangeAt Go.RowKit
open Go.ChangeMaps (open_string shut_string)
set_option linter.unusedVariables false

theorem plainNext (n : Int) (h : NeedOk n (n - 1)) : leastN (n - (n - 1)) = 1 ∧ WholeOk (n % rnd 1) 1 n ∧ wholeN (n % rnd 1) 1 n = n := by
  have hl : leastN (n - (n - 1)) = 1 := by unfold leastN; omega
  have := wholeN_back n (n - 1) (n - 1) h (by omega) (by omega)
  rw [hl, show n - 1 + 1 = n by omega] at this
  exact ⟨hl, this.1, this.2⟩

theorem walk (a0 : Int) (w : World) (w0 : (Lit.int .i64 a0).wf = true) :
    Calls Try.prog 7 #[.int .i64 a0] w fun e w' => e = .returned (.bool true) ∧ Below w.heap.size w w' := by
  obtain ⟨x1, x2⟩ := wf_bounds w0
  by_cases h : NeedOk a0 (a0 - 1)
  · obtain ⟨p1, p2, p3⟩ := plainNext a0 h
    have P1 := Lib.hid p1
    have P3 := Lib.hid p3
    have n1 := h.1.1
    have n2 := h.1.2
    clear p1 p3
    go_enter Try.func7, Try.ntmps7
    go_wp2_with (first | (go_at_call 16; refine (need_yes a0 (a0 - 1) h _).mono ?_; rintro e w' ⟨rfl, rfl⟩; rw [P1.out]) | (go_at_call 13; refine (cut_yes a0 1 n1 n2 (by omega) (by omega) _).mono ?_; rintro e w' ⟨rfl, rfl⟩) | (go_at_call 12; refine (whole_yes _ 1 a0 p2 _).mono ?_; rintro e w' ⟨rfl, rfl⟩; rw [P3.out]))
    go_ret
    exact ⟨rfl, Below.refl _ _⟩
  · by_cases hlo : 0 ≤ a0
    · have hhi : 1073741823 < a0 := by
        rcases Int.lt_or_le 1073741823 a0 with h1 | h1
        · exact h1
        · exact absurd ⟨⟨hlo, h1⟩, by omega, by omega⟩ h
      go_enter Try.func7, Try.ntmps7
      go_wp2_with (go_at_call 16; refine (need_no a0 _ h _).mono ?_; rintro e w' ⟨rfl, rfl⟩)
      go_ret
      exact ⟨rfl, Below.refl _ _⟩
    · have hno : ∀ m, ¬ NeedOk a0 m := fun m hm => hlo hm.1.1
      go_enter Try.func7, Try.ntmps7
      go_wp2_with (go_at_call 16; refine (need_no a0 _ (hno _) _).mono ?_; rintro e w' ⟨rfl, rfl⟩)
      go_ret
      exact ⟨rfl, Below.refl _ _⟩

/-! the row -/
theorem own : ownKnob Try.prog.godebug = none := by kernel_rfl
theorem laidOut : laidOutB Try.prog = true := by kernel_rfl
set_option maxRecDepth 100000 in
theorem contract (H : Type) (enc : TypeId × Value → H) (W : World) (base : Nat) (args : Array Value) (ds gs : List (DataW H)) (before : List MemPlace)
    (hval : ∀ (j : Nat) t v, Try.f7.params[j]? = some t → args[j]? = some v → Value.okWide Try.prog W .any base t v)
    (hW : DataW.Whole enc Try.prog Try.f7.params.toList Rows.numberNextSpec.vars false W args.toList ds gs before) :
    Calls Try.prog 7 args W fun e W' => ∃ v, e = .returned v ∧ Rows.numberNextSpec.post enc Try.prog Try.f7 false true false false W args v W' := by
  have hW' := hW
  obtain ⟨p, q, hA0, hV, rfl, hfz, hnd⟩ := hW
  have hA : DataW.TrodAll enc Try.prog W 0 (fun _ => true) true Try.f7.params.toList args.toList ds p := hA0
  rw [Try.params7] at hA hval
  obtain ⟨v0, vs0, d0, ds0, p0, q0, hargs, rfl, rfl, h0, r0⟩ := trodAll_cons hA
  obtain ⟨rfl, rfl, rfl⟩ := trodAll_nil r0
  obtain rfl : args = #[v0] := by cases args; simp_all
  obtain ⟨rfl, rfl⟩ := trodVars_none hV
  obtain ⟨a0, rfl, rfl, rfl, w0⟩ := open_int Try.underlying3 (hval 0 3 v0 rfl rfl) h0
  refine (walk a0 W w0).mono fun e W' ⟨he, bel⟩ => ?_
  subst he
  exact ⟨_, rfl, _, _, _, [], _, [], hW', trodAll_mk1 (shut_bool Try.underlying4 _), (trodAll_cons_mk (shut_int Try.underlying3 w0) trodAll_mk0), rfl, bel.frame _, fun h => by cases h⟩

set_option maxRecDepth 100000 in
theorem lifted (os : Os) (started : os.Started) (H : Type) (enc : TypeId × Value → H) :
    ReturnsInHanded {} Try.checked os 7 .any (Rows.numberNextSpec.pre6 enc Try.prog Try.f7 Rows.numberNextRow.domain false) (Rows.numberNextSpec.post enc Try.prog Try.f7 false true false false) := by
  refine returnsInHanded_of_change (C := Try.checked) own started (by kernel_rfl) Try.func7
    (ChangeSpec.witness6 (enc := enc) (C := Try.checked) false ⟨#[], #[.int .i64 0], []⟩ 8 (by kernel_rfl) (by kernel_rfl) (by kernel_rfl) (by kernel_rfl)) ?_
  intro W base args ds gs before hval hW _ _
  exact contract H enc W base args ds gs before hval hW

theorem said : Rows.NumberNextSaid :=
  OpenClaim.holds_of_wide 7 Try.f7 rfl rfl rfl rfl rfl rfl rfl ⟨rfl, rfl, rfl, rfl, rfl⟩ rfl rfl rfl rfl rfl (by kernel_rfl) Try.func7 (by kernel_rfl)
    (of_decide_eq_true (by kernel_rfl)) (by unfold Func.isWrapper; first | (rw [if_pos (by decide +kernel)]; kernel_rfl) | (rw [if_neg (by decide +kernel)]; exact ⟨rfl, rfl⟩))
    (fun os started H enc _ => lifted os started H enc)
#print axioms said
end Go.Proofs.Ytmofahmkgignaaa.numberNext
