/- TripSame: for every t and many the law returns true: a trip of equal times keeps its smooth time, and varies less and less. No condition. -/
import Derived.Test.YtmofahmkgignaaaTrip
import Derived.Test.YtmofahmkgignaaaRows
import Derived.WalkKit
import Derived.ProofKit
import Derived.OpenShut
import Derived.ShutString
import Derived.ChangeOld
import Derived.Below
import Derived.Lib.SmallJoins
import Derived.Deep.Slices
import Derived.Deep.Matrix
import Derived.Deep.Strs
namespace Go.Proofs.Ytmofahmkgignaaa.tripSame
open Go.ChangeShapes Go.WideShapes Go.ChangeAt Go.RowKit
open Go.ChangeMaps (open_string shut_string)
set_option linter.unusedVariables false

theorem stepV (t v : Int) (h1 : 1 ≤ t) : nextS (8 * t) t t 0 = 8 * t ∧ nextV (8 * t) v t t 0 = v - v / 4 ∧ nextL t t = t := by
  have e : nextL t t = t := by unfold nextL; omega
  have e2 : nextT t t 0 = t := by unfold nextT; rw [e]; omega
  have e3 : nextF (8 * t) t t 0 = 0 := by unfold nextF; rw [e2]; omega
  refine ⟨?_, ?_, e⟩
  · unfold nextS; rw [e3]; omega
  · unfold nextV; rw [e3]; omega

theorem walk_no (a0 a1 : Int) (h : ¬ (1 ≤ a0 ∧ a0 ≤ 100000)) (w : World) :
    Calls Try.prog 4 #[.int .i64 a0, .int .i64 a1] w fun e w' => e = .returned (.bool true) ∧ Below w.heap.size w w' := by
  by_cases hlt : a0 < 1
  · go_enter Try.func4, Try.ntmps4
    go_wp2_with (go_at_call 9; refine (first_no a0 h _).mono ?_; rintro e w' ⟨rfl, rfl⟩)
    go_ret
    exact ⟨rfl, ((Below.refl _ _).alloc (Nat.le_refl _) _).alloc (by simp) _⟩
  · have hgt : 100000 < a0 := by omega
    go_enter Try.func4, Try.ntmps4
    go_wp2_with (go_at_call 9; refine (first_no a0 h _).mono ?_; rintro e w' ⟨rfl, rfl⟩)
    go_ret
    exact ⟨rfl, ((Below.refl _ _).alloc (Nat.le_refl _) _).alloc (by simp) _⟩

/-- what holds at the loop's head -/
structure Head (w wr : World) (t v : Int) : Prop where
  bl : BlockIs wr (w.heap.size + 1) 27 #[.int .i64 (8 * t), .int .i64 v, .int .i64 t]
  hb : Below w.heap.size w wr

theorem head_next {w wr w1 : World} {t v : Int} (h : Head w wr t v) (hb1 : Below wr.heap.size wr w1) (v' : Int) (o : Obj) :
    Head w ((((w1.setCell ⟨w.heap.size + 1, 0, none⟩ (.int .i64 (8 * t))).setCell ⟨w.heap.size + 1, 1, none⟩ (.int .i64 v')).setCell ⟨w.heap.size + 1, 2, none⟩ (.int .i64 t)).alloc o) t v' := by
  have b1 := h.bl.later hb1
  have l1 := h.bl.lt
  refine ⟨?_, ?_⟩
  · exact (((b1.put 0 _).put 1 _).put 2 _).alloc o
  · have hs := hb1.size
    exact ((((below_steps h.hb hb1 (by omega)).setCell (by simp) _).setCell (by simp) _).setCell (by simp) _).alloc (by simp [World.setCell]; omega) o

theorem walk (a0 : Int) (a1 : Int) (w : World) (w0 : (Lit.int .i64 a0).wf = true) (w1 : (Lit.int .i64 a1).wf = true) :
    Calls Try.prog 4 #[.int .i64 a0, .int .i64 a1] w fun e w' => e = .returned (.bool true) ∧ Below w.heap.size w w' := by
  by_cases h : 1 ≤ a0 ∧ a0 ≤ 100000
  case neg => exact walk_no a0 a1 h w
  obtain ⟨h1, h2⟩ := h
  go_enter Try.func4, Try.ntmps4
  go_wp2_with (go_at_call 9; refine (first_yes a0 h1 h2 _).mono ?_; rintro e w' ⟨rfl, rfl⟩)
  go_loopw [7] (fun i wr => ∃ (k : Nat) (v : Int), k ≤ 60 ∧ i = .int .i64 k ∧ 0 ≤ v ∧ v ≤ 800000 ∧ Head w wr a0 v) (fun i _ => 60 - (intOf i).toNat)
  case atStart => exact ⟨0, 4 * a0, by omega, rfl, by omega, by omega, (BlockIs.fresh_at (by simp)), ((Below.refl _ _).alloc (Nat.le_refl _) _).alloc (by simp) _⟩
  case round =>
    obtain ⟨k, v, hk, rfl, hv1, hv2, hH⟩ := hrel
    have hr : TRight (8 * a0) v a0 := ⟨by omega, by omega, hv1, hv2, h1, h2⟩
    obtain ⟨e1, e2, e3⟩ := stepV a0 v h1
    have HE := Lib.hid e1
    have HF := Lib.hid e2
    have HG := Lib.hid e3
    clear e1 e2 e3
    have c0 : wr.cell? ⟨w.heap.size + 1, 0, none⟩ = some (.int .i64 (8 * a0)) := hH.bl.cell 0
    have c1 : wr.cell? ⟨w.heap.size + 1, 1, none⟩ = some (.int .i64 v) := hH.bl.cell 1
    have c2 : wr.cell? ⟨w.heap.size + 1, 2, none⟩ = some (.int .i64 a0) := hH.bl.cell 2
    go_wp2_with (go_at_call 10; refine (next_yes (8 * a0) v a0 a0 0 hr h1 h2 (by omega) (by omega) _).mono ?_; rintro e w1 ⟨rfl, hb1⟩; rw [HE.out, HF.out, HG.out]; have hB := hH.bl.later hb1; have hz := hB.lt; have d0 : w1.cell? ⟨w.heap.size + 1, 0, none⟩ = some (.int .i64 (8 * a0)) := hB.cell 0; have d1 : w1.cell? ⟨w.heap.size + 1, 1, none⟩ = some (.int .i64 v) := hB.cell 1; have d2 : w1.cell? ⟨w.heap.size + 1, 2, none⟩ = some (.int .i64 a0) := hB.cell 2; have g0 : ∀ i, w1.frozen? ⟨w.heap.size + 1, i, none⟩ = false := fun i => hB.free i; clear c0 c1 c2)
    · rename_i hx
      exfalso
      rcases hx with hx | hx
      · omega
      · have := eq_of_beq hx
        omega
    · go_roundw
      case rel => exact ⟨k + 1, v - v / 4, by omega, by go_num, by omega, by omega, head_next hH hb1 _ _⟩
      case measure => simp [intOf]; omega
    · go_roundw
      case rel => exact ⟨k + 1, v - v / 4, by omega, by go_num, by omega, by omega, head_next hH hb1 _ _⟩
      case measure => simp [intOf]; omega
    · go_ret
      exact ⟨rfl, hH.hb⟩
    · go_ret
      exact ⟨rfl, hH.hb⟩

/-! the row -/
theorem own : ownKnob Try.prog.godebug = none := by kernel_rfl
theorem laidOut : laidOutB Try.prog = true := by kernel_rfl
set_option maxRecDepth 100000 in
theorem contract (H : Type) (enc : TypeId × Value → H) (W : World) (base : Nat) (args : Array Value) (ds gs : List (DataW H)) (before : List MemPlace)
    (hval : ∀ (j : Nat) t v, Try.f4.params[j]? = some t → args[j]? = some v → Value.okWide Try.prog W .any base t v)
    (hW : DataW.Whole enc Try.prog Try.f4.params.toList Rows.tripSameSpec.vars false W args.toList ds gs before) :
    Calls Try.prog 4 args W fun e W' => ∃ v, e = .returned v ∧ Rows.tripSameSpec.post enc Try.prog Try.f4 false true false false W args v W' := by
  have hW' := hW
  obtain ⟨p, q, hA0, hV, rfl, hfz, hnd⟩ := hW
  have hA : DataW.TrodAll enc Try.prog W 0 (fun _ => true) true Try.f4.params.toList args.toList ds p := hA0
  rw [Try.params4] at hA hval
  obtain ⟨v0, vs0, d0, ds0, p0, q0, hargs, rfl, rfl, h0, r0⟩ := trodAll_cons hA
  obtain ⟨v1, vs1, d1, ds1, p1, q1, rfl, rfl, rfl, h1, r1⟩ := trodAll_cons r0
  obtain ⟨rfl, rfl, rfl⟩ := trodAll_nil r1
  obtain rfl : args = #[v0, v1] := by cases args; simp_all
  obtain ⟨rfl, rfl⟩ := trodVars_none hV
  obtain ⟨a0, rfl, rfl, rfl, w0⟩ := open_int Try.underlying3 (hval 0 3 v0 rfl rfl) h0
  obtain ⟨a1, rfl, rfl, rfl, w1⟩ := open_int Try.underlying3 (hval 1 3 v1 rfl rfl) h1
  refine (walk a0 a1 W w0 w1).mono fun e W' ⟨he, bel⟩ => ?_
  subst he
  exact ⟨_, rfl, _, _, _, [], _, [], hW', trodAll_mk1 (shut_bool Try.underlying4 _), (trodAll_cons_mk (shut_int Try.underlying3 w0) (trodAll_cons_mk (shut_int Try.underlying3 w1) trodAll_mk0)), rfl, bel.frame _, fun h => by cases h⟩

set_option maxRecDepth 100000 in
theorem lifted (os : Os) (started : os.Started) (H : Type) (enc : TypeId × Value → H) :
    ReturnsInHanded {} Try.checked os 4 .any (Rows.tripSameSpec.pre6 enc Try.prog Try.f4 Rows.tripSameRow.domain false) (Rows.tripSameSpec.post enc Try.prog Try.f4 false true false false) := by
  refine returnsInHanded_of_change (C := Try.checked) own started (by kernel_rfl) Try.func4
    (ChangeSpec.witness6 (enc := enc) (C := Try.checked) false ⟨#[], #[.int .i64 0, .int .i64 0], []⟩ 8 (by kernel_rfl) (by kernel_rfl) (by kernel_rfl) (by kernel_rfl)) ?_
  intro W base args ds gs before hval hW _ _
  exact contract H enc W base args ds gs before hval hW

theorem said : Rows.TripSameSaid :=
  OpenClaim.holds_of_wide 4 Try.f4 rfl rfl rfl rfl rfl rfl rfl ⟨rfl, rfl, rfl, rfl, rfl⟩ rfl rfl rfl rfl rfl (by kernel_rfl) Try.func4 (by kernel_rfl)
    (of_decide_eq_true (by kernel_rfl)) (by unfold Func.isWrapper; first | (rw [if_pos (by decide +kernel)]; kernel_rfl) | (rw [if_neg (by decide +kernel)]; exact ⟨rfl, rfl⟩))
    (fun os started H enc _ => lifted os started H enc)
#print axioms said
end Go.Proofs.Ytmofahmkgignaaa.tripSame
