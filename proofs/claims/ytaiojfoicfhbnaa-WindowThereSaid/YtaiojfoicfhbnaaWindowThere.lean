/- WindowThere: for every window and number the law returns true: sent, and came: nothing is under way, and the window is no smaller. No condition. -/
import Derived.Test.YtaiojfoicfhbnaaWindow
import Derived.Test.YtaiojfoicfhbnaaRows
import Derived.WalkKit
import Derived.ProofKit
import Derived.OpenShut
import Derived.ShutString
import Derived.ChangeOld
import Derived.Below
import Derived.Lib.SmallJoins
import Derived.Deep.Slices
import Derived.Deep.Matrix
import Derived.Deep.Strs
namespace Go.Proofs.Ytaiojfoicfhbnaa.windowThere
open Go.ChangeShapes Go.WideShapes Go.ChangeAt Go.RowKit
open Go.ChangeMaps (open_string shut_string)
set_option linter.unusedVariables false

theorem walk (s l y n : Int) (w : World) (w0 : (Lit.int .i64 s).wf = true) (w1 : (Lit.int .i64 l).wf = true) (w2 : (Lit.int .i64 y).wf = true) (w3 : (Lit.int .i64 n).wf = true) :
    Calls Try.prog 4 #[.agg #[.int .i64 s, .int .i64 l, .int .i64 y], .int .i64 n] w fun e w' => e = .returned (.bool true) ∧ Below w.heap.size w w' := by
  by_cases hp : PacOk s l y n
  case neg =>
    go_enter Try.func4, Try.ntmps4
    go_wp2_with (go_at_call 11; refine (wsend_no s l y n hp _).mono ?_; rintro e w1 ⟨rfl, hb1⟩)
    go_ret
    exact ⟨rfl, (below_steps ((Below.refl _ w).alloc (Nat.le_refl _) _) hb1 (by simp)).alloc (Nat.le_trans (by simp) hb1.size) _⟩
  by_cases hf : y + n ≤ s
  case neg =>
    go_enter Try.func4, Try.ntmps4
    go_wp2_with (go_at_call 11; refine (wsend_full s l y n hp (by omega) _).mono ?_; rintro e w1 ⟨rfl, hb1⟩)
    go_ret
    exact ⟨rfl, (below_steps ((Below.refl _ w).alloc (Nat.le_refl _) _) hb1 (by simp)).alloc (Nat.le_trans (by simp) hb1.size) _⟩
  have hp2 : PacOk s l (y + n) n := by
    obtain ⟨⟨a, b, c, d, e, f⟩, g, i⟩ := hp
    exact ⟨⟨a, b, c, d, by omega, by omega⟩, g, i⟩
  have hle : n ≤ y + n := by have := hp.1.y1; omega
  obtain ⟨q1, q2⟩ := cameS_bounds s l n hp.1.s1 hp.1.s2 hp.2.1 hp.2.2
  obtain ⟨q3, q4⟩ := lostS_bounds s hp.1.s1 hp.1.s2
  have e0 : y + n - n = y := by omega
  have E0 := Lib.hid e0
  clear e0
  go_enter Try.func4, Try.ntmps4
  go_wp2_with fail
  refine (wsend_yes s l y n hp hf _).mono ?_
  rintro e w1 ⟨rfl, hb1⟩
  go_wp2_with fail
  refine (wcame_yes s l (y + n) n hp2 hle _).mono ?_
  rintro e w2 ⟨rfl, hb2⟩
  rw [E0.out]
  have bp := (after_alloc hb1).alloc (winCells s l (y + n))
  have bp2 := bp.later hb2
  have ba := (BlockIs.fresh w1 35 #[.int .i64 s, .int .i64 l, .int .i64 (y + n)]).later hb2
  have x0 : w2.cell? ⟨w1.heap.size, 0, none⟩ = some (.int .i64 s) := ba.cell 0
  have x1 : w2.cell? ⟨w1.heap.size, 1, none⟩ = some (.int .i64 l) := ba.cell 1
  have x2 : w2.cell? ⟨w1.heap.size, 2, none⟩ = some (.int .i64 (y + n)) := ba.cell 2
  have lt2 := ba.lt
  go_wp2_with fail
  refine (wlost_yes s l (y + n) n hp2 hle _).mono ?_
  rintro e w3 ⟨rfl, hb3⟩
  rw [E0.out]
  have bp3 := (bp2.alloc (winCells (cameS s l n) l y)).later hb3
  have bc := after_alloc hb3
  have y2 : w3.cell? ⟨w.heap.size, 2, none⟩ = some (.int .i64 y) := bp3.cell 2
  have y0 : w3.cell? ⟨w.heap.size, 0, none⟩ = some (.int .i64 s) := bp3.cell 0
  have z0 : w3.cell? ⟨w2.heap.size, 0, none⟩ = some (.int .i64 (cameS s l n)) := bc.cell 0
  have z2 : w3.cell? ⟨w2.heap.size, 2, none⟩ = some (.int .i64 y) := bc.cell 2
  have l1 := bp3.lt
  have l2 := bc.lt
  go_wp2_with fail
  go_ret
  refine ⟨rfl, ?_⟩
  have b1 := below_steps ((Below.refl _ w).alloc (Nat.le_refl _) (winCells s l y)) hb1 (by simp)
  have b2 := below_steps (b1.alloc b1.size (winCells s l (y + n))) hb2 (by have := b1.size; simp; omega)
  have b3 := below_steps (b2.alloc b2.size (winCells (cameS s l n) l y)) hb3 (by have := b2.size; simp; omega)
  exact b3.alloc b3.size _

/-! the row -/
theorem own : ownKnob Try.prog.godebug = none := by kernel_rfl
theorem laidOut : laidOutB Try.prog = true := by kernel_rfl
set_option maxRecDepth 100000 in
theorem contract (H : Type) (enc : TypeId × Value → H) (W : World) (base : Nat) (args : Array Value) (ds gs : List (DataW H)) (before : List MemPlace)
    (hval : ∀ (j : Nat) t v, Try.f4.params[j]? = some t → args[j]? = some v → Value.okWide Try.prog W .any base t v)
    (hW : DataW.Whole enc Try.prog Try.f4.params.toList Rows.windowThereSpec.vars false W args.toList ds gs before) :
    Calls Try.prog 4 args W fun e W' => ∃ v, e = .returned v ∧ Rows.windowThereSpec.post enc Try.prog Try.f4 false true false false W args v W' := by
  have hW' := hW
  obtain ⟨p, q, hA0, hV, rfl, hfz, hnd⟩ := hW
  have hA : DataW.TrodAll enc Try.prog W 0 (fun _ => true) true Try.f4.params.toList args.toList ds p := hA0
  rw [Try.params4] at hA hval
  obtain ⟨v0, vs0, d0, ds0, p0, q0, hargs, rfl, rfl, h0, r0⟩ := trodAll_cons hA
  obtain ⟨v1, vs1, d1, ds1, p1, q1, rfl, rfl, rfl, h1, r1⟩ := trodAll_cons r0
  obtain ⟨rfl, rfl, rfl⟩ := trodAll_nil r1
  obtain rfl : args = #[v0, v1] := by cases args; simp_all
  obtain ⟨rfl, rfl⟩ := trodVars_none hV
  have k0 := h0
  have lt0 : ∀ x ∈ p0, x.block < W.heap.size := by obtain ⟨m, hm⟩ := k0; exact DataW.trod_lt m _ _ _ hm
  obtain ⟨c0_0, c0_1, c0_2, y0_0, y0_1, y0_2, m0, rfl, hd0, hp0, u0_0, u0_1, u0_2⟩ := Joins.open_agg3 Try.underlying35 (by kernel_rfl) (by kernel_rfl) (hval 0 35 v0 rfl rfl) h0
  obtain ⟨a0_0, e0_0, f0_0, w0_0⟩ := DataW.trod_int Try.underlying3 u0_0
  obtain ⟨a0_1, e0_1, f0_1, w0_1⟩ := DataW.trod_int Try.underlying3 u0_1
  obtain ⟨a0_2, e0_2, f0_2, w0_2⟩ := DataW.trod_int Try.underlying3 u0_2
  simp only [List.cons.injEq, and_true] at e0_0 e0_1 e0_2
  subst e0_0 e0_1 e0_2
  obtain ⟨a1, rfl, rfl, rfl, w1⟩ := open_int Try.underlying3 (hval 1 3 v1 rfl rfl) h1
  refine (walk a0_0 a0_1 a0_2 a1 W w0_0 w0_1 w0_2 w1).mono fun e W' ⟨he, bel⟩ => ?_
  subst he
  exact ⟨_, rfl, _, _, _, [], _, [], hW', trodAll_mk1 (shut_bool Try.underlying4 _), (trodAll_cons_mk (Below.trod laidOut (by kernel_rfl) (of_decide_eq_true (by kernel_rfl)) k0 bel lt0) (trodAll_cons_mk (shut_int Try.underlying3 w1) trodAll_mk0)), rfl, bel.frame _, fun h => by cases h⟩

set_option maxRecDepth 100000 in
theorem lifted (os : Os) (started : os.Started) (H : Type) (enc : TypeId × Value → H) :
    ReturnsInHanded {} Try.checked os 4 .any (Rows.windowThereSpec.pre6 enc Try.prog Try.f4 Rows.windowThereRow.domain false) (Rows.windowThereSpec.post enc Try.prog Try.f4 false true false false) := by
  refine returnsInHanded_of_change (C := Try.checked) own started (by kernel_rfl) Try.func4
    (ChangeSpec.witness6 (enc := enc) (C := Try.checked) false ⟨#[], #[.agg #[.int .i64 0, .int .i64 0, .int .i64 0], .int .i64 0], []⟩ 8 (by kernel_rfl) (by kernel_rfl) (by kernel_rfl) (by kernel_rfl)) ?_
  intro W base args ds gs before hval hW _ _
  exact contract H enc W base args ds gs before hval hW

theorem said : Rows.WindowThereSaid :=
  OpenClaim.holds_of_wide 4 Try.f4 rfl rfl rfl rfl rfl rfl rfl ⟨rfl, rfl, rfl, rfl, rfl⟩ rfl rfl rfl rfl rfl (by kernel_rfl) Try.func4 (by kernel_rfl)
    (of_decide_eq_true (by kernel_rfl)) (by unfold Func.isWrapper; first | (rw [if_pos (by decide +kernel)]; kernel_rfl) | (rw [if_neg (by decide +kernel)]; exact ⟨rfl, rfl⟩))
    (fun os started H enc _ => lifted os started H enc)
#print axioms said
end Go.Proofs.Ytaiojfoicfhbnaa.windowThere
