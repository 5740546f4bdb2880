/- PathKnown: for every two numbers the law returns true: on a path that is known there is room. Condition: errors.errorType holds its handle (the row lists it, the card ties it). -/
import Derived.Test.YtmofahmkgignaaaDoorPath
import Derived.Test.YtmofahmkgignaaaDoorLaid
import Derived.Test.YtmofahmkgignaaaDoorCards
import Derived.Test.YtmofahmkgignaaaDoorTie
import Derived.Deep.DeepHandedRow
import Derived.LaidLaws
import Derived.LaidHandle
import Derived.Deep.DeepWitnessRowRef
import Derived.Test.YtmofahmkgignaaaDoorRows
import Derived.WalkKit
import Derived.ProofKit
import Derived.OpenShut
import Derived.ShutString
import Derived.ChangeOld
import Derived.Below
import Derived.Lib.SmallJoins
import Derived.Deep.Slices
import Derived.Deep.Matrix
import Derived.Deep.Strs
namespace Go.Proofs.YtmofahmkgignaaaDoor.pathKnown
open Go.ChangeShapes Go.WideShapes Go.ChangeAt Go.RowKit
open Go.ChangeMaps (open_string shut_string)
set_option linter.unusedVariables false

noncomputable abbrev laidWorld := YtmofahmkgignaaaDoor.laidWorld
theorem laidMetW (os : Os) (args : Array Value) : laidMetH Tryd.prog Rows.pathKnownRow.laid ((laidWorld os).forCall (fun _ _ => 0) ⟨#[], args, []⟩).memory := laidMet_et os args
theorem laidWalk {W : World} (h : laidMetH Tryd.prog Rows.pathKnownRow.laid W) : ETok W := laid_et h

theorem came0 (n : Int) (h : 0 ≤ n ∧ n ≤ 200) : cameE 0 0 false n = 0 := by
  unfold cameE pathE
  simp
  omega
theorem came1 (n : Int) (h : ¬ (0 ≤ n ∧ n ≤ 200)) : cameE 0 0 false n = 1 := by
  unfold cameE pathE
  simp
  omega
theorem send_known (n m : Int) (h1 : 0 ≤ n) (h2 : n ≤ 200) : (0 ≤ m ∧ m ≤ 200 → sendE n 0 true m = 0) ∧ (¬ (0 ≤ m ∧ m ≤ 200) → sendE n 0 true m = 1) := by
  unfold sendE pathE
  simp
  omega

theorem walk (a0 a1 : Int) (w : World) (w0 : (Lit.int .i64 a0).wf = true) (w1 : (Lit.int .i64 a1).wf = true) (hE : ETok w) :
    Calls Tryd.prog 10 #[.int .i64 a0, .int .i64 a1] w fun e w' => e = .returned (.bool true) ∧ Below w.heap.size w w' := by
  have HE := Lib.hid hE
  clear hE
  by_cases hn : 0 ≤ a0 ∧ a0 ≤ 200
  case neg =>
    have c1 := came1 a0 hn
    have hne : cameE 0 0 false a0 ≠ 0 := by rw [c1]; omega
    clear c1
    by_cases hlo : a0 < 0
    · go_enter Tryd.func10, Tryd.ntmps10
      go_wp2_with (go_at_call 33; refine (came_no 0 0 false a0 hne _).mono ?_; rintro e w1 ⟨rfl, hb1⟩)
      go_ret
      exact ⟨rfl, hb1.alloc hb1.size _⟩
    · have hhi : 200 < a0 := by omega
      go_enter Tryd.func10, Tryd.ntmps10
      go_wp2_with (go_at_call 33; refine (came_no 0 0 false a0 hne _).mono ?_; rintro e w1 ⟨rfl, hb1⟩)
      go_ret
      exact ⟨rfl, hb1.alloc hb1.size _⟩
  have c0 := Lib.hid (came0 a0 hn)
  obtain ⟨n1, n2⟩ := hn
  by_cases hz : a0 = 0
  · subst hz
    have hp : PathOk 0 0 false := ⟨by omega, by omega, by omega, by omega, by omega⟩
    go_enter Tryd.func10, Tryd.ntmps10
    go_wp2_with (first | (go_at_call 33; refine (came_yes 0 0 false 0 c0.out _).mono ?_; rintro e w1 ⟨rfl, hb1⟩) | (go_at_call 38; refine (prove_none 0 false hp _).mono ?_; rintro e w2 ⟨rfl, hb2⟩) | (go_at_call 12; refine (same_iface 5 5 _ ((((HE.out.later hb1).alloc _).later hb2).alloc _)).mono ?_; rintro e w3 ⟨rfl, hb3⟩))
    go_ret
    refine ⟨rfl, ?_⟩
    have b1 := hb1.alloc hb1.size (pathCells 0 0 false)
    have b2 := below_steps b1 hb2 (by have := hb1.size; simp; omega)
    have s2 := b2.size
    have b3 := below_steps (b2.alloc s2 (pathCells 0 0 false)) hb3 (by simp; omega)
    exact b3
  · have hp : PathOk a0 0 false := ⟨by omega, by omega, by omega, by omega, by omega⟩
    have hp2 : PathOk a0 0 true := ⟨by omega, by omega, by omega, by omega, by intro h; cases h⟩
    have hb0 : (a0 == 0) = false := beq_eq_false_iff_ne.2 hz
    have hr : roomN a0 0 true = 200 := by unfold roomN; simp
    have HR := Lib.hid hr
    obtain ⟨s1, s2⟩ := send_known a0 a1 n1 n2
    have S1 := Lib.hid s1
    have S2 := Lib.hid s2
    clear hr s1 s2 hz
    have e0 : a0 + 0 = a0 := by omega
    by_cases hm : 0 ≤ a1 ∧ a1 ≤ 200
    · obtain ⟨m1, m2⟩ := hm
      go_enter Tryd.func10, Tryd.ntmps10
      go_wp2_with (first | (go_at_call 33; refine (came_yes 0 0 false a0 c0.out _).mono ?_; rintro e w1 ⟨rfl, hb1⟩; simp only [Int.zero_add]) | (go_at_call 38; refine (prove_yes a0 0 false hp hb0 _).mono ?_; rintro e w2 ⟨rfl, hb2⟩) | (go_at_call 31; refine (room_yes a0 0 true hp2 _).mono ?_; rintro e w3 ⟨rfl, hb3⟩; rw [HR.out]; have bq := after_alloc hb3; have q0 : w3.cell? ⟨w2.heap.size, 0, none⟩ = some (.int .i64 a0) := bq.cell 0; have q1 : w3.cell? ⟨w2.heap.size, 1, none⟩ = some (.int .i64 0) := bq.cell 1; have q2 : w3.cell? ⟨w2.heap.size, 2, none⟩ = some (.bool true) := bq.cell 2) | (go_at_call 32; refine (send_yes a0 0 true a1 (S1.out ⟨m1, m2⟩) _).mono ?_; rintro e w4 ⟨rfl, hb4⟩))
      go_ret
      refine ⟨rfl, ?_⟩
      have b1 := hb1.alloc hb1.size (pathCells a0 0 false)
      have s1 := b1.size
      have b2 := below_steps b1 hb2 s1
      have s2 := b2.size
      have b3 := below_steps (b2.alloc s2 (pathCells a0 0 true)) hb3 (by simp; omega)
      have s3 := b3.size
      have b4 := below_steps b3 hb4 s3
      exact b4.alloc b4.size _
    · have hmm := Lib.hid hm
      clear hm
      by_cases hlo : 0 ≤ a1
      · have hhi : 200 < a1 := by have := hmm.out; omega
        have hd : decide (a1 ≤ 200) = false := by simp; omega
        go_enter Tryd.func10, Tryd.ntmps10
        go_wp2_with (first | (go_at_call 33; refine (came_yes 0 0 false a0 c0.out _).mono ?_; rintro e w1 ⟨rfl, hb1⟩; simp only [Int.zero_add]) | (go_at_call 38; refine (prove_yes a0 0 false hp hb0 _).mono ?_; rintro e w2 ⟨rfl, hb2⟩) | (go_at_call 31; refine (room_yes a0 0 true hp2 _).mono ?_; rintro e w3 ⟨rfl, hb3⟩; rw [HR.out]; have bq := after_alloc hb3; have q0 : w3.cell? ⟨w2.heap.size, 0, none⟩ = some (.int .i64 a0) := bq.cell 0; have q1 : w3.cell? ⟨w2.heap.size, 1, none⟩ = some (.int .i64 0) := bq.cell 1; have q2 : w3.cell? ⟨w2.heap.size, 2, none⟩ = some (.bool true) := bq.cell 2) | (go_at_call 32; refine (send_no a0 0 true a1 (by rw [S2.out hmm.out]; omega) _).mono ?_; rintro e w4 ⟨rfl, hb4⟩))
        go_ret
        refine ⟨rfl, ?_⟩
        have b1 := hb1.alloc hb1.size (pathCells a0 0 false)
        have s1 := b1.size
        have b2 := below_steps b1 hb2 s1
        have s2 := b2.size
        have b3 := below_steps (b2.alloc s2 (pathCells a0 0 true)) hb3 (by simp; omega)
        have s3 := b3.size
        have b4 := below_steps b3 hb4 s3
        exact b4.alloc b4.size _
      · go_enter Tryd.func10, Tryd.ntmps10
        go_wp2_with (first | (go_at_call 33; refine (came_yes 0 0 false a0 c0.out _).mono ?_; rintro e w1 ⟨rfl, hb1⟩; simp only [Int.zero_add]) | (go_at_call 38; refine (prove_yes a0 0 false hp hb0 _).mono ?_; rintro e w2 ⟨rfl, hb2⟩) | (go_at_call 31; refine (room_yes a0 0 true hp2 _).mono ?_; rintro e w3 ⟨rfl, hb3⟩; rw [HR.out]; have bq := after_alloc hb3; have q0 : w3.cell? ⟨w2.heap.size, 0, none⟩ = some (.int .i64 a0) := bq.cell 0; have q1 : w3.cell? ⟨w2.heap.size, 1, none⟩ = some (.int .i64 0) := bq.cell 1; have q2 : w3.cell? ⟨w2.heap.size, 2, none⟩ = some (.bool true) := bq.cell 2) | (go_at_call 32; refine (send_no a0 0 true a1 (by rw [S2.out hmm.out]; omega) _).mono ?_; rintro e w4 ⟨rfl, hb4⟩))
        go_ret
        refine ⟨rfl, ?_⟩
        have b1 := hb1.alloc hb1.size (pathCells a0 0 false)
        have s1 := b1.size
        have b2 := below_steps b1 hb2 s1
        have s2 := b2.size
        have b3 := below_steps (b2.alloc s2 (pathCells a0 0 true)) hb3 (by simp; omega)
        have s3 := b3.size
        have b4 := below_steps b3 hb4 s3
        exact b4.alloc b4.size _

/-! the row -/
theorem own : ownKnob Tryd.prog.godebug = none := by kernel_rfl
theorem laidOut : laidOutB Tryd.prog = true := by kernel_rfl
set_option maxRecDepth 100000 in
theorem contract (H : Type) (enc : TypeId × Value → H) (W : World) (base : Nat) (args : Array Value) (ds gs : List (DataW H)) (before : List MemPlace)
    (hval : ∀ (j : Nat) t v, Tryd.f10.params[j]? = some t → args[j]? = some v → Value.okWide Tryd.prog W .any base t v)
    (hW : DataW.Whole enc Tryd.prog Tryd.f10.params.toList Rows.pathKnownSpec.vars false W args.toList ds gs before) (hL : laidMetH Tryd.prog Rows.pathKnownRow.laid W) :
    Calls Tryd.prog 10 args W fun e W' => ∃ v, e = .returned v ∧ Rows.pathKnownSpec.post enc Tryd.prog Tryd.f10 false true false false W args v W' := by
  have hW' := hW
  obtain ⟨p, q, hA0, hV, rfl, hfz, hnd⟩ := hW
  have hA : DataW.TrodAll enc Tryd.prog W 0 (fun _ => true) true Tryd.f10.params.toList args.toList ds p := hA0
  rw [Tryd.params10] at hA hval
  obtain ⟨v0, vs0, d0, ds0, p0, q0, hargs, rfl, rfl, h0, r0⟩ := trodAll_cons hA
  obtain ⟨v1, vs1, d1, ds1, p1, q1, rfl, rfl, rfl, h1, r1⟩ := trodAll_cons r0
  obtain ⟨rfl, rfl, rfl⟩ := trodAll_nil r1
  obtain rfl : args = #[v0, v1] := by cases args; simp_all
  obtain ⟨rfl, rfl⟩ := trodVars_none hV
  obtain ⟨a0, rfl, rfl, rfl, w0⟩ := open_int Tryd.underlying3 (hval 0 3 v0 rfl rfl) h0
  obtain ⟨a1, rfl, rfl, rfl, w1⟩ := open_int Tryd.underlying3 (hval 1 3 v1 rfl rfl) h1
  have lw := laidWalk hL
  refine (walk a0 a1 W w0 w1 lw).mono fun e W' ⟨he, bel⟩ => ?_
  subst he
  exact ⟨_, rfl, _, _, _, [], _, [], hW', trodAll_mk1 (shut_bool Tryd.underlying4 _), (trodAll_cons_mk (shut_int Tryd.underlying3 w0) (trodAll_cons_mk (shut_int Tryd.underlying3 w1) trodAll_mk0)), rfl, bel.frame _, fun h => by cases h⟩

theorem reads (os : Os) {H : Type} (enc : TypeId × Value → H) : ∃ places, DataW.whole enc Tryd.prog ((laidWorld os).forCall (fun _ _ => 0) ⟨#[], #[.int .i64 0, .int .i64 0], []⟩).memory Tryd.f10.params.toList Rows.pathKnownSpec.vars false (#[.int .i64 0, .int .i64 0] : Array Value).toList 8 = some ([.lit (.int .i64 0), .lit (.int .i64 0)], [], places) :=
  ⟨[], by kernel_rfl⟩
theorem laid_met (os : Os) : laidMetH Tryd.prog Rows.pathKnownRow.laid ((laidWorld os).forCall (fun _ _ => 0) ⟨#[], #[.int .i64 0, .int .i64 0], []⟩).memory := laidMetW os _

set_option maxRecDepth 100000 in
theorem lifted (os : Os) (started : os.Started) (H : Type) (enc : TypeId × Value → H) (F : Stop.Interp) :
    ReturnsInHanded {} Tryd.checked os 10 .any ((OpenSpec.ofChange Rows.pathKnownSpec).preRow enc Tryd.prog Tryd.f10 Rows.pathKnownRow.domain false Rows.pathKnownRow.laid) (((OpenSpec.ofChange Rows.pathKnownSpec).at F).post enc Tryd.prog Tryd.f10 false true false false) := by
  obtain ⟨places, hx⟩ := reads os enc
  refine returnsInHanded_of_row (C := Tryd.checked) (s := OpenSpec.ofChange Rows.pathKnownSpec) own started (by kernel_rfl) Tryd.func10
    (witness_row_at (enc := enc) (C := Tryd.checked) false (laidWorld os) #[.int .i64 0, .int .i64 0] rfl (by kernel_rfl) (by kernel_rfl) (by kernel_rfl)
      (OpenSpec.preRow_of_cond 8 hx (by kernel_rfl) (fun k hk => by cases hk) (by kernel_rfl) (laid_met os))) ?_
  intro W base args ds gs before hval hW _ _ _ hL _ _
  exact contract H enc W base args ds gs before hval hW hL

theorem said : Rows.PathKnownSaid :=
  OpenClaim.holds_of_cond 10 Tryd.f10 rfl rfl rfl rfl rfl rfl rfl ⟨rfl, rfl, rfl, rfl, rfl⟩ rfl rfl rfl rfl rfl (by kernel_rfl) Tryd.func10 (by kernel_rfl)
    (of_decide_eq_true (by kernel_rfl)) (by unfold Func.isWrapper; first | (rw [if_pos (by decide +kernel)]; kernel_rfl) | (rw [if_neg (by decide +kernel)]; exact ⟨rfl, rfl⟩))
    (fun os started H enc _ F => by rw [OpenClaim.pre_eq_preRow]; exact lifted os started H enc F)

theorem plain (f : FuncId) (fn : Func) (hf : Tryd.pinned.checked.prog.funcNamed "wanderwire/wirelaw4.PathKnown" = some f) (hfn : Tryd.pinned.checked.prog.funcs[f]? = some fn) :
    true = Tryd.pinned.checked.prog.looks [] ∧ ∀ (j : Nat) t, fn.params[j]? = some t → Tryd.pinned.checked.prog.wantsStandIn t = false := by
  obtain rfl : f = 10 := Option.some.inj ((show Tryd.prog.funcNamed "wanderwire/wirelaw4.PathKnown" = some 10 by kernel_rfl).symm.trans hf) |>.symm
  obtain rfl : fn = Tryd.f10 := (Option.some.inj (Tryd.func10.symm.trans hfn)).symm
  refine ⟨by kernel_rfl, fun j t ht => ?_⟩
  rw [Tryd.params10] at ht
  have ht' := Array.mem_of_getElem? ht
  have hall : (([3, 3] : List Nat).all fun t => !Tryd.prog.wantsStandIn t) = true := by kernel_rfl
  have hq := List.all_eq_true.1 hall t (by simpa using ht')
  have hq2 : Tryd.prog.wantsStandIn t = false := by simpa using hq
  exact hq2

theorem card : Rows.PathKnownCardSaid :=
  Claim7.holds_tied_plain_at .later [] _ _ _ _ said (fun _ h => by cases h) (by kernel_rfl) (fun _ h => by cases h) pathKnown_row_tie rfl ⟨rfl, rfl⟩ (by kernel_rfl) rfl plain (by kernel_rfl)
#print axioms card
end Go.Proofs.YtmofahmkgignaaaDoor.pathKnown
