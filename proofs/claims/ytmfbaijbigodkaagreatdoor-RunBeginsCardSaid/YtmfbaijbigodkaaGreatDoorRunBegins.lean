/- RunBegins: for every session and number the law returns true: what is answered to a beginning of a session is a beginning of what is answered to all of it; one that is too long is told so. Condition: the tables hold what the program's text lays (the row lists them, the card ties them). -/
import Derived.Test.YtmfbaijbigodkaaGreatDoorQH
import Derived.Test.YtmfbaijbigodkaaGreatDoorCards
import Derived.Test.YtmfbaijbigodkaaGreatDoorTie
import Derived.Deep.DeepHandedRow
import Derived.LaidLaws
import Derived.LaidHandle
import Derived.Deep.DeepWitnessRowRef
import Derived.Test.YtmfbaijbigodkaaGreatDoorRows
import Derived.WalkKit
import Derived.ProofKit
import Derived.OpenShut
import Derived.ShutString
import Derived.ChangeOld
import Derived.Below
import Derived.Lib.SmallJoins
import Derived.Deep.Slices
import Derived.Deep.Matrix
import Derived.Deep.Strs
namespace Go.Proofs.YtmfbaijbigodkaaGreatDoor.runBegins
open Go.ChangeShapes Go.WideShapes Go.ChangeAt Go.RowKit
open Go.ChangeMaps (open_string shut_string)
set_option linter.unusedVariables false

noncomputable abbrev laidWorld := YtmfbaijbigodkaaGreatDoor.laidWorld7
theorem laidMetW (os : Os) (args : Array Value) : laidMetH Tryz.prog Rows.runBeginsRow.laid ((laidWorld os).forCall (fun _ _ => 0) ⟨#[], args, []⟩).memory := laidMet_r os args
theorem laidWalk {W : World} (h : laidMetH Tryz.prog Rows.runBeginsRow.laid W) : RTabs W := laid_r h
theorem fact_at (w : World) (T : RTabs w) : Calls Tryz.prog 36 #[.string bFact] w fun e w' => e = .returned (.string ⟨#[111, 107, 10, 111, 107, 10, 49, 10, 45, 10, 111, 107, 10, 98, 97, 100, 10, 104, 101, 10, 108, 108, 111, 10, 54, 53, 32, 52, 52, 10, 49, 10, 69, 114, 114, 82, 97, 110, 103, 101, 10, 69, 114, 114, 82, 97, 110, 103, 101, 10]⟩) ∧ Since w w' := by
  have h := prunB bFact w T
  rw [fact_told] at h
  exact h
theorem long_at (t : ByteArray) (h : 3000 < t.size) (w : World) : Calls Tryz.prog 36 #[.string t] w fun e w' => e = .returned (.string ⟨#[116, 111, 111, 32, 108, 111, 110, 103, 10]⟩) ∧ Since w w' := prun_long t h w
set_option maxRecDepth 100000 in
set_option maxHeartbeats 3200000 in
theorem walk (t : ByteArray) (m : Int) (w : World) (w0 : t.size ≤ maxLen) (w1 : (Lit.int .i64 m).wf = true) (hL : RTabs w) :
    Calls Tryz.prog 6 #[.string t, .int .i64 m] w fun e w' => e = .returned (.bool true) ∧ Below w.heap.size w w' := by
  have HT := Lib.hid hL
  clear hL
  go_enter Tryz.func6, Tryz.ntmps6
  go_wp2_with fail
  refine (fact_at _ HT.out).mono ?_
  rintro e w2 ⟨rfl, hs2⟩
  by_cases h3 : 3000 < t.size
  · have h3' : (3000 : Int) < (t.size : Int) := by omega
    go_wp2_with fail
    refine (long_at t h3 w2).mono ?_
    rintro e w3 ⟨rfl, hs3⟩
    go_wp2_with fail
    go_ret
    exact ⟨rfl, hs2.later hs3⟩
  have h3' : decide ((3000 : Int) < (t.size : Int)) = false := by simp; omega
  have h30 : t.size ≤ 3000 := by omega
  clear w0
  go_wp2_with fail
  go_loopw [7, 8] (fun s7 s8 wr => ∃ k n : Nat, s7 = .int .i64 k ∧ s8 = .int .i64 n ∧ k ≤ t.size ∧ n ≤ k ∧ ((n : Int) < m ∨ Whole_ (t.data.toList.take k)) ∧ wr = w2) (fun s7 _ _ => t.size - (intOf s7).toNat)
  case atStart => exact ⟨0, 0, rfl, rfl, Nat.zero_le _, Nat.le_refl _, Or.inr (Or.inl rfl), rfl⟩
  case round =>
    obtain ⟨k, n, rfl, rfl, hk, hn, hw, rfl⟩ := hrel
    by_cases hgo : k < t.size ∧ (n : Int) < m
    · obtain ⟨hk2, hn2⟩ := hgo
      have hdl : k < t.data.toList.length := by rw [Array.length_toList]; exact hk2
      have htk : t.data.toList.take (k + 1) = t.data.toList.take k ++ [t[k]] := by
        rw [List.take_succ_eq_append_getElem hdl]
        rfl
      have hk2' : (k : Int) < (t.size : Int) := by omega
      go_wp2_with fail
      case roundEnd =>
        rename_i h10
        have h10' : t[k] = 10 := by
          have := eq_of_beq h10
          apply UInt8.toNat_inj.1
          have e : (10 : UInt8).toNat = 10 := rfl
          rw [e]; omega
        exact ⟨⟨k + 1, n + 1, rfl, rfl, by omega, by omega, Or.inr (Or.inr ⟨_, by rw [htk, h10']⟩), trivial⟩, by simp [intOf]; omega⟩
      case roundEnd =>
        exact ⟨⟨k + 1, n, rfl, rfl, by omega, by omega, Or.inl hn2, trivial⟩, by simp [intOf]; omega⟩
    have hwh : k = t.size ∨ Whole_ (t.data.toList.take k) := by
      rcases hw with hw | hw
      · exact Or.inl (by omega)
      · exact Or.inr hw
    have HB := Lib.hid (begins hk h30 hwh)
    have hkI : (k : Int) ≤ (t.size : Int) := by omega
    clear hw hwh
    by_cases hk2 : k < t.size
    · have hn2 : ¬ (n : Int) < m := fun h => hgo ⟨hk2, h⟩
      have hn2' : decide ((n : Int) < m) = false := by simpa using hn2
      have hk2' : (k : Int) < (t.size : Int) := by omega
      clear hgo
      go_wp2_with fail
      refine (prunB _ _ (HT.out.later hs2)).mono ?_
      rintro e w3 ⟨rfl, hs3⟩
      go_wp2_with fail
      refine (prunB _ _ ((HT.out.later hs2).later hs3)).mono ?_
      rintro e w4 ⟨rfl, hs4⟩
      generalize runB (t.extract 0 k) = B at *
      generalize runB t = A at *
      have hb1 := HB.out.1
      have hb1' : (B.size : Int) ≤ (A.size : Int) := by omega
      have hb2 : ((A.extract 0 B.size).toList == B.toList) = true := by rw [HB.out.2]; exact beq_self_eq_true _
      go_wp2_with fail
      go_ret
      exact ⟨rfl, (hs2.later hs3).later hs4⟩
    · obtain rfl : k = t.size := by omega
      have hk2' : decide ((t.size : Int) < (t.size : Int)) = false := by simp
      clear hgo
      go_wp2_with fail
      refine (prunB _ _ (HT.out.later hs2)).mono ?_
      rintro e w3 ⟨rfl, hs3⟩
      go_wp2_with fail
      refine (prunB _ _ ((HT.out.later hs2).later hs3)).mono ?_
      rintro e w4 ⟨rfl, hs4⟩
      generalize runB (t.extract 0 t.size) = B at *
      generalize runB t = A at *
      have hb1 := HB.out.1
      have hb1' : (B.size : Int) ≤ (A.size : Int) := by omega
      have hb2 : ((A.extract 0 B.size).toList == B.toList) = true := by rw [HB.out.2]; exact beq_self_eq_true _
      go_wp2_with fail
      go_ret
      exact ⟨rfl, (hs2.later hs3).later hs4⟩

/-! the row -/
theorem own : ownKnob Tryz.prog.godebug = none := by kernel_rfl
theorem laidOut : laidOutB Tryz.prog = true := by kernel_rfl
set_option maxRecDepth 100000 in
theorem contract (H : Type) (enc : TypeId × Value → H) (W : World) (base : Nat) (args : Array Value) (ds gs : List (DataW H)) (before : List MemPlace)
    (hval : ∀ (j : Nat) t v, Tryz.f6.params[j]? = some t → args[j]? = some v → Value.okWide Tryz.prog W .any base t v)
    (hW : DataW.Whole enc Tryz.prog Tryz.f6.params.toList Rows.runBeginsSpec.vars false W args.toList ds gs before) (hL : laidMetH Tryz.prog Rows.runBeginsRow.laid W) :
    Calls Tryz.prog 6 args W fun e W' => ∃ v, e = .returned v ∧ Rows.runBeginsSpec.post enc Tryz.prog Tryz.f6 false true false false W args v W' := by
  have hW' := hW
  obtain ⟨p, q, hA0, hV, rfl, hfz, hnd⟩ := hW
  have hA : DataW.TrodAll enc Tryz.prog W 0 (fun _ => true) true Tryz.f6.params.toList args.toList ds p := hA0
  rw [Tryz.params6] at hA hval
  obtain ⟨v0, vs0, d0, ds0, p0, q0, hargs, rfl, rfl, h0, r0⟩ := trodAll_cons hA
  obtain ⟨v1, vs1, d1, ds1, p1, q1, rfl, rfl, rfl, h1, r1⟩ := trodAll_cons r0
  obtain ⟨rfl, rfl, rfl⟩ := trodAll_nil r1
  obtain rfl : args = #[v0, v1] := by cases args; simp_all
  obtain ⟨rfl, rfl⟩ := trodVars_none hV
  obtain ⟨s0, rfl, rfl, rfl, w0⟩ := open_string Tryz.underlying9 (hval 0 9 v0 rfl rfl) h0
  obtain ⟨a1, rfl, rfl, rfl, w1⟩ := open_int Tryz.underlying3 (hval 1 3 v1 rfl rfl) h1
  have lw := laidWalk hL
  refine (walk s0 a1 W w0 w1 lw).mono fun e W' ⟨he, bel⟩ => ?_
  subst he
  exact ⟨_, rfl, _, _, _, [], _, [], hW', trodAll_mk1 (shut_bool Tryz.underlying4 _), (trodAll_cons_mk (shut_string Tryz.underlying9 w0) (trodAll_cons_mk (shut_int Tryz.underlying3 w1) trodAll_mk0)), rfl, bel.frame _, fun h => by cases h⟩

theorem reads (os : Os) {H : Type} (enc : TypeId × Value → H) : ∃ places, DataW.whole enc Tryz.prog ((laidWorld os).forCall (fun _ _ => 0) ⟨#[], #[.string ByteArray.empty, .int .i64 0], []⟩).memory Tryz.f6.params.toList Rows.runBeginsSpec.vars false (#[.string ByteArray.empty, .int .i64 0] : Array Value).toList 8 = some ([.lit (.string []), .lit (.int .i64 0)], [], places) :=
  ⟨[], by kernel_rfl⟩
theorem laid_met (os : Os) : laidMetH Tryz.prog Rows.runBeginsRow.laid ((laidWorld os).forCall (fun _ _ => 0) ⟨#[], #[.string ByteArray.empty, .int .i64 0], []⟩).memory := laidMetW os _

set_option maxRecDepth 100000 in
theorem lifted (os : Os) (started : os.Started) (H : Type) (enc : TypeId × Value → H) (F : Stop.Interp) :
    ReturnsInHanded {} Tryz.checked os 6 .any ((OpenSpec.ofChange Rows.runBeginsSpec).preRow enc Tryz.prog Tryz.f6 Rows.runBeginsRow.domain false Rows.runBeginsRow.laid) (((OpenSpec.ofChange Rows.runBeginsSpec).at F).post enc Tryz.prog Tryz.f6 false true false false) := by
  obtain ⟨places, hx⟩ := reads os enc
  refine returnsInHanded_of_row (C := Tryz.checked) (s := OpenSpec.ofChange Rows.runBeginsSpec) own started (by kernel_rfl) Tryz.func6
    (witness_row_at (enc := enc) (C := Tryz.checked) false (laidWorld os) #[.string ByteArray.empty, .int .i64 0] rfl (by kernel_rfl) (by kernel_rfl) (by kernel_rfl)
      (OpenSpec.preRow_of_cond 8 hx (by kernel_rfl) (fun k hk => by cases hk) (by kernel_rfl) (laid_met os))) ?_
  intro W base args ds gs before hval hW _ _ _ hL _ _
  exact contract H enc W base args ds gs before hval hW hL

theorem said : Rows.RunBeginsSaid :=
  OpenClaim.holds_of_cond 6 Tryz.f6 rfl rfl rfl rfl rfl rfl rfl ⟨rfl, rfl, rfl, rfl, rfl⟩ rfl rfl rfl rfl rfl (by kernel_rfl) Tryz.func6 (by kernel_rfl)
    (of_decide_eq_true (by kernel_rfl)) (by unfold Func.isWrapper; first | (rw [if_pos (by decide +kernel)]; kernel_rfl) | (rw [if_neg (by decide +kernel)]; exact ⟨rfl, rfl⟩))
    (fun os started H enc _ F => by rw [OpenClaim.pre_eq_preRow]; exact lifted os started H enc F)

theorem plain (f : FuncId) (fn : Func) (hf : Tryz.pinned.checked.prog.funcNamed "wanderwire/wirelaw3.RunBegins" = some f) (hfn : Tryz.pinned.checked.prog.funcs[f]? = some fn) :
    true = Tryz.pinned.checked.prog.looks [] ∧ ∀ (j : Nat) t, fn.params[j]? = some t → Tryz.pinned.checked.prog.wantsStandIn t = false := by
  obtain rfl : f = 6 := Option.some.inj ((show Tryz.prog.funcNamed "wanderwire/wirelaw3.RunBegins" = some 6 by kernel_rfl).symm.trans hf) |>.symm
  obtain rfl : fn = Tryz.f6 := (Option.some.inj (Tryz.func6.symm.trans hfn)).symm
  refine ⟨by kernel_rfl, fun j t ht => ?_⟩
  rw [Tryz.params6] at ht
  have ht' := Array.mem_of_getElem? ht
  have hall : (([9, 3] : List Nat).all fun t => !Tryz.prog.wantsStandIn t) = true := by kernel_rfl
  have hq := List.all_eq_true.1 hall t (by simpa using ht')
  have hq2 : Tryz.prog.wantsStandIn t = false := by simpa using hq
  exact hq2

theorem card : Rows.RunBeginsCardSaid :=
  Claim7.holds_tied_plain_at .later [] _ _ _ _ said (fun _ h => by cases h) (by kernel_rfl) (fun _ h => by cases h) runBegins_row_tie rfl ⟨rfl, rfl⟩ (by kernel_rfl) rfl plain (by kernel_rfl)
#print axioms card
end Go.Proofs.YtmfbaijbigodkaaGreatDoor.runBegins
