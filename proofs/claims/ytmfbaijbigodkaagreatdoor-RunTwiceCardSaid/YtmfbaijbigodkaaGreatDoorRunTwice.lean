/- RunTwice: for every two numbers the law returns true: what was sent, doubled, and came however often, is read once; numbers out of reach are told so. Condition: the tables hold what the program's text lays (the row lists them, the card ties them). -/
import Derived.Test.YtmfbaijbigodkaaGreatDoorQH
import Derived.Deep.DeepCutAuto
import Derived.Deep.QuietTactic
import Derived.BigQuiet
import Derived.Test.YtmfbaijbigodkaaGreatDoorCards
import Derived.Test.YtmfbaijbigodkaaGreatDoorTie
import Derived.Deep.DeepHandedRow
import Derived.LaidLaws
import Derived.LaidHandle
import Derived.Deep.DeepWitnessRowRef
import Derived.Test.YtmfbaijbigodkaaGreatDoorRows
import Derived.WalkKit
import Derived.ProofKit
import Derived.OpenShut
import Derived.ShutString
import Derived.ChangeOld
import Derived.Below
import Derived.Lib.SmallJoins
import Derived.Deep.Slices
import Derived.Deep.Matrix
import Derived.Deep.Strs
namespace Go.Proofs.YtmfbaijbigodkaaGreatDoor.runTwice
open Go.ChangeShapes Go.WideShapes Go.ChangeAt Go.RowKit
open Go.ChangeMaps (open_string shut_string)
set_option linter.unusedVariables false

noncomputable abbrev laidWorld := YtmfbaijbigodkaaGreatDoor.laidWorld7
theorem laidMetW (os : Os) (args : Array Value) : laidMetH Tryz.prog Rows.runTwiceRow.laid ((laidWorld os).forCall (fun _ _ => 0) ⟨#[], args, []⟩).memory := laidMet_r os args
theorem laidWalk {W : World} (h : laidMetH Tryz.prog Rows.runTwiceRow.laid W) : RTabs W := laid_r h
theorem told_err : runB ⟨#[116, 119, 105, 99, 101, 32, 48, 10]⟩ = ⟨#[69, 114, 114, 82, 97, 110, 103, 101, 10]⟩ := by
  have e : ans (TkS.new 20) lnT = (⟨#[69, 114, 114, 82, 97, 110, 103, 101]⟩, TkS.new 20) := ans_no (x := wTwice) (ns := [0]) (d := []) (X := bOk) (e := 1) (by decide) (by rfl) (by rfl)
  unfold runB
  rw [if_neg (by decide)]
  unfold after
  have hl : (linesOf (ByteArray.mk #[116, 119, 105, 99, 101, 32, 48, 10]).data.toList).map trim = [lnT] := by rfl
  rw [hl]
  show (⟨(anss (TkS.new 20) [lnT]).toArray⟩ : ByteArray) = _
  rw [anss, e]
  rfl
theorem err_at (w : World) (T : RTabs w) : Calls Tryz.prog 36 #[.string ⟨#[116, 119, 105, 99, 101, 32, 48, 10]⟩] w fun e w' => e = .returned (.string ⟨#[69, 114, 114, 82, 97, 110, 103, 101, 10]⟩) ∧ Since w w' := by
  have h := prunB ⟨#[116, 119, 105, 99, 101, 32, 48, 10]⟩ w T
  rw [told_err] at h
  exact h
theorem tell_at (M N : Nat) (hM : M ≤ 10) (h1 : 1 ≤ N) (h9 : N ≤ 9) (w : World) (T : RTabs w) : Calls Tryz.prog 36 #[.string (w3T M N)] w fun e w' => e = .returned (.string ⟨(told2 M N).toArray⟩) ∧ Since w w' := by
  have h := prunB (w3T M N) w T
  rw [told_twice hM h1 h9] at h
  exact h
theorem told2_len (M N : Nat) (hM : M ≤ 10) (h1 : 1 ≤ N) (h9 : N ≤ 9) : (ByteArray.mk (told2 M N).toArray).size ≤ 400000 := by
  have ho : ∀ k, (oks k).length = 3 * k := fun k => by
    induction k with
    | zero => rfl
    | succ k ih => rw [oks_succ, List.length_append, ih]; show 3 + 3 * k = _; omega
  have hr : (rest N).data.toList.length ≤ 9 := nine (P := fun n => (rest n).data.toList.length ≤ 9) (by decide) h1 h9
  have hl : (ltrs.extract 0 N).data.toList.length ≤ 9 := nine (P := fun n => (ltrs.extract 0 n).data.toList.length ≤ 9) (by decide) h1 h9
  have : (told2 M N).length ≤ 400000 := by
    unfold told2
    rw [List.length_append, ho, List.length_append, List.length_cons, List.length_append, List.length_cons, List.length_cons, List.length_cons, List.length_nil]
    omega
  show (told2 M N).toArray.size ≤ _
  simpa using this
theorem cut_at (M N : Nat) (hM : M ≤ 10) (h1 : 1 ≤ N) (h9 : N ≤ 9) (w : World) : Calls Tryz.prog 37 #[.string ⟨(told2 M N).toArray⟩, .int .u8 10] w fun e w' => ∃ q cp, e = .returned (.slice (some ⟨q, 0, none⟩) (2 * M + 7) cp) ∧ Lst w' 9 1 (.slice (some ⟨q, 0, none⟩) (2 * M + 7) cp) (wrows (cuts2 M N)) ∧ Since w w' := by
  have hl : (cuts2 M N).length = 2 * M + 7 := by
    unfold cuts2
    rw [List.length_append, List.length_replicate]
    show 3 + 2 * M + 4 = _
    omega
  refine (rcut ⟨(told2 M N).toArray⟩ 10 w (told2_len M N hM h1 h9)).mono ?_
  rw [bytes_of, cut_told h1 h9, hl]
  rintro e w' ⟨q, cp, a, b, _, d⟩
  exact ⟨q, cp, a, b, d⟩
theorem rest_yes {N : Nat} (h1 : 1 ≤ N) (h9 : N ≤ 9) (h : ((⟨#[97, 98, 99, 100, 101, 102, 103, 104, 105]⟩ : ByteArray).extract N 9).toList.isEmpty = true) : rest N = ⟨#[45]⟩ := by
  rw [Lib.toList_data] at h
  exact nine (P := fun n => ((⟨#[97, 98, 99, 100, 101, 102, 103, 104, 105]⟩ : ByteArray).extract n 9).data.toList.isEmpty = true → rest n = ⟨#[45]⟩) (by decide) h1 h9 h
theorem rest_no {N : Nat} (h1 : 1 ≤ N) (h9 : N ≤ 9) (h : ((⟨#[97, 98, 99, 100, 101, 102, 103, 104, 105]⟩ : ByteArray).extract N 9).toList.isEmpty = false) : rest N = (⟨#[97, 98, 99, 100, 101, 102, 103, 104, 105]⟩ : ByteArray).extract N 9 := by
  rw [Lib.toList_data] at h
  exact nine (P := fun n => ((⟨#[97, 98, 99, 100, 101, 102, 103, 104, 105]⟩ : ByteArray).extract n 9).data.toList.isEmpty = false → rest n = (⟨#[97, 98, 99, 100, 101, 102, 103, 104, 105]⟩ : ByteArray).extract n 9) (by decide) h1 h9 h
theorem cells_at {M N : Nat} {w : World} {q cp : Nat} (h : Lst w 9 1 (.slice (some ⟨q, 0, none⟩) (2 * M + 7) cp) (wrows (cuts2 M N))) :
    w.cell? ⟨q, 2 * M + 2, none⟩ = some (.string ⟨#[111, 107]⟩) ∧ w.cell? ⟨q, 2 * M + 2 + 1, none⟩ = some (.string (ltrs.extract 0 N)) ∧ w.cell? ⟨q, 2 * M + 2 + 1 + 1, none⟩ = some (.string (rest N)) ∧ w.cell? ⟨q, 2 * M + 2 + 1 + 2, none⟩ = some (.string ⟨#[45]⟩) := by
  have get : ∀ (j : Nat) (x : List UInt8), (cuts2 M N)[j]? = some x → w.cell? ⟨q, j, none⟩ = some (.string ⟨x.toArray⟩) := fun j x hx => by
    have := h.cell rfl (i := j) (j := 0) (e := wRow ⟨x.toArray⟩) (u := .string ⟨x.toArray⟩) (by unfold wrows; rw [List.getElem?_map, hx]; rfl) rfl
    simpa using this
  have rep : (List.replicate (3 + 2 * M) ([111, 107] : List UInt8)).length = 2 * M + 3 := by rw [List.length_replicate]; omega
  have tl : ∀ j, (cuts2 M N)[2 * M + 3 + j]? = ([(ltrs.extract 0 N).data.toList, (rest N).data.toList, [45], []] : List (List UInt8))[j]? := fun j => by
    unfold cuts2
    rw [List.getElem?_append_right (by omega), rep]
    congr 1
    omega
  refine ⟨get _ [111, 107] ?_, ?_, ?_, get _ [45] (tl 2)⟩
  · unfold cuts2
    rw [List.getElem?_append_left (by omega), List.getElem?_replicate, if_pos (by omega)]
  · have := get _ (ltrs.extract 0 N).data.toList (tl 0)
    exact this
  · have := get _ (rest N).data.toList (tl 1)
    exact this
set_option maxRecDepth 100000 in
set_option maxHeartbeats 3200000 in
theorem walk (m n : Int) (w : World) (w0 : (Lit.int .i64 m).wf = true) (w1 : (Lit.int .i64 n).wf = true) (hL : RTabs w) :
    Calls Tryz.prog 7 #[.int .i64 m, .int .i64 n] w fun e w' => e = .returned (.bool true) ∧ Below w.heap.size w w' := by
  have HT := Lib.hid hL
  clear hL w0 w1
  go_enter Tryz.func7, Tryz.ntmps7
  by_cases hok : (0 ≤ m ∧ m ≤ 10) ∧ (1 ≤ n ∧ n ≤ 9)
  case neg =>
    go_wp2_with fail
    all_goals first
      | (refine (err_at _ HT.out).mono ?_
         rintro e w2 ⟨rfl, hs2⟩
         go_wp2_with fail
         go_ret
         exact ⟨rfl, hs2⟩)
      | skip
  obtain ⟨⟨hm0, hm1⟩, hn0, hn1⟩ := hok
  obtain ⟨M, rfl⟩ : ∃ M : Nat, m = M := ⟨m.toNat, by omega⟩
  obtain ⟨N, rfl⟩ : ∃ N : Nat, n = N := ⟨n.toNat, by omega⟩
  have g1 : decide ((M : Int) < 0) = false := by simp
  have g2 : decide ((10 : Int) < (M : Int)) = false := by simp; omega
  have g3 : decide ((N : Int) < 1) = false := by simp; omega
  have g4 : decide ((9 : Int) < (N : Int)) = false := by simp; omega
  have hM : M ≤ 10 := by omega
  have hN1 : 1 ≤ N := by omega
  have hN9 : N ≤ 9 := by omega
  clear hm0 hn0
  go_wp2_with fail
  go_loopw [6, 7] (fun s6 s7 wr => ∃ i : Nat, s6 = .string (w1T i) ∧ s7 = .int .i64 i ∧ i ≤ M ∧ wr = w) (fun _ s7 _ => M - (intOf s7).toNat)
  case atStart => exact ⟨0, rfl, rfl, Nat.zero_le _, rfl⟩
  case round =>
    obtain ⟨i, rfl, rfl, hi, rfl⟩ := hrel
    by_cases hi2 : i < M
    · have hi3 : (i : Int) < (M : Int) := by omega
      have hz : (w1T i).size ≤ 2000 := by rw [w1T_size]; omega
      go_wp2_with fail
      exact ⟨⟨i + 1, rfl, rfl, by omega, trivial⟩, by simp [intOf]; omega⟩
    · obtain rfl : i = M := by omega
      have hf2 : decide ((i : Int) < (i : Int)) = false := by simp
      clear hi hi2
      go_wp2_with fail
      go_loopw [6, 8] (fun s6 s8 wx => ∃ j : Nat, s6 = .string (w2T i j) ∧ s8 = .int .i64 j ∧ j ≤ i + 1 ∧ wx = wr) (fun _ s8 _ => i + 1 - (intOf s8).toNat)
      case atStart => exact ⟨0, rfl, rfl, Nat.zero_le _, rfl⟩
      case round =>
        obtain ⟨j, rfl, rfl, hj, rfl⟩ := hrel
        by_cases hj2 : j ≤ i
        · have hj3 : (j : Int) ≤ (i : Int) := by omega
          have hz : (w2T i j).size ≤ 2000 := by rw [w2T_size]; omega
          go_wp2_with fail
          exact ⟨⟨j + 1, rfl, rfl, by omega, trivial⟩, by simp [intOf]; omega⟩
        · obtain rfl : j = i + 1 := by omega
          have hf3 : decide (((i + 1 : Nat) : Int) ≤ (i : Int)) = false := by simp; omega
          go_wp2_with fail
          refine (rdigits N _ (by omega)).mono ?_
          rintro e w2 ⟨rfl, hs2⟩
          rw [show (⟨(Lib.itoa (N : Int)).toArray⟩ : ByteArray) = ⟨#[UInt8.ofNat (48 + N)]⟩ from by rw [itoa_small (by omega)]]
          have HW3 : Hid (w2T i (i + 1) ++ ⟨#[114, 101, 97, 100, 32, 48, 32]⟩ ++ ⟨#[UInt8.ofNat (48 + N)]⟩ ++ ⟨#[10, 114, 101, 97, 100, 32, 48, 32, 57, 10, 114, 101, 97, 100, 32, 48, 32, 57, 10]⟩ = w3T i N) := Lib.hid rfl
          have hP : (w2T i (i + 1)).size ≤ 2000 := by rw [w2T_size]; omega
          have hD : (⟨#[UInt8.ofNat (48 + N)]⟩ : ByteArray).size ≤ 60 := by show 1 ≤ 60; decide
          generalize (⟨#[UInt8.ofNat (48 + N)]⟩ : ByteArray) = D at *
          generalize w2T i (i + 1) = P at *
          have hP2 : (P ++ (⟨#[114, 101, 97, 100, 32, 48, 32]⟩ : ByteArray)).size ≤ 2010 := by
            rw [ByteArray.size_append]
            have : (⟨#[114, 101, 97, 100, 32, 48, 32]⟩ : ByteArray).size = 7 := rfl
            omega
          have hP3 : (P ++ (⟨#[114, 101, 97, 100, 32, 48, 32]⟩ : ByteArray) ++ D).size ≤ 2070 := by
            rw [ByteArray.size_append]
            omega
          clear hj2 hj hf3
          go_wp2_with fail
          rw [HW3.out]
          refine (tell_at i N hM hN1 hN9 _ (HT.out.later hs2)).mono ?_
          rintro e w3 ⟨rfl, hs3⟩
          go_wp2_with fail
          refine (cut_at i N hM hN1 hN9 _).mono ?_
          rintro e w4 ⟨q, cp, rfl, hl4, hs4⟩
          obtain ⟨c1, c2, c3, c4⟩ := cells_at hl4
          have hs : Since wr w4 := (hs2.later hs3).later hs4
          obtain ⟨B, hB⟩ : ∃ B, 2 * i + 2 = B := ⟨_, rfl⟩
          rw [hB] at c1 c2 c3 c4
          obtain ⟨C, hC⟩ : ∃ C, B + 1 = C := ⟨_, rfl⟩
          rw [hC] at c2 c3 c4
          obtain ⟨D1, hD1⟩ : ∃ D, C + 1 = D := ⟨_, rfl⟩
          rw [hD1] at c3
          obtain ⟨D2, hD2⟩ : ∃ D, C + 2 = D := ⟨_, rfl⟩
          rw [hD2] at c4
          obtain ⟨T, hT⟩ : ∃ T, 2 * i + 7 = T := ⟨_, rfl⟩
          rw [hT]
          replace c2 : w4.cell? ⟨q, C, none⟩ = some (.string ((⟨#[97, 98, 99, 100, 101, 102, 103, 104, 105]⟩ : ByteArray).extract 0 N)) := c2
          have HC3 : Hid (3 + 2 * (i : Int) = (C : Int)) := Lib.hid (by omega)
          have k1 : B < T := by omega
          have k2 : C < T := by omega
          have k3 : D1 < T := by omega
          have k4 : D2 < T := by omega
          have k1' : (B : Int) < (T : Int) := by omega
          have k2' : (C : Int) < (T : Int) := by omega
          have k3' : (D1 : Int) < (T : Int) := by omega
          have k4' : (D2 : Int) < (T : Int) := by omega
          have q0 : IntKind.i64.wrap ((C : Int) - 1) = (B : Int) := by rw [IntWalk.i64_in _ (by omega)]; omega
          have q1 : IntKind.i64.wrap ((C : Int) + 1) = (D1 : Int) := by rw [IntWalk.i64_in _ (by omega)]; omega
          have q2 : IntKind.i64.wrap ((C : Int) + 2) = (D2 : Int) := by rw [IntWalk.i64_in _ (by omega)]; omega
          have q4 : IntKind.i64.wrap ((C : Int) + 4) = (T : Int) := by rw [IntWalk.i64_in _ (by omega)]; omega
          clear HW3 hP hP2 hP3 hD hB hl4 hC hD1 hD2 hT
          go_wp2_with fail
          all_goals
            rename_i he _ _
            rw [HC3.out]
            first
            | (rw [rest_yes hN1 hN9 he] at c3)
            | (rw [rest_no hN1 hN9 he] at c3)
          all_goals
            clear he
            go_quiet (fail)
          all_goals
            go_wp2_with fail
            go_ret
            exact ⟨rfl, hs.drewN _⟩

/-! the row -/
theorem own : ownKnob Tryz.prog.godebug = none := by kernel_rfl
theorem laidOut : laidOutB Tryz.prog = true := by kernel_rfl
set_option maxRecDepth 100000 in
theorem contract (H : Type) (enc : TypeId × Value → H) (W : World) (base : Nat) (args : Array Value) (ds gs : List (DataW H)) (before : List MemPlace)
    (hval : ∀ (j : Nat) t v, Tryz.f7.params[j]? = some t → args[j]? = some v → Value.okWide Tryz.prog W .any base t v)
    (hW : DataW.Whole enc Tryz.prog Tryz.f7.params.toList Rows.runTwiceSpec.vars false W args.toList ds gs before) (hL : laidMetH Tryz.prog Rows.runTwiceRow.laid W) :
    Calls Tryz.prog 7 args W fun e W' => ∃ v, e = .returned v ∧ Rows.runTwiceSpec.post enc Tryz.prog Tryz.f7 false true false false W args v W' := by
  have hW' := hW
  obtain ⟨p, q, hA0, hV, rfl, hfz, hnd⟩ := hW
  have hA : DataW.TrodAll enc Tryz.prog W 0 (fun _ => true) true Tryz.f7.params.toList args.toList ds p := hA0
  rw [Tryz.params7] at hA hval
  obtain ⟨v0, vs0, d0, ds0, p0, q0, hargs, rfl, rfl, h0, r0⟩ := trodAll_cons hA
  obtain ⟨v1, vs1, d1, ds1, p1, q1, rfl, rfl, rfl, h1, r1⟩ := trodAll_cons r0
  obtain ⟨rfl, rfl, rfl⟩ := trodAll_nil r1
  obtain rfl : args = #[v0, v1] := by cases args; simp_all
  obtain ⟨rfl, rfl⟩ := trodVars_none hV
  obtain ⟨a0, rfl, rfl, rfl, w0⟩ := open_int Tryz.underlying3 (hval 0 3 v0 rfl rfl) h0
  obtain ⟨a1, rfl, rfl, rfl, w1⟩ := open_int Tryz.underlying3 (hval 1 3 v1 rfl rfl) h1
  have lw := laidWalk hL
  refine (walk a0 a1 W w0 w1 lw).mono fun e W' ⟨he, bel⟩ => ?_
  subst he
  exact ⟨_, rfl, _, _, _, [], _, [], hW', trodAll_mk1 (shut_bool Tryz.underlying4 _), (trodAll_cons_mk (shut_int Tryz.underlying3 w0) (trodAll_cons_mk (shut_int Tryz.underlying3 w1) trodAll_mk0)), rfl, bel.frame _, fun h => by cases h⟩

theorem reads (os : Os) {H : Type} (enc : TypeId × Value → H) : ∃ places, DataW.whole enc Tryz.prog ((laidWorld os).forCall (fun _ _ => 0) ⟨#[], #[.int .i64 0, .int .i64 0], []⟩).memory Tryz.f7.params.toList Rows.runTwiceSpec.vars false (#[.int .i64 0, .int .i64 0] : Array Value).toList 8 = some ([.lit (.int .i64 0), .lit (.int .i64 0)], [], places) :=
  ⟨[], by kernel_rfl⟩
theorem laid_met (os : Os) : laidMetH Tryz.prog Rows.runTwiceRow.laid ((laidWorld os).forCall (fun _ _ => 0) ⟨#[], #[.int .i64 0, .int .i64 0], []⟩).memory := laidMetW os _

set_option maxRecDepth 100000 in
theorem lifted (os : Os) (started : os.Started) (H : Type) (enc : TypeId × Value → H) (F : Stop.Interp) :
    ReturnsInHanded {} Tryz.checked os 7 .any ((OpenSpec.ofChange Rows.runTwiceSpec).preRow enc Tryz.prog Tryz.f7 Rows.runTwiceRow.domain false Rows.runTwiceRow.laid) (((OpenSpec.ofChange Rows.runTwiceSpec).at F).post enc Tryz.prog Tryz.f7 false true false false) := by
  obtain ⟨places, hx⟩ := reads os enc
  refine returnsInHanded_of_row (C := Tryz.checked) (s := OpenSpec.ofChange Rows.runTwiceSpec) own started (by kernel_rfl) Tryz.func7
    (witness_row_at (enc := enc) (C := Tryz.checked) false (laidWorld os) #[.int .i64 0, .int .i64 0] rfl (by kernel_rfl) (by kernel_rfl) (by kernel_rfl)
      (OpenSpec.preRow_of_cond 8 hx (by kernel_rfl) (fun k hk => by cases hk) (by kernel_rfl) (laid_met os))) ?_
  intro W base args ds gs before hval hW _ _ _ hL _ _
  exact contract H enc W base args ds gs before hval hW hL

theorem said : Rows.RunTwiceSaid :=
  OpenClaim.holds_of_cond 7 Tryz.f7 rfl rfl rfl rfl rfl rfl rfl ⟨rfl, rfl, rfl, rfl, rfl⟩ rfl rfl rfl rfl rfl (by kernel_rfl) Tryz.func7 (by kernel_rfl)
    (of_decide_eq_true (by kernel_rfl)) (by unfold Func.isWrapper; first | (rw [if_pos (by decide +kernel)]; kernel_rfl) | (rw [if_neg (by decide +kernel)]; exact ⟨rfl, rfl⟩))
    (fun os started H enc _ F => by rw [OpenClaim.pre_eq_preRow]; exact lifted os started H enc F)

theorem plain (f : FuncId) (fn : Func) (hf : Tryz.pinned.checked.prog.funcNamed "wanderwire/wirelaw3.RunTwice" = some f) (hfn : Tryz.pinned.checked.prog.funcs[f]? = some fn) :
    true = Tryz.pinned.checked.prog.looks [] ∧ ∀ (j : Nat) t, fn.params[j]? = some t → Tryz.pinned.checked.prog.wantsStandIn t = false := by
  obtain rfl : f = 7 := Option.some.inj ((show Tryz.prog.funcNamed "wanderwire/wirelaw3.RunTwice" = some 7 by kernel_rfl).symm.trans hf) |>.symm
  obtain rfl : fn = Tryz.f7 := (Option.some.inj (Tryz.func7.symm.trans hfn)).symm
  refine ⟨by kernel_rfl, fun j t ht => ?_⟩
  rw [Tryz.params7] at ht
  have ht' := Array.mem_of_getElem? ht
  have hall : (([3, 3] : List Nat).all fun t => !Tryz.prog.wantsStandIn t) = true := by kernel_rfl
  have hq := List.all_eq_true.1 hall t (by simpa using ht')
  have hq2 : Tryz.prog.wantsStandIn t = false := by simpa using hq
  exact hq2

theorem card : Rows.RunTwiceCardSaid :=
  Claim7.holds_tied_plain_at .later [] _ _ _ _ said (fun _ h => by cases h) (by kernel_rfl) (fun _ h => by cases h) runTwice_row_tie rfl ⟨rfl, rfl⟩ (by kernel_rfl) rfl plain (by kernel_rfl)
#print axioms card
end Go.Proofs.YtmfbaijbigodkaaGreatDoor.runTwice
