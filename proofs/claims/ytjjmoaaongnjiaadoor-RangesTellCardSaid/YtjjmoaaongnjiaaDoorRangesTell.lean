/- RangesTell: for every two lists of ranges and every number the law returns true: what is wrong, a number more, whether one is there, how many are, and both are as the reference says. Condition: errors.errorType holds its handle (the row lists it, the card ties it). -/
import Derived.Test.YtjjmoaaongnjiaaDoorWith
import Derived.Test.YtjjmoaaongnjiaaDoorRngAll
import Derived.Test.YtjjmoaaongnjiaaDoorLaid
import Derived.Test.YtjjmoaaongnjiaaDoorTold
import Derived.Deep.DeepCutAuto
import Derived.Deep.QuietTactic
import Derived.BigQuiet
import Derived.IntWalk
import Derived.Test.YtjjmoaaongnjiaaDoorCards
import Derived.Test.YtjjmoaaongnjiaaDoorTie
import Derived.Deep.DeepHandedRow
import Derived.LaidLaws
import Derived.LaidHandle
import Derived.Deep.DeepWitnessRowRef
import Derived.Test.YtjjmoaaongnjiaaDoorRows
import Derived.WalkKit
import Derived.ProofKit
import Derived.OpenShut
import Derived.ShutString
import Derived.ChangeOld
import Derived.Below
import Derived.Lib.SmallJoins
import Derived.Deep.Slices
import Derived.Deep.Matrix
import Derived.Deep.Strs
namespace Go.Proofs.YtjjmoaaongnjiaaDoor.rangesTell
open Go.ChangeShapes Go.WideShapes Go.ChangeAt Go.RowKit
open Go.ChangeMaps (open_string shut_string)
set_option linter.unusedVariables false

noncomputable abbrev laidWorld := YtjjmoaaongnjiaaDoor.laidWorld
theorem laidMetW (os : Os) (args : Array Value) : laidMetH Tryd.prog Rows.rangesTellRow.laid ((laidWorld os).forCall (fun _ _ => 0) ⟨#[], args, []⟩).memory := laidMet_et os args
theorem laidWalk {W : World} (h : laidMetH Tryd.prog Rows.rangesTellRow.laid W) : ETok W := laid_et h
def growRow (u : Nat → Value) : Nat → Nat → List Value
  | _, 0 => []
  | k, n + 1 => u k :: growRow u (k + 1) n
theorem growRow_congr {u v : Nat → Value} : ∀ (n k : Nat), (∀ i, k ≤ i → u i = v i) → growRow u k n = growRow v k n
  | 0, _, _ => rfl
  | n + 1, k, h => by
    rw [growRow, growRow, h k (Nat.le_refl k), growRow_congr n (k + 1) (fun i hi => h i (by omega))]
theorem growRow_any : ∀ (n k : Nat) (U : List Value), U.length = n → ∃ u : Nat → Value, U = growRow u k n
  | 0, k, U, h => ⟨fun _ => .nilIface, by rw [List.length_eq_zero_iff.1 h]; rfl⟩
  | n + 1, k, [], h => by simp at h
  | n + 1, k, x :: r, h => by
    obtain ⟨u, hu⟩ := growRow_any n (k + 1) r (by simpa using h)
    refine ⟨fun i => if i = k then x else u i, ?_⟩
    rw [growRow, if_pos rfl, hu]
    congr 1
    exact growRow_congr n (k + 1) (fun i hi => by rw [if_neg (by omega)])
set_option maxRecDepth 100000 in
theorem growTail {U : List Value} (h : U.length = 159) : ∃ u : Nat → Value, U = [u 25, u 26, u 27, u 28, u 29, u 30, u 31, u 32, u 33, u 34, u 35, u 36, u 37, u 38, u 39, u 40, u 41, u 42, u 43, u 44, u 45, u 46, u 47, u 48, u 49, u 50, u 51, u 52, u 53, u 54, u 55, u 56, u 57, u 58, u 59, u 60, u 61, u 62, u 63, u 64, u 65, u 66, u 67, u 68, u 69, u 70, u 71, u 72, u 73, u 74, u 75, u 76, u 77, u 78, u 79, u 80, u 81, u 82, u 83, u 84, u 85, u 86, u 87, u 88, u 89, u 90, u 91, u 92, u 93, u 94, u 95, u 96, u 97, u 98, u 99, u 100, u 101, u 102, u 103, u 104, u 105, u 106, u 107, u 108, u 109, u 110, u 111, u 112, u 113, u 114, u 115, u 116, u 117, u 118, u 119, u 120, u 121, u 122, u 123, u 124, u 125, u 126, u 127, u 128, u 129, u 130, u 131, u 132, u 133, u 134, u 135, u 136, u 137, u 138, u 139, u 140, u 141, u 142, u 143, u 144, u 145, u 146, u 147, u 148, u 149, u 150, u 151, u 152, u 153, u 154, u 155, u 156, u 157, u 158, u 159, u 160, u 161, u 162, u 163, u 164, u 165, u 166, u 167, u 168, u 169, u 170, u 171, u 172, u 173, u 174, u 175, u 176, u 177, u 178, u 179, u 180, u 181, u 182, u 183] := by
  obtain ⟨u, hu⟩ := growRow_any 159 25 U h
  exact ⟨u, hu.trans (by kernel_rfl)⟩
set_option maxRecDepth 100000 in
def C5 (w : World) (A : Option Addr) (n cap : Nat) (x : Int) (A2 : Option Addr) (n2 cap2 : Nat) (g : Int) (o : Bool) (E : Int) (a : Act) (wx : World) : Prop := Since w wx ∧
  ∃ (t3 t4 t5 t6 t11 t12 t13 t14 t15 t16 t17 t18 t19 t20 t21 t22 t23 t24 : Value) (U : List Value), U.length = 159 ∧ a = ⟨((.slice A n cap) :: (.int .i64 x) :: (.slice A2 n2 cap2) :: t3 :: t4 :: t5 :: t6 :: (.int .i64 g) :: (.bool true) :: (.bool o) :: (.int .i64 E) :: t11 :: t12 :: t13 :: t14 :: t15 :: t16 :: t17 :: t18 :: t19 :: t20 :: t21 :: t22 :: t23 :: t24 :: U).toArray, []⟩
set_option maxRecDepth 100000 in
def C9 (w : World) (A : Option Addr) (n cap : Nat) (x : Int) (A2 : Option Addr) (n2 cap2 : Nat) (g : Int) (o : Bool) (J : List Rng) (b : Bool) (E : Int) (a : Act) (wx : World) : Prop := ∃ (B : Option Addr) (c : Nat), (Since w wx ∧ Lst wx 31 2 (.slice B J.length c) (J.map rngRow)) ∧
  ∃ (t3 t4 t5 t6 t13 t14 t15 t16 t17 t18 t19 t20 t21 t22 t23 t24 : Value) (U : List Value), U.length = 159 ∧ a = ⟨((.slice A n cap) :: (.int .i64 x) :: (.slice A2 n2 cap2) :: t3 :: t4 :: t5 :: t6 :: (.int .i64 g) :: (.bool true) :: (.bool o) :: (.int .i64 E) :: (.slice B J.length c) :: (.bool b) :: t13 :: t14 :: t15 :: t16 :: t17 :: t18 :: t19 :: t20 :: t21 :: t22 :: t23 :: t24 :: U).toArray, []⟩
set_option maxRecDepth 100000 in
def C19 (w : World) (A : Option Addr) (n cap : Nat) (x : Int) (A2 : Option Addr) (n2 cap2 : Nat) (g E : Int) (a : Act) (wx : World) : Prop := Since w wx ∧
  ∃ (t3 t4 t5 t6 t9 t11 t12 t13 t14 t15 t17 t18 t19 t20 t21 t22 t23 t24 : Value) (U : List Value), U.length = 159 ∧ a = ⟨((.slice A n cap) :: (.int .i64 x) :: (.slice A2 n2 cap2) :: t3 :: t4 :: t5 :: t6 :: (.int .i64 g) :: (.bool true) :: t9 :: (.int .i64 E) :: t11 :: t12 :: t13 :: t14 :: t15 :: (.bool true) :: t17 :: t18 :: t19 :: t20 :: t21 :: t22 :: t23 :: t24 :: U).toArray, []⟩
set_option maxRecDepth 100000 in
def C21 (w : World) (A : Option Addr) (n cap : Nat) (x : Int) (A2 : Option Addr) (n2 cap2 : Nat) (g E : Int) (b : Bool) (a : Act) (wx : World) : Prop := Since w wx ∧
  ∃ (t3 t4 t5 t6 t9 t11 t12 t13 t14 t15 t18 t19 t20 t21 t22 t23 t24 : Value) (U : List Value), U.length = 159 ∧ a = ⟨((.slice A n cap) :: (.int .i64 x) :: (.slice A2 n2 cap2) :: t3 :: t4 :: t5 :: t6 :: (.int .i64 g) :: (.bool true) :: t9 :: (.int .i64 E) :: t11 :: t12 :: t13 :: t14 :: t15 :: (.bool true) :: (.bool b) :: t18 :: t19 :: t20 :: t21 :: t22 :: t23 :: t24 :: U).toArray, []⟩
set_option maxRecDepth 100000 in
/-- a round of the count -/
def CL (w : World) (A : Option Addr) (n cap : Nat) (x : Int) (A2 : Option Addr) (n2 cap2 : Nat) (g : Int) (L : List Rng) (a : Act) (wx : World) : Prop := ∃ i : Nat, (i ≤ n ∧ (g ≠ 0 → i = 0) ∧ Since w wx) ∧
  ∃ (t3 t4 t5 t6 t9 t10 t11 t12 t13 t14 t15 t17 t21 t22 t23 t24 : Value) (U : List Value), U.length = 159 ∧ a = ⟨((.slice A n cap) :: (.int .i64 x) :: (.slice A2 n2 cap2) :: t3 :: t4 :: t5 :: t6 :: (.int .i64 g) :: (.bool true) :: t9 :: t10 :: t11 :: t12 :: t13 :: t14 :: t15 :: (.bool true) :: t17 :: (.bool true) :: (.int .i64 (cntL (L.take i))) :: (.int .i64 i) :: t21 :: t22 :: t23 :: t24 :: U).toArray, []⟩
def CM (n : Nat) (a : Act) (wx : World) : Nat := n - (intOf (a.tmps.toList.getD 20 undef)).toNat
set_option maxRecDepth 100000 in
def C31 (w : World) (A : Option Addr) (n cap : Nat) (x : Int) (A2 : Option Addr) (n2 cap2 : Nat) (g : Int) (a : Act) (wx : World) : Prop := Since w wx ∧
  ∃ (t3 t4 t5 t6 t9 t10 t11 t12 t13 t14 t15 t17 t19 t20 t21 t23 t24 : Value) (U : List Value), U.length = 159 ∧ a = ⟨((.slice A n cap) :: (.int .i64 x) :: (.slice A2 n2 cap2) :: t3 :: t4 :: t5 :: t6 :: (.int .i64 g) :: (.bool true) :: t9 :: t10 :: t11 :: t12 :: t13 :: t14 :: t15 :: (.bool true) :: t17 :: (.bool true) :: t19 :: t20 :: t21 :: (.bool true) :: t23 :: t24 :: U).toArray, []⟩
set_option maxRecDepth 100000 in
def C34 (w : World) (A : Option Addr) (n cap : Nat) (x : Int) (A2 : Option Addr) (n2 cap2 : Nat) (J : List Rng) (E : Int) (a : Act) (wx : World) : Prop := ∃ (B : Option Addr) (c : Nat), (Since w wx ∧ Rd wx 2 (.slice B J.length c) (J.map rngRow)) ∧
  ∃ (t3 t4 t5 t6 t9 t10 t12 t13 t14 t15 t17 t19 t20 t21 t23 t24 : Value) (U : List Value), U.length = 159 ∧ a = ⟨((.slice A n cap) :: (.int .i64 x) :: (.slice A2 n2 cap2) :: t3 :: t4 :: t5 :: t6 :: (.int .i64 E) :: (.bool true) :: t9 :: t10 :: (.slice B J.length c) :: t12 :: t13 :: t14 :: t15 :: (.bool true) :: t17 :: (.bool true) :: t19 :: t20 :: t21 :: (.bool true) :: t23 :: t24 :: U).toArray, []⟩
set_option maxRecDepth 100000 in
/-- a round of the union -/
def BL (w : World) (A : Option Addr) (n cap : Nat) (x : Int) (A2 : Option Addr) (n2 cap2 : Nat) (L M : List Rng) (a : Act) (wx : World) : Prop := ∃ (i : Nat) (B : Option Addr) (c : Nat), (i ≤ n2 ∧ Since w wx ∧ Rd wx 2 (.slice B (withAll L M i).length c) ((withAll L M i).map rngRow)) ∧
  ∃ (t3 t4 t5 t6 t9 t10 t12 t13 t14 t15 t17 t19 t20 t21 t24 : Value) (U : List Value), U.length = 159 ∧ a = ⟨((.slice A n cap) :: (.int .i64 x) :: (.slice A2 n2 cap2) :: t3 :: t4 :: t5 :: t6 :: (.int .i64 0) :: (.bool true) :: t9 :: t10 :: (.slice B (withAll L M i).length c) :: t12 :: t13 :: t14 :: t15 :: (.bool true) :: t17 :: (.bool true) :: t19 :: t20 :: t21 :: (.bool true) :: (.int .i64 i) :: t24 :: U).toArray, []⟩
def BM (n2 : Nat) (a : Act) (wx : World) : Nat := n2 - (intOf (a.tmps.toList.getD 23 undef)).toNat
theorem mayN {x : Int} (h : mayB x = true) : okN ⟨x, x⟩ := ⟨mayB_iff.1 h, mayB_iff.1 h⟩

set_option maxRecDepth 100000 in
set_option maxHeartbeats 40000000 in
theorem walk (v0 : Value) (L : List Rng) (x : Int) (v2 : Value) (M : List Rng) (w : World) (w0 : RngsIn w v0 L) (w1 : (Lit.int .i64 x).wf = true) (w2 : RngsIn w v2 M) (hL : ETok w) :
    Calls Tryd.prog 3 #[v0, .int .i64 x, v2] w fun e w' => e = .returned (.bool true) ∧ Below w.heap.size w w' := by
  have HET := Lib.hid hL
  obtain ⟨A, cap, rfl, hA1, hA2, _⟩ := w0.2.shape
  obtain ⟨A2, cap2, rfl, hB1, hB2, _⟩ := w2.2.shape
  obtain ⟨n, hn⟩ : ∃ n, L.length = n := ⟨_, rfl⟩
  obtain ⟨n2, hn2⟩ : ∃ n, M.length = n := ⟨_, rfl⟩
  obtain ⟨g, hg⟩ : ∃ g, rngE L = g := ⟨_, rfl⟩
  obtain ⟨o, ho⟩ : ∃ o, mayB x = o := ⟨_, rfl⟩
  rw [List.length_map, hn] at hA1
  rw [List.length_map, hn2] at hB1
  unfold maxLen at hA2 hB2
  have HR := Lib.hid w0.2
  have HR2 := Lib.hid w2.2
  have HB := Lib.hid w0.1
  have HB2 := Lib.hid w2.1
  rw [List.length_map, hn] at HR ⊢
  rw [List.length_map, hn2] at HR2 ⊢
  have HN := Lib.hid hn
  have HN2 := Lib.hid hn2
  have HG := Lib.hid hg
  have HO := Lib.hid ho
  have hnm : n ≤ 9223372036854775807 := by omega
  have hnm2 : n2 ≤ 9223372036854775807 := by omega
  clear w0 w2 hL hn hn2 w1 hA1 hA2 hB1 hB2 hg ho
  go_enter Tryd.func3, Tryd.ntmps3
  go_wp2_with fail
  refine (rcheckR A n cap L _ HN.out HB.out HR.out).mono ?_
  rintro e w1 ⟨rfl, hb1⟩
  rw [HG.out]
  have hs1 : Since w w1 := hb1
  clear hb1
  go_wp2_with fail
  refine (rcheck A n cap L _ HN.out HB.out (HR.out.later hs1)).mono ?_
  rintro e w2 ⟨rfl, hb2⟩
  rw [HG.out]
  have hs2 := hs1.later hb2
  clear hb2 hs1
  go_wp2_with fail
  refine (same_yes _ _ (HET.out.later hs2)).mono ?_
  rintro e w3 ⟨rfl, hb3⟩
  have hs3 := hs2.later hb3
  clear hb3 hs2
  go_wp2_with fail
  refine (rmay_any x _).mono ?_
  rintro e w4 ⟨rfl, rfl⟩
  rw [HO.out]
  repeat ((fail_if_success (with_reducible refine stop_at 5 ?_)); first | fail | go_values | go_skip | go_guarded | go_step | go_upon | go_back | go_simp)
  refine wp_cut (C5 w A n cap x A2 n2 cap2 g o (if g = 0 then (if o = true then 0 else 1) else g)) ?_ ?_
  rotate_left
  next =>
    as_aux_lemma =>
      intro _ _ _ _
      by_cases h0 : g = 0
      · subst h0
        cases o with
        | true =>
          go_wp2_with fail
          refine Met.intro ?_
          go_step
          exact ⟨hs3, _, _, _, _, _, _, _, _, _, _, _, _, _, _, _, _, _, _, _, (by kernel_rfl), rfl⟩
        | false =>
          go_wp2_with fail
          refine Met.intro ?_
          go_step
          exact ⟨hs3, _, _, _, _, _, _, _, _, _, _, _, _, _, _, _, _, _, _, _, (by kernel_rfl), rfl⟩
      · have h0' : (g == 0) = false := by simpa using h0
        have HI : Hid ((if g = 0 then (if o = true then 0 else 1) else g) = g) := Lib.hid (if_neg h0)
        clear h0
        go_wp2_with fail
        refine Met.intro ?_
        go_step
        unfold C5
        rw [HI.out]
        exact ⟨hs3, _, _, _, _, _, _, _, _, _, _, _, _, _, _, _, _, _, _, _, (by kernel_rfl), rfl⟩
  intro a' w5 hinv
  obtain ⟨hs5, t3, t4, t5, t6, t11, t12, t13, t14, t15, t16, t17, t18, t19, t20, t21, t22, t23, t24, U, hU, rfl⟩ := hinv
  obtain ⟨u, rfl⟩ := growTail hU; clear hU
  obtain ⟨E1, hE1⟩ : ∃ E, (if g = 0 then (if o = true then 0 else 1) else g) = E := ⟨_, rfl⟩
  rw [hE1]
  have HE1 := Lib.hid hE1
  clear hE1 hs3
  repeat ((fail_if_success (with_reducible refine stop_at 9 ?_)); first | fail | go_values | go_skip | go_guarded | go_step | go_upon | go_back | go_simp)
  refine wp_cut (C9 w A n cap x A2 n2 cap2 g o (addL L x) (addB L x) (addE L x)) ?_ ?_
  rotate_left
  next =>
    as_aux_lemma =>
      intro _ _ _ _
      by_cases h0 : E1 = 0
      · subst h0
        have hgo : g = 0 ∧ o = true := by
          have := HE1.out
          by_cases hg : g = 0
          · rw [if_pos hg] at this
            cases o with
            | true => exact ⟨hg, rfl⟩
            | false => cases this
          · rw [if_neg hg] at this; exact absurd this hg
        obtain ⟨rfl, rfl⟩ := hgo
        have hl12 : n ≤ 12 := by rw [← HN.out]; exact rngE_len HG.out
        go_wp2_with fail
        refine (rwith A n cap L ⟨x, x⟩ _ HN.out (rngE_ok HG.out) (mayN HO.out) (by omega) (HR.out.later hs5)).mono ?_
        rintro e w6 ⟨B, c, rfl, hl6, hb6, _⟩
        have hs6 := hs5.later hb6
        have HL6 := Lib.hid hl6
        have hlen := withL_len L ⟨x, x⟩
        rw [HN.out] at hlen
        clear hb6 hl6
        go_wp2_with fail
        refine (rinR A n cap L x _ HN.out (HR.out.later hs6)).mono ?_
        rintro e w7 ⟨rfl, hb7⟩
        have hs7 := hs6.later hb7
        have HL7 := Lib.hid (HL6.out.later hb7)
        clear hb7
        by_cases h12 : 12 < (withL L ⟨x, x⟩).length
        · have e1 : addE L x = 4 := by unfold addE; rw [if_pos HG.out, HO.out, if_pos rfl, if_pos h12]
          have e2 : addL L x = [] := by unfold addL; rw [e1]; rfl
          have e3 : addB L x = false := by unfold addB; rw [e1]; rfl
          have HEE := Lib.hid (And.intro e1 (And.intro e2 e3))
          obtain ⟨m, hm⟩ : ∃ m, (withL L ⟨x, x⟩).length = m := ⟨_, rfl⟩
          rw [hm] at h12 HL6 HL7 hlen ⊢
          have h12' : (12 : Int) < (m : Int) := by omega
          clear e1 e2 e3 hm
          go_wp2_with fail
          refine Met.intro ?_
          go_step
          unfold C9
          rw [HEE.out.1, HEE.out.2.1, HEE.out.2.2]
          exact ⟨none, 0, ⟨hs7, Lst.nil _ _ _⟩, _, _, _, _, _, _, _, _, _, _, _, _, _, _, _, _, _, (by kernel_rfl), rfl⟩
        · have e1 : addE L x = 0 := by unfold addE; rw [if_pos HG.out, HO.out, if_pos rfl, if_neg h12]
          have e2 : addL L x = withL L ⟨x, x⟩ := by unfold addL; rw [if_pos e1]
          have e3 : addB L x = !inB L x := by unfold addB; rw [e1]; simp
          have HEE := Lib.hid (And.intro e1 (And.intro e2 e3))
          obtain ⟨m, hm⟩ : ∃ m, (withL L ⟨x, x⟩).length = m := ⟨_, rfl⟩
          have HM := Lib.hid hm
          rw [hm] at h12 HL6 HL7 hlen ⊢
          have h12' : decide ((12 : Int) < (m : Int)) = false := by simp; omega
          clear e1 e2 e3 h12 hm
          generalize inB L x = ib at *
          go_wp2_with fail
          refine Met.intro ?_
          go_step
          unfold C9
          rw [HEE.out.1, HEE.out.2.1, HEE.out.2.2, HM.out]
          exact ⟨B, c, ⟨hs7, HL7.out⟩, _, _, _, _, _, _, _, _, _, _, _, _, _, _, _, _, _, (by kernel_rfl), rfl⟩
      · have h0' : (E1 == 0) = false := by simpa using h0
        have e1 : addE L x = E1 := by
          rw [← HE1.out]
          unfold addE
          rw [HG.out, HO.out]
          by_cases hg : g = 0
          · rw [if_pos hg, if_pos hg]
            cases o with
            | true => exact absurd (HE1.out.symm.trans (by rw [if_pos hg]; rfl)) h0
            | false => rfl
          · rw [if_neg hg, if_neg hg]
        have e2 : addL L x = [] := by unfold addL; rw [e1, if_neg h0]
        have e3 : addB L x = false := by unfold addB; rw [e1, decide_eq_false h0]; rfl
        have HEE := Lib.hid (And.intro e1 (And.intro e2 e3))
        clear e1 e2 e3 h0
        go_wp2_with fail
        refine Met.intro ?_
        go_step
        unfold C9
        rw [HEE.out.1, HEE.out.2.1, HEE.out.2.2]
        exact ⟨none, 0, ⟨hs5, Lst.nil _ _ _⟩, _, _, _, _, _, _, _, _, _, _, _, _, _, _, _, _, _, (by kernel_rfl), rfl⟩
  intro a' w6 hinv
  obtain ⟨B, c, ⟨hs6, hl6⟩, t3, t4, t5, t6, t13, t14, t15, t16, t17, t18, t19, t20, t21, t22, t23, t24, U, hU, rfl⟩ := hinv
  obtain ⟨u, rfl⟩ := growTail hU; clear hU
  have HL6 := Lib.hid hl6
  have HAD := Lib.hid (fun (W : World) (hs : Since w W) => radd_any A n cap L x W HN.out HB.out (HR.out.later hs))
  obtain ⟨J, hJ⟩ : ∃ J, addL L x = J := ⟨_, rfl⟩
  rw [hJ] at HL6 HAD ⊢
  obtain ⟨m, hm⟩ : ∃ m, J.length = m := ⟨_, rfl⟩
  rw [hm] at HL6 HAD ⊢
  have HM := Lib.hid hm
  generalize addB L x = bb at *
  generalize addE L x = E2 at *
  clear hl6 hJ hm HE1
  go_wp2_with fail
  refine (HAD.out _ hs6).mono ?_
  rintro e w7 ⟨B7, c7, rfl, hb7, hl7, _⟩
  have hs7 := hs6.later hb7
  have HL7 := Lib.hid hl7
  have HL6 := Lib.hid (HL6.out.later hb7)
  clear hb7 hl7
  go_wp2_with fail
  refine (same_yes _ _ (HET.out.later hs7)).mono ?_
  rintro e w8 ⟨rfl, hb8⟩
  have hs8 := hs7.later hb8
  go_wp2_with fail
  refine (rngeqR B7 B c7 c m J _ HM.out ((Rd.of_lst HL7.out).later hb8) ((Rd.of_lst HL6.out).later hb8)).mono ?_
  rintro e w9 ⟨rfl, hb9⟩
  have hs9 := hs8.later hb9
  clear hb8 hb9 HL6 HL7 HM HAD hs7 hs8
  repeat ((fail_if_success (with_reducible refine stop_at 19 ?_)); first | fail | go_values | go_skip | go_guarded | go_step | go_upon | go_back | go_simp)
  refine wp_cut (C19 w A n cap x A2 n2 cap2 g (if o = true then g else 1)) ?_ ?_
  rotate_left
  next =>
    as_aux_lemma =>
      intro _ _ _ _
      cases o with
      | true =>
        go_wp2_with fail
        refine Met.intro ?_
        go_step
        exact ⟨hs9, _, _, _, _, _, _, _, _, _, _, _, _, _, _, _, _, _, _, _, (by kernel_rfl), rfl⟩
      | false =>
        go_wp2_with fail
        refine Met.intro ?_
        go_step
        exact ⟨hs9, _, _, _, _, _, _, _, _, _, _, _, _, _, _, _, _, _, _, _, (by kernel_rfl), rfl⟩
  intro a' w10 hinv
  obtain ⟨hs10, t3, t4, t5, t6, t9, t11, t12, t13, t14, t15, t17, t18, t19, t20, t21, t22, t23, t24, U, hU, rfl⟩ := hinv
  obtain ⟨u, rfl⟩ := growTail hU; clear hU
  have HHA := Lib.hid (fun (W : World) (hs : Since w W) => rhas A n cap L x W HN.out HB.out (HR.out.later hs))
  have HHE : Hid ((if o = true then g else 1) = hasE L x) := Lib.hid (by unfold hasE; rw [HG.out, HO.out])
  rw [← HHE.out] at HHA
  generalize (if o = true then g else 1) = E3 at *
  clear HHE hs9
  go_upto_region 21 with (fail)
  refine wp_cut (C21 w A n cap x A2 n2 cap2 g E3 (decide (E3 = 0) && inB L x)) ?_ ?_
  rotate_left
  next =>
    as_aux_lemma =>
      intro _ _ _ _
      by_cases h0 : E3 = 0
      · subst h0
        go_wp2_with fail
        refine (rinR A n cap L x _ HN.out (HR.out.later hs10)).mono ?_
        rintro e w11 ⟨rfl, hb11⟩
        have hs11 := hs10.later hb11
        generalize inB L x = ib at *
        clear hb11
        go_wp2_with fail
        refine Met.intro ?_
        go_step
        exact ⟨hs11, _, _, _, _, _, _, _, _, _, _, _, _, _, _, _, _, _, _, (by kernel_rfl), rfl⟩
      · have h0' : (E3 == 0) = false := by simpa using h0
        have HI : Hid ((decide (E3 = 0) && inB L x) = false) := Lib.hid (by rw [decide_eq_false h0]; rfl)
        clear h0
        go_wp2_with fail
        refine Met.intro ?_
        go_step
        unfold C21
        rw [HI.out]
        exact ⟨hs10, _, _, _, _, _, _, _, _, _, _, _, _, _, _, _, _, _, _, (by kernel_rfl), rfl⟩
  intro a' w11 hinv
  obtain ⟨hs11, t3, t4, t5, t6, t9, t11, t12, t13, t14, t15, t18, t19, t20, t21, t22, t23, t24, U, hU, rfl⟩ := hinv
  obtain ⟨u, rfl⟩ := growTail hU; clear hU
  generalize (decide (E3 = 0) && inB L x) = hb at *
  go_wp2_with fail
  refine (HHA.out _ hs11).mono ?_
  rintro e w12 ⟨rfl, hb12⟩
  have hs12 := hs11.later hb12
  clear hb12 HHA hs10 hs11
  go_wp2_with fail
  refine (same_yes _ _ (HET.out.later hs12)).mono ?_
  rintro e w13 ⟨rfl, hb13⟩
  have hs13 := hs12.later hb13
  clear hb13 hs12
  go_wp2_with fail
  have HSU := Lib.hid (fun i (hi : i < n) => cntL_succ (L := L) (i := i) (by rw [HN.out]; exact hi))
  have HCB : Hid (g = 0 → ∀ i, i ≤ n → -(1073741823 * (i : Int)) ≤ cntL (L.take i) ∧ cntL (L.take i) ≤ 1073741824 * (i : Int)) := Lib.hid (fun h i hi => cntL_le (rngE_ok (HG.out.trans h)) i (by rw [HN.out]; exact hi))
  have HOK : Hid (g = 0 → ∀ i, i < n → okN (rat L i)) := Lib.hid (fun h i hi => by rw [rat_get (by rw [HN.out]; exact hi)]; exact rngE_ok (HG.out.trans h) _ (List.getElem_mem _))
  refine wp_loop (CL w A n cap x A2 n2 cap2 g L) (CM n) ?_ ?_
  next => exact ⟨0, ⟨Nat.zero_le _, fun _ => rfl, hs13⟩, _, _, _, _, _, _, _, _, _, _, _, _, _, _, _, _, _, (by kernel_rfl), rfl⟩
  next =>
    intro a' wr hinv
    obtain ⟨i, ⟨hi, hi0, hs⟩, t3, t4, t5, t6, t9, t10, t11, t12, t13, t14, t15, t17, t21, t22, t23, t24, U, hU, rfl⟩ := hinv
    obtain ⟨u, rfl⟩ := growTail hU; clear hU
    by_cases hgo : i < n ∧ g = 0
    case pos =>
      as_aux_lemma =>
        obtain ⟨hlt, rfl⟩ := hgo
        have hlt' : (i : Int) < (n : Int) := by omega
        have hl12 : n ≤ 12 := by rw [← HN.out]; exact rngE_len HG.out
        obtain ⟨b, off, rfl, hbl, hc⟩ := HR.out.rng (i := i) (by rw [HN.out]; exact hlt)
        obtain ⟨c0, c1⟩ := hc wr hs i (by rw [HN.out]; exact hlt)
        have lb : b < wr.heap.size := Nat.lt_of_lt_of_le hbl hs.le
        have hok := HOK.out rfl i hlt
        have hcb := HCB.out rfl i hi
        have HST := Lib.hid (HSU.out i hlt)
        generalize rat L i = r at *
        obtain ⟨lo, hi2⟩ := r
        obtain ⟨⟨p1, p2⟩, p3, p4⟩ := hok
        simp only at c0 c1 p1 p2 p3 p4 HST
        generalize cntL (L.take i) = k at *
        have hw1 : IntKind.i64.wrap (k + hi2) = k + hi2 := IntWalk.i64_in _ (by omega)
        have hw2 : IntKind.i64.wrap (k + hi2 - lo) = k + hi2 - lo := IntWalk.i64_in _ (by omega)
        have hw3 : IntKind.i64.wrap (k + hi2 - lo + 1) = k + hi2 - lo + 1 := IntWalk.i64_in _ (by omega)
        clear hc HSU HCB HOK hi0
        go_wp2_with fail
        go_quiet (fail)
        go_wp2_with fail
        refine ⟨⟨i + 1, ⟨by omega, fun h => absurd rfl h, (by refine Since.out ?_; repeat (first | with_reducible assumption | with_reducible exact Since.refl _ | with_reducible refine Since.later ?_ (by with_reducible assumption) | with_reducible refine Since.only ?_ (by with_reducible assumption) (by first | assumption | omega | (simp; done) | (simp; omega)) | with_reducible refine Since.alloc ?_ _ | with_reducible refine Since.drewN ?_ _ | with_reducible refine Since.drew ?_ | with_reducible refine Since.set ?_ (by first | assumption | omega | (simp; done) | (simp; omega)) _))⟩, ?_⟩, ?_⟩
        · rw [HST.out, show k + (hi2 - lo + 1) = k + hi2 - lo + 1 from by omega]
          exact ⟨_, _, _, _, _, _, _, _, _, _, _, _, _, _, _, _, _, (by kernel_rfl), rfl⟩
        · simp [CM, intOf] <;> omega
    case neg =>
      have HV : Hid (cntL (L.take i) = cntV L) := Lib.hid (by
        unfold cntV
        rw [HG.out]
        by_cases h : g = 0
        · rw [if_pos h, List.take_of_length_le (by rw [HN.out]; omega)]
        · rw [if_neg h, hi0 h]; rfl)
      have htest : decide (i < n) = false ∨ (i < n ∧ (g == 0) = false) := by
        by_cases h : i < n
        · exact Or.inr ⟨h, by rw [beq_eq_false_iff_ne]; exact fun e => hgo ⟨h, e⟩⟩
        · exact Or.inl (by simp; omega)
      rw [HV.out]
      have HCV := Lib.hid (fun (W : World) (hs : Since w W) => rcount_any A n cap L W HN.out HB.out (HR.out.later hs))
      rw [HG.out] at HCV
      generalize cntV L = cv at *
      clear HSU HCB HOK HV hgo hi0
      rcases htest with ht | ⟨ht, ht2⟩
      all_goals
        go_wp2_with fail
        refine (HCV.out _ hs).mono ?_
        rintro e w14 ⟨rfl, hb14⟩
        have hs14 := hs.later hb14
        clear hb14 HCV ht
        try clear ht2
        go_wp2_with fail
        refine (same_yes _ _ (HET.out.later hs14)).mono ?_
        rintro e w15 ⟨rfl, hb15⟩
        have hs15 := hs14.later hb15
        clear hb15 hs14
        repeat ((fail_if_success (with_reducible refine stop_at 31 ?_)); first | fail | go_values | go_skip | go_guarded | go_step | go_upon | go_back | go_simp)
        refine wp_cut (C31 w A n cap x A2 n2 cap2 (if g = 0 then rngE M else g)) ?_ ?_
        rotate_left
        next =>
          as_aux_lemma =>
            intro _ _ _ _
            by_cases h0 : g = 0
            · subst h0
              go_wp2_with fail
              refine (rcheckR A2 n2 cap2 M _ HN2.out HB2.out (HR2.out.later hs15)).mono ?_
              rintro e w16 ⟨rfl, hb16⟩
              go_wp2_with fail
              refine Met.intro ?_
              go_step
              exact ⟨hs15.later hb16, _, _, _, _, _, _, _, _, _, _, _, _, _, _, _, _, _, _, (by kernel_rfl), rfl⟩
            · have h0' : (g == 0) = false := by simpa using h0
              have HI : Hid ((if g = 0 then rngE M else g) = g) := Lib.hid (if_neg h0)
              clear h0
              go_wp2_with fail
              refine Met.intro ?_
              go_step
              unfold C31
              rw [HI.out]
              exact ⟨hs15, _, _, _, _, _, _, _, _, _, _, _, _, _, _, _, _, _, _, (by kernel_rfl), rfl⟩
        intro a' w16 hinv
        obtain ⟨hs16, t3, t4, t5, t6, t9, t10, t11, t12, t13, t14, t15, t17, t19, t20, t21, t23, t24, U, hU, rfl⟩ := hinv
        obtain ⟨u, rfl⟩ := growTail hU; clear hU
        obtain ⟨E4, hE4⟩ : ∃ E, (if g = 0 then rngE M else g) = E := ⟨_, rfl⟩
        rw [hE4]
        have HE4 := Lib.hid hE4
        clear hE4 hs15
        repeat ((fail_if_success (with_reducible refine stop_at 34 ?_)); first | fail | go_values | go_skip | go_guarded | go_step | go_upon | go_back | go_simp)
        refine wp_cut (C34 w A n cap x A2 n2 cap2 (bothL L M) (bothE L M)) ?_ ?_
        rotate_left
        next =>
          as_aux_lemma =>
            intro _ _ _ _
            by_cases h0 : E4 = 0
            · subst h0
              have hgg : g = 0 ∧ rngE M = 0 := by
                have := HE4.out
                by_cases hg : g = 0
                · rw [if_pos hg] at this; exact ⟨hg, this⟩
                · rw [if_neg hg] at this; exact absurd this hg
              obtain ⟨rfl, hgm⟩ := hgg
              have hl12 : n ≤ 12 := by rw [← HN.out]; exact rngE_len HG.out
              have hl12' : n2 ≤ 12 := by rw [← HN2.out]; exact rngE_len hgm
              have HBO := Lib.hid (fun i (hi : i ≤ n2) => withAll_bound (rngE_ok HG.out) (rngE_ok hgm) i (by rw [HN2.out]; exact hi))
              have HBL := Lib.hid (fun i (hi : i ≤ n2) => withAll_len L M i (by rw [HN2.out]; exact hi))
              have HSU := Lib.hid (fun i (hi : i < n2) => withAll_succ (L := L) (M := M) (i := i) (by rw [HN2.out]; exact hi))
              have HMO := Lib.hid (fun i (hi : i < n2) => show okN (rat M i) by rw [rat_get (by rw [HN2.out]; exact hi)]; exact rngE_ok hgm _ (List.getElem_mem _))
              have HGM := Lib.hid hgm
              clear hgm
              go_wp2_with fail
              refine wp_loop (BL w A n cap x A2 n2 cap2 L M) (BM n2) ?_ ?_
              next =>
                refine ⟨0, A, cap, ⟨Nat.zero_le _, hs16, ?_⟩, ?_⟩
                · show Rd w16 2 (.slice A L.length cap) (L.map rngRow)
                  rw [HN.out]; exact HR.out.later hs16
                · rw [show (withAll L M 0).length = n from HN.out]
                  exact ⟨_, _, _, _, _, _, _, _, _, _, _, _, _, _, _, _, (by kernel_rfl), rfl⟩
              next =>
                intro a' wr' hinv
                obtain ⟨i', B', c', ⟨hi', hs', hr'⟩, t3, t4, t5, t6, t9, t10, t12, t13, t14, t15, t17, t19, t20, t21, t24, U, hU, rfl⟩ := hinv
                obtain ⟨u, rfl⟩ := growTail hU; clear hU
                have HRI := Lib.hid hr'
                have hbl := HBL.out i' hi'
                rw [HN.out] at hbl
                obtain ⟨m, hm⟩ : ∃ m, (withAll L M i').length = m := ⟨_, rfl⟩
                rw [hm] at hbl HRI ⊢
                have HM := Lib.hid hm
                clear hm hr'
                by_cases hlt : i' < n2
                case pos =>
                  as_aux_lemma =>
                    have hlt' : (i' : Int) < (n2 : Int) := by omega
                    obtain ⟨b, off, rfl, hbl2, hc⟩ := HR2.out.rng (i := i') (by rw [HN2.out]; exact hlt)
                    obtain ⟨c0, c1⟩ := hc wr' hs' i' (by rw [HN2.out]; exact hlt)
                    have lb : b < wr'.heap.size := Nat.lt_of_lt_of_le hbl2 hs'.le
                    have hok := HMO.out i' hlt
                    have HST := Lib.hid (HSU.out i' hlt)
                    have HBI := Lib.hid (HBO.out i' hi')
                    generalize rat M i' = r at *
                    obtain ⟨lo, hi2⟩ := r
                    simp only at c0 c1
                    clear hc HSU HBL HBO HMO
                    go_wp2_with fail
                    refine (rwith B' m c' (withAll L M i') ⟨lo, hi2⟩ _ HM.out HBI.out hok (by omega) HRI.out).mono ?_
                    rintro e w17 ⟨B17, c17, rfl, hl17, hb17, _⟩
                    have HL17 := Lib.hid hl17
                    have hs17 := hs'.later hb17
                    clear hl17 hb17
                    go_wp2_with fail
                    refine ⟨⟨i' + 1, B17, c17, ⟨by omega, hs17, ?_⟩, ?_⟩, ?_⟩
                    · rw [HST.out]; exact Rd.of_lst HL17.out
                    · rw [HST.out]; exact ⟨_, _, _, _, _, _, _, _, _, _, _, _, _, _, _, _, (by kernel_rfl), rfl⟩
                    · simp [BM, intOf] <;> omega
                case neg =>
                  obtain rfl : i' = n2 := by omega
                  have hf : decide ((i' : Int) < (i' : Int)) = false := by simp
                  have HW : Hid (withAll L M M.length = withAll L M i') := Lib.hid (by rw [HN2.out])
                  by_cases h12 : 12 < m
                  · have e1 : bothE L M = 4 := by unfold bothE; rw [if_pos HG.out, if_pos HGM.out, HW.out, HM.out, if_pos h12]
                    have e2 : bothL L M = [] := by unfold bothL; rw [e1]; rfl
                    have HEE := Lib.hid (And.intro e1 e2)
                    have h12' : (12 : Int) < (m : Int) := by omega
                    clear e1 e2 h12
                    go_wp2_with fail
                    refine Met.intro ?_
                    go_step
                    unfold C34
                    rw [HEE.out.1, HEE.out.2]
                    exact ⟨none, 0, ⟨hs', Rd.nil _ _⟩, _, _, _, _, _, _, _, _, _, _, _, _, _, _, _, _, _, (by kernel_rfl), rfl⟩
                  · have e1 : bothE L M = 0 := by unfold bothE; rw [if_pos HG.out, if_pos HGM.out, HW.out, HM.out, if_neg h12]
                    have e2 : bothL L M = withAll L M i' := by unfold bothL; rw [if_pos e1, HW.out]
                    have HEE := Lib.hid (And.intro e1 e2)
                    have h12' : decide ((12 : Int) < (m : Int)) = false := by simp; omega
                    clear e1 e2 h12
                    go_wp2_with fail
                    refine Met.intro ?_
                    go_step
                    unfold C34
                    rw [HEE.out.1, HEE.out.2, HM.out]
                    exact ⟨B', c', ⟨hs', HRI.out⟩, _, _, _, _, _, _, _, _, _, _, _, _, _, _, _, _, _, (by kernel_rfl), rfl⟩
            · have h0' : (E4 == 0) = false := by simpa using h0
              have e1 : bothE L M = E4 := by
                rw [← HE4.out]
                unfold bothE
                rw [HG.out]
                by_cases hg : g = 0
                · rw [if_pos hg, if_pos hg, if_neg]
                  intro hh
                  exact h0 (HE4.out.symm.trans (by rw [if_pos hg, hh]))
                · rw [if_neg hg, if_neg hg]
              have e2 : bothL L M = [] := by unfold bothL; rw [e1, if_neg h0]
              have HEE := Lib.hid (And.intro e1 e2)
              clear e1 e2 h0
              go_wp2_with fail
              refine Met.intro ?_
              go_step
              unfold C34
              rw [HEE.out.1, HEE.out.2]
              exact ⟨none, 0, ⟨hs16, Rd.nil _ _⟩, _, _, _, _, _, _, _, _, _, _, _, _, _, _, _, _, _, (by kernel_rfl), rfl⟩
        intro a' w17 hinv
        obtain ⟨B, c, ⟨hs17, hr17⟩, t3, t4, t5, t6, t9, t10, t12, t13, t14, t15, t17, t19, t20, t21, t23, t24, U, hU, rfl⟩ := hinv
        obtain ⟨u, rfl⟩ := growTail hU; clear hU
        have HR17 := Lib.hid hr17
        have HBA := Lib.hid (fun (W : World) (hs : Since w W) => rboth_any A A2 n n2 cap cap2 L M W HN.out HN2.out HB.out HB2.out (HR.out.later hs) (HR2.out.later hs))
        obtain ⟨J, hJ⟩ : ∃ J, bothL L M = J := ⟨_, rfl⟩
        rw [hJ] at HR17 HBA ⊢
        obtain ⟨m, hm⟩ : ∃ m, J.length = m := ⟨_, rfl⟩
        rw [hm] at HR17 HBA ⊢
        have HM := Lib.hid hm
        generalize bothE L M = E5 at *
        clear hr17 hJ hm HE4
        go_wp2_with fail
        refine (HBA.out _ hs17).mono ?_
        rintro e w18 ⟨B8, c8, rfl, hb18, hl18⟩
        have hs18 := hs17.later hb18
        have HL18 := Lib.hid hl18
        have HR18 := Lib.hid (HR17.out.later hb18)
        clear hb18 hl18 HBA HR17
        go_wp2_with fail
        refine (same_yes _ _ (HET.out.later hs18)).mono ?_
        rintro e w19 ⟨rfl, hb19⟩
        have hs19 := hs18.later hb19
        go_wp2_with fail
        refine (rngeqR B8 B c8 c m J _ HM.out ((Rd.of_lst HL18.out).later hb19) (HR18.out.later hb19)).mono ?_
        rintro e w20 ⟨rfl, hb20⟩
        have hs20 := hs19.later hb20
        clear hb19 hb20 HL18 HR18 HM hs18 hs19
        go_wp2_with fail
        go_ret
        exact ⟨by first | rfl | simp, hs20⟩

/-! the row -/
theorem own : ownKnob Tryd.prog.godebug = none := by kernel_rfl
theorem laidOut : laidOutB Tryd.prog = true := by kernel_rfl
set_option maxRecDepth 100000 in
theorem contract (H : Type) (enc : TypeId × Value → H) (W : World) (base : Nat) (args : Array Value) (ds gs : List (DataW H)) (before : List MemPlace)
    (hval : ∀ (j : Nat) t v, Tryd.f3.params[j]? = some t → args[j]? = some v → Value.okWide Tryd.prog W .any base t v)
    (hW : DataW.Whole enc Tryd.prog Tryd.f3.params.toList Rows.rangesTellSpec.vars false W args.toList ds gs before) (hL : laidMetH Tryd.prog Rows.rangesTellRow.laid W) :
    Calls Tryd.prog 3 args W fun e W' => ∃ v, e = .returned v ∧ Rows.rangesTellSpec.post enc Tryd.prog Tryd.f3 false true false false W args v W' := by
  have hW' := hW
  obtain ⟨p, q, hA0, hV, rfl, hfz, hnd⟩ := hW
  have hA : DataW.TrodAll enc Tryd.prog W 0 (fun _ => true) true Tryd.f3.params.toList args.toList ds p := hA0
  rw [Tryd.params3] at hA hval
  obtain ⟨v0, vs0, d0, ds0, p0, q0, hargs, rfl, rfl, h0, r0⟩ := trodAll_cons hA
  obtain ⟨v1, vs1, d1, ds1, p1, q1, rfl, rfl, rfl, h1, r1⟩ := trodAll_cons r0
  obtain ⟨v2, vs2, d2, ds2, p2, q2, rfl, rfl, rfl, h2, r2⟩ := trodAll_cons r1
  obtain ⟨rfl, rfl, rfl⟩ := trodAll_nil r2
  obtain rfl : args = #[v0, v1, v2] := by cases args; simp_all
  obtain ⟨rfl, rfl⟩ := trodVars_none hV
  obtain ⟨a0, len0, cap0, rfl⟩ := okWide_slice Tryd.underlying22 (hval 0 22 v0 rfl rfl)
  have k0 := h0
  have lt0 : ∀ x ∈ p0, x.block < W.heap.size := by obtain ⟨m, hm⟩ := k0; exact DataW.trod_lt m _ _ _ hm
  obtain ⟨z0, w0⟩ : ∃ zs, RngsIn W (.slice a0 len0 cap0) zs := by
    obtain ⟨fuel, hf⟩ := h0
    exact rngsIn_open Tryd.underlying22 Tryd.underlying31 (by kernel_rfl) rfl rfl (by kernel_rfl) (by kernel_rfl) Tryd.underlying3 Tryd.underlying3 hf
  obtain ⟨a1, rfl, rfl, rfl, w1⟩ := open_int Tryd.underlying3 (hval 1 3 v1 rfl rfl) h1
  obtain ⟨a2, len2, cap2, rfl⟩ := okWide_slice Tryd.underlying22 (hval 2 22 v2 rfl rfl)
  have k2 := h2
  have lt2 : ∀ x ∈ p2, x.block < W.heap.size := by obtain ⟨m, hm⟩ := k2; exact DataW.trod_lt m _ _ _ hm
  obtain ⟨z2, w2⟩ : ∃ zs, RngsIn W (.slice a2 len2 cap2) zs := by
    obtain ⟨fuel, hf⟩ := h2
    exact rngsIn_open Tryd.underlying22 Tryd.underlying31 (by kernel_rfl) rfl rfl (by kernel_rfl) (by kernel_rfl) Tryd.underlying3 Tryd.underlying3 hf
  have lw := laidWalk hL
  refine (walk (.slice a0 len0 cap0) z0 a1 (.slice a2 len2 cap2) z2 W w0 w1 w2 lw).mono fun e W' ⟨he, bel⟩ => ?_
  subst he
  exact ⟨_, rfl, _, _, _, [], _, [], hW', trodAll_mk1 (shut_bool Tryd.underlying4 _), (trodAll_cons_mk (Below.trod laidOut (by kernel_rfl) (of_decide_eq_true (by kernel_rfl)) k0 bel lt0) (trodAll_cons_mk (shut_int Tryd.underlying3 w1) (trodAll_cons_mk (Below.trod laidOut (by kernel_rfl) (of_decide_eq_true (by kernel_rfl)) k2 bel lt2) trodAll_mk0))), rfl, bel.frame _, fun h => by cases h⟩

theorem reads (os : Os) {H : Type} (enc : TypeId × Value → H) : ∃ places, DataW.whole enc Tryd.prog ((laidWorld os).forCall (fun _ _ => 0) ⟨#[], #[.slice none 0 0, .int .i64 0, .slice none 0 0], []⟩).memory Tryd.f3.params.toList Rows.rangesTellSpec.vars false (#[.slice none 0 0, .int .i64 0, .slice none 0 0] : Array Value).toList 8 = some ([.nil, .lit (.int .i64 0), .nil], [], places) :=
  ⟨[], by kernel_rfl⟩
theorem laid_met (os : Os) : laidMetH Tryd.prog Rows.rangesTellRow.laid ((laidWorld os).forCall (fun _ _ => 0) ⟨#[], #[.slice none 0 0, .int .i64 0, .slice none 0 0], []⟩).memory := laidMetW os _

set_option maxRecDepth 100000 in
theorem lifted (os : Os) (started : os.Started) (H : Type) (enc : TypeId × Value → H) (F : Stop.Interp) :
    ReturnsInHanded {} Tryd.checked os 3 .any ((OpenSpec.ofChange Rows.rangesTellSpec).preRow enc Tryd.prog Tryd.f3 Rows.rangesTellRow.domain false Rows.rangesTellRow.laid) (((OpenSpec.ofChange Rows.rangesTellSpec).at F).post enc Tryd.prog Tryd.f3 false true false false) := by
  obtain ⟨places, hx⟩ := reads os enc
  refine returnsInHanded_of_row (C := Tryd.checked) (s := OpenSpec.ofChange Rows.rangesTellSpec) own started (by kernel_rfl) Tryd.func3
    (witness_row_at (enc := enc) (C := Tryd.checked) false (laidWorld os) #[.slice none 0 0, .int .i64 0, .slice none 0 0] rfl (by kernel_rfl) (by kernel_rfl) (by kernel_rfl)
      (OpenSpec.preRow_of_cond 8 hx (by kernel_rfl) (fun k hk => by cases hk) (by kernel_rfl) (laid_met os))) ?_
  intro W base args ds gs before hval hW _ _ _ hL _ _
  exact contract H enc W base args ds gs before hval hW hL

theorem said : Rows.RangesTellSaid :=
  OpenClaim.holds_of_cond 3 Tryd.f3 rfl rfl rfl rfl rfl rfl rfl ⟨rfl, rfl, rfl, rfl, rfl⟩ rfl rfl rfl rfl rfl (by kernel_rfl) Tryd.func3 (by kernel_rfl)
    (of_decide_eq_true (by kernel_rfl)) (by unfold Func.isWrapper; first | (rw [if_pos (by decide +kernel)]; kernel_rfl) | (rw [if_neg (by decide +kernel)]; exact ⟨rfl, rfl⟩))
    (fun os started H enc _ F => by rw [OpenClaim.pre_eq_preRow]; exact lifted os started H enc F)

theorem plain (f : FuncId) (fn : Func) (hf : Tryd.pinned.checked.prog.funcNamed "wanderwire/wirelaw1.RangesTell" = some f) (hfn : Tryd.pinned.checked.prog.funcs[f]? = some fn) :
    true = Tryd.pinned.checked.prog.looks [] ∧ ∀ (j : Nat) t, fn.params[j]? = some t → Tryd.pinned.checked.prog.wantsStandIn t = false := by
  obtain rfl : f = 3 := Option.some.inj ((show Tryd.prog.funcNamed "wanderwire/wirelaw1.RangesTell" = some 3 by kernel_rfl).symm.trans hf) |>.symm
  obtain rfl : fn = Tryd.f3 := (Option.some.inj (Tryd.func3.symm.trans hfn)).symm
  refine ⟨by kernel_rfl, fun j t ht => ?_⟩
  rw [Tryd.params3] at ht
  have ht' := Array.mem_of_getElem? ht
  have hall : (([22, 3, 22] : List Nat).all fun t => !Tryd.prog.wantsStandIn t) = true := by kernel_rfl
  have hq := List.all_eq_true.1 hall t (by simpa using ht')
  have hq2 : Tryd.prog.wantsStandIn t = false := by simpa using hq
  exact hq2

theorem card : Rows.RangesTellCardSaid :=
  Claim7.holds_tied_plain_at .later [] _ _ _ _ said (fun _ h => by cases h) (by kernel_rfl) (fun _ h => by cases h) rangesTell_row_tie rfl ⟨rfl, rfl⟩ (by kernel_rfl) rfl plain (by kernel_rfl)
#print axioms card
end Go.Proofs.YtjjmoaaongnjiaaDoor.rangesTell
