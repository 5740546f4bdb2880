/- The walk and the row of EndPlays: for all windows, steps and texts the law returns true: anything that is written, read, made and taken by one answers as the reference says. Condition: errors.errorType and the tables of kinds and counts hold what the program's text lays (the row lists them, the card ties them). -/
import Derived.Test.YtmfbaijbigodkaaGreatDoorZJ
import Derived.Deep.DeepCutAuto
import Derived.Deep.QuietTactic
import Derived.BigQuiet
import Derived.Deep.RegionHeld3
import Derived.Deep.DeepHandedRow
import Derived.LaidLaws
import Derived.LaidHandle
import Derived.Deep.DeepWitnessRowRef
import Derived.Test.YtmfbaijbigodkaaGreatDoorRows
import Derived.WalkKit
import Derived.ProofKit
import Derived.OpenShut
import Derived.ShutString
import Derived.ChangeOld
import Derived.Below
import Derived.Lib.SmallJoins
import Derived.Deep.Slices
import Derived.Deep.Matrix
import Derived.Deep.Strs
namespace Go.Proofs.YtmfbaijbigodkaaGreatDoor.endPlays
open Go.ChangeShapes Go.WideShapes Go.ChangeAt Go.RowKit
open Go.ChangeMaps (open_string shut_string)
set_option linter.unusedVariables false

noncomputable abbrev laidWorld := YtmfbaijbigodkaaGreatDoor.laidWorld2
theorem laidMetW (os : Os) (args : Array Value) : laidMetH Tryz.prog Rows.endPlaysRow.laid ((laidWorld os).forCall (fun _ _ => 0) ⟨#[], args, []⟩).memory := laidMet_ekc os args
theorem laidWalk {W : World} (h : laidMetH Tryz.prog Rows.endPlaysRow.laid W) : ETok W ∧ KTab W ∧ CTab W := laid_ekc h
theorem same_at (n : Int) (hn : n ≠ 0) (w : World) (hg : ETok w) : Calls Tryz.prog 9 #[.iface 84 (.int .i64 n), .int .i64 n] w fun ev w' => ev = .returned (.bool true) ∧ Below w.heap.size w w' := by
  have := same_yes n w hg
  rw [errV_pos hn] at this
  exact this
theorem write_made (s : EnS) (d : ByteArray) : (s.write d).made = s.made := by unfold EnS.write; split <;> rfl
theorem read_made (s : EnS) (n : Int) : (s.read n).made = s.made := by unfold EnS.read; split <;> rfl
theorem take_made (s : EnS) (b : List UInt8) : (s.take b).made = s.made := by
  unfold EnS.take
  split
  · unfold EnS.pkt
    split
    · rfl
    · split
      · split
        · exact takes_made _ _
        · rfl
      · rfl
  · rfl
def growRow (u : Nat → Value) : Nat → Nat → List Value
  | _, 0 => []
  | k, n + 1 => u k :: growRow u (k + 1) n
theorem growRow_congr {u v : Nat → Value} : ∀ (n k : Nat), (∀ i, k ≤ i → u i = v i) → growRow u k n = growRow v k n
  | 0, _, _ => rfl
  | n + 1, k, h => by
    rw [growRow, growRow, h k (Nat.le_refl k), growRow_congr n (k + 1) (fun i hi => h i (by omega))]
theorem growRow_any : ∀ (n k : Nat) (U : List Value), U.length = n → ∃ u : Nat → Value, U = growRow u k n
  | 0, k, U, h => ⟨fun _ => .nilIface, by rw [List.length_eq_zero_iff.1 h]; rfl⟩
  | n + 1, k, [], h => by simp at h
  | n + 1, k, x :: r, h => by
    obtain ⟨u, hu⟩ := growRow_any n (k + 1) r (by simpa using h)
    refine ⟨fun i => if i = k then x else u i, ?_⟩
    rw [growRow, if_pos rfl, hu]
    congr 1
    exact growRow_congr n (k + 1) (fun i hi => by rw [if_neg (by omega)])
set_option maxRecDepth 100000 in
theorem growTail {U : List Value} (h : U.length = 140) : ∃ u : Nat → Value, U = [u 21, u 22, u 23, u 24, u 25, u 26, u 27, u 28, u 29, u 30, u 31, u 32, u 33, u 34, u 35, u 36, u 37, u 38, u 39, u 40, u 41, u 42, u 43, u 44, u 45, u 46, u 47, u 48, u 49, u 50, u 51, u 52, u 53, u 54, u 55, u 56, u 57, u 58, u 59, u 60, u 61, u 62, u 63, u 64, u 65, u 66, u 67, u 68, u 69, u 70, u 71, u 72, u 73, u 74, u 75, u 76, u 77, u 78, u 79, u 80, u 81, u 82, u 83, u 84, u 85, u 86, u 87, u 88, u 89, u 90, u 91, u 92, u 93, u 94, u 95, u 96, u 97, u 98, u 99, u 100, u 101, u 102, u 103, u 104, u 105, u 106, u 107, u 108, u 109, u 110, u 111, u 112, u 113, u 114, u 115, u 116, u 117, u 118, u 119, u 120, u 121, u 122, u 123, u 124, u 125, u 126, u 127, u 128, u 129, u 130, u 131, u 132, u 133, u 134, u 135, u 136, u 137, u 138, u 139, u 140, u 141, u 142, u 143, u 144, u 145, u 146, u 147, u 148, u 149, u 150, u 151, u 152, u 153, u 154, u 155, u 156, u 157, u 158, u 159, u 160] := by
  obtain ⟨u, hu⟩ := growRow_any 140 21 U h
  exact ⟨u, hu.trans (by kernel_rfl)⟩
set_option maxRecDepth 100000 in
/-- behind the window -/
def NW (A0 A A2 : Option Addr) (n0 c0 l cap l2 cap2 : Nat) (wv : World) (a : Act) (wx : World) : Prop := ∃ n : Int, (wv = wx ∧ -9223372036854775808 ≤ n ∧ n ≤ 9223372036854775807) ∧
  ∃ (t3 t4 t5 t6 t8 t9 t10 t11 t12 t13 t14 t15 t16 t17 t18 t19 t20 : Value) (U : List Value), U.length = 140 ∧ a = ⟨((.slice A0 n0 c0) :: (.slice A l cap) :: (.slice A2 l2 cap2) :: t3 :: t4 :: t5 :: t6 :: (.int .i64 n) :: t8 :: t9 :: t10 :: t11 :: t12 :: t13 :: t14 :: t15 :: t16 :: t17 :: t18 :: t19 :: t20 :: U).toArray, []⟩
set_option maxRecDepth 100000 in
/-- behind what is wrong with it -/
def NE (A0 A A2 : Option Addr) (n0 c0 l cap l2 cap2 : Nat) (n E : Int) (wv : World) (a : Act) (wx : World) : Prop := wv = wx ∧
  ∃ (t3 t4 t5 t6 t9 t10 t11 t12 t13 t14 t15 t16 t17 t18 t19 t20 : Value) (U : List Value), U.length = 140 ∧ a = ⟨((.slice A0 n0 c0) :: (.slice A l cap) :: (.slice A2 l2 cap2) :: t3 :: t4 :: t5 :: t6 :: (.int .i64 n) :: (.int .i64 E) :: t9 :: t10 :: t11 :: t12 :: t13 :: t14 :: t15 :: t16 :: t17 :: t18 :: t19 :: t20 :: U).toArray, []⟩
set_option maxRecDepth 100000 in
/-- a step's head -/
def LI (w : World) (A0 A A2 : Option Addr) (n0 c0 l cap l2 cap2 g gm : Nat) (a : Act) (wx : World) : Prop := ∃ (k : Nat) (s : EnS), (k ≤ 60 ∧ s.made.length ≤ k ∧ Own w [] wx [endT g s, rnT gm s]) ∧
  ∃ (t3 t4 t5 t6 t7 t8 t10 t11 t14 t15 t16 t17 t18 t19 t20 : Value) (U : List Value), U.length = 140 ∧ a = ⟨((.slice A0 n0 c0) :: (.slice A l cap) :: (.slice A2 l2 cap2) :: t3 :: t4 :: t5 :: t6 :: t7 :: t8 :: (.pointer (some ⟨g, 0, none⟩)) :: t10 :: t11 :: (.pointer (some ⟨gm, 0, none⟩)) :: (.int .i64 k) :: t14 :: t15 :: t16 :: t17 :: t18 :: t19 :: t20 :: U).toArray, []⟩
def LM (a : Act) (wx : World) : Nat := 60 - (intOf (a.tmps.toList.getD 13 undef)).toNat
set_option maxRecDepth 100000 in
def RC (w : World) (A0 A A2 : Option Addr) (n0 c0 l cap l2 cap2 g gm : Nat) (k : Nat) (q : Nat) (wo : World) (x : List Int) (a : Act) (wx : World) : Prop := (BlockIs wx q 33 (x.map fun n => .int .i64 n).toArray ∧ Since wo wx) ∧
  ∃ (t3 t4 t5 t6 t7 t8 t10 t11 t15 t16 t17 t18 t19 t20 : Value) (U : List Value), U.length = 140 ∧ a = ⟨((.slice A0 n0 c0) :: (.slice A l cap) :: (.slice A2 l2 cap2) :: t3 :: t4 :: t5 :: t6 :: t7 :: t8 :: (.pointer (some ⟨g, 0, none⟩)) :: t10 :: t11 :: (.pointer (some ⟨gm, 0, none⟩)) :: (.int .i64 k) :: (.pointer (some ⟨q, 0, none⟩)) :: t15 :: t16 :: t17 :: t18 :: t19 :: t20 :: U).toArray, []⟩
set_option maxRecDepth 100000 in
def RCL (w : World) (A0 A A2 : Option Addr) (n0 c0 l cap l2 cap2 g gm : Nat) (k : Nat) (q : Nat) (wo : World) (r : List Int) (a : Act) (wx : World) : Prop := ∃ j : Nat, (j ≤ 2 ∧ j ≤ r.length ∧ BlockIs wx q 33 #[.int .i64 (vv r j 0), .int .i64 (vv r j 1)] ∧ Since wo wx) ∧
  ∃ (t3 t4 t5 t6 t7 t8 t10 t11 t16 t17 t18 t19 t20 : Value) (U : List Value), U.length = 140 ∧ a = ⟨((.slice A0 n0 c0) :: (.slice A l cap) :: (.slice A2 l2 cap2) :: t3 :: t4 :: t5 :: t6 :: t7 :: t8 :: (.pointer (some ⟨g, 0, none⟩)) :: t10 :: t11 :: (.pointer (some ⟨gm, 0, none⟩)) :: (.int .i64 k) :: (.pointer (some ⟨q, 0, none⟩)) :: (.int .i64 j) :: t16 :: t17 :: t18 :: t19 :: t20 :: U).toArray, []⟩
def RCM (a : Act) (wx : World) : Nat := 2 - (intOf (a.tmps.toList.getD 15 undef)).toNat
set_option maxRecDepth 100000 in
/-- behind the text of the step -/
def DC (w : World) (A0 A A2 : Option Addr) (n0 c0 l cap l2 cap2 g gm : Nat) (k gv : Nat) (wv : World) (a : Act) (wx : World) : Prop := ∃ d : ByteArray, (wv = wx ∧ d.size ≤ 9223372036854775000) ∧
  ∃ (t3 t4 t5 t6 t7 t8 t10 t11 t15 t17 t18 t19 t20 : Value) (U : List Value), U.length = 140 ∧ a = ⟨((.slice A0 n0 c0) :: (.slice A l cap) :: (.slice A2 l2 cap2) :: t3 :: t4 :: t5 :: t6 :: t7 :: t8 :: (.pointer (some ⟨g, 0, none⟩)) :: t10 :: t11 :: (.pointer (some ⟨gm, 0, none⟩)) :: (.int .i64 k) :: (.pointer (some ⟨gv, 0, none⟩)) :: t15 :: (.string d) :: t17 :: t18 :: t19 :: t20 :: U).toArray, []⟩
set_option maxRecDepth 100000 in
/-- behind the switch -/
def SC (w : World) (A0 A A2 : Option Addr) (n0 c0 l cap l2 cap2 g gm : Nat) (k : Nat) (a : Act) (wx : World) : Prop := ∃ s : EnS, (s.made.length ≤ k + 1 ∧ Own w [] wx [endT g s, rnT gm s]) ∧
  ∃ (t3 t4 t5 t6 t7 t8 t10 t14 t15 t16 t17 t18 t19 t20 : Value) (U : List Value), U.length = 140 ∧ a = ⟨((.slice A0 n0 c0) :: (.slice A l cap) :: (.slice A2 l2 cap2) :: t3 :: t4 :: t5 :: t6 :: t7 :: t8 :: (.pointer (some ⟨g, 0, none⟩)) :: t10 :: (.bool true) :: (.pointer (some ⟨gm, 0, none⟩)) :: (.int .i64 k) :: t14 :: t15 :: t16 :: t17 :: t18 :: t19 :: t20 :: U).toArray, []⟩
set_option maxRecDepth 100000 in
set_option maxHeartbeats 40000000 in
theorem walk (v0 : Value) (Z0 : List Int) (v1 : Value) (Z : List (List Int)) (v2 : Value) (T : List ByteArray) (w : World) (w0 : IntsIn w v0 Z0) (w1 : IntRowsIn w v1 Z) (w2 : StrsInS w v2 T) (hL : ETok w ∧ KTab w ∧ CTab w) :
    Calls Tryz.prog 3 #[v0, v1, v2] w fun e w' => e = .returned (.bool true) ∧ Below w.heap.size w w' := by
  have HE := Lib.hid hL.1
  have HK := Lib.hid hL.2.1
  have HCT := Lib.hid hL.2.2
  obtain ⟨bd0, A0, c0, rfl, hl0, hm0, hc0⟩ := w0
  obtain ⟨A, cap, rfl, hle0, hm1, hc⟩ := w1
  obtain ⟨⟨-, A2, cap2, rfl, hle2, hm2, hc2⟩, hS⟩ := w2
  unfold maxLen at hm0 hm1 hm2
  have B0 := Lib.hid (ith_bounds bd0)
  have hZ0 : Z0.length ≤ 9223372036854775807 := by omega
  have hZ : Z.length ≤ 9223372036854775807 := by omega
  have hT0 : T.length ≤ 9223372036854775807 := by omega
  have C0 := Lib.hid hc0
  have HC := Lib.hid hc
  have HC2 := Lib.hid hc2
  have HS := Lib.hid hS
  clear hc0 hc hc2 hS hL bd0 hl0
  go_enter Tryz.func3, Tryz.ntmps3
  repeat ((fail_if_success (with_reducible refine stop_at 2 ?_)); first | fail | go_values | go_skip | go_guarded | go_step | go_upon | go_back | go_simp)
  refine wp_cut (NW A0 A A2 Z0.length c0 Z.length cap T.length cap2 w) ?_ ?_
  rotate_left
  next =>
    as_aux_lemma =>
      intro _ _ _ _
      by_cases h0 : 0 < Z0.length
      · have h0' : (0 : Int) < (Z0.length : Int) := by omega
        obtain ⟨b, off, rfl, hlt, hcc⟩ := C0.out (by rintro rfl; simp at h0)
        have cf : w.cell? ⟨b, off, none⟩ = some (.int .i64 (ith Z0 0)) := by have := hcc 0 h0; rw [Nat.add_zero] at this; exact this
        have hbd := B0.out 0
        clear hcc
        generalize ith Z0 0 = y at *
        go_wp2_with fail
        refine Met.intro ?_
        go_step
        exact ⟨y, ⟨rfl, hbd⟩, _, _, _, _, _, _, _, _, _, _, _, _, _, _, _, _, _, _, (by kernel_rfl), rfl⟩
      · have h0' : decide ((0 : Int) < (Z0.length : Int)) = false := by rw [decide_eq_false_iff_not]; omega
        have h02 : ¬ 0 < Z0.length := h0
        go_wp2_with fail
        refine Met.intro ?_
        go_step
        exact ⟨0, ⟨rfl, by decide, by decide⟩, _, _, _, _, _, _, _, _, _, _, _, _, _, _, _, _, _, _, (by kernel_rfl), rfl⟩
  intro a' wv hinv
  obtain ⟨n, ⟨rfl, hn1, hn2⟩, t3, t4, t5, t6, t8, t9, t10, t11, t12, t13, t14, t15, t16, t17, t18, t19, t20, U, hU, rfl⟩ := hinv
  obtain ⟨u, rfl⟩ := growTail hU; clear hU
  by_cases hn : 1 ≤ n ∧ n ≤ 1000
  case neg =>
    repeat ((fail_if_success (with_reducible refine stop_at 5 ?_)); first | fail | go_values | go_skip | go_guarded | go_step | go_upon | go_back | go_simp)
    refine wp_cut (NE A0 A A2 Z0.length c0 Z.length cap T.length cap2 n 1 w) ?_ ?_
    rotate_left
    next =>
      as_aux_lemma =>
        intro _ _ _ _
        by_cases h1 : n < 1
        · clear hn
          go_wp2_with fail
          refine Met.intro ?_
          go_step
          exact ⟨rfl, _, _, _, _, _, _, _, _, _, _, _, _, _, _, _, _, _, (by kernel_rfl), rfl⟩
        · have h1' : decide (n < 1) = false := by simpa using h1
          have h2 : 1000 < n := by omega
          clear hn h1
          go_wp2_with fail
          refine Met.intro ?_
          go_step
          exact ⟨rfl, _, _, _, _, _, _, _, _, _, _, _, _, _, _, _, _, _, (by kernel_rfl), rfl⟩
    intro a' wv hinv
    obtain ⟨rfl, t3, t4, t5, t6, t9, t10, t11, t12, t13, t14, t15, t16, t17, t18, t19, t20, U, hU, rfl⟩ := hinv
    obtain ⟨u, rfl⟩ := growTail hU; clear hU
    go_wp2_with fail
    refine (enew_no n hn _).mono ?_
    rintro e w6 ⟨rfl, hb6⟩
    have hs6 : Since w w6 := hb6
    go_wp2_with fail
    refine (same_yes 1 _ (HE.out.later hs6)).mono ?_
    rintro e w7 ⟨rfl, hb7⟩
    have hs7 : Since w w7 := hs6.later hb7
    go_wp2_with fail
    go_ret
    exact ⟨rfl, hs7⟩
  repeat ((fail_if_success (with_reducible refine stop_at 5 ?_)); first | fail | go_values | go_skip | go_guarded | go_step | go_upon | go_back | go_simp)
  refine wp_cut (NE A0 A A2 Z0.length c0 Z.length cap T.length cap2 n 0 w) ?_ ?_
  rotate_left
  next =>
    as_aux_lemma =>
      intro _ _ _ _
      have h1' : decide (n < 1) = false := by simp; omega
      have h2' : decide (1000 < n) = false := by simp; omega
      have h3 : ¬ (n < 1 ∨ 1000 < n) := by omega
      go_wp2_with fail
      refine Met.intro ?_
      go_step
      exact ⟨rfl, _, _, _, _, _, _, _, _, _, _, _, _, _, _, _, _, _, (by kernel_rfl), rfl⟩
  intro a' wv hinv
  obtain ⟨rfl, t3, t4, t5, t6, t9, t10, t11, t12, t13, t14, t15, t16, t17, t18, t19, t20, U, hU, rfl⟩ := hinv
  obtain ⟨u, rfl⟩ := growTail hU; clear hU
  go_wp2_with fail
  refine (enew n hn.1 hn.2 _).mono ?_
  rintro e w6 ⟨g, rfl, hl⟩
  have HW6 : Hid (Own w [] w6 [endT g (EnS.new n)]) := Lib.hid ((Own.start w).made hl)
  clear hl
  go_wp2_with fail
  refine (same_nil 0 _).mono ?_
  rintro e w7 ⟨rfl, rfl⟩
  go_wp2_with fail
  refine (nnew n hn.1 hn.2 _).mono ?_
  rintro e w7 ⟨gm, rfl, hl⟩
  have HW7 : Hid (Own w [] w7 [endT g (EnS.new n), rnT gm (EnS.new n)]) := Lib.hid (HW6.out.made hl)
  clear hl HW6
  go_wp2_with fail
  refine wp_loop (LI w A0 A A2 Z0.length c0 Z.length cap T.length cap2 g gm) LM ?_ ?_
  next => exact ⟨0, EnS.new n, ⟨by omega, Nat.le_refl _, HW7.out⟩, _, _, _, _, _, _, _, _, _, _, _, _, _, _, _, _, (by kernel_rfl), rfl⟩
  next =>
    intro a' wr hinv
    obtain ⟨k, s, ⟨hk, hmk, hw⟩, t3, t4, t5, t6, t7, t8, t10, t11, t14, t15, t16, t17, t18, t19, t20, U, hU, rfl⟩ := hinv
    obtain ⟨u, rfl⟩ := growTail hU; clear hU
    have HW := Lib.hid hw
    clear hw HW7 hn hn1 hn2
    by_cases hlen : k < Z.length
    case neg =>
      have hlen' : decide ((k : Int) < (Z.length : Int)) = false := by simp; omega
      go_wp2_with fail
      go_ret
      exact ⟨rfl, HW.out.since⟩
    by_cases h60 : k < 60
    case neg =>
      have hlen' : (k : Int) < (Z.length : Int) := by omega
      have h60' : decide ((k : Int) < 60) = false := by simp; omega
      go_wp2_with fail
      go_ret
      exact ⟨rfl, HW.out.since⟩
    have hlen' : (k : Int) < (Z.length : Int) := by omega
    have h60' : (k : Int) < 60 := by omega
    obtain ⟨b, off, rfl, hlt, hcc⟩ := HC.out (by rintro rfl; simp at hlen)
    obtain ⟨x, hx, hI⟩ := hcc k hlen
    clear hcc
    generalize Z.getD k [] = r at *
    obtain ⟨bdr, A', cap', rfl, hle', hm', hcr⟩ := hI
    have HX := Lib.hid hx
    have HR := Lib.hid hcr
    have HBD := Lib.hid (ith_bounds bdr)
    unfold maxLen at hm'
    clear hx hcr bdr
    have hs : Since w wr := HW.out.since
    obtain ⟨wo, rfl⟩ : ∃ wo : World, wo = wr := ⟨_, rfl⟩
    repeat ((fail_if_success (with_reducible refine stop_at 16 ?_)); first | fail | go_values | go_skip | go_guarded | go_step | go_upon | go_back | go_simp)
    refine wp_cut (RC w A0 (some ⟨b, off, none⟩) A2 Z0.length c0 Z.length cap T.length cap2 g gm k wo.heap.size wo [ith r 0, ith r 1]) ?_ ?_
    rotate_left
    next =>
      as_aux_lemma =>
        intro _ _ _ _
        go_wp2_with fail
        refine wp_loop (RCL w A0 (some ⟨b, off, none⟩) A2 Z0.length c0 Z.length cap T.length cap2 g gm k wo.heap.size wo r) RCM ?_ ?_
        next => exact ⟨0, ⟨by omega, by omega, BlockIs.fresh _ _ _, (by refine Since.out ?_; repeat (first | with_reducible assumption | with_reducible exact Since.refl _ | with_reducible refine Since.later ?_ (by with_reducible assumption) | with_reducible refine Since.only ?_ (by with_reducible assumption) (by first | assumption | omega | (simp; done) | (simp; omega)) | with_reducible refine Since.alloc ?_ _ | with_reducible refine Since.drewN ?_ _ | with_reducible refine Since.drew ?_ | with_reducible refine Since.set ?_ (by first | assumption | omega | (simp; done) | (simp; omega)) _))⟩, _, _, _, _, _, _, _, _, _, _, _, _, _, _, (by kernel_rfl), rfl⟩
        next =>
          intro a' wr hinv
          obtain ⟨j, ⟨hj2, hjr, hB, hs2⟩, t3, t4, t5, t6, t7, t8, t10, t11, t16, t17, t18, t19, t20, U, hU, rfl⟩ := hinv
          obtain ⟨u, rfl⟩ := growTail hU; clear hU
          have cx : wr.cell? ⟨b, off + k, none⟩ = some (.slice A' r.length cap') := hs2.cell (Nat.lt_of_lt_of_le hlt hs.le) (hs.cell hlt HX.out)
          by_cases hjl : j < r.length
          case neg =>
            have hjl' : decide ((j : Int) < (r.length : Int)) = false := by simp; omega
            have HB := Lib.hid (vv_end2 (Or.inl (by omega : r.length ≤ j)) ▸ hB)
            clear hB
            go_wp2_with fail
            refine Met.intro ?_
            go_step
            exact ⟨⟨HB.out, hs2⟩, _, _, _, _, _, _, _, _, _, _, _, _, _, _, _, (by kernel_rfl), rfl⟩
          by_cases hj2' : j < 2
          case neg =>
            have hj3 : decide ((j : Int) < 2) = false := by simp; omega
            have hjl' : (j : Int) < (r.length : Int) := by omega
            have HB := Lib.hid (vv_end2 (r := r) (Or.inr (by omega : 2 ≤ j)) ▸ hB)
            clear hB
            go_wp2_with fail
            refine Met.intro ?_
            go_step
            exact ⟨⟨HB.out, hs2⟩, _, _, _, _, _, _, _, _, _, _, _, _, _, _, _, (by kernel_rfl), rfl⟩
          have hjl' : (j : Int) < (r.length : Int) := by omega
          have hj3 : (j : Int) < 2 := by omega
          obtain ⟨b2, off2, rfl, hlt2, hc2⟩ := HR.out (by rintro rfl; simp at hjl)
          obtain ⟨y, hy⟩ : ∃ y, ith r j = y := ⟨_, rfl⟩
          have cj : wr.cell? ⟨b2, off2 + j, none⟩ = some (.int .i64 y) := hy ▸ hs2.cell (Nat.lt_of_lt_of_le hlt2 hs.le) (hs.cell hlt2 (hc2 j hjl))
          have fj := hB.free
          have ij : wr.cell? ⟨wo.heap.size, j, none⟩ = some (.int .i64 0) := (hB.cell j).trans (vv_next2 r hj2').1
          have HB := Lib.hid (hy ▸ (vv_next2 r hj2').2 ▸ hB.put j (.int .i64 (ith r j)))
          clear hc2 hB hy
          go_wp2_with fail
          refine ⟨⟨j + 1, ⟨by omega, by omega, HB.out, (by refine Since.out ?_; repeat (first | with_reducible assumption | with_reducible exact Since.refl _ | with_reducible refine Since.later ?_ (by with_reducible assumption) | with_reducible refine Since.only ?_ (by with_reducible assumption) (by first | assumption | omega | (simp; done) | (simp; omega)) | with_reducible refine Since.alloc ?_ _ | with_reducible refine Since.drewN ?_ _ | with_reducible refine Since.drew ?_ | with_reducible refine Since.set ?_ (by first | assumption | omega | (simp; done) | (simp; omega)) _))⟩, _, _, _, _, _, _, _, _, _, _, _, _, _, _, (by kernel_rfl), rfl⟩, ?_⟩
          simp [RCM, intOf]
          omega
    intro a' wv hinv
    obtain ⟨⟨hBv, hs2⟩, t3, t4, t5, t6, t7, t8, t10, t11, t15, t16, t17, t18, t19, t20, U, hU, rfl⟩ := hinv
    obtain ⟨u, rfl⟩ := growTail hU; clear hU
    simp only [List.map_cons, List.map_nil] at hBv
    have HWB : Hid (Own w [] wv [endT g s, rnT gm s, Thing.block wo.heap.size 33 #[.int .i64 (ith r 0), .int .i64 (ith r 1)]]) := Lib.hid (HW.out.add hs2 (S := [wo.heap.size]) ⟨hBv, rfl⟩ (by simp))
    have bx1 := HBD.out 1
    generalize ith r 0 = x0 at *
    generalize ith r 1 = x1 at *
    clear hBv hs hs2 HX HR HBD HW
    generalize wo.heap.size = gv at *
    repeat ((fail_if_success (with_reducible refine stop_at 21 ?_)); first | fail | go_values | go_skip | go_guarded | go_step | go_upon | go_back | go_simp)
    refine wp_cut (DC w A0 (some ⟨b, off, none⟩) A2 Z0.length c0 Z.length cap T.length cap2 g gm k gv wv) ?_ ?_
    rotate_left
    next =>
      as_aux_lemma =>
        intro _ _ _ _
        by_cases hkT : k < T.length
        · have hkT' : (k : Int) < (T.length : Int) := by omega
          obtain ⟨b2, off2, rfl, hlt2, hcc2⟩ := HC2.out (by rintro rfl; simp at hkT)
          have ct : wv.cell? ⟨b2, off2 + k, none⟩ = some (.string (sth T k)) := HWB.out.since.cell hlt2 (hcc2 k hkT)
          have hsz := HS.out k
          clear hcc2
          generalize sth T k = d at *
          go_wp2_with fail
          refine Met.intro ?_
          go_step
          exact ⟨d, ⟨rfl, by omega⟩, _, _, _, _, _, _, _, _, _, _, _, _, _, _, (by kernel_rfl), rfl⟩
        · have hkT' : decide ((k : Int) < (T.length : Int)) = false := by rw [decide_eq_false_iff_not]; omega
          go_wp2_with fail
          refine Met.intro ?_
          go_step
          exact ⟨⟨#[]⟩, ⟨rfl, by show 0 ≤ _; omega⟩, _, _, _, _, _, _, _, _, _, _, _, _, _, _, (by kernel_rfl), rfl⟩
    intro a' wv' hinv
    obtain ⟨d, ⟨rfl, hsz⟩, t3, t4, t5, t6, t7, t8, t10, t11, t15, t17, t18, t19, t20, U, hU, rfl⟩ := hinv
    obtain ⟨u, rfl⟩ := growTail hU; clear hU
    have cv0 : wv.cell? ⟨gv, 0, none⟩ = some (.int .i64 x0) := (HWB.out.blk 2 rfl).cell 0
    have cv1 : wv.cell? ⟨gv, 1, none⟩ = some (.int .i64 x1) := (HWB.out.blk 2 rfl).cell 1
    have lv : gv < wv.heap.size := (HWB.out.blk 2 rfl).lt
    repeat ((fail_if_success (with_reducible refine stop_at 23 ?_)); first | fail | go_values | go_skip | go_guarded | go_step | go_upon | go_back | go_simp)
    refine wp_cut (SC w A0 (some ⟨b, off, none⟩) A2 Z0.length c0 Z.length cap T.length cap2 g gm k) ?_ ?_
    rotate_left
    next =>
      intro _ _ _ _
      by_cases h0 : x0 = 0
      case pos =>
        as_aux_lemma =>
          subst h0
          obtain ⟨S, hS, up⟩ := HWB.out.at_ 0 rfl
          go_wp2_with fail
          refine (ewrite g s d _ S hS hsz).mono ?_
          rintro e w7 ⟨rfl, hl⟩
          have HW7 : Hid (Own w [] w7 [endT g (s.write d), rnT gm s, Thing.block gv 33 #[.int .i64 0, .int .i64 x1]]) := Lib.hid (up _ _ hl)
          clear hl hS up
          obtain ⟨S, hS, up⟩ := HW7.out.at_ 1 rfl
          go_wp2_with fail
          refine (nwrite gm s d _ S hS hsz).mono ?_
          rintro e w8 ⟨rfl, hl⟩
          have HW8 : Hid (Own w [] w8 [endT g (s.write d), rnT gm (s.write d), Thing.block gv 33 #[.int .i64 0, .int .i64 x1]]) := Lib.hid (up _ _ hl)
          clear hl hS up HW7 HWB cv0 cv1 lv
          generalize s.writeE d = E at *
          go_wp2_with fail
          refine (same_yes E _ (HE.out.later HW8.out.since)).mono ?_
          rintro e w9 ⟨rfl, hb9⟩
          have HW9 := Lib.hid (HW8.out.later hb9)
          clear hb9
          go_wp2_with fail
          refine Met.intro ?_
          go_step
          exact ⟨s.write d, ⟨by rw [write_made]; omega, HW9.out.take 2⟩, _, _, _, _, _, _, _, _, _, _, _, _, _, _, _, (by kernel_rfl), rfl⟩
      have k0 : (x0 == 0) = false := by simpa using h0
      by_cases h1 : x0 = 1
      case pos =>
        as_aux_lemma =>
          subst h1
          obtain ⟨S, hS, up⟩ := HWB.out.at_ 1 rfl
          go_wp2_with fail
          refine (nread gm s x1 _ S hS).mono ?_
          rintro e w7 ⟨rfl, hl⟩
          have HW7 : Hid (Own w [] w7 [endT g s, rnT gm (s.read x1), Thing.block gv 33 #[.int .i64 1, .int .i64 x1]]) := Lib.hid (up _ _ hl)
          have cv7 : w7.cell? ⟨gv, 1, none⟩ = some (.int .i64 x1) := (HW7.out.blk 2 rfl).cell 1
          have lv7 : gv < w7.heap.size := (HW7.out.blk 2 rfl).lt
          clear hl hS up cv0 cv1 lv
          obtain ⟨S, hS, up⟩ := HW7.out.at_ 0 rfl
          go_wp2_with fail
          refine (eread g s x1 _ S hS).mono ?_
          rintro e w8 ⟨rfl, hl⟩
          have HW8 : Hid (Own w [] w8 [endT g (s.read x1), rnT gm (s.read x1), Thing.block gv 33 #[.int .i64 1, .int .i64 x1]]) := Lib.hid (up _ _ hl)
          clear hl hS up HW7 HWB cv7 lv7
          generalize EnS.readE x1 = E at *
          generalize s.readS x1 = X at *
          go_wp2_with fail
          refine (same_yes E _ (HE.out.later HW8.out.since)).mono ?_
          rintro e w9 ⟨rfl, hb9⟩
          have HW9 := Lib.hid (HW8.out.later hb9)
          clear hb9
          go_wp2_with fail
          refine Met.intro ?_
          go_step
          exact ⟨s.read x1, ⟨by rw [read_made]; omega, HW9.out.take 2⟩, _, _, _, _, _, _, _, _, _, _, _, _, _, _, _, (by kernel_rfl), rfl⟩
      have k1 : (x0 == 1) = false := by simpa using h1
      by_cases h2 : x0 = 2
      case pos =>
        as_aux_lemma =>
          subst h2
          obtain ⟨S, hS, up⟩ := HWB.out.at_ 0 rfl
          go_wp2_with fail
          refine (emake g s _ S hS (HK.out.later HWB.out.since) (by omega)).mono ?_
          rintro e w7 ⟨rfl, hl⟩
          have HW7 : Hid (Own w [] w7 [endT g s.make, rnT gm s, Thing.block gv 33 #[.int .i64 2, .int .i64 x1]]) := Lib.hid (up _ _ hl)
          clear hl hS up
          obtain ⟨S, hS, up⟩ := HW7.out.at_ 1 rfl
          go_wp2_with fail
          refine (nmake gm s _ S hS (by omega)).mono ?_
          rintro e w8 ⟨rfl, hl⟩
          have HW8 : Hid (Own w [] w8 [endT g s.make, rnT gm s.make, Thing.block gv 33 #[.int .i64 2, .int .i64 x1]]) := Lib.hid (up _ _ hl)
          clear hl hS up HW7 HWB cv0 cv1 lv
          have HMK : Hid (s.make.made.length = s.made.length + 1) := Lib.hid (by show (s.made ++ [s.pieces]).length = _; simp)
          generalize (⟨s.packet.toArray⟩ : ByteArray) = X at *
          go_wp2_with fail
          refine Met.intro ?_
          go_step
          exact ⟨s.make, ⟨by rw [HMK.out]; omega, HW8.out.take 2⟩, _, _, _, _, _, _, _, _, _, _, _, _, _, _, _, (by kernel_rfl), rfl⟩
      have k2 : (x0 == 2) = false := by simpa using h2
      as_aux_lemma =>
        obtain ⟨S, hS, up⟩ := HWB.out.at_ 0 rfl
        go_wp2_with fail
        refine (etake g s d _ S hS (HK.out.later HWB.out.since) (HCT.out.later HWB.out.since) (by omega) hsz).mono ?_
        rintro e w7 ⟨rfl, hl⟩
        have HW7 : Hid (Own w [] w7 [endT g (s.take d.data.toList), rnT gm s, Thing.block gv 33 #[.int .i64 x0, .int .i64 x1]]) := Lib.hid (up _ _ hl)
        clear hl hS up
        obtain ⟨S, hS, up⟩ := HW7.out.at_ 1 rfl
        go_wp2_with fail
        refine (NTk.ntake gm s d _ S hS (by omega) hsz).mono ?_
        rintro e w8 ⟨rfl, hl⟩
        have HW8 : Hid (Own w [] w8 [endT g (s.take d.data.toList), rnT gm (s.take d.data.toList), Thing.block gv 33 #[.int .i64 x0, .int .i64 x1]]) := Lib.hid (up _ _ hl)
        clear hl hS up HW7 HWB cv0 cv1 lv
        generalize s.takeE d.data.toList = E at *
        go_wp2_with fail
        refine (same_yes E _ (HE.out.later HW8.out.since)).mono ?_
        rintro e w9 ⟨rfl, hb9⟩
        have HW9 := Lib.hid (HW8.out.later hb9)
        clear hb9
        go_wp2_with fail
        refine Met.intro ?_
        go_step
        exact ⟨s.take d.data.toList, ⟨by rw [take_made]; omega, HW9.out.take 2⟩, _, _, _, _, _, _, _, _, _, _, _, _, _, _, _, (by kernel_rfl), rfl⟩
    intro a' w8 hinv
    obtain ⟨s8, ⟨hm8, hw8⟩, t3, t4, t5, t6, t7, t8, t10, t14, t15, t16, t17, t18, t19, t20, U, hU, rfl⟩ := hinv
    obtain ⟨u, rfl⟩ := growTail hU; clear hU
    have HW8 := Lib.hid hw8
    obtain ⟨S, hS, -⟩ := hw8.at_ 1 rfl
    obtain ⟨p, hp⟩ := rnT_open hS
    have HP := Lib.hid hp
    obtain ⟨Ac, cc, hcv, -, -, -⟩ := hp.lc.shape
    rw [List.length_map] at hcv
    have HRD : Hid (Rd w8 2 (.slice Ac s8.came.length cc) (s8.came.map rngRow)) := Lib.hid (by rw [← hcv]; exact Rd.of_lst hp.lc)
    have HCF : Hid (∀ W, Since w8 W → W.cell? ⟨gm, 65, none⟩ = some (.pointer (some ⟨p.gi, 0, none⟩)) ∧ W.cell? ⟨gm, 64, none⟩ = some (.slice Ac s8.came.length cc)) := Lib.hid (fun W hW => ⟨hW.cell hp.bg.lt hp.c65, by rw [← hcv]; exact hW.cell hp.bg.lt hp.c64⟩)
    obtain ⟨d65, d64⟩ := HCF.out w8 (Since.refl _)
    have lgm := hp.bg.lt
    have HER := Lib.hid (fun W (hW : Since w8 W) => by
      obtain ⟨S, hS, _⟩ := (HW8.out.later hW).at_ 0 rfl
      exact eready g s8 W S hS)
    have HQR := Lib.hid (fun W (hW : Since w8 W) => qready p.gi s8.M s8.t W (hp.qz.later hW))
    have HEA := Lib.hid (fun W (hW : Since w8 W) => by
      obtain ⟨S, hS, _⟩ := (HW8.out.later hW).at_ 0 rfl
      exact eacked g s8 W S hS)
    obtain ⟨nr, hnr⟩ : ∃ x, readyN s8.M s8.t = x := ⟨_, rfl⟩
    rw [hnr] at HER HQR
    have HEQ := Lib.hid (fun W A1 c1 (h1 : Rd W 2 (.slice A1 s8.came.length c1) (s8.came.map rngRow)) (hW : Since w8 W) => rngeqB A1 Ac c1 cc s8.came.length s8.came W rfl h1 (HRD.out.later hW))
    obtain ⟨nc, hnc⟩ : ∃ x, s8.came.length = x := ⟨_, rfl⟩
    rw [hnc] at HEA HEQ HCF d64
    clear hS hp hcv hw8 hnr hnc HWB cv0 cv1 lv
    go_upto_region 33 with fail
    go_region_held3 (fun w' => w'.cell? ⟨gm, 65, none⟩ = some (.pointer (some ⟨p.gi, 0, none⟩)) ∧ w'.cell? ⟨gm, 64, none⟩ = some (.slice Ac nc cc)) (first | exact HCF.out _ (by refine Since.out ?_; repeat (first | with_reducible assumption | with_reducible exact Since.refl _ | with_reducible refine Since.later ?_ (by with_reducible assumption) | with_reducible refine Since.only ?_ (by with_reducible assumption) (by first | assumption | omega | (simp; done) | (simp; omega)) | with_reducible refine Since.alloc ?_ _ | with_reducible refine Since.drewN ?_ _ | with_reducible refine Since.drew ?_ | with_reducible refine Since.set ?_ (by first | assumption | omega | (simp; done) | (simp; omega)) _))) (first
      | (go_at_call 19; refine (HER.out _ (show Since w8 _ from (by refine Since.out ?_; repeat (first | with_reducible assumption | with_reducible exact Since.refl _ | with_reducible refine Since.later ?_ (by with_reducible assumption) | with_reducible refine Since.only ?_ (by with_reducible assumption) (by first | assumption | omega | (simp; done) | (simp; omega)) | with_reducible refine Since.alloc ?_ _ | with_reducible refine Since.drewN ?_ _ | with_reducible refine Since.drew ?_ | with_reducible refine Since.set ?_ (by first | assumption | omega | (simp; done) | (simp; omega)) _)))).mono ?_; rintro e w10 ⟨rfl, hb10⟩; have hs10 : Since w8 w10 := (show Since w8 w10 from (by refine Since.out ?_; repeat (first | with_reducible assumption | with_reducible exact Since.refl _ | with_reducible refine Since.later ?_ (by with_reducible assumption) | with_reducible refine Since.only ?_ (by with_reducible assumption) (by first | assumption | omega | (simp; done) | (simp; omega)) | with_reducible refine Since.alloc ?_ _ | with_reducible refine Since.drewN ?_ _ | with_reducible refine Since.drew ?_ | with_reducible refine Since.set ?_ (by first | assumption | omega | (simp; done) | (simp; omega)) _))); clear hb10)
      | (go_at_call 20; refine (HQR.out _ (show Since w8 _ from (by refine Since.out ?_; repeat (first | with_reducible assumption | with_reducible exact Since.refl _ | with_reducible refine Since.later ?_ (by with_reducible assumption) | with_reducible refine Since.only ?_ (by with_reducible assumption) (by first | assumption | omega | (simp; done) | (simp; omega)) | with_reducible refine Since.alloc ?_ _ | with_reducible refine Since.drewN ?_ _ | with_reducible refine Since.drew ?_ | with_reducible refine Since.set ?_ (by first | assumption | omega | (simp; done) | (simp; omega)) _)))).mono ?_; rintro e w11 ⟨rfl, hb11⟩; have hs11 : Since w8 w11 := (show Since w8 w11 from (by refine Since.out ?_; repeat (first | with_reducible assumption | with_reducible exact Since.refl _ | with_reducible refine Since.later ?_ (by with_reducible assumption) | with_reducible refine Since.only ?_ (by with_reducible assumption) (by first | assumption | omega | (simp; done) | (simp; omega)) | with_reducible refine Since.alloc ?_ _ | with_reducible refine Since.drewN ?_ _ | with_reducible refine Since.drew ?_ | with_reducible refine Since.set ?_ (by first | assumption | omega | (simp; done) | (simp; omega)) _))); clear hb11)
      | (go_at_call 22; refine (HEA.out _ (show Since w8 _ from (by refine Since.out ?_; repeat (first | with_reducible assumption | with_reducible exact Since.refl _ | with_reducible refine Since.later ?_ (by with_reducible assumption) | with_reducible refine Since.only ?_ (by with_reducible assumption) (by first | assumption | omega | (simp; done) | (simp; omega)) | with_reducible refine Since.alloc ?_ _ | with_reducible refine Since.drewN ?_ _ | with_reducible refine Since.drew ?_ | with_reducible refine Since.set ?_ (by first | assumption | omega | (simp; done) | (simp; omega)) _)))).mono ?_; rintro e w12 ⟨A1, c1, rfl, hl12, hb12, -⟩; have HL12 := Lib.hid (Rd.of_lst hl12); have hs12 : Since w8 w12 := (show Since w8 w12 from (by refine Since.out ?_; repeat (first | with_reducible assumption | with_reducible exact Since.refl _ | with_reducible refine Since.later ?_ (by with_reducible assumption) | with_reducible refine Since.only ?_ (by with_reducible assumption) (by first | assumption | omega | (simp; done) | (simp; omega)) | with_reducible refine Since.alloc ?_ _ | with_reducible refine Since.drewN ?_ _ | with_reducible refine Since.drew ?_ | with_reducible refine Since.set ?_ (by first | assumption | omega | (simp; done) | (simp; omega)) _))); clear hl12 hb12)
      | (go_at_call 21; refine (HEQ.out _ A1 c1 ?_ (show Since w8 _ from (by refine Since.out ?_; repeat (first | with_reducible assumption | with_reducible exact Since.refl _ | with_reducible refine Since.later ?_ (by with_reducible assumption) | with_reducible refine Since.only ?_ (by with_reducible assumption) (by first | assumption | omega | (simp; done) | (simp; omega)) | with_reducible refine Since.alloc ?_ _ | with_reducible refine Since.drewN ?_ _ | with_reducible refine Since.drew ?_ | with_reducible refine Since.set ?_ (by first | assumption | omega | (simp; done) | (simp; omega)) _)))).mono ?_; (first | exact HL12.out | exact HL12.out.drew); rintro e w13 ⟨rfl, hb13⟩; have hs13 : Since w8 w13 := (show Since w8 w13 from (by refine Since.out ?_; repeat (first | with_reducible assumption | with_reducible exact Since.refl _ | with_reducible refine Since.later ?_ (by with_reducible assumption) | with_reducible refine Since.only ?_ (by with_reducible assumption) (by first | assumption | omega | (simp; done) | (simp; omega)) | with_reducible refine Since.alloc ?_ _ | with_reducible refine Since.drewN ?_ _ | with_reducible refine Since.drew ?_ | with_reducible refine Since.set ?_ (by first | assumption | omega | (simp; done) | (simp; omega)) _))); clear hb13))
    all_goals
      go_wp2_with fail
      refine ⟨⟨k + 1, s8, ⟨by omega, by omega, HW8.out.later hs13⟩, _, _, _, _, _, _, _, _, _, _, _, _, _, _, _, _, (by kernel_rfl), rfl⟩, ?_⟩
      simp [LM, intOf]
      omega

/-! the row -/
theorem own : ownKnob Tryz.prog.godebug = none := by kernel_rfl
theorem laidOut : laidOutB Tryz.prog = true := by kernel_rfl
set_option maxRecDepth 100000 in
theorem contract (H : Type) (enc : TypeId × Value → H) (W : World) (base : Nat) (args : Array Value) (ds gs : List (DataW H)) (before : List MemPlace)
    (hval : ∀ (j : Nat) t v, Tryz.f3.params[j]? = some t → args[j]? = some v → Value.okWide Tryz.prog W .any base t v)
    (hW : DataW.Whole enc Tryz.prog Tryz.f3.params.toList Rows.endPlaysSpec.vars false W args.toList ds gs before) (hsz : (DataW.weightsEach Tryz.prog (Tryz.f3.params.toList ++ (OpenSpec.ofChange Rows.endPlaysSpec).bare.plain.varTypes Tryz.prog) (ds ++ gs)).all (· ≤ reachBytes) = true) (hL : laidMetH Tryz.prog Rows.endPlaysRow.laid W) :
    Calls Tryz.prog 3 args W fun e W' => ∃ v, e = .returned v ∧ Rows.endPlaysSpec.post enc Tryz.prog Tryz.f3 false true false false W args v W' := by
  have hW' := hW
  obtain ⟨p, q, hA0, hV, rfl, hfz, hnd⟩ := hW
  have hA : DataW.TrodAll enc Tryz.prog W 0 (fun _ => true) true Tryz.f3.params.toList args.toList ds p := hA0
  rw [Tryz.params3] at hA hval
  obtain ⟨v0, vs0, d0, ds0, p0, q0, hargs, rfl, rfl, h0, r0⟩ := trodAll_cons hA
  obtain ⟨v1, vs1, d1, ds1, p1, q1, rfl, rfl, rfl, h1, r1⟩ := trodAll_cons r0
  obtain ⟨v2, vs2, d2, ds2, p2, q2, rfl, rfl, rfl, h2, r2⟩ := trodAll_cons r1
  obtain ⟨rfl, rfl, rfl⟩ := trodAll_nil r2
  obtain rfl : args = #[v0, v1, v2] := by cases args; simp_all
  obtain ⟨rfl, rfl⟩ := trodVars_none hV
  obtain ⟨a0, len0, cap0, rfl⟩ := okWide_slice Tryz.underlying22 (hval 0 22 v0 rfl rfl)
  have k0 := h0
  have lt0 : ∀ x ∈ p0, x.block < W.heap.size := by obtain ⟨m, hm⟩ := k0; exact DataW.trod_lt m _ _ _ hm
  obtain ⟨z0, w0⟩ : ∃ zs, IntsIn W (.slice a0 len0 cap0) zs := by
    obtain ⟨fuel, hf⟩ := h0
    exact intsIn_open Tryz.underlying22 Tryz.underlying3 (by kernel_rfl) hf lt0
  obtain ⟨a1, len1, cap1, rfl⟩ := okWide_slice Tryz.underlying23 (hval 1 23 v1 rfl rfl)
  have k1 := h1
  have lt1 : ∀ x ∈ p1, x.block < W.heap.size := by obtain ⟨m, hm⟩ := k1; exact DataW.trod_lt m _ _ _ hm
  obtain ⟨z1, w1⟩ : ∃ zs, IntRowsIn W (.slice a1 len1 cap1) zs := by
    obtain ⟨fuel, hf⟩ := h1
    exact intRowsIn_open Tryz.underlying23 Tryz.underlying22 Tryz.underlying3 (by kernel_rfl) (by kernel_rfl) hf lt1
  obtain ⟨a2, len2, cap2, rfl⟩ := okWide_slice Tryz.underlying24 (hval 2 24 v2 rfl rfl)
  have k2 := h2
  have lt2 : ∀ x ∈ p2, x.block < W.heap.size := by obtain ⟨m, hm⟩ := k2; exact DataW.trod_lt m _ _ _ hm
  obtain ⟨z2, w2⟩ : ∃ zs, StrsInS W (.slice a2 len2 cap2) zs := by
    obtain ⟨fuel, hf⟩ := h2
    exact strsIn_open_sized Tryz.underlying24 Tryz.underlying9 (by kernel_rfl) hf lt2 (fun n hn => of_decide_eq_true (List.all_eq_true.1 hsz n (DataW.weights_mem_each (j := 2) rfl rfl n hn)))
  have lw := laidWalk hL
  refine (walk (.slice a0 len0 cap0) z0 (.slice a1 len1 cap1) z1 (.slice a2 len2 cap2) z2 W w0 w1 w2 lw).mono fun e W' ⟨he, bel⟩ => ?_
  subst he
  exact ⟨_, rfl, _, _, _, [], _, [], hW', trodAll_mk1 (shut_bool Tryz.underlying4 _), (trodAll_cons_mk (Below.trod laidOut (by kernel_rfl) (of_decide_eq_true (by kernel_rfl)) k0 bel lt0) (trodAll_cons_mk (Below.trod laidOut (by kernel_rfl) (of_decide_eq_true (by kernel_rfl)) k1 bel lt1) (trodAll_cons_mk (Below.trod laidOut (by kernel_rfl) (of_decide_eq_true (by kernel_rfl)) k2 bel lt2) trodAll_mk0))), rfl, bel.frame _, fun h => by cases h⟩

theorem reads (os : Os) {H : Type} (enc : TypeId × Value → H) : ∃ places, DataW.whole enc Tryz.prog ((laidWorld os).forCall (fun _ _ => 0) ⟨#[], #[.slice none 0 0, .slice none 0 0, .slice none 0 0], []⟩).memory Tryz.f3.params.toList Rows.endPlaysSpec.vars false (#[.slice none 0 0, .slice none 0 0, .slice none 0 0] : Array Value).toList 8 = some ([.nil, .nil, .nil], [], places) :=
  ⟨[], by kernel_rfl⟩
theorem laid_met (os : Os) : laidMetH Tryz.prog Rows.endPlaysRow.laid ((laidWorld os).forCall (fun _ _ => 0) ⟨#[], #[.slice none 0 0, .slice none 0 0, .slice none 0 0], []⟩).memory := laidMetW os _

set_option maxRecDepth 100000 in
theorem lifted (os : Os) (started : os.Started) (H : Type) (enc : TypeId × Value → H) (F : Stop.Interp) :
    ReturnsInHanded {} Tryz.checked os 3 .any ((OpenSpec.ofChange Rows.endPlaysSpec).preRow enc Tryz.prog Tryz.f3 Rows.endPlaysRow.domain false Rows.endPlaysRow.laid) (((OpenSpec.ofChange Rows.endPlaysSpec).at F).post enc Tryz.prog Tryz.f3 false true false false) := by
  obtain ⟨places, hx⟩ := reads os enc
  refine returnsInHanded_of_row (C := Tryz.checked) (s := OpenSpec.ofChange Rows.endPlaysSpec) own started (by kernel_rfl) Tryz.func3
    (witness_row_at (enc := enc) (C := Tryz.checked) false (laidWorld os) #[.slice none 0 0, .slice none 0 0, .slice none 0 0] rfl (by kernel_rfl) (by kernel_rfl) (by kernel_rfl)
      (OpenSpec.preRow_of_cond 8 hx (by kernel_rfl) (fun k hk => by cases hk) (by kernel_rfl) (laid_met os))) ?_
  intro W base args ds gs before hval hW _ _ hsz hL _ _
  exact contract H enc W base args ds gs before hval hW hsz hL
end Go.Proofs.YtmfbaijbigodkaaGreatDoor.endPlays
