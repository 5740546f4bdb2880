/- MoveHidden: for every limit and steps the law returns true: no two paths are gone on with by one ID, only a path that is known is gone on with, and on one that is not never more than three times what came is sent. No condition. -/
import Derived.Test.YthnolkbolmbkdaaMovT
import Derived.Test.YthnolkbolmbkdaaHidLaw
import Derived.Test.YthnolkbolmbkdaaRow
import Derived.Test.YthnolkbolmbkdaaIns
import Derived.Deep.DeepCutAuto
import Derived.Deep.QuietTactic
import Derived.BigQuiet
import Derived.Test.YthnolkbolmbkdaaRows
import Derived.WalkKit
import Derived.ProofKit
import Derived.OpenShut
import Derived.ShutString
import Derived.ChangeOld
import Derived.Below
import Derived.Lib.SmallJoins
import Derived.Deep.Slices
import Derived.Deep.Matrix
import Derived.Deep.Strs
namespace Go.Proofs.Ythnolkbolmbkdaa.moveHidden
open Go.ChangeShapes Go.WideShapes Go.ChangeAt Go.RowKit
open Go.ChangeMaps (open_string shut_string)
set_option linter.unusedVariables false

def A1 : MvS := mOff (mv0 2) 7
def A2 : MvS := mOff A1 8
def A3 : MvS := mCame A2 1 10
def A4 : MvS := mAsk A3 1 99 5
def A5 : MvS := mAns A4 1 99 6 9
def A6 : MvS := mMov A5 1
theorem a1 : mOffE (mv0 2) 7 = 0 := rfl
theorem a2 : mOffE A1 8 = 0 := rfl
theorem a3 : mCameE A2 1 10 = 0 := rfl
theorem a4 : mAskE A3 1 99 5 = 0 := rfl
theorem a5 : ansB A4.As 1 99 6 9 = true := rfl
theorem a5' : ansE 1 99 6 9 = 0 := rfl
theorem a6 : mMovE A5 1 = 0 := rfl
theorem a7 : whE A6 = 0 ∧ whA A6 = 1 ∧ whS A6 = 1 := ⟨rfl, rfl, rfl⟩
theorem inv0 (n : Int) : MInv (mv0 n) := by
  refine ⟨Good.nil, fun q hq => ?_, (by show (0 : Int) ≤ 0; decide), (by show (0 : Int) ≤ 3; decide), rfl, Or.inl (by show (-1 : Int) < 0; decide)⟩
  match q, hq with
  | 0, _ => exact ⟨⟨(by show (0 : Int) ≤ 0; decide), (by show (0 : Int) ≤ 1073741823; decide), (by show (0 : Int) ≤ 0; decide), (by show (0 : Int) ≤ 1073741823; decide), fun h => by cases h⟩⟩
  | 1, _ => exact ⟨⟨(by show (0 : Int) ≤ 0; decide), (by show (0 : Int) ≤ 1073741823; decide), (by show (0 : Int) ≤ 0; decide), (by show (0 : Int) ≤ 1073741823; decide), fun _ => (by show (0 : Int) ≤ 3 * 0; decide)⟩⟩
  | 2, _ => exact ⟨⟨(by show (0 : Int) ≤ 0; decide), (by show (0 : Int) ≤ 1073741823; decide), (by show (0 : Int) ≤ 0; decide), (by show (0 : Int) ≤ 1073741823; decide), fun _ => (by show (0 : Int) ≤ 3 * 0; decide)⟩⟩
  | 3, _ => exact ⟨⟨(by show (0 : Int) ≤ 0; decide), (by show (0 : Int) ≤ 1073741823; decide), (by show (0 : Int) ≤ 0; decide), (by show (0 : Int) ≤ 1073741823; decide), fun _ => (by show (0 : Int) ≤ 3 * 0; decide)⟩⟩
  | _ + 4, h => omega
theorem ith_rep (m j : Nat) : ith (List.replicate m 0) j = 0 := by
  unfold ith
  rw [List.getD_eq_getElem?_getD, List.getElem?_replicate]
  split <;> rfl
theorem use0 (n : Int) : Use (mv0 n) (List.replicate 100 0) (-1) := by
  have hz : ∀ j, ith (List.replicate 100 0) j = 0 := ith_rep 100
  exact ⟨by simp, fun j => Or.inl (hz j), fun j h => absurd (hz j) h, fun j h => absurd (hz j) h, fun _ => ⟨rfl, hz⟩, fun h => by cases h⟩
def growRow (u : Nat → Value) : Nat → Nat → List Value
  | _, 0 => []
  | k, n + 1 => u k :: growRow u (k + 1) n
theorem growRow_congr {u v : Nat → Value} : ∀ (n k : Nat), (∀ i, k ≤ i → u i = v i) → growRow u k n = growRow v k n
  | 0, _, _ => rfl
  | n + 1, k, h => by
    rw [growRow, growRow, h k (Nat.le_refl k), growRow_congr n (k + 1) (fun i hi => h i (by omega))]
theorem growRow_any : ∀ (n k : Nat) (U : List Value), U.length = n → ∃ u : Nat → Value, U = growRow u k n
  | 0, k, U, h => ⟨fun _ => .nilIface, by rw [List.length_eq_zero_iff.1 h]; rfl⟩
  | n + 1, k, [], h => by simp at h
  | n + 1, k, x :: r, h => by
    obtain ⟨u, hu⟩ := growRow_any n (k + 1) r (by simpa using h)
    refine ⟨fun i => if i = k then x else u i, ?_⟩
    rw [growRow, if_pos rfl, hu]
    congr 1
    exact growRow_congr n (k + 1) (fun i hi => by rw [if_neg (by omega)])
set_option maxRecDepth 100000 in
theorem growTail {U : List Value} (h : U.length = 231) : ∃ u : Nat → Value, U = [u 32, u 33, u 34, u 35, u 36, u 37, u 38, u 39, u 40, u 41, u 42, u 43, u 44, u 45, u 46, u 47, u 48, u 49, u 50, u 51, u 52, u 53, u 54, u 55, u 56, u 57, u 58, u 59, u 60, u 61, u 62, u 63, u 64, u 65, u 66, u 67, u 68, u 69, u 70, u 71, u 72, u 73, u 74, u 75, u 76, u 77, u 78, u 79, u 80, u 81, u 82, u 83, u 84, u 85, u 86, u 87, u 88, u 89, u 90, u 91, u 92, u 93, u 94, u 95, u 96, u 97, u 98, u 99, u 100, u 101, u 102, u 103, u 104, u 105, u 106, u 107, u 108, u 109, u 110, u 111, u 112, u 113, u 114, u 115, u 116, u 117, u 118, u 119, u 120, u 121, u 122, u 123, u 124, u 125, u 126, u 127, u 128, u 129, u 130, u 131, u 132, u 133, u 134, u 135, u 136, u 137, u 138, u 139, u 140, u 141, u 142, u 143, u 144, u 145, u 146, u 147, u 148, u 149, u 150, u 151, u 152, u 153, u 154, u 155, u 156, u 157, u 158, u 159, u 160, u 161, u 162, u 163, u 164, u 165, u 166, u 167, u 168, u 169, u 170, u 171, u 172, u 173, u 174, u 175, u 176, u 177, u 178, u 179, u 180, u 181, u 182, u 183, u 184, u 185, u 186, u 187, u 188, u 189, u 190, u 191, u 192, u 193, u 194, u 195, u 196, u 197, u 198, u 199, u 200, u 201, u 202, u 203, u 204, u 205, u 206, u 207, u 208, u 209, u 210, u 211, u 212, u 213, u 214, u 215, u 216, u 217, u 218, u 219, u 220, u 221, u 222, u 223, u 224, u 225, u 226, u 227, u 228, u 229, u 230, u 231, u 232, u 233, u 234, u 235, u 236, u 237, u 238, u 239, u 240, u 241, u 242, u 243, u 244, u 245, u 246, u 247, u 248, u 249, u 250, u 251, u 252, u 253, u 254, u 255, u 256, u 257, u 258, u 259, u 260, u 261, u 262] := by
  obtain ⟨u, hu⟩ := growRow_any 231 32 U h
  exact ⟨u, hu.trans (by kernel_rfl)⟩
abbrev intsArr (U : List Int) : Array Value := (U.map fun n => Value.int .i64 n).toArray
theorem hmk (W : World) : (Instr.makeSlice 35 (.int .i64 100) (.int .i64 100)).run Try.prog W = .ok (.slice (some ⟨W.heap.size, 0, none⟩) 100 100) (W.alloc (.cells (intsArr (List.replicate 100 0)) 3)) := by kernel_rfl
def Hid0 (w wx : World) (g gu : Nat) (s : MvS) (U : List Int) : Prop := Own w [] wx [moverT g s, Thing.block gu 3 (intsArr U)]
set_option maxRecDepth 100000 in
/-- a round's head -/
def LI (w : World) (n : Int) (A : Option Addr) (l cap g gu : Nat) (a : Act) (wx : World) : Prop := ∃ (k : Nat) (last : Int) (U : List Int) (s : MvS), (k ≤ 60 ∧ -1 ≤ last ∧ last ≤ 3 ∧ Hid0 w wx g gu s U ∧ MInv s ∧ Use s U last) ∧
  ∃ (t2 t3 t4 t5 t6 t7 t8 t9 t10 t11 t12 t13 t14 t15 t16 t18 t22 t23 t24 t25 t26 t27 t28 t29 t30 t31 : Value) (U : List Value), U.length = 231 ∧ a = ⟨((.int .i64 n) :: (.slice A l cap) :: t2 :: t3 :: t4 :: t5 :: t6 :: t7 :: t8 :: t9 :: t10 :: t11 :: t12 :: t13 :: t14 :: t15 :: t16 :: (.pointer (some ⟨g, 0, none⟩)) :: t18 :: (.slice (some ⟨gu, 0, none⟩) 100 100) :: (.int .i64 last) :: (.int .i64 k) :: t22 :: t23 :: t24 :: t25 :: t26 :: t27 :: t28 :: t29 :: t30 :: t31 :: U).toArray, []⟩
def LM (a : Act) (wx : World) : Nat := 60 - (intOf (a.tmps.toList.getD 21 undef)).toNat
set_option maxRecDepth 100000 in
def RC (n : Int) (A : Option Addr) (l cap g gu : Nat) (k : Nat) (last : Int) (q : Nat) (wo : World) (x : List Int) (a : Act) (wx : World) : Prop := (BlockIs wx q 36 (x.map fun n => .int .i64 n).toArray ∧ Since wo wx) ∧
  ∃ (t2 t3 t4 t5 t6 t7 t8 t9 t10 t11 t12 t13 t14 t15 t16 t18 t23 t24 t25 t26 t27 t28 t29 t30 t31 : Value) (U : List Value), U.length = 231 ∧ a = ⟨((.int .i64 n) :: (.slice A l cap) :: t2 :: t3 :: t4 :: t5 :: t6 :: t7 :: t8 :: t9 :: t10 :: t11 :: t12 :: t13 :: t14 :: t15 :: t16 :: (.pointer (some ⟨g, 0, none⟩)) :: t18 :: (.slice (some ⟨gu, 0, none⟩) 100 100) :: (.int .i64 last) :: (.int .i64 k) :: (.pointer (some ⟨q, 0, none⟩)) :: t23 :: t24 :: t25 :: t26 :: t27 :: t28 :: t29 :: t30 :: t31 :: U).toArray, []⟩
set_option maxRecDepth 100000 in
def RCL (n : Int) (A : Option Addr) (l cap g gu : Nat) (k : Nat) (last : Int) (q : Nat) (wo : World) (r : List Int) (a : Act) (wx : World) : Prop := ∃ j : Nat, (j ≤ 5 ∧ j ≤ r.length ∧ BlockIs wx q 36 #[.int .i64 (vv r j 0), .int .i64 (vv r j 1), .int .i64 (vv r j 2), .int .i64 (vv r j 3), .int .i64 (vv r j 4)] ∧ Since wo wx) ∧
  ∃ (t2 t3 t4 t5 t6 t7 t8 t9 t10 t11 t12 t13 t14 t15 t16 t18 t24 t25 t26 t27 t28 t29 t30 t31 : Value) (U : List Value), U.length = 231 ∧ a = ⟨((.int .i64 n) :: (.slice A l cap) :: t2 :: t3 :: t4 :: t5 :: t6 :: t7 :: t8 :: t9 :: t10 :: t11 :: t12 :: t13 :: t14 :: t15 :: t16 :: (.pointer (some ⟨g, 0, none⟩)) :: t18 :: (.slice (some ⟨gu, 0, none⟩) 100 100) :: (.int .i64 last) :: (.int .i64 k) :: (.pointer (some ⟨q, 0, none⟩)) :: (.int .i64 j) :: t24 :: t25 :: t26 :: t27 :: t28 :: t29 :: t30 :: t31 :: U).toArray, []⟩
def RCM (a : Act) (wx : World) : Nat := 5 - (intOf (a.tmps.toList.getD 23 undef)).toNat
set_option maxRecDepth 100000 in
/-- behind the switch -/
def SC (w : World) (n : Int) (A : Option Addr) (l cap g gu : Nat) (k : Nat) (last : Int) (U : List Int) (s : MvS) (a : Act) (wx : World) : Prop := ∃ s' : MvS, (Hid0 w wx g gu s' U ∧ MInv s' ∧ Step s s') ∧
  ∃ (t2 t3 t4 t5 t6 t7 t8 t9 t10 t11 t12 t13 t14 t15 t16 t18 t22 t23 t24 t25 t26 t27 t28 t29 t30 t31 : Value) (U : List Value), U.length = 231 ∧ a = ⟨((.int .i64 n) :: (.slice A l cap) :: t2 :: t3 :: t4 :: t5 :: t6 :: t7 :: t8 :: t9 :: t10 :: t11 :: t12 :: t13 :: t14 :: t15 :: t16 :: (.pointer (some ⟨g, 0, none⟩)) :: t18 :: (.slice (some ⟨gu, 0, none⟩) 100 100) :: (.int .i64 last) :: (.int .i64 k) :: t22 :: t23 :: t24 :: t25 :: t26 :: t27 :: t28 :: t29 :: t30 :: t31 :: U).toArray, []⟩

set_option maxRecDepth 100000 in
/-- a round over the paths -/
def KL (w : World) (n : Int) (A : Option Addr) (l cap g gu : Nat) (k : Nat) (last : Int) (U : List Int) (s : MvS) (a : Act) (wx : World) : Prop := ∃ t : Int, (0 ≤ t ∧ t ≤ 4 ∧ Hid0 w wx g gu s U) ∧
  ∃ (t2 t3 t4 t5 t6 t7 t8 t9 t10 t11 t12 t13 t14 t15 t16 t18 t22 t23 t25 t26 t27 t28 t29 t30 t31 : Value) (U : List Value), U.length = 231 ∧ a = ⟨((.int .i64 n) :: (.slice A l cap) :: t2 :: t3 :: t4 :: t5 :: t6 :: t7 :: t8 :: t9 :: t10 :: t11 :: t12 :: t13 :: t14 :: t15 :: t16 :: (.pointer (some ⟨g, 0, none⟩)) :: t18 :: (.slice (some ⟨gu, 0, none⟩) 100 100) :: (.int .i64 last) :: (.int .i64 k) :: t22 :: t23 :: (.int .i64 t) :: t25 :: t26 :: t27 :: t28 :: t29 :: t30 :: t31 :: U).toArray, []⟩
def KM (a : Act) (wx : World) : Nat := (4 - intOf (a.tmps.toList.getD 24 undef)).toNat
set_option maxRecDepth 100000 in
/-- behind the note of the name -/
def NC (w : World) (n : Int) (A : Option Addr) (l cap g gu : Nat) (k : Nat) (last : Int) (at_ : Int) (s : MvS) (a : Act) (wx : World) : Prop := ∃ U : List Int, (Hid0 w wx g gu s U ∧ Use s U at_) ∧
  ∃ (t2 t3 t4 t5 t6 t7 t8 t9 t10 t11 t12 t13 t14 t15 t16 t18 t22 t23 t24 t25 t26 t28 t29 t30 t31 : Value) (U : List Value), U.length = 231 ∧ a = ⟨((.int .i64 n) :: (.slice A l cap) :: t2 :: t3 :: t4 :: t5 :: t6 :: t7 :: t8 :: t9 :: t10 :: t11 :: t12 :: t13 :: t14 :: t15 :: t16 :: (.pointer (some ⟨g, 0, none⟩)) :: t18 :: (.slice (some ⟨gu, 0, none⟩) 100 100) :: (.int .i64 last) :: (.int .i64 k) :: t22 :: t23 :: t24 :: t25 :: t26 :: (.int .i64 at_) :: t28 :: t29 :: t30 :: t31 :: U).toArray, []⟩
theorem few_names {w : World} {S : List Nat} {g : Nat} {s : MvS} (h : (moverT g s).is w S) : s.N.length ≤ 100 := by
  obtain ⟨B, _, hz, _⟩ := h
  exact hz.iz.most

set_option maxRecDepth 100000 in
set_option maxHeartbeats 40000000 in
theorem walk (n : Int) (v1 : Value) (Z : List (List Int)) (w : World) (w0 : (Lit.int .i64 n).wf = true) (w1 : IntRowsIn w v1 Z) :
    Calls Try.prog 3 #[.int .i64 n, v1] w fun e w' => e = .returned (.bool true) ∧ Below w.heap.size w w' := by
  obtain ⟨A, cap, rfl, hle0, hm0, hc⟩ := w1
  unfold maxLen at hm0
  have hZ : Z.length ≤ 9223372036854775807 := by omega
  have HC := Lib.hid hc
  clear hc w0
  go_enter Try.func3, Try.ntmps3
  go_wp2_with fail
  refine (tnew 2 (by omega) (by omega) _).mono ?_
  rintro e w1 ⟨g1, rfl, ⟨S1, hi1, hn1⟩, hb1⟩
  have HO1 : Hid (Own w [] w1 [moverT g1 (mv0 2)]) := Lib.hid ((Own.start w).add hb1 hi1 hn1)
  clear hi1 hn1 hb1
  obtain ⟨S0, hS0, up0⟩ := HO1.out.at_ 0 rfl
  go_wp2_with fail
  refine (toffer 7 hS0).mono ?_
  rintro e w2 ⟨rfl, hl⟩
  have HO2 : Hid (Own w [] w2 [moverT g1 A1]) := Lib.hid (up0 _ _ hl)
  rw [a1, errV_zero]
  clear hS0 up0 hl HO1
  obtain ⟨S0, hS0, up0⟩ := HO2.out.at_ 0 rfl
  go_wp2_with fail
  refine (toffer 8 hS0).mono ?_
  rintro e w3 ⟨rfl, hl⟩
  have HO3 : Hid (Own w [] w3 [moverT g1 A2]) := Lib.hid (up0 _ _ hl)
  rw [a2, errV_zero]
  clear hS0 up0 hl HO2
  obtain ⟨S0, hS0, up0⟩ := HO3.out.at_ 0 rfl
  go_wp2_with fail
  refine (tcame 1 10 hS0).mono ?_
  rintro e w4 ⟨rfl, hl⟩
  have HO4 : Hid (Own w [] w4 [moverT g1 A3]) := Lib.hid (up0 _ _ hl)
  rw [a3, errV_zero]
  clear hS0 up0 hl HO3
  obtain ⟨S0, hS0, up0⟩ := HO4.out.at_ 0 rfl
  go_wp2_with fail
  refine (task_ 1 99 5 hS0).mono ?_
  rintro e w5 ⟨rfl, hl⟩
  have HO5 : Hid (Own w [] w5 [moverT g1 A4]) := Lib.hid (up0 _ _ hl)
  rw [a4, errV_zero]
  clear hS0 up0 hl HO4
  obtain ⟨S0, hS0, up0⟩ := HO5.out.at_ 0 rfl
  go_wp2_with fail
  refine (tanswer 1 99 6 9 hS0).mono ?_
  rintro e w6 ⟨rfl, hl⟩
  have HO6 : Hid (Own w [] w6 [moverT g1 A5]) := Lib.hid (up0 _ _ hl)
  rw [a5, a5', errV_zero]
  clear hS0 up0 hl HO5
  obtain ⟨S0, hS0, up0⟩ := HO6.out.at_ 0 rfl
  go_wp2_with fail
  refine (tmove 1 hS0).mono ?_
  rintro e w7 ⟨rfl, hl⟩
  have HO7 : Hid (Own w [] w7 [moverT g1 A6]) := Lib.hid (up0 _ _ hl)
  rw [a6, errV_zero]
  clear hS0 up0 hl HO6
  obtain ⟨S0, hS0, _⟩ := HO7.out.at_ 0 rfl
  go_wp2_with fail
  refine (twhere hS0).mono ?_
  rintro e w8 ⟨rfl, hb8⟩
  rw [a7.1, a7.2.1, a7.2.2, errV_zero]
  have hs8 : Since w w8 := HO7.out.since.later hb8
  clear hS0 hb8 HO7
  by_cases hn : 1 ≤ n ∧ n ≤ 8
  case neg =>
    by_cases hlo : n < 1
    · clear hn
      go_wp2_with fail
      refine (mnew_no n (by omega) _).mono ?_
      rintro e w9 ⟨rfl, rfl⟩
      rw [errV_pos (by decide)]
      go_wp2_with fail
      go_ret
      exact ⟨by first | rfl | simp, hs8⟩
    · have hhi : 8 < n := by omega
      have hlo' : decide (n < 1) = false := by simpa using hlo
      clear hn hlo
      go_wp2_with fail
      refine (mnew_no n (by omega) _).mono ?_
      rintro e w9 ⟨rfl, rfl⟩
      rw [errV_pos (by decide)]
      go_wp2_with fail
      go_ret
      exact ⟨by first | rfl | simp, hs8⟩
  have n1 := hn.1
  have n2 := hn.2
  clear hn
  go_wp2_with fail
  refine (tnew n n1 n2 _).mono ?_
  rintro e w9 ⟨g, rfl, ⟨S1, hi1, hn1⟩, hb1⟩
  have HO9 : Hid (Own w [] w9 [moverT g (mv0 n)]) := Lib.hid (((Own.start w).later hs8).add hb1 hi1 hn1)
  clear hi1 hn1 hb1 hs8
  have HM := hmk
  obtain ⟨ar, har⟩ : ∃ ar, intsArr (List.replicate 100 0) = ar := ⟨_, rfl⟩
  rw [har] at HM
  have HAR := Lib.hid har
  clear har
  go_wp2_with fail
  clear HM
  have hO : Hid0 w (w9.alloc (.cells ar 3)) g w9.heap.size (mv0 n) (List.replicate 100 0) := by
    unfold Hid0
    rw [HAR.out]
    exact HO9.out.alloc 3 ar
  have HO := Lib.hid hO
  clear hO HO9 HAR
  generalize w9.alloc (.cells ar 3) = wa at *
  generalize w9.heap.size = gu at *
  refine wp_loop (LI w n A Z.length cap g gu) LM ?_ ?_
  next => exact ⟨0, -1, List.replicate 100 0, mv0 n, ⟨by omega, by omega, by omega, HO.out, inv0 n, use0 n⟩, _, _, _, _, _, _, _, _, _, _, _, _, _, _, _, _, _, _, _, _, _, _, _, _, _, _, _, (by kernel_rfl), rfl⟩
  next =>
    intro a' wr hinv
    obtain ⟨k, last, U, s, ⟨hk, hl1, hl2, ho, hi, hu⟩, t2, t3, t4, t5, t6, t7, t8, t9, t10, t11, t12, t13, t14, t15, t16, t18, t22, t23, t24, t25, t26, t27, t28, t29, t30, t31, U, hU, rfl⟩ := hinv
    obtain ⟨u, rfl⟩ := growTail hU; clear hU
    have hs : Since w wr := Own.since ho
    by_cases hlen : k < Z.length
    case neg =>
      have hlen' : decide ((k : Int) < (Z.length : Int)) = false := by simp; omega
      clear ho hi hu
      go_wp2_with fail
      go_ret
      exact ⟨rfl, (by refine Since.out ?_; repeat (first | with_reducible assumption | with_reducible exact Since.refl _ | with_reducible refine Since.later ?_ (by with_reducible assumption) | with_reducible refine Since.only ?_ (by with_reducible assumption) (by first | assumption | omega | (simp; done) | (simp; omega)) | with_reducible refine Since.alloc ?_ _ | with_reducible refine Since.drewN ?_ _ | with_reducible refine Since.drew ?_ | with_reducible refine Since.set ?_ (by first | assumption | omega | (simp; done) | (simp; omega)) _))⟩
    by_cases h60 : k < 60
    case neg =>
      have hlen' : (k : Int) < (Z.length : Int) := by omega
      have h60' : decide ((k : Int) < 60) = false := by simp; omega
      clear ho hi hu
      go_wp2_with fail
      go_ret
      exact ⟨rfl, (by refine Since.out ?_; repeat (first | with_reducible assumption | with_reducible exact Since.refl _ | with_reducible refine Since.later ?_ (by with_reducible assumption) | with_reducible refine Since.only ?_ (by with_reducible assumption) (by first | assumption | omega | (simp; done) | (simp; omega)) | with_reducible refine Since.alloc ?_ _ | with_reducible refine Since.drewN ?_ _ | with_reducible refine Since.drew ?_ | with_reducible refine Since.set ?_ (by first | assumption | omega | (simp; done) | (simp; omega)) _))⟩
    have hlen' : (k : Int) < (Z.length : Int) := by omega
    have h60' : (k : Int) < 60 := by omega
    obtain ⟨b, off, rfl, hlt, hc⟩ := HC.out (by rintro rfl; simp at hlen)
    obtain ⟨x, hx, hI⟩ := hc k hlen
    clear hc
    generalize Z.getD k [] = r at *
    obtain ⟨bdr, A', cap', rfl, hle', hm', hcr⟩ := hI
    have HX := Lib.hid hx
    have HR := Lib.hid hcr
    unfold maxLen at hm'
    clear hx hcr bdr
    have HO1 := Lib.hid ho
    have HI := Lib.hid hi
    have HU := Lib.hid hu
    clear ho hi hu
    obtain ⟨wo, rfl⟩ : ∃ wo : World, wo = wr := ⟨_, rfl⟩
    repeat ((fail_if_success (with_reducible refine stop_at 22 ?_)); first | fail | go_values | go_skip | go_guarded | go_step | go_upon | go_back | go_simp)
    refine wp_cut (RC n (some ⟨b, off, none⟩) Z.length cap g gu k last wo.heap.size wo [ith r 0, ith r 1, ith r 2, ith r 3, ith r 4]) ?_ ?_
    rotate_left
    next =>
      as_aux_lemma =>
        intro _ _ _ _
        go_wp2_with fail
        refine wp_loop (RCL n (some ⟨b, off, none⟩) Z.length cap g gu k last wo.heap.size wo r) RCM ?_ ?_
        next => exact ⟨0, ⟨by omega, by omega, BlockIs.fresh _ _ _, (by refine Since.out ?_; repeat (first | with_reducible assumption | with_reducible exact Since.refl _ | with_reducible refine Since.later ?_ (by with_reducible assumption) | with_reducible refine Since.only ?_ (by with_reducible assumption) (by first | assumption | omega | (simp; done) | (simp; omega)) | with_reducible refine Since.alloc ?_ _ | with_reducible refine Since.drewN ?_ _ | with_reducible refine Since.drew ?_ | with_reducible refine Since.set ?_ (by first | assumption | omega | (simp; done) | (simp; omega)) _))⟩, _, _, _, _, _, _, _, _, _, _, _, _, _, _, _, _, _, _, _, _, _, _, _, _, _, (by kernel_rfl), rfl⟩
        next =>
          intro a' wr hinv
          obtain ⟨j, ⟨hj2, hjr, hB, hs2⟩, t2, t3, t4, t5, t6, t7, t8, t9, t10, t11, t12, t13, t14, t15, t16, t18, t24, t25, t26, t27, t28, t29, t30, t31, U, hU, rfl⟩ := hinv
          obtain ⟨u, rfl⟩ := growTail hU; clear hU
          have cx : wr.cell? ⟨b, off + k, none⟩ = some (.slice A' r.length cap') := hs2.cell (Nat.lt_of_lt_of_le hlt hs.le) (hs.cell hlt HX.out)
          by_cases hjl : j < r.length
          case neg =>
            have hjl' : decide ((j : Int) < (r.length : Int)) = false := by simp; omega
            have HB := Lib.hid (vv_end5 (Or.inl (by omega : r.length ≤ j)) ▸ hB)
            clear hB
            go_wp2_with fail
            refine Met.intro ?_
            go_step
            exact ⟨⟨HB.out, hs2⟩, _, _, _, _, _, _, _, _, _, _, _, _, _, _, _, _, _, _, _, _, _, _, _, _, _, _, (by kernel_rfl), rfl⟩
          by_cases hj2' : j < 5
          case neg =>
            have hj3 : decide ((j : Int) < 5) = false := by simp; omega
            have hjl' : (j : Int) < (r.length : Int) := by omega
            have HB := Lib.hid (vv_end5 (r := r) (Or.inr (by omega : 5 ≤ j)) ▸ hB)
            clear hB
            go_wp2_with fail
            refine Met.intro ?_
            go_step
            exact ⟨⟨HB.out, hs2⟩, _, _, _, _, _, _, _, _, _, _, _, _, _, _, _, _, _, _, _, _, _, _, _, _, _, _, (by kernel_rfl), rfl⟩
          have hjl' : (j : Int) < (r.length : Int) := by omega
          have hj3 : (j : Int) < 5 := by omega
          obtain ⟨b2, off2, rfl, hlt2, hc2⟩ := HR.out (by rintro rfl; simp at hjl)
          obtain ⟨y, hy⟩ : ∃ y, ith r j = y := ⟨_, rfl⟩
          have cj : wr.cell? ⟨b2, off2 + j, none⟩ = some (.int .i64 y) := hy ▸ hs2.cell (Nat.lt_of_lt_of_le hlt2 hs.le) (hs.cell hlt2 (hc2 j hjl))
          have fj := hB.free
          have ij : wr.cell? ⟨wo.heap.size, j, none⟩ = some (.int .i64 0) := (hB.cell j).trans (vv_next5 r hj2').1
          have HB := Lib.hid (hy ▸ (vv_next5 r hj2').2 ▸ hB.put j (.int .i64 (ith r j)))
          clear hc2 hB hy
          go_wp2_with fail
          refine ⟨⟨j + 1, ⟨by omega, by omega, HB.out, (by refine Since.out ?_; repeat (first | with_reducible assumption | with_reducible exact Since.refl _ | with_reducible refine Since.later ?_ (by with_reducible assumption) | with_reducible refine Since.only ?_ (by with_reducible assumption) (by first | assumption | omega | (simp; done) | (simp; omega)) | with_reducible refine Since.alloc ?_ _ | with_reducible refine Since.drewN ?_ _ | with_reducible refine Since.drew ?_ | with_reducible refine Since.set ?_ (by first | assumption | omega | (simp; done) | (simp; omega)) _))⟩, _, _, _, _, _, _, _, _, _, _, _, _, _, _, _, _, _, _, _, _, _, _, _, _, _, (by kernel_rfl), rfl⟩, ?_⟩
          simp [RCM, intOf]
          omega
    intro a' wv hinv
    obtain ⟨⟨hBv, hs2⟩, t2, t3, t4, t5, t6, t7, t8, t9, t10, t11, t12, t13, t14, t15, t16, t18, t23, t24, t25, t26, t27, t28, t29, t30, t31, U, hU, rfl⟩ := hinv
    obtain ⟨u, rfl⟩ := growTail hU; clear hU
    simp only [List.map_cons, List.map_nil] at hBv
    have hOv : Own w [] wv [moverT g s, Thing.block gu 3 (intsArr U), Thing.block wo.heap.size 36 #[.int .i64 (ith r 0), .int .i64 (ith r 1), .int .i64 (ith r 2), .int .i64 (ith r 3), .int .i64 (ith r 4)]] :=
      HO1.out.add hs2.out (S := [wo.heap.size]) ⟨hBv, rfl⟩ (by simp)
    generalize ith r 0 = x0 at *
    generalize ith r 1 = x1 at *
    generalize ith r 2 = x2 at *
    generalize ith r 3 = x3 at *
    generalize ith r 4 = x4 at *
    have HO2 := Lib.hid hOv
    have c0 : wv.cell? ⟨wo.heap.size, 0, none⟩ = some (.int .i64 x0) := hBv.cell 0
    have c1 : wv.cell? ⟨wo.heap.size, 1, none⟩ = some (.int .i64 x1) := hBv.cell 1
    have c2 : wv.cell? ⟨wo.heap.size, 2, none⟩ = some (.int .i64 x2) := hBv.cell 2
    have c3 : wv.cell? ⟨wo.heap.size, 3, none⟩ = some (.int .i64 x3) := hBv.cell 3
    have c4 : wv.cell? ⟨wo.heap.size, 4, none⟩ = some (.int .i64 x4) := hBv.cell 4
    have lv := hBv.lt
    clear hBv hs2 hs HX HR HO1 hOv
    generalize wo.heap.size = gv at *
    repeat ((fail_if_success (with_reducible refine stop_at 26 ?_)); first | fail | go_values | go_skip | go_guarded | go_step | go_upon | go_back | go_simp)
    refine wp_cut (SC w n (some ⟨b, off, none⟩) Z.length cap g gu k last U s) ?_ ?_
    rotate_left
    next =>
      as_aux_lemma =>
        intro _ _ _ _
        obtain ⟨S0, hS0, up0⟩ := HO2.out.at_ 0 rfl
        have fin : Hid (∀ s' wx, MInv s' ∧ Step s s' → Leaves wv wx S0 (moverT g s') → Hid0 w wx g gu s' U ∧ MInv s' ∧ Step s s') := Lib.hid (fun s' wx h hl => ⟨(up0 _ _ hl).take 2, h.1, h.2⟩)
        have HI2 := HI.out
        clear up0
        by_cases h0 : x0 = 0
        · subst h0
          go_wp2_with fail
          refine (toffer x1 hS0).mono ?_
          rintro e w2 ⟨rfl, hl⟩
          have HF := Lib.hid (fin.out _ _ (HI2.offer x1) hl)
          clear hl
          go_wp2_with fail
          refine Met.intro ?_
          go_step
          exact ⟨_, HF.out, _, _, _, _, _, _, _, _, _, _, _, _, _, _, _, _, _, _, _, _, _, _, _, _, _, _, _, (by kernel_rfl), rfl⟩
        by_cases h1 : x0 = 1
        · subst h1
          go_wp2_with fail
          refine (tcame x1 x2 hS0).mono ?_
          rintro e w2 ⟨rfl, hl⟩
          have HF := Lib.hid (fin.out _ _ (HI2.came x1 x2) hl)
          clear hl
          go_wp2_with fail
          refine Met.intro ?_
          go_step
          exact ⟨_, HF.out, _, _, _, _, _, _, _, _, _, _, _, _, _, _, _, _, _, _, _, _, _, _, _, _, _, _, _, (by kernel_rfl), rfl⟩
        by_cases h2 : x0 = 2
        · subst h2
          go_wp2_with fail
          refine (tcame x1 x2 hS0).mono ?_
          rintro e w2 ⟨rfl, hl⟩
          have HF := Lib.hid (fin.out _ _ (HI2.came x1 x2) hl)
          clear hl
          go_wp2_with fail
          refine Met.intro ?_
          go_step
          exact ⟨_, HF.out, _, _, _, _, _, _, _, _, _, _, _, _, _, _, _, _, _, _, _, _, _, _, _, _, _, _, _, (by kernel_rfl), rfl⟩
        by_cases h3 : x0 = 3
        · subst h3
          go_wp2_with fail
          refine (tsend x1 x2 hS0).mono ?_
          rintro e w2 ⟨rfl, hl⟩
          have HF := Lib.hid (fin.out _ _ (HI2.send x1 x2) hl)
          clear hl
          go_wp2_with fail
          refine Met.intro ?_
          go_step
          exact ⟨_, HF.out, _, _, _, _, _, _, _, _, _, _, _, _, _, _, _, _, _, _, _, _, _, _, _, _, _, _, _, (by kernel_rfl), rfl⟩
        by_cases h4 : x0 = 4
        · subst h4
          go_wp2_with fail
          refine (task_ x1 x2 x3 hS0).mono ?_
          rintro e w2 ⟨rfl, hl⟩
          have HF := Lib.hid (fin.out _ _ (HI2.ask x1 x2 x3) hl)
          clear hl
          go_wp2_with fail
          refine Met.intro ?_
          go_step
          exact ⟨_, HF.out, _, _, _, _, _, _, _, _, _, _, _, _, _, _, _, _, _, _, _, _, _, _, _, _, _, _, _, (by kernel_rfl), rfl⟩
        by_cases h5 : x0 = 5
        · subst h5
          go_wp2_with fail
          refine (tanswer x1 x2 x3 x4 hS0).mono ?_
          rintro e w2 ⟨rfl, hl⟩
          have HF := Lib.hid (fin.out _ _ (HI2.ans x1 x2 x3 x4) hl)
          clear hl
          go_wp2_with fail
          refine Met.intro ?_
          go_step
          exact ⟨_, HF.out, _, _, _, _, _, _, _, _, _, _, _, _, _, _, _, _, _, _, _, _, _, _, _, _, _, _, _, (by kernel_rfl), rfl⟩
        have h0' : (x0 == 0) = false := by simpa using h0
        have h1' : (x0 == 1) = false := by simpa using h1
        have h2' : (x0 == 2) = false := by simpa using h2
        have h3' : (x0 == 3) = false := by simpa using h3
        have h4' : (x0 == 4) = false := by simpa using h4
        have h5' : (x0 == 5) = false := by simpa using h5
        clear h0 h1 h2 h3 h4 h5
        go_wp2_with fail
        refine (tmove x1 hS0).mono ?_
        rintro e w2 ⟨rfl, hl⟩
        have HF := Lib.hid (fin.out _ _ (HI2.move x1) hl)
        clear hl
        go_wp2_with fail
        refine Met.intro ?_
        go_step
        exact ⟨_, HF.out, _, _, _, _, _, _, _, _, _, _, _, _, _, _, _, _, _, _, _, _, _, _, _, _, _, _, _, (by kernel_rfl), rfl⟩
    intro a' wz hinv
    obtain ⟨s', ⟨ho, hi, hst⟩, t2, t3, t4, t5, t6, t7, t8, t9, t10, t11, t12, t13, t14, t15, t16, t18, t22, t23, t24, t25, t26, t27, t28, t29, t30, t31, U, hU, rfl⟩ := hinv
    obtain ⟨u, rfl⟩ := growTail hU; clear hU
    have hfew : s'.N.length ≤ 100 := by
      obtain ⟨S, hS, _⟩ := Own.at_ ho 0 rfl
      exact few_names hS
    have HN := Lib.hid (Use.next HI.out hi hfew hst HU.out)
    have HUL := Lib.hid HU.out.len
    have HO3 := Lib.hid ho
    have HI3 := Lib.hid hi
    clear ho hi hst HI HO2 c0 c1 c2 c3 c4 lv HU
    go_wp2_with fail
    refine wp_loop (KL w n (some ⟨b, off, none⟩) Z.length cap g gu k last U s') KM ?_ ?_
    next => exact ⟨0, ⟨by omega, by omega, HO3.out⟩, _, _, _, _, _, _, _, _, _, _, _, _, _, _, _, _, _, _, _, _, _, _, _, _, _, _, (by kernel_rfl), rfl⟩
    next =>
      intro a' wr hinv
      obtain ⟨t, ⟨ht1, ht2, ho⟩, t2, t3, t4, t5, t6, t7, t8, t9, t10, t11, t12, t13, t14, t15, t16, t18, t22, t23, t25, t26, t27, t28, t29, t30, t31, U, hU, rfl⟩ := hinv
      obtain ⟨u, rfl⟩ := growTail hU; clear hU
      have HO4 := Lib.hid ho
      clear ho HO3
      obtain ⟨S4, hS4, _⟩ := HO4.out.at_ 0 rfl
      by_cases ht : t < 4
      case pos =>
        as_aux_lemma =>
          obtain ⟨q, rfl⟩ : ∃ q : Nat, t = q := ⟨t.toNat, by omega⟩
          have hq : q < 4 := by omega
          have hp := (HI3.out.pth q hq).ok
          have HQ : Hid (mPaE (q : Int) = 0 ∧ mPa s'.P (q : Int) = s'.P.at q) := Lib.hid (by
            have hpb : pathB (q : Int) = true := pathB_iff.2 (by omega)
            exact ⟨by unfold mPaE; rw [hpb]; rfl, by unfold mPa; rw [hpb]; rfl⟩)
          have HP := Lib.hid (tpath (q : Int) hS4)
          rw [HQ.out.1, HQ.out.2, errV_zero] at HP
          generalize s'.P.at q = p at *
          obtain ⟨I0, O0, K0⟩ := p
          simp only at HP hp
          obtain ⟨i1, i2, o1, o2, kn⟩ := hp
          clear hS4 HN HI3 HQ
          cases K0 with
          | true =>
            clear kn
            go_wp2_with fail
            refine HP.out.mono ?_
            rintro e w4 ⟨rfl, hb4⟩
            have HO5 := Lib.hid (HO4.out.later hb4)
            clear hb4 HO4 HP
            go_wp2_with fail
            refine ⟨⟨(q : Int) + 1, ⟨by omega, by omega, HO5.out.later ?_⟩, _, _, _, _, _, _, _, _, _, _, _, _, _, _, _, _, _, _, _, _, _, _, _, _, _, _, (by kernel_rfl), rfl⟩, ?_⟩
            · exact (by refine Since.out ?_; repeat (first | with_reducible assumption | with_reducible exact Since.refl _ | with_reducible refine Since.later ?_ (by with_reducible assumption) | with_reducible refine Since.only ?_ (by with_reducible assumption) (by first | assumption | omega | (simp; done) | (simp; omega)) | with_reducible refine Since.alloc ?_ _ | with_reducible refine Since.drewN ?_ _ | with_reducible refine Since.drew ?_ | with_reducible refine Since.set ?_ (by first | assumption | omega | (simp; done) | (simp; omega)) _))
            · simp [KM, intOf] <;> omega
          | false =>
            have kn' := kn rfl
            have kd : decide (3 * I0 < O0) = false := by simp; omega
            clear kn
            go_wp2_with fail
            refine HP.out.mono ?_
            rintro e w4 ⟨rfl, hb4⟩
            have HO5 := Lib.hid (HO4.out.later hb4)
            clear hb4 HO4 HP
            go_wp2_with fail
            refine ⟨⟨(q : Int) + 1, ⟨by omega, by omega, HO5.out.later ?_⟩, _, _, _, _, _, _, _, _, _, _, _, _, _, _, _, _, _, _, _, _, _, _, _, _, _, _, (by kernel_rfl), rfl⟩, ?_⟩
            · exact (by refine Since.out ?_; repeat (first | with_reducible assumption | with_reducible exact Since.refl _ | with_reducible refine Since.later ?_ (by with_reducible assumption) | with_reducible refine Since.only ?_ (by with_reducible assumption) (by first | assumption | omega | (simp; done) | (simp; omega)) | with_reducible refine Since.alloc ?_ _ | with_reducible refine Since.drewN ?_ _ | with_reducible refine Since.drew ?_ | with_reducible refine Since.set ?_ (by first | assumption | omega | (simp; done) | (simp; omega)) _))
            · simp [KM, intOf] <;> omega
      case neg =>
        have ht' : decide (t < 4) = false := by simpa using ht
        have HWH := Lib.hid (twhere hS4)
        unfold whE whA whS at HWH
        clear hS4 ht ht1 ht2
        cases hb : mSb s'.L s'.tb with
        | false =>
          as_aux_lemma =>
            rw [hb] at HWH
            simp only [Bool.false_eq_true, if_false] at HWH
            have HU' := Lib.hid (HN.out.1 hb)
            clear HN hb
            go_wp2_with fail
            refine HWH.out.mono ?_
            rintro e w4 ⟨rfl, hb4⟩
            rw [errV_pos (by decide)]
            have HO5 := Lib.hid (HO4.out.later hb4)
            clear hb4 HO4 HWH
            go_wp2_with fail
            refine ⟨⟨k + 1, last, U, s', ⟨by omega, hl1, hl2, HO5.out, HI3.out, HU'.out⟩, _, _, _, _, _, _, _, _, _, _, _, _, _, _, _, _, _, _, _, _, _, _, _, _, _, _, _, (by kernel_rfl), rfl⟩, ?_⟩
            simp [LM, intOf] <;> omega
        | true =>
          as_aux_lemma =>
            rw [hb] at HWH
            simp only [if_true] at HWH
            rw [errV_zero] at HWH
            have HU' := Lib.hid (HN.out.2 hb)
            clear HN hb
            have hta0 := HI3.out.at0
            have hta3 := HI3.out.at3
            have HKN := Lib.hid HI3.out.kn
            obtain ⟨ta, hta⟩ : ∃ ta, s'.ta = ta := ⟨_, rfl⟩
            obtain ⟨m, hm⟩ : ∃ m : Nat, mSq s'.L s'.tb = (m : Int) := ⟨(mSq s'.L s'.tb).toNat, by have := HU'.out.1; omega⟩
            rw [hm, Int.toNat_natCast, hta] at HU'
            rw [hm, hta] at HWH
            rw [hta] at hta0 hta3 HKN
            have hm99 : (m : Int) ≤ 99 := HU'.out.1.2
            have hm' : decide (99 < (m : Int)) = false := by simp; omega
            have hm0 : decide ((m : Int) < 0) = false := by simp
            clear hta hm
            obtain ⟨q, rfl⟩ : ∃ q : Nat, ta = q := ⟨ta.toNat, by omega⟩
            rw [Int.toNat_natCast] at HKN
            go_wp2_with fail
            refine HWH.out.mono ?_
            rintro e w4 ⟨rfl, hb4⟩
            have HO5 := Lib.hid (HO4.out.later hb4)
            clear hb4 HO4 HWH
            obtain ⟨S5, hS5, _⟩ := HO5.out.at_ 0 rfl
            have hpb : pathB (q : Int) = true := pathB_iff.2 (by omega)
            have HQ : Hid (mPaE (q : Int) = 0 ∧ mPa s'.P (q : Int) = s'.P.at q) := Lib.hid ⟨by unfold mPaE; rw [hpb]; rfl, by unfold mPa; rw [hpb]; rfl⟩
            have HP := Lib.hid (tpath (q : Int) hS5)
            rw [HQ.out.1, HQ.out.2, errV_zero] at HP
            have HK2 : Hid (∃ I0 O0, s'.P.at q = ⟨I0, O0, true⟩) := Lib.hid (by
              have := HKN.out
              generalize s'.P.at q = p at *
              obtain ⟨I0, O0, K0⟩ := p
              simp only at this
              subst this
              exact ⟨_, _, rfl⟩)
            obtain ⟨I0, O0, hIO⟩ := HK2.out
            rw [hIO] at HP
            simp only at HP
            clear hS5 HQ hpb hIO HKN HK2
            go_wp2_with fail
            refine HP.out.mono ?_
            rintro e w5 ⟨rfl, hb5⟩
            have HO6 := Lib.hid (HO5.out.later (hb := hb5))
            clear hb5 HO5 HP
            repeat ((fail_if_success (with_reducible refine stop_at 50 ?_)); first | fail | go_values | go_skip | go_guarded | go_step | go_upon | go_back | go_simp)
            refine wp_cut (NC w n (some ⟨b, off, none⟩) Z.length cap g gu k last (q : Int) s') ?_ ?_
            rotate_left
            next =>
              as_aux_lemma =>
                intro _ _ _ _
                by_cases hql : (q : Int) = last
                · have hq' : ((q : Int) != last) = false := by simpa using hql
                  have HF := Lib.hid (show Use s' U (q : Int) from hql ▸ HU'.out.2.1 hql)
                  have HO7 : Hid (Hid0 w (w5.alloc (.cells #[.int .i64 I0, .int .i64 O0, .bool true] 38)) g gu s' U) := Lib.hid (Own.later HO6.out ((Since.refl _).alloc _))
                  clear HU' hql
                  go_wp2_with fail
                  refine Met.intro ?_
                  go_step
                  exact ⟨U, ⟨HO7.out, HF.out⟩, _, _, _, _, _, _, _, _, _, _, _, _, _, _, _, _, _, _, _, _, _, _, _, _, _, _, (by kernel_rfl), rfl⟩
                · have hq' : ((q : Int) != last) = true := by simpa using hql
                  obtain ⟨hz, hu⟩ := HU'.out.2.2 hql
                  have hB := Own.blk HO6.out 1 rfl
                  have hmU : m < U.length := by rw [HUL.out]; omega
                  have lgu := hB.lt
                  have fgu := hB.free
                  have cm : w5.cell? ⟨gu, m, none⟩ = some (.int .i64 0) := by
                    rw [hB.cell]
                    have : U[m] = 0 := by unfold ith at hz; simpa [List.getD, List.getElem?_eq_getElem hmU] using hz
                    simp [hmU, this]
                  have hm100 : (m : Int) < 100 := by omega
                  have hm100' : m < 100 := by omega
                  have HF := Lib.hid hu
                  have HO7 : Hid (Hid0 w (w5.setCell ⟨gu, m, none⟩ (.int .i64 1)) g gu s' (U.set m 1)) := Lib.hid (by
                    have := Own.put HO6.out 1 rfl m (.int .i64 1)
                    unfold Hid0
                    rw [show intsArr (U.set m 1) = (intsArr U).setIfInBounds m (.int .i64 1) from by simp [List.map_set]]
                    exact this)
                  clear HU' hql hz hu hB hmU
                  go_wp2_with fail
                  refine Met.intro ?_
                  go_step
                  exact ⟨U.set m 1, ⟨Own.later HO7.out ((Since.refl _).alloc _), HF.out⟩, _, _, _, _, _, _, _, _, _, _, _, _, _, _, _, _, _, _, _, _, _, _, _, _, _, _, (by kernel_rfl), rfl⟩
            intro a' w6 hinv
            obtain ⟨U2, ⟨ho6, hu6⟩, t2, t3, t4, t5, t6, t7, t8, t9, t10, t11, t12, t13, t14, t15, t16, t18, t22, t23, t24, t25, t26, t28, t29, t30, t31, U, hU, rfl⟩ := hinv
            obtain ⟨u, rfl⟩ := growTail hU; clear hU
            have HO7 := Lib.hid ho6
            have HU2 := Lib.hid hu6
            clear ho6 hu6 HO6 HU'
            go_wp2_with fail
            refine ⟨⟨k + 1, (q : Int), U2, s', ⟨by omega, by omega, by omega, HO7.out, HI3.out, HU2.out⟩, _, _, _, _, _, _, _, _, _, _, _, _, _, _, _, _, _, _, _, _, _, _, _, _, _, _, _, (by kernel_rfl), rfl⟩, ?_⟩
            simp [LM, intOf] <;> omega

/-! the row -/
theorem own : ownKnob Try.prog.godebug = none := by kernel_rfl
theorem laidOut : laidOutB Try.prog = true := by kernel_rfl
set_option maxRecDepth 100000 in
theorem contract (H : Type) (enc : TypeId × Value → H) (W : World) (base : Nat) (args : Array Value) (ds gs : List (DataW H)) (before : List MemPlace)
    (hval : ∀ (j : Nat) t v, Try.f3.params[j]? = some t → args[j]? = some v → Value.okWide Try.prog W .any base t v)
    (hW : DataW.Whole enc Try.prog Try.f3.params.toList Rows.moveHiddenSpec.vars false W args.toList ds gs before) :
    Calls Try.prog 3 args W fun e W' => ∃ v, e = .returned v ∧ Rows.moveHiddenSpec.post enc Try.prog Try.f3 false true false false W args v W' := by
  have hW' := hW
  obtain ⟨p, q, hA0, hV, rfl, hfz, hnd⟩ := hW
  have hA : DataW.TrodAll enc Try.prog W 0 (fun _ => true) true Try.f3.params.toList args.toList ds p := hA0
  rw [Try.params3] at hA hval
  obtain ⟨v0, vs0, d0, ds0, p0, q0, hargs, rfl, rfl, h0, r0⟩ := trodAll_cons hA
  obtain ⟨v1, vs1, d1, ds1, p1, q1, rfl, rfl, rfl, h1, r1⟩ := trodAll_cons r0
  obtain ⟨rfl, rfl, rfl⟩ := trodAll_nil r1
  obtain rfl : args = #[v0, v1] := by cases args; simp_all
  obtain ⟨rfl, rfl⟩ := trodVars_none hV
  obtain ⟨a0, rfl, rfl, rfl, w0⟩ := open_int Try.underlying3 (hval 0 3 v0 rfl rfl) h0
  obtain ⟨a1, len1, cap1, rfl⟩ := okWide_slice Try.underlying22 (hval 1 22 v1 rfl rfl)
  have k1 := h1
  have lt1 : ∀ x ∈ p1, x.block < W.heap.size := by obtain ⟨m, hm⟩ := k1; exact DataW.trod_lt m _ _ _ hm
  obtain ⟨z1, w1⟩ : ∃ zs, IntRowsIn W (.slice a1 len1 cap1) zs := by
    obtain ⟨fuel, hf⟩ := h1
    exact intRowsIn_open Try.underlying22 Try.underlying35 Try.underlying3 (by kernel_rfl) (by kernel_rfl) hf lt1
  refine (walk a0 (.slice a1 len1 cap1) z1 W w0 w1).mono fun e W' ⟨he, bel⟩ => ?_
  subst he
  exact ⟨_, rfl, _, _, _, [], _, [], hW', trodAll_mk1 (shut_bool Try.underlying4 _), (trodAll_cons_mk (shut_int Try.underlying3 w0) (trodAll_cons_mk (Below.trod laidOut (by kernel_rfl) (of_decide_eq_true (by kernel_rfl)) k1 bel lt1) trodAll_mk0)), rfl, bel.frame _, fun h => by cases h⟩

set_option maxRecDepth 100000 in
theorem lifted (os : Os) (started : os.Started) (H : Type) (enc : TypeId × Value → H) :
    ReturnsInHanded {} Try.checked os 3 .any (Rows.moveHiddenSpec.pre6 enc Try.prog Try.f3 Rows.moveHiddenRow.domain false) (Rows.moveHiddenSpec.post enc Try.prog Try.f3 false true false false) := by
  refine returnsInHanded_of_change (C := Try.checked) own started (by kernel_rfl) Try.func3
    (ChangeSpec.witness6 (enc := enc) (C := Try.checked) false ⟨#[], #[.int .i64 0, .slice none 0 0], []⟩ 8 (by kernel_rfl) (by kernel_rfl) (by kernel_rfl) (by kernel_rfl)) ?_
  intro W base args ds gs before hval hW _ _
  exact contract H enc W base args ds gs before hval hW

theorem said : Rows.MoveHiddenSaid :=
  OpenClaim.holds_of_wide 3 Try.f3 rfl rfl rfl rfl rfl rfl rfl ⟨rfl, rfl, rfl, rfl, rfl⟩ rfl rfl rfl rfl rfl (by kernel_rfl) Try.func3 (by kernel_rfl)
    (of_decide_eq_true (by kernel_rfl)) (by unfold Func.isWrapper; first | (rw [if_pos (by decide +kernel)]; kernel_rfl) | (rw [if_neg (by decide +kernel)]; exact ⟨rfl, rfl⟩))
    (fun os started H enc _ => lifted os started H enc)
#print axioms said
end Go.Proofs.Ythnolkbolmbkdaa.moveHidden
