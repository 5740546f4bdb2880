/- LogKeeps: for all numbers, marks to sync at, steps to fail at and bytes to keep the law returns true: behind a crash there are the numbers of as many records as are whole among the bytes that are left; what stopped did nothing. Condition: strconv's tables and errors and errors.errorType hold what the program's text lays (the row lists them, the card ties them). -/
import Derived.Test.YtjjmoaaongnjiaaGreatDoorLogKw
import Derived.Test.YtjjmoaaongnjiaaGreatDoorLaid6
import Derived.Test.YtjjmoaaongnjiaaGreatDoorTold
import Derived.Deep.DeepCutAuto
import Derived.Deep.QuietTactic
import Derived.BigQuiet
import Derived.BigRegion
import Derived.StillTailTactics
import Derived.Deep.RegionHeld3
import Derived.Test.YtjjmoaaongnjiaaGreatDoorCards
import Derived.Test.YtjjmoaaongnjiaaGreatDoorTie
import Derived.Deep.DeepHandedRow
import Derived.LaidLaws
import Derived.LaidHandle
import Derived.Deep.DeepWitnessRowRef
import Derived.Test.YtjjmoaaongnjiaaGreatDoorRows
import Derived.WalkKit
import Derived.ProofKit
import Derived.OpenShut
import Derived.ShutString
import Derived.ChangeOld
import Derived.Below
import Derived.Lib.SmallJoins
import Derived.Deep.Slices
import Derived.Deep.Matrix
import Derived.Deep.Strs
namespace Go.Proofs.YtjjmoaaongnjiaaGreatDoor.logKeeps
open Go.ChangeShapes Go.WideShapes Go.ChangeAt Go.RowKit
open Go.ChangeMaps (open_string shut_string)
set_option linter.unusedVariables false

noncomputable abbrev laidWorld := YtjjmoaaongnjiaaGreatDoor.laidWorld6
theorem laidMetW (os : Os) (args : Array Value) : laidMetH Tryz.prog Rows.logKeepsRow.laid ((laidWorld os).forCall (fun _ _ => 0) ⟨#[], args, []⟩).memory := laidMet_x os args
theorem laidWalk {W : World} (h : laidMetH Tryz.prog Rows.logKeepsRow.laid W) : PTab W ∧ ETok W := laid_x h
theorem wf_any {x : Int} (h : -9223372036854775808 ≤ x ∧ x ≤ 9223372036854775807) : (Lit.int .i64 x).wf = true := by
  have h2 : IntKind.i64.min = -9223372036854775808 := by decide
  have h3 : IntKind.i64.max = 9223372036854775807 := by decide
  unfold Lit.wf
  simp
  omega
theorem mayN {x : Int} (h : mayB x = true) : okN ⟨x, x⟩ := ⟨mayB_iff.1 h, mayB_iff.1 h⟩
def growRow (u : Nat → Value) : Nat → Nat → List Value
  | _, 0 => []
  | k, n + 1 => u k :: growRow u (k + 1) n
theorem growRow_congr {u v : Nat → Value} : ∀ (n k : Nat), (∀ i, k ≤ i → u i = v i) → growRow u k n = growRow v k n
  | 0, _, _ => rfl
  | n + 1, k, h => by
    rw [growRow, growRow, h k (Nat.le_refl k), growRow_congr n (k + 1) (fun i hi => h i (by omega))]
theorem growRow_any : ∀ (n k : Nat) (U : List Value), U.length = n → ∃ u : Nat → Value, U = growRow u k n
  | 0, k, U, h => ⟨fun _ => .nilIface, by rw [List.length_eq_zero_iff.1 h]; rfl⟩
  | n + 1, k, [], h => by simp at h
  | n + 1, k, x :: r, h => by
    obtain ⟨u, hu⟩ := growRow_any n (k + 1) r (by simpa using h)
    refine ⟨fun i => if i = k then x else u i, ?_⟩
    rw [growRow, if_pos rfl, hu]
    congr 1
    exact growRow_congr n (k + 1) (fun i hi => by rw [if_neg (by omega)])
set_option maxRecDepth 100000 in
theorem growTail {U : List Value} (h : U.length = 309) : ∃ u : Nat → Value, U = [u 40, u 41, u 42, u 43, u 44, u 45, u 46, u 47, u 48, u 49, u 50, u 51, u 52, u 53, u 54, u 55, u 56, u 57, u 58, u 59, u 60, u 61, u 62, u 63, u 64, u 65, u 66, u 67, u 68, u 69, u 70, u 71, u 72, u 73, u 74, u 75, u 76, u 77, u 78, u 79, u 80, u 81, u 82, u 83, u 84, u 85, u 86, u 87, u 88, u 89, u 90, u 91, u 92, u 93, u 94, u 95, u 96, u 97, u 98, u 99, u 100, u 101, u 102, u 103, u 104, u 105, u 106, u 107, u 108, u 109, u 110, u 111, u 112, u 113, u 114, u 115, u 116, u 117, u 118, u 119, u 120, u 121, u 122, u 123, u 124, u 125, u 126, u 127, u 128, u 129, u 130, u 131, u 132, u 133, u 134, u 135, u 136, u 137, u 138, u 139, u 140, u 141, u 142, u 143, u 144, u 145, u 146, u 147, u 148, u 149, u 150, u 151, u 152, u 153, u 154, u 155, u 156, u 157, u 158, u 159, u 160, u 161, u 162, u 163, u 164, u 165, u 166, u 167, u 168, u 169, u 170, u 171, u 172, u 173, u 174, u 175, u 176, u 177, u 178, u 179, u 180, u 181, u 182, u 183, u 184, u 185, u 186, u 187, u 188, u 189, u 190, u 191, u 192, u 193, u 194, u 195, u 196, u 197, u 198, u 199, u 200, u 201, u 202, u 203, u 204, u 205, u 206, u 207, u 208, u 209, u 210, u 211, u 212, u 213, u 214, u 215, u 216, u 217, u 218, u 219, u 220, u 221, u 222, u 223, u 224, u 225, u 226, u 227, u 228, u 229, u 230, u 231, u 232, u 233, u 234, u 235, u 236, u 237, u 238, u 239, u 240, u 241, u 242, u 243, u 244, u 245, u 246, u 247, u 248, u 249, u 250, u 251, u 252, u 253, u 254, u 255, u 256, u 257, u 258, u 259, u 260, u 261, u 262, u 263, u 264, u 265, u 266, u 267, u 268, u 269, u 270, u 271, u 272, u 273, u 274, u 275, u 276, u 277, u 278, u 279, u 280, u 281, u 282, u 283, u 284, u 285, u 286, u 287, u 288, u 289, u 290, u 291, u 292, u 293, u 294, u 295, u 296, u 297, u 298, u 299, u 300, u 301, u 302, u 303, u 304, u 305, u 306, u 307, u 308, u 309, u 310, u 311, u 312, u 313, u 314, u 315, u 316, u 317, u 318, u 319, u 320, u 321, u 322, u 323, u 324, u 325, u 326, u 327, u 328, u 329, u 330, u 331, u 332, u 333, u 334, u 335, u 336, u 337, u 338, u 339, u 340, u 341, u 342, u 343, u 344, u 345, u 346, u 347, u 348] := by
  obtain ⟨u, hu⟩ := growRow_any 309 40 U h
  exact ⟨u, hu.trans (by kernel_rfl)⟩
set_option maxRecDepth 100000 in
/-- a round's head -/
def LI (w : World) (A0 A1 A2 A3 : Option Addr) (n0 c0 n1 c1 n2 c2 n3 c3 g : Nat) (a : Act) (wx : World) : Prop := ∃ (r p m cd cm : Nat) (D M : Option Addr) (vs : List Value) (s : LgS) (ns : List Int), (r ≤ 4 ∧ p ≤ 12 * r ∧ Kp s ns m p ∧ Own w [] wx (kbox g s ns D m cd M cm vs)) ∧
  ∃ (t4 t5 t6 t7 t8 t9 t10 t11 t12 t13 t14 t15 t16 t17 t23 t24 t25 t26 t27 t28 t29 t30 t31 t32 t33 t34 t35 t36 t37 t38 t39 : Value) (U : List Value), U.length = 309 ∧ a = ⟨((.slice A0 n0 c0) :: (.slice A1 n1 c1) :: (.slice A2 n2 c2) :: (.slice A3 n3 c3) :: t4 :: t5 :: t6 :: t7 :: t8 :: t9 :: t10 :: t11 :: t12 :: t13 :: t14 :: t15 :: t16 :: t17 :: (.pointer (some ⟨g, 0, none⟩)) :: (.slice D m cd) :: (.slice M m cm) :: (.int .i64 p) :: (.int .i64 r) :: t23 :: t24 :: t25 :: t26 :: t27 :: t28 :: t29 :: t30 :: t31 :: t32 :: t33 :: t34 :: t35 :: t36 :: t37 :: t38 :: t39 :: U).toArray, []⟩
def LM (a : Act) (wx : World) : Nat := 4 - (intOf (a.tmps.toList.getD 22 undef)).toNat
set_option maxRecDepth 100000 in
/-- behind the question when to fail -/
def SF (w : World) (A0 A1 A2 A3 : Option Addr) (n0 c0 n1 c1 n2 c2 n3 c3 g : Nat) (D : Option Addr) (m cd : Nat) (M : Option Addr) (cm : Nat) (vs : List Value) (ns : List Int) (p r : Nat) (a : Act) (wx : World) : Prop := ∃ s : LgS, (Kp s ns m p ∧ Own w [] wx (kbox g s ns D m cd M cm vs)) ∧
  ∃ (t4 t5 t6 t7 t8 t9 t10 t11 t12 t13 t14 t15 t16 t17 t23 t24 t25 t26 t27 t28 t29 t30 t31 t32 t33 t34 t35 t36 t37 t38 t39 : Value) (U : List Value), U.length = 309 ∧ a = ⟨((.slice A0 n0 c0) :: (.slice A1 n1 c1) :: (.slice A2 n2 c2) :: (.slice A3 n3 c3) :: t4 :: t5 :: t6 :: t7 :: t8 :: t9 :: t10 :: t11 :: t12 :: t13 :: t14 :: t15 :: t16 :: t17 :: (.pointer (some ⟨g, 0, none⟩)) :: (.slice D m cd) :: (.slice M m cm) :: (.int .i64 p) :: (.int .i64 r) :: t23 :: t24 :: t25 :: t26 :: t27 :: t28 :: t29 :: t30 :: t31 :: t32 :: t33 :: t34 :: t35 :: t36 :: t37 :: t38 :: t39 :: U).toArray, []⟩
set_option maxRecDepth 100000 in
/-- a step's head -/
def LK (w : World) (A0 A1 A2 A3 : Option Addr) (n0 c0 n1 c1 n2 c2 n3 c3 g : Nat) (r : Nat) (a : Act) (wx : World) : Prop := ∃ (k p m cd cm : Nat) (D M : Option Addr) (vs : List Value) (s : LgS) (ns : List Int), (k ≤ 12 ∧ p ≤ 12 * r + k ∧ Kp s ns m p ∧ Own w [] wx (kbox g s ns D m cd M cm vs)) ∧
  ∃ (t4 t5 t6 t7 t8 t9 t10 t11 t12 t13 t14 t15 t16 t17 t24 t25 t26 t27 t28 t29 t30 t31 t32 t33 t34 t35 t36 t37 t38 t39 : Value) (U : List Value), U.length = 309 ∧ a = ⟨((.slice A0 n0 c0) :: (.slice A1 n1 c1) :: (.slice A2 n2 c2) :: (.slice A3 n3 c3) :: t4 :: t5 :: t6 :: t7 :: t8 :: t9 :: t10 :: t11 :: t12 :: t13 :: t14 :: t15 :: t16 :: t17 :: (.pointer (some ⟨g, 0, none⟩)) :: (.slice D m cd) :: (.slice M m cm) :: (.int .i64 p) :: (.int .i64 r) :: (.int .i64 k) :: t24 :: t25 :: t26 :: t27 :: t28 :: t29 :: t30 :: t31 :: t32 :: t33 :: t34 :: t35 :: t36 :: t37 :: t38 :: t39 :: U).toArray, []⟩
def LKM (a : Act) (wx : World) : Nat := 12 - (intOf (a.tmps.toList.getD 23 undef)).toNat
set_option maxRecDepth 100000 in
/-- behind the steps -/
def SK (w : World) (A0 A1 A2 A3 : Option Addr) (n0 c0 n1 c1 n2 c2 n3 c3 g : Nat) (r : Nat) (a : Act) (wx : World) : Prop := ∃ (p m cd cm : Nat) (D M : Option Addr) (vs : List Value) (s : LgS) (ns : List Int), (p ≤ 12 * r + 12 ∧ Kp s ns m p ∧ Own w [] wx (kbox g s ns D m cd M cm vs)) ∧
  ∃ (t4 t5 t6 t7 t8 t9 t10 t11 t12 t13 t14 t15 t16 t17 t23 t24 t25 t26 t27 t28 t29 t30 t31 t32 t33 t34 t35 t36 t37 t38 t39 : Value) (U : List Value), U.length = 309 ∧ a = ⟨((.slice A0 n0 c0) :: (.slice A1 n1 c1) :: (.slice A2 n2 c2) :: (.slice A3 n3 c3) :: t4 :: t5 :: t6 :: t7 :: t8 :: t9 :: t10 :: t11 :: t12 :: t13 :: t14 :: t15 :: t16 :: t17 :: (.pointer (some ⟨g, 0, none⟩)) :: (.slice D m cd) :: (.slice M m cm) :: (.int .i64 p) :: (.int .i64 r) :: t23 :: t24 :: t25 :: t26 :: t27 :: t28 :: t29 :: t30 :: t31 :: t32 :: t33 :: t34 :: t35 :: t36 :: t37 :: t38 :: t39 :: U).toArray, []⟩
set_option maxRecDepth 100000 in
/-- behind the question when to sync -/
def SY (w : World) (A0 A1 A2 A3 : Option Addr) (n0 c0 n1 c1 n2 c2 n3 c3 g : Nat) (D : Option Addr) (m cd : Nat) (M : Option Addr) (cm : Nat) (vs : List Value) (ns : List Int) (p r k : Nat) (a : Act) (wx : World) : Prop := ∃ s : LgS, (Kp s ns m p ∧ Own w [] wx (kbox g s ns D m cd M cm vs)) ∧
  ∃ (t4 t5 t6 t7 t8 t9 t10 t11 t12 t13 t14 t15 t16 t17 t24 t25 t26 t27 t28 t29 t30 t31 t32 t33 t34 t35 t36 t37 t38 t39 : Value) (U : List Value), U.length = 309 ∧ a = ⟨((.slice A0 n0 c0) :: (.slice A1 n1 c1) :: (.slice A2 n2 c2) :: (.slice A3 n3 c3) :: t4 :: t5 :: t6 :: t7 :: t8 :: t9 :: t10 :: t11 :: t12 :: t13 :: t14 :: t15 :: t16 :: t17 :: (.pointer (some ⟨g, 0, none⟩)) :: (.slice D m cd) :: (.slice M m cm) :: (.int .i64 p) :: (.int .i64 r) :: (.int .i64 k) :: t24 :: t25 :: t26 :: t27 :: t28 :: t29 :: t30 :: t31 :: t32 :: t33 :: t34 :: t35 :: t36 :: t37 :: t38 :: t39 :: U).toArray, []⟩
set_option maxRecDepth 100000 in
/-- behind the ranges with one more -/
def SW (w : World) (A0 A1 A2 A3 : Option Addr) (n0 c0 n1 c1 n2 c2 n3 c3 g : Nat) (D : Option Addr) (m cd : Nat) (M : Option Addr) (cm : Nat) (vs : List Value) (s : LgS) (ns : List Int) (p r k : Nat) (x : Int) (A7 : Option Addr) (n7 c7 : Nat) (a : Act) (wx : World) : Prop := ∃ (B : Option Addr) (b cB : Nat), ((withL (adds ns) ⟨x, x⟩).length = b ∧ Own w [] wx (kbox g s ns D m cd M cm vs ++ [Thing.lst 34 2 (.slice B b cB) ((withL (adds ns) ⟨x, x⟩).map rngRow)])) ∧
  ∃ (t4 t5 t6 t7 t8 t9 t10 t11 t12 t13 t14 t15 t16 t17 t27 t28 t29 t30 t31 t32 t33 t34 t35 t36 t37 t38 t39 : Value) (U : List Value), U.length = 309 ∧ a = ⟨((.slice A0 n0 c0) :: (.slice A1 n1 c1) :: (.slice A2 n2 c2) :: (.slice A3 n3 c3) :: t4 :: t5 :: t6 :: t7 :: t8 :: t9 :: t10 :: t11 :: t12 :: t13 :: t14 :: t15 :: t16 :: t17 :: (.pointer (some ⟨g, 0, none⟩)) :: (.slice D m cd) :: (.slice M m cm) :: (.int .i64 p) :: (.int .i64 r) :: (.int .i64 k) :: (.slice A7 n7 c7) :: (.slice B b cB) :: (.int .i64 0) :: t27 :: t28 :: t29 :: t30 :: t31 :: t32 :: t33 :: t34 :: t35 :: t36 :: t37 :: t38 :: t39 :: U).toArray, []⟩
set_option maxRecDepth 100000 in
/-- behind what the law reckons -/
def SN (w : World) (A0 A1 A2 A3 : Option Addr) (n0 c0 n1 c1 n2 c2 n3 c3 g : Nat) (D : Option Addr) (m cd : Nat) (M : Option Addr) (cm : Nat) (vs : List Value) (s : LgS) (ns : List Int) (p r k : Nat) (x : Int) (a : Act) (wx : World) : Prop := ∃ (B : Option Addr) (b cB : Nat) (V : Value) (J : List Rng), ((addB (adds ns) x = true → .slice B b cB = V ∧ b = J.length ∧ J = adds (ns ++ [x])) ∧ Own w [] wx (kbox g s ns D m cd M cm vs ++ [Thing.lst 34 2 V (J.map rngRow)])) ∧
  ∃ (t4 t5 t6 t7 t8 t9 t10 t11 t12 t13 t14 t15 t16 t17 t24 t28 t29 t30 t31 t32 t33 t34 t35 t36 t37 t38 t39 : Value) (U : List Value), U.length = 309 ∧ a = ⟨((.slice A0 n0 c0) :: (.slice A1 n1 c1) :: (.slice A2 n2 c2) :: (.slice A3 n3 c3) :: t4 :: t5 :: t6 :: t7 :: t8 :: t9 :: t10 :: t11 :: t12 :: t13 :: t14 :: t15 :: t16 :: t17 :: (.pointer (some ⟨g, 0, none⟩)) :: (.slice D m cd) :: (.slice M m cm) :: (.int .i64 p) :: (.int .i64 r) :: (.int .i64 k) :: t24 :: (.slice B b cB) :: (.int .i64 (addE (adds ns) x)) :: (.bool (addB (adds ns) x)) :: t28 :: t29 :: t30 :: t31 :: t32 :: t33 :: t34 :: t35 :: t36 :: t37 :: t38 :: t39 :: U).toArray, []⟩
set_option maxRecDepth 100000 in
/-- behind the question whether it was told rightly -/
def SG (w : World) (A0 A1 A2 A3 : Option Addr) (n0 c0 n1 c1 n2 c2 n3 c3 g : Nat) (D : Option Addr) (m cd : Nat) (M : Option Addr) (cm : Nat) (vs : List Value) (p r k : Nat) (V25 V27 V29 V30 V31 : Value) (wv : World) (a : Act) (wx : World) : Prop := wv = wx ∧
  ∃ (t4 t5 t6 t7 t8 t9 t10 t11 t12 t13 t14 t15 t16 t17 t24 t26 t28 t32 t33 t34 t35 t36 t37 t38 t39 : Value) (U : List Value), U.length = 309 ∧ a = ⟨((.slice A0 n0 c0) :: (.slice A1 n1 c1) :: (.slice A2 n2 c2) :: (.slice A3 n3 c3) :: t4 :: t5 :: t6 :: t7 :: t8 :: t9 :: t10 :: t11 :: t12 :: t13 :: t14 :: t15 :: t16 :: t17 :: (.pointer (some ⟨g, 0, none⟩)) :: (.slice D m cd) :: (.slice M m cm) :: (.int .i64 (p + 1 : Nat)) :: (.int .i64 r) :: (.int .i64 k) :: t24 :: (V25) :: t26 :: (V27) :: t28 :: (V29) :: (V30) :: (V31) :: t32 :: t33 :: t34 :: t35 :: t36 :: t37 :: t38 :: t39 :: U).toArray, []⟩
set_option maxRecDepth 100000 in
/-- behind a step -/
def SE (w : World) (A0 A1 A2 A3 : Option Addr) (n0 c0 n1 c1 n2 c2 n3 c3 g : Nat) (p r k : Nat) (a : Act) (wx : World) : Prop := ∃ (m cd cm : Nat) (D M : Option Addr) (vs : List Value) (s : LgS) (ns : List Int), (Kp s ns m (p + 1) ∧ Own w [] wx (kbox g s ns D m cd M cm vs)) ∧
  ∃ (t4 t5 t6 t7 t8 t9 t10 t11 t12 t13 t14 t15 t16 t17 t24 t25 t26 t27 t28 t29 t30 t31 t32 t33 t34 t35 t36 t37 t38 t39 : Value) (U : List Value), U.length = 309 ∧ a = ⟨((.slice A0 n0 c0) :: (.slice A1 n1 c1) :: (.slice A2 n2 c2) :: (.slice A3 n3 c3) :: t4 :: t5 :: t6 :: t7 :: t8 :: t9 :: t10 :: t11 :: t12 :: t13 :: t14 :: t15 :: t16 :: t17 :: (.pointer (some ⟨g, 0, none⟩)) :: (.slice D m cd) :: (.slice M m cm) :: (.int .i64 (p + 1 : Nat)) :: (.int .i64 r) :: (.int .i64 k) :: t24 :: t25 :: t26 :: t27 :: t28 :: t29 :: t30 :: t31 :: t32 :: t33 :: t34 :: t35 :: t36 :: t37 :: t38 :: t39 :: U).toArray, []⟩
set_option maxRecDepth 100000 in
/-- behind the question what to keep -/
def SP (w : World) (A0 A1 A2 A3 : Option Addr) (n0 c0 n1 c1 n2 c2 n3 c3 g : Nat) (D : Option Addr) (m cd : Nat) (M : Option Addr) (cm : Nat) (vs : List Value) (p r : Nat) (wv : World) (a : Act) (wx : World) : Prop := ∃ kp : Int, (wv = wx ∧ -9223372036854775808 ≤ kp ∧ kp ≤ 9223372036854775807) ∧
  ∃ (t4 t5 t6 t7 t8 t9 t10 t11 t12 t13 t14 t15 t16 t17 t23 t24 t25 t26 t27 t28 t29 t30 t31 t32 t33 t35 t36 t37 t38 t39 : Value) (U : List Value), U.length = 309 ∧ a = ⟨((.slice A0 n0 c0) :: (.slice A1 n1 c1) :: (.slice A2 n2 c2) :: (.slice A3 n3 c3) :: t4 :: t5 :: t6 :: t7 :: t8 :: t9 :: t10 :: t11 :: t12 :: t13 :: t14 :: t15 :: t16 :: t17 :: (.pointer (some ⟨g, 0, none⟩)) :: (.slice D m cd) :: (.slice M m cm) :: (.int .i64 p) :: (.int .i64 r) :: t23 :: t24 :: t25 :: t26 :: t27 :: t28 :: t29 :: t30 :: t31 :: t32 :: t33 :: (.int .i64 kp) :: t35 :: t36 :: t37 :: t38 :: t39 :: U).toArray, []⟩
set_option maxRecDepth 100000 in
/-- behind how far it goes -/
def SH (w : World) (A0 A1 A2 A3 : Option Addr) (n0 c0 n1 c1 n2 c2 n3 c3 g : Nat) (D : Option Addr) (m cd : Nat) (M : Option Addr) (cm : Nat) (vs : List Value) (p r : Nat) (H : Int) (wv : World) (a : Act) (wx : World) : Prop := wv = wx ∧
  ∃ (t4 t5 t6 t7 t8 t9 t10 t11 t12 t13 t14 t15 t16 t17 t23 t24 t25 t26 t27 t28 t29 t30 t31 t32 t33 t34 t35 t36 t38 t39 : Value) (U : List Value), U.length = 309 ∧ a = ⟨((.slice A0 n0 c0) :: (.slice A1 n1 c1) :: (.slice A2 n2 c2) :: (.slice A3 n3 c3) :: t4 :: t5 :: t6 :: t7 :: t8 :: t9 :: t10 :: t11 :: t12 :: t13 :: t14 :: t15 :: t16 :: t17 :: (.pointer (some ⟨g, 0, none⟩)) :: (.slice D m cd) :: (.slice M m cm) :: (.int .i64 p) :: (.int .i64 r) :: t23 :: t24 :: t25 :: t26 :: t27 :: t28 :: t29 :: t30 :: t31 :: t32 :: t33 :: t34 :: t35 :: t36 :: (.int .i64 H) :: t38 :: t39 :: U).toArray, []⟩
set_option maxRecDepth 100000 in
/-- the search -/
def LS (w : World) (A0 A1 A2 A3 : Option Addr) (n0 c0 n1 c1 n2 c2 n3 c3 g : Nat) (D : Option Addr) (m cd : Nat) (M : Option Addr) (cm : Nat) (vs : List Value) (ns : List Int) (p r : Nat) (H : Int) (wv : World) (a : Act) (wx : World) : Prop := ∃ i l : Nat, (i ≤ m ∧ Below_ ns H i l ∧ wv = wx) ∧
  ∃ (t4 t5 t6 t7 t8 t9 t10 t11 t12 t13 t14 t15 t16 t17 t23 t24 t25 t26 t27 t28 t29 t30 t31 t32 t33 t34 t35 t36 : Value) (U : List Value), U.length = 309 ∧ a = ⟨((.slice A0 n0 c0) :: (.slice A1 n1 c1) :: (.slice A2 n2 c2) :: (.slice A3 n3 c3) :: t4 :: t5 :: t6 :: t7 :: t8 :: t9 :: t10 :: t11 :: t12 :: t13 :: t14 :: t15 :: t16 :: t17 :: (.pointer (some ⟨g, 0, none⟩)) :: (.slice D m cd) :: (.slice M m cm) :: (.int .i64 p) :: (.int .i64 r) :: t23 :: t24 :: t25 :: t26 :: t27 :: t28 :: t29 :: t30 :: t31 :: t32 :: t33 :: t34 :: t35 :: t36 :: (.int .i64 H) :: (.int .i64 l) :: (.int .i64 i) :: U).toArray, []⟩
def LSM (m : Nat) (a : Act) (wx : World) : Nat := m - (intOf (a.tmps.toList.getD 39 undef)).toNat

set_option maxRecDepth 100000 in
set_option maxHeartbeats 40000000 in
theorem walk (v0 : Value) (Z0 : List Int) (v1 : Value) (Z1 : List Int) (v2 : Value) (Z2 : List Int) (v3 : Value) (Z3 : List Int) (w : World) (w0 : IntsIn w v0 Z0) (w1 : IntsIn w v1 Z1) (w2 : IntsIn w v2 Z2) (w3 : IntsIn w v3 Z3) (hL : PTab w ∧ ETok w) :
    Calls Tryz.prog 3 #[v0, v1, v2, v3] w fun e w' => e = .returned (.bool true) ∧ Below w.heap.size w w' := by
  have HP := Lib.hid hL.1
  have HE := Lib.hid hL.2
  obtain ⟨bd0, A0, c0, rfl, hl0, hm0, hc0⟩ := w0
  obtain ⟨bd1, A1, c1, rfl, hl1, hm1, hc1⟩ := w1
  obtain ⟨bd2, A2, c2, rfl, hl2, hm2, hc2⟩ := w2
  obtain ⟨bd3, A3, c3, rfl, hl3, hm3, hc3⟩ := w3
  unfold maxLen at hm0 hm1 hm2 hm3
  have B0 := Lib.hid (ith_bounds bd0)
  have B1 := Lib.hid (ith_bounds bd1)
  have B2 := Lib.hid (ith_bounds bd2)
  have B3 := Lib.hid (ith_bounds bd3)
  have C0 := Lib.hid hc0
  have C1 := Lib.hid hc1
  have C2 := Lib.hid hc2
  have C3 := Lib.hid hc3
  have z0 : Z0.length ≤ 9223372036854775807 := by omega
  have z1 : Z1.length ≤ 9223372036854775807 := by omega
  have z2 : Z2.length ≤ 9223372036854775807 := by omega
  have z3 : Z3.length ≤ 9223372036854775807 := by omega
  have HF := Lib.hid one_fact
  clear bd0 bd1 bd2 bd3 hc0 hc1 hc2 hc3 hL hl0 hl1 hl2 hl3 hm0 hm1 hm2 hm3
  go_enter Tryz.func3, Tryz.ntmps3
  go_wp2_with fail
  refine (gnew _).mono ?_
  rintro e w1 ⟨rfl, hl1, hb1⟩
  have HW1 : Hid (Own w [] w1 [logT w.heap.size lg0]) := Lib.hid ((Own.start w).add hb1 hl1 (by simp))
  obtain ⟨g1, hg⟩ : ∃ g, w.heap.size = g := ⟨_, rfl⟩
  rw [hg] at HW1
  rw [hg]
  clear hl1 hb1 hg
  obtain ⟨S, hS, up⟩ := HW1.out.at_ 0 rfl
  go_wp2_with fail
  refine (gcame g1 lg0 7 _ S hS (by decide) (HP.out.later HW1.out.since) (by decide)).mono ?_
  rintro e w2 ⟨rfl, hl⟩
  rw [HF.out.1, HF.out.2.1, errV_zero]
  have HW2 : Hid (Own w [] w2 [logT g1 k1]) := Lib.hid (up _ _ hl)
  clear hl hS up HW1
  obtain ⟨S, hS, up⟩ := HW2.out.at_ 0 rfl
  go_wp2_with fail
  refine (gsync g1 k1 _ S hS).mono ?_
  rintro e w3 ⟨rfl, hl⟩
  rw [HF.out.2.2.1, errV_zero]
  have HW3 : Hid (Own w [] w3 [logT g1 k2]) := Lib.hid (up _ _ hl)
  clear hl hS up HW2
  obtain ⟨S, hS, up⟩ := HW3.out.at_ 0 rfl
  go_wp2_with fail
  refine (gcame g1 k2 7 _ S hS (by decide) (HP.out.later HW3.out.since) HF.out.2.2.2.2.2.2.2.2.1).mono ?_
  rintro e w4 ⟨rfl, hl⟩
  rw [HF.out.2.2.2.2.2.1] at hl
  rw [HF.out.2.2.2.1, HF.out.2.2.2.2.1, errV_zero]
  have HW4 : Hid (Own w [] w4 [logT g1 k2]) := Lib.hid (up _ _ hl)
  clear hl hS up HW3
  obtain ⟨S, hS, up⟩ := HW4.out.at_ 0 rfl
  go_wp2_with fail
  refine (gcame g1 k2 9 _ S hS (by decide) (HP.out.later HW4.out.since) HF.out.2.2.2.2.2.2.2.2.1).mono ?_
  rintro e w5 ⟨rfl, hl⟩
  rw [HF.out.2.2.2.2.2.2.1, errV_zero]
  have HW5 : Hid (Own w [] w5 [logT g1 k3]) := Lib.hid (up _ _ hl)
  obtain ⟨bx, hbx⟩ : ∃ b, lgB k2 9 = b := ⟨_, rfl⟩
  rw [hbx]
  clear hl hS up HW4 hbx
  obtain ⟨S, hS, up⟩ := HW5.out.at_ 0 rfl
  go_wp2_with fail
  refine (gcrash g1 k3 [7, 9] [] 0 _ S hS HF.out.2.2.2.2.2.2.2.2.2.1).mono ?_
  rintro e w6 ⟨rfl, j, hwh, hl⟩
  have hj := HF.out.2.2.2.2.2.2.2.2.2.2.1 j hwh
  subst hj
  have HW6 : Hid (Own w [] w6 [logT g1 (LgS.left_ [7])]) := Lib.hid (up _ _ hl)
  clear hl hS up HW5 hwh
  obtain ⟨S, hS, up⟩ := HW6.out.at_ 0 rfl
  go_wp2_with fail
  refine (gall g1 (LgS.left_ [7]) _ S hS).mono ?_
  rintro e w7 ⟨A', cA, rfl, hl7, hb7, hk7⟩
  have e7 : (LgS.left_ [7]).all = [⟨7, 7⟩] := HF.out.2.2.2.2.2.2.2.2.2.2.2
  rw [e7] at hl7
  rw [e7]
  have HW7 := Lib.hid (HW6.out.later hb7)
  have HL7 := Lib.hid hl7
  obtain ⟨A9, c9, hv9, _, _, hA9⟩ := hl7.shape
  simp only [List.length_map, Value.slice.injEq] at hv9
  obtain ⟨rfl, _, rfl⟩ := hv9
  rcases hA9 with ⟨_, h0, _⟩ | ⟨gf, rfl⟩
  · cases h0
  have f0 : w7.cell? ⟨gf, 0, none⟩ = some (.int .i64 7) := HL7.out.cell rfl (i := 0) (j := 0) rfl rfl
  have f1 : w7.cell? ⟨gf, 1, none⟩ = some (.int .i64 7) := HL7.out.cell rfl (i := 0) (j := 1) rfl rfl
  have hlen1 : ([⟨7, 7⟩] : List Rng).length = 1 := rfl
  rw [hlen1]
  clear hl7 hb7 hk7 HW6 hS up e7 hlen1
  obtain ⟨S, hS, up⟩ := HW7.out.at_ 0 rfl
  go_wp2_with fail
  refine (gbytes g1 (LgS.left_ [7]) _ S hS).mono ?_
  rintro e w8 ⟨rfl, rfl⟩
  have e8 : (((LgS.left_ [7]).by_.size : Nat) : Int) = (LgS.left_ [7]).safe := rfl
  rw [e8]
  go_wp2_with fail
  refine (gsafe g1 (LgS.left_ [7]) _ S hS).mono ?_
  rintro e w9 ⟨rfl, rfl⟩
  have HW8 : Hid (Own w [] w7 []) := Lib.hid (HW7.out.take 0)
  generalize (LgS.left_ [7]).safe = zz at *
  clear hS up HW7 e8 HF
  go_wp2_with fail
  refine (gnew _).mono ?_
  rintro e w10 ⟨rfl, hl10, hb10⟩
  have HW10 : Hid (Own w [] w10 [logT w7.heap.size lg0]) := Lib.hid (HW8.out.add hb10 hl10 (by simp))
  obtain ⟨g, hg⟩ : ∃ g, w7.heap.size = g := ⟨_, rfl⟩
  rw [hg] at HW10
  rw [hg]
  clear hl10 hb10 hg HW8 HL7 f0 f1
  go_wp2_with fail
  have HA := Lib.hid (kbox_start HW10.out)
  obtain ⟨wa, hwa⟩ : ∃ x, (w10.alloc (.cells #[.slice none 0 0] 31)).alloc (.cells #[.int .i64 0] 3) = x := ⟨_, rfl⟩
  rw [hwa] at HA
  rw [hwa]
  clear hwa HW10
  refine wp_loop (LI w A0 A1 A2 A3 Z0.length c0 Z1.length c1 Z2.length c2 Z3.length c3 g) LM ?_ ?_
  next => exact ⟨0, 0, 1, 1, 1, _, _, _, lg0, [], ⟨by omega, by omega, ⟨⟨[], LgOk.new⟩, rfl, by simp⟩, HA.out⟩, _, _, _, _, _, _, _, _, _, _, _, _, _, _, _, _, _, _, _, _, _, _, _, _, _, _, _, _, _, _, _, _, (by kernel_rfl), rfl⟩
  next =>
    intro a' wr hinv
    obtain ⟨r, p, m, cd, cm, D, M, vs, s, ns, ⟨hr, hp, hkp, hw⟩, t4, t5, t6, t7, t8, t9, t10, t11, t12, t13, t14, t15, t16, t17, t23, t24, t25, t26, t27, t28, t29, t30, t31, t32, t33, t34, t35, t36, t37, t38, t39, U, hU, rfl⟩ := hinv
    obtain ⟨u, rfl⟩ := growTail hU; clear hU
    have HW := Lib.hid hw
    have HKP := Lib.hid hkp
    clear hw hkp HA
    by_cases hlen : r ≤ Z2.length
    case neg =>
      have hlen' : decide ((r : Int) ≤ (Z2.length : Int)) = false := by simp; omega
      have hlen2 : (Z2.length : Int) < (r : Int) := by omega
      go_wp2_with fail
      go_ret
      exact ⟨rfl, HW.out.since⟩
    have hlen' : (r : Int) ≤ (Z2.length : Int) := by omega
    by_cases h4 : r < 4
    case neg =>
      have h4' : decide ((r : Int) < 4) = false := by simp; omega
      go_wp2_with fail
      go_ret
      exact ⟨rfl, HW.out.since⟩
    have h4' : (r : Int) < 4 := by omega
    repeat ((fail_if_success (with_reducible refine stop_at 17 ?_)); first | fail | go_values | go_skip | go_guarded | go_step | go_upon | go_back | go_simp)
    refine wp_cut (SF w A0 A1 A2 A3 Z0.length c0 Z1.length c1 Z2.length c2 Z3.length c3 g D m cd M cm vs ns p r) ?_ ?_
    rotate_left
    next =>
      as_aux_lemma =>
        intro _ _ _ _
        by_cases hf : r < Z2.length
        · have hf' : (r : Int) < (Z2.length : Int) := by omega
          obtain ⟨b, off, rfl, hlt, hc⟩ := C2.out (by rintro rfl; simp at hf)
          have cf : wr.cell? ⟨b, off + r, none⟩ = some (.int .i64 (ith Z2 r)) := HW.out.since.cell hlt (hc r hf)
          have hbd := B2.out r
          clear hc
          generalize ith Z2 r = y at *
          obtain ⟨S, hS, up⟩ := HW.out.at_ 0 rfl
          go_wp2_with fail
          refine (gfail g s y (by omega) _ S hS).mono ?_
          rintro e w2 ⟨rfl, hl⟩
          have HW2 := Lib.hid (up _ _ hl)
          clear hl hS up
          go_wp2_with fail
          refine Met.intro ?_
          go_step
          exact ⟨s.fail y, ⟨HKP.out.fail y, HW2.out⟩, _, _, _, _, _, _, _, _, _, _, _, _, _, _, _, _, _, _, _, _, _, _, _, _, _, _, _, _, _, _, _, _, (by kernel_rfl), rfl⟩
        · have hf' : decide ((r : Int) < (Z2.length : Int)) = false := by simp; omega
          go_wp2_with fail
          refine Met.intro ?_
          go_step
          exact ⟨s, ⟨HKP.out, HW.out⟩, _, _, _, _, _, _, _, _, _, _, _, _, _, _, _, _, _, _, _, _, _, _, _, _, _, _, _, _, _, _, _, _, (by kernel_rfl), rfl⟩
    intro a' w2 hinv
    clear HW HKP
    obtain ⟨s2, ⟨hkp, hw⟩, t4, t5, t6, t7, t8, t9, t10, t11, t12, t13, t14, t15, t16, t17, t23, t24, t25, t26, t27, t28, t29, t30, t31, t32, t33, t34, t35, t36, t37, t38, t39, U, hU, rfl⟩ := hinv
    obtain ⟨u, rfl⟩ := growTail hU; clear hU
    have HW2 := Lib.hid hw
    have HKP2 := Lib.hid hkp
    clear hkp hw hlen'
    obtain ⟨wo, rfl⟩ : ∃ x : World, x = w2 := ⟨_, rfl⟩
    repeat ((fail_if_success (with_reducible refine stop_at 19 ?_)); first | fail | go_values | go_skip | go_guarded | go_step | go_upon | go_back | go_simp)
    refine wp_cut (SK w A0 A1 A2 A3 Z0.length c0 Z1.length c1 Z2.length c2 Z3.length c3 g r) ?_ ?_
    rotate_left
    next =>
      intro _ _ _ _
      go_wp2_with fail
      refine wp_loop (LK w A0 A1 A2 A3 Z0.length c0 Z1.length c1 Z2.length c2 Z3.length c3 g r) LKM ?_ ?_
      next => exact ⟨0, p, m, cd, cm, D, M, vs, s2, ns, ⟨by omega, by omega, HKP2.out, HW2.out⟩, _, _, _, _, _, _, _, _, _, _, _, _, _, _, _, _, _, _, _, _, _, _, _, _, _, _, _, _, _, _, _, (by kernel_rfl), rfl⟩
      next =>
        clear HW2 HKP2 hp h4 h4'
        intro a' wr hinv
        obtain ⟨k, p, m, cd, cm, D, M, vs, s, ns, ⟨hk, hp, hkp, hw⟩, t4, t5, t6, t7, t8, t9, t10, t11, t12, t13, t14, t15, t16, t17, t24, t25, t26, t27, t28, t29, t30, t31, t32, t33, t34, t35, t36, t37, t38, t39, U, hU, rfl⟩ := hinv
        obtain ⟨u, rfl⟩ := growTail hU; clear hU
        have HW := Lib.hid hw
        have HKP := Lib.hid hkp
        clear hw hkp
        by_cases hk2 : k < 12
        case neg =>
          have hk2' : decide ((k : Int) < 12) = false := by simp; omega
          go_wp2_with fail
          refine Met.intro ?_
          go_step
          exact ⟨p, m, cd, cm, D, M, vs, s, ns, ⟨by omega, HKP.out, HW.out⟩, _, _, _, _, _, _, _, _, _, _, _, _, _, _, _, _, _, _, _, _, _, _, _, _, _, _, _, _, _, _, _, _, (by kernel_rfl), rfl⟩
        have hk2' : (k : Int) < 12 := by omega
        by_cases hpn : p < Z0.length
        case neg =>
          have hpn' : decide ((p : Int) < (Z0.length : Int)) = false := by simp; omega
          go_wp2_with fail
          refine Met.intro ?_
          go_step
          exact ⟨p, m, cd, cm, D, M, vs, s, ns, ⟨by omega, HKP.out, HW.out⟩, _, _, _, _, _, _, _, _, _, _, _, _, _, _, _, _, _, _, _, _, _, _, _, _, _, _, _, _, _, _, _, _, (by kernel_rfl), rfl⟩
        have hpn' : (p : Int) < (Z0.length : Int) := by omega
        repeat ((fail_if_success (with_reducible refine stop_at 22 ?_)); first | fail | go_values | go_skip | go_guarded | go_step | go_upon | go_back | go_simp)
        refine wp_cut (SY w A0 A1 A2 A3 Z0.length c0 Z1.length c1 Z2.length c2 Z3.length c3 g D m cd M cm vs ns p r k) ?_ ?_
        rotate_left
        next =>
          as_aux_lemma =>
            intro _ _ _ _
            by_cases hq : p < Z1.length
            case neg =>
              have hq' : decide ((p : Int) < (Z1.length : Int)) = false := by simp; omega
              go_wp2_with fail
              refine Met.intro ?_
              go_step
              exact ⟨s, ⟨HKP.out, HW.out⟩, _, _, _, _, _, _, _, _, _, _, _, _, _, _, _, _, _, _, _, _, _, _, _, _, _, _, _, _, _, _, _, (by kernel_rfl), rfl⟩
            have hq' : (p : Int) < (Z1.length : Int) := by omega
            obtain ⟨b, off, rfl, hlt, hc⟩ := C1.out (by rintro rfl; simp at hq)
            have cf : wr.cell? ⟨b, off + p, none⟩ = some (.int .i64 (ith Z1 p)) := HW.out.since.cell hlt (hc p hq)
            clear hc
            generalize ith Z1 p = y at *
            by_cases hy : y = 1
            case neg =>
              have hy' : (y == 1) = false := by simpa using hy
              clear hy
              go_wp2_with fail
              refine Met.intro ?_
              go_step
              exact ⟨s, ⟨HKP.out, HW.out⟩, _, _, _, _, _, _, _, _, _, _, _, _, _, _, _, _, _, _, _, _, _, _, _, _, _, _, _, _, _, _, _, (by kernel_rfl), rfl⟩
            subst hy
            have HSY := Lib.hid (sync_two s)
            obtain ⟨S, hS, up⟩ := HW.out.at_ 0 rfl
            go_wp2_with fail
            refine (gsync g s _ S hS).mono ?_
            rintro e w3 ⟨rfl, hl⟩
            have HW3 := Lib.hid (up _ _ hl)
            clear hl hS up
            rcases HSY.out with h6 | ⟨h0, hss⟩
            · rw [h6, errV_pos (show (6 : Int) ≠ 0 by decide)]
              clear h6
              go_wp2_with fail
              refine Met.intro ?_
              go_step
              exact ⟨s.sync, ⟨HKP.out.sync, HW3.out⟩, _, _, _, _, _, _, _, _, _, _, _, _, _, _, _, _, _, _, _, _, _, _, _, _, _, _, _, _, _, _, _, (by kernel_rfl), rfl⟩
            · rw [h0, errV_zero]
              have HSS := Lib.hid hss
              clear h0 hss
              obtain ⟨S, hS, up⟩ := HW3.out.at_ 0 rfl
              go_wp2_with fail
              refine (gsafe g s.sync _ S hS).mono ?_
              rintro e w4 ⟨rfl, rfl⟩
              rw [HSS.out]
              go_wp2_with fail
              refine (gbytes g s.sync _ S hS).mono ?_
              rintro e w5 ⟨rfl, rfl⟩
              go_wp2_with fail
              refine Met.intro ?_
              go_step
              exact ⟨s.sync, ⟨HKP.out.sync, HW3.out⟩, _, _, _, _, _, _, _, _, _, _, _, _, _, _, _, _, _, _, _, _, _, _, _, _, _, _, _, _, _, _, _, (by kernel_rfl), rfl⟩
        intro a' wy hinv
        clear HW HKP
        obtain ⟨s2, ⟨hkp, hw⟩, t4, t5, t6, t7, t8, t9, t10, t11, t12, t13, t14, t15, t16, t17, t24, t25, t26, t27, t28, t29, t30, t31, t32, t33, t34, t35, t36, t37, t38, t39, U, hU, rfl⟩ := hinv
        obtain ⟨u, rfl⟩ := growTail hU; clear hU
        have HW := Lib.hid hw
        have HKP := Lib.hid hkp
        clear hkp hw
        obtain ⟨wo, rfl⟩ : ∃ x : World, x = wy := ⟨_, rfl⟩
        clear hk2'
        have hm := HKP.out.hm
        have hle := HKP.out.le
        obtain ⟨gd, A7, c7, hD, hgd, cd7, hv7, hl7⟩ := kbox_row HW.out rfl rfl (Nat.le_refl _)
        subst hD
        rw [List.take_length] at cd7 hl7 hv7
        obtain ⟨b0, o0, hA0, hlt0, hcc0⟩ := C0.out (by rintro rfl; simp at hpn)
        subst hA0
        have HX := Lib.hid (And.intro hlt0 (hcc0 p hpn))
        have hbx := B0.out p
        generalize ith Z0 p = x at *
        have cx := HW.out.since.cell HX.out.1 HX.out.2
        obtain ⟨n7, hn7⟩ : ∃ n, (adds ns).length = n := ⟨_, rfl⟩
        rw [hn7] at cd7 hl7 hv7
        have HN7 := Lib.hid hn7
        have hn72 : n7 ≤ 12 := by
          obtain ⟨t, ht⟩ := HKP.out.ok
          have := ht.fit.rng _ (Nat.le_refl _)
          rw [List.take_length] at this
          rw [← hn7]; exact rngE_len this
        have HL7 := Lib.hid hl7
        have hq60 : ns.length ≤ 60 := by omega
        obtain ⟨q, hq⟩ : ∃ q, ns.length = q := ⟨_, rfl⟩
        rw [hq] at cd7 hm hq60
        have HQ := Lib.hid hq
        have i0 : (0 : Int) ≤ (m : Int) - 1 := by omega
        have i1 : (m : Int) - 1 < (m : Int) := by omega
        have i2 : ((m : Int) - 1).toNat = q := by omega
        have HV7 : Hid (vs[ns.length]? = some (.slice A7 n7 c7)) := Lib.hid hv7
        clear hcc0 hlt0 hn7 hl7 hle hm hq hv7
        go_wp2_with fail
        refine (rmay_any x _).mono ?_
        rintro e w4 ⟨rfl, rfl⟩
        repeat ((fail_if_success (with_reducible refine stop_at 29 ?_)); first | fail | go_values | go_skip | go_guarded | go_step | go_upon | go_back | go_simp)
        refine wp_cut (SN w (some ⟨b0, o0, none⟩) A1 A2 A3 Z0.length c0 Z1.length c1 Z2.length c2 Z3.length c3 g (some ⟨gd, 0, none⟩) m cd M cm vs s2 ns p r k x) ?_ ?_
        rotate_left
        next =>
          as_aux_lemma =>
            intro _ _ _ _
            obtain ⟨mb, hmb⟩ : ∃ b, mayB x = b := ⟨_, rfl⟩
            rw [hmb]
            have HMB := Lib.hid hmb
            clear hmb
            cases mb with
            | false =>
              have HSW : Hid (addE (adds ns) x = 1 ∧ addB (adds ns) x = false) := Lib.hid (by
                obtain ⟨t, ht⟩ := HKP.out.ok
                obtain ⟨h1, h2⟩ := step_words ht.fit x
                rw [HMB.out] at h1 h2
                exact ⟨by rw [h1, if_neg (by decide)], by rw [h2]; rfl⟩)
              go_wp2_with fail
              refine Met.intro ?_
              go_step
              unfold SN
              rw [HSW.out.1, HSW.out.2]
              exact ⟨_, _, _, .slice none 0 0, [], ⟨(fun h => by cases h), HW.out.add (Since.refl _) (S := []) ⟨Lst.nil _ _ _, rfl⟩ (by simp)⟩, _, _, _, _, _, _, _, _, _, _, _, _, _, _, _, _, _, _, _, _, _, _, _, _, _, _, _, _, (by kernel_rfl), rfl⟩
            | true =>
              have HSW : Hid (addE (adds ns) x = (if 12 < (withL (adds ns) ⟨x, x⟩).length then 4 else 0) ∧ addB (adds ns) x = (!inB (adds ns) x && !decide (12 < (withL (adds ns) ⟨x, x⟩).length)) ∧ ∀ r ∈ adds ns, okN r) := Lib.hid (by
                obtain ⟨t, ht⟩ := HKP.out.ok
                obtain ⟨h1, h2⟩ := step_words ht.fit x
                have h3 := ht.fit.rng _ (Nat.le_refl _)
                rw [List.take_length] at h3
                rw [HMB.out] at h1 h2
                exact ⟨by rw [h1, if_pos rfl], by rw [h2]; simp, rngE_ok h3⟩)
              go_upto_region 30 with fail
              refine wp_cut (SW w (some ⟨b0, o0, none⟩) A1 A2 A3 Z0.length c0 Z1.length c1 Z2.length c2 Z3.length c3 g (some ⟨gd, 0, none⟩) m cd M cm vs s2 ns p r k x A7 n7 c7) ?_ ?_
              rotate_left
              next =>
                as_aux_lemma =>
                  intro _ _ _ _
                  have HWD := Lib.hid (HW.out.later (show Since wo wo.drew from (Since.refl wo).drew))
                  have HWI := Lib.hid (rwith A7 n7 c7 (adds ns) ⟨x, x⟩ wo.drew HN7.out HSW.out.2.2 (mayN HMB.out) (by omega) (Rd.of_lst (HWD.out.row_at 3 rfl (Nat.le_refl _) HV7.out |> fun h => by rw [List.take_length] at h; exact h)))
                  clear i0 i1 i2 cd7
                  go_still_tail 10, (by kernel_rfl)
                  change wpList _ _ _ _ _ wo.drew
                  go_wp2_with (go_at_call 14; refine HWI.out.mono ?_; rintro e w5 ⟨B, cB, rfl, hl5, hb5, hk5⟩)
                  refine Met.intro ?_
                  go_step
                  exact ⟨B, _, cB, ⟨rfl, HWD.out.add hb5 (S := blocks (.slice B (withL (adds ns) ⟨x, x⟩).length cB)) ⟨hl5, rfl⟩ (fun k hk => hk5 k (blocks_zero' hk))⟩, _, _, _, _, _, _, _, _, _, _, _, _, _, _, _, _, _, _, _, _, _, _, _, _, _, _, _, _, (by kernel_rfl), rfl⟩
              intro a' w5 hinv
              obtain ⟨B, b, cB, ⟨hb, hw⟩, t4, t5, t6, t7, t8, t9, t10, t11, t12, t13, t14, t15, t16, t17, t27, t28, t29, t30, t31, t32, t33, t34, t35, t36, t37, t38, t39, U, hU, rfl⟩ := hinv
              obtain ⟨u, rfl⟩ := growTail hU; clear hU
              have HW5 := Lib.hid hw
              have HBL := Lib.hid hb
              have cx5 := HW5.out.since.cell HX.out.1 HX.out.2
              have HRI := Lib.hid (fun W (hs : Since w5 W) => rinR A7 n7 c7 (adds ns) x W HN7.out (Rd.of_lst (HW5.out.row_at 3 rfl (Nat.le_refl _) HV7.out |>.later hs |> fun h => by rw [List.take_length] at h; exact h)))
              have hb13 : b ≤ 13 := by
                have := withL_len (adds ns) ⟨x, x⟩
                rw [HN7.out, HBL.out] at this
                omega
              clear hw hb cx cd7 i0 i1 i2
              go_wp2_with fail
              refine (HRI.out _ (Since.refl _)).mono ?_
              rintro e w6 ⟨rfl, hb6⟩
              have HW6 := Lib.hid (HW5.out.later hb6)
              clear hb6 cx5
              by_cases h12 : 12 < b
              · have h12' : (12 : Int) < (b : Int) := by omega
                have HSX : Hid (addE (adds ns) x = 4 ∧ addB (adds ns) x = false) := Lib.hid (by
                  obtain ⟨h1, h2, _⟩ := HSW.out
                  rw [HBL.out] at h1 h2
                  exact ⟨by rw [h1, if_pos h12], by rw [h2, decide_eq_true h12]; simp⟩)
                clear h12
                go_wp2_with fail
                refine Met.intro ?_
                go_step
                unfold SN
                rw [HSX.out.1, HSX.out.2]
                exact ⟨_, _, _, _, _, ⟨(fun h => by cases h), HW6.out⟩, _, _, _, _, _, _, _, _, _, _, _, _, _, _, _, _, _, _, _, _, _, _, _, _, _, _, _, _, (by kernel_rfl), rfl⟩
              · have h12' : decide ((12 : Int) < (b : Int)) = false := by simp; omega
                have HSX : Hid (addE (adds ns) x = 0 ∧ addB (adds ns) x = !inB (adds ns) x) := Lib.hid (by
                  obtain ⟨h1, h2, _⟩ := HSW.out
                  rw [HBL.out] at h1 h2
                  exact ⟨by rw [h1, if_neg h12], by rw [h2, decide_eq_false h12]; simp⟩)
                have HJJ : Hid (addB (adds ns) x = true → withL (adds ns) ⟨x, x⟩ = adds (ns ++ [x])) := Lib.hid (fun h => by
                  rw [adds_snoc]; exact (addB_ok h).2.2.2.2.symm)
                rw [HSX.out.2] at HJJ
                clear h12
                generalize inB (adds ns) x = ib at *
                go_wp2_with fail
                refine Met.intro ?_
                go_step
                unfold SN
                rw [HSX.out.1, HSX.out.2]
                exact ⟨_, _, _, _, _, ⟨(fun h => ⟨rfl, HBL.out.symm, HJJ.out h⟩), HW6.out⟩, _, _, _, _, _, _, _, _, _, _, _, _, _, _, _, _, _, _, _, _, _, _, _, _, _, _, _, _, (by kernel_rfl), rfl⟩
        intro a' w6 hinv
        obtain ⟨B, b, cB, V, J, ⟨hsn, hw⟩, t4, t5, t6, t7, t8, t9, t10, t11, t12, t13, t14, t15, t16, t17, t24, t28, t29, t30, t31, t32, t33, t34, t35, t36, t37, t38, t39, U, hU, rfl⟩ := hinv
        obtain ⟨u, rfl⟩ := growTail hU; clear hU
        have HSN := Lib.hid hsn
        have HW6 := Lib.hid hw
        have HST := Lib.hid (HKP.out.step (by omega) x)
        have hfew := HKP.out.few.1
        have cx6 := HW6.out.since.cell HX.out.1 HX.out.2
        clear hsn hw HW cx HL7 HV7 HN7
        obtain ⟨S, hS, up⟩ := HW6.out.at_ 0 rfl
        go_wp2_with fail
        refine (gbytes g s2 _ S hS).mono ?_
        rintro e w7 ⟨rfl, rfl⟩
        go_wp2_with fail
        refine (gcame g s2 x _ S hS (wf_any hbx) (HP.out.later HW6.out.since) hfew).mono ?_
        rintro e w8 ⟨rfl, hl⟩
        have HW8 : Hid (Own w [] w8 (kbox g (lgN s2 x) ns (some ⟨gd, 0, none⟩) m cd M cm vs ++ [Thing.lst 34 2 V (J.map rngRow)])) := Lib.hid (up _ _ hl)
        clear hl hS up HW6 cx6
        obtain ⟨E, hE⟩ : ∃ E, lgE s2 x = E := ⟨_, rfl⟩
        obtain ⟨lb, hlb⟩ : ∃ b, lgB s2 x = b := ⟨_, rfl⟩
        obtain ⟨s8, hs8⟩ : ∃ s, lgN s2 x = s := ⟨_, rfl⟩
        obtain ⟨aE, haE⟩ : ∃ E, addE (adds ns) x = E := ⟨_, rfl⟩
        obtain ⟨aB, haB⟩ : ∃ b, addB (adds ns) x = b := ⟨_, rfl⟩
        rw [hE, hlb, hs8, haE, haB] at HST
        rw [haB] at HSN
        rw [hs8] at HW8
        rw [hE, hlb, haE, haB]
        obtain ⟨z2, hz2⟩ : ∃ z, s2.by_.size = z := ⟨_, rfl⟩
        have HZ2 := Lib.hid hz2
        rw [hz2] at HST hfew
        rw [hz2]
        clear hE hlb hs8 haE haB hz2
        go_wp2_with fail
        refine (same_error E 6 _ (HE.out.later HW8.out.since)).mono ?_
        rintro e w9 ⟨rfl, hb9⟩
        have HW9 := Lib.hid (HW8.out.later hb9)
        clear hb9 HW8
        go_wp2_with fail
        refine (same_error E aE _ (HE.out.later HW9.out.since)).mono ?_
        rintro e wv ⟨rfl, hbv⟩
        have HWV := Lib.hid (HW9.out.later hbv)
        clear hbv HW9
        repeat ((fail_if_success (with_reducible refine stop_at 41 ?_)); first | fail | go_values | go_skip | go_guarded | go_step | go_upon | go_back | go_simp)
        refine wp_cut (SG w (some ⟨b0, o0, none⟩) A1 A2 A3 Z0.length c0 Z1.length c1 Z2.length c2 Z3.length c3 g (some ⟨gd, 0, none⟩) m cd M cm vs p r k (.slice B b cB) (.bool aB) (.int .i64 z2) (.bool lb) (errV E) wv) ?_ ?_
        rotate_left
        next =>
          as_aux_lemma =>
            intro _ _ _ _
            rcases HST.out with ⟨rfl, rfl, rfl, rfl, -⟩ | ⟨rfl, rfl, -⟩ | ⟨rfl, rfl, rfl, h4, -⟩
            · clear HST HSN
              go_wp2_with fail
              refine Met.intro ?_
              go_step
              exact ⟨rfl, _, _, _, _, _, _, _, _, _, _, _, _, _, _, _, _, _, _, _, _, _, _, _, _, _, _, (by kernel_rfl), rfl⟩
            · clear HST HSN
              go_wp2_with fail
              refine Met.intro ?_
              go_step
              exact ⟨rfl, _, _, _, _, _, _, _, _, _, _, _, _, _, _, _, _, _, _, _, _, _, _, _, _, _, _, (by kernel_rfl), rfl⟩
            · rcases h4 with rfl | rfl | rfl
              · clear HST HSN
                go_wp2_with fail
                refine Met.intro ?_
                go_step
                exact ⟨rfl, _, _, _, _, _, _, _, _, _, _, _, _, _, _, _, _, _, _, _, _, _, _, _, _, _, _, (by kernel_rfl), rfl⟩
              · clear HST HSN
                go_wp2_with fail
                refine Met.intro ?_
                go_step
                exact ⟨rfl, _, _, _, _, _, _, _, _, _, _, _, _, _, _, _, _, _, _, _, _, _, _, _, _, _, _, (by kernel_rfl), rfl⟩
              · clear HST HSN
                go_wp2_with fail
                refine Met.intro ?_
                go_step
                exact ⟨rfl, _, _, _, _, _, _, _, _, _, _, _, _, _, _, _, _, _, _, _, _, _, _, _, _, _, _, (by kernel_rfl), rfl⟩
        intro a' wv2 hinv
        obtain ⟨rfl, t4, t5, t6, t7, t8, t9, t10, t11, t12, t13, t14, t15, t16, t17, t24, t26, t28, t32, t33, t34, t35, t36, t37, t38, t39, U, hU, rfl⟩ := hinv
        obtain ⟨u, rfl⟩ := growTail hU; clear hU
        repeat ((fail_if_success (with_reducible refine stop_at 43 ?_)); first | fail | go_values | go_skip | go_guarded | go_step | go_upon | go_back | go_simp)
        refine wp_cut (SE w (some ⟨b0, o0, none⟩) A1 A2 A3 Z0.length c0 Z1.length c1 Z2.length c2 Z3.length c3 g p r k) ?_ ?_
        rotate_left
        next =>
          as_aux_lemma =>
            intro _ _ _ _
            rcases HST.out with ⟨rfl, rfl, rfl, rfl, ⟨h5, h6, h7⟩, h8⟩ | ⟨rfl, rfl, h8⟩ | ⟨rfl, rfl, rfl, h4, h5, h8⟩
            · obtain ⟨hV, hbJ, hJ⟩ := HSN.out rfl
              subst hV hJ
              obtain ⟨z8, hz8⟩ : ∃ z, s8.by_.size = z := ⟨_, rfl⟩
              rw [hz8] at h5 h6 h7
              have HZ8 := Lib.hid hz8
              have HZ7 := Lib.hid h7
              have HK8 := Lib.hid h8
              have HBJ := Lib.hid hbJ
              have hge : decide ((z8 : Int) < (z2 : Int) + 2) = false := by simp; omega
              have HVL : Hid ((vs.map vRow).length = m) := Lib.hid (by rw [List.length_map, HWV.out.rows_len 3 rfl]; exact HKP.out.hm.symm)
              have HML : Hid (((marks ns).map intRow).length = m) := Lib.hid (by rw [List.length_map, marks_len]; exact HKP.out.hm.symm)
              have hm60 : m ≤ 61 := by have := HKP.out.hm; have := HKP.out.le; omega
              rw [errV_zero]
              clear hz8 h7 h8 hbJ HST HSN
              obtain ⟨S, hS, up⟩ := HWV.out.at_ 0 rfl
              go_wp2_with fail
              refine (gbytes g s8 _ S hS).mono ?_
              rintro e w9 ⟨rfl, rfl⟩
              rw [HZ8.out]
              go_wp2_with (at_builtin; refine wpList_push rfl _ _ 36 rfl 31 1 24 Tryz.elRngs (.slice (some ⟨gd, 0, none⟩) m cd) (vs.map vRow) rfl ((HWV.out.ls 1 rfl).alloc _) wv.heap.size 1 [.slice B b cB] rfl rfl (by intro u hu; rw [List.mem_singleton.1 hu]; rfl) (BlockIs.fresh _ _ _) (by rw [HVL.out]; omega) ?_; intro q9 c9 w9 hl9 ho9 hq9 hlt9; rw [HVL.out] at hl9; (try rw [HVL.out]); have HW9 := Lib.hid ((HWV.out.later (show Below wv.heap.size wv (wv.alloc (.cells #[.slice B b cB] 31)) from (Since.refl wv).alloc _)).push 1 rfl hl9 ho9 hq9); clear hl9 ho9 hq9 hlt9; clear hS up; obtain ⟨S, hS, up⟩ := HW9.out.at_ 0 rfl)
              refine (gbytes g s8 _ S hS).mono ?_
              rintro e w10 ⟨rfl, rfl⟩
              rw [HZ8.out]
              go_wp2_with (at_builtin; refine wpList_push rfl _ _ 22 rfl 3 1 8 Tryz.elInt (.slice M m cm) ((marks ns).map intRow) rfl ((HW9.out.ls 2 rfl).alloc _) w9.heap.size 1 [.int .i64 z8] rfl rfl (by intro u hu; rw [List.mem_singleton.1 hu]; rfl) (BlockIs.fresh _ _ _) (by rw [HML.out]; omega) ?_; intro q10 c10 w10 hl10 ho10 hq10 hlt10; rw [HML.out] at hl10; (try rw [HML.out]); have HW10 := Lib.hid ((HW9.out.later (show Below w9.heap.size w9 (w9.alloc (.cells #[.int .i64 z8] 3)) from (Since.refl w9).alloc _)).push 2 rfl hl10 ho10 hq10); clear hl10 ho10 hq10 hlt10)
              refine Met.intro ?_
              go_step
              exact ⟨m + 1, c9, c10, some ⟨q9, 0, none⟩, some ⟨q10, 0, none⟩, vs ++ [.slice B b cB], s8, ns ++ [x], ⟨HK8.out, kbox_more HBJ.out HZ7.out HW10.out rfl⟩, _, _, _, _, _, _, _, _, _, _, _, _, _, _, _, _, _, _, _, _, _, _, _, _, _, _, _, _, _, _, _, (by kernel_rfl), rfl⟩
            · have HK8 := Lib.hid h8
              rw [errV_pos (show (6 : Int) ≠ 0 by decide)]
              clear h8 HST HSN
              go_wp2_with fail
              refine Met.intro ?_
              go_step
              exact ⟨m, cd, cm, some ⟨gd, 0, none⟩, M, vs, s8, ns, ⟨HK8.out, HWV.out.take 4⟩, _, _, _, _, _, _, _, _, _, _, _, _, _, _, _, _, _, _, _, _, _, _, _, _, _, _, _, _, _, _, _, (by kernel_rfl), rfl⟩
            · have HK8 := Lib.hid h8
              have HZ8 : Hid (s8.by_.size = z2) := Lib.hid (by rw [h5]; exact HZ2.out)
              rcases h4 with rfl | rfl | rfl
              · rw [errV_zero]
                clear h8 h5 HST HSN
                obtain ⟨S, hS, up⟩ := HWV.out.at_ 0 rfl
                go_wp2_with fail
                refine (gbytes g s8 _ S hS).mono ?_
                rintro e w9 ⟨rfl, rfl⟩
                rw [HZ8.out]
                go_wp2_with fail
                refine Met.intro ?_
                go_step
                exact ⟨m, cd, cm, some ⟨gd, 0, none⟩, M, vs, s8, ns, ⟨HK8.out, HWV.out.take 4⟩, _, _, _, _, _, _, _, _, _, _, _, _, _, _, _, _, _, _, _, _, _, _, _, _, _, _, _, _, _, _, _, (by kernel_rfl), rfl⟩
              · rw [errV_pos (show (1 : Int) ≠ 0 by decide)]
                clear h8 h5 HST HSN
                go_wp2_with fail
                refine Met.intro ?_
                go_step
                exact ⟨m, cd, cm, some ⟨gd, 0, none⟩, M, vs, s8, ns, ⟨HK8.out, HWV.out.take 4⟩, _, _, _, _, _, _, _, _, _, _, _, _, _, _, _, _, _, _, _, _, _, _, _, _, _, _, _, _, _, _, _, (by kernel_rfl), rfl⟩
              · rw [errV_pos (show (4 : Int) ≠ 0 by decide)]
                clear h8 h5 HST HSN
                go_wp2_with fail
                refine Met.intro ?_
                go_step
                exact ⟨m, cd, cm, some ⟨gd, 0, none⟩, M, vs, s8, ns, ⟨HK8.out, HWV.out.take 4⟩, _, _, _, _, _, _, _, _, _, _, _, _, _, _, _, _, _, _, _, _, _, _, _, _, _, _, _, _, _, _, _, (by kernel_rfl), rfl⟩
        intro a' w9 hinv
        clear HWV HKP HST HSN
        obtain ⟨m, cd, cm, D, M, vs, s, ns, ⟨hkp, hw⟩, t4, t5, t6, t7, t8, t9, t10, t11, t12, t13, t14, t15, t16, t17, t24, t25, t26, t27, t28, t29, t30, t31, t32, t33, t34, t35, t36, t37, t38, t39, U, hU, rfl⟩ := hinv
        obtain ⟨u, rfl⟩ := growTail hU; clear hU
        have HW := Lib.hid hw
        have HKP := Lib.hid hkp
        clear hkp hw
        obtain ⟨gd, A7, c7, hD, hgd, cd7, hv7, hl7⟩ := kbox_row HW.out rfl rfl (Nat.le_refl _)
        subst hD
        rw [List.take_length] at cd7 hl7 hv7
        obtain ⟨n7, hn7⟩ : ∃ n, (adds ns).length = n := ⟨_, rfl⟩
        rw [hn7] at cd7 hl7 hv7
        have HN7 := Lib.hid hn7
        have hn72 : n7 ≤ 12 := by have := HKP.out.all.2; omega
        have HL7 := Lib.hid hl7
        have HAL := Lib.hid (kall HW.out rfl HKP.out.all.1 hn7)
        have hm := HKP.out.hm
        obtain ⟨q, hq⟩ : ∃ q, ns.length = q := ⟨_, rfl⟩
        rw [hq] at cd7 hm
        have i0 : (0 : Int) ≤ (m : Int) - 1 := by omega
        have i1 : (m : Int) - 1 < (m : Int) := by omega
        have i2 : ((m : Int) - 1).toNat = q := by omega
        have hq61 : m ≤ 62 := by have := HKP.out.le; omega
        have i3 : (1 : Int) ≤ (m : Int) := by omega
        have hw1 : IntKind.i64.wrap ((m : Int) - 1) = (m : Int) - 1 := IntWalk.i64_in _ (by omega)
        clear hn7 hl7 hm hq hv7
        go_upto_region 50 with fail
        go_region_law (first
          | (go_simp; go_at_call 9; refine (HAL.out _ (show Since w9 _ from (by refine Since.out ?_; repeat (first | with_reducible assumption | with_reducible exact Since.refl _ | with_reducible refine Since.later ?_ (by with_reducible assumption) | with_reducible refine Since.only ?_ (by with_reducible assumption) (by first | assumption | omega | (simp; done) | (simp; omega)) | with_reducible refine Since.alloc ?_ _ | with_reducible refine Since.drewN ?_ _ | with_reducible refine Since.drew ?_ | with_reducible refine Since.set ?_ (by first | assumption | omega | (simp; done) | (simp; omega)) _)))).mono ?_; rintro e w10 ⟨A1, c1, rfl, hl10, hb10⟩; have HL10 := Lib.hid hl10; have HS10 := Lib.hid (show Since w9 w10 from (by refine Since.out ?_; repeat (first | with_reducible assumption | with_reducible exact Since.refl _ | with_reducible refine Since.later ?_ (by with_reducible assumption) | with_reducible refine Since.only ?_ (by with_reducible assumption) (by first | assumption | omega | (simp; done) | (simp; omega)) | with_reducible refine Since.alloc ?_ _ | with_reducible refine Since.drewN ?_ _ | with_reducible refine Since.drew ?_ | with_reducible refine Since.set ?_ (by first | assumption | omega | (simp; done) | (simp; omega)) _))); have cd10 := HS10.out.cell hgd cd7; have lgd := Nat.lt_of_lt_of_le hgd HS10.out.le; have hs10 : Since w9 w10 := HS10.out; clear hl10 hb10)
          | (go_simp; go_at_call 17; refine (rngeq A1 A7 c1 c7 n7 (adds ns) _ HN7.out ?_ ?_ (by omega)).mono ?_; (first | exact HL10.out | exact HL10.out.drew); (exact HL7.out.later (by refine Since.out ?_; repeat (first | with_reducible assumption | with_reducible exact Since.refl _ | with_reducible refine Since.later ?_ (by with_reducible assumption) | with_reducible refine Since.only ?_ (by with_reducible assumption) (by first | assumption | omega | (simp; done) | (simp; omega)) | with_reducible refine Since.alloc ?_ _ | with_reducible refine Since.drewN ?_ _ | with_reducible refine Since.drew ?_ | with_reducible refine Since.set ?_ (by first | assumption | omega | (simp; done) | (simp; omega)) _))); rintro e w11 ⟨rfl, hb11⟩; have HS11 := Lib.hid (show Since w9 w11 from (by refine Since.out ?_; repeat (first | with_reducible assumption | with_reducible exact Since.refl _ | with_reducible refine Since.later ?_ (by with_reducible assumption) | with_reducible refine Since.only ?_ (by with_reducible assumption) (by first | assumption | omega | (simp; done) | (simp; omega)) | with_reducible refine Since.alloc ?_ _ | with_reducible refine Since.drewN ?_ _ | with_reducible refine Since.drew ?_ | with_reducible refine Since.set ?_ (by first | assumption | omega | (simp; done) | (simp; omega)) _))); have hs11 : Since w9 w11 := HS11.out; clear hb11))
        all_goals
          go_wp2_with fail
          refine ⟨⟨k + 1, p + 1, m, cd, cm, _, M, vs, s, ns, ⟨by omega, by omega, HKP.out, HW.out.later HS11.out⟩, _, _, _, _, _, _, _, _, _, _, _, _, _, _, _, _, _, _, _, _, _, _, _, _, _, _, _, _, _, _, _, (by kernel_rfl), rfl⟩, ?_⟩
          simp [LKM, intOf]
          omega
    intro a' w3 hinv
    clear HW2 HKP2
    obtain ⟨p3, m, cd, cm, D, M, vs, s, ns, ⟨hp3, hkp, hw⟩, t4, t5, t6, t7, t8, t9, t10, t11, t12, t13, t14, t15, t16, t17, t23, t24, t25, t26, t27, t28, t29, t30, t31, t32, t33, t34, t35, t36, t37, t38, t39, U, hU, rfl⟩ := hinv
    obtain ⟨u, rfl⟩ := growTail hU; clear hU
    have HW := Lib.hid hw
    have HKP := Lib.hid hkp
    clear hkp hw
    obtain ⟨wq, rfl⟩ : ∃ x : World, x = w3 := ⟨_, rfl⟩
    repeat ((fail_if_success (with_reducible refine stop_at 53 ?_)); first | fail | go_values | go_skip | go_guarded | go_step | go_upon | go_back | go_simp)
    refine wp_cut (SP w A0 A1 A2 A3 Z0.length c0 Z1.length c1 Z2.length c2 Z3.length c3 g D m cd M cm vs p3 r wq) ?_ ?_
    rotate_left
    next =>
      as_aux_lemma =>
        intro _ _ _ _
        by_cases hf : r < Z3.length
        · have hf' : (r : Int) < (Z3.length : Int) := by omega
          obtain ⟨b, off, rfl, hlt, hc⟩ := C3.out (by rintro rfl; simp at hf)
          have cf : wq.cell? ⟨b, off + r, none⟩ = some (.int .i64 (ith Z3 r)) := HW.out.since.cell hlt (hc r hf)
          have hbd := B3.out r
          clear hc
          generalize ith Z3 r = y at *
          go_wp2_with fail
          refine Met.intro ?_
          go_step
          exact ⟨y, ⟨rfl, hbd⟩, _, _, _, _, _, _, _, _, _, _, _, _, _, _, _, _, _, _, _, _, _, _, _, _, _, _, _, _, _, _, _, (by kernel_rfl), rfl⟩
        · have hf' : decide ((r : Int) < (Z3.length : Int)) = false := by simp; omega
          go_wp2_with fail
          refine Met.intro ?_
          go_step
          exact ⟨0, ⟨rfl, by decide, by decide⟩, _, _, _, _, _, _, _, _, _, _, _, _, _, _, _, _, _, _, _, _, _, _, _, _, _, _, _, _, _, _, _, (by kernel_rfl), rfl⟩
    intro a' wq2 hinv
    obtain ⟨kp, ⟨rfl, hkb⟩, t4, t5, t6, t7, t8, t9, t10, t11, t12, t13, t14, t15, t16, t17, t23, t24, t25, t26, t27, t28, t29, t30, t31, t32, t33, t35, t36, t37, t38, t39, U, hU, rfl⟩ := hinv
    obtain ⟨u, rfl⟩ := growTail hU; clear hU
    obtain ⟨t3, ht3⟩ := HKP.out.ok
    have hfw := HKP.out.few
    have HHI := Lib.hid (high_eq s kp hfw.2.1 hfw.2.2)
    have HT3 := Lib.hid ht3
    obtain ⟨S, hS, up⟩ := HW.out.at_ 0 rfl
    go_wp2_with fail
    refine (gbytes g s _ S hS).mono ?_
    rintro e w4 ⟨rfl, rfl⟩
    go_wp2_with fail
    refine (gsafe g s _ S hS).mono ?_
    rintro e w5 ⟨rfl, rfl⟩
    go_wp2_with fail
    refine (gcrash g s ns t3 kp _ S hS ht3).mono ?_
    rintro e w6 ⟨rfl, j, hwh, hl⟩
    have HWH := Lib.hid hwh
    have HW6 : Hid (Own w [] w6 (kbox g (LgS.left_ (ns.take j)) ns D m cd M cm vs)) := Lib.hid (up _ _ hl)
    clear hl hS up HW hwh ht3
    obtain ⟨z, hz⟩ : ∃ z, s.by_.size = z := ⟨_, rfl⟩
    obtain ⟨sf, hsf⟩ : ∃ z, s.safe = z := ⟨_, rfl⟩
    obtain ⟨H, hH⟩ : ∃ z, s.high kp = z := ⟨_, rfl⟩
    rw [hz, hsf] at hfw
    rw [hz, hsf, hH] at HHI
    rw [hH] at HWH
    rw [hz, hsf]
    have H0 : 0 ≤ H := by have := HHI.out; split at this <;> (first | omega | (split at this <;> omega))
    clear hz hsf hH
    repeat ((fail_if_success (with_reducible refine stop_at 59 ?_)); first | fail | go_values | go_skip | go_guarded | go_step | go_upon | go_back | go_simp)
    refine wp_cut (SH w A0 A1 A2 A3 Z0.length c0 Z1.length c1 Z2.length c2 Z3.length c3 g D m cd M cm vs p3 r H w6) ?_ ?_
    rotate_left
    next =>
      as_aux_lemma =>
        intro _ _ _ _
        by_cases k0 : 0 < kp
        case neg =>
          have k0' : decide (0 < kp) = false := by simpa using k0
          have e : sf = H := by rw [← HHI.out, if_neg (by omega), if_neg k0]
          subst e
          clear k0
          go_wp2_with fail
          refine Met.intro ?_
          go_step
          exact ⟨rfl, _, _, _, _, _, _, _, _, _, _, _, _, _, _, _, _, _, _, _, _, _, _, _, _, _, _, _, _, _, _, _, (by kernel_rfl), rfl⟩
        case pos =>
          by_cases k1 : kp < (z : Int) - sf
          · have e : sf + kp = H := by rw [← HHI.out, if_pos ⟨k0, k1⟩]
            subst e
            go_wp2_with fail
            refine Met.intro ?_
            go_step
            exact ⟨rfl, _, _, _, _, _, _, _, _, _, _, _, _, _, _, _, _, _, _, _, _, _, _, _, _, _, _, _, _, _, _, _, (by kernel_rfl), rfl⟩
          · have e : (z : Int) = H := by rw [← HHI.out, if_neg (fun h => k1 h.2), if_pos k0]
            have k1' : decide (kp < (z : Int) - sf) = false := by simpa using k1
            subst e
            clear k1
            go_wp2_with fail
            refine Met.intro ?_
            go_step
            exact ⟨rfl, _, _, _, _, _, _, _, _, _, _, _, _, _, _, _, _, _, _, _, _, _, _, _, _, _, _, _, _, _, _, _, (by kernel_rfl), rfl⟩
    intro a' w7 hinv
    obtain ⟨rfl, t4, t5, t6, t7, t8, t9, t10, t11, t12, t13, t14, t15, t16, t17, t23, t24, t25, t26, t27, t28, t29, t30, t31, t32, t33, t34, t35, t36, t38, t39, U, hU, rfl⟩ := hinv
    obtain ⟨u, rfl⟩ := growTail hU; clear hU
    obtain ⟨gm, hM, hgm, hmk⟩ := kbox_marks HW6.out rfl
    subst hM
    have HMK := Lib.hid hmk
    have hj := HWH.out.le
    obtain ⟨gd, A7, c7, hD, hgd, cd7, hv7, hl7⟩ := kbox_row HW6.out rfl rfl hj
    subst hD
    have HCD := Lib.hid (kbox_cap (i := 1) HW6.out rfl)
    have HCM := Lib.hid (kbox_cap (i := 2) HW6.out rfl)
    have hm61 : m ≤ 61 := by have := HKP.out.hm; have := HKP.out.le; omega
    clear hmk HHI hfw
    go_wp2_with fail
    refine wp_loop (LS w A0 A1 A2 A3 Z0.length c0 Z1.length c1 Z2.length c2 Z3.length c3 g (some ⟨gd, 0, none⟩) m cd (some ⟨gm, 0, none⟩) cm vs ns p3 r H w6) (LSM m) ?_ ?_
    next => exact ⟨0, 0, ⟨by omega, Below_.start H0, rfl⟩, _, _, _, _, _, _, _, _, _, _, _, _, _, _, _, _, _, _, _, _, _, _, _, _, _, _, _, _, _, (by kernel_rfl), rfl⟩
    next =>
      intro a' w8 hinv
      obtain ⟨i, l, ⟨hi, hbl, rfl⟩, t4, t5, t6, t7, t8, t9, t10, t11, t12, t13, t14, t15, t16, t17, t23, t24, t25, t26, t27, t28, t29, t30, t31, t32, t33, t34, t35, t36, U, hU, rfl⟩ := hinv
      obtain ⟨u, rfl⟩ := growTail hU; clear hU
      have HBL := Lib.hid hbl
      clear hbl
      by_cases him : i < m
      case pos =>
        have him' : (i : Int) < (m : Int) := by omega
        have ci := HMK.out i (by have := HKP.out.hm; omega)
        obtain ⟨y, hy⟩ : ∃ y : Int, ((rcs (ns.take i)).length : Int) = y := ⟨_, rfl⟩
        have HY := Lib.hid hy
        rw [hy] at ci
        clear hy
        by_cases hyH : y ≤ H
        · have HB2 : Hid (Below_ ns H (i + 1) i) := Lib.hid (Below_.yes (by have := HKP.out.hm; omega) (by rw [HY.out]; exact hyH))
          go_wp2_with fail
          refine ⟨⟨i + 1, i, ⟨by omega, HB2.out, rfl⟩, _, _, _, _, _, _, _, _, _, _, _, _, _, _, _, _, _, _, _, _, _, _, _, _, _, _, _, _, _, (by kernel_rfl), rfl⟩, ?_⟩
          simp [LSM, intOf]
          omega
        · have HB2 : Hid (Below_ ns H (i + 1) l) := Lib.hid (HBL.out.no (by rw [HY.out]; exact hyH))
          have hyH' : decide (y ≤ H) = false := by simpa using hyH
          clear hyH
          go_wp2_with fail
          refine ⟨⟨i + 1, l, ⟨by omega, HB2.out, rfl⟩, _, _, _, _, _, _, _, _, _, _, _, _, _, _, _, _, _, _, _, _, _, _, _, _, _, _, _, _, _, (by kernel_rfl), rfl⟩, ?_⟩
          simp [LSM, intOf]
          omega
      case neg =>
        have him' : decide ((i : Int) < (m : Int)) = false := by simp; omega
        obtain rfl : l = j := by
          have h1 := HBL.out
          rw [show i = ns.length + 1 by have := HKP.out.hm; omega] at h1
          exact h1.whole HWH.out
        have HW7 := Lib.hid (kbox_cut HW6.out hj)
        have HKP7 := Lib.hid (HKP.out.left_ hj)
        have HAL := Lib.hid (kall (J := adds (ns.take l)) HW7.out rfl rfl rfl)
        have cml := HMK.out l hj
        have HA12 : Hid ((adds (ns.take l)).length ≤ 12) := Lib.hid HKP7.out.all.2
        obtain ⟨n7, hn7⟩ : ∃ n, (adds (ns.take l)).length = n := ⟨_, rfl⟩
        rw [hn7] at cd7 hl7 HAL HA12
        have HN7 := Lib.hid hn7
        have HL7 := Lib.hid hl7
        have hn72 := HA12.out
        have HBY : Hid ((((LgS.left_ (ns.take l)).by_.size : Nat) : Int) = ((rcs (ns.take l)).length : Int)) := Lib.hid rfl
        have HSF : Hid ((LgS.left_ (ns.take l)).safe = ((rcs (ns.take l)).length : Int)) := Lib.hid rfl
        have HGB := Lib.hid (fun W (hW : Since w6 W) => by
          obtain ⟨S, hS, _⟩ := (HW7.out.later hW).at_ 0 rfl
          exact gbytes g _ W S hS)
        have HGS := Lib.hid (fun W (hW : Since w6 W) => by
          obtain ⟨S, hS, _⟩ := (HW7.out.later hW).at_ 0 rfl
          exact gsafe g _ W S hS)
        rw [HBY.out] at HGB
        rw [HSF.out] at HGS
        obtain ⟨y, hy⟩ : ∃ y : Int, ((rcs (ns.take l)).length : Int) = y := ⟨_, rfl⟩
        rw [hy] at cml HGB HGS
        have l0 : (0 : Int) ≤ (l : Int) + 1 := by omega
        have hl60 : l ≤ 60 := by have := HKP.out.le; omega
        have l1 : (l : Int) + 1 ≤ (cd : Int) := by have := HCD.out; have := HKP.out.hm; omega
        have l2 : (l : Int) + 1 ≤ (cm : Int) := by have := HCM.out; have := HKP.out.hm; omega
        have l3 : ((l : Int) + 1).toNat = l + 1 := by omega
        have l4 : (l : Int) < (l : Int) + 1 := by omega
        clear hn7 hl7 hv7 hj hy HBY HSF HBL HWH HKP HMK HA12 HCD HCM hi
        go_upto_region 71 with fail
        have HCF := Lib.hid (fun W (hW : Since w6 W) => And.intro (hW.cell hgd cd7) (hW.cell hgm cml))
        go_region_held3 (fun w' => w'.cell? ⟨gd, l, none⟩ = some (.slice A7 n7 c7) ∧ w'.cell? ⟨gm, l, none⟩ = some (.int .i64 y)) (first | exact HCF.out _ (by refine Since.out ?_; repeat (first | with_reducible assumption | with_reducible exact Since.refl _ | with_reducible refine Since.later ?_ (by with_reducible assumption) | with_reducible refine Since.only ?_ (by with_reducible assumption) (by first | assumption | omega | (simp; done) | (simp; omega)) | with_reducible refine Since.alloc ?_ _ | with_reducible refine Since.drewN ?_ _ | with_reducible refine Since.drew ?_ | with_reducible refine Since.set ?_ (by first | assumption | omega | (simp; done) | (simp; omega)) _))) (first
          | (go_at_call 9; refine (HAL.out _ (show Since w6 _ from (by refine Since.out ?_; repeat (first | with_reducible assumption | with_reducible exact Since.refl _ | with_reducible refine Since.later ?_ (by with_reducible assumption) | with_reducible refine Since.only ?_ (by with_reducible assumption) (by first | assumption | omega | (simp; done) | (simp; omega)) | with_reducible refine Since.alloc ?_ _ | with_reducible refine Since.drewN ?_ _ | with_reducible refine Since.drew ?_ | with_reducible refine Since.set ?_ (by first | assumption | omega | (simp; done) | (simp; omega)) _)))).mono ?_; rintro e w10 ⟨A1, c1, rfl, hl10, hb10⟩; have HL10 := Lib.hid hl10; have HS10 := Lib.hid (show Since w6 w10 from (by refine Since.out ?_; repeat (first | with_reducible assumption | with_reducible exact Since.refl _ | with_reducible refine Since.later ?_ (by with_reducible assumption) | with_reducible refine Since.only ?_ (by with_reducible assumption) (by first | assumption | omega | (simp; done) | (simp; omega)) | with_reducible refine Since.alloc ?_ _ | with_reducible refine Since.drewN ?_ _ | with_reducible refine Since.drew ?_ | with_reducible refine Since.set ?_ (by first | assumption | omega | (simp; done) | (simp; omega)) _))); have hs10 : Since w6 w10 := HS10.out; clear hl10 hb10)
          | (go_at_call 17; refine (rngeq A1 A7 c1 c7 n7 (adds (ns.take l)) _ HN7.out ?_ ?_ (by omega)).mono ?_; (first | exact HL10.out | exact HL10.out.drew); (exact HL7.out.later (by refine Since.out ?_; repeat (first | with_reducible assumption | with_reducible exact Since.refl _ | with_reducible refine Since.later ?_ (by with_reducible assumption) | with_reducible refine Since.only ?_ (by with_reducible assumption) (by first | assumption | omega | (simp; done) | (simp; omega)) | with_reducible refine Since.alloc ?_ _ | with_reducible refine Since.drewN ?_ _ | with_reducible refine Since.drew ?_ | with_reducible refine Since.set ?_ (by first | assumption | omega | (simp; done) | (simp; omega)) _))); rintro e w11 ⟨rfl, hb11⟩; have HS11 := Lib.hid (show Since w6 w11 from (by refine Since.out ?_; repeat (first | with_reducible assumption | with_reducible exact Since.refl _ | with_reducible refine Since.later ?_ (by with_reducible assumption) | with_reducible refine Since.only ?_ (by with_reducible assumption) (by first | assumption | omega | (simp; done) | (simp; omega)) | with_reducible refine Since.alloc ?_ _ | with_reducible refine Since.drewN ?_ _ | with_reducible refine Since.drew ?_ | with_reducible refine Since.set ?_ (by first | assumption | omega | (simp; done) | (simp; omega)) _))); have hs11 : Since w6 w11 := HS11.out; clear hb11)
          | (go_at_call 10; refine (HGB.out _ (show Since w6 _ from (by refine Since.out ?_; repeat (first | with_reducible assumption | with_reducible exact Since.refl _ | with_reducible refine Since.later ?_ (by with_reducible assumption) | with_reducible refine Since.only ?_ (by with_reducible assumption) (by first | assumption | omega | (simp; done) | (simp; omega)) | with_reducible refine Since.alloc ?_ _ | with_reducible refine Since.drewN ?_ _ | with_reducible refine Since.drew ?_ | with_reducible refine Since.set ?_ (by first | assumption | omega | (simp; done) | (simp; omega)) _)))).mono ?_; rintro e w12 ⟨rfl, rfl⟩)
          | (go_at_call 11; refine (HGS.out _ (show Since w6 _ from (by refine Since.out ?_; repeat (first | with_reducible assumption | with_reducible exact Since.refl _ | with_reducible refine Since.later ?_ (by with_reducible assumption) | with_reducible refine Since.only ?_ (by with_reducible assumption) (by first | assumption | omega | (simp; done) | (simp; omega)) | with_reducible refine Since.alloc ?_ _ | with_reducible refine Since.drewN ?_ _ | with_reducible refine Since.drew ?_ | with_reducible refine Since.set ?_ (by first | assumption | omega | (simp; done) | (simp; omega)) _)))).mono ?_; rintro e w13 ⟨rfl, rfl⟩))
        all_goals
          go_wp2_with fail
          refine ⟨⟨r + 1, p3, l + 1, cd, cm, _, _, vs.take (l + 1), _, ns.take l, ⟨by omega, by omega, HKP7.out, HW7.out.later HS11.out⟩, _, _, _, _, _, _, _, _, _, _, _, _, _, _, _, _, _, _, _, _, _, _, _, _, _, _, _, _, _, _, _, _, (by kernel_rfl), rfl⟩, ?_⟩
          simp [LM, intOf]
          omega

/-! the row -/
theorem own : ownKnob Tryz.prog.godebug = none := by kernel_rfl
theorem laidOut : laidOutB Tryz.prog = true := by kernel_rfl
set_option maxRecDepth 100000 in
theorem contract (H : Type) (enc : TypeId × Value → H) (W : World) (base : Nat) (args : Array Value) (ds gs : List (DataW H)) (before : List MemPlace)
    (hval : ∀ (j : Nat) t v, Tryz.f3.params[j]? = some t → args[j]? = some v → Value.okWide Tryz.prog W .any base t v)
    (hW : DataW.Whole enc Tryz.prog Tryz.f3.params.toList Rows.logKeepsSpec.vars false W args.toList ds gs before) (hL : laidMetH Tryz.prog Rows.logKeepsRow.laid W) :
    Calls Tryz.prog 3 args W fun e W' => ∃ v, e = .returned v ∧ Rows.logKeepsSpec.post enc Tryz.prog Tryz.f3 false true false false W args v W' := by
  have hW' := hW
  obtain ⟨p, q, hA0, hV, rfl, hfz, hnd⟩ := hW
  have hA : DataW.TrodAll enc Tryz.prog W 0 (fun _ => true) true Tryz.f3.params.toList args.toList ds p := hA0
  rw [Tryz.params3] at hA hval
  obtain ⟨v0, vs0, d0, ds0, p0, q0, hargs, rfl, rfl, h0, r0⟩ := trodAll_cons hA
  obtain ⟨v1, vs1, d1, ds1, p1, q1, rfl, rfl, rfl, h1, r1⟩ := trodAll_cons r0
  obtain ⟨v2, vs2, d2, ds2, p2, q2, rfl, rfl, rfl, h2, r2⟩ := trodAll_cons r1
  obtain ⟨v3, vs3, d3, ds3, p3, q3, rfl, rfl, rfl, h3, r3⟩ := trodAll_cons r2
  obtain ⟨rfl, rfl, rfl⟩ := trodAll_nil r3
  obtain rfl : args = #[v0, v1, v2, v3] := by cases args; simp_all
  obtain ⟨rfl, rfl⟩ := trodVars_none hV
  obtain ⟨a0, len0, cap0, rfl⟩ := okWide_slice Tryz.underlying22 (hval 0 22 v0 rfl rfl)
  have k0 := h0
  have lt0 : ∀ x ∈ p0, x.block < W.heap.size := by obtain ⟨m, hm⟩ := k0; exact DataW.trod_lt m _ _ _ hm
  obtain ⟨z0, w0⟩ : ∃ zs, IntsIn W (.slice a0 len0 cap0) zs := by
    obtain ⟨fuel, hf⟩ := h0
    exact intsIn_open Tryz.underlying22 Tryz.underlying3 (by kernel_rfl) hf lt0
  obtain ⟨a1, len1, cap1, rfl⟩ := okWide_slice Tryz.underlying22 (hval 1 22 v1 rfl rfl)
  have k1 := h1
  have lt1 : ∀ x ∈ p1, x.block < W.heap.size := by obtain ⟨m, hm⟩ := k1; exact DataW.trod_lt m _ _ _ hm
  obtain ⟨z1, w1⟩ : ∃ zs, IntsIn W (.slice a1 len1 cap1) zs := by
    obtain ⟨fuel, hf⟩ := h1
    exact intsIn_open Tryz.underlying22 Tryz.underlying3 (by kernel_rfl) hf lt1
  obtain ⟨a2, len2, cap2, rfl⟩ := okWide_slice Tryz.underlying22 (hval 2 22 v2 rfl rfl)
  have k2 := h2
  have lt2 : ∀ x ∈ p2, x.block < W.heap.size := by obtain ⟨m, hm⟩ := k2; exact DataW.trod_lt m _ _ _ hm
  obtain ⟨z2, w2⟩ : ∃ zs, IntsIn W (.slice a2 len2 cap2) zs := by
    obtain ⟨fuel, hf⟩ := h2
    exact intsIn_open Tryz.underlying22 Tryz.underlying3 (by kernel_rfl) hf lt2
  obtain ⟨a3, len3, cap3, rfl⟩ := okWide_slice Tryz.underlying22 (hval 3 22 v3 rfl rfl)
  have k3 := h3
  have lt3 : ∀ x ∈ p3, x.block < W.heap.size := by obtain ⟨m, hm⟩ := k3; exact DataW.trod_lt m _ _ _ hm
  obtain ⟨z3, w3⟩ : ∃ zs, IntsIn W (.slice a3 len3 cap3) zs := by
    obtain ⟨fuel, hf⟩ := h3
    exact intsIn_open Tryz.underlying22 Tryz.underlying3 (by kernel_rfl) hf lt3
  have lw := laidWalk hL
  refine (walk (.slice a0 len0 cap0) z0 (.slice a1 len1 cap1) z1 (.slice a2 len2 cap2) z2 (.slice a3 len3 cap3) z3 W w0 w1 w2 w3 lw).mono fun e W' ⟨he, bel⟩ => ?_
  subst he
  exact ⟨_, rfl, _, _, _, [], _, [], hW', trodAll_mk1 (shut_bool Tryz.underlying4 _), (trodAll_cons_mk (Below.trod laidOut (by kernel_rfl) (of_decide_eq_true (by kernel_rfl)) k0 bel lt0) (trodAll_cons_mk (Below.trod laidOut (by kernel_rfl) (of_decide_eq_true (by kernel_rfl)) k1 bel lt1) (trodAll_cons_mk (Below.trod laidOut (by kernel_rfl) (of_decide_eq_true (by kernel_rfl)) k2 bel lt2) (trodAll_cons_mk (Below.trod laidOut (by kernel_rfl) (of_decide_eq_true (by kernel_rfl)) k3 bel lt3) trodAll_mk0)))), rfl, bel.frame _, fun h => by cases h⟩

theorem reads (os : Os) {H : Type} (enc : TypeId × Value → H) : ∃ places, DataW.whole enc Tryz.prog ((laidWorld os).forCall (fun _ _ => 0) ⟨#[], #[.slice none 0 0, .slice none 0 0, .slice none 0 0, .slice none 0 0], []⟩).memory Tryz.f3.params.toList Rows.logKeepsSpec.vars false (#[.slice none 0 0, .slice none 0 0, .slice none 0 0, .slice none 0 0] : Array Value).toList 8 = some ([.nil, .nil, .nil, .nil], [], places) :=
  ⟨[], by kernel_rfl⟩
theorem laid_met (os : Os) : laidMetH Tryz.prog Rows.logKeepsRow.laid ((laidWorld os).forCall (fun _ _ => 0) ⟨#[], #[.slice none 0 0, .slice none 0 0, .slice none 0 0, .slice none 0 0], []⟩).memory := laidMetW os _

set_option maxRecDepth 100000 in
theorem lifted (os : Os) (started : os.Started) (H : Type) (enc : TypeId × Value → H) (F : Stop.Interp) :
    ReturnsInHanded {} Tryz.checked os 3 .any ((OpenSpec.ofChange Rows.logKeepsSpec).preRow enc Tryz.prog Tryz.f3 Rows.logKeepsRow.domain false Rows.logKeepsRow.laid) (((OpenSpec.ofChange Rows.logKeepsSpec).at F).post enc Tryz.prog Tryz.f3 false true false false) := by
  obtain ⟨places, hx⟩ := reads os enc
  refine returnsInHanded_of_row (C := Tryz.checked) (s := OpenSpec.ofChange Rows.logKeepsSpec) own started (by kernel_rfl) Tryz.func3
    (witness_row_at (enc := enc) (C := Tryz.checked) false (laidWorld os) #[.slice none 0 0, .slice none 0 0, .slice none 0 0, .slice none 0 0] rfl (by kernel_rfl) (by kernel_rfl) (by kernel_rfl)
      (OpenSpec.preRow_of_cond 8 hx (by kernel_rfl) (fun k hk => by cases hk) (by kernel_rfl) (laid_met os))) ?_
  intro W base args ds gs before hval hW _ _ _ hL _ _
  exact contract H enc W base args ds gs before hval hW hL

theorem said : Rows.LogKeepsSaid :=
  OpenClaim.holds_of_cond 3 Tryz.f3 rfl rfl rfl rfl rfl rfl rfl ⟨rfl, rfl, rfl, rfl, rfl⟩ rfl rfl rfl rfl rfl (by kernel_rfl) Tryz.func3 (by kernel_rfl)
    (of_decide_eq_true (by kernel_rfl)) (by unfold Func.isWrapper; first | (rw [if_pos (by decide +kernel)]; kernel_rfl) | (rw [if_neg (by decide +kernel)]; exact ⟨rfl, rfl⟩))
    (fun os started H enc _ F => by rw [OpenClaim.pre_eq_preRow]; exact lifted os started H enc F)

theorem plain (f : FuncId) (fn : Func) (hf : Tryz.pinned.checked.prog.funcNamed "wanderwire/wirelaw3.LogKeeps" = some f) (hfn : Tryz.pinned.checked.prog.funcs[f]? = some fn) :
    true = Tryz.pinned.checked.prog.looks [] ∧ ∀ (j : Nat) t, fn.params[j]? = some t → Tryz.pinned.checked.prog.wantsStandIn t = false := by
  obtain rfl : f = 3 := Option.some.inj ((show Tryz.prog.funcNamed "wanderwire/wirelaw3.LogKeeps" = some 3 by kernel_rfl).symm.trans hf) |>.symm
  obtain rfl : fn = Tryz.f3 := (Option.some.inj (Tryz.func3.symm.trans hfn)).symm
  refine ⟨by kernel_rfl, fun j t ht => ?_⟩
  rw [Tryz.params3] at ht
  have ht' := Array.mem_of_getElem? ht
  have hall : (([22, 22, 22, 22] : List Nat).all fun t => !Tryz.prog.wantsStandIn t) = true := by kernel_rfl
  have hq := List.all_eq_true.1 hall t (by simpa using ht')
  have hq2 : Tryz.prog.wantsStandIn t = false := by simpa using hq
  exact hq2

theorem card : Rows.LogKeepsCardSaid :=
  Claim7.holds_tied_plain_at .later [] _ _ _ _ said (fun _ h => by cases h) (by kernel_rfl) (fun _ h => by cases h) logKeeps_row_tie rfl ⟨rfl, rfl⟩ (by kernel_rfl) rfl plain (by kernel_rfl)
#print axioms card
end Go.Proofs.YtjjmoaaongnjiaaGreatDoor.logKeeps
