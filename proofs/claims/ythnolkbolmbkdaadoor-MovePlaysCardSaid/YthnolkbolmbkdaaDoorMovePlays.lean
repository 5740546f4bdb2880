/- MovePlays: for every limit and steps the law returns true: whatever is offered, comes, is sent, asked, answered and moved is as the reference says. Condition: errors.errorType holds its handle (the row lists it, the card ties it). -/
import Derived.Test.YthnolkbolmbkdaaDoorMovW
import Derived.Test.YthnolkbolmbkdaaDoorLaid
import Derived.Test.YthnolkbolmbkdaaDoorTold
import Derived.Test.YthnolkbolmbkdaaDoorRow
import Derived.Test.YthnolkbolmbkdaaDoorIns
import Derived.Deep.DeepCutAuto
import Derived.Deep.RegionHeld3
import Derived.Deep.QuietTactic
import Derived.BigQuiet
import Derived.Test.YthnolkbolmbkdaaDoorCards
import Derived.Test.YthnolkbolmbkdaaDoorTie
import Derived.Deep.DeepHandedRow
import Derived.LaidLaws
import Derived.LaidHandle
import Derived.Deep.DeepWitnessRowRef
import Derived.Test.YthnolkbolmbkdaaDoorRows
import Derived.WalkKit
import Derived.ProofKit
import Derived.OpenShut
import Derived.ShutString
import Derived.ChangeOld
import Derived.Below
import Derived.Lib.SmallJoins
import Derived.Deep.Slices
import Derived.Deep.Matrix
import Derived.Deep.Strs
namespace Go.Proofs.YthnolkbolmbkdaaDoor.movePlays
open Go.ChangeShapes Go.WideShapes Go.ChangeAt Go.RowKit
open Go.ChangeMaps (open_string shut_string)
set_option linter.unusedVariables false

noncomputable abbrev laidWorld := YthnolkbolmbkdaaDoor.laidWorld
theorem laidMetW (os : Os) (args : Array Value) : laidMetH Tryd.prog Rows.movePlaysRow.laid ((laidWorld os).forCall (fun _ _ => 0) ⟨#[], args, []⟩).memory := laidMet_et os args
theorem laidWalk {W : World} (h : laidMetH Tryd.prog Rows.movePlaysRow.laid W) : ETok W := laid_et h
/-- both, alike -/
def Play (w wx : World) (g gm gq gp : Nat) (lim ta tb : Int) : Prop := ∃ N G P As, Own w [] wx [moverT g (Mv P lim N G As ta tb), idsT gm lim N G, prfT gq As, Thing.block gp 48 (pthsCells P)] ∧ Tied N G tb
theorem Play.since {w wx : World} {g gm gq gp : Nat} {lim ta tb : Int} (h : Play w wx g gm gq gp lim ta tb) : Since w wx := by
  obtain ⟨N, G, P, As, h, _⟩ := h
  exact h.since

theorem path3 {w0 wx : World} {S0 : List Nat} {a b c d : Thing} {gp : Nat} {P : Pths} (h : Own w0 S0 wx [a, b, c, Thing.block gp 48 (pthsCells P), d]) {q : Nat} (hq : q < 4) (p : Pth) :
    Own w0 S0 (((wx.setCell ⟨gp, q * 3, none⟩ (.int .i64 p.i)).setCell ⟨gp, q * 3 + 1, none⟩ (.int .i64 p.o)).setCell ⟨gp, q * 3 + 2, none⟩ (.bool p.k)) [a, b, c, Thing.block gp 48 (pthsCells (P.put p q)), d] := by
  rw [← pths_put P p hq]
  exact ((h.put 3 rfl (q * 3) (.int .i64 p.i)).put 3 rfl (q * 3 + 1) (.int .i64 p.o)).put 3 rfl (q * 3 + 2) (.bool p.k)

def growRow (u : Nat → Value) : Nat → Nat → List Value
  | _, 0 => []
  | k, n + 1 => u k :: growRow u (k + 1) n
theorem growRow_congr {u v : Nat → Value} : ∀ (n k : Nat), (∀ i, k ≤ i → u i = v i) → growRow u k n = growRow v k n
  | 0, _, _ => rfl
  | n + 1, k, h => by
    rw [growRow, growRow, h k (Nat.le_refl k), growRow_congr n (k + 1) (fun i hi => h i (by omega))]
theorem growRow_any : ∀ (n k : Nat) (U : List Value), U.length = n → ∃ u : Nat → Value, U = growRow u k n
  | 0, k, U, h => ⟨fun _ => .nilIface, by rw [List.length_eq_zero_iff.1 h]; rfl⟩
  | n + 1, k, [], h => by simp at h
  | n + 1, k, x :: r, h => by
    obtain ⟨u, hu⟩ := growRow_any n (k + 1) r (by simpa using h)
    refine ⟨fun i => if i = k then x else u i, ?_⟩
    rw [growRow, if_pos rfl, hu]
    congr 1
    exact growRow_congr n (k + 1) (fun i hi => by rw [if_neg (by omega)])
set_option maxRecDepth 100000 in
theorem growTail {U : List Value} (h : U.length = 380) : ∃ u : Nat → Value, U = [u 38, u 39, u 40, u 41, u 42, u 43, u 44, u 45, u 46, u 47, u 48, u 49, u 50, u 51, u 52, u 53, u 54, u 55, u 56, u 57, u 58, u 59, u 60, u 61, u 62, u 63, u 64, u 65, u 66, u 67, u 68, u 69, u 70, u 71, u 72, u 73, u 74, u 75, u 76, u 77, u 78, u 79, u 80, u 81, u 82, u 83, u 84, u 85, u 86, u 87, u 88, u 89, u 90, u 91, u 92, u 93, u 94, u 95, u 96, u 97, u 98, u 99, u 100, u 101, u 102, u 103, u 104, u 105, u 106, u 107, u 108, u 109, u 110, u 111, u 112, u 113, u 114, u 115, u 116, u 117, u 118, u 119, u 120, u 121, u 122, u 123, u 124, u 125, u 126, u 127, u 128, u 129, u 130, u 131, u 132, u 133, u 134, u 135, u 136, u 137, u 138, u 139, u 140, u 141, u 142, u 143, u 144, u 145, u 146, u 147, u 148, u 149, u 150, u 151, u 152, u 153, u 154, u 155, u 156, u 157, u 158, u 159, u 160, u 161, u 162, u 163, u 164, u 165, u 166, u 167, u 168, u 169, u 170, u 171, u 172, u 173, u 174, u 175, u 176, u 177, u 178, u 179, u 180, u 181, u 182, u 183, u 184, u 185, u 186, u 187, u 188, u 189, u 190, u 191, u 192, u 193, u 194, u 195, u 196, u 197, u 198, u 199, u 200, u 201, u 202, u 203, u 204, u 205, u 206, u 207, u 208, u 209, u 210, u 211, u 212, u 213, u 214, u 215, u 216, u 217, u 218, u 219, u 220, u 221, u 222, u 223, u 224, u 225, u 226, u 227, u 228, u 229, u 230, u 231, u 232, u 233, u 234, u 235, u 236, u 237, u 238, u 239, u 240, u 241, u 242, u 243, u 244, u 245, u 246, u 247, u 248, u 249, u 250, u 251, u 252, u 253, u 254, u 255, u 256, u 257, u 258, u 259, u 260, u 261, u 262, u 263, u 264, u 265, u 266, u 267, u 268, u 269, u 270, u 271, u 272, u 273, u 274, u 275, u 276, u 277, u 278, u 279, u 280, u 281, u 282, u 283, u 284, u 285, u 286, u 287, u 288, u 289, u 290, u 291, u 292, u 293, u 294, u 295, u 296, u 297, u 298, u 299, u 300, u 301, u 302, u 303, u 304, u 305, u 306, u 307, u 308, u 309, u 310, u 311, u 312, u 313, u 314, u 315, u 316, u 317, u 318, u 319, u 320, u 321, u 322, u 323, u 324, u 325, u 326, u 327, u 328, u 329, u 330, u 331, u 332, u 333, u 334, u 335, u 336, u 337, u 338, u 339, u 340, u 341, u 342, u 343, u 344, u 345, u 346, u 347, u 348, u 349, u 350, u 351, u 352, u 353, u 354, u 355, u 356, u 357, u 358, u 359, u 360, u 361, u 362, u 363, u 364, u 365, u 366, u 367, u 368, u 369, u 370, u 371, u 372, u 373, u 374, u 375, u 376, u 377, u 378, u 379, u 380, u 381, u 382, u 383, u 384, u 385, u 386, u 387, u 388, u 389, u 390, u 391, u 392, u 393, u 394, u 395, u 396, u 397, u 398, u 399, u 400, u 401, u 402, u 403, u 404, u 405, u 406, u 407, u 408, u 409, u 410, u 411, u 412, u 413, u 414, u 415, u 416, u 417] := by
  obtain ⟨u, hu⟩ := growRow_any 380 38 U h
  exact ⟨u, hu.trans (by kernel_rfl)⟩
set_option maxRecDepth 100000 in
/-- a round's head -/
def LI (w : World) (n : Int) (A : Option Addr) (l cap g gm gq gp : Nat) (a : Act) (wx : World) : Prop := ∃ (k : Nat) (ta tb : Int), (k ≤ 80 ∧ -9223372036854775808 ≤ ta ∧ ta ≤ 9223372036854775807 ∧ Play w wx g gm gq gp n ta tb) ∧
  ∃ (t2 t3 t4 t5 t7 t8 t15 t16 t17 t18 t19 t20 t21 t22 t23 t24 t25 t26 t27 t28 t29 t30 t31 t32 t33 t34 t35 t36 t37 : Value) (U : List Value), U.length = 380 ∧ a = ⟨((.int .i64 n) :: (.slice A l cap) :: t2 :: t3 :: t4 :: t5 :: (.pointer (some ⟨g, 0, none⟩)) :: t7 :: t8 :: (.pointer (some ⟨gm, 0, none⟩)) :: (.pointer (some ⟨gq, 0, none⟩)) :: (.pointer (some ⟨gp, 0, none⟩)) :: (.int .i64 ta) :: (.int .i64 tb) :: (.int .i64 k) :: t15 :: t16 :: t17 :: t18 :: t19 :: t20 :: t21 :: t22 :: t23 :: t24 :: t25 :: t26 :: t27 :: t28 :: t29 :: t30 :: t31 :: t32 :: t33 :: t34 :: t35 :: t36 :: t37 :: U).toArray, []⟩
def LM (a : Act) (wx : World) : Nat := 80 - (intOf (a.tmps.toList.getD 14 undef)).toNat
set_option maxRecDepth 100000 in
def RC (n : Int) (A : Option Addr) (l cap g gm gq gp : Nat) (k : Nat) (ta tb : Int) (q : Nat) (wo : World) (x : List Int) (a : Act) (wx : World) : Prop := (BlockIs wx q 49 (x.map fun n => .int .i64 n).toArray ∧ Since wo wx) ∧
  ∃ (t2 t3 t4 t5 t7 t8 t16 t17 t18 t19 t20 t21 t22 t23 t24 t25 t26 t27 t28 t29 t30 t31 t32 t33 t34 t35 t36 t37 : Value) (U : List Value), U.length = 380 ∧ a = ⟨((.int .i64 n) :: (.slice A l cap) :: t2 :: t3 :: t4 :: t5 :: (.pointer (some ⟨g, 0, none⟩)) :: t7 :: t8 :: (.pointer (some ⟨gm, 0, none⟩)) :: (.pointer (some ⟨gq, 0, none⟩)) :: (.pointer (some ⟨gp, 0, none⟩)) :: (.int .i64 ta) :: (.int .i64 tb) :: (.int .i64 k) :: (.pointer (some ⟨q, 0, none⟩)) :: t16 :: t17 :: t18 :: t19 :: t20 :: t21 :: t22 :: t23 :: t24 :: t25 :: t26 :: t27 :: t28 :: t29 :: t30 :: t31 :: t32 :: t33 :: t34 :: t35 :: t36 :: t37 :: U).toArray, []⟩
set_option maxRecDepth 100000 in
def RCL (n : Int) (A : Option Addr) (l cap g gm gq gp : Nat) (k : Nat) (ta tb : Int) (q : Nat) (wo : World) (r : List Int) (a : Act) (wx : World) : Prop := ∃ j : Nat, (j ≤ 5 ∧ j ≤ r.length ∧ BlockIs wx q 49 #[.int .i64 (vv r j 0), .int .i64 (vv r j 1), .int .i64 (vv r j 2), .int .i64 (vv r j 3), .int .i64 (vv r j 4)] ∧ Since wo wx) ∧
  ∃ (t2 t3 t4 t5 t7 t8 t17 t18 t19 t20 t21 t22 t23 t24 t25 t26 t27 t28 t29 t30 t31 t32 t33 t34 t35 t36 t37 : Value) (U : List Value), U.length = 380 ∧ a = ⟨((.int .i64 n) :: (.slice A l cap) :: t2 :: t3 :: t4 :: t5 :: (.pointer (some ⟨g, 0, none⟩)) :: t7 :: t8 :: (.pointer (some ⟨gm, 0, none⟩)) :: (.pointer (some ⟨gq, 0, none⟩)) :: (.pointer (some ⟨gp, 0, none⟩)) :: (.int .i64 ta) :: (.int .i64 tb) :: (.int .i64 k) :: (.pointer (some ⟨q, 0, none⟩)) :: (.int .i64 j) :: t17 :: t18 :: t19 :: t20 :: t21 :: t22 :: t23 :: t24 :: t25 :: t26 :: t27 :: t28 :: t29 :: t30 :: t31 :: t32 :: t33 :: t34 :: t35 :: t36 :: t37 :: U).toArray, []⟩
def RCM (a : Act) (wx : World) : Nat := 5 - (intOf (a.tmps.toList.getD 16 undef)).toNat
set_option maxRecDepth 100000 in
/-- what comes behind the test whether there is such a path -/
def TC (n : Int) (A : Option Addr) (l cap g gm gq gp : Nat) (k : Nat) (ta tb : Int) (gv : Nat) (x1 : Int) (wv : World) (a : Act) (wx : World) : Prop := wv = wx ∧
  ∃ (t2 t3 t4 t5 t7 t8 t16 t18 t19 t20 t21 t22 t23 t24 t25 t26 t27 t28 t29 t30 t31 t32 t33 t34 t35 t36 t37 : Value) (U : List Value), U.length = 380 ∧ a = ⟨((.int .i64 n) :: (.slice A l cap) :: t2 :: t3 :: t4 :: t5 :: (.pointer (some ⟨g, 0, none⟩)) :: t7 :: t8 :: (.pointer (some ⟨gm, 0, none⟩)) :: (.pointer (some ⟨gq, 0, none⟩)) :: (.pointer (some ⟨gp, 0, none⟩)) :: (.int .i64 ta) :: (.int .i64 tb) :: (.int .i64 k) :: (.pointer (some ⟨gv, 0, none⟩)) :: t16 :: (.bool (pathB x1)) :: t18 :: t19 :: t20 :: t21 :: t22 :: t23 :: t24 :: t25 :: t26 :: t27 :: t28 :: t29 :: t30 :: t31 :: t32 :: t33 :: t34 :: t35 :: t36 :: t37 :: U).toArray, []⟩
set_option maxRecDepth 100000 in
/-- behind what the reference does -/
def CC (w : World) (n : Int) (A : Option Addr) (l cap g gm gq gp : Nat) (k : Nat) (ta tb : Int) (gv : Nat) (L : List Thing) (E : Int) (a : Act) (wx : World) : Prop := Own w [] wx L ∧
  ∃ (t2 t3 t4 t7 t8 t16 t17 t18 t19 t20 t21 t22 t23 t24 t25 t26 t27 t28 t29 t30 t31 t32 t33 t34 t35 t36 t37 : Value) (U : List Value), U.length = 380 ∧ a = ⟨((.int .i64 n) :: (.slice A l cap) :: t2 :: t3 :: t4 :: (.int .i64 E) :: (.pointer (some ⟨g, 0, none⟩)) :: t7 :: t8 :: (.pointer (some ⟨gm, 0, none⟩)) :: (.pointer (some ⟨gq, 0, none⟩)) :: (.pointer (some ⟨gp, 0, none⟩)) :: (.int .i64 ta) :: (.int .i64 tb) :: (.int .i64 k) :: (.pointer (some ⟨gv, 0, none⟩)) :: t16 :: t17 :: t18 :: t19 :: t20 :: t21 :: t22 :: t23 :: t24 :: t25 :: t26 :: t27 :: t28 :: t29 :: t30 :: t31 :: t32 :: t33 :: t34 :: t35 :: t36 :: t37 :: U).toArray, []⟩
set_option maxRecDepth 100000 in
/-- behind what the reference does with an answer -/
def CA (w : World) (n : Int) (A : Option Addr) (l cap g gm gq gp : Nat) (k : Nat) (ta tb : Int) (gv : Nat) (L : List Thing) (o : Bool) (E : Int) (a : Act) (wx : World) : Prop := Own w [] wx L ∧
  ∃ (t2 t3 t4 t5 t7 t8 t16 t17 t18 t19 t20 t21 t24 t25 t26 t27 t28 t29 t30 t31 t32 t33 t34 t35 t36 t37 : Value) (U : List Value), U.length = 380 ∧ a = ⟨((.int .i64 n) :: (.slice A l cap) :: t2 :: t3 :: t4 :: t5 :: (.pointer (some ⟨g, 0, none⟩)) :: t7 :: t8 :: (.pointer (some ⟨gm, 0, none⟩)) :: (.pointer (some ⟨gq, 0, none⟩)) :: (.pointer (some ⟨gp, 0, none⟩)) :: (.int .i64 ta) :: (.int .i64 tb) :: (.int .i64 k) :: (.pointer (some ⟨gv, 0, none⟩)) :: t16 :: t17 :: t18 :: t19 :: t20 :: t21 :: (.bool o) :: (.int .i64 E) :: t24 :: t25 :: t26 :: t27 :: t28 :: t29 :: t30 :: t31 :: t32 :: t33 :: t34 :: t35 :: t36 :: t37 :: U).toArray, []⟩
set_option maxRecDepth 100000 in
/-- behind the question by which one it goes -/
def MB (n : Int) (A : Option Addr) (l cap g gm gq gp : Nat) (k : Nat) (ta tb : Int) (gv : Nat) (V : Value) (was : Int) (o : Bool) (w3 : World) (a : Act) (wx : World) : Prop := w3 = wx ∧
  ∃ (t2 t3 t4 t7 t8 t16 t18 t19 t20 t21 t22 t23 t24 t25 t28 t29 t30 t31 t32 t33 t34 t35 t36 t37 : Value) (U : List Value), U.length = 380 ∧ a = ⟨((.int .i64 n) :: (.slice A l cap) :: t2 :: t3 :: t4 :: (.int .i64 1) :: (.pointer (some ⟨g, 0, none⟩)) :: t7 :: t8 :: (.pointer (some ⟨gm, 0, none⟩)) :: (.pointer (some ⟨gq, 0, none⟩)) :: (.pointer (some ⟨gp, 0, none⟩)) :: (.int .i64 ta) :: (.int .i64 tb) :: (.int .i64 k) :: (.pointer (some ⟨gv, 0, none⟩)) :: t16 :: (.bool o) :: t18 :: t19 :: t20 :: t21 :: t22 :: t23 :: t24 :: t25 :: (V) :: (.int .i64 was) :: t28 :: t29 :: t30 :: t31 :: t32 :: t33 :: t34 :: t35 :: t36 :: t37 :: U).toArray, []⟩
set_option maxRecDepth 100000 in
/-- a round of the search for the next one -/
def ML (n : Int) (A : Option Addr) (l cap g gm gq gp : Nat) (k : Nat) (ta tb : Int) (gv : Nat) (V : Value) (was : Int) (o : Bool) (X : List One) (w3 : World) (a : Act) (wx : World) : Prop := ∃ t : Int, (w3 = wx ∧ -1 ≤ t ∧ t < X.length) ∧
  ∃ (t2 t3 t4 t7 t8 t16 t18 t19 t20 t21 t22 t23 t24 t25 t30 t31 t32 t33 t34 t35 t36 t37 : Value) (U : List Value), U.length = 380 ∧ a = ⟨((.int .i64 n) :: (.slice A l cap) :: t2 :: t3 :: t4 :: (.int .i64 1) :: (.pointer (some ⟨g, 0, none⟩)) :: t7 :: t8 :: (.pointer (some ⟨gm, 0, none⟩)) :: (.pointer (some ⟨gq, 0, none⟩)) :: (.pointer (some ⟨gp, 0, none⟩)) :: (.int .i64 ta) :: (.int .i64 tb) :: (.int .i64 k) :: (.pointer (some ⟨gv, 0, none⟩)) :: t16 :: (.bool o) :: t18 :: t19 :: t20 :: t21 :: t22 :: t23 :: t24 :: t25 :: (V) :: (.int .i64 was) :: (.int .i64 (nxtS was (X.drop (t + 1).toNat))) :: (.int .i64 t) :: t30 :: t31 :: t32 :: t33 :: t34 :: t35 :: t36 :: t37 :: U).toArray, []⟩
def MM (a : Act) (wx : World) : Nat := (intOf (a.tmps.toList.getD 29 undef) + 1).toNat
set_option maxRecDepth 100000 in
/-- behind what the reference does with a move -/
def ME (w : World) (n : Int) (A : Option Addr) (l cap g gm gq gp : Nat) (k : Nat) (gv : Nat) (x1 : Int) (L : List Thing) (E ta tb : Int) (a : Act) (wx : World) : Prop := Own w [] wx L ∧
  ∃ (t2 t3 t4 t7 t8 t16 t17 t18 t19 t20 t21 t22 t23 t24 t25 t26 t27 t28 t29 t30 t31 t32 t33 t34 t35 t36 t37 : Value) (U : List Value), U.length = 380 ∧ a = ⟨((.int .i64 n) :: (.slice A l cap) :: t2 :: t3 :: t4 :: (.int .i64 E) :: (.pointer (some ⟨g, 0, none⟩)) :: t7 :: t8 :: (.pointer (some ⟨gm, 0, none⟩)) :: (.pointer (some ⟨gq, 0, none⟩)) :: (.pointer (some ⟨gp, 0, none⟩)) :: (.int .i64 ta) :: (.int .i64 tb) :: (.int .i64 k) :: (.pointer (some ⟨gv, 0, none⟩)) :: t16 :: t17 :: t18 :: t19 :: t20 :: t21 :: t22 :: t23 :: t24 :: t25 :: t26 :: t27 :: t28 :: t29 :: t30 :: t31 :: t32 :: t33 :: t34 :: t35 :: t36 :: t37 :: U).toArray, []⟩
set_option maxRecDepth 100000 in
/-- behind the switch -/
def SC (w : World) (n : Int) (A : Option Addr) (l cap g gm gq gp : Nat) (k : Nat) (a : Act) (wx : World) : Prop := ∃ (ta tb : Int), (-9223372036854775808 ≤ ta ∧ ta ≤ 9223372036854775807 ∧ Play w wx g gm gq gp n ta tb) ∧
  ∃ (t2 t3 t4 t5 t7 t15 t16 t17 t18 t19 t20 t21 t22 t23 t24 t25 t26 t27 t28 t29 t30 t31 t32 t33 t34 t35 t36 t37 : Value) (U : List Value), U.length = 380 ∧ a = ⟨((.int .i64 n) :: (.slice A l cap) :: t2 :: t3 :: t4 :: t5 :: (.pointer (some ⟨g, 0, none⟩)) :: t7 :: (.bool true) :: (.pointer (some ⟨gm, 0, none⟩)) :: (.pointer (some ⟨gq, 0, none⟩)) :: (.pointer (some ⟨gp, 0, none⟩)) :: (.int .i64 ta) :: (.int .i64 tb) :: (.int .i64 k) :: t15 :: t16 :: t17 :: t18 :: t19 :: t20 :: t21 :: t22 :: t23 :: t24 :: t25 :: t26 :: t27 :: t28 :: t29 :: t30 :: t31 :: t32 :: t33 :: t34 :: t35 :: t36 :: t37 :: U).toArray, []⟩

set_option maxRecDepth 100000 in
/-- behind the question where it is -/
def WB (n : Int) (A : Option Addr) (l cap g gm gq gp : Nat) (k : Nat) (ta tb : Int) (V : Value) (E was : Int) (w3 : World) (a : Act) (wx : World) : Prop := w3 = wx ∧
  ∃ (t2 t3 t4 t7 t15 t16 t17 t18 t19 t20 t21 t22 t23 t24 t25 t26 t27 t28 t29 t32 t33 t34 t35 t36 t37 : Value) (U : List Value), U.length = 380 ∧ a = ⟨((.int .i64 n) :: (.slice A l cap) :: t2 :: t3 :: t4 :: (.int .i64 E) :: (.pointer (some ⟨g, 0, none⟩)) :: t7 :: (.bool true) :: (.pointer (some ⟨gm, 0, none⟩)) :: (.pointer (some ⟨gq, 0, none⟩)) :: (.pointer (some ⟨gp, 0, none⟩)) :: (.int .i64 ta) :: (.int .i64 tb) :: (.int .i64 k) :: t15 :: t16 :: t17 :: t18 :: t19 :: t20 :: t21 :: t22 :: t23 :: t24 :: t25 :: t26 :: t27 :: t28 :: t29 :: (V) :: (.int .i64 was) :: t32 :: t33 :: t34 :: t35 :: t36 :: t37 :: U).toArray, []⟩
set_option maxRecDepth 100000 in
/-- behind the test of where it is -/
def WC (w : World) (n : Int) (A : Option Addr) (l cap g gm gq gp : Nat) (k : Nat) (ta tb : Int) (L : List Thing) (a : Act) (wx : World) : Prop := Own w [] wx L ∧
  ∃ (t2 t3 t4 t5 t7 t15 t16 t17 t18 t19 t20 t21 t22 t23 t24 t25 t26 t27 t28 t29 t30 t31 t32 t33 t34 t35 t36 t37 : Value) (U : List Value), U.length = 380 ∧ a = ⟨((.int .i64 n) :: (.slice A l cap) :: t2 :: t3 :: t4 :: t5 :: (.pointer (some ⟨g, 0, none⟩)) :: t7 :: (.bool true) :: (.pointer (some ⟨gm, 0, none⟩)) :: (.pointer (some ⟨gq, 0, none⟩)) :: (.pointer (some ⟨gp, 0, none⟩)) :: (.int .i64 ta) :: (.int .i64 tb) :: (.int .i64 k) :: t15 :: t16 :: t17 :: t18 :: t19 :: t20 :: t21 :: t22 :: t23 :: t24 :: t25 :: t26 :: t27 :: t28 :: t29 :: t30 :: t31 :: t32 :: t33 :: t34 :: t35 :: t36 :: t37 :: U).toArray, []⟩
set_option maxRecDepth 100000 in
/-- a round over the paths -/
def KL (w : World) (n : Int) (A : Option Addr) (l cap g gm gq gp : Nat) (k : Nat) (ta tb : Int) (L : List Thing) (a : Act) (wx : World) : Prop := ∃ t : Int, (-1 ≤ t ∧ t ≤ 5 ∧ Own w [] wx L) ∧
  ∃ (t2 t3 t4 t5 t7 t8 t15 t16 t17 t18 t19 t20 t21 t22 t23 t24 t25 t26 t27 t28 t29 t30 t31 t32 t33 t34 t36 t37 : Value) (U : List Value), U.length = 380 ∧ a = ⟨((.int .i64 n) :: (.slice A l cap) :: t2 :: t3 :: t4 :: t5 :: (.pointer (some ⟨g, 0, none⟩)) :: t7 :: t8 :: (.pointer (some ⟨gm, 0, none⟩)) :: (.pointer (some ⟨gq, 0, none⟩)) :: (.pointer (some ⟨gp, 0, none⟩)) :: (.int .i64 ta) :: (.int .i64 tb) :: (.int .i64 k) :: t15 :: t16 :: t17 :: t18 :: t19 :: t20 :: t21 :: t22 :: t23 :: t24 :: t25 :: t26 :: t27 :: t28 :: t29 :: t30 :: t31 :: t32 :: t33 :: t34 :: (.int .i64 t) :: t36 :: t37 :: U).toArray, []⟩
def KM (a : Act) (wx : World) : Nat := (5 - intOf (a.tmps.toList.getD 35 undef)).toNat

set_option maxRecDepth 100000 in
set_option maxHeartbeats 40000000 in
theorem walk (n : Int) (v1 : Value) (Z : List (List Int)) (w : World) (w0 : (Lit.int .i64 n).wf = true) (w1 : IntRowsIn w v1 Z) (hL : ETok w) :
    Calls Tryd.prog 4 #[.int .i64 n, v1] w fun e w' => e = .returned (.bool true) ∧ Below w.heap.size w w' := by
  have HE := Lib.hid hL
  obtain ⟨A, cap, rfl, hle0, hm0, hc⟩ := w1
  unfold maxLen at hm0
  have hZ : Z.length ≤ 9223372036854775807 := by omega
  have HC := Lib.hid hc
  clear hc w0 hL
  by_cases hn : 1 ≤ n ∧ n ≤ 8
  case neg =>
    by_cases hlo : n < 1
    · go_enter Tryd.func4, Tryd.ntmps4
      go_wp2_with (first | (go_at_call 14; refine (mnew_no n hn _).mono ?_; rintro e w5 ⟨rfl, rfl⟩) | (go_at_call 17; refine (same_yes 1 _ (HE.out.later (by refine Since.out ?_; repeat (first | with_reducible assumption | with_reducible exact Since.refl _ | with_reducible refine Since.later ?_ (by with_reducible assumption) | with_reducible refine Since.only ?_ (by with_reducible assumption) (by first | assumption | omega | (simp; done) | (simp; omega)) | with_reducible refine Since.alloc ?_ _ | with_reducible refine Since.drewN ?_ _ | with_reducible refine Since.drew ?_ | with_reducible refine Since.set ?_ (by first | assumption | omega | (simp; done) | (simp; omega)) _)))).mono ?_; rintro e w6 ⟨rfl, hb6⟩))
      go_ret
      exact ⟨rfl, (by refine Since.out ?_; repeat (first | with_reducible assumption | with_reducible exact Since.refl _ | with_reducible refine Since.later ?_ (by with_reducible assumption) | with_reducible refine Since.only ?_ (by with_reducible assumption) (by first | assumption | omega | (simp; done) | (simp; omega)) | with_reducible refine Since.alloc ?_ _ | with_reducible refine Since.drewN ?_ _ | with_reducible refine Since.drew ?_ | with_reducible refine Since.set ?_ (by first | assumption | omega | (simp; done) | (simp; omega)) _))⟩
    · have hhi : 8 < n := by omega
      go_enter Tryd.func4, Tryd.ntmps4
      go_wp2_with (first | (go_at_call 14; refine (mnew_no n hn _).mono ?_; rintro e w5 ⟨rfl, rfl⟩) | (go_at_call 17; refine (same_yes 1 _ (HE.out.later (by refine Since.out ?_; repeat (first | with_reducible assumption | with_reducible exact Since.refl _ | with_reducible refine Since.later ?_ (by with_reducible assumption) | with_reducible refine Since.only ?_ (by with_reducible assumption) (by first | assumption | omega | (simp; done) | (simp; omega)) | with_reducible refine Since.alloc ?_ _ | with_reducible refine Since.drewN ?_ _ | with_reducible refine Since.drew ?_ | with_reducible refine Since.set ?_ (by first | assumption | omega | (simp; done) | (simp; omega)) _)))).mono ?_; rintro e w6 ⟨rfl, hb6⟩))
      go_ret
      exact ⟨rfl, (by refine Since.out ?_; repeat (first | with_reducible assumption | with_reducible exact Since.refl _ | with_reducible refine Since.later ?_ (by with_reducible assumption) | with_reducible refine Since.only ?_ (by with_reducible assumption) (by first | assumption | omega | (simp; done) | (simp; omega)) | with_reducible refine Since.alloc ?_ _ | with_reducible refine Since.drewN ?_ _ | with_reducible refine Since.drew ?_ | with_reducible refine Since.set ?_ (by first | assumption | omega | (simp; done) | (simp; omega)) _))⟩
  have n1 := hn.1
  have n2 := hn.2
  clear hn
  go_enter Tryd.func4, Tryd.ntmps4
  go_wp2_with fail
  refine (tnew n n1 n2 _).mono ?_
  rintro e w1 ⟨g, rfl, ⟨S1, hi1, hn1⟩, hb1⟩
  have hO1 : Own w [] w1 [moverT g (mv0 n)] := (Own.start w).add hb1 hi1 hn1
  go_wp2_with fail
  refine (same_yes 0 _ (HE.out.later hb1)).mono ?_
  rintro e w2 ⟨rfl, hb2⟩
  have HO2 := Lib.hid (hO1.later hb2)
  have hs2 : Since w w2 := (show Since w w1 from hb1).later hb2
  clear hO1 hi1 hn1 hb1 hb2
  go_wp2_with fail
  have hO3 : Own w [] (((w2.alloc (.cells #[.int .i64 n, .slice none 0 0, .slice none 0 0] 41)).alloc (.cells #[.slice none 0 0] 45)).alloc (.cells (pthsCells (mv0 n).P) 48)) [moverT g (Mv (mv0 n).P n [] [] [] 0 (-1)), idsT w2.heap.size n [] [], prfT (w2.heap.size + 1) [], Thing.block (w2.heap.size + 1 + 1) 48 (pthsCells (mv0 n).P)] := by
    have h1 : Own w [] (w2.alloc (.cells #[.int .i64 n, .slice none 0 0, .slice none 0 0] 41)) ([moverT g (mv0 n)] ++ [idsT w2.heap.size n [] []]) :=
      HO2.out.add ((Since.refl _).alloc _) (S := [w2.heap.size]) ⟨.slice none 0 0, .slice none 0 0, ⟨BlockIs.fresh _ _ _, Lst.nil _ _ _, Lst.nil _ _ _, rfl, by simp⟩, rfl⟩ (by simp)
    have h2 : Own w [] ((w2.alloc (.cells #[.int .i64 n, .slice none 0 0, .slice none 0 0] 41)).alloc (.cells #[.slice none 0 0] 45)) ([moverT g (mv0 n), idsT w2.heap.size n [] []] ++ [prfT (w2.heap.size + 1) []]) :=
      h1.add ((Since.refl _).alloc _) (S := [w2.heap.size + 1]) ⟨.slice none 0 0, ⟨BlockIs.fresh_at (by simp), Lst.nil _ _ _, AInv.nil⟩, rfl⟩ (by simp)
    exact h2.add ((Since.refl _).alloc _) (S := [w2.heap.size + 1 + 1]) ⟨BlockIs.fresh_at (by simp), rfl⟩ (by simp)
  have HP : Hid (Play w (((w2.alloc (.cells #[.int .i64 n, .slice none 0 0, .slice none 0 0] 41)).alloc (.cells #[.slice none 0 0] 45)).alloc (.cells (pthsCells (mv0 n).P) 48)) g w2.heap.size (w2.heap.size + 1) (w2.heap.size + 1 + 1) n 0 (-1)) := Lib.hid ⟨[], [], (mv0 n).P, [], hO3, Or.inl (by decide)⟩
  clear hO3 hs2 HO2
  unfold mv0 at HP
  simp only at HP
  generalize (((w2.alloc (.cells #[.int .i64 n, .slice none 0 0, .slice none 0 0] 41)).alloc (.cells #[.slice none 0 0] 45)).alloc (.cells (pthsCells (⟨⟨0, 0, true⟩, ⟨0, 0, false⟩, ⟨0, 0, false⟩, ⟨0, 0, false⟩⟩)) 48)) = w3 at *
  generalize w2.heap.size = gm at *
  generalize gm + 1 = gq at *
  generalize gq + 1 = gp at *
  refine wp_loop (LI w n A Z.length cap g gm gq gp) LM ?_ ?_
  next => exact ⟨0, 0, -1, ⟨by omega, by omega, by omega, HP.out⟩, _, _, _, _, _, _, _, _, _, _, _, _, _, _, _, _, _, _, _, _, _, _, _, _, _, _, _, _, _, _, (by kernel_rfl), rfl⟩
  next =>
    intro a' wr hinv
    obtain ⟨k, ta, tb, ⟨hk, ta1, tb0, hT⟩, t2, t3, t4, t5, t7, t8, t15, t16, t17, t18, t19, t20, t21, t22, t23, t24, t25, t26, t27, t28, t29, t30, t31, t32, t33, t34, t35, t36, t37, U, hU, rfl⟩ := hinv
    obtain ⟨u, rfl⟩ := growTail hU; clear hU
    have hs : Since w wr := hT.since
    by_cases hlen : k < Z.length
    case neg =>
      have hlen' : decide ((k : Int) < (Z.length : Int)) = false := by simp; omega
      clear hT
      go_wp2_with fail
      go_ret
      exact ⟨rfl, (by refine Since.out ?_; repeat (first | with_reducible assumption | with_reducible exact Since.refl _ | with_reducible refine Since.later ?_ (by with_reducible assumption) | with_reducible refine Since.only ?_ (by with_reducible assumption) (by first | assumption | omega | (simp; done) | (simp; omega)) | with_reducible refine Since.alloc ?_ _ | with_reducible refine Since.drewN ?_ _ | with_reducible refine Since.drew ?_ | with_reducible refine Since.set ?_ (by first | assumption | omega | (simp; done) | (simp; omega)) _))⟩
    by_cases h80 : k < 80
    case neg =>
      have hlen' : (k : Int) < (Z.length : Int) := by omega
      have h80' : decide ((k : Int) < 80) = false := by simp; omega
      clear hT
      go_wp2_with fail
      go_ret
      exact ⟨rfl, (by refine Since.out ?_; repeat (first | with_reducible assumption | with_reducible exact Since.refl _ | with_reducible refine Since.later ?_ (by with_reducible assumption) | with_reducible refine Since.only ?_ (by with_reducible assumption) (by first | assumption | omega | (simp; done) | (simp; omega)) | with_reducible refine Since.alloc ?_ _ | with_reducible refine Since.drewN ?_ _ | with_reducible refine Since.drew ?_ | with_reducible refine Since.set ?_ (by first | assumption | omega | (simp; done) | (simp; omega)) _))⟩
    have hlen' : (k : Int) < (Z.length : Int) := by omega
    have h80' : (k : Int) < 80 := by omega
    obtain ⟨b, off, rfl, hlt, hc⟩ := HC.out (by rintro rfl; simp at hlen)
    obtain ⟨x, hx, hI⟩ := hc k hlen
    clear hc
    generalize Z.getD k [] = r at *
    obtain ⟨bdr, A', cap', rfl, hle', hm', hcr⟩ := hI
    have HX := Lib.hid hx
    have HR := Lib.hid hcr
    have HBD := Lib.hid (ith_bounds bdr)
    unfold maxLen at hm'
    clear hx hcr bdr
    have HT := Lib.hid hT
    clear hT
    obtain ⟨wo, rfl⟩ : ∃ wo : World, wo = wr := ⟨_, rfl⟩
    repeat ((fail_if_success (with_reducible refine stop_at 18 ?_)); first | fail | go_values | go_skip | go_guarded | go_step | go_upon | go_back | go_simp)
    refine wp_cut (RC n (some ⟨b, off, none⟩) Z.length cap g gm gq gp k ta tb wo.heap.size wo [ith r 0, ith r 1, ith r 2, ith r 3, ith r 4]) ?_ ?_
    rotate_left
    next =>
      as_aux_lemma =>
        intro _ _ _ _
        go_wp2_with fail
        refine wp_loop (RCL n (some ⟨b, off, none⟩) Z.length cap g gm gq gp k ta tb wo.heap.size wo r) RCM ?_ ?_
        next => exact ⟨0, ⟨by omega, by omega, BlockIs.fresh _ _ _, (by refine Since.out ?_; repeat (first | with_reducible assumption | with_reducible exact Since.refl _ | with_reducible refine Since.later ?_ (by with_reducible assumption) | with_reducible refine Since.only ?_ (by with_reducible assumption) (by first | assumption | omega | (simp; done) | (simp; omega)) | with_reducible refine Since.alloc ?_ _ | with_reducible refine Since.drewN ?_ _ | with_reducible refine Since.drew ?_ | with_reducible refine Since.set ?_ (by first | assumption | omega | (simp; done) | (simp; omega)) _))⟩, _, _, _, _, _, _, _, _, _, _, _, _, _, _, _, _, _, _, _, _, _, _, _, _, _, _, _, _, (by kernel_rfl), rfl⟩
        next =>
          intro a' wr hinv
          obtain ⟨j, ⟨hj2, hjr, hB, hs2⟩, t2, t3, t4, t5, t7, t8, t17, t18, t19, t20, t21, t22, t23, t24, t25, t26, t27, t28, t29, t30, t31, t32, t33, t34, t35, t36, t37, U, hU, rfl⟩ := hinv
          obtain ⟨u, rfl⟩ := growTail hU; clear hU
          have cx : wr.cell? ⟨b, off + k, none⟩ = some (.slice A' r.length cap') := hs2.cell (Nat.lt_of_lt_of_le hlt hs.le) (hs.cell hlt HX.out)
          by_cases hjl : j < r.length
          case neg =>
            have hjl' : decide ((j : Int) < (r.length : Int)) = false := by simp; omega
            have HB := Lib.hid (vv_end5 (Or.inl (by omega : r.length ≤ j)) ▸ hB)
            clear hB
            go_wp2_with fail
            refine Met.intro ?_
            go_step
            exact ⟨⟨HB.out, hs2⟩, _, _, _, _, _, _, _, _, _, _, _, _, _, _, _, _, _, _, _, _, _, _, _, _, _, _, _, _, _, (by kernel_rfl), rfl⟩
          by_cases hj2' : j < 5
          case neg =>
            have hj3 : decide ((j : Int) < 5) = false := by simp; omega
            have hjl' : (j : Int) < (r.length : Int) := by omega
            have HB := Lib.hid (vv_end5 (r := r) (Or.inr (by omega : 5 ≤ j)) ▸ hB)
            clear hB
            go_wp2_with fail
            refine Met.intro ?_
            go_step
            exact ⟨⟨HB.out, hs2⟩, _, _, _, _, _, _, _, _, _, _, _, _, _, _, _, _, _, _, _, _, _, _, _, _, _, _, _, _, _, (by kernel_rfl), rfl⟩
          have hjl' : (j : Int) < (r.length : Int) := by omega
          have hj3 : (j : Int) < 5 := by omega
          obtain ⟨b2, off2, rfl, hlt2, hc2⟩ := HR.out (by rintro rfl; simp at hjl)
          obtain ⟨y, hy⟩ : ∃ y, ith r j = y := ⟨_, rfl⟩
          have cj : wr.cell? ⟨b2, off2 + j, none⟩ = some (.int .i64 y) := hy ▸ hs2.cell (Nat.lt_of_lt_of_le hlt2 hs.le) (hs.cell hlt2 (hc2 j hjl))
          have fj := hB.free
          have ij : wr.cell? ⟨wo.heap.size, j, none⟩ = some (.int .i64 0) := (hB.cell j).trans (vv_next5 r hj2').1
          have HB := Lib.hid (hy ▸ (vv_next5 r hj2').2 ▸ hB.put j (.int .i64 (ith r j)))
          clear hc2 hB hy
          go_wp2_with fail
          refine ⟨⟨j + 1, ⟨by omega, by omega, HB.out, (by refine Since.out ?_; repeat (first | with_reducible assumption | with_reducible exact Since.refl _ | with_reducible refine Since.later ?_ (by with_reducible assumption) | with_reducible refine Since.only ?_ (by with_reducible assumption) (by first | assumption | omega | (simp; done) | (simp; omega)) | with_reducible refine Since.alloc ?_ _ | with_reducible refine Since.drewN ?_ _ | with_reducible refine Since.drew ?_ | with_reducible refine Since.set ?_ (by first | assumption | omega | (simp; done) | (simp; omega)) _))⟩, _, _, _, _, _, _, _, _, _, _, _, _, _, _, _, _, _, _, _, _, _, _, _, _, _, _, _, _, (by kernel_rfl), rfl⟩, ?_⟩
          simp [RCM, intOf]
          omega
    intro a' wv hinv
    obtain ⟨⟨hBv, hs2⟩, t2, t3, t4, t5, t7, t8, t16, t17, t18, t19, t20, t21, t22, t23, t24, t25, t26, t27, t28, t29, t30, t31, t32, t33, t34, t35, t36, t37, U, hU, rfl⟩ := hinv
    obtain ⟨u, rfl⟩ := growTail hU; clear hU
    simp only [List.map_cons, List.map_nil] at hBv
    obtain ⟨N, G, P, As, hO, hTied⟩ := HT.out
    have hOv : Own w [] wv [moverT g (Mv P n N G As ta tb), idsT gm n N G, prfT gq As, Thing.block gp 48 (pthsCells P), Thing.block wo.heap.size 49 #[.int .i64 (ith r 0), .int .i64 (ith r 1), .int .i64 (ith r 2), .int .i64 (ith r 3), .int .i64 (ith r 4)]] :=
      hO.add hs2.out (S := [wo.heap.size]) ⟨hBv, rfl⟩ (by simp)
    obtain ⟨bx1, bx2⟩ := HBD.out 1
    generalize ith r 0 = x0 at *
    generalize ith r 1 = x1 at *
    generalize ith r 2 = x2 at *
    generalize ith r 3 = x3 at *
    generalize ith r 4 = x4 at *
    have HO := Lib.hid hOv
    have HTD := Lib.hid hTied
    have c0 : wv.cell? ⟨wo.heap.size, 0, none⟩ = some (.int .i64 x0) := hBv.cell 0
    have c1 : wv.cell? ⟨wo.heap.size, 1, none⟩ = some (.int .i64 x1) := hBv.cell 1
    have lv := hBv.lt
    clear hBv hs2 hs HX HR HT hO hOv hTied
    generalize wo.heap.size = gv at *
    go_upto_region 22 with (fail)
    refine wp_cut (TC n (some ⟨b, off, none⟩) Z.length cap g gm gq gp k ta tb gv x1 wv) ?_ ?_
    rotate_left
    next =>
      as_aux_lemma =>
        intro _ _ _ _
        by_cases h0 : 0 ≤ x1
        · by_cases h3 : x1 ≤ 3
          · have hp : pathB x1 = true := by rw [pathB_iff]; omega
            have HP := Lib.hid hp
            clear hp
            go_wp2_with fail
            refine Met.intro ?_
            go_step
            unfold TC
            rw [HP.out]
            exact ⟨rfl, _, _, _, _, _, _, _, _, _, _, _, _, _, _, _, _, _, _, _, _, _, _, _, _, _, _, _, _, (by kernel_rfl), rfl⟩
          · have h3' : decide (x1 ≤ 3) = false := by simpa using h3
            have HP := Lib.hid (show pathB x1 = false from pathB_no (by omega))
            clear h3
            go_wp2_with fail
            refine Met.intro ?_
            go_step
            unfold TC
            rw [HP.out]
            exact ⟨rfl, _, _, _, _, _, _, _, _, _, _, _, _, _, _, _, _, _, _, _, _, _, _, _, _, _, _, _, _, (by kernel_rfl), rfl⟩
        · have h0' : decide (0 ≤ x1) = false := by simpa using h0
          have HP := Lib.hid (show pathB x1 = false from pathB_no (by omega))
          clear h0
          go_wp2_with fail
          refine Met.intro ?_
          go_step
          unfold TC
          rw [HP.out]
          exact ⟨rfl, _, _, _, _, _, _, _, _, _, _, _, _, _, _, _, _, _, _, _, _, _, _, _, _, _, _, _, _, (by kernel_rfl), rfl⟩
    intro a' wv' hinv
    obtain ⟨rfl, t2, t3, t4, t5, t7, t8, t16, t18, t19, t20, t21, t22, t23, t24, t25, t26, t27, t28, t29, t30, t31, t32, t33, t34, t35, t36, t37, U, hU, rfl⟩ := hinv
    obtain ⟨u, rfl⟩ := growTail hU; clear hU
    repeat ((fail_if_success (with_reducible refine stop_at 24 ?_)); first | fail | go_values | go_skip | go_guarded | go_step | go_upon | go_back | go_simp)
    refine wp_cut (SC w n (some ⟨b, off, none⟩) Z.length cap g gm gq gp k) ?_ ?_
    rotate_left
    next =>
      intro _ _ _ _
      by_cases h0 : x0 = 0
      case pos =>
        as_aux_lemma =>
          have h0' : (x0 == 0) = true := by simpa using h0
          clear h0
          go_wp2_with fail
          obtain ⟨S1, hS1, up1⟩ := HO.out.at_ 1 rfl
          have HLN := Lib.hid (idsT.len hS1)
          refine (tissueR x1 hS1).mono ?_
          rintro e w3 ⟨rfl, hl3⟩
          have HO3 : Hid (Own w [] w3 [moverT g (Mv P n N G As ta tb), idsT gm n (rissN n N G x1) (rissG n N G x1), prfT gq As, Thing.block gp 48 (pthsCells P), Thing.block gv 49 #[.int .i64 x0, .int .i64 x1, .int .i64 x2, .int .i64 x3, .int .i64 x4]]) := Lib.hid (up1 _ _ hl3)
          have d1 : w3.cell? ⟨gv, 1, none⟩ = some (.int .i64 x1) := (HO3.out.blk 4 rfl).cell 1
          clear hS1 up1 hl3 c0 c1
          go_wp2_with fail
          obtain ⟨S0, hS0, up0⟩ := HO3.out.at_ 0 rfl
          have hmv := Mv.offer (P := P) (As := As) (ta := ta) (tb := tb) HLN.out.1 HLN.out.2 (moverT.few hS0) x1
          refine (toffer x1 hS0).mono ?_
          rintro e w4 ⟨rfl, hl4⟩
          rw [hmv.2] at hl4
          rw [hmv.1]
          have HO4 : Hid (Own w [] w4 [moverT g (Mv P n (rissN n N G x1) (rissG n N G x1) As ta tb), idsT gm n (rissN n N G x1) (rissG n N G x1), prfT gq As, Thing.block gp 48 (pthsCells P), Thing.block gv 49 #[.int .i64 x0, .int .i64 x1, .int .i64 x2, .int .i64 x3, .int .i64 x4]]) := Lib.hid (up0 _ _ hl4)
          clear hS0 up0 hl4 hmv
          go_wp2_with fail
          refine (same_yes _ _ (HE.out.later HO4.out.since)).mono ?_
          rintro e w5 ⟨rfl, hb5⟩
          go_wp2_with fail
          refine Met.intro ?_
          go_step
          exact ⟨ta, tb, ⟨ta1, tb0, _, _, _, _, (HO4.out.later hb5).take 4, HTD.out.issue HLN.out.1 x1⟩, _, _, _, _, _, _, _, _, _, _, _, _, _, _, _, _, _, _, _, _, _, _, _, _, _, _, _, _, _, (by kernel_rfl), rfl⟩
      have h0' : (x0 == 0) = false := by simpa using h0
      by_cases h12 : x0 = 1 ∨ x0 = 2
      case pos =>
        as_aux_lemma =>
          have HF : Hid (mCameE (Mv P n N G As ta tb) x1 x2 = if pathB x1 = true then cameE (P.at x1.toNat).i (P.at x1.toNat).o (P.at x1.toNat).k x2 else 1) := Lib.hid rfl
          have c2 : wv.cell? ⟨gv, 2, none⟩ = some (.int .i64 x2) := (HO.out.blk 4 rfl).cell 2
          have lgp := (HO.out.blk 3 rfl).lt
          obtain ⟨E, hE⟩ : ∃ E, mCameE (Mv P n N G As ta tb) x1 x2 = E := ⟨_, rfl⟩
          rw [hE] at HF
          have HEE := Lib.hid hE
          clear h0 h0' hE
          obtain ⟨cs, hcs⟩ : ∃ cs : Array Value, #[.int .i64 x0, .int .i64 x1, .int .i64 x2, .int .i64 x3, .int .i64 x4] = cs := ⟨_, rfl⟩
          have CS : Hid (∀ W, BlockIs W gv 49 cs → W.cell? ⟨gv, 1, none⟩ = some (.int .i64 x1) ∧ W.cell? ⟨gv, 2, none⟩ = some (.int .i64 x2)) := Lib.hid (fun W hW => by rw [← hcs] at hW; exact ⟨hW.cell 1, hW.cell 2⟩)
          rw [hcs] at HO
          clear hcs
          rcases h12 with rfl | rfl
          all_goals
            repeat ((fail_if_success (with_reducible refine stop_at 51 ?_)); first | fail | go_values | go_skip | go_guarded | go_step | go_upon | go_back | go_simp)
            refine wp_cut (CC w n (some ⟨b, off, none⟩) Z.length cap g gm gq gp k ta tb gv [moverT g (Mv P n N G As ta tb), idsT gm n N G, prfT gq As, Thing.block gp 48 (pthsCells (mCame (Mv P n N G As ta tb) x1 x2).P), Thing.block gv 49 cs] E) ?_ ?_
            rotate_left
            next =>
              as_aux_lemma =>
                intro _ _ _ _
                cases hb : pathB x1 with
                | false =>
                  rw [hb, if_neg (by decide)] at HF
                  have HM : Hid (mCame (Mv P n N G As ta tb) x1 x2 = _) := Lib.hid (mCame_bad (by rw [HEE.out, HF.out]; decide))
                  obtain rfl := HF.out
                  go_wp2_with fail
                  refine Met.intro ?_
                  go_step
                  refine ⟨?_, _, _, _, _, _, _, _, _, _, _, _, _, _, _, _, _, _, _, _, _, _, _, _, _, _, _, _, _, (by kernel_rfl), rfl⟩
                  rw [HM.out]
                  exact HO.out
                | true =>
                  rw [hb, if_pos rfl] at HF
                  have hx03 := pathB_iff.1 hb
                  obtain ⟨q, rfl⟩ : ∃ q : Nat, x1 = q := ⟨x1.toNat, by omega⟩
                  have hq : q < 4 := by omega
                  have hq' : (q : Int) < 4 := by omega
                  rw [Int.toNat_natCast] at HF
                  obtain ⟨p0, p1, p2⟩ := pths_cells P hq
                  have hgp := HO.out.blk 3 rfl
                  have fgp := hgp.free
                  obtain ⟨I0, hI0⟩ : ∃ x, (P.at q).i = x := ⟨_, rfl⟩
                  obtain ⟨O0, hO0⟩ : ∃ x, (P.at q).o = x := ⟨_, rfl⟩
                  obtain ⟨K0, hK0⟩ : ∃ x, (P.at q).k = x := ⟨_, rfl⟩
                  rw [hI0, hO0, hK0] at HF
                  rw [hI0] at p0
                  rw [hO0] at p1
                  rw [hK0] at p2
                  have k0 : wv.cell? ⟨gp, q * 3, none⟩ = some (.int .i64 I0) := (hgp.cell _).trans p0
                  have k1 : wv.cell? ⟨gp, q * 3 + 1, none⟩ = some (.int .i64 O0) := (hgp.cell _).trans p1
                  have k2 : wv.cell? ⟨gp, q * 3 + 2, none⟩ = some (.bool K0) := (hgp.cell _).trans p2
                  have HPQ : Hid (P.at q = ⟨I0, O0, K0⟩) := Lib.hid (by rw [← hI0, ← hO0, ← hK0])
                  clear p0 p1 p2 hgp hI0 hO0 hK0
                  have na : gp ≠ wv.heap.size := by omega
                  have nb : gv ≠ wv.heap.size := by omega
                  have nc : wv.heap.size ≠ gp := by omega
                  have nd : wv.heap.size ≠ gv := by omega
                  have HM0 : Hid (E ≠ 0 → (mCame (Mv P n N G As ta tb) (q : Int) x2).P = P) := Lib.hid (fun h => by rw [mCame_bad (by rw [HEE.out]; exact h)])
                  have HM1 : Hid (E = 0 → (mCame (Mv P n N G As ta tb) (q : Int) x2).P = P.put ⟨cameI I0 O0 K0 x2, cameO I0 O0 K0 x2, cameK I0 O0 K0 x2⟩ q) := Lib.hid (fun h => by
                    rw [mCame_ok (by rw [HEE.out]; exact h), Int.toNat_natCast]
                    show P.put (cameP (P.at q) x2) q = _
                    rw [HPQ.out]
                    rfl)
                  have RC := Lib.hid (fun W => rcame_any I0 O0 K0 x2 W)
                  rw [← HF.out] at RC
                  generalize cameI I0 O0 K0 x2 = i' at *
                  generalize cameO I0 O0 K0 x2 = o' at *
                  generalize cameK I0 O0 K0 x2 = k' at *
                  clear HF HEE HPQ
                  go_wp2_with fail
                  go_region_held3 (fun w' => w'.cell? ⟨gp, q * 3, none⟩ = some (.int .i64 I0) ∧ w'.cell? ⟨gp, q * 3 + 1, none⟩ = some (.int .i64 O0) ∧ w'.cell? ⟨gp, q * 3 + 2, none⟩ = some (.bool K0) ∧ w'.cell? ⟨gv, 1, none⟩ = some (.int .i64 q) ∧ w'.cell? ⟨gv, 2, none⟩ = some (.int .i64 x2)) (go_keep) (first | (go_at_call 23; refine (RC.out _).mono ?_; rintro e w6 ⟨rfl, hb6⟩; (first | (refine keepk (gv) hb6 ?_ ?_; (first | assumption | (simp; omega) | (simp; done)); intro lk ck fk; refine keepk (gp) hb6 ?_ ?_; (first | assumption | (simp; omega) | (simp; done)); intro lk ck fk) | (refine keepk (gv) hb6 ?_ ?_; (first | assumption | (simp; omega) | (simp; done)); intro lk ck fk)); (first | (have h3 := after_alloc_drew hb6; have l3 := h3.lt; have f3 := h3.free; have e30 := h3.cell 0; have e31 := h3.cell 1; have e32 := h3.cell 2; clear h3) | (have h3 := after_alloc hb6; have l3 := h3.lt; have f3 := h3.free; have e30 := h3.cell 0; have e31 := h3.cell 1; have e32 := h3.cell 2; clear h3) | skip); have qa : gp ≠ w6.heap.size := (by omega); have qb : gv ≠ w6.heap.size := (by omega); have qc : w6.heap.size ≠ gp := (by omega); have qd : w6.heap.size ≠ gv := (by omega)))
                  all_goals
                    by_cases hE0 : E = 0
                    case neg =>
                      have hE0' : (E == 0) = false := by simpa using hE0
                      have HM := Lib.hid (HM0.out hE0)
                      clear hE0
                      go_wp2_with fail
                      refine Met.intro ?_
                      go_step
                      refine ⟨?_, _, _, _, _, _, _, _, _, _, _, _, _, _, _, _, _, _, _, _, _, _, _, _, _, _, _, _, _, (by kernel_rfl), rfl⟩
                      rw [HM.out]
                      exact HO.out.later (by refine Since.out ?_; repeat (first | with_reducible assumption | with_reducible exact Since.refl _ | with_reducible refine Since.later ?_ (by with_reducible assumption) | with_reducible refine Since.only ?_ (by with_reducible assumption) (by first | assumption | omega | (simp; done) | (simp; omega)) | with_reducible refine Since.alloc ?_ _ | with_reducible refine Since.drewN ?_ _ | with_reducible refine Since.drew ?_ | with_reducible refine Since.set ?_ (by first | assumption | omega | (simp; done) | (simp; omega)) _))
                    subst hE0
                    have HM := Lib.hid (HM1.out rfl)
                    go_wp2_with fail
                    refine Met.intro ?_
                    go_step
                    refine ⟨?_, _, _, _, _, _, _, _, _, _, _, _, _, _, _, _, _, _, _, _, _, _, _, _, _, _, _, _, _, (by kernel_rfl), rfl⟩
                    rw [HM.out]
                    first
                      | exact path3 (p := ⟨i', o', k'⟩) (HO.out.later (by refine Since.out ?_; repeat (first | with_reducible assumption | with_reducible exact Since.refl _ | with_reducible refine Since.later ?_ (by with_reducible assumption) | with_reducible refine Since.only ?_ (by with_reducible assumption) (by first | assumption | omega | (simp; done) | (simp; omega)) | with_reducible refine Since.alloc ?_ _ | with_reducible refine Since.drewN ?_ _ | with_reducible refine Since.drew ?_ | with_reducible refine Since.set ?_ (by first | assumption | omega | (simp; done) | (simp; omega)) _))) hq
                      | exact Own.later (path3 (p := ⟨i', o', k'⟩) (HO.out.later (by refine Since.out ?_; repeat (first | with_reducible assumption | with_reducible exact Since.refl _ | with_reducible refine Since.later ?_ (by with_reducible assumption) | with_reducible refine Since.only ?_ (by with_reducible assumption) (by first | assumption | omega | (simp; done) | (simp; omega)) | with_reducible refine Since.alloc ?_ _ | with_reducible refine Since.drewN ?_ _ | with_reducible refine Since.drew ?_ | with_reducible refine Since.set ?_ (by first | assumption | omega | (simp; done) | (simp; omega)) _))) hq) ((Since.refl _).alloc _)
                      | exact Own.later (path3 (p := ⟨i', o', k'⟩) (HO.out.later (by refine Since.out ?_; repeat (first | with_reducible assumption | with_reducible exact Since.refl _ | with_reducible refine Since.later ?_ (by with_reducible assumption) | with_reducible refine Since.only ?_ (by with_reducible assumption) (by first | assumption | omega | (simp; done) | (simp; omega)) | with_reducible refine Since.alloc ?_ _ | with_reducible refine Since.drewN ?_ _ | with_reducible refine Since.drew ?_ | with_reducible refine Since.set ?_ (by first | assumption | omega | (simp; done) | (simp; omega)) _))) hq) ((Since.refl _).alloc _).drew
            intro a' w3 hinv
            obtain ⟨ho3, t2, t3, t4, t7, t8, t16, t17, t18, t19, t20, t21, t22, t23, t24, t25, t26, t27, t28, t29, t30, t31, t32, t33, t34, t35, t36, t37, U, hU, rfl⟩ := hinv
            obtain ⟨u, rfl⟩ := growTail hU; clear hU
            have HO3 := Lib.hid ho3
            clear ho3
            have CL := Lib.hid (CS.out _ (HO3.out.blk 4 rfl))
            obtain ⟨d1, d2⟩ := CL.out
            clear HO HF c0 c1 c2
            obtain ⟨S0, hS0, up0⟩ := HO3.out.at_ 0 rfl
            go_wp2_with fail
            refine (tcame x1 x2 hS0).mono ?_
            rintro e w4 ⟨rfl, hl4⟩
            rw [Mv.came] at hl4
            rw [HEE.out]
            have HO4 : Hid (Own w [] w4 [moverT g (Mv (mCame (Mv P n N G As ta tb) x1 x2).P n N G As ta tb), idsT gm n N G, prfT gq As, Thing.block gp 48 (pthsCells (mCame (Mv P n N G As ta tb) x1 x2).P), Thing.block gv 49 cs]) := Lib.hid (up0 _ _ hl4)
            clear hS0 up0 hl4 HO3 CL
            go_wp2_with fail
            refine (same_yes _ _ (HE.out.later HO4.out.since)).mono ?_
            rintro e w5 ⟨rfl, hb5⟩
            go_wp2_with fail
            refine Met.intro ?_
            go_step
            exact ⟨ta, tb, ⟨ta1, tb0, _, _, _, _, (HO4.out.later hb5).take 4, HTD.out⟩, _, _, _, _, _, _, _, _, _, _, _, _, _, _, _, _, _, _, _, _, _, _, _, _, _, _, _, _, _, (by kernel_rfl), rfl⟩
      by_cases h13 : x0 = 3
      case pos =>
        as_aux_lemma =>
          have HF : Hid (mSendE (Mv P n N G As ta tb) x1 x2 = if pathB x1 = true then sendE (P.at x1.toNat).i (P.at x1.toNat).o (P.at x1.toNat).k x2 else 1) := Lib.hid rfl
          have c2 : wv.cell? ⟨gv, 2, none⟩ = some (.int .i64 x2) := (HO.out.blk 4 rfl).cell 2
          have lgp := (HO.out.blk 3 rfl).lt
          obtain ⟨E, hE⟩ : ∃ E, mSendE (Mv P n N G As ta tb) x1 x2 = E := ⟨_, rfl⟩
          rw [hE] at HF
          have HEE := Lib.hid hE
          clear h0 h0' h12 hE
          obtain ⟨cs, hcs⟩ : ∃ cs : Array Value, #[.int .i64 x0, .int .i64 x1, .int .i64 x2, .int .i64 x3, .int .i64 x4] = cs := ⟨_, rfl⟩
          have CS : Hid (∀ W, BlockIs W gv 49 cs → W.cell? ⟨gv, 1, none⟩ = some (.int .i64 x1) ∧ W.cell? ⟨gv, 2, none⟩ = some (.int .i64 x2)) := Lib.hid (fun W hW => by rw [← hcs] at hW; exact ⟨hW.cell 1, hW.cell 2⟩)
          rw [hcs] at HO
          clear hcs
          subst h13
          next =>
            repeat ((fail_if_success (with_reducible refine stop_at 58 ?_)); first | fail | go_values | go_skip | go_guarded | go_step | go_upon | go_back | go_simp)
            refine wp_cut (CC w n (some ⟨b, off, none⟩) Z.length cap g gm gq gp k ta tb gv [moverT g (Mv P n N G As ta tb), idsT gm n N G, prfT gq As, Thing.block gp 48 (pthsCells (mSend (Mv P n N G As ta tb) x1 x2).P), Thing.block gv 49 cs] E) ?_ ?_
            rotate_left
            next =>
              as_aux_lemma =>
                intro _ _ _ _
                cases hb : pathB x1 with
                | false =>
                  rw [hb, if_neg (by decide)] at HF
                  have HM : Hid (mSend (Mv P n N G As ta tb) x1 x2 = _) := Lib.hid (mSend_bad (by rw [HEE.out, HF.out]; decide))
                  obtain rfl := HF.out
                  go_wp2_with fail
                  refine Met.intro ?_
                  go_step
                  refine ⟨?_, _, _, _, _, _, _, _, _, _, _, _, _, _, _, _, _, _, _, _, _, _, _, _, _, _, _, _, _, (by kernel_rfl), rfl⟩
                  rw [HM.out]
                  exact HO.out
                | true =>
                  rw [hb, if_pos rfl] at HF
                  have hx03 := pathB_iff.1 hb
                  obtain ⟨q, rfl⟩ : ∃ q : Nat, x1 = q := ⟨x1.toNat, by omega⟩
                  have hq : q < 4 := by omega
                  have hq' : (q : Int) < 4 := by omega
                  rw [Int.toNat_natCast] at HF
                  obtain ⟨p0, p1, p2⟩ := pths_cells P hq
                  have hgp := HO.out.blk 3 rfl
                  have fgp := hgp.free
                  obtain ⟨I0, hI0⟩ : ∃ x, (P.at q).i = x := ⟨_, rfl⟩
                  obtain ⟨O0, hO0⟩ : ∃ x, (P.at q).o = x := ⟨_, rfl⟩
                  obtain ⟨K0, hK0⟩ : ∃ x, (P.at q).k = x := ⟨_, rfl⟩
                  rw [hI0, hO0, hK0] at HF
                  rw [hI0] at p0
                  rw [hO0] at p1
                  rw [hK0] at p2
                  have k0 : wv.cell? ⟨gp, q * 3, none⟩ = some (.int .i64 I0) := (hgp.cell _).trans p0
                  have k1 : wv.cell? ⟨gp, q * 3 + 1, none⟩ = some (.int .i64 O0) := (hgp.cell _).trans p1
                  have k2 : wv.cell? ⟨gp, q * 3 + 2, none⟩ = some (.bool K0) := (hgp.cell _).trans p2
                  have HPQ : Hid (P.at q = ⟨I0, O0, K0⟩) := Lib.hid (by rw [← hI0, ← hO0, ← hK0])
                  clear p0 p1 p2 hgp hI0 hO0 hK0
                  have na : gp ≠ wv.heap.size := by omega
                  have nb : gv ≠ wv.heap.size := by omega
                  have nc : wv.heap.size ≠ gp := by omega
                  have nd : wv.heap.size ≠ gv := by omega
                  have HM0 : Hid (E ≠ 0 → (mSend (Mv P n N G As ta tb) (q : Int) x2).P = P) := Lib.hid (fun h => by rw [mSend_bad (by rw [HEE.out]; exact h)])
                  have HM1 : Hid (E = 0 → (mSend (Mv P n N G As ta tb) (q : Int) x2).P = P.put ⟨sendI I0 O0 K0 x2, sendO I0 O0 K0 x2, sendK I0 O0 K0 x2⟩ q) := Lib.hid (fun h => by
                    rw [mSend_ok (by rw [HEE.out]; exact h), Int.toNat_natCast]
                    show P.put (sendP (P.at q) x2) q = _
                    rw [HPQ.out]
                    rfl)
                  have RC := Lib.hid (fun W => rsend_any I0 O0 K0 x2 W)
                  rw [← HF.out] at RC
                  generalize sendI I0 O0 K0 x2 = i' at *
                  generalize sendO I0 O0 K0 x2 = o' at *
                  generalize sendK I0 O0 K0 x2 = k' at *
                  clear HF HEE HPQ
                  go_wp2_with fail
                  go_region_held3 (fun w' => w'.cell? ⟨gp, q * 3, none⟩ = some (.int .i64 I0) ∧ w'.cell? ⟨gp, q * 3 + 1, none⟩ = some (.int .i64 O0) ∧ w'.cell? ⟨gp, q * 3 + 2, none⟩ = some (.bool K0) ∧ w'.cell? ⟨gv, 1, none⟩ = some (.int .i64 q) ∧ w'.cell? ⟨gv, 2, none⟩ = some (.int .i64 x2)) (go_keep) (first | (go_at_call 24; refine (RC.out _).mono ?_; rintro e w6 ⟨rfl, hb6⟩; (first | (refine keepk (gv) hb6 ?_ ?_; (first | assumption | (simp; omega) | (simp; done)); intro lk ck fk; refine keepk (gp) hb6 ?_ ?_; (first | assumption | (simp; omega) | (simp; done)); intro lk ck fk) | (refine keepk (gv) hb6 ?_ ?_; (first | assumption | (simp; omega) | (simp; done)); intro lk ck fk)); (first | (have h3 := after_alloc_drew hb6; have l3 := h3.lt; have f3 := h3.free; have e30 := h3.cell 0; have e31 := h3.cell 1; have e32 := h3.cell 2; clear h3) | (have h3 := after_alloc hb6; have l3 := h3.lt; have f3 := h3.free; have e30 := h3.cell 0; have e31 := h3.cell 1; have e32 := h3.cell 2; clear h3) | skip); have qa : gp ≠ w6.heap.size := (by omega); have qb : gv ≠ w6.heap.size := (by omega); have qc : w6.heap.size ≠ gp := (by omega); have qd : w6.heap.size ≠ gv := (by omega)))
                  all_goals
                    by_cases hE0 : E = 0
                    case neg =>
                      have hE0' : (E == 0) = false := by simpa using hE0
                      have HM := Lib.hid (HM0.out hE0)
                      clear hE0
                      go_wp2_with fail
                      refine Met.intro ?_
                      go_step
                      refine ⟨?_, _, _, _, _, _, _, _, _, _, _, _, _, _, _, _, _, _, _, _, _, _, _, _, _, _, _, _, _, (by kernel_rfl), rfl⟩
                      rw [HM.out]
                      exact HO.out.later (by refine Since.out ?_; repeat (first | with_reducible assumption | with_reducible exact Since.refl _ | with_reducible refine Since.later ?_ (by with_reducible assumption) | with_reducible refine Since.only ?_ (by with_reducible assumption) (by first | assumption | omega | (simp; done) | (simp; omega)) | with_reducible refine Since.alloc ?_ _ | with_reducible refine Since.drewN ?_ _ | with_reducible refine Since.drew ?_ | with_reducible refine Since.set ?_ (by first | assumption | omega | (simp; done) | (simp; omega)) _))
                    subst hE0
                    have HM := Lib.hid (HM1.out rfl)
                    go_wp2_with fail
                    refine Met.intro ?_
                    go_step
                    refine ⟨?_, _, _, _, _, _, _, _, _, _, _, _, _, _, _, _, _, _, _, _, _, _, _, _, _, _, _, _, _, (by kernel_rfl), rfl⟩
                    rw [HM.out]
                    first
                      | exact path3 (p := ⟨i', o', k'⟩) (HO.out.later (by refine Since.out ?_; repeat (first | with_reducible assumption | with_reducible exact Since.refl _ | with_reducible refine Since.later ?_ (by with_reducible assumption) | with_reducible refine Since.only ?_ (by with_reducible assumption) (by first | assumption | omega | (simp; done) | (simp; omega)) | with_reducible refine Since.alloc ?_ _ | with_reducible refine Since.drewN ?_ _ | with_reducible refine Since.drew ?_ | with_reducible refine Since.set ?_ (by first | assumption | omega | (simp; done) | (simp; omega)) _))) hq
                      | exact Own.later (path3 (p := ⟨i', o', k'⟩) (HO.out.later (by refine Since.out ?_; repeat (first | with_reducible assumption | with_reducible exact Since.refl _ | with_reducible refine Since.later ?_ (by with_reducible assumption) | with_reducible refine Since.only ?_ (by with_reducible assumption) (by first | assumption | omega | (simp; done) | (simp; omega)) | with_reducible refine Since.alloc ?_ _ | with_reducible refine Since.drewN ?_ _ | with_reducible refine Since.drew ?_ | with_reducible refine Since.set ?_ (by first | assumption | omega | (simp; done) | (simp; omega)) _))) hq) ((Since.refl _).alloc _)
                      | exact Own.later (path3 (p := ⟨i', o', k'⟩) (HO.out.later (by refine Since.out ?_; repeat (first | with_reducible assumption | with_reducible exact Since.refl _ | with_reducible refine Since.later ?_ (by with_reducible assumption) | with_reducible refine Since.only ?_ (by with_reducible assumption) (by first | assumption | omega | (simp; done) | (simp; omega)) | with_reducible refine Since.alloc ?_ _ | with_reducible refine Since.drewN ?_ _ | with_reducible refine Since.drew ?_ | with_reducible refine Since.set ?_ (by first | assumption | omega | (simp; done) | (simp; omega)) _))) hq) ((Since.refl _).alloc _).drew
            intro a' w3 hinv
            obtain ⟨ho3, t2, t3, t4, t7, t8, t16, t17, t18, t19, t20, t21, t22, t23, t24, t25, t26, t27, t28, t29, t30, t31, t32, t33, t34, t35, t36, t37, U, hU, rfl⟩ := hinv
            obtain ⟨u, rfl⟩ := growTail hU; clear hU
            have HO3 := Lib.hid ho3
            clear ho3
            have CL := Lib.hid (CS.out _ (HO3.out.blk 4 rfl))
            obtain ⟨d1, d2⟩ := CL.out
            clear HO HF c0 c1 c2
            obtain ⟨S0, hS0, up0⟩ := HO3.out.at_ 0 rfl
            go_wp2_with fail
            refine (tsend x1 x2 hS0).mono ?_
            rintro e w4 ⟨rfl, hl4⟩
            rw [Mv.send] at hl4
            rw [HEE.out]
            have HO4 : Hid (Own w [] w4 [moverT g (Mv (mSend (Mv P n N G As ta tb) x1 x2).P n N G As ta tb), idsT gm n N G, prfT gq As, Thing.block gp 48 (pthsCells (mSend (Mv P n N G As ta tb) x1 x2).P), Thing.block gv 49 cs]) := Lib.hid (up0 _ _ hl4)
            clear hS0 up0 hl4 HO3 CL
            go_wp2_with fail
            refine (same_yes _ _ (HE.out.later HO4.out.since)).mono ?_
            rintro e w5 ⟨rfl, hb5⟩
            go_wp2_with fail
            refine Met.intro ?_
            go_step
            exact ⟨ta, tb, ⟨ta1, tb0, _, _, _, _, (HO4.out.later hb5).take 4, HTD.out⟩, _, _, _, _, _, _, _, _, _, _, _, _, _, _, _, _, _, _, _, _, _, _, _, _, _, _, _, _, _, (by kernel_rfl), rfl⟩
      by_cases h14 : x0 = 4
      case pos =>
        as_aux_lemma =>
          have HF : Hid (mAskE (Mv P n N G As ta tb) x1 x2 x3 = if pathB x1 = true then (if (P.at x1.toNat).k = false ∧ (P.at x1.toNat).i = 0 then 5 else askE As x1 x2 x3) else 1) := Lib.hid rfl
          have lgp := (HO.out.blk 3 rfl).lt
          obtain ⟨E, hE⟩ : ∃ E, mAskE (Mv P n N G As ta tb) x1 x2 x3 = E := ⟨_, rfl⟩
          rw [hE] at HF
          have HEE := Lib.hid hE
          have HAS : Hid (mAsk (Mv P n N G As ta tb) x1 x2 x3 = Mv P n N G (if E = 0 then askL As x1 x2 x3 else As) ta tb) := Lib.hid (by rw [← hE]; rfl)
          clear h0 h0' h12 h13 hE
          subst h14
          obtain ⟨cs, hcs⟩ : ∃ cs : Array Value, #[.int .i64 4, .int .i64 x1, .int .i64 x2, .int .i64 x3, .int .i64 x4] = cs := ⟨_, rfl⟩
          have CS : Hid (∀ W, BlockIs W gv 49 cs → W.cell? ⟨gv, 1, none⟩ = some (.int .i64 x1) ∧ W.cell? ⟨gv, 2, none⟩ = some (.int .i64 x2) ∧ W.cell? ⟨gv, 3, none⟩ = some (.int .i64 x3)) := Lib.hid (fun W hW => by rw [← hcs] at hW; exact ⟨hW.cell 1, hW.cell 2, hW.cell 3⟩)
          rw [hcs] at HO
          clear hcs
          have CL := Lib.hid (CS.out _ (HO.out.blk 4 rfl))
          obtain ⟨d1, d2, d3⟩ := CL.out
          clear c1 CL
          repeat ((fail_if_success (with_reducible refine stop_at 65 ?_)); first | fail | go_values | go_skip | go_guarded | go_step | go_upon | go_back | go_simp)
          refine wp_cut (CC w n (some ⟨b, off, none⟩) Z.length cap g gm gq gp k ta tb gv [moverT g (Mv P n N G As ta tb), idsT gm n N G, prfT gq (if E = 0 then askL As x1 x2 x3 else As), Thing.block gp 48 (pthsCells P), Thing.block gv 49 cs] E) ?_ ?_
          rotate_left
          next =>
            as_aux_lemma =>
              intro _ _ _ _
              cases hb : pathB x1 with
              | false =>
                rw [hb, if_neg (by decide)] at HF
                obtain rfl := HF.out
                go_wp2_with fail
                refine Met.intro ?_
                go_step
                exact ⟨HO.out, _, _, _, _, _, _, _, _, _, _, _, _, _, _, _, _, _, _, _, _, _, _, _, _, _, _, _, _, (by kernel_rfl), rfl⟩
              | true =>
                rw [hb, if_pos rfl] at HF
                have hx03 := pathB_iff.1 hb
                obtain ⟨q, rfl⟩ : ∃ q : Nat, x1 = q := ⟨x1.toNat, by omega⟩
                have hq : q < 4 := by omega
                have hq' : (q : Int) < 4 := by omega
                rw [Int.toNat_natCast] at HF
                obtain ⟨p0, p1, p2⟩ := pths_cells P hq
                have hgp := HO.out.blk 3 rfl
                obtain ⟨I0, hI0⟩ : ∃ x, (P.at q).i = x := ⟨_, rfl⟩
                obtain ⟨K0, hK0⟩ : ∃ x, (P.at q).k = x := ⟨_, rfl⟩
                rw [hI0, hK0] at HF
                rw [hI0] at p0
                rw [hK0] at p2
                have k0 : wv.cell? ⟨gp, q * 3, none⟩ = some (.int .i64 I0) := (hgp.cell _).trans p0
                have k2 : wv.cell? ⟨gp, q * 3 + 2, none⟩ = some (.bool K0) := (hgp.cell _).trans p2
                clear p0 p1 p2 hgp hI0 hK0
                by_cases h5 : K0 = false ∧ I0 = 0
                · obtain ⟨rfl, rfl⟩ := h5
                  rw [if_pos ⟨rfl, rfl⟩] at HF
                  obtain rfl := HF.out
                  go_wp2_with fail
                  refine Met.intro ?_
                  go_step
                  exact ⟨HO.out, _, _, _, _, _, _, _, _, _, _, _, _, _, _, _, _, _, _, _, _, _, _, _, _, _, _, _, _, (by kernel_rfl), rfl⟩
                · rw [if_neg h5] at HF
                  have HU : Hid ((if E = 0 then askL As q x2 x3 else As) = askL As q x2 x3) := Lib.hid (by
                    by_cases h : E = 0
                    · rw [if_pos h]
                    · rw [if_neg h, ask_bad (by rw [← HF.out]; exact h)])
                  have HC2 := Lib.hid (fun (S : List Nat) (h : (prfT gq As).is wv S) => taskR (q : Int) x2 x3 h)
                  rw [← HF.out] at HC2
                  clear HF
                  have go : Hid (∃ S, (prfT gq As).is wv S ∧ ∀ (w' : World) (t' : Thing), Leaves wv w' S t' → Own w [] w' [moverT g (Mv P n N G As ta tb), idsT gm n N G, t', Thing.block gp 48 (pthsCells P), Thing.block gv 49 cs]) := Lib.hid (HO.out.at_ 2 rfl)
                  obtain ⟨S2, hS2, up2⟩ := go.out
                  cases K0 with
                  | true =>
                    clear h5
                    go_wp2_with fail
                    refine (HC2.out S2 hS2).mono ?_
                    rintro e w4 ⟨rfl, hl4⟩
                    go_wp2_with fail
                    refine Met.intro ?_
                    go_step
                    refine ⟨?_, _, _, _, _, _, _, _, _, _, _, _, _, _, _, _, _, _, _, _, _, _, _, _, _, _, _, _, _, (by kernel_rfl), rfl⟩
                    rw [HU.out]
                    exact up2 _ _ hl4
                  | false =>
                    have hI0 : (I0 == 0) = false := by
                      rw [beq_eq_false_iff_ne]
                      exact fun h => h5 ⟨rfl, h⟩
                    clear h5
                    go_wp2_with fail
                    refine (HC2.out S2 hS2).mono ?_
                    rintro e w4 ⟨rfl, hl4⟩
                    go_wp2_with fail
                    refine Met.intro ?_
                    go_step
                    refine ⟨?_, _, _, _, _, _, _, _, _, _, _, _, _, _, _, _, _, _, _, _, _, _, _, _, _, _, _, _, _, (by kernel_rfl), rfl⟩
                    rw [HU.out]
                    exact up2 _ _ hl4
          intro a' w3 hinv
          obtain ⟨ho3, t2, t3, t4, t7, t8, t16, t17, t18, t19, t20, t21, t22, t23, t24, t25, t26, t27, t28, t29, t30, t31, t32, t33, t34, t35, t36, t37, U, hU, rfl⟩ := hinv
          obtain ⟨u, rfl⟩ := growTail hU; clear hU
          have HO3 := Lib.hid ho3
          clear ho3
          have CL := Lib.hid (CS.out _ (HO3.out.blk 4 rfl))
          clear d1 d2 d3 HO HF c0
          obtain ⟨d1, d2, d3⟩ := CL.out
          obtain ⟨S0, hS0, up0⟩ := HO3.out.at_ 0 rfl
          go_wp2_with fail
          refine (task_ x1 x2 x3 hS0).mono ?_
          rintro e w4 ⟨rfl, hl4⟩
          rw [HAS.out] at hl4
          rw [HEE.out]
          have HO4 : Hid (Own w [] w4 [moverT g (Mv P n N G (if E = 0 then askL As x1 x2 x3 else As) ta tb), idsT gm n N G, prfT gq (if E = 0 then askL As x1 x2 x3 else As), Thing.block gp 48 (pthsCells P), Thing.block gv 49 cs]) := Lib.hid (up0 _ _ hl4)
          clear hS0 up0 hl4 HO3 CL d1 d2 d3 HAS
          generalize (if E = 0 then askL As x1 x2 x3 else As) = As' at *
          go_wp2_with fail
          refine (same_yes _ _ (HE.out.later HO4.out.since)).mono ?_
          rintro e w5 ⟨rfl, hb5⟩
          go_wp2_with fail
          refine Met.intro ?_
          go_step
          exact ⟨ta, tb, ⟨ta1, tb0, _, _, _, _, (HO4.out.later hb5).take 4, HTD.out⟩, _, _, _, _, _, _, _, _, _, _, _, _, _, _, _, _, _, _, _, _, _, _, _, _, _, _, _, _, _, (by kernel_rfl), rfl⟩
      by_cases h15 : x0 = 5
      case pos =>
        as_aux_lemma =>
          have lgp := (HO.out.blk 3 rfl).lt
          obtain ⟨E, hE⟩ : ∃ E, ansE x1 x2 x3 x4 = E := ⟨_, rfl⟩
          obtain ⟨o, ho⟩ : ∃ o, ansB As x1 x2 x3 x4 = o := ⟨_, rfl⟩
          obtain ⟨As', hAs'⟩ : ∃ A, ansL As x1 x2 x3 x4 = A := ⟨_, rfl⟩
          have HAS : Hid (mAns (Mv P n N G As ta tb) x1 x2 x3 x4 = Mv (if o = true then P.put (known1 (P.at x1.toNat)) x1.toNat else P) n N G As' ta tb) := Lib.hid (by rw [← ho, ← hAs']; rfl)
          have AP : Hid (o = true → x1 = 0 ∨ x1 = 1 ∨ x1 = 2 ∨ x1 = 3) := Lib.hid (fun h => ans_path (ho.trans h))
          have HRT := Lib.hid (fun (W : World) (S : List Nat) (h : (prfT gq As).is W S) => tansR x1 x2 x3 x4 h)
          have HMT := Lib.hid (fun (W : World) (S : List Nat) (h : (moverT g (Mv P n N G As ta tb)).is W S) => tanswer x1 x2 x3 x4 h)
          rw [HAS.out] at HMT
          simp only at HMT
          rw [ho, hE, hAs'] at HRT
          rw [ho, hE] at HMT
          clear h0 h0' h12 h13 h14 hE ho hAs' HAS
          subst h15
          obtain ⟨cs, hcs⟩ : ∃ cs : Array Value, #[.int .i64 5, .int .i64 x1, .int .i64 x2, .int .i64 x3, .int .i64 x4] = cs := ⟨_, rfl⟩
          have CS : Hid (∀ W, BlockIs W gv 49 cs → W.cell? ⟨gv, 1, none⟩ = some (.int .i64 x1) ∧ W.cell? ⟨gv, 2, none⟩ = some (.int .i64 x2) ∧ W.cell? ⟨gv, 3, none⟩ = some (.int .i64 x3) ∧ W.cell? ⟨gv, 4, none⟩ = some (.int .i64 x4)) := Lib.hid (fun W hW => by rw [← hcs] at hW; exact ⟨hW.cell 1, hW.cell 2, hW.cell 3, hW.cell 4⟩)
          rw [hcs] at HO
          clear hcs c1
          have CL := Lib.hid (CS.out _ (HO.out.blk 4 rfl))
          obtain ⟨d1, d2, d3, d4⟩ := CL.out
          obtain ⟨S2, hS2, up2⟩ := HO.out.at_ 2 rfl
          go_wp2_with fail
          refine (HRT.out _ S2 hS2).mono ?_
          rintro e w3 ⟨rfl, hl3⟩
          have HO3 : Hid (Own w [] w3 [moverT g (Mv P n N G As ta tb), idsT gm n N G, prfT gq As', Thing.block gp 48 (pthsCells P), Thing.block gv 49 cs]) := Lib.hid (up2 _ _ hl3)
          have hsz : wv.heap.size ≤ w3.heap.size := hl3.size
          clear hS2 up2 hl3 d1 d2 d3 d4 CL c0 HO HRT
          have CL := Lib.hid (CS.out _ (HO3.out.blk 4 rfl))
          obtain ⟨d1, d2, d3, d4⟩ := CL.out
          have lv3 : gv < w3.heap.size := by omega
          have lgp3 : gp < w3.heap.size := by omega
          clear lv lgp hsz
          repeat ((fail_if_success (with_reducible refine stop_at 72 ?_)); first | fail | go_values | go_skip | go_guarded | go_step | go_upon | go_back | go_simp)
          refine wp_cut (CA w n (some ⟨b, off, none⟩) Z.length cap g gm gq gp k ta tb gv [moverT g (Mv P n N G As ta tb), idsT gm n N G, prfT gq As', Thing.block gp 48 (pthsCells (if o = true then P.put (known1 (P.at x1.toNat)) x1.toNat else P)), Thing.block gv 49 cs] o E) ?_ ?_
          rotate_left
          next =>
            as_aux_lemma =>
              intro _ _ _ _
              cases o with
              | false =>
                go_wp2_with fail
                refine Met.intro ?_
                go_step
                exact ⟨HO3.out, _, _, _, _, _, _, _, _, _, _, _, _, _, _, _, _, _, _, _, _, _, _, _, _, _, _, _, (by kernel_rfl), rfl⟩
              | true =>
                have hx4 := AP.out rfl
                obtain ⟨q, rfl⟩ : ∃ q : Nat, x1 = q := ⟨x1.toNat, by omega⟩
                have hq : q < 4 := by omega
                have hq' : (q : Int) < 4 := by omega
                clear hx4 HMT
                obtain ⟨p0, p1, p2⟩ := pths_cells P hq
                have hgp := HO3.out.blk 3 rfl
                have fgp := hgp.free
                obtain ⟨I0, hI0⟩ : ∃ x, (P.at q).i = x := ⟨_, rfl⟩
                obtain ⟨K0, hK0⟩ : ∃ x, (P.at q).k = x := ⟨_, rfl⟩
                rw [hI0] at p0
                rw [hK0] at p2
                have k0 : w3.cell? ⟨gp, q * 3, none⟩ = some (.int .i64 I0) := (hgp.cell _).trans p0
                have k2 : w3.cell? ⟨gp, q * 3 + 2, none⟩ = some (.bool K0) := (hgp.cell _).trans p2
                clear p0 p1 p2 hgp hK0
                by_cases hi : 0 < I0
                · have HP1 : Hid ((if True then P.put (known1 (P.at (q : Int).toNat)) (q : Int).toNat else P) = P.put { P.at q with k := true } q) := Lib.hid (by rw [if_pos trivial, Int.toNat_natCast]; unfold known1; rw [if_pos (by rw [hI0]; exact hi)])
                  clear hI0
                  go_wp2_with fail
                  refine Met.intro ?_
                  go_step
                  refine ⟨?_, _, _, _, _, _, _, _, _, _, _, _, _, _, _, _, _, _, _, _, _, _, _, _, _, _, _, _, (by kernel_rfl), rfl⟩
                  have := HO3.out.put 3 rfl (q * 3 + 2) (.bool true)
                  rw [pths_know P hq true] at this
                  simp only [HP1.out] at this ⊢
                  exact this
                · have HP1 : Hid ((if True then P.put (known1 (P.at (q : Int).toNat)) (q : Int).toNat else P) = P) := Lib.hid (by rw [if_pos trivial, Int.toNat_natCast]; unfold known1; rw [if_neg (by rw [hI0]; exact hi)]; exact pths_same P hq)
                  have hi' : decide (0 < I0) = false := by simpa using hi
                  clear hI0 hi
                  go_wp2_with fail
                  refine Met.intro ?_
                  go_step
                  refine ⟨?_, _, _, _, _, _, _, _, _, _, _, _, _, _, _, _, _, _, _, _, _, _, _, _, _, _, _, _, (by kernel_rfl), rfl⟩
                  simp only [HP1.out]
                  exact HO3.out
          intro a' w4 hinv
          obtain ⟨ho4, t2, t3, t4, t5, t7, t8, t16, t17, t18, t19, t20, t21, t24, t25, t26, t27, t28, t29, t30, t31, t32, t33, t34, t35, t36, t37, U, hU, rfl⟩ := hinv
          obtain ⟨u, rfl⟩ := growTail hU; clear hU
          have HO4 := Lib.hid ho4
          clear ho4 HO3 d1 d2 d3 d4 CL AP
          generalize (if o = true then P.put (known1 (P.at x1.toNat)) x1.toNat else P) = P' at *
          have CL := Lib.hid (CS.out _ (HO4.out.blk 4 rfl))
          obtain ⟨d1, d2, d3, d4⟩ := CL.out
          obtain ⟨S0, hS0, up0⟩ := HO4.out.at_ 0 rfl
          go_wp2_with fail
          refine (HMT.out _ S0 hS0).mono ?_
          rintro e w5 ⟨rfl, hl5⟩
          have HO5 : Hid (Own w [] w5 [moverT g (Mv P' n N G As' ta tb), idsT gm n N G, prfT gq As', Thing.block gp 48 (pthsCells P'), Thing.block gv 49 cs]) := Lib.hid (up0 _ _ hl5)
          clear hS0 up0 hl5 HO4 CL d1 d2 d3 d4 HMT
          go_wp2_with fail
          refine (same_yes _ _ (HE.out.later HO5.out.since)).mono ?_
          rintro e w6 ⟨rfl, hb6⟩
          go_wp2_with fail
          refine Met.intro ?_
          go_step
          exact ⟨ta, tb, ⟨ta1, tb0, _, _, _, _, (HO5.out.later hb6).take 4, HTD.out⟩, _, _, _, _, _, _, _, _, _, _, _, _, _, _, _, _, _, _, _, _, _, _, _, _, _, _, _, _, _, (by kernel_rfl), rfl⟩
      next =>
        as_aux_lemma =>
          have h11' : (x0 == 1) = false := by simp; omega
          have h12' : (x0 == 2) = false := by simp; omega
          have h13' : (x0 == 3) = false := by simp; omega
          have h14' : (x0 == 4) = false := by simp; omega
          have h15' : (x0 == 5) = false := by simp; omega
          clear h0 h12 h13 h14 h15
          obtain ⟨S1, hS1, _⟩ := HO.out.at_ 1 rfl
          have HLN := Lib.hid (idsT.len hS1)
          go_wp2_with fail
          refine (tliveR hS1).mono ?_
          rintro e w3 ⟨A3, cap3, rfl, hl3, hb3, hk3⟩
          have HO3 := Lib.hid (HO.out.later hb3)
          have d1 : w3.cell? ⟨gv, 1, none⟩ = some (.int .i64 x1) := (HO3.out.blk 4 rfl).cell 1
          have lv3 : gv < w3.heap.size := (HO3.out.blk 4 rfl).lt
          have lgp3 : gp < w3.heap.size := (HO3.out.blk 3 rfl).lt
          have HMV := Lib.hid (Mv.move P n As ta HLN.out.1 HTD.out x1)
          obtain ⟨L, hL⟩ : ∃ L, liveOf N G = L := ⟨_, rfl⟩
          rw [hL] at hl3 HMV ⊢
          have hsmall : L.length ≤ 100 := by
            rw [← hL]
            have := liveOf_le HLN.out.1 N.length
            rw [List.take_length, ← HLN.out.1, List.take_length] at this
            have := HLN.out
            omega
          clear hS1 hb3 hk3 c0 c1 lv HO hL h11' h12' h13' h14' h15' h0'
          obtain ⟨A4, cap4, hve, _, _, hA⟩ := hl3.shape
          rw [List.length_map] at hve
          simp only [Value.slice.injEq] at hve
          obtain ⟨rfl, _, rfl⟩ := hve
          obtain ⟨l, hl⟩ : ∃ l, L.length = l := ⟨_, rfl⟩
          have HLl := Lib.hid hl
          rw [hl] at hl3 hsmall ⊢
          clear hl
          have hlen0 : l ≤ 9223372036854775807 := by omega
          repeat ((fail_if_success (with_reducible refine stop_at 27 ?_)); first | fail | go_values | go_skip | go_guarded | go_step | go_upon | go_back | go_simp)
          refine wp_cut (MB n (some ⟨b, off, none⟩) Z.length cap g gm gq gp k ta tb gv (.slice A3 l cap3) (wasR L tb) (pathB x1) w3) ?_ ?_
          rotate_left
          next =>
            as_aux_lemma =>
              intro _ _ _ _
              clear HMV
              by_cases h0 : tb < 0
              · cases L with
                | nil =>
                  obtain rfl : 0 = l := HLl.out
                  have HW : Hid (wasR [] tb = tb) := Lib.hid (by unfold wasR; rw [if_pos h0]; rfl)
                  have hz : decide (((0 : Int)) < 0) = false := by decide
                  go_wp2_with fail
                  refine Met.intro ?_
                  go_step
                  unfold MB
                  rw [HW.out]
                  exact ⟨rfl, _, _, _, _, _, _, _, _, _, _, _, _, _, _, _, _, _, _, _, _, _, _, _, _, _, (by kernel_rfl), rfl⟩
                | cons d r =>
                  have HW : Hid (wasR (d :: r) tb = d.s) := Lib.hid (by unfold wasR; rw [if_pos h0]; rfl)
                  rcases hA with ⟨_, hx, _⟩ | ⟨qa, rfl⟩
                  · simp at hx
                  have q0 : w3.cell? ⟨qa, 0, none⟩ = some (.int .i64 d.s) := hl3.cell rfl (i := 0) (e := idRow d) (by simp) (j := 0) rfl
                  have hl1 : 0 < l := by rw [← HLl.out]; simp
                  have hl2 : (0 : Int) < (l : Int) := by omega
                  clear hl3
                  generalize d.s = ds at *
                  go_wp2_with fail
                  refine Met.intro ?_
                  go_step
                  unfold MB
                  rw [HW.out]
                  exact ⟨rfl, _, _, _, _, _, _, _, _, _, _, _, _, _, _, _, _, _, _, _, _, _, _, _, _, _, (by kernel_rfl), rfl⟩
              · have HW : Hid (wasR L tb = tb) := Lib.hid (by unfold wasR; rw [if_neg h0])
                have h0' : decide (tb < 0) = false := by simpa using h0
                clear h0 hA
                go_wp2_with fail
                refine Met.intro ?_
                go_step
                unfold MB
                rw [HW.out]
                exact ⟨rfl, _, _, _, _, _, _, _, _, _, _, _, _, _, _, _, _, _, _, _, _, _, _, _, _, _, (by kernel_rfl), rfl⟩
          intro a' w3' hinv
          obtain ⟨rfl, t2, t3, t4, t7, t8, t16, t18, t19, t20, t21, t22, t23, t24, t25, t28, t29, t30, t31, t32, t33, t34, t35, t36, t37, U, hU, rfl⟩ := hinv
          obtain ⟨u, rfl⟩ := growTail hU; clear hU
          generalize wasR L tb = was at *
          have HA := Lib.hid hA
          clear hA
          go_wp2_with fail
          refine wp_loop (ML n (some ⟨b, off, none⟩) Z.length cap g gm gq gp k ta tb gv (.slice A3 l cap3) was (pathB x1) L w3) MM ?_ ?_
          next =>
            unfold ML
            refine ⟨(l : Int) - 1, ⟨rfl, by omega, by rw [HLl.out]; omega⟩, ?_⟩
            rw [show ((l : Int) - 1 + 1).toNat = L.length from by rw [HLl.out]; omega, List.drop_length]
            exact ⟨_, _, _, _, _, _, _, _, _, _, _, _, _, _, _, _, _, _, _, _, _, _, _, (by kernel_rfl), rfl⟩
          next =>
            intro a' wr hinv
            obtain ⟨t, ⟨rfl, ht1, ht2⟩, t2, t3, t4, t7, t8, t16, t18, t19, t20, t21, t22, t23, t24, t25, t30, t31, t32, t33, t34, t35, t36, t37, U, hU, rfl⟩ := hinv
            obtain ⟨u, rfl⟩ := growTail hU; clear hU
            by_cases ht : 0 ≤ t
            case pos =>
              as_aux_lemma =>
                obtain ⟨m, rfl⟩ : ∃ m : Nat, t = m := ⟨t.toNat, by omega⟩
                have hm : m < L.length := by omega
                have hml : m < l := by rw [← HLl.out]; exact hm
                have hm' : (m : Int) < (l : Int) := by omega
                have HST := Lib.hid (nxtS_step (was := was) hm)
                rw [show ((m : Int) + 1).toNat = m + 1 from by omega]
                rcases HA.out with ⟨_, hx, _⟩ | ⟨qa, rfl⟩
                · have : L = [] := by simpa using hx
                  rw [this] at hm
                  simp at hm
                have q0 : w3.cell? ⟨qa, m * 2, none⟩ = some (.int .i64 L[m].s) := hl3.cell rfl (elem_of_row hm) (j := 0) rfl
                have HL3 := Lib.hid hl3
                clear hl3 HMV
                by_cases hs : L[m].s = was
                · rw [hs] at q0
                  have HS2 := Lib.hid (HST.out.trans (if_pos hs))
                  clear hs HST
                  generalize nxtS was (L.drop (m + 1)) = nx at *
                  go_wp2_with fail
                  refine ⟨⟨(m : Int) - 1, ⟨rfl, by omega, by omega⟩, ?_⟩, ?_⟩
                  · rw [show ((m : Int) - 1 + 1).toNat = m from by omega, HS2.out]
                    exact ⟨_, _, _, _, _, _, _, _, _, _, _, _, _, _, _, _, _, _, _, _, _, _, _, (by kernel_rfl), rfl⟩
                  · simp [MM, intOf] <;> omega
                · have HS2 := Lib.hid (HST.out.trans (if_neg hs))
                  obtain ⟨ds, hds⟩ : ∃ ds, L[m].s = ds := ⟨_, rfl⟩
                  rw [hds] at q0 HS2 hs
                  have hs' : (ds == was) = false := by simpa using hs
                  have hs2 : (ds != was) = true := by simpa using hs
                  clear hs HST hds
                  generalize nxtS was (L.drop (m + 1)) = nx at *
                  go_wp2_with fail
                  refine ⟨⟨(m : Int) - 1, ⟨rfl, by omega, by omega⟩, ?_⟩, ?_⟩
                  · rw [show ((m : Int) - 1 + 1).toNat = m from by omega, HS2.out]
                    exact ⟨_, _, _, _, _, _, _, _, _, _, _, _, _, _, _, _, _, _, _, _, _, _, _, (by kernel_rfl), rfl⟩
                  · simp [MM, intOf] <;> omega
            have ht' : decide (0 ≤ t) = false := by simpa using ht
            rw [show (t + 1).toNat = 0 from by omega, List.drop_zero]
            generalize nxtS was L = nx at *
            clear hl3 HA ht ht1 ht2
            obtain ⟨E, hE⟩ : ∃ E, mMovE (Mv P n N G As ta tb) x1 = E := ⟨_, rfl⟩
            have hM := HMV.out
            rw [hE] at hM
            obtain ⟨hM1, hM2⟩ := hM
            obtain ⟨G2, ta2, tb2, hr1, hr2, hr3, hr4, hr5⟩ : ∃ (G2 : List Bool) (ta2 tb2 : Int), mMov (Mv P n N G As ta tb) x1 = Mv P n N G2 As ta2 tb2 ∧ Tied N G2 tb2 ∧ -9223372036854775808 ≤ ta2 ∧ ta2 ≤ 9223372036854775807 ∧
                ((E = 0 ∧ G2 = rretG G was ∧ ta2 = x1 ∧ tb2 = nx ∧ rretE G was = 0) ∨ (E ≠ 0 ∧ G2 = G ∧ ta2 = ta ∧ tb2 = tb)) := by
              by_cases h0 : E = 0
              · obtain ⟨m1, m2, m3⟩ := hM2 h0
                exact ⟨_, _, _, m1, m3, bx1, bx2, Or.inl ⟨h0, rfl, rfl, rfl, m2⟩⟩
              · exact ⟨G, ta, tb, mMov_bad (by rw [hE]; exact h0), HTD.out, ta1, tb0, Or.inr ⟨h0, rfl, rfl, rfl⟩⟩
            have HEE := Lib.hid hE
            have HM1 := Lib.hid hM1
            have HR1 := Lib.hid hr1
            have HR2 := Lib.hid hr2
            have HR5 := Lib.hid hr5
            clear hE hM1 hM2 HMV hr1 hr2 hr5
            repeat ((fail_if_success (with_reducible refine stop_at 35 ?_)); first | fail | go_values | go_skip | go_guarded | go_step | go_upon | go_back | go_simp)
            refine wp_cut (ME w n (some ⟨b, off, none⟩) Z.length cap g gm gq gp k gv x1 [moverT g (Mv P n N G As ta tb), idsT gm n N G2, prfT gq As, Thing.block gp 48 (pthsCells P), Thing.block gv 49 #[.int .i64 x0, .int .i64 x1, .int .i64 x2, .int .i64 x3, .int .i64 x4]] E ta2 tb2) ?_ ?_
            rotate_left
            next =>
              as_aux_lemma =>
                intro _ _ _ _
                cases hb : pathB x1 with
                | false =>
                  have hM := HM1.out
                  rw [hb, if_neg (by decide)] at hM
                  rcases HR5.out with ⟨h0, _⟩ | ⟨_, rfl, rfl, rfl⟩
                  · omega
                  subst hM
                  clear HR5 HM1 hb
                  go_wp2_with fail
                  refine Met.intro ?_
                  go_step
                  exact ⟨HO3.out, _, _, _, _, _, _, _, _, _, _, _, _, _, _, _, _, _, _, _, _, _, _, _, _, _, _, _, _, (by kernel_rfl), rfl⟩
                | true =>
                  have hM := HM1.out
                  rw [hb, if_pos rfl] at hM
                  have hx03 := pathB_iff.1 hb
                  obtain ⟨q, rfl⟩ : ∃ q : Nat, x1 = q := ⟨x1.toNat, by omega⟩
                  have hq : q < 4 := by omega
                  have hq' : (q : Int) < 4 := by omega
                  rw [Int.toNat_natCast] at hM
                  obtain ⟨p0, p1, p2⟩ := pths_cells P hq
                  have hgp := HO3.out.blk 3 rfl
                  obtain ⟨K0, hK0⟩ : ∃ x, (P.at q).k = x := ⟨_, rfl⟩
                  rw [hK0] at hM p2
                  have k2 : w3.cell? ⟨gp, q * 3 + 2, none⟩ = some (.bool K0) := (hgp.cell _).trans p2
                  clear p0 p1 p2 hgp hK0 HM1 hb
                  cases K0 with
                  | false =>
                    rw [if_pos rfl] at hM
                    rcases HR5.out with ⟨h0, _⟩ | ⟨_, rfl, rfl, rfl⟩
                    · omega
                    subst hM
                    clear HR5
                    go_wp2_with fail
                    refine Met.intro ?_
                    go_step
                    exact ⟨HO3.out, _, _, _, _, _, _, _, _, _, _, _, _, _, _, _, _, _, _, _, _, _, _, _, _, _, _, _, _, (by kernel_rfl), rfl⟩
                  | true =>
                    rw [if_neg (by decide)] at hM
                    by_cases hat : (q : Int) = ta
                    · rw [if_pos hat] at hM
                      have hat' : ((q : Int) == ta) = true := by simpa using hat
                      rcases HR5.out with ⟨h0, _⟩ | ⟨_, rfl, rfl, rfl⟩
                      · omega
                      subst hM
                      clear HR5 hat
                      go_wp2_with fail
                      refine Met.intro ?_
                      go_step
                      exact ⟨HO3.out, _, _, _, _, _, _, _, _, _, _, _, _, _, _, _, _, _, _, _, _, _, _, _, _, _, _, _, _, (by kernel_rfl), rfl⟩
                    rw [if_neg hat] at hM
                    have hat' : ((q : Int) == ta) = false := by simpa using hat
                    clear hat
                    by_cases hnx : 0 ≤ nx
                    · rw [if_pos hnx] at hM
                      have hnx' : decide (nx < 0) = false := by simpa using hnx
                      rcases HR5.out with ⟨_, rfl, rfl, rfl, hre⟩ | ⟨h0, _⟩
                      case inr => exact absurd hM h0
                      subst hM
                      obtain ⟨S1, hS1, up1⟩ := HO3.out.at_ 1 rfl
                      have HC1 := Lib.hid (tretireR was hS1)
                      rw [hre] at HC1
                      clear HR5 hre hS1 hnx
                      go_wp2_with fail
                      refine HC1.out.mono ?_
                      rintro e w4 ⟨rfl, hl4⟩
                      have HO4 := Lib.hid (up1 _ _ hl4)
                      have e1 : w4.cell? ⟨gv, 1, none⟩ = some (.int .i64 q) := (HO4.out.blk 4 rfl).cell 1
                      have lv4 : gv < w4.heap.size := (HO4.out.blk 4 rfl).lt
                      clear up1 hl4 HC1
                      go_wp2_with fail
                      refine Met.intro ?_
                      go_step
                      exact ⟨HO4.out, _, _, _, _, _, _, _, _, _, _, _, _, _, _, _, _, _, _, _, _, _, _, _, _, _, _, _, _, (by kernel_rfl), rfl⟩
                    · rw [if_neg hnx] at hM
                      rcases HR5.out with ⟨h0, _⟩ | ⟨_, rfl, rfl, rfl⟩
                      · omega
                      subst hM
                      have hnx' : nx < 0 := by omega
                      clear HR5 hnx
                      go_wp2_with fail
                      refine Met.intro ?_
                      go_step
                      exact ⟨HO3.out, _, _, _, _, _, _, _, _, _, _, _, _, _, _, _, _, _, _, _, _, _, _, _, _, _, _, _, _, (by kernel_rfl), rfl⟩
            intro a' w5 hinv
            obtain ⟨ho5, t2, t3, t4, t7, t8, t16, t17, t18, t19, t20, t21, t22, t23, t24, t25, t26, t27, t28, t29, t30, t31, t32, t33, t34, t35, t36, t37, U, hU, rfl⟩ := hinv
            obtain ⟨u, rfl⟩ := growTail hU; clear hU
            have HO5 := Lib.hid ho5
            clear ho5 HO3 HR5 HM1 d1 lv3 lgp3
            have d1 : w5.cell? ⟨gv, 1, none⟩ = some (.int .i64 x1) := (HO5.out.blk 4 rfl).cell 1
            have lv5 : gv < w5.heap.size := (HO5.out.blk 4 rfl).lt
            obtain ⟨S0, hS0, up0⟩ := HO5.out.at_ 0 rfl
            go_wp2_with fail
            refine (tmove x1 hS0).mono ?_
            rintro e w6 ⟨rfl, hl6⟩
            rw [HR1.out] at hl6
            rw [HEE.out]
            have HO6 : Hid (Own w [] w6 [moverT g (Mv P n N G2 As ta2 tb2), idsT gm n N G2, prfT gq As, Thing.block gp 48 (pthsCells P), Thing.block gv 49 #[.int .i64 x0, .int .i64 x1, .int .i64 x2, .int .i64 x3, .int .i64 x4]]) := Lib.hid (up0 _ _ hl6)
            clear hS0 up0 hl6 HO5 HR1 d1 lv5
            go_wp2_with fail
            refine (same_yes _ _ (HE.out.later HO6.out.since)).mono ?_
            rintro e w7 ⟨rfl, hb7⟩
            go_wp2_with fail
            refine Met.intro ?_
            go_step
            exact ⟨ta2, tb2, ⟨hr3, hr4, _, _, _, _, (HO6.out.later hb7).take 4, HR2.out⟩, _, _, _, _, _, _, _, _, _, _, _, _, _, _, _, _, _, _, _, _, _, _, _, _, _, _, _, _, _, (by kernel_rfl), rfl⟩
    intro a' wz hinv
    obtain ⟨ta', tb', ⟨ta1', ta2', hT⟩, t2, t3, t4, t5, t7, t15, t16, t17, t18, t19, t20, t21, t22, t23, t24, t25, t26, t27, t28, t29, t30, t31, t32, t33, t34, t35, t36, t37, U, hU, rfl⟩ := hinv
    obtain ⟨u, rfl⟩ := growTail hU; clear hU
    clear HO HTD c0 c1 lv bx1 bx2
    obtain ⟨N, G, P, As, hO, hTied⟩ := hT
    have HO := Lib.hid hO
    have HTD := Lib.hid hTied
    clear hO hTied tb0 ta1
    obtain ⟨S1, hS1, _⟩ := HO.out.at_ 1 rfl
    have HLN := Lib.hid (idsT.len hS1)
    go_wp2_with fail
    refine (tliveR hS1).mono ?_
    rintro e w3 ⟨A3, cap3, rfl, hl3, hb3, hk3⟩
    have HO3 := Lib.hid (HO.out.later hb3)
    have hsmall : (liveOf N G).length ≤ 100 := by
      have := liveOf_le HLN.out.1 N.length
      rw [List.take_length, ← HLN.out.1, List.take_length] at this
      have := HLN.out
      omega
    obtain ⟨A4, cap4, hve, _, _, hA⟩ := hl3.shape
    rw [List.length_map] at hve
    simp only [Value.slice.injEq] at hve
    obtain ⟨rfl, _, rfl⟩ := hve
    obtain ⟨L, hL⟩ : ∃ L, liveOf N G = L := ⟨_, rfl⟩
    have HMSB : Hid (mSb L tb' = true → wasR L tb' = mSq L tb') := Lib.hid (fun h => by
      by_cases h0 : tb' < 0
      · refine wasR_sq (fun hn => ?_)
        rw [hn] at h
        unfold mSb at h
        rw [if_neg (by omega)] at h
        simp at h
      · unfold wasR mSq
        rw [if_neg h0, if_pos (by omega)])
    have HLL := Lib.hid hL
    rw [hL] at hl3 hsmall hA ⊢
    obtain ⟨l, hl⟩ : ∃ l, L.length = l := ⟨_, rfl⟩
    have HLl := Lib.hid hl
    rw [hl] at hl3 hsmall ⊢
    clear hS1 hb3 hk3 HO hL hl
    have hlen0 : l ≤ 9223372036854775807 := by omega
    repeat ((fail_if_success (with_reducible refine stop_at 81 ?_)); first | fail | go_values | go_skip | go_guarded | go_step | go_upon | go_back | go_simp)
    refine wp_cut (WB n (some ⟨b, off, none⟩) Z.length cap g gm gq gp k ta' tb' (.slice A3 l cap3) (if mSb L tb' = true then 0 else 5) (wasR L tb') w3) ?_ ?_
    rotate_left
    next =>
      as_aux_lemma =>
        intro _ _ _ _
        by_cases h0 : tb' < 0
        · cases L with
          | nil =>
            obtain rfl : 0 = l := HLl.out
            have HW : Hid (wasR [] tb' = tb' ∧ mSb [] tb' = false) := Lib.hid ⟨by unfold wasR; rw [if_pos h0]; rfl, by unfold mSb; rw [if_neg (by omega)]; rfl⟩
            have hz : decide (((0 : Int)) < 0) = false := by decide
            go_wp2_with fail
            refine Met.intro ?_
            go_step
            unfold WB
            rw [HW.out.1, HW.out.2]
            exact ⟨rfl, _, _, _, _, _, _, _, _, _, _, _, _, _, _, _, _, _, _, _, _, _, _, _, _, _, _, (by kernel_rfl), rfl⟩
          | cons d r =>
            have HW : Hid (wasR (d :: r) tb' = d.s ∧ mSb (d :: r) tb' = true) := Lib.hid ⟨by unfold wasR; rw [if_pos h0]; rfl, by unfold mSb; rw [if_neg (by omega)]; rfl⟩
            rcases hA with ⟨_, hx, _⟩ | ⟨qa, rfl⟩
            · simp at hx
            have q0 : w3.cell? ⟨qa, 0, none⟩ = some (.int .i64 d.s) := hl3.cell rfl (i := 0) (e := idRow d) (by simp) (j := 0) rfl
            have hl1 : 0 < l := by rw [← HLl.out]; simp
            have hl2 : (0 : Int) < (l : Int) := by omega
            clear hl3
            obtain ⟨ds, hds⟩ : ∃ ds, d.s = ds := ⟨_, rfl⟩
            rw [hds] at q0 HW
            clear hds
            go_wp2_with fail
            refine Met.intro ?_
            go_step
            unfold WB
            rw [HW.out.1, HW.out.2]
            exact ⟨rfl, _, _, _, _, _, _, _, _, _, _, _, _, _, _, _, _, _, _, _, _, _, _, _, _, _, _, (by kernel_rfl), rfl⟩
        · have HW : Hid (wasR L tb' = tb' ∧ mSb L tb' = true) := Lib.hid ⟨by unfold wasR; rw [if_neg h0], by unfold mSb; rw [if_pos (by omega)]⟩
          have h0' : decide (tb' < 0) = false := by simpa using h0
          clear h0 hA
          go_wp2_with fail
          refine Met.intro ?_
          go_step
          unfold WB
          rw [HW.out.1, HW.out.2]
          exact ⟨rfl, _, _, _, _, _, _, _, _, _, _, _, _, _, _, _, _, _, _, _, _, _, _, _, _, _, _, (by kernel_rfl), rfl⟩
    intro a' w3' hinv
    obtain ⟨rfl, t2, t3, t4, t7, t15, t16, t17, t18, t19, t20, t21, t22, t23, t24, t25, t26, t27, t28, t29, t32, t33, t34, t35, t36, t37, U, hU, rfl⟩ := hinv
    obtain ⟨u, rfl⟩ := growTail hU; clear hU
    clear hl3 hA hsmall hlen0 HLN HLl
    obtain ⟨S0, hS0, _⟩ := HO3.out.at_ 0 rfl
    have HWH : Hid (∀ W S, (moverT g (Mv P n N G As ta' tb')).is W S → Calls Tryd.prog 15 #[.pointer (some ⟨g, 0, none⟩)] W fun e w' => e = .returned (.tuple #[.int .i64 (if mSb L tb' = true then ta' else 0), .int .i64 (if mSb L tb' = true then mSq L tb' else 0), errV (if mSb L tb' = true then 0 else 5)]) ∧ Below W.heap.size W w') := Lib.hid (fun W S h => by
      have := twhere h
      unfold whE whA whS at this
      simp only [HLL.out] at this
      exact this)
    obtain ⟨E0, hE0⟩ : ∃ E0, (if mSb L tb' = true then (0 : Int) else 5) = E0 := ⟨_, rfl⟩
    obtain ⟨X0, hX0⟩ : ∃ X0, (if mSb L tb' = true then ta' else 0) = X0 := ⟨_, rfl⟩
    obtain ⟨Y0, hY0⟩ : ∃ Y0, (if mSb L tb' = true then mSq L tb' else 0) = Y0 := ⟨_, rfl⟩
    obtain ⟨was, hwas⟩ : ∃ was, wasR L tb' = was := ⟨_, rfl⟩
    have HEXY : Hid ((E0 = 0 ∧ X0 = ta' ∧ Y0 = was) ∨ (E0 = 5 ∧ X0 = 0 ∧ Y0 = 0)) := Lib.hid (by
      cases hmb : mSb L tb' with
      | true =>
        rw [hmb] at hE0 hX0 hY0
        exact Or.inl ⟨hE0.symm, hX0.symm, by rw [← hwas, HMSB.out hmb]; exact hY0.symm⟩
      | false =>
        rw [hmb] at hE0 hX0 hY0
        exact Or.inr ⟨hE0.symm, hX0.symm, hY0.symm⟩)
    rw [hE0, hX0, hY0] at HWH
    rw [hE0, hwas]
    clear hE0 hX0 hY0 hwas HMSB
    have done4 : Hid (∀ wx, Own w [] wx [moverT g (Mv P n N G As ta' tb'), idsT gm n N G, prfT gq As, Thing.block gp 48 (pthsCells P)] → Play w wx g gm gq gp n ta' tb') := Lib.hid (fun wx h => ⟨N, G, P, As, h, HTD.out⟩)
    have HPT := Lib.hid (fun (W : World) (S : List Nat) (i : Int) (h : (moverT g (Mv P n N G As ta' tb')).is W S) => tpath i h)
    obtain ⟨M4, hM4⟩ : ∃ M, moverT g (Mv P n N G As ta' tb') = M := ⟨_, rfl⟩
    rw [hM4] at HO3 hS0 HWH done4 HPT
    clear HTD HLL hM4
    go_wp2_with fail
    refine (HWH.out _ S0 hS0).mono ?_
    rintro e w4 ⟨rfl, hb4⟩
    have HO4 := Lib.hid (HO3.out.later hb4)
    clear hb4 hS0 HWH HO3
    go_upto_region 86 with (fail)
    refine wp_cut (WC w n (some ⟨b, off, none⟩) Z.length cap g gm gq gp k ta' tb' [M4, idsT gm n N G, prfT gq As, Thing.block gp 48 (pthsCells P)]) ?_ ?_
    rotate_left
    next =>
      as_aux_lemma =>
        intro _ _ _ _
        rcases HEXY.out with ⟨rfl, rfl, rfl⟩ | ⟨rfl, rfl, rfl⟩
        · clear HEXY
          go_wp2_with fail
          refine (same_yes 0 _ (HE.out.later HO4.out.since)).mono ?_
          rintro e w5 ⟨rfl, hb5⟩
          go_wp2_with fail
          refine Met.intro ?_
          go_step
          exact ⟨HO4.out.later hb5, _, _, _, _, _, _, _, _, _, _, _, _, _, _, _, _, _, _, _, _, _, _, _, _, _, _, _, _, _, (by kernel_rfl), rfl⟩
        · clear HEXY
          go_wp2_with fail
          refine (same_yes 5 _ (HE.out.later HO4.out.since)).mono ?_
          rintro e w5 ⟨rfl, hb5⟩
          go_wp2_with fail
          refine Met.intro ?_
          go_step
          exact ⟨HO4.out.later hb5, _, _, _, _, _, _, _, _, _, _, _, _, _, _, _, _, _, _, _, _, _, _, _, _, _, _, _, _, _, (by kernel_rfl), rfl⟩
    intro a' w5 hinv
    obtain ⟨ho5, t2, t3, t4, t5, t7, t15, t16, t17, t18, t19, t20, t21, t22, t23, t24, t25, t26, t27, t28, t29, t30, t31, t32, t33, t34, t35, t36, t37, U, hU, rfl⟩ := hinv
    obtain ⟨u, rfl⟩ := growTail hU; clear hU
    have HO5 := Lib.hid ho5
    clear ho5 HO4 HEXY
    go_wp2_with fail
    refine wp_loop (KL w n (some ⟨b, off, none⟩) Z.length cap g gm gq gp k ta' tb' [M4, idsT gm n N G, prfT gq As, Thing.block gp 48 (pthsCells P)]) KM ?_ ?_
    next => exact ⟨-1, ⟨by omega, by omega, HO5.out⟩, _, _, _, _, _, _, _, _, _, _, _, _, _, _, _, _, _, _, _, _, _, _, _, _, _, _, _, _, _, (by kernel_rfl), rfl⟩
    next =>
      intro a' wr hinv
      obtain ⟨t, ⟨ht1, ht2, ho⟩, t2, t3, t4, t5, t7, t8, t15, t16, t17, t18, t19, t20, t21, t22, t23, t24, t25, t26, t27, t28, t29, t30, t31, t32, t33, t34, t36, t37, U, hU, rfl⟩ := hinv
      obtain ⟨u, rfl⟩ := growTail hU; clear hU
      have HO6 := Lib.hid ho
      clear ho HO5
      by_cases ht : t ≤ 4
      case neg =>
        as_aux_lemma =>
          have ht' : decide (t ≤ 4) = false := by simpa using ht
          go_wp2_with fail
          refine ⟨⟨k + 1, ta', tb', ⟨by omega, ta1', ta2', done4.out _ HO6.out⟩, _, _, _, _, _, _, _, _, _, _, _, _, _, _, _, _, _, _, _, _, _, _, _, _, _, _, _, _, _, _, (by kernel_rfl), rfl⟩, ?_⟩
          simp [LM, intOf] <;> omega
      case pos =>
        as_aux_lemma =>
          obtain ⟨S6, hS6, _⟩ := HO6.out.at_ 0 rfl
          have HP6 := Lib.hid (HPT.out _ S6 t hS6)
          clear HPT hS6 done4
          by_cases hb : 0 ≤ t ∧ t ≤ 3
          case neg =>
            have hpb : pathB t = false := pathB_no (by omega)
            have HQ : Hid (mPaE t = 1 ∧ mPa P t = ⟨0, 0, false⟩) := Lib.hid ⟨by unfold mPaE; rw [hpb]; rfl, by unfold mPa; rw [hpb]; rfl⟩
            simp only [HQ.out.1, HQ.out.2] at HP6
            clear hpb HQ
            by_cases h0 : t < 0
            · clear hb
              go_wp2_with fail
              refine HP6.out.mono ?_
              rintro e w6 ⟨rfl, hb6⟩
              have HO7 := Lib.hid (HO6.out.later hb6)
              clear hb6 HO6 HP6
              go_wp2_with fail
              refine (same_yes 1 _ (HE.out.later (HO7.out.since.alloc _))).mono ?_
              rintro e w7 ⟨rfl, hb7⟩
              go_wp2_with fail
              refine ⟨⟨t + 1, ⟨by omega, by omega, HO7.out.later ?_⟩, _, _, _, _, _, _, _, _, _, _, _, _, _, _, _, _, _, _, _, _, _, _, _, _, _, _, _, _, _, (by kernel_rfl), rfl⟩, ?_⟩
              · exact (by refine Since.out ?_; repeat (first | with_reducible assumption | with_reducible exact Since.refl _ | with_reducible refine Since.later ?_ (by with_reducible assumption) | with_reducible refine Since.only ?_ (by with_reducible assumption) (by first | assumption | omega | (simp; done) | (simp; omega)) | with_reducible refine Since.alloc ?_ _ | with_reducible refine Since.drewN ?_ _ | with_reducible refine Since.drew ?_ | with_reducible refine Since.set ?_ (by first | assumption | omega | (simp; done) | (simp; omega)) _))
              · simp [KM, intOf]
                omega
            · have h0' : decide (t < 0) = false := by simpa using h0
              have h3 : 3 < t := by omega
              clear hb h0
              go_wp2_with fail
              refine HP6.out.mono ?_
              rintro e w6 ⟨rfl, hb6⟩
              have HO7 := Lib.hid (HO6.out.later hb6)
              clear hb6 HO6 HP6
              go_wp2_with fail
              refine (same_yes 1 _ (HE.out.later (HO7.out.since.alloc _))).mono ?_
              rintro e w7 ⟨rfl, hb7⟩
              go_wp2_with fail
              refine ⟨⟨t + 1, ⟨by omega, by omega, HO7.out.later ?_⟩, _, _, _, _, _, _, _, _, _, _, _, _, _, _, _, _, _, _, _, _, _, _, _, _, _, _, _, _, _, (by kernel_rfl), rfl⟩, ?_⟩
              · exact (by refine Since.out ?_; repeat (first | with_reducible assumption | with_reducible exact Since.refl _ | with_reducible refine Since.later ?_ (by with_reducible assumption) | with_reducible refine Since.only ?_ (by with_reducible assumption) (by first | assumption | omega | (simp; done) | (simp; omega)) | with_reducible refine Since.alloc ?_ _ | with_reducible refine Since.drewN ?_ _ | with_reducible refine Since.drew ?_ | with_reducible refine Since.set ?_ (by first | assumption | omega | (simp; done) | (simp; omega)) _))
              · simp [KM, intOf]
                omega
          obtain ⟨q, rfl⟩ : ∃ q : Nat, t = q := ⟨t.toNat, by omega⟩
          have hq : q < 4 := by omega
          have hq' : (q : Int) < 4 := by omega
          have hpb : pathB (q : Int) = true := pathB_iff.2 (by omega)
          have HQ : Hid (mPaE (q : Int) = 0 ∧ mPa P (q : Int) = P.at q) := Lib.hid ⟨by unfold mPaE; rw [hpb]; rfl, by unfold mPa; rw [hpb]; rfl⟩
          simp only [HQ.out.1, HQ.out.2] at HP6
          rw [errV_zero] at HP6
          have hd0 : decide ((q : Int) < 0) = false := by simp
          have hd3 : decide (3 < (q : Int)) = false := by simp; omega
          obtain ⟨I0, hI0⟩ : ∃ x, (P.at q).i = x := ⟨_, rfl⟩
          obtain ⟨O0, hO0⟩ : ∃ x, (P.at q).o = x := ⟨_, rfl⟩
          obtain ⟨K0, hK0⟩ : ∃ x, (P.at q).k = x := ⟨_, rfl⟩
          have HIOK := Lib.hid (And.intro hI0 (And.intro hO0 hK0))
          rw [hI0, hO0, hK0] at HP6
          clear hb hpb HQ hI0 hO0 hK0
          go_wp2_with fail
          refine HP6.out.mono ?_
          rintro e w6 ⟨rfl, hb6⟩
          have HO7 := Lib.hid (HO6.out.later hb6)
          clear hb6 HO6 HP6
          obtain ⟨p0, p1, p2⟩ := pths_cells P hq
          have hgp := HO7.out.blk 3 rfl
          rw [HIOK.out.1] at p0
          rw [HIOK.out.2.1] at p1
          rw [HIOK.out.2.2] at p2
          have lgp := hgp.lt
          have k0 : w6.cell? ⟨gp, q * 3, none⟩ = some (.int .i64 I0) := (hgp.cell _).trans p0
          have k1 : w6.cell? ⟨gp, q * 3 + 1, none⟩ = some (.int .i64 O0) := (hgp.cell _).trans p1
          have k2 : w6.cell? ⟨gp, q * 3 + 2, none⟩ = some (.bool K0) := (hgp.cell _).trans p2
          clear p0 p1 p2 hgp HIOK
          go_wp2_with fail
          go_quiet (fail)
          go_wp2_with fail
          refine ⟨⟨(q : Int) + 1, ⟨by omega, by omega, HO7.out.later ?_⟩, _, _, _, _, _, _, _, _, _, _, _, _, _, _, _, _, _, _, _, _, _, _, _, _, _, _, _, _, _, (by kernel_rfl), rfl⟩, ?_⟩
          · exact (by refine Since.out ?_; repeat (first | with_reducible assumption | with_reducible exact Since.refl _ | with_reducible refine Since.later ?_ (by with_reducible assumption) | with_reducible refine Since.only ?_ (by with_reducible assumption) (by first | assumption | omega | (simp; done) | (simp; omega)) | with_reducible refine Since.alloc ?_ _ | with_reducible refine Since.drewN ?_ _ | with_reducible refine Since.drew ?_ | with_reducible refine Since.set ?_ (by first | assumption | omega | (simp; done) | (simp; omega)) _))
          · simp [KM, intOf]
            omega

/-! the row -/
theorem own : ownKnob Tryd.prog.godebug = none := by kernel_rfl
theorem laidOut : laidOutB Tryd.prog = true := by kernel_rfl
set_option maxRecDepth 100000 in
theorem contract (H : Type) (enc : TypeId × Value → H) (W : World) (base : Nat) (args : Array Value) (ds gs : List (DataW H)) (before : List MemPlace)
    (hval : ∀ (j : Nat) t v, Tryd.f4.params[j]? = some t → args[j]? = some v → Value.okWide Tryd.prog W .any base t v)
    (hW : DataW.Whole enc Tryd.prog Tryd.f4.params.toList Rows.movePlaysSpec.vars false W args.toList ds gs before) (hL : laidMetH Tryd.prog Rows.movePlaysRow.laid W) :
    Calls Tryd.prog 4 args W fun e W' => ∃ v, e = .returned v ∧ Rows.movePlaysSpec.post enc Tryd.prog Tryd.f4 false true false false W args v W' := by
  have hW' := hW
  obtain ⟨p, q, hA0, hV, rfl, hfz, hnd⟩ := hW
  have hA : DataW.TrodAll enc Tryd.prog W 0 (fun _ => true) true Tryd.f4.params.toList args.toList ds p := hA0
  rw [Tryd.params4] at hA hval
  obtain ⟨v0, vs0, d0, ds0, p0, q0, hargs, rfl, rfl, h0, r0⟩ := trodAll_cons hA
  obtain ⟨v1, vs1, d1, ds1, p1, q1, rfl, rfl, rfl, h1, r1⟩ := trodAll_cons r0
  obtain ⟨rfl, rfl, rfl⟩ := trodAll_nil r1
  obtain rfl : args = #[v0, v1] := by cases args; simp_all
  obtain ⟨rfl, rfl⟩ := trodVars_none hV
  obtain ⟨a0, rfl, rfl, rfl, w0⟩ := open_int Tryd.underlying3 (hval 0 3 v0 rfl rfl) h0
  obtain ⟨a1, len1, cap1, rfl⟩ := okWide_slice Tryd.underlying36 (hval 1 36 v1 rfl rfl)
  have k1 := h1
  have lt1 : ∀ x ∈ p1, x.block < W.heap.size := by obtain ⟨m, hm⟩ := k1; exact DataW.trod_lt m _ _ _ hm
  obtain ⟨z1, w1⟩ : ∃ zs, IntRowsIn W (.slice a1 len1 cap1) zs := by
    obtain ⟨fuel, hf⟩ := h1
    exact intRowsIn_open Tryd.underlying36 Tryd.underlying50 Tryd.underlying3 (by kernel_rfl) (by kernel_rfl) hf lt1
  have lw := laidWalk hL
  refine (walk a0 (.slice a1 len1 cap1) z1 W w0 w1 lw).mono fun e W' ⟨he, bel⟩ => ?_
  subst he
  exact ⟨_, rfl, _, _, _, [], _, [], hW', trodAll_mk1 (shut_bool Tryd.underlying4 _), (trodAll_cons_mk (shut_int Tryd.underlying3 w0) (trodAll_cons_mk (Below.trod laidOut (by kernel_rfl) (of_decide_eq_true (by kernel_rfl)) k1 bel lt1) trodAll_mk0)), rfl, bel.frame _, fun h => by cases h⟩

theorem reads (os : Os) {H : Type} (enc : TypeId × Value → H) : ∃ places, DataW.whole enc Tryd.prog ((laidWorld os).forCall (fun _ _ => 0) ⟨#[], #[.int .i64 0, .slice none 0 0], []⟩).memory Tryd.f4.params.toList Rows.movePlaysSpec.vars false (#[.int .i64 0, .slice none 0 0] : Array Value).toList 8 = some ([.lit (.int .i64 0), .nil], [], places) :=
  ⟨[], by kernel_rfl⟩
theorem laid_met (os : Os) : laidMetH Tryd.prog Rows.movePlaysRow.laid ((laidWorld os).forCall (fun _ _ => 0) ⟨#[], #[.int .i64 0, .slice none 0 0], []⟩).memory := laidMetW os _

set_option maxRecDepth 100000 in
theorem lifted (os : Os) (started : os.Started) (H : Type) (enc : TypeId × Value → H) (F : Stop.Interp) :
    ReturnsInHanded {} Tryd.checked os 4 .any ((OpenSpec.ofChange Rows.movePlaysSpec).preRow enc Tryd.prog Tryd.f4 Rows.movePlaysRow.domain false Rows.movePlaysRow.laid) (((OpenSpec.ofChange Rows.movePlaysSpec).at F).post enc Tryd.prog Tryd.f4 false true false false) := by
  obtain ⟨places, hx⟩ := reads os enc
  refine returnsInHanded_of_row (C := Tryd.checked) (s := OpenSpec.ofChange Rows.movePlaysSpec) own started (by kernel_rfl) Tryd.func4
    (witness_row_at (enc := enc) (C := Tryd.checked) false (laidWorld os) #[.int .i64 0, .slice none 0 0] rfl (by kernel_rfl) (by kernel_rfl) (by kernel_rfl)
      (OpenSpec.preRow_of_cond 8 hx (by kernel_rfl) (fun k hk => by cases hk) (by kernel_rfl) (laid_met os))) ?_
  intro W base args ds gs before hval hW _ _ _ hL _ _
  exact contract H enc W base args ds gs before hval hW hL

theorem said : Rows.MovePlaysSaid :=
  OpenClaim.holds_of_cond 4 Tryd.f4 rfl rfl rfl rfl rfl rfl rfl ⟨rfl, rfl, rfl, rfl, rfl⟩ rfl rfl rfl rfl rfl (by kernel_rfl) Tryd.func4 (by kernel_rfl)
    (of_decide_eq_true (by kernel_rfl)) (by unfold Func.isWrapper; first | (rw [if_pos (by decide +kernel)]; kernel_rfl) | (rw [if_neg (by decide +kernel)]; exact ⟨rfl, rfl⟩))
    (fun os started H enc _ F => by rw [OpenClaim.pre_eq_preRow]; exact lifted os started H enc F)

theorem plain (f : FuncId) (fn : Func) (hf : Tryd.pinned.checked.prog.funcNamed "wanderwire/wirelaw2.MovePlays" = some f) (hfn : Tryd.pinned.checked.prog.funcs[f]? = some fn) :
    true = Tryd.pinned.checked.prog.looks [] ∧ ∀ (j : Nat) t, fn.params[j]? = some t → Tryd.pinned.checked.prog.wantsStandIn t = false := by
  obtain rfl : f = 4 := Option.some.inj ((show Tryd.prog.funcNamed "wanderwire/wirelaw2.MovePlays" = some 4 by kernel_rfl).symm.trans hf) |>.symm
  obtain rfl : fn = Tryd.f4 := (Option.some.inj (Tryd.func4.symm.trans hfn)).symm
  refine ⟨by kernel_rfl, fun j t ht => ?_⟩
  rw [Tryd.params4] at ht
  have ht' := Array.mem_of_getElem? ht
  have hall : (([3, 36] : List Nat).all fun t => !Tryd.prog.wantsStandIn t) = true := by kernel_rfl
  have hq := List.all_eq_true.1 hall t (by simpa using ht')
  have hq2 : Tryd.prog.wantsStandIn t = false := by simpa using hq
  exact hq2

theorem card : Rows.MovePlaysCardSaid :=
  Claim7.holds_tied_plain_at .later [] _ _ _ _ said (fun _ h => by cases h) (by kernel_rfl) (fun _ h => by cases h) movePlays_row_tie rfl ⟨rfl, rfl⟩ (by kernel_rfl) rfl plain (by kernel_rfl)
#print axioms card
end Go.Proofs.YthnolkbolmbkdaaDoor.movePlays
