/- TripTells: for every numbers and trip the law returns true: the first of any times, any next one, and how long to wait, are as the reference says. Condition: errors.errorType holds its handle (the row lists it, the card ties it). -/
import Derived.Test.YtmofahmkgignaaaDoorTripRef
import Derived.Test.YtmofahmkgignaaaDoorLaid
import Derived.Test.YtmofahmkgignaaaDoorSince
import Derived.Test.YtmofahmkgignaaaDoorCards
import Derived.Test.YtmofahmkgignaaaDoorTie
import Derived.Deep.DeepHandedRow
import Derived.LaidLaws
import Derived.LaidHandle
import Derived.Deep.DeepWitnessRowRef
import Derived.Test.YtmofahmkgignaaaDoorRows
import Derived.WalkKit
import Derived.ProofKit
import Derived.OpenShut
import Derived.ShutString
import Derived.ChangeOld
import Derived.Below
import Derived.Lib.SmallJoins
import Derived.Deep.Slices
import Derived.Deep.Matrix
import Derived.Deep.Strs
namespace Go.Proofs.YtmofahmkgignaaaDoor.tripTells
open Go.ChangeShapes Go.WideShapes Go.ChangeAt Go.RowKit
open Go.ChangeMaps (open_string shut_string)
set_option linter.unusedVariables false

noncomputable abbrev laidWorld := YtmofahmkgignaaaDoor.laidWorld
theorem laidMetW (os : Os) (args : Array Value) : laidMetH Tryd.prog Rows.tripTellsRow.laid ((laidWorld os).forCall (fun _ _ => 0) ⟨#[], args, []⟩).memory := laidMet_et os args
theorem laidWalk {W : World} (h : laidMetH Tryd.prog Rows.tripTellsRow.laid W) : ETok W := laid_et h

set_option maxRecDepth 100000 in
set_option maxHeartbeats 8000000 in
theorem walk_ok_a (t s v l d : Int) (w : World) (HE : Hid (ETok w)) (t1 : 1 ≤ t) (t2 : t ≤ 100000) (hr : TRight s v l) (s1 : 8 ≤ s) (s2 : s ≤ 800000) (v1 : 0 ≤ v) (v2 : v ≤ 800000) (d1 : 0 ≤ d) (d2 : d ≤ 100000) (hv : v / 2 < 1) (HW : Hid (waitN s v = 1 + s / 8)) :
    Calls Tryd.prog 3 #[.int .i64 t, .agg #[.int .i64 s, .int .i64 v, .int .i64 l], .int .i64 d] w fun e w' => e = .returned (.bool true) ∧ Below w.heap.size w w' := by
  go_enter Tryd.func3, Tryd.ntmps3
  go_wp2_with (first | (go_at_call 12; (first | ((with_reducible refine (same_nil _ _).mono ?_); rintro e w' ⟨rfl, rfl⟩) | ((refine (same_iface_x 1 1 _ (HE.out.later (by refine Since.out ?_; repeat (first | with_reducible exact Since.refl _ | with_reducible refine Since.alloc ?_ _ | with_reducible refine Since.drewN ?_ _ | with_reducible refine Since.drew ?_ | ((with_reducible refine Since.later ?_ ?_); rotate_left; assumption) | ((with_reducible refine Since.only ?_ ?_ ?_); rotate_left; assumption; omega) | with_reducible refine Since.set ?_ (by simp; omega) _)))).mono ?_); rintro e w' ⟨rfl, rfl⟩; unfold toldW))) | (go_at_call 11; refine (first_yes t t1 t2 _).mono ?_; rintro e w' ⟨rfl, rfl⟩) | (go_at_call 13; refine (rtrip_yes s v l hr _).mono ?_; rintro e w' ⟨rfl, rfl⟩) | (go_at_call 14; refine (rnext_yes s v l t d hr t1 t2 d1 d2 _).mono ?_; rintro e w' ⟨rfl, rfl⟩) | (go_at_call 15; refine (next_yes_x s v l t d hr t1 t2 d1 d2 _).mono ?_; rintro e w' ⟨rfl, rfl⟩) | (go_at_call 16; refine (wait_yes_x s v l hr _).mono ?_; rintro e w' ⟨rfl, rfl⟩; rw [HW.out]))
  go_ret
  exact ⟨rfl, (by refine Since.out ?_; repeat (first | with_reducible exact Since.refl _ | with_reducible refine Since.alloc ?_ _ | with_reducible refine Since.drewN ?_ _ | with_reducible refine Since.drew ?_ | ((with_reducible refine Since.later ?_ ?_); rotate_left; assumption) | ((with_reducible refine Since.only ?_ ?_ ?_); rotate_left; assumption; omega) | with_reducible refine Since.set ?_ (by simp; omega) _))⟩

set_option maxRecDepth 100000 in
set_option maxHeartbeats 8000000 in
theorem walk_dlo_a (t s v l d : Int) (w : World) (HE : Hid (ETok w)) (t1 : 1 ≤ t) (t2 : t ≤ 100000) (hr : TRight s v l) (s1 : 8 ≤ s) (s2 : s ≤ 800000) (v1 : 0 ≤ v) (v2 : v ≤ 800000) (hd : d < 0) (hv : v / 2 < 1) (HW : Hid (waitN s v = 1 + s / 8)) (HN : Hid (¬ (TRight s v l ∧ (1 ≤ t ∧ t ≤ 100000) ∧ 0 ≤ d ∧ d ≤ 100000))) :
    Calls Tryd.prog 3 #[.int .i64 t, .agg #[.int .i64 s, .int .i64 v, .int .i64 l], .int .i64 d] w fun e w' => e = .returned (.bool true) ∧ Below w.heap.size w w' := by
  go_enter Tryd.func3, Tryd.ntmps3
  go_wp2_with (first | (go_at_call 12; (first | ((with_reducible refine (same_nil _ _).mono ?_); rintro e w' ⟨rfl, rfl⟩) | ((refine (same_iface_x 1 1 _ (HE.out.later (by refine Since.out ?_; repeat (first | with_reducible exact Since.refl _ | with_reducible refine Since.alloc ?_ _ | with_reducible refine Since.drewN ?_ _ | with_reducible refine Since.drew ?_ | ((with_reducible refine Since.later ?_ ?_); rotate_left; assumption) | ((with_reducible refine Since.only ?_ ?_ ?_); rotate_left; assumption; omega) | with_reducible refine Since.set ?_ (by simp; omega) _)))).mono ?_); rintro e w' ⟨rfl, rfl⟩; unfold toldW))) | (go_at_call 11; refine (first_yes t t1 t2 _).mono ?_; rintro e w' ⟨rfl, rfl⟩) | (go_at_call 13; refine (rtrip_yes s v l hr _).mono ?_; rintro e w' ⟨rfl, rfl⟩) | (go_at_call 15; refine (next_no_x s v l t d HN.out _).mono ?_; rintro e w' ⟨rfl, rfl⟩) | (go_at_call 16; refine (wait_yes_x s v l hr _).mono ?_; rintro e w' ⟨rfl, rfl⟩; rw [HW.out]))
  go_ret
  exact ⟨rfl, (by refine Since.out ?_; repeat (first | with_reducible exact Since.refl _ | with_reducible refine Since.alloc ?_ _ | with_reducible refine Since.drewN ?_ _ | with_reducible refine Since.drew ?_ | ((with_reducible refine Since.later ?_ ?_); rotate_left; assumption) | ((with_reducible refine Since.only ?_ ?_ ?_); rotate_left; assumption; omega) | with_reducible refine Since.set ?_ (by simp; omega) _))⟩

set_option maxRecDepth 100000 in
set_option maxHeartbeats 8000000 in
theorem walk_dhi_a (t s v l d : Int) (w : World) (HE : Hid (ETok w)) (t1 : 1 ≤ t) (t2 : t ≤ 100000) (hr : TRight s v l) (s1 : 8 ≤ s) (s2 : s ≤ 800000) (v1 : 0 ≤ v) (v2 : v ≤ 800000) (hd : 100000 < d) (hv : v / 2 < 1) (HW : Hid (waitN s v = 1 + s / 8)) (HN : Hid (¬ (TRight s v l ∧ (1 ≤ t ∧ t ≤ 100000) ∧ 0 ≤ d ∧ d ≤ 100000))) :
    Calls Tryd.prog 3 #[.int .i64 t, .agg #[.int .i64 s, .int .i64 v, .int .i64 l], .int .i64 d] w fun e w' => e = .returned (.bool true) ∧ Below w.heap.size w w' := by
  go_enter Tryd.func3, Tryd.ntmps3
  go_wp2_with (first | (go_at_call 12; (first | ((with_reducible refine (same_nil _ _).mono ?_); rintro e w' ⟨rfl, rfl⟩) | ((refine (same_iface_x 1 1 _ (HE.out.later (by refine Since.out ?_; repeat (first | with_reducible exact Since.refl _ | with_reducible refine Since.alloc ?_ _ | with_reducible refine Since.drewN ?_ _ | with_reducible refine Since.drew ?_ | ((with_reducible refine Since.later ?_ ?_); rotate_left; assumption) | ((with_reducible refine Since.only ?_ ?_ ?_); rotate_left; assumption; omega) | with_reducible refine Since.set ?_ (by simp; omega) _)))).mono ?_); rintro e w' ⟨rfl, rfl⟩; unfold toldW))) | (go_at_call 11; refine (first_yes t t1 t2 _).mono ?_; rintro e w' ⟨rfl, rfl⟩) | (go_at_call 13; refine (rtrip_yes s v l hr _).mono ?_; rintro e w' ⟨rfl, rfl⟩) | (go_at_call 15; refine (next_no_x s v l t d HN.out _).mono ?_; rintro e w' ⟨rfl, rfl⟩) | (go_at_call 16; refine (wait_yes_x s v l hr _).mono ?_; rintro e w' ⟨rfl, rfl⟩; rw [HW.out]))
  go_ret
  exact ⟨rfl, (by refine Since.out ?_; repeat (first | with_reducible exact Since.refl _ | with_reducible refine Since.alloc ?_ _ | with_reducible refine Since.drewN ?_ _ | with_reducible refine Since.drew ?_ | ((with_reducible refine Since.later ?_ ?_); rotate_left; assumption) | ((with_reducible refine Since.only ?_ ?_ ?_); rotate_left; assumption; omega) | with_reducible refine Since.set ?_ (by simp; omega) _))⟩

set_option maxRecDepth 100000 in
set_option maxHeartbeats 8000000 in
theorem walk_tlo_a (t s v l d : Int) (w : World) (HE : Hid (ETok w)) (ht : ¬ (1 ≤ t ∧ t ≤ 100000)) (htb : t < 1) (hr : TRight s v l) (s1 : 8 ≤ s) (s2 : s ≤ 800000) (v1 : 0 ≤ v) (v2 : v ≤ 800000) (hv : v / 2 < 1) (HW : Hid (waitN s v = 1 + s / 8)) (HN : Hid (¬ (TRight s v l ∧ (1 ≤ t ∧ t ≤ 100000) ∧ 0 ≤ d ∧ d ≤ 100000))) :
    Calls Tryd.prog 3 #[.int .i64 t, .agg #[.int .i64 s, .int .i64 v, .int .i64 l], .int .i64 d] w fun e w' => e = .returned (.bool true) ∧ Below w.heap.size w w' := by
  go_enter Tryd.func3, Tryd.ntmps3
  go_wp2_with (first | (go_at_call 12; (first | ((with_reducible refine (same_nil _ _).mono ?_); rintro e w' ⟨rfl, rfl⟩) | ((refine (same_iface_x 1 1 _ (HE.out.later (by refine Since.out ?_; repeat (first | with_reducible exact Since.refl _ | with_reducible refine Since.alloc ?_ _ | with_reducible refine Since.drewN ?_ _ | with_reducible refine Since.drew ?_ | ((with_reducible refine Since.later ?_ ?_); rotate_left; assumption) | ((with_reducible refine Since.only ?_ ?_ ?_); rotate_left; assumption; omega) | with_reducible refine Since.set ?_ (by simp; omega) _)))).mono ?_); rintro e w' ⟨rfl, rfl⟩; unfold toldW))) | (go_at_call 11; refine (first_no t ht _).mono ?_; rintro e w' ⟨rfl, rfl⟩) | (go_at_call 13; refine (rtrip_yes s v l hr _).mono ?_; rintro e w' ⟨rfl, rfl⟩) | (go_at_call 15; refine (next_no_x s v l t d HN.out _).mono ?_; rintro e w' ⟨rfl, rfl⟩) | (go_at_call 16; refine (wait_yes_x s v l hr _).mono ?_; rintro e w' ⟨rfl, rfl⟩; rw [HW.out]))
  go_ret
  exact ⟨rfl, (by refine Since.out ?_; repeat (first | with_reducible exact Since.refl _ | with_reducible refine Since.alloc ?_ _ | with_reducible refine Since.drewN ?_ _ | with_reducible refine Since.drew ?_ | ((with_reducible refine Since.later ?_ ?_); rotate_left; assumption) | ((with_reducible refine Since.only ?_ ?_ ?_); rotate_left; assumption; omega) | with_reducible refine Since.set ?_ (by simp; omega) _))⟩

set_option maxRecDepth 100000 in
set_option maxHeartbeats 8000000 in
theorem walk_thi_a (t s v l d : Int) (w : World) (HE : Hid (ETok w)) (ht : ¬ (1 ≤ t ∧ t ≤ 100000)) (htb : 1 ≤ t) (htc : decide (t ≤ 100000) = false) (hr : TRight s v l) (s1 : 8 ≤ s) (s2 : s ≤ 800000) (v1 : 0 ≤ v) (v2 : v ≤ 800000) (hv : v / 2 < 1) (HW : Hid (waitN s v = 1 + s / 8)) (HN : Hid (¬ (TRight s v l ∧ (1 ≤ t ∧ t ≤ 100000) ∧ 0 ≤ d ∧ d ≤ 100000))) :
    Calls Tryd.prog 3 #[.int .i64 t, .agg #[.int .i64 s, .int .i64 v, .int .i64 l], .int .i64 d] w fun e w' => e = .returned (.bool true) ∧ Below w.heap.size w w' := by
  go_enter Tryd.func3, Tryd.ntmps3
  go_wp2_with (first | (go_at_call 12; (first | ((with_reducible refine (same_nil _ _).mono ?_); rintro e w' ⟨rfl, rfl⟩) | ((refine (same_iface_x 1 1 _ (HE.out.later (by refine Since.out ?_; repeat (first | with_reducible exact Since.refl _ | with_reducible refine Since.alloc ?_ _ | with_reducible refine Since.drewN ?_ _ | with_reducible refine Since.drew ?_ | ((with_reducible refine Since.later ?_ ?_); rotate_left; assumption) | ((with_reducible refine Since.only ?_ ?_ ?_); rotate_left; assumption; omega) | with_reducible refine Since.set ?_ (by simp; omega) _)))).mono ?_); rintro e w' ⟨rfl, rfl⟩; unfold toldW))) | (go_at_call 11; refine (first_no t ht _).mono ?_; rintro e w' ⟨rfl, rfl⟩) | (go_at_call 13; refine (rtrip_yes s v l hr _).mono ?_; rintro e w' ⟨rfl, rfl⟩) | (go_at_call 15; refine (next_no_x s v l t d HN.out _).mono ?_; rintro e w' ⟨rfl, rfl⟩) | (go_at_call 16; refine (wait_yes_x s v l hr _).mono ?_; rintro e w' ⟨rfl, rfl⟩; rw [HW.out]))
  go_ret
  exact ⟨rfl, (by refine Since.out ?_; repeat (first | with_reducible exact Since.refl _ | with_reducible refine Since.alloc ?_ _ | with_reducible refine Since.drewN ?_ _ | with_reducible refine Since.drew ?_ | ((with_reducible refine Since.later ?_ ?_); rotate_left; assumption) | ((with_reducible refine Since.only ?_ ?_ ?_); rotate_left; assumption; omega) | with_reducible refine Since.set ?_ (by simp; omega) _))⟩

set_option maxRecDepth 100000 in
set_option maxHeartbeats 8000000 in
theorem walk_ok_b (t s v l d : Int) (w : World) (HE : Hid (ETok w)) (t1 : 1 ≤ t) (t2 : t ≤ 100000) (hr : TRight s v l) (s1 : 8 ≤ s) (s2 : s ≤ 800000) (v1 : 0 ≤ v) (v2 : v ≤ 800000) (d1 : 0 ≤ d) (d2 : d ≤ 100000) (hv : decide (v / 2 < 1) = false) (HW : Hid (waitN s v = v / 2 + s / 8)) :
    Calls Tryd.prog 3 #[.int .i64 t, .agg #[.int .i64 s, .int .i64 v, .int .i64 l], .int .i64 d] w fun e w' => e = .returned (.bool true) ∧ Below w.heap.size w w' := by
  go_enter Tryd.func3, Tryd.ntmps3
  go_wp2_with (first | (go_at_call 12; (first | ((with_reducible refine (same_nil _ _).mono ?_); rintro e w' ⟨rfl, rfl⟩) | ((refine (same_iface_x 1 1 _ (HE.out.later (by refine Since.out ?_; repeat (first | with_reducible exact Since.refl _ | with_reducible refine Since.alloc ?_ _ | with_reducible refine Since.drewN ?_ _ | with_reducible refine Since.drew ?_ | ((with_reducible refine Since.later ?_ ?_); rotate_left; assumption) | ((with_reducible refine Since.only ?_ ?_ ?_); rotate_left; assumption; omega) | with_reducible refine Since.set ?_ (by simp; omega) _)))).mono ?_); rintro e w' ⟨rfl, rfl⟩; unfold toldW))) | (go_at_call 11; refine (first_yes t t1 t2 _).mono ?_; rintro e w' ⟨rfl, rfl⟩) | (go_at_call 13; refine (rtrip_yes s v l hr _).mono ?_; rintro e w' ⟨rfl, rfl⟩) | (go_at_call 14; refine (rnext_yes s v l t d hr t1 t2 d1 d2 _).mono ?_; rintro e w' ⟨rfl, rfl⟩) | (go_at_call 15; refine (next_yes_x s v l t d hr t1 t2 d1 d2 _).mono ?_; rintro e w' ⟨rfl, rfl⟩) | (go_at_call 16; refine (wait_yes_x s v l hr _).mono ?_; rintro e w' ⟨rfl, rfl⟩; rw [HW.out]))
  go_ret
  exact ⟨rfl, (by refine Since.out ?_; repeat (first | with_reducible exact Since.refl _ | with_reducible refine Since.alloc ?_ _ | with_reducible refine Since.drewN ?_ _ | with_reducible refine Since.drew ?_ | ((with_reducible refine Since.later ?_ ?_); rotate_left; assumption) | ((with_reducible refine Since.only ?_ ?_ ?_); rotate_left; assumption; omega) | with_reducible refine Since.set ?_ (by simp; omega) _))⟩

set_option maxRecDepth 100000 in
set_option maxHeartbeats 8000000 in
theorem walk_dlo_b (t s v l d : Int) (w : World) (HE : Hid (ETok w)) (t1 : 1 ≤ t) (t2 : t ≤ 100000) (hr : TRight s v l) (s1 : 8 ≤ s) (s2 : s ≤ 800000) (v1 : 0 ≤ v) (v2 : v ≤ 800000) (hd : d < 0) (hv : decide (v / 2 < 1) = false) (HW : Hid (waitN s v = v / 2 + s / 8)) (HN : Hid (¬ (TRight s v l ∧ (1 ≤ t ∧ t ≤ 100000) ∧ 0 ≤ d ∧ d ≤ 100000))) :
    Calls Tryd.prog 3 #[.int .i64 t, .agg #[.int .i64 s, .int .i64 v, .int .i64 l], .int .i64 d] w fun e w' => e = .returned (.bool true) ∧ Below w.heap.size w w' := by
  go_enter Tryd.func3, Tryd.ntmps3
  go_wp2_with (first | (go_at_call 12; (first | ((with_reducible refine (same_nil _ _).mono ?_); rintro e w' ⟨rfl, rfl⟩) | ((refine (same_iface_x 1 1 _ (HE.out.later (by refine Since.out ?_; repeat (first | with_reducible exact Since.refl _ | with_reducible refine Since.alloc ?_ _ | with_reducible refine Since.drewN ?_ _ | with_reducible refine Since.drew ?_ | ((with_reducible refine Since.later ?_ ?_); rotate_left; assumption) | ((with_reducible refine Since.only ?_ ?_ ?_); rotate_left; assumption; omega) | with_reducible refine Since.set ?_ (by simp; omega) _)))).mono ?_); rintro e w' ⟨rfl, rfl⟩; unfold toldW))) | (go_at_call 11; refine (first_yes t t1 t2 _).mono ?_; rintro e w' ⟨rfl, rfl⟩) | (go_at_call 13; refine (rtrip_yes s v l hr _).mono ?_; rintro e w' ⟨rfl, rfl⟩) | (go_at_call 15; refine (next_no_x s v l t d HN.out _).mono ?_; rintro e w' ⟨rfl, rfl⟩) | (go_at_call 16; refine (wait_yes_x s v l hr _).mono ?_; rintro e w' ⟨rfl, rfl⟩; rw [HW.out]))
  go_ret
  exact ⟨rfl, (by refine Since.out ?_; repeat (first | with_reducible exact Since.refl _ | with_reducible refine Since.alloc ?_ _ | with_reducible refine Since.drewN ?_ _ | with_reducible refine Since.drew ?_ | ((with_reducible refine Since.later ?_ ?_); rotate_left; assumption) | ((with_reducible refine Since.only ?_ ?_ ?_); rotate_left; assumption; omega) | with_reducible refine Since.set ?_ (by simp; omega) _))⟩

set_option maxRecDepth 100000 in
set_option maxHeartbeats 8000000 in
theorem walk_dhi_b (t s v l d : Int) (w : World) (HE : Hid (ETok w)) (t1 : 1 ≤ t) (t2 : t ≤ 100000) (hr : TRight s v l) (s1 : 8 ≤ s) (s2 : s ≤ 800000) (v1 : 0 ≤ v) (v2 : v ≤ 800000) (hd : 100000 < d) (hv : decide (v / 2 < 1) = false) (HW : Hid (waitN s v = v / 2 + s / 8)) (HN : Hid (¬ (TRight s v l ∧ (1 ≤ t ∧ t ≤ 100000) ∧ 0 ≤ d ∧ d ≤ 100000))) :
    Calls Tryd.prog 3 #[.int .i64 t, .agg #[.int .i64 s, .int .i64 v, .int .i64 l], .int .i64 d] w fun e w' => e = .returned (.bool true) ∧ Below w.heap.size w w' := by
  go_enter Tryd.func3, Tryd.ntmps3
  go_wp2_with (first | (go_at_call 12; (first | ((with_reducible refine (same_nil _ _).mono ?_); rintro e w' ⟨rfl, rfl⟩) | ((refine (same_iface_x 1 1 _ (HE.out.later (by refine Since.out ?_; repeat (first | with_reducible exact Since.refl _ | with_reducible refine Since.alloc ?_ _ | with_reducible refine Since.drewN ?_ _ | with_reducible refine Since.drew ?_ | ((with_reducible refine Since.later ?_ ?_); rotate_left; assumption) | ((with_reducible refine Since.only ?_ ?_ ?_); rotate_left; assumption; omega) | with_reducible refine Since.set ?_ (by simp; omega) _)))).mono ?_); rintro e w' ⟨rfl, rfl⟩; unfold toldW))) | (go_at_call 11; refine (first_yes t t1 t2 _).mono ?_; rintro e w' ⟨rfl, rfl⟩) | (go_at_call 13; refine (rtrip_yes s v l hr _).mono ?_; rintro e w' ⟨rfl, rfl⟩) | (go_at_call 15; refine (next_no_x s v l t d HN.out _).mono ?_; rintro e w' ⟨rfl, rfl⟩) | (go_at_call 16; refine (wait_yes_x s v l hr _).mono ?_; rintro e w' ⟨rfl, rfl⟩; rw [HW.out]))
  go_ret
  exact ⟨rfl, (by refine Since.out ?_; repeat (first | with_reducible exact Since.refl _ | with_reducible refine Since.alloc ?_ _ | with_reducible refine Since.drewN ?_ _ | with_reducible refine Since.drew ?_ | ((with_reducible refine Since.later ?_ ?_); rotate_left; assumption) | ((with_reducible refine Since.only ?_ ?_ ?_); rotate_left; assumption; omega) | with_reducible refine Since.set ?_ (by simp; omega) _))⟩

set_option maxRecDepth 100000 in
set_option maxHeartbeats 8000000 in
theorem walk_tlo_b (t s v l d : Int) (w : World) (HE : Hid (ETok w)) (ht : ¬ (1 ≤ t ∧ t ≤ 100000)) (htb : t < 1) (hr : TRight s v l) (s1 : 8 ≤ s) (s2 : s ≤ 800000) (v1 : 0 ≤ v) (v2 : v ≤ 800000) (hv : decide (v / 2 < 1) = false) (HW : Hid (waitN s v = v / 2 + s / 8)) (HN : Hid (¬ (TRight s v l ∧ (1 ≤ t ∧ t ≤ 100000) ∧ 0 ≤ d ∧ d ≤ 100000))) :
    Calls Tryd.prog 3 #[.int .i64 t, .agg #[.int .i64 s, .int .i64 v, .int .i64 l], .int .i64 d] w fun e w' => e = .returned (.bool true) ∧ Below w.heap.size w w' := by
  go_enter Tryd.func3, Tryd.ntmps3
  go_wp2_with (first | (go_at_call 12; (first | ((with_reducible refine (same_nil _ _).mono ?_); rintro e w' ⟨rfl, rfl⟩) | ((refine (same_iface_x 1 1 _ (HE.out.later (by refine Since.out ?_; repeat (first | with_reducible exact Since.refl _ | with_reducible refine Since.alloc ?_ _ | with_reducible refine Since.drewN ?_ _ | with_reducible refine Since.drew ?_ | ((with_reducible refine Since.later ?_ ?_); rotate_left; assumption) | ((with_reducible refine Since.only ?_ ?_ ?_); rotate_left; assumption; omega) | with_reducible refine Since.set ?_ (by simp; omega) _)))).mono ?_); rintro e w' ⟨rfl, rfl⟩; unfold toldW))) | (go_at_call 11; refine (first_no t ht _).mono ?_; rintro e w' ⟨rfl, rfl⟩) | (go_at_call 13; refine (rtrip_yes s v l hr _).mono ?_; rintro e w' ⟨rfl, rfl⟩) | (go_at_call 15; refine (next_no_x s v l t d HN.out _).mono ?_; rintro e w' ⟨rfl, rfl⟩) | (go_at_call 16; refine (wait_yes_x s v l hr _).mono ?_; rintro e w' ⟨rfl, rfl⟩; rw [HW.out]))
  go_ret
  exact ⟨rfl, (by refine Since.out ?_; repeat (first | with_reducible exact Since.refl _ | with_reducible refine Since.alloc ?_ _ | with_reducible refine Since.drewN ?_ _ | with_reducible refine Since.drew ?_ | ((with_reducible refine Since.later ?_ ?_); rotate_left; assumption) | ((with_reducible refine Since.only ?_ ?_ ?_); rotate_left; assumption; omega) | with_reducible refine Since.set ?_ (by simp; omega) _))⟩

set_option maxRecDepth 100000 in
set_option maxHeartbeats 8000000 in
theorem walk_thi_b (t s v l d : Int) (w : World) (HE : Hid (ETok w)) (ht : ¬ (1 ≤ t ∧ t ≤ 100000)) (htb : 1 ≤ t) (htc : decide (t ≤ 100000) = false) (hr : TRight s v l) (s1 : 8 ≤ s) (s2 : s ≤ 800000) (v1 : 0 ≤ v) (v2 : v ≤ 800000) (hv : decide (v / 2 < 1) = false) (HW : Hid (waitN s v = v / 2 + s / 8)) (HN : Hid (¬ (TRight s v l ∧ (1 ≤ t ∧ t ≤ 100000) ∧ 0 ≤ d ∧ d ≤ 100000))) :
    Calls Tryd.prog 3 #[.int .i64 t, .agg #[.int .i64 s, .int .i64 v, .int .i64 l], .int .i64 d] w fun e w' => e = .returned (.bool true) ∧ Below w.heap.size w w' := by
  go_enter Tryd.func3, Tryd.ntmps3
  go_wp2_with (first | (go_at_call 12; (first | ((with_reducible refine (same_nil _ _).mono ?_); rintro e w' ⟨rfl, rfl⟩) | ((refine (same_iface_x 1 1 _ (HE.out.later (by refine Since.out ?_; repeat (first | with_reducible exact Since.refl _ | with_reducible refine Since.alloc ?_ _ | with_reducible refine Since.drewN ?_ _ | with_reducible refine Since.drew ?_ | ((with_reducible refine Since.later ?_ ?_); rotate_left; assumption) | ((with_reducible refine Since.only ?_ ?_ ?_); rotate_left; assumption; omega) | with_reducible refine Since.set ?_ (by simp; omega) _)))).mono ?_); rintro e w' ⟨rfl, rfl⟩; unfold toldW))) | (go_at_call 11; refine (first_no t ht _).mono ?_; rintro e w' ⟨rfl, rfl⟩) | (go_at_call 13; refine (rtrip_yes s v l hr _).mono ?_; rintro e w' ⟨rfl, rfl⟩) | (go_at_call 15; refine (next_no_x s v l t d HN.out _).mono ?_; rintro e w' ⟨rfl, rfl⟩) | (go_at_call 16; refine (wait_yes_x s v l hr _).mono ?_; rintro e w' ⟨rfl, rfl⟩; rw [HW.out]))
  go_ret
  exact ⟨rfl, (by refine Since.out ?_; repeat (first | with_reducible exact Since.refl _ | with_reducible refine Since.alloc ?_ _ | with_reducible refine Since.drewN ?_ _ | with_reducible refine Since.drew ?_ | ((with_reducible refine Since.later ?_ ?_); rotate_left; assumption) | ((with_reducible refine Since.only ?_ ?_ ?_); rotate_left; assumption; omega) | with_reducible refine Since.set ?_ (by simp; omega) _))⟩

set_option maxRecDepth 100000 in
set_option maxHeartbeats 8000000 in
theorem walk_r (t s v l d : Int) (w : World) (HE : Hid (ETok w)) (t1 : 1 ≤ t) (t2 : t ≤ 100000) (hr : ¬ TRight s v l) (HN : Hid (¬ (TRight s v l ∧ (1 ≤ t ∧ t ≤ 100000) ∧ 0 ≤ d ∧ d ≤ 100000))) :
    Calls Tryd.prog 3 #[.int .i64 t, .agg #[.int .i64 s, .int .i64 v, .int .i64 l], .int .i64 d] w fun e w' => e = .returned (.bool true) ∧ Below w.heap.size w w' := by
  go_enter Tryd.func3, Tryd.ntmps3
  go_wp2_with (first | (go_at_call 12; (first | ((with_reducible refine (same_nil _ _).mono ?_); rintro e w' ⟨rfl, rfl⟩) | ((refine (same_iface_x 1 1 _ (HE.out.later (by refine Since.out ?_; repeat (first | with_reducible exact Since.refl _ | with_reducible refine Since.alloc ?_ _ | with_reducible refine Since.drewN ?_ _ | with_reducible refine Since.drew ?_ | ((with_reducible refine Since.later ?_ ?_); rotate_left; assumption) | ((with_reducible refine Since.only ?_ ?_ ?_); rotate_left; assumption; omega) | with_reducible refine Since.set ?_ (by simp; omega) _)))).mono ?_); rintro e w' ⟨rfl, rfl⟩; unfold toldW))) | (go_at_call 11; refine (first_yes t t1 t2 _).mono ?_; rintro e w' ⟨rfl, rfl⟩) | (go_at_call 13; refine (rtrip_no s v l hr _).mono ?_; rintro e w' ⟨rfl, rfl⟩) | (go_at_call 15; refine (next_no_x s v l t d HN.out _).mono ?_; rintro e w' ⟨rfl, rfl⟩) | (go_at_call 16; refine (wait_no_x s v l hr _).mono ?_; rintro e w' ⟨rfl, rfl⟩))
  go_ret
  exact ⟨rfl, (by refine Since.out ?_; repeat (first | with_reducible exact Since.refl _ | with_reducible refine Since.alloc ?_ _ | with_reducible refine Since.drewN ?_ _ | with_reducible refine Since.drew ?_ | ((with_reducible refine Since.later ?_ ?_); rotate_left; assumption) | ((with_reducible refine Since.only ?_ ?_ ?_); rotate_left; assumption; omega) | with_reducible refine Since.set ?_ (by simp; omega) _))⟩

set_option maxRecDepth 100000 in
set_option maxHeartbeats 8000000 in
theorem walk_rtlo (t s v l d : Int) (w : World) (HE : Hid (ETok w)) (ht : ¬ (1 ≤ t ∧ t ≤ 100000)) (htb : t < 1) (hr : ¬ TRight s v l) (HN : Hid (¬ (TRight s v l ∧ (1 ≤ t ∧ t ≤ 100000) ∧ 0 ≤ d ∧ d ≤ 100000))) :
    Calls Tryd.prog 3 #[.int .i64 t, .agg #[.int .i64 s, .int .i64 v, .int .i64 l], .int .i64 d] w fun e w' => e = .returned (.bool true) ∧ Below w.heap.size w w' := by
  go_enter Tryd.func3, Tryd.ntmps3
  go_wp2_with (first | (go_at_call 12; (first | ((with_reducible refine (same_nil _ _).mono ?_); rintro e w' ⟨rfl, rfl⟩) | ((refine (same_iface_x 1 1 _ (HE.out.later (by refine Since.out ?_; repeat (first | with_reducible exact Since.refl _ | with_reducible refine Since.alloc ?_ _ | with_reducible refine Since.drewN ?_ _ | with_reducible refine Since.drew ?_ | ((with_reducible refine Since.later ?_ ?_); rotate_left; assumption) | ((with_reducible refine Since.only ?_ ?_ ?_); rotate_left; assumption; omega) | with_reducible refine Since.set ?_ (by simp; omega) _)))).mono ?_); rintro e w' ⟨rfl, rfl⟩; unfold toldW))) | (go_at_call 11; refine (first_no t ht _).mono ?_; rintro e w' ⟨rfl, rfl⟩) | (go_at_call 13; refine (rtrip_no s v l hr _).mono ?_; rintro e w' ⟨rfl, rfl⟩) | (go_at_call 15; refine (next_no_x s v l t d HN.out _).mono ?_; rintro e w' ⟨rfl, rfl⟩) | (go_at_call 16; refine (wait_no_x s v l hr _).mono ?_; rintro e w' ⟨rfl, rfl⟩))
  go_ret
  exact ⟨rfl, (by refine Since.out ?_; repeat (first | with_reducible exact Since.refl _ | with_reducible refine Since.alloc ?_ _ | with_reducible refine Since.drewN ?_ _ | with_reducible refine Since.drew ?_ | ((with_reducible refine Since.later ?_ ?_); rotate_left; assumption) | ((with_reducible refine Since.only ?_ ?_ ?_); rotate_left; assumption; omega) | with_reducible refine Since.set ?_ (by simp; omega) _))⟩

set_option maxRecDepth 100000 in
set_option maxHeartbeats 8000000 in
theorem walk_rthi (t s v l d : Int) (w : World) (HE : Hid (ETok w)) (ht : ¬ (1 ≤ t ∧ t ≤ 100000)) (htb : 1 ≤ t) (htc : decide (t ≤ 100000) = false) (hr : ¬ TRight s v l) (HN : Hid (¬ (TRight s v l ∧ (1 ≤ t ∧ t ≤ 100000) ∧ 0 ≤ d ∧ d ≤ 100000))) :
    Calls Tryd.prog 3 #[.int .i64 t, .agg #[.int .i64 s, .int .i64 v, .int .i64 l], .int .i64 d] w fun e w' => e = .returned (.bool true) ∧ Below w.heap.size w w' := by
  go_enter Tryd.func3, Tryd.ntmps3
  go_wp2_with (first | (go_at_call 12; (first | ((with_reducible refine (same_nil _ _).mono ?_); rintro e w' ⟨rfl, rfl⟩) | ((refine (same_iface_x 1 1 _ (HE.out.later (by refine Since.out ?_; repeat (first | with_reducible exact Since.refl _ | with_reducible refine Since.alloc ?_ _ | with_reducible refine Since.drewN ?_ _ | with_reducible refine Since.drew ?_ | ((with_reducible refine Since.later ?_ ?_); rotate_left; assumption) | ((with_reducible refine Since.only ?_ ?_ ?_); rotate_left; assumption; omega) | with_reducible refine Since.set ?_ (by simp; omega) _)))).mono ?_); rintro e w' ⟨rfl, rfl⟩; unfold toldW))) | (go_at_call 11; refine (first_no t ht _).mono ?_; rintro e w' ⟨rfl, rfl⟩) | (go_at_call 13; refine (rtrip_no s v l hr _).mono ?_; rintro e w' ⟨rfl, rfl⟩) | (go_at_call 15; refine (next_no_x s v l t d HN.out _).mono ?_; rintro e w' ⟨rfl, rfl⟩) | (go_at_call 16; refine (wait_no_x s v l hr _).mono ?_; rintro e w' ⟨rfl, rfl⟩))
  go_ret
  exact ⟨rfl, (by refine Since.out ?_; repeat (first | with_reducible exact Since.refl _ | with_reducible refine Since.alloc ?_ _ | with_reducible refine Since.drewN ?_ _ | with_reducible refine Since.drew ?_ | ((with_reducible refine Since.later ?_ ?_); rotate_left; assumption) | ((with_reducible refine Since.only ?_ ?_ ?_); rotate_left; assumption; omega) | with_reducible refine Since.set ?_ (by simp; omega) _))⟩

theorem walk (t s v l d : Int) (w : World) (w0 : (Lit.int .i64 t).wf = true) (w1 : (Lit.int .i64 s).wf = true) (w2 : (Lit.int .i64 v).wf = true) (w3 : (Lit.int .i64 l).wf = true) (w4 : (Lit.int .i64 d).wf = true) (hE : ETok w) :
    Calls Tryd.prog 3 #[.int .i64 t, .agg #[.int .i64 s, .int .i64 v, .int .i64 l], .int .i64 d] w fun e w' => e = .returned (.bool true) ∧ Below w.heap.size w w' := by
  by_cases ht : 1 ≤ t ∧ t ≤ 100000
  · obtain ⟨t1, t2⟩ := ht
    by_cases hr : TRight s v l
    · have q1 := hr.s1
      have q2 := hr.s2
      have q3 := hr.v1
      have q4 := hr.v2
      by_cases hv : v / 2 < 1
      · have HW : Hid (waitN s v = 1 + s / 8) := Lib.hid (by unfold waitN; omega)
        by_cases d1 : 0 ≤ d
        · by_cases d2 : d ≤ 100000
          · exact walk_ok_a t s v l d w hE t1 t2 hr q1 q2 q3 q4 d1 d2 hv HW
          · exact walk_dhi_a t s v l d w hE t1 t2 hr q1 q2 q3 q4 (by omega) hv HW (fun h => d2 h.2.2.2)
        · exact walk_dlo_a t s v l d w hE t1 t2 hr q1 q2 q3 q4 (by omega) hv HW (fun h => d1 h.2.2.1)
      · have HW : Hid (waitN s v = v / 2 + s / 8) := Lib.hid (by unfold waitN; omega)
        have hv' : decide (v / 2 < 1) = false := by simp; omega
        by_cases d1 : 0 ≤ d
        · by_cases d2 : d ≤ 100000
          · exact walk_ok_b t s v l d w hE t1 t2 hr q1 q2 q3 q4 d1 d2 hv' HW
          · exact walk_dhi_b t s v l d w hE t1 t2 hr q1 q2 q3 q4 (by omega) hv' HW (fun h => d2 h.2.2.2)
        · exact walk_dlo_b t s v l d w hE t1 t2 hr q1 q2 q3 q4 (by omega) hv' HW (fun h => d1 h.2.2.1)
    · exact walk_r t s v l d w hE t1 t2 hr (fun h => hr h.1)
  · by_cases tb : t < 1
    · by_cases hr : TRight s v l
      · have q1 := hr.s1
        have q2 := hr.s2
        have q3 := hr.v1
        have q4 := hr.v2
        by_cases hv : v / 2 < 1
        · exact walk_tlo_a t s v l d w hE ht tb hr q1 q2 q3 q4 hv (Lib.hid (by unfold waitN; omega)) (fun h => ht h.2.1)
        · exact walk_tlo_b t s v l d w hE ht tb hr q1 q2 q3 q4 (by simp; omega) (Lib.hid (by unfold waitN; omega)) (fun h => ht h.2.1)
      · exact walk_rtlo t s v l d w hE ht tb hr (fun h => hr h.1)
    · by_cases hr : TRight s v l
      · have q1 := hr.s1
        have q2 := hr.s2
        have q3 := hr.v1
        have q4 := hr.v2
        by_cases hv : v / 2 < 1
        · exact walk_thi_a t s v l d w hE ht (by omega) (by simp; omega) hr q1 q2 q3 q4 hv (Lib.hid (by unfold waitN; omega)) (fun h => ht h.2.1)
        · exact walk_thi_b t s v l d w hE ht (by omega) (by simp; omega) hr q1 q2 q3 q4 (by simp; omega) (Lib.hid (by unfold waitN; omega)) (fun h => ht h.2.1)
      · exact walk_rthi t s v l d w hE ht (by omega) (by simp; omega) hr (fun h => hr h.1)

/-! the row -/
theorem own : ownKnob Tryd.prog.godebug = none := by kernel_rfl
theorem laidOut : laidOutB Tryd.prog = true := by kernel_rfl
set_option maxRecDepth 100000 in
theorem contract (H : Type) (enc : TypeId × Value → H) (W : World) (base : Nat) (args : Array Value) (ds gs : List (DataW H)) (before : List MemPlace)
    (hval : ∀ (j : Nat) t v, Tryd.f3.params[j]? = some t → args[j]? = some v → Value.okWide Tryd.prog W .any base t v)
    (hW : DataW.Whole enc Tryd.prog Tryd.f3.params.toList Rows.tripTellsSpec.vars false W args.toList ds gs before) (hL : laidMetH Tryd.prog Rows.tripTellsRow.laid W) :
    Calls Tryd.prog 3 args W fun e W' => ∃ v, e = .returned v ∧ Rows.tripTellsSpec.post enc Tryd.prog Tryd.f3 false true false false W args v W' := by
  have hW' := hW
  obtain ⟨p, q, hA0, hV, rfl, hfz, hnd⟩ := hW
  have hA : DataW.TrodAll enc Tryd.prog W 0 (fun _ => true) true Tryd.f3.params.toList args.toList ds p := hA0
  rw [Tryd.params3] at hA hval
  obtain ⟨v0, vs0, d0, ds0, p0, q0, hargs, rfl, rfl, h0, r0⟩ := trodAll_cons hA
  obtain ⟨v1, vs1, d1, ds1, p1, q1, rfl, rfl, rfl, h1, r1⟩ := trodAll_cons r0
  obtain ⟨v2, vs2, d2, ds2, p2, q2, rfl, rfl, rfl, h2, r2⟩ := trodAll_cons r1
  obtain ⟨rfl, rfl, rfl⟩ := trodAll_nil r2
  obtain rfl : args = #[v0, v1, v2] := by cases args; simp_all
  obtain ⟨rfl, rfl⟩ := trodVars_none hV
  obtain ⟨a0, rfl, rfl, rfl, w0⟩ := open_int Tryd.underlying3 (hval 0 3 v0 rfl rfl) h0
  have k1 := h1
  have lt1 : ∀ x ∈ p1, x.block < W.heap.size := by obtain ⟨m, hm⟩ := k1; exact DataW.trod_lt m _ _ _ hm
  obtain ⟨c1_0, c1_1, c1_2, y1_0, y1_1, y1_2, m1, rfl, hd1, hp1, u1_0, u1_1, u1_2⟩ := Joins.open_agg3 Tryd.underlying23 (by kernel_rfl) (by kernel_rfl) (hval 1 23 v1 rfl rfl) h1
  obtain ⟨a1_0, e1_0, f1_0, w1_0⟩ := DataW.trod_int Tryd.underlying3 u1_0
  obtain ⟨a1_1, e1_1, f1_1, w1_1⟩ := DataW.trod_int Tryd.underlying3 u1_1
  obtain ⟨a1_2, e1_2, f1_2, w1_2⟩ := DataW.trod_int Tryd.underlying3 u1_2
  simp only [List.cons.injEq, and_true] at e1_0 e1_1 e1_2
  subst e1_0 e1_1 e1_2
  obtain ⟨a2, rfl, rfl, rfl, w2⟩ := open_int Tryd.underlying3 (hval 2 3 v2 rfl rfl) h2
  have lw := laidWalk hL
  refine (walk a0 a1_0 a1_1 a1_2 a2 W w0 w1_0 w1_1 w1_2 w2 lw).mono fun e W' ⟨he, bel⟩ => ?_
  subst he
  exact ⟨_, rfl, _, _, _, [], _, [], hW', trodAll_mk1 (shut_bool Tryd.underlying4 _), (trodAll_cons_mk (shut_int Tryd.underlying3 w0) (trodAll_cons_mk (Below.trod laidOut (by kernel_rfl) (of_decide_eq_true (by kernel_rfl)) k1 bel lt1) (trodAll_cons_mk (shut_int Tryd.underlying3 w2) trodAll_mk0))), rfl, bel.frame _, fun h => by cases h⟩

theorem reads (os : Os) {H : Type} (enc : TypeId × Value → H) : ∃ places, DataW.whole enc Tryd.prog ((laidWorld os).forCall (fun _ _ => 0) ⟨#[], #[.int .i64 0, .agg #[.int .i64 0, .int .i64 0, .int .i64 0], .int .i64 0], []⟩).memory Tryd.f3.params.toList Rows.tripTellsSpec.vars false (#[.int .i64 0, .agg #[.int .i64 0, .int .i64 0, .int .i64 0], .int .i64 0] : Array Value).toList 8 = some ([.lit (.int .i64 0), .agg [.lit (.int .i64 0), .lit (.int .i64 0), .lit (.int .i64 0)], .lit (.int .i64 0)], [], places) :=
  ⟨[], by kernel_rfl⟩
theorem laid_met (os : Os) : laidMetH Tryd.prog Rows.tripTellsRow.laid ((laidWorld os).forCall (fun _ _ => 0) ⟨#[], #[.int .i64 0, .agg #[.int .i64 0, .int .i64 0, .int .i64 0], .int .i64 0], []⟩).memory := laidMetW os _

set_option maxRecDepth 100000 in
theorem lifted (os : Os) (started : os.Started) (H : Type) (enc : TypeId × Value → H) (F : Stop.Interp) :
    ReturnsInHanded {} Tryd.checked os 3 .any ((OpenSpec.ofChange Rows.tripTellsSpec).preRow enc Tryd.prog Tryd.f3 Rows.tripTellsRow.domain false Rows.tripTellsRow.laid) (((OpenSpec.ofChange Rows.tripTellsSpec).at F).post enc Tryd.prog Tryd.f3 false true false false) := by
  obtain ⟨places, hx⟩ := reads os enc
  refine returnsInHanded_of_row (C := Tryd.checked) (s := OpenSpec.ofChange Rows.tripTellsSpec) own started (by kernel_rfl) Tryd.func3
    (witness_row_at (enc := enc) (C := Tryd.checked) false (laidWorld os) #[.int .i64 0, .agg #[.int .i64 0, .int .i64 0, .int .i64 0], .int .i64 0] rfl (by kernel_rfl) (by kernel_rfl) (by kernel_rfl)
      (OpenSpec.preRow_of_cond 8 hx (by kernel_rfl) (fun k hk => by cases hk) (by kernel_rfl) (laid_met os))) ?_
  intro W base args ds gs before hval hW _ _ _ hL _ _
  exact contract H enc W base args ds gs before hval hW hL

theorem said : Rows.TripTellsSaid :=
  OpenClaim.holds_of_cond 3 Tryd.f3 rfl rfl rfl rfl rfl rfl rfl ⟨rfl, rfl, rfl, rfl, rfl⟩ rfl rfl rfl rfl rfl (by kernel_rfl) Tryd.func3 (by kernel_rfl)
    (of_decide_eq_true (by kernel_rfl)) (by unfold Func.isWrapper; first | (rw [if_pos (by decide +kernel)]; kernel_rfl) | (rw [if_neg (by decide +kernel)]; exact ⟨rfl, rfl⟩))
    (fun os started H enc _ F => by rw [OpenClaim.pre_eq_preRow]; exact lifted os started H enc F)

theorem plain (f : FuncId) (fn : Func) (hf : Tryd.pinned.checked.prog.funcNamed "wanderwire/wirelaw1.TripTells" = some f) (hfn : Tryd.pinned.checked.prog.funcs[f]? = some fn) :
    true = Tryd.pinned.checked.prog.looks [] ∧ ∀ (j : Nat) t, fn.params[j]? = some t → Tryd.pinned.checked.prog.wantsStandIn t = false := by
  obtain rfl : f = 3 := Option.some.inj ((show Tryd.prog.funcNamed "wanderwire/wirelaw1.TripTells" = some 3 by kernel_rfl).symm.trans hf) |>.symm
  obtain rfl : fn = Tryd.f3 := (Option.some.inj (Tryd.func3.symm.trans hfn)).symm
  refine ⟨by kernel_rfl, fun j t ht => ?_⟩
  rw [Tryd.params3] at ht
  have ht' := Array.mem_of_getElem? ht
  have hall : (([3, 23, 3] : List Nat).all fun t => !Tryd.prog.wantsStandIn t) = true := by kernel_rfl
  have hq := List.all_eq_true.1 hall t (by simpa using ht')
  have hq2 : Tryd.prog.wantsStandIn t = false := by simpa using hq
  exact hq2

theorem card : Rows.TripTellsCardSaid :=
  Claim7.holds_tied_plain_at .later [] _ _ _ _ said (fun _ h => by cases h) (by kernel_rfl) (fun _ h => by cases h) tripTells_row_tie rfl ⟨rfl, rfl⟩ (by kernel_rfl) rfl plain (by kernel_rfl)
#print axioms card
end Go.Proofs.YtmofahmkgignaaaDoor.tripTells
