/- PathTells: for every path and number the law returns true: what is wrong with any path, what came, was sent, how much may be, and whether it is known, are as the reference says. Condition: errors.errorType holds its handle (the row lists it, the card ties it). -/
import Derived.Test.YtmofahmkgignaaaDoorPathAny
import Derived.Test.YtmofahmkgignaaaDoorLaid
import Derived.Test.YtmofahmkgignaaaDoorRules
import Derived.Test.YtmofahmkgignaaaDoorSince
import Derived.Deep.DeepCutAuto
import Derived.Test.YtmofahmkgignaaaDoorCards
import Derived.Test.YtmofahmkgignaaaDoorTie
import Derived.Deep.DeepHandedRow
import Derived.LaidLaws
import Derived.LaidHandle
import Derived.Deep.DeepWitnessRowRef
import Derived.Test.YtmofahmkgignaaaDoorRows
import Derived.WalkKit
import Derived.ProofKit
import Derived.OpenShut
import Derived.ShutString
import Derived.ChangeOld
import Derived.Below
import Derived.Lib.SmallJoins
import Derived.Deep.Slices
import Derived.Deep.Matrix
import Derived.Deep.Strs
namespace Go.Proofs.YtmofahmkgignaaaDoor.pathTells
open Go.ChangeShapes Go.WideShapes Go.ChangeAt Go.RowKit
open Go.ChangeMaps (open_string shut_string)
set_option linter.unusedVariables false

noncomputable abbrev laidWorld := YtmofahmkgignaaaDoor.laidWorld
theorem laidMetW (os : Os) (args : Array Value) : laidMetH Tryd.prog Rows.pathTellsRow.laid ((laidWorld os).forCall (fun _ _ => 0) ⟨#[], args, []⟩).memory := laidMet_et os args
theorem laidWalk {W : World} (h : laidMetH Tryd.prog Rows.pathTellsRow.laid W) : ETok W := laid_et h

/-- the room that was found before round k -/
def roomAt (i o : Int) (kn : Bool) (k : Nat) : Int := if k = 0 then 0 else if (k : Int) - 1 < roomN i o kn then (k : Int) - 1 else roomN i o kn
theorem roomN_bounds {i o : Int} {kn : Bool} (h : PathOk i o kn) : 0 ≤ roomN i o kn ∧ roomN i o kn ≤ 200 := by
  unfold roomN
  have kn' := h.kn
  have i1 := h.i1
  have o1 := h.o1
  have o2 := h.o2
  cases kn
  · have kn2 := kn' rfl
    simp
    split <;> (try split) <;> omega
  · simp
    split <;> omega
theorem roomAt_end {i o : Int} {kn : Bool} (h : PathOk i o kn) : roomAt i o kn 201 = roomN i o kn := by
  have := roomN_bounds h
  unfold roomAt
  rw [if_neg (by omega)]
  split <;> omega
theorem roomAt_yes {i o : Int} {kn : Bool} {k : Nat} (h : PathOk i o kn) (hk : k ≤ 200) (hs : sendE i o kn k = 0) : roomAt i o kn (k + 1) = k := by
  have := (sendE_room h (by omega) (by omega)).1 hs
  unfold roomAt
  rw [if_neg (by omega)]
  split <;> omega
theorem roomAt_no {i o : Int} {kn : Bool} {k : Nat} (h : PathOk i o kn) (hk : k ≤ 200) (hs : ¬ sendE i o kn k = 0) : roomAt i o kn (k + 1) = roomAt i o kn k := by
  have hb := roomN_bounds h
  have hn : ¬ (k : Int) ≤ roomN i o kn := fun hh => hs ((sendE_room h (by omega) (by omega)).2 hh)
  unfold roomAt
  rw [if_neg (by omega), if_neg (by omega)]
  split <;> (try split) <;> omega

set_option maxRecDepth 100000 in
set_option maxHeartbeats 1600000 in
theorem walk (i o : Int) (kn : Bool) (n : Int) (w : World) (w0 : (Lit.int .i64 i).wf = true) (w1 : (Lit.int .i64 o).wf = true) (w2 : (Lit.int .i64 n).wf = true) (hE : ETok w) :
    Calls Tryd.prog 9 #[.agg #[.int .i64 i, .int .i64 o, .bool kn], .int .i64 n] w fun e w' => e = .returned (.bool true) ∧ Below w.heap.size w w' := by
  have HE := Lib.hid hE
  clear hE w0 w1 w2
  go_enter Tryd.func9, Tryd.ntmps9
  go_upto_region 9 with (first | (go_at_call 35; refine (rpath_any i o kn _).mono ?_; rintro e w1 ⟨rfl, hb1⟩; (first | (refine keepk (w.heap.size) hb1 (by first | assumption | (simp; omega) | (simp; done)) ?_; intro lk ck fk))) | (go_at_call 34; refine (pcheck_any i o kn _).mono ?_; rintro e w2 ⟨rfl, hb2⟩; (first | (refine keepk (w.heap.size) hb2 (by first | assumption | (simp; omega) | (simp; done)) ?_; intro lk ck fk))) | (go_at_call 12; refine (same_yes _ _ (HE.out.later (by refine Since.out ?_; repeat (first | with_reducible assumption | with_reducible exact Since.refl _ | with_reducible refine Since.later ?_ (by with_reducible assumption) | with_reducible refine Since.only ?_ (by with_reducible assumption) (by first | assumption | omega | (simp; omega)) | with_reducible refine Since.alloc ?_ _ | with_reducible refine Since.drewN ?_ _ | with_reducible refine Since.drew ?_ | with_reducible refine Since.set ?_ (by first | assumption | omega | (simp; omega)) _)))).mono ?_; rintro e w' ⟨rfl, hb⟩; (first | (refine keepk (w.heap.size) hb (by first | assumption | (simp; omega) | (simp; done)) ?_; intro lk ck fk; refine keepk (w3.heap.size) hb (by first | assumption | (simp; omega) | (simp; done)) ?_; intro lk ck fk; refine keepk (w4.heap.size) hb (by first | assumption | (simp; omega) | (simp; done)) ?_; intro lk ck fk) | (refine keepk (w.heap.size) hb (by first | assumption | (simp; omega) | (simp; done)) ?_; intro lk ck fk; refine keepk (w3.heap.size) hb (by first | assumption | (simp; omega) | (simp; done)) ?_; intro lk ck fk) | (refine keepk (w.heap.size) hb (by first | assumption | (simp; omega) | (simp; done)) ?_; intro lk ck fk))) | (go_at_call 36; refine (rcame_any i o kn n _).mono ?_; rintro e w3 ⟨rfl, hb3⟩; (first | (refine keepk (w.heap.size) hb3 (by first | assumption | (simp; omega) | (simp; done)) ?_; intro lk ck fk))) | (go_at_call 33; refine (came_any i o kn n _).mono ?_; rintro e w4 ⟨rfl, hb4⟩; (first | (refine keepk (w.heap.size) hb4 (by first | assumption | (simp; omega) | (simp; done)) ?_; intro lk ck fk; refine keepk (w3.heap.size) hb4 (by first | assumption | (simp; omega) | (simp; done)) ?_; intro lk ck fk) | (refine keepk (w.heap.size) hb4 (by first | assumption | (simp; omega) | (simp; done)) ?_; intro lk ck fk))) | (go_at_call 37; refine (rsend_any i o kn n _).mono ?_; rintro e w5 ⟨rfl, hb5⟩; (first | (refine keepk (w.heap.size) hb5 (by first | assumption | (simp; omega) | (simp; done)) ?_; intro lk ck fk; refine keepk (w3.heap.size) hb5 (by first | assumption | (simp; omega) | (simp; done)) ?_; intro lk ck fk; refine keepk (w4.heap.size) hb5 (by first | assumption | (simp; omega) | (simp; done)) ?_; intro lk ck fk) | (refine keepk (w.heap.size) hb5 (by first | assumption | (simp; omega) | (simp; done)) ?_; intro lk ck fk; refine keepk (w3.heap.size) hb5 (by first | assumption | (simp; omega) | (simp; done)) ?_; intro lk ck fk) | (refine keepk (w.heap.size) hb5 (by first | assumption | (simp; omega) | (simp; done)) ?_; intro lk ck fk))) | (go_at_call 32; refine (send_any i o kn n _).mono ?_; rintro e w6 ⟨rfl, hb6⟩; (first | (refine keepk (w.heap.size) hb6 (by first | assumption | (simp; omega) | (simp; done)) ?_; intro lk ck fk; refine keepk (w3.heap.size) hb6 (by first | assumption | (simp; omega) | (simp; done)) ?_; intro lk ck fk; refine keepk (w4.heap.size) hb6 (by first | assumption | (simp; omega) | (simp; done)) ?_; intro lk ck fk) | (refine keepk (w.heap.size) hb6 (by first | assumption | (simp; omega) | (simp; done)) ?_; intro lk ck fk; refine keepk (w3.heap.size) hb6 (by first | assumption | (simp; omega) | (simp; done)) ?_; intro lk ck fk) | (refine keepk (w.heap.size) hb6 (by first | assumption | (simp; omega) | (simp; done)) ?_; intro lk ck fk))))
  go_cut [13] (fun s13 wx => Since w wx ∧ Row wx w.heap.size [.int .i64 i, .int .i64 o, .bool kn] ∧ Row wx w3.heap.size [.int .i64 (sendI i o kn n), .int .i64 (sendO i o kn n), .bool (sendK i o kn n)] ∧ Row wx w4.heap.size [.int .i64 (sendI i o kn n), .int .i64 (sendO i o kn n), .bool (sendK i o kn n)] ∧ s13 = .int .i64 0)
  case first =>
    go_wp2_with fail
    go_meet
    case rel => exact ⟨(by refine Since.out ?_; repeat (first | with_reducible assumption | with_reducible exact Since.refl _ | with_reducible refine Since.later ?_ (by with_reducible assumption) | with_reducible refine Since.only ?_ (by with_reducible assumption) (by first | assumption | omega | (simp; omega)) | with_reducible refine Since.alloc ?_ _ | with_reducible refine Since.drewN ?_ _ | with_reducible refine Since.drew ?_ | with_reducible refine Since.set ?_ (by first | assumption | omega | (simp; omega)) _)), Row.mk3 (by go_simp) (by intro oo; go_simp) (by go_simp) (by go_simp) (by go_simp), Row.mk3 (by go_simp) (by intro oo; go_simp) (by go_simp) (by go_simp) (by go_simp), Row.mk3 (by go_simp) (by intro oo; go_simp) (by go_simp) (by go_simp) (by go_simp), rfl⟩
  case rest =>
    obtain ⟨hs1, q2, q7, q9, rfl⟩ := hcut
    obtain ⟨l2, f2, c20, c21, c22⟩ := q2.get3
    obtain ⟨l7, f7, c70, c71, c72⟩ := q7.get3
    obtain ⟨l9, f9, c90, c91, c92⟩ := q9.get3
    have o1 : w.heap.size ≤ w3.heap.size := by omega
    have o2 : w.heap.size ≤ w4.heap.size := by omega
    have n1 : w.heap.size ≠ w3.heap.size := by omega
    have n2 : w.heap.size ≠ w4.heap.size := by omega
    have n3 : w3.heap.size ≠ w4.heap.size := by omega
    have n4 := n1.symm
    have n5 := n2.symm
    have n6 := n3.symm
    (repeat clear ck); (repeat clear fk); (repeat clear lk)
    clear hb1 hb2 hb3 hb4 hb5 hb6
    repeat ((fail_if_success (with_reducible refine stop_at 10 ?_)); first | fail | go_values | go_skip | go_guarded | go_step | go_upon | go_back | go_simp)
    go_cut [5, 13] (fun s5 s13 wx => s5 = .int .i64 (pathE i o kn) ∧ s13 = .int .i64 (roomV i o kn) ∧ Below wc.heap.size wc wx)
    case first =>
      by_cases h : PathOk i o kn
      · have e0 := pathE_ok h
        have E0 := Lib.hid e0
        have HV : Hid (roomV i o kn = roomN i o kn) := Lib.hid (by unfold roomV; rw [if_pos e0])
        have HP := Lib.hid h
        clear h
        go_wp2_with fail
        clear e0
        go_loopw [13, 14] (fun s13 s14 wr => ∃ k : Nat, k ≤ 201 ∧ s14 = .int .i64 k ∧ s13 = .int .i64 (roomAt i o kn k) ∧ Below wc.heap.size wc wr) (fun _ s14 _ => 201 - (intOf s14).toNat)
        case atStart => exact ⟨0, by omega, rfl, rfl, Below.refl _ _⟩
        case round =>
          obtain ⟨k, hk, rfl, rfl, hbw⟩ := hrel
          (first | (refine keepk (w.heap.size) hbw (by first | assumption | (simp; omega) | (simp; done)) ?_; intro lk ck fk))
          by_cases hlt : k ≤ 200
          · by_cases hs : sendE i o kn k = 0
            · have HR := Lib.hid (roomAt_yes HP.out hlt hs)
              go_wp2_with (go_at_call 37; refine (rsend_any i o kn k _).mono ?_; rintro e w5 ⟨rfl, hb5⟩)
              go_roundw
              case rel => exact ⟨k + 1, by omega, by go_num, by rw [HR.out], below_steps hbw hb5 hbw.size⟩
              case measure => simp [intOf]; omega
            · have HR := Lib.hid (roomAt_no HP.out hlt hs)
              go_wp2_with (go_at_call 37; refine (rsend_any i o kn k _).mono ?_; rintro e w5 ⟨rfl, hb5⟩)
              go_roundw
              case rel => exact ⟨k + 1, by omega, by go_num, by rw [HR.out], below_steps hbw hb5 hbw.size⟩
              case measure => simp [intOf]; omega
          · obtain rfl : k = 201 := by omega
            have HR := Lib.hid (roomAt_end HP.out)
            go_wp2_with fail
            go_meet
            case rel => exact ⟨by rw [E0.out], by rw [HV.out, HR.out], hbw⟩
      · have e0 := pathE_no h
        have e1 : (pathE i o kn == 0) = false := beq_eq_false_iff_ne.2 e0
        have HV : Hid (roomV i o kn = 0) := Lib.hid (by unfold roomV; rw [if_neg e0])
        clear h e0
        go_wp2_with fail
        go_meet
        case rel => exact ⟨rfl, by rw [HV.out], Below.refl _ _⟩
    case rest =>
      obtain ⟨rfl, rfl, hbl⟩ := hcut
      (first | (refine keepk (w.heap.size) hbl (by first | assumption | (simp; omega) | (simp; done)) ?_; intro lk ck fk; refine keepk (w3.heap.size) hbl (by first | assumption | (simp; omega) | (simp; done)) ?_; intro lk ck fk; refine keepk (w4.heap.size) hbl (by first | assumption | (simp; omega) | (simp; done)) ?_; intro lk ck fk) | (refine keepk (w.heap.size) hbl (by first | assumption | (simp; omega) | (simp; done)) ?_; intro lk ck fk; refine keepk (w3.heap.size) hbl (by first | assumption | (simp; omega) | (simp; done)) ?_; intro lk ck fk) | (refine keepk (w.heap.size) hbl (by first | assumption | (simp; omega) | (simp; done)) ?_; intro lk ck fk))
      have hs2 : Since w wc := (by refine Since.out ?_; repeat (first | with_reducible assumption | with_reducible exact Since.refl _ | with_reducible refine Since.later ?_ (by with_reducible assumption) | with_reducible refine Since.only ?_ (by with_reducible assumption) (by first | assumption | omega | (simp; omega)) | with_reducible refine Since.alloc ?_ _ | with_reducible refine Since.drewN ?_ _ | with_reducible refine Since.drew ?_ | with_reducible refine Since.set ?_ (by first | assumption | omega | (simp; omega)) _))
      go_upto_region 19 with (first | (go_at_call 31; refine (room_any i o kn _).mono ?_; rintro e w7 ⟨rfl, hb7⟩; (first | (refine keepk (w.heap.size) hb7 (by first | assumption | (simp; omega) | (simp; done)) ?_; intro lk ck fk; refine keepk (w3.heap.size) hb7 (by first | assumption | (simp; omega) | (simp; done)) ?_; intro lk ck fk; refine keepk (w4.heap.size) hb7 (by first | assumption | (simp; omega) | (simp; done)) ?_; intro lk ck fk) | (refine keepk (w.heap.size) hb7 (by first | assumption | (simp; omega) | (simp; done)) ?_; intro lk ck fk; refine keepk (w3.heap.size) hb7 (by first | assumption | (simp; omega) | (simp; done)) ?_; intro lk ck fk) | (refine keepk (w.heap.size) hb7 (by first | assumption | (simp; omega) | (simp; done)) ?_; intro lk ck fk))) | (go_at_call 12; refine (same_yes _ _ (HE.out.later (by refine Since.out ?_; repeat (first | with_reducible assumption | with_reducible exact Since.refl _ | with_reducible refine Since.later ?_ (by with_reducible assumption) | with_reducible refine Since.only ?_ (by with_reducible assumption) (by first | assumption | omega | (simp; omega)) | with_reducible refine Since.alloc ?_ _ | with_reducible refine Since.drewN ?_ _ | with_reducible refine Since.drew ?_ | with_reducible refine Since.set ?_ (by first | assumption | omega | (simp; omega)) _)))).mono ?_; rintro e w8 ⟨rfl, hb8⟩; (first | (refine keepk (w.heap.size) hb8 (by first | assumption | (simp; omega) | (simp; done)) ?_; intro lk ck fk; refine keepk (w3.heap.size) hb8 (by first | assumption | (simp; omega) | (simp; done)) ?_; intro lk ck fk; refine keepk (w4.heap.size) hb8 (by first | assumption | (simp; omega) | (simp; done)) ?_; intro lk ck fk) | (refine keepk (w.heap.size) hb8 (by first | assumption | (simp; omega) | (simp; done)) ?_; intro lk ck fk; refine keepk (w3.heap.size) hb8 (by first | assumption | (simp; omega) | (simp; done)) ?_; intro lk ck fk) | (refine keepk (w.heap.size) hb8 (by first | assumption | (simp; omega) | (simp; done)) ?_; intro lk ck fk))))
      go_cut [16] (fun s16 wx => s16 = .bool true ∧ Since w wx ∧ Row wx w.heap.size [.int .i64 i, .int .i64 o, .bool kn] ∧ Row wx w3.heap.size [.int .i64 0, .int .i64 0, .bool false] ∧ Row wx w4.heap.size [.int .i64 (sendI i o kn n), .int .i64 (sendO i o kn n), .bool (sendK i o kn n)])
      case first =>
        go_wp2_with fail
        go_meet
        case rel => exact ⟨rfl, (by refine Since.out ?_; repeat (first | with_reducible assumption | with_reducible exact Since.refl _ | with_reducible refine Since.later ?_ (by with_reducible assumption) | with_reducible refine Since.only ?_ (by with_reducible assumption) (by first | assumption | omega | (simp; omega)) | with_reducible refine Since.alloc ?_ _ | with_reducible refine Since.drewN ?_ _ | with_reducible refine Since.drew ?_ | with_reducible refine Since.set ?_ (by first | assumption | omega | (simp; omega)) _)), Row.mk3 (by go_simp) (by intro oo; go_simp) (by go_simp) (by go_simp) (by go_simp), Row.mk3 (by go_simp) (by intro oo; go_simp) (by go_simp) (by go_simp) (by go_simp), Row.mk3 (by go_simp) (by intro oo; go_simp) (by go_simp) (by go_simp) (by go_simp)⟩
      case rest =>
      obtain ⟨rfl, hs5, q2, q7, q9⟩ := hcut
      (repeat clear ck); (repeat clear fk); (repeat clear lk)
      clear c20 c21 c22 c70 c71 c72 c90 c91 c92
      obtain ⟨l2, f2, c20, c21, c22⟩ := q2.get3
      obtain ⟨l7, f7, c70, c71, c72⟩ := q7.get3
      obtain ⟨l9, f9, c90, c91, c92⟩ := q9.get3
      repeat ((fail_if_success (with_reducible refine stop_at 20 ?_)); first | fail | go_values | go_skip | go_guarded | go_step | go_upon | go_back | go_simp)
      go_cut [5] (fun s5 wx => s5 = .int .i64 (proveE i o kn) ∧ Since w wx ∧ Row wx w.heap.size [.int .i64 i, .int .i64 o, .bool kn] ∧ Row wx w3.heap.size [.int .i64 (proveI i o kn), .int .i64 (proveO i o kn), .bool (proveK i o kn)] ∧ Row wx w4.heap.size [.int .i64 (sendI i o kn n), .int .i64 (sendO i o kn n), .bool (sendK i o kn n)])
      case first =>
        by_cases h : PathOk i o kn
        · have e0 := pathE_ok h
          by_cases hi : i = 0
          · obtain rfl : i = 0 := hi
            have HP : Hid (proveE 0 o kn = 5) := Lib.hid (by unfold proveE; rw [if_pos e0, if_pos rfl])
            have HQ : Hid (proveI 0 o kn = 0 ∧ proveO 0 o kn = 0 ∧ proveK 0 o kn = false) := Lib.hid (by unfold proveI proveO proveK; rw [HP.out]; exact ⟨rfl, rfl, rfl⟩)
            clear h
            go_wp2_with fail
            go_meet
            case rel => exact ⟨by (first | (rw [HP.out]; done) | (rw [HP.out]; rfl) | rw [HP.out, E0.out]), (by refine Since.out ?_; repeat (first | with_reducible assumption | with_reducible exact Since.refl _ | with_reducible refine Since.later ?_ (by with_reducible assumption) | with_reducible refine Since.only ?_ (by with_reducible assumption) (by first | assumption | omega | (simp; omega)) | with_reducible refine Since.alloc ?_ _ | with_reducible refine Since.drewN ?_ _ | with_reducible refine Since.drew ?_ | with_reducible refine Since.set ?_ (by first | assumption | omega | (simp; omega)) _)), Row.mk3 (by go_simp) (by intro oo; go_simp) (by go_simp) (by go_simp) (by go_simp), Row.mk3 (by go_simp) (by intro oo; go_simp) (by rw [HQ.out.1]; go_simp) (by rw [HQ.out.2.1]; go_simp) (by rw [HQ.out.2.2]; go_simp), Row.mk3 (by go_simp) (by intro oo; go_simp) (by go_simp) (by go_simp) (by go_simp)⟩
          · have e2 : (i == 0) = false := by simpa using hi
            have E0 := Lib.hid e0
            have HP : Hid (proveE i o kn = 0) := Lib.hid (by unfold proveE; rw [if_pos e0, if_neg hi])
            have HQ : Hid (proveI i o kn = i ∧ proveO i o kn = o ∧ proveK i o kn = true) := Lib.hid (by unfold proveI proveO proveK; rw [HP.out]; exact ⟨rfl, rfl, rfl⟩)
            clear h hi
            go_wp2_with fail
            go_meet
            case rel => exact ⟨by (first | (rw [HP.out]; done) | (rw [HP.out]; rfl) | rw [HP.out, E0.out]), (by refine Since.out ?_; repeat (first | with_reducible assumption | with_reducible exact Since.refl _ | with_reducible refine Since.later ?_ (by with_reducible assumption) | with_reducible refine Since.only ?_ (by with_reducible assumption) (by first | assumption | omega | (simp; omega)) | with_reducible refine Since.alloc ?_ _ | with_reducible refine Since.drewN ?_ _ | with_reducible refine Since.drew ?_ | with_reducible refine Since.set ?_ (by first | assumption | omega | (simp; omega)) _)), Row.mk3 (by go_simp) (by intro oo; go_simp) (by go_simp) (by go_simp) (by go_simp), Row.mk3 (by go_simp) (by intro oo; go_simp) (by rw [HQ.out.1]; go_simp) (by rw [HQ.out.2.1]; go_simp) (by rw [HQ.out.2.2]; go_simp), Row.mk3 (by go_simp) (by intro oo; go_simp) (by go_simp) (by go_simp) (by go_simp)⟩
        · have e0 := pathE_no h
          have e1 : (pathE i o kn == 0) = false := beq_eq_false_iff_ne.2 e0
          have HP : Hid (proveE i o kn = pathE i o kn) := Lib.hid (by unfold proveE; rw [if_neg e0])
          have HQ : Hid (proveI i o kn = 0 ∧ proveO i o kn = 0 ∧ proveK i o kn = false) := Lib.hid (by unfold proveI proveO proveK; rw [HP.out, if_neg e0, if_neg e0, if_neg e0]; exact ⟨rfl, rfl, rfl⟩)
          clear h e0
          go_wp2_with fail
          go_meet
          case rel => exact ⟨by (first | (rw [HP.out]; done) | (rw [HP.out]; rfl) | rw [HP.out, E0.out]), (by refine Since.out ?_; repeat (first | with_reducible assumption | with_reducible exact Since.refl _ | with_reducible refine Since.later ?_ (by with_reducible assumption) | with_reducible refine Since.only ?_ (by with_reducible assumption) (by first | assumption | omega | (simp; omega)) | with_reducible refine Since.alloc ?_ _ | with_reducible refine Since.drewN ?_ _ | with_reducible refine Since.drew ?_ | with_reducible refine Since.set ?_ (by first | assumption | omega | (simp; omega)) _)), Row.mk3 (by go_simp) (by intro oo; go_simp) (by go_simp) (by go_simp) (by go_simp), Row.mk3 (by go_simp) (by intro oo; go_simp) (by rw [HQ.out.1]; go_simp) (by rw [HQ.out.2.1]; go_simp) (by rw [HQ.out.2.2]; go_simp), Row.mk3 (by go_simp) (by intro oo; go_simp) (by go_simp) (by go_simp) (by go_simp)⟩
      case rest =>
        obtain ⟨rfl, hs3, q2, q7, q9⟩ := hcut
        (repeat clear ck); (repeat clear fk); (repeat clear lk)
        clear c20 c21 c22 c70 c71 c72 c90 c91 c92
        obtain ⟨l2, f2, c20, c21, c22⟩ := q2.get3
        obtain ⟨l7, f7, c70, c71, c72⟩ := q7.get3
        obtain ⟨l9, f9, c90, c91, c92⟩ := q9.get3
        go_wp2_with (first | (go_at_call 38; refine (prove_any i o kn _).mono ?_; rintro e w9 ⟨rfl, hb9⟩; (first | (refine keepk (w.heap.size) hb9 (by first | assumption | (simp; omega) | (simp; done)) ?_; intro lk ck fk; refine keepk (w3.heap.size) hb9 (by first | assumption | (simp; omega) | (simp; done)) ?_; intro lk ck fk; refine keepk (w4.heap.size) hb9 (by first | assumption | (simp; omega) | (simp; done)) ?_; intro lk ck fk) | (refine keepk (w.heap.size) hb9 (by first | assumption | (simp; omega) | (simp; done)) ?_; intro lk ck fk; refine keepk (w3.heap.size) hb9 (by first | assumption | (simp; omega) | (simp; done)) ?_; intro lk ck fk) | (refine keepk (w.heap.size) hb9 (by first | assumption | (simp; omega) | (simp; done)) ?_; intro lk ck fk))) | (go_at_call 12; refine (same_yes _ _ (HE.out.later (by refine Since.out ?_; repeat (first | with_reducible assumption | with_reducible exact Since.refl _ | with_reducible refine Since.later ?_ (by with_reducible assumption) | with_reducible refine Since.only ?_ (by with_reducible assumption) (by first | assumption | omega | (simp; omega)) | with_reducible refine Since.alloc ?_ _ | with_reducible refine Since.drewN ?_ _ | with_reducible refine Since.drew ?_ | with_reducible refine Since.set ?_ (by first | assumption | omega | (simp; omega)) _)))).mono ?_; rintro e w8 ⟨rfl, hb8⟩; (first | (refine keepk (w.heap.size) hb8 (by first | assumption | (simp; omega) | (simp; done)) ?_; intro lk ck fk; refine keepk (w3.heap.size) hb8 (by first | assumption | (simp; omega) | (simp; done)) ?_; intro lk ck fk; refine keepk (w4.heap.size) hb8 (by first | assumption | (simp; omega) | (simp; done)) ?_; intro lk ck fk) | (refine keepk (w.heap.size) hb8 (by first | assumption | (simp; omega) | (simp; done)) ?_; intro lk ck fk; refine keepk (w3.heap.size) hb8 (by first | assumption | (simp; omega) | (simp; done)) ?_; intro lk ck fk) | (refine keepk (w.heap.size) hb8 (by first | assumption | (simp; omega) | (simp; done)) ?_; intro lk ck fk))))
        go_ret
        exact ⟨rfl, (by refine Since.out ?_; repeat (first | with_reducible assumption | with_reducible exact Since.refl _ | with_reducible refine Since.later ?_ (by with_reducible assumption) | with_reducible refine Since.only ?_ (by with_reducible assumption) (by first | assumption | omega | (simp; omega)) | with_reducible refine Since.alloc ?_ _ | with_reducible refine Since.drewN ?_ _ | with_reducible refine Since.drew ?_ | with_reducible refine Since.set ?_ (by first | assumption | omega | (simp; omega)) _))⟩

/-! the row -/
theorem own : ownKnob Tryd.prog.godebug = none := by kernel_rfl
theorem laidOut : laidOutB Tryd.prog = true := by kernel_rfl
set_option maxRecDepth 100000 in
theorem contract (H : Type) (enc : TypeId × Value → H) (W : World) (base : Nat) (args : Array Value) (ds gs : List (DataW H)) (before : List MemPlace)
    (hval : ∀ (j : Nat) t v, Tryd.f9.params[j]? = some t → args[j]? = some v → Value.okWide Tryd.prog W .any base t v)
    (hW : DataW.Whole enc Tryd.prog Tryd.f9.params.toList Rows.pathTellsSpec.vars false W args.toList ds gs before) (hL : laidMetH Tryd.prog Rows.pathTellsRow.laid W) :
    Calls Tryd.prog 9 args W fun e W' => ∃ v, e = .returned v ∧ Rows.pathTellsSpec.post enc Tryd.prog Tryd.f9 false true false false W args v W' := by
  have hW' := hW
  obtain ⟨p, q, hA0, hV, rfl, hfz, hnd⟩ := hW
  have hA : DataW.TrodAll enc Tryd.prog W 0 (fun _ => true) true Tryd.f9.params.toList args.toList ds p := hA0
  rw [Tryd.params9] at hA hval
  obtain ⟨v0, vs0, d0, ds0, p0, q0, hargs, rfl, rfl, h0, r0⟩ := trodAll_cons hA
  obtain ⟨v1, vs1, d1, ds1, p1, q1, rfl, rfl, rfl, h1, r1⟩ := trodAll_cons r0
  obtain ⟨rfl, rfl, rfl⟩ := trodAll_nil r1
  obtain rfl : args = #[v0, v1] := by cases args; simp_all
  obtain ⟨rfl, rfl⟩ := trodVars_none hV
  have k0 := h0
  have lt0 : ∀ x ∈ p0, x.block < W.heap.size := by obtain ⟨m, hm⟩ := k0; exact DataW.trod_lt m _ _ _ hm
  obtain ⟨c0_0, c0_1, c0_2, y0_0, y0_1, y0_2, m0, rfl, hd0, hp0, u0_0, u0_1, u0_2⟩ := Joins.open_agg3 Tryd.underlying58 (by kernel_rfl) (by kernel_rfl) (hval 0 58 v0 rfl rfl) h0
  obtain ⟨a0_0, e0_0, f0_0, w0_0⟩ := DataW.trod_int Tryd.underlying3 u0_0
  obtain ⟨a0_1, e0_1, f0_1, w0_1⟩ := DataW.trod_int Tryd.underlying3 u0_1
  obtain ⟨a0_2, e0_2, f0_2⟩ := DataW.trod_bool Tryd.underlying4 u0_2
  simp only [List.cons.injEq, and_true] at e0_0 e0_1 e0_2
  subst e0_0 e0_1 e0_2
  obtain ⟨a1, rfl, rfl, rfl, w1⟩ := open_int Tryd.underlying3 (hval 1 3 v1 rfl rfl) h1
  have lw := laidWalk hL
  refine (walk a0_0 a0_1 a0_2 a1 W w0_0 w0_1 w1 lw).mono fun e W' ⟨he, bel⟩ => ?_
  subst he
  exact ⟨_, rfl, _, _, _, [], _, [], hW', trodAll_mk1 (shut_bool Tryd.underlying4 _), (trodAll_cons_mk (Below.trod laidOut (by kernel_rfl) (of_decide_eq_true (by kernel_rfl)) k0 bel lt0) (trodAll_cons_mk (shut_int Tryd.underlying3 w1) trodAll_mk0)), rfl, bel.frame _, fun h => by cases h⟩

theorem reads (os : Os) {H : Type} (enc : TypeId × Value → H) : ∃ places, DataW.whole enc Tryd.prog ((laidWorld os).forCall (fun _ _ => 0) ⟨#[], #[.agg #[.int .i64 0, .int .i64 0, .bool false], .int .i64 0], []⟩).memory Tryd.f9.params.toList Rows.pathTellsSpec.vars false (#[.agg #[.int .i64 0, .int .i64 0, .bool false], .int .i64 0] : Array Value).toList 8 = some ([.agg [.lit (.int .i64 0), .lit (.int .i64 0), .lit (.bool false)], .lit (.int .i64 0)], [], places) :=
  ⟨[], by kernel_rfl⟩
theorem laid_met (os : Os) : laidMetH Tryd.prog Rows.pathTellsRow.laid ((laidWorld os).forCall (fun _ _ => 0) ⟨#[], #[.agg #[.int .i64 0, .int .i64 0, .bool false], .int .i64 0], []⟩).memory := laidMetW os _

set_option maxRecDepth 100000 in
theorem lifted (os : Os) (started : os.Started) (H : Type) (enc : TypeId × Value → H) (F : Stop.Interp) :
    ReturnsInHanded {} Tryd.checked os 9 .any ((OpenSpec.ofChange Rows.pathTellsSpec).preRow enc Tryd.prog Tryd.f9 Rows.pathTellsRow.domain false Rows.pathTellsRow.laid) (((OpenSpec.ofChange Rows.pathTellsSpec).at F).post enc Tryd.prog Tryd.f9 false true false false) := by
  obtain ⟨places, hx⟩ := reads os enc
  refine returnsInHanded_of_row (C := Tryd.checked) (s := OpenSpec.ofChange Rows.pathTellsSpec) own started (by kernel_rfl) Tryd.func9
    (witness_row_at (enc := enc) (C := Tryd.checked) false (laidWorld os) #[.agg #[.int .i64 0, .int .i64 0, .bool false], .int .i64 0] rfl (by kernel_rfl) (by kernel_rfl) (by kernel_rfl)
      (OpenSpec.preRow_of_cond 8 hx (by kernel_rfl) (fun k hk => by cases hk) (by kernel_rfl) (laid_met os))) ?_
  intro W base args ds gs before hval hW _ _ _ hL _ _
  exact contract H enc W base args ds gs before hval hW hL

theorem said : Rows.PathTellsSaid :=
  OpenClaim.holds_of_cond 9 Tryd.f9 rfl rfl rfl rfl rfl rfl rfl ⟨rfl, rfl, rfl, rfl, rfl⟩ rfl rfl rfl rfl rfl (by kernel_rfl) Tryd.func9 (by kernel_rfl)
    (of_decide_eq_true (by kernel_rfl)) (by unfold Func.isWrapper; first | (rw [if_pos (by decide +kernel)]; kernel_rfl) | (rw [if_neg (by decide +kernel)]; exact ⟨rfl, rfl⟩))
    (fun os started H enc _ F => by rw [OpenClaim.pre_eq_preRow]; exact lifted os started H enc F)

theorem plain (f : FuncId) (fn : Func) (hf : Tryd.pinned.checked.prog.funcNamed "wanderwire/wirelaw1.PathTells" = some f) (hfn : Tryd.pinned.checked.prog.funcs[f]? = some fn) :
    true = Tryd.pinned.checked.prog.looks [] ∧ ∀ (j : Nat) t, fn.params[j]? = some t → Tryd.pinned.checked.prog.wantsStandIn t = false := by
  obtain rfl : f = 9 := Option.some.inj ((show Tryd.prog.funcNamed "wanderwire/wirelaw1.PathTells" = some 9 by kernel_rfl).symm.trans hf) |>.symm
  obtain rfl : fn = Tryd.f9 := (Option.some.inj (Tryd.func9.symm.trans hfn)).symm
  refine ⟨by kernel_rfl, fun j t ht => ?_⟩
  rw [Tryd.params9] at ht
  have ht' := Array.mem_of_getElem? ht
  have hall : (([58, 3] : List Nat).all fun t => !Tryd.prog.wantsStandIn t) = true := by kernel_rfl
  have hq := List.all_eq_true.1 hall t (by simpa using ht')
  have hq2 : Tryd.prog.wantsStandIn t = false := by simpa using hq
  exact hq2

theorem card : Rows.PathTellsCardSaid :=
  Claim7.holds_tied_plain_at .later [] _ _ _ _ said (fun _ h => by cases h) (by kernel_rfl) (fun _ h => by cases h) pathTells_row_tie rfl ⟨rfl, rfl⟩ (by kernel_rfl) rfl plain (by kernel_rfl)
#print axioms card
end Go.Proofs.YtmofahmkgignaaaDoor.pathTells
