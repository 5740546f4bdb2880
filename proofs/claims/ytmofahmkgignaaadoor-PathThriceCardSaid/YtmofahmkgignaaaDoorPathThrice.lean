/- PathThrice: for every list of numbers the law returns true: on a path that is not known no more was sent than three times what came; as much as there is room for may be sent, and one more not. Condition: errors.errorType holds its handle (the row lists it, the card ties it). -/
import Derived.Test.YtmofahmkgignaaaDoorPathAny
import Derived.Test.YtmofahmkgignaaaDoorLaid
import Derived.Test.YtmofahmkgignaaaDoorRules
import Derived.Test.YtmofahmkgignaaaDoorSince
import Derived.Deep.DeepCutAuto
import Derived.Deep.RegionHeld3
import Derived.Test.YtmofahmkgignaaaDoorCards
import Derived.Test.YtmofahmkgignaaaDoorTie
import Derived.Deep.DeepHandedRow
import Derived.LaidLaws
import Derived.LaidHandle
import Derived.Deep.DeepWitnessRowRef
import Derived.Test.YtmofahmkgignaaaDoorRows
import Derived.WalkKit
import Derived.ProofKit
import Derived.OpenShut
import Derived.ShutString
import Derived.ChangeOld
import Derived.Below
import Derived.Lib.SmallJoins
import Derived.Deep.Slices
import Derived.Deep.Matrix
import Derived.Deep.Strs
namespace Go.Proofs.YtmofahmkgignaaaDoor.pathThrice
open Go.ChangeShapes Go.WideShapes Go.ChangeAt Go.RowKit
open Go.ChangeMaps (open_string shut_string)
set_option linter.unusedVariables false

noncomputable abbrev laidWorld := YtmofahmkgignaaaDoor.laidWorld
theorem laidMetW (os : Os) (args : Array Value) : laidMetH Tryd.prog Rows.pathThriceRow.laid ((laidWorld os).forCall (fun _ _ => 0) ⟨#[], args, []⟩).memory := laidMet_et os args
theorem laidWalk {W : World} (h : laidMetH Tryd.prog Rows.pathThriceRow.laid W) : ETok W := laid_et h

/-- what holds of a path that is not known, k rounds over -/
structure PInv (i o : Int) (k : Nat) : Prop where
  i0 : 0 ≤ i
  i1 : i ≤ 200 * k
  o0 : 0 ≤ o
  o1 : o ≤ 200 * k
  lt : o ≤ 3 * i
theorem PInv.ok {i o : Int} {k : Nat} (h : PInv i o k) (hk : k ≤ 80) : PathOk i o false :=
  ⟨h.i0, by have := h.i1; omega, h.o0, by have := h.o1; omega, fun _ => h.lt⟩
theorem PInv.room {i o : Int} {k : Nat} (h : PInv i o k) (hk : k ≤ 80) : 0 ≤ roomN i o false ∧ roomN i o false ≤ 200 ∧ sendE i o false (roomN i o false) = 0 ∧ sendE i o false (roomN i o false + 1) ≠ 0 ∧ (roomN i o false < 200 → sendE i o false (roomN i o false + 1) = 8) := by
  obtain ⟨i0, i1, o0, o1, lt⟩ := h
  have hp : pathE i o false = 0 := pathE_ok (PInv.ok ⟨i0, i1, o0, o1, lt⟩ hk)
  unfold sendE
  rw [hp]
  have hr : roomN i o false = if 3 * i - o < 200 then 3 * i - o else 200 := by unfold roomN; simp; split <;> omega
  rw [hr]
  simp
  by_cases h2 : 3 * i - o < 200
  · rw [if_pos h2]
    refine ⟨by omega, by omega, ?_, ?_, ?_⟩
    · rw [if_pos (by omega)]; omega
    · rw [if_pos (by omega), if_pos (by omega)]; omega
    · intro _; rw [if_pos (by omega), if_pos (by omega)]
  · rw [if_neg h2]
    refine ⟨by omega, by omega, ?_, ?_, ?_⟩
    · rw [if_pos (by omega)]; omega
    · rw [if_neg (by omega)]; omega
    · intro h; omega
theorem send_step {i o n : Int} {k : Nat} (h : PInv i o k) (he : sendE i o false n = 0) : sendI i o false n = i ∧ sendO i o false n = o + n ∧ sendK i o false n = false ∧ PInv i (o + n) (k + 1) := by
  refine ⟨by unfold sendI; rw [if_pos he], by unfold sendO; rw [if_pos he], by unfold sendK; rw [if_pos he], ?_⟩
  obtain ⟨i0, i1, o0, o1, lt⟩ := h
  unfold sendE at he
  split at he
  · split at he
    · rename_i h2
      split at he
      · cases he
      · rename_i h3
        simp at h3
        exact ⟨i0, by omega, by omega, by omega, by omega⟩
    · cases he
  · rename_i h2; exact absurd he h2
theorem came_step {i o n : Int} {k : Nat} (h : PInv i o k) (he : cameE i o false n = 0) : cameI i o false n = i + n ∧ cameO i o false n = o ∧ cameK i o false n = false ∧ PInv (i + n) o (k + 1) := by
  refine ⟨by unfold cameI; rw [if_pos he], by unfold cameO; rw [if_pos he], by unfold cameK; rw [if_pos he], ?_⟩
  obtain ⟨i0, i1, o0, o1, lt⟩ := h
  unfold cameE at he
  split at he
  · split at he
    · rename_i h2
      exact ⟨by omega, by omega, by omega, by omega, by omega⟩
    · cases he
  · rename_i h2; exact absurd he h2

theorem sendK_false (i o n : Int) : sendK i o false n = false := by unfold sendK; split <;> rfl
theorem cameK_false (i o n : Int) : cameK i o false n = false := by unfold cameK; split <;> rfl
theorem PInv.next {i o : Int} {k : Nat} (h : PInv i o k) : PInv i o (k + 1) := ⟨h.i0, by have := h.i1; omega, h.o0, by have := h.o1; omega, h.lt⟩

set_option maxRecDepth 100000 in
set_option maxHeartbeats 1600000 in
theorem walk (v0 : Value) (z0 : List Int) (w : World) (w0 : IntsIn w v0 z0) (hE : ETok w) :
    Calls Tryd.prog 8 #[v0] w fun e w' => e = .returned (.bool true) ∧ Below w.heap.size w w' := by
  obtain ⟨bd0, A, cap, rfl, hle0, hm0, hc⟩ := w0
  have HE := Lib.hid hE
  have BD0 := Lib.hid bd0
  have HC := Lib.hid hc
  unfold maxLen at hm0
  clear hc bd0 hE
  have hZ : z0.length ≤ 9223372036854775807 := by omega
  have hp0 : PathOk 10 25 false := ⟨by omega, by omega, by omega, by omega, by omega⟩
  have hr0 : Hid (roomN 10 25 false = 5) := Lib.hid (by decide)
  go_enter Tryd.func8, Tryd.ntmps8
  go_upto_region 5 with (go_at_call 31; refine (room_yes 10 25 false hp0 _).mono ?_; rintro e w1 ⟨rfl, hb1⟩; rw [hr0.out])
  go_cut [6] (fun s6 wx => s6 = .int .i64 0 ∧ Since w wx ∧ Row wx w1.heap.size [.int .i64 0, .int .i64 0, .bool false])
  case first =>
    go_wp2_with fail
    go_meet
    case rel => exact ⟨rfl, (by refine Since.out ?_; repeat (first | with_reducible assumption | with_reducible exact Since.refl _ | with_reducible refine Since.later ?_ (by with_reducible assumption) | with_reducible refine Since.only ?_ (by with_reducible assumption) (by first | assumption | omega | (simp; omega)) | with_reducible refine Since.alloc ?_ _ | with_reducible refine Since.drewN ?_ _ | with_reducible refine Since.drew ?_ | with_reducible refine Since.set ?_ (by first | assumption | omega | (simp; omega)) _)), Row.mk3 (by go_simp) (by intro oo; go_simp) (by go_simp) (by go_simp) (by go_simp)⟩
  case rest =>
    obtain ⟨rfl, hs1, q5⟩ := hcut
    have o1 : w.heap.size ≤ w1.heap.size := hb1.size
    clear hb1
    generalize w1.heap.size = g5 at *
    go_wp2_with fail
    go_loopw [6] (fun s6 wr => ∃ (k : Nat) (I O : Int), s6 = .int .i64 k ∧ k ≤ 80 ∧ PInv I O k ∧ Since w wr ∧ Row wr g5 [.int .i64 I, .int .i64 O, .bool false]) (fun s6 _ => 80 - (intOf s6).toNat)
    case atStart => exact ⟨0, 0, 0, rfl, by omega, ⟨by omega, by omega, by omega, by omega, by omega⟩, hs1, q5⟩
    case round =>
      obtain ⟨k, I, O, rfl, hk, hI, hs2, q5⟩ := hrel
      by_cases hlen : k < z0.length
      case neg =>
        have hlen' : decide ((k : Int) < (z0.length : Int)) = false := by simp; omega
        clear hI
        go_wp2_with fail
        go_ret
        exact ⟨rfl, hs2⟩
      by_cases h80 : k < 80
      case neg =>
        have hlen' : (k : Int) < (z0.length : Int) := by omega
        have h80' : decide ((k : Int) < 80) = false := by simp; omega
        clear hI
        go_wp2_with fail
        go_ret
        exact ⟨rfl, hs2⟩
      have hlen' : (k : Int) < (z0.length : Int) := by omega
      have h80' : (k : Int) < 80 := by omega
      obtain ⟨b, off, rfl, hlt, hc⟩ := HC.out (by rintro rfl; simp at hlen)
      have hz := hc k hlen
      obtain ⟨zb1, zb2⟩ := ith_bounds BD0.out k
      generalize ith z0 k = z at *
      have hb0 : b < wc.heap.size := Nat.lt_of_lt_of_le hlt hs1.size
      have hbr : b < wr.heap.size := Nat.lt_of_lt_of_le hlt hs2.size
      have cz : wr.cell? ⟨b, off + k, none⟩ = some (.int .i64 z) := hs2.cell hlt hz
      clear hc hz
      obtain ⟨l5, f5, c50, c51, c52⟩ := q5.get3
      obtain ⟨r0, r1, r2, r3, r4⟩ := hI.room hk
      have hp := hI.ok hk
      have HI := Lib.hid hI
      have HS : Hid (∀ m, sendE I O false m = 0 → PInv (sendI I O false m) (sendO I O false m) (k + 1)) := Lib.hid (fun m he => by obtain ⟨e1, e2, _, e4⟩ := send_step hI he; rw [e1, e2]; exact e4)
      have HC2 : Hid (∀ m, cameE I O false m = 0 → PInv (cameI I O false m) (cameO I O false m) (k + 1)) := Lib.hid (fun m he => by obtain ⟨e1, e2, _, e4⟩ := came_step hI he; rw [e1, e2]; exact e4)
      obtain ⟨i0, i1, o0, o1', lt⟩ := hI
      obtain ⟨n, hn⟩ : ∃ n, roomN I O false = n := ⟨_, rfl⟩
      rw [hn] at r0 r1 r2 r3 r4
      have HN := Lib.hid hn
      have R2 := Lib.hid r2
      have R3 := Lib.hid r3
      have R4 := Lib.hid r4
      have HP := Lib.hid hp
      clear hn r2 r3 r4 hp
      repeat ((fail_if_success (with_reducible refine stop_at 13 ?_)); first | (first | (go_at_call 31; refine (room_yes I O false HP.out _).mono ?_; rintro e w2 ⟨rfl, hb2⟩; rw [HN.out]; (first | (refine keepk (g5) hb2 (by first | assumption | (simp; omega) | (simp; done)) ?_; intro lk ck fk; refine keepk (b) hb2 (by first | assumption | (simp; omega) | (simp; done)) ?_; intro lk ck fk) | (refine keepk (g5) hb2 (by first | assumption | (simp; omega) | (simp; done)) ?_; intro lk ck fk))) | (go_at_call 32; (first | ((with_reducible refine (send_yes I O false n R2.out _).mono ?_); rintro e w3 ⟨rfl, hb3⟩; (first | (refine keepk (g5) hb3 (by first | assumption | (simp; omega) | (simp; done)) ?_; intro lk ck fk; refine keepk (b) hb3 (by first | assumption | (simp; omega) | (simp; done)) ?_; intro lk ck fk) | (refine keepk (g5) hb3 (by first | assumption | (simp; omega) | (simp; done)) ?_; intro lk ck fk))) | ((with_reducible refine (send_no I O false (n + 1) R3.out _).mono ?_); rintro e w4 ⟨rfl, hb4⟩; (first | (refine keepk (g5) hb4 (by first | assumption | (simp; omega) | (simp; done)) ?_; intro lk ck fk; refine keepk (b) hb4 (by first | assumption | (simp; omega) | (simp; done)) ?_; intro lk ck fk; refine keepk (w3.heap.size) hb4 (by first | assumption | (simp; omega) | (simp; done)) ?_; intro lk ck fk) | (refine keepk (g5) hb4 (by first | assumption | (simp; omega) | (simp; done)) ?_; intro lk ck fk; refine keepk (b) hb4 (by first | assumption | (simp; omega) | (simp; done)) ?_; intro lk ck fk) | (refine keepk (g5) hb4 (by first | assumption | (simp; omega) | (simp; done)) ?_; intro lk ck fk)))))) | go_values | go_skip | go_guarded | go_step | go_upon | go_back | go_simp)
      go_cut [12, 13] (fun s12 s13 wx => Since w wx ∧ Row wx g5 [.int .i64 I, .int .i64 O, .bool false] ∧ wx.cell? ⟨b, off + k, none⟩ = some (.int .i64 z) ∧ Row wx w3.heap.size [.int .i64 I, .int .i64 (O + n), .bool false])
      case first =>
        by_cases h200 : n < 200
        · have R5 := Lib.hid (R4.out h200)
          rw [R5.out]
          go_wp2_with (go_at_call 12; refine (same_iface 8 8 _ (HE.out.later (by refine Since.out ?_; repeat (first | with_reducible assumption | with_reducible exact Since.refl _ | with_reducible refine Since.later ?_ (by with_reducible assumption) | with_reducible refine Since.only ?_ (by with_reducible assumption) (by first | assumption | omega | (simp; omega)) | with_reducible refine Since.alloc ?_ _ | with_reducible refine Since.drewN ?_ _ | with_reducible refine Since.drew ?_ | with_reducible refine Since.set ?_ (by first | assumption | omega | (simp; omega)) _)))).mono ?_; rintro e w5 ⟨rfl, hb5⟩; (first | (refine keepk (g5) hb5 (by first | assumption | (simp; omega) | (simp; done)) ?_; intro lk ck fk; refine keepk (b) hb5 (by first | assumption | (simp; omega) | (simp; done)) ?_; intro lk ck fk; refine keepk (w3.heap.size) hb5 (by first | assumption | (simp; omega) | (simp; done)) ?_; intro lk ck fk) | (refine keepk (g5) hb5 (by first | assumption | (simp; omega) | (simp; done)) ?_; intro lk ck fk; refine keepk (b) hb5 (by first | assumption | (simp; omega) | (simp; done)) ?_; intro lk ck fk) | (refine keepk (g5) hb5 (by first | assumption | (simp; omega) | (simp; done)) ?_; intro lk ck fk)))
          go_meet
          case rel => exact ⟨(by refine Since.out ?_; repeat (first | with_reducible assumption | with_reducible exact Since.refl _ | with_reducible refine Since.later ?_ (by with_reducible assumption) | with_reducible refine Since.only ?_ (by with_reducible assumption) (by first | assumption | omega | (simp; omega)) | with_reducible refine Since.alloc ?_ _ | with_reducible refine Since.drewN ?_ _ | with_reducible refine Since.drew ?_ | with_reducible refine Since.set ?_ (by first | assumption | omega | (simp; omega)) _)), Row.mk3 (by go_simp) (by intro oo; go_simp) (by go_simp) (by go_simp) (by go_simp), by go_simp, Row.mk3 (by go_simp) (by intro oo; go_simp) (by go_simp) (by go_simp) (by go_simp)⟩
        · go_wp2_with fail
          go_meet
          case rel => exact ⟨(by refine Since.out ?_; repeat (first | with_reducible assumption | with_reducible exact Since.refl _ | with_reducible refine Since.later ?_ (by with_reducible assumption) | with_reducible refine Since.only ?_ (by with_reducible assumption) (by first | assumption | omega | (simp; omega)) | with_reducible refine Since.alloc ?_ _ | with_reducible refine Since.drewN ?_ _ | with_reducible refine Since.drew ?_ | with_reducible refine Since.set ?_ (by first | assumption | omega | (simp; omega)) _)), Row.mk3 (by go_simp) (by intro oo; go_simp) (by go_simp) (by go_simp) (by go_simp), by go_simp, Row.mk3 (by go_simp) (by intro oo; go_simp) (by go_simp) (by go_simp) (by go_simp)⟩
      case rest =>
        obtain ⟨hs3, q5, cz, q9⟩ := hcut
        have o2 : w.heap.size ≤ w3.heap.size := by have := hs2.size; have := hb2.size; have := hb3.size; omega
        have n1 : g5 ≠ w3.heap.size := by omega
        have n2 : b ≠ w3.heap.size := by omega
        (repeat clear ck); (repeat clear fk); (repeat clear lk)
        clear hb2 hb3 hb4 l5 f5 c50 c51 c52 hbr
        generalize w3.heap.size = g9 at *
        have n3 := n1.symm
        have n4 := n2.symm
        obtain ⟨l5, f5, c50, c51, c52⟩ := q5.get3
        obtain ⟨l9, f9, c90, c91, c92⟩ := q9.get3
        repeat ((fail_if_success (with_reducible refine stop_at 16 ?_)); first | fail | go_values | go_skip | go_guarded | go_step | go_upon | go_back | go_simp)
        go_cut [13] (fun s13 wx => ∃ E I' O' : Int, s13 = errV E ∧ Row wx g9 [.int .i64 I', .int .i64 O', .bool false] ∧ (E = 0 → PInv I' O' (k + 1)) ∧ Since w wx ∧ Row wx g5 [.int .i64 I, .int .i64 O, .bool false])
        case first =>
          by_cases hneg : z < 0
          · have s1 : IntKind.i64.wrap (z + 1) = z + 1 := IntWalk.i64_in _ (by omega)
            have s2 : IntKind.i64.wrap (-(z + 1)) = -(z + 1) := IntWalk.i64_in _ (by omega)
            go_upto_region 17 with fail
            go_region_held3 (fun w' => w'.cell? ⟨g5, 0, none⟩ = some (.int .i64 I) ∧ w'.cell? ⟨g5, 1, none⟩ = some (.int .i64 O) ∧ w'.cell? ⟨g5, 2, none⟩ = some (.bool false) ∧ w'.cell? ⟨b, off + k, none⟩ = some (.int .i64 z)) (go_keep) (first | (go_at_call 32; refine (send_any I O false (-(z + 1)) _).mono ?_; rintro e w6 ⟨rfl, hb6⟩; (first | (refine keepk (g5) hb6 (by first | assumption | (simp; omega) | (simp; done)) ?_; intro lk ck fk; refine keepk (b) hb6 (by first | assumption | (simp; omega) | (simp; done)) ?_; intro lk ck fk; refine keepk (g9) hb6 (by first | assumption | (simp; omega) | (simp; done)) ?_; intro lk ck fk) | (refine keepk (g5) hb6 (by first | assumption | (simp; omega) | (simp; done)) ?_; intro lk ck fk; refine keepk (b) hb6 (by first | assumption | (simp; omega) | (simp; done)) ?_; intro lk ck fk) | (refine keepk (g5) hb6 (by first | assumption | (simp; omega) | (simp; done)) ?_; intro lk ck fk))))
            go_wp2_with fail
            go_meet
            case rel => exact ⟨sendE I O false (-(z + 1)), sendI I O false (-(z + 1)), sendO I O false (-(z + 1)), rfl, Row.mk3 (by go_simp) (by intro oo; go_simp) (by go_simp) (by go_simp) (by have hk0 := sendK_false I O (-(z + 1)); go_simp), fun he => HS.out _ he, (by refine Since.out ?_; repeat (first | with_reducible assumption | with_reducible exact Since.refl _ | with_reducible refine Since.later ?_ (by with_reducible assumption) | with_reducible refine Since.only ?_ (by with_reducible assumption) (by first | assumption | omega | (simp; omega)) | with_reducible refine Since.alloc ?_ _ | with_reducible refine Since.drewN ?_ _ | with_reducible refine Since.drew ?_ | with_reducible refine Since.set ?_ (by first | assumption | omega | (simp; omega)) _)), Row.mk3 (by go_simp) (by intro oo; go_simp) (by go_simp) (by go_simp) (by go_simp)⟩
          · go_upto_region 18 with fail
            go_region_held3 (fun w' => w'.cell? ⟨g5, 0, none⟩ = some (.int .i64 I) ∧ w'.cell? ⟨g5, 1, none⟩ = some (.int .i64 O) ∧ w'.cell? ⟨g5, 2, none⟩ = some (.bool false) ∧ w'.cell? ⟨b, off + k, none⟩ = some (.int .i64 z)) (go_keep) (first | (go_at_call 33; refine (came_any I O false z _).mono ?_; rintro e w6 ⟨rfl, hb6⟩; (first | (refine keepk (g5) hb6 (by first | assumption | (simp; omega) | (simp; done)) ?_; intro lk ck fk; refine keepk (b) hb6 (by first | assumption | (simp; omega) | (simp; done)) ?_; intro lk ck fk; refine keepk (g9) hb6 (by first | assumption | (simp; omega) | (simp; done)) ?_; intro lk ck fk) | (refine keepk (g5) hb6 (by first | assumption | (simp; omega) | (simp; done)) ?_; intro lk ck fk; refine keepk (b) hb6 (by first | assumption | (simp; omega) | (simp; done)) ?_; intro lk ck fk) | (refine keepk (g5) hb6 (by first | assumption | (simp; omega) | (simp; done)) ?_; intro lk ck fk))))
            go_wp2_with fail
            go_meet
            case rel => exact ⟨cameE I O false z, cameI I O false z, cameO I O false z, rfl, Row.mk3 (by go_simp) (by intro oo; go_simp) (by go_simp) (by go_simp) (by have hk0 := cameK_false I O z; go_simp), fun he => HC2.out _ he, (by refine Since.out ?_; repeat (first | with_reducible assumption | with_reducible exact Since.refl _ | with_reducible refine Since.later ?_ (by with_reducible assumption) | with_reducible refine Since.only ?_ (by with_reducible assumption) (by first | assumption | omega | (simp; omega)) | with_reducible refine Since.alloc ?_ _ | with_reducible refine Since.drewN ?_ _ | with_reducible refine Since.drew ?_ | with_reducible refine Since.set ?_ (by first | assumption | omega | (simp; omega)) _)), Row.mk3 (by go_simp) (by intro oo; go_simp) (by go_simp) (by go_simp) (by go_simp)⟩
        case rest =>
          obtain ⟨E, I', O', rfl, q9, hE0, hs4, q5⟩ := hcut
          (repeat clear ck); (repeat clear fk); (repeat clear lk)
          clear l5 f5 c50 c51 c52 l9 f9 c90 c91 c92 cz
          by_cases hE : E = 0
          · have hI2 := hE0 hE
            obtain rfl := hE
            clear hE0
            rw [errV_zero]
            have hp2 : Hid (PathOk I' O' false) := Lib.hid ⟨hI2.i0, by have := hI2.i1; omega, hI2.o0, by have := hI2.o1; omega, fun _ => hI2.lt⟩
            have hlt2 : decide (3 * I' < O') = false := by have := hI2.lt; simp; omega
            have HI2 := Lib.hid hI2
            have i2 : 0 ≤ I' ∧ I' ≤ 1073741823 := by have := hI2.i0; have := hI2.i1; omega
            obtain ⟨i2, i3⟩ := i2
            clear hI2
            obtain ⟨l5, f5, c50, c51, c52⟩ := q5.get3
            obtain ⟨l9, f9, c90, c91, c92⟩ := q9.get3
            go_wp2_with (go_at_call 34; refine (pcheck_yes I' O' false hp2.out _).mono ?_; rintro e w7 ⟨rfl, rfl⟩)
            go_roundw
            case rel => exact ⟨k + 1, I', O', by go_num, by omega, HI2.out, (by refine Since.out ?_; repeat (first | with_reducible assumption | with_reducible exact Since.refl _ | with_reducible refine Since.later ?_ (by with_reducible assumption) | with_reducible refine Since.only ?_ (by with_reducible assumption) (by first | assumption | omega | (simp; omega)) | with_reducible refine Since.alloc ?_ _ | with_reducible refine Since.drewN ?_ _ | with_reducible refine Since.drew ?_ | with_reducible refine Since.set ?_ (by first | assumption | omega | (simp; omega)) _)), Row.mk3 (by go_simp) (by intro oo; go_simp) (by go_simp) (by go_simp) (by go_simp)⟩
            case measure => simp [intOf]; omega
          · rw [errV_pos hE]
            go_wp2_with fail
            go_roundw
            case rel => exact ⟨k + 1, I, O, by go_num, by omega, HI.out.next, (by refine Since.out ?_; repeat (first | with_reducible assumption | with_reducible exact Since.refl _ | with_reducible refine Since.later ?_ (by with_reducible assumption) | with_reducible refine Since.only ?_ (by with_reducible assumption) (by first | assumption | omega | (simp; omega)) | with_reducible refine Since.alloc ?_ _ | with_reducible refine Since.drewN ?_ _ | with_reducible refine Since.drew ?_ | with_reducible refine Since.set ?_ (by first | assumption | omega | (simp; omega)) _)), q5⟩
            case measure => simp [intOf]; omega

/-! the row -/
theorem own : ownKnob Tryd.prog.godebug = none := by kernel_rfl
theorem laidOut : laidOutB Tryd.prog = true := by kernel_rfl
set_option maxRecDepth 100000 in
theorem contract (H : Type) (enc : TypeId × Value → H) (W : World) (base : Nat) (args : Array Value) (ds gs : List (DataW H)) (before : List MemPlace)
    (hval : ∀ (j : Nat) t v, Tryd.f8.params[j]? = some t → args[j]? = some v → Value.okWide Tryd.prog W .any base t v)
    (hW : DataW.Whole enc Tryd.prog Tryd.f8.params.toList Rows.pathThriceSpec.vars false W args.toList ds gs before) (hL : laidMetH Tryd.prog Rows.pathThriceRow.laid W) :
    Calls Tryd.prog 8 args W fun e W' => ∃ v, e = .returned v ∧ Rows.pathThriceSpec.post enc Tryd.prog Tryd.f8 false true false false W args v W' := by
  have hW' := hW
  obtain ⟨p, q, hA0, hV, rfl, hfz, hnd⟩ := hW
  have hA : DataW.TrodAll enc Tryd.prog W 0 (fun _ => true) true Tryd.f8.params.toList args.toList ds p := hA0
  rw [Tryd.params8] at hA hval
  obtain ⟨v0, vs0, d0, ds0, p0, q0, hargs, rfl, rfl, h0, r0⟩ := trodAll_cons hA
  obtain ⟨rfl, rfl, rfl⟩ := trodAll_nil r0
  obtain rfl : args = #[v0] := by cases args; simp_all
  obtain ⟨rfl, rfl⟩ := trodVars_none hV
  obtain ⟨a0, len0, cap0, rfl⟩ := okWide_slice Tryd.underlying47 (hval 0 47 v0 rfl rfl)
  have k0 := h0
  have lt0 : ∀ x ∈ p0, x.block < W.heap.size := by obtain ⟨m, hm⟩ := k0; exact DataW.trod_lt m _ _ _ hm
  obtain ⟨z0, w0⟩ : ∃ zs, IntsIn W (.slice a0 len0 cap0) zs := by
    obtain ⟨fuel, hf⟩ := h0
    exact intsIn_open Tryd.underlying47 Tryd.underlying3 (by kernel_rfl) hf lt0
  have lw := laidWalk hL
  refine (walk (.slice a0 len0 cap0) z0 W w0 lw).mono fun e W' ⟨he, bel⟩ => ?_
  subst he
  exact ⟨_, rfl, _, _, _, [], _, [], hW', trodAll_mk1 (shut_bool Tryd.underlying4 _), (trodAll_cons_mk (Below.trod laidOut (by kernel_rfl) (of_decide_eq_true (by kernel_rfl)) k0 bel lt0) trodAll_mk0), rfl, bel.frame _, fun h => by cases h⟩

theorem reads (os : Os) {H : Type} (enc : TypeId × Value → H) : ∃ places, DataW.whole enc Tryd.prog ((laidWorld os).forCall (fun _ _ => 0) ⟨#[], #[.slice none 0 0], []⟩).memory Tryd.f8.params.toList Rows.pathThriceSpec.vars false (#[.slice none 0 0] : Array Value).toList 8 = some ([.nil], [], places) :=
  ⟨[], by kernel_rfl⟩
theorem laid_met (os : Os) : laidMetH Tryd.prog Rows.pathThriceRow.laid ((laidWorld os).forCall (fun _ _ => 0) ⟨#[], #[.slice none 0 0], []⟩).memory := laidMetW os _

set_option maxRecDepth 100000 in
theorem lifted (os : Os) (started : os.Started) (H : Type) (enc : TypeId × Value → H) (F : Stop.Interp) :
    ReturnsInHanded {} Tryd.checked os 8 .any ((OpenSpec.ofChange Rows.pathThriceSpec).preRow enc Tryd.prog Tryd.f8 Rows.pathThriceRow.domain false Rows.pathThriceRow.laid) (((OpenSpec.ofChange Rows.pathThriceSpec).at F).post enc Tryd.prog Tryd.f8 false true false false) := by
  obtain ⟨places, hx⟩ := reads os enc
  refine returnsInHanded_of_row (C := Tryd.checked) (s := OpenSpec.ofChange Rows.pathThriceSpec) own started (by kernel_rfl) Tryd.func8
    (witness_row_at (enc := enc) (C := Tryd.checked) false (laidWorld os) #[.slice none 0 0] rfl (by kernel_rfl) (by kernel_rfl) (by kernel_rfl)
      (OpenSpec.preRow_of_cond 8 hx (by kernel_rfl) (fun k hk => by cases hk) (by kernel_rfl) (laid_met os))) ?_
  intro W base args ds gs before hval hW _ _ _ hL _ _
  exact contract H enc W base args ds gs before hval hW hL

theorem said : Rows.PathThriceSaid :=
  OpenClaim.holds_of_cond 8 Tryd.f8 rfl rfl rfl rfl rfl rfl rfl ⟨rfl, rfl, rfl, rfl, rfl⟩ rfl rfl rfl rfl rfl (by kernel_rfl) Tryd.func8 (by kernel_rfl)
    (of_decide_eq_true (by kernel_rfl)) (by unfold Func.isWrapper; first | (rw [if_pos (by decide +kernel)]; kernel_rfl) | (rw [if_neg (by decide +kernel)]; exact ⟨rfl, rfl⟩))
    (fun os started H enc _ F => by rw [OpenClaim.pre_eq_preRow]; exact lifted os started H enc F)

theorem plain (f : FuncId) (fn : Func) (hf : Tryd.pinned.checked.prog.funcNamed "wanderwire/wirelaw1.PathThrice" = some f) (hfn : Tryd.pinned.checked.prog.funcs[f]? = some fn) :
    true = Tryd.pinned.checked.prog.looks [] ∧ ∀ (j : Nat) t, fn.params[j]? = some t → Tryd.pinned.checked.prog.wantsStandIn t = false := by
  obtain rfl : f = 8 := Option.some.inj ((show Tryd.prog.funcNamed "wanderwire/wirelaw1.PathThrice" = some 8 by kernel_rfl).symm.trans hf) |>.symm
  obtain rfl : fn = Tryd.f8 := (Option.some.inj (Tryd.func8.symm.trans hfn)).symm
  refine ⟨by kernel_rfl, fun j t ht => ?_⟩
  rw [Tryd.params8] at ht
  have ht' := Array.mem_of_getElem? ht
  have hall : (([47] : List Nat).all fun t => !Tryd.prog.wantsStandIn t) = true := by kernel_rfl
  have hq := List.all_eq_true.1 hall t (by simpa using ht')
  have hq2 : Tryd.prog.wantsStandIn t = false := by simpa using hq
  exact hq2

theorem card : Rows.PathThriceCardSaid :=
  Claim7.holds_tied_plain_at .later [] _ _ _ _ said (fun _ h => by cases h) (by kernel_rfl) (fun _ h => by cases h) pathThrice_row_tie rfl ⟨rfl, rfl⟩ (by kernel_rfl) rfl plain (by kernel_rfl)
#print axioms card
end Go.Proofs.YtmofahmkgignaaaDoor.pathThrice
