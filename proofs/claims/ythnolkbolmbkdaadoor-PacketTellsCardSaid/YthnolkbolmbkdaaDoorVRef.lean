/- Contracts of wireref1.Long and wireref1.Bytes: what each returns. No condition but that the number may be. -/
import Derived.Test.YthnolkbolmbkdaaDoorVStr
namespace Go.Proofs.YthnolkbolmbkdaaDoor
open Go.ChangeShapes Go.WideShapes Go.ChangeAt Go.RowKit
set_option linter.unusedVariables false
attribute [local go_sem] isU8_some cb_some

theorem rlong_any (n : Int) (w : World) : Calls Tryd.prog 103 #[.int .i64 n] w fun e w' => e = .returned (.int .i64 (longN n)) ∧ w = w' := by
  by_cases a : n < 64
  · have E : Hid (longN n = 1) := Lib.hid (by unfold longN; rw [if_pos a])
    go_enter Tryd.func103, Tryd.ntmps103
    go_wp2
    go_ret
    exact ⟨end_int E.out.symm, rfl⟩
  by_cases b : n < 16384
  · have E : Hid (longN n = 2) := Lib.hid (by unfold longN; rw [if_neg a, if_pos b])
    go_enter Tryd.func103, Tryd.ntmps103
    go_wp2
    go_ret
    exact ⟨end_int E.out.symm, rfl⟩
  · have E : Hid (longN n = 4) := Lib.hid (by unfold longN; rw [if_neg a, if_neg b])
    go_enter Tryd.func103, Tryd.ntmps103
    go_wp2
    go_ret
    exact ⟨end_int E.out.symm, rfl⟩

theorem byteOf_mod {n : Int} (h : 0 ≤ n) : byteOf (n % 256) = byteOf n := by
  unfold byteOf
  apply UInt8.toNat_inj.1
  rw [UInt8.toNat_ofNat', UInt8.toNat_ofNat']
  omega

set_option maxRecDepth 100000 in
set_option maxHeartbeats 1600000 in
theorem rbytes_any (n : Int) (n0 : 0 ≤ n) (n1 : n ≤ 1073741823) (w : World) :
    Calls Tryd.prog 74 #[.int .i64 n] w fun e w' => e = .returned (.string ⟨(vbytes n).toArray⟩) ∧ Below w.heap.size w w' := by
  have c1 := conv1
  have c2 := conv2
  have c4 := conv4
  by_cases a : n < 64
  · have E : Hid (longN n = 1) := Lib.hid (by unfold longN; rw [if_pos a])
    have V : Hid (vbytes n = [byteOf n]) := Lib.hid (by unfold vbytes; rw [if_pos a])
    go_enter Tryd.func74, Tryd.ntmps74
    go_wp2_with (go_at_call 103; refine (rlong_any n _).mono ?_; rintro e w' ⟨rfl, rfl⟩; rw [E.out])
    go_ret
    exact ⟨by rw [V.out]; rfl, (by refine Since.out ?_; repeat (first | with_reducible assumption | with_reducible exact Since.refl _ | with_reducible refine Since.later ?_ (by with_reducible assumption) | with_reducible refine Since.only ?_ (by with_reducible assumption) (by first | assumption | omega | (simp; done) | (simp; omega)) | with_reducible refine Since.alloc ?_ _ | with_reducible refine Since.drewN ?_ _ | with_reducible refine Since.drew ?_ | with_reducible refine Since.set ?_ (by first | assumption | omega | (simp; done) | (simp; omega)) _))⟩
  by_cases b : n < 16384
  · have E : Hid (longN n = 2) := Lib.hid (by unfold longN; rw [if_neg a, if_pos b])
    have V : Hid (vbytes n = [byteOf (64 + n / 256), byteOf (n % 256)]) := Lib.hid (by unfold vbytes; rw [if_neg a, if_pos b])
    go_enter Tryd.func74, Tryd.ntmps74
    go_wp2_with (go_at_call 103; refine (rlong_any n _).mono ?_; rintro e w' ⟨rfl, rfl⟩; rw [E.out])
    go_ret
    exact ⟨by rw [V.out]; rfl, (by refine Since.out ?_; repeat (first | with_reducible assumption | with_reducible exact Since.refl _ | with_reducible refine Since.later ?_ (by with_reducible assumption) | with_reducible refine Since.only ?_ (by with_reducible assumption) (by first | assumption | omega | (simp; done) | (simp; omega)) | with_reducible refine Since.alloc ?_ _ | with_reducible refine Since.drewN ?_ _ | with_reducible refine Since.drew ?_ | with_reducible refine Since.set ?_ (by first | assumption | omega | (simp; done) | (simp; omega)) _))⟩
  · have E : Hid (longN n = 4) := Lib.hid (by unfold longN; rw [if_neg a, if_neg b])
    have V : Hid (vbytes n = [byteOf (128 + n / 16777216), byteOf (n / 65536 % 256), byteOf (n / 256 % 256), byteOf (n % 256)]) := Lib.hid (by unfold vbytes; rw [if_neg a, if_neg b])
    go_enter Tryd.func74, Tryd.ntmps74
    go_wp2_with (go_at_call 103; refine (rlong_any n _).mono ?_; rintro e w' ⟨rfl, rfl⟩; rw [E.out])
    go_ret
    exact ⟨by rw [V.out]; rfl, (by refine Since.out ?_; repeat (first | with_reducible assumption | with_reducible exact Since.refl _ | with_reducible refine Since.later ?_ (by with_reducible assumption) | with_reducible refine Since.only ?_ (by with_reducible assumption) (by first | assumption | omega | (simp; done) | (simp; omega)) | with_reducible refine Since.alloc ?_ _ | with_reducible refine Since.drewN ?_ _ | with_reducible refine Since.drew ?_ | with_reducible refine Since.set ?_ (by first | assumption | omega | (simp; done) | (simp; omega)) _))⟩
end Go.Proofs.YthnolkbolmbkdaaDoor
