/- log.Bytes and log.Safe by contracts. Condition: the block holds a Log. -/
import Derived.Test.YtjjmoaaongnjiaaGreatDoorLog
import Derived.Test.YtjjmoaaongnjiaaGreatDoorBoth
namespace Go.Proofs.YtjjmoaaongnjiaaGreatDoor
open Go.ChangeShapes Go.WideShapes Go.ChangeAt Go.RowKit
set_option linter.unusedVariables false

theorem gbytes (g : Nat) (s : LgS) (w : World) (S : List Nat) (h : (logT g s).is w S) : Calls Tryz.prog 10 #[.pointer (some ⟨g, 0, none⟩)] w fun e w' => e = .returned (.int .i64 s.by_.size) ∧ w = w' := by
  obtain ⟨v, hz, rfl⟩ := h
  have c1 : w.cell? ⟨g, 1, none⟩ = some (.string s.by_) := hz.bl.cell 1
  generalize s.by_ = b at *
  have lg := hz.bl.lt
  clear hz
  go_enter Tryz.func10, Tryz.ntmps10
  go_wp2_with fail
  go_ret
  exact ⟨rfl, rfl⟩
theorem gsafe (g : Nat) (s : LgS) (w : World) (S : List Nat) (h : (logT g s).is w S) : Calls Tryz.prog 11 #[.pointer (some ⟨g, 0, none⟩)] w fun e w' => e = .returned (.int .i64 s.safe) ∧ w = w' := by
  obtain ⟨v, hz, rfl⟩ := h
  have c2 : w.cell? ⟨g, 2, none⟩ = some (.int .i64 s.safe) := hz.bl.cell 2
  generalize s.safe = b at *
  have lg := hz.bl.lt
  clear hz
  go_enter Tryz.func11, Tryz.ntmps11
  go_wp2_with fail
  go_ret
  exact ⟨rfl, rfl⟩
theorem ghas (g : Nat) (s : LgS) (x : Int) (w : World) (S : List Nat) (h : (logT g s).is w S) (hb : ∀ r ∈ s.all, okI r.lo ∧ okI r.hi) :
    Calls Tryz.prog 18 #[.pointer (some ⟨g, 0, none⟩), .int .i64 x] w fun e w' => e = .returned (.tuple #[.bool (decide (hasE s.all x = 0) && inB s.all x), errV (hasE s.all x)]) ∧ Below w.heap.size w w' := by
  obtain ⟨v, hz, rfl⟩ := h
  have c0 : w.cell? ⟨g, 0, none⟩ = some v := hz.bl.cell 0
  have lg := hz.bl.lt
  obtain ⟨A0, cap0, hve, _, _, _⟩ := hz.ls.shape
  rw [List.length_map] at hve
  have HC := Lib.hid (rhas A0 s.all.length cap0 s.all x w rfl hb (Rd.of_lst (by rw [← hve]; exact hz.ls)))
  rw [hve] at c0
  generalize (decide (hasE s.all x = 0) && inB s.all x) = b at *
  generalize errV (hasE s.all x) = E at *
  clear hz hve hb
  go_enter Tryz.func18, Tryz.ntmps18
  go_wp2_with fail
  refine HC.out.mono ?_
  rintro e w1 ⟨rfl, hb1⟩
  have HB := Lib.hid hb1
  clear hb1 HC
  go_wp2_with fail
  go_ret2
  exact ⟨rfl, HB.out⟩
end Go.Proofs.YtjjmoaaongnjiaaGreatDoor
