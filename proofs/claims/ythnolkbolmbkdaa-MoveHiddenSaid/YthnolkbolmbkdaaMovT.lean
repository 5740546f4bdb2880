/- Package move and its reference as things side by side in memory: contracts that say what a call leaves. Condition: the blocks hold them as New and the calls leave them. -/
import Derived.Test.YthnolkbolmbkdaaMovM
import Derived.Test.YthnolkbolmbkdaaOwn
namespace Go.Proofs.Ythnolkbolmbkdaa
open Go.ChangeShapes Go.WideShapes Go.ChangeAt Go.RowKit
set_option linter.unusedVariables false

def moverT (g : Nat) (s : MvS) : Thing where
  is w S := ∃ B : MvB, B.g = g ∧ Mz w B s ∧ S = B.S
  lt h k hk := by obtain ⟨B, _, hz, rfl⟩ := h; exact hz.lt k hk
  kept h ho hd := by obtain ⟨B, e, hz, rfl⟩ := h; exact ⟨B, e, hz.kept ho hd, rfl⟩
theorem MLeft.leaves {w w' : World} {B : MvB} {s : MvS} (h : MLeft w w' B s) : Leaves w w' B.S (moverT B.g s) := by
  obtain ⟨v', hz, ho, hk⟩ := h
  refine ⟨_, ⟨{ B with v := v' }, rfl, hz, rfl⟩, ho, fun k hm => ?_⟩
  simp only [MvB.S, List.mem_cons] at hm ⊢
  rcases hm with h | h | h | h | h | h
  · exact Or.inl (by simp [h])
  · exact Or.inl (by simp [h])
  · exact Or.inl (by simp [h])
  · exact Or.inl (by simp [h])
  · exact Or.inl (by simp [h])
  · rcases hk k h with h | h
    · exact Or.inl (by simp [h])
    · exact Or.inr h
theorem tnew (n : Int) (h1 : 1 ≤ n) (h2 : n ≤ 8) (w : World) : Calls Try.prog 4 #[.int .i64 n] w fun e w' => ∃ g, e = .returned (.tuple #[.pointer (some ⟨g, 0, none⟩), .nilIface]) ∧ (∃ S, (moverT g (mv0 n)).is w' S ∧ ∀ k, k ∈ S → w.heap.size ≤ k) ∧ Below w.heap.size w w' := by
  refine (mnew_yes n h1 h2 w).mono fun e w' hh => ?_
  obtain ⟨B, he, hz, hb, hn⟩ := hh
  exact ⟨B.g, he, ⟨B.S, ⟨B, rfl, hz, rfl⟩, hn⟩, hb⟩
section
variable {w : World} {S : List Nat} {g : Nat} {s : MvS}
theorem twhere (h : (moverT g s).is w S) : Calls Try.prog 10 #[.pointer (some ⟨g, 0, none⟩)] w fun e w' => e = .returned (.tuple #[.int .i64 (whA s), .int .i64 (whS s), errV (whE s)]) ∧ Below w.heap.size w w' := by
  obtain ⟨B, rfl, hz, rfl⟩ := h
  exact mwhere B s w hz
theorem tpath (i : Int) (h : (moverT g s).is w S) : Calls Try.prog 12 #[.pointer (some ⟨g, 0, none⟩), .int .i64 i] w fun e w' => e = .returned (.tuple #[pathV (mPa s.P i).i (mPa s.P i).o (mPa s.P i).k, errV (mPaE i)]) ∧ Below w.heap.size w w' := by
  obtain ⟨B, rfl, hz, rfl⟩ := h
  exact mpath B s i w hz
theorem toffer (x : Int) (h : (moverT g s).is w S) : Calls Try.prog 5 #[.pointer (some ⟨g, 0, none⟩), .int .i64 x] w fun e w' => e = .returned (errV (mOffE s x)) ∧ Leaves w w' S (moverT g (mOff s x)) := by
  obtain ⟨B, rfl, hz, rfl⟩ := h
  exact (moffer B s x w hz).mono fun e w' hh => ⟨hh.1, hh.2.leaves⟩
theorem tcame (i n : Int) (h : (moverT g s).is w S) : Calls Try.prog 6 #[.pointer (some ⟨g, 0, none⟩), .int .i64 i, .int .i64 n] w fun e w' => e = .returned (errV (mCameE s i n)) ∧ Leaves w w' S (moverT g (mCame s i n)) := by
  obtain ⟨B, rfl, hz, rfl⟩ := h
  exact (mcame B s i n w hz).mono fun e w' hh => ⟨hh.1, hh.2.leaves⟩
theorem tsend (i n : Int) (h : (moverT g s).is w S) : Calls Try.prog 11 #[.pointer (some ⟨g, 0, none⟩), .int .i64 i, .int .i64 n] w fun e w' => e = .returned (errV (mSendE s i n)) ∧ Leaves w w' S (moverT g (mSend s i n)) := by
  obtain ⟨B, rfl, hz, rfl⟩ := h
  exact (msend B s i n w hz).mono fun e w' hh => ⟨hh.1, hh.2.leaves⟩
theorem task_ (i x y : Int) (h : (moverT g s).is w S) : Calls Try.prog 7 #[.pointer (some ⟨g, 0, none⟩), .int .i64 i, .int .i64 x, .int .i64 y] w fun e w' => e = .returned (errV (mAskE s i x y)) ∧ Leaves w w' S (moverT g (mAsk s i x y)) := by
  obtain ⟨B, rfl, hz, rfl⟩ := h
  exact (mask B s i x y w hz).mono fun e w' hh => ⟨hh.1, hh.2.leaves⟩
theorem tanswer (i x y l : Int) (h : (moverT g s).is w S) : Calls Try.prog 8 #[.pointer (some ⟨g, 0, none⟩), .int .i64 i, .int .i64 x, .int .i64 y, .int .i64 l] w fun e w' => e = .returned (.tuple #[.bool (ansB s.As i x y l), errV (ansE i x y l)]) ∧ Leaves w w' S (moverT g (mAns s i x y l)) := by
  obtain ⟨B, rfl, hz, rfl⟩ := h
  exact (manswer B s i x y l w hz).mono fun e w' hh => ⟨hh.1, hh.2.leaves⟩
theorem tmove (i : Int) (h : (moverT g s).is w S) : Calls Try.prog 9 #[.pointer (some ⟨g, 0, none⟩), .int .i64 i] w fun e w' => e = .returned (errV (mMovE s i)) ∧ Leaves w w' S (moverT g (mMov s i)) := by
  obtain ⟨B, rfl, hz, rfl⟩ := h
  exact (mmove B s i w hz).mono fun e w' hh => ⟨hh.1, hh.2.leaves⟩
end
/-- the reference's paths -/
abbrev pthsCells (P : Pths) : Array Value := #[.int .i64 P.a.i, .int .i64 P.a.o, .bool P.a.k, .int .i64 P.b.i, .int .i64 P.b.o, .bool P.b.k, .int .i64 P.c.i, .int .i64 P.c.o, .bool P.c.k, .int .i64 P.d.i, .int .i64 P.d.o, .bool P.d.k]
theorem pths_cells (P : Pths) {k : Nat} (hk : k < 4) : (pthsCells P)[k * 3]? = some (.int .i64 (P.at k).i) ∧ (pthsCells P)[k * 3 + 1]? = some (.int .i64 (P.at k).o) ∧ (pthsCells P)[k * 3 + 2]? = some (.bool (P.at k).k) := by
  match k, hk with
  | 0, _ => exact ⟨rfl, rfl, rfl⟩
  | 1, _ => exact ⟨rfl, rfl, rfl⟩
  | 2, _ => exact ⟨rfl, rfl, rfl⟩
  | 3, _ => exact ⟨rfl, rfl, rfl⟩
  | _ + 4, h => omega
theorem pths_put (P : Pths) (p : Pth) {k : Nat} (hk : k < 4) : (((pthsCells P).setIfInBounds (k * 3) (.int .i64 p.i)).setIfInBounds (k * 3 + 1) (.int .i64 p.o)).setIfInBounds (k * 3 + 2) (.bool p.k) = pthsCells (P.put p k) := by
  match k, hk with
  | 0, _ => rfl
  | 1, _ => rfl
  | 2, _ => rfl
  | 3, _ => rfl
  | _ + 4, h => omega
theorem pths_know (P : Pths) {k : Nat} (hk : k < 4) (b : Bool) : (pthsCells P).setIfInBounds (k * 3 + 2) (.bool b) = pthsCells (P.put { P.at k with k := b } k) := by
  match k, hk with
  | 0, _ => rfl
  | 1, _ => rfl
  | 2, _ => rfl
  | 3, _ => rfl
  | _ + 4, h => omega
theorem pths_same (P : Pths) {k : Nat} (hk : k < 4) : P.put (P.at k) k = P := by
  match k, hk with
  | 0, _ => rfl
  | 1, _ => rfl
  | 2, _ => rfl
  | 3, _ => rfl
  | _ + 4, h => omega
end Go.Proofs.Ythnolkbolmbkdaa
