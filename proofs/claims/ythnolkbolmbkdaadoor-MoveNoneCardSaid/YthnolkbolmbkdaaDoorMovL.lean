/- Package move's contracts for a Mover that nobody else writes to: beside it lie blocks F of others, which its calls leave. Condition: the blocks hold a Mover as New and the calls leave it. -/
import Derived.Test.YthnolkbolmbkdaaDoorMovM
namespace Go.Proofs.YthnolkbolmbkdaaDoor
open Go.ChangeShapes Go.WideShapes Go.ChangeAt Go.RowKit
set_option linter.unusedVariables false

/-- a Mover at g, made since w; the blocks F are others' -/
def Mvr (w wx : World) (F : List Nat) (g : Nat) (s : MvS) : Prop := ∃ B : MvB, B.g = g ∧ Mz wx B s ∧ (∀ k, k ∈ B.S → w.heap.size ≤ k ∧ k ∉ F) ∧ (∀ k, k ∈ F → k < wx.heap.size) ∧ Since w wx
/-- what the others see of a call -/
def Spare (w wx wy : World) (F : List Nat) : Prop := ∃ S, Out wx wy S ∧ ∀ k, k ∈ S → w.heap.size ≤ k ∧ k ∉ F
theorem Mvr.since {w wx : World} {F : List Nat} {g : Nat} {s : MvS} (h : Mvr w wx F g s) : Since w wx := h.choose_spec.2.2.2.2
theorem Mvr.later {w wx wy : World} {F : List Nat} {g : Nat} {s : MvS} (h : Mvr w wx F g s) (hb : Below wx.heap.size wx wy) : Mvr w wy F g s := by
  obtain ⟨B, e, hz, hn, hf, hs⟩ := h
  exact ⟨B, e, hz.later hb, hn, fun k hk => Nat.lt_of_lt_of_le (hf k hk) hb.size, hs.later hb⟩
theorem Mvr.drew {w wx : World} {F : List Nat} {g : Nat} {s : MvS} (h : Mvr w wx F g s) : Mvr w wx.drew F g s := h.later (Since.refl _).drew
theorem Mvr.less {w wx : World} {F F' : List Nat} {g : Nat} {s : MvS} (h : Mvr w wx F g s) (hF : ∀ k, k ∈ F' → k ∈ F) : Mvr w wx F' g s := by
  obtain ⟨B, e, hz, hn, hf, hs⟩ := h
  exact ⟨B, e, hz, fun k hk => ⟨(hn k hk).1, fun hm => (hn k hk).2 (hF k hm)⟩, fun k hk => hf k (hF k hk), hs⟩
/-- something is laid beside it -/
theorem Mvr.more {w wx wy : World} {F : List Nat} {g q : Nat} {s : MvS} (h : Mvr w wx F g s) (hb : Below wx.heap.size wx wy) (h1 : wx.heap.size ≤ q) (h2 : q < wy.heap.size) : Mvr w wy (q :: F) g s := by
  obtain ⟨B, e, hz, hn, hf, hs⟩ := h
  refine ⟨B, e, hz.later hb, fun k hk => ⟨(hn k hk).1, fun hm => ?_⟩, fun k hk => ?_, hs.later hb⟩
  · rcases List.mem_cons.1 hm with rfl | hm
    · have := hz.lt _ hk; omega
    · exact (hn k hk).2 hm
  · rcases List.mem_cons.1 hk with rfl | hk
    · exact h2
    · exact Nat.lt_of_lt_of_le (hf k hk) hb.size
/-- somebody else writes to what is his -/
theorem Mvr.kept {w wx wy : World} {F T : List Nat} {g : Nat} {s : MvS} (h : Mvr w wx F g s) (ho : Out wx wy T) (hT : ∀ k, k ∈ T → k ∈ F ∨ wx.heap.size ≤ k) (hn2 : ∀ k, k ∈ T → w.heap.size ≤ k) : Mvr w wy F g s := by
  obtain ⟨B, e, hz, hn, hf, hs⟩ := h
  refine ⟨B, e, hz.kept ho (fun k hk hm => ?_), hn, fun k hk => Nat.lt_of_lt_of_le (hf k hk) ho.size, hs.out' ho hn2⟩
  rcases hT k hm with h1 | h1
  · exact (hn k hk).2 h1
  · have := hz.lt _ hk; omega
theorem Mvr.step {w wx wy : World} {F : List Nat} {B : MvB} {s' : MvS} (hn : ∀ k, k ∈ B.S → w.heap.size ≤ k ∧ k ∉ F) (hf : ∀ k, k ∈ F → k < wx.heap.size) (hs : Since w wx) (c : MLeft wx wy B s') : Mvr w wy F B.g s' ∧ Spare w wx wy F := by
  obtain ⟨v', hz, ho, hk⟩ := c
  refine ⟨⟨{ B with v := v' }, rfl, hz, fun k hm => ?_, fun k hk => Nat.lt_of_lt_of_le (hf k hk) ho.size, hs.out' ho (fun k hk => (hn k hk).1)⟩, B.S, ho, hn⟩
  simp only [MvB.S, List.mem_cons] at hm
  rcases hm with h | h | h | h | h | h
  · exact hn k (by simp [MvB.S, h])
  · exact hn k (by simp [MvB.S, h])
  · exact hn k (by simp [MvB.S, h])
  · exact hn k (by simp [MvB.S, h])
  · exact hn k (by simp [MvB.S, h])
  · rcases hk k h with h | h
    · exact hn k (by simp only [MvB.S, List.mem_cons]; exact Or.inr (Or.inr (Or.inr (Or.inr (Or.inr h)))))
    · exact ⟨Nat.le_trans hs.le h, fun hF => by have := hf k hF; omega⟩
theorem Spare.block {w wx wy : World} {F : List Nat} (h : Spare w wx wy F) {q : Nat} {t : TypeId} {cs : Array Value} (hb : BlockIs wx q t cs) (hq : q ∈ F) : BlockIs wy q t cs := by
  obtain ⟨S, ho, hS⟩ := h
  exact ho.block' hb (fun hm => (hS q hm).2 hq)
theorem Spare.lst {w wx wy : World} {F : List Nat} (h : Spare w wx wy F) {E size : Nat} {v : Value} {es : List (List Value)} (hb : Lst wx E size v es) (hq : ∀ k, k ∈ blocks v → k ∈ F) : Lst wy E size v es := by
  obtain ⟨S, ho, hS⟩ := h
  exact hb.kept ho (fun k hk hm => (hS k hm).2 (hq k hk))
theorem Spare.since {w wx wy : World} {F : List Nat} (h : Spare w wx wy F) (hs : Since w wx) : Since w wy := by
  obtain ⟨S, ho, hS⟩ := h
  exact hs.out' ho (fun k hk => (hS k hk).1)
theorem Spare.size {w wx wy : World} {F : List Nat} (h : Spare w wx wy F) : wx.heap.size ≤ wy.heap.size := by
  obtain ⟨S, ho, hS⟩ := h
  exact ho.size
theorem lnew (n : Int) (h1 : 1 ≤ n) (h2 : n ≤ 8) (w wx : World) (hs : Since w wx) : Calls Tryd.prog 14 #[.int .i64 n] wx fun e w' => ∃ g, e = .returned (.tuple #[.pointer (some ⟨g, 0, none⟩), .nilIface]) ∧ Mvr w w' [] g (mv0 n) ∧ Below wx.heap.size wx w' := by
  refine (mnew_yes n h1 h2 wx).mono fun e w' hh => ?_
  obtain ⟨B, he, hz, hb, hn⟩ := hh
  exact ⟨B.g, he, ⟨B, rfl, hz, fun k hk => ⟨Nat.le_trans hs.le (hn k hk), by simp⟩, by simp, hs.later hb⟩, hb⟩
theorem lwhere {w wx : World} {F : List Nat} {g : Nat} {s : MvS} (h : Mvr w wx F g s) : Calls Tryd.prog 15 #[.pointer (some ⟨g, 0, none⟩)] wx fun e w' => e = .returned (.tuple #[.int .i64 (whA s), .int .i64 (whS s), errV (whE s)]) ∧ Below wx.heap.size wx w' := by
  obtain ⟨B, rfl, hz, hn, hf, hs⟩ := h
  exact mwhere B s wx hz
theorem lpath {w wx : World} {F : List Nat} {g : Nat} {s : MvS} (i : Int) (h : Mvr w wx F g s) : Calls Tryd.prog 30 #[.pointer (some ⟨g, 0, none⟩), .int .i64 i] wx fun e w' => e = .returned (.tuple #[pathV (mPa s.P i).i (mPa s.P i).o (mPa s.P i).k, errV (mPaE i)]) ∧ Below wx.heap.size wx w' := by
  obtain ⟨B, rfl, hz, hn, hf, hs⟩ := h
  exact mpath B s i wx hz
theorem loffer {w wx : World} {F : List Nat} {g : Nat} {s : MvS} (x : Int) (h : Mvr w wx F g s) : Calls Tryd.prog 16 #[.pointer (some ⟨g, 0, none⟩), .int .i64 x] wx fun e w' => e = .returned (errV (mOffE s x)) ∧ Mvr w w' F g (mOff s x) ∧ Spare w wx w' F := by
  obtain ⟨B, rfl, hz, hn, hf, hs⟩ := h
  exact (moffer B s x wx hz).mono fun e w' hh => ⟨hh.1, Mvr.step hn hf hs hh.2⟩
theorem lcame {w wx : World} {F : List Nat} {g : Nat} {s : MvS} (i n : Int) (h : Mvr w wx F g s) : Calls Tryd.prog 18 #[.pointer (some ⟨g, 0, none⟩), .int .i64 i, .int .i64 n] wx fun e w' => e = .returned (errV (mCameE s i n)) ∧ Mvr w w' F g (mCame s i n) ∧ Spare w wx w' F := by
  obtain ⟨B, rfl, hz, hn, hf, hs⟩ := h
  exact (mcame B s i n wx hz).mono fun e w' hh => ⟨hh.1, Mvr.step hn hf hs hh.2⟩
theorem lsend {w wx : World} {F : List Nat} {g : Nat} {s : MvS} (i n : Int) (h : Mvr w wx F g s) : Calls Tryd.prog 25 #[.pointer (some ⟨g, 0, none⟩), .int .i64 i, .int .i64 n] wx fun e w' => e = .returned (errV (mSendE s i n)) ∧ Mvr w w' F g (mSend s i n) ∧ Spare w wx w' F := by
  obtain ⟨B, rfl, hz, hn, hf, hs⟩ := h
  exact (msend B s i n wx hz).mono fun e w' hh => ⟨hh.1, Mvr.step hn hf hs hh.2⟩
theorem lask {w wx : World} {F : List Nat} {g : Nat} {s : MvS} (i x y : Int) (h : Mvr w wx F g s) : Calls Tryd.prog 19 #[.pointer (some ⟨g, 0, none⟩), .int .i64 i, .int .i64 x, .int .i64 y] wx fun e w' => e = .returned (errV (mAskE s i x y)) ∧ Mvr w w' F g (mAsk s i x y) ∧ Spare w wx w' F := by
  obtain ⟨B, rfl, hz, hn, hf, hs⟩ := h
  exact (mask B s i x y wx hz).mono fun e w' hh => ⟨hh.1, Mvr.step hn hf hs hh.2⟩
theorem lanswer {w wx : World} {F : List Nat} {g : Nat} {s : MvS} (i x y l : Int) (h : Mvr w wx F g s) : Calls Tryd.prog 21 #[.pointer (some ⟨g, 0, none⟩), .int .i64 i, .int .i64 x, .int .i64 y, .int .i64 l] wx fun e w' => e = .returned (.tuple #[.bool (ansB s.As i x y l), errV (ansE i x y l)]) ∧ Mvr w w' F g (mAns s i x y l) ∧ Spare w wx w' F := by
  obtain ⟨B, rfl, hz, hn, hf, hs⟩ := h
  exact (manswer B s i x y l wx hz).mono fun e w' hh => ⟨hh.1, Mvr.step hn hf hs hh.2⟩
theorem lmove {w wx : World} {F : List Nat} {g : Nat} {s : MvS} (i : Int) (h : Mvr w wx F g s) : Calls Tryd.prog 20 #[.pointer (some ⟨g, 0, none⟩), .int .i64 i] wx fun e w' => e = .returned (errV (mMovE s i)) ∧ Mvr w w' F g (mMov s i) ∧ Spare w wx w' F := by
  obtain ⟨B, rfl, hz, hn, hf, hs⟩ := h
  exact (mmove B s i wx hz).mono fun e w' hh => ⟨hh.1, Mvr.step hn hf hs hh.2⟩
end Go.Proofs.YthnolkbolmbkdaaDoor
