/- Plain law: what a move is in the reference's words. No program here. -/
import Derived.Test.YthnolkbolmbkdaaDoorMovT
namespace Go.Proofs.YthnolkbolmbkdaaDoor
open Go.ChangeShapes Go.WideShapes Go.ChangeAt Go.RowKit
set_option linter.unusedVariables false
abbrev Mv (P : Pths) (lim : Int) (N : List Int) (G : List Bool) (As : List Asked) (ta tb : Int) : MvS := ⟨P, lim, liveOf N G, N, As, ta, tb⟩
def Tied (N : List Int) (G : List Bool) (tb : Int) : Prop := tb < 0 ∨ (0 ≤ tb ∧ ∃ d ∈ liveOf N G, d.s = tb)
/-- the first Seq that is not this one; -1: there is none -/
def nxtS (was : Int) : List One → Int
  | [] => -1
  | d :: r => if d.s = was then nxtS was r else d.s
theorem nxtS_place (was : Int) : ∀ (L : List One) (k : Nat), (place (fun d => d.s != was) L k = -1 ∧ nxtS was L = -1) ∨ (∃ i : Nat, place (fun d => d.s != was) L k = ((k + i : Nat) : Int) ∧ i < L.length ∧ nxtS was L = (L.getD i ⟨0, 0⟩).s ∧ (L.getD i ⟨0, 0⟩).s ≠ was)
  | [], k => Or.inl ⟨rfl, rfl⟩
  | d :: r, k => by
    unfold place nxtS
    by_cases h : d.s = was
    · rw [if_pos h]
      have h' : (d.s != was) = false := by simpa using h
      rw [h']
      rcases nxtS_place was r (k + 1) with ⟨h1, h2⟩ | ⟨i, h1, h2, h3, h4⟩
      · exact Or.inl ⟨h1, h2⟩
      · refine Or.inr ⟨i + 1, ?_, by simp; omega, h3, h4⟩
        simp only [Bool.false_eq_true, if_false]
        rw [h1]
        congr 1
        omega
    · rw [if_neg h]
      have h' : (d.s != was) = true := by simpa using h
      rw [h']
      exact Or.inr ⟨0, by simp, by simp, by simp, by simpa using h⟩
def wasR (L : List One) (tb : Int) : Int := if tb < 0 then (L.getD 0 ⟨tb, 0⟩).s else tb
theorem live_ge (N : List Int) (G : List Bool) : ∀ d ∈ liveOf N G, 0 ≤ d.s := fun d hd => by
  have := liveFrom_ge N G 0 d hd
  omega
theorem wasR_sq {L : List One} {tb : Int} (h : L ≠ []) : wasR L tb = mSq L tb := by
  unfold wasR mSq
  cases L with
  | nil => exact absurd rfl h
  | cons d r =>
    by_cases h0 : tb < 0
    · rw [if_pos h0, if_neg (by omega)]; rfl
    · rw [if_neg h0, if_pos (by omega)]
theorem move_full {N : List Int} {G : List Bool} {tb : Int} (hl : G.length = N.length) (ht : Tied N G tb) (hn : 0 ≤ nxtS (wasR (liveOf N G) tb) (liveOf N G)) :
    mSb (liveOf N G) tb = true ∧ 0 ≤ mNx (liveOf N G) (mSq (liveOf N G) tb) ∧ retE (liveOf N G) (mSq (liveOf N G) tb) = 0 ∧ rretE G (wasR (liveOf N G) tb) = 0 ∧ retL (liveOf N G) (mSq (liveOf N G) tb) = liveOf N (rretG G (wasR (liveOf N G) tb)) ∧
      ((liveOf N G).getD (mNx (liveOf N G) (mSq (liveOf N G) tb)).toNat ⟨0, 0⟩).s = nxtS (wasR (liveOf N G) tb) (liveOf N G) ∧ Tied N (rretG G (wasR (liveOf N G) tb)) (nxtS (wasR (liveOf N G) tb) (liveOf N G)) := by
  have hne : liveOf N G ≠ [] := by
    intro h
    rw [h] at hn
    simp [nxtS] at hn
  have hw := wasR_sq (tb := tb) hne
  rw [← hw]
  obtain ⟨h1, h2⟩ := ret_same hl (wasR (liveOf N G) tb)
  have hin : ∃ d ∈ liveOf N G, d.s = wasR (liveOf N G) tb := by
    rcases ht with ht | ⟨ht, d, hd, hds⟩
    · cases hL : liveOf N G with
      | nil => exact absurd hL hne
      | cons d r => exact ⟨d, by simp, by unfold wasR; rw [if_pos ht]; rfl⟩
    · exact ⟨d, hd, by unfold wasR; rw [if_neg (by omega)]; exact hds⟩
  have hre : retE (liveOf N G) (wasR (liveOf N G) tb) = 0 := by
    rw [retE_any, if_pos]
    obtain ⟨d, hd, hds⟩ := hin
    exact List.any_eq_true.2 ⟨d, hd, by simpa using hds⟩
  rcases nxtS_place (wasR (liveOf N G) tb) (liveOf N G) 0 with ⟨h3, h4⟩ | ⟨i, h3, h4, h5, h6⟩
  · omega
  have hmn : mNx (liveOf N G) (wasR (liveOf N G) tb) = (i : Int) := by unfold mNx; rw [h3]; simp
  refine ⟨?_, ?_, hre, h1 ▸ hre, h2, ?_, ?_⟩
  · unfold mSb
    split
    · rfl
    · cases hL : liveOf N G with
      | nil => exact absurd hL hne
      | cons d r => rfl
  · rw [hmn]; omega
  · rw [hmn, Int.toNat_natCast, h5]
  · refine Or.inr ⟨hn, (liveOf N G).getD i ⟨0, 0⟩, ?_, h5.symm⟩
    rw [← h2, retL_erase]
    refine (List.mem_eraseP_of_neg (by simpa using h6)).2 ?_
    simp [List.getD, List.getElem?_eq_getElem h4]
theorem move_none {N : List Int} {G : List Bool} {tb : Int} (hn : ¬ 0 ≤ nxtS (wasR (liveOf N G) tb) (liveOf N G)) : mSb (liveOf N G) tb = false ∨ mNx (liveOf N G) (mSq (liveOf N G) tb) < 0 := by
  by_cases hne : liveOf N G = []
  · right
    rw [hne]
    unfold mNx place
    decide
  · rw [← wasR_sq hne]
    right
    rcases nxtS_place (wasR (liveOf N G) tb) (liveOf N G) 0 with ⟨h3, h4⟩ | ⟨i, h3, h4, h5, h6⟩
    · unfold mNx; rw [h3]; decide
    · exfalso
      have := live_ge N G ((liveOf N G).getD i ⟨0, 0⟩) (by simp [List.getD, List.getElem?_eq_getElem h4])
      rw [h5] at hn
      omega
/-- what a move is, in the reference's words -/
theorem Mv.move (P : Pths) (lim : Int) {N : List Int} {G : List Bool} (As : List Asked) (ta : Int) {tb : Int} (hl : G.length = N.length) (ht : Tied N G tb) (x : Int) :
    mMovE (Mv P lim N G As ta tb) x = (if pathB x = true then (if (P.at x.toNat).k = false then 6 else if x = ta then 7 else if 0 ≤ nxtS (wasR (liveOf N G) tb) (liveOf N G) then 0 else 5) else 1) ∧
      (mMovE (Mv P lim N G As ta tb) x = 0 → mMov (Mv P lim N G As ta tb) x = Mv P lim N (rretG G (wasR (liveOf N G) tb)) As x (nxtS (wasR (liveOf N G) tb) (liveOf N G)) ∧ rretE G (wasR (liveOf N G) tb) = 0 ∧ Tied N (rretG G (wasR (liveOf N G) tb)) (nxtS (wasR (liveOf N G) tb) (liveOf N G))) := by
  have he : mMovE (Mv P lim N G As ta tb) x = (if pathB x = true then (if (P.at x.toNat).k = false then 6 else if x = ta then 7 else if 0 ≤ nxtS (wasR (liveOf N G) tb) (liveOf N G) then 0 else 5) else 1) := by
    show (if pathB x = true then (if (P.at x.toNat).k = false then 6 else if x = ta then 7 else if mSb (liveOf N G) tb = false ∨ mNx (liveOf N G) (mSq (liveOf N G) tb) < 0 then 5 else retE (liveOf N G) (mSq (liveOf N G) tb)) else 1) = _
    by_cases hn : 0 ≤ nxtS (wasR (liveOf N G) tb) (liveOf N G)
    · obtain ⟨a1, a2, a3, _⟩ := move_full hl ht hn
      rw [if_pos hn, if_neg (c := mSb (liveOf N G) tb = false ∨ mNx (liveOf N G) (mSq (liveOf N G) tb) < 0) (by rw [a1]; simp; omega), a3]
    · rw [if_neg hn, if_pos (c := mSb (liveOf N G) tb = false ∨ mNx (liveOf N G) (mSq (liveOf N G) tb) < 0) (move_none hn)]
  refine ⟨he, fun h0 => ?_⟩
  have hn : 0 ≤ nxtS (wasR (liveOf N G) tb) (liveOf N G) := by
    rw [he] at h0
    by_cases hn : 0 ≤ nxtS (wasR (liveOf N G) tb) (liveOf N G)
    · exact hn
    · exfalso
      rw [if_neg hn] at h0
      split at h0
      · split at h0
        · cases h0
        · split at h0 <;> cases h0
      · cases h0
  obtain ⟨a1, a2, a3, a4, a5, a6, a7⟩ := move_full hl ht hn
  refine ⟨?_, a4, a7⟩
  rw [mMov_ok h0]
  show (⟨P, lim, retL (liveOf N G) (mSq (liveOf N G) tb), N, As, x, ((liveOf N G).getD (mNx (liveOf N G) (mSq (liveOf N G) tb)).toNat ⟨0, 0⟩).s⟩ : MvS) = _
  rw [a5, a6]
/-- the loop that looks for the next one, from behind -/
theorem nxtS_step {was : Int} {L : List One} {j : Nat} (h : j < L.length) : nxtS was (L.drop j) = if L[j].s = was then nxtS was (L.drop (j + 1)) else L[j].s := by
  rw [List.drop_eq_getElem_cons h]
  rfl
theorem moverT.few {w : World} {S : List Nat} {g : Nat} {s : MvS} (h : (moverT g s).is w S) : (s.L.length : Int) ≤ s.lim := by
  obtain ⟨B, _, hz, _⟩ := h
  exact hz.iz.few
theorem Mv.offer {P : Pths} {lim : Int} {N : List Int} {G : List Bool} {As : List Asked} {ta tb : Int} (hl : G.length = N.length) (hm : N.length ≤ 100) (hf : ((liveOf N G).length : Int) ≤ lim) (x : Int) :
    mOffE (Mv P lim N G As ta tb) x = rissE lim N G x ∧ mOff (Mv P lim N G As ta tb) x = Mv P lim (rissN lim N G x) (rissG lim N G x) As ta tb := by
  obtain ⟨e1, e2, e3, e4⟩ := iss_same hl hf hm x
  refine ⟨e1, ?_⟩
  show (⟨P, lim, issL lim (liveOf N G) N x, issN lim (liveOf N G) N x, As, ta, tb⟩ : MvS) = _
  rw [e2, e3]
theorem Tied.issue {lim : Int} {N : List Int} {G : List Bool} {tb : Int} (hl : G.length = N.length) (h : Tied N G tb) (x : Int) : Tied (rissN lim N G x) (rissG lim N G x) tb := by
  rcases h with h | ⟨h0, d, hd, hs⟩
  · exact Or.inl h
  · refine Or.inr ⟨h0, d, ?_, hs⟩
    by_cases he : rissE lim N G x = 0
    · rw [(riss_ok he).1, (riss_ok he).2.1, liveOf_snoc hl]
      exact List.mem_append_left _ hd
    · rw [(riss_bad he).1, (riss_bad he).2.1]
      exact hd

theorem Mv.came (P : Pths) (lim : Int) (N : List Int) (G : List Bool) (As : List Asked) (ta tb x y : Int) : mCame (Mv P lim N G As ta tb) x y = Mv (mCame (Mv P lim N G As ta tb) x y).P lim N G As ta tb := by
  unfold mCame
  split <;> rfl
theorem Mv.send (P : Pths) (lim : Int) (N : List Int) (G : List Bool) (As : List Asked) (ta tb x y : Int) : mSend (Mv P lim N G As ta tb) x y = Mv (mSend (Mv P lim N G As ta tb) x y).P lim N G As ta tb := by
  unfold mSend
  split <;> rfl
end Go.Proofs.YthnolkbolmbkdaaDoor
