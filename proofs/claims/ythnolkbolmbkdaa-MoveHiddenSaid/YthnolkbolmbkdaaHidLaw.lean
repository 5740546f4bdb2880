/- Plain law: whatever is done with a Mover, its paths stay right, and no name is used for two paths. No program here. -/
import Derived.Test.YthnolkbolmbkdaaMovM
import Derived.Test.YthnolkbolmbkdaaIdsLaw
import Derived.Test.YthnolkbolmbkdaaIdsSame
namespace Go.Proofs.Ythnolkbolmbkdaa
open Go.ChangeShapes Go.WideShapes Go.ChangeAt Go.RowKit
set_option linter.unusedVariables false

structure PthOk (p : Pth) : Prop where
  ok : PathOk p.i p.o p.k
theorem Pths.put_at (P : Pths) (p : Pth) {i j : Nat} (hi : i < 4) (hj : j < 4) : (P.put p i).at j = if j = i then p else P.at j := by
  match i, j, hi, hj with
  | 0, 0, _, _ => rfl
  | 0, 1, _, _ => rfl
  | 0, 2, _, _ => rfl
  | 0, 3, _, _ => rfl
  | 1, 0, _, _ => rfl
  | 1, 1, _, _ => rfl
  | 1, 2, _, _ => rfl
  | 1, 3, _, _ => rfl
  | 2, 0, _, _ => rfl
  | 2, 1, _, _ => rfl
  | 2, 2, _, _ => rfl
  | 2, 3, _, _ => rfl
  | 3, 0, _, _ => rfl
  | 3, 1, _, _ => rfl
  | 3, 2, _, _ => rfl
  | 3, 3, _, _ => rfl
  | _ + 4, _, h, _ => omega
  | _, _ + 4, _, h => omega
/-- what always holds of a Mover -/
structure MInv (s : MvS) : Prop where
  good : Good s.L s.N
  pth : ∀ q, q < 4 → PthOk (s.P.at q)
  at0 : 0 ≤ s.ta
  at3 : s.ta ≤ 3
  kn : (s.P.at s.ta.toNat).k = true
  by_ : s.tb < 0 ∨ (0 ≤ s.tb ∧ ∃ d ∈ s.L, d.s = s.tb)
/-- what a step may do to the names -/
def Step (s s' : MvS) : Prop :=
  (s'.L = s.L ∧ s'.N = s.N ∧ s'.ta = s.ta ∧ s'.tb = s.tb) ∨
  (∃ x, s'.L = s.L ++ [⟨(s.N.length : Int), x⟩] ∧ s'.N = s.N ++ [x] ∧ s'.ta = s.ta ∧ s'.tb = s.tb) ∨
  (mSb s.L s.tb = true ∧ s'.L = retL s.L (mSq s.L s.tb) ∧ s'.N = s.N ∧ s'.ta ≠ s.ta ∧ s'.tb ≠ mSq s.L s.tb ∧ 0 ≤ s'.tb ∧ ∃ d ∈ s.L, d.s = s'.tb)
theorem Step.same {s s' : MvS} (h1 : s'.L = s.L) (h2 : s'.N = s.N) (h3 : s'.ta = s.ta) (h4 : s'.tb = s.tb) : Step s s' := Or.inl ⟨h1, h2, h3, h4⟩
/-- one path is another one -/
theorem MInv.path {s : MvS} (h : MInv s) {q : Nat} (hq : q < 4) {p : Pth} (hp : PthOk p) (hk : (s.P.at q).k = true → p.k = true) (A : List Asked) : MInv { s with P := s.P.put p q, As := A } := by
  refine ⟨h.good, fun j hj => ?_, h.at0, h.at3, ?_, h.by_⟩
  · show PthOk ((s.P.put p q).at j)
    rw [Pths.put_at _ _ hq hj]
    split
    · exact hp
    · exact h.pth j hj
  · show ((s.P.put p q).at s.ta.toNat).k = true
    have := h.at0
    have := h.at3
    rw [Pths.put_at _ _ hq (by omega)]
    split
    · rename_i he; exact hk (by rw [← he]; exact h.kn)
    · exact h.kn
theorem MInv.same {s : MvS} (h : MInv s) (A : List Asked) : MInv { s with As := A } := ⟨h.good, h.pth, h.at0, h.at3, h.kn, h.by_⟩
theorem pathE_is {i o : Int} {k : Bool} (h : pathE i o k = 0) : PathOk i o k := by
  by_cases hp : PathOk i o k
  · exact hp
  · exact absurd h (pathE_no hp)
theorem came_pth {p : Pth} {n : Int} (h : cameE p.i p.o p.k n = 0) : PthOk (cameP p n) ∧ (cameP p n).k = p.k := by
  have e : cameP p n = ⟨p.i + n, p.o, p.k⟩ := by unfold cameP cameI cameO cameK; rw [if_pos h, if_pos h, if_pos h]
  rw [e]
  unfold cameE at h
  split at h
  · rename_i h1
    have hp := pathE_is h1
    split at h
    · have := hp.i1; have := hp.o1; have := hp.o2; have := hp.kn
      exact ⟨⟨by constructor <;> simp only <;> (try omega); intro hk; have := hp.kn hk; omega⟩, rfl⟩
    · cases h
  · rename_i h1; exact absurd h h1
theorem send_pth {p : Pth} {n : Int} (h : sendE p.i p.o p.k n = 0) : PthOk (sendP p n) ∧ (sendP p n).k = p.k := by
  have e : sendP p n = ⟨p.i, p.o + n, p.k⟩ := by unfold sendP sendI sendO sendK; rw [if_pos h, if_pos h, if_pos h]
  rw [e]
  unfold sendE at h
  split at h
  · rename_i h1
    have hp := pathE_is h1
    split at h
    · split at h
      · cases h
      · rename_i h3
        have := hp.i1; have := hp.i2; have := hp.o1; have := hp.o2
        refine ⟨⟨?_⟩, rfl⟩
        constructor <;> simp only <;> (try omega)
        intro hk
        rcases Int.lt_or_le (3 * p.i) (p.o + n) with h4 | h4
        · exact absurd ⟨hk, h4⟩ h3
        · exact h4
    · cases h
  · rename_i h1; exact absurd h h1
theorem pathB_nat {i : Int} (h : pathB i = true) : i.toNat < 4 := by have := pathB_iff.1 h; omega
theorem MInv.came {s : MvS} (h : MInv s) (i n : Int) : MInv (mCame s i n) ∧ Step s (mCame s i n) := by
  by_cases h0 : mCameE s i n = 0
  · rw [mCame_ok h0]
    unfold mCameE at h0
    split at h0
    · rename_i hb
      obtain ⟨h1, h2⟩ := came_pth h0
      exact ⟨h.path (pathB_nat hb) h1 (fun hk => by rw [h2]; exact hk) s.As, Step.same rfl rfl rfl rfl⟩
    · cases h0
  · rw [mCame_bad h0]; exact ⟨h, Step.same rfl rfl rfl rfl⟩
theorem MInv.send {s : MvS} (h : MInv s) (i n : Int) : MInv (mSend s i n) ∧ Step s (mSend s i n) := by
  by_cases h0 : mSendE s i n = 0
  · rw [mSend_ok h0]
    unfold mSendE at h0
    split at h0
    · rename_i hb
      obtain ⟨h1, h2⟩ := send_pth h0
      exact ⟨h.path (pathB_nat hb) h1 (fun hk => by rw [h2]; exact hk) s.As, Step.same rfl rfl rfl rfl⟩
    · cases h0
  · rw [mSend_bad h0]; exact ⟨h, Step.same rfl rfl rfl rfl⟩
theorem MInv.ask {s : MvS} (h : MInv s) (i k t : Int) : MInv (mAsk s i k t) ∧ Step s (mAsk s i k t) := ⟨h.same _, Step.same rfl rfl rfl rfl⟩
theorem MInv.ans {s : MvS} (h : MInv s) (i x y l : Int) : MInv (mAns s i x y l) ∧ Step s (mAns s i x y l) := by
  refine ⟨?_, Step.same rfl rfl rfl rfl⟩
  unfold mAns
  by_cases hb : ansB s.As i x y l = true
  · rw [if_pos hb]
    have hi := ans_path hb
    have hq : i.toNat < 4 := by omega
    refine h.path hq ?_ (fun hk => ?_) _
    · unfold known1
      have hp := (h.pth _ hq).ok
      split
      · exact ⟨⟨hp.i1, hp.i2, hp.o1, hp.o2, fun hk => by cases hk⟩⟩
      · exact ⟨hp⟩
    · unfold known1
      split
      · rfl
      · exact hk
  · rw [if_neg hb]; exact h.same _
theorem MInv.offer {s : MvS} (h : MInv s) (x : Int) : MInv (mOff s x) ∧ Step s (mOff s x) := by
  unfold mOff
  by_cases h0 : issE s.lim s.L s.N x = 0
  · rw [(iss_ok h0).1, (iss_ok h0).2.1]
    refine ⟨⟨(h.good.issue h0).1, h.pth, h.at0, h.at3, h.kn, ?_⟩, Or.inr (Or.inl ⟨x, rfl, rfl, rfl, rfl⟩)⟩
    rcases h.by_ with h1 | ⟨h1, d, hd, hs⟩
    · exact Or.inl h1
    · exact Or.inr ⟨h1, d, List.mem_append_left _ hd, hs⟩
  · rw [(iss_bad h0).1, (iss_bad h0).2.1]
    exact ⟨h, Step.same rfl rfl rfl rfl⟩
theorem MInv.move {s : MvS} (h : MInv s) (i : Int) : MInv (mMov s i) ∧ Step s (mMov s i) := by
  by_cases h0 : mMovE s i = 0
  · rw [mMov_ok h0]
    unfold mMovE at h0
    split at h0
    · rename_i hb
      split at h0
      · cases h0
      · rename_i hk
        split at h0
        · cases h0
        · rename_i hat
          split at h0
          · cases h0
          · rename_i hn
            simp only [not_or, Int.not_lt, Bool.not_eq_false] at hn
            obtain ⟨hsb, hnx⟩ := hn
            obtain ⟨j, hj, hp, hd, _⟩ := place_hit hnx
            have hmn : mNx s.L (mSq s.L s.tb) = (j : Int) := hp
            have hD : s.L.getD (mNx s.L (mSq s.L s.tb)).toNat ⟨0, 0⟩ = s.L[j] := by rw [hmn]; simp [List.getD, List.getElem?_eq_getElem hj]
            have hne : s.L[j].s ≠ mSq s.L s.tb := by simpa using hd
            have hmem : s.L[j] ∈ s.L := List.getElem_mem hj
            have h3 := pathB_iff.1 hb
            have hge : 0 ≤ s.L[j].s := by obtain ⟨m, hm, he⟩ := h.good.src _ hmem; rw [he]; simp
            refine ⟨⟨h.good.sub (retL_sub _ _), h.pth, h3.1, by show i ≤ 3; omega, by simpa using hk, Or.inr ⟨by rw [hD]; exact hge, s.L[j], ?_, by rw [hD]⟩⟩, Or.inr (Or.inr ⟨hsb, rfl, rfl, hat, by rw [hD]; exact hne, by rw [hD]; exact hge, s.L[j], hmem, by rw [hD]⟩)⟩
            show s.L[j] ∈ retL s.L (mSq s.L s.tb)
            rw [retL_erase]
            exact (List.mem_eraseP_of_neg (by simpa using hne)).2 hmem
    · cases h0
  · rw [mMov_bad h0]; exact ⟨h, Step.same rfl rfl rfl rfl⟩
theorem ret_gone {L : List One} (hi : L.Pairwise fun a b => a.s ≠ b.s) (x : Int) : ∀ d ∈ retL L x, d.s ≠ x := by
  rw [retL_erase]
  induction L with
  | nil => simp
  | cons a r ih =>
    rw [List.pairwise_cons] at hi
    intro d hd
    rw [List.eraseP_cons] at hd
    by_cases ha : a.s = x
    · rw [show (a.s == x) = true from by simpa using ha] at hd
      have := hi.1 d (by simpa using hd)
      omega
    · rw [show (a.s == x) = false from by simpa using ha] at hd
      rcases List.mem_cons.1 (by simpa using hd) with rfl | hd
      · exact ha
      · exact ih hi.2 d hd
/-- which names were used, and the path that was last -/
structure Use (s : MvS) (U : List Int) (last : Int) : Prop where
  len : U.length = 100
  val : ∀ j, ith U j = 0 ∨ ith U j = 1
  low : ∀ j, ith U j ≠ 0 → j < s.N.length
  live : ∀ j, ith U j ≠ 0 → ∀ d ∈ s.L, d.s = (j : Int) → (j : Int) = mSq s.L s.tb
  off : mSb s.L s.tb = false → last = -1 ∧ ∀ j, ith U j = 0
  on : mSb s.L s.tb = true → last = s.ta
theorem ith_set (U : List Int) (i j : Nat) (v : Int) (hi : i < U.length) : ith (U.set i v) j = if j = i then v else ith U j := by
  unfold ith
  rw [List.getD_eq_getElem?_getD, List.getD_eq_getElem?_getD, List.getElem?_set]
  by_cases h : i = j
  · subst h; simp [hi]
  · rw [if_neg h, if_neg (fun e => h e.symm)]
theorem mSq_snoc {L : List One} {d : One} {tb : Int} (h : mSb L tb = true) : mSq (L ++ [d]) tb = mSq L tb ∧ mSb (L ++ [d]) tb = true := by
  unfold mSq mSb at *
  by_cases h0 : 0 ≤ tb
  · rw [if_pos h0, if_pos h0, if_pos h0]; exact ⟨rfl, rfl⟩
  · rw [if_neg h0] at h
    rw [if_neg h0, if_neg h0, if_neg h0]
    cases L with
    | nil => simp at h
    | cons a r => exact ⟨rfl, rfl⟩
theorem Use.next {s s' : MvS} {U : List Int} {last : Int} (hm : MInv s) (hm' : MInv s') (hc : s'.N.length ≤ 100) (hst : Step s s') (h : Use s U last) :
    (mSb s'.L s'.tb = false → Use s' U last) ∧
    (mSb s'.L s'.tb = true → (0 ≤ mSq s'.L s'.tb ∧ mSq s'.L s'.tb ≤ 99) ∧ (s'.ta = last → Use s' U last) ∧ (s'.ta ≠ last → ith U (mSq s'.L s'.tb).toNat = 0 ∧ Use s' (U.set (mSq s'.L s'.tb).toNat 1) s'.ta)) := by
  have hby : mSb s'.L s'.tb = true → ∃ m : Nat, m < s'.N.length ∧ mSq s'.L s'.tb = (m : Int) := by
    intro hb
    have : ∃ d ∈ s'.L, d.s = mSq s'.L s'.tb := by
      unfold mSq mSb at *
      by_cases h0 : 0 ≤ s'.tb
      · rw [if_pos h0]
        rcases hm'.by_ with h1 | ⟨_, h1⟩
        · omega
        · exact h1
      · rw [if_neg h0] at hb ⊢
        cases hL : s'.L with
        | nil => rw [hL] at hb; simp at hb
        | cons a r => exact ⟨a, by simp, rfl⟩
    obtain ⟨d, hd, hs⟩ := this
    obtain ⟨m, hm2, he⟩ := hm'.good.src d hd
    exact ⟨m, hm2, by rw [← hs, he]⟩
  rcases hst with ⟨e1, e2, e3, e4⟩ | ⟨x, e1, e2, e3, e4⟩ | ⟨hsb, e1, e2, e3, e4, e5, d0, hd0, hs0⟩
  · have hU : Use s' U last := ⟨h.len, h.val, by rw [e2]; exact h.low, by rw [e1, e4]; exact h.live, by rw [e1, e4]; exact h.off, by rw [e1, e3, e4]; exact h.on⟩
    refine ⟨fun _ => hU, fun hb => ?_⟩
    obtain ⟨m, hm1, hm2⟩ := hby hb
    exact ⟨by omega, fun _ => hU, fun hn => absurd (hU.on hb).symm hn⟩
  · cases hsb : mSb s.L s.tb with
    | true =>
      obtain ⟨q1, q2⟩ := mSq_snoc (d := ⟨(s.N.length : Int), x⟩) hsb
      have hU : Use s' U last := by
        refine ⟨h.len, h.val, fun j hj => by rw [e2, List.length_append]; have := h.low j hj; omega, fun j hj d hd hds => ?_, fun hb => ?_, fun hb => ?_⟩
        · rw [e1, e4, q1]
          rw [e1] at hd
          rcases List.mem_append.1 hd with hd | hd
          · exact h.live j hj d hd hds
          · rw [List.mem_singleton.1 hd] at hds
            have := h.low j hj
            simp only at hds
            omega
        · rw [e1, e4, q2] at hb; cases hb
        · rw [e3]; exact h.on hsb
      refine ⟨fun _ => hU, fun hb => ?_⟩
      obtain ⟨m, hm1, hm2⟩ := hby hb
      exact ⟨by omega, fun _ => hU, fun hn => absurd (hU.on hb).symm hn⟩
    | false =>
      obtain ⟨hl, hz⟩ := h.off hsb
      have htb : ¬ 0 ≤ s.tb := by
        intro h0
        unfold mSb at hsb
        rw [if_pos h0] at hsb
        cases hsb
      have hLn : s.L = [] := by
        unfold mSb at hsb
        rw [if_neg htb] at hsb
        cases hL : s.L with
        | nil => rfl
        | cons a r => rw [hL] at hsb; simp at hsb
      have hb : mSb s'.L s'.tb = true := by rw [e1, e4, hLn]; unfold mSb; rw [if_neg htb]; rfl
      have hq : mSq s'.L s'.tb = s.N.length := by rw [e1, e4, hLn]; unfold mSq; rw [if_neg htb]; rfl
      refine ⟨fun hf => (by rw [hb] at hf; cases hf), fun _ => ?_⟩
      obtain ⟨m, hm1, hm2⟩ := hby hb
      refine ⟨by omega, fun he => ?_, fun _ => ⟨hz _, ?_⟩⟩
      · have := hm'.at0; omega
      · have hlt : (mSq s'.L s'.tb).toNat < U.length := by rw [h.len]; omega
        refine ⟨by rw [List.length_set]; exact h.len, fun j => ?_, fun j hj => ?_, fun j hj d hd hds => ?_, fun hf => (by rw [hb] at hf; cases hf), fun _ => rfl⟩
        · rw [ith_set _ _ _ _ hlt]; split
          · exact Or.inr rfl
          · exact h.val j
        · rw [ith_set _ _ _ _ hlt] at hj
          split at hj
          · omega
          · exact absurd (hz j) hj
        · rw [ith_set _ _ _ _ hlt] at hj
          split at hj
          · omega
          · exact absurd (hz j) hj
  · have hlast := h.on hsb
    have hb : mSb s'.L s'.tb = true := by unfold mSb; rw [if_pos e5]
    have hq : mSq s'.L s'.tb = s'.tb := by unfold mSq; rw [if_pos e5]
    refine ⟨fun hf => (by rw [hb] at hf; cases hf), fun _ => ?_⟩
    obtain ⟨m, hm1, hm2⟩ := hby hb
    have hlt : (mSq s'.L s'.tb).toNat < U.length := by rw [h.len]; omega
    have hz : ith U (mSq s'.L s'.tb).toNat = 0 := by
      by_cases hz : ith U (mSq s'.L s'.tb).toNat = 0
      · exact hz
      · exfalso
        have := h.live _ hz d0 hd0 (by rw [hs0, hq]; omega)
        omega
    refine ⟨by omega, fun he => absurd (he.trans hlast) e3, fun _ => ⟨hz, ?_⟩⟩
    refine ⟨by rw [List.length_set]; exact h.len, fun j => ?_, fun j hj => ?_, fun j hj d hd hds => ?_, fun hf => (by rw [hb] at hf; cases hf), fun _ => rfl⟩
    · rw [ith_set _ _ _ _ hlt]; split
      · exact Or.inr rfl
      · exact h.val j
    · rw [ith_set _ _ _ _ hlt] at hj
      split at hj
      · omega
      · rw [e2]; exact h.low j hj
    · rw [ith_set _ _ _ _ hlt] at hj
      split at hj
      · omega
      · exfalso
        rw [e1] at hd
        have h1 := h.live j hj d ((retL_sub _ _).subset hd) hds
        exact ret_gone hm.good.inc _ d hd (hds.trans h1)
end Go.Proofs.Ythnolkbolmbkdaa
