/- Program's IDs and the reference's, in plain words: one list. No program here. -/
import Derived.Test.YthnolkbolmbkdaaRIssue
namespace Go.Proofs.Ythnolkbolmbkdaa
open Go.ChangeShapes Go.WideShapes Go.ChangeAt Go.RowKit
set_option linter.unusedVariables false

theorem place_any {p : One → Bool} : ∀ (L : List One) (k : Nat), (0 ≤ place p L k ↔ L.any p = true)
  | [], k => by simp [place]
  | d :: r, k => by
    unfold place
    by_cases h : p d = true
    · rw [if_pos h]; simp [h]
    · rw [if_neg h, place_any r (k + 1)]; simp [h]
theorem place_erase {p : One → Bool} : ∀ (L : List One) (k : Nat), L.any p = true → ∃ i : Nat, place p L k = ((k + i : Nat) : Int) ∧ L.take i ++ L.drop (i + 1) = L.eraseP p
  | [], k, h => by simp at h
  | d :: r, k, h => by
    unfold place
    by_cases hp : p d = true
    · rw [if_pos hp]
      exact ⟨0, by simp, by simp [hp]⟩
    · rw [if_neg hp]
      obtain ⟨i, h1, h2⟩ := place_erase r (k + 1) (by simpa [hp] using h)
      refine ⟨i + 1, by rw [h1]; congr 1; omega, ?_⟩
      rw [List.eraseP_cons_of_neg hp, ← h2]
      simp
theorem retE_any (L : List One) (x : Int) : retE L x = if L.any (fun d => d.s == x) then 0 else 5 := by
  unfold retE seqI
  have := place_any (p := fun d => d.s == x) L 0
  by_cases h : L.any (fun d => d.s == x) = true
  · rw [if_pos h, if_neg (by have := this.2 h; omega)]
  · rw [if_neg h, if_pos (by by_cases h0 : 0 ≤ place (fun d => d.s == x) L 0; exact absurd (this.1 h0) h; omega)]
theorem retL_erase (L : List One) (x : Int) : retL L x = L.eraseP (fun d => d.s == x) := by
  unfold retL seqI
  have := place_any (p := fun d => d.s == x) L 0
  by_cases h : L.any (fun d => d.s == x) = true
  · obtain ⟨i, h1, h2⟩ := place_erase L 0 h
    rw [h1, if_neg (by omega)]
    simpa using h2
  · rw [if_pos (by by_cases h0 : 0 ≤ place (fun d => d.s == x) L 0; exact absurd (this.1 h0) h; omega), List.eraseP_of_forall_not (by simpa using h)]
theorem liveFrom_ge : ∀ (N : List Int) (G : List Bool) (k : Nat), ∀ d ∈ liveFrom N G k, (k : Int) ≤ d.s
  | [], _, k, d, h => by simp [liveFrom] at h
  | _ :: _, [], k, d, h => by simp [liveFrom] at h
  | y :: r, b :: s, k, d, h => by
    have ih := liveFrom_ge r s (k + 1)
    unfold liveFrom at h
    cases b with
    | true => have := ih d (by simpa using h); omega
    | false =>
      rcases List.mem_cons.1 (by simpa using h) with rfl | h
      · exact Int.le_refl _
      · have := ih d h; omega
theorem live_any : ∀ (N : List Int) (G : List Bool) (k m : Nat), G.length = N.length → (liveFrom N G k).any (fun d => d.s == ((k + m : Nat) : Int)) = (G[m]? == some false)
  | [], [], k, m, _ => by simp [liveFrom]
  | y :: r, b :: s, k, 0, h => by
    have := liveFrom_ge r s (k + 1)
    have hn : (liveFrom r s (k + 1)).any (fun d => d.s == ((k + 0 : Nat) : Int)) = false := by
      rw [List.any_eq_false]
      intro d hd
      have := this d hd
      simp
      omega
    cases b with
    | true => simp only [liveFrom, if_true]; rw [hn]; rfl
    | false => simp [liveFrom]
  | y :: r, b :: s, k, m + 1, h => by
    have ih := live_any r s (k + 1) m (by simpa using h)
    have e : k + 1 + m = k + (m + 1) := by omega
    rw [e] at ih
    have hk : ((k : Int) == ((k + (m + 1) : Nat) : Int)) = false := by simp; omega
    cases b with
    | true => simp only [liveFrom, if_true]; rw [ih]; simp
    | false => simp only [liveFrom, Bool.false_eq_true, if_false, List.any_cons, hk, Bool.false_or]; rw [ih]; simp
  | [], _ :: _, _, _, h => by simp at h
  | _ :: _, [], _, _, h => by simp at h
theorem live_erase : ∀ (N : List Int) (G : List Bool) (k m : Nat), G[m]? = some false → (liveFrom N G k).eraseP (fun d => d.s == ((k + m : Nat) : Int)) = liveFrom N (G.set m true) k
  | [], G, k, m, _ => by simp [liveFrom]
  | _ :: _, [], k, m, h => by simp at h
  | y :: r, b :: s, k, 0, h => by
    obtain rfl : b = false := by simpa using h
    simp [liveFrom]
  | y :: r, b :: s, k, m + 1, h => by
    have ih := live_erase r s (k + 1) m (by simpa using h)
    have e : k + 1 + m = k + (m + 1) := by omega
    rw [e] at ih
    have hk : ¬ ((k : Int) == ((k + (m + 1) : Nat) : Int)) = true := by simp; omega
    cases b with
    | true => simp only [liveFrom, if_true, List.set_cons_succ]; exact ih
    | false => simp only [liveFrom, Bool.false_eq_true, if_false, List.set_cons_succ]; rw [List.eraseP_cons_of_neg (p := fun d : One => d.s == ((k + (m + 1) : Nat) : Int)) (a := ⟨(k : Int), y⟩) hk, ih]
/-- Retire: one answer, one list -/
theorem ret_same {N : List Int} {G : List Bool} (h : G.length = N.length) (x : Int) : retE (liveOf N G) x = rretE G x ∧ retL (liveOf N G) x = liveOf N (rretG G x) := by
  rw [retE_any, retL_erase]
  unfold rretG rretE liveOf
  by_cases hx : x < 0
  · have hn : ∀ d ∈ liveFrom N G 0, ¬ (d.s == x) = true := fun d hd => by
      have := liveFrom_ge N G 0 d hd
      simp
      omega
    have ha : (liveFrom N G 0).any (fun d => d.s == x) = false := by rw [List.any_eq_false]; exact hn
    rw [ha, if_pos (Or.inl hx), List.eraseP_of_forall_not hn]
    exact ⟨rfl, rfl⟩
  obtain ⟨m, rfl⟩ := Int.eq_ofNat_of_zero_le (show 0 ≤ x by omega)
  have ha := live_any N G 0 m h
  rw [Nat.zero_add] at ha
  by_cases hm : m < G.length
  · have hc : ¬ ((m : Int) < 0 ∨ (G.length : Int) ≤ (m : Int)) := by omega
    simp only [if_neg hc, Int.toNat_natCast]
    have hg : G[m]? = some G[m] := List.getElem?_eq_getElem hm
    have hd : G.getD m false = G[m] := by simp [List.getD, hm]
    simp only [ha, hg, hd]
    cases hb : G[m] with
    | true =>
      refine ⟨rfl, ?_⟩
      rw [List.eraseP_of_forall_not]
      · rfl
      · intro d hd2
        rw [hg, hb] at ha
        have := List.any_eq_false.1 ha d hd2
        simpa using this
    | false =>
      refine ⟨rfl, ?_⟩
      have := live_erase N G 0 m (by rw [hg, hb])
      rw [Nat.zero_add] at this
      exact this
  · rw [if_pos (Or.inr (by omega))]
    rw [List.getElem?_eq_none (by omega)] at ha
    have ha' : (liveFrom N G 0).any (fun d => d.s == (m : Int)) = false := ha
    rw [ha', List.eraseP_of_forall_not (fun d hd => List.any_eq_false.1 ha' d hd)]
    exact ⟨rfl, rfl⟩
/-- Issue: one answer, one list -/
theorem iss_same {lim : Int} {N : List Int} {G : List Bool} (h : G.length = N.length) (hl : ((liveOf N G).length : Int) ≤ lim) (hm : N.length ≤ 100) (x : Int) :
    issE lim (liveOf N G) N x = rissE lim N G x ∧ issL lim (liveOf N G) N x = liveOf (rissN lim N G x) (rissG lim N G x) ∧ issN lim (liveOf N G) N x = rissN lim N G x ∧ issD lim (liveOf N G) N x = rissD lim N G x := by
  have e : issE lim (liveOf N G) N x = rissE lim N G x := by
    unfold issE rissE
    have : (((liveOf N G).length : Int) = lim ∨ N.length = 100) ↔ (lim ≤ ((liveOf N G).length : Int) ∨ 100 ≤ N.length) := by omega
    simp only [this]
  refine ⟨e, ?_, by unfold issN rissN; rw [e], by unfold issD rissD; rw [e]⟩
  unfold issL rissN rissG
  rw [e]
  split
  · rw [liveOf_snoc h]; rfl
  · rfl
/-- the search among the live: one more looked at -/
theorem find_snoc {L : List One} {d : One} {x : Int} : (d.n = x → (∀ a ∈ L, a.n ≠ x) → findE (L ++ [d]) x = 0 ∧ findD (L ++ [d]) x = d) ∧ (d.n ≠ x → findE (L ++ [d]) x = findE L x ∧ findD (L ++ [d]) x = findD L x) := by
  constructor
  · intro hx hn
    have hp : findI (L ++ [d]) x = (L.length : Int) := by
      unfold findI
      rw [place_take (i := L.length) (by simp) (fun j hj => by
        rw [List.getElem_append_left hj]
        simpa using hn _ (List.getElem_mem hj)) (by simpa using hx)]
      simp
    unfold findE findD
    rw [hp, if_neg (by omega), if_neg (by omega)]
    exact ⟨rfl, by simp [List.getD]⟩
  · intro hx
    by_cases h0 : 0 ≤ findI L x
    · obtain ⟨i, hi, h1, h2, h3⟩ := place_hit (p := fun d => d.n == x) h0
      have hp : findI (L ++ [d]) x = findI L x := by
        unfold findI
        rw [place_take (i := i) (by simp; omega) (fun j hj => by
          rw [List.getElem_append_left (by omega)]
          exact h3 j hj) (by rw [List.getElem_append_left hi]; exact h2), h1]
        simp
      have h1' : findI L x = (i : Int) := h1
      unfold findE findD
      rw [hp, h1']
      simp only [if_neg (show ¬ (i : Int) < 0 by omega)]
      exact ⟨trivial, by simp [List.getD, List.getElem?_append_left hi]⟩
    · have hn : ∀ a ∈ L, (a.n == x) = false := by
        have := (place_any (p := fun d => d.n == x) L 0)
        have hf : L.any (fun d => d.n == x) = false := by
          cases ha : L.any (fun d => d.n == x) with
          | false => rfl
          | true => exact absurd (this.2 ha) h0
        intro a ha
        simpa using List.any_eq_false.1 hf a ha
      have hp : findI (L ++ [d]) x = -1 := by
        unfold findI
        refine place_neg (fun a ha => ?_)
        rcases List.mem_append.1 ha with ha | ha
        · exact hn a ha
        · rw [List.mem_singleton.1 ha]; simpa using hx
      have hq : findI L x = -1 := by unfold findI; exact place_neg hn
      unfold findE findD
      rw [hp, hq]
      exact ⟨rfl, rfl⟩
theorem find_nil (x : Int) : findE [] x = 5 ∧ findD [] x = ⟨0, 0⟩ := ⟨rfl, rfl⟩
end Go.Proofs.Ythnolkbolmbkdaa
