/- IDs in plain words: what was issued, and is live. No program here. -/
import Derived.Test.YthnolkbolmbkdaaRetire
namespace Go.Proofs.Ythnolkbolmbkdaa
open Go.ChangeShapes Go.WideShapes Go.ChangeAt Go.RowKit
set_option linter.unusedVariables false

/-- all that were issued, in order -/
def issued (N : List Int) : List One := N.zipIdx.map fun p => ⟨(p.2 : Int), p.1⟩
theorem issued_length (N : List Int) : (issued N).length = N.length := by simp [issued]
theorem issued_snoc (N : List Int) (x : Int) : issued (N ++ [x]) = issued N ++ [⟨(N.length : Int), x⟩] := by simp [issued, List.zipIdx_append]
theorem issued_at {N : List Int} {i : Nat} (h : i < (issued N).length) : (issued N)[i] = ⟨(i : Int), N[i]'(by rw [issued_length] at h; exact h)⟩ := by simp [issued]
/-- what is live was issued; no name twice -/
structure Good (L : List One) (N : List Int) : Prop where
  nd : N.Nodup
  inc : L.Pairwise fun a b => a.s ≠ b.s
  src : ∀ d, d ∈ L → ∃ (i : Nat) (h : i < N.length), d = ⟨(i : Int), N[i]⟩
theorem Good.nil : Good [] [] := ⟨List.nodup_nil, List.Pairwise.nil, by simp⟩
theorem Good.name {L : List One} {N : List Int} (h : Good L N) {d : One} (hd : d ∈ L) : d.n ∈ N := by
  obtain ⟨i, hi, rfl⟩ := h.src d hd
  exact List.getElem_mem hi
theorem Good.num {L : List One} {N : List Int} (h : Good L N) {d : One} (hd : d ∈ L) : d.s < N.length := by
  obtain ⟨i, hi, rfl⟩ := h.src d hd
  simp only
  omega
theorem Good.issue {lim : Int} {L : List One} {N : List Int} {x : Int} (h : Good L N) (he : issE lim L N x = 0) : Good (L ++ [⟨(N.length : Int), x⟩]) (N ++ [x]) ∧ x ∉ N := by
  have hx : x ∉ N := by
    unfold issE at he
    split at he
    · split at he
      · cases he
      · assumption
    · cases he
  refine ⟨⟨?_, ?_, ?_⟩, hx⟩
  · rw [List.nodup_append]
    exact ⟨h.nd, by simp, fun a ha b hb => by rw [List.mem_singleton.1 hb]; rintro rfl; exact hx ha⟩
  · rw [List.pairwise_append]
    exact ⟨h.inc, by simp, fun a ha b hb => by rw [List.mem_singleton.1 hb]; have := h.num ha; simp only; omega⟩
  · intro d hd
    rcases List.mem_append.1 hd with hd | hd
    · obtain ⟨i, hi, rfl⟩ := h.src d hd
      exact ⟨i, by rw [List.length_append]; omega, by rw [List.getElem_append_left hi]⟩
    · rw [List.mem_singleton.1 hd]
      exact ⟨N.length, by rw [List.length_append]; simp, by simp⟩
theorem Good.sub {L L' : List One} {N : List Int} (h : Good L N) (hs : L'.Sublist L) : Good L' N := ⟨h.nd, h.inc.sublist hs, fun d hd => h.src d (hs.subset hd)⟩
theorem retL_sub (L : List One) (x : Int) : (retL L x).Sublist L := by
  unfold retL
  split
  · exact List.Sublist.refl _
  · have h1 : (L.take (seqI L x).toNat ++ L.drop ((seqI L x).toNat + 1)).Sublist (L.take (seqI L x).toNat ++ L.drop (seqI L x).toNat) :=
      List.Sublist.append (List.Sublist.refl _) (List.drop_sublist_drop_left _ (by omega))
    rw [List.take_append_drop] at h1
    exact h1
theorem place_neg {p : One → Bool} {L : List One} {k : Nat} (h : ∀ d ∈ L, p d = false) : place p L k = -1 := place_none (fun j hj => h _ (List.getElem_mem hj))
theorem findE_none {L : List One} {x : Int} (h : ∀ d ∈ L, d.n ≠ x) : findE L x = 5 := by
  unfold findE findI
  rw [place_neg (fun d hd => by simpa using h d hd)]
  rfl
theorem place_hit {p : One → Bool} {L : List One} (h : 0 ≤ place p L 0) : ∃ (i : Nat) (hi : i < L.length), place p L 0 = (i : Int) ∧ p L[i] = true ∧ ∀ j (hj : j < i), p (L[j]'(by omega)) = false := by
  suffices hs : ∀ (L : List One) (k : Nat), place p L k ≠ -1 → ∃ (i : Nat) (hi : i < L.length), place p L k = ((k + i : Nat) : Int) ∧ p L[i] = true ∧ ∀ j (hj : j < i), p (L[j]'(by omega)) = false by
    obtain ⟨i, hi, h1, h2, h3⟩ := hs L 0 (by omega)
    exact ⟨i, hi, by simpa using h1, h2, h3⟩
  intro L
  induction L with
  | nil => intro k h; exact absurd rfl h
  | cons d r ih =>
    intro k h
    unfold place at h ⊢
    by_cases hp : p d = true
    · rw [if_pos hp]
      exact ⟨0, by simp, by simp, hp, fun j hj => by omega⟩
    · rw [if_neg hp] at h ⊢
      obtain ⟨i, hi, h1, h2, h3⟩ := ih (k + 1) h
      refine ⟨i + 1, by simp; omega, by rw [h1]; congr 1; omega, by simpa using h2, fun j hj => ?_⟩
      cases j with
      | zero => simpa using hp
      | succ j => simpa using h3 j (by omega)
/-- what was retired is not found -/
theorem find_gone {L : List One} {N : List Int} (h : Good L N) {x : Int} (he : retE L x = 0) {i : Nat} (hi : i < N.length) (hx : (i : Int) = x) : findE (retL L x) N[i] = 5 := by
  apply findE_none
  intro d hd
  have h0 : 0 ≤ seqI L x := by
    unfold retE at he
    split at he
    · cases he
    · omega
  obtain ⟨m, hm, h1, h2, h3⟩ := place_hit (p := fun d => d.s == x) h0
  have hsm : L[m].s = x := by simpa using h2
  have hne : d.s ≠ x := by
    have e : retL L x = L.take m ++ L.drop (m + 1) := by
      unfold retL seqI
      rw [h1, if_neg (by omega)]
      rfl
    rw [e] at hd
    rcases List.mem_append.1 hd with hd | hd
    · obtain ⟨j, hj, rfl⟩ := List.getElem_of_mem hd
      rw [List.getElem_take]
      rw [List.length_take] at hj
      have := List.pairwise_iff_getElem.1 h.inc j m (by omega) hm (by omega)
      rw [hsm] at this
      exact this
    · obtain ⟨j, hj, rfl⟩ := List.getElem_of_mem hd
      rw [List.getElem_drop]
      rw [List.length_drop] at hj
      have := List.pairwise_iff_getElem.1 h.inc m (m + 1 + j) hm (by omega) (by omega)
      rw [hsm] at this
      exact fun e => this e.symm
  obtain ⟨k, hk, rfl⟩ := h.src d ((retL_sub L x).subset hd)
  intro e
  simp only at e hne
  have := (List.getElem_inj h.nd).1 e
  omega
/-- what was issued is found -/
theorem find_new {L : List One} {N : List Int} (h : Good L N) {x : Int} (hx : x ∉ N) : findE (L ++ [⟨(N.length : Int), x⟩]) x = 0 ∧ findD (L ++ [⟨(N.length : Int), x⟩]) x = ⟨(N.length : Int), x⟩ := by
  have hp : findI (L ++ [⟨(N.length : Int), x⟩]) x = (L.length : Int) := by
    unfold findI
    rw [place_take (i := L.length) (by simp) (fun j hj => by
      rw [List.getElem_append_left hj]
      have := h.name (List.getElem_mem hj)
      simp only [beq_eq_false_iff_ne, ne_eq]
      rintro rfl
      exact hx this) (by simp)]
    simp
  unfold findE findD
  rw [hp, if_neg (by omega), if_neg (by omega)]
  exact ⟨rfl, by simp [List.getD]⟩
end Go.Proofs.Ythnolkbolmbkdaa
