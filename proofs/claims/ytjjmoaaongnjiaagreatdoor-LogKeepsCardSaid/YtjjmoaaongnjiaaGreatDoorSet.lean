/- Plain law: what is right for Check stands in order and apart, and the other way; what is joined. No condition. -/
import Derived.Test.YtjjmoaaongnjiaaGreatDoorCount
namespace Go.Proofs.YtjjmoaaongnjiaaGreatDoor
set_option linter.unusedVariables false

theorem rngE_canon {L : List Rng} (h : rngE L = 0) : Canon L := by
  have hh : ∀ i, i < L.length → okN (rat L i) ∧ (rat L i).lo ≤ (rat L i).hi ∧ (0 < i → (rat L i).hi + 1 < (rat L (i - 1)).lo) := fun i hi => rngOne_ok (rngE_each h hi)
  refine ⟨fun r hr => ?_, ?_⟩
  · obtain ⟨i, hi, rfl⟩ := List.getElem_of_mem hr
    have := (hh i hi).2.1
    rwa [rat_get hi] at this
  · have key : ∀ j, j < L.length → ∀ i, i < j → (rat L j).hi + 1 < (rat L i).lo := by
      intro j
      induction j with
      | zero => intro _ i hi; omega
      | succ j ih =>
        intro hj i hi
        have h1 := (hh (j + 1) hj).2.2 (by omega)
        rw [Nat.add_sub_cancel] at h1
        by_cases he : i = j
        · rw [he]; exact h1
        · have h2 := ih (by omega) i (by omega)
          have h3 := (hh j (by omega)).2.1
          omega
    rw [List.pairwise_iff_getElem]
    intro i j hi hj hij
    have := key j hj i hij
    rwa [rat_get hi, rat_get hj] at this
theorem canon_rngE {L : List Rng} (h : Canon L) (hl : L.length ≤ 12) (hb : ∀ r ∈ L, okN r) : rngE L = 0 := by
  have hone : ∀ i, i < L.length → rngOne L i = 0 := fun i hi => by
    have ho := hb _ (List.getElem_mem hi)
    have hk := h.ok _ (List.getElem_mem hi)
    unfold rngOne
    rw [rat_get hi, if_pos ⟨mayB_iff.2 ho.1, mayB_iff.2 ho.2⟩, if_neg]
    intro hx
    rcases hx with hx | ⟨h0, hx⟩
    · omega
    · have := (List.pairwise_iff_getElem.1 h.apart) (i - 1) i (by omega) hi (by omega)
      rw [rat_get (by omega)] at hx
      omega
  have hup : ∀ n, n ≤ L.length → rngUp L n = 0 := by
    intro n
    induction n with
    | zero => intro _; rfl
    | succ n ih => intro hn; exact rngUp_ok (ih (by omega)) (hone n (by omega))
  unfold rngE
  rw [if_neg (by omega)]
  exact hup _ (Nat.le_refl _)
/-- what is joined stands in order and apart, and holds the same numbers -/
theorem joined_ok {L' M : List Rng} (hp : L'.Perm M) (hs : L'.Pairwise (fun a b => b.hi ≤ a.hi)) (hok : ∀ r ∈ M, okN r ∧ r.lo ≤ r.hi) : Canon (joinL L') ∧ (∀ y, inB (joinL L') y = inB M y) ∧ ∀ r ∈ joinL L', okN r := by
  obtain ⟨h1, h2⟩ := joinL_canon (fun r hr => (hok r (hp.mem_iff.1 hr)).2) hs
  have h3 : ∀ y, inB (joinL L') y = inB M y := fun y => (h2 y).trans (inB_perm hp y)
  refine ⟨h1, h3, fun r hr => ?_⟩
  have hk := h1.ok r hr
  have e1 : inB M r.lo = true := by rw [← h3]; exact inB_iff.2 ⟨r, hr, by omega, hk⟩
  have e2 : inB M r.hi = true := by rw [← h3]; exact inB_iff.2 ⟨r, hr, hk, by omega⟩
  obtain ⟨a, ha, a1, a2⟩ := inB_iff.1 e1
  obtain ⟨b, hb, b1, b2⟩ := inB_iff.1 e2
  obtain ⟨⟨⟨p1, p2⟩, p3, p4⟩, p5⟩ := hok a ha
  obtain ⟨⟨⟨q1, q2⟩, q3, q4⟩, q5⟩ := hok b hb
  exact ⟨⟨by omega, by omega⟩, by omega, by omega⟩
/-- two orders of joining: one result -/
theorem joined_eq {L' M' A B : List Rng} (hp : L'.Perm (A ++ B)) (hs : L'.Pairwise (fun a b => b.hi ≤ a.hi)) (hp' : M'.Perm (B ++ A)) (hs' : M'.Pairwise (fun a b => b.hi ≤ a.hi)) (hok : ∀ r ∈ A ++ B, okN r ∧ r.lo ≤ r.hi) : joinL L' = joinL M' := by
  have h1 := joined_ok hp hs hok
  have h2 := joined_ok (M := A ++ B) (hp'.trans List.perm_append_comm) hs' hok
  exact canon_eq h1.1 h2.1 (fun y => by rw [h1.2.1, h2.2.1])
end Go.Proofs.YtjjmoaaongnjiaaGreatDoor
