/- What package loss tells, in plain words: none that came is lost, each that is lost was sent and is left, one behind the other; the longer the wait, the fewer are. No program here. -/
import Derived.Test.YtbmfknnbpnllkaaDoorLost
namespace Go.Proofs.YtbmfknnbpnllkaaDoor
open Go.ChangeShapes Go.WideShapes Go.ChangeAt Go.RowKit
set_option linter.unusedVariables false

theorem lost_mem {K : List Snt} {top now wait x : Int} (h : x ∈ lostOf K top now wait) : ∃ s ∈ K, s.n = x ∧ lostB top now wait s = true := by
  unfold lostOf at h
  obtain ⟨s, hs, rfl⟩ := List.mem_map.1 h
  obtain ⟨h1, h2⟩ := List.mem_filter.1 hs
  exact ⟨s, h1, rfl, h2⟩
theorem lost_of_mem {K : List Snt} {top now wait : Int} {s : Snt} (h : s ∈ K) (hb : lostB top now wait s = true) : s.n ∈ lostOf K top now wait :=
  List.mem_map_of_mem (List.mem_filter.2 ⟨h, hb⟩)
theorem lostB_less {top now wait more : Int} {s : Snt} (hm : 0 ≤ more) (h : lostB top now (wait + more) s = true) : lostB top now wait s = true := by
  unfold lostB at *
  simp at *
  omega
theorem lost_less {K : List Snt} {top now wait more x : Int} (hm : 0 ≤ more) (h : x ∈ lostOf K top now (wait + more)) : x ∈ lostOf K top now wait := by
  obtain ⟨s, hs, rfl, hb⟩ := lost_mem h
  exact lost_of_mem hs (lostB_less hm hb)
theorem lost_top {K : List Snt} {top now wait x : Int} (h : x ∈ lostOf K top now wait) : x ≤ top := by
  obtain ⟨s, hs, rfl, hb⟩ := lost_mem h
  unfold lostB at hb
  simp at hb
  omega
theorem snt_step {L : List Snt} (h : sntE L = 0) {i : Nat} (hi : i + 1 < L.length) : L[i].n < L[i + 1].n ∧ L[i].t ≤ L[i + 1].t := by
  have h1 := sntUp_all (snt_up h) (i + 1) hi
  unfold sntOne at h1
  rw [Nat.add_sub_cancel, sat_get hi, sat_get (show i < L.length by omega)] at h1
  by_cases hc : mayB L[i + 1].n = true ∧ 0 ≤ L[i + 1].t ∧ L[i + 1].t ≤ 100000 ∧ 1 ≤ L[i + 1].z ∧ L[i + 1].z ≤ 200
  · rw [if_pos hc] at h1
    by_cases hd : 0 < i + 1 ∧ (L[i + 1].n ≤ L[i].n ∨ L[i + 1].t < L[i].t)
    · rw [if_pos hd] at h1; cases h1
    · omega
  · rw [if_neg hc] at h1; cases h1
theorem snt_sorted {L : List Snt} (h : sntE L = 0) : L.Pairwise (fun a b => a.n < b.n) := by
  rw [List.pairwise_iff_getElem]
  intro i j hi hj hij
  obtain ⟨k, rfl⟩ : ∃ k, j = i + 1 + k := ⟨j - (i + 1), by omega⟩
  induction k with
  | zero => exact (snt_step h hj).1
  | succ k ih =>
    have h1 := ih (by omega) (by omega)
    have h2 := (snt_step h (i := i + 1 + k) hj).1
    have h3 : L[i + 1 + (k + 1)].n = L[i + 1 + k + 1].n := rfl
    omega
theorem lost_sorted {L : List Snt} (h : sntE L = 0) (M : List Rng) (top now wait : Int) : (lostOf (leftL L M) top now wait).Pairwise (· < ·) := by
  unfold lostOf leftL
  rw [List.pairwise_map]
  exact ((snt_sorted h).filter _).filter _
theorem left_not {L : List Snt} {M : List Rng} {s : Snt} (h : s ∈ leftL L M) : inB M s.n = false := by
  have := (List.mem_filter.1 h).2
  simpa using this
/-- is there such a number among the first so many -/
def numB (K : List Snt) (x : Int) : Nat → Bool
  | 0 => false
  | n + 1 => numB K x n || (sat K n).n == x
theorem numB_mem {K : List Snt} {x : Int} {s : Snt} (h : s ∈ K) (hx : s.n = x) : numB K x K.length = true := by
  obtain ⟨i, hi, rfl⟩ := List.getElem_of_mem h
  have hm : ∀ n, i < n → numB K x n = true := by
    intro n
    induction n with
    | zero => intro h; omega
    | succ n ih =>
      intro hn
      unfold numB
      by_cases he : i = n
      · subst he
        rw [sat_get hi, hx]
        simp
      · rw [ih (by omega)]; rfl
  exact hm _ hi
def intB (X : List Int) (x : Int) : Nat → Bool
  | 0 => false
  | n + 1 => intB X x n || ith X n == x
theorem ith_get {X : List Int} {i : Nat} (h : i < X.length) : ith X i = X[i] := by unfold ith; simp [List.getD, List.getElem?_eq_getElem h]
theorem intB_mem {X : List Int} {x : Int} (h : x ∈ X) : intB X x X.length = true := by
  obtain ⟨i, hi, rfl⟩ := List.getElem_of_mem h
  have hm : ∀ n, i < n → intB X X[i] n = true := by
    intro n
    induction n with
    | zero => intro h; omega
    | succ n ih =>
      intro hn
      unfold intB
      by_cases he : i = n
      · subst he
        rw [ith_get hi]
        simp
      · rw [ih (by omega)]; rfl
  exact hm _ hi
/-- a block that holds just these elements can be read as a slice -/
theorem Rd.of_block {w : World} {g k n cap : Nat} {t : TypeId} {es : List (List Value)} (h : BlockIs w g t (flat es).toArray) (hr : ∀ e ∈ es, e.length = k ∧ ∀ u ∈ e, u.oneCell' = true) (hn : es.length = n) (hc : n ≤ cap) (hm : cap ≤ 1000000) : Rd w k (.slice (some ⟨g, 0, none⟩) n cap) es := by
  subst hn
  refine ⟨⟨_, cap, rfl, hc, by unfold maxLen; omega, fun _ => ⟨g, 0, rfl, h.lt, fun j u hu => ?_⟩⟩, hr⟩
  rw [Nat.zero_add, h.cell]
  simpa using hu
/-- the example -/
def exL : List Snt := [⟨1, 5, 9⟩, ⟨4, 6, 9⟩, ⟨5, 9, 9⟩]
def exM : List Rng := [⟨5, 5⟩]
theorem exLost : lostL exL exM 10 50 = [1] ∧ lostE exL exM 10 50 = 0 := by decide
theorem intLst.at_ {w : World} {q n cap : Nat} {X : List Int} (h : Lst w 3 1 (.slice (some ⟨q, 0, none⟩) n cap) (X.map intRow)) {i : Nat} (hi : i < X.length) : w.cell? ⟨q, i, none⟩ = some (.int .i64 (ith X i)) := by
  have hrow : (X.map intRow)[i]? = some (intRow (ith X i)) := by rw [ith_get hi]; simp [hi]
  have := h.cell rfl hrow (j := 0) rfl
  simpa using this
theorem lostE_both {L : List Snt} {M : List Rng} {now wait : Int} (h : lostE L M now wait = 0) : bothE L M = 0 ∧ 0 ≤ now ∧ now ≤ 100000 ∧ 1 ≤ wait ∧ wait ≤ 100000 := by
  unfold lostE at h
  by_cases h0 : bothE L M = 0
  · rw [if_pos h0] at h
    by_cases hc : now < 0 ∨ 100000 < now ∨ wait < 1 ∨ 100000 < wait
    · rw [if_pos hc] at h; cases h
    · exact ⟨h0, by omega, by omega, by omega, by omega⟩
  · rw [if_neg h0] at h; exact absurd h h0
theorem lostL_eq {L : List Snt} {M : List Rng} {now wait : Int} (h : lostE L M now wait = 0) (hm : M.length ≠ 0) : lostL L M now wait = lostOf (leftL L M) (rat M 0).hi now wait := by
  unfold lostL; rw [if_pos h, if_neg hm]
theorem lostL_nil {L : List Snt} {M : List Rng} {now wait : Int} (hm : M.length = 0) : lostL L M now wait = [] := by
  unfold lostL
  rw [if_pos hm]
  split <;> rfl
end Go.Proofs.YtbmfknnbpnllkaaDoor
