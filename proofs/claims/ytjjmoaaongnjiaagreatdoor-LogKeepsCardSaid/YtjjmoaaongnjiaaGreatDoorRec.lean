/- The bytes of a log, in plain words: records one behind the other, each a decimal numeral and a newline; what cutting, searching and reading them gives. No program here. -/
import Derived.Test.YtjjmoaaongnjiaaGreatDoorItoa
import Derived.Lib.Atoi
import Derived.Lib.LastIndexLaws
import Derived.Lib.IndexLaws
import Derived.Lib.Strings
namespace Go.Proofs.YtjjmoaaongnjiaaGreatDoor
open Go.RowKit
set_option linter.unusedVariables false

/-- a record's bytes -/
def rcb (n : Int) : List UInt8 := Lib.itoa n ++ [10]
def rcs (ns : List Int) : List UInt8 := (ns.map rcb).flatten
theorem rcs_nil : rcs [] = [] := rfl
theorem rcs_cons (n : Int) (ns : List Int) : rcs (n :: ns) = rcb n ++ rcs ns := rfl
theorem rcs_app (ns ms : List Int) : rcs (ns ++ ms) = rcs ns ++ rcs ms := by unfold rcs; rw [List.map_append, List.flatten_append]
theorem dig_all (u : Nat) : ∀ b ∈ Lib.decDigits u, 48 ≤ b.toNat ∧ b.toNat ≤ 57 := by
  induction u using Nat.strongRecOn with
  | _ u ih =>
    intro b hb
    rw [Lib.decDigits] at hb
    split at hb
    · rename_i h
      rw [List.mem_singleton.1 hb, UInt8.toNat_ofNat']
      omega
    · rename_i h
      rcases List.mem_append.1 hb with hb | hb
      · exact ih (u / 10) (by omega) b hb
      · rw [List.mem_singleton.1 hb, UInt8.toNat_ofNat']
        omega
theorem dig_app (l : List UInt8) (d : Nat) (hd : d < 10) : ∀ (acc n : Nat), Lib.decFrom acc l = some n → Lib.decFrom acc (l ++ [UInt8.ofNat (48 + d)]) = some (n * 10 + d) := by
  induction l with
  | nil =>
    intro acc n h
    have h1 : acc = n := by simpa [Lib.decFrom] using h
    subst h1
    have hv : Lib.digitVal (UInt8.ofNat (48 + d)) = some d := by
      unfold Lib.digitVal
      rw [UInt8.toNat_ofNat', if_pos (by omega)]
      congr 1
      omega
    show Lib.decFrom acc [UInt8.ofNat (48 + d)] = _
    rw [Lib.decFrom, hv]
    rfl
  | cons b r ih =>
    intro acc n h
    rw [List.cons_append]
    rw [Lib.decFrom] at h ⊢
    cases hv : Lib.digitVal b with
    | none => rw [hv] at h; cases h
    | some x => rw [hv] at h; exact ih _ _ h
theorem dig_read (u : Nat) : Lib.decFrom 0 (Lib.decDigits u) = some u := by
  induction u using Nat.strongRecOn with
  | _ u ih =>
    rw [Lib.decDigits]
    split
    · rename_i h
      have := dig_app [] u h 0 0 rfl
      simpa using this
    · rename_i h
      have := dig_app (Lib.decDigits (u / 10)) (u % 10) (by omega) 0 (u / 10) (ih (u / 10) (by omega))
      rw [this]
      congr 1
      omega
theorem ita_read {n : Int} (h0 : 0 ≤ n) : Lib.atoi (Lib.itoa n) = some n := by
  obtain ⟨u, rfl⟩ : ∃ u : Nat, n = u := ⟨n.toNat, by omega⟩
  rw [Lib.itoa_nonneg]
  have hr := dig_read u
  have ha := dig_all u
  have hl : 1 ≤ (Lib.decDigits u).length := by rw [Lib.decDigits_length]; unfold Lib.nDigits; split <;> omega
  generalize Lib.decDigits u = l at *
  cases l with
  | nil => simp at hl
  | cons b r =>
    have hb := ha b (by simp)
    have n1 : (b == 45) = false := by
      rw [beq_eq_false_iff_ne]
      rintro rfl
      simp at hb
    have n2 : (b == 43) = false := by
      rw [beq_eq_false_iff_ne]
      rintro rfl
      simp at hb
    rw [Lib.atoi, n1, n2]
    show (Lib.decNat (b :: r)).map _ = _
    unfold Lib.decNat
    rw [hr]
    rfl
theorem ita_no {n : Int} (h0 : 0 ≤ n) : ∀ b ∈ Lib.itoa n, b ≠ 10 := by
  obtain ⟨u, rfl⟩ : ∃ u : Nat, n = u := ⟨n.toNat, by omega⟩
  rw [Lib.itoa_nonneg]
  intro b hb h
  have := dig_all u b hb
  rw [h] at this
  simp at this
theorem index_at : ∀ (l r : List UInt8), (∀ b ∈ l, b ≠ 10) → Lib.indexByte (l ++ 10 :: r) 10 = (l.length : Int)
  | [], r, _ => by simp [Lib.indexByte]
  | b :: l, r, h => by
    have hb : (b == 10) = false := by simpa using h b (by simp)
    have ih := index_at l r (fun c hc => h c (by simp [hc]))
    have hne : ((l.length : Int) == -1) = false := by rw [beq_eq_false_iff_ne]; omega
    rw [List.cons_append, Lib.indexByte, hb, ih, hne, List.length_cons]
    simp
/-- where the first line ends -/
theorem rec_index {n : Int} (h0 : 0 ≤ n) (r : List UInt8) : Lib.indexByte (rcb n ++ r) 10 = ((Lib.itoa n).length : Int) := by
  unfold rcb
  rw [List.append_assoc]
  exact index_at _ _ (ita_no h0)
theorem rec_trim (n : Int) : Lib.trimSuffix (rcb n) [10] = Lib.itoa n := by
  unfold Lib.trimSuffix Lib.hasSuffix rcb
  have : ([10] : List UInt8).isSuffixOf (Lib.itoa n ++ [10]) = true := by
    rw [List.isSuffixOf_iff_suffix]
    exact List.suffix_append _ _
  rw [if_pos this, List.length_append]
  simp
theorem rcb_len (n : Int) : (rcb n).length = (Lib.itoa n).length + 1 := by unfold rcb; rw [List.length_append]; rfl
/-- no newline in these -/
def noNl (l : List UInt8) : Prop := ∀ b ∈ l, b ≠ 10
theorem occ_one (s : List UInt8) (k : Nat) : Lib.occAt s [10] k = decide (s[k]? = some 10) := by
  unfold Lib.occAt
  have e : s[k]? = (s.drop k).head? := by rw [List.head?_drop]
  rw [e]
  cases s.drop k with
  | nil => rfl
  | cons b r =>
    show ((10 == b) && true) = decide (some b = some 10)
    rw [Bool.and_true]
    by_cases h : b = 10
    · subst h; rfl
    · have h1 : ((10 : UInt8) == b) = false := by rw [beq_eq_false_iff_ne]; exact fun h2 => h h2.symm
      rw [h1, decide_eq_false (by simpa using h)]
theorem last_app (l t : List UInt8) (ht : noNl t) : Lib.lastIndex (l ++ 10 :: t) [10] = (l.length : Int) := by
  have hlen : (l ++ 10 :: t).length = l.length + t.length + 1 := by rw [List.length_append, List.length_cons]; omega
  unfold Lib.lastIndex
  rw [if_pos (by rw [hlen]; show 1 ≤ _; omega)]
  have hat : Lib.occAt (l ++ 10 :: t) [10] l.length = true := by
    rw [occ_one, decide_eq_true_iff, List.getElem?_append_right (Nat.le_refl _), Nat.sub_self]
    rfl
  have hno : ∀ j, l.length < j → Lib.occAt (l ++ 10 :: t) [10] j = false := by
    intro j hj
    rw [occ_one, decide_eq_false_iff_not, List.getElem?_append_right (by omega)]
    obtain ⟨m, hm⟩ : ∃ m, j - l.length = m + 1 := ⟨j - l.length - 1, by omega⟩
    rw [hm, List.getElem?_cons_succ]
    intro h
    exact ht 10 (List.mem_of_getElem? h) rfl
  have hk : l.length < (l ++ 10 :: t).length - [(10 : UInt8)].length + 1 := by rw [hlen]; show l.length < l.length + t.length + 1 - 1 + 1; omega
  rcases Lib.lastOcc_spec (l ++ 10 :: t) [10] ((l ++ 10 :: t).length - [(10 : UInt8)].length + 1) with ⟨_, h⟩ | ⟨i, hi, he, ho, h⟩
  · rw [h _ hk] at hat; cases hat
  · rw [he]
    rcases Nat.lt_trichotomy i l.length with h1 | h1 | h1
    · rw [h _ h1 hk] at hat; cases hat
    · rw [h1]
    · rw [hno _ h1] at ho; cases ho
theorem last_none (t : List UInt8) (ht : noNl t) : Lib.lastIndex t [10] = -1 := by
  unfold Lib.lastIndex
  split
  · rcases Lib.lastOcc_spec t [10] (t.length - [(10 : UInt8)].length + 1) with ⟨h, _⟩ | ⟨i, hi, he, ho, h⟩
    · exact h
    · rw [occ_one, decide_eq_true_iff] at ho
      exact absurd rfl (ht 10 (List.mem_of_getElem? ho))
  · rfl
/-- records, then bytes without a newline: where the last record ends -/
theorem rcs_last (ns : List Int) (t : List UInt8) (ht : noNl t) : Lib.lastIndex (rcs ns ++ t) [10] + 1 = ((rcs ns).length : Int) := by
  rcases List.eq_nil_or_concat ns with rfl | ⟨ms, n, rfl⟩
  · rw [rcs_nil, List.nil_append, last_none t ht]; rfl
  · rw [List.concat_eq_append, rcs_app]
    have e : rcs ms ++ rcs [n] ++ t = (rcs ms ++ Lib.itoa n) ++ 10 :: t := by
      have : rcs [n] = Lib.itoa n ++ [10] := by rw [rcs_cons, rcs_nil, List.append_nil]; rfl
      rw [this]; simp
    rw [e, last_app _ t ht]
    have : rcs [n] = Lib.itoa n ++ [10] := by rw [rcs_cons, rcs_nil, List.append_nil]; rfl
    rw [this, List.length_append, List.length_append, List.length_append]
    simp
    omega
/-- a beginning of the records: whole ones, and a part of one without its newline -/
theorem rcs_take (ns : List Int) (h : ∀ n ∈ ns, 0 ≤ n) : ∀ k, k ≤ (rcs ns).length → ∃ j t, j ≤ ns.length ∧ (rcs ns).take k = rcs (ns.take j) ++ t ∧ noNl t ∧ (j < ns.length → t.length < (rcb (ns.getD j 0)).length) := by
  induction ns with
  | nil => intro k hk; exact ⟨0, [], Nat.le_refl _, by simp [rcs], by intro b hb; simp at hb, by intro hh; simp at hh⟩
  | cons n ns ih =>
    intro k hk
    rw [rcs_cons, List.length_append] at hk
    by_cases hlt : k < (rcb n).length
    · refine ⟨0, (rcb n).take k, Nat.zero_le _, ?_, ?_, fun _ => ?_⟩
      · rw [rcs_cons, List.take_append_of_le_length (by omega)]; simp [rcs]
      · intro b hb
        rw [rcb_len] at hlt
        have e : (rcb n).take k = (Lib.itoa n).take k := by unfold rcb; rw [List.take_append_of_le_length (by omega)]
        rw [e] at hb
        exact ita_no (h n (by simp)) b (List.mem_of_mem_take hb)
      · rw [List.length_take]; show min k _ < _; simp; omega
    · obtain ⟨j, t, h1, h2, h3, h4⟩ := ih (fun m hm => h m (by simp [hm])) (k - (rcb n).length) (by omega)
      refine ⟨j + 1, t, by simp; omega, ?_, h3, fun hj => ?_⟩
      · rw [rcs_cons, List.take_append, List.take_of_length_le (by omega), h2, List.take_succ_cons, rcs_cons, List.append_assoc]
      · have := h4 (by simp at hj; omega)
        simpa using this
end Go.Proofs.YtjjmoaaongnjiaaGreatDoor
