/- A stream's sixty places as a list: what Put, Ready, Take and Gaps say of it. No program here. -/
import Derived.Test.YtbmfknnbpnllkaaRng
namespace Go.Proofs.Ytbmfknnbpnllkaa
set_option linter.unusedVariables false

/-- places, a byte or none in each -/
abbrev Plc := List (Option UInt8)
def Plc.at (M : Plc) (i : Nat) : Option UInt8 := M.getD i none
def Plc.new : Plc := List.replicate 60 none
theorem Plc.new_len : Plc.new.length = 60 := by simp [Plc.new]
theorem Plc.new_at (i : Nat) : Plc.new.at i = none := by
  unfold Plc.at Plc.new List.getD
  rw [List.getElem?_replicate]
  split <;> rfl
theorem Plc.far {M : Plc} {i : Nat} (h : M.length ≤ i) : M.at i = none := by unfold Plc.at; simp [List.getD, List.getElem?_eq_none h]
theorem Plc.at_set {M : Plc} {i j : Nat} {o : Option UInt8} (h : i < M.length) : Plc.at (M.set i o) j = if i = j then o else M.at j := by
  unfold Plc.at
  simp only [List.getD, List.getElem?_set]
  by_cases hij : i = j
  · subst hij
    simp [h]
  · simp [hij]
/-- a byte of a list, 0 beyond the end -/
def bth (d : List UInt8) (i : Nat) : UInt8 := d.getD i 0
theorem bth_get {d : ByteArray} {i : Nat} (h : i < d.size) : bth d.data.toList i = d[i] := by
  unfold bth
  have h1 : i < d.data.toList.length := by rw [Array.length_toList]; exact h
  simp only [List.getD, List.getElem?_eq_getElem h1, Option.getD_some, Array.getElem_toList]
  rfl
/-- there is another byte at one of the first n places from a on -/
def clashN (M : Plc) (a : Nat) (d : List UInt8) : Nat → Bool
  | 0 => false
  | n + 1 => clashN M a d n || (match M.at (a + n) with | some y => y != bth d n | none => false)
theorem clashN_no {M : Plc} {a : Nat} {d : List UInt8} : ∀ {n : Nat}, (clashN M a d n = false ↔ ∀ i, i < n → ∀ y, M.at (a + i) = some y → y = bth d i)
  | 0 => by simp [clashN]
  | n + 1 => by
    have ih := clashN_no (M := M) (a := a) (d := d) (n := n)
    unfold clashN
    rw [Bool.or_eq_false_iff, ih]
    constructor
    · rintro ⟨h1, h2⟩ i hi y hy
      rcases Nat.lt_succ_iff_lt_or_eq.1 hi with h | h
      · exact h1 i h y hy
      · subst h
        rw [hy] at h2
        simpa using h2
    · intro h
      refine ⟨fun i hi y hy => h i (by omega) y hy, ?_⟩
      cases hm : M.at (a + n) with
      | none => rfl
      | some y => simpa using h n (by omega) y hm
theorem clashN_mono {M : Plc} {a : Nat} {d : List UInt8} {n m : Nat} (h : n ≤ m) (hc : clashN M a d n = true) : clashN M a d m = true := by
  cases hm : clashN M a d m with
  | true => rfl
  | false =>
    have h1 := clashN_no.1 hm
    have h2 : clashN M a d n = false := clashN_no.2 fun i hi y hy => h1 i (by omega) y hy
    rw [hc] at h2
    cases h2
theorem clashN_hit {M : Plc} {a : Nat} {d : List UInt8} {i m : Nat} {y : UInt8} (h : i < m) (hy : M.at (a + i) = some y) (hne : y ≠ bth d i) : clashN M a d m = true := by
  cases hm : clashN M a d m with
  | true => rfl
  | false => exact absurd (clashN_no.1 hm i h y hy) hne
theorem clashN_miss {M : Plc} {a : Nat} {d : List UInt8} {i : Nat} (hc : clashN M a d i = false) (h : ∀ y, M.at (a + i) = some y → y = bth d i) : clashN M a d (i + 1) = false :=
  clashN_no.2 fun j hj y hy => by
    rcases Nat.lt_succ_iff_lt_or_eq.1 hj with h1 | h1
    · exact clashN_no.1 hc j h1 y hy
    · subst h1; exact h y hy
/-- the first n bytes are written from a on -/
def wrN (M : Plc) (a : Nat) (d : List UInt8) : Nat → Plc
  | 0 => M
  | n + 1 => (wrN M a d n).set (a + n) (some (bth d n))
theorem wrN_len (M : Plc) (a : Nat) (d : List UInt8) : ∀ n, (wrN M a d n).length = M.length
  | 0 => rfl
  | n + 1 => by unfold wrN; rw [List.length_set, wrN_len M a d n]
theorem wrN_at {M : Plc} {a : Nat} {d : List UInt8} {j : Nat} : ∀ {n : Nat}, a + n ≤ M.length → (wrN M a d n).at j = if a ≤ j ∧ j < a + n then some (bth d (j - a)) else M.at j
  | 0, h => by rw [if_neg (by omega)]; rfl
  | n + 1, h => by
    unfold wrN
    rw [Plc.at_set (by rw [wrN_len]; omega)]
    by_cases hj : a + n = j
    · subst hj
      rw [if_pos rfl, if_pos (by omega), Nat.add_sub_cancel_left]
    · rw [if_neg hj, wrN_at (by omega)]
      by_cases h1 : a ≤ j ∧ j < a + n
      · rw [if_pos h1, if_pos (by omega)]
      · rw [if_neg h1, if_neg (by omega)]
/-- what Put answers, and what becomes of the places -/
def putE (M : Plc) (x : Int) (d : List UInt8) : Int :=
  if x < 0 ∨ 60 < x then 1 else if 60 < x + (d.length : Int) then 4 else if clashN M x.toNat d d.length = true then 7 else 0
def putM (M : Plc) (x : Int) (d : List UInt8) : Plc := if putE M x d = 0 then wrN M x.toNat d d.length else M
theorem putM_len (M : Plc) (x : Int) (d : List UInt8) : (putM M x d).length = M.length := by
  unfold putM
  split
  · exact wrN_len _ _ _ _
  · rfl
/-- how many lie there one behind the other from t on -/
def readyF (M : Plc) : Nat → Nat → Nat
  | 0, _ => 0
  | f + 1, t => if (M.at t).isSome then readyF M f (t + 1) + 1 else 0
def readyN (M : Plc) (t : Nat) : Nat := readyF M (60 - t) t
theorem readyF_all {M : Plc} : ∀ {f t n : Nat}, (∀ j, j < n → (M.at (t + j)).isSome = true) → n ≤ f → ((M.at (t + n)).isSome = false ∨ n = f) → readyF M f t = n
  | 0, t, n, h, hn, _ => by have : n = 0 := by omega
                            subst this; rfl
  | f + 1, t, 0, h, hn, he => by
    unfold readyF
    rcases he with he | he
    · rw [Nat.add_zero] at he; simp [he]
    · omega
  | f + 1, t, n + 1, h, hn, he => by
    unfold readyF
    have h0 := h 0 (by omega)
    rw [Nat.add_zero] at h0
    rw [if_pos h0]
    have := readyF_all (M := M) (f := f) (t := t + 1) (n := n) (fun j hj => by have := h (j + 1) (by omega); rw [show t + 1 + j = t + (j + 1) by omega]; exact this) (by omega) (by
      rcases he with he | he
      · left; rw [show t + 1 + n = t + (n + 1) by omega]; exact he
      · right; omega)
    rw [this]
theorem readyN_eq {M : Plc} {t n : Nat} (h : ∀ j, j < n → (M.at (t + j)).isSome = true) (hn : t + n ≤ 60) (he : (M.at (t + n)).isSome = false ∨ t + n = 60) : readyN M t = n :=
  readyF_all h (by omega) (he.elim Or.inl (fun h => Or.inr (by omega)))
theorem readyF_le (M : Plc) : ∀ f t, readyF M f t ≤ f
  | 0, t => Nat.le_refl _
  | f + 1, t => by
    unfold readyF
    split
    · have := readyF_le M f (t + 1); omega
    · omega
theorem readyN_le (M : Plc) (t : Nat) (ht : t ≤ 60) : t + readyN M t ≤ 60 := by
  have := readyF_le M (60 - t) t
  unfold readyN
  omega
theorem readyF_some {M : Plc} : ∀ {f t j : Nat}, j < readyF M f t → (M.at (t + j)).isSome = true
  | 0, t, j, h => by simp [readyF] at h
  | f + 1, t, j, h => by
    unfold readyF at h
    split at h
    · rename_i hs
      cases j with
      | zero => exact hs
      | succ j =>
        have := readyF_some (M := M) (f := f) (t := t + 1) (j := j) (by omega)
        rw [show t + (j + 1) = t + 1 + j by omega]
        exact this
    · omega
theorem readyN_some {M : Plc} {t j : Nat} (h : j < readyN M t) : (M.at (t + j)).isSome = true := readyF_some h
/-- how many Take takes, and which -/
def takeK (M : Plc) (t : Nat) (x : Int) : Nat := min x.toNat (readyN M t)
def cutL (M : Plc) (t : Nat) : Nat → List UInt8
  | 0 => []
  | n + 1 => cutL M t n ++ [(M.at (t + n)).getD 0]
theorem cutL_len (M : Plc) (t : Nat) : ∀ n, (cutL M t n).length = n
  | 0 => rfl
  | n + 1 => by unfold cutL; rw [List.length_append, cutL_len M t n]; rfl
theorem cutL_get {M : Plc} {t j : Nat} : ∀ {n : Nat}, j < n → (cutL M t n)[j]? = some ((M.at (t + j)).getD 0)
  | 0, h => by omega
  | n + 1, h => by
    unfold cutL
    by_cases hj : j < n
    · rw [List.getElem?_append_left (by rw [cutL_len]; exact hj)]; exact cutL_get hj
    · have : j = n := by omega
      subst this
      rw [List.getElem?_append_right (by rw [cutL_len]; exact Nat.le_refl _), cutL_len]
      simp
theorem takeK_le (M : Plc) (t : Nat) (x : Int) (ht : t ≤ 60) : t + takeK M t x ≤ 60 := by
  have := readyN_le M t ht
  unfold takeK
  omega
/-- what is missing ahead of what came, of the first n places; and where the next that is missing would begin -/
def gapL (M : Plc) : Nat → List Rng × Nat
  | 0 => ([], 0)
  | n + 1 => if (M.at n).isSome then (if (gapL M n).2 < n then (gapL M n).1 ++ [⟨((gapL M n).2 : Int), (n : Int) - 1⟩] else (gapL M n).1, n + 1) else gapL M n
def gapsOf (M : Plc) : List Rng := (gapL M 60).1
theorem gapL_none {M : Plc} {n : Nat} (h : M.at n = none) : gapL M (n + 1) = gapL M n := by
  rw [gapL, h]
  simp
theorem gapL_some {M : Plc} {n : Nat} {y : UInt8} (h : M.at n = some y) : gapL M (n + 1) = (if (gapL M n).2 < n then (gapL M n).1 ++ [⟨((gapL M n).2 : Int), (n : Int) - 1⟩] else (gapL M n).1, n + 1) := by
  rw [gapL, h]
  simp
theorem gapL_le (M : Plc) : ∀ n, (gapL M n).1.length ≤ n ∧ (gapL M n).2 ≤ n
  | 0 => by simp [gapL]
  | n + 1 => by
    have ih := gapL_le M n
    cases h : M.at n with
    | none => rw [gapL_none h]; omega
    | some y =>
      rw [gapL_some h]
      refine ⟨?_, Nat.le_refl _⟩
      show (if _ then _ else _ : List Rng).length ≤ _
      split
      · simp; omega
      · omega
/-- what lies from the beginning on has no gaps ahead of it -/
theorem gapL_full {M : Plc} {k : Nat} (h : ∀ j, j < k → (M.at j).isSome = true) (h2 : ∀ j, k ≤ j → M.at j = none) : ∀ n, gapL M n = ([], min n k)
  | 0 => by simp [gapL]
  | n + 1 => by
    have ih := gapL_full h h2 n
    by_cases hn : n < k
    · have hs := h n hn
      obtain ⟨y, hy⟩ := Option.isSome_iff_exists.1 hs
      rw [gapL_some hy, ih]
      simp only
      rw [if_neg (by omega)]
      congr 1
      omega
    · rw [gapL_none (h2 n (by omega)), ih]
      congr 1
      omega
/-- every byte that is there is the text's -/
def Of (M : Plc) (d : List UInt8) : Prop := ∀ i y, M.at i = some y → i < d.length ∧ bth d i = y
theorem Of.new (d : List UInt8) : Of Plc.new d := fun i y h => by rw [Plc.new_at] at h; cases h
theorem bth_drop (d : List UInt8) (a b i : Nat) (h : i < b - a) : bth ((d.take b).drop a) i = bth d (a + i) := by
  unfold bth
  simp only [List.getD, List.getElem?_drop, List.getElem?_take]
  rw [if_pos (by omega)]
theorem cut_len (d : List UInt8) {a b : Nat} (hb : b ≤ d.length) : ((d.take b).drop a).length = b - a := by
  rw [List.length_drop, List.length_take, Nat.min_eq_left hb]
theorem Of.put {M : Plc} {d : List UInt8} (hM : M.length = 60) (h : Of M d) (hd : d.length ≤ 60) {a b : Nat} (hab : a ≤ b) (hb : b ≤ d.length) :
    putE M a ((d.take b).drop a) = 0 ∧ Of (putM M a ((d.take b).drop a)) d ∧ (∀ i, (putM M a ((d.take b).drop a)).at i = if a ≤ i ∧ i < b then some (bth d i) else M.at i) := by
  have hl := cut_len d (a := a) hb
  have e0 : putE M a ((d.take b).drop a) = 0 := by
    unfold putE
    rw [if_neg (by omega), if_neg (by rw [hl]; omega)]
    rw [if_neg]
    intro hc
    have hn : clashN M (a : Int).toNat ((d.take b).drop a) ((d.take b).drop a).length = false := clashN_no.2 fun i hi y hy => by
      rw [hl] at hi
      rw [bth_drop d a b i hi]
      simp at hy
      exact ((h _ _ hy).2).symm
    rw [hn] at hc
    cases hc
  have e1 : ∀ i, (putM M a ((d.take b).drop a)).at i = if a ≤ i ∧ i < b then some (bth d i) else M.at i := by
    intro i
    unfold putM
    rw [if_pos e0, wrN_at (by rw [hl]; simp; omega), hl]
    simp only [Int.toNat_natCast]
    by_cases hi : a ≤ i ∧ i < b
    · rw [if_pos (by omega), if_pos hi, bth_drop d a b (i - a) (by omega), show a + (i - a) = i by omega]
    · rw [if_neg (by omega), if_neg hi]
  refine ⟨e0, fun i y hy => ?_, e1⟩
  rw [e1] at hy
  split at hy
  · simp at hy
    exact ⟨by omega, hy⟩
  · exact h i y hy
end Go.Proofs.Ytbmfknnbpnllkaa
