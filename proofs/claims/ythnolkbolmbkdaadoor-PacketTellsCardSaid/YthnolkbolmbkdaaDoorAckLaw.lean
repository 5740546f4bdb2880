/- Plain words on ranges told in few bytes: their bytes, what is read of bytes, and that these come back. No program here. -/
import Derived.Test.YthnolkbolmbkdaaDoorRngLaw
import Derived.Test.YthnolkbolmbkdaaDoorVarint
namespace Go.Proofs.YthnolkbolmbkdaaDoor
open Go.ChangeShapes Go.WideShapes Go.ChangeAt Go.RowKit
set_option linter.unusedVariables false

theorem vbytes_len4 (n : Int) : 1 ≤ (vbytes n).length ∧ (vbytes n).length ≤ 4 := by
  have := vbytes_length n
  unfold longN at this
  split at this
  · omega
  · split at this <;> omega
theorem vbytes_len1 {n : Int} (h : n < 64) : (vbytes n).length = 1 := by
  have := vbytes_length n
  unfold longN at this
  rw [if_pos h] at this
  omega
theorem getC_pos (l : List UInt8) : 1 ≤ getC l ∧ getC l ≤ 4 := by
  unfold getC
  split
  · omega
  · split <;> omega
/-- behind the first two numbers: the i-th range's bytes -/
def tlOne (L : List Rng) (i : Nat) : List UInt8 := (if i = 0 then [] else vbytes ((rat L (i - 1)).lo - (rat L i).hi - 2)) ++ vbytes ((rat L i).hi - (rat L i).lo)
def tlUp (L : List Rng) : Nat → List UInt8
  | 0 => []
  | i + 1 => tlUp L i ++ tlOne L i
/-- the first two numbers -/
def ackHead (L : List Rng) : List UInt8 := vbytes (rat L 0).hi ++ vbytes ((L.length : Int) - 1)
/-- the bytes of the first i -/
def ackUp (L : List Rng) (i : Nat) : List UInt8 := if i = 0 then [] else ackHead L ++ tlUp L i
def ackB (L : List Rng) : List UInt8 := ackUp L L.length
theorem ackUp_pos (L : List Rng) {i : Nat} (h : 0 < i) : ackUp L i = ackHead L ++ tlUp L i := by unfold ackUp; rw [if_neg (by omega)]
theorem ackUp_one (L : List Rng) : ackUp L 1 = vbytes (rat L 0).hi ++ vbytes ((L.length : Int) - 1) ++ vbytes ((rat L 0).hi - (rat L 0).lo) := by
  rw [ackUp_pos L (by omega)]; simp [ackHead, tlUp, tlOne]
theorem ackUp_succ (L : List Rng) {i : Nat} (h : 0 < i) : ackUp L (i + 1) = ackUp L i ++ vbytes ((rat L (i - 1)).lo - (rat L i).hi - 2) ++ vbytes ((rat L i).hi - (rat L i).lo) := by
  rw [ackUp_pos L (by omega), ackUp_pos L h, tlUp, tlOne, if_neg (by omega)]; simp
theorem tlOne_len (L : List Rng) (i : Nat) : (tlOne L i).length ≤ 8 ∧ (tlOne L 0).length ≤ 4 := by
  unfold tlOne
  have h1 := (vbytes_len4 ((rat L (i - 1)).lo - (rat L i).hi - 2)).2
  have h2 := (vbytes_len4 ((rat L i).hi - (rat L i).lo)).2
  have h3 := (vbytes_len4 ((rat L 0).hi - (rat L 0).lo)).2
  constructor
  · split <;> simp <;> omega
  · simp; omega
theorem tlUp_len (L : List Rng) : ∀ i, (tlUp L (i + 1)).length ≤ 8 * i + 4
  | 0 => by have := (tlOne_len L 0).2; simp [tlUp]; omega
  | i + 1 => by
    have := tlUp_len L i
    have h2 := (tlOne_len L (i + 1)).1
    rw [tlUp, List.length_append]
    omega
theorem ackUp_len (L : List Rng) (h : L.length ≤ 12) (i : Nat) : (ackUp L i).length ≤ 8 * i + 1 := by
  cases i with
  | zero => simp [ackUp]
  | succ i =>
    have h1 := tlUp_len L i
    have h2 := (vbytes_len4 (rat L 0).hi).2
    have h3 := vbytes_len1 (n := (L.length : Int) - 1) (by omega)
    rw [ackUp_pos L (by omega), List.length_append, ackHead, List.length_append, h3]
    omega

/-- the next range's end, and what was used up to it -/
def hiAt (b : List UInt8) (hi : Int) (i : Nat) (L : List Rng) (k : Nat) : Option (Int × Nat) :=
  if i = 0 then some (hi, k) else if getOk (b.drop k) then some ((rat L (i - 1)).lo - 2 - getN (b.drop k), k + getC (b.drop k)) else none
def rdOne (b : List UInt8) (hi : Int) (i : Nat) (L : List Rng) (k : Nat) : Option (List Rng × Nat) :=
  match hiAt b hi i L k with
  | none => none
  | some (h, k2) => if getOk (b.drop k2) ∧ 0 ≤ h - getN (b.drop k2) then some (L ++ [⟨h - getN (b.drop k2), h⟩], k2 + getC (b.drop k2)) else none
/-- the first i ranges behind the first two numbers, and how many bytes were used -/
def rdUp (b : List UInt8) (hi : Int) (k : Nat) : Nat → Option (List Rng × Nat)
  | 0 => some ([], k)
  | i + 1 => match rdUp b hi k i with
    | none => none
    | some (L, k2) => rdOne b hi i L k2
/-- the ranges that bytes begin with, and how many these are -/
def readA (b : List UInt8) : Option (List Rng × Nat) :=
  if getOk b ∧ getOk (b.drop (getC b)) ∧ getN (b.drop (getC b)) < 12 then rdUp b (getN b) (getC b + getC (b.drop (getC b))) ((getN (b.drop (getC b))).toNat + 1) else none
theorem rdUp_none {b : List UInt8} {hi : Int} {k i : Nat} (h : rdUp b hi k i = none) : ∀ j, i ≤ j → rdUp b hi k j = none := by
  intro j hj
  induction j with
  | zero => obtain rfl : i = 0 := by omega
            exact h
  | succ j ih =>
    by_cases he : i = j + 1
    · rw [← he]; exact h
    · rw [rdUp, ih (by omega)]
theorem rdUp_step {b : List UInt8} {hi : Int} {k i k2 : Nat} {L : List Rng} (h : rdUp b hi k i = some (L, k2)) : rdUp b hi k (i + 1) = rdOne b hi i L k2 := by rw [rdUp, h]
theorem hiAt_zero (b : List UInt8) (hi : Int) (L : List Rng) (k : Nat) : hiAt b hi 0 L k = some (hi, k) := rfl
theorem hiAt_no {b : List UInt8} {hi : Int} {i : Nat} {L : List Rng} {k : Nat} (h0 : 0 < i) (h : ¬ getOk (b.drop k)) : hiAt b hi i L k = none := by unfold hiAt; rw [if_neg (by omega), if_neg h]
theorem hiAt_yes {b : List UInt8} {hi : Int} {i : Nat} {L : List Rng} {k : Nat} (h0 : 0 < i) (h : getOk (b.drop k)) : hiAt b hi i L k = some ((rat L (i - 1)).lo - 2 - getN (b.drop k), k + getC (b.drop k)) := by unfold hiAt; rw [if_neg (by omega), if_pos h]
theorem rdOne_gap {b : List UInt8} {hi : Int} {i : Nat} {L : List Rng} {k : Nat} (h : hiAt b hi i L k = none) : rdOne b hi i L k = none := by unfold rdOne; rw [h]
theorem rdOne_no {b : List UInt8} {hi x : Int} {i : Nat} {L : List Rng} {k k2 : Nat} (h : hiAt b hi i L k = some (x, k2)) (h2 : ¬ (getOk (b.drop k2) ∧ 0 ≤ x - getN (b.drop k2))) : rdOne b hi i L k = none := by unfold rdOne; rw [h]; simp only; rw [if_neg h2]
theorem rdOne_yes {b : List UInt8} {hi x : Int} {i : Nat} {L : List Rng} {k k2 : Nat} (h : hiAt b hi i L k = some (x, k2)) (h2 : getOk (b.drop k2) ∧ 0 ≤ x - getN (b.drop k2)) : rdOne b hi i L k = some (L ++ [⟨x - getN (b.drop k2), x⟩], k2 + getC (b.drop k2)) := by unfold rdOne; rw [h]; simp only; rw [if_pos h2]

theorem get_split {b : List UInt8} {k : Nat} (hk : k ≤ b.length) (h : getOk (b.drop k)) : b.take (k + getC (b.drop k)) = b.take k ++ vbytes (getN (b.drop k)) ∧ k + getC (b.drop k) ≤ b.length := by
  have h1 := get_bytes h
  have h2 := h.2.2.1
  rw [List.length_drop] at h2
  exact ⟨by rw [h1, List.take_add], by have := (getC_pos (b.drop k)).1; omega⟩
theorem rat_app_lt {L : List Rng} {r : Rng} {j : Nat} (h : j < L.length) : rat (L ++ [r]) j = rat L j := by
  unfold rat; simp [List.getD, List.getElem?_append_left h]
theorem rat_app_at {L : List Rng} {r : Rng} : rat (L ++ [r]) L.length = r := by
  unfold rat; simp [List.getD]
theorem tlOne_app {L : List Rng} {r : Rng} {j : Nat} (h : j < L.length) : tlOne (L ++ [r]) j = tlOne L j := by
  unfold tlOne
  rw [rat_app_lt h]
  by_cases h0 : j = 0
  · rw [if_pos h0, if_pos h0]
  · rw [if_neg h0, if_neg h0, rat_app_lt (by omega)]
theorem tlUp_app {L : List Rng} {r : Rng} : ∀ {j : Nat}, j ≤ L.length → tlUp (L ++ [r]) j = tlUp L j
  | 0, _ => rfl
  | j + 1, h => by rw [tlUp, tlUp, tlUp_app (by omega), tlOne_app (by omega)]
theorem rngOne_app {L : List Rng} {r : Rng} {j : Nat} (h : j < L.length) : rngOne (L ++ [r]) j = rngOne L j := by
  unfold rngOne
  rw [rat_app_lt h]
  by_cases h0 : 0 < j
  · rw [rat_app_lt (j := j - 1) (by omega)]
  · have : j = 0 := by omega
    subst this
    simp
theorem rngOne_mk {L : List Rng} {i : Nat} (h1 : okN (rat L i)) (h2 : (rat L i).lo ≤ (rat L i).hi) (h3 : 0 < i → (rat L i).hi + 1 < (rat L (i - 1)).lo) : rngOne L i = 0 := by
  unfold rngOne
  rw [if_pos ⟨mayB_iff.2 h1.1, mayB_iff.2 h1.2⟩, if_neg]
  intro h
  rcases h with h | ⟨h0, h⟩
  · omega
  · have := h3 h0; omega
/-- what is read stands right, and is just the bytes it was read of -/
theorem rdUp_inv {b : List UInt8} {hi : Int} {k : Nat} (h0 : 0 ≤ hi) (h1 : hi ≤ 1073741823) (hk : k ≤ b.length) : ∀ (i : Nat) (L : List Rng) (k2 : Nat), rdUp b hi k i = some (L, k2) →
    L.length = i ∧ k2 ≤ b.length ∧ b.take k2 = b.take k ++ tlUp L i ∧ (∀ j, j < i → rngOne L j = 0) ∧ (0 < i → (rat L 0).hi = hi)
  | 0, L, k2, h => by
    simp only [rdUp, Option.some.injEq, Prod.mk.injEq] at h
    obtain ⟨rfl, rfl⟩ := h
    exact ⟨rfl, hk, by simp [tlUp], by omega, by omega⟩
  | i + 1, L, k2, h => by
    cases hc : rdUp b hi k i with
    | none => rw [rdUp, hc] at h; cases h
    | some p =>
      obtain ⟨M, k1⟩ := p
      obtain ⟨ih1, ih2, ih3, ih4, ih5⟩ := rdUp_inv h0 h1 hk i M k1 hc
      rw [rdUp_step hc] at h
      -- the end
      have key : ∀ x k3, hiAt b hi i M k1 = some (x, k3) → k3 ≤ b.length ∧ b.take k3 = b.take k1 ++ (if i = 0 then [] else vbytes ((rat M (i - 1)).lo - x - 2)) ∧ x ≤ 1073741823 ∧ (0 < i → x + 1 < (rat M (i - 1)).lo) ∧ (i = 0 → x = hi) := by
        intro x k3 hx
        by_cases hi0 : i = 0
        · subst hi0
          rw [hiAt_zero] at hx
          simp only [Option.some.injEq, Prod.mk.injEq] at hx
          obtain ⟨rfl, rfl⟩ := hx
          exact ⟨ih2, by simp, h1, by omega, fun _ => rfl⟩
        · by_cases hg : getOk (b.drop k1)
          · rw [hiAt_yes (by omega) hg] at hx
            simp only [Option.some.injEq, Prod.mk.injEq] at hx
            obtain ⟨rfl, rfl⟩ := hx
            obtain ⟨s1, s2⟩ := get_split ih2 hg
            have hb := getN_bounds hg.2.1
            have hr := (rngOne_ok (ih4 (i - 1) (by omega))).1
            refine ⟨s2, ?_, by omega, fun _ => by omega, fun h => absurd h hi0⟩
            rw [s1, if_neg hi0, show (rat M (i - 1)).lo - ((rat M (i - 1)).lo - 2 - getN (b.drop k1)) - 2 = getN (b.drop k1) by omega]
          · rw [hiAt_no (by omega) hg] at hx; cases hx
      cases hh : hiAt b hi i M k1 with
      | none => rw [rdOne_gap hh] at h; cases h
      | some p =>
        obtain ⟨x, k3⟩ := p
        obtain ⟨a1, a2, a3, a4, a5⟩ := key x k3 hh
        by_cases hg : getOk (b.drop k3) ∧ 0 ≤ x - getN (b.drop k3)
        · rw [rdOne_yes hh hg] at h
          simp only [Option.some.injEq, Prod.mk.injEq] at h
          obtain ⟨rfl, rfl⟩ := h
          obtain ⟨s1, s2⟩ := get_split a1 hg.1
          have hb := getN_bounds hg.1.2.1
          have hlast : rat (M ++ [(⟨x - getN (b.drop k3), x⟩ : Rng)]) i = ⟨x - getN (b.drop k3), x⟩ := by rw [← ih1]; exact rat_app_at
          refine ⟨by simp [ih1], s2, ?_, ?_, ?_⟩
          · rw [s1, a2, ih3, tlUp, tlUp_app (by omega)]
            unfold tlOne
            rw [hlast]
            simp only
            rw [show x - (x - getN (b.drop k3)) = getN (b.drop k3) by omega]
            by_cases hi0 : i = 0
            · simp [hi0]
            · rw [if_neg hi0, if_neg hi0, rat_app_lt (by omega)]
              simp only [List.append_assoc]
          · intro j hj
            by_cases he : j < i
            · rw [rngOne_app (by omega)]; exact ih4 j he
            · obtain rfl : j = i := by omega
              refine rngOne_mk ?_ ?_ ?_
              · rw [hlast]; exact ⟨⟨hg.2, by show x - getN (b.drop k3) ≤ 1073741823; omega⟩, by show 0 ≤ x; omega, a3⟩
              · rw [hlast]; show x - getN (b.drop k3) ≤ x; omega
              · intro h0; rw [hlast, rat_app_lt (by omega)]; exact a4 h0
          · intro _
            by_cases hi0 : i = 0
            · subst hi0; rw [hlast]; exact a5 rfl
            · rw [rat_app_lt (by omega)]; exact ih5 (by omega)
        · rw [rdOne_no hh hg] at h; cases h
theorem rngE_mk {L : List Rng} (hl : L.length ≤ 12) (h : ∀ j, j < L.length → rngOne L j = 0) : rngE L = 0 := by
  have hup : ∀ n, n ≤ L.length → rngUp L n = 0 := by
    intro n
    induction n with
    | zero => intro _; rfl
    | succ n ih => intro hn; exact rngUp_ok (ih (by omega)) (h n (by omega))
  unfold rngE
  rw [if_neg (by omega)]
  exact hup _ (Nat.le_refl _)
/-- what is read is right, and is just the bytes it was read of -/
theorem readA_inv {b : List UInt8} {L : List Rng} {n : Nat} (h : readA b = some (L, n)) : 0 < L.length ∧ rngE L = 0 ∧ n ≤ b.length ∧ b.take n = ackB L ∧ 2 ≤ n := by
  unfold readA at h
  by_cases hc : getOk b ∧ getOk (b.drop (getC b)) ∧ getN (b.drop (getC b)) < 12
  · rw [if_pos hc] at h
    obtain ⟨g1, g2, g3⟩ := hc
    have s1 := get_split (b := b) (k := 0) (by omega) (by simpa using g1)
    simp only [List.drop_zero, Nat.zero_add, List.take_zero, List.nil_append] at s1
    have s2 := get_split s1.2 g2
    have b1 := getN_bounds g1.2.1
    have b2 := getN_bounds g2.2.1
    obtain ⟨i1, i2, i3, i4, i5⟩ := rdUp_inv b1.1 b1.2 s2.2 _ L n h
    have hpos : 0 < L.length := by omega
    refine ⟨hpos, rngE_mk (by omega) (fun j hj => i4 j (by omega)), i2, ?_, ?_⟩
    · have e1 : (L.length : Int) - 1 = getN (b.drop (getC b)) := by omega
      rw [i3, s2.1, s1.1]
      unfold ackB
      rw [ackUp_pos L hpos, ackHead, i5 (by omega), e1, i1]
    · have c1 := (getC_pos b).1
      have c2 := (getC_pos (b.drop (getC b))).1
      have := congrArg List.length i3
      simp only [List.length_take, List.length_append] at this
      omega
  · rw [if_neg hc] at h; cases h

theorem drop_of {p q b : List UInt8} {k : Nat} (h : b = p ++ q) (hk : p.length = k) : b.drop k = q := by rw [h, ← hk, List.drop_left]
theorem rat_take {L : List Rng} {i j : Nat} (h : j < i) : rat (L.take i) j = rat L j := by
  unfold rat; simp [List.getD, h]
theorem get_here {n : Int} {q r : List UInt8} (h : q = vbytes n ++ r) (h0 : 0 ≤ n) (h1 : n ≤ 1073741823) : getOk q ∧ getN q = n ∧ getC q = (vbytes n).length := by
  subst h
  obtain ⟨a, b, c⟩ := get_back h0 h1 r
  refine ⟨a, b, ?_⟩
  have := vbytes_length n
  omega
theorem tlUp_more (L : List Rng) (i : Nat) : ∀ n, i ≤ n → ∃ t, tlUp L n = tlUp L i ++ t
  | 0, h => ⟨[], by obtain rfl : i = 0 := by omega
                    simp⟩
  | n + 1, h => by
    by_cases he : i = n + 1
    · exact ⟨[], by rw [he]; simp⟩
    · obtain ⟨t, ht⟩ := tlUp_more L i n (by omega)
      exact ⟨t ++ tlOne L n, by rw [tlUp, ht]; simp⟩
theorem take_rat {L : List Rng} {i : Nat} (h : i < L.length) : L.take (i + 1) = L.take i ++ [rat L i] := by
  rw [rat_get h, List.take_succ_eq_append_getElem h]
/-- ranges that are right are read as they were, whatever is behind them -/
theorem rdUp_back {L : List Rng} {hd r b : List UInt8} (hE : rngE L = 0) (hb : b = hd ++ tlUp L L.length ++ r) : ∀ i, i ≤ L.length → rdUp b (rat L 0).hi hd.length i = some (L.take i, hd.length + (tlUp L i).length)
  | 0, _ => by simp [rdUp, tlUp]
  | i + 1, hi => by
    have hiL : i < L.length := by omega
    rw [rdUp_step (rdUp_back hE hb i (by omega))]
    obtain ⟨t, ht⟩ := tlUp_more L (i + 1) L.length hi
    have hok := rngOne_ok (rngE_each hE hiL)
    have hdr : b.drop (hd.length + (tlUp L i).length) = tlOne L i ++ (t ++ r) := drop_of (p := hd ++ tlUp L i) (by rw [hb, ht, tlUp]; simp) (by simp)
    obtain ⟨⟨⟨p1, p2⟩, p3, p4⟩, p5, p6⟩ := hok
    have hfin : ∀ x k2, hiAt b (rat L 0).hi i (L.take i) (hd.length + (tlUp L i).length) = some (x, k2) → x = (rat L i).hi → b.drop k2 = vbytes ((rat L i).hi - (rat L i).lo) ++ (t ++ r) → k2 + (vbytes ((rat L i).hi - (rat L i).lo)).length = hd.length + (tlUp L (i + 1)).length →
        rdOne b (rat L 0).hi i (L.take i) (hd.length + (tlUp L i).length) = some (L.take (i + 1), hd.length + (tlUp L (i + 1)).length) := by
      intro x k2 h1 h2 h3 h4
      obtain ⟨g1, g2, g3⟩ := get_here h3 (by omega) (by omega)
      subst h2
      rw [rdOne_yes h1 ⟨g1, by rw [g2]; omega⟩, g2, g3, h4, take_rat hiL, show (rat L i).hi - ((rat L i).hi - (rat L i).lo) = (rat L i).lo by omega]
    by_cases hi0 : i = 0
    · subst hi0
      refine hfin _ _ (hiAt_zero _ _ _ _) rfl ?_ ?_
      · rw [hdr]; simp [tlOne]
      · simp [tlUp, tlOne]
    · have hq := p6 (by omega)
      have hpr := (rngOne_ok (rngE_each hE (i := i - 1) (by omega))).1
      obtain ⟨⟨q1, q2⟩, q3, q4⟩ := hpr
      have ho : tlOne L i = vbytes ((rat L (i - 1)).lo - (rat L i).hi - 2) ++ vbytes ((rat L i).hi - (rat L i).lo) := by unfold tlOne; rw [if_neg hi0]
      obtain ⟨g1, g2, g3⟩ := get_here (q := b.drop (hd.length + (tlUp L i).length)) (n := (rat L (i - 1)).lo - (rat L i).hi - 2) (r := vbytes ((rat L i).hi - (rat L i).lo) ++ (t ++ r)) (by rw [hdr, ho]; simp) (by omega) (by omega)
      refine hfin _ _ (hiAt_yes (by omega) g1) ?_ ?_ ?_
      · rw [g2, rat_take (by omega)]; omega
      · rw [g3]
        exact drop_of (p := hd ++ tlUp L i ++ vbytes ((rat L (i - 1)).lo - (rat L i).hi - 2)) (by rw [hb, ht, tlUp, ho]; simp) (by simp; omega)
      · rw [g3, tlUp, ho]; simp; omega
theorem readA_back {L : List Rng} (hE : rngE L = 0) (h0 : 0 < L.length) (r : List UInt8) : readA (ackB L ++ r) = some (L, (ackB L).length) := by
  have hl := rngE_len hE
  have hok := rngOne_ok (rngE_each hE h0)
  have hAB : ackB L = ackHead L ++ tlUp L L.length := ackUp_pos L h0
  obtain ⟨b, hb⟩ : ∃ b, ackB L ++ r = b := ⟨_, rfl⟩
  have hb' : b = ackHead L ++ tlUp L L.length ++ r := by rw [← hb, hAB]
  have hb2 : b = vbytes (rat L 0).hi ++ (vbytes ((L.length : Int) - 1) ++ (tlUp L L.length ++ r)) := by rw [hb', ackHead]; simp
  obtain ⟨g1, g2, g3⟩ := get_here hb2 hok.1.2.1 hok.1.2.2
  obtain ⟨g4, g5, g6⟩ := get_here (q := b.drop (getC b)) (n := (L.length : Int) - 1) (r := tlUp L L.length ++ r) (by rw [g3]; exact drop_of hb2 rfl) (by omega) (by omega)
  rw [hb]
  unfold readA
  rw [if_pos ⟨g1, g4, by rw [g5]; omega⟩, g2, g5, g6, g3]
  have := rdUp_back hE hb' L.length (Nat.le_refl _)
  rw [List.take_length] at this
  rw [show (vbytes (rat L 0).hi).length + (vbytes ((L.length : Int) - 1)).length = (ackHead L).length by simp [ackHead], show ((L.length : Int) - 1).toNat + 1 = L.length by omega, this, hAB, List.length_append]
end Go.Proofs.YthnolkbolmbkdaaDoor
