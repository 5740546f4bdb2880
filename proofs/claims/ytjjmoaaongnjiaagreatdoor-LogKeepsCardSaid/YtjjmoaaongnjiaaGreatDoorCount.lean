/- Plain law: how many numbers are in ranges that stand in order and apart; one more if one is added. No condition. -/
import Derived.Test.YtjjmoaaongnjiaaGreatDoorCanon
import Derived.Test.YtjjmoaaongnjiaaGreatDoorAdd
namespace Go.Proofs.YtjjmoaaongnjiaaGreatDoor
set_option linter.unusedVariables false

def num (L : List Rng) (N : Nat) : Nat := (List.range N).countP fun i : Nat => inB L (i : Int)
theorem num_congr {A B : List Rng} (h : ∀ x, inB A x = inB B x) (N : Nat) : num A N = num B N := by
  unfold num
  congr 1
  funext i
  exact h i
theorem countP_or (p q : Nat → Bool) : ∀ l : List Nat, (∀ i ∈ l, ¬ (p i = true ∧ q i = true)) → l.countP (fun i => p i || q i) = l.countP p + l.countP q
  | [], _ => rfl
  | a :: t, h => by
    have ih := countP_or p q t (fun i hi => h i (by simp [hi]))
    have ha := h a (by simp)
    rw [List.countP_cons, List.countP_cons, List.countP_cons, ih]
    cases hp : p a <;> cases hq : q a <;> simp_all <;> omega
theorem num_cons {r : Rng} {L : List Rng} {N : Nat} (h : ∀ x, rin r x = true → inB L x = false) : num (r :: L) N = num [r] N + num L N := by
  unfold num
  rw [← countP_or]
  · congr 1
    funext i
    simp [inB]
  · intro i _ hh
    obtain ⟨h1, h2⟩ := hh
    have h3 : rin r (i : Int) = true := by simpa [inB] using h1
    rw [h _ h3] at h2
    cases h2
theorem num_one (lo hi : Int) (h0 : 0 ≤ lo) (hl : lo ≤ hi + 1) : ∀ N : Nat, (num [⟨lo, hi⟩] N : Int) = if (N : Int) ≤ lo then 0 else if (N : Int) ≤ hi + 1 then (N : Int) - lo else hi + 1 - lo
  | 0 => by rw [if_pos (by omega)]; rfl
  | N + 1 => by
    have ih := num_one lo hi h0 hl N
    have hs : num [⟨lo, hi⟩] (N + 1) = num [⟨lo, hi⟩] N + (if lo ≤ (N : Int) ∧ (N : Int) ≤ hi then 1 else 0) := by
      unfold num
      rw [List.range_succ, List.countP_append, List.countP_singleton]
      congr 1
      simp [inB, rin]
    rw [hs]
    split at ih <;> split <;> (try split at ih) <;> (try split) <;> (try split) <;> omega
theorem cnt_fold (L : List Rng) : ∀ a, L.foldl (fun a r => a + (r.hi - r.lo + 1)) a = a + cntL L := by
  induction L with
  | nil => intro a; simp [cntL]
  | cons r t ih =>
    intro a
    have h2 : cntL (r :: t) = t.foldl (fun a r => a + (r.hi - r.lo + 1)) (0 + (r.hi - r.lo + 1)) := rfl
    rw [List.foldl_cons, ih, h2, ih]
    omega
theorem cnt_cons (r : Rng) (t : List Rng) : cntL (r :: t) = (r.hi - r.lo + 1) + cntL t := by
  have h2 : cntL (r :: t) = t.foldl (fun a r => a + (r.hi - r.lo + 1)) (0 + (r.hi - r.lo + 1)) := rfl
  rw [h2, cnt_fold]
  omega
theorem cnt_num {N : Nat} : ∀ {L : List Rng}, Canon L → (∀ r ∈ L, 0 ≤ r.lo ∧ r.hi < N) → cntL L = num L N
  | [], _, _ => by
    have : num [] N = 0 := by unfold num; simp [inB]
    rw [this]; rfl
  | r :: t, hc, hb => by
    have h2 := List.pairwise_cons.1 hc.apart
    have hr := hc.ok r (by simp)
    obtain ⟨b1, b2⟩ := hb r (by simp)
    have ih := cnt_num (L := t) ⟨fun a ha => hc.ok a (by simp [ha]), h2.2⟩ (fun a ha => hb a (by simp [ha]))
    rw [cnt_cons, num_cons (fun x hx => by
      have hx2 : r.lo ≤ x ∧ x ≤ r.hi := by unfold rin at hx; simpa using hx
      cases hy : inB t x with
      | false => rfl
      | true =>
        obtain ⟨q, hq, h3, h4⟩ := inB_iff.1 hy
        have := h2.1 q hq
        omega), ih]
    have h1 := num_one r.lo r.hi b1 (by omega) N
    rw [if_neg (by omega)] at h1
    have h1' : (num [r] N : Int) = r.hi + 1 - r.lo := by
      have e : num [r] N = num [⟨r.lo, r.hi⟩] N := rfl
      rw [e, h1]
      split <;> omega
    omega
/-- a number more -/
theorem cnt_more {A B : List Rng} {x : Int} {N : Nat} (ha : Canon A) (hb : Canon B) (hA : ∀ r ∈ A, 0 ≤ r.lo ∧ r.hi < N) (hB : ∀ r ∈ B, 0 ≤ r.lo ∧ r.hi < N) (h0 : 0 ≤ x) (h1 : x < N) (h : ∀ y, inB B y = (inB A y || rin ⟨x, x⟩ y)) : cntL B = cntL A + if inB A x = true then 0 else 1 := by
  rw [cnt_num ha hA, cnt_num hb hB]
  by_cases hx : inB A x = true
  · rw [if_pos hx, num_congr (A := B) (B := A)]
    · omega
    · intro y
      rw [h]
      cases hy : rin ⟨x, x⟩ y with
      | false => simp
      | true =>
        have : y = x := by unfold rin at hy; simp at hy; omega
        rw [this, hx]; rfl
  · rw [if_neg hx, num_congr (A := B) (B := ⟨x, x⟩ :: A) (fun y => by rw [h, inB_cons, Bool.or_comm]), num_cons (fun y hy => by
      have : y = x := by unfold rin at hy; simp at hy; omega
      rw [this]; simpa using hx)]
    have h2 := num_one x x h0 (by omega) N
    rw [if_neg (by omega)] at h2
    split at h2 <;> omega
end Go.Proofs.YtjjmoaaongnjiaaGreatDoor
