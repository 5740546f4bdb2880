/- Plain law: ranges that stand in order and apart are told by the numbers in them; joining gives such. No condition. -/
import Derived.Test.YtjjmoaaongnjiaaGreatDoorJoin
namespace Go.Proofs.YtjjmoaaongnjiaaGreatDoor
set_option linter.unusedVariables false

/-- in order, and apart -/
structure Canon (L : List Rng) : Prop where
  ok : ∀ r ∈ L, r.lo ≤ r.hi
  apart : L.Pairwise (fun a b => b.hi + 1 < a.lo)
/-- the same, the last first -/
structure CanonR (L : List Rng) : Prop where
  ok : ∀ r ∈ L, r.lo ≤ r.hi
  apart : L.Pairwise (fun a b => a.hi + 1 < b.lo)
def jr (acc : List Rng) (r : Rng) : List Rng :=
  match acc with
  | [] => [r]
  | l :: t => if l.lo ≤ r.hi + 1 then ⟨min l.lo r.lo, l.hi⟩ :: t else r :: l :: t
theorem jstep_jr (acc : List Rng) (r : Rng) : jstep acc.reverse r = (jr acc r).reverse := by
  cases acc with
  | nil => rfl
  | cons l t =>
    have hr : rat (l :: t).reverse ((l :: t).reverse.length - 1) = l := by
      rw [rat_get (by simp)]
      simp
    unfold jstep jinto
    rw [hr]
    simp only [jr]
    by_cases h : l.lo ≤ r.hi + 1
    · rw [if_pos h, if_pos (by simp [h])]
      simp
    · rw [if_neg h, if_neg (by simp [h])]
      simp
theorem joinL_jr (L : List Rng) : ∀ acc, L.foldl jstep acc.reverse = (L.foldl jr acc).reverse := by
  induction L with
  | nil => intro acc; rfl
  | cons r t ih => intro acc; rw [List.foldl_cons, List.foldl_cons, jstep_jr, ih]
theorem inB_cons (r : Rng) (L : List Rng) (x : Int) : inB (r :: L) x = (rin r x || inB L x) := rfl
theorem inB_append (L M : List Rng) (x : Int) : inB (L ++ M) x = (inB L x || inB M x) := List.any_append
theorem inB_reverse (L : List Rng) (x : Int) : inB L.reverse x = inB L x := List.any_reverse
theorem inB_perm {L M : List Rng} (h : L.Perm M) (x : Int) : inB L x = inB M x := h.any_eq
theorem jr_in {acc : List Rng} {r : Rng} (hr : r.lo ≤ r.hi) (ha : ∀ l ∈ acc, l.lo ≤ l.hi ∧ r.hi ≤ l.hi) (x : Int) : inB (jr acc r) x = (inB acc x || rin r x) := by
  cases acc with
  | nil => simp [jr, inB]
  | cons l t =>
    obtain ⟨h1, h2⟩ := ha l (by simp)
    simp only [jr]
    by_cases h : l.lo ≤ r.hi + 1
    · rw [if_pos h, inB_cons, inB_cons]
      have : rin ⟨min l.lo r.lo, l.hi⟩ x = (rin l x || rin r x) := by
        unfold rin
        rw [Bool.eq_iff_iff]
        simp
        omega
      rw [this]
      cases rin l x <;> cases rin r x <;> cases inB t x <;> rfl
    · rw [if_neg h, inB_cons, inB_cons]
      cases rin l x <;> cases rin r x <;> cases inB t x <;> rfl
theorem jr_canon {acc : List Rng} {r : Rng} (hr : r.lo ≤ r.hi) (ha : CanonR acc) : CanonR (jr acc r) := by
  cases acc with
  | nil => exact ⟨by simpa [jr] using hr, by simp [jr]⟩
  | cons l t =>
    have h1 := ha.ok l (by simp)
    have h2 := List.pairwise_cons.1 ha.apart
    simp only [jr]
    by_cases h : l.lo ≤ r.hi + 1
    · rw [if_pos h]
      refine ⟨fun a hm => ?_, List.pairwise_cons.2 ⟨fun b hb => h2.1 b hb, h2.2⟩⟩
      rcases List.mem_cons.1 hm with rfl | hm
      · show min l.lo r.lo ≤ l.hi; omega
      · exact ha.ok a (by simp [hm])
    · rw [if_neg h]
      refine ⟨fun a hm => ?_, List.pairwise_cons.2 ⟨fun b hb => ?_, ha.apart⟩⟩
      · rcases List.mem_cons.1 hm with rfl | hm
        · exact hr
        · exact ha.ok a hm
      · rcases List.mem_cons.1 hb with rfl | hb
        · omega
        · have := h2.1 b hb; omega
theorem jr_top {acc : List Rng} {r : Rng} {m : Int} (hr : m ≤ r.hi) (ha : ∀ l ∈ acc, m ≤ l.hi) : ∀ l ∈ jr acc r, m ≤ l.hi := by
  cases acc with
  | nil => intro l hl; simp [jr] at hl; rw [hl]; exact hr
  | cons a t =>
    intro l hl
    simp only [jr] at hl
    split at hl
    · rcases List.mem_cons.1 hl with rfl | hl
      · exact ha a (by simp)
      · exact ha l (by simp [hl])
    · rcases List.mem_cons.1 hl with rfl | hl
      · exact hr
      · exact ha l hl
theorem fold_jr (L : List Rng) : ∀ acc, (∀ r ∈ L, r.lo ≤ r.hi) → L.Pairwise (fun a b => b.hi ≤ a.hi) → CanonR acc → (∀ r ∈ L, ∀ l ∈ acc, r.hi ≤ l.hi) → CanonR (L.foldl jr acc) ∧ ∀ x, inB (L.foldl jr acc) x = (inB acc x || inB L x) := by
  induction L with
  | nil => intro acc _ _ h _; exact ⟨h, fun x => by simp [inB]⟩
  | cons r t ih =>
    intro acc hok hs hc hm
    have hr := hok r (by simp)
    have hs2 := List.pairwise_cons.1 hs
    rw [List.foldl_cons]
    obtain ⟨h1, h2⟩ := ih (jr acc r) (fun a ha => hok a (by simp [ha])) hs2.2 (jr_canon hr hc) (fun a ha l hl => jr_top (hs2.1 a ha) (fun l hl => hm a (by simp [ha]) l hl) l hl)
    refine ⟨h1, fun x => ?_⟩
    rw [h2, jr_in hr (fun l hl => ⟨hc.ok l hl, hm r (by simp) l hl⟩), inB_cons, Bool.or_assoc]
/-- joined: in order, apart, the same numbers -/
theorem joinL_canon {L : List Rng} (hok : ∀ r ∈ L, r.lo ≤ r.hi) (hs : L.Pairwise (fun a b => b.hi ≤ a.hi)) : Canon (joinL L) ∧ ∀ x, inB (joinL L) x = inB L x := by
  obtain ⟨h1, h2⟩ := fold_jr L [] hok hs ⟨by simp, by simp⟩ (by simp)
  have he : joinL L = (L.foldl jr []).reverse := joinL_jr L []
  rw [he]
  refine ⟨⟨fun r hr => h1.ok r (by simpa using hr), by rw [List.pairwise_reverse]; exact h1.apart⟩, fun x => ?_⟩
  rw [inB_reverse, h2]
  rfl
theorem inB_iff {L : List Rng} {x : Int} : inB L x = true ↔ ∃ r ∈ L, r.lo ≤ x ∧ x ≤ r.hi := by
  unfold inB rin
  simp
/-- in order and apart, the same numbers: the same ranges -/
theorem canon_eq : ∀ {A B : List Rng}, Canon A → Canon B → (∀ x, inB A x = inB B x) → A = B
  | [], [], _, _, _ => rfl
  | [], b :: s, _, hb, h => by
    have := h b.lo
    have hb1 := hb.ok b (by simp)
    have : inB (b :: s) b.lo = true := inB_iff.2 ⟨b, by simp, by omega, hb1⟩
    rw [← h] at this
    simp [inB] at this
  | a :: t, [], ha, _, h => by
    have ha1 := ha.ok a (by simp)
    have : inB (a :: t) a.lo = true := inB_iff.2 ⟨a, by simp, by omega, ha1⟩
    rw [h] at this
    simp [inB] at this
  | a :: t, b :: s, ha, hb, h => by
    have ha1 := ha.ok a (by simp)
    have hb1 := hb.ok b (by simp)
    have ha2 := List.pairwise_cons.1 ha.apart
    have hb2 := List.pairwise_cons.1 hb.apart
    have top : ∀ {c : Rng} {u : List Rng}, Canon (c :: u) → ∀ x, inB (c :: u) x = true → x ≤ c.hi := fun {c u} hc x hx => by
      obtain ⟨r, hr, h1, h2⟩ := inB_iff.1 hx
      rcases List.mem_cons.1 hr with rfl | hr
      · exact h2
      · have := (List.pairwise_cons.1 hc.apart).1 r hr
        have := hc.ok c (by simp)
        omega
    have low : ∀ {c : Rng} {u : List Rng}, Canon (c :: u) → inB (c :: u) (c.lo - 1) = false := fun {c u} hc => by
      cases hx : inB (c :: u) (c.lo - 1) with
      | false => rfl
      | true =>
        obtain ⟨r, hr, h1, h2⟩ := inB_iff.1 hx
        rcases List.mem_cons.1 hr with rfl | hr
        · omega
        · have := (List.pairwise_cons.1 hc.apart).1 r hr
          omega
    have hh : a.hi = b.hi := by
      have h1 := top hb a.hi (by rw [← h]; exact inB_iff.2 ⟨a, by simp, ha1, by omega⟩)
      have h2 := top ha b.hi (by rw [h]; exact inB_iff.2 ⟨b, by simp, hb1, by omega⟩)
      omega
    have hl : a.lo = b.lo := by
      have h1 := low ha
      have h2 := low hb
      rcases Int.lt_trichotomy a.lo b.lo with hlt | he | hlt
      · rw [← h] at h2
        have : inB (a :: t) (b.lo - 1) = true := inB_iff.2 ⟨a, by simp, by omega, by omega⟩
        rw [this] at h2; cases h2
      · exact he
      · rw [h] at h1
        have : inB (b :: s) (a.lo - 1) = true := inB_iff.2 ⟨b, by simp, by omega, by omega⟩
        rw [this] at h1; cases h1
    have hab : a = b := by cases a; cases b; simp_all
    subst hab
    have ht := canon_eq (A := t) (B := s) ⟨fun r hr => ha.ok r (by simp [hr]), ha2.2⟩ ⟨fun r hr => hb.ok r (by simp [hr]), hb2.2⟩ (fun x => by
      have := h x
      rw [inB_cons, inB_cons] at this
      cases hx : rin a x with
      | false => rw [hx] at this; simpa using this
      | true =>
        have hx2 : a.lo ≤ x ∧ x ≤ a.hi := by unfold rin at hx; simpa using hx
        have no : ∀ {u : List Rng}, (∀ r ∈ u, r.hi + 1 < a.lo) → inB u x = false := fun {u} hu => by
          cases hy : inB u x with
          | false => rfl
          | true =>
            obtain ⟨r, hr, h1, h2⟩ := inB_iff.1 hy
            have := hu r hr
            omega
        rw [no ha2.1, no hb2.1])
    rw [ht]
end Go.Proofs.YtjjmoaaongnjiaaGreatDoor
