/- Plain law: what the reference's With makes of ranges that are right, and one more. No condition. -/
import Derived.Test.YtjjmoaaongnjiaaGreatDoorSet
namespace Go.Proofs.YtjjmoaaongnjiaaGreatDoor
set_option linter.unusedVariables false

/-- what With holds: the list, whether the new one is in, and the new one as it grew -/
structure WSt where
  out : List Rng
  put : Bool
  x : Rng
def wstep (s : WSt) (r : Rng) : WSt :=
  if s.x.hi + 1 < r.lo then ⟨s.out ++ [r], s.put, s.x⟩
  else if r.hi < s.x.lo - 1 then (if s.put = true then ⟨s.out ++ [r], true, s.x⟩ else ⟨s.out ++ [s.x] ++ [r], true, s.x⟩)
  else ⟨s.out, s.put, ⟨if r.lo < s.x.lo then r.lo else s.x.lo, if s.x.hi < r.hi then r.hi else s.x.hi⟩⟩
def wup (L : List Rng) (x : Rng) (i : Nat) : WSt := (L.take i).foldl wstep ⟨[], false, x⟩
def withL (L : List Rng) (x : Rng) : List Rng := if (wup L x L.length).put = true then (wup L x L.length).out else (wup L x L.length).out ++ [(wup L x L.length).x]
theorem wup_zero (L : List Rng) (x : Rng) : wup L x 0 = ⟨[], false, x⟩ := rfl
theorem wup_succ {L : List Rng} {x : Rng} {i : Nat} (h : i < L.length) : wup L x (i + 1) = wstep (wup L x i) (rat L i) := by
  unfold wup
  rw [List.take_add_one, List.foldl_append, rat_get h]
  simp [List.getElem?_eq_getElem h]
theorem wstep_len (s : WSt) (r : Rng) : (wstep s r).out.length + (if (wstep s r).put = true then 0 else 1) ≤ s.out.length + (if s.put = true then 0 else 1) + 1 := by
  unfold wstep
  by_cases h1 : s.x.hi + 1 < r.lo
  · rw [if_pos h1]; simp; omega
  · rw [if_neg h1]
    by_cases h2 : r.hi < s.x.lo - 1
    · rw [if_pos h2]
      cases hp : s.put <;> simp
    · rw [if_neg h2]; simp
theorem wup_len (L : List Rng) (x : Rng) : ∀ i, i ≤ L.length → (wup L x i).out.length + (if (wup L x i).put = true then 0 else 1) ≤ i + 1
  | 0, _ => by simp [wup_zero]
  | i + 1, h => by
    have := wup_len L x i (by omega)
    have h2 := wstep_len (wup L x i) (rat L i)
    rw [wup_succ (by omega)]
    omega
theorem withL_len (L : List Rng) (x : Rng) : (withL L x).length ≤ L.length + 1 := by
  have := wup_len L x L.length (Nat.le_refl _)
  unfold withL
  split
  · rename_i h; rw [if_pos h] at this; omega
  · rename_i h; rw [if_neg h] at this; simp; omega
/-- what holds behind i rounds -/
structure WInv (L : List Rng) (x0 : Rng) (i : Nat) (s : WSt) : Prop where
  canon : Canon s.out
  xok : s.x.lo ≤ s.x.hi
  far : ∀ o ∈ s.out, ∀ j, i ≤ j → j < L.length → (rat L j).hi + 1 < o.lo
  away : s.put = false → ∀ o ∈ s.out, s.x.hi + 1 < o.lo
  low : s.put = true → ∀ j, i ≤ j → j < L.length → (rat L j).hi + 1 < s.x.lo
  same : ∀ y, (inB s.out y || (!s.put && rin s.x y)) = (inB (L.take i) y || rin x0 y)
theorem canon_snoc {L : List Rng} {r : Rng} (h : Canon L) (hr : r.lo ≤ r.hi) (hf : ∀ o ∈ L, r.hi + 1 < o.lo) : Canon (L ++ [r]) := by
  refine ⟨fun a ha => ?_, ?_⟩
  · rcases List.mem_append.1 ha with ha | ha
    · exact h.ok a ha
    · rw [List.mem_singleton.1 ha]; exact hr
  · rw [List.pairwise_append]
    exact ⟨h.apart, by simp, fun a ha b hb => by rw [List.mem_singleton.1 hb]; exact hf a ha⟩
theorem canon_rat {L : List Rng} (h : Canon L) {i j : Nat} (hij : i < j) (hj : j < L.length) : (rat L j).hi + 1 < (rat L i).lo := by
  have := (List.pairwise_iff_getElem.1 h.apart) i j (by omega) hj hij
  rw [rat_get hj, rat_get (by omega)]; exact this
theorem inB_take_succ {L : List Rng} {i : Nat} (h : i < L.length) (y : Int) : inB (L.take (i + 1)) y = (inB (L.take i) y || rin (rat L i) y) := by
  rw [List.take_succ_eq_append_getElem h, inB_append, rat_get h]
  simp [inB]
theorem winv {L : List Rng} {x0 : Rng} (hL : Canon L) (hx : x0.lo ≤ x0.hi) : ∀ i, i ≤ L.length → WInv L x0 i (wup L x0 i)
  | 0, _ => ⟨⟨by simp [wup_zero], by simp [wup_zero]⟩, hx, by simp [wup_zero], by simp [wup_zero], by simp [wup_zero], fun y => by simp [wup_zero, inB]⟩
  | i + 1, hi => by
    obtain ⟨c, xo, fa, aw, lo, sa⟩ := winv hL hx i (by omega)
    have hiL : i < L.length := by omega
    have hr : (rat L i).lo ≤ (rat L i).hi := by rw [rat_get hiL]; exact hL.ok _ (List.getElem_mem _)
    have hlater : ∀ j, i + 1 ≤ j → j < L.length → (rat L j).hi + 1 < (rat L i).lo := fun j h1 h2 => canon_rat hL (by omega) h2
    rw [wup_succ hiL]
    generalize wup L x0 i = s at *
    obtain ⟨out, put, x⟩ := s
    simp only at *
    generalize hrr : rat L i = r at *
    obtain ⟨rl, rh⟩ := r
    obtain ⟨xl, xh⟩ := x
    simp only at *
    have hfo : ∀ o ∈ out, rh + 1 < o.lo := fun o ho => by have := fa o ho i (Nat.le_refl _) hiL; rw [hrr] at this; exact this
    unfold wstep
    simp only
    by_cases h1 : xh + 1 < rl
    · rw [if_pos h1]
      have hpf : put = false := by
        cases hp : put with
        | false => rfl
        | true => have := lo hp i (Nat.le_refl _) hiL; rw [hrr] at this; simp only at this; omega
      subst hpf
      refine ⟨canon_snoc c hr hfo, xo, fun o ho j h2 h3 => ?_, fun _ o ho => ?_, fun h => by simp at h, fun y => ?_⟩
      · rcases List.mem_append.1 ho with ho | ho
        · exact fa o ho j (by omega) h3
        · rw [List.mem_singleton.1 ho]; exact hlater j h2 h3
      · rcases List.mem_append.1 ho with ho | ho
        · exact aw rfl o ho
        · rw [List.mem_singleton.1 ho]; exact h1
      · have := sa y
        rw [inB_take_succ hiL, hrr]
        simp only [inB_append] at this ⊢
        simp only [inB, List.any_cons, List.any_nil, Bool.or_false, Bool.not_false, Bool.true_and] at this ⊢
        rw [Bool.or_assoc, Bool.or_comm (rin ⟨rl, rh⟩ y), ← Bool.or_assoc, this, Bool.or_assoc, Bool.or_comm (rin x0 y), ← Bool.or_assoc]
    · rw [if_neg h1]
      by_cases h2 : rh < xl - 1
      · rw [if_pos h2]
        cases put with
        | true =>
          rw [if_pos rfl]
          refine ⟨canon_snoc c hr hfo, xo, fun o ho j h3 h4 => ?_, fun h => by simp at h, fun _ j h3 h4 => lo rfl j (by omega) h4, fun y => ?_⟩
          · rcases List.mem_append.1 ho with ho | ho
            · exact fa o ho j (by omega) h4
            · rw [List.mem_singleton.1 ho]; exact hlater j h3 h4
          · have := sa y
            rw [inB_take_succ hiL, hrr]
            simp only [inB_append] at this ⊢
            simp only [inB, List.any_cons, List.any_nil, Bool.or_false, Bool.not_true, Bool.false_and] at this ⊢
            rw [this, Bool.or_assoc, Bool.or_comm (rin x0 y), ← Bool.or_assoc]
        | false =>
          rw [if_neg (by simp)]
          refine ⟨canon_snoc (canon_snoc c xo (aw rfl)) hr (fun o ho => ?_), xo, fun o ho j h3 h4 => ?_, fun h => by simp at h, fun _ j h3 h4 => ?_, fun y => ?_⟩
          · rcases List.mem_append.1 ho with ho | ho
            · exact hfo o ho
            · rw [List.mem_singleton.1 ho]; show rh + 1 < xl; omega
          · have hl := hlater j h3 h4
            rcases List.mem_append.1 ho with ho | ho
            · rcases List.mem_append.1 ho with ho | ho
              · exact fa o ho j (by omega) h4
              · rw [List.mem_singleton.1 ho]; show _ < xl; omega
            · rw [List.mem_singleton.1 ho]; exact hl
          · have hl := hlater j h3 h4
            simp only at hl ⊢; omega
          · have := sa y
            rw [inB_take_succ hiL, hrr]
            simp only [inB_append] at this ⊢
            simp only [inB, List.any_cons, List.any_nil, Bool.or_false, Bool.not_true, Bool.not_false, Bool.true_and, Bool.false_and] at this ⊢
            rw [this, Bool.or_assoc, Bool.or_comm (rin x0 y), ← Bool.or_assoc]
      · rw [if_neg h2]
        have hpf : put = false := by
          cases hp : put with
          | false => rfl
          | true => have := lo hp i (Nat.le_refl _) hiL; rw [hrr] at this; simp only at this; omega
        subst hpf
        refine ⟨c, ?_, fun o ho j h3 h4 => fa o ho j (by omega) h4, fun _ o ho => ?_, fun h => by simp at h, fun y => ?_⟩
        · show (if rl < xl then rl else xl) ≤ (if xh < rh then rh else xh)
          split <;> split <;> omega
        · have a1 := hfo o ho
          have a2 := aw rfl o ho
          show (if xh < rh then rh else xh) + 1 < o.lo
          split <;> omega
        · have := sa y
          rw [inB_take_succ hiL, hrr]
          have hun : rin ⟨if rl < xl then rl else xl, if xh < rh then rh else xh⟩ y = (rin ⟨xl, xh⟩ y || rin ⟨rl, rh⟩ y) := by
            unfold rin
            rw [Bool.eq_iff_iff]
            simp
            split <;> split <;> omega
          simp only [Bool.not_false, Bool.true_and] at this ⊢
          rw [hun, ← Bool.or_assoc, this, Bool.or_assoc, Bool.or_comm (rin x0 y), ← Bool.or_assoc]
theorem withL_ok {L : List Rng} {x : Rng} (hL : Canon L) (hx : x.lo ≤ x.hi) : Canon (withL L x) ∧ ∀ y, inB (withL L x) y = (inB L y || rin x y) := by
  obtain ⟨c, xo, fa, aw, lo, sa⟩ := winv hL hx L.length (Nat.le_refl _)
  rw [List.take_length] at sa
  unfold withL
  generalize wup L x L.length = s at *
  cases hp : s.put with
  | true =>
    rw [if_pos rfl]
    refine ⟨c, fun y => ?_⟩
    have := sa y
    rw [hp] at this
    simpa using this
  | false =>
    rw [if_neg (by simp)]
    refine ⟨canon_snoc c xo (aw hp), fun y => ?_⟩
    have := sa y
    rw [hp] at this
    rw [inB_append]
    simpa [inB] using this
/-- one number added: as With says -/
theorem with_joined {L L' : List Rng} {x : Int} (hL : Canon L) (hok : ∀ r ∈ L, okN r ∧ r.lo ≤ r.hi) (hx : 0 ≤ x ∧ x ≤ 1073741823) (hp : L'.Perm (L ++ [⟨x, x⟩])) (hs : L'.Pairwise (fun a b => b.hi ≤ a.hi)) : joinL L' = withL L ⟨x, x⟩ := by
  have h1 := joined_ok hp hs (fun r hr => by
    rcases List.mem_append.1 hr with hr | hr
    · exact hok r hr
    · rw [List.mem_singleton.1 hr]; exact ⟨⟨hx, hx⟩, Int.le_refl x⟩)
  have h2 := withL_ok (L := L) (x := ⟨x, x⟩) hL (Int.le_refl x)
  refine canon_eq h1.1 h2.1 (fun y => ?_)
  rw [h1.2.1, h2.2, inB_append]
  simp [inB]
/-- all of M put in, one by one -/
def withAll (L M : List Rng) (i : Nat) : List Rng := (M.take i).foldl withL L
theorem withAll_succ {L M : List Rng} {i : Nat} (h : i < M.length) : withAll L M (i + 1) = withL (withAll L M i) (rat M i) := by
  unfold withAll
  rw [List.take_add_one, List.foldl_append, rat_get h]
  simp [List.getElem?_eq_getElem h]
theorem withAll_len (L M : List Rng) : ∀ i, i ≤ M.length → (withAll L M i).length ≤ L.length + i
  | 0, _ => by simp [withAll]
  | i + 1, h => by
    have := withAll_len L M i (by omega)
    have h2 := withL_len (withAll L M i) (rat M i)
    rw [withAll_succ (by omega)]
    omega
theorem withAll_ok {L M : List Rng} (hL : Canon L) (hM : ∀ r ∈ M, r.lo ≤ r.hi) : ∀ i, i ≤ M.length → Canon (withAll L M i) ∧ ∀ y, inB (withAll L M i) y = (inB L y || inB (M.take i) y)
  | 0, _ => ⟨hL, fun y => by simp [withAll, inB]⟩
  | i + 1, h => by
    obtain ⟨h1, h2⟩ := withAll_ok hL hM i (by omega)
    have hr : (rat M i).lo ≤ (rat M i).hi := by rw [rat_get (by omega)]; exact hM _ (List.getElem_mem _)
    obtain ⟨h3, h4⟩ := withL_ok h1 hr
    rw [withAll_succ (by omega)]
    refine ⟨h3, fun y => ?_⟩
    rw [h4, h2, inB_take_succ (by omega), Bool.or_assoc]
theorem with_both {L M L' : List Rng} (hL : Canon L) (hM : Canon M) (hok : ∀ r ∈ L ++ M, okN r ∧ r.lo ≤ r.hi) (hp : L'.Perm (L ++ M)) (hs : L'.Pairwise (fun a b => b.hi ≤ a.hi)) : joinL L' = withAll L M M.length := by
  have h1 := joined_ok hp hs hok
  have h2 := withAll_ok hL hM.ok M.length (Nat.le_refl _)
  refine canon_eq h1.1 h2.1 (fun y => ?_)
  rw [h1.2.1, h2.2, inB_append, List.take_length]
end Go.Proofs.YtjjmoaaongnjiaaGreatDoor
