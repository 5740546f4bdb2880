/- What a log keeps over crashes, in the words of the law: the ranges behind each record, and where each record ends. No program here. -/
import Derived.Test.YtjjmoaaongnjiaaGreatDoorLogLaw
namespace Go.Proofs.YtjjmoaaongnjiaaGreatDoor
open Go.ChangeShapes Go.WideShapes Go.ChangeAt Go.RowKit
set_option linter.unusedVariables false

/-- the ranges behind each record, the first behind none -/
def dones (ns : List Int) : List (List Rng) := (List.range (ns.length + 1)).map fun i : Nat => adds (ns.take i)
/-- where each record ends -/
def marks (ns : List Int) : List Int := (List.range (ns.length + 1)).map fun i : Nat => ((rcs (ns.take i)).length : Int)
theorem dones_len (ns : List Int) : (dones ns).length = ns.length + 1 := by unfold dones; rw [List.length_map, List.length_range]
theorem marks_len (ns : List Int) : (marks ns).length = ns.length + 1 := by unfold marks; rw [List.length_map, List.length_range]
theorem dones_at {ns : List Int} {i : Nat} (h : i ≤ ns.length) : (dones ns)[i]? = some (adds (ns.take i)) := by
  unfold dones
  rw [List.getElem?_map, List.getElem?_range (by omega)]; rfl
theorem marks_at {ns : List Int} {i : Nat} (h : i ≤ ns.length) : (marks ns)[i]? = some ((rcs (ns.take i)).length : Int) := by
  unfold marks
  rw [List.getElem?_map, List.getElem?_range (by omega)]; rfl
theorem map_snoc {α : Type} (f : List Int → α) (ns : List Int) (n : Int) : (List.range ((ns ++ [n]).length + 1)).map (fun i : Nat => f ((ns ++ [n]).take i)) = (List.range (ns.length + 1)).map (fun i : Nat => f (ns.take i)) ++ [f (ns ++ [n])] := by
  rw [List.length_append, List.length_singleton, List.range_succ, List.map_append]
  congr 1
  · refine List.map_congr_left fun i hi => ?_
    have := List.mem_range.1 hi
    rw [List.take_append_of_le_length (by omega)]
  · show [f ((ns ++ [n]).take (ns.length + 1))] = _
    rw [List.take_of_length_le (by simp)]
theorem dones_snoc (ns : List Int) (n : Int) : dones (ns ++ [n]) = dones ns ++ [adds (ns ++ [n])] := map_snoc adds ns n
theorem marks_snoc (ns : List Int) (n : Int) : marks (ns ++ [n]) = marks ns ++ [((rcs (ns ++ [n])).length : Int)] := map_snoc (fun l => ((rcs l).length : Int)) ns n
theorem map_take {α : Type} (f : List Int → α) (ns : List Int) {j : Nat} (hj : j ≤ ns.length) : ((List.range (ns.length + 1)).map fun i : Nat => f (ns.take i)).take (j + 1) = (List.range ((ns.take j).length + 1)).map fun i : Nat => f ((ns.take j).take i) := by
  rw [← List.map_take, List.take_range, List.length_take, Nat.min_eq_left (by omega), Nat.min_eq_left hj]
  refine List.map_congr_left fun i hi => ?_
  have := List.mem_range.1 hi
  rw [List.take_take, Nat.min_eq_left (by omega)]
theorem dones_take (ns : List Int) {j : Nat} (hj : j ≤ ns.length) : (dones ns).take (j + 1) = dones (ns.take j) := map_take adds ns hj
theorem marks_take (ns : List Int) {j : Nat} (hj : j ≤ ns.length) : (marks ns).take (j + 1) = marks (ns.take j) := map_take (fun l => ((rcs l).length : Int)) ns hj
/-- the last that is not above -/
structure Below_ (ns : List Int) (h : Int) (i l : Nat) : Prop where
  le : l ≤ ns.length
  in_ : ((rcs (ns.take l)).length : Int) ≤ h
  most : ∀ k, k < i → k ≤ ns.length → ((rcs (ns.take k)).length : Int) ≤ h → k ≤ l
theorem Below_.start {ns : List Int} {h : Int} (h0 : 0 ≤ h) : Below_ ns h 0 0 := ⟨Nat.zero_le _, by rw [List.take_zero]; exact h0, fun k hk => by omega⟩
theorem Below_.yes {ns : List Int} {h : Int} {i : Nat} (hi : i ≤ ns.length) (hy : ((rcs (ns.take i)).length : Int) ≤ h) : Below_ ns h (i + 1) i := ⟨hi, hy, fun k hk _ _ => by omega⟩
theorem Below_.no {ns : List Int} {h : Int} {i l : Nat} (b : Below_ ns h i l) (hy : ¬ ((rcs (ns.take i)).length : Int) ≤ h) : Below_ ns h (i + 1) l := ⟨b.le, b.in_, fun k hk hl hh => by
  by_cases hki : k = i
  · subst hki; exact absurd hh hy
  · exact b.most k (by omega) hl hh⟩
theorem Below_.whole {ns : List Int} {h : Int} {l j : Nat} (b : Below_ ns h (ns.length + 1) l) (w : Whole ns h j) : l = j := by
  have h1 := b.most j (by have := w.le; omega) w.le w.in_
  have h2 := w.most l b.le b.in_
  omega
theorem high_eq (s : LgS) (keep : Int) (h0 : 0 ≤ s.safe) (h1 : s.safe ≤ (s.by_.size : Int)) : (if 0 < keep ∧ keep < (s.by_.size : Int) - s.safe then s.safe + keep else if 0 < keep then (s.by_.size : Int) else s.safe) = s.high keep := by
  unfold LgS.high
  split
  · omega
  · split <;> omega
theorem LgOk.safe_le {s : LgS} {ns : List Int} {t : List UInt8} (h : LgOk s ns t) : s.safe ≤ (s.by_.size : Int) := by
  have h1 := h.s1
  have h2 : s.by_.data.toList.length = s.by_.size := Array.length_toList
  rw [h.by_, List.length_append] at h2
  omega
/-- a number that comes, in the words of the law -/
theorem LgOk.step {s : LgS} {ns : List Int} {t : List UInt8} (h : LgOk s ns t) (hl : ns.length < 50000) (n : Int) :
    (lgE s n = 0 ∧ lgB s n = true ∧ addE (adds ns) n = 0 ∧ addB (adds ns) n = true ∧ (s.by_.size : Int) + 2 ≤ ((lgN s n).by_.size : Int) ∧ LgOk (lgN s n) (ns ++ [n]) []) ∨
    (lgE s n = 6 ∧ lgB s n = false ∧ ∃ t', LgOk (lgN s n) ns t') ∨
    (lgE s n = addE (adds ns) n ∧ lgB s n = false ∧ addB (adds ns) n = false ∧ lgN s n = s) := by
  rcases h.came hl n with ⟨b1, b2, b3, b4, b5, b6, b7⟩ | ⟨b1, t', b3, b4⟩
  · left
    have ht := h.nt b6
    subst ht
    have hz := h.size
    have hz2 := b3.size
    have hp := (b3.fit.pos n (by simp))
    have hsz := ita_size hp.1 hp.2
    have e : (ita n).size = (Lib.itoa n).length := str_of
    refine ⟨b2, b1, (addB_ok b5).1, b5, ?_, b3⟩
    rw [hz, hz2, rcs_app, rcs_cons, rcs_nil, List.append_nil, List.length_append, rcb_len]
    omega
  · right
    rcases b4 with h6 | ⟨h1, h2, h3, h4⟩
    · exact Or.inl ⟨h6, b1, t', b3⟩
    · exact Or.inr ⟨h3, b1, h4, h2⟩
/-- what is wrong with a number that comes, and whether it is new, as the law reckons it -/
theorem step_words {ns : List Int} (h : Fits ns) (n : Int) :
    addE (adds ns) n = (if mayB n = true then (if 12 < (withL (adds ns) ⟨n, n⟩).length then 4 else 0) else 1) ∧
    addB (adds ns) n = (mayB n && !inB (adds ns) n && !decide (12 < (withL (adds ns) ⟨n, n⟩).length)) := by
  have hr := h.rng _ (Nat.le_refl _)
  rw [List.take_length] at hr
  have he : addE (adds ns) n = (if mayB n = true then (if 12 < (withL (adds ns) ⟨n, n⟩).length then 4 else 0) else 1) := by unfold addE; rw [if_pos hr]
  refine ⟨he, ?_⟩
  unfold addB
  rw [he]
  cases hm : mayB n with
  | false => simp
  | true =>
    by_cases h12 : 12 < (withL (adds ns) ⟨n, n⟩).length
    · simp [h12]
    · simp [h12]
end Go.Proofs.YtjjmoaaongnjiaaGreatDoor
