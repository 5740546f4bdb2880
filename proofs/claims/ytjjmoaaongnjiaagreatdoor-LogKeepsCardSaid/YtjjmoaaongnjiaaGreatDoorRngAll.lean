/- ranges.Add, Both and Count at whatever slices, in the reference's words. Condition: the slices can be read. -/
import Derived.Test.YtjjmoaaongnjiaaGreatDoorWithLaw
import Derived.Test.YtjjmoaaongnjiaaGreatDoorRngBad
namespace Go.Proofs.YtjjmoaaongnjiaaGreatDoor
open Go.ChangeShapes Go.WideShapes Go.ChangeAt Go.RowKit
set_option linter.unusedVariables false

theorem okRng {L : List Rng} (h : rngE L = 0) : ∀ r ∈ L, okN r ∧ r.lo ≤ r.hi := fun r hr => ⟨rngE_ok h r hr, (rngE_canon h).ok r hr⟩
theorem wstep_bound {s : WSt} {r : Rng} (hs : okN s.x ∧ ∀ o ∈ s.out, okN o) (hr : okN r) : okN (wstep s r).x ∧ ∀ o ∈ (wstep s r).out, okN o := by
  obtain ⟨hx, ho⟩ := hs
  unfold wstep
  split
  · exact ⟨hx, fun o h => by
      rcases List.mem_append.1 h with h | h
      · exact ho o h
      · rw [List.mem_singleton.1 h]; exact hr⟩
  · split
    · split
      · exact ⟨hx, fun o h => by
          rcases List.mem_append.1 h with h | h
          · exact ho o h
          · rw [List.mem_singleton.1 h]; exact hr⟩
      · exact ⟨hx, fun o h => by
          rcases List.mem_append.1 h with h | h
          · rcases List.mem_append.1 h with h | h
            · exact ho o h
            · rw [List.mem_singleton.1 h]; exact hx
          · rw [List.mem_singleton.1 h]; exact hr⟩
    · obtain ⟨⟨a1, a2⟩, a3, a4⟩ := hx
      obtain ⟨⟨b1, b2⟩, b3, b4⟩ := hr
      refine ⟨⟨⟨?_, ?_⟩, ?_, ?_⟩, ho⟩ <;> simp only <;> split <;> omega
theorem wup_bound {L : List Rng} {x : Rng} (hL : ∀ r ∈ L, okN r) (hx : okN x) : ∀ i, i ≤ L.length → okN (wup L x i).x ∧ ∀ o ∈ (wup L x i).out, okN o
  | 0, _ => ⟨hx, by simp [wup_zero]⟩
  | i + 1, h => by
    rw [wup_succ (by omega)]
    exact wstep_bound (wup_bound hL hx i (by omega)) (by rw [rat_get (by omega)]; exact hL _ (List.getElem_mem _))
theorem withL_bound {L : List Rng} {x : Rng} (hL : ∀ r ∈ L, okN r) (hx : okN x) : ∀ r ∈ withL L x, okN r := by
  obtain ⟨h1, h2⟩ := wup_bound hL hx L.length (Nat.le_refl _)
  unfold withL
  split
  · exact h2
  · intro r hr
    rcases List.mem_append.1 hr with hr | hr
    · exact h2 r hr
    · rw [List.mem_singleton.1 hr]; exact h1
theorem withAll_bound {L M : List Rng} (hL : ∀ r ∈ L, okN r) (hM : ∀ r ∈ M, okN r) : ∀ i, i ≤ M.length → ∀ r ∈ withAll L M i, okN r
  | 0, _ => hL
  | i + 1, h => by
    rw [withAll_succ (by omega)]
    exact withL_bound (withAll_bound hL hM i (by omega)) (by rw [rat_get (by omega)]; exact hM _ (List.getElem_mem _))
/-- what is wrong with a number more -/
def addE (L : List Rng) (x : Int) : Int := if rngE L = 0 then (if mayB x = true then (if 12 < (withL L ⟨x, x⟩).length then 4 else 0) else 1) else rngE L
def addL (L : List Rng) (x : Int) : List Rng := if addE L x = 0 then withL L ⟨x, x⟩ else []
def addB (L : List Rng) (x : Int) : Bool := decide (addE L x = 0) && !inB L x
theorem radd_any (A : Option Addr) (n cap : Nat) (L : List Rng) (x : Int) (w : World) (hn : L.length = n) (hb : ∀ r ∈ L, okI r.lo ∧ okI r.hi) (h : Rd w 2 (.slice A n cap) (L.map rngRow)) :
    Calls Tryz.prog 19 #[.slice A n cap, .int .i64 x] w fun e w' => ∃ A' c', e = .returned (.tuple #[.slice A' (addL L x).length c', .bool (addB L x), errV (addE L x)]) ∧ Below w.heap.size w w' ∧ Lst w' 34 2 (.slice A' (addL L x).length c') ((addL L x).map rngRow) ∧ ∀ k, k ∈ blocks (.slice A' 0 0) → w.heap.size ≤ k := by
  by_cases hE : rngE L = 0
  · cases hx : mayB x with
    | false =>
      have e1 : addE L x = 1 := by unfold addE; rw [if_pos hE, hx]; rfl
      have e2 : addL L x = [] := by unfold addL; rw [e1]; rfl
      have e3 : addB L x = false := by unfold addB; rw [e1]; rfl
      rw [e1, e2, e3]
      refine (radd_out A n cap L x w hn hb h hE hx).mono ?_
      rintro e w' ⟨he, hb'⟩
      exact ⟨none, 0, he, hb', Lst.nil _ _ _, by simp [Value.ownBlock]⟩
    | true =>
      refine (radd_ok A n cap L x w hn hb h hE hx).mono ?_
      rintro e w' ⟨L', hp, hs, hb', hr⟩
      have hj : joinL L' = withL L ⟨x, x⟩ := with_joined (rngE_canon hE) (okRng hE) (mayB_iff.1 hx) hp hs
      rw [hj] at hr
      rcases hr with ⟨h12, he⟩ | ⟨hl, A', c', he, hlst, hk⟩
      · have e1 : addE L x = 4 := by unfold addE; rw [if_pos hE, hx, if_pos rfl, if_pos h12]
        have e2 : addL L x = [] := by unfold addL; rw [e1]; rfl
        have e3 : addB L x = false := by unfold addB; rw [e1]; rfl
        rw [e1, e2, e3]
        exact ⟨none, 0, he, hb', Lst.nil _ _ _, by simp [Value.ownBlock]⟩
      · have e1 : addE L x = 0 := by unfold addE; rw [if_pos hE, hx, if_pos rfl, if_neg (by omega)]
        have e2 : addL L x = withL L ⟨x, x⟩ := by unfold addL; rw [if_pos e1]
        have e3 : addB L x = !inB L x := by unfold addB; rw [e1]; simp
        rw [e1, e2, e3]
        exact ⟨A', c', he, hb', hlst, hk⟩
  · have e1 : addE L x = rngE L := by unfold addE; rw [if_neg hE]
    have e2 : addL L x = [] := by unfold addL; rw [e1, if_neg hE]
    have e3 : addB L x = false := by unfold addB; rw [e1, decide_eq_false hE]; rfl
    rw [e1, e2, e3]
    refine (radd_bad A n cap L x w hn hb h hE).mono ?_
    rintro e w' ⟨he, hb'⟩
    exact ⟨none, 0, he, hb', Lst.nil _ _ _, by simp [Value.ownBlock]⟩
def cntV (L : List Rng) : Int := if rngE L = 0 then cntL L else 0
/-- what is wrong with both of two -/
def bthE (L M : List Rng) : Int := if rngE L = 0 then (if rngE M = 0 then (if 12 < (withAll L M M.length).length then 4 else 0) else rngE M) else rngE L
def bthL (L M : List Rng) : List Rng := if bthE L M = 0 then withAll L M M.length else []
end Go.Proofs.YtjjmoaaongnjiaaGreatDoor
