/- Contracts of the reference's IDs: Retire, Live; and wiresame.IDs. Condition: the blocks hold IDs as the calls leave them. -/
import Derived.Test.YthnolkbolmbkdaaIdsLaw
import Derived.RangeFuncNested
namespace Go.Proofs.Ythnolkbolmbkdaa
open Go.ChangeShapes Go.WideShapes Go.ChangeAt Go.RowKit
set_option linter.unusedVariables false

theorem Lst.apart2 {w : World} {E E' s s' : Nat} {v v' : Value} {es es' : List (List Value)} (h : Lst w E s v es) (h' : Lst w E' s' v' es') (hne : E ≠ E') : ∀ k, k ∈ blocks v → k ∉ blocks v' := by
  intro k hk hk'
  rcases h.own.2 with ⟨rfl, _⟩ | ⟨g, cap, cur, rfl, _, hg, _⟩
  · simp [Value.ownBlock] at hk
  · rcases h'.own.2 with ⟨rfl, _⟩ | ⟨g', cap', cur', rfl, _, hg', _⟩
    · simp [Value.ownBlock] at hk'
    · have e1 : g = k := by simpa [Value.ownBlock] using hk
      have e2 : g' = k := by simpa [Value.ownBlock] using hk'
      subst e1 e2
      rw [hg] at hg'
      simp only [Option.some.injEq, Obj.cells.injEq] at hg'
      exact hne hg'.2.1
theorem flat_set1 : ∀ {es : List (List Value)} (hr : ∀ e ∈ es, e.length = 1) (i : Nat) (u : Value), (flat es).set i u = flat (es.set i [u])
  | [], _, _, _ => by simp [flat]
  | e :: r, hr, i, u => by
    obtain ⟨a, rfl⟩ := List.length_eq_one_iff.1 (hr e (by simp))
    cases i with
    | zero => simp [flat]
    | succ i =>
      have := flat_set1 (es := r) (fun e he => hr e (by simp [he])) i u
      simp only [flat] at this
      simp [flat, this]
/-- one cell of a slice with elements of one cell is written -/
theorem Lst.set1 {w : World} {E g n cap : Nat} {es : List (List Value)} (h : Lst w E 1 (.slice (some ⟨g, 0, none⟩) n cap) es) {i : Nat} {u : Value} (hu : u.oneCell' = true) : Lst (w.setCell ⟨g, i, none⟩ u) E 1 (.slice (some ⟨g, 0, none⟩) n cap) (es.set i [u]) := by
  have hr : ∀ e ∈ es, e.length = 1 := fun e he => (h.rows e he).1
  refine ⟨⟨?_, ?_⟩, fun e he => ?_⟩
  · rw [← flat_set1 hr, List.length_set, List.length_set]
    exact h.own.1
  · rcases h.own.2 with ⟨h0, _⟩ | ⟨g', cap', cur, hv, hb, hg, h1, h2, h3, h4⟩
    · cases h0
    · simp only [Value.slice.injEq, Option.some.injEq, Addr.mk.injEq, and_true] at hv
      obtain ⟨rfl, rfl, rfl⟩ := hv
      refine Or.inr ⟨g, cap, cur.setIfInBounds i u, by rw [List.length_set], hb, BlockIs.put hg i u, by rw [List.length_set]; exact h1, h2, by simpa using h3, ?_⟩
      rw [Array.toList_setIfInBounds, List.take_set, List.length_set, h4, flat_set1 hr]
  · rcases List.mem_or_eq_of_mem_set he with he | he
    · exact h.rows e he
    · rw [he]
      exact ⟨rfl, by intro x hx; rw [List.mem_singleton.1 hx]; exact hu⟩
def boolRow (b : Bool) : List Value := [.bool b]
theorem boolRow_one (b : Bool) : (boolRow b).length = 1 ∧ ∀ u ∈ boolRow b, u.oneCell' = true := ⟨rfl, by intro u hu; simp [boolRow] at hu; rw [hu]; rfl⟩
/-- those that were issued, and are not gone -/
def liveFrom : List Int → List Bool → Nat → List One
  | x :: r, g :: s, i => if g then liveFrom r s (i + 1) else ⟨(i : Int), x⟩ :: liveFrom r s (i + 1)
  | _, _, _ => []
def liveOf (N : List Int) (Gn : List Bool) : List One := liveFrom N Gn 0
/-- what the reference's Retire answers -/
def rretE (Gn : List Bool) (x : Int) : Int := if x < 0 ∨ (Gn.length : Int) ≤ x then 5 else if Gn.getD x.toNat false = true then 5 else 0
def rretG (Gn : List Bool) (x : Int) : List Bool := if rretE Gn x = 0 then Gn.set x.toNat true else Gn

end Go.Proofs.Ythnolkbolmbkdaa
