/- What is asked, and answered, in plain words: a list of what is open. No program here. -/
import Derived.Test.YthnolkbolmbkdaaOut
import Derived.Test.YthnolkbolmbkdaaMaps
import Derived.Test.YthnolkbolmbkdaaMayB
namespace Go.Proofs.Ythnolkbolmbkdaa
open Go.ChangeShapes Go.WideShapes Go.ChangeAt Go.RowKit
set_option linter.unusedVariables false

/-- asked on a path, which number, when -/
structure Asked where
  p : Int
  k : Int
  t : Int
/-- what is asked by a number -/
def fnd (L : List Asked) (k : Int) : Option Asked := L.find? (fun a => a.k == k)
def pathB (p : Int) : Bool := decide (0 ≤ p) && decide (p < 4)
def timeB (t : Int) : Bool := decide (0 ≤ t) && decide (t ≤ 100000)
theorem pathB_iff {p : Int} : pathB p = true ↔ 0 ≤ p ∧ p < 4 := by unfold pathB; simp
theorem timeB_iff {t : Int} : timeB t = true ↔ 0 ≤ t ∧ t ≤ 100000 := by unfold timeB; simp
theorem pathB_no {p : Int} (h : ¬ (0 ≤ p ∧ p < 4)) : pathB p = false := by
  cases hb : pathB p
  · rfl
  · exact absurd (pathB_iff.1 hb) h
theorem timeB_no {t : Int} (h : ¬ (0 ≤ t ∧ t ≤ 100000)) : timeB t = false := by
  cases hb : timeB t
  · rfl
  · exact absurd (timeB_iff.1 hb) h
/-- may it be asked at all? -/
def AskOk (p k t : Int) : Prop := (0 ≤ p ∧ p < 4) ∧ MayBe k ∧ 0 ≤ t ∧ t ≤ 100000
instance (p k t : Int) : Decidable (AskOk p k t) := by unfold AskOk; infer_instance
def askE (L : List Asked) (p k t : Int) : Int := if AskOk p k t then (if (fnd L k).isSome then 7 else if L.length = 8 then 4 else 0) else 1
def askL (L : List Asked) (p k t : Int) : List Asked := if askE L p k t = 0 then L ++ [⟨p, k, t⟩] else L
def ansE (p k t lim : Int) : Int := if AskOk p k t ∧ 0 ≤ lim ∧ lim ≤ 100000 then 0 else 1
/-- does it answer this? -/
def Hits (a : Asked) (p k t lim : Int) : Prop := a.k = k ∧ a.p = p ∧ a.t ≤ t ∧ t - a.t ≤ lim
instance (a : Asked) (p k t lim : Int) : Decidable (Hits a p k t lim) := by unfold Hits; infer_instance
def ansB (L : List Asked) (p k t lim : Int) : Bool := decide (ansE p k t lim = 0) && (match fnd L k with | some a => decide (Hits a p k t lim) | none => false)
/-- the list without what has a number -/
def cut (L : List Asked) (k : Int) : List Asked := L.filter (fun a => !(a.k == k))
def ansL (L : List Asked) (p k t lim : Int) : List Asked := if ansB L p k t lim = true then cut L k else L
structure AInv (L : List Asked) : Prop where
  once : L.Pairwise (fun a b => a.k ≠ b.k)
  ok : ∀ a ∈ L, AskOk a.p a.k a.t
  few : L.length ≤ 8
theorem AInv.nil : AInv [] := ⟨List.Pairwise.nil, by simp, by simp⟩
theorem fnd_mem {L : List Asked} {k : Int} {a : Asked} (h : fnd L k = some a) : a ∈ L ∧ a.k = k := by
  unfold fnd at h
  exact ⟨List.mem_of_find?_eq_some h, by simpa using List.find?_some h⟩
theorem fnd_none {L : List Asked} {k : Int} (h : fnd L k = none) : ∀ a ∈ L, a.k ≠ k := by
  unfold fnd at h
  intro a ha
  have := List.find?_eq_none.1 h a ha
  simpa using this
theorem fnd_of_mem {L : List Asked} (h : AInv L) {a : Asked} (ha : a ∈ L) : fnd L a.k = some a := by
  have h1 := h.once
  clear h
  induction L with
  | nil => cases ha
  | cons x r ih =>
    obtain ⟨hx, hr⟩ := List.pairwise_cons.1 h1
    unfold fnd
    rcases List.mem_cons.1 ha with rfl | ha
    · simp
    · have hne : (x.k == a.k) = false := by simpa using hx a ha
      rw [List.find?_cons, hne]
      exact ih ha hr
theorem fnd_append {L : List Asked} {a : Asked} (h : fnd L a.k = none) (j : Int) : fnd (L ++ [a]) j = if j = a.k then some a else fnd L j := by
  unfold fnd at h ⊢
  rw [List.find?_append]
  split
  · rename_i e
    subst e
    rw [h]
    simp
  · rename_i e
    have hne : (a.k == j) = false := by simpa using fun h => e h.symm
    rw [List.find?_cons, hne]
    simp
theorem fnd_cut (L : List Asked) (k j : Int) : fnd (cut L k) j = if j = k then none else fnd L j := by
  unfold fnd cut
  rw [List.find?_filter]
  split
  · rename_i e
    subst e
    rw [List.find?_eq_none]
    intro a _
    cases h : (a.k == j) <;> simp
  · rename_i e
    congr 1
    funext a
    by_cases h : a.k = j
    · have : ¬ a.k = k := by omega
      simp [h]
      omega
    · simp [h]
theorem cut_length {L : List Asked} (h : AInv L) {k : Int} {a : Asked} (ha : fnd L k = some a) : (cut L k).length + 1 = L.length := by
  have h1 := h.once
  clear h
  induction L with
  | nil => simp [fnd] at ha
  | cons x r ih =>
    obtain ⟨hx, hr⟩ := List.pairwise_cons.1 h1
    by_cases e : x.k = k
    · have hc : cut (x :: r) k = r := by
        have h0 : (x.k == k) = true := by simpa using e
        unfold cut
        rw [List.filter_cons, h0]
        simp only [Bool.not_true, Bool.false_eq_true, if_false]
        rw [List.filter_eq_self]
        intro b hb
        have := hx b hb
        rw [e] at this
        simpa using fun h => this h.symm
      rw [hc]
      rfl
    · have hne : (x.k == k) = false := by simpa using e
      have h2 : fnd r k = some a := by
        unfold fnd at ha ⊢
        rw [List.find?_cons, hne] at ha
        exact ha
      have hc : cut (x :: r) k = x :: cut r k := by
        unfold cut
        rw [List.filter_cons, hne]
        rfl
      rw [hc, List.length_cons, List.length_cons, ih h2 hr]
theorem AInv.cut {L : List Asked} (h : AInv L) (k : Int) : AInv (cut L k) := by
  refine ⟨h.once.sublist List.filter_sublist, fun a ha => h.ok a ((List.mem_filter.1 ha).1), Nat.le_trans ?_ h.few⟩
  unfold Go.Proofs.Ythnolkbolmbkdaa.cut
  exact List.length_filter_le _ _
theorem askE_ok {L : List Asked} {p k t : Int} (h : askE L p k t = 0) : AskOk p k t ∧ fnd L k = none ∧ L.length ≠ 8 := by
  unfold askE at h
  split at h
  · rename_i h1
    split at h
    · cases h
    · rename_i h2
      split at h
      · cases h
      · rename_i h3
        refine ⟨h1, ?_, h3⟩
        cases hf : fnd L k with
        | none => rfl
        | some a => rw [hf] at h2; simp at h2
  · cases h
theorem AInv.ask {L : List Asked} (h : AInv L) (p k t : Int) : AInv (askL L p k t) := by
  unfold askL
  split
  · rename_i h0
    obtain ⟨h1, h2, h3⟩ := askE_ok h0
    refine ⟨?_, ?_, ?_⟩
    · rw [List.pairwise_append]
      refine ⟨h.once, by simp, fun a ha b hb => ?_⟩
      rw [List.mem_singleton.1 hb]
      exact fnd_none h2 a ha
    · intro a ha
      rcases List.mem_append.1 ha with ha | ha
      · exact h.ok a ha
      · rw [List.mem_singleton.1 ha]; exact h1
    · have := h.few
      rw [List.length_append]
      simp
      omega
  · exact h
theorem AInv.ans {L : List Asked} (h : AInv L) (p k t lim : Int) : AInv (ansL L p k t lim) := by
  unfold ansL
  split
  · exact h.cut k
  · exact h
end Go.Proofs.Ythnolkbolmbkdaa
