/- Strings that came in in a slice, within the form's reach. No condition of its own. -/
import Derived.Test.YtbmfknnbpnllkaaDoorIns
import Derived.SizedLaws
namespace Go.Proofs.YtbmfknnbpnllkaaDoor
open Go.ChangeShapes Go.WideShapes Go.ChangeAt Go.RowKit
set_option linter.unusedVariables false

/-- a slice of strings that came in, each within the form's reach -/
def StrsInS (w : World) (v : Value) (ss : List ByteArray) : Prop := StrsIn w v ss ∧ ∀ i, (sth ss i).size ≤ 140737488351232
theorem weightsAll_strs {H : Type} {P : Program} {e : TypeId} : ∀ {l : List ByteArray} {s : ByteArray}, s ∈ l → s.data.toList.length ∈ DataW.weightsAll (H := H) P e (strs l)
  | x :: r, s, hd => by
    unfold strs
    simp only [List.map_cons, DataW.weightsAll, List.mem_append]
    rcases List.mem_cons.1 hd with rfl | h
    · exact Or.inl (by simp [DataW.weights])
    · exact Or.inr (weightsAll_strs h)
theorem strsIn_open_sized {H : Type} {enc : TypeId × Value → H} {P : Program} {w : World} {t e fuel : Nat} {A : Option Addr} {len cap : Nat} {d : DataW H} {ps : List MemPlace}
    (ht : P.underlying t = some (.slice e)) (he : P.underlying e = some .string) (hc : P.cellsOf e = 1)
    (h : DataW.trod enc P w 0 (fun _ => true) true fuel t (Value.slice A len cap).cells.toList = some (d, ps)) (_hlt : ∀ x ∈ ps, x.block < w.heap.size) (hw : ∀ n ∈ d.weights P t, n ≤ reachBytes) :
    ∃ ss, StrsInS w (.slice A len cap) ss := by
  rcases open_strings ht he hc h with ⟨hcs, _⟩ | ⟨x, l, c, ss, hcs, _, hl, hm, hz, hx, hcell, hws⟩
  · simp [Value.cells] at hcs
    obtain ⟨rfl, rfl, rfl⟩ := hcs
    exact ⟨[], ⟨by intro i; simp [sth], none, 0, rfl, by simp, by simp [maxLen], by simp⟩, by intro i; simp [sth]⟩
  · simp [Value.cells] at hcs
    obtain ⟨rfl, rfl, rfl⟩ := hcs
    have hz' : ss.length = cap := by simpa using hz
    have hmem : ∀ i (h1 : i < (ss.take len).length), sth (ss.take len) i = (ss.take len)[i] := fun i h1 => by unfold sth; simp only [List.getD, List.getElem?_eq_getElem h1, Option.getD_some]
    have hfar : ∀ i, (ss.take len).length ≤ i → sth (ss.take len) i = ByteArray.empty := fun i h1 => by unfold sth; simp only [List.getD, List.getElem?_eq_none h1, Option.getD_none]
    refine ⟨ss.take len, ⟨fun i => ?_, some x, cap, ?_, ?_, hm, fun hne => ?_⟩, fun i => ?_⟩
    · rcases Nat.lt_or_ge i (ss.take len).length with h1 | h1
      · rw [hmem i h1]
        exact hws _ (List.mem_of_mem_take (List.getElem_mem h1))
      · rw [hfar i h1]
        simp
    · rw [List.length_take, hz', Nat.min_eq_left hl]
    · rw [List.length_take]; omega
    · have h0 : 0 < ss.length := by
        rcases ss with _ | ⟨a, r⟩
        · simp at hne
        · simp
      obtain ⟨b, off, spot⟩ := x
      have hspot : spot = none := by simpa [Addr.add] using World.cell?_spot (hcell 0 h0)
      subst hspot
      refine ⟨b, off, rfl, ?_, fun i hi => ?_⟩
      · have := hcell 0 h0
        rcases Nat.lt_or_ge b w.heap.size with h1 | h1
        · exact h1
        · simp [World.cell?, Addr.add, Array.getElem?_eq_none h1] at this
      · rw [List.length_take] at hi
        have := hcell i (by omega)
        have e : sth (ss.take len) i = ss.getD i ByteArray.empty := by
          unfold sth
          simp only [List.getD, List.getElem?_take]
          rw [if_pos (by omega)]
        rw [e]
        by_cases hi0 : i = 0
        · subst hi0
          simpa [Addr.add] using this
        · simpa [Addr.add, hi0] using this
    · rcases Nat.lt_or_ge i (ss.take len).length with h1 | h1
      · have h2 : (ss.take len)[i].data.toList.length ∈ d.weights P t := by
          have hd : d = .slice (strs (ss.take len)) (strs (ss.drop len)) := congrArg Prod.fst hx
          rw [hd]
          simp only [DataW.weights, ht, List.mem_cons, List.mem_append]
          exact Or.inr (Or.inl (weightsAll_strs (List.getElem_mem h1)))
        have h3 := hw _ h2
        rw [hmem i h1]
        have h4 : (ss.take len)[i].data.toList.length = (ss.take len)[i].size := Array.length_toList
        rw [h4] at h3
        simpa [reachBytes] using h3
      · rw [hfar i h1]
        simp
end Go.Proofs.YtbmfknnbpnllkaaDoor
