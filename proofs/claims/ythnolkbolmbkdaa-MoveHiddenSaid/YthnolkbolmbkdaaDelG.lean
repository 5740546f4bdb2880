/- slices.Delete of one element, over a slice of the call's own: laws on the cells. Condition: the slice is the call's own. -/
import Derived.Test.YthnolkbolmbkdaaLst
import Derived.Test.YthnolkbolmbkdaaRules
import Derived.Laws.IdiomCopy
import Derived.Deep.RegionLaw
import Derived.Lib.SliceRun
namespace Go.Proofs.Ythnolkbolmbkdaa
open Go.ChangeShapes Go.WideShapes Go.ChangeAt Go.RowKit
set_option linter.unusedVariables false

/-- cells laid one behind the other -/
def puts (cs : Array Value) : Nat → List Value → Array Value
  | _, [] => cs
  | o, v :: r => puts (cs.setIfInBounds o v) (o + 1) r
theorem puts_size : ∀ (vs : List Value) (cs : Array Value) (o : Nat), (puts cs o vs).size = cs.size
  | [], cs, o => rfl
  | v :: r, cs, o => by unfold puts; rw [puts_size r]; simp
theorem puts_list : ∀ (vs : List Value) (cs : Array Value) (o : Nat), o + vs.length ≤ cs.size → (puts cs o vs).toList = cs.toList.take o ++ vs ++ cs.toList.drop (o + vs.length)
  | [], cs, o, h => by simp [puts]
  | v :: r, cs, o, h => by
    rw [List.length_cons] at h
    unfold puts
    rw [puts_list r (cs.setIfInBounds o v) (o + 1) (by simp; omega)]
    rw [Array.toList_setIfInBounds]
    have ho : o < cs.toList.length := by simp; omega
    rw [List.take_set, List.drop_set_of_lt (by omega)]
    have e1 : (cs.toList.take (o + 1)).set o v = cs.toList.take o ++ [v] := by
      rw [List.take_succ_eq_append_getElem ho, List.set_append_right _ _ (by rw [List.length_take]; omega), List.length_take, show o - min o cs.toList.length = 0 from by omega]
      rfl
    rw [e1, List.length_cons, show o + 1 + r.length = o + (r.length + 1) from by omega]
    simp
theorem BlockIs.putAll : ∀ (vs : List Value) {w : World} {g : Nat} {t : TypeId} {cs : Array Value} (h : BlockIs w g t cs) (o : Nat), BlockIs (w.setCells g o vs) g t (puts cs o vs)
  | [], _, _, _, _, h, _ => h
  | v :: r, w, g, t, cs, h, o => by
    unfold World.setCells puts
    exact BlockIs.putAll r (h.put o v) (o + 1)
theorem Out.putAll : ∀ (vs : List Value) (w : World) (g o : Nat), Out w (w.setCells g o vs) [g]
  | [], w, _, _ => Out.refl w _
  | v :: r, w, g, o => by
    unfold World.setCells
    exact ((Out.refl w [g]).put (p := ⟨g, o, none⟩) (Or.inl (by simp)) v).trans (Out.putAll r _ g (o + 1))
theorem run_clear1 {P : Program} (w : World) (t e ty : TypeId) (z : Value) (zs : List Value) (ht : P.underlying t = some (.slice e)) (hv : (zeroValue e).run P w = .ok z w) (hz : z.cells = zs.toArray) (h1 : ∀ u ∈ zs, u.oneCell' = true) (b o c n : Nat) (hn : n = 1)
    (hc : ∀ j, j < zs.length → (w.cell? ⟨b, o + j, none⟩).isSome = true) (hf : ∀ j, j < zs.length → w.frozen? ⟨b, o + j, none⟩ = false) :
    (Builtin.clear_ #[t] ty #[.slice (some ⟨b, o, none⟩) n c]).run P w = .ok (.tuple #[]) (w.setCells b o zs) := by
  subst hn
  have hzc : (Builtin.zeroCells z.cells 1).toList = zs := by
    rw [hz]
    simp [Builtin.zeroCells]
    apply List.ext_getElem
    · simp
    · intro i h1 h2
      simp at h1
      simp [Nat.mod_eq_of_lt h1, h1]
  have hst := run_storeCells_cells (P := P) b o zs 0 w (by simpa using hc) (by simpa using hf) h1
  simp only [Nat.add_zero] at hst
  simp [Builtin.clear_, run_underlying ht, hv, hzc, hst]

/-- what is left behind a deletion -/
theorem del_cells {E size : Nat} {w : World} {g cap : Nat} {es : List (List Value)} (h : Lst w E size (.slice (some ⟨g, 0, none⟩) es.length cap) es) {i : Nat} (hi : i < es.length) (hs : 0 < size) (zs : List Value) (hz : zs.length = size) :
    ∃ cur, BlockIs w g E cur ∧ cur.size = cap * size ∧ es.length ≤ cap ∧ cap ≤ maxLen ∧
      ((puts (puts cur (i * size) (flat (es.drop (i + 1)))) ((es.length - 1) * size) zs).toList.take ((es.length - 1) * size) = flat (es.take i ++ es.drop (i + 1))) := by
  rcases h.own.2 with ⟨h0, _⟩ | ⟨g', cap', cur, hv, _, hg, h1, h2, h3, h4⟩
  · cases h0
  simp only [Value.slice.injEq, Option.some.injEq, Addr.mk.injEq, and_true, true_and] at hv
  obtain ⟨rfl, rfl⟩ := hv
  refine ⟨cur, hg, h3, h1, h2, ?_⟩
  have hr : ∀ e ∈ es, e.length = size := fun e he => (h.rows e he).1
  have hdl : (flat (es.drop (i + 1))).length = (es.length - (i + 1)) * size := by
    rw [flat_length (fun e he => hr e (List.mem_of_mem_drop he)), List.length_drop]
  have hA : i * size + (es.length - (i + 1)) * size = (es.length - 1) * size := by rw [← Nat.add_mul]; congr 1; omega
  have hB : (es.length - 1) * size + size = es.length * size := by
    obtain ⟨m, hm⟩ : ∃ m, es.length = m + 1 := ⟨es.length - 1, by omega⟩
    rw [hm, Nat.add_sub_cancel, Nat.succ_mul]
  have hC : es.length * size ≤ cap * size := Nat.mul_le_mul_right _ h1
  have hle1 : i * size + (flat (es.drop (i + 1))).length ≤ cur.size := by rw [hdl, h3]; omega
  rw [puts_list zs _ _ (by rw [puts_size, hz, h3]; omega), puts_list _ cur _ hle1]
  have ht : cur.toList.take (i * size) = flat (es.take i) := by
    rw [← flat_take hr i, ← h4, List.take_take, Nat.min_eq_left (Nat.mul_le_mul_right _ (by omega))]
  rw [ht]
  have hl1 : (flat (es.take i) ++ flat (es.drop (i + 1))).length = (es.length - 1) * size := by
    rw [List.length_append, hdl, flat_length (fun e he => hr e (List.mem_of_mem_take he)), List.length_take, Nat.min_eq_left (by omega), hA]
  have hfl : flat (es.take i ++ es.drop (i + 1)) = flat (es.take i) ++ flat (es.drop (i + 1)) := by simp [flat]
  rw [hfl]
  generalize flat (es.take i) ++ flat (es.drop (i + 1)) = X at *
  rw [List.append_assoc, List.take_append_of_le_length (by rw [List.length_take, List.length_append, hl1]; omega), List.take_take, Nat.min_self, List.take_append_of_le_length (by omega), List.take_of_length_le (by omega)]
end Go.Proofs.Ythnolkbolmbkdaa
