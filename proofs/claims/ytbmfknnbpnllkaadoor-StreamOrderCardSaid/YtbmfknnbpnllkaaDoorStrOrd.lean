/- Pieces of one text, put in any order: what is taken is its beginning, and when all came, all of it. No program here. -/
import Derived.Test.YtbmfknnbpnllkaaDoorStr
import Derived.Test.YtbmfknnbpnllkaaDoorStake
namespace Go.Proofs.YtbmfknnbpnllkaaDoor
set_option linter.unusedVariables false

theorem Of.ready {M : Plc} {d : List UInt8} (h : Of M d) {t : Nat} (ht : t ≤ d.length) : t + readyN M t ≤ d.length := by
  rcases Nat.eq_zero_or_pos (readyN M t) with h0 | h0
  · omega
  · obtain ⟨y, hy⟩ := Option.isSome_iff_exists.1 (readyN_some (M := M) (t := t) (j := readyN M t - 1) (by omega))
    have := (h _ _ hy).1
    omega
theorem cutL_of {M : Plc} {d : List UInt8} (h : Of M d) {t : Nat} : ∀ {n : Nat}, n ≤ readyN M t → cutL M t n = (d.drop t).take n
  | 0, _ => by simp [cutL]
  | n + 1, hn => by
    obtain ⟨y, hy⟩ := Option.isSome_iff_exists.1 (readyN_some (M := M) (t := t) (j := n) (by omega))
    have h1 := h _ _ hy
    have hlt : n < (d.drop t).length := by rw [List.length_drop]; omega
    rw [cutL, cutL_of h (by omega), hy, List.take_succ_eq_append_getElem hlt]
    congr 1
    have h2 : bth d (t + n) = (d.drop t)[n] := by
      unfold bth
      rw [List.getElem_drop]
      simp [List.getD, List.getElem?_eq_getElem h1.1]
    rw [← h2, h1.2]
    rfl
/-- all from a on is there -/
def AllFrom (M : Plc) (d : List UInt8) (a : Nat) : Prop := ∀ i, a ≤ i → i < d.length → (M.at i).isSome = true
theorem AllFrom.start (M : Plc) (d : List UInt8) : AllFrom M d d.length := fun i h1 h2 => by omega
theorem ready_all {M : Plc} {d : List UInt8} (h : Of M d) (ha : AllFrom M d 0) (hd : d.length ≤ 60) {t : Nat} (ht : t ≤ d.length) : readyN M t = d.length - t := by
  refine readyN_eq (fun j hj => ha _ (by omega) (by omega)) (by omega) ?_
  by_cases h60 : d.length = 60
  · right; omega
  · left
    cases hm : M.at (t + (d.length - t)) with
    | none => rfl
    | some y => have := (h _ _ hm).1; omega
theorem gaps_all {M : Plc} {d : List UInt8} (h : Of M d) (ha : AllFrom M d 0) : gapsOf M = [] := by
  unfold gapsOf
  rw [gapL_full (k := d.length) (fun j hj => ha j (by omega) hj) (fun j hj => by
    cases hm : M.at j with
    | none => rfl
    | some y => have := (h _ _ hm).1; omega)]
theorem extract_list (s : ByteArray) (a b : Nat) : (s.extract a b).data.toList = (s.data.toList.take b).drop a := by
  rw [ByteArray.data_extract, Array.toList_extract]
  rw [List.extract_eq_take_drop, List.drop_take]
theorem extract_size (s : ByteArray) {k : Nat} (h : k ≤ s.size) : (s.extract 0 k).size = k := by
  rw [ByteArray.size_extract]
  omega
theorem extract_more (s : ByteArray) (t k : Nat) (l : List UInt8) (h : l = (s.data.toList.drop t).take k) : s.extract 0 t ++ ⟨l.toArray⟩ = s.extract 0 (t + k) := by
  apply ByteArray.ext
  apply Array.ext'
  rw [ByteArray.data_append, Array.toList_append, extract_list, extract_list, h, List.drop_zero, List.drop_zero, List.take_add]
theorem extract_all (s : ByteArray) : s.extract 0 s.size = s := by
  apply ByteArray.ext
  apply Array.ext'
  rw [extract_list]
  have : s.data.toList.length = s.size := Array.length_toList
  rw [← this, List.take_length, List.drop_zero]
/-- a piece of the text is put: no fault, and the text's bytes alone are there -/
theorem of_put {M : Plc} {s : ByteArray} (hM : M.length = 60) (h : Of M s.data.toList) (hd : s.size ≤ 60) {a b : Nat} (hab : a ≤ b) (hb : b ≤ s.size) :
    putE M a (s.extract a b).data.toList = 0 ∧ Of (putM M a (s.extract a b).data.toList) s.data.toList ∧ (∀ i, (putM M a (s.extract a b).data.toList).at i = if a ≤ i ∧ i < b then some (bth s.data.toList i) else M.at i) := by
  have hl : s.data.toList.length = s.size := Array.length_toList
  rw [extract_list]
  exact Of.put hM h (by omega) hab (by omega)
theorem all_put {M M' : Plc} {d : List UInt8} {a b : Nat} (h : AllFrom M d b) (hp : ∀ i, M'.at i = if a ≤ i ∧ i < b then some (bth d i) else M.at i) : AllFrom M' d a := by
  intro i h1 h2
  rw [hp]
  by_cases hi : i < b
  · rw [if_pos ⟨h1, hi⟩]; rfl
  · rw [if_neg (by omega)]
    exact h i (by omega) h2
/-- what is taken is the text's next bytes -/
theorem of_take {M : Plc} {s : ByteArray} (h : Of M s.data.toList) {t : Nat} (ht : t ≤ s.size) (x : Int) :
    t + takeK M t x ≤ s.size ∧ s.extract 0 t ++ takeS M t x = s.extract 0 (t + takeK M t x) := by
  have hl : s.data.toList.length = s.size := Array.length_toList
  have h1 := h.ready (t := t) (by omega)
  have hk : takeK M t x ≤ readyN M t := by unfold takeK; omega
  exact ⟨by omega, extract_more s t (takeK M t x) _ (cutL_of h hk)⟩
theorem takeS_all {M : Plc} {s : ByteArray} (h : Of M s.data.toList) (ha : AllFrom M s.data.toList 0) (hd : s.size ≤ 60) {t : Nat} (ht : t ≤ s.size) : t + takeK M t 60 = s.size := by
  have hl : s.data.toList.length = s.size := Array.length_toList
  have h1 := ready_all h ha (by omega) (t := t) (by omega)
  unfold takeK
  rw [h1, hl]
  simp
  omega
/-- the example: two pieces, the second ahead of the first -/
def exM1 : Plc := putM Plc.new 2 [99, 100]
def exM2 : Plc := putM exM1 0 [97, 98, 99]
theorem ex1 : putE Plc.new 2 [99, 100] = 0 := by decide
theorem ex2 : takeK exM1 0 9 = 0 := by decide
theorem ex5 : takeK exM2 0 9 = 4 := by decide
theorem ex3 : putE exM1 0 [97, 98, 99] = 0 := by decide
theorem ex4 : takeS exM2 0 9 = ⟨#[97, 98, 99, 100]⟩ := by decide
theorem ex2s : takeS exM1 0 9 = ⟨#[]⟩ := by decide
theorem exFull {s : ByteArray} (h : 60 < s.size) (M : Plc) : putE M 0 s.data.toList = 4 := by
  have hl : s.data.toList.length = s.size := Array.length_toList
  unfold putE
  rw [if_neg (by omega), if_pos (by omega)]
end Go.Proofs.YtbmfknnbpnllkaaDoor
