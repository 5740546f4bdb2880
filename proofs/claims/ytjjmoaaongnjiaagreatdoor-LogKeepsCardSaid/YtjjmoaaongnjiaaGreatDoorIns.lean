/- Slices that came in: rows of ints, strings; quiet calls. No condition of its own. -/
import Derived.Test.YtjjmoaaongnjiaaGreatDoorOnly
import Derived.Deep.Matrix
import Derived.Deep.Strs
import Derived.SliceStrings
import Derived.Deep.QuietTactic
import Derived.BigQuiet
namespace Go.Proofs.YtjjmoaaongnjiaaGreatDoor
open Go.ChangeShapes Go.WideShapes Go.ChangeAt Go.RowKit
set_option linter.unusedVariables false

theorem intsIn_mk {w : World} {x : Addr} {len cap : Nat} {zs : List Int} (hl : len ≤ cap) (hm : cap ≤ maxLen) (hz' : zs.length = cap) (hwz : ∀ n ∈ zs, (Lit.int .i64 n).wf = true)
    (hcell : ∀ i, i < zs.length → w.cell? (x.add i) = some (.int .i64 (zs.getD i 0))) : IntsIn w (.slice (some x) len cap) (zs.take len) := by
  refine ⟨fun n hn => wf_bounds (hwz n (List.mem_of_mem_take hn)), some x, cap, ?_, ?_, hm, fun hne => ?_⟩
  · rw [List.length_take, hz', Nat.min_eq_left hl]
  · rw [List.length_take]; omega
  · have h0 : 0 < zs.length := by
      rcases zs with _ | ⟨a, r⟩
      · simp at hne
      · simp
    obtain ⟨b, off, spot⟩ := x
    have hspot : spot = none := by simpa [Addr.add] using World.cell?_spot (hcell 0 h0)
    subst hspot
    refine ⟨b, off, rfl, ?_, fun i hi => ?_⟩
    · have := hcell 0 h0
      rcases Nat.lt_or_ge b w.heap.size with h1 | h1
      · exact h1
      · simp [World.cell?, Addr.add, Array.getElem?_eq_none h1] at this
    · rw [List.length_take] at hi
      have := hcell i (by omega)
      have e : ith (zs.take len) i = zs.getD i 0 := by
        unfold ith
        simp only [List.getD, List.getElem?_take]
        rw [if_pos (by omega)]
      rw [e]
      by_cases hi0 : i = 0
      · subst hi0
        simpa [Addr.add] using this
      · simpa [Addr.add, hi0] using this
theorem intsIn_nil (w : World) : IntsIn w (.slice none 0 0) [] := ⟨by simp, none, 0, rfl, by simp, by simp [maxLen], by simp⟩

/-- a slice of slices of ints that came in -/
def IntRowsIn (w : World) (v : Value) (zs : List (List Int)) : Prop :=
  ∃ (A : Option Addr) (cap : Nat), v = .slice A zs.length cap ∧ zs.length ≤ cap ∧ cap ≤ maxLen ∧
    (zs ≠ [] → ∃ b off, A = some ⟨b, off, none⟩ ∧ b < w.heap.size ∧ ∀ i, i < zs.length → ∃ x, w.cell? ⟨b, off + i, none⟩ = some x ∧ IntsIn w x (zs.getD i []))

theorem intRowsIn_open {H : Type} {enc : TypeId × Value → H} {P : Program} {w : World} {t e q fuel : Nat} {A : Option Addr} {len cap : Nat} {d : DataW H} {ps : List MemPlace}
    (ht : P.underlying t = some (.slice e)) (he : P.underlying e = some (.slice q)) (hq : P.underlying q = some (.int .i64)) (ce : P.cellsOf e = 1) (cq : P.cellsOf q = 1)
    (h : DataW.trod enc P w 0 (fun _ => true) true fuel t (Value.slice A len cap).cells.toList = some (d, ps)) (_hlt : ∀ x ∈ ps, x.block < w.heap.size) :
    ∃ zs, IntRowsIn w (.slice A len cap) zs := by
  rcases Go.Deep.open_int_rows ht he hq ce cq h with ⟨hcs, _⟩ | ⟨x, l, c, Af, L, C, Z, hcs, _, hl, hm, _, hrow⟩
  · simp [Value.cells] at hcs
    obtain ⟨rfl, rfl, rfl⟩ := hcs
    exact ⟨[], none, 0, rfl, by simp, by simp [maxLen], by simp⟩
  · simp [Value.cells] at hcs
    obtain ⟨rfl, rfl, rfl⟩ := hcs
    refine ⟨(List.range len).map fun r => (Z r).take (L r), some x, cap, by simp, by simpa using hl, hm, fun hne => ?_⟩
    have h0 : 0 < len := by
      rcases len with _ | n
      · simp at hne
      · omega
    obtain ⟨b, off, spot⟩ := x
    have hc0 := (hrow 0 (by omega)).1
    have hspot : spot = none := by simpa [Addr.add] using World.cell?_spot hc0
    subst hspot
    refine ⟨b, off, rfl, ?_, fun i hi => ?_⟩
    · rcases Nat.lt_or_ge b w.heap.size with h1 | h1
      · exact h1
      · simp [World.cell?, Addr.add, Array.getElem?_eq_none h1] at hc0
    · have hi' : i < len := by simpa using hi
      obtain ⟨k1, k2, k3, k4, k5, k6, k7⟩ := hrow i (by omega)
      refine ⟨.slice (Af i) (L i) (C i), ?_, ?_⟩
      · by_cases hi0 : i = 0
        · subst hi0
          simpa [Addr.add] using k1
        · simpa [Addr.add, hi0] using k1
      · have e1 : ((List.range len).map fun r => (Z r).take (L r)).getD i [] = (Z i).take (L i) := by simp [List.getD, hi']
        rw [e1]
        cases hA : Af i with
        | none =>
          have hC := k6 hA
          have hL : L i = 0 := by omega
          rw [hL, hC]
          simpa using intsIn_nil w
        | some a' =>
          exact intsIn_mk k2 k3 k4 k5 (fun j hj => (k7 a' hA).2 j (by omega))
theorem IntRowsIn.keep {w w' : World} {v : Value} {zs : List (List Int)} (h : IntRowsIn w v zs) (hb : Below w.heap.size w w') : IntRowsIn w' v zs := by
  obtain ⟨A, cap, h2, h3, h4, h5⟩ := h
  refine ⟨A, cap, h2, h3, h4, fun hne => ?_⟩
  obtain ⟨b, off, e, hlt, hc⟩ := h5 hne
  refine ⟨b, off, e, Nat.lt_of_lt_of_le hlt hb.size, fun i hi => ?_⟩
  obtain ⟨x, hx, hI⟩ := hc i hi
  exact ⟨x, (hb.cell (p := ⟨b, off + i, none⟩) hlt).trans hx, hI.keep hb⟩

/-- a string by its number, empty beyond the end -/
def sth (ss : List ByteArray) (i : Nat) : ByteArray := ss.getD i ByteArray.empty
/-- a slice of strings that came in -/
def StrsIn (w : World) (v : Value) (ss : List ByteArray) : Prop :=
  (∀ i, (sth ss i).size ≤ maxLen) ∧ ∃ (A : Option Addr) (cap : Nat), v = .slice A ss.length cap ∧ ss.length ≤ cap ∧ cap ≤ maxLen ∧
    (ss ≠ [] → ∃ b off, A = some ⟨b, off, none⟩ ∧ b < w.heap.size ∧ ∀ i, i < ss.length → w.cell? ⟨b, off + i, none⟩ = some (.string (sth ss i)))
theorem strsIn_open {H : Type} {enc : TypeId × Value → H} {P : Program} {w : World} {t e fuel : Nat} {A : Option Addr} {len cap : Nat} {d : DataW H} {ps : List MemPlace}
    (ht : P.underlying t = some (.slice e)) (he : P.underlying e = some .string) (hc : P.cellsOf e = 1)
    (h : DataW.trod enc P w 0 (fun _ => true) true fuel t (Value.slice A len cap).cells.toList = some (d, ps)) (_hlt : ∀ x ∈ ps, x.block < w.heap.size) :
    ∃ ss, StrsIn w (.slice A len cap) ss := by
  rcases open_strings ht he hc h with ⟨hcs, _⟩ | ⟨x, l, c, ss, hcs, _, hl, hm, hz, _, hcell, hws⟩
  · simp [Value.cells] at hcs
    obtain ⟨rfl, rfl, rfl⟩ := hcs
    exact ⟨[], by intro i; simp [sth], none, 0, rfl, by simp, by simp [maxLen], by simp⟩
  · simp [Value.cells] at hcs
    obtain ⟨rfl, rfl, rfl⟩ := hcs
    have hz' : ss.length = cap := by simpa using hz
    refine ⟨ss.take len, fun i => ?_, some x, cap, ?_, ?_, hm, fun hne => ?_⟩
    · unfold sth
      rcases Nat.lt_or_ge i (ss.take len).length with h1 | h1
      · have e : (ss.take len).getD i ByteArray.empty = (ss.take len)[i] := by simp only [List.getD, List.getElem?_eq_getElem h1, Option.getD_some]
        rw [e]
        exact hws _ (List.mem_of_mem_take (List.getElem_mem h1))
      · have e : (ss.take len).getD i ByteArray.empty = ByteArray.empty := by simp only [List.getD, List.getElem?_eq_none h1, Option.getD_none]
        rw [e]
        simp
    · rw [List.length_take, hz', Nat.min_eq_left hl]
    · rw [List.length_take]; omega
    · have h0 : 0 < ss.length := by
        rcases ss with _ | ⟨a, r⟩
        · simp at hne
        · simp
      obtain ⟨b, off, spot⟩ := x
      have hspot : spot = none := by simpa [Addr.add] using World.cell?_spot (hcell 0 h0)
      subst hspot
      refine ⟨b, off, rfl, ?_, fun i hi => ?_⟩
      · have := hcell 0 h0
        rcases Nat.lt_or_ge b w.heap.size with h1 | h1
        · exact h1
        · simp [World.cell?, Addr.add, Array.getElem?_eq_none h1] at this
      · rw [List.length_take] at hi
        have := hcell i (by omega)
        have e : sth (ss.take len) i = ss.getD i ByteArray.empty := by
          unfold sth
          simp only [List.getD, List.getElem?_take]
          rw [if_pos (by omega)]
        rw [e]
        by_cases hi0 : i = 0
        · subst hi0
          simpa [Addr.add] using this
        · simpa [Addr.add, hi0] using this

/-! quiet calls -/
theorem quiet_a {P : Program} {f : FuncId} {args : Array Value} {w : World} {n : Nat} {v : Value}
    (h : Calls P f args (w.drewN n) fun e w' => e = .returned v ∧ w.drewN n = w') : Calls P f args (w.drewN n) fun e w'' => e = .returned v ∧ ∃ m, w'' = w.drewN m :=
  h.mono fun _ _ hh => ⟨hh.1, n, hh.2.symm⟩
theorem quiet_b {P : Program} {f : FuncId} {args : Array Value} {w : World} {n : Nat} {v : Value}
    (h : Calls P f args (w.drewN n) fun e w' => e = .returned v ∧ ∃ k, (w.drewN n).drewN k = w') : Calls P f args (w.drewN n) fun e w'' => e = .returned v ∧ ∃ m, w'' = w.drewN m :=
  h.mono fun _ _ ⟨he, k, hk⟩ => ⟨he, n + k, by rw [← hk, World.drewN_drewN]⟩
theorem quiet_a2 {P : Program} {f : FuncId} {args : Array Value} {w : World} {a n : Nat} {v : Value}
    (h : Calls P f args (w.drewN (a + n)) fun e w' => e = .returned v ∧ w.drewN (a + n) = w') : Calls P f args (w.drewN (a + n)) fun e w'' => e = .returned v ∧ ∃ m, w'' = w.drewN (a + m) :=
  h.mono fun _ _ hh => ⟨hh.1, n, hh.2.symm⟩
theorem quiet_b2 {P : Program} {f : FuncId} {args : Array Value} {w : World} {a n : Nat} {v : Value}
    (h : Calls P f args (w.drewN (a + n)) fun e w' => e = .returned v ∧ ∃ k, (w.drewN (a + n)).drewN k = w') : Calls P f args (w.drewN (a + n)) fun e w'' => e = .returned v ∧ ∃ m, w'' = w.drewN (a + m) :=
  h.mono fun _ _ ⟨he, k, hk⟩ => ⟨he, n + k, by rw [← hk, World.drewN_drewN, Nat.add_assoc]⟩
end Go.Proofs.YtjjmoaaongnjiaaGreatDoor
