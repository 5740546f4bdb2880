/- Small facts on worlds, blocks and endings that all walks of this seat share. No condition of its own. -/
import Derived.Test.YtmfbaijbigodkaaGreatDoorRows
import Derived.WalkKit
import Derived.ProofKit
import Derived.OpenShut
import Derived.ShutString
import Derived.Below
import Derived.Lib.Hide
import Derived.WalkLawsBesides
import Derived.Laws.Rows
import Derived.Deep.Draws
import Derived.Deep.RegionWith
namespace Go.Proofs.YtmfbaijbigodkaaGreatDoor
open Go.ChangeShapes Go.WideShapes Go.ChangeAt Go.RowKit
set_option linter.unusedVariables false

theorem below_cells {W w1 : World} (hb : Below W.heap.size W w1) : (∀ b o, b < W.heap.size → w1.cell? ⟨b, o, none⟩ = W.cell? ⟨b, o, none⟩) ∧ (∀ b o, b < W.heap.size → w1.frozen? ⟨b, o, none⟩ = W.frozen? ⟨b, o, none⟩) :=
  ⟨fun b o h => hb.cell (p := ⟨b, o, none⟩) h, fun b o h => hb.frozen (p := ⟨b, o, none⟩) h⟩

/-- block g holds just these cells, none frozen -/
def BlockIs (w : World) (g : Nat) (t : TypeId) (cs : Array Value) : Prop := w.heap[g]? = some (.cells cs t (0, 0))

namespace BlockIs
variable {w w' : World} {g : Nat} {t : TypeId} {cs : Array Value}
theorem lt (h : BlockIs w g t cs) : g < w.heap.size := by
  rcases Nat.lt_or_ge g w.heap.size with h1 | h1
  · exact h1
  · unfold BlockIs at h
    rw [Array.getElem?_eq_none h1] at h
    cases h
theorem cell (h : BlockIs w g t cs) (i : Nat) : w.cell? ⟨g, i, none⟩ = cs[i]? := cell_of_row w g i cs t (0, 0) h
theorem free (h : BlockIs w g t cs) (i : Nat) : w.frozen? ⟨g, i, none⟩ = false := by
  unfold BlockIs at h
  simp [World.frozen?, h]
theorem fresh (w : World) (t : TypeId) (cs : Array Value) : BlockIs (w.alloc (.cells cs t)) w.heap.size t cs := heap_alloc_new w _
theorem fresh_at {w : World} {n : Nat} {t : TypeId} {cs : Array Value} (h : n = w.heap.size) : BlockIs (w.alloc (.cells cs t)) n t cs := by rw [h]; exact fresh w t cs
theorem drew (h : BlockIs w g t cs) : BlockIs w.drew g t cs := h
theorem drewN (h : BlockIs w g t cs) (n : Nat) : BlockIs (w.drewN n) g t cs := h
theorem alloc (h : BlockIs w g t cs) (o : Obj) : BlockIs (w.alloc o) g t cs := (Below.heap_alloc w o g h.lt).trans h
theorem put (h : BlockIs w g t cs) (i : Nat) (u : Value) : BlockIs (w.setCell ⟨g, i, none⟩ u) g t (cs.setIfInBounds i u) := by
  unfold BlockIs at h ⊢
  simp [World.setCell, Array.getElem?_modify, h]
theorem far (h : BlockIs w g t cs) {p : Addr} (hp : g ≠ p.block) (u : Value) : BlockIs (w.setCell p u) g t cs := (Below.heap_setCell w p u g hp).trans h
theorem below {B : Nat} (h : BlockIs w g t cs) (hb : Below B w w') (hg : g < B) : BlockIs w' g t cs := (hb.block g hg).trans h
theorem later (h : BlockIs w g t cs) (hb : Below w.heap.size w w') : BlockIs w' g t cs := h.below hb h.lt
end BlockIs

theorem after_alloc {W w1 : World} {t : TypeId} {cs : Array Value} (hb : Below (W.alloc (.cells cs t)).heap.size (W.alloc (.cells cs t)) w1) : BlockIs w1 W.heap.size t cs := (BlockIs.fresh W t cs).later hb
theorem after_alloc_drew {W w1 : World} {t : TypeId} {cs : Array Value} (hb : Below (W.alloc (.cells cs t)).drew.heap.size (W.alloc (.cells cs t)).drew w1) : BlockIs w1 W.heap.size t cs := BlockIs.later ((BlockIs.fresh W t cs).drew) hb

theorem end_int {k : IntKind} {a b : Int} (h : a = b) : Ending.returned (.int k a) = .returned (.int k b) := by rw [h]
theorem end_int2 {a b : Int} {x : Value} (h : a = b) : Ending.returned (.tuple #[.int .i64 a, x]) = .returned (.tuple #[.int .i64 b, x]) := by rw [h]
theorem end_bool {a b : Bool} (h : a = b) : Ending.returned (.bool a) = .returned (.bool b) := by rw [h]

theorem below_steps {B : Nat} {w w1 w2 : World} (h : Below B w w1) (h2 : Below w1.heap.size w1 w2) (hB : B ≤ w1.heap.size) : Below B w w2 := h.trans (h2.mono hB)

/-- the i-th number, 0 beyond the end -/
def ith (zs : List Int) (i : Nat) : Int := zs.getD i 0
/-- a slice of ints that came in: nil, or a row of cells -/
def IntsIn (w : World) (v : Value) (zs : List Int) : Prop :=
  (∀ n ∈ zs, -9223372036854775808 ≤ n ∧ n ≤ 9223372036854775807) ∧ ∃ (A : Option Addr) (cap : Nat), v = .slice A zs.length cap ∧ zs.length ≤ cap ∧ cap ≤ maxLen ∧
    (zs ≠ [] → ∃ b off, A = some ⟨b, off, none⟩ ∧ b < w.heap.size ∧ ∀ i, i < zs.length → w.cell? ⟨b, off + i, none⟩ = some (.int .i64 (ith zs i)))

theorem wf_bounds {n : Int} (h : (Lit.int .i64 n).wf = true) : -9223372036854775808 ≤ n ∧ n ≤ 9223372036854775807 := by
  have := bounds_i64 h
  omega

theorem intsIn_open {H : Type} {enc : TypeId × Value → H} {P : Program} {w : World} {t e fuel : Nat} {A : Option Addr} {len cap : Nat} {d : DataW H} {ps : List MemPlace}
    (ht : P.underlying t = some (.slice e)) (he : P.underlying e = some (.int .i64)) (hc : P.cellsOf e = 1)
    (h : DataW.trod enc P w 0 (fun _ => true) true fuel t (Value.slice A len cap).cells.toList = some (d, ps)) (hlt : ∀ x ∈ ps, x.block < w.heap.size) :
    ∃ zs, IntsIn w (.slice A len cap) zs := by
  rcases open_ints ht he hc h with ⟨hcs, _⟩ | ⟨x, l, c, zs, hcs, _, hl, hm, hz, _, hcell, hwz⟩
  · simp [Value.cells] at hcs
    obtain ⟨rfl, rfl, rfl⟩ := hcs
    exact ⟨[], by simp, none, 0, rfl, by simp, by simp [maxLen], by simp⟩
  · simp [Value.cells] at hcs
    obtain ⟨rfl, rfl, rfl⟩ := hcs
    have hz' : zs.length = cap := by simpa using hz
    refine ⟨zs.take len, fun n hn => wf_bounds (hwz n (List.mem_of_mem_take hn)), some x, cap, ?_, ?_, hm, fun hne => ?_⟩
    · rw [List.length_take, hz', Nat.min_eq_left hl]
    · rw [List.length_take]; omega
    · have h0 : 0 < zs.length := by
        rcases zs with _ | ⟨a, r⟩
        · simp at hne
        · simp
      obtain ⟨b, off, spot⟩ := x
      have hspot : spot = none := by simpa [Addr.add] using World.cell?_spot (hcell 0 h0)
      subst hspot
      refine ⟨b, off, rfl, ?_, fun i hi => ?_⟩
      · have := hcell 0 h0
        rcases Nat.lt_or_ge b w.heap.size with h1 | h1
        · exact h1
        · simp [World.cell?, Addr.add, Array.getElem?_eq_none h1] at this
      · rw [List.length_take] at hi
        have := hcell i (by omega)
        have e : ith (zs.take len) i = zs.getD i 0 := by
          unfold ith
          simp only [List.getD, List.getElem?_take]
          rw [if_pos (by omega)]
        rw [e]
        by_cases hi0 : i = 0
        · subst hi0
          simpa [Addr.add] using this
        · simpa [Addr.add, hi0] using this
theorem IntsIn.keep {w w' : World} {v : Value} {zs : List Int} (h : IntsIn w v zs) (hb : Below w.heap.size w w') : IntsIn w' v zs := by
  obtain ⟨h1, A, cap, h2, h3, h4, h5⟩ := h
  refine ⟨h1, A, cap, h2, h3, h4, fun hne => ?_⟩
  obtain ⟨b, off, e, hlt, hc⟩ := h5 hne
  exact ⟨b, off, e, Nat.lt_of_lt_of_le hlt hb.size, fun i hi => (hb.cell (p := ⟨b, off + i, none⟩) hlt).trans (hc i hi)⟩
theorem ith_bounds {zs : List Int} (h : ∀ n ∈ zs, -9223372036854775808 ≤ n ∧ n ≤ 9223372036854775807) (i : Nat) : -9223372036854775808 ≤ ith zs i ∧ ith zs i ≤ 9223372036854775807 := by
  unfold ith
  rcases Nat.lt_or_ge i zs.length with h1 | h1
  · have := h (zs.getD i 0) (by simp [List.getD, h1])
    exact this
  · simp [List.getD, List.getElem?_eq_none h1]
end Go.Proofs.YtmfbaijbigodkaaGreatDoor
