/- slices.SortFunc with ranges.Joined's closure: a permutation, the highest end first. Condition: the slice is the call's own, its ends bounded. -/
import Derived.Test.YtjjmoaaongnjiaaGreatDoorSortLay
import Derived.Test.YtjjmoaaongnjiaaGreatDoorRngLaw
import Derived.OwnWalk
import Derived.WalkSpells
namespace Go.Proofs.YtjjmoaaongnjiaaGreatDoor
open Go.ChangeShapes Go.WideShapes Go.ChangeAt Go.RowKit Go.Sort
set_option linter.unusedVariables false

abbrev RngB : Type := {r : Rng // okH r}
instance : Inhabited RngB := ⟨⟨⟨0, 0⟩, Int.le_refl 0, by show (0 : Int) ≤ 1073741823; decide⟩⟩
def encB (x : RngB) : List Value := rngRow x.1
def cfB (x y : RngB) : Int := y.1.hi - x.1.hi
theorem ltB (x y : RngB) : ltOf cfB x y = decide (y.1.hi < x.1.hi) := by
  unfold ltOf cfB
  by_cases h : y.1.hi < x.1.hi
  · rw [decide_eq_true h, decide_eq_true (by omega)]
  · rw [decide_eq_false h, decide_eq_false (by omega)]
theorem swoB : SWO (ltOf cfB) where
  irrefl x := by rw [ltB]; simp
  trans x y z h1 h2 := by rw [ltB] at *; simp at *; omega
  ntrans x y z h1 h2 := by rw [ltB] at *; simp at *; omega

theorem cmpB (x y : RngB) (W : World) : Calls Tryz.prog 40 #[.agg (encB x).toArray, .agg (encB y).toArray] W fun e w' => e = .returned (.int .i64 (cfB x y)) ∧ ∃ q os', w' = grow (W.drewN q) os' := by
  obtain ⟨⟨a, b⟩, h1, h2⟩ := x
  obtain ⟨⟨c, d⟩, h3, h4⟩ := y
  simp only at h1 h2 h3 h4
  show Calls Tryz.prog 40 #[.agg #[.int .i64 a, .int .i64 b], .agg #[.int .i64 c, .int .i64 d]] W fun e w' => e = .returned (.int .i64 (d - b)) ∧ ∃ q os', w' = grow (W.drewN q) os'
  go_enter Tryz.func40, Tryz.ntmps40
  go_wp2
  go_ret
  exact ⟨rfl, 0, _, by rw [alloc_eq_grow, alloc_eq_grow, grow_grow]; rfl⟩

theorem flat_at (M : List RngB) {j : Nat} (hj : j < M.length * 2) : (flat (M.map encB))[j]? = some (flatK encB 2 M.toArray)[j]! := by
  have hi : j / 2 < M.length := by omega
  have hm : j % 2 < 2 := Nat.mod_lt _ (by decide)
  rw [get_flatK encB 2 M.toArray j (by simpa using hj)]
  have h1 : (M.map encB)[j / 2]? = some (encB M[j / 2]) := by simp [hi]
  have h2 : (encB M[j / 2])[j % 2]? = some (encB M[j / 2])[j % 2]! := by
    have : j % 2 < (encB M[j / 2]).length := hm
    rw [List.getElem?_eq_getElem this, getElem!_pos (encB M[j / 2]) (j % 2) this]
  have h3 := Lst.flat_get (size := 2) (fun e he => by obtain ⟨x, _, rfl⟩ := List.mem_map.1 he; rfl) h1 h2
  rw [show j / 2 * 2 + j % 2 = j from by omega] at h3
  rw [h3]
  simp [hi]

theorem holdsB {w : World} {E g cap : Nat} {M : List RngB} {n : Nat} (h : Lst w E 2 (.slice (some ⟨g, 0, none⟩) n cap) (M.map encB)) (hn : M.length = n) : HoldsK encB 2 w g 0 M.toArray := by
  intro j hj
  have hj' : j < M.length * 2 := by simpa using hj
  have h1 := h.own.cells (g := g) rfl j _ (flat_at M hj')
  have hadd : (⟨g, 0, none⟩ : Addr).add j = ⟨g, 0 + j, none⟩ := by unfold Addr.add; split <;> simp_all
  rw [hadd] at h1
  refine ⟨h1, ?_⟩
  rcases h.own.2 with ⟨h0, _⟩ | ⟨g', cap', cur, hve, hb, hg, _⟩
  · cases h0
  · simp only [Value.slice.injEq, Option.some.injEq, Addr.mk.injEq, and_true] at hve
    obtain ⟨rfl, _, rfl⟩ := hve
    simp [World.frozen?, hg]

theorem heapB {w : World} {g m : Nat} {os : Array Obj} {cur : Array Value} {e : TypeId} {fr : Nat × Nat} (d : Array RngB) (hb : w.heap[g]? = some (.cells cur e fr)) :
    (sortWorldK encB 2 w g 0 m d os).heap[g]? = some (.cells (putCells id 0 (flatK encB 2 d) cur) e fr) := by
  have hg : g < w.heap.size := (Array.getElem?_eq_some_iff.1 hb).1
  unfold sortWorldK putRowK
  rw [heap_grow_old _ _ (by simpa using hg)]
  simp [putRow, mapBlock, Sort.ahead, Array.getElem?_modify, hb, onCells]
theorem outB (w : World) (g m : Nat) (d : Array RngB) (os : Array Obj) : Out w (sortWorldK encB 2 w g 0 m d os) [g] := by
  refine ⟨rfl, rfl, rfl, by simp [sortWorldK, putRowK, Sort.ahead], fun k hk hne => ?_⟩
  unfold sortWorldK putRowK
  rw [heap_grow_old _ _ (by simpa using hk)]
  have : g ≠ k := fun e => hne (by simp [e])
  simp [putRow, mapBlock, Sort.ahead, Array.getElem?_modify, this]
theorem lstB {w : World} {E g cap : Nat} {M N : List RngB} {n m : Nat} {os : Array Obj} (h : Lst w E 2 (.slice (some ⟨g, 0, none⟩) n cap) (M.map encB)) (hn : M.length = n) (hN : N.length = n) : Lst (sortWorldK encB 2 w g 0 m N.toArray os) E 2 (.slice (some ⟨g, 0, none⟩) n cap) (N.map encB) := by
  have hr : ∀ e ∈ N.map encB, e.length = 2 := fun e he => by obtain ⟨x, _, rfl⟩ := List.mem_map.1 he; rfl
  rcases h.own.2 with ⟨h0, _⟩ | ⟨g', cap', cur, hve, hb, hg, h1, h2, h3, h4⟩
  · cases h0
  simp only [Value.slice.injEq, Option.some.injEq, Addr.mk.injEq, and_true] at hve
  obtain ⟨rfl, _, rfl⟩ := hve
  refine ⟨⟨flat_length hr, Or.inr ⟨g, cap, _, by rw [List.length_map, hN], hb, heapB _ hg, by simpa [hN, hn] using h1, h2, by simpa [putCells] using h3, ?_⟩⟩, fun e he => by obtain ⟨x, _, rfl⟩ := List.mem_map.1 he; exact rngRow_one x.1⟩
  have hsz : n * 2 ≤ cur.size := by rw [h3]; have : n ≤ cap := by simpa [hn] using h1
                                    omega
  rw [List.length_map, hN]
  apply List.ext_getElem?
  intro j
  by_cases hj : j < n * 2
  · rw [List.getElem?_take_of_lt hj, flat_at N (by rw [hN]; exact hj), Array.getElem?_toList]
    simp [putCells, hN, hj, show j < cur.size by omega]
  · rw [List.getElem?_take_eq_none (by omega), List.getElem?_eq_none (by rw [flat_length hr]; simp; omega)]

set_option maxHeartbeats 1600000 in
theorem rsort (g n cap : Nat) (L : List Rng) (w : World) (hn : L.length = n) (hL : ∀ r ∈ L, okH r) (h : Lst w 34 2 (.slice (some ⟨g, 0, none⟩) n cap) (L.map rngRow)) (hm : n ≤ 1000000) :
    Calls Tryz.prog 39 #[.slice (some ⟨g, 0, none⟩) n cap, .func (Fn.func 40) #[] #[]] w fun e w' => e = .returned (.tuple #[]) ∧ ∃ L' : List Rng, L'.Perm L ∧ L'.Pairwise (fun a b => b.hi ≤ a.hi) ∧ Lst w' 34 2 (.slice (some ⟨g, 0, none⟩) n cap) (L'.map rngRow) ∧ Out w w' [g] := by
  obtain ⟨M, rfl⟩ : ∃ M : List RngB, L = M.map (·.1) := ⟨L.attachWith _ hL, by simp⟩
  have hnm : M.length = n := by simpa using hn
  have hl : Lst w 34 2 (.slice (some ⟨g, 0, none⟩) n cap) (M.map encB) := by
    have : (M.map (·.1)).map rngRow = M.map encB := by rw [List.map_map]; rfl
    rw [← this]; exact h
  have eg : ∀ args w, (callFunc 40 args).run Tryz.prog w = .ok (.enter 40 args) w := enters_of Tryz.func40 (by kernel_rfl) rfl
  have hg : g < w.heap.size := hl.lt g (by simp [Value.ownBlock])
  have hcon := AnyQ.slices_SortFunc laysSort 2 Tryz.isAgg34 Tryz.sizeOf34 encB (fun _ => rfl) (fun x v hv => (rngRow_one x.1).2 v hv) cfB swoB 40 #[] g 0 cap M.toArray w eg (fun _ _ _ _ x y => cmpB x y _) (holdsB hl hnm) hg (by simp; omega)
  rw [show M.toArray.size = n from by simpa using hnm] at hcon
  refine Calls.mono (P := Tryz.prog) hcon ?_
  rintro e w' ⟨rfl, d', m, os, ⟨p1, _, p3⟩, hs, rfl⟩
  have hd : d'.toList.length = n := by rw [Array.length_toList, p1]; simpa using hnm
  refine ⟨rfl, d'.toList.map (·.1), ?_, ?_, ?_, outB _ _ _ _ _⟩
  · apply List.Perm.map
    have e1 : (d'.extract 0 n).toList = d'.toList := by rw [Array.extract_eq_self_of_le (by rw [p1]; simp; omega)]
    have e2 : (M.toArray.extract 0 n).toList = M := by rw [Array.extract_eq_self_of_le (by simp; omega)]
    rw [e1, e2] at p3
    exact p3
  · rw [List.pairwise_map, List.pairwise_iff_getElem]
    intro i j hi hj hij
    have := hs i j (Nat.zero_le _) hij (by omega)
    rw [ltB] at this
    have hi' : i < d'.size := by simpa using hi
    have hj' : j < d'.size := by simpa using hj
    rw [getElem!_pos d' _ hi', getElem!_pos d' _ hj'] at this
    simp only [Array.getElem_toList]
    simpa using this
  · have := lstB (N := d'.toList) (m := m) (os := os) hl hnm hd
    rw [List.map_map]
    exact this
end Go.Proofs.YtjjmoaaongnjiaaGreatDoor
