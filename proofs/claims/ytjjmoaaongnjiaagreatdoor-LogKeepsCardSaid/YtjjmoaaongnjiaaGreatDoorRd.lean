/- Slices of structs of ints that came in, or that the call made: rows of cells that are read. No condition of its own. -/
import Derived.Test.YtjjmoaaongnjiaaGreatDoorRng
import Derived.Test.YtjjmoaaongnjiaaGreatDoorIns
import Derived.Deep.SlicePairs
namespace Go.Proofs.YtjjmoaaongnjiaaGreatDoor
open Go.ChangeShapes Go.WideShapes Go.ChangeAt Go.RowKit
set_option linter.unusedVariables false

/-- v is a slice of these elements, each of k cells: nil, or a row that can be read -/
structure Rd (w : World) (k : Nat) (v : Value) (es : List (List Value)) : Prop where
  shape : ∃ A cap, v = .slice A es.length cap ∧ es.length ≤ cap ∧ cap ≤ maxLen ∧ (es ≠ [] → ∃ b off, A = some ⟨b, off, none⟩ ∧ b < w.heap.size ∧ ∀ j u, (flat es)[j]? = some u → w.cell? ⟨b, off + j, none⟩ = some u)
  rows : ∀ e ∈ es, e.length = k ∧ ∀ u ∈ e, u.oneCell' = true
theorem Rd.later {w w' : World} {k : Nat} {v : Value} {es : List (List Value)} (h : Rd w k v es) (hb : Below w.heap.size w w') : Rd w' k v es := by
  obtain ⟨⟨A, cap, h1, h2, h3, h4⟩, h5⟩ := h
  refine ⟨⟨A, cap, h1, h2, h3, fun hne => ?_⟩, h5⟩
  obtain ⟨b, off, e, hlt, hc⟩ := h4 hne
  exact ⟨b, off, e, Nat.lt_of_lt_of_le hlt hb.size, fun j u hu => (hb.cell (p := ⟨b, off + j, none⟩) hlt).trans (hc j u hu)⟩
theorem Rd.of_lst {w : World} {E k : Nat} {v : Value} {es : List (List Value)} (h : Lst w E k v es) : Rd w k v es := by
  obtain ⟨A, cap, hv, hc, hm, hA⟩ := h.shape
  refine ⟨⟨A, cap, hv, hc, hm, fun hne => ?_⟩, h.rows⟩
  rcases hA with ⟨_, h0, _⟩ | ⟨g, rfl⟩
  · exact absurd h0 hne
  · refine ⟨g, 0, rfl, h.lt g (by rw [hv]; simp [Value.ownBlock]), fun j u hu => ?_⟩
    have := h.own.cells (g := g) (by rw [hv]; rfl) j u hu
    have hadd : (⟨g, 0, none⟩ : Addr).add j = ⟨g, 0 + j, none⟩ := by unfold Addr.add; split <;> simp_all
    rw [← hadd]
    exact this
theorem Rd.nil (w : World) (k : Nat) : Rd w k (.slice none 0 0) [] := ⟨⟨none, 0, rfl, by simp, by simp [maxLen], by simp⟩, by simp⟩
/-- the j-th cell of the i-th element -/
theorem Rd.at_ {w : World} {k : Nat} {b off n cap : Nat} {es : List (List Value)} (h : Rd w k (.slice (some ⟨b, off, none⟩) n cap) es) {i j : Nat} {e : List Value} {u : Value} (hi : es[i]? = some e) (hj : e[j]? = some u) : w.cell? ⟨b, off + (i * k + j), none⟩ = some u := by
  obtain ⟨A, cap', hv, _, _, hc⟩ := h.shape
  have hne : es ≠ [] := by rintro rfl; simp at hi
  obtain ⟨b', off', hA, _, hcc⟩ := hc hne
  subst hA
  simp only [Value.slice.injEq, Option.some.injEq, Addr.mk.injEq, and_true] at hv
  obtain ⟨⟨rfl, rfl⟩, _⟩ := hv
  exact hcc _ u (Lst.flat_get (fun e he => (h.rows e he).1) hi hj)
instance : Inhabited Rng := ⟨⟨0, 0⟩⟩
theorem rows_open {α : Type} [Inhabited α] {H : Type} {enc : TypeId × Value → H} {P : Program} {w : World} {t e k fuel : Nat} {A : Option Addr} {len cap : Nat} {d : DataW H} {ps : List MemPlace} (row : α → List Value) (ok : α → Prop)
    (hrow : ∀ a, (row a).length = k ∧ ∀ u ∈ row a, u.oneCell' = true) (hk : 0 < k) (ht : P.underlying t = some (.slice e)) (ce : P.cellsOf e = k)
    (hel : ∀ n cs x, DataW.trod enc P w 0 (fun _ => true) true n e cs = some x → ∃ q, ok q ∧ cs = row q)
    (h : DataW.trod enc P w 0 (fun _ => true) true fuel t (Value.slice A len cap).cells.toList = some (d, ps)) :
    ∃ L : List α, (∀ a ∈ L, ok a) ∧ L.length = len ∧ Rd w k (.slice A len cap) (L.map row) := by
  rcases Deep.open_slice ht h with ⟨hcs, _⟩ | ⟨x, l, c, m, n, D, Pl, hcs, _, hl, hm, hmm, _, hx⟩
  · simp [Value.cells] at hcs
    obtain ⟨rfl, rfl, rfl⟩ := hcs
    exact ⟨[], by simp, rfl, Rd.nil w k⟩
  · simp [Value.cells] at hcs
    obtain ⟨rfl, rfl, rfl⟩ := hcs
    rw [ce] at hx
    have each : ∀ i, i < len → ∃ q : α, ok q ∧ ∀ j u, (row q)[j]? = some u → w.cell? ((x.add (i * k)).add j) = some u := fun i hi => by
      obtain ⟨cs', h1, h2⟩ := hx i (by simp at hmm; omega)
      obtain ⟨q, hq, rfl⟩ := hel _ _ _ h2
      obtain ⟨_, hlen, hcell⟩ := World.cells?_some h1
      refine ⟨q, hq, fun j u hu => ?_⟩
      have hj : j < k := by have := (List.getElem?_eq_some_iff.1 hu).1; rw [(hrow q).1] at this; exact this
      rw [hcell j hj, hu]
    obtain ⟨q, hq⟩ := Deep.choose_lt each
    refine ⟨(List.range len).map q, fun a ha => ?_, by simp, ⟨⟨some x, cap, by simp, by simp; exact hl, hm, fun hne => ?_⟩, fun e he => ?_⟩⟩
    · obtain ⟨i, hi, rfl⟩ := List.mem_map.1 ha
      exact (hq i (List.mem_range.1 hi)).1
    · have h0 : 0 < len := by
        rcases Nat.eq_zero_or_pos len with h0 | h0
        · subst h0; simp at hne
        · exact h0
      obtain ⟨u0, hu0⟩ : ∃ u, (row (q 0))[0]? = some u := ⟨_, List.getElem?_eq_getElem (by rw [(hrow _).1]; exact hk)⟩
      have hc0 := (hq 0 h0).2 0 u0 hu0
      obtain ⟨b, off, spot⟩ := x
      have hspot : spot = none := by simpa [Addr.add] using World.cell?_spot hc0
      subst hspot
      refine ⟨b, off, rfl, ?_, fun j u hu => ?_⟩
      · have := hc0
        rcases Nat.lt_or_ge b w.heap.size with h1 | h1
        · exact h1
        · simp [World.cell?, Addr.add, Array.getElem?_eq_none h1] at this
      · have hr : ∀ e ∈ ((List.range len).map q).map row, e.length = k := fun e he => by
          obtain ⟨a, _, rfl⟩ := List.mem_map.1 he
          exact (hrow a).1
        have hj : j < len * k := by
          have := (List.getElem?_eq_some_iff.1 hu).1
          rw [flat_length hr] at this
          simpa using this
        have hi : j / k < len := Nat.div_lt_of_lt_mul (by rw [Nat.mul_comm]; exact hj)
        have hjk := Nat.mod_lt j hk
        have he : (((List.range len).map q).map row)[j / k]? = some (row (q (j / k))) := by simp [hi]
        obtain ⟨u', hu'⟩ : ∃ u', (row (q (j / k)))[j % k]? = some u' := ⟨_, List.getElem?_eq_getElem (by rw [(hrow _).1]; exact hjk)⟩
        have hf := Lst.flat_get hr he hu'
        have hdm : j / k * k + j % k = j := by rw [Nat.mul_comm]; exact Nat.div_add_mod j k
        rw [hdm, hu] at hf
        obtain rfl := Option.some.inj hf
        have hc := (hq (j / k) hi).2 (j % k) u hu'
        rw [← hdm, ← Nat.add_assoc]
        have hadd : ((⟨b, off, none⟩ : Addr).add (j / k * k)).add (j % k) = ⟨b, off + j / k * k + j % k, none⟩ := by unfold Addr.add; split <;> split <;> simp_all
        rw [← hadd]
        exact hc
    · obtain ⟨a, _, rfl⟩ := List.mem_map.1 he
      exact hrow a
/-- ranges that came in -/
def okI (n : Int) : Prop := -9223372036854775808 ≤ n ∧ n ≤ 9223372036854775807
def RngsIn (w : World) (v : Value) (L : List Rng) : Prop := (∀ r ∈ L, okI r.lo ∧ okI r.hi) ∧ Rd w 2 v (L.map rngRow)
theorem rngsIn_open {H : Type} {enc : TypeId × Value → H} {P : Program} {w : World} {t e fuel : Nat} {A : Option Addr} {len cap : Nat} {d : DataW H} {ps : List MemPlace} {f0 f1 : Field}
    (ht : P.underlying t = some (.slice e)) (he : P.underlying e = some (.struct #[f0, f1])) (ce : P.cellsOf e = 2) (o0 : f0.offset = 0) (o1 : f1.offset = 1) (c0 : P.cellsOf f0.type = 1) (c1 : P.cellsOf f1.type = 1)
    (u0 : P.underlying f0.type = some (.int .i64)) (u1 : P.underlying f1.type = some (.int .i64))
    (h : DataW.trod enc P w 0 (fun _ => true) true fuel t (Value.slice A len cap).cells.toList = some (d, ps)) : ∃ L, RngsIn w (.slice A len cap) L := by
  obtain ⟨L, h1, _, h2⟩ := rows_open rngRow (fun r => okI r.lo ∧ okI r.hi) rngRow_one (by decide) ht ce (fun n cs x hx => by
    obtain ⟨xs, k, _, _, hlen, hxl, hf⟩ := DataW.trod_struct he hx
    rw [ce] at hlen
    match xs, hxl, cs, hlen with
    | [y0, y1], _, [v0, v1], _ =>
      have g0 := hf 0 f0 rfl
      have g1 := hf 1 f1 rfl
      simp [o0, o1, c0, c1] at g0 g1
      obtain ⟨n0, e0, _, b0⟩ := DataW.trod_int u0 g0
      obtain ⟨n1, e1, _, b1⟩ := DataW.trod_int u1 g1
      simp at e0 e1
      exact ⟨⟨n0, n1⟩, ⟨wf_bounds b0, wf_bounds b1⟩, by rw [e0, e1]; rfl⟩) h
  exact ⟨L, h1, h2⟩
/-- a packet that was sent: its number, when, how many bytes -/
structure Snt where
  n : Int
  t : Int
  z : Int
deriving DecidableEq, Inhabited
def sntRow (r : Snt) : List Value := [.int .i64 r.n, .int .i64 r.t, .int .i64 r.z]
theorem sntRow_one (r : Snt) : (sntRow r).length = 3 ∧ ∀ u ∈ sntRow r, u.oneCell' = true := ⟨rfl, by intro u hu; simp [sntRow] at hu; rcases hu with rfl | rfl | rfl <;> rfl⟩
def SntsIn (w : World) (v : Value) (L : List Snt) : Prop := (∀ r ∈ L, okI r.n ∧ okI r.t ∧ okI r.z) ∧ Rd w 3 v (L.map sntRow)
theorem sntsIn_open {H : Type} {enc : TypeId × Value → H} {P : Program} {w : World} {t e fuel : Nat} {A : Option Addr} {len cap : Nat} {d : DataW H} {ps : List MemPlace} {f0 f1 f2 : Field}
    (ht : P.underlying t = some (.slice e)) (he : P.underlying e = some (.struct #[f0, f1, f2])) (ce : P.cellsOf e = 3) (o0 : f0.offset = 0) (o1 : f1.offset = 1) (o2 : f2.offset = 2) (c0 : P.cellsOf f0.type = 1) (c1 : P.cellsOf f1.type = 1) (c2 : P.cellsOf f2.type = 1)
    (u0 : P.underlying f0.type = some (.int .i64)) (u1 : P.underlying f1.type = some (.int .i64)) (u2 : P.underlying f2.type = some (.int .i64))
    (h : DataW.trod enc P w 0 (fun _ => true) true fuel t (Value.slice A len cap).cells.toList = some (d, ps)) : ∃ L, SntsIn w (.slice A len cap) L := by
  obtain ⟨L, h1, _, h2⟩ := rows_open sntRow (fun r => okI r.n ∧ okI r.t ∧ okI r.z) sntRow_one (by decide) ht ce (fun n cs x hx => by
    obtain ⟨xs, k, _, _, hlen, hxl, hf⟩ := DataW.trod_struct he hx
    rw [ce] at hlen
    match xs, hxl, cs, hlen with
    | [y0, y1, y2], _, [v0, v1, v2], _ =>
      have g0 := hf 0 f0 rfl
      have g1 := hf 1 f1 rfl
      have g2 := hf 2 f2 rfl
      simp [o0, o1, o2, c0, c1, c2] at g0 g1 g2
      obtain ⟨n0, e0, _, b0⟩ := DataW.trod_int u0 g0
      obtain ⟨n1, e1, _, b1⟩ := DataW.trod_int u1 g1
      obtain ⟨n2, e2, _, b2⟩ := DataW.trod_int u2 g2
      simp at e0 e1 e2
      exact ⟨⟨n0, n1, n2⟩, ⟨wf_bounds b0, wf_bounds b1, wf_bounds b2⟩, by rw [e0, e1, e2]; rfl⟩) h
  exact ⟨L, h1, h2⟩
theorem row_of_snt {L : List Snt} {i : Nat} (h : i < L.length) : (L.map sntRow)[i]? = some (sntRow L[i]) := by simp [h]
end Go.Proofs.YtjjmoaaongnjiaaGreatDoor
