/- What is left of packets that were sent: slices.Clone, IndexFunc, DeleteFunc with loss.left's closure, and loss.left. Condition: the slices can be read. -/
import Derived.Test.YtbmfknnbpnllkaaDoorLoss
import Derived.Test.YtbmfknnbpnllkaaDoorDelG
import Derived.OwnWalk
import Derived.WalkSpells
namespace Go.Proofs.YtbmfknnbpnllkaaDoor
open Go.ChangeShapes Go.WideShapes Go.ChangeAt Go.RowKit
set_option linter.unusedVariables false

theorem Tryd.elSnt : Elem Tryd.prog 64 68 3 24 := ⟨Tryd.underlying64, ⟨.agg #[.int .i64 0, .int .i64 0, .int .i64 0], rfl, by kernel_rfl⟩, by decide, by decide⟩
theorem flat_set3 : ∀ {es : List (List Value)} (hr : ∀ e ∈ es, e.length = 3) (i : Nat) (hi : i < es.length) (a b c : Value), (((flat es).set (i * 3) a).set (i * 3 + 1) b).set (i * 3 + 2) c = flat (es.set i [a, b, c])
  | [], _, i, hi, _, _, _ => by simp at hi
  | e :: r, hr, i, hi, a, b, c => by
    match e, hr e (by simp) with
    | [x, y, z], _ =>
      cases i with
      | zero => simp [flat]
      | succ i =>
        have := flat_set3 (es := r) (fun e he => hr e (by simp [he])) i (by simpa using hi) a b c
        have e0 : flat ([x, y, z] :: r) = x :: y :: z :: flat r := by simp [flat]
        have e1 : flat (([x, y, z] :: r).set (i + 1) [a, b, c]) = x :: y :: z :: flat (r.set i [a, b, c]) := by simp [flat]
        rw [e0, e1, ← this, Nat.succ_mul]
        rfl
/-- one element of three cells is written -/
theorem Lst.set3 {w : World} {E g n cap : Nat} {es : List (List Value)} (h : Lst w E 3 (.slice (some ⟨g, 0, none⟩) n cap) es) {i : Nat} (hi : i < es.length) {a b c : Value} (h1 : ∀ u ∈ [a, b, c], u.oneCell' = true) :
    Lst (((w.setCell ⟨g, i * 3, none⟩ a).setCell ⟨g, i * 3 + 1, none⟩ b).setCell ⟨g, i * 3 + 2, none⟩ c) E 3 (.slice (some ⟨g, 0, none⟩) n cap) (es.set i [a, b, c]) := by
  have hr : ∀ e ∈ es, e.length = 3 := fun e he => (h.rows e he).1
  refine ⟨⟨?_, ?_⟩, fun e he => ?_⟩
  · rw [← flat_set3 hr i hi, List.length_set, List.length_set, List.length_set, List.length_set]
    exact h.own.1
  · rcases h.own.2 with ⟨h0, _⟩ | ⟨g', cap', cur, hv, hb, hg, hh1, h2, h3, h4⟩
    · cases h0
    · simp only [Value.slice.injEq, Option.some.injEq, Addr.mk.injEq, and_true] at hv
      obtain ⟨rfl, rfl, rfl⟩ := hv
      refine Or.inr ⟨g, cap, ((cur.setIfInBounds (i * 3) a).setIfInBounds (i * 3 + 1) b).setIfInBounds (i * 3 + 2) c, by rw [List.length_set], hb, BlockIs.put (BlockIs.put (BlockIs.put hg _ a) _ b) _ c, by rw [List.length_set]; exact hh1, h2, by simpa using h3, ?_⟩
      rw [Array.toList_setIfInBounds, Array.toList_setIfInBounds, Array.toList_setIfInBounds, List.take_set, List.take_set, List.take_set, List.length_set, h4, flat_set3 hr i hi]
  · rcases List.mem_or_eq_of_mem_set he with he | he
    · exact h.rows e he
    · rw [he]
      exact ⟨rfl, h1⟩
theorem Out.set3 (w : World) (g o : Nat) (a b c : Value) : Out w (((w.setCell ⟨g, o, none⟩ a).setCell ⟨g, o + 1, none⟩ b).setCell ⟨g, o + 2, none⟩ c) [g] :=
  (((Out.refl w [g]).put (p := ⟨g, o, none⟩) (Or.inl (by simp)) a).put (p := ⟨g, o + 1, none⟩) (Or.inl (by simp)) b).put (p := ⟨g, o + 2, none⟩) (Or.inl (by simp)) c
/-- the cells behind the i-th element are written, and the slice is cut there -/
theorem Lst.cut {w : World} {E k g n cap : Nat} {es : List (List Value)} (h : Lst w E k (.slice (some ⟨g, 0, none⟩) n cap) es) {i : Nat} (hi : i ≤ es.length) (vs : List Value) (hv : i * k + vs.length ≤ cap * k) :
    Lst (w.setCells g (i * k) vs) E k (.slice (some ⟨g, 0, none⟩) i cap) (es.take i) := by
  have hr : ∀ e ∈ es, e.length = k := fun e he => (h.rows e he).1
  have hrt : ∀ e ∈ es.take i, e.length = k := fun e he => hr e (List.mem_of_mem_take he)
  have hl : (es.take i).length = i := by rw [List.length_take]; omega
  rcases h.own.2 with ⟨h0, _⟩ | ⟨g', cap', cur, hve, hb, hg, hh1, h2, h3, h4⟩
  · cases h0
  simp only [Value.slice.injEq, Option.some.injEq, Addr.mk.injEq, and_true] at hve
  obtain ⟨rfl, rfl, rfl⟩ := hve
  refine ⟨⟨flat_length hrt, Or.inr ⟨g, cap, puts cur (i * k) vs, by rw [hl], hb, BlockIs.putAll vs hg _, by rw [hl]; omega, h2, by rw [puts_size]; exact h3, ?_⟩⟩, fun e he => h.rows e (List.mem_of_mem_take he)⟩
  rw [hl, puts_list vs cur _ (by rw [h3]; exact hv), List.append_assoc, List.take_append_of_le_length (by rw [List.length_take]; simp; rw [h3]; exact Nat.le_min.2 ⟨Nat.le_refl _, Nat.mul_le_mul_right _ (by omega)⟩), List.take_take, Nat.min_self, ← flat_take hr i, ← h4, List.take_take, Nat.min_eq_left (Nat.mul_le_mul_right _ hi)]
theorem zeroCells_len (z : Array Value) (n : Nat) : (Builtin.zeroCells z n).toList.length = n * z.size := by simp [Builtin.zeroCells]
theorem zeroCells_one {z : Array Value} (h : ∀ u ∈ z.toList, u.oneCell' = true) (n : Nat) : ∀ u ∈ (Builtin.zeroCells z n).toList, u.oneCell' = true := by
  intro u hu
  simp only [Builtin.zeroCells, Array.toList_map, List.mem_map] at hu
  obtain ⟨i, hi, rfl⟩ := hu
  have hi' : i < n * z.size := by simpa using hi
  have hz : 0 < z.size := by
    rcases Nat.eq_zero_or_pos z.size with h0 | h0
    · rw [h0, Nat.mul_zero] at hi'; omega
    · exact h0
  have hm := Nat.mod_lt i hz
  rw [getElem!_pos z _ hm]
  exact h _ (by simp)
theorem run_clearN {P : Program} (w : World) (t e ty : TypeId) (z : Value) (ht : P.underlying t = some (.slice e)) (hv : (zeroValue e).run P w = .ok z w) (h1 : ∀ u ∈ z.cells.toList, u.oneCell' = true) (b o c n : Nat)
    (hc : ∀ j, j < n * z.cells.size → (w.cell? ⟨b, o + j, none⟩).isSome = true) (hf : ∀ j, j < n * z.cells.size → w.frozen? ⟨b, o + j, none⟩ = false) :
    (Builtin.clear_ #[t] ty #[.slice (some ⟨b, o, none⟩) n c]).run P w = .ok (.tuple #[]) (w.setCells b o (Builtin.zeroCells z.cells n).toList) := by
  have hst := run_storeCells_cells (P := P) b o (Builtin.zeroCells z.cells n).toList 0 w (by rw [zeroCells_len]; simpa using hc) (by rw [zeroCells_len]; simpa using hf) (zeroCells_one h1 n)
  simp only [Nat.add_zero] at hst
  cases n with
  | zero => simp [Builtin.clear_, run_underlying ht, Builtin.zeroCells, World.setCells]
  | succ n => simp [Builtin.clear_, run_underlying ht, hv, hst]

def leftL (L : List Snt) (M : List Rng) : List Snt := L.filter fun r => !inB M r.n
/-- the first one that came; below 0: there is none -/
def splace (L : List Snt) (M : List Rng) : Int := if (L.any fun r => inB M r.n) = true then ((L.findIdx fun r => inB M r.n : Nat) : Int) else -1
theorem splace_at {L : List Snt} {M : List Rng} {i : Nat} (h : i < L.length) (h0 : ∀ j, j < i → inB M (sat L j).n = false) (h1 : inB M (sat L i).n = true) : splace L M = i := by
  unfold splace
  rw [sat_get h] at h1
  rw [if_pos (List.any_eq_true.2 ⟨_, List.getElem_mem h, h1⟩)]
  congr 1
  refine (List.findIdx_eq h).2 ⟨h1, fun j hj => ?_⟩
  have := h0 j hj
  rw [sat_get (by omega)] at this
  exact this
theorem splace_none {L : List Snt} {M : List Rng} (h : ∀ j, j < L.length → inB M (sat L j).n = false) : splace L M = -1 := by
  unfold splace
  rw [if_neg]
  intro hb
  obtain ⟨r, hr, hx⟩ := List.any_eq_true.1 hb
  obtain ⟨i, hi, rfl⟩ := List.getElem_of_mem hr
  have := h i hi
  rw [sat_get hi, hx] at this
  cases this
theorem splace_cases (L : List Snt) (M : List Rng) : (splace L M = -1 ∧ leftL L M = L) ∨ ∃ i : Nat, splace L M = i ∧ i < L.length ∧ (L.take (i + 1)).filter (fun r => !inB M r.n) = L.take i := by
  by_cases h : (L.any fun r => inB M r.n) = true
  · right
    have hlt : L.findIdx (fun r => inB M r.n) < L.length := List.findIdx_lt_length.2 (by obtain ⟨r, hr, hx⟩ := List.any_eq_true.1 h; exact ⟨r, hr, hx⟩)
    refine ⟨L.findIdx fun r => inB M r.n, by unfold splace; rw [if_pos h], hlt, ?_⟩
    rw [List.take_succ_eq_append_getElem hlt, List.filter_append]
    have e1 : [L[L.findIdx fun r => inB M r.n]].filter (fun r => !inB M r.n) = [] := by
      have := List.findIdx_getElem (w := hlt)
      simp [this]
    rw [e1, List.append_nil]
    refine List.filter_eq_self.2 fun r hr => ?_
    obtain ⟨j, hj, rfl⟩ := List.getElem_of_mem hr
    rw [List.length_take] at hj
    have := List.not_of_lt_findIdx (p := fun r : Snt => inB M r.n) (xs := L) (i := j) (by omega)
    rw [List.getElem_take]
    simpa using this
  · left
    refine ⟨by unfold splace; rw [if_neg h], List.filter_eq_self.2 fun r hr => ?_⟩
    have : ¬ inB M r.n = true := fun hx => h (List.any_eq_true.2 ⟨r, hr, hx⟩)
    simpa using this
/-- the acks can be read behind the closure's cell -/
structure Acks (w : World) (gc : Nat) (A : Option Addr) (n cap : Nat) (M : List Rng) : Prop where
  cell : w.cell? ⟨gc, 0, none⟩ = some (.slice A n cap)
  rd : Rd w 2 (.slice A n cap) (M.map rngRow)
  len : M.length = n
theorem Acks.lt {w : World} {gc n cap : Nat} {A : Option Addr} {M : List Rng} (h : Acks w gc A n cap M) : gc < w.heap.size := World.block_lt_of_cell? w _ h.cell
theorem Acks.later {w w' : World} {gc n cap : Nat} {A : Option Addr} {M : List Rng} (h : Acks w gc A n cap M) (hb : Since w w') : Acks w' gc A n cap M := ⟨hb.cell h.lt h.cell, h.rd.later hb, h.len⟩
theorem sleft1 (r : Snt) (gc n cap : Nat) (A : Option Addr) (M : List Rng) (w : World) (h : Acks w gc A n cap M) :
    Calls Tryd.prog 63 #[.agg #[.int .i64 r.n, .int .i64 r.t, .int .i64 r.z], .pointer (some ⟨gc, 0, none⟩)] w fun e w' => e = .returned (.bool (inB M r.n)) ∧ Below w.heap.size w w' := by
  have H := Lib.hid h
  have c0 := h.cell
  have hl := h.lt
  clear h
  go_enter Tryd.func63, Tryd.ntmps63
  go_wp2_with fail
  refine (rin_any A n cap M r.n _ H.out.len (H.out.rd.later (by refine Since.out ?_; repeat (first | with_reducible assumption | with_reducible exact Since.refl _ | with_reducible refine Since.later ?_ (by with_reducible assumption) | with_reducible refine Since.only ?_ (by with_reducible assumption) (by first | assumption | omega | (simp; done) | (simp; omega)) | with_reducible refine Since.alloc ?_ _ | with_reducible refine Since.drewN ?_ _ | with_reducible refine Since.drew ?_ | with_reducible refine Since.set ?_ (by first | assumption | omega | (simp; done) | (simp; omega)) _)))).mono ?_
  rintro e w1 ⟨rfl, hb1⟩
  go_wp2_with fail
  go_ret
  exact ⟨rfl, (by refine Since.out ?_; repeat (first | with_reducible assumption | with_reducible exact Since.refl _ | with_reducible refine Since.later ?_ (by with_reducible assumption) | with_reducible refine Since.only ?_ (by with_reducible assumption) (by first | assumption | omega | (simp; done) | (simp; omega)) | with_reducible refine Since.alloc ?_ _ | with_reducible refine Since.drewN ?_ _ | with_reducible refine Since.drew ?_ | with_reducible refine Since.set ?_ (by first | assumption | omega | (simp; done) | (simp; omega)) _))⟩
set_option maxHeartbeats 1600000 in
set_option maxRecDepth 100000 in
theorem sindex (A : Option Addr) (n cap : Nat) (L : List Snt) (gc n2 cap2 : Nat) (A2 : Option Addr) (M : List Rng) (w : World) (hn : L.length = n) (h : Rd w 3 (.slice A n cap) (L.map sntRow)) (hx : Acks w gc A2 n2 cap2 M) :
    Calls Tryd.prog 73 #[.slice A n cap, .func (Fn.func 63) #[] #[.pointer (some ⟨gc, 0, none⟩)]] w fun e w' => e = .returned (.int .i64 (splace L M)) ∧ Below w.heap.size w w' := by
  have H := Lib.hid h
  have HN := Lib.hid hn
  have HX := Lib.hid hx
  have hcm := h.cap_le.2
  clear h hn hx
  go_enter Tryd.func73, Tryd.ntmps73
  go_wp2_with fail
  go_loopw [8] (fun s8 wr => ∃ i : Nat, s8 = .int .i64 i ∧ i ≤ n ∧ Hid (∀ j, j < i → inB M (sat L j).n = false) ∧ Since w wr) (fun s8 _ => n - (intOf s8).toNat)
  case atStart => exact ⟨0, rfl, Nat.zero_le _, Lib.hid (fun j hj => by omega), Since.refl _⟩
  case round =>
    obtain ⟨i, rfl, hi, HU, hs⟩ := hrel
    by_cases hlt : i < n
    case neg =>
      obtain rfl : i = n := by omega
      have hf : decide ((i : Int) < (i : Int)) = false := by simp
      have E := Lib.hid (splace_none (L := L) (M := M) (fun j hj => HU.out j (by rw [HN.out] at hj; exact hj)))
      go_wp2_with fail
      go_ret
      exact ⟨by rw [E.out]; rfl, (by refine Since.out ?_; repeat (first | with_reducible assumption | with_reducible exact Since.refl _ | with_reducible refine Since.later ?_ (by with_reducible assumption) | with_reducible refine Since.only ?_ (by with_reducible assumption) (by first | assumption | omega | (simp; done) | (simp; omega)) | with_reducible refine Since.alloc ?_ _ | with_reducible refine Since.drewN ?_ _ | with_reducible refine Since.drew ?_ | with_reducible refine Since.set ?_ (by first | assumption | omega | (simp; done) | (simp; omega)) _))⟩
    have hlt' : (i : Int) < (n : Int) := by omega
    obtain ⟨b, off, rfl, hbl, hc⟩ := H.out.snt (i := i) (by rw [HN.out]; exact hlt)
    obtain ⟨c0, c1, c2⟩ := hc wr hs i (by rw [HN.out]; exact hlt)
    have lb : b < wr.heap.size := Nat.lt_of_lt_of_le hbl hs.le
    have HY : Hid (inB M (sat L i).n = true → splace L M = i) := Lib.hid (fun h => splace_at (by rw [HN.out]; exact hlt) HU.out h)
    have HW : Hid (inB M (sat L i).n = false → ∀ j, j < i + 1 → inB M (sat L j).n = false) := Lib.hid (fun h j hj => by
      rcases Nat.lt_succ_iff_lt_or_eq.1 hj with h1 | h1
      · exact HU.out j h1
      · rw [h1]; exact h)
    clear hc
    generalize sat L i = r at *
    obtain ⟨sn, st, sz⟩ := r
    simp only at c0 c1 c2
    cases hr : inB M sn with
    | true =>
      have E := Lib.hid (HY.out hr)
      have HR := Lib.hid hr
      clear hr
      go_wp2_with (go_at_call 63; refine (sleft1 ⟨sn, st, sz⟩ gc n2 cap2 A2 M _ (HX.out.later hs)).mono ?_; rintro e w1 ⟨rfl, hb1⟩; rw [HR.out])
      go_ret
      exact ⟨by rw [E.out]; rfl, (by refine Since.out ?_; repeat (first | with_reducible assumption | with_reducible exact Since.refl _ | with_reducible refine Since.later ?_ (by with_reducible assumption) | with_reducible refine Since.only ?_ (by with_reducible assumption) (by first | assumption | omega | (simp; done) | (simp; omega)) | with_reducible refine Since.alloc ?_ _ | with_reducible refine Since.drewN ?_ _ | with_reducible refine Since.drew ?_ | with_reducible refine Since.set ?_ (by first | assumption | omega | (simp; done) | (simp; omega)) _))⟩
    | false =>
      have K := Lib.hid (HW.out hr)
      have HR := Lib.hid hr
      clear hr
      go_wp2_with (go_at_call 63; refine (sleft1 ⟨sn, st, sz⟩ gc n2 cap2 A2 M _ (HX.out.later hs)).mono ?_; rintro e w1 ⟨rfl, hb1⟩; rw [HR.out])
      go_roundw
      case rel => exact ⟨i + 1, by go_num, by omega, K, (by refine Since.out ?_; repeat (first | with_reducible assumption | with_reducible exact Since.refl _ | with_reducible refine Since.later ?_ (by with_reducible assumption) | with_reducible refine Since.only ?_ (by with_reducible assumption) (by first | assumption | omega | (simp; done) | (simp; omega)) | with_reducible refine Since.alloc ?_ _ | with_reducible refine Since.drewN ?_ _ | with_reducible refine Since.drew ?_ | with_reducible refine Since.set ?_ (by first | assumption | omega | (simp; done) | (simp; omega)) _))⟩
      case measure => simp [intOf]; omega
end Go.Proofs.YtbmfknnbpnllkaaDoor
