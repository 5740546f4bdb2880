/- What the rows' lists give a walk where frame.counts is among them, and a world that meets them. -/
import Derived.Test.YthnolkbolmbkdaaDoorLaid
namespace Go.Proofs.YthnolkbolmbkdaaDoor
open Go.ChangeShapes Go.WideShapes Go.ChangeAt Go.RowKit
set_option linter.unusedVariables false

def cntK : Nat → Int
  | 3 => 1 | 4 => 1 | 5 => 1 | 6 => 1 | 7 => 2 | 8 => 1 | _ => 0
/-- the table of counts -/
def CTab (w : World) : Prop := ∀ j, j < 9 → w.cell? ⟨1, j, none⟩ = some (.int .i64 (cntK j))
theorem CTab.lt {w : World} (h : CTab w) : 1 < w.heap.size := by
  rcases Nat.lt_or_ge 1 w.heap.size with h1 | h1
  · exact h1
  · have := h 0 (by omega)
    simp [World.cell?, Array.getElem?_eq_none h1] at this
theorem CTab.later {w w1 : World} (h : CTab w) (hb : Below w.heap.size w w1) : CTab w1 := fun j hj => (hb.cell (p := ⟨1, j, none⟩) h.lt).trans (h j hj)
theorem Tryd.countsName : Tryd.prog.globalNamed "wanderwire/frame.counts" = some 1 := by kernel_rfl
theorem Tryd.countsType : (Tryd.prog.globals[1]?).map (·.type) = some 172 := by kernel_rfl
set_option maxRecDepth 100000 in
theorem ktab_of_vars {W : World} {r : List (String × DataW Unit)} {ps : List MemPlace} (h : DataW.LaidVars Tryd.prog W (("wanderwire/varint.kinds", Rows.laid_wanderwire_varint_kinds) :: r) ps) : KTab W ∧ ∃ q, DataW.LaidVars Tryd.prog W r q := by
  obtain ⟨g, t, cs, fuel, p, q, hg, ht, hvar, hd, hr, _⟩ := h
  refine ⟨?_, q, hr⟩
  obtain rfl := Option.some.inj (Tryd.kindsName.symm.trans hg)
  obtain rfl := Option.some.inj (Tryd.kindsType.symm.trans ht)
  obtain ⟨xs, m, _, hx, hl, hn, hi⟩ := DataW.trod_array Tryd.underlying165 hd
  match xs, hn with
  | [x0, x1, x2], _ =>
    simp only [Rows.laid_wanderwire_varint_kinds, List.map_cons, List.map_nil, Prod.mk.injEq, DataW.agg.injEq, List.cons.injEq, and_true] at hx
    obtain ⟨⟨hx0, hx1, hx2⟩, _⟩ := hx
    have t0 := hi 0 (by omega)
    have t1 := hi 1 (by omega)
    have t2 := hi 2 (by omega)
    rw [Tryd.kindsCells] at t0 t1 t2
    simp only [List.getElem?_cons_zero, List.getElem?_cons_succ] at t0 t1 t2
    rw [show x0 = (x0.1, x0.2) from rfl, ← hx0] at t0
    rw [show x1 = (x1.1, x1.2) from rfl, ← hx1] at t1
    rw [show x2 = (x2.1, x2.2) from rfl, ← hx2] at t2
    obtain ⟨a0, b0⟩ := kind_pair t0
    obtain ⟨a1, b1⟩ := kind_pair t1
    obtain ⟨a2, b2⟩ := kind_pair t2
    simp [List.getElem?_drop] at a0 b0 a1 b1 a2 b2
    have hc := fun i => World.var?_cell Tryd.kindsName hvar i
    exact ⟨(hc 0).trans a0, (hc 1).trans b0, (hc 2).trans a1, (hc 3).trans b1, (hc 4).trans a2, (hc 5).trans b2⟩
set_option maxRecDepth 100000 in
theorem ctab_of_vars {W : World} {r : List (String × DataW Unit)} {ps : List MemPlace} (h : DataW.LaidVars Tryd.prog W (("wanderwire/frame.counts", Rows.laid_wanderwire_frame_counts) :: r) ps) : CTab W := by
  obtain ⟨g, t, cs, fuel, p, q, hg, ht, hvar, hd, hr, _⟩ := h
  obtain rfl := Option.some.inj (Tryd.countsName.symm.trans hg)
  obtain rfl := Option.some.inj (Tryd.countsType.symm.trans ht)
  obtain ⟨xs, m, _, hx, hl, hn, hi⟩ := DataW.trod_array Tryd.underlying172 hd
  have hone : ∀ (j : Nat) (a : Int) (x : DataW Unit × List MemPlace), j < 9 → xs[j]? = some x → x.1 = .lit (.int .i64 a) → cs[j]? = some (.int .i64 a) := by
    intro j a x hj hxj hxa
    have t0 := hi j hj
    rw [Tryd.kindsCells3, hxj] at t0
    obtain ⟨n0, e0, d0, _⟩ := DataW.trod_int (k := .i64) Tryd.underlying3 t0
    have hxe : x.1 = .lit (.int .i64 n0) := congrArg Prod.fst (d0 : x = _)
    rw [hxa] at hxe
    have hna : a = n0 := by injection hxe with h1; injection h1
    subst hna
    have := congrArg (fun l : List Value => l[0]?) e0
    simpa [List.getElem?_take, List.getElem?_drop] using this
  match xs, hn with
  | [x0, x1, x2, x3, x4, x5, x6, x7, x8], _ =>
    simp only [Rows.laid_wanderwire_frame_counts, List.map_cons, List.map_nil, Prod.mk.injEq, DataW.agg.injEq, List.cons.injEq, and_true] at hx
    obtain ⟨⟨h0, h1, h2, h3, h4, h5, h6, h7, h8⟩, _⟩ := hx
    have hc := fun i => World.var?_cell Tryd.countsName hvar i
    intro j hj
    match j, hj with
    | 0, _ => exact (hc 0).trans (hone 0 _ x0 (by omega) rfl h0.symm)
    | 1, _ => exact (hc 1).trans (hone 1 _ x1 (by omega) rfl h1.symm)
    | 2, _ => exact (hc 2).trans (hone 2 _ x2 (by omega) rfl h2.symm)
    | 3, _ => exact (hc 3).trans (hone 3 _ x3 (by omega) rfl h3.symm)
    | 4, _ => exact (hc 4).trans (hone 4 _ x4 (by omega) rfl h4.symm)
    | 5, _ => exact (hc 5).trans (hone 5 _ x5 (by omega) rfl h5.symm)
    | 6, _ => exact (hc 6).trans (hone 6 _ x6 (by omega) rfl h6.symm)
    | 7, _ => exact (hc 7).trans (hone 7 _ x7 (by omega) rfl h7.symm)
    | 8, _ => exact (hc 8).trans (hone 8 _ x8 (by omega) rfl h8.symm)
theorem laid_kc {W : World} (h : laidMetH Tryd.prog [("wanderwire/varint.kinds", Rows.laid_wanderwire_varint_kinds), ("wanderwire/frame.counts", Rows.laid_wanderwire_frame_counts)] W) : KTab W ∧ CTab W := by
  have h' : laidMet Tryd.prog [("wanderwire/varint.kinds", Rows.laid_wanderwire_varint_kinds), ("wanderwire/frame.counts", Rows.laid_wanderwire_frame_counts)] W := h
  obtain ⟨ps, hv, _⟩ := h'
  obtain ⟨hk, q, hq⟩ := ktab_of_vars hv
  exact ⟨hk, ctab_of_vars hq⟩
theorem laid_ekc {W : World} (h : laidMetH Tryd.prog [("errors.errorType", Rows.laid_errors_errorType), ("wanderwire/varint.kinds", Rows.laid_wanderwire_varint_kinds), ("wanderwire/frame.counts", Rows.laid_wanderwire_frame_counts)] W) : ETok W ∧ KTab W ∧ CTab W := by
  have h' : laidMet Tryd.prog [("wanderwire/varint.kinds", Rows.laid_wanderwire_varint_kinds), ("wanderwire/frame.counts", Rows.laid_wanderwire_frame_counts)] W ∧ handlesMet Tryd.prog [("errors.errorType", Rows.laid_errors_errorType)] W := h
  exact ⟨etok_of_handles h'.2, laid_kc h'.1⟩
/-- A world that meets the lists: the settled one, the listed variables' cells laid. -/
noncomputable def laidWorld2 (os : Os) : World :=
  let w0 := World.holding Tryd.prog os ⟨#[], #[], []⟩
  { w0 with heap := w0.heap
    |>.modify 2 (fun
      | .cells _ t frozen => .cells #[.iface 199 (.agg #[.pointer (some ⟨3, 24, none⟩)])] t frozen
      | o => o)
    |>.modify 0 (fun
      | .cells _ t frozen => .cells #[.int .i64 1, .int .i64 64, .int .i64 2, .int .i64 16384, .int .i64 4, .int .i64 1073741824] t frozen
      | o => o)
    |>.modify 1 (fun
      | .cells _ t frozen => .cells #[.int .i64 0, .int .i64 0, .int .i64 0, .int .i64 1, .int .i64 1, .int .i64 1, .int .i64 1, .int .i64 2, .int .i64 1] t frozen
      | o => o)
  }
set_option maxRecDepth 100000 in
theorem laidMet_kc (os : Os) (args : Array Value) : laidMetH Tryd.prog [("wanderwire/varint.kinds", Rows.laid_wanderwire_varint_kinds), ("wanderwire/frame.counts", Rows.laid_wanderwire_frame_counts)] ((laidWorld2 os).forCall (fun _ _ => 0) ⟨#[], args, []⟩).memory :=
  laidMet_of_run' 8 (by kernel_rfl) (by kernel_rfl)
set_option maxRecDepth 100000 in
theorem laidMet_ekc (os : Os) (args : Array Value) : laidMetH Tryd.prog [("errors.errorType", Rows.laid_errors_errorType), ("wanderwire/varint.kinds", Rows.laid_wanderwire_varint_kinds), ("wanderwire/frame.counts", Rows.laid_wanderwire_frame_counts)] ((laidWorld2 os).forCall (fun _ _ => 0) ⟨#[], args, []⟩).memory :=
  laidMetH_of_parts (laidMet_of_run' 8 (by kernel_rfl) (by kernel_rfl)) (by kernel_rfl)
end Go.Proofs.YthnolkbolmbkdaaDoor
