/- What the rows' lists of package-level variables give a walk, and a world that meets them. -/
import Derived.Test.YthnolkbolmbkdaaDoorTold
import Derived.Deep.DeepHandedRow
import Derived.Lib.LaidTab
import Derived.ChangeSame
namespace Go.Proofs.YthnolkbolmbkdaaDoor
open Go.ChangeShapes Go.WideShapes Go.ChangeAt Go.RowKit
set_option linter.unusedVariables false

theorem Tryd.et : Tryd.prog.globalNamed "errors.errorType" = some 2 := by kernel_rfl
theorem Tryd.rt : (Tryd.prog.cutTypes.find? (·.1 == "internal/reflectlite.rtype")).map (·.2) = some 199 := by kernel_rfl
theorem Tryd.oneRow : ((List.range 240).filter fun t => Tryd.prog.rowNamed t [101, 114, 114, 111, 114]) = [24] := by kernel_rfl
theorem Tryd.size : Tryd.prog.types.size = 240 := by kernel_rfl
theorem etok_of_handles {W : World} (h : handlesMet Tryd.prog [("errors.errorType", Rows.laid_errors_errorType)] W) : ETok W := by
  obtain ⟨name, u, ty, e1, e2, e3, e4, e5⟩ := h _ (List.mem_singleton.2 rfl)
  have en : name = [101, 114, 114, 111, 114] := (Option.some.inj e1).symm
  subst en
  obtain rfl := Option.some.inj (Tryd.rt.symm.trans e2)
  have hm : ty ∈ (List.range 240).filter fun t => Tryd.prog.rowNamed t [101, 114, 114, 111, 114] := List.mem_filter.2 ⟨List.mem_range.2 (by rw [← Tryd.size]; exact e3), e4⟩
  rw [Tryd.oneRow] at hm
  obtain rfl := List.mem_singleton.1 hm
  have hh : typeHandle Tryd.prog 24 = .pointer (some ⟨3, 24, none⟩) := by kernel_rfl
  rw [hh] at e5
  unfold ETok
  simpa using World.var?_cell Tryd.et e5 0
theorem laid_et {W : World} (h : laidMetH Tryd.prog [("errors.errorType", Rows.laid_errors_errorType)] W) : ETok W := by
  have h' : laidMet Tryd.prog [] W ∧ handlesMet Tryd.prog [("errors.errorType", Rows.laid_errors_errorType)] W := h
  exact etok_of_handles h'.2

/-- the table of kinds -/
structure KTab (w : World) : Prop where
  k0 : w.cell? ⟨0, 0, none⟩ = some (.int .i64 1)
  k1 : w.cell? ⟨0, 1, none⟩ = some (.int .i64 64)
  k2 : w.cell? ⟨0, 2, none⟩ = some (.int .i64 2)
  k3 : w.cell? ⟨0, 3, none⟩ = some (.int .i64 16384)
  k4 : w.cell? ⟨0, 4, none⟩ = some (.int .i64 4)
  k5 : w.cell? ⟨0, 5, none⟩ = some (.int .i64 1073741824)
theorem KTab.later {w w1 : World} (h : KTab w) (hb : Below w.heap.size w w1) : KTab w1 :=
  ⟨cell_later hb h.k0, cell_later hb h.k1, cell_later hb h.k2, cell_later hb h.k3, cell_later hb h.k4, cell_later hb h.k5⟩
theorem KTab.alloc {w : World} (h : KTab w) (o : Obj) : KTab (w.alloc o) := h.later ((Below.refl _ _).alloc (Nat.le_refl _) o)
theorem KTab.drew {w : World} (h : KTab w) : KTab w.drew := ⟨h.k0, h.k1, h.k2, h.k3, h.k4, h.k5⟩
theorem KTab.lt {w : World} (h : KTab w) : 0 < w.heap.size := by
  rcases Nat.lt_or_ge 0 w.heap.size with h1 | h1
  · exact h1
  · have := h.k0
    simp [World.cell?, Array.getElem?_eq_none h1] at this

theorem Tryd.kindsName : Tryd.prog.globalNamed "wanderwire/varint.kinds" = some 0 := by kernel_rfl
theorem Tryd.kindsType : (Tryd.prog.globals[0]?).map (·.type) = some 165 := by kernel_rfl
theorem Tryd.kindsCells : Tryd.prog.cellsOf 164 = 2 := by kernel_rfl
theorem Tryd.kindsCells3 : Tryd.prog.cellsOf 3 = 1 := by kernel_rfl
theorem Tryd.kindsCellsA : Tryd.prog.cellsOf 165 = 6 := by kernel_rfl

set_option maxRecDepth 100000 in
theorem kind_pair {W : World} {m : Nat} {cs : List Value} {a b : Int} {p : List MemPlace}
    (h : DataW.trod (fun _ => ()) Tryd.prog W 0 (fun _ => true) false m 164 cs = some (.agg [.lit (.int .i64 a), .lit (.int .i64 b)], p)) : cs[0]? = some (.int .i64 a) ∧ cs[1]? = some (.int .i64 b) := by
  obtain ⟨y0, y1, n, hx, hl, h0, h1⟩ := trod_struct2 Tryd.underlying164 h
  simp only [Prod.mk.injEq, DataW.agg.injEq, List.cons.injEq, and_true] at hx
  obtain ⟨⟨hy0, hy1⟩, _⟩ := hx
  obtain ⟨n0, e0, d0, _⟩ := DataW.trod_int (k := .i64) Tryd.underlying3 h0
  obtain ⟨n1, e1, d1, _⟩ := DataW.trod_int (k := .i64) Tryd.underlying3 h1
  have e0' : (cs.drop 0).take (Tryd.prog.cellsOf 3) = [.int .i64 n0] := e0
  have e1' : (cs.drop 1).take (Tryd.prog.cellsOf 3) = [.int .i64 n1] := e1
  rw [Tryd.kindsCells3] at e0' e1'
  rw [d0] at hy0
  rw [d1] at hy1
  simp only [DataW.lit.injEq, Lit.int.injEq, true_and] at hy0 hy1
  subst hy0 hy1
  constructor
  · have := congrArg (fun l : List Value => l[0]?) e0'
    simpa [List.getElem?_take] using this
  · have := congrArg (fun l : List Value => l[0]?) e1'
    simpa [List.getElem?_take, List.getElem?_drop] using this

set_option maxRecDepth 100000 in
theorem ktab_of_laid {W : World} (h : laidMet Tryd.prog [("wanderwire/varint.kinds", Rows.laid_wanderwire_varint_kinds)] W) : KTab W := by
  obtain ⟨ps, ⟨g, t, cs, fuel, p, q, hg, ht, hvar, hd, _, _⟩, _⟩ := h
  obtain rfl := Option.some.inj (Tryd.kindsName.symm.trans hg)
  obtain rfl := Option.some.inj (Tryd.kindsType.symm.trans ht)
  obtain ⟨xs, m, _, hx, hl, hn, hi⟩ := DataW.trod_array Tryd.underlying165 hd
  match xs, hn with
  | [x0, x1, x2], _ =>
    simp only [Rows.laid_wanderwire_varint_kinds, List.map_cons, List.map_nil, Prod.mk.injEq, DataW.agg.injEq, List.cons.injEq, and_true] at hx
    obtain ⟨⟨hx0, hx1, hx2⟩, _⟩ := hx
    have t0 := hi 0 (by omega)
    have t1 := hi 1 (by omega)
    have t2 := hi 2 (by omega)
    rw [Tryd.kindsCells] at t0 t1 t2
    simp only [List.getElem?_cons_zero, List.getElem?_cons_succ] at t0 t1 t2
    rw [show x0 = (x0.1, x0.2) from rfl, ← hx0] at t0
    rw [show x1 = (x1.1, x1.2) from rfl, ← hx1] at t1
    rw [show x2 = (x2.1, x2.2) from rfl, ← hx2] at t2
    obtain ⟨a0, b0⟩ := kind_pair t0
    obtain ⟨a1, b1⟩ := kind_pair t1
    obtain ⟨a2, b2⟩ := kind_pair t2
    simp [List.getElem?_drop] at a0 b0 a1 b1 a2 b2
    have hc := fun i => World.var?_cell Tryd.kindsName hvar i
    exact ⟨(hc 0).trans a0, (hc 1).trans b0, (hc 2).trans a1, (hc 3).trans b1, (hc 4).trans a2, (hc 5).trans b2⟩
theorem laid_k {W : World} (h : laidMetH Tryd.prog [("wanderwire/varint.kinds", Rows.laid_wanderwire_varint_kinds)] W) : KTab W :=
  ktab_of_laid h
theorem laid_both {W : World} (h : laidMetH Tryd.prog [("errors.errorType", Rows.laid_errors_errorType), ("wanderwire/varint.kinds", Rows.laid_wanderwire_varint_kinds)] W) : ETok W ∧ KTab W := by
  have h' : laidMet Tryd.prog [("wanderwire/varint.kinds", Rows.laid_wanderwire_varint_kinds)] W ∧ handlesMet Tryd.prog [("errors.errorType", Rows.laid_errors_errorType)] W := h
  exact ⟨etok_of_handles h'.2, ktab_of_laid h'.1⟩

/-- A world that meets the lists: the settled one, the listed variables' cells laid. -/
noncomputable def laidWorld (os : Os) : World :=
  let w0 := World.holding Tryd.prog os ⟨#[], #[], []⟩
  { w0 with heap := w0.heap
    |>.modify 2 (fun
      | .cells _ t frozen => .cells #[.iface 199 (.agg #[.pointer (some ⟨3, 24, none⟩)])] t frozen
      | o => o)
    |>.modify 0 (fun
      | .cells _ t frozen => .cells #[.int .i64 1, .int .i64 64, .int .i64 2, .int .i64 16384, .int .i64 4, .int .i64 1073741824] t frozen
      | o => o)
  }
set_option maxRecDepth 100000 in
theorem laidMet_et (os : Os) (args : Array Value) : laidMetH Tryd.prog [("errors.errorType", Rows.laid_errors_errorType)] ((laidWorld os).forCall (fun _ _ => 0) ⟨#[], args, []⟩).memory :=
  laidMetH_of_parts (laidMet_nil _ _) (by kernel_rfl)
set_option maxRecDepth 100000 in
theorem laidMet_k (os : Os) (args : Array Value) : laidMetH Tryd.prog [("wanderwire/varint.kinds", Rows.laid_wanderwire_varint_kinds)] ((laidWorld os).forCall (fun _ _ => 0) ⟨#[], args, []⟩).memory :=
  laidMet_of_run' 8 (by kernel_rfl) (by kernel_rfl)
set_option maxRecDepth 100000 in
theorem laidMet_both (os : Os) (args : Array Value) : laidMetH Tryd.prog [("errors.errorType", Rows.laid_errors_errorType), ("wanderwire/varint.kinds", Rows.laid_wanderwire_varint_kinds)] ((laidWorld os).forCall (fun _ _ => 0) ⟨#[], args, []⟩).memory :=
  laidMetH_of_parts (laidMet_of_run' 8 (by kernel_rfl) (by kernel_rfl)) (by kernel_rfl)
end Go.Proofs.YthnolkbolmbkdaaDoor
