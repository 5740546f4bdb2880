/- Frames in memory: rows of three cells, each with its numbers; what came in. No condition of its own. -/
import Derived.Test.YthnolkbolmbkdaaDoorFrmLaw
import Derived.Test.YthnolkbolmbkdaaDoorRd
import Derived.Lib.SmallJoins
namespace Go.Proofs.YthnolkbolmbkdaaDoor
open Go.ChangeShapes Go.WideShapes Go.ChangeAt Go.RowKit
set_option linter.unusedVariables false

instance : Inhabited Frm := ⟨⟨0, [], ByteArray.empty⟩⟩
/-- a frame, and where its numbers lie -/
structure FrmV where
  f : Frm
  A : Option Addr
  cap : Nat
instance : Inhabited FrmV := ⟨⟨default, none, 0⟩⟩
abbrev FrmV.v (p : FrmV) : Value := .slice p.A p.f.nums.length p.cap
def frmRow (p : FrmV) : List Value := [.int .i64 p.f.kind, .slice p.A p.f.nums.length p.cap, .string p.f.data]
theorem frmRow_one (p : FrmV) : (frmRow p).length = 3 ∧ ∀ u ∈ frmRow p, u.oneCell' = true := ⟨rfl, by intro u hu; simp [frmRow] at hu; rcases hu with rfl | rfl | rfl <;> rfl⟩
abbrev FrmV.agg (p : FrmV) : Value := .agg #[.int .i64 p.f.kind, .slice p.A p.f.nums.length p.cap, .string p.f.data]
/-- a frame's parts are right in a world -/
structure FrmIn (w : World) (p : FrmV) : Prop where
  kind : okI p.f.kind
  data : p.f.data.size ≤ maxLen
  nums : IntsIn w p.v p.f.nums
theorem FrmIn.later {w w' : World} {p : FrmV} (h : FrmIn w p) (hb : Below w.heap.size w w') : FrmIn w' p := ⟨h.kind, h.data, h.nums.keep hb⟩
/-- frames that can be read -/
structure FrmsIn (w : World) (v : Value) (L : List FrmV) : Prop where
  each : ∀ p ∈ L, FrmIn w p
  rd : Rd w 3 v (L.map frmRow)
theorem FrmsIn.later {w w' : World} {v : Value} {L : List FrmV} (h : FrmsIn w v L) (hb : Below w.heap.size w w') : FrmsIn w' v L :=
  ⟨fun p hp => (h.each p hp).later hb, h.rd.later hb⟩
theorem ints_field {H : Type} {enc : TypeId × Value → H} {P : Program} {w : World} {t e fuel : Nat} {v : Value} {y : DataW H × List MemPlace}
    (ht : P.underlying t = some (.slice e)) (he : P.underlying e = some (.int .i64)) (hc : P.cellsOf e = 1)
    (h : DataW.trod enc P w 0 (fun _ => true) true fuel t [v] = some y) : ∃ zs, IntsIn w v zs := by
  rcases open_ints ht he hc h with ⟨hcs, _⟩ | ⟨x, l, c, zs, hcs, _, hl, hm, hz, _, hcell, hwz⟩
  · simp only [List.cons.injEq, and_true] at hcs
    subst hcs
    exact ⟨[], intsIn_nil w⟩
  · simp only [List.cons.injEq, and_true] at hcs
    subst hcs
    exact ⟨_, intsIn_mk hl hm (by simpa using hz) hwz hcell⟩
theorem str_field {H : Type} {enc : TypeId × Value → H} {P : Program} {w : World} {t fuel : Nat} {v : Value} {y : DataW H × List MemPlace}
    (ht : P.underlying t = some .string) (h : DataW.trod enc P w 0 (fun _ => true) true fuel t [v] = some y) : ∃ s : ByteArray, v = .string s ∧ s.size ≤ maxLen := by
  cases fuel with
  | zero => simp [DataW.trod] at h
  | succ n =>
    unfold DataW.trod at h
    rw [ht] at h
    cases v <;> simp at h
    rename_i s
    exact ⟨s, rfl, by have := h.1; omega⟩
theorem frmsIn_open {H : Type} {enc : TypeId × Value → H} {P : Program} {w : World} {t e ei fuel : Nat} {A : Option Addr} {len cap : Nat} {d : DataW H} {ps : List MemPlace} {f0 f1 f2 : Field}
    (ht : P.underlying t = some (.slice e)) (he : P.underlying e = some (.struct #[f0, f1, f2])) (ce : P.cellsOf e = 3) (o0 : f0.offset = 0) (o1 : f1.offset = 1) (o2 : f2.offset = 2) (c0 : P.cellsOf f0.type = 1) (c1 : P.cellsOf f1.type = 1) (c2 : P.cellsOf f2.type = 1)
    (u0 : P.underlying f0.type = some (.int .i64)) (u1 : P.underlying f1.type = some (.slice ei)) (u2 : P.underlying f2.type = some .string) (ui : P.underlying ei = some (.int .i64)) (ci : P.cellsOf ei = 1)
    (h : DataW.trod enc P w 0 (fun _ => true) true fuel t (Value.slice A len cap).cells.toList = some (d, ps)) : ∃ L, FrmsIn w (.slice A len cap) L := by
  obtain ⟨L, h1, _, h2⟩ := rows_open frmRow (fun p : FrmV => FrmIn w p) frmRow_one (by decide) ht ce (fun n cs x hx => by
    obtain ⟨xs, k, _, _, hlen, hxl, hf⟩ := DataW.trod_struct he hx
    rw [ce] at hlen
    match xs, hxl, cs, hlen with
    | [y0, y1, y2], _, [v0, v1, v2], _ =>
      have g0 := hf 0 f0 rfl
      have g1 := hf 1 f1 rfl
      have g2 := hf 2 f2 rfl
      simp [o0, o1, o2, c0, c1, c2] at g0 g1 g2
      obtain ⟨n0, e0, _, b0⟩ := DataW.trod_int u0 g0
      obtain ⟨zs, hz⟩ := ints_field u1 ui ci g1
      obtain ⟨s, e2, hs⟩ := str_field u2 g2
      simp at e0
      subst e0 e2
      obtain ⟨A, cap, hv⟩ : ∃ A cap, v1 = .slice A zs.length cap := by
        obtain ⟨_, A, cap, hv, _⟩ := hz
        exact ⟨A, cap, hv⟩
      subst hv
      exact ⟨⟨⟨n0, zs, s⟩, A, cap⟩, ⟨wf_bounds b0, hs, hz⟩, rfl⟩) h
  exact ⟨L, h1, h2⟩
/-- a frame that came in by value -/
theorem frm_fields {H : Type} {enc : TypeId × Value → H} {P : Program} {w : World} {t1 t2 ei n : Nat} {a : Int} {v1 v2 : Value} {y1 y2 : DataW H × List MemPlace} (hk : (Lit.int .i64 a).wf = true)
    (u1 : P.underlying t1 = some (.slice ei)) (u2 : P.underlying t2 = some .string) (ui : P.underlying ei = some (.int .i64)) (ci : P.cellsOf ei = 1)
    (h1 : DataW.trod enc P w 0 (fun _ => true) true n t1 [v1] = some y1) (h2 : DataW.trod enc P w 0 (fun _ => true) true n t2 [v2] = some y2) : ∃ p : FrmV, FrmIn w p ∧ p.f.kind = a ∧ v1 = p.v ∧ v2 = .string p.f.data := by
  obtain ⟨zs, hz⟩ := ints_field u1 ui ci h1
  obtain ⟨s, e2, hs⟩ := str_field u2 h2
  obtain ⟨A, cap, hv⟩ : ∃ A cap, v1 = .slice A zs.length cap := by
    obtain ⟨_, A, cap, hv, _⟩ := hz
    exact ⟨A, cap, hv⟩
  subst hv
  exact ⟨⟨⟨a, zs, s⟩, A, cap⟩, ⟨wf_bounds hk, hs, hz⟩, rfl, rfl, e2⟩
end Go.Proofs.YthnolkbolmbkdaaDoor
