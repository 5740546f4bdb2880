/- Contracts of package move: Answer, Came, Send. Condition: the blocks hold a Mover as New and the calls leave it. Printed by gen_mov.py. -/
import Derived.Test.YthnolkbolmbkdaaMovC
import Derived.Deep.RegionLaw
namespace Go.Proofs.Ythnolkbolmbkdaa
open Go.ChangeShapes Go.WideShapes Go.ChangeAt Go.RowKit
set_option linter.unusedVariables false

def known1 (p : Pth) : Pth := if 0 < p.i then { p with k := true } else p
def mAns (s : MvS) (i x y l : Int) : MvS := { s with P := if ansB s.As i x y l = true then s.P.put (known1 (s.P.at i.toNat)) i.toNat else s.P, As := ansL s.As i x y l }
theorem ans_path {As : List Asked} {i x y l : Int} (h : ansB As i x y l = true) : i = 0 ∨ i = 1 ∨ i = 2 ∨ i = 3 := by
  have h1 : ansE i x y l = 0 := by
    unfold ansB at h
    cases hd : decide (ansE i x y l = 0) with
    | true => exact of_decide_eq_true hd
    | false => rw [hd] at h; cases h
  unfold ansE at h1
  split at h1
  · rename_i hh
    have := hh.1.1
    omega
  · cases h1
/-- one cell of a Mover is written -/
theorem Mz.put {w : World} {B : MvB} {s s' : MvS} (h : Mz w B s) (j : Nat) (u : Value) (hc : (mvCells s.P B.gi B.gp s.ta s.tb).setIfInBounds j u = mvCells s'.P B.gi B.gp s'.ta s'.tb) (e1 : s'.lim = s.lim) (e2 : s'.L = s.L) (e3 : s'.N = s.N) (e4 : s'.As = s.As) : MLeft w (w.setCell ⟨B.g, j, none⟩ u) B s' :=
  h.own (hc ▸ h.bl.put j u) ((Out.refl w _).put (Or.inl (by simp)) u) e1 e2 e3 e4
theorem MLeft.put {w w1 : World} {B : MvB} {s s' : MvS} (h : MLeft w w1 B s) (j : Nat) (u : Value) (hc : (mvCells s.P B.gi B.gp s.ta s.tb).setIfInBounds j u = mvCells s'.P B.gi B.gp s'.ta s'.tb) (e1 : s'.lim = s.lim) (e2 : s'.L = s.L) (e3 : s'.N = s.N) (e4 : s'.As = s.As) : MLeft w (w1.setCell ⟨B.g, j, none⟩ u) B s' := by
  obtain ⟨v1, hz1, ho1, hk1⟩ := h
  have h1 : MLeft w w1 B s := ⟨v1, hz1, ho1, hk1⟩
  exact h1.trans (w2 := w1.setCell ⟨B.g, j, none⟩ u) (s2 := s') ho1.size (fun v' hz => Mz.put (B := { B with v := v' }) hz j u hc e1 e2 e3 e4)
set_option maxHeartbeats 3200000 in
theorem manswer (B : MvB) (s : MvS) (i x y l : Int) (w : World) (h : Mz w B s) :
    Calls Try.prog 8 #[.pointer (some ⟨B.g, 0, none⟩), .int .i64 i, .int .i64 x, .int .i64 y, .int .i64 l] w fun e w' => e = .returned (.tuple #[.bool (ansB s.As i x y l), errV (ansE i x y l)]) ∧ MLeft w w' B (mAns s i x y l) := by
  have PA := Lib.hid ((panswer_any B.gp B.bp s.As i x y l w h.pr).mono fun e w' hh => And.intro hh.1 (show MLeft w w' B { s with As := ansL s.As i x y l } from h.proofs1 hh.2.1 hh.2.2))
  obtain ⟨g, gi, bi, gp, bp, v⟩ := B
  have H := Lib.hid h
  obtain ⟨⟨⟨ia, oa, ka⟩, ⟨ib, ob, kb⟩, ⟨ic, oc, kc⟩, ⟨id, od, kd⟩⟩, lim, L, N, As, ta, tb⟩ := s
  have HB : Hid (BlockIs w g 49 #[.int .i64 ia, .int .i64 oa, .bool ka, .int .i64 ib, .int .i64 ob, .bool kb, .int .i64 ic, .int .i64 oc, .bool kc, .int .i64 id, .int .i64 od, .bool kd, .pointer (some ⟨gi, 0, none⟩), .pointer (some ⟨gp, 0, none⟩), .int .i64 ta, .int .i64 tb]) := Lib.hid h.bl
  have lg : g < w.heap.size := HB.out.lt
  simp only at PA ⊢
  clear h
  have d3 : w.cell? ⟨g, 13, none⟩ = some (.pointer (some ⟨gp, 0, none⟩)) := HB.out.cell 13
  cases hb : ansB As i x y l with
  | false =>
    rw [hb] at PA
    have E : Hid (mAns (⟨⟨⟨ia, oa, ka⟩, ⟨ib, ob, kb⟩, ⟨ic, oc, kc⟩, ⟨id, od, kd⟩⟩, lim, L, N, As, ta, tb⟩ : MvS) i x y l = { (⟨⟨⟨ia, oa, ka⟩, ⟨ib, ob, kb⟩, ⟨ic, oc, kc⟩, ⟨id, od, kd⟩⟩, lim, L, N, As, ta, tb⟩ : MvS) with As := ansL As i x y l }) := Lib.hid (by unfold mAns; simp only; rw [hb]; rfl)
    clear hb
    go_enter Try.func8, Try.ntmps8
    trace "A"; go_wp2_with fail
    refine PA.out.mono ?_
    rintro e w1 ⟨rfl, hm1⟩
    trace "B"; go_wp2_with fail
    go_ret2
    exact ⟨rfl, by rw [E.out]; exact hm1⟩
  | true =>
    rw [hb] at PA
    have E : Hid (mAns (⟨⟨⟨ia, oa, ka⟩, ⟨ib, ob, kb⟩, ⟨ic, oc, kc⟩, ⟨id, od, kd⟩⟩, lim, L, N, As, ta, tb⟩ : MvS) i x y l = { (⟨⟨⟨ia, oa, ka⟩, ⟨ib, ob, kb⟩, ⟨ic, oc, kc⟩, ⟨id, od, kd⟩⟩, lim, L, N, As, ta, tb⟩ : MvS) with P := ((⟨⟨⟨ia, oa, ka⟩, ⟨ib, ob, kb⟩, ⟨ic, oc, kc⟩, ⟨id, od, kd⟩⟩, lim, L, N, As, ta, tb⟩ : MvS)).P.put (known1 (((⟨⟨⟨ia, oa, ka⟩, ⟨ib, ob, kb⟩, ⟨ic, oc, kc⟩, ⟨id, od, kd⟩⟩, lim, L, N, As, ta, tb⟩ : MvS)).P.at i.toNat)) i.toNat, As := ansL As i x y l }) := Lib.hid (by unfold mAns; simp only; rw [hb]; rfl)
    rcases ans_path hb with rfl | rfl | rfl | rfl
    · clear hb
      by_cases h0 : 0 < ia
      · have E2 : Hid (known1 ⟨ia, oa, ka⟩ = ⟨ia, oa, true⟩) := Lib.hid (by unfold known1; rw [if_pos h0])
        have h0' : decide (0 < ia) = true := by simpa using h0
        go_enter Try.func8, Try.ntmps8
        go_wp2_with fail
        refine PA.out.mono ?_
        rintro e w1 ⟨rfl, v1, hz1, ho1, hk1⟩
        have d0 : w1.cell? ⟨g, 0, none⟩ = some (.int .i64 ia) := hz1.bl.cell 0
        have d2 : w1.cell? ⟨g, 2, none⟩ = some (.bool ka) := hz1.bl.cell 2
        have lg1 : g < w1.heap.size := hz1.bl.lt
        have fg1 := hz1.bl.free
        simp only at fg1
        have HZ : Hid (MLeft w (w1.setCell ⟨g, 2, none⟩ (.bool true)) (⟨g, gi, bi, gp, bp, v⟩ : MvB) { (⟨⟨⟨ia, oa, ka⟩, ⟨ib, ob, kb⟩, ⟨ic, oc, kc⟩, ⟨id, od, kd⟩⟩, lim, L, N, As, ta, tb⟩ : MvS) with P := ((⟨⟨⟨ia, oa, ka⟩, ⟨ib, ob, kb⟩, ⟨ic, oc, kc⟩, ⟨id, od, kd⟩⟩, lim, L, N, As, ta, tb⟩ : MvS)).P.put ⟨ia, oa, true⟩ 0, As := ansL As 0 x y l }) := Lib.hid (MLeft.put ⟨v1, hz1, ho1, hk1⟩ 2 (.bool true) rfl rfl rfl rfl rfl)
        clear hz1 ho1 hk1
        trace "C0"; go_wp2_with fail
        go_ret2
        refine ⟨rfl, ?_⟩
        rw [E.out]
        simp only [Pths.at, Int.toNat_zero]
        rw [E2.out]
        exact HZ.out
      · have E2 : Hid (known1 ⟨ia, oa, ka⟩ = ⟨ia, oa, ka⟩) := Lib.hid (by unfold known1; rw [if_neg h0])
        have h0' : decide (0 < ia) = false := by simpa using h0
        clear h0
        go_enter Try.func8, Try.ntmps8
        go_wp2_with fail
        refine PA.out.mono ?_
        rintro e w1 ⟨rfl, v1, hz1, ho1, hk1⟩
        have d0 : w1.cell? ⟨g, 0, none⟩ = some (.int .i64 ia) := hz1.bl.cell 0
        have lg1 : g < w1.heap.size := hz1.bl.lt
        have HZ := Lib.hid (show MLeft w w1 (⟨g, gi, bi, gp, bp, v⟩ : MvB) _ from ⟨v1, hz1, ho1, hk1⟩)
        clear hz1 ho1 hk1
        trace "D0"; go_wp2_with fail
        go_ret2
        refine ⟨rfl, ?_⟩
        rw [E.out]
        simp only [Pths.at, Int.toNat_zero]
        rw [E2.out]
        exact HZ.out
    · clear hb
      by_cases h0 : 0 < ib
      · have E2 : Hid (known1 ⟨ib, ob, kb⟩ = ⟨ib, ob, true⟩) := Lib.hid (by unfold known1; rw [if_pos h0])
        have h0' : decide (0 < ib) = true := by simpa using h0
        go_enter Try.func8, Try.ntmps8
        go_wp2_with fail
        refine PA.out.mono ?_
        rintro e w1 ⟨rfl, v1, hz1, ho1, hk1⟩
        have d0 : w1.cell? ⟨g, 3, none⟩ = some (.int .i64 ib) := hz1.bl.cell 3
        have d2 : w1.cell? ⟨g, 5, none⟩ = some (.bool kb) := hz1.bl.cell 5
        have lg1 : g < w1.heap.size := hz1.bl.lt
        have fg1 := hz1.bl.free
        simp only at fg1
        have HZ : Hid (MLeft w (w1.setCell ⟨g, 5, none⟩ (.bool true)) (⟨g, gi, bi, gp, bp, v⟩ : MvB) { (⟨⟨⟨ia, oa, ka⟩, ⟨ib, ob, kb⟩, ⟨ic, oc, kc⟩, ⟨id, od, kd⟩⟩, lim, L, N, As, ta, tb⟩ : MvS) with P := ((⟨⟨⟨ia, oa, ka⟩, ⟨ib, ob, kb⟩, ⟨ic, oc, kc⟩, ⟨id, od, kd⟩⟩, lim, L, N, As, ta, tb⟩ : MvS)).P.put ⟨ib, ob, true⟩ 1, As := ansL As 1 x y l }) := Lib.hid (MLeft.put ⟨v1, hz1, ho1, hk1⟩ 5 (.bool true) rfl rfl rfl rfl rfl)
        clear hz1 ho1 hk1
        trace "C1"; go_wp2_with fail
        go_ret2
        refine ⟨rfl, ?_⟩
        rw [E.out]
        simp only [Pths.at, show (1 : Int).toNat = 1 from rfl]
        rw [E2.out]
        exact HZ.out
      · have E2 : Hid (known1 ⟨ib, ob, kb⟩ = ⟨ib, ob, kb⟩) := Lib.hid (by unfold known1; rw [if_neg h0])
        have h0' : decide (0 < ib) = false := by simpa using h0
        clear h0
        go_enter Try.func8, Try.ntmps8
        go_wp2_with fail
        refine PA.out.mono ?_
        rintro e w1 ⟨rfl, v1, hz1, ho1, hk1⟩
        have d0 : w1.cell? ⟨g, 3, none⟩ = some (.int .i64 ib) := hz1.bl.cell 3
        have lg1 : g < w1.heap.size := hz1.bl.lt
        have HZ := Lib.hid (show MLeft w w1 (⟨g, gi, bi, gp, bp, v⟩ : MvB) _ from ⟨v1, hz1, ho1, hk1⟩)
        clear hz1 ho1 hk1
        trace "D1"; go_wp2_with fail
        go_ret2
        refine ⟨rfl, ?_⟩
        rw [E.out]
        simp only [Pths.at, show (1 : Int).toNat = 1 from rfl]
        rw [E2.out]
        exact HZ.out
    · clear hb
      by_cases h0 : 0 < ic
      · have E2 : Hid (known1 ⟨ic, oc, kc⟩ = ⟨ic, oc, true⟩) := Lib.hid (by unfold known1; rw [if_pos h0])
        have h0' : decide (0 < ic) = true := by simpa using h0
        go_enter Try.func8, Try.ntmps8
        go_wp2_with fail
        refine PA.out.mono ?_
        rintro e w1 ⟨rfl, v1, hz1, ho1, hk1⟩
        have d0 : w1.cell? ⟨g, 6, none⟩ = some (.int .i64 ic) := hz1.bl.cell 6
        have d2 : w1.cell? ⟨g, 8, none⟩ = some (.bool kc) := hz1.bl.cell 8
        have lg1 : g < w1.heap.size := hz1.bl.lt
        have fg1 := hz1.bl.free
        simp only at fg1
        have HZ : Hid (MLeft w (w1.setCell ⟨g, 8, none⟩ (.bool true)) (⟨g, gi, bi, gp, bp, v⟩ : MvB) { (⟨⟨⟨ia, oa, ka⟩, ⟨ib, ob, kb⟩, ⟨ic, oc, kc⟩, ⟨id, od, kd⟩⟩, lim, L, N, As, ta, tb⟩ : MvS) with P := ((⟨⟨⟨ia, oa, ka⟩, ⟨ib, ob, kb⟩, ⟨ic, oc, kc⟩, ⟨id, od, kd⟩⟩, lim, L, N, As, ta, tb⟩ : MvS)).P.put ⟨ic, oc, true⟩ 2, As := ansL As 2 x y l }) := Lib.hid (MLeft.put ⟨v1, hz1, ho1, hk1⟩ 8 (.bool true) rfl rfl rfl rfl rfl)
        clear hz1 ho1 hk1
        trace "C2"; go_wp2_with fail
        go_ret2
        refine ⟨rfl, ?_⟩
        rw [E.out]
        simp only [Pths.at, show (2 : Int).toNat = 2 from rfl]
        rw [E2.out]
        exact HZ.out
      · have E2 : Hid (known1 ⟨ic, oc, kc⟩ = ⟨ic, oc, kc⟩) := Lib.hid (by unfold known1; rw [if_neg h0])
        have h0' : decide (0 < ic) = false := by simpa using h0
        clear h0
        go_enter Try.func8, Try.ntmps8
        go_wp2_with fail
        refine PA.out.mono ?_
        rintro e w1 ⟨rfl, v1, hz1, ho1, hk1⟩
        have d0 : w1.cell? ⟨g, 6, none⟩ = some (.int .i64 ic) := hz1.bl.cell 6
        have lg1 : g < w1.heap.size := hz1.bl.lt
        have HZ := Lib.hid (show MLeft w w1 (⟨g, gi, bi, gp, bp, v⟩ : MvB) _ from ⟨v1, hz1, ho1, hk1⟩)
        clear hz1 ho1 hk1
        trace "D2"; go_wp2_with fail
        go_ret2
        refine ⟨rfl, ?_⟩
        rw [E.out]
        simp only [Pths.at, show (2 : Int).toNat = 2 from rfl]
        rw [E2.out]
        exact HZ.out
    · clear hb
      by_cases h0 : 0 < id
      · have E2 : Hid (known1 ⟨id, od, kd⟩ = ⟨id, od, true⟩) := Lib.hid (by unfold known1; rw [if_pos h0])
        have h0' : decide (0 < id) = true := by simpa using h0
        go_enter Try.func8, Try.ntmps8
        go_wp2_with fail
        refine PA.out.mono ?_
        rintro e w1 ⟨rfl, v1, hz1, ho1, hk1⟩
        have d0 : w1.cell? ⟨g, 9, none⟩ = some (.int .i64 id) := hz1.bl.cell 9
        have d2 : w1.cell? ⟨g, 11, none⟩ = some (.bool kd) := hz1.bl.cell 11
        have lg1 : g < w1.heap.size := hz1.bl.lt
        have fg1 := hz1.bl.free
        simp only at fg1
        have HZ : Hid (MLeft w (w1.setCell ⟨g, 11, none⟩ (.bool true)) (⟨g, gi, bi, gp, bp, v⟩ : MvB) { (⟨⟨⟨ia, oa, ka⟩, ⟨ib, ob, kb⟩, ⟨ic, oc, kc⟩, ⟨id, od, kd⟩⟩, lim, L, N, As, ta, tb⟩ : MvS) with P := ((⟨⟨⟨ia, oa, ka⟩, ⟨ib, ob, kb⟩, ⟨ic, oc, kc⟩, ⟨id, od, kd⟩⟩, lim, L, N, As, ta, tb⟩ : MvS)).P.put ⟨id, od, true⟩ 3, As := ansL As 3 x y l }) := Lib.hid (MLeft.put ⟨v1, hz1, ho1, hk1⟩ 11 (.bool true) rfl rfl rfl rfl rfl)
        clear hz1 ho1 hk1
        trace "C3"; go_wp2_with fail
        go_ret2
        refine ⟨rfl, ?_⟩
        rw [E.out]
        simp only [Pths.at, show (3 : Int).toNat = 3 from rfl]
        rw [E2.out]
        exact HZ.out
      · have E2 : Hid (known1 ⟨id, od, kd⟩ = ⟨id, od, kd⟩) := Lib.hid (by unfold known1; rw [if_neg h0])
        have h0' : decide (0 < id) = false := by simpa using h0
        clear h0
        go_enter Try.func8, Try.ntmps8
        go_wp2_with fail
        refine PA.out.mono ?_
        rintro e w1 ⟨rfl, v1, hz1, ho1, hk1⟩
        have d0 : w1.cell? ⟨g, 9, none⟩ = some (.int .i64 id) := hz1.bl.cell 9
        have lg1 : g < w1.heap.size := hz1.bl.lt
        have HZ := Lib.hid (show MLeft w w1 (⟨g, gi, bi, gp, bp, v⟩ : MvB) _ from ⟨v1, hz1, ho1, hk1⟩)
        clear hz1 ho1 hk1
        trace "D3"; go_wp2_with fail
        go_ret2
        refine ⟨rfl, ?_⟩
        rw [E.out]
        simp only [Pths.at, show (3 : Int).toNat = 3 from rfl]
        rw [E2.out]
        exact HZ.out
end Go.Proofs.Ythnolkbolmbkdaa
