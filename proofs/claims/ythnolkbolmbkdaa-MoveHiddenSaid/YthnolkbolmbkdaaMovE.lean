/- Contracts of package move: Came, Send. Condition: the blocks hold a Mover as New and the calls leave it. Printed by gen_mov.py. -/
import Derived.Test.YthnolkbolmbkdaaMovD
namespace Go.Proofs.Ythnolkbolmbkdaa
open Go.ChangeShapes Go.WideShapes Go.ChangeAt Go.RowKit
set_option linter.unusedVariables false

theorem MLeft.later {w w1 w2 : World} {B : MvB} {s : MvS} (h : MLeft w w1 B s) (hb : Below w1.heap.size w1 w2) : MLeft w w2 B s := by
  obtain ⟨v1, hz1, ho1, hk1⟩ := h
  exact ⟨v1, hz1.later hb, ho1.later hb, hk1⟩
theorem MLeft.put3 {w w1 : World} {B : MvB} {s s' : MvS} (h : MLeft w w1 B s) (j : Nat) (p : Pth) (hc : (((mvCells s.P B.gi B.gp s.ta s.tb).setIfInBounds j (.int .i64 p.i)).setIfInBounds (j + 1) (.int .i64 p.o)).setIfInBounds (j + 2) (.bool p.k) = mvCells s'.P B.gi B.gp s'.ta s'.tb) (e1 : s'.lim = s.lim) (e2 : s'.L = s.L) (e3 : s'.N = s.N) (e4 : s'.As = s.As) :
    MLeft w (((w1.setCell ⟨B.g, j, none⟩ (.int .i64 p.i)).setCell ⟨B.g, j + 1, none⟩ (.int .i64 p.o)).setCell ⟨B.g, j + 2, none⟩ (.bool p.k)) B s' := by
  obtain ⟨v1, hz1, ho1, hk1⟩ := h
  have h1 : MLeft w w1 B s := ⟨v1, hz1, ho1, hk1⟩
  refine h1.trans (s2 := s') ho1.size (fun v' hz => ?_)
  refine Mz.own (B := { B with v := v' }) hz (hc ▸ ((hz.bl.put j (.int .i64 p.i)).put (j + 1) (.int .i64 p.o)).put (j + 2) (.bool p.k)) ?_ e1 e2 e3 e4
  exact ((((Out.refl w1 _).put (p := ⟨B.g, j, none⟩) (Or.inl (by simp)) _).put (p := ⟨B.g, j + 1, none⟩) (Or.inl (by simp)) _).put (p := ⟨B.g, j + 2, none⟩) (Or.inl (by simp)) _)

def cameP (p : Pth) (n : Int) : Pth := ⟨cameI p.i p.o p.k n, cameO p.i p.o p.k n, cameK p.i p.o p.k n⟩
def mCameE (s : MvS) (i n : Int) : Int := if pathB i = true then cameE (s.P.at i.toNat).i (s.P.at i.toNat).o (s.P.at i.toNat).k n else 1
def mCame (s : MvS) (i n : Int) : MvS := if mCameE s i n = 0 then { s with P := s.P.put (cameP (s.P.at i.toNat) n) i.toNat } else s
theorem mCame_bad {s : MvS} {i n : Int} (h : mCameE s i n ≠ 0) : mCame s i n = s := by unfold mCame; rw [if_neg h]
theorem mCame_ok {s : MvS} {i n : Int} (h : mCameE s i n = 0) : mCame s i n = { s with P := s.P.put (cameP (s.P.at i.toNat) n) i.toNat } := by unfold mCame; rw [if_pos h]
theorem cameF (i o : Int) (k : Bool) (n : Int) (h : Nat) (w : World) (hc : w.cell? ⟨h, 0, none⟩ = some (.int .i64 n)) :
    Calls Try.prog 17 #[pathV i o k, .pointer (some ⟨h, 0, none⟩)] w fun e w' => e = .returned (.tuple #[pathV (cameI i o k n) (cameO i o k n) (cameK i o k n), errV (cameE i o k n)]) ∧ Below w.heap.size w w' := by
  have hl := World.block_lt_of_cell? w _ hc
  simp only at hl
  have CA := Lib.hid (fun W => came_any i o k n W)
  generalize cameI i o k n = i' at *
  generalize cameO i o k n = o' at *
  generalize cameK i o k n = k' at *
  generalize cameE i o k n = e' at *
  go_enter Try.func17, Try.ntmps17
  trace "A"; go_wp2_with fail
  refine (CA.out _).mono ?_
  rintro e w1 ⟨rfl, hb1⟩
  have hB3 : BlockIs w1 (w.heap.size + 1) 38 #[.int .i64 0, .int .i64 0, .bool false] := BlockIs.later (BlockIs.fresh_at (by simp)) hb1
  have k0 : w1.cell? ⟨w.heap.size + 1, 0, none⟩ = some (.int .i64 0) := hB3.cell 0
  have k1 : w1.cell? ⟨w.heap.size + 1, 1, none⟩ = some (.int .i64 0) := hB3.cell 1
  have k2 : w1.cell? ⟨w.heap.size + 1, 2, none⟩ = some (.bool false) := hB3.cell 2
  have kf := hB3.free
  have kl := hB3.lt
  have hs1 : Since w w1 := (by refine Since.out ?_; repeat (first | with_reducible assumption | with_reducible exact Since.refl _ | with_reducible refine Since.later ?_ (by with_reducible assumption) | with_reducible refine Since.only ?_ (by with_reducible assumption) (by first | assumption | omega | (simp; done) | (simp; omega)) | with_reducible refine Since.alloc ?_ _ | with_reducible refine Since.drewN ?_ _ | with_reducible refine Since.drew ?_ | with_reducible refine Since.set ?_ (by first | assumption | omega | (simp; done) | (simp; omega)) _))
  trace "B"; go_wp2_with fail
  have HB3 := Lib.hid (((hB3.put 0 (.int .i64 i')).put 1 (.int .i64 o')).put 2 (.bool k'))
  have hs3 : Since w (((w1.setCell ⟨w.heap.size + 1, 0, none⟩ (.int .i64 i')).setCell ⟨w.heap.size + 1, 1, none⟩ (.int .i64 o')).setCell ⟨w.heap.size + 1, 2, none⟩ (.bool k')) := ((hs1.set (by simp) _).set (by simp) _).set (by simp) _
  generalize (((w1.setCell ⟨w.heap.size + 1, 0, none⟩ (.int .i64 i')).setCell ⟨w.heap.size + 1, 1, none⟩ (.int .i64 o')).setCell ⟨w.heap.size + 1, 2, none⟩ (.bool k')) = w3 at *
  have kc0 : w3.cell? ⟨w.heap.size + 1, 0, none⟩ = some (.int .i64 i') := HB3.out.cell 0
  have kc1 : w3.cell? ⟨w.heap.size + 1, 1, none⟩ = some (.int .i64 o') := HB3.out.cell 1
  have kc2 : w3.cell? ⟨w.heap.size + 1, 2, none⟩ = some (.bool k') := HB3.out.cell 2
  refine bodyPost_ret (v := .tuple #[pathV i' o' k', errV e']) (by simp [results, Try.results17, go_sem, kc0, kc1, kc2]) rfl ⟨rfl, hs3⟩
set_option maxHeartbeats 3200000 in
theorem mchangeCame (B : MvB) (s : MvS) (i n : Int) (hh : Nat) (w : World) (h : Mz w B s) (hc : w.cell? ⟨hh, 0, none⟩ = some (.int .i64 n)) :
    Calls Try.prog 16 #[.pointer (some ⟨B.g, 0, none⟩), .int .i64 i, .func (Fn.func 17) #[] #[.pointer (some ⟨hh, 0, none⟩)]] w fun e w' => e = .returned (errV (mCameE s i n)) ∧ MLeft w w' B (mCame s i n) := by
  have HC := Lib.hid hc
  clear hc
  obtain ⟨g, gi, bi, gp, bp, v⟩ := B
  have H := Lib.hid h
  obtain ⟨⟨⟨ia, oa, ka⟩, ⟨ib, ob, kb⟩, ⟨ic, oc, kc⟩, ⟨id, od, kd⟩⟩, lim, L, N, As, ta, tb⟩ := s
  have HB : Hid (BlockIs w g 49 #[.int .i64 ia, .int .i64 oa, .bool ka, .int .i64 ib, .int .i64 ob, .bool kb, .int .i64 ic, .int .i64 oc, .bool kc, .int .i64 id, .int .i64 od, .bool kd, .pointer (some ⟨gi, 0, none⟩), .pointer (some ⟨gp, 0, none⟩), .int .i64 ta, .int .i64 tb]) := Lib.hid h.bl
  have lg : g < w.heap.size := HB.out.lt
  simp only
  clear h
  cases hb : pathB i with
  | false =>
    have PA := Lib.hid (fun W => path_any i W)
    have E : Hid (mCameE (⟨⟨⟨ia, oa, ka⟩, ⟨ib, ob, kb⟩, ⟨ic, oc, kc⟩, ⟨id, od, kd⟩⟩, lim, L, N, As, ta, tb⟩ : MvS) i n = 1) := Lib.hid (by unfold mCameE; rw [if_neg (by rw [hb]; decide)])
    rw [hb] at PA
    clear hb
    go_enter Try.func16, Try.ntmps16
    go_wp2_with fail
    refine (PA.out _).mono ?_
    rintro e w1 ⟨rfl, rfl⟩
    trace "C"; go_wp2_with fail
    go_ret
    exact ⟨by rw [E.out]; rfl, by rw [mCame_bad (by rw [E.out]; decide)]; exact H.out.same (by refine Since.out ?_; repeat (first | with_reducible assumption | with_reducible exact Since.refl _ | with_reducible refine Since.later ?_ (by with_reducible assumption) | with_reducible refine Since.only ?_ (by with_reducible assumption) (by first | assumption | omega | (simp; done) | (simp; omega)) | with_reducible refine Since.alloc ?_ _ | with_reducible refine Since.drewN ?_ _ | with_reducible refine Since.drew ?_ | with_reducible refine Since.set ?_ (by first | assumption | omega | (simp; done) | (simp; omega)) _))⟩
  | true =>
    rcases path4 hb with rfl | rfl | rfl | rfl
    · have PA := Lib.hid (fun W => path_any 0 W)
      have CF := Lib.hid (fun W hW => cameF ia oa ka n hh W hW)
      have E : Hid (mCameE (⟨⟨⟨ia, oa, ka⟩, ⟨ib, ob, kb⟩, ⟨ic, oc, kc⟩, ⟨id, od, kd⟩⟩, lim, L, N, As, ta, tb⟩ : MvS) 0 n = cameE ia oa ka n) := Lib.hid rfl
      have EO := Lib.hid (fun h => mCame_ok (s := (⟨⟨⟨ia, oa, ka⟩, ⟨ib, ob, kb⟩, ⟨ic, oc, kc⟩, ⟨id, od, kd⟩⟩, lim, L, N, As, ta, tb⟩ : MvS)) (i := 0) (n := n) h)
      have EB := Lib.hid (fun h => mCame_bad (s := (⟨⟨⟨ia, oa, ka⟩, ⟨ib, ob, kb⟩, ⟨ic, oc, kc⟩, ⟨id, od, kd⟩⟩, lim, L, N, As, ta, tb⟩ : MvS)) (i := 0) (n := n) h)
      simp only [cameP, Pths.at, Pths.put, Int.toNat_zero] at EO
      rw [E.out] at EO EB
      rw [E.out]
      have d0 : w.cell? ⟨g, 0, none⟩ = some (.int .i64 ia) := HB.out.cell 0
      have d1 : w.cell? ⟨g, 1, none⟩ = some (.int .i64 oa) := HB.out.cell 1
      have d2 : w.cell? ⟨g, 2, none⟩ = some (.bool ka) := HB.out.cell 2
      simp only [show pathB 0 = true from rfl] at PA
      generalize cameI ia oa ka n = i' at *
      generalize cameO ia oa ka n = o' at *
      generalize cameK ia oa ka n = k' at *
      generalize cameE ia oa ka n = e' at *
      clear hb E
      go_enter Try.func16, Try.ntmps16
      go_wp2_with fail
      refine (PA.out _).mono ?_
      rintro e w1 ⟨rfl, rfl⟩
      trace "D0"; go_wp2_with fail
      refine (CF.out _ HC.out).mono ?_
      rintro e w2 ⟨rfl, hb2⟩
      by_cases h0 : e' = 0
      case neg =>
        rw [errV_pos h0]
        have EE := Lib.hid (EB.out h0)
        have HE := Lib.hid (errV_pos h0)
        clear h0
        trace "E0"; go_wp2_with fail
        go_ret
        exact ⟨by rw [HE.out]; rfl, by rw [EE.out]; exact H.out.same (by refine Since.out ?_; repeat (first | with_reducible assumption | with_reducible exact Since.refl _ | with_reducible refine Since.later ?_ (by with_reducible assumption) | with_reducible refine Since.only ?_ (by with_reducible assumption) (by first | assumption | omega | (simp; done) | (simp; omega)) | with_reducible refine Since.alloc ?_ _ | with_reducible refine Since.drewN ?_ _ | with_reducible refine Since.drew ?_ | with_reducible refine Since.set ?_ (by first | assumption | omega | (simp; done) | (simp; omega)) _))⟩
      have EE := Lib.hid (EO.out h0)
      subst h0
      rw [errV_zero]
      have HS2 := Lib.hid (show Since w w2 from hb2)
      have lg2 : g < w2.heap.size := Nat.lt_of_lt_of_le lg (Since.le (w := w) hb2)
      have fg2 := (HB.out.later hb2).free
      have m0 : w2.cell? ⟨g, 0, none⟩ = some (.int .i64 ia) := (HB.out.later hb2).cell 0
      have m1 : w2.cell? ⟨g, 1, none⟩ = some (.int .i64 oa) := (HB.out.later hb2).cell 1
      have m2 : w2.cell? ⟨g, 2, none⟩ = some (.bool ka) := (HB.out.later hb2).cell 2
      clear d0 d1 d2 EO EB hb2
      trace "F0"; go_wp2_with fail
      go_region
      trace "G0"; go_wp2_with fail
      go_ret
      refine ⟨rfl, ?_⟩
      rw [EE.out]
      exact MLeft.later (MLeft.put3 (H.out.same HS2.out) 0 ⟨i', o', k'⟩ rfl rfl rfl rfl rfl) ((Since.refl _).alloc _).drew
    · have PA := Lib.hid (fun W => path_any 1 W)
      have CF := Lib.hid (fun W hW => cameF ib ob kb n hh W hW)
      have E : Hid (mCameE (⟨⟨⟨ia, oa, ka⟩, ⟨ib, ob, kb⟩, ⟨ic, oc, kc⟩, ⟨id, od, kd⟩⟩, lim, L, N, As, ta, tb⟩ : MvS) 1 n = cameE ib ob kb n) := Lib.hid rfl
      have EO := Lib.hid (fun h => mCame_ok (s := (⟨⟨⟨ia, oa, ka⟩, ⟨ib, ob, kb⟩, ⟨ic, oc, kc⟩, ⟨id, od, kd⟩⟩, lim, L, N, As, ta, tb⟩ : MvS)) (i := 1) (n := n) h)
      have EB := Lib.hid (fun h => mCame_bad (s := (⟨⟨⟨ia, oa, ka⟩, ⟨ib, ob, kb⟩, ⟨ic, oc, kc⟩, ⟨id, od, kd⟩⟩, lim, L, N, As, ta, tb⟩ : MvS)) (i := 1) (n := n) h)
      simp only [cameP, Pths.at, Pths.put, show (1 : Int).toNat = 1 from rfl] at EO
      rw [E.out] at EO EB
      rw [E.out]
      have d0 : w.cell? ⟨g, 3, none⟩ = some (.int .i64 ib) := HB.out.cell 3
      have d1 : w.cell? ⟨g, 4, none⟩ = some (.int .i64 ob) := HB.out.cell 4
      have d2 : w.cell? ⟨g, 5, none⟩ = some (.bool kb) := HB.out.cell 5
      simp only [show pathB 1 = true from rfl] at PA
      generalize cameI ib ob kb n = i' at *
      generalize cameO ib ob kb n = o' at *
      generalize cameK ib ob kb n = k' at *
      generalize cameE ib ob kb n = e' at *
      clear hb E
      go_enter Try.func16, Try.ntmps16
      go_wp2_with fail
      refine (PA.out _).mono ?_
      rintro e w1 ⟨rfl, rfl⟩
      trace "D1"; go_wp2_with fail
      refine (CF.out _ HC.out).mono ?_
      rintro e w2 ⟨rfl, hb2⟩
      by_cases h0 : e' = 0
      case neg =>
        rw [errV_pos h0]
        have EE := Lib.hid (EB.out h0)
        have HE := Lib.hid (errV_pos h0)
        clear h0
        trace "E1"; go_wp2_with fail
        go_ret
        exact ⟨by rw [HE.out]; rfl, by rw [EE.out]; exact H.out.same (by refine Since.out ?_; repeat (first | with_reducible assumption | with_reducible exact Since.refl _ | with_reducible refine Since.later ?_ (by with_reducible assumption) | with_reducible refine Since.only ?_ (by with_reducible assumption) (by first | assumption | omega | (simp; done) | (simp; omega)) | with_reducible refine Since.alloc ?_ _ | with_reducible refine Since.drewN ?_ _ | with_reducible refine Since.drew ?_ | with_reducible refine Since.set ?_ (by first | assumption | omega | (simp; done) | (simp; omega)) _))⟩
      have EE := Lib.hid (EO.out h0)
      subst h0
      rw [errV_zero]
      have HS2 := Lib.hid (show Since w w2 from hb2)
      have lg2 : g < w2.heap.size := Nat.lt_of_lt_of_le lg (Since.le (w := w) hb2)
      have fg2 := (HB.out.later hb2).free
      have m0 : w2.cell? ⟨g, 3, none⟩ = some (.int .i64 ib) := (HB.out.later hb2).cell 3
      have m1 : w2.cell? ⟨g, 4, none⟩ = some (.int .i64 ob) := (HB.out.later hb2).cell 4
      have m2 : w2.cell? ⟨g, 5, none⟩ = some (.bool kb) := (HB.out.later hb2).cell 5
      clear d0 d1 d2 EO EB hb2
      trace "F1"; go_wp2_with fail
      go_region
      trace "G1"; go_wp2_with fail
      go_ret
      refine ⟨rfl, ?_⟩
      rw [EE.out]
      exact MLeft.later (MLeft.put3 (H.out.same HS2.out) 3 ⟨i', o', k'⟩ rfl rfl rfl rfl rfl) ((Since.refl _).alloc _).drew
    · have PA := Lib.hid (fun W => path_any 2 W)
      have CF := Lib.hid (fun W hW => cameF ic oc kc n hh W hW)
      have E : Hid (mCameE (⟨⟨⟨ia, oa, ka⟩, ⟨ib, ob, kb⟩, ⟨ic, oc, kc⟩, ⟨id, od, kd⟩⟩, lim, L, N, As, ta, tb⟩ : MvS) 2 n = cameE ic oc kc n) := Lib.hid rfl
      have EO := Lib.hid (fun h => mCame_ok (s := (⟨⟨⟨ia, oa, ka⟩, ⟨ib, ob, kb⟩, ⟨ic, oc, kc⟩, ⟨id, od, kd⟩⟩, lim, L, N, As, ta, tb⟩ : MvS)) (i := 2) (n := n) h)
      have EB := Lib.hid (fun h => mCame_bad (s := (⟨⟨⟨ia, oa, ka⟩, ⟨ib, ob, kb⟩, ⟨ic, oc, kc⟩, ⟨id, od, kd⟩⟩, lim, L, N, As, ta, tb⟩ : MvS)) (i := 2) (n := n) h)
      simp only [cameP, Pths.at, Pths.put, show (2 : Int).toNat = 2 from rfl] at EO
      rw [E.out] at EO EB
      rw [E.out]
      have d0 : w.cell? ⟨g, 6, none⟩ = some (.int .i64 ic) := HB.out.cell 6
      have d1 : w.cell? ⟨g, 7, none⟩ = some (.int .i64 oc) := HB.out.cell 7
      have d2 : w.cell? ⟨g, 8, none⟩ = some (.bool kc) := HB.out.cell 8
      simp only [show pathB 2 = true from rfl] at PA
      generalize cameI ic oc kc n = i' at *
      generalize cameO ic oc kc n = o' at *
      generalize cameK ic oc kc n = k' at *
      generalize cameE ic oc kc n = e' at *
      clear hb E
      go_enter Try.func16, Try.ntmps16
      go_wp2_with fail
      refine (PA.out _).mono ?_
      rintro e w1 ⟨rfl, rfl⟩
      trace "D2"; go_wp2_with fail
      refine (CF.out _ HC.out).mono ?_
      rintro e w2 ⟨rfl, hb2⟩
      by_cases h0 : e' = 0
      case neg =>
        rw [errV_pos h0]
        have EE := Lib.hid (EB.out h0)
        have HE := Lib.hid (errV_pos h0)
        clear h0
        trace "E2"; go_wp2_with fail
        go_ret
        exact ⟨by rw [HE.out]; rfl, by rw [EE.out]; exact H.out.same (by refine Since.out ?_; repeat (first | with_reducible assumption | with_reducible exact Since.refl _ | with_reducible refine Since.later ?_ (by with_reducible assumption) | with_reducible refine Since.only ?_ (by with_reducible assumption) (by first | assumption | omega | (simp; done) | (simp; omega)) | with_reducible refine Since.alloc ?_ _ | with_reducible refine Since.drewN ?_ _ | with_reducible refine Since.drew ?_ | with_reducible refine Since.set ?_ (by first | assumption | omega | (simp; done) | (simp; omega)) _))⟩
      have EE := Lib.hid (EO.out h0)
      subst h0
      rw [errV_zero]
      have HS2 := Lib.hid (show Since w w2 from hb2)
      have lg2 : g < w2.heap.size := Nat.lt_of_lt_of_le lg (Since.le (w := w) hb2)
      have fg2 := (HB.out.later hb2).free
      have m0 : w2.cell? ⟨g, 6, none⟩ = some (.int .i64 ic) := (HB.out.later hb2).cell 6
      have m1 : w2.cell? ⟨g, 7, none⟩ = some (.int .i64 oc) := (HB.out.later hb2).cell 7
      have m2 : w2.cell? ⟨g, 8, none⟩ = some (.bool kc) := (HB.out.later hb2).cell 8
      clear d0 d1 d2 EO EB hb2
      trace "F2"; go_wp2_with fail
      go_region
      trace "G2"; go_wp2_with fail
      go_ret
      refine ⟨rfl, ?_⟩
      rw [EE.out]
      exact MLeft.later (MLeft.put3 (H.out.same HS2.out) 6 ⟨i', o', k'⟩ rfl rfl rfl rfl rfl) ((Since.refl _).alloc _).drew
    · have PA := Lib.hid (fun W => path_any 3 W)
      have CF := Lib.hid (fun W hW => cameF id od kd n hh W hW)
      have E : Hid (mCameE (⟨⟨⟨ia, oa, ka⟩, ⟨ib, ob, kb⟩, ⟨ic, oc, kc⟩, ⟨id, od, kd⟩⟩, lim, L, N, As, ta, tb⟩ : MvS) 3 n = cameE id od kd n) := Lib.hid rfl
      have EO := Lib.hid (fun h => mCame_ok (s := (⟨⟨⟨ia, oa, ka⟩, ⟨ib, ob, kb⟩, ⟨ic, oc, kc⟩, ⟨id, od, kd⟩⟩, lim, L, N, As, ta, tb⟩ : MvS)) (i := 3) (n := n) h)
      have EB := Lib.hid (fun h => mCame_bad (s := (⟨⟨⟨ia, oa, ka⟩, ⟨ib, ob, kb⟩, ⟨ic, oc, kc⟩, ⟨id, od, kd⟩⟩, lim, L, N, As, ta, tb⟩ : MvS)) (i := 3) (n := n) h)
      simp only [cameP, Pths.at, Pths.put, show (3 : Int).toNat = 3 from rfl] at EO
      rw [E.out] at EO EB
      rw [E.out]
      have d0 : w.cell? ⟨g, 9, none⟩ = some (.int .i64 id) := HB.out.cell 9
      have d1 : w.cell? ⟨g, 10, none⟩ = some (.int .i64 od) := HB.out.cell 10
      have d2 : w.cell? ⟨g, 11, none⟩ = some (.bool kd) := HB.out.cell 11
      simp only [show pathB 3 = true from rfl] at PA
      generalize cameI id od kd n = i' at *
      generalize cameO id od kd n = o' at *
      generalize cameK id od kd n = k' at *
      generalize cameE id od kd n = e' at *
      clear hb E
      go_enter Try.func16, Try.ntmps16
      go_wp2_with fail
      refine (PA.out _).mono ?_
      rintro e w1 ⟨rfl, rfl⟩
      trace "D3"; go_wp2_with fail
      refine (CF.out _ HC.out).mono ?_
      rintro e w2 ⟨rfl, hb2⟩
      by_cases h0 : e' = 0
      case neg =>
        rw [errV_pos h0]
        have EE := Lib.hid (EB.out h0)
        have HE := Lib.hid (errV_pos h0)
        clear h0
        trace "E3"; go_wp2_with fail
        go_ret
        exact ⟨by rw [HE.out]; rfl, by rw [EE.out]; exact H.out.same (by refine Since.out ?_; repeat (first | with_reducible assumption | with_reducible exact Since.refl _ | with_reducible refine Since.later ?_ (by with_reducible assumption) | with_reducible refine Since.only ?_ (by with_reducible assumption) (by first | assumption | omega | (simp; done) | (simp; omega)) | with_reducible refine Since.alloc ?_ _ | with_reducible refine Since.drewN ?_ _ | with_reducible refine Since.drew ?_ | with_reducible refine Since.set ?_ (by first | assumption | omega | (simp; done) | (simp; omega)) _))⟩
      have EE := Lib.hid (EO.out h0)
      subst h0
      rw [errV_zero]
      have HS2 := Lib.hid (show Since w w2 from hb2)
      have lg2 : g < w2.heap.size := Nat.lt_of_lt_of_le lg (Since.le (w := w) hb2)
      have fg2 := (HB.out.later hb2).free
      have m0 : w2.cell? ⟨g, 9, none⟩ = some (.int .i64 id) := (HB.out.later hb2).cell 9
      have m1 : w2.cell? ⟨g, 10, none⟩ = some (.int .i64 od) := (HB.out.later hb2).cell 10
      have m2 : w2.cell? ⟨g, 11, none⟩ = some (.bool kd) := (HB.out.later hb2).cell 11
      clear d0 d1 d2 EO EB hb2
      trace "F3"; go_wp2_with fail
      go_region
      trace "G3"; go_wp2_with fail
      go_ret
      refine ⟨rfl, ?_⟩
      rw [EE.out]
      exact MLeft.later (MLeft.put3 (H.out.same HS2.out) 9 ⟨i', o', k'⟩ rfl rfl rfl rfl rfl) ((Since.refl _).alloc _).drew

def sendP (p : Pth) (n : Int) : Pth := ⟨sendI p.i p.o p.k n, sendO p.i p.o p.k n, sendK p.i p.o p.k n⟩
def mSendE (s : MvS) (i n : Int) : Int := if pathB i = true then sendE (s.P.at i.toNat).i (s.P.at i.toNat).o (s.P.at i.toNat).k n else 1
def mSend (s : MvS) (i n : Int) : MvS := if mSendE s i n = 0 then { s with P := s.P.put (sendP (s.P.at i.toNat) n) i.toNat } else s
theorem mSend_bad {s : MvS} {i n : Int} (h : mSendE s i n ≠ 0) : mSend s i n = s := by unfold mSend; rw [if_neg h]
theorem mSend_ok {s : MvS} {i n : Int} (h : mSendE s i n = 0) : mSend s i n = { s with P := s.P.put (sendP (s.P.at i.toNat) n) i.toNat } := by unfold mSend; rw [if_pos h]
theorem sendF (i o : Int) (k : Bool) (n : Int) (h : Nat) (w : World) (hc : w.cell? ⟨h, 0, none⟩ = some (.int .i64 n)) :
    Calls Try.prog 27 #[pathV i o k, .pointer (some ⟨h, 0, none⟩)] w fun e w' => e = .returned (.tuple #[pathV (sendI i o k n) (sendO i o k n) (sendK i o k n), errV (sendE i o k n)]) ∧ Below w.heap.size w w' := by
  have hl := World.block_lt_of_cell? w _ hc
  simp only at hl
  have CA := Lib.hid (fun W => send_any i o k n W)
  generalize sendI i o k n = i' at *
  generalize sendO i o k n = o' at *
  generalize sendK i o k n = k' at *
  generalize sendE i o k n = e' at *
  go_enter Try.func27, Try.ntmps27
  trace "A"; go_wp2_with fail
  refine (CA.out _).mono ?_
  rintro e w1 ⟨rfl, hb1⟩
  have hB3 : BlockIs w1 (w.heap.size + 1) 38 #[.int .i64 0, .int .i64 0, .bool false] := BlockIs.later (BlockIs.fresh_at (by simp)) hb1
  have k0 : w1.cell? ⟨w.heap.size + 1, 0, none⟩ = some (.int .i64 0) := hB3.cell 0
  have k1 : w1.cell? ⟨w.heap.size + 1, 1, none⟩ = some (.int .i64 0) := hB3.cell 1
  have k2 : w1.cell? ⟨w.heap.size + 1, 2, none⟩ = some (.bool false) := hB3.cell 2
  have kf := hB3.free
  have kl := hB3.lt
  have hs1 : Since w w1 := (by refine Since.out ?_; repeat (first | with_reducible assumption | with_reducible exact Since.refl _ | with_reducible refine Since.later ?_ (by with_reducible assumption) | with_reducible refine Since.only ?_ (by with_reducible assumption) (by first | assumption | omega | (simp; done) | (simp; omega)) | with_reducible refine Since.alloc ?_ _ | with_reducible refine Since.drewN ?_ _ | with_reducible refine Since.drew ?_ | with_reducible refine Since.set ?_ (by first | assumption | omega | (simp; done) | (simp; omega)) _))
  trace "B"; go_wp2_with fail
  have HB3 := Lib.hid (((hB3.put 0 (.int .i64 i')).put 1 (.int .i64 o')).put 2 (.bool k'))
  have hs3 : Since w (((w1.setCell ⟨w.heap.size + 1, 0, none⟩ (.int .i64 i')).setCell ⟨w.heap.size + 1, 1, none⟩ (.int .i64 o')).setCell ⟨w.heap.size + 1, 2, none⟩ (.bool k')) := ((hs1.set (by simp) _).set (by simp) _).set (by simp) _
  generalize (((w1.setCell ⟨w.heap.size + 1, 0, none⟩ (.int .i64 i')).setCell ⟨w.heap.size + 1, 1, none⟩ (.int .i64 o')).setCell ⟨w.heap.size + 1, 2, none⟩ (.bool k')) = w3 at *
  have kc0 : w3.cell? ⟨w.heap.size + 1, 0, none⟩ = some (.int .i64 i') := HB3.out.cell 0
  have kc1 : w3.cell? ⟨w.heap.size + 1, 1, none⟩ = some (.int .i64 o') := HB3.out.cell 1
  have kc2 : w3.cell? ⟨w.heap.size + 1, 2, none⟩ = some (.bool k') := HB3.out.cell 2
  refine bodyPost_ret (v := .tuple #[pathV i' o' k', errV e']) (by simp [results, Try.results27, go_sem, kc0, kc1, kc2]) rfl ⟨rfl, hs3⟩
set_option maxHeartbeats 3200000 in
theorem mchangeSend (B : MvB) (s : MvS) (i n : Int) (hh : Nat) (w : World) (h : Mz w B s) (hc : w.cell? ⟨hh, 0, none⟩ = some (.int .i64 n)) :
    Calls Try.prog 16 #[.pointer (some ⟨B.g, 0, none⟩), .int .i64 i, .func (Fn.func 27) #[] #[.pointer (some ⟨hh, 0, none⟩)]] w fun e w' => e = .returned (errV (mSendE s i n)) ∧ MLeft w w' B (mSend s i n) := by
  have HC := Lib.hid hc
  clear hc
  obtain ⟨g, gi, bi, gp, bp, v⟩ := B
  have H := Lib.hid h
  obtain ⟨⟨⟨ia, oa, ka⟩, ⟨ib, ob, kb⟩, ⟨ic, oc, kc⟩, ⟨id, od, kd⟩⟩, lim, L, N, As, ta, tb⟩ := s
  have HB : Hid (BlockIs w g 49 #[.int .i64 ia, .int .i64 oa, .bool ka, .int .i64 ib, .int .i64 ob, .bool kb, .int .i64 ic, .int .i64 oc, .bool kc, .int .i64 id, .int .i64 od, .bool kd, .pointer (some ⟨gi, 0, none⟩), .pointer (some ⟨gp, 0, none⟩), .int .i64 ta, .int .i64 tb]) := Lib.hid h.bl
  have lg : g < w.heap.size := HB.out.lt
  simp only
  clear h
  cases hb : pathB i with
  | false =>
    have PA := Lib.hid (fun W => path_any i W)
    have E : Hid (mSendE (⟨⟨⟨ia, oa, ka⟩, ⟨ib, ob, kb⟩, ⟨ic, oc, kc⟩, ⟨id, od, kd⟩⟩, lim, L, N, As, ta, tb⟩ : MvS) i n = 1) := Lib.hid (by unfold mSendE; rw [if_neg (by rw [hb]; decide)])
    rw [hb] at PA
    clear hb
    go_enter Try.func16, Try.ntmps16
    go_wp2_with fail
    refine (PA.out _).mono ?_
    rintro e w1 ⟨rfl, rfl⟩
    trace "C"; go_wp2_with fail
    go_ret
    exact ⟨by rw [E.out]; rfl, by rw [mSend_bad (by rw [E.out]; decide)]; exact H.out.same (by refine Since.out ?_; repeat (first | with_reducible assumption | with_reducible exact Since.refl _ | with_reducible refine Since.later ?_ (by with_reducible assumption) | with_reducible refine Since.only ?_ (by with_reducible assumption) (by first | assumption | omega | (simp; done) | (simp; omega)) | with_reducible refine Since.alloc ?_ _ | with_reducible refine Since.drewN ?_ _ | with_reducible refine Since.drew ?_ | with_reducible refine Since.set ?_ (by first | assumption | omega | (simp; done) | (simp; omega)) _))⟩
  | true =>
    rcases path4 hb with rfl | rfl | rfl | rfl
    · have PA := Lib.hid (fun W => path_any 0 W)
      have CF := Lib.hid (fun W hW => sendF ia oa ka n hh W hW)
      have E : Hid (mSendE (⟨⟨⟨ia, oa, ka⟩, ⟨ib, ob, kb⟩, ⟨ic, oc, kc⟩, ⟨id, od, kd⟩⟩, lim, L, N, As, ta, tb⟩ : MvS) 0 n = sendE ia oa ka n) := Lib.hid rfl
      have EO := Lib.hid (fun h => mSend_ok (s := (⟨⟨⟨ia, oa, ka⟩, ⟨ib, ob, kb⟩, ⟨ic, oc, kc⟩, ⟨id, od, kd⟩⟩, lim, L, N, As, ta, tb⟩ : MvS)) (i := 0) (n := n) h)
      have EB := Lib.hid (fun h => mSend_bad (s := (⟨⟨⟨ia, oa, ka⟩, ⟨ib, ob, kb⟩, ⟨ic, oc, kc⟩, ⟨id, od, kd⟩⟩, lim, L, N, As, ta, tb⟩ : MvS)) (i := 0) (n := n) h)
      simp only [sendP, Pths.at, Pths.put, Int.toNat_zero] at EO
      rw [E.out] at EO EB
      rw [E.out]
      have d0 : w.cell? ⟨g, 0, none⟩ = some (.int .i64 ia) := HB.out.cell 0
      have d1 : w.cell? ⟨g, 1, none⟩ = some (.int .i64 oa) := HB.out.cell 1
      have d2 : w.cell? ⟨g, 2, none⟩ = some (.bool ka) := HB.out.cell 2
      simp only [show pathB 0 = true from rfl] at PA
      generalize sendI ia oa ka n = i' at *
      generalize sendO ia oa ka n = o' at *
      generalize sendK ia oa ka n = k' at *
      generalize sendE ia oa ka n = e' at *
      clear hb E
      go_enter Try.func16, Try.ntmps16
      go_wp2_with fail
      refine (PA.out _).mono ?_
      rintro e w1 ⟨rfl, rfl⟩
      trace "D0"; go_wp2_with fail
      refine (CF.out _ HC.out).mono ?_
      rintro e w2 ⟨rfl, hb2⟩
      by_cases h0 : e' = 0
      case neg =>
        rw [errV_pos h0]
        have EE := Lib.hid (EB.out h0)
        have HE := Lib.hid (errV_pos h0)
        clear h0
        trace "E0"; go_wp2_with fail
        go_ret
        exact ⟨by rw [HE.out]; rfl, by rw [EE.out]; exact H.out.same (by refine Since.out ?_; repeat (first | with_reducible assumption | with_reducible exact Since.refl _ | with_reducible refine Since.later ?_ (by with_reducible assumption) | with_reducible refine Since.only ?_ (by with_reducible assumption) (by first | assumption | omega | (simp; done) | (simp; omega)) | with_reducible refine Since.alloc ?_ _ | with_reducible refine Since.drewN ?_ _ | with_reducible refine Since.drew ?_ | with_reducible refine Since.set ?_ (by first | assumption | omega | (simp; done) | (simp; omega)) _))⟩
      have EE := Lib.hid (EO.out h0)
      subst h0
      rw [errV_zero]
      have HS2 := Lib.hid (show Since w w2 from hb2)
      have lg2 : g < w2.heap.size := Nat.lt_of_lt_of_le lg (Since.le (w := w) hb2)
      have fg2 := (HB.out.later hb2).free
      have m0 : w2.cell? ⟨g, 0, none⟩ = some (.int .i64 ia) := (HB.out.later hb2).cell 0
      have m1 : w2.cell? ⟨g, 1, none⟩ = some (.int .i64 oa) := (HB.out.later hb2).cell 1
      have m2 : w2.cell? ⟨g, 2, none⟩ = some (.bool ka) := (HB.out.later hb2).cell 2
      clear d0 d1 d2 EO EB hb2
      trace "F0"; go_wp2_with fail
      go_region
      trace "G0"; go_wp2_with fail
      go_ret
      refine ⟨rfl, ?_⟩
      rw [EE.out]
      exact MLeft.later (MLeft.put3 (H.out.same HS2.out) 0 ⟨i', o', k'⟩ rfl rfl rfl rfl rfl) ((Since.refl _).alloc _).drew
    · have PA := Lib.hid (fun W => path_any 1 W)
      have CF := Lib.hid (fun W hW => sendF ib ob kb n hh W hW)
      have E : Hid (mSendE (⟨⟨⟨ia, oa, ka⟩, ⟨ib, ob, kb⟩, ⟨ic, oc, kc⟩, ⟨id, od, kd⟩⟩, lim, L, N, As, ta, tb⟩ : MvS) 1 n = sendE ib ob kb n) := Lib.hid rfl
      have EO := Lib.hid (fun h => mSend_ok (s := (⟨⟨⟨ia, oa, ka⟩, ⟨ib, ob, kb⟩, ⟨ic, oc, kc⟩, ⟨id, od, kd⟩⟩, lim, L, N, As, ta, tb⟩ : MvS)) (i := 1) (n := n) h)
      have EB := Lib.hid (fun h => mSend_bad (s := (⟨⟨⟨ia, oa, ka⟩, ⟨ib, ob, kb⟩, ⟨ic, oc, kc⟩, ⟨id, od, kd⟩⟩, lim, L, N, As, ta, tb⟩ : MvS)) (i := 1) (n := n) h)
      simp only [sendP, Pths.at, Pths.put, show (1 : Int).toNat = 1 from rfl] at EO
      rw [E.out] at EO EB
      rw [E.out]
      have d0 : w.cell? ⟨g, 3, none⟩ = some (.int .i64 ib) := HB.out.cell 3
      have d1 : w.cell? ⟨g, 4, none⟩ = some (.int .i64 ob) := HB.out.cell 4
      have d2 : w.cell? ⟨g, 5, none⟩ = some (.bool kb) := HB.out.cell 5
      simp only [show pathB 1 = true from rfl] at PA
      generalize sendI ib ob kb n = i' at *
      generalize sendO ib ob kb n = o' at *
      generalize sendK ib ob kb n = k' at *
      generalize sendE ib ob kb n = e' at *
      clear hb E
      go_enter Try.func16, Try.ntmps16
      go_wp2_with fail
      refine (PA.out _).mono ?_
      rintro e w1 ⟨rfl, rfl⟩
      trace "D1"; go_wp2_with fail
      refine (CF.out _ HC.out).mono ?_
      rintro e w2 ⟨rfl, hb2⟩
      by_cases h0 : e' = 0
      case neg =>
        rw [errV_pos h0]
        have EE := Lib.hid (EB.out h0)
        have HE := Lib.hid (errV_pos h0)
        clear h0
        trace "E1"; go_wp2_with fail
        go_ret
        exact ⟨by rw [HE.out]; rfl, by rw [EE.out]; exact H.out.same (by refine Since.out ?_; repeat (first | with_reducible assumption | with_reducible exact Since.refl _ | with_reducible refine Since.later ?_ (by with_reducible assumption) | with_reducible refine Since.only ?_ (by with_reducible assumption) (by first | assumption | omega | (simp; done) | (simp; omega)) | with_reducible refine Since.alloc ?_ _ | with_reducible refine Since.drewN ?_ _ | with_reducible refine Since.drew ?_ | with_reducible refine Since.set ?_ (by first | assumption | omega | (simp; done) | (simp; omega)) _))⟩
      have EE := Lib.hid (EO.out h0)
      subst h0
      rw [errV_zero]
      have HS2 := Lib.hid (show Since w w2 from hb2)
      have lg2 : g < w2.heap.size := Nat.lt_of_lt_of_le lg (Since.le (w := w) hb2)
      have fg2 := (HB.out.later hb2).free
      have m0 : w2.cell? ⟨g, 3, none⟩ = some (.int .i64 ib) := (HB.out.later hb2).cell 3
      have m1 : w2.cell? ⟨g, 4, none⟩ = some (.int .i64 ob) := (HB.out.later hb2).cell 4
      have m2 : w2.cell? ⟨g, 5, none⟩ = some (.bool kb) := (HB.out.later hb2).cell 5
      clear d0 d1 d2 EO EB hb2
      trace "F1"; go_wp2_with fail
      go_region
      trace "G1"; go_wp2_with fail
      go_ret
      refine ⟨rfl, ?_⟩
      rw [EE.out]
      exact MLeft.later (MLeft.put3 (H.out.same HS2.out) 3 ⟨i', o', k'⟩ rfl rfl rfl rfl rfl) ((Since.refl _).alloc _).drew
    · have PA := Lib.hid (fun W => path_any 2 W)
      have CF := Lib.hid (fun W hW => sendF ic oc kc n hh W hW)
      have E : Hid (mSendE (⟨⟨⟨ia, oa, ka⟩, ⟨ib, ob, kb⟩, ⟨ic, oc, kc⟩, ⟨id, od, kd⟩⟩, lim, L, N, As, ta, tb⟩ : MvS) 2 n = sendE ic oc kc n) := Lib.hid rfl
      have EO := Lib.hid (fun h => mSend_ok (s := (⟨⟨⟨ia, oa, ka⟩, ⟨ib, ob, kb⟩, ⟨ic, oc, kc⟩, ⟨id, od, kd⟩⟩, lim, L, N, As, ta, tb⟩ : MvS)) (i := 2) (n := n) h)
      have EB := Lib.hid (fun h => mSend_bad (s := (⟨⟨⟨ia, oa, ka⟩, ⟨ib, ob, kb⟩, ⟨ic, oc, kc⟩, ⟨id, od, kd⟩⟩, lim, L, N, As, ta, tb⟩ : MvS)) (i := 2) (n := n) h)
      simp only [sendP, Pths.at, Pths.put, show (2 : Int).toNat = 2 from rfl] at EO
      rw [E.out] at EO EB
      rw [E.out]
      have d0 : w.cell? ⟨g, 6, none⟩ = some (.int .i64 ic) := HB.out.cell 6
      have d1 : w.cell? ⟨g, 7, none⟩ = some (.int .i64 oc) := HB.out.cell 7
      have d2 : w.cell? ⟨g, 8, none⟩ = some (.bool kc) := HB.out.cell 8
      simp only [show pathB 2 = true from rfl] at PA
      generalize sendI ic oc kc n = i' at *
      generalize sendO ic oc kc n = o' at *
      generalize sendK ic oc kc n = k' at *
      generalize sendE ic oc kc n = e' at *
      clear hb E
      go_enter Try.func16, Try.ntmps16
      go_wp2_with fail
      refine (PA.out _).mono ?_
      rintro e w1 ⟨rfl, rfl⟩
      trace "D2"; go_wp2_with fail
      refine (CF.out _ HC.out).mono ?_
      rintro e w2 ⟨rfl, hb2⟩
      by_cases h0 : e' = 0
      case neg =>
        rw [errV_pos h0]
        have EE := Lib.hid (EB.out h0)
        have HE := Lib.hid (errV_pos h0)
        clear h0
        trace "E2"; go_wp2_with fail
        go_ret
        exact ⟨by rw [HE.out]; rfl, by rw [EE.out]; exact H.out.same (by refine Since.out ?_; repeat (first | with_reducible assumption | with_reducible exact Since.refl _ | with_reducible refine Since.later ?_ (by with_reducible assumption) | with_reducible refine Since.only ?_ (by with_reducible assumption) (by first | assumption | omega | (simp; done) | (simp; omega)) | with_reducible refine Since.alloc ?_ _ | with_reducible refine Since.drewN ?_ _ | with_reducible refine Since.drew ?_ | with_reducible refine Since.set ?_ (by first | assumption | omega | (simp; done) | (simp; omega)) _))⟩
      have EE := Lib.hid (EO.out h0)
      subst h0
      rw [errV_zero]
      have HS2 := Lib.hid (show Since w w2 from hb2)
      have lg2 : g < w2.heap.size := Nat.lt_of_lt_of_le lg (Since.le (w := w) hb2)
      have fg2 := (HB.out.later hb2).free
      have m0 : w2.cell? ⟨g, 6, none⟩ = some (.int .i64 ic) := (HB.out.later hb2).cell 6
      have m1 : w2.cell? ⟨g, 7, none⟩ = some (.int .i64 oc) := (HB.out.later hb2).cell 7
      have m2 : w2.cell? ⟨g, 8, none⟩ = some (.bool kc) := (HB.out.later hb2).cell 8
      clear d0 d1 d2 EO EB hb2
      trace "F2"; go_wp2_with fail
      go_region
      trace "G2"; go_wp2_with fail
      go_ret
      refine ⟨rfl, ?_⟩
      rw [EE.out]
      exact MLeft.later (MLeft.put3 (H.out.same HS2.out) 6 ⟨i', o', k'⟩ rfl rfl rfl rfl rfl) ((Since.refl _).alloc _).drew
    · have PA := Lib.hid (fun W => path_any 3 W)
      have CF := Lib.hid (fun W hW => sendF id od kd n hh W hW)
      have E : Hid (mSendE (⟨⟨⟨ia, oa, ka⟩, ⟨ib, ob, kb⟩, ⟨ic, oc, kc⟩, ⟨id, od, kd⟩⟩, lim, L, N, As, ta, tb⟩ : MvS) 3 n = sendE id od kd n) := Lib.hid rfl
      have EO := Lib.hid (fun h => mSend_ok (s := (⟨⟨⟨ia, oa, ka⟩, ⟨ib, ob, kb⟩, ⟨ic, oc, kc⟩, ⟨id, od, kd⟩⟩, lim, L, N, As, ta, tb⟩ : MvS)) (i := 3) (n := n) h)
      have EB := Lib.hid (fun h => mSend_bad (s := (⟨⟨⟨ia, oa, ka⟩, ⟨ib, ob, kb⟩, ⟨ic, oc, kc⟩, ⟨id, od, kd⟩⟩, lim, L, N, As, ta, tb⟩ : MvS)) (i := 3) (n := n) h)
      simp only [sendP, Pths.at, Pths.put, show (3 : Int).toNat = 3 from rfl] at EO
      rw [E.out] at EO EB
      rw [E.out]
      have d0 : w.cell? ⟨g, 9, none⟩ = some (.int .i64 id) := HB.out.cell 9
      have d1 : w.cell? ⟨g, 10, none⟩ = some (.int .i64 od) := HB.out.cell 10
      have d2 : w.cell? ⟨g, 11, none⟩ = some (.bool kd) := HB.out.cell 11
      simp only [show pathB 3 = true from rfl] at PA
      generalize sendI id od kd n = i' at *
      generalize sendO id od kd n = o' at *
      generalize sendK id od kd n = k' at *
      generalize sendE id od kd n = e' at *
      clear hb E
      go_enter Try.func16, Try.ntmps16
      go_wp2_with fail
      refine (PA.out _).mono ?_
      rintro e w1 ⟨rfl, rfl⟩
      trace "D3"; go_wp2_with fail
      refine (CF.out _ HC.out).mono ?_
      rintro e w2 ⟨rfl, hb2⟩
      by_cases h0 : e' = 0
      case neg =>
        rw [errV_pos h0]
        have EE := Lib.hid (EB.out h0)
        have HE := Lib.hid (errV_pos h0)
        clear h0
        trace "E3"; go_wp2_with fail
        go_ret
        exact ⟨by rw [HE.out]; rfl, by rw [EE.out]; exact H.out.same (by refine Since.out ?_; repeat (first | with_reducible assumption | with_reducible exact Since.refl _ | with_reducible refine Since.later ?_ (by with_reducible assumption) | with_reducible refine Since.only ?_ (by with_reducible assumption) (by first | assumption | omega | (simp; done) | (simp; omega)) | with_reducible refine Since.alloc ?_ _ | with_reducible refine Since.drewN ?_ _ | with_reducible refine Since.drew ?_ | with_reducible refine Since.set ?_ (by first | assumption | omega | (simp; done) | (simp; omega)) _))⟩
      have EE := Lib.hid (EO.out h0)
      subst h0
      rw [errV_zero]
      have HS2 := Lib.hid (show Since w w2 from hb2)
      have lg2 : g < w2.heap.size := Nat.lt_of_lt_of_le lg (Since.le (w := w) hb2)
      have fg2 := (HB.out.later hb2).free
      have m0 : w2.cell? ⟨g, 9, none⟩ = some (.int .i64 id) := (HB.out.later hb2).cell 9
      have m1 : w2.cell? ⟨g, 10, none⟩ = some (.int .i64 od) := (HB.out.later hb2).cell 10
      have m2 : w2.cell? ⟨g, 11, none⟩ = some (.bool kd) := (HB.out.later hb2).cell 11
      clear d0 d1 d2 EO EB hb2
      trace "F3"; go_wp2_with fail
      go_region
      trace "G3"; go_wp2_with fail
      go_ret
      refine ⟨rfl, ?_⟩
      rw [EE.out]
      exact MLeft.later (MLeft.put3 (H.out.same HS2.out) 9 ⟨i', o', k'⟩ rfl rfl rfl rfl rfl) ((Since.refl _).alloc _).drew
theorem mcame (B : MvB) (s : MvS) (i n : Int) (w : World) (h : Mz w B s) :
    Calls Try.prog 6 #[.pointer (some ⟨B.g, 0, none⟩), .int .i64 i, .int .i64 n] w fun e w' => e = .returned (errV (mCameE s i n)) ∧ MLeft w w' B (mCame s i n) := by
  have MC := Lib.hid (fun W hs hc => mchangeCame B s i n w.heap.size W (h.later hs) hc)
  generalize mCameE s i n = e' at *
  generalize mCame s i n = s' at *
  clear h
  go_enter Try.func6, Try.ntmps6
  trace "H"; go_wp2_with fail
  refine (MC.out _ ((Since.refl _).alloc _) (by simp)).mono ?_
  rintro e w1 ⟨rfl, hm1⟩
  trace "I"; go_wp2_with fail
  go_ret
  exact ⟨rfl, MLeft.pre (W := _) ((Since.refl _).alloc _) hm1⟩
theorem msend (B : MvB) (s : MvS) (i n : Int) (w : World) (h : Mz w B s) :
    Calls Try.prog 11 #[.pointer (some ⟨B.g, 0, none⟩), .int .i64 i, .int .i64 n] w fun e w' => e = .returned (errV (mSendE s i n)) ∧ MLeft w w' B (mSend s i n) := by
  have MC := Lib.hid (fun W hs hc => mchangeSend B s i n w.heap.size W (h.later hs) hc)
  generalize mSendE s i n = e' at *
  generalize mSend s i n = s' at *
  clear h
  go_enter Try.func11, Try.ntmps11
  trace "H"; go_wp2_with fail
  refine (MC.out _ ((Since.refl _).alloc _) (by simp)).mono ?_
  rintro e w1 ⟨rfl, hm1⟩
  trace "I"; go_wp2_with fail
  go_ret
  exact ⟨rfl, MLeft.pre (W := _) ((Since.refl _).alloc _) hm1⟩
end Go.Proofs.Ythnolkbolmbkdaa
