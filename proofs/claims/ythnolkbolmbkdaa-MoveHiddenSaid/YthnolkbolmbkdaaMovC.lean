/- Contracts of package move (but Move): what each answers, and what becomes of the Mover. Condition: the blocks hold a Mover as New and the calls leave it. Printed by gen_mov.py. -/
import Derived.Test.YthnolkbolmbkdaaMov
import Derived.Deep.RegionHeld3
namespace Go.Proofs.Ythnolkbolmbkdaa
open Go.ChangeShapes Go.WideShapes Go.ChangeAt Go.RowKit
set_option linter.unusedVariables false

theorem path4 {i : Int} (h : pathB i = true) : i = 0 ∨ i = 1 ∨ i = 2 ∨ i = 3 := by
  have := pathB_iff.1 h; omega
def mSq (L : List One) (tb : Int) : Int := if 0 ≤ tb then tb else (L.getD 0 ⟨0, 0⟩).s
def mSb (L : List One) (tb : Int) : Bool := if 0 ≤ tb then true else !L.isEmpty
theorem mseq (B : MvB) (s : MvS) (w : World) (h : Mz w B s) :
    Calls Try.prog 22 #[.pointer (some ⟨B.g, 0, none⟩)] w fun e w' => e = .returned (.tuple #[.int .i64 (mSq s.L s.tb), .bool (mSb s.L s.tb)]) ∧ Below w.heap.size w w' := by
  obtain ⟨g, gi, bi, gp, bp, v⟩ := B
  obtain ⟨P, lim, L, N, As, ta, tb⟩ := s
  have c12 : w.cell? ⟨g, 12, none⟩ = some (.pointer (some ⟨gi, 0, none⟩)) := h.bl.cell 12
  have c15 : w.cell? ⟨g, 15, none⟩ = some (.int .i64 tb) := h.bl.cell 15
  have lg : g < w.heap.size := h.bl.lt
  have IL := Lib.hid (fun W hz => ilive gi bi v lim L N W hz)
  have HI := Lib.hid h.iz
  simp only at HI ⊢
  clear h
  by_cases h0 : 0 ≤ tb
  · have E : Hid (mSq L tb = tb ∧ mSb L tb = true) := Lib.hid ⟨by unfold mSq; rw [if_pos h0], by unfold mSb; rw [if_pos h0]⟩
    go_enter Try.func22, Try.ntmps22
    trace "A"; go_wp2_with fail
    go_ret2
    exact ⟨by rw [E.out.1, E.out.2]; rfl, Below.refl _ _⟩
  have h0' : decide (0 ≤ tb) = false := by simp; omega
  have E : Hid (mSq L tb = (L.getD 0 ⟨0, 0⟩).s ∧ mSb L tb = !L.isEmpty) := Lib.hid ⟨by unfold mSq; rw [if_neg h0], by unfold mSb; rw [if_neg h0]⟩
  clear h0
  cases L with
  | nil =>
    have E2 : Hid (mSq [] tb = 0 ∧ mSb [] tb = false) := Lib.hid ⟨E.out.1, E.out.2⟩
    go_enter Try.func22, Try.ntmps22
    trace "B"; go_wp2_with fail
    refine (IL.out _ HI.out).mono ?_
    rintro e w1 ⟨A, cap, rfl, hl1, hb1, hk1⟩
    rw [List.length_nil]
    trace "C"; go_wp2_with fail
    go_ret2
    exact ⟨by rw [E2.out.1, E2.out.2]; rfl, hb1⟩
  | cons d r =>
    have E2 : Hid (mSq (d :: r) tb = d.s ∧ mSb (d :: r) tb = true) := Lib.hid ⟨E.out.1, E.out.2⟩
    obtain ⟨n, hn⟩ : ∃ n, (d :: r).length = n := ⟨_, rfl⟩
    have hn1 : 0 < n := by rw [← hn]; simp
    have hn0 : ((n : Int) == 0) = false := by rw [beq_eq_false_iff_ne]; omega
    have hn2 : (0 : Int) < (n : Int) := by omega
    rw [hn] at IL
    clear hn E
    go_enter Try.func22, Try.ntmps22
    trace "D"; go_wp2_with fail
    refine (IL.out _ HI.out).mono ?_
    rintro e w1 ⟨A, cap, rfl, hl1, hb1, hk1⟩
    obtain ⟨A', cap', hve, _, _, hA⟩ := hl1.shape
    simp only [Value.slice.injEq] at hve
    obtain ⟨rfl, _, rfl⟩ := hve
    rcases hA with ⟨_, hx, _⟩ | ⟨q, rfl⟩
    · simp at hx
    have q0 : w1.cell? ⟨q, 0, none⟩ = some (.int .i64 d.s) := hl1.cell rfl (i := 0) (e := idRow d) (by simp) (j := 0) rfl
    have lq := hl1.lt q (by simp [Value.ownBlock])
    clear hl1 hk1
    generalize d.s = ds at *
    trace "E"; go_wp2_with fail
    go_ret2
    exact ⟨by rw [E2.out.1, E2.out.2]; rfl, hb1⟩
def whE (s : MvS) : Int := if mSb s.L s.tb = true then 0 else 5
def whA (s : MvS) : Int := if mSb s.L s.tb = true then s.ta else 0
def whS (s : MvS) : Int := if mSb s.L s.tb = true then mSq s.L s.tb else 0
theorem mwhere (B : MvB) (s : MvS) (w : World) (h : Mz w B s) :
    Calls Try.prog 10 #[.pointer (some ⟨B.g, 0, none⟩)] w fun e w' => e = .returned (.tuple #[.int .i64 (whA s), .int .i64 (whS s), errV (whE s)]) ∧ Below w.heap.size w w' := by
  have MS := Lib.hid (fun W h => mseq B s W h)
  have H := Lib.hid h
  unfold whE whA whS
  obtain ⟨g, gi, bi, gp, bp, v⟩ := B
  obtain ⟨P, lim, L, N, As, ta, tb⟩ := s
  have HC : Hid (∀ W, Since w W → W.cell? ⟨g, 14, none⟩ = some (.int .i64 ta) ∧ g < W.heap.size) := Lib.hid (fun W hW => ⟨(h.bl.later hW).cell 14, (h.bl.later hW).lt⟩)
  simp only at MS ⊢
  clear h
  generalize mSq L tb = q at *
  cases hb : mSb L tb with
  | true =>
    rw [hb] at MS
    go_enter Try.func10, Try.ntmps10
    trace "F"; go_wp2_with fail
    refine (MS.out _ H.out).mono ?_
    rintro e w1 ⟨rfl, hb1⟩
    obtain ⟨c14, lg⟩ := HC.out w1 hb1
    trace "G"; go_wp2_with fail
    go_ret3
    exact ⟨rfl, hb1⟩
  | false =>
    rw [hb] at MS
    go_enter Try.func10, Try.ntmps10
    trace "H"; go_wp2_with fail
    refine (MS.out _ H.out).mono ?_
    rintro e w1 ⟨rfl, hb1⟩
    trace "I"; go_wp2_with fail
    go_ret3
    exact ⟨rfl, hb1⟩
def mPaE (i : Int) : Int := if pathB i = true then 0 else 1
def mPa (P : Pths) (i : Int) : Pth := if pathB i = true then P.at i.toNat else ⟨0, 0, false⟩
theorem mpath (B : MvB) (s : MvS) (i : Int) (w : World) (h : Mz w B s) :
    Calls Try.prog 12 #[.pointer (some ⟨B.g, 0, none⟩), .int .i64 i] w fun e w' => e = .returned (.tuple #[pathV (mPa s.P i).i (mPa s.P i).o (mPa s.P i).k, errV (mPaE i)]) ∧ Below w.heap.size w w' := by
  obtain ⟨g, gi, bi, gp, bp, v⟩ := B
  obtain ⟨⟨⟨ia, oa, ka⟩, ⟨ib, ob, kb⟩, ⟨ic, oc, kc⟩, ⟨id, od, kd⟩⟩, lim, L, N, As, ta, tb⟩ := s
  have HB : Hid (BlockIs w g 49 #[.int .i64 ia, .int .i64 oa, .bool ka, .int .i64 ib, .int .i64 ob, .bool kb, .int .i64 ic, .int .i64 oc, .bool kc, .int .i64 id, .int .i64 od, .bool kd, .pointer (some ⟨gi, 0, none⟩), .pointer (some ⟨gp, 0, none⟩), .int .i64 ta, .int .i64 tb]) := Lib.hid h.bl
  have lg : g < w.heap.size := HB.out.lt
  unfold mPa mPaE
  simp only
  clear h
  cases hb : pathB i with
  | false =>
    have PA := Lib.hid (fun W => path_any i W)
    rw [hb] at PA
    clear hb
    go_enter Try.func12, Try.ntmps12
    trace "J"; go_wp2_with fail
    refine (PA.out _).mono ?_
    rintro e w1 ⟨rfl, rfl⟩
    trace "K"; go_wp2_with fail
    refine bodyPost_ret (v := .tuple #[pathV 0 0 false, errV 1]) (by simp [results, Try.results12, go_sem]; rfl) rfl ⟨rfl, (by refine Since.out ?_; repeat (first | with_reducible assumption | with_reducible exact Since.refl _ | with_reducible refine Since.later ?_ (by with_reducible assumption) | with_reducible refine Since.only ?_ (by with_reducible assumption) (by first | assumption | omega | (simp; done) | (simp; omega)) | with_reducible refine Since.alloc ?_ _ | with_reducible refine Since.drewN ?_ _ | with_reducible refine Since.drew ?_ | with_reducible refine Since.set ?_ (by first | assumption | omega | (simp; done) | (simp; omega)) _))⟩
  | true =>
    rcases path4 hb with rfl | rfl | rfl | rfl
    · have PA := Lib.hid (fun W => path_any 0 W)
      have c0 : (w.alloc (.cells #[.int .i64 0, .int .i64 0, .bool false] 38)).cell? ⟨g, 0, none⟩ = some (.int .i64 ia) := (HB.out.alloc _).cell 0
      have c1 : (w.alloc (.cells #[.int .i64 0, .int .i64 0, .bool false] 38)).cell? ⟨g, 1, none⟩ = some (.int .i64 oa) := (HB.out.alloc _).cell 1
      have c2 : (w.alloc (.cells #[.int .i64 0, .int .i64 0, .bool false] 38)).cell? ⟨g, 2, none⟩ = some (.bool ka) := (HB.out.alloc _).cell 2
      have d0 := HB.out.cell 0
      have d1 := HB.out.cell 1
      have d2 := HB.out.cell 2
      simp only [show pathB 0 = true from rfl] at PA
      clear hb
      go_enter Try.func12, Try.ntmps12
      go_wp2_with fail
      refine (PA.out _).mono ?_
      rintro e w1 ⟨rfl, rfl⟩
      trace "L0"; go_wp2_with fail
      refine bodyPost_ret (v := .tuple #[pathV ia oa ka, errV 0]) (by simp [results, Try.results12, go_sem]; rfl) rfl ⟨rfl, (by refine Since.out ?_; repeat (first | with_reducible assumption | with_reducible exact Since.refl _ | with_reducible refine Since.later ?_ (by with_reducible assumption) | with_reducible refine Since.only ?_ (by with_reducible assumption) (by first | assumption | omega | (simp; done) | (simp; omega)) | with_reducible refine Since.alloc ?_ _ | with_reducible refine Since.drewN ?_ _ | with_reducible refine Since.drew ?_ | with_reducible refine Since.set ?_ (by first | assumption | omega | (simp; done) | (simp; omega)) _))⟩
    · have PA := Lib.hid (fun W => path_any 1 W)
      have c0 : (w.alloc (.cells #[.int .i64 0, .int .i64 0, .bool false] 38)).cell? ⟨g, 3, none⟩ = some (.int .i64 ib) := (HB.out.alloc _).cell 3
      have c1 : (w.alloc (.cells #[.int .i64 0, .int .i64 0, .bool false] 38)).cell? ⟨g, 4, none⟩ = some (.int .i64 ob) := (HB.out.alloc _).cell 4
      have c2 : (w.alloc (.cells #[.int .i64 0, .int .i64 0, .bool false] 38)).cell? ⟨g, 5, none⟩ = some (.bool kb) := (HB.out.alloc _).cell 5
      have d0 := HB.out.cell 3
      have d1 := HB.out.cell 4
      have d2 := HB.out.cell 5
      simp only [show pathB 1 = true from rfl] at PA
      clear hb
      go_enter Try.func12, Try.ntmps12
      go_wp2_with fail
      refine (PA.out _).mono ?_
      rintro e w1 ⟨rfl, rfl⟩
      trace "L1"; go_wp2_with fail
      refine bodyPost_ret (v := .tuple #[pathV ib ob kb, errV 0]) (by simp [results, Try.results12, go_sem]; rfl) rfl ⟨rfl, (by refine Since.out ?_; repeat (first | with_reducible assumption | with_reducible exact Since.refl _ | with_reducible refine Since.later ?_ (by with_reducible assumption) | with_reducible refine Since.only ?_ (by with_reducible assumption) (by first | assumption | omega | (simp; done) | (simp; omega)) | with_reducible refine Since.alloc ?_ _ | with_reducible refine Since.drewN ?_ _ | with_reducible refine Since.drew ?_ | with_reducible refine Since.set ?_ (by first | assumption | omega | (simp; done) | (simp; omega)) _))⟩
    · have PA := Lib.hid (fun W => path_any 2 W)
      have c0 : (w.alloc (.cells #[.int .i64 0, .int .i64 0, .bool false] 38)).cell? ⟨g, 6, none⟩ = some (.int .i64 ic) := (HB.out.alloc _).cell 6
      have c1 : (w.alloc (.cells #[.int .i64 0, .int .i64 0, .bool false] 38)).cell? ⟨g, 7, none⟩ = some (.int .i64 oc) := (HB.out.alloc _).cell 7
      have c2 : (w.alloc (.cells #[.int .i64 0, .int .i64 0, .bool false] 38)).cell? ⟨g, 8, none⟩ = some (.bool kc) := (HB.out.alloc _).cell 8
      have d0 := HB.out.cell 6
      have d1 := HB.out.cell 7
      have d2 := HB.out.cell 8
      simp only [show pathB 2 = true from rfl] at PA
      clear hb
      go_enter Try.func12, Try.ntmps12
      go_wp2_with fail
      refine (PA.out _).mono ?_
      rintro e w1 ⟨rfl, rfl⟩
      trace "L2"; go_wp2_with fail
      refine bodyPost_ret (v := .tuple #[pathV ic oc kc, errV 0]) (by simp [results, Try.results12, go_sem]; rfl) rfl ⟨rfl, (by refine Since.out ?_; repeat (first | with_reducible assumption | with_reducible exact Since.refl _ | with_reducible refine Since.later ?_ (by with_reducible assumption) | with_reducible refine Since.only ?_ (by with_reducible assumption) (by first | assumption | omega | (simp; done) | (simp; omega)) | with_reducible refine Since.alloc ?_ _ | with_reducible refine Since.drewN ?_ _ | with_reducible refine Since.drew ?_ | with_reducible refine Since.set ?_ (by first | assumption | omega | (simp; done) | (simp; omega)) _))⟩
    · have PA := Lib.hid (fun W => path_any 3 W)
      have c0 : (w.alloc (.cells #[.int .i64 0, .int .i64 0, .bool false] 38)).cell? ⟨g, 9, none⟩ = some (.int .i64 id) := (HB.out.alloc _).cell 9
      have c1 : (w.alloc (.cells #[.int .i64 0, .int .i64 0, .bool false] 38)).cell? ⟨g, 10, none⟩ = some (.int .i64 od) := (HB.out.alloc _).cell 10
      have c2 : (w.alloc (.cells #[.int .i64 0, .int .i64 0, .bool false] 38)).cell? ⟨g, 11, none⟩ = some (.bool kd) := (HB.out.alloc _).cell 11
      have d0 := HB.out.cell 9
      have d1 := HB.out.cell 10
      have d2 := HB.out.cell 11
      simp only [show pathB 3 = true from rfl] at PA
      clear hb
      go_enter Try.func12, Try.ntmps12
      go_wp2_with fail
      refine (PA.out _).mono ?_
      rintro e w1 ⟨rfl, rfl⟩
      trace "L3"; go_wp2_with fail
      refine bodyPost_ret (v := .tuple #[pathV id od kd, errV 0]) (by simp [results, Try.results12, go_sem]; rfl) rfl ⟨rfl, (by refine Since.out ?_; repeat (first | with_reducible assumption | with_reducible exact Since.refl _ | with_reducible refine Since.later ?_ (by with_reducible assumption) | with_reducible refine Since.only ?_ (by with_reducible assumption) (by first | assumption | omega | (simp; done) | (simp; omega)) | with_reducible refine Since.alloc ?_ _ | with_reducible refine Since.drewN ?_ _ | with_reducible refine Since.drew ?_ | with_reducible refine Since.set ?_ (by first | assumption | omega | (simp; done) | (simp; omega)) _))⟩
def mOffE (s : MvS) (x : Int) : Int := issE s.lim s.L s.N x
def mOff (s : MvS) (x : Int) : MvS := { s with L := issL s.lim s.L s.N x, N := issN s.lim s.L s.N x }
theorem moffer (B : MvB) (s : MvS) (x : Int) (w : World) (h : Mz w B s) :
    Calls Try.prog 5 #[.pointer (some ⟨B.g, 0, none⟩), .int .i64 x] w fun e w' => e = .returned (errV (mOffE s x)) ∧ MLeft w w' B (mOff s x) := by
  have c12 : w.cell? ⟨B.g, 12, none⟩ = some (.pointer (some ⟨B.gi, 0, none⟩)) := h.bl.cell 12
  have lg : B.g < w.heap.size := h.bl.lt
  have H := Lib.hid h
  have IS := Lib.hid ((iissue B.gi B.bi B.v s.lim s.L s.N x w h.iz).mono fun e w' hh => And.intro hh.1 (show MLeft w w' B (mOff s x) from h.ids hh.2))
  unfold mOffE
  generalize B.g = g at *
  generalize B.gi = gi at *
  clear h
  go_enter Try.func5, Try.ntmps5
  trace "M"; go_wp2_with fail
  refine IS.out.mono ?_
  rintro e w1 ⟨rfl, hi1⟩
  trace "N"; go_wp2_with fail
  go_ret
  refine ⟨rfl, ?_⟩
  obtain ⟨v', hz, ho, hk⟩ := hi1
  exact ⟨v', hz.later ((Since.refl _).alloc _), ho.later ((Since.refl _).alloc _), hk⟩
def mAskE (s : MvS) (i k t : Int) : Int := if pathB i = true then (if (s.P.at i.toNat).k = false ∧ (s.P.at i.toNat).i = 0 then 5 else askE s.As i k t) else 1
def mAsk (s : MvS) (i k t : Int) : MvS := { s with As := if mAskE s i k t = 0 then askL s.As i k t else s.As }
theorem mask_bad {s : MvS} {i k t : Int} (h : mAskE s i k t ≠ 0) : mAsk s i k t = s := by unfold mAsk; rw [if_neg h]
theorem ask_bad {L : List Asked} {i k t : Int} (h : askE L i k t ≠ 0) : askL L i k t = L := by unfold askL; rw [if_neg h]
theorem mAsk_as {s : MvS} {i k t : Int} (h : mAskE s i k t = askE s.As i k t) : mAsk s i k t = { s with As := askL s.As i k t } := by
  unfold mAsk
  split
  · rfl
  · rename_i hn
    rw [ask_bad (by rw [← h]; exact hn)]
theorem Mz.proofs1 {w w' : World} {B : MvB} {s : MvS} {As : List Asked} (h : Mz w B s) (hp : Pr w' B.gp B.bp As) (ho : Out w w' [B.bp]) : MLeft w w' B { s with As := As } :=
  h.proofs hp (ho.mono (fun k hk => Or.inl (by rw [List.mem_singleton.1 hk]; simp)))
theorem MLeft.pre {w W w' : World} {B : MvB} {s : MvS} (hb : Since w W) (h : MLeft W w' B s) : MLeft w w' B s := by
  obtain ⟨v', hz, ho, hk⟩ := h
  exact ⟨v', hz, (Out.of_below hb B.S).then' ho (fun k hk => Or.inl hk), fun k hk2 => (hk k hk2).imp id (fun h => Nat.le_trans hb.le h)⟩
set_option maxHeartbeats 3200000 in
theorem mask (B : MvB) (s : MvS) (i x y : Int) (w : World) (h : Mz w B s) :
    Calls Try.prog 7 #[.pointer (some ⟨B.g, 0, none⟩), .int .i64 i, .int .i64 x, .int .i64 y] w fun e w' => e = .returned (errV (mAskE s i x y)) ∧ MLeft w w' B (mAsk s i x y) := by
  obtain ⟨g, gi, bi, gp, bp, v⟩ := B
  have H := Lib.hid h
  obtain ⟨⟨⟨ia, oa, ka⟩, ⟨ib, ob, kb⟩, ⟨ic, oc, kc⟩, ⟨id, od, kd⟩⟩, lim, L, N, As, ta, tb⟩ := s
  have HB : Hid (BlockIs w g 49 #[.int .i64 ia, .int .i64 oa, .bool ka, .int .i64 ib, .int .i64 ob, .bool kb, .int .i64 ic, .int .i64 oc, .bool kc, .int .i64 id, .int .i64 od, .bool kd, .pointer (some ⟨gi, 0, none⟩), .pointer (some ⟨gp, 0, none⟩), .int .i64 ta, .int .i64 tb]) := Lib.hid h.bl
  have lg : g < w.heap.size := HB.out.lt
  simp only
  clear h
  cases hb : pathB i with
  | false =>
    have PA := Lib.hid (fun W => path_any i W)
    have E : Hid (mAskE (⟨⟨⟨ia, oa, ka⟩, ⟨ib, ob, kb⟩, ⟨ic, oc, kc⟩, ⟨id, od, kd⟩⟩, lim, L, N, As, ta, tb⟩ : MvS) i x y = 1) := Lib.hid (by unfold mAskE; rw [if_neg (by rw [hb]; decide)])
    rw [hb] at PA
    clear hb
    go_enter Try.func7, Try.ntmps7
    go_wp2_with fail
    refine (PA.out _).mono ?_
    rintro e w1 ⟨rfl, rfl⟩
    trace "O"; go_wp2_with fail
    go_ret
    exact ⟨by rw [E.out]; rfl, by rw [mask_bad (by rw [E.out]; decide)]; exact H.out.same (by refine Since.out ?_; repeat (first | with_reducible assumption | with_reducible exact Since.refl _ | with_reducible refine Since.later ?_ (by with_reducible assumption) | with_reducible refine Since.only ?_ (by with_reducible assumption) (by first | assumption | omega | (simp; done) | (simp; omega)) | with_reducible refine Since.alloc ?_ _ | with_reducible refine Since.drewN ?_ _ | with_reducible refine Since.drew ?_ | with_reducible refine Since.set ?_ (by first | assumption | omega | (simp; done) | (simp; omega)) _))⟩
  | true =>
    rcases path4 hb with rfl | rfl | rfl | rfl
    · have PA := Lib.hid (fun W => path_any 0 W)
      have PK := Lib.hid (fun W hz => pask_any gp bp As 0 x y W hz)
      have d0 : w.cell? ⟨g, 0, none⟩ = some (.int .i64 ia) := HB.out.cell 0
      have d1 : w.cell? ⟨g, 1, none⟩ = some (.int .i64 oa) := HB.out.cell 1
      have d2 : w.cell? ⟨g, 2, none⟩ = some (.bool ka) := HB.out.cell 2
      have d3 : w.cell? ⟨g, 13, none⟩ = some (.pointer (some ⟨gp, 0, none⟩)) := HB.out.cell 13
      simp only [show pathB 0 = true from rfl] at PA
      clear hb
      cases ka with
      | true =>
        have E : Hid (mAskE (⟨⟨⟨ia, oa, true⟩, ⟨ib, ob, kb⟩, ⟨ic, oc, kc⟩, ⟨id, od, kd⟩⟩, lim, L, N, As, ta, tb⟩ : MvS) 0 x y = askE As 0 x y) := Lib.hid (by simp [mAskE, show pathB 0 = true from rfl, Pths.at])
        go_enter Try.func7, Try.ntmps7
        go_wp2_with fail
        refine (PA.out _).mono ?_
        rintro e w1 ⟨rfl, rfl⟩
        trace "P0"; go_wp2_with fail
        refine (PK.out _ (H.out.pr.later (by refine Since.out ?_; repeat (first | with_reducible assumption | with_reducible exact Since.refl _ | with_reducible refine Since.later ?_ (by with_reducible assumption) | with_reducible refine Since.only ?_ (by with_reducible assumption) (by first | assumption | omega | (simp; done) | (simp; omega)) | with_reducible refine Since.alloc ?_ _ | with_reducible refine Since.drewN ?_ _ | with_reducible refine Since.drew ?_ | with_reducible refine Since.set ?_ (by first | assumption | omega | (simp; done) | (simp; omega)) _)))).mono ?_
        rintro e w2 ⟨rfl, hp2, ho2⟩
        trace "Q0"; go_wp2_with fail
        go_ret
        refine ⟨by rw [E.out]; rfl, ?_⟩
        rw [mAsk_as E.out]
        exact MLeft.pre (W := _) (by refine Since.out ?_; repeat (first | with_reducible assumption | with_reducible exact Since.refl _ | with_reducible refine Since.later ?_ (by with_reducible assumption) | with_reducible refine Since.only ?_ (by with_reducible assumption) (by first | assumption | omega | (simp; done) | (simp; omega)) | with_reducible refine Since.alloc ?_ _ | with_reducible refine Since.drewN ?_ _ | with_reducible refine Since.drew ?_ | with_reducible refine Since.set ?_ (by first | assumption | omega | (simp; done) | (simp; omega)) _)) ((H.out.later (by refine Since.out ?_; repeat (first | with_reducible assumption | with_reducible exact Since.refl _ | with_reducible refine Since.later ?_ (by with_reducible assumption) | with_reducible refine Since.only ?_ (by with_reducible assumption) (by first | assumption | omega | (simp; done) | (simp; omega)) | with_reducible refine Since.alloc ?_ _ | with_reducible refine Since.drewN ?_ _ | with_reducible refine Since.drew ?_ | with_reducible refine Since.set ?_ (by first | assumption | omega | (simp; done) | (simp; omega)) _))).proofs1 hp2 ho2)
      | false =>
        by_cases h0 : ia = 0
        · have E : Hid (mAskE (⟨⟨⟨ia, oa, false⟩, ⟨ib, ob, kb⟩, ⟨ic, oc, kc⟩, ⟨id, od, kd⟩⟩, lim, L, N, As, ta, tb⟩ : MvS) 0 x y = 5) := Lib.hid (by simp [mAskE, show pathB 0 = true from rfl, Pths.at, h0])
          have h0' : (ia == 0) = true := by simpa using h0
          clear h0
          go_enter Try.func7, Try.ntmps7
          go_wp2_with fail
          refine (PA.out _).mono ?_
          rintro e w1 ⟨rfl, rfl⟩
          trace "R0"; go_wp2_with fail
          go_ret
          exact ⟨by rw [E.out]; rfl, by rw [mask_bad (by rw [E.out]; decide)]; exact H.out.same (by refine Since.out ?_; repeat (first | with_reducible assumption | with_reducible exact Since.refl _ | with_reducible refine Since.later ?_ (by with_reducible assumption) | with_reducible refine Since.only ?_ (by with_reducible assumption) (by first | assumption | omega | (simp; done) | (simp; omega)) | with_reducible refine Since.alloc ?_ _ | with_reducible refine Since.drewN ?_ _ | with_reducible refine Since.drew ?_ | with_reducible refine Since.set ?_ (by first | assumption | omega | (simp; done) | (simp; omega)) _))⟩
        · have E : Hid (mAskE (⟨⟨⟨ia, oa, false⟩, ⟨ib, ob, kb⟩, ⟨ic, oc, kc⟩, ⟨id, od, kd⟩⟩, lim, L, N, As, ta, tb⟩ : MvS) 0 x y = askE As 0 x y) := Lib.hid (by simp [mAskE, show pathB 0 = true from rfl, Pths.at, h0])
          have h0' : (ia == 0) = false := by simpa using h0
          clear h0
          go_enter Try.func7, Try.ntmps7
          go_wp2_with fail
          refine (PA.out _).mono ?_
          rintro e w1 ⟨rfl, rfl⟩
          trace "S0"; go_wp2_with fail
          refine (PK.out _ (H.out.pr.later (by refine Since.out ?_; repeat (first | with_reducible assumption | with_reducible exact Since.refl _ | with_reducible refine Since.later ?_ (by with_reducible assumption) | with_reducible refine Since.only ?_ (by with_reducible assumption) (by first | assumption | omega | (simp; done) | (simp; omega)) | with_reducible refine Since.alloc ?_ _ | with_reducible refine Since.drewN ?_ _ | with_reducible refine Since.drew ?_ | with_reducible refine Since.set ?_ (by first | assumption | omega | (simp; done) | (simp; omega)) _)))).mono ?_
          rintro e w2 ⟨rfl, hp2, ho2⟩
          trace "T0"; go_wp2_with fail
          go_ret
          refine ⟨by rw [E.out]; rfl, ?_⟩
          rw [mAsk_as E.out]
          exact MLeft.pre (W := _) (by refine Since.out ?_; repeat (first | with_reducible assumption | with_reducible exact Since.refl _ | with_reducible refine Since.later ?_ (by with_reducible assumption) | with_reducible refine Since.only ?_ (by with_reducible assumption) (by first | assumption | omega | (simp; done) | (simp; omega)) | with_reducible refine Since.alloc ?_ _ | with_reducible refine Since.drewN ?_ _ | with_reducible refine Since.drew ?_ | with_reducible refine Since.set ?_ (by first | assumption | omega | (simp; done) | (simp; omega)) _)) ((H.out.later (by refine Since.out ?_; repeat (first | with_reducible assumption | with_reducible exact Since.refl _ | with_reducible refine Since.later ?_ (by with_reducible assumption) | with_reducible refine Since.only ?_ (by with_reducible assumption) (by first | assumption | omega | (simp; done) | (simp; omega)) | with_reducible refine Since.alloc ?_ _ | with_reducible refine Since.drewN ?_ _ | with_reducible refine Since.drew ?_ | with_reducible refine Since.set ?_ (by first | assumption | omega | (simp; done) | (simp; omega)) _))).proofs1 hp2 ho2)
    · have PA := Lib.hid (fun W => path_any 1 W)
      have PK := Lib.hid (fun W hz => pask_any gp bp As 1 x y W hz)
      have d0 : w.cell? ⟨g, 3, none⟩ = some (.int .i64 ib) := HB.out.cell 3
      have d1 : w.cell? ⟨g, 4, none⟩ = some (.int .i64 ob) := HB.out.cell 4
      have d2 : w.cell? ⟨g, 5, none⟩ = some (.bool kb) := HB.out.cell 5
      have d3 : w.cell? ⟨g, 13, none⟩ = some (.pointer (some ⟨gp, 0, none⟩)) := HB.out.cell 13
      simp only [show pathB 1 = true from rfl] at PA
      clear hb
      cases kb with
      | true =>
        have E : Hid (mAskE (⟨⟨⟨ia, oa, ka⟩, ⟨ib, ob, true⟩, ⟨ic, oc, kc⟩, ⟨id, od, kd⟩⟩, lim, L, N, As, ta, tb⟩ : MvS) 1 x y = askE As 1 x y) := Lib.hid (by simp [mAskE, show pathB 1 = true from rfl, Pths.at])
        go_enter Try.func7, Try.ntmps7
        go_wp2_with fail
        refine (PA.out _).mono ?_
        rintro e w1 ⟨rfl, rfl⟩
        trace "P1"; go_wp2_with fail
        refine (PK.out _ (H.out.pr.later (by refine Since.out ?_; repeat (first | with_reducible assumption | with_reducible exact Since.refl _ | with_reducible refine Since.later ?_ (by with_reducible assumption) | with_reducible refine Since.only ?_ (by with_reducible assumption) (by first | assumption | omega | (simp; done) | (simp; omega)) | with_reducible refine Since.alloc ?_ _ | with_reducible refine Since.drewN ?_ _ | with_reducible refine Since.drew ?_ | with_reducible refine Since.set ?_ (by first | assumption | omega | (simp; done) | (simp; omega)) _)))).mono ?_
        rintro e w2 ⟨rfl, hp2, ho2⟩
        trace "Q1"; go_wp2_with fail
        go_ret
        refine ⟨by rw [E.out]; rfl, ?_⟩
        rw [mAsk_as E.out]
        exact MLeft.pre (W := _) (by refine Since.out ?_; repeat (first | with_reducible assumption | with_reducible exact Since.refl _ | with_reducible refine Since.later ?_ (by with_reducible assumption) | with_reducible refine Since.only ?_ (by with_reducible assumption) (by first | assumption | omega | (simp; done) | (simp; omega)) | with_reducible refine Since.alloc ?_ _ | with_reducible refine Since.drewN ?_ _ | with_reducible refine Since.drew ?_ | with_reducible refine Since.set ?_ (by first | assumption | omega | (simp; done) | (simp; omega)) _)) ((H.out.later (by refine Since.out ?_; repeat (first | with_reducible assumption | with_reducible exact Since.refl _ | with_reducible refine Since.later ?_ (by with_reducible assumption) | with_reducible refine Since.only ?_ (by with_reducible assumption) (by first | assumption | omega | (simp; done) | (simp; omega)) | with_reducible refine Since.alloc ?_ _ | with_reducible refine Since.drewN ?_ _ | with_reducible refine Since.drew ?_ | with_reducible refine Since.set ?_ (by first | assumption | omega | (simp; done) | (simp; omega)) _))).proofs1 hp2 ho2)
      | false =>
        by_cases h0 : ib = 0
        · have E : Hid (mAskE (⟨⟨⟨ia, oa, ka⟩, ⟨ib, ob, false⟩, ⟨ic, oc, kc⟩, ⟨id, od, kd⟩⟩, lim, L, N, As, ta, tb⟩ : MvS) 1 x y = 5) := Lib.hid (by simp [mAskE, show pathB 1 = true from rfl, Pths.at, h0])
          have h0' : (ib == 0) = true := by simpa using h0
          clear h0
          go_enter Try.func7, Try.ntmps7
          go_wp2_with fail
          refine (PA.out _).mono ?_
          rintro e w1 ⟨rfl, rfl⟩
          trace "R1"; go_wp2_with fail
          go_ret
          exact ⟨by rw [E.out]; rfl, by rw [mask_bad (by rw [E.out]; decide)]; exact H.out.same (by refine Since.out ?_; repeat (first | with_reducible assumption | with_reducible exact Since.refl _ | with_reducible refine Since.later ?_ (by with_reducible assumption) | with_reducible refine Since.only ?_ (by with_reducible assumption) (by first | assumption | omega | (simp; done) | (simp; omega)) | with_reducible refine Since.alloc ?_ _ | with_reducible refine Since.drewN ?_ _ | with_reducible refine Since.drew ?_ | with_reducible refine Since.set ?_ (by first | assumption | omega | (simp; done) | (simp; omega)) _))⟩
        · have E : Hid (mAskE (⟨⟨⟨ia, oa, ka⟩, ⟨ib, ob, false⟩, ⟨ic, oc, kc⟩, ⟨id, od, kd⟩⟩, lim, L, N, As, ta, tb⟩ : MvS) 1 x y = askE As 1 x y) := Lib.hid (by simp [mAskE, show pathB 1 = true from rfl, Pths.at, h0])
          have h0' : (ib == 0) = false := by simpa using h0
          clear h0
          go_enter Try.func7, Try.ntmps7
          go_wp2_with fail
          refine (PA.out _).mono ?_
          rintro e w1 ⟨rfl, rfl⟩
          trace "S1"; go_wp2_with fail
          refine (PK.out _ (H.out.pr.later (by refine Since.out ?_; repeat (first | with_reducible assumption | with_reducible exact Since.refl _ | with_reducible refine Since.later ?_ (by with_reducible assumption) | with_reducible refine Since.only ?_ (by with_reducible assumption) (by first | assumption | omega | (simp; done) | (simp; omega)) | with_reducible refine Since.alloc ?_ _ | with_reducible refine Since.drewN ?_ _ | with_reducible refine Since.drew ?_ | with_reducible refine Since.set ?_ (by first | assumption | omega | (simp; done) | (simp; omega)) _)))).mono ?_
          rintro e w2 ⟨rfl, hp2, ho2⟩
          trace "T1"; go_wp2_with fail
          go_ret
          refine ⟨by rw [E.out]; rfl, ?_⟩
          rw [mAsk_as E.out]
          exact MLeft.pre (W := _) (by refine Since.out ?_; repeat (first | with_reducible assumption | with_reducible exact Since.refl _ | with_reducible refine Since.later ?_ (by with_reducible assumption) | with_reducible refine Since.only ?_ (by with_reducible assumption) (by first | assumption | omega | (simp; done) | (simp; omega)) | with_reducible refine Since.alloc ?_ _ | with_reducible refine Since.drewN ?_ _ | with_reducible refine Since.drew ?_ | with_reducible refine Since.set ?_ (by first | assumption | omega | (simp; done) | (simp; omega)) _)) ((H.out.later (by refine Since.out ?_; repeat (first | with_reducible assumption | with_reducible exact Since.refl _ | with_reducible refine Since.later ?_ (by with_reducible assumption) | with_reducible refine Since.only ?_ (by with_reducible assumption) (by first | assumption | omega | (simp; done) | (simp; omega)) | with_reducible refine Since.alloc ?_ _ | with_reducible refine Since.drewN ?_ _ | with_reducible refine Since.drew ?_ | with_reducible refine Since.set ?_ (by first | assumption | omega | (simp; done) | (simp; omega)) _))).proofs1 hp2 ho2)
    · have PA := Lib.hid (fun W => path_any 2 W)
      have PK := Lib.hid (fun W hz => pask_any gp bp As 2 x y W hz)
      have d0 : w.cell? ⟨g, 6, none⟩ = some (.int .i64 ic) := HB.out.cell 6
      have d1 : w.cell? ⟨g, 7, none⟩ = some (.int .i64 oc) := HB.out.cell 7
      have d2 : w.cell? ⟨g, 8, none⟩ = some (.bool kc) := HB.out.cell 8
      have d3 : w.cell? ⟨g, 13, none⟩ = some (.pointer (some ⟨gp, 0, none⟩)) := HB.out.cell 13
      simp only [show pathB 2 = true from rfl] at PA
      clear hb
      cases kc with
      | true =>
        have E : Hid (mAskE (⟨⟨⟨ia, oa, ka⟩, ⟨ib, ob, kb⟩, ⟨ic, oc, true⟩, ⟨id, od, kd⟩⟩, lim, L, N, As, ta, tb⟩ : MvS) 2 x y = askE As 2 x y) := Lib.hid (by simp [mAskE, show pathB 2 = true from rfl, Pths.at])
        go_enter Try.func7, Try.ntmps7
        go_wp2_with fail
        refine (PA.out _).mono ?_
        rintro e w1 ⟨rfl, rfl⟩
        trace "P2"; go_wp2_with fail
        refine (PK.out _ (H.out.pr.later (by refine Since.out ?_; repeat (first | with_reducible assumption | with_reducible exact Since.refl _ | with_reducible refine Since.later ?_ (by with_reducible assumption) | with_reducible refine Since.only ?_ (by with_reducible assumption) (by first | assumption | omega | (simp; done) | (simp; omega)) | with_reducible refine Since.alloc ?_ _ | with_reducible refine Since.drewN ?_ _ | with_reducible refine Since.drew ?_ | with_reducible refine Since.set ?_ (by first | assumption | omega | (simp; done) | (simp; omega)) _)))).mono ?_
        rintro e w2 ⟨rfl, hp2, ho2⟩
        trace "Q2"; go_wp2_with fail
        go_ret
        refine ⟨by rw [E.out]; rfl, ?_⟩
        rw [mAsk_as E.out]
        exact MLeft.pre (W := _) (by refine Since.out ?_; repeat (first | with_reducible assumption | with_reducible exact Since.refl _ | with_reducible refine Since.later ?_ (by with_reducible assumption) | with_reducible refine Since.only ?_ (by with_reducible assumption) (by first | assumption | omega | (simp; done) | (simp; omega)) | with_reducible refine Since.alloc ?_ _ | with_reducible refine Since.drewN ?_ _ | with_reducible refine Since.drew ?_ | with_reducible refine Since.set ?_ (by first | assumption | omega | (simp; done) | (simp; omega)) _)) ((H.out.later (by refine Since.out ?_; repeat (first | with_reducible assumption | with_reducible exact Since.refl _ | with_reducible refine Since.later ?_ (by with_reducible assumption) | with_reducible refine Since.only ?_ (by with_reducible assumption) (by first | assumption | omega | (simp; done) | (simp; omega)) | with_reducible refine Since.alloc ?_ _ | with_reducible refine Since.drewN ?_ _ | with_reducible refine Since.drew ?_ | with_reducible refine Since.set ?_ (by first | assumption | omega | (simp; done) | (simp; omega)) _))).proofs1 hp2 ho2)
      | false =>
        by_cases h0 : ic = 0
        · have E : Hid (mAskE (⟨⟨⟨ia, oa, ka⟩, ⟨ib, ob, kb⟩, ⟨ic, oc, false⟩, ⟨id, od, kd⟩⟩, lim, L, N, As, ta, tb⟩ : MvS) 2 x y = 5) := Lib.hid (by simp [mAskE, show pathB 2 = true from rfl, Pths.at, h0])
          have h0' : (ic == 0) = true := by simpa using h0
          clear h0
          go_enter Try.func7, Try.ntmps7
          go_wp2_with fail
          refine (PA.out _).mono ?_
          rintro e w1 ⟨rfl, rfl⟩
          trace "R2"; go_wp2_with fail
          go_ret
          exact ⟨by rw [E.out]; rfl, by rw [mask_bad (by rw [E.out]; decide)]; exact H.out.same (by refine Since.out ?_; repeat (first | with_reducible assumption | with_reducible exact Since.refl _ | with_reducible refine Since.later ?_ (by with_reducible assumption) | with_reducible refine Since.only ?_ (by with_reducible assumption) (by first | assumption | omega | (simp; done) | (simp; omega)) | with_reducible refine Since.alloc ?_ _ | with_reducible refine Since.drewN ?_ _ | with_reducible refine Since.drew ?_ | with_reducible refine Since.set ?_ (by first | assumption | omega | (simp; done) | (simp; omega)) _))⟩
        · have E : Hid (mAskE (⟨⟨⟨ia, oa, ka⟩, ⟨ib, ob, kb⟩, ⟨ic, oc, false⟩, ⟨id, od, kd⟩⟩, lim, L, N, As, ta, tb⟩ : MvS) 2 x y = askE As 2 x y) := Lib.hid (by simp [mAskE, show pathB 2 = true from rfl, Pths.at, h0])
          have h0' : (ic == 0) = false := by simpa using h0
          clear h0
          go_enter Try.func7, Try.ntmps7
          go_wp2_with fail
          refine (PA.out _).mono ?_
          rintro e w1 ⟨rfl, rfl⟩
          trace "S2"; go_wp2_with fail
          refine (PK.out _ (H.out.pr.later (by refine Since.out ?_; repeat (first | with_reducible assumption | with_reducible exact Since.refl _ | with_reducible refine Since.later ?_ (by with_reducible assumption) | with_reducible refine Since.only ?_ (by with_reducible assumption) (by first | assumption | omega | (simp; done) | (simp; omega)) | with_reducible refine Since.alloc ?_ _ | with_reducible refine Since.drewN ?_ _ | with_reducible refine Since.drew ?_ | with_reducible refine Since.set ?_ (by first | assumption | omega | (simp; done) | (simp; omega)) _)))).mono ?_
          rintro e w2 ⟨rfl, hp2, ho2⟩
          trace "T2"; go_wp2_with fail
          go_ret
          refine ⟨by rw [E.out]; rfl, ?_⟩
          rw [mAsk_as E.out]
          exact MLeft.pre (W := _) (by refine Since.out ?_; repeat (first | with_reducible assumption | with_reducible exact Since.refl _ | with_reducible refine Since.later ?_ (by with_reducible assumption) | with_reducible refine Since.only ?_ (by with_reducible assumption) (by first | assumption | omega | (simp; done) | (simp; omega)) | with_reducible refine Since.alloc ?_ _ | with_reducible refine Since.drewN ?_ _ | with_reducible refine Since.drew ?_ | with_reducible refine Since.set ?_ (by first | assumption | omega | (simp; done) | (simp; omega)) _)) ((H.out.later (by refine Since.out ?_; repeat (first | with_reducible assumption | with_reducible exact Since.refl _ | with_reducible refine Since.later ?_ (by with_reducible assumption) | with_reducible refine Since.only ?_ (by with_reducible assumption) (by first | assumption | omega | (simp; done) | (simp; omega)) | with_reducible refine Since.alloc ?_ _ | with_reducible refine Since.drewN ?_ _ | with_reducible refine Since.drew ?_ | with_reducible refine Since.set ?_ (by first | assumption | omega | (simp; done) | (simp; omega)) _))).proofs1 hp2 ho2)
    · have PA := Lib.hid (fun W => path_any 3 W)
      have PK := Lib.hid (fun W hz => pask_any gp bp As 3 x y W hz)
      have d0 : w.cell? ⟨g, 9, none⟩ = some (.int .i64 id) := HB.out.cell 9
      have d1 : w.cell? ⟨g, 10, none⟩ = some (.int .i64 od) := HB.out.cell 10
      have d2 : w.cell? ⟨g, 11, none⟩ = some (.bool kd) := HB.out.cell 11
      have d3 : w.cell? ⟨g, 13, none⟩ = some (.pointer (some ⟨gp, 0, none⟩)) := HB.out.cell 13
      simp only [show pathB 3 = true from rfl] at PA
      clear hb
      cases kd with
      | true =>
        have E : Hid (mAskE (⟨⟨⟨ia, oa, ka⟩, ⟨ib, ob, kb⟩, ⟨ic, oc, kc⟩, ⟨id, od, true⟩⟩, lim, L, N, As, ta, tb⟩ : MvS) 3 x y = askE As 3 x y) := Lib.hid (by simp [mAskE, show pathB 3 = true from rfl, Pths.at])
        go_enter Try.func7, Try.ntmps7
        go_wp2_with fail
        refine (PA.out _).mono ?_
        rintro e w1 ⟨rfl, rfl⟩
        trace "P3"; go_wp2_with fail
        refine (PK.out _ (H.out.pr.later (by refine Since.out ?_; repeat (first | with_reducible assumption | with_reducible exact Since.refl _ | with_reducible refine Since.later ?_ (by with_reducible assumption) | with_reducible refine Since.only ?_ (by with_reducible assumption) (by first | assumption | omega | (simp; done) | (simp; omega)) | with_reducible refine Since.alloc ?_ _ | with_reducible refine Since.drewN ?_ _ | with_reducible refine Since.drew ?_ | with_reducible refine Since.set ?_ (by first | assumption | omega | (simp; done) | (simp; omega)) _)))).mono ?_
        rintro e w2 ⟨rfl, hp2, ho2⟩
        trace "Q3"; go_wp2_with fail
        go_ret
        refine ⟨by rw [E.out]; rfl, ?_⟩
        rw [mAsk_as E.out]
        exact MLeft.pre (W := _) (by refine Since.out ?_; repeat (first | with_reducible assumption | with_reducible exact Since.refl _ | with_reducible refine Since.later ?_ (by with_reducible assumption) | with_reducible refine Since.only ?_ (by with_reducible assumption) (by first | assumption | omega | (simp; done) | (simp; omega)) | with_reducible refine Since.alloc ?_ _ | with_reducible refine Since.drewN ?_ _ | with_reducible refine Since.drew ?_ | with_reducible refine Since.set ?_ (by first | assumption | omega | (simp; done) | (simp; omega)) _)) ((H.out.later (by refine Since.out ?_; repeat (first | with_reducible assumption | with_reducible exact Since.refl _ | with_reducible refine Since.later ?_ (by with_reducible assumption) | with_reducible refine Since.only ?_ (by with_reducible assumption) (by first | assumption | omega | (simp; done) | (simp; omega)) | with_reducible refine Since.alloc ?_ _ | with_reducible refine Since.drewN ?_ _ | with_reducible refine Since.drew ?_ | with_reducible refine Since.set ?_ (by first | assumption | omega | (simp; done) | (simp; omega)) _))).proofs1 hp2 ho2)
      | false =>
        by_cases h0 : id = 0
        · have E : Hid (mAskE (⟨⟨⟨ia, oa, ka⟩, ⟨ib, ob, kb⟩, ⟨ic, oc, kc⟩, ⟨id, od, false⟩⟩, lim, L, N, As, ta, tb⟩ : MvS) 3 x y = 5) := Lib.hid (by simp [mAskE, show pathB 3 = true from rfl, Pths.at, h0])
          have h0' : (id == 0) = true := by simpa using h0
          clear h0
          go_enter Try.func7, Try.ntmps7
          go_wp2_with fail
          refine (PA.out _).mono ?_
          rintro e w1 ⟨rfl, rfl⟩
          trace "R3"; go_wp2_with fail
          go_ret
          exact ⟨by rw [E.out]; rfl, by rw [mask_bad (by rw [E.out]; decide)]; exact H.out.same (by refine Since.out ?_; repeat (first | with_reducible assumption | with_reducible exact Since.refl _ | with_reducible refine Since.later ?_ (by with_reducible assumption) | with_reducible refine Since.only ?_ (by with_reducible assumption) (by first | assumption | omega | (simp; done) | (simp; omega)) | with_reducible refine Since.alloc ?_ _ | with_reducible refine Since.drewN ?_ _ | with_reducible refine Since.drew ?_ | with_reducible refine Since.set ?_ (by first | assumption | omega | (simp; done) | (simp; omega)) _))⟩
        · have E : Hid (mAskE (⟨⟨⟨ia, oa, ka⟩, ⟨ib, ob, kb⟩, ⟨ic, oc, kc⟩, ⟨id, od, false⟩⟩, lim, L, N, As, ta, tb⟩ : MvS) 3 x y = askE As 3 x y) := Lib.hid (by simp [mAskE, show pathB 3 = true from rfl, Pths.at, h0])
          have h0' : (id == 0) = false := by simpa using h0
          clear h0
          go_enter Try.func7, Try.ntmps7
          go_wp2_with fail
          refine (PA.out _).mono ?_
          rintro e w1 ⟨rfl, rfl⟩
          trace "S3"; go_wp2_with fail
          refine (PK.out _ (H.out.pr.later (by refine Since.out ?_; repeat (first | with_reducible assumption | with_reducible exact Since.refl _ | with_reducible refine Since.later ?_ (by with_reducible assumption) | with_reducible refine Since.only ?_ (by with_reducible assumption) (by first | assumption | omega | (simp; done) | (simp; omega)) | with_reducible refine Since.alloc ?_ _ | with_reducible refine Since.drewN ?_ _ | with_reducible refine Since.drew ?_ | with_reducible refine Since.set ?_ (by first | assumption | omega | (simp; done) | (simp; omega)) _)))).mono ?_
          rintro e w2 ⟨rfl, hp2, ho2⟩
          trace "T3"; go_wp2_with fail
          go_ret
          refine ⟨by rw [E.out]; rfl, ?_⟩
          rw [mAsk_as E.out]
          exact MLeft.pre (W := _) (by refine Since.out ?_; repeat (first | with_reducible assumption | with_reducible exact Since.refl _ | with_reducible refine Since.later ?_ (by with_reducible assumption) | with_reducible refine Since.only ?_ (by with_reducible assumption) (by first | assumption | omega | (simp; done) | (simp; omega)) | with_reducible refine Since.alloc ?_ _ | with_reducible refine Since.drewN ?_ _ | with_reducible refine Since.drew ?_ | with_reducible refine Since.set ?_ (by first | assumption | omega | (simp; done) | (simp; omega)) _)) ((H.out.later (by refine Since.out ?_; repeat (first | with_reducible assumption | with_reducible exact Since.refl _ | with_reducible refine Since.later ?_ (by with_reducible assumption) | with_reducible refine Since.only ?_ (by with_reducible assumption) (by first | assumption | omega | (simp; done) | (simp; omega)) | with_reducible refine Since.alloc ?_ _ | with_reducible refine Since.drewN ?_ _ | with_reducible refine Since.drew ?_ | with_reducible refine Since.set ?_ (by first | assumption | omega | (simp; done) | (simp; omega)) _))).proofs1 hp2 ho2)
end Go.Proofs.Ythnolkbolmbkdaa
