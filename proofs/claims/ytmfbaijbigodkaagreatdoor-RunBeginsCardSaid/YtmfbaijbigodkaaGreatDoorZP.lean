/- Contracts and plain laws that the claim leans on, part 1 of 3: each part has its own word. No condition beside theirs. -/
import Derived.Test.YtmfbaijbigodkaaGreatDoorZE
import Derived.Laws.IdiomCopy
import Derived.Deep.RegionLaw
import Derived.Lib.SliceRun
import Derived.Deep.QuietTactic
import Derived.BigQuiet
import Derived.BigRegion
import Derived.Lib.LaidTab
import Derived.Lib.ItoaNum
import Derived.Stop.LaidErr
import Derived.Test.YtmfbaijbigodkaaGreatDoorShelf
import Derived.Lib.ItoaMem
import Derived.Sort.Grow
import Derived.Lib.Atoi
import Derived.Lib.LastIndexLaws
import Derived.Lib.IndexLaws
import Derived.Lib.Strings
import Derived.Lib.SplitLaws
import Derived.Lib.AtoiTie
import Derived.Lib.Join
/-! Contract of an end's Make. Condition: the blocks hold an end as New and the calls leave it, there were no more than 1000 packets, the table of kinds lies there. -/
namespace Go.Proofs.YtmfbaijbigodkaaGreatDoor
open Go.ChangeShapes Go.WideShapes Go.ChangeAt Go.RowKit
set_option linter.unusedVariables false

/-- frames of the call's own -/
structure FlSt (w wr : World) (A : Option Addr) (k : Nat) (Ms : List FrmV) : Prop where
  ls : Lst wr 93 3 (.slice A Ms.length k) (Ms.map frmRow)
  nw : ∀ q, q ∈ blocks (.slice A 0 0) → w.heap.size ≤ q
  each : ∀ g ∈ Ms, FrmIn wr g ∧ farA g (blocks (.slice A 0 0))
  since : Since w wr
theorem FlSt.start {w wr : World} (h : Since w wr) : FlSt w wr none 0 [] := ⟨Lst.nil _ _ _, by simp [Value.ownBlock], by simp, h⟩
theorem FlSt.later {w wr w' : World} {A : Option Addr} {k : Nat} {Ms : List FrmV} (h : FlSt w wr A k Ms) (hb : Below wr.heap.size wr w') : FlSt w w' A k Ms :=
  ⟨h.ls.later hb, h.nw, fun g hg => ⟨(h.each g hg).1.later hb, (h.each g hg).2⟩, h.since.later hb⟩
theorem FlSt.step {w wr X w9 : World} {A : Option Addr} {k q9 c9 : Nat} {Ms : List FrmV} {g : FrmV} (h : FlSt w wr A k Ms) (hX : Below wr.heap.size wr X) (hg : FrmIn X g) (hn : newA g.A wr.heap.size)
    (hl : Lst w9 93 3 (.slice (some ⟨q9, 0, none⟩) (Ms.length + 1) c9) (Ms.map frmRow ++ [frmRow g])) (ho : Out X w9 (blocks (.slice A Ms.length k))) (hq : q9 ∈ blocks (.slice A Ms.length k) ∨ q9 = X.heap.size) :
    FlSt w w9 (some ⟨q9, 0, none⟩) c9 (Ms ++ [g]) := by
  have hbl : blocks (.slice A Ms.length k) = blocks (.slice A 0 0) := blocks_any A _ _ _ _
  rw [hbl] at ho hq
  have hold : ∀ q, q ∈ blocks (.slice A 0 0) → q < wr.heap.size := fun q hq => h.ls.lt q (by rw [hbl]; exact hq)
  have hgf : farA g (blocks (.slice A 0 0)) := fun _ b' off' hA hm => by have := hn b' off' hA; have := hold b' hm; omega
  refine ⟨by rw [List.map_append, List.length_append]; exact hl, fun q hqm => ?_, fun g' hg' => ?_, (h.since.later hX).out' ho h.nw⟩
  · have hm' : q9 = q := by simpa [Value.ownBlock] using hqm
    rw [← hm']
    rcases hq with hq | hq
    · exact h.nw q9 hq
    · rw [hq]; have := h.since.le; have := hX.size; omega
  · have key : ∀ x : FrmV, FrmIn X x → farA x (blocks (.slice A 0 0)) → FrmIn w9 x ∧ farA x (blocks (.slice (some ⟨q9, 0, none⟩) 0 0)) := fun x hx hxf => by
      refine ⟨hx.out ho hxf, fun hne b' off' hA hm => ?_⟩
      have hm' : q9 = b' := by simpa [Value.ownBlock] using hm
      subst hm'
      rcases hq with hq | hq
      · exact hxf hne q9 off' hA hq
      · exact farA_lt hx (Nat.le_of_eq hq.symm) hne q9 off' hA (by simp)
    rcases List.mem_append.1 hg' with hm | hm
    · obtain ⟨e1, e2⟩ := h.each g' hm
      exact key g' (e1.later hX) e2
    · rw [List.mem_singleton.1 hm]; exact key g hg hgf
theorem FlSt.frms {w wr : World} {A : Option Addr} {k : Nat} {Ms : List FrmV} (h : FlSt w wr A k Ms) : FrmsIn wr (.slice A Ms.length k) Ms := ⟨fun g hg => (h.each g hg).1, Rd.of_lst h.ls⟩
/-- a block of one number -/
theorem ints_one {X : World} {B : Nat} {z : Int} (h : BlockIs X B 3 #[.int .i64 z]) (h1 : -9223372036854775808 ≤ z ∧ z ≤ 9223372036854775807) : IntsIn X (.slice (some ⟨B, 0, none⟩) 1 1) [z] := by
  refine ⟨fun n hn => by rw [List.mem_singleton.1 hn]; exact h1, some ⟨B, 0, none⟩, 1, rfl, by simp, by unfold maxLen; decide, fun _ => ⟨B, 0, rfl, h.lt, fun i hi => ?_⟩⟩
  have : i = 0 := by simp at hi; omega
  subst this
  exact h.cell 0
theorem newA_at {B n : Nat} (h : n ≤ B) : newA (some ⟨B, 0, none⟩) n := fun b off e => by
  simp only [Option.some.injEq, Addr.mk.injEq] at e
  omega
theorem newA_lst {W : World} {E size n c N : Nat} {A : Option Addr} {es : List (List Value)} (h : Lst W E size (.slice A n c) es) (hk : ∀ q, q ∈ blocks (.slice A 0 0) → N ≤ q) : newA A N := fun b off e => by
  subst e
  obtain ⟨A9, c9, e9, _, _, h9⟩ := h.shape
  simp only [Value.slice.injEq] at e9
  rcases h9 with ⟨h9, _⟩ | ⟨g9, h9⟩
  · rw [h9] at e9; exact absurd e9.1 (by simp)
  · rw [h9] at e9
    simp only [Option.some.injEq, Addr.mk.injEq] at e9
    obtain ⟨⟨rfl, rfl, _⟩, _⟩ := e9
    exact hk b (by rw [blocks_at]; simp)
theorem Lst.apart2 {w : World} {E1 E2 k1 k2 : Nat} {v1 v2 : Value} {es1 es2 : List (List Value)} (h1 : Lst w E1 k1 v1 es1) (h2 : Lst w E2 k2 v2 es2) (ne : E1 ≠ E2) : ∀ k, k ∈ blocks v1 → k ∉ blocks v2 := by
  intro k hk hk2
  rcases h1.own.2 with ⟨rfl, _⟩ | ⟨g, cap, cur, rfl, _, hg, _⟩
  · simp [blocks, Value.ownBlock] at hk
  · rw [blocks_at, List.mem_singleton] at hk
    subst hk
    exact h2.apart (cs := cur) hg ne hk2
theorem Own.rebase {w w' : World} {S : List Nat} {L : List Thing} (h : Own w S w L) (hb : Below w.heap.size w w') : Own w' S w' L := by
  obtain ⟨own, ho⟩ := h.has
  refine ⟨Out.refl _ _, own, fun i t hi => ?_⟩
  obtain ⟨Si, h1, h2⟩ := ho i t hi
  refine ⟨Si, t.later h1 hb, fun k hk => ⟨(h2 k hk).1, Or.inl ?_⟩⟩
  have := t.lt h1 k hk
  rcases (h2 k hk).2 with h3 | h3
  · exact h3
  · omega
theorem EnIn.later {w w' : World} {S : List Nat} {g : Nat} {s : EnS} {p : EnP} (h : EnIn w S g s p) (hb : Below w.heap.size w w') : EnIn w' S g s p := ⟨h.ok, h.len, h.own.rebase hb⟩
set_option maxHeartbeats 3200000 in
set_option maxRecDepth 100000 in
theorem emake (g : Nat) (s : EnS) (w : World) (S : List Nat) (h : (endT g s).is w S) (hK : KTab w) (h1000 : s.made.length ≤ 1000) :
    Calls Tryz.prog 15 #[.pointer (some ⟨g, 0, none⟩)] w fun e w' => e = .returned (.string ⟨s.packet.toArray⟩) ∧ Leaves w w' S (endT g s.make) := by
  obtain ⟨p, hp⟩ := endT_open h
  have H := Lib.hid hp
  have HK := Lib.hid hK
  have c64 := hp.c64
  have lg := hp.bg.lt
  obtain ⟨Ac, cc, hcv, -, -, -⟩ := hp.lc.shape
  rw [List.length_map] at hcv
  rw [hcv] at c64
  have HRC : Hid (Rd w 2 (.slice Ac s.came.length cc) (s.came.map rngRow)) := Lib.hid (by rw [← hcv]; exact Rd.of_lst hp.lc)
  have HC12 := Lib.hid (rngE_len hp.ok.cm)
  have HX : Hid (∀ X, Since w X → X.cell? ⟨g, 62, none⟩ = some p.mv ∧ X.cell? ⟨g, 63, none⟩ = some (.int .i64 s.known) ∧ X.cell? ⟨g, 66, none⟩ = some (.pointer (some ⟨p.gl, 0, none⟩)) ∧ g < X.heap.size) := Lib.hid (fun X hX => ⟨hX.cell hp.bg.lt hp.c62, hX.cell hp.bg.lt hp.c63, hX.cell hp.bg.lt hp.c66, Nat.lt_of_lt_of_le hp.bg.lt hX.size⟩)
  have HF0 := Lib.hid (FlSt.start (Since.refl w))
  obtain ⟨Am, cm, hmv, -, -, -⟩ := hp.lm.shape
  rw [List.length_map, hp.len] at hmv
  have HMV := Lib.hid hmv
  clear h hp hK hcv hmv
  go_enter Tryz.func15, Tryz.ntmps15
  trace "A"; repeat ((fail_if_success (with_reducible refine stop_at 2 ?_)); first | fail | go_values | go_skip | go_guarded | go_step | go_upon | go_back | go_simp)
  go_cut [3] (fun s3 wx => ∃ A k Ms, s3 = .slice A Ms.length k ∧ FlSt w wx A k Ms ∧ Ms.map (·.f) = ackFs s.came)
  case first =>
    by_cases h0 : s.came = []
    · have hE : Hid (ackFs s.came = []) := Lib.hid (by unfold ackFs; rw [if_pos h0])
      rw [h0] at c64
      clear h0
      go_wp2_with fail
      go_meet
      case rel => exact ⟨none, 0, [], rfl, HF0.out, hE.out.symm⟩
    · have hE : Hid (ackFs s.came = [⟨2, unpairs s.came, ByteArray.empty⟩]) := Lib.hid (by unfold ackFs; rw [if_neg h0])
      have hl0 : (0 : Int) < (s.came.length : Int) := by have := List.length_pos_iff.2 h0; omega
      have hu := unpairs_len s.came
      have hb30 := rngE_ok H.out.ok.cm
      have HG : Hid (∀ (X : World) A1 c1, Lst X 3 1 (.slice A1 (2 * s.came.length) c1) ((unpairs s.came).map intRow) → FrmIn X ⟨⟨2, unpairs s.came, ByteArray.empty⟩, A1, c1⟩) := Lib.hid (fun X A1 c1 hl => by
        rw [← hu] at hl
        exact ⟨show -9223372036854775808 ≤ (2 : Int) ∧ (2 : Int) ≤ 9223372036854775807 by decide, by show ByteArray.empty.size ≤ maxLen; simp [maxLen], ints_of_lst hl (fun z hz => by
          obtain ⟨r, hr, hz⟩ := List.mem_flatMap.1 hz
          obtain ⟨⟨a1, a2⟩, b1, b2⟩ := hb30 r hr
          simp at hz
          rcases hz with rfl | rfl <;> omega)⟩)
      have HU := Lib.hid hu
      clear hu hb30
      trace "B"; go_wp2_with (first
        | (go_at_call 48; refine (facked Ac s.came.length cc s.came _ rfl (by have := HC12.out; omega) HRC.out).mono ?_; rintro e w1 ⟨A1, c1, rfl, hl1, hb1, hk1⟩; have HL1 := Lib.hid hl1; have HB1 := Lib.hid hb1; have HK1 := Lib.hid hk1; clear hl1 hb1 hk1)
        | (at_builtin; refine wpList_push rfl _ _ 91 rfl 93 3 48 Tryz.elFrm (.slice none 0 0) [] rfl (Lst.nil _ _ _) w1.heap.size 1 [.int .i64 2, .slice A1 (2 * s.came.length) c1, .string ⟨#[]⟩] rfl rfl (by intro u hu; simp at hu; rcases hu with rfl | rfl | rfl <;> rfl) (BlockIs.fresh _ _ _) (by simp) ?_; intro q cq w5 hl5 ho5 hq5 hlt5))
      go_meet
      case rel =>
        refine ⟨some ⟨q, 0, none⟩, cq, [⟨⟨2, unpairs s.came, ByteArray.empty⟩, A1, c1⟩], rfl, ?_, hE.out.symm⟩
        have hb1 : Since w w1 := HB1.out
        have hX : Below w.heap.size w (w1.alloc (.cells #[.int .i64 2, .slice A1 (2 * s.came.length) c1, .string ⟨#[]⟩] 93)) := (show Since w _ from (by refine Since.out ?_; repeat (first | with_reducible assumption | with_reducible exact Since.refl _ | with_reducible refine Since.later ?_ (by with_reducible assumption) | with_reducible refine Since.only ?_ (by with_reducible assumption) (by first | assumption | omega | (simp; done) | (simp; omega)) | with_reducible refine Since.alloc ?_ _ | with_reducible refine Since.drewN ?_ _ | with_reducible refine Since.drew ?_ | with_reducible refine Since.set ?_ (by first | assumption | omega | (simp; done) | (simp; omega)) _)))
        refine HF0.out.step (g := ⟨⟨2, unpairs s.came, ByteArray.empty⟩, A1, c1⟩) hX (HG.out _ A1 c1 (HL1.out.alloc _)) (fun b off e => ?_) ?_ ho5 hq5
        · exact newA_lst HL1.out HK1.out b off e
        · have e : frmRow ⟨⟨2, unpairs s.came, ByteArray.empty⟩, A1, c1⟩ = [.int .i64 2, .slice A1 (2 * s.came.length) c1, .string ⟨#[]⟩] := by unfold frmRow; rw [HU.out]; rfl
          rw [e]; exact hl5
  case rest =>
    obtain ⟨A, k, Ms, rfl, hf, hms⟩ := hcut
    have HF := Lib.hid hf
    have HMS := Lib.hid hms
    have hs : Since w wc := hf.since
    obtain ⟨d62, d63, d66, lx⟩ := HX.out wc hf.since
    obtain ⟨m, hm⟩ : ∃ m, Ms.length = m := ⟨_, rfl⟩
    have HM := Lib.hid hm
    have hm1 : m ≤ 1 := by
      have e := congrArg List.length hms
      rw [List.length_map, hm] at e
      rw [e]; unfold ackFs; split <;> simp
    obtain ⟨es, hes⟩ : ∃ es, Ms.map frmRow = es := ⟨_, rfl⟩
    have HES : Hid (es.length = m) := Lib.hid (by rw [← hes, List.length_map]; exact hm)
    have HEQ := Lib.hid hes
    have HLS : Hid (Lst wc 93 3 (.slice A m k) es) := Lib.hid (by have := hf.ls; rw [hes, hm] at this; exact this)
    have HLL : Hid (MayBe s.L) := Lib.hid (by have := H.out.ok.cr; have := this.l1; have := H.out.ok.cr.w1; have := H.out.ok.cr.l2; unfold MayBe; omega)
    rw [hm]
    clear hf hms hm hes
    trace "C"; go_upto_region 5 with (first
      | (go_at_call 49; refine (climit p.gl s.W s.L s.C s.R _ (H.out.bl.later hs)).mono ?_; rintro e w1 ⟨rfl, rfl⟩)
      | (at_builtin; refine wpList_push rfl _ _ 91 rfl 93 3 48 Tryz.elFrm (.slice A m k) es rfl ((HLS.out.alloc _).alloc _) (wc.heap.size + 1) 1 [.int .i64 4, .slice (some ⟨wc.heap.size, 0, none⟩) 1 1, .string ⟨#[]⟩] rfl rfl (by intro u hu; simp at hu; rcases hu with rfl | rfl | rfl <;> rfl) (BlockIs.fresh_at (by simp)) (by rw [HES.out]; omega) ?_; intro q cq w5 hl5 ho5 hq5 hlt5; rw [HES.out] at hl5; rw [HES.out]))
    have HF5 : Hid (FlSt w w5 (some ⟨q, 0, none⟩) cq (Ms ++ [⟨⟨4, [s.L], ByteArray.empty⟩, some ⟨wc.heap.size, 0, none⟩, 1⟩])) := Lib.hid (by
      have hX : Below wc.heap.size wc ((wc.alloc (.cells #[.int .i64 s.L] 3)).alloc (.cells #[.int .i64 4, .slice (some ⟨wc.heap.size, 0, none⟩) 1 1, .string ⟨#[]⟩] 93)) := (show Since wc _ from (by refine Since.out ?_; repeat (first | with_reducible assumption | with_reducible exact Since.refl _ | with_reducible refine Since.later ?_ (by with_reducible assumption) | with_reducible refine Since.only ?_ (by with_reducible assumption) (by first | assumption | omega | (simp; done) | (simp; omega)) | with_reducible refine Since.alloc ?_ _ | with_reducible refine Since.drewN ?_ _ | with_reducible refine Since.drew ?_ | with_reducible refine Since.set ?_ (by first | assumption | omega | (simp; done) | (simp; omega)) _)))
      have hmb := HLL.out
      unfold MayBe at hmb
      refine HF.out.step (g := ⟨⟨4, [s.L], ByteArray.empty⟩, some ⟨wc.heap.size, 0, none⟩, 1⟩) hX ⟨show -9223372036854775808 ≤ (4 : Int) ∧ (4 : Int) ≤ 9223372036854775807 by decide, by show ByteArray.empty.size ≤ maxLen; simp [maxLen], ints_one ((BlockIs.fresh _ _ _).alloc _) (by omega)⟩ (newA_at (Nat.le_refl _)) ?_ ?_ ?_
      · rw [HM.out, HEQ.out]; exact hl5
      · rw [HM.out]; exact ho5
      · rw [HM.out]; exact hq5)
    have HM5 : Hid ((Ms ++ [(⟨⟨4, [s.L], ByteArray.empty⟩, some ⟨wc.heap.size, 0, none⟩, 1⟩ : FrmV)]).map (·.f) = ackFs s.came ++ [⟨4, [s.L], ByteArray.empty⟩]) := Lib.hid (by rw [List.map_append, HMS.out]; rfl)
    have HL5 : Hid ((Ms ++ [(⟨⟨4, [s.L], ByteArray.empty⟩, some ⟨wc.heap.size, 0, none⟩, 1⟩ : FrmV)]).length = m + 1) := Lib.hid (by rw [List.length_append, HM.out]; rfl)
    obtain ⟨M5, hM5⟩ : ∃ M, Ms ++ [(⟨⟨4, [s.L], ByteArray.empty⟩, some ⟨wc.heap.size, 0, none⟩, 1⟩ : FrmV)] = M := ⟨_, rfl⟩
    rw [hM5] at HF5 HM5 HL5
    have hs5 : Since w w5 := HF5.out.since
    clear hl5 ho5 hq5 hM5 HF HMS HM HES HEQ HLS d62 d63 d66 lx
    trace "D"; go_wp2_with (go_at_call 50; refine (epieces g s p _ S (H.out.later hs5)).mono ?_; rintro e w6 ⟨Ap, cp, rfl, hl6, hb6, hk6⟩)
    have hs6 : Since w w6 := hs5.later hb6
    have HF6 := Lib.hid (HF5.out.later hb6)
    have HKW : Hid (∀ k, k ∈ blocks (.slice Ap 0 0) → w.heap.size ≤ k) := Lib.hid (fun k hk => Nat.le_trans hs5.size (hk6 k hk))
    have HP6 := Lib.hid hl6
    have HK6 := Lib.hid hk6
    obtain ⟨np, hnp⟩ : ∃ n, s.pieces.length = n := ⟨_, rfl⟩
    have HNP := Lib.hid hnp
    have hnp3 : np ≤ 3 := by rw [← hnp]; exact pieces_len s
    rw [hnp] at HP6
    rw [hnp]
    clear hl6 hk6 hnp HF5
    trace "E"; go_wp2_with fail
    trace "F"; go_loopw [3, 36] (fun s3 s36 wr => ∃ (j k : Nat) (A : Option Addr) (Ms : List FrmV), s36 = .int .i64 j ∧ j ≤ np ∧ s3 = .slice A (m + 1 + j) k ∧ Ms.length = m + 1 + j ∧ FlSt w wr A k Ms ∧ Ms.map (·.f) = ackFs s.came ++ ⟨4, [s.L], ByteArray.empty⟩ :: (s.pieces.take j).map pcFrm ∧ Lst wr 98 2 (.slice Ap np cp) (s.pieces.map pcRow)) (fun s3 s36 _ => np - (intOf s36).toNat)
    case atStart => exact ⟨0, cq, some ⟨q, 0, none⟩, M5, rfl, Nat.zero_le _, rfl, HL5.out, HF6.out, by rw [HM5.out, List.take_zero]; rfl, HP6.out⟩
    case round =>
      obtain ⟨j, k2, A3, Mj, rfl, hj, rfl, hmj, hfj, hmm, hsj⟩ := hrel
      have HFJ := Lib.hid hfj
      have HMJ := Lib.hid hmm
      have HLJ := Lib.hid hmj
      clear hfj hmm hmj
      by_cases hlt : j < np
      case neg =>
        obtain rfl : j = np := by omega
        have hlt' : decide ((j : Int) < (j : Int)) = false := by simp
        trace "G"; go_wp2_with fail
        have hsr : Since w wr := HFJ.out.since
        obtain ⟨d62, d63, -, lx⟩ := HX.out wr hsr
        rw [HMV.out] at d62
        have hpk : pktB (s.made.length : Int) s.known (Mj.map (·.f)) = s.packet := by
          rw [HMJ.out, show s.pieces.take j = s.pieces by rw [← HNP.out, List.take_length]]; rfl
        have HPK : Hid (∀ X, Since wr X → Calls Tryz.prog 51 #[.int .i64 s.made.length, .int .i64 s.known, .slice A3 (m + 1 + j) k2] X fun e w' => e = .returned (.string ⟨s.packet.toArray⟩) ∧ Below X.heap.size X w') := Lib.hid (fun X hX => by
          have hfr := H.out.ok.framesOk.1
          have h1 := pkbytes (s.made.length : Int) s.known A3 (m + 1 + j) k2 Mj X HLJ.out (by omega) (by have := (HFJ.out.later hX).frms; rw [HLJ.out] at this; exact this) (by
            rw [HMJ.out, show s.pieces.take j = s.pieces by rw [← HNP.out, List.take_length]]
            exact frmsE_of hfr) (H.out.ok.packetOk (by omega)).2.1 (HK.out.later (hsr.later hX))
          rw [hpk] at h1
          exact h1)
        clear hpk
        trace "H"; go_region_law (go_simp; go_at_call 51; refine (HPK.out _ (show Since wr _ from (by refine Since.out ?_; repeat (first | with_reducible assumption | with_reducible exact Since.refl _ | with_reducible refine Since.later ?_ (by with_reducible assumption) | with_reducible refine Since.only ?_ (by with_reducible assumption) (by first | assumption | omega | (simp; done) | (simp; omega)) | with_reducible refine Since.alloc ?_ _ | with_reducible refine Since.drewN ?_ _ | with_reducible refine Since.drew ?_ | with_reducible refine Since.set ?_ (by first | assumption | omega | (simp; done) | (simp; omega)) _)))).mono ?_; rintro e w7 ⟨rfl, hb7⟩; have HS7 := Lib.hid (show Since wr w7 from (by refine Since.out ?_; repeat (first | with_reducible assumption | with_reducible exact Since.refl _ | with_reducible refine Since.later ?_ (by with_reducible assumption) | with_reducible refine Since.only ?_ (by with_reducible assumption) (by first | assumption | omega | (simp; done) | (simp; omega)) | with_reducible refine Since.alloc ?_ _ | with_reducible refine Since.drewN ?_ _ | with_reducible refine Since.drew ?_ | with_reducible refine Since.set ?_ (by first | assumption | omega | (simp; done) | (simp; omega)) _))); clear hb7)
        all_goals
          have hs7 : Since w w7 := hsr.later HS7.out
          obtain ⟨e62, -, -, lx7⟩ := HX.out w7 hs7
          rw [HMV.out] at e62
          have HO7 : Hid (Own w S w7 (enParts g s p ++ [Thing.lst 98 2 (.slice Ap j cp) (s.pieces.map pcRow)])) := Lib.hid (H.out.own.add hs7 (S := blocks (.slice Ap j cp)) ⟨hsj.later HS7.out, rfl⟩ (fun k hk => HKW.out k (blocks_any Ap _ _ _ _ ▸ hk)))
          have fz7 : ∀ i, w7.frozen? ⟨g, i, none⟩ = false := (HO7.out.blk 0 rfl).free
          obtain ⟨es, hes⟩ : ∃ es, (p.vs.map fun v => [v]) = es := ⟨_, rfl⟩
          have HES : Hid (es.length = s.made.length) := Lib.hid (by rw [← hes, List.length_map]; exact H.out.len)
          have HL7 : Hid (Lst w7 95 1 (.slice Am s.made.length cm) es) := Lib.hid (by have := HO7.out.ls 3 rfl; rw [hes, HMV.out] at this; exact this)
          have HEQ := Lib.hid hes
          clear hes d62 d63
          trace "I"; go_wp2_with (at_builtin; refine wpList_push rfl _ _ 43 rfl 95 1 24 Tryz.elPcs (.slice Am s.made.length cm) es rfl (HL7.out.alloc _) w7.heap.size 1 [.slice Ap j cp] rfl rfl (by intro u hu; simp at hu; rw [hu]; rfl) (BlockIs.fresh _ _ _) (by rw [HES.out]; omega) ?_; intro q8 c8 w8 hl8 ho8 hq8 hlt8; rw [HES.out] at hl8; rw [HES.out]; have hb8 := ho8.block' ((HO7.out.blk 0 rfl).alloc _) (HL7.out.apart (HO7.out.blk 0 rfl) (by decide)); have x62 : w8.cell? ⟨g, 62, none⟩ = some p.mv := (hb8.cell 62).trans (enCells_tail _ _ _ _ H.out.ok.tl 1); have fz8 := hb8.free; have lx8 := hb8.lt)
          have HO8 : Hid (Own w S w8 ((enParts g s p ++ [Thing.lst 98 2 (.slice Ap j cp) (s.pieces.map pcRow)]).set 3 (Thing.lst 95 1 (.slice (some ⟨q8, 0, none⟩) (s.made.length + 1) c8) (es ++ [[.slice Ap j cp]])))) := Lib.hid (by
            obtain ⟨S3, ⟨h3, h3'⟩, up⟩ := (HO7.out.later ((Since.refl w7).alloc (.cells #[.slice Ap j cp] 95))).at_ 3 rfl
            have hS3 : S3 = blocks (.slice Am s.made.length cm) := by rw [h3', HMV.out]
            refine up w8 _ ⟨blocks (.slice (some ⟨q8, 0, none⟩) (s.made.length + 1) c8), ⟨hl8, rfl⟩, by rw [hS3]; exact ho8, fun k hk => ?_⟩
            have e8 : k = q8 := by rw [blocks_at] at hk; simpa using hk
            subst e8
            rcases hq8 with h9 | h9
            · left; rw [hS3]; exact h9
            · right; rw [h9]; exact Nat.le_refl _)
          have HO9 := Lib.hid (HO8.out.put 0 rfl 62 (.slice (some ⟨q8, 0, none⟩) (s.made.length + 1) c8))
          clear hb8 hl8 ho8 hq8
          trace "J"; go_wp2_with fail
          go_ret
          refine ⟨rfl, endT_close (p := ⟨p.gi, p.gl, .slice (some ⟨q8, 0, none⟩) (s.made.length + 1) c8, p.cv, p.vs ++ [.slice Ap j cp]⟩) H.out.ok.make (by show (p.vs ++ [_]).length = (s.made ++ [_]).length; simp [H.out.len]) ?_⟩
          have h9 := HO9.out
          rw [enCells_62 _ _ _ _ H.out.ok.tl] at h9
          have e9 : enParts g s.make ⟨p.gi, p.gl, .slice (some ⟨q8, 0, none⟩) (s.made.length + 1) c8, p.cv, p.vs ++ [.slice Ap j cp]⟩ = ((enParts g s p ++ [Thing.lst 98 2 (.slice Ap j cp) (s.pieces.map pcRow)]).set 3 (Thing.lst 95 1 (.slice (some ⟨q8, 0, none⟩) (s.made.length + 1) c8) (es ++ [[.slice Ap j cp]]))).set 0 (Thing.block g 83 (enCells s (.slice (some ⟨q8, 0, none⟩) (s.made.length + 1) c8) p.cv p.gi p.gl).toArray) := by
            have e1 : inner (p.vs ++ [.slice Ap j cp]) (s.made ++ [s.pieces]) = inner p.vs s.made ++ [Thing.lst 98 2 (.slice Ap j cp) (s.pieces.map pcRow)] := inner_snoc _ _ H.out.len
            have e2 : (p.vs ++ [Value.slice Ap j cp]).map (fun v => [v]) = es ++ [[.slice Ap j cp]] := by rw [List.map_append, HEQ.out]; rfl
            show Thing.block _ _ _ :: Thing.block _ _ _ :: Thing.block _ _ _ :: Thing.lst _ _ _ ((p.vs ++ [Value.slice Ap j cp]).map (fun v => [v])) :: Thing.lst _ _ _ _ :: inner (p.vs ++ [.slice Ap j cp]) (s.made ++ [s.pieces]) = _
            rw [e1, e2]
            rfl
          rw [e9]
          exact h9
      have hjp : j < s.pieces.length := by rw [HNP.out]; exact hlt
      have hl6 := hsj
      have HSJ := Lib.hid hsj
      obtain ⟨b2, hA2, lb2, p0, p1⟩ := hl6.pc hjp
      have hpc := H.out.ok.piece (List.getElem_mem hjp)
      have hla := H.out.ok.last
      have HTK := Lib.hid (List.take_succ_eq_append_getElem hjp)
      obtain ⟨⟨a, d⟩, hpp⟩ : ∃ x, s.pieces[j] = x := ⟨_, rfl⟩
      rw [hpp] at p0 p1 HTK hpc
      dsimp only at p0 p1 hpc
      have hd20 : d.size ≤ 20 := hpc.1.2.2
      have ha60 : a ≤ 60 := by have := hpc.1.1; omega
      have hlt' : (j : Int) < (np : Int) := by omega
      have hmj5 : m + 1 + j ≤ 5 := by omega
      obtain ⟨es, hes⟩ : ∃ es, Mj.map frmRow = es := ⟨_, rfl⟩
      have HES : Hid (es.length = m + 1 + j) := Lib.hid (by rw [← hes, List.length_map]; exact HLJ.out)
      have HEQ := Lib.hid hes
      have HLS : Hid (Lst wr 93 3 (.slice A3 (m + 1 + j) k2) es) := Lib.hid (by have := HFJ.out.ls; rw [hes, HLJ.out] at this; exact this)
      subst hA2
      clear hl6 hpc hla hpp hes hjp
      obtain ⟨mm, hmm⟩ : ∃ x, m + 1 + j = x := ⟨_, rfl⟩
      have HMM := Lib.hid hmm
      rw [hmm] at HES HLS hmj5 HLJ
      rw [hmm]
      clear hmm
      trace "K"; go_wp2_with (at_builtin; refine wpList_push rfl _ _ 91 rfl 93 3 48 Tryz.elFrm (.slice A3 mm k2) es rfl (((HLS.out.alloc _).alloc _).alloc _) (wr.heap.size + 1 + 1) 1 [.int .i64 3, .slice (some ⟨wr.heap.size + 1, 0, none⟩) 1 1, .string d] rfl rfl (by intro u hu; simp at hu; rcases hu with rfl | rfl | rfl <;> rfl) (BlockIs.fresh_at (by simp)) (by rw [HES.out]; omega) ?_; intro q9 c9 w9 hl9 ho9 hq9 hlt9; rw [HES.out] at hl9; rw [HES.out])
      have HF9 : Hid (FlSt w w9 (some ⟨q9, 0, none⟩) c9 (Mj ++ [⟨⟨3, [(a : Int)], d⟩, some ⟨wr.heap.size + 1, 0, none⟩, 1⟩])) := Lib.hid (by
        have hX : Below wr.heap.size wr (((wr.alloc (.cells #[.int .i64 a, .string d] 98)).alloc (.cells #[.int .i64 a] 3)).alloc (.cells #[.int .i64 3, .slice (some ⟨wr.heap.size + 1, 0, none⟩) 1 1, .string d] 93)) := (show Since wr _ from (by refine Since.out ?_; repeat (first | with_reducible assumption | with_reducible exact Since.refl _ | with_reducible refine Since.later ?_ (by with_reducible assumption) | with_reducible refine Since.only ?_ (by with_reducible assumption) (by first | assumption | omega | (simp; done) | (simp; omega)) | with_reducible refine Since.alloc ?_ _ | with_reducible refine Since.drewN ?_ _ | with_reducible refine Since.drew ?_ | with_reducible refine Since.set ?_ (by first | assumption | omega | (simp; done) | (simp; omega)) _)))
        refine HFJ.out.step (g := ⟨⟨3, [(a : Int)], d⟩, some ⟨wr.heap.size + 1, 0, none⟩, 1⟩) hX ⟨show -9223372036854775808 ≤ (3 : Int) ∧ (3 : Int) ≤ 9223372036854775807 by decide, by show d.size ≤ maxLen; simp [maxLen]; omega, ints_one ((BlockIs.fresh_at (by simp)).alloc _) (by omega)⟩ (newA_at (by omega)) ?_ ?_ ?_
        · rw [HLJ.out, HEQ.out]; exact hl9
        · rw [HLJ.out]; exact ho9
        · rw [HLJ.out]; exact hq9)
      have hs9 : Lst w9 98 2 (.slice (some ⟨b2, 0, none⟩) np cp) (s.pieces.map pcRow) := (((HSJ.out.alloc _).alloc _).alloc _).kept ho9 (HSJ.out.apart2 HLS.out (by decide))
      clear hl9 ho9 hq9
      trace "L"; go_wp2_with fail
      go_roundw
      case rel => exact ⟨j + 1, c9, some ⟨q9, 0, none⟩, _, by go_num, by omega, by have := HMM.out; rw [← this]; rfl, by rw [List.length_append, HLJ.out]; have := HMM.out; simp; omega, HF9.out, by rw [List.map_append, HMJ.out, HTK.out, List.map_append]; simp [pcFrm], hs9⟩
      case measure => simp [intOf]; omega
end Go.Proofs.YtmfbaijbigodkaaGreatDoor

/-! Contract of an end's Take. Condition: the blocks hold an end as New and the calls leave it, there were no more than 1000 packets, the tables lie there. -/
namespace Go.Proofs.YtmfbaijbigodkaaGreatDoor
open Go.ChangeShapes Go.WideShapes Go.ChangeAt Go.RowKit
set_option linter.unusedVariables false

/-- three new blocks more -/
theorem Own.add3 {w0 w w' : World} {S0 : List Nat} {L : List Thing} (h : Own w0 S0 w L) (hb : Below w.heap.size w w') {g1 g2 g3 : Nat} {t1 t2 t3 : TypeId} {c1 c2 c3 : Array Value} (h1 : BlockIs w' g1 t1 c1) (h2 : BlockIs w' g2 t2 c2) (h3 : BlockIs w' g3 t3 c3)
    (e1 : w.heap.size ≤ g1) (e2 : w.heap.size ≤ g2) (e3 : w.heap.size ≤ g3) (n1 : g1 ≠ g2) (n2 : g1 ≠ g3) (n3 : g2 ≠ g3) : Own w0 S0 w' (L ++ [Thing.block g1 t1 c1, Thing.block g2 t2 c2, Thing.block g3 t3 c3]) := by
  obtain ⟨own, ho⟩ := h.has
  have hs := h.out.size
  refine ⟨h.out.later hb, fun k => if k < w.heap.size then own k else if k = g1 then L.length else if k = g2 then L.length + 1 else L.length + 2, fun i t hi => ?_⟩
  rcases Nat.lt_or_ge i L.length with hl | hl
  · rw [List.getElem?_append_left hl] at hi
    obtain ⟨S, a, b⟩ := ho i t hi
    exact ⟨S, t.later a hb, fun k hk => ⟨(if_pos (t.lt a k hk)).trans (b k hk).1, (b k hk).2⟩⟩
  · rw [List.getElem?_append_right hl] at hi
    obtain ⟨d, rfl⟩ : ∃ d, i = L.length + d := ⟨i - L.length, by omega⟩
    rw [Nat.add_sub_cancel_left] at hi
    match d, hi with
    | 0, hi =>
      simp only [List.getElem?_cons_zero, Option.some.injEq] at hi
      subst hi
      exact ⟨[g1], ⟨h1, rfl⟩, fun k hk => by
        rw [List.mem_singleton.1 hk]
        exact ⟨by dsimp only; rw [if_neg (by omega), if_pos rfl]; rfl, Or.inr (by omega)⟩⟩
    | 1, hi =>
      simp only [List.getElem?_cons_succ, List.getElem?_cons_zero, Option.some.injEq] at hi
      subst hi
      exact ⟨[g2], ⟨h2, rfl⟩, fun k hk => by
        rw [List.mem_singleton.1 hk]
        exact ⟨by dsimp only; rw [if_neg (by omega), if_neg (by omega), if_pos rfl], Or.inr (by omega)⟩⟩
    | 2, hi =>
      simp only [List.getElem?_cons_succ, List.getElem?_cons_zero, Option.some.injEq] at hi
      subst hi
      exact ⟨[g3], ⟨h3, rfl⟩, fun k hk => by
        rw [List.mem_singleton.1 hk]
        exact ⟨by dsimp only; rw [if_neg (by omega), if_neg (by omega), if_neg (by omega)], Or.inr (by omega)⟩⟩
    | d + 3, hi => simp at hi
/-- some of them, in another order -/
theorem Own.pickf {w0 w : World} {S0 : List Nat} {L L' : List Thing} (h : Own w0 S0 w L) (f g : Nat → Nat) (hg : ∀ i, i < L'.length → g (f i) = i) (hL : ∀ (i : Nat) t, L'[i]? = some t → L[f i]? = some t) : Own w0 S0 w L' := by
  obtain ⟨own, ho⟩ := h.has
  refine ⟨h.out, fun k => g (own k), fun i t hi => ?_⟩
  obtain ⟨S, a, b⟩ := ho (f i) t (hL i t hi)
  exact ⟨S, a, fun k hk => ⟨by show g (own k) = i; rw [(b k hk).1]; exact hg i (List.getElem?_eq_some_iff.1 hi).1, (b k hk).2⟩⟩
theorem takes_app (A B : List Frm) : ∀ s : EnS, s.takes (A ++ B) = if (s.takes A).1 = 0 then (s.takes A).2.takes B else s.takes A := by
  induction A with
  | nil => intro s; simp [EnS.takes]
  | cons f A ih =>
    intro s
    rw [List.cons_append, EnS.takes, EnS.takes]
    by_cases h : s.take1E f = 0
    · rw [if_pos h, if_pos h, ih]
    · rw [if_neg h, if_neg h, if_neg h]
theorem takes_one (s : EnS) (f : Frm) : s.takes [f] = (s.take1E f, s.take1 f) := by
  rw [EnS.takes]
  by_cases h : s.take1E f = 0
  · rw [if_pos h, h]; rfl
  · rw [if_neg h]
theorem takes_succ {s : EnS} {L : List Frm} {i : Nat} (h : i < L.length) (h0 : (s.takes (L.take i)).1 = 0) : s.takes (L.take (i + 1)) = ((s.takes (L.take i)).2.take1E L[i], (s.takes (L.take i)).2.take1 L[i]) := by
  rw [List.take_succ_eq_append_getElem h, takes_app, if_pos h0, takes_one]
theorem takes_stop {s : EnS} {L : List Frm} {i : Nat} (h0 : (s.takes (L.take i)).1 ≠ 0) : (s.takes L).1 = (s.takes (L.take i)).1 := by
  have e : s.takes L = s.takes (L.take i ++ L.drop i) := by rw [List.take_append_drop]
  rw [e, takes_app, if_neg h0]
theorem take1_made (s : EnS) (f : Frm) : (s.take1 f).made = s.made := by
  unfold EnS.take1
  repeat' split
  all_goals rfl
theorem takes_made (L : List Frm) : ∀ s : EnS, (s.takes L).2.made = s.made := by
  induction L with
  | nil => intro s; rfl
  | cons f r ih =>
    intro s
    rw [EnS.takes]
    split
    · rw [ih, take1_made]
    · exact take1_made s f
theorem FrmsIn.agg_at {w : World} {A : Option Addr} {n c : Nat} {Ms : List FrmV} (h : FrmsIn w (.slice A n c) Ms) (hn : Ms.length = n) {i : Nat} (hi : i < n) : ∃ b off, A = some ⟨b, off, none⟩ ∧ b < w.heap.size ∧ ∀ w', Since w w' → w'.cell? ⟨b, off + i * 3, none⟩ = some (.int .i64 (Ms[i]'(by omega)).f.kind) ∧ w'.cell? ⟨b, off + i * 3 + 1, none⟩ = some (.slice (Ms[i]'(by omega)).A (Ms[i]'(by omega)).f.nums.length (Ms[i]'(by omega)).cap) ∧ w'.cell? ⟨b, off + i * 3 + 2, none⟩ = some (.string (Ms[i]'(by omega)).f.data) := by
  have hi' : i < Ms.length := by omega
  obtain ⟨b, off, hA, hlt, hc⟩ := h.rd.frm hi'
  refine ⟨b, off, hA, hlt, fun w' hw => ?_⟩
  have := hc w' hw i hi'
  exact this
theorem openL_few (b : List UInt8) (next : Int) : (openL b next).length ≤ 12 := by
  unfold openL
  split
  · unfold openF
    cases hr : rdFs b ((bat b 0).toNat + 1) b.length with
    | none => simp
    | some p =>
      obtain ⟨L, k⟩ := p
      simp only
      split
      · simp
      · rename_i hx
        simp only [Option.getD_some]
        omega
  · simp
set_option maxHeartbeats 3200000 in
set_option maxRecDepth 100000 in
theorem etake (g : Nat) (s : EnS) (b : ByteArray) (w : World) (S : List Nat) (h : (endT g s).is w S) (hK : KTab w) (hC : CTab w) (h1000 : s.made.length ≤ 1000) (hz : b.size ≤ 9223372036854775000) :
    Calls Tryz.prog 17 #[.pointer (some ⟨g, 0, none⟩), .string b] w fun e w' => e = .returned (errV (s.takeE b.data.toList)) ∧ Leaves w w' S (endT g (s.take b.data.toList)) := by
  have H0 := Lib.hid h
  obtain ⟨p, hp⟩ := endT_open h
  have H := Lib.hid hp
  have HK := Lib.hid hK
  have HC := Lib.hid hC
  have HN := Lib.hid (fun (X : World) (hX : Since w X) => enext g s X S ((endT g s).later h hX))
  have HPS := Lib.hid (fun (X : World) (hX : Since w X) (z : Int) => pkparse b z X (by omega) (hK.later hX) (hC.later hX))
  obtain ⟨l, hl⟩ : ∃ l, b.data.toList = l := ⟨_, rfl⟩
  rw [hl] at HPS
  obtain ⟨RE, hRE⟩ : ∃ E, s.takeE b.data.toList = E := ⟨_, rfl⟩
  obtain ⟨RS, hRS⟩ : ∃ E, s.take b.data.toList = E := ⟨_, rfl⟩
  rw [hRE, hRS]
  rw [hl] at hRE hRS
  obtain ⟨nx, hnx⟩ : ∃ n, nextN s.came = n := ⟨_, rfl⟩
  have hE1 : Hid (openE l nx ≠ 0 → RE = openE l nx ∧ RS = s) := Lib.hid (fun h0 => ⟨by rw [← hRE]; unfold EnS.takeE; rw [hnx, if_neg h0], by rw [← hRS]; unfold EnS.take; rw [hnx, if_neg h0]⟩)
  have hE0 : Hid (openE l nx = 0 → RE = s.pktE (openN l nx) (openL l nx) ∧ RS = s.pkt (openN l nx) (openL l nx)) := Lib.hid (fun h0 => ⟨by rw [← hRE]; unfold EnS.takeE; rw [hnx, if_pos h0], by rw [← hRS]; unfold EnS.take; rw [hnx, if_pos h0]⟩)
  have HFO := Lib.hid (openL_ok l nx)
  have HFW := Lib.hid (openL_few l nx)
  rw [hnx] at HN
  have lg := hp.bg.lt
  clear h hp hK hC hl hRE hRS hnx
  go_enter Tryz.func17, Tryz.ntmps17
  trace "A"; go_wp2_with (go_at_call 54; refine (HN.out _ (by refine Since.out ?_; repeat (first | with_reducible assumption | with_reducible exact Since.refl _ | with_reducible refine Since.later ?_ (by with_reducible assumption) | with_reducible refine Since.only ?_ (by with_reducible assumption) (by first | assumption | omega | (simp; done) | (simp; omega)) | with_reducible refine Since.alloc ?_ _ | with_reducible refine Since.drewN ?_ _ | with_reducible refine Since.drew ?_ | with_reducible refine Since.set ?_ (by first | assumption | omega | (simp; done) | (simp; omega)) _))).mono ?_; rintro e w1 ⟨rfl, rfl⟩)
  refine (HPS.out _ (by refine Since.out ?_; repeat (first | with_reducible assumption | with_reducible exact Since.refl _ | with_reducible refine Since.later ?_ (by with_reducible assumption) | with_reducible refine Since.only ?_ (by with_reducible assumption) (by first | assumption | omega | (simp; done) | (simp; omega)) | with_reducible refine Since.alloc ?_ _ | with_reducible refine Since.drewN ?_ _ | with_reducible refine Since.drew ?_ | with_reducible refine Since.set ?_ (by first | assumption | omega | (simp; done) | (simp; omega)) _)) nx).mono ?_
  rintro e w1 ⟨A1, n1, c1, Ms, rfl, hb1, hf1, hn1, hm1⟩
  have hs1 : Since w w1 := hb1
  have HF1 := Lib.hid hf1
  have HM1 := Lib.hid hm1
  clear hf1 hm1 hb1 HPS HN
  by_cases hE : openE l nx = 0
  case neg =>
    have HH := Lib.hid (hE1.out hE)
    rw [errV_pos hE]
    have HEP := Lib.hid (errV_pos hE)
    obtain ⟨ee, hee⟩ : ∃ e, openE l nx = e := ⟨_, rfl⟩
    rw [hee] at HH HEP
    rw [hee]
    clear hE hee
    trace "B"; go_wp2_with fail
    go_ret
    rw [HH.out.1, HH.out.2, HEP.out]
    exact ⟨rfl, Leaves.same H0.out hs1⟩
  have HH := Lib.hid (hE0.out hE)
  rw [hE, errV_zero]
  clear hE
  obtain ⟨n, hn⟩ : ∃ n, openN l nx = n := ⟨_, rfl⟩
  obtain ⟨L, hL⟩ : ∃ L, openL l nx = L := ⟨_, rfl⟩
  rw [hn, hL] at HH
  rw [hL] at HM1 HFO HFW
  rw [hn]
  have hn12 : n1 ≤ 12 := by
    have h1 := congrArg List.length HM1.out
    rw [List.length_map, hn1] at h1
    have := HFW.out
    omega
  clear hn hL
  obtain ⟨c64, lx1⟩ : w1.cell? ⟨g, 64, none⟩ = some p.cv ∧ g < w1.heap.size := ⟨hs1.cell H.out.bg.lt H.out.c64, Nat.lt_of_lt_of_le H.out.bg.lt hs1.size⟩
  obtain ⟨Ac, cc, hcv, -, -, -⟩ := H.out.lc.shape
  rw [List.length_map] at hcv
  rw [hcv] at c64
  have HRC : Hid (Rd w 2 (.slice Ac s.came.length cc) (s.came.map rngRow)) := Lib.hid (by rw [← hcv]; exact Rd.of_lst H.out.lc)
  have HCV := Lib.hid hcv
  have HCM := Lib.hid H.out.ok.cm
  clear hcv
  trace "C"; go_wp2_with fail
  refine (rin_any Ac s.came.length cc s.came n _ rfl (HRC.out.later hs1)).mono ?_
  rintro e w2 ⟨rfl, hb2⟩
  have hs2 : Since w w2 := hs1.later hb2
  have HF2 := Lib.hid (HF1.out.later hb2)
  clear hb2 c64 lx1
  cases hin : inB s.came n with
  | true =>
    have HR : Hid (RE = 0 ∧ RS = s) := Lib.hid ⟨by rw [HH.out.1]; unfold EnS.pktE; rw [if_pos hin], by rw [HH.out.2]; unfold EnS.pkt; rw [if_pos hin]⟩
    clear hin
    trace "D"; go_wp2_with fail
    go_ret
    rw [HR.out.1, HR.out.2, errV_zero]
    exact ⟨rfl, Leaves.same H0.out hs2⟩
  | false =>
    have HR : Hid (RE = (if (s.takes L).1 = 0 then addE s.came n else (s.takes L).1) ∧ RS = if (s.takes L).1 = 0 then (if addE s.came n = 0 then { (s.takes L).2 with came := addL s.came n } else s) else s) := Lib.hid ⟨by rw [HH.out.1]; unfold EnS.pktE; rw [if_neg (by rw [hin]; simp)], by rw [HH.out.2]; unfold EnS.pkt; rw [if_neg (by rw [hin]; simp)]⟩
    clear hin
    have HOW := Lib.hid (eown g s p w2 S (H.out.later hs2))
    trace "E"; go_wp2_with fail
    refine HOW.out.mono ?_
    rintro e w3 ⟨gi', gl', rfl, hbx, hbi, hbl, hgi, hgl, hb3⟩
    have hs3 : Since w w3 := hs2.later hb3
    have hb23 : Since w2 w3 := hb3
    have HE3 : Hid (EnW w3 w2.heap.size gi' gl' p.mv p.cv s) := Lib.hid ⟨hbx, hbi, hbl⟩
    have hg2 := hs2.size
    have HO3 := Lib.hid (H.out.own.add3 hs3 hbx hbi hbl hg2 (by omega) (by omega) (HE3.out.ne.1) (HE3.out.ne.2.1) (HE3.out.ne.2.2))
    clear hbx hbi hbl hb3 HOW
    obtain ⟨gx, hgx⟩ : ∃ gx, w2.heap.size = gx := ⟨_, rfl⟩
    rw [hgx] at HE3 HO3 hgi hgl hg2
    rw [hgx]
    have HX2 := Lib.hid hgx
    have hgi2 := hgi
    have hgl2 := hgl
    clear hgx
    trace "F"; go_wp2_with fail
    trace "G"; go_loopw [35] (fun s35 wr => ∃ i : Nat, s35 = .int .i64 i ∧ i ≤ n1 ∧ (s.takes (L.take i)).1 = 0 ∧ EnW wr gx gi' gl' p.mv p.cv (s.takes (L.take i)).2 ∧ Out w3 wr [gx, gi', gl']) (fun s35 _ => n1 - (intOf s35).toNat)
    case atStart => exact ⟨0, rfl, Nat.zero_le _, by rw [List.take_zero]; rfl, by rw [List.take_zero]; exact HE3.out, Out.refl _ _⟩
    case round =>
      obtain ⟨i, rfl, hi, hz0, hew, hou⟩ := hrel
      have hs2r : Since w2 wr := hb23.out' hou (fun k hk => by simp at hk; have := HX2.out; omega)
      have hsr : Since w wr := hs2.later hs2r
      have HFR := Lib.hid (HF2.out.later hs2r)
      have HEW := Lib.hid hew
      have HOU := Lib.hid hou
      have HZ0 := Lib.hid hz0
      have hLl : L.length = n1 := by rw [← HM1.out, List.length_map]; exact hn1
      clear hew hou hz0
      by_cases hlt : i < n1
      case neg =>
        obtain rfl : i = n1 := by omega
        have hlt' : decide ((i : Int) < (i : Int)) = false := by simp
        have d64 : wr.cell? ⟨g, 64, none⟩ = some (.slice Ac s.came.length cc) := by rw [← HCV.out]; exact hsr.cell H.out.bg.lt H.out.c64
        have lxr : g < wr.heap.size := Nat.lt_of_lt_of_le H.out.bg.lt hsr.size
        have hLT : L.take i = L := by rw [← hLl, List.take_length]
        rw [hLT] at HZ0 HEW
        have HR2 : Hid (RE = addE s.came n ∧ RS = if addE s.came n = 0 then { (s.takes L).2 with came := addL s.came n } else s) := Lib.hid ⟨by rw [HR.out.1, if_pos HZ0.out], by rw [HR.out.2, if_pos HZ0.out]⟩
        have hb30 := rngE_ok HCM.out
        have HAD := Lib.hid (radd_any Ac s.came.length cc s.came n wr rfl (fun r hr => by obtain ⟨⟨a1, a2⟩, b1, b2⟩ := hb30 r hr; unfold okI; omega) (HRC.out.later hsr))
        clear hLT hb30
        trace "H"; go_wp2_with fail
        refine HAD.out.mono ?_
        rintro e w5 ⟨A5, c5, rfl, hb5, hl5, hk5⟩
        have hs5 : Since w w5 := hsr.later hb5
        have HL5 := Lib.hid hl5
        have HK5 := Lib.hid hk5
        have HB5 : Hid (Since wr w5) := Lib.hid hb5
        clear hl5 hk5 hb5 HAD d64
        by_cases hA0 : addE s.came n = 0
        case neg =>
          have HH2 : Hid (RE = addE s.came n ∧ RS = s) := Lib.hid ⟨HR2.out.1, by rw [HR2.out.2, if_neg hA0]⟩
          rw [errV_pos hA0]
          have HEP := Lib.hid (errV_pos hA0)
          obtain ⟨ee, hee⟩ : ∃ e, addE s.came n = e := ⟨_, rfl⟩
          rw [hee] at HH2 HEP
          rw [hee]
          clear hA0 hee
          trace "J"; go_wp2_with fail
          go_ret
          rw [HH2.out.1, HH2.out.2, HEP.out]
          exact ⟨rfl, Leaves.same H0.out hs5⟩
        have HH2 : Hid (RE = 0 ∧ RS = { (s.takes L).2 with came := addL s.came n }) := Lib.hid ⟨by rw [HR2.out.1, hA0], by rw [HR2.out.2, if_pos hA0]⟩
        have hok2 : EnOk (s.takes L).2 := H.out.ok.takes HFO.out
        have hmd2 : (s.takes L).2.made = s.made := takes_made _ _
        obtain ⟨s2, hs2e⟩ : ∃ x, (s.takes L).2 = x := ⟨_, rfl⟩
        rw [hs2e] at hok2 hmd2 HEW HH2
        obtain ⟨cn, hcn⟩ : ∃ x, addL s.came n = x := ⟨_, rfl⟩
        have hcok : rngE cn = 0 := by rw [← hcn]; exact (addL_ok HCM.out hA0).1
        rw [hcn] at HL5 HH2
        rw [hcn]
        have HOK2 := Lib.hid hok2
        have HMD2 := Lib.hid hmd2
        have HOKF : Hid (EnOk { s2 with came := cn }) := Lib.hid ⟨hok2.dz, hok2.tl, hok2.my, hok2.md, hok2.kn, hcok, hok2.ml, hok2.tt, hok2.cr, hok2.rt, hok2.mc⟩
        obtain ⟨cvn, hcvn⟩ : ∃ v, Value.slice A5 cn.length c5 = v := ⟨_, rfl⟩
        rw [hcvn] at HL5
        have hone : cvn.oneCell' = true := by rw [← hcvn]; rfl
        have HKV : Hid (∀ k, k ∈ blocks cvn → wr.heap.size ≤ k) := Lib.hid (fun k hk => HK5.out k (by rw [← hcvn] at hk; exact blocks_any A5 _ _ _ _ ▸ hk))
        obtain ⟨Amv, cmv, hmv, -, -, -⟩ := H.out.lm.shape
        -- what lies where
        obtain ⟨parts, hparts⟩ : ∃ x, enParts g s p = x := ⟨_, rfl⟩
        rw [hparts] at HO3
        have HOr : Hid (Own w S wr (parts ++ [Thing.block gx 83 (enCells s2 p.mv p.cv gi' gl').toArray, Thing.block gi' 146 (strCells s2.M s2.t), Thing.block gl' 143 (credCells s2.W s2.L s2.C s2.R)])) := Lib.hid (by
          refine HO3.out.chg HOU.out (fun i => parts.length ≤ i) (fun k hk => ?_) (fun i t hi => ?_)
          · simp at hk
            rcases hk with rfl | rfl | rfl
            · exact ⟨parts.length, _, _, by rw [List.getElem?_append_right (Nat.le_refl _), Nat.sub_self]; rfl, Nat.le_refl _⟩
            · exact ⟨parts.length + 1, _, _, by rw [List.getElem?_append_right (by omega), Nat.add_sub_cancel_left]; rfl, by omega⟩
            · exact ⟨parts.length + 2, _, _, by rw [List.getElem?_append_right (by omega), Nat.add_sub_cancel_left]; rfl, by omega⟩
          · rcases Nat.lt_or_ge i parts.length with h1 | h1
            · left
              rw [List.getElem?_append_left h1] at hi ⊢
              exact ⟨by omega, hi⟩
            · right
              obtain ⟨d, rfl⟩ : ∃ d, i = parts.length + d := ⟨i - parts.length, by omega⟩
              rw [List.getElem?_append_right (by omega), Nat.add_sub_cancel_left] at hi
              rw [List.getElem?_append_right (by omega), Nat.add_sub_cancel_left]
              match d, hi with
              | 0, hi => simp at hi; subst hi; exact ⟨_, _, _, _, rfl, rfl, HEW.out.bx⟩
              | 1, hi => simp at hi; subst hi; exact ⟨_, _, _, _, rfl, rfl, HEW.out.bi⟩
              | 2, hi => simp at hi; subst hi; exact ⟨_, _, _, _, rfl, rfl, HEW.out.bl⟩
              | d + 3, hi => simp at hi)
        have HO5 := Lib.hid (HOr.out.add HB5.out (S := blocks cvn) (t := Thing.lst 101 2 cvn (cn.map rngRow)) ⟨HL5.out, rfl⟩ HKV.out)
        have hbx5 := HEW.out.bx.later HB5.out
        have x64 : w5.cell? ⟨gx, 64, none⟩ = some p.cv := (hbx5.cell 64).trans (enCells_tail _ _ _ _ hok2.tl 3)
        have fx := hbx5.free
        have lx := hbx5.lt
        have hbg5 := H.out.bg.later hs5
        have lg5 := hbg5.lt
        have hgx : g ≠ gx := by have := H.out.bg.lt; omega
        have HBX6 : Hid (BlockIs (w5.setCell ⟨gx, 64, none⟩ cvn) gx 83 (enCells s2 p.mv cvn gi' gl').toArray) := Lib.hid (by
          have h1 := hbx5.put 64 cvn
          rw [enCells_64 _ _ _ _ hok2.tl] at h1
          exact h1)
        have HBG6 : Hid (BlockIs (w5.setCell ⟨gx, 64, none⟩ cvn) g 83 (enCells s p.mv p.cv p.gi p.gl).toArray) := Lib.hid (hbg5.far hgx _)
        obtain ⟨cs, hcs⟩ : ∃ cs, enCells s2 p.mv cvn gi' gl' = cs := ⟨_, rfl⟩
        have hlen : cs.length = 67 := by rw [← hcs]; exact enCells_len _ _ _ _ hok2.tl
        have hlen0 : (enCells s p.mv p.cv p.gi p.gl).length = 67 := enCells_len _ _ _ _ H.out.ok.tl
        have HO9 : Hid (∀ v ∈ cs, v.oneCell' = true) := Lib.hid (by rw [← hcs]; exact enCells_one s2 (by rw [hmv]; rfl) hone gi' gl')
        have HR6 : Hid ((w5.setCell ⟨gx, 64, none⟩ cvn).rangeAt gx 0 cs) := Lib.hid (by rw [← hcs]; have := HBX6.out.range; simpa using this)
        have HI6 : Hid ((Tryz.prog.info? 83).map (·.size) = some cs.length) := Lib.hid (by rw [hlen]; kernel_rfl)
        have HT6 : Hid ((w5.setCell ⟨gx, 64, none⟩ cvn).there g 0 cs.toArray.size) := Lib.hid (by
          have h1 := HBG6.out.there
          rw [List.size_toArray, hlen0] at h1
          rw [List.size_toArray, hlen]; exact h1)
        have HL9 : Hid (cs.length = (enCells s p.mv p.cv p.gi p.gl).toArray.size) := Lib.hid (by rw [List.size_toArray, hlen, hlen0])
        have HCS := Lib.hid hcs
        have HPT := Lib.hid hparts
        rw [hA0, errV_zero]
        subst hcvn
        clear hA0 hok2 hmd2 hs2e hcn hcok hone hmv hparts hbx5 hbg5 hlen hlen0 hcs
        trace "K"; go_wp2_with (first | (refine wpList_load_mid rfl 83 (.tmp 65) rfl gx 0 (by go_simp) cs _ HR6.out Tryz.underlying83 rfl HI6.out ?_) | (refine wpList_store_mid rfl 83 (.tmp 67) (.tmp 66) rfl g 0 cs.toArray (by go_simp) (by go_simp) HT6.out (by rw [HI6.out, List.size_toArray]) (all_oneCell_toArray HO9.out) ?_))
        go_ret
        rw [HH2.out.1, HH2.out.2, errV_zero]
        refine ⟨rfl, endT_close (p := ⟨gi', gl', p.mv, .slice A5 cn.length c5, p.vs⟩) HOKF.out (by show p.vs.length = s2.made.length; rw [HMD2.out]; exact H.out.len) ?_⟩
        have hN : parts.length = 5 + (inner p.vs s.made).length := by rw [← HPT.out]; unfold enParts; simp; omega
        have hi0 : (parts ++ [Thing.block gx 83 (enCells s2 p.mv p.cv gi' gl').toArray, Thing.block gi' 146 (strCells s2.M s2.t), Thing.block gl' 143 (credCells s2.W s2.L s2.C s2.R)] ++ [Thing.lst 101 2 (.slice A5 cn.length c5) (cn.map rngRow)])[parts.length]? = some (Thing.block gx 83 (enCells s2 p.mv p.cv gi' gl').toArray) := by
          rw [List.append_assoc, List.getElem?_append_right (Nat.le_refl _), Nat.sub_self]; rfl
        have o6 := HO5.out.put parts.length hi0 64 (.slice A5 cn.length c5)
        obtain ⟨L6, hL6⟩ : ∃ L6, (parts ++ [Thing.block gx 83 (enCells s2 p.mv p.cv gi' gl').toArray, Thing.block gi' 146 (strCells s2.M s2.t), Thing.block gl' 143 (credCells s2.W s2.L s2.C s2.R)] ++ [Thing.lst 101 2 (.slice A5 cn.length c5) (cn.map rngRow)]).set parts.length (Thing.block gx 83 ((enCells s2 p.mv p.cv gi' gl').toArray.setIfInBounds 64 (.slice A5 cn.length c5))) = L6 := ⟨_, rfl⟩
        rw [hL6] at o6
        have hg6 : L6[0]? = some (Thing.block g 83 (enCells s p.mv p.cv p.gi p.gl).toArray) := by
          rw [← hL6, List.getElem?_set_ne (by omega), ← HPT.out]; rfl
        have o7 := o6.chg1 (cs' := cs.toArray) 0 hg6 (HBG6.out.puts HL9.out) ((Out.refl _ _).setCells (Or.inl (by simp)) cs 0)
        refine Own.pickf o7 (fun i => if i = 1 then parts.length + 1 else if i = 2 then parts.length + 2 else if i = 4 then parts.length + 3 else i) (fun i => if i = parts.length + 1 then 1 else if i = parts.length + 2 then 2 else if i = parts.length + 3 then 4 else i) (fun i hi => ?_) (fun i t hi => ?_)
        · have hlen9 : (enParts g { s2 with came := cn } ⟨gi', gl', p.mv, .slice A5 cn.length c5, p.vs⟩).length = parts.length := by
            rw [hN]; unfold enParts; simp only [List.length_cons, HMD2.out]; omega
          rw [hlen9] at hi
          by_cases a1 : i = 1
          · subst a1; simp
          · by_cases a2 : i = 2
            · subst a2; simp
            · by_cases a4 : i = 4
              · subst a4; simp
              · rw [if_neg a1, if_neg a2, if_neg a4, if_neg (by omega), if_neg (by omega), if_neg (by omega)]
        · have hbk : ∀ d, L6[parts.length + 1 + d]? = ([Thing.block gi' 146 (strCells s2.M s2.t), Thing.block gl' 143 (credCells s2.W s2.L s2.C s2.R), Thing.lst 101 2 (.slice A5 cn.length c5) (cn.map rngRow)])[d]? := fun d => by
            rw [← hL6, List.getElem?_set_ne (by omega), List.append_assoc, List.getElem?_append_right (by omega), show parts.length + 1 + d - parts.length = d + 1 by omega]
            rfl
          have hfr : ∀ d, d < parts.length → L6[d]? = parts[d]? := fun d hd => by
            rw [← hL6, List.getElem?_set_ne (by omega), List.append_assoc, List.getElem?_append_left hd]
          match i, hi with
          | 0, hi =>
            have h0 : 0 < L6.length := (List.getElem?_eq_some_iff.1 hg6).1
            show (L6.set 0 _)[0]? = some t
            rw [List.getElem?_set_self h0, ← HCS.out]
            exact hi
          | 1, hi =>
            show (L6.set 0 _)[parts.length + 1]? = some t
            rw [List.getElem?_set_ne (by omega)]
            exact (hbk 0).trans hi
          | 2, hi =>
            show (L6.set 0 _)[parts.length + 2]? = some t
            rw [List.getElem?_set_ne (by omega)]
            exact (hbk 1).trans hi
          | 3, hi =>
            show (L6.set 0 _)[3]? = some t
            rw [List.getElem?_set_ne (by omega), hfr 3 (by omega), ← HPT.out]
            exact hi
          | 4, hi =>
            show (L6.set 0 _)[parts.length + 3]? = some t
            rw [List.getElem?_set_ne (by omega)]
            exact (hbk 2).trans hi
          | d + 5, hi =>
            have hfe : (if d + 5 = 1 then parts.length + 1 else if d + 5 = 2 then parts.length + 2 else if d + 5 = 4 then parts.length + 3 else d + 5) = d + 5 := by rw [if_neg (by omega), if_neg (by omega), if_neg (by omega)]
            have hi' : (inner p.vs s.made)[d]? = some t := by rw [← HMD2.out]; exact hi
            have hd := (List.getElem?_eq_some_iff.1 hi').1
            show (L6.set 0 _)[if d + 5 = 1 then parts.length + 1 else if d + 5 = 2 then parts.length + 2 else if d + 5 = 4 then parts.length + 3 else d + 5]? = some t
            rw [hfe, List.getElem?_set_ne (by omega), hfr (d + 5) (by omega), ← HPT.out]
            exact hi'
      obtain ⟨bf, off, hA, hltb, hcf⟩ := HFR.out.agg_at hn1 hlt
      subst hA
      obtain ⟨f0, f1, f2⟩ := hcf wr (Since.refl wr)
      have hfin := HFR.out.each _ (List.getElem_mem (show i < Ms.length by omega))
      have hiL : i < L.length := by omega
      have hLi : L[i] = Ms[i].f := by
        have h1 : (Ms.map (·.f))[i]? = some Ms[i].f := by rw [List.getElem?_map, List.getElem?_eq_getElem]; rfl
        rw [HM1.out, List.getElem?_eq_getElem hiL] at h1
        exact Option.some.inj h1
      have hfr : frmE Ms[i].f = 0 := by rw [← hLi]; exact HFO.out _ (List.getElem_mem hiL)
      have HTS := Lib.hid (takes_succ hiL HZ0.out)
      rw [hLi] at HTS
      obtain ⟨q, hq⟩ : ∃ q, Ms[i] = q := ⟨_, rfl⟩
      rw [hq] at f0 f1 f2 hfin hfr HTS
      obtain ⟨si, hsi⟩ : ∃ x, (s.takes (L.take i)).2 = x := ⟨_, rfl⟩
      have hok : EnOk si := by rw [← hsi]; exact H.out.ok.takes (fun f hf => HFO.out f (List.mem_of_mem_take hf))
      have hmd : si.made = s.made := by rw [← hsi]; exact takes_made _ _
      rw [hsi] at HEW HTS
      have HT1 := Lib.hid (fun (X : World) (hX : Since wr X) => etake1 gx gi' gl' p.mv p.cv p.vs si q X (HEW.out.later hX) hok (by rw [hmd]; exact H.out.made.later (hsr.later hX)) (by rw [hmd]; exact h1000) (hfin.later hX) hfr)
      have hlt' : (i : Int) < (n1 : Int) := by omega
      clear hfin hfr hq hok hmd hLi hiL hcf hsi
      obtain ⟨⟨fk, fn, fd⟩, fA, fc⟩ := q
      dsimp only at f0 f1 f2 HT1 HTS
      trace "I"; go_wp2_with fail
      refine (HT1.out _ (by refine Since.out ?_; repeat (first | with_reducible assumption | with_reducible exact Since.refl _ | with_reducible refine Since.later ?_ (by with_reducible assumption) | with_reducible refine Since.only ?_ (by with_reducible assumption) (by first | assumption | omega | (simp; done) | (simp; omega)) | with_reducible refine Since.alloc ?_ _ | with_reducible refine Since.drewN ?_ _ | with_reducible refine Since.drew ?_ | with_reducible refine Since.set ?_ (by first | assumption | omega | (simp; done) | (simp; omega)) _))).mono ?_
      rintro e w5 ⟨rfl, hew5, hou5⟩
      have HEW5 := Lib.hid hew5
      have HOU5 := Lib.hid ((HOU.out.alloc _).trans hou5)
      have hs25 : Since w2 w5 := hb23.out' HOU5.out (fun k hk => by simp at hk; have := HX2.out; omega)
      have hs5 : Since w w5 := hs2.later hs25
      clear hew5 hou5
      by_cases hE5 : si.take1E ⟨fk, fn, fd⟩ = 0
      case neg =>
        have HH2 : Hid (RE = si.take1E ⟨fk, fn, fd⟩ ∧ RS = s) := Lib.hid (by
          have h1 : (s.takes L).1 = si.take1E ⟨fk, fn, fd⟩ := by rw [takes_stop (i := i + 1) (by rw [HTS.out]; exact hE5), HTS.out]
          rw [HR.out.1, HR.out.2, h1, if_neg hE5, if_neg hE5]
          exact ⟨rfl, rfl⟩)
        rw [errV_pos hE5]
        have HEP := Lib.hid (errV_pos hE5)
        obtain ⟨ee, hee⟩ : ∃ e, si.take1E ⟨fk, fn, fd⟩ = e := ⟨_, rfl⟩
        rw [hee] at HH2 HEP
        rw [hee]
        clear hE5 hee
        trace "L"; go_wp2_with fail
        go_ret
        rw [HH2.out.1, HH2.out.2, HEP.out]
        exact ⟨rfl, Leaves.same H0.out hs5⟩
      have HTS2 : Hid ((s.takes (L.take (i + 1))).1 = 0 ∧ (s.takes (L.take (i + 1))).2 = si.take1 ⟨fk, fn, fd⟩) := Lib.hid (by rw [HTS.out]; exact ⟨hE5, rfl⟩)
      rw [hE5, errV_zero]
      clear hE5
      trace "M"; go_wp2_with fail
      go_roundw
      case rel => exact ⟨i + 1, by go_num, by omega, HTS2.out.1, by rw [HTS2.out.2]; exact HEW5.out, HOU5.out⟩
      case measure => simp [intOf]; omega
end Go.Proofs.YtmfbaijbigodkaaGreatDoor

/-! slices.Delete of one element, over a slice of the call's own: laws on the cells. Condition: the slice is the call's own. -/
namespace Go.Proofs.YtmfbaijbigodkaaGreatDoor
open Go.ChangeShapes Go.WideShapes Go.ChangeAt Go.RowKit
set_option linter.unusedVariables false

/-- cells laid one behind the other -/
def putz (cs : Array Value) : Nat → List Value → Array Value
  | _, [] => cs
  | o, v :: r => putz (cs.setIfInBounds o v) (o + 1) r
theorem putz_size : ∀ (vs : List Value) (cs : Array Value) (o : Nat), (putz cs o vs).size = cs.size
  | [], cs, o => rfl
  | v :: r, cs, o => by unfold putz; rw [putz_size r]; simp
theorem putz_list : ∀ (vs : List Value) (cs : Array Value) (o : Nat), o + vs.length ≤ cs.size → (putz cs o vs).toList = cs.toList.take o ++ vs ++ cs.toList.drop (o + vs.length)
  | [], cs, o, h => by simp [putz]
  | v :: r, cs, o, h => by
    rw [List.length_cons] at h
    unfold putz
    rw [putz_list r (cs.setIfInBounds o v) (o + 1) (by simp; omega)]
    rw [Array.toList_setIfInBounds]
    have ho : o < cs.toList.length := by simp; omega
    rw [List.take_set, List.drop_set_of_lt (by omega)]
    have e1 : (cs.toList.take (o + 1)).set o v = cs.toList.take o ++ [v] := by
      rw [List.take_succ_eq_append_getElem ho, List.set_append_right _ _ (by rw [List.length_take]; omega), List.length_take, show o - min o cs.toList.length = 0 from by omega]
      rfl
    rw [e1, List.length_cons, show o + 1 + r.length = o + (r.length + 1) from by omega]
    simp
theorem BlockIs.putAll : ∀ (vs : List Value) {w : World} {g : Nat} {t : TypeId} {cs : Array Value} (h : BlockIs w g t cs) (o : Nat), BlockIs (w.setCells g o vs) g t (putz cs o vs)
  | [], _, _, _, _, h, _ => h
  | v :: r, w, g, t, cs, h, o => by
    unfold World.setCells putz
    exact BlockIs.putAll r (h.put o v) (o + 1)
theorem Out.putAll : ∀ (vs : List Value) (w : World) (g o : Nat), Out w (w.setCells g o vs) [g]
  | [], w, _, _ => Out.refl w _
  | v :: r, w, g, o => by
    unfold World.setCells
    exact ((Out.refl w [g]).put (p := ⟨g, o, none⟩) (Or.inl (by simp)) v).trans (Out.putAll r _ g (o + 1))
theorem run_clear1 {P : Program} (w : World) (t e ty : TypeId) (z : Value) (zs : List Value) (ht : P.underlying t = some (.slice e)) (hv : (zeroValue e).run P w = .ok z w) (hz : z.cells = zs.toArray) (h1 : ∀ u ∈ zs, u.oneCell' = true) (b o c n : Nat) (hn : n = 1)
    (hc : ∀ j, j < zs.length → (w.cell? ⟨b, o + j, none⟩).isSome = true) (hf : ∀ j, j < zs.length → w.frozen? ⟨b, o + j, none⟩ = false) :
    (Builtin.clear_ #[t] ty #[.slice (some ⟨b, o, none⟩) n c]).run P w = .ok (.tuple #[]) (w.setCells b o zs) := by
  subst hn
  have hzc : (Builtin.zeroCells z.cells 1).toList = zs := by
    rw [hz]
    simp [Builtin.zeroCells]
    apply List.ext_getElem
    · simp
    · intro i h1 h2
      simp at h1
      simp [Nat.mod_eq_of_lt h1, h1]
  have hst := run_storeCells_cells (P := P) b o zs 0 w (by simpa using hc) (by simpa using hf) h1
  simp only [Nat.add_zero] at hst
  simp [Builtin.clear_, run_underlying ht, hv, hzc, hst]

/-- what is left behind a deletion -/
theorem del_cells {E size : Nat} {w : World} {g cap : Nat} {es : List (List Value)} (h : Lst w E size (.slice (some ⟨g, 0, none⟩) es.length cap) es) {i : Nat} (hi : i < es.length) (hs : 0 < size) (zs : List Value) (hz : zs.length = size) :
    ∃ cur, BlockIs w g E cur ∧ cur.size = cap * size ∧ es.length ≤ cap ∧ cap ≤ maxLen ∧
      ((putz (putz cur (i * size) (flat (es.drop (i + 1)))) ((es.length - 1) * size) zs).toList.take ((es.length - 1) * size) = flat (es.take i ++ es.drop (i + 1))) := by
  rcases h.own.2 with ⟨h0, _⟩ | ⟨g', cap', cur, hv, _, hg, h1, h2, h3, h4⟩
  · cases h0
  simp only [Value.slice.injEq, Option.some.injEq, Addr.mk.injEq, and_true, true_and] at hv
  obtain ⟨rfl, rfl⟩ := hv
  refine ⟨cur, hg, h3, h1, h2, ?_⟩
  have hr : ∀ e ∈ es, e.length = size := fun e he => (h.rows e he).1
  have hdl : (flat (es.drop (i + 1))).length = (es.length - (i + 1)) * size := by
    rw [flat_length (fun e he => hr e (List.mem_of_mem_drop he)), List.length_drop]
  have hA : i * size + (es.length - (i + 1)) * size = (es.length - 1) * size := by rw [← Nat.add_mul]; congr 1; omega
  have hB : (es.length - 1) * size + size = es.length * size := by
    obtain ⟨m, hm⟩ : ∃ m, es.length = m + 1 := ⟨es.length - 1, by omega⟩
    rw [hm, Nat.add_sub_cancel, Nat.succ_mul]
  have hC : es.length * size ≤ cap * size := Nat.mul_le_mul_right _ h1
  have hle1 : i * size + (flat (es.drop (i + 1))).length ≤ cur.size := by rw [hdl, h3]; omega
  rw [putz_list zs _ _ (by rw [putz_size, hz, h3]; omega), putz_list _ cur _ hle1]
  have ht : cur.toList.take (i * size) = flat (es.take i) := by
    rw [← flat_take hr i, ← h4, List.take_take, Nat.min_eq_left (Nat.mul_le_mul_right _ (by omega))]
  rw [ht]
  have hl1 : (flat (es.take i) ++ flat (es.drop (i + 1))).length = (es.length - 1) * size := by
    rw [List.length_append, hdl, flat_length (fun e he => hr e (List.mem_of_mem_take he)), List.length_take, Nat.min_eq_left (by omega), hA]
  have hfl : flat (es.take i ++ es.drop (i + 1)) = flat (es.take i) ++ flat (es.drop (i + 1)) := by simp [flat]
  rw [hfl]
  generalize flat (es.take i) ++ flat (es.drop (i + 1)) = X at *
  rw [List.append_assoc, List.take_append_of_le_length (by rw [List.length_take, List.length_append, hl1]; omega), List.take_take, Nat.min_self, List.take_append_of_le_length (by omega), List.take_of_length_le (by omega)]
end Go.Proofs.YtmfbaijbigodkaaGreatDoor

/-! Package link: in plain words, and contracts of New, Count, Full, Who, is, Send, Twice. Condition: the block holds a link as New and the calls leave it. -/
namespace Go.Proofs.YtmfbaijbigodkaaGreatDoor
open Go.ChangeShapes Go.WideShapes Go.ChangeAt Go.RowKit
set_option linter.unusedVariables false

/-- a letter: to whom, and its bytes -/
structure Let where
  too : Int
  b : ByteArray
def letRow (d : Let) : List Value := [.int .i64 d.too, .string d.b]
def noLet : Let := ⟨0, ⟨#[]⟩⟩
theorem letRow_one (d : Let) : (letRow d).length = 2 ∧ ∀ u ∈ letRow d, u.oneCell' = true := ⟨rfl, by intro u hu; simp [letRow] at hu; rcases hu with rfl | rfl <;> rfl⟩
theorem Tryz.elLet : Elem Tryz.prog 166 170 2 24 := ⟨Tryz.underlying166, ⟨.agg #[.int .i64 0, .string ⟨#[]⟩], rfl, by kernel_rfl⟩, by decide, by decide⟩
theorem elem_of_let {L : List Let} {i : Nat} (h : i < L.length) : (L.map letRow)[i]? = some (letRow L[i]) := by simp [h]
/-- is there such a letter -/
def isB (L : List Let) (x : Int) : Bool := decide (0 ≤ x) && decide (x < (L.length : Int))
def whoB (x : Int) : Bool := decide (x = 0) || decide (x = 1)
theorem isB_iff {L : List Let} {x : Int} : isB L x = true ↔ 0 ≤ x ∧ x < L.length := by unfold isB; simp
theorem isB_no {L : List Let} {x : Int} : isB L x = false ↔ ¬ (0 ≤ x ∧ x < L.length) := by rw [← isB_iff]; cases isB L x <;> simp
def sendE (L : List Let) (too : Int) (b : ByteArray) : Int := if whoB too = true then (if L.length = 40 ∨ 200 < b.size then 4 else 0) else 1
def sendL (L : List Let) (too : Int) (b : ByteArray) : List Let := if sendE L too b = 0 then L ++ [⟨too, b⟩] else L
def giveE (L : List Let) (x : Int) : Int := if isB L x = true then 0 else 1
def giveD (L : List Let) (x : Int) : Let := if isB L x = true then L.getD x.toNat noLet else noLet
def giveL (L : List Let) (x : Int) : List Let := if isB L x = true then L.take x.toNat ++ L.drop (x.toNat + 1) else L
def twiceE (L : List Let) (x : Int) : Int := if isB L x = true then (if L.length = 40 then 4 else 0) else 1
def twiceL (L : List Let) (x : Int) : List Let := if twiceE L x = 0 then L ++ [L.getD x.toNat noLet] else L

/-- a link at g: its letters lie in the slice v -/
structure Kz (w : World) (g : Nat) (v : Value) (L : List Let) : Prop where
  bl : BlockIs w g 168 #[v]
  ls : Lst w 170 2 v (L.map letRow)
  few : L.length ≤ 40
theorem Kz.later {w w1 : World} {g : Nat} {v : Value} {L : List Let} (h : Kz w g v L) (hb : Below w.heap.size w w1) : Kz w1 g v L := ⟨h.bl.later hb, h.ls.later hb, h.few⟩
theorem Kz.kept {w w1 : World} {g : Nat} {v : Value} {L : List Let} {S : List Nat} (h : Kz w g v L) (hg : Out w w1 S) (h1 : ∀ k, k ∈ g :: blocks v → k ∉ S) : Kz w1 g v L :=
  ⟨hg.block' h.bl (h1 _ (by simp)), h.ls.kept hg (fun k hk => h1 k (by simp [hk])), h.few⟩
theorem Kz.lt {w : World} {g : Nat} {v : Value} {L : List Let} (h : Kz w g v L) : ∀ k, k ∈ g :: blocks v → k < w.heap.size := by
  intro k hk
  rcases List.mem_cons.1 hk with rfl | hk
  · exact h.bl.lt
  · exact h.ls.lt k hk
/-- what a call leaves: its blocks and what is new alone have changed -/
def KLeft (w w' : World) (g : Nat) (v : Value) (L : List Let) : Prop := ∃ v', Kz w' g v' L ∧ Out w w' (g :: blocks v) ∧ ∀ k, k ∈ blocks v' → k ∈ blocks v ∨ w.heap.size ≤ k
theorem KLeft.same {w w' : World} {g : Nat} {v : Value} {L : List Let} (h : Kz w g v L) (hb : Below w.heap.size w w') : KLeft w w' g v L := ⟨v, h.later hb, Out.of_below hb _, fun k hk => Or.inl hk⟩

theorem who_any (x : Int) (w : World) : Calls Tryz.prog 68 #[.int .i64 x] w fun e w' => e = .returned (.bool (whoB x)) ∧ w = w' := by
  unfold whoB
  by_cases h0 : x = 0
  · subst h0
    go_enter Tryz.func68, Tryz.ntmps68
    go_wp2
    go_ret
    exact ⟨rfl, rfl⟩
  · have a0 : (x == 0) = false := by simpa using h0
    have b0 : decide (x = 0) = false := by simpa using h0
    rw [b0, Bool.false_or]
    by_cases h1 : x = 1
    · subst h1
      clear h0 a0 b0
      go_enter Tryz.func68, Tryz.ntmps68
      go_wp2
      go_ret
      exact ⟨rfl, rfl⟩
    · have a1 : (x == 1) = false := by simpa using h1
      have b1 : decide (x = 1) = false := by simpa using h1
      rw [b1]
      clear h0 h1 b0 b1
      go_enter Tryz.func68, Tryz.ntmps68
      go_wp2
      go_ret
      exact ⟨rfl, rfl⟩
theorem knew (w : World) : Calls Tryz.prog 67 #[] w fun e w' => e = .returned (.pointer (some ⟨w.heap.size, 0, none⟩)) ∧ Kz w' w.heap.size (.slice none 0 0) [] ∧ Below w.heap.size w w' := by
  go_enter Tryz.func67, Tryz.ntmps67
  go_wp2
  go_ret
  exact ⟨rfl, ⟨BlockIs.fresh _ _ _, Lst.nil _ _ _, by simp⟩, (Below.refl _ _).alloc (Nat.le_refl _) _⟩
theorem kcount (g : Nat) (v : Value) (L : List Let) (w : World) (h : Kz w g v L) : Calls Tryz.prog 74 #[.pointer (some ⟨g, 0, none⟩)] w fun e w' => e = .returned (.int .i64 L.length) ∧ w = w' := by
  have c0 : w.cell? ⟨g, 0, none⟩ = some v := h.bl.cell 0
  obtain ⟨A, cap, hve, _, _, _⟩ := h.ls.shape
  rw [List.length_map] at hve
  subst hve
  clear h
  go_enter Tryz.func74, Tryz.ntmps74
  go_wp2
  go_ret
  exact ⟨rfl, rfl⟩
def fullB (L : List Let) : Bool := decide (L.length = 40)
theorem kfull (g : Nat) (v : Value) (L : List Let) (w : World) (h : Kz w g v L) : Calls Tryz.prog 69 #[.pointer (some ⟨g, 0, none⟩)] w fun e w' => e = .returned (.bool (fullB L)) ∧ w = w' := by
  have c0 : w.cell? ⟨g, 0, none⟩ = some v := h.bl.cell 0
  obtain ⟨A, cap, hve, _, _, _⟩ := h.ls.shape
  rw [List.length_map] at hve
  subst hve
  clear h
  have E : Hid (((L.length : Int) == 40) = fullB L) := Lib.hid (by
    unfold fullB
    by_cases h : L.length = 40
    · simp [h]
    · have h2 : ¬ (L.length : Int) = 40 := by omega
      simp [h, h2])
  go_enter Tryz.func69, Tryz.ntmps69
  go_wp2
  go_ret
  exact ⟨by rw [← E.out]; rfl, rfl⟩
theorem kis (g : Nat) (v : Value) (L : List Let) (x : Int) (w : World) (h : Kz w g v L) : Calls Tryz.prog 109 #[.pointer (some ⟨g, 0, none⟩), .int .i64 x] w fun e w' => e = .returned (.bool (isB L x)) ∧ w = w' := by
  have c0 : w.cell? ⟨g, 0, none⟩ = some v := h.bl.cell 0
  obtain ⟨A, cap, hve, _, _, _⟩ := h.ls.shape
  rw [List.length_map] at hve
  subst hve
  clear h
  unfold isB
  by_cases h0 : 0 ≤ x
  · have b0 : decide (0 ≤ x) = true := by simpa using h0
    rw [b0, Bool.true_and]
    clear b0
    go_enter Tryz.func109, Tryz.ntmps109
    go_wp2
    go_ret
    exact ⟨rfl, rfl⟩
  · have b0 : decide (0 ≤ x) = false := by simpa using h0
    rw [b0, Bool.false_and]
    go_enter Tryz.func109, Tryz.ntmps109
    go_wp2
    go_ret
    exact ⟨rfl, rfl⟩

/-- one letter more: the slice was grown, and stored -/
theorem kpush {w w5 : World} {g q cq : Nat} {v : Value} {L : List Let} (d : Let) (hb5 : BlockIs w5 g 168 #[v]) (hl5 : Lst w5 170 2 (.slice (some ⟨q, 0, none⟩) (L.length + 1) cq) (L.map letRow ++ [letRow d]))
    (hO5 : Out w w5 (g :: blocks v)) (hq : q ∈ blocks v ∨ w.heap.size ≤ q) (hlt : L.length < 40) : KLeft w (w5.setCell ⟨g, 0, none⟩ (.slice (some ⟨q, 0, none⟩) (L.length + 1) cq)) g v (L ++ [d]) := by
  have hqg : q ≠ g := fun e => by have := hl5.apart hb5 (by decide); rw [e] at this; simp [Value.ownBlock] at this
  refine ⟨.slice (some ⟨q, 0, none⟩) (L.length + 1) cq, ⟨hb5.put 0 _, ?_, by simp; omega⟩, hO5.put (p := ⟨g, 0, none⟩) (Or.inl (by simp)) _, fun k hk => ?_⟩
  · rw [List.map_append]
    exact hl5.kept (S := [g]) ((Out.refl w5 [g]).put (p := ⟨g, 0, none⟩) (Or.inl (by simp)) _) (fun k hk hm => by
      have hkq : q = k := by simpa [Value.ownBlock] using hk
      rw [List.mem_singleton.1 hm] at hkq
      exact hqg hkq)
  · have hkq : q = k := by simpa [Value.ownBlock] using hk
    rw [← hkq]
    exact hq

set_option maxHeartbeats 1600000 in
theorem ksend (g : Nat) (v : Value) (L : List Let) (x : Int) (b : ByteArray) (w : World) (h : Kz w g v L) (hb : b.size ≤ 9223372036854775807) :
    Calls Tryz.prog 70 #[.pointer (some ⟨g, 0, none⟩), .int .i64 x, .string b] w fun e w' => e = .returned (errV (sendE L x b)) ∧ KLeft w w' g v (sendL L x b) := by
  have H := Lib.hid h
  have c0 : w.cell? ⟨g, 0, none⟩ = some v := h.bl.cell 0
  have f0 := h.bl.free
  have lg := h.bl.lt
  obtain ⟨A, cap, hve, _, _, _⟩ := h.ls.shape
  rw [List.length_map] at hve
  subst hve
  have hfew := h.few
  clear h
  by_cases hw : whoB x = true
  case neg =>
    have hw' : whoB x = false := by simpa using hw
    have E : Hid (sendE L x b = 1) := Lib.hid (by unfold sendE; rw [if_neg hw])
    have EL : Hid (sendL L x b = L) := Lib.hid (by unfold sendL; rw [E.out, if_neg (by decide)])
    have HW := Lib.hid hw'
    clear hw hw'
    go_enter Tryz.func70, Tryz.ntmps70
    go_wp2_with (go_at_call 68; refine (who_any x _).mono ?_; rintro e w' ⟨rfl, rfl⟩; rw [HW.out])
    go_ret
    exact ⟨by rw [E.out]; rfl, by rw [EL.out]; exact KLeft.same H.out (Below.refl _ _)⟩
  have HW := Lib.hid hw
  clear hw
  by_cases hf : L.length = 40
  · have E : Hid (sendE L x b = 4) := Lib.hid (by unfold sendE; rw [if_pos HW.out, if_pos (Or.inl hf)])
    have EL : Hid (sendL L x b = L) := Lib.hid (by unfold sendL; rw [E.out, if_neg (by decide)])
    have HF : Hid (fullB L = true) := Lib.hid (by unfold fullB; simpa using hf)
    clear hf
    go_enter Tryz.func70, Tryz.ntmps70
    go_wp2_with (first | (go_at_call 68; refine (who_any x _).mono ?_; rintro e w' ⟨rfl, rfl⟩; rw [HW.out]) | (go_at_call 69; refine (kfull g _ L _ H.out).mono ?_; rintro e w' ⟨rfl, rfl⟩; rw [HF.out]))
    go_ret
    exact ⟨by rw [E.out]; rfl, by rw [EL.out]; exact KLeft.same H.out (Below.refl _ _)⟩
  have HF : Hid (fullB L = false) := Lib.hid (by unfold fullB; simpa using hf)
  by_cases h2 : 200 < b.size
  · have E : Hid (sendE L x b = 4) := Lib.hid (by unfold sendE; rw [if_pos HW.out, if_pos (Or.inr h2)])
    have EL : Hid (sendL L x b = L) := Lib.hid (by unfold sendL; rw [E.out, if_neg (by decide)])
    have h2' : (200 : Int) < (b.size : Int) := by omega
    clear hf
    go_enter Tryz.func70, Tryz.ntmps70
    go_wp2_with (first | (go_at_call 68; refine (who_any x _).mono ?_; rintro e w' ⟨rfl, rfl⟩; rw [HW.out]) | (go_at_call 69; refine (kfull g _ L _ H.out).mono ?_; rintro e w' ⟨rfl, rfl⟩; rw [HF.out]))
    go_ret
    exact ⟨by rw [E.out]; rfl, by rw [EL.out]; exact KLeft.same H.out (Below.refl _ _)⟩
  have E : Hid (sendE L x b = 0) := Lib.hid (by unfold sendE; rw [if_pos HW.out, if_neg (by omega)])
  have EL : Hid (sendL L x b = L ++ [⟨x, b⟩]) := Lib.hid (by unfold sendL; rw [E.out, if_pos rfl])
  have h2' : decide ((200 : Int) < (b.size : Int)) = false := by simp; omega
  have hml : (L.map letRow).length = L.length := List.length_map ..
  have hga := H.out.ls.apart H.out.bl (by decide)
  have HML := Lib.hid hml
  have HGA := Lib.hid hga
  have hlt : L.length < 40 := by omega
  clear hf hml hga
  go_enter Tryz.func70, Tryz.ntmps70
  go_wp2_with (first | (go_at_call 68; refine (who_any x _).mono ?_; rintro e w' ⟨rfl, rfl⟩; rw [HW.out]) | (go_at_call 69; refine (kfull g _ L _ H.out).mono ?_; rintro e w' ⟨rfl, rfl⟩; rw [HF.out]) | (at_builtin; refine wpList_push rfl _ _ 166 rfl 170 2 24 Tryz.elLet (.slice A L.length cap) (L.map letRow) rfl (H.out.ls.alloc _) w.heap.size 1 [.int .i64 x, .string b] rfl rfl (letRow_one ⟨x, b⟩).2 (BlockIs.fresh _ _ _) (by rw [HML.out]; omega) ?_; intro q cq w5 hl5 ho5 hq5 hlt5; have hb5 := ho5.block' (H.out.bl.alloc _) HGA.out; have f5 := hb5.free; have d5 : w5.cell? ⟨g, 0, none⟩ = some _ := hb5.cell 0; have l5 := hb5.lt))
  go_ret
  rw [HML.out] at hl5
  have hO5 : Out w w5 (g :: blocks (.slice A L.length cap)) := ((Out.refl w _).alloc _).then' ho5 (fun k hk => Or.inl (by simp [hk]))
  refine ⟨by rw [E.out]; rfl, ?_⟩
  rw [EL.out]
  exact kpush ⟨x, b⟩ hb5 hl5 hO5 (hq5.imp id (fun h => by simp at h; omega)) hlt

set_option maxHeartbeats 1600000 in
theorem ktwice (g : Nat) (v : Value) (L : List Let) (x : Int) (w : World) (h : Kz w g v L) :
    Calls Tryz.prog 73 #[.pointer (some ⟨g, 0, none⟩), .int .i64 x] w fun e w' => e = .returned (errV (twiceE L x)) ∧ KLeft w w' g v (twiceL L x) := by
  have H := Lib.hid h
  have c0 : w.cell? ⟨g, 0, none⟩ = some v := h.bl.cell 0
  have f0 := h.bl.free
  have lg := h.bl.lt
  obtain ⟨A, cap, hve, _, _, hA⟩ := h.ls.shape
  rw [List.length_map] at hve
  subst hve
  have hfew := h.few
  have HA := Lib.hid hA
  clear h hA
  by_cases hw : isB L x = true
  case neg =>
    have hw' : isB L x = false := by simpa using hw
    have E : Hid (twiceE L x = 1) := Lib.hid (by unfold twiceE; rw [if_neg hw])
    have EL : Hid (twiceL L x = L) := Lib.hid (by unfold twiceL; rw [E.out, if_neg (by decide)])
    have HW := Lib.hid hw'
    clear hw hw'
    go_enter Tryz.func73, Tryz.ntmps73
    go_wp2_with (go_at_call 109; refine (kis g _ L x _ H.out).mono ?_; rintro e w' ⟨rfl, rfl⟩; rw [HW.out])
    go_ret
    exact ⟨by rw [E.out]; rfl, by rw [EL.out]; exact KLeft.same H.out (Below.refl _ _)⟩
  have HW := Lib.hid hw
  obtain ⟨x0, x1⟩ := isB_iff.1 hw
  obtain ⟨m, rfl⟩ := Int.eq_ofNat_of_zero_le x0
  clear hw
  by_cases hf : L.length = 40
  · have E : Hid (twiceE L m = 4) := Lib.hid (by unfold twiceE; rw [if_pos HW.out, if_pos hf])
    have EL : Hid (twiceL L m = L) := Lib.hid (by unfold twiceL; rw [E.out, if_neg (by decide)])
    have HF : Hid (fullB L = true) := Lib.hid (by unfold fullB; simpa using hf)
    clear hf
    go_enter Tryz.func73, Tryz.ntmps73
    go_wp2_with (first | (go_at_call 109; refine (kis g _ L m _ H.out).mono ?_; rintro e w' ⟨rfl, rfl⟩; rw [HW.out]) | (go_at_call 69; refine (kfull g _ L _ H.out).mono ?_; rintro e w' ⟨rfl, rfl⟩; rw [HF.out]))
    go_ret
    exact ⟨by rw [E.out]; rfl, by rw [EL.out]; exact KLeft.same H.out (Below.refl _ _)⟩
  have HF : Hid (fullB L = false) := Lib.hid (by unfold fullB; simpa using hf)
  have E : Hid (twiceE L m = 0) := Lib.hid (by unfold twiceE; rw [if_pos HW.out, if_neg hf])
  have hml : m < L.length := by omega
  have EL : Hid (twiceL L m = L ++ [L[m]]) := Lib.hid (by unfold twiceL; rw [E.out, if_pos rfl]; simp [List.getD, List.getElem?_eq_getElem hml])
  rcases HA.out with ⟨_, h0, _⟩ | ⟨q, rfl⟩
  · have : L = [] := by simpa using h0
    subst this
    simp at hml
  have q0 : w.cell? ⟨q, m * 2, none⟩ = some (.int .i64 L[m].too) := H.out.ls.cell rfl (elem_of_let hml) (j := 0) rfl
  have q1 : w.cell? ⟨q, m * 2 + 1, none⟩ = some (.string L[m].b) := H.out.ls.cell rfl (elem_of_let hml) (j := 1) rfl
  have lq := H.out.ls.lt q (by simp [Value.ownBlock])
  have HD : Hid (L[m] = ⟨L[m].too, L[m].b⟩) := Lib.hid rfl
  generalize L[m] = d at *
  obtain ⟨dt, db⟩ := d
  have hmm : (L.map letRow).length = L.length := List.length_map ..
  have hga := H.out.ls.apart H.out.bl (by decide)
  have HML := Lib.hid hmm
  have HGA := Lib.hid hga
  have hlt : L.length < 40 := by omega
  have hmi : (m : Int) < (L.length : Int) := by omega
  clear hf hmm hga HD
  go_enter Tryz.func73, Tryz.ntmps73
  go_wp2_with (first | (go_at_call 109; refine (kis g _ L m _ H.out).mono ?_; rintro e w' ⟨rfl, rfl⟩; rw [HW.out]) | (go_at_call 69; refine (kfull g _ L _ H.out).mono ?_; rintro e w' ⟨rfl, rfl⟩; rw [HF.out]))
  go_region_law ((refine step_push rfl _ _ 166 rfl 170 2 24 Tryz.elLet (.slice (some ⟨q, 0, none⟩) L.length cap) (L.map letRow) rfl ?_ w.heap.size 1 [.int .i64 dt, .string db] rfl rfl (letRow_one ⟨dt, db⟩).2 ?_ ?_ ?_; (first | exact (H.out.ls.alloc _).drew | exact H.out.ls.alloc _); (exact BlockIs.fresh w _ _); (rw [HML.out]; omega); intro q5 cq w5 hl5 ho5 hq5 hlt5; have hb5 := ho5.block' (H.out.bl.alloc _) HGA.out; have f5 := hb5.free; have d5 : w5.cell? ⟨g, 0, none⟩ = some (.slice (some ⟨q, 0, none⟩) L.length cap) := hb5.cell 0; have l5 := hb5.lt))
  all_goals
    rw [HML.out] at hl5
    have hO5 : Out w w5 (g :: blocks (.slice (some ⟨q, 0, none⟩) L.length cap)) := by
      first
        | exact ((Out.refl w _).alloc _).then' ho5 (fun k hk => Or.inl (by simp at hk ⊢; simp [hk]))
        | exact (((Out.refl w _).alloc _).drew).then' ho5 (fun k hk => Or.inl (by simp at hk ⊢; simp [hk]))
    have hKP := kpush ⟨dt, db⟩ hb5 hl5 hO5 (hq5.imp id (fun h => by simp at h; omega)) hlt
    have HKP := Lib.hid hKP
    clear hKP hl5 ho5 hq5 hO5 d5
    go_wp2_with fail
    go_ret
    refine ⟨by rw [E.out]; rfl, ?_⟩
    rw [EL.out]
    first
      | exact HKP.out
      | (obtain ⟨v', hz, ho, hk⟩ := HKP.out; exact ⟨v', ⟨hz.bl, hz.ls.drewN 1, hz.few⟩, ho.drewN 1, hk⟩)
end Go.Proofs.YtmfbaijbigodkaaGreatDoor

/-! Package link: Give, Lose; slices.Delete of one letter. Condition: the block holds a link as New and the calls leave it. -/
namespace Go.Proofs.YtmfbaijbigodkaaGreatDoor
open Go.ChangeShapes Go.WideShapes Go.ChangeAt Go.RowKit
set_option linter.unusedVariables false

theorem Tryz.delLetsZero (w : World) : (zeroValue 170).run Tryz.prog w = .ok (.agg #[.int .i64 0, .string ⟨#[]⟩]) w := by kernel_rfl
set_option maxHeartbeats 3200000 in
theorem delLets (q cap : Nat) (L : List Let) (i : Nat) (hi : i < L.length) (hm : L.length ≤ 1000000) (w : World) (h : Lst w 170 2 (.slice (some ⟨q, 0, none⟩) L.length cap) (L.map letRow)) :
    Calls Tryz.prog 110 #[.slice (some ⟨q, 0, none⟩) L.length cap, .int .i64 i, .int .i64 (i + 1)] w fun e w' => e = .returned (.slice (some ⟨q, 0, none⟩) (L.length - 1) cap) ∧ Lst w' 170 2 (.slice (some ⟨q, 0, none⟩) (L.length - 1) cap) ((L.take i ++ L.drop (i + 1)).map letRow) ∧ Out w w' [q] := by
  have hml : (L.map letRow).length = L.length := List.length_map ..
  obtain ⟨cur, hB, hcs, hcap, hmx, hfin⟩ := del_cells (size := 2) (es := L.map letRow) (by rw [hml]; exact h) (by rw [hml]; exact hi) (by decide) [.int .i64 0, .string ⟨#[]⟩] rfl
  rw [hml] at hcap hfin
  unfold maxLen at hmx
  obtain ⟨z, hz, hinfo⟩ := (Tryz.elLet).info
  obtain ⟨i0, hi0, hz0, hz1, hz2⟩ := info_parts hinfo
  have t1 := (Tryz.elLet).ht
  obtain ⟨news, hnews⟩ : ∃ news, news = flat ((L.map letRow).drop (i + 1)) := ⟨_, rfl⟩
  have hlen : news.length = (L.length - (i + 1)) * 2 := by
    rw [hnews, flat_length (fun e he => (h.rows e (List.mem_of_mem_drop he)).1), List.length_drop, hml]
  obtain ⟨A, hA, hsrc⟩ : ∃ A : Addr, (if cap = i + 1 then some (⟨q, 0, none⟩ : Addr) else some ⟨q, (i + 1) * 2, none⟩) = some A ∧ Hid (∀ t u, news[t]? = some u → w.drew.cell? (A.add t) = some u) := by
    by_cases hc : cap = i + 1
    · refine ⟨⟨q, 0, none⟩, by simp [hc], Lib.hid (fun t u hu => ?_)⟩
      have h0 : news.length = 0 := by rw [hlen]; have : L.length - (i + 1) = 0 := by omega
                                      rw [this]
      rw [List.length_eq_zero_iff.1 h0] at hu
      simp at hu
    · refine ⟨⟨q, (i + 1) * 2, none⟩, by simp [hc], Lib.hid (fun t u hu => ?_)⟩
      rw [hnews] at hu
      exact h.news rfl (i + 1) t u hu
  have s1 : Hid (news.length = (L.length - (i + 1)) * 2) := Lib.hid hlen
  have s2 : Hid (∀ u ∈ news, u.oneCell' = true) := Lib.hid (by
    intro u hu
    rw [hnews] at hu
    obtain ⟨e, he, hu⟩ := List.mem_flatten.1 hu
    exact (h.rows e (List.mem_of_mem_drop he)).2 u hu)
  have s3 : Hid (∀ t, t < news.length → (w.drew.cell? ⟨q, 0 + i * 2 + t, none⟩).isSome = true ∧ w.drew.frozen? ⟨q, 0 + i * 2 + t, none⟩ = false) := Lib.hid (by
    intro t ht
    rw [hlen] at ht
    refine ⟨?_, hB.free _⟩
    show (w.cell? _).isSome = true
    rw [hB.cell]
    rw [Array.getElem?_eq_getElem (by rw [hcs]; omega)]
    rfl)
  obtain ⟨W1, hW1⟩ : ∃ W1, W1 = w.drew.setCells q (0 + i * 2) news := ⟨_, rfl⟩
  have hB1 : BlockIs W1 q 170 (putz cur (0 + i * 2) news) := by rw [hW1]; exact BlockIs.putAll news (show BlockIs w.drew q _ cur from hB) _
  have hO1 : Out w W1 [q] := by rw [hW1]; exact (Out.refl w [q]).drew.trans (Out.putAll news w.drew q _)
  have hcl : ∀ ty, (Builtin.clear_ #[166] ty #[.slice (some ⟨q, (i + (L.length - (i + 1))) * 2, none⟩) (L.length - (i + (L.length - (i + 1)))) (cap - (i + (L.length - (i + 1))))]).run Tryz.prog W1 = .ok (.tuple #[]) (W1.setCells q ((i + (L.length - (i + 1))) * 2) [.int .i64 0, .string ⟨#[]⟩]) := fun ty =>
    run_clear1 W1 _ _ ty (.agg #[.int .i64 0, .string ⟨#[]⟩]) [.int .i64 0, .string ⟨#[]⟩] t1 (Tryz.delLetsZero W1) rfl (by intro u hu; simp at hu; rcases hu with rfl | rfl <;> rfl) q _ _ _ (by omega)
      (fun j hj => by rw [hB1.cell, Array.getElem?_eq_getElem (by rw [putz_size, hcs]; simp at hj; omega)]; rfl) (fun j hj => hB1.free _)
  have hW : Hid (W1 = w.drew.setCells q (0 + i * 2) news) := Lib.hid hW1
  have HFIN := Lib.hid hfin
  have HB1 := Lib.hid hB1
  have HN := Lib.hid hnews
  have HR := Lib.hid h.rows
  have HCS := Lib.hid hcs
  have hic : (i : Int) ≤ (cap : Int) := by omega
  have hjc : (i : Int) + 1 ≤ (cap : Int) := by omega
  have hil : (i : Int) + 1 ≤ (L.length : Int) := by omega
  have hlc : (L.length : Int) ≤ (cap : Int) := by omega
  have hne : ((i : Int) == (i : Int) + 1) = false := by simp; omega
  have hi1 : (0 : Int) ≤ (i : Int) + 1 := by omega
  have HML := Lib.hid hml
  clear hW1 hB1 hlen hnews hfin h hB hml hcs hinfo
  go_enter Tryz.func110, Tryz.ntmps110
  go_wp2_with fail
  go_region_law (refine step_append_room rfl (.tmp 22) (.tmp 25) 166 rfl 170 i0 2 t1 hi0 hz1 q 0 i cap (by simp [Act.eval, Act.put]) A (L.length - (i + 1)) (cap - (i + 1)) news (by simp [Act.eval, Act.put]) s1.out hsrc.out s2.out (by omega) s3.out ?_; rw [← hW.out])
  go_wp2
  go_ret
  have hl : ((L.take i ++ L.drop (i + 1)).map letRow).length = L.length - 1 := by simp; omega
  have hB2 := BlockIs.putAll [.int .i64 0, .string ⟨#[]⟩] HB1.out ((i + (L.length - (i + 1))) * 2)
  have hx : i + (L.length - (i + 1)) = L.length - 1 := by omega
  have hrows : ∀ e ∈ (L.take i ++ L.drop (i + 1)).map letRow, e.length = 2 ∧ ∀ u ∈ e, u.oneCell' = true := by
    intro e he
    rw [List.map_append, List.mem_append] at he
    rcases he with he | he
    · exact HR.out e (by rw [List.map_take] at he; exact List.mem_of_mem_take he)
    · exact HR.out e (by rw [List.map_drop] at he; exact List.mem_of_mem_drop he)
  refine ⟨by rw [show L.length - 1 = i + (L.length - (i + 1)) from by omega]; rfl, ?_, hO1.trans (Out.putAll _ _ q _)⟩
  refine Lst.as (n := ((L.take i ++ L.drop (i + 1)).map letRow).length) ⟨⟨flat_length (fun e he => (hrows e he).1), Or.inr ⟨q, cap, _, rfl, Nat.zero_le _, hB2, by rw [hl]; omega, by unfold maxLen; omega, by rw [putz_size, putz_size, HCS.out], ?_⟩⟩, hrows⟩ hl.symm rfl
  have hf := HFIN.out
  rw [HN.out, hl, hx, Nat.zero_add, hf, List.map_append, List.map_take, List.map_drop]

set_option maxHeartbeats 1600000 in
theorem kgive (g : Nat) (v : Value) (L : List Let) (x : Int) (w : World) (h : Kz w g v L) :
    Calls Tryz.prog 71 #[.pointer (some ⟨g, 0, none⟩), .int .i64 x] w fun e w' => e = .returned (.tuple #[.int .i64 (giveD L x).too, .string (giveD L x).b, errV (giveE L x)]) ∧ KLeft w w' g v (giveL L x) := by
  have H := Lib.hid h
  have c0 : w.cell? ⟨g, 0, none⟩ = some v := h.bl.cell 0
  have f0 := h.bl.free
  have lg := h.bl.lt
  obtain ⟨A, cap, hve, _, _, hA⟩ := h.ls.shape
  rw [List.length_map] at hve
  subst hve
  have hfew := h.few
  have HA := Lib.hid hA
  clear h hA
  by_cases hw : isB L x = true
  case neg =>
    have hw' : isB L x = false := by simpa using hw
    have E : Hid (giveE L x = 1) := Lib.hid (by unfold giveE; rw [if_neg hw])
    have ED : Hid (giveD L x = noLet) := Lib.hid (by unfold giveD; rw [if_neg hw])
    have EL : Hid (giveL L x = L) := Lib.hid (by unfold giveL; rw [if_neg hw])
    have HW := Lib.hid hw'
    clear hw hw'
    go_enter Tryz.func71, Tryz.ntmps71
    go_wp2_with (go_at_call 109; refine (kis g _ L x _ H.out).mono ?_; rintro e w' ⟨rfl, rfl⟩; rw [HW.out])
    go_ret3
    exact ⟨by rw [E.out, ED.out]; rfl, by rw [EL.out]; exact KLeft.same H.out (Below.refl _ _)⟩
  have HW := Lib.hid hw
  obtain ⟨x0, x1⟩ := isB_iff.1 hw
  obtain ⟨m, rfl⟩ := Int.eq_ofNat_of_zero_le x0
  clear hw
  have hml : m < L.length := by omega
  have E : Hid (giveE L m = 0) := Lib.hid (by unfold giveE; rw [if_pos HW.out])
  have ED : Hid (giveD L m = L[m]) := Lib.hid (by unfold giveD; rw [if_pos HW.out]; simp [List.getD, List.getElem?_eq_getElem hml])
  have EL : Hid (giveL L m = L.take m ++ L.drop (m + 1)) := Lib.hid (by unfold giveL; rw [if_pos HW.out]; rfl)
  rcases HA.out with ⟨_, h0, _⟩ | ⟨q, rfl⟩
  · have : L = [] := by simpa using h0
    subst this
    simp at hml
  have q0 : w.cell? ⟨q, m * 2, none⟩ = some (.int .i64 L[m].too) := H.out.ls.cell rfl (elem_of_let hml) (j := 0) rfl
  have q1 : w.cell? ⟨q, m * 2 + 1, none⟩ = some (.string L[m].b) := H.out.ls.cell rfl (elem_of_let hml) (j := 1) rfl
  have lq := H.out.ls.lt q (by simp [Value.ownBlock])
  generalize L[m] = d at *
  obtain ⟨dt, db⟩ := d
  have hgq : g ∉ [q] := fun hm2 => by have := H.out.ls.apart H.out.bl (by decide); rw [List.mem_singleton.1 hm2] at this; simp [Value.ownBlock] at this
  have HGQ := Lib.hid hgq
  have hmi : (m : Int) < (L.length : Int) := by omega
  have hm6 : L.length ≤ 1000000 := by omega
  clear hgq
  go_enter Tryz.func71, Tryz.ntmps71
  go_wp2_with (first | (go_at_call 109; refine (kis g _ L m _ H.out).mono ?_; rintro e w' ⟨rfl, rfl⟩; rw [HW.out]) | fail)
  refine (delLets q cap L m hml hm6 _ (H.out.ls.alloc _)).mono ?_
  rintro e w2 ⟨rfl, hl2, ho2⟩
  have hb2 : BlockIs w2 g 168 #[.slice (some ⟨q, 0, none⟩) L.length cap] := ho2.block' (H.out.bl.alloc _) HGQ.out
  have h42 : BlockIs w2 w.heap.size 170 #[.int .i64 dt, .string db] := ho2.block' (BlockIs.fresh _ _ _) (by simp; omega)
  have e2 : w2.cell? ⟨g, 0, none⟩ = some (.slice (some ⟨q, 0, none⟩) L.length cap) := hb2.cell 0
  have f2 := hb2.free
  have lg2 := hb2.lt
  have hg4 : w.heap.size ≠ g := by omega
  have h43 : ∀ u, BlockIs (w2.setCell ⟨g, 0, none⟩ u) w.heap.size 170 #[.int .i64 dt, .string db] := fun u => h42.far (p := ⟨g, 0, none⟩) hg4 u
  have k0 : ∀ u, (w2.setCell ⟨g, 0, none⟩ u).cell? ⟨w.heap.size, 0, none⟩ = some (.int .i64 dt) := fun u => (h43 u).cell 0
  have k1 : ∀ u, (w2.setCell ⟨g, 0, none⟩ u).cell? ⟨w.heap.size, 1, none⟩ = some (.string db) := fun u => (h43 u).cell 1
  have l42 := h42.lt
  have hO2 : Out w w2 (g :: blocks (.slice (some ⟨q, 0, none⟩) L.length cap)) := ((Out.refl w _).alloc _).then' ho2 (fun k hk => Or.inl (by simp [Value.ownBlock] at hk ⊢; simp [hk]))
  have hlen : (L.take m ++ L.drop (m + 1)).length = L.length - 1 := by simp; omega
  have hqg : q ≠ g := fun e => HGQ.out (by simp [e])
  have hKP : KLeft w (w2.setCell ⟨g, 0, none⟩ (.slice (some ⟨q, 0, none⟩) (L.length - 1) cap)) g (.slice (some ⟨q, 0, none⟩) L.length cap) (L.take m ++ L.drop (m + 1)) := by
    refine ⟨.slice (some ⟨q, 0, none⟩) (L.length - 1) cap, ⟨hb2.put 0 _, ?_, by omega⟩, hO2.put (p := ⟨g, 0, none⟩) (Or.inl (by simp)) _, fun k hk => Or.inl (by simpa [Value.ownBlock] using hk)⟩
    exact hl2.kept (S := [g]) ((Out.refl w2 [g]).put (p := ⟨g, 0, none⟩) (Or.inl (by simp)) _) (fun k hk hm2 => by
      have hkq : q = k := by simpa [Value.ownBlock] using hk
      rw [List.mem_singleton.1 hm2] at hkq
      exact hqg hkq)
  have HKP := Lib.hid hKP
  clear hKP hl2 ho2 hO2 hb2 h42 h43 hlen hmi hm6 q0 q1
  go_wp2_with fail
  go_quiet (fail)
  go_wp2_with fail
  go_ret3
  refine ⟨by rw [E.out, ED.out]; rfl, ?_⟩
  rw [EL.out]
  obtain ⟨v', hz, ho, hk⟩ := HKP.out
  exact ⟨v', ⟨hz.bl, hz.ls.drewN _, hz.few⟩, ho.drewN _, hk⟩

theorem klose (g : Nat) (v : Value) (L : List Let) (x : Int) (w : World) (h : Kz w g v L) :
    Calls Tryz.prog 72 #[.pointer (some ⟨g, 0, none⟩), .int .i64 x] w fun e w' => e = .returned (errV (giveE L x)) ∧ KLeft w w' g v (giveL L x) := by
  have H := Lib.hid h
  clear h
  go_enter Tryz.func72, Tryz.ntmps72
  go_wp2_with fail
  refine (kgive g v L x _ H.out).mono ?_
  rintro e w2 ⟨rfl, hk⟩
  go_wp2_with fail
  go_ret
  exact ⟨rfl, hk⟩
end Go.Proofs.YtmfbaijbigodkaaGreatDoor

/-! Contracts of package talk. Condition: the blocks hold a talk as New and the calls leave it, each end made no more than 1000 packets, the tables lie there. -/
namespace Go.Proofs.YtmfbaijbigodkaaGreatDoor
open Go.ChangeShapes Go.WideShapes Go.ChangeAt Go.RowKit
set_option linter.unusedVariables false

/-- a link at g -/
def linkT (g : Nat) (L : List Let) : Thing where
  is w S := ∃ v, Kz w g v L ∧ S = g :: blocks v
  lt h k hk := by
    obtain ⟨v, hz, rfl⟩ := h
    exact hz.lt k hk
  kept h ho hd := by
    obtain ⟨v, hz, rfl⟩ := h
    exact ⟨v, hz.kept ho hd, rfl⟩
theorem linkT_left {w w' : World} {g : Nat} {v : Value} {L : List Let} (h : KLeft w w' g v L) : Leaves w w' (g :: blocks v) (linkT g L) := by
  obtain ⟨v', h1, h2, h3⟩ := h
  refine ⟨g :: blocks v', ⟨v', h1, rfl⟩, h2, fun k hk => ?_⟩
  rcases List.mem_cons.1 hk with rfl | hk
  · exact Or.inl (by simp)
  · rcases h3 k hk with h | h
    · exact Or.inl (List.mem_cons_of_mem _ h)
    · exact Or.inr h
/-- a talk: letters on their way, two ends -/
structure TkS where
  L : List Let
  e0 : EnS
  e1 : EnS
def TkS.e (s : TkS) (who : Int) : EnS := if who = 0 then s.e0 else s.e1
def TkS.set (s : TkS) (who : Int) (x : EnS) : TkS := if who = 0 then { s with e0 := x } else { s with e1 := x }
def TkS.new (n : Int) : TkS := ⟨[], EnS.new n, EnS.new n⟩
/-- where it lies -/
structure TkP where
  gw : Nat
  g0 : Nat
  g1 : Nat
def tkParts (g : Nat) (s : TkS) (p : TkP) : List Thing :=
  [Thing.block g 123 #[.pointer (some ⟨p.gw, 0, none⟩), .pointer (some ⟨p.g0, 0, none⟩), .pointer (some ⟨p.g1, 0, none⟩)], linkT p.gw s.L, endT p.g0 s.e0, endT p.g1 s.e1]
def TkOk (s : TkS) : Prop := s.L.length ≤ 40 ∧ ∀ l ∈ s.L, whoB l.too = true ∧ l.b.size ≤ 200
def talkT (g : Nat) (s : TkS) : Thing := Thing.ex fun p : TkP => Thing.with_ (TkOk s) (Thing.all (tkParts g s p))
theorem talkT_open {w : World} {S : List Nat} {g : Nat} {s : TkS} (h : (talkT g s).is w S) : ∃ p, TkOk s ∧ Own w S w (tkParts g s p) := by
  obtain ⟨p, h1, h3⟩ := h
  exact ⟨p, h1, Own.unfold_ h3⟩
theorem talkT_close {w w' : World} {S : List Nat} {g : Nat} {s : TkS} {p : TkP} (h1 : TkOk s) (h : Own w S w' (tkParts g s p)) : Leaves w w' S (talkT g s) :=
  Leaves.ex p (Leaves.with_ h1 h.closed)
set_option maxHeartbeats 1600000 in
theorem tnew_no (n : Int) (h : ¬ (1 ≤ n ∧ n ≤ 1000)) (w : World) :
    Calls Tryz.prog 23 #[.int .i64 n] w fun e w' => e = .returned (.tuple #[.pointer none, errV 1]) ∧ Below w.heap.size w w' := by
  have hN := Lib.hid (fun W => enew_no n h W)
  go_enter Tryz.func23, Tryz.ntmps23
  go_wp2_with (go_at_call 67; refine (knew _).mono ?_; rintro e w1 ⟨rfl, hz, hb1⟩)
  have hs1 : Since w w1 := hb1
  refine wp_loop_rounds 3 ?_
  rw [rounds_succ]
  go_wp2_with (go_at_call 8; refine (hN.out _).mono ?_; rintro e w2 ⟨rfl, hb2⟩; rw [errV_pos (by decide)])
  go_ret2
  exact ⟨by rw [errV_pos (by decide)]; rfl, (by refine Since.out ?_; repeat (first | with_reducible assumption | with_reducible exact Since.refl _ | with_reducible refine Since.later ?_ (by with_reducible assumption) | with_reducible refine Since.only ?_ (by with_reducible assumption) (by first | assumption | omega | (simp; done) | (simp; omega)) | with_reducible refine Since.alloc ?_ _ | with_reducible refine Since.drewN ?_ _ | with_reducible refine Since.drew ?_ | with_reducible refine Since.set ?_ (by first | assumption | omega | (simp; done) | (simp; omega)) _))⟩
set_option maxHeartbeats 3200000 in
theorem tnew (n : Int) (h1 : 1 ≤ n) (h2 : n ≤ 1000) (w : World) :
    Calls Tryz.prog 23 #[.int .i64 n] w fun e w' => ∃ g, e = .returned (.tuple #[.pointer (some ⟨g, 0, none⟩), .nilIface]) ∧ Leaves w w' [] (talkT g (TkS.new n)) := by
  have hN := Lib.hid (fun W => enew n h1 h2 W)
  go_enter Tryz.func23, Tryz.ntmps23
  go_wp2_with (go_at_call 67; refine (knew _).mono ?_; rintro e w1 ⟨rfl, hz, hb1⟩)
  have HW1 : Hid (Own w [] (w1.alloc (.cells #[.pointer (some ⟨w.heap.size, 0, none⟩), .pointer none, .pointer none] 123)) [linkT w.heap.size [], Thing.block w1.heap.size 123 #[.pointer (some ⟨w.heap.size, 0, none⟩), .pointer none, .pointer none]]) := Lib.hid (((Own.start w).add hb1 (S := [w.heap.size]) (t := linkT w.heap.size []) ⟨_, hz, rfl⟩ (by simp)).alloc _ _)
  clear hz hb1
  obtain ⟨gt, hgt⟩ : ∃ g, w1.heap.size = g := ⟨_, rfl⟩
  obtain ⟨gw, hgw⟩ : ∃ g, w.heap.size = g := ⟨_, rfl⟩
  rw [hgt, hgw] at HW1
  obtain ⟨wa, hwa⟩ : ∃ x, w1.alloc (.cells #[.pointer (some ⟨gw, 0, none⟩), .pointer none, .pointer none] 123) = x := ⟨_, rfl⟩
  rw [hwa] at HW1
  rw [hgt, hgw, hwa]
  clear hgt hgw hwa
  refine wp_loop_rounds 3 ?_
  rw [rounds_succ]
  trace "A"; go_wp2_with fail
  refine (hN.out _).mono ?_
  rintro e w2 ⟨g0, rfl, hl⟩
  have HW2 := Lib.hid (HW1.out.made hl)
  have c1 : w2.cell? ⟨gt, 1, none⟩ = some (.pointer none) := (HW2.out.blk 1 rfl).cell 1
  have fr := (HW2.out.blk 1 rfl).free
  have lt := (HW2.out.blk 1 rfl).lt
  clear hl HW1
  trace "B"; go_wp2_with fail
  have HW3 := Lib.hid (HW2.out.put 1 rfl 1 (.pointer (some ⟨g0, 0, none⟩)))
  clear HW2 c1 fr lt
  obtain ⟨wb, hwb⟩ : ∃ x, w2.setCell ⟨gt, 1, none⟩ (.pointer (some ⟨g0, 0, none⟩)) = x := ⟨_, rfl⟩
  rw [hwb] at HW3
  rw [hwb]
  clear hwb
  rw [rounds_succ]
  trace "C"; go_wp2_with fail
  refine (hN.out _).mono ?_
  rintro e w4 ⟨g1, rfl, hl⟩
  have HW4 := Lib.hid (HW3.out.made hl)
  have c2 : w4.cell? ⟨gt, 2, none⟩ = some (.pointer none) := (HW4.out.blk 1 rfl).cell 2
  have fr := (HW4.out.blk 1 rfl).free
  have lt := (HW4.out.blk 1 rfl).lt
  clear hl HW3
  trace "D"; go_wp2_with fail
  rw [rounds_succ]
  trace "E"; go_wp2_with fail
  go_ret2
  have HW5 := HW4.out.put 1 rfl 2 (.pointer (some ⟨g1, 0, none⟩))
  refine ⟨gt, rfl, talkT_close (p := ⟨gw, g0, g1⟩) ⟨by simp [TkS.new], by simp [TkS.new]⟩ ?_⟩
  refine Own.pick HW5 [1, 0, 2, 3] (by decide) (fun i t hi => ?_)
  match i, hi with
  | 0, hi => exact ⟨1, rfl, hi⟩
  | 1, hi => exact ⟨0, rfl, hi⟩
  | 2, hi => exact ⟨2, rfl, hi⟩
  | 3, hi => exact ⟨3, rfl, hi⟩
theorem tcount (g : Nat) (s : TkS) (w : World) (S : List Nat) (h : (talkT g s).is w S) :
    Calls Tryz.prog 35 #[.pointer (some ⟨g, 0, none⟩)] w fun e w' => e = .returned (.int .i64 s.L.length) ∧ w = w' := by
  obtain ⟨p, ok, ho⟩ := talkT_open h
  have HO := Lib.hid ho
  have c0 : w.cell? ⟨g, 0, none⟩ = some (.pointer (some ⟨p.gw, 0, none⟩)) := (ho.blk 0 rfl).cell 0
  have lg := (ho.blk 0 rfl).lt
  obtain ⟨S1, ⟨v, hz, -⟩, -⟩ := ho.at_ 1 rfl
  have HZ := Lib.hid hz
  clear h ho hz
  go_enter Tryz.func35, Tryz.ntmps35
  go_wp2_with (go_at_call 74; refine (kcount p.gw v s.L _ HZ.out).mono ?_; rintro e w1 ⟨rfl, rfl⟩)
  go_ret
  exact ⟨rfl, rfl⟩
/-- Send -/
def TkS.sendE (s : TkS) (who : Int) : Int := if whoB who = true then (if s.L.length = 40 then 4 else 0) else 1
def TkS.send (s : TkS) (who : Int) : TkS := if s.sendE who = 0 then { s.set who (s.e who).make with L := s.L ++ [⟨1 - who, ⟨(s.e who).packet.toArray⟩⟩] } else s
/-- Come -/
noncomputable def TkS.comeE (s : TkS) (i : Int) : Int := if isB s.L i = true then (s.e (giveD s.L i).too).takeE (giveD s.L i).b.data.toList else 1
noncomputable def TkS.come (s : TkS) (i : Int) : TkS := if isB s.L i = true then { s.set (giveD s.L i).too ((s.e (giveD s.L i).too).take (giveD s.L i).b.data.toList) with L := giveL s.L i } else s
/-- Read -/
def TkS.readE (who n : Int) : Int := if whoB who = true then EnS.readE n else 1
def TkS.readS (s : TkS) (who n : Int) : ByteArray := if whoB who = true then (s.e who).readS n else ⟨#[]⟩
def TkS.read (s : TkS) (who n : Int) : TkS := if whoB who = true then s.set who ((s.e who).read n) else s
theorem whoB_iff {x : Int} : whoB x = true ↔ x = 0 ∨ x = 1 := by unfold whoB; simp
set_option maxHeartbeats 1600000 in
theorem tread (g : Nat) (s : TkS) (who n : Int) (w : World) (S : List Nat) (h : (talkT g s).is w S) :
    Calls Tryz.prog 26 #[.pointer (some ⟨g, 0, none⟩), .int .i64 who, .int .i64 n] w fun e w' => e = .returned (.tuple #[.string (s.readS who n), errV (TkS.readE who n)]) ∧ Leaves w w' S (talkT g (s.read who n)) := by
  have H := Lib.hid h
  obtain ⟨p, ok, ho⟩ := talkT_open h
  have HOK := Lib.hid ok
  have HO := Lib.hid ho
  have c1 : w.cell? ⟨g, 1, none⟩ = some (.pointer (some ⟨p.g0, 0, none⟩)) := (ho.blk 0 rfl).cell 1
  have c2 : w.cell? ⟨g, 2, none⟩ = some (.pointer (some ⟨p.g1, 0, none⟩)) := (ho.blk 0 rfl).cell 2
  have lg := (ho.blk 0 rfl).lt
  clear h ho ok
  cases hw : whoB who with
  | false =>
    have HE : Hid (TkS.readE who n = 1 ∧ s.readS who n = ⟨#[]⟩ ∧ s.read who n = s) := Lib.hid ⟨by unfold TkS.readE; rw [hw]; rfl, by unfold TkS.readS; rw [hw]; rfl, by unfold TkS.read; rw [hw]; rfl⟩
    rw [HE.out.1, HE.out.2.1, HE.out.2.2]
    go_enter Tryz.func26, Tryz.ntmps26
    go_wp2_with (go_at_call 68; refine (who_any who _).mono ?_; rintro e w1 ⟨rfl, rfl⟩; rw [hw])
    go_ret2
    exact ⟨rfl, Leaves.same H.out (Below.refl _ _)⟩
  | true =>
    rcases whoB_iff.1 hw with rfl | rfl
    · have HE : Hid (TkS.readE 0 n = EnS.readE n ∧ s.readS 0 n = s.e0.readS n ∧ s.read 0 n = { s with e0 := s.e0.read n }) := Lib.hid ⟨rfl, rfl, rfl⟩
      rw [HE.out.1, HE.out.2.1, HE.out.2.2]
      obtain ⟨S2, hS2, up⟩ := HO.out.at_ 2 rfl
      clear hw
      go_enter Tryz.func26, Tryz.ntmps26
      go_wp2_with (first | (go_at_call 68; refine (who_any 0 _).mono ?_; rintro e w1 ⟨rfl, rfl⟩) | (go_at_call 14; refine (eread p.g0 s.e0 n _ S2 hS2).mono ?_; rintro e w1 ⟨rfl, hl⟩))
      go_ret2
      exact ⟨rfl, talkT_close (p := p) HOK.out (up _ _ hl)⟩
    · have HE : Hid (TkS.readE 1 n = EnS.readE n ∧ s.readS 1 n = s.e1.readS n ∧ s.read 1 n = { s with e1 := s.e1.read n }) := Lib.hid ⟨rfl, rfl, rfl⟩
      rw [HE.out.1, HE.out.2.1, HE.out.2.2]
      obtain ⟨S3, hS3, up⟩ := HO.out.at_ 3 rfl
      clear hw
      go_enter Tryz.func26, Tryz.ntmps26
      go_wp2_with (first | (go_at_call 68; refine (who_any 1 _).mono ?_; rintro e w1 ⟨rfl, rfl⟩) | (go_at_call 14; refine (eread p.g1 s.e1 n _ S3 hS3).mono ?_; rintro e w1 ⟨rfl, hl⟩))
      go_ret2
      exact ⟨rfl, talkT_close (p := p) HOK.out (up _ _ hl)⟩
theorem giveD_mem {L : List Let} {i : Int} (h : isB L i = true) : giveD L i ∈ L := by
  unfold giveD
  rw [if_pos h]
  obtain ⟨h0, h1⟩ := isB_iff.1 h
  have hl : i.toNat < L.length := by omega
  rw [show L.getD i.toNat noLet = L[i.toNat] by simp [List.getD, List.getElem?_eq_getElem hl]]
  exact List.getElem_mem _
theorem giveL_sub {L : List Let} {i : Int} : (giveL L i).length ≤ L.length ∧ ∀ l ∈ giveL L i, l ∈ L := by
  unfold giveL
  split
  · refine ⟨by rw [List.length_append, List.length_take, List.length_drop]; omega, fun l hl => ?_⟩
    rcases List.mem_append.1 hl with h | h
    · exact List.mem_of_mem_take h
    · exact List.mem_of_mem_drop h
  · exact ⟨Nat.le_refl _, fun l hl => hl⟩
set_option maxHeartbeats 3200000 in
theorem tsend (g : Nat) (s : TkS) (who : Int) (w : World) (S : List Nat) (h : (talkT g s).is w S) (hK : KTab w) (hm : (s.e who).made.length ≤ 1000) :
    Calls Tryz.prog 27 #[.pointer (some ⟨g, 0, none⟩), .int .i64 who] w fun e w' => e = .returned (errV (s.sendE who)) ∧ Leaves w w' S (talkT g (s.send who)) := by
  have H := Lib.hid h
  have HK := Lib.hid hK
  obtain ⟨p, ok, ho⟩ := talkT_open h
  have HOK := Lib.hid ok
  have HO := Lib.hid ho
  have c0 : w.cell? ⟨g, 0, none⟩ = some (.pointer (some ⟨p.gw, 0, none⟩)) := (ho.blk 0 rfl).cell 0
  have c1 : w.cell? ⟨g, 1, none⟩ = some (.pointer (some ⟨p.g0, 0, none⟩)) := (ho.blk 0 rfl).cell 1
  have c2 : w.cell? ⟨g, 2, none⟩ = some (.pointer (some ⟨p.g1, 0, none⟩)) := (ho.blk 0 rfl).cell 2
  have lg := (ho.blk 0 rfl).lt
  clear h ho ok hK
  cases hw : whoB who with
  | false =>
    have HE : Hid (s.sendE who = 1 ∧ s.send who = s) := Lib.hid (by
      have e1 : s.sendE who = 1 := by unfold TkS.sendE; rw [hw]; rfl
      exact ⟨e1, by unfold TkS.send; rw [e1, if_neg (by decide)]⟩)
    rw [HE.out.1, HE.out.2]
    go_enter Tryz.func27, Tryz.ntmps27
    go_wp2_with (go_at_call 68; refine (who_any who _).mono ?_; rintro e w1 ⟨rfl, rfl⟩; rw [hw])
    go_ret
    exact ⟨rfl, Leaves.same H.out (Below.refl _ _)⟩
  | true =>
    rcases whoB_iff.1 hw with rfl | rfl
    · have HE : Hid (s.sendE 0 = (if s.L.length = 40 then 4 else 0) ∧ s.e 0 = s.e0) := Lib.hid ⟨rfl, rfl⟩
      have HS : Hid (¬ s.L.length = 40 → s.send 0 = { s with e0 := s.e0.make, L := s.L ++ [⟨1, ⟨s.e0.packet.toArray⟩⟩] }) := Lib.hid (fun h0 => by unfold TkS.send; rw [HE.out.1, if_neg h0, if_pos rfl]; rfl)
      have HS1 : Hid (s.L.length = 40 → s.send 0 = s) := Lib.hid (fun h0 => by unfold TkS.send; rw [HE.out.1, if_pos h0, if_neg (by decide)])
      obtain ⟨S1, ⟨v0, hz0, -⟩, -⟩ := HO.out.at_ 1 rfl
      have HZ0 := Lib.hid hz0
      clear hw hz0
      by_cases hf : s.L.length = 40
      · rw [HE.out.1, if_pos hf, HS1.out hf]
        have hfb : fullB s.L = true := by unfold fullB; simpa using hf
        clear hf
        go_enter Tryz.func27, Tryz.ntmps27
        go_wp2_with (first | (go_at_call 68; refine (who_any 0 _).mono ?_; rintro e w1 ⟨rfl, rfl⟩) | (go_at_call 69; refine (kfull p.gw v0 s.L _ HZ0.out).mono ?_; rintro e w1 ⟨rfl, rfl⟩; rw [hfb]))
        go_ret
        exact ⟨rfl, Leaves.same H.out (Below.refl _ _)⟩
      · rw [HE.out.1, if_neg hf, HS.out hf, errV_zero]
        have hfb : fullB s.L = false := by unfold fullB; simpa using hf
        obtain ⟨S2, hS2, up⟩ := HO.out.at_ 2 rfl
        have hme : (s.e0).made.length ≤ 1000 := hm
        have hokE : EnOk s.e0 := by obtain ⟨q, hq⟩ := endT_open hS2; exact hq.ok
        have hpk : s.e0.packet.length ≤ 177 := (hokE.packetOk (by omega)).2.2
        have HSE : Hid (Go.Proofs.YtmfbaijbigodkaaGreatDoor.sendE s.L 1 ⟨s.e0.packet.toArray⟩ = 0 ∧ sendL s.L 1 ⟨s.e0.packet.toArray⟩ = s.L ++ [⟨1, ⟨s.e0.packet.toArray⟩⟩]) := Lib.hid (by
          have e0 : Go.Proofs.YtmfbaijbigodkaaGreatDoor.sendE s.L 1 ⟨s.e0.packet.toArray⟩ = 0 := by
            unfold Go.Proofs.YtmfbaijbigodkaaGreatDoor.sendE
            rw [if_pos (by decide), if_neg]
            rintro (h1 | h1)
            · exact hf h1
            · have : (200 : Nat) < s.e0.packet.toArray.size := h1
              rw [List.size_toArray] at this
              omega
          exact ⟨e0, by unfold sendL; rw [if_pos e0]⟩)
        have HOK2 : Hid (TkOk { s with e0 := s.e0.make, L := s.L ++ [⟨1, ⟨s.e0.packet.toArray⟩⟩] }) := Lib.hid (by
          refine ⟨by show (s.L ++ [_]).length ≤ 40; rw [List.length_append]; have := HOK.out.1; simp; omega, fun l hl => ?_⟩
          rcases List.mem_append.1 hl with h | h
          · exact HOK.out.2 l h
          · rw [List.mem_singleton.1 h]
            refine ⟨rfl, ?_⟩
            show s.e0.packet.toArray.size ≤ 200
            rw [List.size_toArray]; omega)
        have HSZ : Hid ((ByteArray.mk s.e0.packet.toArray).size ≤ 9223372036854775807) := Lib.hid (by show s.e0.packet.toArray.size ≤ _; rw [List.size_toArray]; omega)
        clear hf hokE hpk
        go_enter Tryz.func27, Tryz.ntmps27
        go_wp2_with (first | (go_at_call 68; refine (who_any 0 _).mono ?_; rintro e w1 ⟨rfl, rfl⟩) | (go_at_call 69; refine (kfull p.gw v0 s.L _ HZ0.out).mono ?_; rintro e w1 ⟨rfl, rfl⟩; rw [hfb]))
        go_region_law (first
          | (go_simp; go_at_call 15; refine (emake p.g0 s.e0 _ S2 ((endT p.g0 s.e0).later hS2 (show Since w _ from (by refine Since.out ?_; repeat (first | with_reducible assumption | with_reducible exact Since.refl _ | with_reducible refine Since.later ?_ (by with_reducible assumption) | with_reducible refine Since.only ?_ (by with_reducible assumption) (by first | assumption | omega | (simp; done) | (simp; omega)) | with_reducible refine Since.alloc ?_ _ | with_reducible refine Since.drewN ?_ _ | with_reducible refine Since.drew ?_ | with_reducible refine Since.set ?_ (by first | assumption | omega | (simp; done) | (simp; omega)) _)))) (HK.out.later (show Since w _ from (by refine Since.out ?_; repeat (first | with_reducible assumption | with_reducible exact Since.refl _ | with_reducible refine Since.later ?_ (by with_reducible assumption) | with_reducible refine Since.only ?_ (by with_reducible assumption) (by first | assumption | omega | (simp; done) | (simp; omega)) | with_reducible refine Since.alloc ?_ _ | with_reducible refine Since.drewN ?_ _ | with_reducible refine Since.drew ?_ | with_reducible refine Since.set ?_ (by first | assumption | omega | (simp; done) | (simp; omega)) _)))) hme).mono ?_; rintro e w1 ⟨rfl, hl⟩; have HW1 := Lib.hid (up _ _ (Leaves.drew hl)); obtain ⟨S1', ⟨v1, hz1, hS1'⟩, up1⟩ := HW1.out.at_ 1 rfl; have d0 : w1.cell? ⟨g, 0, none⟩ = some (.pointer (some ⟨p.gw, 0, none⟩)) := (HW1.out.blk 0 rfl).cell 0; have ld := (HW1.out.blk 0 rfl).lt)
          | (go_simp; go_at_call 70; refine (ksend p.gw v1 s.L 1 ⟨s.e0.packet.toArray⟩ _ hz1 HSZ.out).mono ?_; rintro e w2 ⟨rfl, hk⟩; rw [HSE.out.1, errV_zero]; rw [HSE.out.2] at hk))
        all_goals
          go_wp2_with fail
          go_ret
          refine ⟨rfl, talkT_close (p := p) HOK2.out ?_⟩
          have h9 := up1 _ _ (by rw [hS1']; exact linkT_left hk)
          exact h9
    · have HE : Hid (s.sendE 1 = (if s.L.length = 40 then 4 else 0) ∧ s.e 1 = s.e1) := Lib.hid ⟨rfl, rfl⟩
      have HS : Hid (¬ s.L.length = 40 → s.send 1 = { s with e1 := s.e1.make, L := s.L ++ [⟨0, ⟨s.e1.packet.toArray⟩⟩] }) := Lib.hid (fun h0 => by unfold TkS.send; rw [HE.out.1, if_neg h0, if_pos rfl]; rfl)
      have HS1 : Hid (s.L.length = 40 → s.send 1 = s) := Lib.hid (fun h0 => by unfold TkS.send; rw [HE.out.1, if_pos h0, if_neg (by decide)])
      obtain ⟨S1, ⟨v0, hz0, -⟩, -⟩ := HO.out.at_ 1 rfl
      have HZ0 := Lib.hid hz0
      clear hw hz0
      by_cases hf : s.L.length = 40
      · rw [HE.out.1, if_pos hf, HS1.out hf]
        have hfb : fullB s.L = true := by unfold fullB; simpa using hf
        clear hf
        go_enter Tryz.func27, Tryz.ntmps27
        go_wp2_with (first | (go_at_call 68; refine (who_any 1 _).mono ?_; rintro e w1 ⟨rfl, rfl⟩) | (go_at_call 69; refine (kfull p.gw v0 s.L _ HZ0.out).mono ?_; rintro e w1 ⟨rfl, rfl⟩; rw [hfb]))
        go_ret
        exact ⟨rfl, Leaves.same H.out (Below.refl _ _)⟩
      · rw [HE.out.1, if_neg hf, HS.out hf, errV_zero]
        have hfb : fullB s.L = false := by unfold fullB; simpa using hf
        obtain ⟨S2, hS2, up⟩ := HO.out.at_ 3 rfl
        have hme : (s.e1).made.length ≤ 1000 := hm
        have hokE : EnOk s.e1 := by obtain ⟨q, hq⟩ := endT_open hS2; exact hq.ok
        have hpk : s.e1.packet.length ≤ 177 := (hokE.packetOk (by omega)).2.2
        have HSE : Hid (Go.Proofs.YtmfbaijbigodkaaGreatDoor.sendE s.L 0 ⟨s.e1.packet.toArray⟩ = 0 ∧ sendL s.L 0 ⟨s.e1.packet.toArray⟩ = s.L ++ [⟨0, ⟨s.e1.packet.toArray⟩⟩]) := Lib.hid (by
          have e0 : Go.Proofs.YtmfbaijbigodkaaGreatDoor.sendE s.L 0 ⟨s.e1.packet.toArray⟩ = 0 := by
            unfold Go.Proofs.YtmfbaijbigodkaaGreatDoor.sendE
            rw [if_pos (by decide), if_neg]
            rintro (h1 | h1)
            · exact hf h1
            · have : (200 : Nat) < s.e1.packet.toArray.size := h1
              rw [List.size_toArray] at this
              omega
          exact ⟨e0, by unfold sendL; rw [if_pos e0]⟩)
        have HOK2 : Hid (TkOk { s with e1 := s.e1.make, L := s.L ++ [⟨0, ⟨s.e1.packet.toArray⟩⟩] }) := Lib.hid (by
          refine ⟨by show (s.L ++ [_]).length ≤ 40; rw [List.length_append]; have := HOK.out.1; simp; omega, fun l hl => ?_⟩
          rcases List.mem_append.1 hl with h | h
          · exact HOK.out.2 l h
          · rw [List.mem_singleton.1 h]
            refine ⟨rfl, ?_⟩
            show s.e1.packet.toArray.size ≤ 200
            rw [List.size_toArray]; omega)
        have HSZ : Hid ((ByteArray.mk s.e1.packet.toArray).size ≤ 9223372036854775807) := Lib.hid (by show s.e1.packet.toArray.size ≤ _; rw [List.size_toArray]; omega)
        clear hf hokE hpk
        go_enter Tryz.func27, Tryz.ntmps27
        go_wp2_with (first | (go_at_call 68; refine (who_any 1 _).mono ?_; rintro e w1 ⟨rfl, rfl⟩) | (go_at_call 69; refine (kfull p.gw v0 s.L _ HZ0.out).mono ?_; rintro e w1 ⟨rfl, rfl⟩; rw [hfb]))
        go_region_law (first
          | (go_simp; go_at_call 15; refine (emake p.g1 s.e1 _ S2 ((endT p.g1 s.e1).later hS2 (show Since w _ from (by refine Since.out ?_; repeat (first | with_reducible assumption | with_reducible exact Since.refl _ | with_reducible refine Since.later ?_ (by with_reducible assumption) | with_reducible refine Since.only ?_ (by with_reducible assumption) (by first | assumption | omega | (simp; done) | (simp; omega)) | with_reducible refine Since.alloc ?_ _ | with_reducible refine Since.drewN ?_ _ | with_reducible refine Since.drew ?_ | with_reducible refine Since.set ?_ (by first | assumption | omega | (simp; done) | (simp; omega)) _)))) (HK.out.later (show Since w _ from (by refine Since.out ?_; repeat (first | with_reducible assumption | with_reducible exact Since.refl _ | with_reducible refine Since.later ?_ (by with_reducible assumption) | with_reducible refine Since.only ?_ (by with_reducible assumption) (by first | assumption | omega | (simp; done) | (simp; omega)) | with_reducible refine Since.alloc ?_ _ | with_reducible refine Since.drewN ?_ _ | with_reducible refine Since.drew ?_ | with_reducible refine Since.set ?_ (by first | assumption | omega | (simp; done) | (simp; omega)) _)))) hme).mono ?_; rintro e w1 ⟨rfl, hl⟩; have HW1 := Lib.hid (up _ _ (Leaves.drew hl)); obtain ⟨S1', ⟨v1, hz1, hS1'⟩, up1⟩ := HW1.out.at_ 1 rfl; have d0 : w1.cell? ⟨g, 0, none⟩ = some (.pointer (some ⟨p.gw, 0, none⟩)) := (HW1.out.blk 0 rfl).cell 0; have ld := (HW1.out.blk 0 rfl).lt)
          | (go_simp; go_at_call 70; refine (ksend p.gw v1 s.L 0 ⟨s.e1.packet.toArray⟩ _ hz1 HSZ.out).mono ?_; rintro e w2 ⟨rfl, hk⟩; rw [HSE.out.1, errV_zero]; rw [HSE.out.2] at hk))
        all_goals
          go_wp2_with fail
          go_ret
          refine ⟨rfl, talkT_close (p := p) HOK2.out ?_⟩
          have h9 := up1 _ _ (by rw [hS1']; exact linkT_left hk)
          exact h9
set_option maxHeartbeats 3200000 in
theorem tcome (g : Nat) (s : TkS) (i : Int) (w : World) (S : List Nat) (h : (talkT g s).is w S) (hT : ∀ X, Out w X S → KTab X ∧ CTab X) (hm0 : s.e0.made.length ≤ 1000) (hm1 : s.e1.made.length ≤ 1000) :
    Calls Tryz.prog 29 #[.pointer (some ⟨g, 0, none⟩), .int .i64 i] w fun e w' => e = .returned (errV (s.comeE i)) ∧ Leaves w w' S (talkT g (s.come i)) := by
  have H := Lib.hid h
  have HTT := Lib.hid hT
  obtain ⟨p, ok, ho⟩ := talkT_open h
  have HOK := Lib.hid ok
  have HO := Lib.hid ho
  have c0 : w.cell? ⟨g, 0, none⟩ = some (.pointer (some ⟨p.gw, 0, none⟩)) := (ho.blk 0 rfl).cell 0
  have lg := (ho.blk 0 rfl).lt
  obtain ⟨S1, ⟨v1, hz1, hS1⟩, up1⟩ := HO.out.at_ 1 rfl
  have HGV := Lib.hid (kgive p.gw v1 s.L i w hz1)
  clear h ho ok hT hz1
  cases hb : isB s.L i with
  | false =>
    have HE : Hid (s.comeE i = 1 ∧ s.come i = s ∧ giveE s.L i = 1) := Lib.hid ⟨by unfold TkS.comeE; rw [hb]; rfl, by unfold TkS.come; rw [hb]; rfl, by unfold giveE; rw [hb]; rfl⟩
    have HGL : Hid (giveL s.L i = s.L) := Lib.hid (by unfold giveL; rw [hb]; rfl)
    rw [HE.out.1, HE.out.2.1]
    rw [HE.out.2.2, HGL.out] at HGV
    go_enter Tryz.func29, Tryz.ntmps29
    go_wp2_with fail
    refine HGV.out.mono ?_
    rintro e w1 ⟨rfl, hk⟩
    rw [errV_pos (by decide)]
    have HL := Lib.hid (talkT_close (p := p) HOK.out (up1 _ _ (by rw [hS1]; exact linkT_left hk)))
    go_wp2_with fail
    go_ret
    exact ⟨rfl, HL.out⟩
  | true =>
    have hmem := giveD_mem hb
    obtain ⟨hto, hsz⟩ := HOK.out.2 _ hmem
    have HE : Hid (s.comeE i = (s.e (giveD s.L i).too).takeE (giveD s.L i).b.data.toList ∧ s.come i = { s.set (giveD s.L i).too ((s.e (giveD s.L i).too).take (giveD s.L i).b.data.toList) with L := giveL s.L i } ∧ giveE s.L i = 0) := Lib.hid ⟨by unfold TkS.comeE; rw [if_pos hb], by unfold TkS.come; rw [if_pos hb], by unfold giveE; rw [if_pos hb]⟩
    rw [HE.out.2.2, errV_zero] at HGV
    rw [HE.out.1, HE.out.2.1]
    obtain ⟨⟨tz, b⟩, hd⟩ : ∃ d, giveD s.L i = d := ⟨_, rfl⟩
    rw [hd] at hto hsz HGV
    rw [hd]
    dsimp only at hto hsz HGV ⊢
    have HGL := Lib.hid (giveL_sub (L := s.L) (i := i))
    have hbz : b.size ≤ 9223372036854775000 := by omega
    clear hmem hd HE hb hsz
    rcases whoB_iff.1 hto with rfl | rfl
    · clear hto
      go_enter Tryz.func29, Tryz.ntmps29
      go_wp2_with fail
      refine HGV.out.mono ?_
      rintro e w1 ⟨rfl, hk⟩
      have HW1 := Lib.hid (up1 _ (linkT p.gw (giveL s.L i)) (by rw [hS1]; exact linkT_left hk))
      have d1 : w1.cell? ⟨g, 1, none⟩ = some (.pointer (some ⟨p.g0, 0, none⟩)) := (HW1.out.blk 0 rfl).cell 1
      have ld := (HW1.out.blk 0 rfl).lt
      obtain ⟨S2, hS2, up2⟩ := HW1.out.at_ 2 rfl
      have hK1 : KTab w1 ∧ CTab w1 := HTT.out w1 HW1.out.out
      have HT := Lib.hid (etake p.g0 s.e0 b w1 S2 hS2 hK1.1 hK1.2 hm0 hbz)
      clear hk hS2 hK1
      go_wp2_with (go_at_call 17; refine HT.out.mono ?_; rintro e w2 ⟨rfl, hl⟩)
      go_ret
      exact ⟨rfl, talkT_close (p := p) ⟨Nat.le_trans HGL.out.1 HOK.out.1, fun l hl => HOK.out.2 l (HGL.out.2 l hl)⟩ (up2 _ _ hl)⟩
    · clear hto
      go_enter Tryz.func29, Tryz.ntmps29
      go_wp2_with fail
      refine HGV.out.mono ?_
      rintro e w1 ⟨rfl, hk⟩
      have HW1 := Lib.hid (up1 _ (linkT p.gw (giveL s.L i)) (by rw [hS1]; exact linkT_left hk))
      have d1 : w1.cell? ⟨g, 2, none⟩ = some (.pointer (some ⟨p.g1, 0, none⟩)) := (HW1.out.blk 0 rfl).cell 2
      have ld := (HW1.out.blk 0 rfl).lt
      obtain ⟨S2, hS2, up2⟩ := HW1.out.at_ 3 rfl
      have hK1 : KTab w1 ∧ CTab w1 := HTT.out w1 HW1.out.out
      have HT := Lib.hid (etake p.g1 s.e1 b w1 S2 hS2 hK1.1 hK1.2 hm1 hbz)
      clear hk hS2 hK1
      go_wp2_with (go_at_call 17; refine HT.out.mono ?_; rintro e w2 ⟨rfl, hl⟩)
      go_ret
      exact ⟨rfl, talkT_close (p := p) ⟨Nat.le_trans HGL.out.1 HOK.out.1, fun l hl => HOK.out.2 l (HGL.out.2 l hl)⟩ (up2 _ _ hl)⟩
end Go.Proofs.YtmfbaijbigodkaaGreatDoor

/-! More contracts of package talk: Write, Lose, Twice. Condition: the blocks hold a talk as New and the calls leave it. -/
namespace Go.Proofs.YtmfbaijbigodkaaGreatDoor
open Go.ChangeShapes Go.WideShapes Go.ChangeAt Go.RowKit
set_option linter.unusedVariables false

/-- Write -/
def TkS.writeE (s : TkS) (who : Int) (d : ByteArray) : Int := if whoB who = true then (s.e who).writeE d else 1
def TkS.write (s : TkS) (who : Int) (d : ByteArray) : TkS := if whoB who = true then s.set who ((s.e who).write d) else s
set_option maxHeartbeats 1600000 in
theorem twrite (g : Nat) (s : TkS) (who : Int) (d : ByteArray) (w : World) (S : List Nat) (h : (talkT g s).is w S) (hd : d.size ≤ 9223372036854775000) :
    Calls Tryz.prog 25 #[.pointer (some ⟨g, 0, none⟩), .int .i64 who, .string d] w fun e w' => e = .returned (errV (s.writeE who d)) ∧ Leaves w w' S (talkT g (s.write who d)) := by
  have H := Lib.hid h
  obtain ⟨p, ok, ho⟩ := talkT_open h
  have HOK := Lib.hid ok
  have HO := Lib.hid ho
  have c1 : w.cell? ⟨g, 1, none⟩ = some (.pointer (some ⟨p.g0, 0, none⟩)) := (ho.blk 0 rfl).cell 1
  have c2 : w.cell? ⟨g, 2, none⟩ = some (.pointer (some ⟨p.g1, 0, none⟩)) := (ho.blk 0 rfl).cell 2
  have lg := (ho.blk 0 rfl).lt
  clear h ho ok
  cases hw : whoB who with
  | false =>
    have HE : Hid (s.writeE who d = 1 ∧ s.write who d = s) := Lib.hid ⟨by unfold TkS.writeE; rw [hw]; rfl, by unfold TkS.write; rw [hw]; rfl⟩
    rw [HE.out.1, HE.out.2]
    go_enter Tryz.func25, Tryz.ntmps25
    go_wp2_with (go_at_call 68; refine (who_any who _).mono ?_; rintro e w1 ⟨rfl, rfl⟩; rw [hw])
    go_ret
    exact ⟨rfl, Leaves.same H.out (Below.refl _ _)⟩
  | true =>
    rcases whoB_iff.1 hw with rfl | rfl
    · have HE : Hid (s.writeE 0 d = s.e0.writeE d ∧ s.write 0 d = { s with e0 := s.e0.write d }) := Lib.hid ⟨rfl, rfl⟩
      rw [HE.out.1, HE.out.2]
      obtain ⟨S2, hS2, up⟩ := HO.out.at_ 2 rfl
      clear hw
      go_enter Tryz.func25, Tryz.ntmps25
      go_wp2_with (first | (go_at_call 68; refine (who_any 0 _).mono ?_; rintro e w1 ⟨rfl, rfl⟩) | (go_at_call 11; refine (ewrite p.g0 s.e0 d _ S2 hS2 hd).mono ?_; rintro e w1 ⟨rfl, hl⟩))
      go_ret
      exact ⟨rfl, talkT_close (p := p) HOK.out (up _ _ hl)⟩
    · have HE : Hid (s.writeE 1 d = s.e1.writeE d ∧ s.write 1 d = { s with e1 := s.e1.write d }) := Lib.hid ⟨rfl, rfl⟩
      rw [HE.out.1, HE.out.2]
      obtain ⟨S3, hS3, up⟩ := HO.out.at_ 3 rfl
      clear hw
      go_enter Tryz.func25, Tryz.ntmps25
      go_wp2_with (first | (go_at_call 68; refine (who_any 1 _).mono ?_; rintro e w1 ⟨rfl, rfl⟩) | (go_at_call 11; refine (ewrite p.g1 s.e1 d _ S3 hS3 hd).mono ?_; rintro e w1 ⟨rfl, hl⟩))
      go_ret
      exact ⟨rfl, talkT_close (p := p) HOK.out (up _ _ hl)⟩
set_option maxHeartbeats 1600000 in
theorem tklose (g : Nat) (s : TkS) (i : Int) (w : World) (S : List Nat) (h : (talkT g s).is w S) :
    Calls Tryz.prog 32 #[.pointer (some ⟨g, 0, none⟩), .int .i64 i] w fun e w' => e = .returned (errV (giveE s.L i)) ∧ Leaves w w' S (talkT g { s with L := giveL s.L i }) := by
  obtain ⟨p, ok, ho⟩ := talkT_open h
  have HOK := Lib.hid ok
  have HO := Lib.hid ho
  have c0 : w.cell? ⟨g, 0, none⟩ = some (.pointer (some ⟨p.gw, 0, none⟩)) := (ho.blk 0 rfl).cell 0
  have lg := (ho.blk 0 rfl).lt
  obtain ⟨S1, ⟨v, hz, hS1⟩, up⟩ := HO.out.at_ 1 rfl
  have HZ := Lib.hid hz
  have HGL := Lib.hid (giveL_sub (L := s.L) (i := i))
  clear h ho hz ok
  go_enter Tryz.func32, Tryz.ntmps32
  go_wp2_with (go_at_call 72; refine (klose p.gw v s.L i _ HZ.out).mono ?_; rintro e w1 ⟨rfl, hk⟩)
  go_ret
  exact ⟨rfl, talkT_close (p := p) ⟨Nat.le_trans HGL.out.1 HOK.out.1, fun l hl => HOK.out.2 l (HGL.out.2 l hl)⟩ (up _ _ (by rw [hS1]; exact linkT_left hk))⟩
theorem twice_ok {L : List Let} {i : Int} (h : L.length ≤ 40 ∧ ∀ l ∈ L, whoB l.too = true ∧ l.b.size ≤ 200) : (twiceL L i).length ≤ 40 ∧ ∀ l ∈ twiceL L i, whoB l.too = true ∧ l.b.size ≤ 200 := by
  unfold twiceL twiceE
  cases hb : isB L i with
  | false => exact h
  | true =>
    obtain ⟨h0, h1⟩ := isB_iff.1 hb
    by_cases h40 : L.length = 40
    · rw [if_pos rfl, if_pos h40, if_neg (by decide)]; exact h
    · rw [if_pos rfl, if_neg h40, if_pos rfl]
      refine ⟨by rw [List.length_append]; have := h.1; simp; omega, fun l hl => ?_⟩
      rcases List.mem_append.1 hl with hm | hm
      · exact h.2 l hm
      · rw [List.mem_singleton.1 hm]
        have hl : i.toNat < L.length := by omega
        rw [show L.getD i.toNat noLet = L[i.toNat] by simp [List.getD, List.getElem?_eq_getElem hl]]
        exact h.2 _ (List.getElem_mem _)
set_option maxHeartbeats 1600000 in
theorem tktwice (g : Nat) (s : TkS) (i : Int) (w : World) (S : List Nat) (h : (talkT g s).is w S) :
    Calls Tryz.prog 33 #[.pointer (some ⟨g, 0, none⟩), .int .i64 i] w fun e w' => e = .returned (errV (twiceE s.L i)) ∧ Leaves w w' S (talkT g { s with L := twiceL s.L i }) := by
  obtain ⟨p, ok, ho⟩ := talkT_open h
  have HOK := Lib.hid ok
  have HO := Lib.hid ho
  have c0 : w.cell? ⟨g, 0, none⟩ = some (.pointer (some ⟨p.gw, 0, none⟩)) := (ho.blk 0 rfl).cell 0
  have lg := (ho.blk 0 rfl).lt
  obtain ⟨S1, ⟨v, hz, hS1⟩, up⟩ := HO.out.at_ 1 rfl
  have HZ := Lib.hid hz
  clear h ho hz ok
  go_enter Tryz.func33, Tryz.ntmps33
  go_wp2_with (go_at_call 73; refine (ktwice p.gw v s.L i _ HZ.out).mono ?_; rintro e w1 ⟨rfl, hk⟩)
  go_ret
  exact ⟨rfl, talkT_close (p := p) (twice_ok HOK.out) (up _ _ (by rw [hS1]; exact linkT_left hk))⟩
end Go.Proofs.YtmfbaijbigodkaaGreatDoor

/-! What the rows' lists give a walk where strconv's table of powers is among them, and a world that meets them. -/
namespace Go.Proofs.YtmfbaijbigodkaaGreatDoor
open Go.ChangeShapes Go.WideShapes Go.ChangeAt Go.RowKit
set_option linter.unusedVariables false

/-- the table of powers -/
def PTab (w : World) : Prop := Lib.TabIs Tryz.prog w "internal/strconv.uint64pow10" .u64 Lib.pow10Tab
theorem Tryz.powName : Tryz.prog.globalNamed "internal/strconv.uint64pow10" = some 9 := by kernel_rfl
theorem PTab.lt {w : World} (h : PTab w) : 9 < w.heap.size := by
  have h0 := Lib.TabIs.cell h Tryz.powName 0 (by decide)
  rcases Nat.lt_or_ge 9 w.heap.size with h1 | h1
  · exact h1
  · simp [World.cell?, Array.getElem?_eq_none h1] at h0
theorem PTab.later {w w1 : World} (h : PTab w) (hb : Below w.heap.size w w1) : PTab w1 := by
  have e := hb.block _ h.lt
  unfold PTab Lib.TabIs World.var? at h ⊢
  rw [Tryz.powName] at h ⊢
  simp only [Option.bind_some] at h ⊢
  rw [e]
  exact h
theorem ptab_of_head {W : World} {rest : List (String × DataW Unit)} (h : laidMet Tryz.prog (("internal/strconv.uint64pow10", Rows.laid_internal_strconv_uint64pow10) :: rest) W) : PTab W :=
  Lib.tabIs_of_head (zs := Lib.pow10Tab) Tryz.powName (t := 298) (by kernel_rfl) (e := 258) (n := 20) (by kernel_rfl) (by kernel_rfl) (by kernel_rfl) (by kernel_rfl) h
theorem laid_p {W : World} (h : laidMetH Tryz.prog [("math/bits.deBruijn32tab", Rows.laid_math_bits_deBruijn32tab), ("math/bits.deBruijn64tab", Rows.laid_math_bits_deBruijn64tab), ("internal/strconv.uint64pow10", Rows.laid_internal_strconv_uint64pow10)] W) : PTab W := by
  have h' : laidMet Tryz.prog [("math/bits.deBruijn32tab", Rows.laid_math_bits_deBruijn32tab), ("math/bits.deBruijn64tab", Rows.laid_math_bits_deBruijn64tab), ("internal/strconv.uint64pow10", Rows.laid_internal_strconv_uint64pow10)] W := h
  exact ptab_of_head h'.tail.tail
def litCells : List (DataW Unit) → List Value
  | .lit (.int k n) :: r => .int k n :: litCells r
  | _ => []
def tabCells : DataW Unit → Array Value
  | .agg l => (litCells l).toArray
  | _ => #[]
/-- A world that meets the lists: the settled one, the listed variables' cells laid. -/
noncomputable def laidWorld3 (os : Os) : World :=
  let w0 := World.holding Tryz.prog os ⟨#[], #[], []⟩
  { w0 with heap := w0.heap
    |>.modify 0 (fun
      | .cells _ t frozen => .cells #[.iface 216 (.agg #[.pointer (some ⟨12, 27, none⟩)])] t frozen
      | o => o)
    |>.modify 10 (fun
      | .cells _ t frozen => .cells (tabCells Rows.laid_math_bits_deBruijn32tab) t frozen
      | o => o)
    |>.modify 11 (fun
      | .cells _ t frozen => .cells (tabCells Rows.laid_math_bits_deBruijn64tab) t frozen
      | o => o)
    |>.modify 9 (fun
      | .cells _ t frozen => .cells (tabCells Rows.laid_internal_strconv_uint64pow10) t frozen
      | o => o)
  }
set_option maxRecDepth 100000 in
theorem laidMet_p (os : Os) (args : Array Value) : laidMetH Tryz.prog [("math/bits.deBruijn32tab", Rows.laid_math_bits_deBruijn32tab), ("math/bits.deBruijn64tab", Rows.laid_math_bits_deBruijn64tab), ("internal/strconv.uint64pow10", Rows.laid_internal_strconv_uint64pow10)] ((laidWorld3 os).forCall (fun _ _ => 0) ⟨#[], args, []⟩).memory :=
  laidMet_of_run' 8 (by kernel_rfl) (by kernel_rfl)
end Go.Proofs.YtmfbaijbigodkaaGreatDoor

/-! strconv.Itoa at a number that may be one. Condition: the table of powers lies there. -/
namespace Go.Proofs.YtmfbaijbigodkaaGreatDoor
open Go.ChangeShapes Go.WideShapes Go.ChangeAt Go.RowKit
set_option linter.unusedVariables false

/-- the decimal numeral -/
def ita (n : Int) : ByteArray := ⟨(Lib.itoa n).toArray⟩
theorem nDig : ∀ (k u : Nat), u < 10 ^ k → 1 ≤ Lib.nDigits u ∧ Lib.nDigits u ≤ k + (if k = 0 then 1 else 0)
  | 0, u, h => by
    have : u = 0 := by simpa using h
    subst this
    unfold Lib.nDigits
    simp
  | k + 1, u, h => by
    unfold Lib.nDigits
    by_cases h10 : u < 10
    · rw [dif_pos h10]; simp
    · rw [dif_neg h10]
      have ih := nDig k (u / 10) (by rw [Nat.pow_succ] at h; omega)
      cases k with
      | zero => simp at h; omega
      | succ k => simp only [Nat.add_eq_zero_iff, Nat.one_ne_zero, and_false, if_false] at ih ⊢; omega
theorem ita_size {n : Int} (h0 : 0 ≤ n) (h1 : n ≤ 1073741823) : 1 ≤ (ita n).size ∧ (ita n).size ≤ 10 := by
  obtain ⟨u, rfl⟩ : ∃ u : Nat, n = u := ⟨n.toNat, by omega⟩
  have e : (ita (u : Int)).size = Lib.nDigits u := by
    show (Lib.itoa (u : Int)).toArray.size = _
    rw [Lib.itoa_nonneg, List.size_toArray, Lib.decDigits_length]
  rw [e]
  have := nDig 10 u (by omega)
  simpa using this
theorem below_grow (w : World) (k : Nat) (os : Array Obj) : Below w.heap.size w (Go.Sort.grow (w.drewN k) os) :=
  ⟨rfl, rfl, rfl, by show w.heap.size ≤ (w.heap ++ os).size; simp, fun i hi => by
    show (w.heap ++ os)[i]? = w.heap[i]?
    rw [Array.getElem?_append_left hi]⟩
theorem itoaC (n : Int) (h0 : 0 ≤ n) (h1 : n ≤ 1073741823) (w : World) (hp : PTab w) :
    Calls Tryz.prog 165 #[.int .i64 n] w fun e w' => e = .returned (.string (ita n)) ∧ Below w.heap.size w w' := by
  refine (Tryz.strconv_Itoa n (by omega) (by omega) w hp).mono ?_
  rintro e w' ⟨rfl, k, os, rfl⟩
  exact ⟨rfl, below_grow w k os⟩
end Go.Proofs.YtmfbaijbigodkaaGreatDoor

/-! The bytes of a log, in plain words: records one behind the other, each a decimal numeral and a newline; what cutting, searching and reading them gives. No program here. -/
namespace Go.Proofs.YtmfbaijbigodkaaGreatDoor
open Go.RowKit
set_option linter.unusedVariables false

/-- a record's bytes -/
def rcb (n : Int) : List UInt8 := Lib.itoa n ++ [10]
def rcs (ns : List Int) : List UInt8 := (ns.map rcb).flatten
theorem rcs_nil : rcs [] = [] := rfl
theorem rcs_cons (n : Int) (ns : List Int) : rcs (n :: ns) = rcb n ++ rcs ns := rfl
theorem rcs_app (ns ms : List Int) : rcs (ns ++ ms) = rcs ns ++ rcs ms := by unfold rcs; rw [List.map_append, List.flatten_append]
theorem dig_all (u : Nat) : ∀ b ∈ Lib.decDigits u, 48 ≤ b.toNat ∧ b.toNat ≤ 57 := by
  induction u using Nat.strongRecOn with
  | _ u ih =>
    intro b hb
    rw [Lib.decDigits] at hb
    split at hb
    · rename_i h
      rw [List.mem_singleton.1 hb, UInt8.toNat_ofNat']
      omega
    · rename_i h
      rcases List.mem_append.1 hb with hb | hb
      · exact ih (u / 10) (by omega) b hb
      · rw [List.mem_singleton.1 hb, UInt8.toNat_ofNat']
        omega
theorem dig_app (l : List UInt8) (d : Nat) (hd : d < 10) : ∀ (acc n : Nat), Lib.decFrom acc l = some n → Lib.decFrom acc (l ++ [UInt8.ofNat (48 + d)]) = some (n * 10 + d) := by
  induction l with
  | nil =>
    intro acc n h
    have h1 : acc = n := by simpa [Lib.decFrom] using h
    subst h1
    have hv : Lib.digitVal (UInt8.ofNat (48 + d)) = some d := by
      unfold Lib.digitVal
      rw [UInt8.toNat_ofNat', if_pos (by omega)]
      congr 1
      omega
    show Lib.decFrom acc [UInt8.ofNat (48 + d)] = _
    rw [Lib.decFrom, hv]
    rfl
  | cons b r ih =>
    intro acc n h
    rw [List.cons_append]
    rw [Lib.decFrom] at h ⊢
    cases hv : Lib.digitVal b with
    | none => rw [hv] at h; cases h
    | some x => rw [hv] at h; exact ih _ _ h
theorem dig_read (u : Nat) : Lib.decFrom 0 (Lib.decDigits u) = some u := by
  induction u using Nat.strongRecOn with
  | _ u ih =>
    rw [Lib.decDigits]
    split
    · rename_i h
      have := dig_app [] u h 0 0 rfl
      simpa using this
    · rename_i h
      have := dig_app (Lib.decDigits (u / 10)) (u % 10) (by omega) 0 (u / 10) (ih (u / 10) (by omega))
      rw [this]
      congr 1
      omega
theorem ita_read {n : Int} (h0 : 0 ≤ n) : Lib.atoi (Lib.itoa n) = some n := by
  obtain ⟨u, rfl⟩ : ∃ u : Nat, n = u := ⟨n.toNat, by omega⟩
  rw [Lib.itoa_nonneg]
  have hr := dig_read u
  have ha := dig_all u
  have hl : 1 ≤ (Lib.decDigits u).length := by rw [Lib.decDigits_length]; unfold Lib.nDigits; split <;> omega
  generalize Lib.decDigits u = l at *
  cases l with
  | nil => simp at hl
  | cons b r =>
    have hb := ha b (by simp)
    have n1 : (b == 45) = false := by
      rw [beq_eq_false_iff_ne]
      rintro rfl
      simp at hb
    have n2 : (b == 43) = false := by
      rw [beq_eq_false_iff_ne]
      rintro rfl
      simp at hb
    rw [Lib.atoi, n1, n2]
    show (Lib.decNat (b :: r)).map _ = _
    unfold Lib.decNat
    rw [hr]
    rfl
theorem ita_no {n : Int} (h0 : 0 ≤ n) : ∀ b ∈ Lib.itoa n, b ≠ 10 := by
  obtain ⟨u, rfl⟩ : ∃ u : Nat, n = u := ⟨n.toNat, by omega⟩
  rw [Lib.itoa_nonneg]
  intro b hb h
  have := dig_all u b hb
  rw [h] at this
  simp at this
theorem index_at : ∀ (l r : List UInt8), (∀ b ∈ l, b ≠ 10) → Lib.indexByte (l ++ 10 :: r) 10 = (l.length : Int)
  | [], r, _ => by simp [Lib.indexByte]
  | b :: l, r, h => by
    have hb : (b == 10) = false := by simpa using h b (by simp)
    have ih := index_at l r (fun c hc => h c (by simp [hc]))
    have hne : ((l.length : Int) == -1) = false := by rw [beq_eq_false_iff_ne]; omega
    rw [List.cons_append, Lib.indexByte, hb, ih, hne, List.length_cons]
    simp
/-- where the first line ends -/
theorem rec_index {n : Int} (h0 : 0 ≤ n) (r : List UInt8) : Lib.indexByte (rcb n ++ r) 10 = ((Lib.itoa n).length : Int) := by
  unfold rcb
  rw [List.append_assoc]
  exact index_at _ _ (ita_no h0)
theorem rec_trim (n : Int) : Lib.trimSuffix (rcb n) [10] = Lib.itoa n := by
  unfold Lib.trimSuffix Lib.hasSuffix rcb
  have : ([10] : List UInt8).isSuffixOf (Lib.itoa n ++ [10]) = true := by
    rw [List.isSuffixOf_iff_suffix]
    exact List.suffix_append _ _
  rw [if_pos this, List.length_append]
  simp
theorem rcb_len (n : Int) : (rcb n).length = (Lib.itoa n).length + 1 := by unfold rcb; rw [List.length_append]; rfl
/-- no newline in these -/
def noNl (l : List UInt8) : Prop := ∀ b ∈ l, b ≠ 10
theorem occ_one (s : List UInt8) (k : Nat) : Lib.occAt s [10] k = decide (s[k]? = some 10) := by
  unfold Lib.occAt
  have e : s[k]? = (s.drop k).head? := by rw [List.head?_drop]
  rw [e]
  cases s.drop k with
  | nil => rfl
  | cons b r =>
    show ((10 == b) && true) = decide (some b = some 10)
    rw [Bool.and_true]
    by_cases h : b = 10
    · subst h; rfl
    · have h1 : ((10 : UInt8) == b) = false := by rw [beq_eq_false_iff_ne]; exact fun h2 => h h2.symm
      rw [h1, decide_eq_false (by simpa using h)]
theorem last_app (l t : List UInt8) (ht : noNl t) : Lib.lastIndex (l ++ 10 :: t) [10] = (l.length : Int) := by
  have hlen : (l ++ 10 :: t).length = l.length + t.length + 1 := by rw [List.length_append, List.length_cons]; omega
  unfold Lib.lastIndex
  rw [if_pos (by rw [hlen]; show 1 ≤ _; omega)]
  have hat : Lib.occAt (l ++ 10 :: t) [10] l.length = true := by
    rw [occ_one, decide_eq_true_iff, List.getElem?_append_right (Nat.le_refl _), Nat.sub_self]
    rfl
  have hno : ∀ j, l.length < j → Lib.occAt (l ++ 10 :: t) [10] j = false := by
    intro j hj
    rw [occ_one, decide_eq_false_iff_not, List.getElem?_append_right (by omega)]
    obtain ⟨m, hm⟩ : ∃ m, j - l.length = m + 1 := ⟨j - l.length - 1, by omega⟩
    rw [hm, List.getElem?_cons_succ]
    intro h
    exact ht 10 (List.mem_of_getElem? h) rfl
  have hk : l.length < (l ++ 10 :: t).length - [(10 : UInt8)].length + 1 := by rw [hlen]; show l.length < l.length + t.length + 1 - 1 + 1; omega
  rcases Lib.lastOcc_spec (l ++ 10 :: t) [10] ((l ++ 10 :: t).length - [(10 : UInt8)].length + 1) with ⟨_, h⟩ | ⟨i, hi, he, ho, h⟩
  · rw [h _ hk] at hat; cases hat
  · rw [he]
    rcases Nat.lt_trichotomy i l.length with h1 | h1 | h1
    · rw [h _ h1 hk] at hat; cases hat
    · rw [h1]
    · rw [hno _ h1] at ho; cases ho
theorem last_none (t : List UInt8) (ht : noNl t) : Lib.lastIndex t [10] = -1 := by
  unfold Lib.lastIndex
  split
  · rcases Lib.lastOcc_spec t [10] (t.length - [(10 : UInt8)].length + 1) with ⟨h, _⟩ | ⟨i, hi, he, ho, h⟩
    · exact h
    · rw [occ_one, decide_eq_true_iff] at ho
      exact absurd rfl (ht 10 (List.mem_of_getElem? ho))
  · rfl
/-- records, then bytes without a newline: where the last record ends -/
theorem rcs_last (ns : List Int) (t : List UInt8) (ht : noNl t) : Lib.lastIndex (rcs ns ++ t) [10] + 1 = ((rcs ns).length : Int) := by
  rcases List.eq_nil_or_concat ns with rfl | ⟨ms, n, rfl⟩
  · rw [rcs_nil, List.nil_append, last_none t ht]; rfl
  · rw [List.concat_eq_append, rcs_app]
    have e : rcs ms ++ rcs [n] ++ t = (rcs ms ++ Lib.itoa n) ++ 10 :: t := by
      have : rcs [n] = Lib.itoa n ++ [10] := by rw [rcs_cons, rcs_nil, List.append_nil]; rfl
      rw [this]; simp
    rw [e, last_app _ t ht]
    have : rcs [n] = Lib.itoa n ++ [10] := by rw [rcs_cons, rcs_nil, List.append_nil]; rfl
    rw [this, List.length_append, List.length_append, List.length_append]
    simp
    omega
/-- a beginning of the records: whole ones, and a part of one without its newline -/
theorem rcs_take (ns : List Int) (h : ∀ n ∈ ns, 0 ≤ n) : ∀ k, k ≤ (rcs ns).length → ∃ j t, j ≤ ns.length ∧ (rcs ns).take k = rcs (ns.take j) ++ t ∧ noNl t ∧ (j < ns.length → t.length < (rcb (ns.getD j 0)).length) := by
  induction ns with
  | nil => intro k hk; exact ⟨0, [], Nat.le_refl _, by simp [rcs], by intro b hb; simp at hb, by intro hh; simp at hh⟩
  | cons n ns ih =>
    intro k hk
    rw [rcs_cons, List.length_append] at hk
    by_cases hlt : k < (rcb n).length
    · refine ⟨0, (rcb n).take k, Nat.zero_le _, ?_, ?_, fun _ => ?_⟩
      · rw [rcs_cons, List.take_append_of_le_length (by omega)]; simp [rcs]
      · intro b hb
        rw [rcb_len] at hlt
        have e : (rcb n).take k = (Lib.itoa n).take k := by unfold rcb; rw [List.take_append_of_le_length (by omega)]
        rw [e] at hb
        exact ita_no (h n (by simp)) b (List.mem_of_mem_take hb)
      · rw [List.length_take]; show min k _ < _; simp; omega
    · obtain ⟨j, t, h1, h2, h3, h4⟩ := ih (fun m hm => h m (by simp [hm])) (k - (rcb n).length) (by omega)
      refine ⟨j + 1, t, by simp; omega, ?_, h3, fun hj => ?_⟩
      · rw [rcs_cons, List.take_append, List.take_of_length_le (by omega), h2, List.take_succ_cons, rcs_cons, List.append_assoc]
      · have := h4 (by simp at hj; omega)
        simpa using this
end Go.Proofs.YtmfbaijbigodkaaGreatDoor

/-! Sessions in plain words: the words of a line, the numbers among them, the command they give, the answer to it, and the answers to all lines of a text. No program here. -/
namespace Go.Proofs.YtmfbaijbigodkaaGreatDoor
open Go.RowKit
set_option linter.unusedVariables false

/-- the words of a line -/
def cutAt (c : UInt8) : List UInt8 → List (List UInt8)
  | [] => [[]]
  | b :: r => if b = c then [] :: cutAt c r else match cutAt c r with
    | [] => [[b]]
    | x :: xs => (b :: x) :: xs
theorem cutAt_ne (c : UInt8) (l : List UInt8) : cutAt c l ≠ [] := by
  cases l with
  | nil => simp [cutAt]
  | cons b r =>
    rw [cutAt]
    split
    · simp
    · split <;> simp
theorem cutAt_pos (c : UInt8) (l : List UInt8) : 0 < (cutAt c l).length := List.length_pos_iff.2 (cutAt_ne c l)
/-- no byte c in it -/
def free (c : UInt8) (l : List UInt8) : Prop := ∀ b ∈ l, b ≠ c
theorem cutAt_free {c : UInt8} : ∀ {l : List UInt8}, free c l → cutAt c l = [l]
  | [], _ => rfl
  | b :: r, h => by
    have hb : b ≠ c := h b (by simp)
    have ih := cutAt_free (l := r) (fun x hx => h x (by simp [hx]))
    rw [cutAt, if_neg hb, ih]
theorem cutAt_app {c : UInt8} : ∀ {l : List UInt8} (r : List UInt8), free c l → cutAt c (l ++ c :: r) = l :: cutAt c r
  | [], r, _ => by rw [List.nil_append, cutAt, if_pos rfl]
  | b :: l, r, h => by
    have hb : b ≠ c := h b (by simp)
    have ih := cutAt_app (l := l) r (fun x hx => h x (by simp [hx]))
    rw [List.cons_append, cutAt, if_neg hb, ih]
theorem cutAt_each {c : UInt8} : ∀ {l : List UInt8}, ∀ x ∈ cutAt c l, free c x ∧ x.length ≤ l.length
  | [], x, hx => by
    rw [cutAt, List.mem_singleton] at hx
    subst hx
    exact ⟨fun b hb => by simp at hb, Nat.le_refl _⟩
  | b :: r, x, hx => by
    rw [cutAt] at hx
    split at hx
    · rcases List.mem_cons.1 hx with rfl | hx
      · exact ⟨fun b hb => by simp at hb, by simp⟩
      · obtain ⟨h1, h2⟩ := cutAt_each x hx
        exact ⟨h1, by rw [List.length_cons]; omega⟩
    · rename_i hb
      cases hc : cutAt c r with
      | nil => exact absurd hc (cutAt_ne c r)
      | cons y ys =>
        rw [hc] at hx
        rcases List.mem_cons.1 hx with rfl | hx
        · obtain ⟨h1, h2⟩ := cutAt_each (l := r) y (by rw [hc]; simp)
          refine ⟨fun a ha => ?_, by rw [List.length_cons, List.length_cons]; omega⟩
          rcases List.mem_cons.1 ha with rfl | ha
          · exact hb
          · exact h1 a ha
        · obtain ⟨h1, h2⟩ := cutAt_each (l := r) x (by rw [hc]; simp [hx])
          exact ⟨h1, by rw [List.length_cons]; omega⟩
theorem cutAt_few (c : UInt8) : ∀ l : List UInt8, (cutAt c l).length ≤ l.length + 1
  | [] => Nat.le_refl _
  | b :: r => by
    have ih := cutAt_few c r
    rw [cutAt, List.length_cons]
    split
    · rw [List.length_cons]; omega
    · cases hc : cutAt c r with
      | nil => simp
      | cons x xs =>
        rw [hc, List.length_cons] at ih
        rw [List.length_cons]; omega
theorem index_skip {b c : UInt8} {l : List UInt8} (h : b ≠ c) : Lib.index (b :: l) [c] = if Lib.index l [c] == -1 then -1 else Lib.index l [c] + 1 := by
  have hp : ([c] : List UInt8).isPrefixOf (b :: l) = false := by simp [List.isPrefixOf, Ne.symm h]
  rw [Lib.index, hp]; simp
theorem index_here {c : UInt8} {l : List UInt8} : Lib.index (c :: l) [c] = 0 := by rw [Lib.index]; simp [List.isPrefixOf]
/-- strings.Split at one byte is this -/
theorem splitK_cut (c : UInt8) : ∀ (l : List UInt8) (k : Nat), l.count c ≤ k → Lib.splitK [c] 0 k l = cutAt c l
  | [], k, _ => by
    cases k with
    | zero => rfl
    | succ k =>
      have : Lib.index ([] : List UInt8) [c] = -1 := by simp [Lib.index]
      rw [Lib.splitK, this]; rfl
  | b :: r, k, hk => by
    by_cases hb : b = c
    · subst hb
      rw [List.count_cons_self] at hk
      cases k with
      | zero => omega
      | succ k =>
        rw [Lib.splitK, index_here, cutAt, if_pos rfl]
        have ih := splitK_cut b r k (by omega)
        rw [if_neg (by decide)]
        show ([] : List UInt8) :: Lib.splitK [b] 0 k r = _
        rw [ih]
    · rw [List.count_cons_of_ne hb] at hk
      have ih := splitK_cut c r k hk
      rw [cutAt, if_neg hb]
      cases k with
      | zero =>
        rw [Lib.splitK] at ih ⊢
        rw [← ih]
      | succ k =>
        rw [Lib.splitK] at ih ⊢
        rw [index_skip hb]
        by_cases hm : Lib.index r [c] = -1
        · rw [hm] at ih ⊢
          rw [← ih]
          rfl
        · have hge := Lib.index_ge r [c]
          obtain ⟨j, hj⟩ : ∃ j : Nat, Lib.index r [c] = j := ⟨(Lib.index r [c]).toNat, by omega⟩
          have e1 : ((j : Int) == -1) = false := by rw [beq_eq_false_iff_ne]; omega
          have e2 : (((j : Int) + 1) == -1) = false := by rw [beq_eq_false_iff_ne]; omega
          rw [hj, e1] at ih ⊢
          simp only [Bool.false_eq_true, if_false] at ih ⊢
          rw [e2, ← ih]
          simp only [Bool.false_eq_true, if_false]
          have e3 : ((j : Int) + 1).toNat = j + 1 := by omega
          have e4 : (j : Int).toNat = j := by omega
          rw [e3, e4]
          rfl
/-- a number of at most four digits, without a needless 0 -/
def dgN (l : List UInt8) : Option Nat := if l = [] ∨ 4 < l.length ∨ (l.head? = some 48 ∧ 1 < l.length) then none else Lib.decFrom 0 l
theorem dd_small {u : Nat} (h : u < 10) : Lib.decDigits u = [UInt8.ofNat (48 + u)] := by rw [Lib.decDigits, dif_pos h]
theorem dd_big {u : Nat} (h : ¬ u < 10) : Lib.decDigits u = Lib.decDigits (u / 10) ++ [UInt8.ofNat (48 + u % 10)] := by rw [Lib.decDigits, dif_neg h]
theorem dd_len (u : Nat) : 1 ≤ (Lib.decDigits u).length := by rw [Lib.decDigits_length]; exact Lib.nDigits_pos u
theorem dd_head : ∀ (u : Nat), 1 ≤ u → (Lib.decDigits u).head? ≠ some 48 := by
  intro u
  induction u using Nat.strongRecOn with
  | _ u ih =>
    intro h1
    by_cases h : u < 10
    · rw [dd_small h]
      intro e
      have e2 : UInt8.ofNat (48 + u) = 48 := by simpa using e
      have e3 := congrArg UInt8.toNat e2
      rw [UInt8.toNat_ofNat'] at e3
      have : (48 : UInt8).toNat = 48 := rfl
      omega
    · rw [dd_big h]
      have := ih (u / 10) (by omega) (by omega)
      have hl := dd_len (u / 10)
      cases hd : Lib.decDigits (u / 10) with
      | nil => rw [hd] at hl; simp at hl
      | cons a r =>
        rw [hd] at this
        simpa using this
theorem dec_snoc : ∀ (l : List UInt8) (b : UInt8) (acc : Nat), Lib.decFrom acc (l ++ [b]) = match Lib.decFrom acc l with
    | none => none
    | some m => match Lib.digitVal b with
      | none => none
      | some d => some (m * 10 + d)
  | [], b, acc => by
    rw [List.nil_append, Lib.decFrom, Lib.decFrom]
    cases Lib.digitVal b <;> rfl
  | a :: r, b, acc => by
    rw [List.cons_append, Lib.decFrom, Lib.decFrom]
    cases Lib.digitVal a with
    | none => rfl
    | some d => exact dec_snoc r b _
theorem byte_of {b : UInt8} {d : Nat} (h : Lib.digitVal b = some d) : b = UInt8.ofNat (48 + d) ∧ d < 10 := by
  obtain ⟨h1, h2, h3⟩ := Lib.digitVal_eq h
  refine ⟨?_, by omega⟩
  apply UInt8.toNat_inj.1
  rw [UInt8.toNat_ofNat']
  have := b.toNat_lt
  omega
theorem dd_back : ∀ (k : Nat) (l : List UInt8) (n : Nat), l.length = k + 1 → (l.head? = some 48 → l.length = 1) → Lib.decFrom 0 l = some n → Lib.decDigits n = l
  | 0, l, n, hl, _, h => by
    obtain ⟨b, rfl⟩ := List.length_eq_one_iff.1 hl
    rw [Lib.decFrom] at h
    cases hd : Lib.digitVal b with
    | none => rw [hd] at h; cases h
    | some d =>
      rw [hd] at h
      obtain ⟨h1, h2⟩ := byte_of hd
      have e : n = d := by simpa [Lib.decFrom] using h.symm
      subst e
      rw [dd_small h2, ← h1]
  | k + 1, l, n, hl, h0, h => by
    obtain ⟨r, b, rfl⟩ : ∃ r b, l = r ++ [b] := ⟨l.dropLast, l.getLast (by intro e; rw [e] at hl; simp at hl), (List.dropLast_concat_getLast _).symm⟩
    rw [List.length_append, List.length_singleton] at hl
    have hr : r.length = k + 1 := by omega
    cases r with
    | nil => simp at hr
    | cons a t =>
      have hh : a ≠ 48 := by
        intro e
        have := h0 (by rw [e]; rfl)
        rw [List.length_append, List.length_singleton] at this
        omega
      rw [dec_snoc] at h
      cases hm : Lib.decFrom 0 (a :: t) with
      | none => rw [hm] at h; cases h
      | some m =>
        rw [hm] at h
        cases hd : Lib.digitVal b with
        | none => rw [hd] at h; cases h
        | some d =>
          rw [hd] at h
          obtain ⟨h1, h2⟩ := byte_of hd
          have ih := dd_back k (a :: t) m hr (fun e => absurd (by simpa using e) hh) hm
          have hm1 : 1 ≤ m := by
            rcases Nat.eq_zero_or_pos m with rfl | h
            · rw [dd_small (by decide)] at ih
              have e2 : (48 : UInt8) = a := by have := congrArg List.head? ih; simpa using this
              exact absurd e2.symm hh
            · exact h
          have e : n = m * 10 + d := by simpa using h.symm
          subst e
          rw [dd_big (by omega), show (m * 10 + d) / 10 = m by omega, show (m * 10 + d) % 10 = d by omega, ih, ← h1]
/-- a number is read, and written as it was -/
theorem dg_yes {l : List UInt8} {n : Nat} (h : dgN l = some n) : Lib.atoiAll l = .ok (n : Int) ∧ 1 ≤ l.length ∧ l.length ≤ 4 ∧ Lib.itoa (n : Int) = l ∧ n ≤ 9999 := by
  unfold dgN at h
  split at h
  · cases h
  · rename_i hn
    have h0 : l ≠ [] := fun e => hn (Or.inl e)
    have h4 : l.length ≤ 4 := by
      rcases Nat.lt_or_ge 4 l.length with h | h
      · exact absurd (Or.inr (Or.inl h)) hn
      · exact h
    have h1 : 1 ≤ l.length := List.length_pos_iff.2 h0
    have hz : l.head? = some 48 → l.length = 1 := fun e => by
      rcases Nat.lt_or_ge 1 l.length with h | h
      · exact absurd (Or.inr (Or.inr ⟨e, h⟩)) hn
      · omega
    have hlt : n ≤ 9999 := by
      have := Lib.decFrom_lt l 0 n h
      have hp : 10 ^ l.length ≤ 10 ^ 4 := Nat.pow_le_pow_right (by decide) h4
      omega
    refine ⟨?_, h1, h4, ?_, hlt⟩
    · rw [Lib.atoiAll_short l (by omega)]
      cases l with
      | nil => exact absurd rfl h0
      | cons b r =>
        have hb : ∃ d, Lib.digitVal b = some d := Lib.digit_of_decFrom (b :: r) 0 n h 0 b rfl
        obtain ⟨d, hd⟩ := hb
        obtain ⟨b1, b2, b3⟩ := Lib.digitVal_eq hd
        have n1 : (b == 45) = false := by
          rw [beq_eq_false_iff_ne]
          rintro rfl
          simp at b1
        have n2 : (b == 43) = false := by
          rw [beq_eq_false_iff_ne]
          rintro rfl
          simp at b1
        rw [Lib.atoi, n1, n2]
        simp only [Bool.false_eq_true, if_false]
        unfold Lib.decNat
        rw [h]
        rfl
    · rw [Lib.itoa_nonneg]
      exact dd_back (l.length - 1) l n (by omega) hz h
theorem dg_itoa (u : Nat) (h4 : (Lib.decDigits u).length ≤ 4) : dgN (Lib.decDigits u) = some u := by
  have hl := dd_len u
  unfold dgN
  rw [if_neg, dig_read]
  rintro (h | h | ⟨h1, h2⟩)
  · rw [h] at hl; simp at hl
  · omega
  · rcases Nat.eq_zero_or_pos u with rfl | h
    · rw [dd_small (by decide)] at h2
      simp at h2
    · exact dd_head u h h1
theorem dg_no {l : List UInt8} (h : dgN l = none) {v : Int} (hv : 0 ≤ v) (h4 : l.length ≤ 4) : Lib.itoa v ≠ l := by
  intro e
  obtain ⟨u, rfl⟩ : ∃ u : Nat, v = u := ⟨v.toNat, by omega⟩
  rw [Lib.itoa_nonneg] at e
  subst e
  rw [dg_itoa u h4] at h
  cases h
/-- numbers, if each is one -/
def nums : List (List UInt8) → Option (List Nat)
  | [] => some []
  | x :: r => match dgN x with
    | none => none
    | some n => match nums r with
      | none => none
      | some ns => some (n :: ns)
theorem nums_len : ∀ {L : List (List UInt8)} {ns : List Nat}, nums L = some ns → ns.length = L.length
  | [], ns, h => by cases h; rfl
  | x :: r, ns, h => by
    rw [nums] at h
    split at h
    · cases h
    · split at h
      · cases h
      · rename_i _ n _ _ ms hm
        cases h
        rw [List.length_cons, List.length_cons, nums_len hm]
theorem nums_snoc (L : List (List UInt8)) (x : List UInt8) : nums (L ++ [x]) = match nums L with
    | none => none
    | some ns => match dgN x with
      | none => none
      | some n => some (ns ++ [n]) := by
  induction L with
  | nil =>
    rw [List.nil_append, nums, nums]
    cases dgN x <;> rfl
  | cons y r ih =>
    rw [List.cons_append, nums, nums, ih]
    cases dgN y with
    | none => rfl
    | some m =>
      cases nums r with
      | none => rfl
      | some ns => cases dgN x <;> rfl
theorem nums_bad {L R : List (List UInt8)} (h : nums L = none) : nums (L ++ R) = none := by
  induction L with
  | nil => cases h
  | cons y r ih =>
    rw [List.cons_append, nums]
    rw [nums] at h
    cases hd : dgN y with
    | none => rfl
    | some m =>
      rw [hd] at h
      cases hr : nums r with
      | none => rw [ih hr]
      | some ns => rw [hr] at h; cases h
def wWrite : List UInt8 := [119, 114, 105, 116, 101]
def wSend : List UInt8 := [115, 101, 110, 100]
def wCome : List UInt8 := [99, 111, 109, 101]
def wLose : List UInt8 := [108, 111, 115, 101]
def wTwice : List UInt8 := [116, 119, 105, 99, 101]
def wRead : List UInt8 := [114, 101, 97, 100]
def wCount : List UInt8 := [99, 111, 117, 110, 116]
def wVarint : List UInt8 := [118, 97, 114, 105, 110, 116]
def wNeed : List UInt8 := [110, 101, 101, 100]
/-- how many numbers a word wants -/
def manyOf (x : List UInt8) : Option Nat :=
  if x = wWrite ∨ x = wSend ∨ x = wCome ∨ x = wLose ∨ x = wTwice ∨ x = wVarint then some 1
  else if x = wRead ∨ x = wNeed then some 2
  else if x = wCount then some 0 else none
/-- a command: the word, its numbers, its text; none: these words are none -/
def parse (ws : List (List UInt8)) : Option (List UInt8 × List Nat × List UInt8) :=
  match ws with
  | [] => none
  | x :: r =>
    if x = wWrite then match r with
      | [a, d] => if d = [] then none else match dgN a with
        | none => none
        | some n => some (x, [n], d)
      | _ => none
    else match manyOf x with
      | none => none
      | some m => match nums r with
        | none => none
        | some ns => if ns.length = m then some (x, ns, []) else none
def bOk : ByteArray := ⟨#[111, 107]⟩
def bBad : ByteArray := ⟨#[98, 97, 100]⟩
def bDash : ByteArray := ⟨#[45]⟩
/-- an error's name -/
def eName (e : Int) : ByteArray :=
  if e = 0 then ⟨#[79, 75]⟩
  else if e = 1 then ⟨#[69, 114, 114, 82, 97, 110, 103, 101]⟩
  else if e = 2 then ⟨#[69, 114, 114, 83, 121, 110, 116, 97, 120]⟩
  else if e = 3 then ⟨#[69, 114, 114, 83, 104, 97, 112, 101]⟩
  else if e = 4 then ⟨#[69, 114, 114, 70, 117, 108, 108]⟩
  else if e = 5 then ⟨#[69, 114, 114, 78, 111, 110, 101]⟩
  else if e = 6 then ⟨#[69, 114, 114, 83, 116, 97, 116, 101]⟩
  else if e = 7 then ⟨#[69, 114, 114, 67, 108, 97, 115, 104]⟩
  else if e = 8 then ⟨#[69, 114, 114, 70, 108, 111, 119]⟩
  else ⟨#[69, 114, 114, 110, 111]⟩
/-- the bytes of a text, in decimal, a space between -/
def tells (l : List UInt8) : List UInt8 := Lib.join (l.map fun b => Lib.itoa (b.toNat : Int)) [32]
/-- what a command gives: its answer, the error, and the talk behind it -/
noncomputable def doW (s : TkS) (x : List UInt8) (n : List Nat) (d : List UInt8) : ByteArray × Int × TkS :=
  if x = wWrite then (bOk, s.writeE (n.getD 0 0 : Nat) ⟨d.toArray⟩, s.write (n.getD 0 0 : Nat) ⟨d.toArray⟩)
  else if x = wSend then (bOk, s.sendE (n.getD 0 0 : Nat), s.send (n.getD 0 0 : Nat))
  else if x = wCome then (bOk, s.comeE (n.getD 0 0 : Nat), s.come (n.getD 0 0 : Nat))
  else if x = wLose then (bOk, giveE s.L (n.getD 0 0 : Nat), { s with L := giveL s.L (n.getD 0 0 : Nat) })
  else if x = wTwice then (bOk, twiceE s.L (n.getD 0 0 : Nat), { s with L := twiceL s.L (n.getD 0 0 : Nat) })
  else if x = wRead then (if s.readS (n.getD 0 0 : Nat) (n.getD 1 0 : Nat) = ⟨#[]⟩ then bDash else s.readS (n.getD 0 0 : Nat) (n.getD 1 0 : Nat), TkS.readE (n.getD 0 0 : Nat) (n.getD 1 0 : Nat), s.read (n.getD 0 0 : Nat) (n.getD 1 0 : Nat))
  else if x = wVarint then (⟨(tells (vbytes (n.getD 0 0 : Nat))).toArray⟩, 0, s)
  else if x = wNeed then (⟨(Lib.itoa (needV (n.getD 0 0 : Nat) (n.getD 1 0 : Nat))).toArray⟩, needE (n.getD 0 0 : Nat) (n.getD 1 0 : Nat), s)
  else (⟨(Lib.itoa (s.L.length : Int)).toArray⟩, 0, s)
/-- the answer to words, and the talk behind them -/
noncomputable def ansW (s : TkS) (ws : List (List UInt8)) : ByteArray × TkS :=
  match parse ws with
  | none => (bBad, s)
  | some (x, n, d) => (if (doW s x n d).2.1 = 0 then (doW s x n d).1 else eName (doW s x n d).2.1, (doW s x n d).2.2)
/-- the answer to a line -/
noncomputable def ans (s : TkS) (l : List UInt8) : ByteArray × TkS := ansW s (cutAt 32 l)
/-- the answers to lines, each with its end -/
noncomputable def anss (s : TkS) : List (List UInt8) → List UInt8
  | [] => []
  | l :: r => (ans s l).1.data.toList ++ 10 :: anss (ans s l).2 r
/-- the talk behind lines -/
noncomputable def behind (s : TkS) : List (List UInt8) → TkS
  | [] => s
  | l :: r => behind (ans s l).2 r
theorem behind_app (s : TkS) (L R : List (List UInt8)) : behind s (L ++ R) = behind (behind s L) R := by
  induction L generalizing s with
  | nil => rfl
  | cons l r ih => exact ih _
theorem anss_app (s : TkS) (L R : List (List UInt8)) : anss s (L ++ R) = anss s L ++ anss (behind s L) R := by
  induction L generalizing s with
  | nil => rfl
  | cons l r ih =>
    rw [List.cons_append, anss, anss, ih, List.append_assoc]
    rfl
end Go.Proofs.YtmfbaijbigodkaaGreatDoor

/-! Words and numbers of a session: strings.Split at one byte, and run's digit and numbers, by contracts. Condition: strconv's table of powers lies there, and its two errors are errors; the texts are short. -/
namespace Go.Proofs.YtmfbaijbigodkaaGreatDoor
open Go.ChangeShapes Go.WideShapes Go.ChangeAt Go.RowKit Go.Shelf
set_option linter.unusedVariables false

/-- strconv's two errors are errors -/
def STab (w : World) : Prop := (∃ te pe, w.cell? ⟨7, 0, none⟩ = some (.iface te pe)) ∧ ∃ te pe, w.cell? ⟨8, 0, none⟩ = some (.iface te pe)
theorem STab.later {w w1 : World} (h : STab w) (hb : Below w.heap.size w w1) : STab w1 := by
  obtain ⟨⟨a, b, h1⟩, ⟨c, d, h2⟩⟩ := h
  exact ⟨⟨a, b, cell_later hb h1⟩, ⟨c, d, cell_later hb h2⟩⟩
/-- strings.Split at one byte -/
theorem split_one (s : ByteArray) (c : UInt8) (w : World) (hs : s.size ≤ 1000000) :
    Calls Tryz.prog 141 #[.string s, .string ⟨#[c]⟩] w fun e w' => ∃ L : List ByteArray, L.map (·.data.toList) = cutAt c s.data.toList ∧ e = .returned (.slice (some ⟨w.heap.size, 0, none⟩) L.length L.length) ∧ w' = w.alloc (.cells (L.map Value.string).toArray 9) := by
  have h1 : 1 ≤ (⟨#[c]⟩ : ByteArray).size := Nat.le_refl _
  have hle := Lib.countB_le ⟨#[c]⟩ h1 s.size s (Nat.le_refl _)
  have hlen := Lib.splitB_all ⟨#[c]⟩ h1 0 _ s rfl
  have hcn : Lib.countB s ⟨#[c]⟩ = s.data.toList.count c := by
    show Lib.count s.data.toList [c] = _
    exact Lib.count_one c _
  have hC : Calls Tryz.prog 180 #[.string s, .string ⟨#[c]⟩] w fun e w' => e = .returned (.int .i64 (Lib.countB s ⟨#[c]⟩)) ∧ w' = w := by
    refine (Tryz.strings_Count_one s c w).mono fun e w' ⟨he, hw⟩ => ⟨?_, hw⟩
    rw [he, hcn]
    rfl
  have hg := Any.strings_genSplit_core Tryz.lays221 (by kernel_rfl) s ⟨#[c]⟩ 0 (-1) (Lib.countB s ⟨#[c]⟩ + 1) w (by omega) h1 (Nat.zero_le _) (fun x cs hx => by
    refine (Tryz.strings_Index_one x c _).mono fun e w' ⟨he, hw⟩ => ⟨?_, hw⟩
    rw [he, ← Lib.index_one]) hC (by decide) (by decide) (by rw [if_pos (by decide)]; omega)
  rw [Nat.add_sub_cancel, hlen] at hg
  have e2 : Lib.cellsOf (Lib.splitB ⟨#[c]⟩ 0 (Lib.countB s ⟨#[c]⟩) s) (Lib.countB s ⟨#[c]⟩ + 1) = ((Lib.splitB ⟨#[c]⟩ 0 (Lib.countB s ⟨#[c]⟩) s).map Value.string).toArray := by rw [← hlen]; exact Lib.cellsOf_full _
  rw [e2, ← hlen] at hg
  have hcut : (Lib.splitB ⟨#[c]⟩ 0 (Lib.countB s ⟨#[c]⟩) s).map (·.data.toList) = cutAt c s.data.toList := by
    rw [Lib.splitB_data]
    exact splitK_cut c _ _ (by rw [hcn]; exact Nat.le_refl _)
  generalize Lib.splitB ⟨#[c]⟩ 0 (Lib.countB s ⟨#[c]⟩) s = L at *
  have HG : Hid (Calls Tryz.prog 159 #[.string s, .string ⟨#[c]⟩, .int .i64 0, .int .i64 (-1)] w fun e w' => e = .returned (.slice (some ⟨w.heap.size, 0, none⟩) L.length L.length) ∧ w' = w.alloc (.cells (L.map Value.string).toArray 9)) := Lib.hid hg
  have HCUT := Lib.hid hcut
  clear hg hcut e2 hC hcn hle hlen
  go_enter Tryz.func141, Tryz.ntmps141
  go_wp2_with (go_at_call 159; refine HG.out.mono ?_; rintro e w' ⟨rfl, rfl⟩)
  go_ret
  exact ⟨L, HCUT.out, rfl, rfl⟩
/-- a word that is a number -/
theorem pdigit_yes (s : ByteArray) (n : Nat) (h : dgN s.data.toList = some n) (w : World) (hP : PTab w) :
    Calls Tryz.prog 160 #[.string s] w fun e w' => e = .returned (.tuple #[.int .i64 n, .bool true]) ∧ Below w.heap.size w w' := by
  obtain ⟨h1, h2, h3, h4, h5⟩ := dg_yes h
  have hsz : s.data.toList.length = s.size := by rw [Array.length_toList]; rfl
  have HA : Hid (Calls Tryz.prog 182 #[.string s] w fun e w' => e = .returned (.tuple #[.int .i64 n, .nilIface]) ∧ Below w.heap.size w w') := Lib.hid (by
    refine (Tryz.strconv_Atoi_ok s (by omega) n h1 w).mono ?_
    rintro e w' ⟨rfl, rfl | ⟨t, rfl⟩⟩
    · exact ⟨rfl, Below.refl _ _⟩
    · exact ⟨rfl, Lib.bytesWorld_below _ _ _⟩)
  have HI : Hid (∀ W, Since w W → Calls Tryz.prog 165 #[.int .i64 n] W fun e w' => e = .returned (.string s) ∧ Below W.heap.size W w') := Lib.hid (fun W hW => by
    refine (itoaC n (by omega) (by omega) W (hP.later hW)).mono ?_
    rintro e w' ⟨rfl, hb⟩
    refine ⟨?_, hb⟩
    unfold ita
    rw [h4])
  have hq : ((n : Int) ≥ 0) := by omega
  have hq2 : (0 : Int) ≤ (n : Int) := by omega
  have hq3 : (s.size : Int) ≤ 4 := by omega
  have hq4 : s.size ≤ 4 := by omega
  clear h h1 h2 h3 h4 h5 hsz hP
  go_enter Tryz.func160, Tryz.ntmps160
  trace "A"; go_wp2_with fail
  refine HA.out.mono ?_
  rintro e w1 ⟨rfl, hb1⟩
  have hs1 : Since w w1 := hb1
  trace "B"; go_wp2_with fail
  refine (HI.out _ hs1).mono ?_
  rintro e w2 ⟨rfl, hb2⟩
  have hs2 : Since w w2 := hs1.later hb2
  trace "C"; go_wp2_with fail
  go_ret2
  exact ⟨by simp, hs2⟩
/-- a word that is none -/
theorem pdigit_no (s : ByteArray) (h : dgN s.data.toList = none) (hs : s.size ≤ 1000000) (w : World) (hP : PTab w) (hS : STab w) :
    Calls Tryz.prog 160 #[.string s] w fun e w' => ∃ n : Int, e = .returned (.tuple #[.int .i64 n, .bool false]) ∧ Below w.heap.size w w' := by
  have hsz : s.data.toList.length = s.size := by rw [Array.length_toList]; rfl
  match ha : Lib.atoiAll s.data.toList with
  | .syntax =>
    obtain ⟨te, pe, hv⟩ := hS.1
    have HA := Lib.hid (Tryz.strconv_Atoi_syntax s (by omega) ha _ w hv (Or.inr ⟨te, pe, rfl⟩))
    clear h ha hsz hP hS hv
    go_enter Tryz.func160, Tryz.ntmps160
    go_wp2_with fail
    refine HA.out.mono ?_
    rintro e w1 ⟨N, rfl, -, -, hb1⟩
    have hs1 : Since w w1 := hb1
    clear hb1
    go_wp2_with fail
    go_ret2
    exact ⟨_, rfl, hs1⟩
  | .range =>
    obtain ⟨te, pe, hv⟩ := hS.2
    have HA := Lib.hid (Tryz.strconv_Atoi_range s (by omega) ha _ w hv (Or.inr ⟨te, pe, rfl⟩))
    generalize Lib.atoiSat s.data.toList = sat at *
    clear h ha hsz hP hS hv
    go_enter Tryz.func160, Tryz.ntmps160
    go_wp2_with fail
    refine HA.out.mono ?_
    rintro e w1 ⟨N, rfl, -, -, hb1⟩
    have hs1 : Since w w1 := hb1
    clear hb1
    go_wp2_with fail
    go_ret2
    exact ⟨_, rfl, hs1⟩
  | .ok v =>
    obtain ⟨vb0, vb1⟩ := Lib.atoiAll_bounds ha
    have HA : Hid (Calls Tryz.prog 182 #[.string s] w fun e w' => e = .returned (.tuple #[.int .i64 v, .nilIface]) ∧ Below w.heap.size w w') := Lib.hid (by
      refine (Tryz.strconv_Atoi_ok s (by omega) v ha w).mono ?_
      rintro e w' ⟨rfl, rfl | ⟨t, rfl⟩⟩
      · exact ⟨rfl, Below.refl _ _⟩
      · exact ⟨rfl, Lib.bytesWorld_below _ _ _⟩)
    by_cases hv0 : 0 ≤ v
    case neg =>
      have hq : decide (0 ≤ v) = false := by simpa using hv0
      clear h ha hsz hP hS hv0
      go_enter Tryz.func160, Tryz.ntmps160
      go_wp2_with fail
      refine HA.out.mono ?_
      rintro e w1 ⟨rfl, hb1⟩
      have hs1 : Since w w1 := hb1
      clear hb1
      go_wp2_with fail
      go_ret2
      exact ⟨_, rfl, hs1⟩
    by_cases h4 : s.size ≤ 4
    case neg =>
      have hq : decide ((s.size : Int) ≤ 4) = false := by simp; omega
      clear h ha hsz hP hS
      go_enter Tryz.func160, Tryz.ntmps160
      go_wp2_with fail
      refine HA.out.mono ?_
      rintro e w1 ⟨rfl, hb1⟩
      have hs1 : Since w w1 := hb1
      clear hb1
      go_wp2_with fail
      go_ret2
      exact ⟨_, rfl, hs1⟩
    have hne : Lib.itoa v ≠ s.data.toList := dg_no h hv0 (by omega)
    have HI : Hid (∀ W, Since w W → Calls Tryz.prog 165 #[.int .i64 v] W fun e w' => ∃ X : ByteArray, e = .returned (.string X) ∧ (X.toList == s.toList) = false ∧ Below W.heap.size W w') := Lib.hid (fun W hW => by
      refine (Tryz.strconv_Itoa v vb0 vb1 W (hP.later hW)).mono ?_
      rintro e w' ⟨rfl, k, os, rfl⟩
      refine ⟨_, rfl, ?_, below_grow _ _ _⟩
      rw [beq_eq_false_iff_ne]
      intro e
      apply hne
      rw [Lib.toList_data, Lib.toList_data] at e
      exact e)
    have hq3 : (s.size : Int) ≤ 4 := by omega
    clear h ha hsz hP hS hne
    go_enter Tryz.func160, Tryz.ntmps160
    trace "A"; go_wp2_with fail
    refine HA.out.mono ?_
    rintro e w1 ⟨rfl, hb1⟩
    have hs1 : Since w w1 := hb1
    trace "B"; go_wp2_with fail
    refine (HI.out _ hs1).mono ?_
    rintro e w2 ⟨X, rfl, hX, hb2⟩
    have hs2 : Since w w2 := hs1.later hb2
    clear hb2
    trace "C"; go_wp2_with fail
    go_ret2
    exact ⟨v, by simp, hs2⟩
/-- what numbers answers -/
def NumsOut (o : Option (List Nat)) (w w' : World) (e : Ending) : Prop := match o with
  | none => e = .returned (.tuple #[.slice none 0 0, .bool false])
  | some ns => ∃ A' c', e = .returned (.tuple #[.slice A' ns.length c', .bool true]) ∧ Lst w' 3 1 (.slice A' ns.length c') (ns.map fun (n : Nat) => intRow n) ∧ ∀ q, q ∈ blocks (.slice A' 0 0) → w.heap.size ≤ q
/-- the numbers of words, if each is one -/
theorem pnums (A : Option Addr) (cap : Nat) (L : List ByteArray) (w : World) (hP : PTab w) (hS : STab w) (hlen : L.length ≤ 100000) (hsz : ∀ x ∈ L, x.size ≤ 1000000) (hc : L ≠ [] → ∃ b off, A = some ⟨b, off, none⟩ ∧ b < w.heap.size ∧ ∀ i, i < L.length → w.cell? ⟨b, off + i, none⟩ = some (.string (sth L i))) :
    Calls Tryz.prog 143 #[.slice A L.length cap] w fun e w' => Below w.heap.size w w' ∧ NumsOut (nums (L.map (·.data.toList))) w w' e := by
  have HP := Lib.hid hP
  have HS := Lib.hid hS
  have HZ := Lib.hid hsz
  have HC := Lib.hid hc
  obtain ⟨m, hm⟩ : ∃ m, L.length = m := ⟨_, rfl⟩
  have HM := Lib.hid hm
  have hm2 : m ≤ 100000 := by omega
  rw [hm]
  clear hP hS hsz hc hm hlen
  go_enter Tryz.func143, Tryz.ntmps143
  trace "A"; go_wp2_with fail
  go_loopw [4, 11] (fun s4 s11 wr => ∃ (i : Nat) (A' : Option Addr) (c : Nat) (ns : List Nat), s4 = .slice A' i c ∧ s11 = .int .i64 i ∧ i ≤ m ∧ Hid (nums ((L.take i).map (·.data.toList)) = some ns) ∧ Hid (Lst wr 3 1 (.slice A' i c) (ns.map fun (n : Nat) => intRow n)) ∧ Hid (∀ q, q ∈ blocks (.slice A' 0 0) → w.heap.size ≤ q) ∧ Since w wr) (fun _ s11 _ => m - (intOf s11).toNat)
  case atStart => exact ⟨0, none, 0, [], rfl, rfl, Nat.zero_le _, Lib.hid rfl, Lib.hid (Lst.nil _ _ _), Lib.hid (by simp [Value.ownBlock]), Since.refl _⟩
  case round =>
    obtain ⟨i, A', c, ns, rfl, rfl, hi, HN, HL, HW, hs⟩ := hrel
    have HLEN : Hid (ns.length = i) := Lib.hid (by have := nums_len HN.out; rw [List.length_map, List.length_take, HM.out] at this; omega)
    by_cases hlt : i < m
    case neg =>
      obtain rfl : i = m := by omega
      have hf : decide ((i : Int) < (i : Int)) = false := by simp
      have HT : Hid (nums (L.map (·.data.toList)) = some ns) := Lib.hid (by have := HN.out; rw [List.take_of_length_le (by rw [HM.out]; exact Nat.le_refl _)] at this; exact this)
      trace "B"; go_wp2_with fail
      go_ret2
      refine ⟨hs, ?_⟩
      rw [HT.out]
      unfold NumsOut
      exact ⟨A', c, by rw [HLEN.out]; rfl, by rw [HLEN.out]; exact HL.out, HW.out⟩
    have hlt' : (i : Int) < (m : Int) := by omega
    obtain ⟨b, off, rfl, hbl, hcc⟩ := HC.out (by rintro rfl; have := HM.out; simp at this; omega)
    have ct : wr.cell? ⟨b, off + i, none⟩ = some (.string (sth L i)) := hs.cell hbl (hcc i (by rw [HM.out]; exact hlt))
    have hil : i < L.length := by rw [HM.out]; exact hlt
    have hmem : sth L i ∈ L := by
      unfold sth
      rw [show L.getD i ByteArray.empty = L[i] by simp [List.getD, List.getElem?_eq_getElem hil]]
      exact List.getElem_mem hil
    have htk : Hid ((L.take (i + 1)).map (·.data.toList) = (L.take i).map (·.data.toList) ++ [(sth L i).data.toList]) := Lib.hid (by
      rw [List.take_succ_eq_append_getElem hil, List.map_append]
      unfold sth
      simp [List.getD, List.getElem?_eq_getElem hil])
    have htl : Hid (L.map (·.data.toList) = (L.take (i + 1)).map (·.data.toList) ++ (L.drop (i + 1)).map (·.data.toList)) := Lib.hid (by rw [← List.map_append, List.take_append_drop])
    have hxz := HZ.out _ hmem
    generalize sth L i = x at *
    clear hcc hil hmem
    cases hd : dgN x.data.toList with
    | none =>
      have HD := Lib.hid (pdigit_no x hd hxz wr (HP.out.later hs) (HS.out.later hs))
      have HT : Hid (nums (L.map (·.data.toList)) = none) := Lib.hid (by
        rw [htl.out]
        apply nums_bad
        rw [htk.out, nums_snoc, HN.out, hd])
      clear hd hxz
      trace "C"; go_wp2_with fail
      refine HD.out.mono ?_
      rintro e w1 ⟨k, rfl, hb1⟩
      have hs1 := hs.later hb1
      clear hb1
      trace "D"; go_wp2_with fail
      go_ret2
      refine ⟨hs1, ?_⟩
      rw [HT.out]
      rfl
    | some n =>
      have HD := Lib.hid (pdigit_yes x n hd wr (HP.out.later hs))
      have HN2 : Hid (nums ((L.take (i + 1)).map (·.data.toList)) = some (ns ++ [n])) := Lib.hid (by rw [htk.out, nums_snoc, HN.out, hd])
      have HML : Hid ((ns.map fun (n : Nat) => intRow n).length = i) := Lib.hid (by rw [List.length_map, HLEN.out])
      clear hd hxz
      trace "E"; go_wp2_with fail
      refine HD.out.mono ?_
      rintro e w1 ⟨rfl, hb1⟩
      have hs1 := hs.later hb1
      have HL1 := Lib.hid (HL.out.later hb1)
      clear hb1 HD
      trace "F"; go_wp2_with (at_builtin; refine wpList_push rfl _ _ 22 rfl 3 1 8 Tryz.elInt (.slice A' i c) (ns.map fun (n : Nat) => intRow n) rfl (HL1.out.alloc _) w1.heap.size 1 [.int .i64 n] rfl rfl (intRow_one n).2 (BlockIs.fresh _ _ _) (by rw [HML.out]; omega) ?_; intro q cq w5 hl5 ho5 hq5 hlt5)
      rw [HML.out] at hl5
      have hs5 : Since w w5 := (hs1.alloc _).out' ho5 (fun k hk => HW.out k (by rw [blocks_any A' 0 0 i c]; exact hk))
      have HW5 : Hid (∀ j, j ∈ blocks (.slice (some ⟨q, 0, none⟩) 0 0) → w.heap.size ≤ j) := Lib.hid (fun j hj => by
        have hj' : q = j := by simpa [Value.ownBlock] using hj
        rcases hq5 with h | h
        · rw [← hj']; exact HW.out q (by rw [blocks_any A' 0 0 i c]; exact h)
        · rw [← hj', h]; have := hs1.le; simp; omega)
      have HL5 : Hid (Lst w5 3 1 (.slice (some ⟨q, 0, none⟩) (i + 1) cq) ((ns ++ [n]).map fun (n : Nat) => intRow n)) := Lib.hid (by rw [List.map_append]; exact hl5)
      clear hl5 ho5 hq5 hlt5
      trace "G"; go_wp2_with fail
      go_roundw
      case rel => exact ⟨i + 1, some ⟨q, 0, none⟩, cq, ns ++ [n], by first | rfl | rw [HML.out] | rw [HLEN.out], by go_num, by omega, HN2, HL5, HW5, hs5⟩
      case measure => simp [intOf]; omega
end Go.Proofs.YtmfbaijbigodkaaGreatDoor
