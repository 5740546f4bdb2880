/- Contracts and plain laws that the claim leans on, part 5 of 10: each part has its own word. No condition beside theirs. -/
import Derived.Test.YtmfbaijbigodkaaGreatDoorBase
import Derived.Test.YtmfbaijbigodkaaGreatDoorOnly
import Derived.Test.YtmfbaijbigodkaaGreatDoorMay
import Derived.Test.YtmfbaijbigodkaaGreatDoorCredit
import Derived.Test.YtmfbaijbigodkaaGreatDoorVD
import Derived.Deep.DeepCutAuto
import Derived.Deep.RegionLaw
set_option maxHeartbeats 40000000
set_option maxRecDepth 100000
namespace Go.Proofs.YtmfbaijbigodkaaGreatDoor
open Go.ChangeShapes Go.WideShapes Go.ChangeAt Go.RowKit
set_option linter.unusedVariables false
structure FlSt (w wr : World) (A : Option Addr) (k : Nat) (Ms : List FrmV) : Prop where
 ls : Lst wr 93 3 (.slice A Ms.length k) (Ms.map frmRow)
 nw : ∀ q, q ∈ blocks (.slice A 0 0) → w.heap.size ≤ q
 each : ∀ g ∈ Ms, FrmIn wr g ∧ farA g (blocks (.slice A 0 0))
 since : Since w wr
theorem FlSt.start {w wr : World} (h : Since w wr) : FlSt w wr none 0 [] := ⟨Lst.nil _ _ _, by simp [Value.ownBlock], by simp, h⟩
theorem FlSt.later {w wr w' : World} {A : Option Addr} {k : Nat} {Ms : List FrmV} (h : FlSt w wr A k Ms) (hb : Below wr.heap.size wr w') : FlSt w w' A k Ms :=
 ⟨h.ls.later hb, h.nw, fun g hg => ⟨(h.each g hg).1.later hb, (h.each g hg).2⟩, h.since.later hb⟩
theorem FlSt.step {w wr X w9 : World} {A : Option Addr} {k q9 c9 : Nat} {Ms : List FrmV} {g : FrmV} (h : FlSt w wr A k Ms) (hX : Below wr.heap.size wr X) (hg : FrmIn X g) (hn : newA g.A wr.heap.size)
  (hl : Lst w9 93 3 (.slice (some ⟨q9, 0, none⟩) (Ms.length + 1) c9) (Ms.map frmRow ++ [frmRow g])) (ho : Out X w9 (blocks (.slice A Ms.length k))) (hq : q9 ∈ blocks (.slice A Ms.length k) ∨ q9 = X.heap.size) :
  FlSt w w9 (some ⟨q9, 0, none⟩) c9 (Ms ++ [g]) := by
 have hbl : blocks (.slice A Ms.length k) = blocks (.slice A 0 0) := blocks_any A _ _ _ _
 rw [hbl] at ho hq
 have hold : ∀ q, q ∈ blocks (.slice A 0 0) → q < wr.heap.size := fun q hq => h.ls.lt q (by rw [hbl]; exact hq)
 have hgf : farA g (blocks (.slice A 0 0)) := fun _ b' off' hA hm => by have := hn b' off' hA; have := hold b' hm; omega
 refine ⟨by rw [List.map_append, List.length_append]; exact hl, fun q hqm => ?_, fun g' hg' => ?_, (h.since.later hX).out' ho h.nw⟩
 · have hm' : q9 = q := by simpa [Value.ownBlock] using hqm
   rw [← hm']
   rcases hq with hq | hq
   · exact h.nw q9 hq
   · rw [hq]; have := h.since.le; have := hX.size; omega
 · have key : ∀ x : FrmV, FrmIn X x → farA x (blocks (.slice A 0 0)) → FrmIn w9 x ∧ farA x (blocks (.slice (some ⟨q9, 0, none⟩) 0 0)) := fun x hx hxf => by
    refine ⟨hx.out ho hxf, fun hne b' off' hA hm => ?_⟩
    have hm' : q9 = b' := by simpa [Value.ownBlock] using hm
    subst hm'
    rcases hq with hq | hq
    · exact hxf hne q9 off' hA hq
    · exact farA_lt hx (Nat.le_of_eq hq.symm) hne q9 off' hA (by simp)
   rcases List.mem_append.1 hg' with hm | hm
   · obtain ⟨e1, e2⟩ := h.each g' hm
     exact key g' (e1.later hX) e2
   · rw [List.mem_singleton.1 hm]; exact key g hg hgf
theorem FlSt.frms {w wr : World} {A : Option Addr} {k : Nat} {Ms : List FrmV} (h : FlSt w wr A k Ms) : FrmsIn wr (.slice A Ms.length k) Ms := ⟨fun g hg => (h.each g hg).1, Rd.of_lst h.ls⟩
theorem ints_one {X : World} {B : Nat} {z : Int} (h : BlockIs X B 3 #[.int .i64 z]) (h1 : -9223372036854775808 ≤ z ∧ z ≤ 9223372036854775807) : IntsIn X (.slice (some ⟨B, 0, none⟩) 1 1) [z] := by
 refine ⟨fun n hn => by rw [List.mem_singleton.1 hn]; exact h1, some ⟨B, 0, none⟩, 1, rfl, by simp, by unfold maxLen; decide, fun _ => ⟨B, 0, rfl, h.lt, fun i hi => ?_⟩⟩
 have : i = 0 := by simp at hi; omega
 subst this
 exact h.cell 0
theorem newA_at {B n : Nat} (h : n ≤ B) : newA (some ⟨B, 0, none⟩) n := fun b off e => by
 simp only [Option.some.injEq, Addr.mk.injEq] at e
 omega
theorem newA_lst {W : World} {E size n c N : Nat} {A : Option Addr} {es : List (List Value)} (h : Lst W E size (.slice A n c) es) (hk : ∀ q, q ∈ blocks (.slice A 0 0) → N ≤ q) : newA A N := fun b off e => by
 subst e
 obtain ⟨A9, c9, e9, _, _, h9⟩ := h.shape
 simp only [Value.slice.injEq] at e9
 rcases h9 with ⟨h9, _⟩ | ⟨g9, h9⟩
 · rw [h9] at e9; exact absurd e9.1 (by simp)
 · rw [h9] at e9
   simp only [Option.some.injEq, Addr.mk.injEq] at e9
   obtain ⟨⟨rfl, rfl, _⟩, _⟩ := e9
   exact hk b (by rw [blocks_at]; simp)
theorem Lst.apart2 {w : World} {E1 E2 k1 k2 : Nat} {v1 v2 : Value} {es1 es2 : List (List Value)} (h1 : Lst w E1 k1 v1 es1) (h2 : Lst w E2 k2 v2 es2) (ne : E1 ≠ E2) : ∀ k, k ∈ blocks v1 → k ∉ blocks v2 := by
 intro k hk hk2
 rcases h1.own.2 with ⟨rfl, _⟩ | ⟨g, cap, cur, rfl, _, hg, _⟩
 · simp [blocks, Value.ownBlock] at hk
 · rw [blocks_at, List.mem_singleton] at hk
   subst hk
   exact h2.apart (cs := cur) hg ne hk2
theorem Own.rebase {w w' : World} {S : List Nat} {L : List Thing} (h : Own w S w L) (hb : Below w.heap.size w w') : Own w' S w' L := by
 obtain ⟨own, ho⟩ := h.has
 refine ⟨Out.refl _ _, own, fun i t hi => ?_⟩
 obtain ⟨Si, h1, h2⟩ := ho i t hi
 refine ⟨Si, t.later h1 hb, fun k hk => ⟨(h2 k hk).1, Or.inl ?_⟩⟩
 have := t.lt h1 k hk
 rcases (h2 k hk).2 with h3 | h3
 · exact h3
 · omega
theorem EnIn.later {w w' : World} {S : List Nat} {g : Nat} {s : EnS} {p : EnP} (h : EnIn w S g s p) (hb : Below w.heap.size w w') : EnIn w' S g s p := ⟨h.ok, h.len, h.own.rebase hb⟩
theorem emake (g : Nat) (s : EnS) (w : World) (S : List Nat) (h : (endT g s).is w S) (hK : KTab w) (h1000 : s.made.length ≤ 1000) :
  Calls Tryz.prog 15 #[.pointer (some ⟨g, 0, none⟩)] w fun e w' => e = .returned (.string ⟨s.packet.toArray⟩) ∧ Leaves w w' S (endT g s.make) := by
 obtain ⟨p, hp⟩ := endT_open h
 have H := Lib.hid hp
 have HK := Lib.hid hK
 have c64 := hp.c64
 have lg := hp.bg.lt
 obtain ⟨Ac, cc, hcv, -, -, -⟩ := hp.lc.shape
 rw [List.length_map] at hcv
 rw [hcv] at c64
 have HRC : Hid (Rd w 2 (.slice Ac s.came.length cc) (s.came.map rngRow)) := Lib.hid (by rw [← hcv]; exact Rd.of_lst hp.lc)
 have HC12 := Lib.hid (rngE_len hp.ok.cm)
 have HX : Hid (∀ X, Since w X → X.cell? ⟨g, 62, none⟩ = some p.mv ∧ X.cell? ⟨g, 63, none⟩ = some (.int .i64 s.known) ∧ X.cell? ⟨g, 66, none⟩ = some (.pointer (some ⟨p.gl, 0, none⟩)) ∧ g < X.heap.size) := Lib.hid (fun X hX => ⟨hX.cell hp.bg.lt hp.c62, hX.cell hp.bg.lt hp.c63, hX.cell hp.bg.lt hp.c66, Nat.lt_of_lt_of_le hp.bg.lt hX.size⟩)
 have HF0 := Lib.hid (FlSt.start (Since.refl w))
 obtain ⟨Am, cm, hmv, -, -, -⟩ := hp.lm.shape
 rw [List.length_map, hp.len] at hmv
 have HMV := Lib.hid hmv
 clear h hp hK hcv hmv
 go_enter Tryz.func15, Tryz.ntmps15
 repeat ((fail_if_success (with_reducible refine stop_at 2 ?_)); first | fail | go_values | go_skip | go_guarded | go_step | go_upon | go_back | go_simp)
 go_cut [3] (fun s3 wx => ∃ A k Ms, s3 = .slice A Ms.length k ∧ FlSt w wx A k Ms ∧ Ms.map (·.f) = ackFs s.came)
 case first =>
  by_cases h0 : s.came = []
  · have hE : Hid (ackFs s.came = []) := Lib.hid (by unfold ackFs; rw [if_pos h0])
    rw [h0] at c64
    clear h0
    go_wp2_with fail
    go_meet
    case rel => exact ⟨none, 0, [], rfl, HF0.out, hE.out.symm⟩
  · have hE : Hid (ackFs s.came = [⟨2, unpairs s.came, ByteArray.empty⟩]) := Lib.hid (by unfold ackFs; rw [if_neg h0])
    have hl0 : (0 : Int) < (s.came.length : Int) := by have := List.length_pos_iff.2 h0; omega
    have hu := unpairs_len s.came
    have hb30 := rngE_ok H.out.ok.cm
    have HG : Hid (∀ (X : World) A1 c1, Lst X 3 1 (.slice A1 (2 * s.came.length) c1) ((unpairs s.came).map intRow) → FrmIn X ⟨⟨2, unpairs s.came, ByteArray.empty⟩, A1, c1⟩) := Lib.hid (fun X A1 c1 hl => by
     rw [← hu] at hl
     exact ⟨show -9223372036854775808 ≤ (2 : Int) ∧ (2 : Int) ≤ 9223372036854775807 by decide, by show ByteArray.empty.size ≤ maxLen; simp [maxLen], ints_of_lst hl (fun z hz => by
      obtain ⟨r, hr, hz⟩ := List.mem_flatMap.1 hz
      obtain ⟨⟨a1, a2⟩, b1, b2⟩ := hb30 r hr
      simp at hz
      rcases hz with rfl | rfl <;> omega)⟩)
    have HU := Lib.hid hu
    clear hu hb30
    go_wp2_with (first
     | (go_at_call 48; refine (facked Ac s.came.length cc s.came _ rfl (by have := HC12.out; omega) HRC.out).mono ?_; rintro e w1 ⟨A1, c1, rfl, hl1, hb1, hk1⟩; have HL1 := Lib.hid hl1; have HB1 := Lib.hid hb1; have HK1 := Lib.hid hk1; clear hl1 hb1 hk1)
     | (at_builtin; refine wpList_push rfl _ _ 91 rfl 93 3 48 Tryz.elFrm (.slice none 0 0) [] rfl (Lst.nil _ _ _) w1.heap.size 1 [.int .i64 2, .slice A1 (2 * s.came.length) c1, .string ⟨#[]⟩] rfl rfl (by intro u hu; simp at hu; rcases hu with rfl | rfl | rfl <;> rfl) (BlockIs.fresh _ _ _) (by simp) ?_; intro q cq w5 hl5 ho5 hq5 hlt5))
    go_meet
    case rel =>
     refine ⟨some ⟨q, 0, none⟩, cq, [⟨⟨2, unpairs s.came, ByteArray.empty⟩, A1, c1⟩], rfl, ?_, hE.out.symm⟩
     have hb1 : Since w w1 := HB1.out
     have hX : Below w.heap.size w (w1.alloc (.cells #[.int .i64 2, .slice A1 (2 * s.came.length) c1, .string ⟨#[]⟩] 93)) := (show Since w _ from (by exact Since.alloc hb1 _))
     refine HF0.out.step (g := ⟨⟨2, unpairs s.came, ByteArray.empty⟩, A1, c1⟩) hX (HG.out _ A1 c1 (HL1.out.alloc _)) (fun b off e => ?_) ?_ ho5 hq5
     · exact newA_lst HL1.out HK1.out b off e
     · have e : frmRow ⟨⟨2, unpairs s.came, ByteArray.empty⟩, A1, c1⟩ = [.int .i64 2, .slice A1 (2 * s.came.length) c1, .string ⟨#[]⟩] := by unfold frmRow; rw [HU.out]; rfl
       rw [e]; exact hl5
 case rest =>
  obtain ⟨A, k, Ms, rfl, hf, hms⟩ := hcut
  have HF := Lib.hid hf
  have HMS := Lib.hid hms
  have hs : Since w wc := hf.since
  obtain ⟨d62, d63, d66, lx⟩ := HX.out wc hf.since
  obtain ⟨m, hm⟩ : ∃ m, Ms.length = m := ⟨_, rfl⟩
  have HM := Lib.hid hm
  have hm1 : m ≤ 1 := by
   have e := congrArg List.length hms
   rw [List.length_map, hm] at e
   rw [e]; unfold ackFs; split <;> simp
  obtain ⟨es, hes⟩ : ∃ es, Ms.map frmRow = es := ⟨_, rfl⟩
  have HES : Hid (es.length = m) := Lib.hid (by rw [← hes, List.length_map]; exact hm)
  have HEQ := Lib.hid hes
  have HLS : Hid (Lst wc 93 3 (.slice A m k) es) := Lib.hid (by have := hf.ls; rw [hes, hm] at this; exact this)
  have HLL : Hid (MayBe s.L) := Lib.hid (by have := H.out.ok.cr; have := this.l1; have := H.out.ok.cr.w1; have := H.out.ok.cr.l2; unfold MayBe; omega)
  rw [hm]
  clear hf hms hm hes
  go_upto_region 5 with (first
   | (go_at_call 49; refine (climit p.gl s.W s.L s.C s.R _ (H.out.bl.later hs)).mono ?_; rintro e w1 ⟨rfl, rfl⟩)
   | (at_builtin; refine wpList_push rfl _ _ 91 rfl 93 3 48 Tryz.elFrm (.slice A m k) es rfl ((HLS.out.alloc _).alloc _) (wc.heap.size + 1) 1 [.int .i64 4, .slice (some ⟨wc.heap.size, 0, none⟩) 1 1, .string ⟨#[]⟩] rfl rfl (by intro u hu; simp at hu; rcases hu with rfl | rfl | rfl <;> rfl) (BlockIs.fresh_at (by simp)) (by rw [HES.out]; omega) ?_; intro q cq w5 hl5 ho5 hq5 hlt5; rw [HES.out] at hl5; rw [HES.out]))
  have HF5 : Hid (FlSt w w5 (some ⟨q, 0, none⟩) cq (Ms ++ [⟨⟨4, [s.L], ByteArray.empty⟩, some ⟨wc.heap.size, 0, none⟩, 1⟩])) := Lib.hid (by
   have hX : Below wc.heap.size wc ((wc.alloc (.cells #[.int .i64 s.L] 3)).alloc (.cells #[.int .i64 4, .slice (some ⟨wc.heap.size, 0, none⟩) 1 1, .string ⟨#[]⟩] 93)) := (show Since wc _ from (by exact Since.alloc (Since.alloc (Since.refl _) _) _))
   have hmb := HLL.out
   unfold MayBe at hmb
   refine HF.out.step (g := ⟨⟨4, [s.L], ByteArray.empty⟩, some ⟨wc.heap.size, 0, none⟩, 1⟩) hX ⟨show -9223372036854775808 ≤ (4 : Int) ∧ (4 : Int) ≤ 9223372036854775807 by decide, by show ByteArray.empty.size ≤ maxLen; simp [maxLen], ints_one ((BlockIs.fresh _ _ _).alloc _) (by omega)⟩ (newA_at (Nat.le_refl _)) ?_ ?_ ?_
   · rw [HM.out, HEQ.out]; exact hl5
   · rw [HM.out]; exact ho5
   · rw [HM.out]; exact hq5)
  have HM5 : Hid ((Ms ++ [(⟨⟨4, [s.L], ByteArray.empty⟩, some ⟨wc.heap.size, 0, none⟩, 1⟩ : FrmV)]).map (·.f) = ackFs s.came ++ [⟨4, [s.L], ByteArray.empty⟩]) := Lib.hid (by rw [List.map_append, HMS.out]; rfl)
  have HL5 : Hid ((Ms ++ [(⟨⟨4, [s.L], ByteArray.empty⟩, some ⟨wc.heap.size, 0, none⟩, 1⟩ : FrmV)]).length = m + 1) := Lib.hid (by rw [List.length_append, HM.out]; rfl)
  obtain ⟨M5, hM5⟩ : ∃ M, Ms ++ [(⟨⟨4, [s.L], ByteArray.empty⟩, some ⟨wc.heap.size, 0, none⟩, 1⟩ : FrmV)] = M := ⟨_, rfl⟩
  rw [hM5] at HF5 HM5 HL5
  have hs5 : Since w w5 := HF5.out.since
  clear hl5 ho5 hq5 hM5 HF HMS HM HES HEQ HLS d62 d63 d66 lx
  go_wp2_with (go_at_call 50; refine (epieces g s p _ S (H.out.later hs5)).mono ?_; rintro e w6 ⟨Ap, cp, rfl, hl6, hb6, hk6⟩)
  have hs6 : Since w w6 := hs5.later hb6
  have HF6 := Lib.hid (HF5.out.later hb6)
  have HKW : Hid (∀ k, k ∈ blocks (.slice Ap 0 0) → w.heap.size ≤ k) := Lib.hid (fun k hk => Nat.le_trans hs5.size (hk6 k hk))
  have HP6 := Lib.hid hl6
  have HK6 := Lib.hid hk6
  obtain ⟨np, hnp⟩ : ∃ n, s.pieces.length = n := ⟨_, rfl⟩
  have HNP := Lib.hid hnp
  have hnp3 : np ≤ 3 := by rw [← hnp]; exact pieces_len s
  rw [hnp] at HP6
  rw [hnp]
  clear hl6 hk6 hnp HF5
  go_wp2_with fail
  go_loopw [3, 36] (fun s3 s36 wr => ∃ (j k : Nat) (A : Option Addr) (Ms : List FrmV), s36 = .int .i64 j ∧ j ≤ np ∧ s3 = .slice A (m + 1 + j) k ∧ Ms.length = m + 1 + j ∧ FlSt w wr A k Ms ∧ Ms.map (·.f) = ackFs s.came ++ ⟨4, [s.L], ByteArray.empty⟩ :: (s.pieces.take j).map pcFrm ∧ Lst wr 98 2 (.slice Ap np cp) (s.pieces.map pcRow)) (fun s3 s36 _ => np - (intOf s36).toNat)
  case atStart => exact ⟨0, cq, some ⟨q, 0, none⟩, M5, rfl, Nat.zero_le _, rfl, HL5.out, HF6.out, by rw [HM5.out, List.take_zero]; rfl, HP6.out⟩
  case round =>
   obtain ⟨j, k2, A3, Mj, rfl, hj, rfl, hmj, hfj, hmm, hsj⟩ := hrel
   have HFJ := Lib.hid hfj
   have HMJ := Lib.hid hmm
   have HLJ := Lib.hid hmj
   clear hfj hmm hmj
   by_cases hlt : j < np
   case neg =>
    obtain rfl : j = np := by omega
    have hlt' : decide ((j : Int) < (j : Int)) = false := by simp
    go_wp2_with fail
    have hsr : Since w wr := HFJ.out.since
    obtain ⟨d62, d63, -, lx⟩ := HX.out wr hsr
    rw [HMV.out] at d62
    have hpk : pktB (s.made.length : Int) s.known (Mj.map (·.f)) = s.packet := by
     rw [HMJ.out, show s.pieces.take j = s.pieces by rw [← HNP.out, List.take_length]]; rfl
    have HPK : Hid (∀ X, Since wr X → Calls Tryz.prog 51 #[.int .i64 s.made.length, .int .i64 s.known, .slice A3 (m + 1 + j) k2] X fun e w' => e = .returned (.string ⟨s.packet.toArray⟩) ∧ Below X.heap.size X w') := Lib.hid (fun X hX => by
     have hfr := H.out.ok.framesOk.1
     have h1 := pkbytes (s.made.length : Int) s.known A3 (m + 1 + j) k2 Mj X HLJ.out (by omega) (by have := (HFJ.out.later hX).frms; rw [HLJ.out] at this; exact this) (by
      rw [HMJ.out, show s.pieces.take j = s.pieces by rw [← HNP.out, List.take_length]]
      exact frmsE_of hfr) (H.out.ok.packetOk (by omega)).2.1 (HK.out.later (hsr.later hX))
     rw [hpk] at h1
     exact h1)
    clear hpk
    go_region_law (go_simp; go_at_call 51; refine (HPK.out _ (show Since wr _ from (by exact Since.drew (Since.refl _)))).mono ?_; rintro e w7 ⟨rfl, hb7⟩; have HS7 := Lib.hid (show Since wr w7 from (by exact Since.later (Since.drew (Since.refl _)) hb7)); clear hb7)
    all_goals
     have hs7 : Since w w7 := hsr.later HS7.out
     obtain ⟨e62, -, -, lx7⟩ := HX.out w7 hs7
     rw [HMV.out] at e62
     have HO7 : Hid (Own w S w7 (enParts g s p ++ [Thing.lst 98 2 (.slice Ap j cp) (s.pieces.map pcRow)])) := Lib.hid (H.out.own.add hs7 (S := blocks (.slice Ap j cp)) ⟨hsj.later HS7.out, rfl⟩ (fun k hk => HKW.out k (blocks_any Ap _ _ _ _ ▸ hk)))
     have fz7 : ∀ i, w7.frozen? ⟨g, i, none⟩ = false := (HO7.out.blk 0 rfl).free
     obtain ⟨es, hes⟩ : ∃ es, (p.vs.map fun v => [v]) = es := ⟨_, rfl⟩
     have HES : Hid (es.length = s.made.length) := Lib.hid (by rw [← hes, List.length_map]; exact H.out.len)
     have HL7 : Hid (Lst w7 95 1 (.slice Am s.made.length cm) es) := Lib.hid (by have := HO7.out.ls 3 rfl; rw [hes, HMV.out] at this; exact this)
     have HEQ := Lib.hid hes
     clear hes d62 d63
     go_wp2_with (at_builtin; refine wpList_push rfl _ _ 43 rfl 95 1 24 Tryz.elPcs (.slice Am s.made.length cm) es rfl (HL7.out.alloc _) w7.heap.size 1 [.slice Ap j cp] rfl rfl (by intro u hu; simp at hu; rw [hu]; rfl) (BlockIs.fresh _ _ _) (by rw [HES.out]; omega) ?_; intro q8 c8 w8 hl8 ho8 hq8 hlt8; rw [HES.out] at hl8; rw [HES.out]; have hb8 := ho8.block' ((HO7.out.blk 0 rfl).alloc _) (HL7.out.apart (HO7.out.blk 0 rfl) (by decide)); have x62 : w8.cell? ⟨g, 62, none⟩ = some p.mv := (hb8.cell 62).trans (enCells_tail _ _ _ _ H.out.ok.tl 1); have fz8 := hb8.free; have lx8 := hb8.lt)
     have HO8 : Hid (Own w S w8 ((enParts g s p ++ [Thing.lst 98 2 (.slice Ap j cp) (s.pieces.map pcRow)]).set 3 (Thing.lst 95 1 (.slice (some ⟨q8, 0, none⟩) (s.made.length + 1) c8) (es ++ [[.slice Ap j cp]])))) := Lib.hid (by
      obtain ⟨S3, ⟨h3, h3'⟩, up⟩ := (HO7.out.later ((Since.refl w7).alloc (.cells #[.slice Ap j cp] 95))).at_ 3 rfl
      have hS3 : S3 = blocks (.slice Am s.made.length cm) := by rw [h3', HMV.out]
      refine up w8 _ ⟨blocks (.slice (some ⟨q8, 0, none⟩) (s.made.length + 1) c8), ⟨hl8, rfl⟩, by rw [hS3]; exact ho8, fun k hk => ?_⟩
      have e8 : k = q8 := by rw [blocks_at] at hk; simpa using hk
      subst e8
      rcases hq8 with h9 | h9
      · left; rw [hS3]; exact h9
      · right; rw [h9]; exact Nat.le_refl _)
     have HO9 := Lib.hid (HO8.out.put 0 rfl 62 (.slice (some ⟨q8, 0, none⟩) (s.made.length + 1) c8))
     clear hb8 hl8 ho8 hq8
     go_wp2_with fail
     go_ret
     refine ⟨rfl, endT_close (p := ⟨p.gi, p.gl, .slice (some ⟨q8, 0, none⟩) (s.made.length + 1) c8, p.cv, p.vs ++ [.slice Ap j cp]⟩) H.out.ok.make (by show (p.vs ++ [_]).length = (s.made ++ [_]).length; simp [H.out.len]) ?_⟩
     have h9 := HO9.out
     rw [enCells_62 _ _ _ _ H.out.ok.tl] at h9
     have e9 : enParts g s.make ⟨p.gi, p.gl, .slice (some ⟨q8, 0, none⟩) (s.made.length + 1) c8, p.cv, p.vs ++ [.slice Ap j cp]⟩ = ((enParts g s p ++ [Thing.lst 98 2 (.slice Ap j cp) (s.pieces.map pcRow)]).set 3 (Thing.lst 95 1 (.slice (some ⟨q8, 0, none⟩) (s.made.length + 1) c8) (es ++ [[.slice Ap j cp]]))).set 0 (Thing.block g 83 (enCells s (.slice (some ⟨q8, 0, none⟩) (s.made.length + 1) c8) p.cv p.gi p.gl).toArray) := by
      have e1 : inner (p.vs ++ [.slice Ap j cp]) (s.made ++ [s.pieces]) = inner p.vs s.made ++ [Thing.lst 98 2 (.slice Ap j cp) (s.pieces.map pcRow)] := inner_snoc _ _ H.out.len
      have e2 : (p.vs ++ [Value.slice Ap j cp]).map (fun v => [v]) = es ++ [[.slice Ap j cp]] := by rw [List.map_append, HEQ.out]; rfl
      show Thing.block _ _ _ :: Thing.block _ _ _ :: Thing.block _ _ _ :: Thing.lst _ _ _ ((p.vs ++ [Value.slice Ap j cp]).map (fun v => [v])) :: Thing.lst _ _ _ _ :: inner (p.vs ++ [.slice Ap j cp]) (s.made ++ [s.pieces]) = _
      rw [e1, e2]
      rfl
     rw [e9]
     exact h9
   have hjp : j < s.pieces.length := by rw [HNP.out]; exact hlt
   have hl6 := hsj
   have HSJ := Lib.hid hsj
   obtain ⟨b2, hA2, lb2, p0, p1⟩ := hl6.pc hjp
   have hpc := H.out.ok.piece (List.getElem_mem hjp)
   have hla := H.out.ok.last
   have HTK := Lib.hid (List.take_succ_eq_append_getElem hjp)
   obtain ⟨⟨a, d⟩, hpp⟩ : ∃ x, s.pieces[j] = x := ⟨_, rfl⟩
   rw [hpp] at p0 p1 HTK hpc
   dsimp only at p0 p1 hpc
   have hd20 : d.size ≤ 20 := hpc.1.2.2
   have ha60 : a ≤ 60 := by have := hpc.1.1; omega
   have hlt' : (j : Int) < (np : Int) := by omega
   have hmj5 : m + 1 + j ≤ 5 := by omega
   obtain ⟨es, hes⟩ : ∃ es, Mj.map frmRow = es := ⟨_, rfl⟩
   have HES : Hid (es.length = m + 1 + j) := Lib.hid (by rw [← hes, List.length_map]; exact HLJ.out)
   have HEQ := Lib.hid hes
   have HLS : Hid (Lst wr 93 3 (.slice A3 (m + 1 + j) k2) es) := Lib.hid (by have := HFJ.out.ls; rw [hes, HLJ.out] at this; exact this)
   subst hA2
   clear hl6 hpc hla hpp hes hjp
   obtain ⟨mm, hmm⟩ : ∃ x, m + 1 + j = x := ⟨_, rfl⟩
   have HMM := Lib.hid hmm
   rw [hmm] at HES HLS hmj5 HLJ
   rw [hmm]
   clear hmm
   go_wp2_with (at_builtin; refine wpList_push rfl _ _ 91 rfl 93 3 48 Tryz.elFrm (.slice A3 mm k2) es rfl (((HLS.out.alloc _).alloc _).alloc _) (wr.heap.size + 1 + 1) 1 [.int .i64 3, .slice (some ⟨wr.heap.size + 1, 0, none⟩) 1 1, .string d] rfl rfl (by intro u hu; simp at hu; rcases hu with rfl | rfl | rfl <;> rfl) (BlockIs.fresh_at (by simp)) (by rw [HES.out]; omega) ?_; intro q9 c9 w9 hl9 ho9 hq9 hlt9; rw [HES.out] at hl9; rw [HES.out])
   have HF9 : Hid (FlSt w w9 (some ⟨q9, 0, none⟩) c9 (Mj ++ [⟨⟨3, [(a : Int)], d⟩, some ⟨wr.heap.size + 1, 0, none⟩, 1⟩])) := Lib.hid (by
    have hX : Below wr.heap.size wr (((wr.alloc (.cells #[.int .i64 a, .string d] 98)).alloc (.cells #[.int .i64 a] 3)).alloc (.cells #[.int .i64 3, .slice (some ⟨wr.heap.size + 1, 0, none⟩) 1 1, .string d] 93)) := (show Since wr _ from (by exact Since.alloc (Since.alloc (Since.alloc (Since.refl _) _) _) _))
    refine HFJ.out.step (g := ⟨⟨3, [(a : Int)], d⟩, some ⟨wr.heap.size + 1, 0, none⟩, 1⟩) hX ⟨show -9223372036854775808 ≤ (3 : Int) ∧ (3 : Int) ≤ 9223372036854775807 by decide, by show d.size ≤ maxLen; simp [maxLen]; omega, ints_one ((BlockIs.fresh_at (by simp)).alloc _) (by omega)⟩ (newA_at (by omega)) ?_ ?_ ?_
    · rw [HLJ.out, HEQ.out]; exact hl9
    · rw [HLJ.out]; exact ho9
    · rw [HLJ.out]; exact hq9)
   have hs9 : Lst w9 98 2 (.slice (some ⟨b2, 0, none⟩) np cp) (s.pieces.map pcRow) := (((HSJ.out.alloc _).alloc _).alloc _).kept ho9 (HSJ.out.apart2 HLS.out (by decide))
   clear hl9 ho9 hq9
   go_wp2_with fail
   go_roundw
   case rel => exact ⟨j + 1, c9, some ⟨q9, 0, none⟩, _, by go_num, by omega, by have := HMM.out; rw [← this]; rfl, by rw [List.length_append, HLJ.out]; have := HMM.out; simp; omega, HF9.out, by rw [List.map_append, HMJ.out, HTK.out, List.map_append]; simp [pcFrm], hs9⟩
   case measure => simp [intOf]; omega
theorem Own.add3 {w0 w w' : World} {S0 : List Nat} {L : List Thing} (h : Own w0 S0 w L) (hb : Below w.heap.size w w') {g1 g2 g3 : Nat} {t1 t2 t3 : TypeId} {c1 c2 c3 : Array Value} (h1 : BlockIs w' g1 t1 c1) (h2 : BlockIs w' g2 t2 c2) (h3 : BlockIs w' g3 t3 c3)
  (e1 : w.heap.size ≤ g1) (e2 : w.heap.size ≤ g2) (e3 : w.heap.size ≤ g3) (n1 : g1 ≠ g2) (n2 : g1 ≠ g3) (n3 : g2 ≠ g3) : Own w0 S0 w' (L ++ [Thing.block g1 t1 c1, Thing.block g2 t2 c2, Thing.block g3 t3 c3]) := by
 obtain ⟨own, ho⟩ := h.has
 have hs := h.out.size
 refine ⟨h.out.later hb, fun k => if k < w.heap.size then own k else if k = g1 then L.length else if k = g2 then L.length + 1 else L.length + 2, fun i t hi => ?_⟩
 rcases Nat.lt_or_ge i L.length with hl | hl
 · rw [List.getElem?_append_left hl] at hi
   obtain ⟨S, a, b⟩ := ho i t hi
   exact ⟨S, t.later a hb, fun k hk => ⟨(if_pos (t.lt a k hk)).trans (b k hk).1, (b k hk).2⟩⟩
 · rw [List.getElem?_append_right hl] at hi
   obtain ⟨d, rfl⟩ : ∃ d, i = L.length + d := ⟨i - L.length, by omega⟩
   rw [Nat.add_sub_cancel_left] at hi
   match d, hi with
   | 0, hi =>
     simp only [List.getElem?_cons_zero, Option.some.injEq] at hi
     subst hi
     exact ⟨[g1], ⟨h1, rfl⟩, fun k hk => by
      rw [List.mem_singleton.1 hk]
      exact ⟨by dsimp only; rw [if_neg (by omega), if_pos rfl]; rfl, Or.inr (by omega)⟩⟩
   | 1, hi =>
     simp only [List.getElem?_cons_succ, List.getElem?_cons_zero, Option.some.injEq] at hi
     subst hi
     exact ⟨[g2], ⟨h2, rfl⟩, fun k hk => by
      rw [List.mem_singleton.1 hk]
      exact ⟨by dsimp only; rw [if_neg (by omega), if_neg (by omega), if_pos rfl], Or.inr (by omega)⟩⟩
   | 2, hi =>
     simp only [List.getElem?_cons_succ, List.getElem?_cons_zero, Option.some.injEq] at hi
     subst hi
     exact ⟨[g3], ⟨h3, rfl⟩, fun k hk => by
      rw [List.mem_singleton.1 hk]
      exact ⟨by dsimp only; rw [if_neg (by omega), if_neg (by omega), if_neg (by omega)], Or.inr (by omega)⟩⟩
   | d + 3, hi => simp at hi
theorem Own.pickf {w0 w : World} {S0 : List Nat} {L L' : List Thing} (h : Own w0 S0 w L) (f g : Nat → Nat) (hg : ∀ i, i < L'.length → g (f i) = i) (hL : ∀ (i : Nat) t, L'[i]? = some t → L[f i]? = some t) : Own w0 S0 w L' := by
 obtain ⟨own, ho⟩ := h.has
 refine ⟨h.out, fun k => g (own k), fun i t hi => ?_⟩
 obtain ⟨S, a, b⟩ := ho (f i) t (hL i t hi)
 exact ⟨S, a, fun k hk => ⟨by show g (own k) = i; rw [(b k hk).1]; exact hg i (List.getElem?_eq_some_iff.1 hi).1, (b k hk).2⟩⟩
theorem takes_app (A B : List Frm) : ∀ s : EnS, s.takes (A ++ B) = if (s.takes A).1 = 0 then (s.takes A).2.takes B else s.takes A := by
 induction A with
 | nil => intro s; simp [EnS.takes]
 | cons f A ih =>
   intro s
   rw [List.cons_append, EnS.takes, EnS.takes]
   by_cases h : s.take1E f = 0
   · rw [if_pos h, if_pos h, ih]
   · rw [if_neg h, if_neg h, if_neg h]
theorem takes_one (s : EnS) (f : Frm) : s.takes [f] = (s.take1E f, s.take1 f) := by
 rw [EnS.takes]
 by_cases h : s.take1E f = 0
 · rw [if_pos h, h]; rfl
 · rw [if_neg h]
theorem takes_succ {s : EnS} {L : List Frm} {i : Nat} (h : i < L.length) (h0 : (s.takes (L.take i)).1 = 0) : s.takes (L.take (i + 1)) = ((s.takes (L.take i)).2.take1E L[i], (s.takes (L.take i)).2.take1 L[i]) := by
 rw [List.take_succ_eq_append_getElem h, takes_app, if_pos h0, takes_one]
theorem takes_stop {s : EnS} {L : List Frm} {i : Nat} (h0 : (s.takes (L.take i)).1 ≠ 0) : (s.takes L).1 = (s.takes (L.take i)).1 := by
 have e : s.takes L = s.takes (L.take i ++ L.drop i) := by rw [List.take_append_drop]
 rw [e, takes_app, if_neg h0]
theorem take1_made (s : EnS) (f : Frm) : (s.take1 f).made = s.made := by
 unfold EnS.take1
 repeat' split
 all_goals rfl
theorem takes_made (L : List Frm) : ∀ s : EnS, (s.takes L).2.made = s.made := by
 induction L with
 | nil => intro s; rfl
 | cons f r ih =>
   intro s
   rw [EnS.takes]
   split
   · rw [ih, take1_made]
   · exact take1_made s f
theorem FrmsIn.agg_at {w : World} {A : Option Addr} {n c : Nat} {Ms : List FrmV} (h : FrmsIn w (.slice A n c) Ms) (hn : Ms.length = n) {i : Nat} (hi : i < n) : ∃ b off, A = some ⟨b, off, none⟩ ∧ b < w.heap.size ∧ ∀ w', Since w w' → w'.cell? ⟨b, off + i * 3, none⟩ = some (.int .i64 (Ms[i]'(by omega)).f.kind) ∧ w'.cell? ⟨b, off + i * 3 + 1, none⟩ = some (.slice (Ms[i]'(by omega)).A (Ms[i]'(by omega)).f.nums.length (Ms[i]'(by omega)).cap) ∧ w'.cell? ⟨b, off + i * 3 + 2, none⟩ = some (.string (Ms[i]'(by omega)).f.data) := by
 have hi' : i < Ms.length := by omega
 obtain ⟨b, off, hA, hlt, hc⟩ := h.rd.frm hi'
 refine ⟨b, off, hA, hlt, fun w' hw => ?_⟩
 have := hc w' hw i hi'
 exact this
theorem openL_few (b : List UInt8) (next : Int) : (openL b next).length ≤ 12 := by
 unfold openL
 split
 · unfold openF
   cases hr : rdFs b ((bat b 0).toNat + 1) b.length with
   | none => simp
   | some p =>
     obtain ⟨L, k⟩ := p
     simp only
     split
     · simp
     · rename_i hx
       simp only [Option.getD_some]
       omega
 · simp
theorem etake (g : Nat) (s : EnS) (b : ByteArray) (w : World) (S : List Nat) (h : (endT g s).is w S) (hK : KTab w) (hC : CTab w) (h1000 : s.made.length ≤ 1000) (hz : b.size ≤ 9223372036854775000) :
  Calls Tryz.prog 17 #[.pointer (some ⟨g, 0, none⟩), .string b] w fun e w' => e = .returned (errV (s.takeE b.data.toList)) ∧ Leaves w w' S (endT g (s.take b.data.toList)) := by
 have H0 := Lib.hid h
 obtain ⟨p, hp⟩ := endT_open h
 have H := Lib.hid hp
 have HK := Lib.hid hK
 have HC := Lib.hid hC
 have HN := Lib.hid (fun (X : World) (hX : Since w X) => enext g s X S ((endT g s).later h hX))
 have HPS := Lib.hid (fun (X : World) (hX : Since w X) (z : Int) => pkparse b z X (by omega) (hK.later hX) (hC.later hX))
 obtain ⟨l, hl⟩ : ∃ l, b.data.toList = l := ⟨_, rfl⟩
 rw [hl] at HPS
 obtain ⟨RE, hRE⟩ : ∃ E, s.takeE b.data.toList = E := ⟨_, rfl⟩
 obtain ⟨RS, hRS⟩ : ∃ E, s.take b.data.toList = E := ⟨_, rfl⟩
 rw [hRE, hRS]
 rw [hl] at hRE hRS
 obtain ⟨nx, hnx⟩ : ∃ n, nextN s.came = n := ⟨_, rfl⟩
 have hE1 : Hid (openE l nx ≠ 0 → RE = openE l nx ∧ RS = s) := Lib.hid (fun h0 => ⟨by rw [← hRE]; unfold EnS.takeE; rw [hnx, if_neg h0], by rw [← hRS]; unfold EnS.take; rw [hnx, if_neg h0]⟩)
 have hE0 : Hid (openE l nx = 0 → RE = s.pktE (openN l nx) (openL l nx) ∧ RS = s.pkt (openN l nx) (openL l nx)) := Lib.hid (fun h0 => ⟨by rw [← hRE]; unfold EnS.takeE; rw [hnx, if_pos h0], by rw [← hRS]; unfold EnS.take; rw [hnx, if_pos h0]⟩)
 have HFO := Lib.hid (openL_ok l nx)
 have HFW := Lib.hid (openL_few l nx)
 rw [hnx] at HN
 have lg := hp.bg.lt
 clear h hp hK hC hl hRE hRS hnx
 go_enter Tryz.func17, Tryz.ntmps17
 go_wp2_with (go_at_call 54; refine (HN.out _ (by exact Since.refl _)).mono ?_; rintro e w1 ⟨rfl, rfl⟩)
 refine (HPS.out _ (by exact Since.refl _) nx).mono ?_
 rintro e w1 ⟨A1, n1, c1, Ms, rfl, hb1, hf1, hn1, hm1⟩
 have hs1 : Since w w1 := hb1
 have HF1 := Lib.hid hf1
 have HM1 := Lib.hid hm1
 clear hf1 hm1 hb1 HPS HN
 by_cases hE : openE l nx = 0
 case neg =>
  have HH := Lib.hid (hE1.out hE)
  rw [errV_pos hE]
  have HEP := Lib.hid (errV_pos hE)
  obtain ⟨ee, hee⟩ : ∃ e, openE l nx = e := ⟨_, rfl⟩
  rw [hee] at HH HEP
  rw [hee]
  clear hE hee
  go_wp2_with fail
  go_ret
  rw [HH.out.1, HH.out.2, HEP.out]
  exact ⟨rfl, Leaves.same H0.out hs1⟩
 have HH := Lib.hid (hE0.out hE)
 rw [hE, errV_zero]
 clear hE
 obtain ⟨n, hn⟩ : ∃ n, openN l nx = n := ⟨_, rfl⟩
 obtain ⟨L, hL⟩ : ∃ L, openL l nx = L := ⟨_, rfl⟩
 rw [hn, hL] at HH
 rw [hL] at HM1 HFO HFW
 rw [hn]
 have hn12 : n1 ≤ 12 := by
  have h1 := congrArg List.length HM1.out
  rw [List.length_map, hn1] at h1
  have := HFW.out
  omega
 clear hn hL
 obtain ⟨c64, lx1⟩ : w1.cell? ⟨g, 64, none⟩ = some p.cv ∧ g < w1.heap.size := ⟨hs1.cell H.out.bg.lt H.out.c64, Nat.lt_of_lt_of_le H.out.bg.lt hs1.size⟩
 obtain ⟨Ac, cc, hcv, -, -, -⟩ := H.out.lc.shape
 rw [List.length_map] at hcv
 rw [hcv] at c64
 have HRC : Hid (Rd w 2 (.slice Ac s.came.length cc) (s.came.map rngRow)) := Lib.hid (by rw [← hcv]; exact Rd.of_lst H.out.lc)
 have HCV := Lib.hid hcv
 have HCM := Lib.hid H.out.ok.cm
 clear hcv
 go_wp2_with fail
 refine (rin_any Ac s.came.length cc s.came n _ rfl (HRC.out.later hs1)).mono ?_
 rintro e w2 ⟨rfl, hb2⟩
 have hs2 : Since w w2 := hs1.later hb2
 have HF2 := Lib.hid (HF1.out.later hb2)
 clear hb2 c64 lx1
 cases hin : inB s.came n with
 | true =>
   have HR : Hid (RE = 0 ∧ RS = s) := Lib.hid ⟨by rw [HH.out.1]; unfold EnS.pktE; rw [if_pos hin], by rw [HH.out.2]; unfold EnS.pkt; rw [if_pos hin]⟩
   clear hin
   go_wp2_with fail
   go_ret
   rw [HR.out.1, HR.out.2, errV_zero]
   exact ⟨rfl, Leaves.same H0.out hs2⟩
 | false =>
   have HR : Hid (RE = (if (s.takes L).1 = 0 then addE s.came n else (s.takes L).1) ∧ RS = if (s.takes L).1 = 0 then (if addE s.came n = 0 then { (s.takes L).2 with came := addL s.came n } else s) else s) := Lib.hid ⟨by rw [HH.out.1]; unfold EnS.pktE; rw [if_neg (by rw [hin]; simp)], by rw [HH.out.2]; unfold EnS.pkt; rw [if_neg (by rw [hin]; simp)]⟩
   clear hin
   have HOW := Lib.hid (eown g s p w2 S (H.out.later hs2))
   go_wp2_with fail
   refine HOW.out.mono ?_
   rintro e w3 ⟨gi', gl', rfl, hbx, hbi, hbl, hgi, hgl, hb3⟩
   have hs3 : Since w w3 := hs2.later hb3
   have hb23 : Since w2 w3 := hb3
   have HE3 : Hid (EnW w3 w2.heap.size gi' gl' p.mv p.cv s) := Lib.hid ⟨hbx, hbi, hbl⟩
   have hg2 := hs2.size
   have HO3 := Lib.hid (H.out.own.add3 hs3 hbx hbi hbl hg2 (by omega) (by omega) (HE3.out.ne.1) (HE3.out.ne.2.1) (HE3.out.ne.2.2))
   clear hbx hbi hbl hb3 HOW
   obtain ⟨gx, hgx⟩ : ∃ gx, w2.heap.size = gx := ⟨_, rfl⟩
   rw [hgx] at HE3 HO3 hgi hgl hg2
   rw [hgx]
   have HX2 := Lib.hid hgx
   have hgi2 := hgi
   have hgl2 := hgl
   clear hgx
   go_wp2_with fail
   go_loopw [35] (fun s35 wr => ∃ i : Nat, s35 = .int .i64 i ∧ i ≤ n1 ∧ (s.takes (L.take i)).1 = 0 ∧ EnW wr gx gi' gl' p.mv p.cv (s.takes (L.take i)).2 ∧ Out w3 wr [gx, gi', gl']) (fun s35 _ => n1 - (intOf s35).toNat)
   case atStart => exact ⟨0, rfl, Nat.zero_le _, by rw [List.take_zero]; rfl, by rw [List.take_zero]; exact HE3.out, Out.refl _ _⟩
   case round =>
    obtain ⟨i, rfl, hi, hz0, hew, hou⟩ := hrel
    have hs2r : Since w2 wr := hb23.out' hou (fun k hk => by simp at hk; have := HX2.out; omega)
    have hsr : Since w wr := hs2.later hs2r
    have HFR := Lib.hid (HF2.out.later hs2r)
    have HEW := Lib.hid hew
    have HOU := Lib.hid hou
    have HZ0 := Lib.hid hz0
    have hLl : L.length = n1 := by rw [← HM1.out, List.length_map]; exact hn1
    clear hew hou hz0
    by_cases hlt : i < n1
    case neg =>
     obtain rfl : i = n1 := by omega
     have hlt' : decide ((i : Int) < (i : Int)) = false := by simp
     have d64 : wr.cell? ⟨g, 64, none⟩ = some (.slice Ac s.came.length cc) := by rw [← HCV.out]; exact hsr.cell H.out.bg.lt H.out.c64
     have lxr : g < wr.heap.size := Nat.lt_of_lt_of_le H.out.bg.lt hsr.size
     have hLT : L.take i = L := by rw [← hLl, List.take_length]
     rw [hLT] at HZ0 HEW
     have HR2 : Hid (RE = addE s.came n ∧ RS = if addE s.came n = 0 then { (s.takes L).2 with came := addL s.came n } else s) := Lib.hid ⟨by rw [HR.out.1, if_pos HZ0.out], by rw [HR.out.2, if_pos HZ0.out]⟩
     have hb30 := rngE_ok HCM.out
     have HAD := Lib.hid (radd_any Ac s.came.length cc s.came n wr rfl (fun r hr => by obtain ⟨⟨a1, a2⟩, b1, b2⟩ := hb30 r hr; unfold okI; omega) (HRC.out.later hsr))
     clear hLT hb30
     go_wp2_with fail
     refine HAD.out.mono ?_
     rintro e w5 ⟨A5, c5, rfl, hb5, hl5, hk5⟩
     have hs5 : Since w w5 := hsr.later hb5
     have HL5 := Lib.hid hl5
     have HK5 := Lib.hid hk5
     have HB5 : Hid (Since wr w5) := Lib.hid hb5
     clear hl5 hk5 hb5 HAD d64
     by_cases hA0 : addE s.came n = 0
     case neg =>
      have HH2 : Hid (RE = addE s.came n ∧ RS = s) := Lib.hid ⟨HR2.out.1, by rw [HR2.out.2, if_neg hA0]⟩
      rw [errV_pos hA0]
      have HEP := Lib.hid (errV_pos hA0)
      obtain ⟨ee, hee⟩ : ∃ e, addE s.came n = e := ⟨_, rfl⟩
      rw [hee] at HH2 HEP
      rw [hee]
      clear hA0 hee
      go_wp2_with fail
      go_ret
      rw [HH2.out.1, HH2.out.2, HEP.out]
      exact ⟨rfl, Leaves.same H0.out hs5⟩
     have HH2 : Hid (RE = 0 ∧ RS = { (s.takes L).2 with came := addL s.came n }) := Lib.hid ⟨by rw [HR2.out.1, hA0], by rw [HR2.out.2, if_pos hA0]⟩
     have hok2 : EnOk (s.takes L).2 := H.out.ok.takes HFO.out
     have hmd2 : (s.takes L).2.made = s.made := takes_made _ _
     obtain ⟨s2, hs2e⟩ : ∃ x, (s.takes L).2 = x := ⟨_, rfl⟩
     rw [hs2e] at hok2 hmd2 HEW HH2
     obtain ⟨cn, hcn⟩ : ∃ x, addL s.came n = x := ⟨_, rfl⟩
     have hcok : rngE cn = 0 := by rw [← hcn]; exact (addL_ok HCM.out hA0).1
     rw [hcn] at HL5 HH2
     rw [hcn]
     have HOK2 := Lib.hid hok2
     have HMD2 := Lib.hid hmd2
     have HOKF : Hid (EnOk { s2 with came := cn }) := Lib.hid ⟨hok2.dz, hok2.tl, hok2.my, hok2.md, hok2.kn, hcok, hok2.ml, hok2.tt, hok2.cr, hok2.rt, hok2.mc⟩
     obtain ⟨cvn, hcvn⟩ : ∃ v, Value.slice A5 cn.length c5 = v := ⟨_, rfl⟩
     rw [hcvn] at HL5
     have hone : cvn.oneCell' = true := by rw [← hcvn]; rfl
     have HKV : Hid (∀ k, k ∈ blocks cvn → wr.heap.size ≤ k) := Lib.hid (fun k hk => HK5.out k (by rw [← hcvn] at hk; exact blocks_any A5 _ _ _ _ ▸ hk))
     obtain ⟨Amv, cmv, hmv, -, -, -⟩ := H.out.lm.shape
     -- what lies where
     obtain ⟨parts, hparts⟩ : ∃ x, enParts g s p = x := ⟨_, rfl⟩
     rw [hparts] at HO3
     have HOr : Hid (Own w S wr (parts ++ [Thing.block gx 83 (enCells s2 p.mv p.cv gi' gl').toArray, Thing.block gi' 146 (strCells s2.M s2.t), Thing.block gl' 143 (credCells s2.W s2.L s2.C s2.R)])) := Lib.hid (by
      refine HO3.out.chg HOU.out (fun i => parts.length ≤ i) (fun k hk => ?_) (fun i t hi => ?_)
      · simp at hk
        rcases hk with rfl | rfl | rfl
        · exact ⟨parts.length, _, _, by rw [List.getElem?_append_right (Nat.le_refl _), Nat.sub_self]; rfl, Nat.le_refl _⟩
        · exact ⟨parts.length + 1, _, _, by rw [List.getElem?_append_right (by omega), Nat.add_sub_cancel_left]; rfl, by omega⟩
        · exact ⟨parts.length + 2, _, _, by rw [List.getElem?_append_right (by omega), Nat.add_sub_cancel_left]; rfl, by omega⟩
      · rcases Nat.lt_or_ge i parts.length with h1 | h1
        · left
          rw [List.getElem?_append_left h1] at hi ⊢
          exact ⟨by omega, hi⟩
        · right
          obtain ⟨d, rfl⟩ : ∃ d, i = parts.length + d := ⟨i - parts.length, by omega⟩
          rw [List.getElem?_append_right (by omega), Nat.add_sub_cancel_left] at hi
          rw [List.getElem?_append_right (by omega), Nat.add_sub_cancel_left]
          match d, hi with
          | 0, hi => simp at hi; subst hi; exact ⟨_, _, _, _, rfl, rfl, HEW.out.bx⟩
          | 1, hi => simp at hi; subst hi; exact ⟨_, _, _, _, rfl, rfl, HEW.out.bi⟩
          | 2, hi => simp at hi; subst hi; exact ⟨_, _, _, _, rfl, rfl, HEW.out.bl⟩
          | d + 3, hi => simp at hi)
     have HO5 := Lib.hid (HOr.out.add HB5.out (S := blocks cvn) (t := Thing.lst 101 2 cvn (cn.map rngRow)) ⟨HL5.out, rfl⟩ HKV.out)
     have hbx5 := HEW.out.bx.later HB5.out
     have x64 : w5.cell? ⟨gx, 64, none⟩ = some p.cv := (hbx5.cell 64).trans (enCells_tail _ _ _ _ hok2.tl 3)
     have fx := hbx5.free
     have lx := hbx5.lt
     have hbg5 := H.out.bg.later hs5
     have lg5 := hbg5.lt
     have hgx : g ≠ gx := by have := H.out.bg.lt; omega
     have HBX6 : Hid (BlockIs (w5.setCell ⟨gx, 64, none⟩ cvn) gx 83 (enCells s2 p.mv cvn gi' gl').toArray) := Lib.hid (by
      have h1 := hbx5.put 64 cvn
      rw [enCells_64 _ _ _ _ hok2.tl] at h1
      exact h1)
     have HBG6 : Hid (BlockIs (w5.setCell ⟨gx, 64, none⟩ cvn) g 83 (enCells s p.mv p.cv p.gi p.gl).toArray) := Lib.hid (hbg5.far hgx _)
     obtain ⟨cs, hcs⟩ : ∃ cs, enCells s2 p.mv cvn gi' gl' = cs := ⟨_, rfl⟩
     have hlen : cs.length = 67 := by rw [← hcs]; exact enCells_len _ _ _ _ hok2.tl
     have hlen0 : (enCells s p.mv p.cv p.gi p.gl).length = 67 := enCells_len _ _ _ _ H.out.ok.tl
     have HO9 : Hid (∀ v ∈ cs, v.oneCell' = true) := Lib.hid (by rw [← hcs]; exact enCells_one s2 (by rw [hmv]; rfl) hone gi' gl')
     have HR6 : Hid ((w5.setCell ⟨gx, 64, none⟩ cvn).rangeAt gx 0 cs) := Lib.hid (by rw [← hcs]; have := HBX6.out.range; simpa using this)
     have HI6 : Hid ((Tryz.prog.info? 83).map (·.size) = some cs.length) := Lib.hid (by rw [hlen]; kernel_rfl)
     have HT6 : Hid ((w5.setCell ⟨gx, 64, none⟩ cvn).there g 0 cs.toArray.size) := Lib.hid (by
      have h1 := HBG6.out.there
      rw [List.size_toArray, hlen0] at h1
      rw [List.size_toArray, hlen]; exact h1)
     have HL9 : Hid (cs.length = (enCells s p.mv p.cv p.gi p.gl).toArray.size) := Lib.hid (by rw [List.size_toArray, hlen, hlen0])
     have HCS := Lib.hid hcs
     have HPT := Lib.hid hparts
     rw [hA0, errV_zero]
     subst hcvn
     clear hA0 hok2 hmd2 hs2e hcn hcok hone hmv hparts hbx5 hbg5 hlen hlen0 hcs
     go_wp2_with (first | (refine wpList_load_mid rfl 83 (.tmp 65) rfl gx 0 (by go_simp) cs _ HR6.out Tryz.underlying83 rfl HI6.out ?_) | (refine wpList_store_mid rfl 83 (.tmp 67) (.tmp 66) rfl g 0 cs.toArray (by go_simp) (by go_simp) HT6.out (by rw [HI6.out, List.size_toArray]) (all_oneCell_toArray HO9.out) ?_))
     go_ret
     rw [HH2.out.1, HH2.out.2, errV_zero]
     refine ⟨rfl, endT_close (p := ⟨gi', gl', p.mv, .slice A5 cn.length c5, p.vs⟩) HOKF.out (by show p.vs.length = s2.made.length; rw [HMD2.out]; exact H.out.len) ?_⟩
     have hN : parts.length = 5 + (inner p.vs s.made).length := by rw [← HPT.out]; unfold enParts; simp; omega
     have hi0 : (parts ++ [Thing.block gx 83 (enCells s2 p.mv p.cv gi' gl').toArray, Thing.block gi' 146 (strCells s2.M s2.t), Thing.block gl' 143 (credCells s2.W s2.L s2.C s2.R)] ++ [Thing.lst 101 2 (.slice A5 cn.length c5) (cn.map rngRow)])[parts.length]? = some (Thing.block gx 83 (enCells s2 p.mv p.cv gi' gl').toArray) := by
      rw [List.append_assoc, List.getElem?_append_right (Nat.le_refl _), Nat.sub_self]; rfl
     have o6 := HO5.out.put parts.length hi0 64 (.slice A5 cn.length c5)
     obtain ⟨L6, hL6⟩ : ∃ L6, (parts ++ [Thing.block gx 83 (enCells s2 p.mv p.cv gi' gl').toArray, Thing.block gi' 146 (strCells s2.M s2.t), Thing.block gl' 143 (credCells s2.W s2.L s2.C s2.R)] ++ [Thing.lst 101 2 (.slice A5 cn.length c5) (cn.map rngRow)]).set parts.length (Thing.block gx 83 ((enCells s2 p.mv p.cv gi' gl').toArray.setIfInBounds 64 (.slice A5 cn.length c5))) = L6 := ⟨_, rfl⟩
     rw [hL6] at o6
     have hg6 : L6[0]? = some (Thing.block g 83 (enCells s p.mv p.cv p.gi p.gl).toArray) := by
      rw [← hL6, List.getElem?_set_ne (by omega), ← HPT.out]; rfl
     have o7 := o6.chg1 (cs' := cs.toArray) 0 hg6 (HBG6.out.puts HL9.out) ((Out.refl _ _).setCells (Or.inl (by simp)) cs 0)
     refine Own.pickf o7 (fun i => if i = 1 then parts.length + 1 else if i = 2 then parts.length + 2 else if i = 4 then parts.length + 3 else i) (fun i => if i = parts.length + 1 then 1 else if i = parts.length + 2 then 2 else if i = parts.length + 3 then 4 else i) (fun i hi => ?_) (fun i t hi => ?_)
     · have hlen9 : (enParts g { s2 with came := cn } ⟨gi', gl', p.mv, .slice A5 cn.length c5, p.vs⟩).length = parts.length := by
        rw [hN]; unfold enParts; simp only [List.length_cons, HMD2.out]; omega
       rw [hlen9] at hi
       by_cases a1 : i = 1
       · subst a1; simp
       · by_cases a2 : i = 2
         · subst a2; simp
         · by_cases a4 : i = 4
           · subst a4; simp
           · rw [if_neg a1, if_neg a2, if_neg a4, if_neg (by omega), if_neg (by omega), if_neg (by omega)]
     · have hbk : ∀ d, L6[parts.length + 1 + d]? = ([Thing.block gi' 146 (strCells s2.M s2.t), Thing.block gl' 143 (credCells s2.W s2.L s2.C s2.R), Thing.lst 101 2 (.slice A5 cn.length c5) (cn.map rngRow)])[d]? := fun d => by
        rw [← hL6, List.getElem?_set_ne (by omega), List.append_assoc, List.getElem?_append_right (by omega), show parts.length + 1 + d - parts.length = d + 1 by omega]
        rfl
       have hfr : ∀ d, d < parts.length → L6[d]? = parts[d]? := fun d hd => by
        rw [← hL6, List.getElem?_set_ne (by omega), List.append_assoc, List.getElem?_append_left hd]
       match i, hi with
       | 0, hi =>
         have h0 : 0 < L6.length := (List.getElem?_eq_some_iff.1 hg6).1
         show (L6.set 0 _)[0]? = some t
         rw [List.getElem?_set_self h0, ← HCS.out]
         exact hi
       | 1, hi =>
         show (L6.set 0 _)[parts.length + 1]? = some t
         rw [List.getElem?_set_ne (by omega)]
         exact (hbk 0).trans hi
       | 2, hi =>
         show (L6.set 0 _)[parts.length + 2]? = some t
         rw [List.getElem?_set_ne (by omega)]
         exact (hbk 1).trans hi
       | 3, hi =>
         show (L6.set 0 _)[3]? = some t
         rw [List.getElem?_set_ne (by omega), hfr 3 (by omega), ← HPT.out]
         exact hi
       | 4, hi =>
         show (L6.set 0 _)[parts.length + 3]? = some t
         rw [List.getElem?_set_ne (by omega)]
         exact (hbk 2).trans hi
       | d + 5, hi =>
         have hfe : (if d + 5 = 1 then parts.length + 1 else if d + 5 = 2 then parts.length + 2 else if d + 5 = 4 then parts.length + 3 else d + 5) = d + 5 := by rw [if_neg (by omega), if_neg (by omega), if_neg (by omega)]
         have hi' : (inner p.vs s.made)[d]? = some t := by rw [← HMD2.out]; exact hi
         have hd := (List.getElem?_eq_some_iff.1 hi').1
         show (L6.set 0 _)[if d + 5 = 1 then parts.length + 1 else if d + 5 = 2 then parts.length + 2 else if d + 5 = 4 then parts.length + 3 else d + 5]? = some t
         rw [hfe, List.getElem?_set_ne (by omega), hfr (d + 5) (by omega), ← HPT.out]
         exact hi'
    obtain ⟨bf, off, hA, hltb, hcf⟩ := HFR.out.agg_at hn1 hlt
    subst hA
    obtain ⟨f0, f1, f2⟩ := hcf wr (Since.refl wr)
    have hfin := HFR.out.each _ (List.getElem_mem (show i < Ms.length by omega))
    have hiL : i < L.length := by omega
    have hLi : L[i] = Ms[i].f := by
     have h1 : (Ms.map (·.f))[i]? = some Ms[i].f := by rw [List.getElem?_map, List.getElem?_eq_getElem]; rfl
     rw [HM1.out, List.getElem?_eq_getElem hiL] at h1
     exact Option.some.inj h1
    have hfr : frmE Ms[i].f = 0 := by rw [← hLi]; exact HFO.out _ (List.getElem_mem hiL)
    have HTS := Lib.hid (takes_succ hiL HZ0.out)
    rw [hLi] at HTS
    obtain ⟨q, hq⟩ : ∃ q, Ms[i] = q := ⟨_, rfl⟩
    rw [hq] at f0 f1 f2 hfin hfr HTS
    obtain ⟨si, hsi⟩ : ∃ x, (s.takes (L.take i)).2 = x := ⟨_, rfl⟩
    have hok : EnOk si := by rw [← hsi]; exact H.out.ok.takes (fun f hf => HFO.out f (List.mem_of_mem_take hf))
    have hmd : si.made = s.made := by rw [← hsi]; exact takes_made _ _
    rw [hsi] at HEW HTS
    have HT1 := Lib.hid (fun (X : World) (hX : Since wr X) => etake1 gx gi' gl' p.mv p.cv p.vs si q X (HEW.out.later hX) hok (by rw [hmd]; exact H.out.made.later (hsr.later hX)) (by rw [hmd]; exact h1000) (hfin.later hX) hfr)
    have hlt' : (i : Int) < (n1 : Int) := by omega
    clear hfin hfr hq hok hmd hLi hiL hcf hsi
    obtain ⟨⟨fk, fn, fd⟩, fA, fc⟩ := q
    dsimp only at f0 f1 f2 HT1 HTS
    go_wp2_with fail
    refine (HT1.out _ (by exact Since.alloc (Since.refl _) _)).mono ?_
    rintro e w5 ⟨rfl, hew5, hou5⟩
    have HEW5 := Lib.hid hew5
    have HOU5 := Lib.hid ((HOU.out.alloc _).trans hou5)
    have hs25 : Since w2 w5 := hb23.out' HOU5.out (fun k hk => by simp at hk; have := HX2.out; omega)
    have hs5 : Since w w5 := hs2.later hs25
    clear hew5 hou5
    by_cases hE5 : si.take1E ⟨fk, fn, fd⟩ = 0
    case neg =>
     have HH2 : Hid (RE = si.take1E ⟨fk, fn, fd⟩ ∧ RS = s) := Lib.hid (by
      have h1 : (s.takes L).1 = si.take1E ⟨fk, fn, fd⟩ := by rw [takes_stop (i := i + 1) (by rw [HTS.out]; exact hE5), HTS.out]
      rw [HR.out.1, HR.out.2, h1, if_neg hE5, if_neg hE5]
      exact ⟨rfl, rfl⟩)
     rw [errV_pos hE5]
     have HEP := Lib.hid (errV_pos hE5)
     obtain ⟨ee, hee⟩ : ∃ e, si.take1E ⟨fk, fn, fd⟩ = e := ⟨_, rfl⟩
     rw [hee] at HH2 HEP
     rw [hee]
     clear hE5 hee
     go_wp2_with fail
     go_ret
     rw [HH2.out.1, HH2.out.2, HEP.out]
     exact ⟨rfl, Leaves.same H0.out hs5⟩
    have HTS2 : Hid ((s.takes (L.take (i + 1))).1 = 0 ∧ (s.takes (L.take (i + 1))).2 = si.take1 ⟨fk, fn, fd⟩) := Lib.hid (by rw [HTS.out]; exact ⟨hE5, rfl⟩)
    rw [hE5, errV_zero]
    clear hE5
    go_wp2_with fail
    go_roundw
    case rel => exact ⟨i + 1, by go_num, by omega, HTS2.out.1, by rw [HTS2.out.2]; exact HEW5.out, HOU5.out⟩
    case measure => simp [intOf]; omega
theorem rack (A : Option Addr) (n cap : Nat) (L : List Rng) (w : World) (hn : L.length = n) (h0 : 0 < n) (h : Rd w 2 (.slice A n cap) (L.map rngRow)) (hE : rngE L = 0) :
  Calls Tryz.prog 129 #[.slice A n cap] w fun e w' => e = .returned (.string ⟨(ackB L).toArray⟩) ∧ Below w.heap.size w w' := by
 have H := Lib.hid h
 have HN := Lib.hid hn
 have hl12 : n ≤ 12 := by rw [← hn]; exact rngE_len hE
 have HO : Hid (∀ i, i < n → okN (rat L i) ∧ (rat L i).lo ≤ (rat L i).hi ∧ (0 < i → (rat L i).hi + 1 < (rat L (i-1)).lo)) := Lib.hid (fun i hi => rngOne_ok (rngE_each hE (by omega)))
 have HLN : Hid (∀ i, (ackUp L i).length ≤ 8 * i + 1) := Lib.hid (fun i => ackUp_len L (by omega) i)
 have HAB : Hid (ackB L = ackUp L n) := Lib.hid (by unfold ackB; rw [hn])
 have HU1 : Hid (ackUp L 1 = vbytes (rat L 0).hi ++ vbytes ((n : Int) - 1) ++ vbytes ((rat L 0).hi - (rat L 0).lo)) := Lib.hid (by rw [ackUp_one, hn])
 have HUS : Hid (∀ i, 0 < i → ackUp L (i + 1) = ackUp L i ++ vbytes ((rat L (i - 1)).lo - (rat L i).hi - 2) ++ vbytes ((rat L i).hi - (rat L i).lo)) := Lib.hid (fun i h => ackUp_succ L h)
 clear h hn hE
 obtain ⟨b, off, rfl, hbl, hc⟩ := H.out.rng (i := 0) (by rw [HN.out]; exact h0)
 have HC := Lib.hid hc
 obtain ⟨c0, c1⟩ := hc w (Since.refl w) 0 (by rw [HN.out]; exact h0)
 obtain ⟨⟨⟨a1, a2⟩, a3, a4⟩, a5, a6⟩ := HO.out 0 h0
 have g0 : w.cell? ⟨b, off, none⟩ = some (.int .i64 (rat L 0).lo) := by simpa using c0
 have g1 : w.cell? ⟨b, off + 1, none⟩ = some (.int .i64 (rat L 0).hi) := by simpa using c1
 clear hc c0 c1 a6
 generalize (rat L 0).lo = lo at *
 generalize (rat L 0).hi = hi2 at *
 go_enter Tryz.func129, Tryz.ntmps129
 go_wp2_with fail
 refine (rbytes_any hi2 a3 a4 _).mono ?_
 rintro e w1 ⟨rfl, hb1⟩
 have hs1 : Since w w1 := hb1
 go_wp2_with fail
 refine (rbytes_any ((n : Int) - 1) (by omega) (by omega) _).mono ?_
 rintro e w2 ⟨rfl, hb2⟩
 have hs2 := hs1.later hb2
 have d0 := hs2.cell hbl g0
 have d1 := hs2.cell hbl g1
 have lb : b < w2.heap.size := Nat.lt_of_lt_of_le hbl hs2.le
 have hw0 : IntKind.i64.wrap (hi2 - lo) = hi2 - lo := by simp [IntKind.wrap, IntKind.bits, IntKind.signed]; omega
 clear hb1 hb2 hs1 g0 g1
 go_wp2_with fail
 go_region_law (go_simp; go_at_call 83; refine (rbytes_any (hi2 - lo) (by omega) (by omega) _).mono ?_; rintro e w3 ⟨rfl, hb3⟩; have HS3 := Lib.hid (show Since w w3 from (by exact Since.later (Since.drew hs2) hb3)); clear hb3)
 all_goals
  have h1 := vbytes_len4 hi2
  have h2 := vbytes_len4 ((n : Int) - 1)
  have h3 := vbytes_len4 (hi2 - lo)
  have hov : (vbytes hi2).length + (vbytes ((n : Int) - 1)).length ≤ 9223372036854775807 := by omega
  have hov2 : (vbytes hi2).length + (vbytes ((n : Int) - 1)).length + (vbytes (hi2 - lo)).length ≤ 9223372036854775807 := by omega
  have hs3 := HS3.out
  have HU1' : Hid ((vbytes hi2 ++ vbytes ((n : Int) - 1) ++ vbytes (hi2 - lo)) = ackUp L 1) := Lib.hid HU1.out.symm
  clear hw0 d0 d1 hs2 lb
  go_wp2_with fail
  rw [bapp, bapp, HU1'.out]
  clear h1 h2 h3 hov hov2
  go_loopw [6, 7] (fun s6 s7 wr => ∃ i : Nat, s7 = .int .i64 i ∧ 1 ≤ i ∧ i ≤ n ∧ s6 = .string ⟨(ackUp L i).toArray⟩ ∧ Since w wr) (fun _ s7 _ => n - (intOf s7).toNat)
  case atStart => exact ⟨1, rfl, Nat.le_refl _, h0, rfl, hs3⟩
  case round =>
   obtain ⟨i, rfl, hi1, hi, rfl, hs⟩ := hrel
   by_cases hlt : i < n
   case neg =>
    obtain rfl : i = n := by omega
    have hf : decide ((i : Int) < (i : Int)) = false := by simp
    go_wp2_with fail
    go_ret
    exact ⟨by rw [HAB.out]; rfl, hs⟩
   have hlt' : (i : Int) < (n : Int) := by omega
   obtain ⟨c0, c1⟩ := HC.out wr hs i (by rw [HN.out]; exact hlt)
   obtain ⟨cp0, cp1⟩ := HC.out wr hs (i - 1) (by rw [HN.out]; omega)
   have HCI := Lib.hid (fun w' hw' => HC.out w' hw' i (by rw [HN.out]; exact hlt))
   obtain ⟨⟨⟨x1, x2⟩, x3, x4⟩, x5, x6⟩ := HO.out i hlt
   obtain ⟨⟨⟨y1, y2⟩, y3, y4⟩, y5, _⟩ := HO.out (i - 1) (by omega)
   have x7 := x6 (by omega)
   have HU := Lib.hid (HUS.out i (by omega))
   have hlen := HLN.out i
   have lb : b < wr.heap.size := Nat.lt_of_lt_of_le hbl hs.le
   have hi2' : (i : Int) - 1 = ((i - 1 : Nat) : Int) := by omega
   have hi3 : ((i - 1 : Nat) : Int) < (n : Int) := by omega
   clear x6
   generalize ackUp L i = U at *
   generalize (rat L i).lo = li at *
   generalize (rat L i).hi = ri at *
   generalize (rat L (i - 1)).lo = lp at *
   generalize (rat L (i - 1)).hi = rp at *
   have hw0 : IntKind.i64.wrap ((i - 1 : Nat) : Int) = ((i - 1 : Nat) : Int) := by simp [IntKind.wrap, IntKind.bits, IntKind.signed]; omega
   have hw1 : IntKind.i64.wrap (lp - ri) = lp - ri := by simp [IntKind.wrap, IntKind.bits, IntKind.signed]; omega
   have hw2 : IntKind.i64.wrap (lp - ri - 2) = lp - ri - 2 := by simp [IntKind.wrap, IntKind.bits, IntKind.signed]; omega
   have g0 : 0 ≤ lp - ri - 2 := by omega
   have g1 : lp - ri - 2 ≤ 1073741823 := by omega
   go_wp2_with fail
   go_region_law (go_simp; go_at_call 83; refine (rbytes_any (lp - ri - 2) g0 g1 _).mono ?_; rintro e w4 ⟨rfl, hb4⟩; have HS4 := Lib.hid (show Since w w4 from (by exact Since.later (Since.drew hs) hb4)); clear hb4)
   all_goals
    have hs4 := HS4.out
    obtain ⟨e0, e1⟩ := HCI.out w4 hs4
    have lb4 : b < w4.heap.size := Nat.lt_of_lt_of_le hbl hs4.le
    clear hw0 hw1 hw2 cp0 cp1 c0 c1
    have hw3 : IntKind.i64.wrap (ri - li) = ri - li := by simp [IntKind.wrap, IntKind.bits, IntKind.signed]; omega
    have g2 : 0 ≤ ri - li := by omega
    have g3 : ri - li ≤ 1073741823 := by omega
    go_wp2_with fail
    go_region_law (go_simp; go_at_call 83; refine (rbytes_any (ri - li) g2 g3 _).mono ?_; rintro e w5 ⟨rfl, hb5⟩; have HS5 := Lib.hid (show Since w w5 from (by exact Since.later (Since.drew hs4) hb5)); clear hb5)
    all_goals
     have hs5 := HS5.out
     have h1 := vbytes_len4 (lp - ri - 2)
     have h2 := vbytes_len4 (ri - li)
     have hov : U.length + (vbytes (lp - ri - 2)).length ≤ 9223372036854775807 := by omega
     have hov2 : U.length + (vbytes (lp - ri - 2)).length + (vbytes (ri - li)).length ≤ 9223372036854775807 := by omega
     clear hw3 hs4 e0 e1
     go_wp2_with fail
     rw [bapp, bapp]
     go_roundw
     case rel => exact ⟨i + 1, by go_num, by omega, by omega, by rw [HU.out], hs5⟩
     case measure => simp [intOf]; omega
theorem rcounts (k : Int) (w : World) : Calls Tryz.prog 127 #[.int .i64 k] w fun e w' => e = .returned (.int .i64 (manyK k)) ∧ w = w' := by
 unfold manyK
 by_cases h1 : k = 1
 · subst h1
   go_enter Tryz.func127, Tryz.ntmps127
   go_wp2_with fail
   go_ret
   exact ⟨rfl, rfl⟩
 by_cases h2 : k = 2
 · subst h2
   go_enter Tryz.func127, Tryz.ntmps127
   go_wp2_with fail
   go_ret
   exact ⟨rfl, rfl⟩
 by_cases h7 : k = 7
 · subst h7
   go_enter Tryz.func127, Tryz.ntmps127
   go_wp2_with fail
   go_ret
   exact ⟨rfl, rfl⟩
 have q1 : (k == 1) = false := by simpa using h1
 have q2 : (k == 2) = false := by simpa using h2
 have q7 : (k == 7) = false := by simpa using h7
 rw [if_neg h1, if_neg h2, if_neg h7]
 clear h1 h2 h7
 go_enter Tryz.func127, Tryz.ntmps127
 go_wp2_with fail
 go_ret
 exact ⟨rfl, rfl⟩
structure RrgSt (w wr : World) (L : List Int) (j : Nat) (A : Option Addr) (cap : Nat) : Prop where
 ls : Lst wr 101 2 (.slice A j cap) (((pairs L).take j).map rngRow)
 new : ∀ q, q ∈ blocks (.slice A 0 0) → w.heap.size ≤ q
 since : Since w wr
theorem pairs_take {L : List Int} {K j : Nat} (h : L.length = 2 * K) (hj : j < K) : (pairs L).take (j + 1) = (pairs L).take j ++ [⟨ith L (2 * j + 1), ith L (2 * j)⟩] := by
 have hl := pairs_len L (by omega)
 rw [← pairs_at L j (by omega) (by omega), rat_get (by omega), List.take_succ_eq_append_getElem]
theorem pairs_tlen {L : List Int} {K j : Nat} (h : L.length = 2 * K) (hj : j ≤ K) : (((pairs L).take j).map rngRow).length = j := by
 have hl := pairs_len L (by omega)
 simp; omega
theorem rrngs (A : Option Addr) (cap : Nat) (L : List Int) (K : Nat) (w : World) (h : IntsIn w (.slice A L.length cap) L) (hl : L.length = 2 * K) (h0 : 0 < K) (h12 : K ≤ 12) :
  Calls Tryz.prog 61 #[.slice A L.length cap] w fun e w' => ∃ A' cap', e = .returned (.slice A' K cap') ∧ Lst w' 101 2 (.slice A' K cap') ((pairs L).map rngRow) ∧ Below w.heap.size w w' := by
 obtain ⟨_, A2, cap2, hv, q1, q2, hA⟩ := h
 simp only [Value.slice.injEq, true_and] at hv
 obtain ⟨rfl, rfl⟩ := hv
 obtain ⟨b, off, rfl, hlt, hc⟩ := hA (by intro hh; rw [hh] at hl; simp at hl; omega)
 have HTK := Lib.hid (fun j hj => pairs_take (L := L) (K := K) (j := j) hl hj)
 have HLN := Lib.hid (fun j hj => pairs_tlen (L := L) (K := K) (j := j) hl hj)
 have HPL : Hid ((pairs L).take K = pairs L) := Lib.hid (List.take_of_length_le (by have := pairs_len L (by omega); omega))
 obtain ⟨N, hN⟩ : ∃ N, 2 * K = N := ⟨_, rfl⟩
 rw [hl, hN] at hc ⊢
 have HCC := Lib.hid hc
 clear hl hA hc q1 q2
 go_enter Tryz.func61, Tryz.ntmps61
 go_wp2_with fail
 go_loopw [3, 4] (fun s3 s4 wr => ∃ (j i : Nat) (A : Option Addr) (cp : Nat), s3 = .slice A j cp ∧ s4 = .int .i64 i ∧ 2 * j = i ∧ j ≤ K ∧ RrgSt w wr L j A cp) (fun _ s4 _ => N - (intOf s4).toNat)
 case atStart => exact ⟨0, 0, none, 0, rfl, rfl, rfl, Nat.zero_le _, ⟨Lst.nil _ _ _, by simp [Value.ownBlock], Since.refl _⟩⟩
 case round =>
  obtain ⟨j, i, A, cp, rfl, rfl, hji, hj, hS⟩ := hrel
  have HS := Lib.hid hS
  have hs := hS.since
  clear hS
  by_cases hlt2 : j < K
  case neg =>
   obtain rfl : j = K := by omega
   obtain rfl : i = N := by omega
   have hf : decide ((i : Int) + 1 < (i : Int)) = false := by simp; omega
   go_wp2_with fail
   go_ret
   exact ⟨A, cp, rfl, by have := HS.out.ls; rw [HPL.out] at this; exact this, hs⟩
  obtain ⟨m, hm⟩ : ∃ m, i + 1 = m := ⟨_, rfl⟩
  have hf : (i : Int) + 1 < (N : Int) := by omega
  have hf2 : (i : Int) < (N : Int) := by omega
  have c0 : wr.cell? ⟨b, off + i, none⟩ = some (.int .i64 (ith L (2 * j))) := by have := hs.cell hlt (HCC.out (2 * j) (by omega)); rw [hji] at this; rw [← hji] at *; exact this
  have c1 : wr.cell? ⟨b, off + m, none⟩ = some (.int .i64 (ith L (2 * j + 1))) := by have := hs.cell hlt (HCC.out (2 * j + 1) (by omega)); rw [← hm, ← hji]; exact this
  have lb : b < wr.heap.size := Nat.lt_of_lt_of_le hlt hs.le
  have HT := Lib.hid (HTK.out j hlt2)
  have HML := Lib.hid (HLN.out j hj)
  have hw1 : IntKind.i64.wrap ((i : Int) + 1) = (m : Int) := by simp [IntKind.wrap, IntKind.bits, IntKind.signed]; omega
  have hf3 : (m : Int) < (N : Int) := by omega
  generalize ith L (2 * j) = hi at *
  generalize ith L (2 * j + 1) = lo at *
  clear hm
  go_wp2_with fail
  go_region_law ((refine step_push rfl _ _ 44 rfl 101 2 16 Tryz.elRange2 (.slice A j cp) (((pairs L).take j).map rngRow) rfl ?_ wr.heap.size 1 [.int .i64 lo, .int .i64 hi] rfl rfl (rngRow_one ⟨lo, hi⟩).2 ?_ ?_ ?_; (first | exact (HS.out.ls.alloc _).drew | exact HS.out.ls.alloc _); (exact BlockIs.fresh wr _ _); (rw [HML.out]; omega); intro q9 cq w5 hl5 ho5 hq5 hlt5))
  all_goals
   rw [HML.out] at hl5
   have hs5 : Since w w5 := (by first | exact (hs.alloc _).drew | exact hs.alloc _ : Since w _).out' ho5 (fun k hk => HS.out.new k (by rw [blocks_any _ 0 0 j cp]; exact hk))
   have hqn : w.heap.size ≤ q9 := by
    rcases hq5 with h | h
    · exact HS.out.new q9 (by rw [blocks_any _ 0 0 j cp]; exact h)
    · rw [h]; have := hs.le; first | (simp [World.drew]; omega) | (simp; omega)
   have HST2 : Hid (RrgSt w w5 L (j + 1) (some ⟨q9, 0, none⟩) cq) := Lib.hid
    { ls := by rw [HT.out, List.map_append]; exact hl5
      new := fun k hk => by have : q9 = k := by simpa [Value.ownBlock] using hk
                            omega
      since := hs5 }
   clear hl5 ho5 hq5 hlt5 hqn
   go_wp2_with fail
   go_roundw
   case rel => exact ⟨j + 1, i + 2, some ⟨q9, 0, none⟩, cq, by have := HML.out; rw [List.length_map, List.length_take] at this; first | rfl | rw [this] | (rw [HML.out]), by go_num, by omega, by omega, HST2.out⟩
   case measure => simp [intOf]; omega
theorem manyK_two {k : Int} (h : k ≠ 2) : 0 ≤ manyK k ∧ manyK k ≤ 2 := by
 unfold manyK; rw [if_neg h]; split
 · omega
 · split <;> omega
theorem shapeB_eq (f : Frm) : shapeB f = decide ((f.kind = 3 ∨ f.data.size = 0) ∧ (if f.kind = 2 then 0 < f.nums.length ∧ f.nums.length % 2 = 0 ∧ f.nums.length ≤ 24 else (f.nums.length : Int) = manyK f.kind)) := by
 unfold shapeB
 by_cases h : f.kind = 2
 · simp only [if_pos h]
   rw [Bool.eq_iff_iff]; simp
 · simp only [if_neg h]
   rw [Bool.eq_iff_iff]; simp
theorem rframe (p : FrmV) (w : World) (hp : FrmIn w p) :
  Calls Tryz.prog 91 #[p.agg] w fun e w' => e = .returned (.int .i64 (frmE p.f)) ∧ Below w.heap.size w w' := by
 have HP := Lib.hid hp
 have hnl := nums_le hp.nums
 have hdz := hp.data
 have HB : Hid (∀ z ∈ p.f.nums, -9223372036854775808 ≤ z ∧ z ≤ 9223372036854775807) := Lib.hid hp.nums.1
 unfold maxLen at hdz
 obtain ⟨⟨kind, nums, data⟩, A, cap⟩ := p
 simp only at hnl hdz HB ⊢
 have HI : Hid (IntsIn w (.slice A nums.length cap) nums) := Lib.hid HP.out.nums
 have SH : Hid (shapeB ⟨kind, nums, data⟩ = decide ((kind = 3 ∨ data.size = 0) ∧ (if kind = 2 then 0 < nums.length ∧ nums.length % 2 = 0 ∧ nums.length ≤ 24 else (nums.length : Int) = manyK kind))) := Lib.hid (shapeB_eq _)
 unfold FrmV.agg
 simp only
 clear hp HP
 obtain ⟨n, hn⟩ : ∃ n, nums.length = n := ⟨_, rfl⟩
 rw [hn] at SH HI hnl ⊢
 have HN := Lib.hid hn
 clear hn
 have HQ : Hid (BlockIs (w.alloc (.cells #[.int .i64 kind, .slice A n cap, .string data] 93)) w.heap.size 93 #[.int .i64 kind, .slice A n cap, .string data]) := Lib.hid (BlockIs.fresh _ _ _)
 by_cases k1 : kind < 1
 · have E := Lib.hid (frmE_kind (f := ⟨kind, nums, data⟩) (Or.inl k1))
   go_enter Tryz.func91, Tryz.ntmps91
   go_wp2_with fail
   go_ret
   exact ⟨by rw [E.out]; rfl, (by exact Since.alloc (Since.refl _) _)⟩
 have k1' : decide (kind < 1) = false := by simpa using k1
 by_cases k8 : 8 < kind
 · have E := Lib.hid (frmE_kind (f := ⟨kind, nums, data⟩) (Or.inr k8))
   clear k1
   go_enter Tryz.func91, Tryz.ntmps91
   go_wp2_with fail
   go_ret
   exact ⟨by rw [E.out]; rfl, (by exact Since.alloc (Since.refl _) _)⟩
 have k8' : decide (8 < kind) = false := by simpa using k8
 have HK : Hid (¬ (kind < 1 ∨ 8 < kind)) := Lib.hid (by omega)
 clear k1 k8
 go_enter Tryz.func91, Tryz.ntmps91
 go_wp2_with fail
 refine (rcounts kind _).mono ?_
 rintro e w1 ⟨rfl, rfl⟩
 have HM : Hid ((kind = 2 → manyK kind = -1) ∧ (kind ≠ 2 → 0 ≤ manyK kind ∧ manyK kind ≤ 2)) := Lib.hid ⟨fun h => by rw [h]; rfl, manyK_two⟩
 generalize manyK kind = m at *
 repeat ((fail_if_success (with_reducible refine stop_at 5 ?_)); first | fail | go_values | go_skip | go_guarded | go_step | go_upon | go_back | go_simp)
 go_cut [] (fun wx => Hid (shapeB ⟨kind, nums, data⟩ = true) ∧ Since w wx ∧ BlockIs wx w.heap.size 93 #[.int .i64 kind, .slice A n cap, .string data])
 case first =>
  as_aux_lemma =>
   by_cases h2 : kind = 2
   · have hm0 : m < 0 := by rw [HM.out.1 h2]; decide
     have hm1 : decide (0 ≤ m) = false := by simp; omega
     have h3 : (kind != 3) = true := by rw [h2]; rfl
     by_cases q1 : n = 0
     · subst q1
       have E := Lib.hid (frmE_shape (f := ⟨kind, nums, data⟩) HK.out (by rw [SH.out]; simp [h2]))
       clear h2
       go_wp2_with fail
       go_ret
       exact ⟨by rw [E.out]; rfl, (by exact Since.alloc (Since.refl _) _)⟩
     have q1' : ((n : Int) == 0) = false := by rw [beq_eq_false_iff_ne]; omega
     by_cases q2 : n % 2 = 1
     · have q2' : (((n : Int) % 2) == 1) = true := by simp; omega
       have E := Lib.hid (frmE_shape (f := ⟨kind, nums, data⟩) HK.out (by rw [SH.out]; simp [h2]; omega))
       clear h2 q1 q2
       go_wp2_with fail
       go_ret
       exact ⟨by rw [E.out]; rfl, (by exact Since.alloc (Since.refl _) _)⟩
     have q2' : (((n : Int) % 2) == 1) = false := by simp; omega
     by_cases q3 : 24 < n
     · have q3' : (24 : Int) < (n : Int) := by omega
       have E := Lib.hid (frmE_shape (f := ⟨kind, nums, data⟩) HK.out (by rw [SH.out]; simp [h2]; omega))
       clear h2 q1 q2 q3
       go_wp2_with fail
       go_ret
       exact ⟨by rw [E.out]; rfl, (by exact Since.alloc (Since.refl _) _)⟩
     have q3' : decide ((24 : Int) < (n : Int)) = false := by simp; omega
     by_cases q4 : data.size = 0
     · obtain ⟨e1, e2⟩ := str_empty q4
       have T : Hid (shapeB ⟨kind, nums, data⟩ = true) := Lib.hid (by rw [SH.out]; simp [h2, q4]; omega)
       clear h2 q1 q2 q3 q4
       go_wp2_with fail
       go_meet
       case rel => exact ⟨T.out, (by exact Since.alloc (Since.refl _) _), HQ.out⟩
     · obtain ⟨e1, e2⟩ := str_full q4
       have E := Lib.hid (frmE_shape (f := ⟨kind, nums, data⟩) HK.out (by rw [SH.out]; simp [h2, q4]))
       clear h2 q1 q2 q3 q4
       go_wp2_with fail
       go_ret
       exact ⟨by rw [E.out]; rfl, (by exact Since.alloc (Since.refl _) _)⟩
   · obtain ⟨m0, m2⟩ := HM.out.2 h2
     have SH2 : Hid (shapeB ⟨kind, nums, data⟩ = decide ((kind = 3 ∨ data.size = 0) ∧ (n : Int) = m)) := Lib.hid (by rw [SH.out]; simp only [if_neg h2])
     clear SH h2
     have SH := SH2
     clear SH2
     have m0' : decide (m < 0) = false := by simpa using m0
     by_cases q1 : (n : Int) = m
     case neg =>
      have q1' : ((n : Int) != m) = true := by simpa using q1
      have E := Lib.hid (frmE_shape (f := ⟨kind, nums, data⟩) HK.out (by rw [SH.out]; simp [q1]))
      clear q1
      go_wp2_with fail
      go_ret
      exact ⟨by rw [E.out]; rfl, (by exact Since.alloc (Since.refl _) _)⟩
     have q1' : ((n : Int) != m) = false := by simpa using q1
     by_cases h3 : kind = 3
     · have h3' : (kind != 3) = false := by simpa using h3
       have T : Hid (shapeB ⟨kind, nums, data⟩ = true) := Lib.hid (by rw [SH.out]; simp [h3, q1])
       clear q1 h3
       go_wp2_with fail
       go_meet
       case rel => exact ⟨T.out, (by exact Since.alloc (Since.refl _) _), HQ.out⟩
     have h3' : (kind != 3) = true := by simpa using h3
     by_cases q4 : data.size = 0
     · obtain ⟨e1, e2⟩ := str_empty q4
       have T : Hid (shapeB ⟨kind, nums, data⟩ = true) := Lib.hid (by rw [SH.out]; simp [q4, q1])
       clear q1 h3 q4
       go_wp2_with fail
       go_meet
       case rel => exact ⟨T.out, (by exact Since.alloc (Since.refl _) _), HQ.out⟩
     · obtain ⟨e1, e2⟩ := str_full q4
       have E := Lib.hid (frmE_shape (f := ⟨kind, nums, data⟩) HK.out (by rw [SH.out]; simp [h3, q4]))
       clear q1 h3 q4
       go_wp2_with fail
       go_ret
       exact ⟨by rw [E.out]; rfl, (by exact Since.alloc (Since.refl _) _)⟩
 case rest =>
  as_aux_lemma =>
   obtain ⟨wo, rfl⟩ : ∃ wo : World, wo = wc := ⟨_, rfl⟩
   obtain ⟨T, hso, hbo⟩ := hcut
   have HBO := Lib.hid hbo
   clear hbo HQ
   have hnn : (0 : Int) ≤ (n : Int) := by omega
   go_wp2_with fail
   go_loopw [5] (fun s5 wr => ∃ i : Nat, s5 = .int .i64 i ∧ i ≤ n ∧ Hid (∀ j, j < i → MayBe (ith nums j)) ∧ Hid (BlockIs wr w.heap.size 93 #[.int .i64 kind, .slice A n cap, .string data]) ∧ Since w wr) (fun s5 _ => n - (intOf s5).toNat)
   case atStart => exact ⟨0, rfl, Nat.zero_le _, Lib.hid (fun j hj => by omega), HBO, hso⟩
   case round =>
    obtain ⟨i, rfl, hi, HM, HBR, hs⟩ := hrel
    have lb := HBR.out.lt
    have fb := HBR.out.free
    have b0 : wr.cell? ⟨w.heap.size, 0, none⟩ = some (.int .i64 kind) := HBR.out.cell 0
    have b1 : wr.cell? ⟨w.heap.size, 1, none⟩ = some (.slice A n cap) := HBR.out.cell 1
    have b2 : wr.cell? ⟨w.heap.size, 2, none⟩ = some (.string data) := HBR.out.cell 2
    by_cases hlt : i < n
    case neg =>
     obtain rfl : i = n := by omega
     have hf : decide ((i : Int) < (i : Int)) = false := by simp
     have MS : Hid (maysB nums = true) := Lib.hid (List.all_eq_true.2 fun z hz => by
      obtain ⟨j, hj, rfl⟩ := List.getElem_of_mem hz
      have := HM.out j (by rw [← HN.out]; exact hj)
      rw [show nums[j] = ith nums j by unfold ith; simp [hj, List.getD]]
      exact mayB_iff.2 this)
     by_cases h20 : 20 < data.size
     · have E := Lib.hid (frmE_full (f := ⟨kind, nums, data⟩) HK.out T.out MS.out h20)
       have h20' : (20 : Int) < (data.size : Int) := by omega
       go_wp2_with fail
       go_ret
       exact ⟨by rw [E.out]; rfl, hs⟩
     have HD := Lib.hid h20
     have h20' : decide ((20 : Int) < (data.size : Int)) = false := by simp; omega
     clear h20
     by_cases hk : kind = 2
     · obtain ⟨_, n1, n2, n3⟩ := shapeB_two (f := ⟨kind, nums, data⟩) T.out hk
       simp only at n1 n2 n3
       have hl2 := pairs_len nums n2
       obtain ⟨K, hK⟩ : ∃ K, (pairs nums).length = K := ⟨_, rfl⟩
       have hk2 : (kind == 2) = true := by simpa using hk
       have HKK := Lib.hid hK
       have HKD := Lib.hid hk
       have FR := Lib.hid (fun W hW => rrngs A cap nums K W hW (by omega) (by omega) (by omega))
       rw [HN.out] at FR
       clear hK hk n1 n2 n3 hl2
       go_wp2_with fail
       refine (FR.out _ (HI.out.keep hs)).mono ?_
       rintro e w3 ⟨A3, c3, rfl, hl3, hb3⟩
       have HL3 := Lib.hid hl3
       have hs3 := hs.later hb3
       clear hl3 hb3
       go_wp2_with fail
       refine (rcheckR A3 K c3 (pairs nums) _ HKK.out (pairs_ok MS.out) (Rd.of_lst HL3.out)).mono ?_
       rintro e w4 ⟨rfl, hb4⟩
       have hs4 := hs3.later hb4
       by_cases hE : rngE (pairs nums) = 0
       · have E := Lib.hid (frmE_ok (f := ⟨kind, nums, data⟩) HK.out T.out MS.out HD.out (fun _ => hE))
         rw [hE]
         clear hE
         go_wp2_with fail
         go_ret
         exact ⟨by rw [E.out]; rfl, hs4⟩
       · have E := Lib.hid (frmE_ack (f := ⟨kind, nums, data⟩) HKD.out T.out MS.out HD.out hE)
         have hE' : (rngE (pairs nums) != 0) = true := by simpa using hE
         clear hE
         go_wp2_with fail
         go_ret
         exact ⟨by rw [E.out]; rfl, hs4⟩
     · have E := Lib.hid (frmE_ok (f := ⟨kind, nums, data⟩) HK.out T.out MS.out HD.out (fun h => absurd h hk))
       have hk2 : (kind == 2) = false := by simpa using hk
       clear hk
       go_wp2_with fail
       go_ret
       exact ⟨by rw [E.out]; rfl, hs⟩
    have hlt' : (i : Int) < (n : Int) := by omega
    obtain ⟨_, A2, cap2, hv, _, _, hA⟩ := HI.out
    simp only [Value.slice.injEq] at hv
    obtain ⟨rfl, hnv, rfl⟩ := hv
    clear hnv
    obtain ⟨ba, off, rfl, hla, hca⟩ := hA (by intro hh; have := HN.out; rw [hh] at this; simp at this; omega)
    have ci : wr.cell? ⟨ba, off + i, none⟩ = some (.int .i64 (ith nums i)) := hs.cell hla (hca i (by rw [HN.out]; exact hlt))
    have la : ba < wr.heap.size := Nat.lt_of_lt_of_le hla hs.le
    have HME : Hid (MayBe (ith nums i) → mayB (ith nums i) = true) := Lib.hid mayB_iff.2
    have HMF : Hid (¬ MayBe (ith nums i) → mayB (ith nums i) = false ∧ maysB nums = false) := Lib.hid (fun h => ⟨mayB_not h, by
     cases hc : maysB nums with
     | false => rfl
     | true =>
       have := List.all_eq_true.1 hc (ith nums i) (by unfold ith; rw [List.getD, List.getElem?_eq_getElem (by rw [HN.out]; exact hlt)]; exact List.getElem_mem _)
       exact absurd (mayB_iff.1 this) h⟩)
    have HXI : Hid (∀ z, MayBe z → z = ith nums i → ∀ j, j < i + 1 → MayBe (ith nums j)) := Lib.hid (fun z hz he j hj => by
     rcases Nat.lt_or_ge j i with h | h
     · exact HM.out j h
     · obtain rfl : j = i := by omega
       rw [← he]; exact hz)
    clear hca hA
    obtain ⟨x, hx⟩ : ∃ x, ith nums i = x := ⟨_, rfl⟩
    rw [hx] at ci HME HMF
    have HX := Lib.hid hx
    clear hx
    go_wp2_with fail
    refine (rmay_any x _).mono ?_
    rintro e w1 ⟨rfl, rfl⟩
    by_cases hm : MayBe x
    · rw [HME.out hm]
      have HXJ := Lib.hid (HXI.out x hm HX.out.symm)
      clear hm
      go_wp2_with fail
      go_roundw
      case rel => exact ⟨i + 1, by go_num, by omega, HXJ, HBR, hs⟩
      case measure => simp [intOf]; omega
    · obtain ⟨m1, m2⟩ := HMF.out hm
      rw [m1]
      have E := Lib.hid (frmE_may (f := ⟨kind, nums, data⟩) HK.out T.out m2)
      clear m1 m2 hm
      go_wp2_with fail
      go_ret
      exact ⟨by rw [E.out]; rfl, hs⟩
attribute [local go_sem] isU8_some cb_some
theorem rfbytes (p : FrmV) (w : World) (hp : FrmIn w p) (hE : frmE p.f = 0) :
  Calls Tryz.prog 92 #[p.agg] w fun e w' => e = .returned (.string ⟨(frmB p.f).toArray⟩) ∧ Below w.heap.size w w' := by
 obtain ⟨⟨k1, k8⟩, hs, hm, hd, ha⟩ := frmE_out hE
 obtain ⟨⟨kind, nums, data⟩, A, cap⟩ := p
 simp only at k1 k8 hd hs hm ha
 have HI : Hid (IntsIn w (.slice A nums.length cap) nums) := Lib.hid hp.nums
 have HS := Lib.hid hs
 have HM := Lib.hid hm
 have HA := Lib.hid ha
 have HU1 : Hid (kind = 3 → frmB ⟨kind, nums, data⟩ = byteOf kind :: (allL nums ++ (vbytes data.size ++ data.data.toList))) := Lib.hid (frmB_three (f := ⟨kind, nums, data⟩))
 have HU2 : Hid (kind = 2 → frmB ⟨kind, nums, data⟩ = byteOf kind :: ackB (pairs nums)) := Lib.hid (frmB_two (f := ⟨kind, nums, data⟩))
 have HU3 : Hid (kind ≠ 2 → kind ≠ 3 → frmB ⟨kind, nums, data⟩ = byteOf kind :: allL nums) := Lib.hid (frmB_other (f := ⟨kind, nums, data⟩))
 have HL : Hid (kind ≠ 2 → nums.length ≤ 2) := Lib.hid (shapeB_len (f := ⟨kind, nums, data⟩) hs)
 unfold FrmV.agg
 simp only
 obtain ⟨n, hn⟩ : ∃ n, nums.length = n := ⟨_, rfl⟩
 rw [hn] at HI HL ⊢
 have HN := Lib.hid hn
 have hwrap : IntKind.u8.wrap kind = kind := by simp [IntKind.wrap, IntKind.bits, IntKind.signed]; omega
 have hby : UInt8.ofNat kind.toNat = byteOf kind := rfl
 have HQ : Hid (BlockIs (w.alloc (.cells #[.int .i64 kind, .slice A n cap, .string data] 93)) w.heap.size 93 #[.int .i64 kind, .slice A n cap, .string data]) := Lib.hid (BlockIs.fresh _ _ _)
 clear hn hp hs hm ha hE
 have c1 := conv1
 have c2 := conv2
 by_cases h2 : kind = 2
 · obtain ⟨_, n1, n2, n3⟩ := shapeB_two (f := ⟨kind, nums, data⟩) HS.out h2
   simp only at n1 n2 n3
   have hl2 := pairs_len nums n2
   have nn := HN.out
   obtain ⟨K, hK⟩ : ∃ K, (pairs nums).length = K := ⟨_, rfl⟩
   have hk2 : (kind == 2) = true := by simpa using h2
   have HKK := Lib.hid hK
   have HRE := Lib.hid (HA.out h2)
   have hK0 : 0 < K := by omega
   have hK12 : K ≤ 12 := by omega
   have FR := Lib.hid (fun W hW => rrngs A cap nums K W hW (by omega) (by omega) (by omega))
   rw [HN.out] at FR
   have HU := Lib.hid (HU2.out h2)
   have hov : 1 + (ackB (pairs nums)).length ≤ 9223372036854775807 := by
    have := ackUp_len (pairs nums) (rngE_len HRE.out) (pairs nums).length
    unfold ackB; omega
   clear hK h2 n1 n2 n3 hl2 HU1 HU2 HU3 nn
   go_enter Tryz.func92, Tryz.ntmps92
   go_wp2_with fail
   refine (FR.out _ (HI.out.keep (by exact Since.alloc (Since.alloc (Since.refl _) _) _))).mono ?_
   rintro e w3 ⟨A3, c3, rfl, hl3, hb3⟩
   have HL3 := Lib.hid hl3
   have hs3 : Since w w3 := (by exact Since.later (Since.alloc (Since.alloc (Since.refl _) _) _) hb3)
   clear hl3 hb3
   go_wp2_with fail
   refine (rack A3 K c3 (pairs nums) _ HKK.out hK0 (Rd.of_lst HL3.out) HRE.out).mono ?_
   rintro e w4 ⟨rfl, hb4⟩
   have hs4 := hs3.later hb4
   generalize ackB (pairs nums) = Y at *
   clear hb4 hs3
   go_wp2_with fail
   go_ret
   refine ⟨?_, hs4⟩
   rw [HU.out]
   exact congrArg (fun x => Ending.returned (Value.string x)) (bapp [byteOf kind] Y)
 have hk2 : (kind == 2) = false := by simpa using h2
 have hn2 := HL.out h2
 obtain ⟨_, A2, cap2, hv, _, _, hA⟩ := HI.out
 simp only [Value.slice.injEq] at hv
 obtain ⟨rfl, hnv, rfl⟩ := hv
 clear hnv
 have HA2 := Lib.hid hA
 clear hA
 have H3 : Hid (kind ≠ 3 → frmB ⟨kind, nums, data⟩ = byteOf kind :: allL nums) := Lib.hid (HU3.out h2)
 clear HU3 HU2 HA h2
 go_enter Tryz.func92, Tryz.ntmps92
 go_wp2_with fail
 go_loopw [4, 6] (fun s4 s6 wr => ∃ i : Nat, s6 = .int .i64 i ∧ i ≤ n ∧ s4 = .string ⟨(byteOf kind :: allL (nums.take i)).toArray⟩ ∧ Hid (BlockIs wr w.heap.size 93 #[.int .i64 kind, .slice A n cap, .string data]) ∧ Since w wr) (fun _ s6 _ => n - (intOf s6).toNat)
 case atStart => exact ⟨0, rfl, Nat.zero_le _, by first | rfl | simp [allL], Lib.hid (HQ.out.alloc _), (by exact Since.alloc (Since.alloc (Since.refl _) _) _)⟩
 case round =>
  obtain ⟨i, rfl, hi, rfl, HBR, hs⟩ := hrel
  have lb := HBR.out.lt
  have fb := HBR.out.free
  have b0 : wr.cell? ⟨w.heap.size, 0, none⟩ = some (.int .i64 kind) := HBR.out.cell 0
  have b1 : wr.cell? ⟨w.heap.size, 1, none⟩ = some (.slice A n cap) := HBR.out.cell 1
  have b2 : wr.cell? ⟨w.heap.size, 2, none⟩ = some (.string data) := HBR.out.cell 2
  have hul : (allL (nums.take i)).length ≤ 8 := by
   have := allL_short (nums.take i)
   have h3 : (nums.take i).length ≤ i := List.length_take_le _ _
   omega
  by_cases hlt : i < n
  case neg =>
   obtain rfl : i = n := by omega
   have hf : decide ((i : Int) < (i : Int)) = false := by simp
   have hz : Hid (allL (nums.take i) = allL nums) := Lib.hid (by rw [List.take_of_length_le (by rw [HN.out]; exact Nat.le_refl _)])
   rw [hz.out] at hul ⊢
   by_cases h3 : kind = 3
   · have h3' : (kind == 3) = true := by simpa using h3
     have HU := Lib.hid (HU1.out h3)
     have h5 := vbytes_len4 (data.size : Int)
     have hg0 : (0 : Int) ≤ (data.size : Int) := by omega
     have hg1 : (data.size : Int) ≤ 1073741823 := by omega
     clear h3
     obtain ⟨U, hU⟩ : ∃ U, byteOf kind :: allL nums = U := ⟨_, rfl⟩
     have hUl : U.length ≤ 9 := by rw [← hU]; simp; omega
     have hov : U.length + (vbytes (data.size : Int)).length ≤ 9223372036854775807 := by omega
     have hov2 : U.length + (vbytes (data.size : Int)).length + data.size ≤ 9223372036854775807 := by omega
     have HUU := Lib.hid hU
     rw [hU]
     clear hU
     go_wp2_with fail
     refine (rbytes_any (data.size : Int) hg0 hg1 _).mono ?_
     rintro e w5 ⟨rfl, hb5⟩
     have hs5 := hs.later hb5
     have c5 : w5.cell? ⟨w.heap.size, 2, none⟩ = some (.string data) := (HBR.out.later hb5).cell 2
     have l5 := (HBR.out.later hb5).lt
     clear hb5 b0 b1 b2 fb
     go_wp2_with fail
     go_ret
     refine ⟨?_, hs5⟩
     rw [HU.out]
     refine congrArg (fun x => Ending.returned (Value.string x)) ?_
     rw [show byteOf kind :: (allL nums ++ (vbytes (data.size : Int) ++ data.data.toList)) = U ++ vbytes (data.size : Int) ++ data.data.toList by rw [← HUU.out]; simp]
     apply ByteArray.ext; simp
   · have h3' : (kind == 3) = false := by simpa using h3
     have HU := Lib.hid (H3.out h3)
     clear h3
     go_wp2_with fail
     go_ret
     exact ⟨by rw [HU.out]; rfl, hs⟩
  have hlt' : (i : Int) < (n : Int) := by omega
  obtain ⟨ba, off, rfl, hla, hca⟩ := HA2.out (by intro hh; have := HN.out; rw [hh] at this; simp at this; omega)
  have ci : wr.cell? ⟨ba, off + i, none⟩ = some (.int .i64 (ith nums i)) := hs.cell hla (hca i (by rw [HN.out]; exact hlt))
  have la : ba < wr.heap.size := Nat.lt_of_lt_of_le hla hs.le
  have hmi : MayBe (ith nums i) := HM.out _ (by unfold ith; rw [List.getD, List.getElem?_eq_getElem (by rw [HN.out]; exact hlt)]; exact List.getElem_mem _)
  have HT : Hid (byteOf kind :: allL (nums.take (i + 1)) = (byteOf kind :: allL (nums.take i)) ++ vbytes (ith nums i)) := Lib.hid (by
   rw [List.take_succ_eq_append_getElem (by rw [HN.out]; exact hlt), allL_snoc, show nums[i]'(by rw [HN.out]; exact hlt) = ith nums i by unfold ith; simp [List.getD, List.getElem?_eq_getElem (show i < nums.length by rw [HN.out]; exact hlt)]]
   rfl)
  obtain ⟨m0, m1⟩ := hmi
  have h4 := vbytes_len4 (ith nums i)
  obtain ⟨U, hU⟩ : ∃ U, byteOf kind :: allL (nums.take i) = U := ⟨_, rfl⟩
  have hUl : U.length ≤ 9 := by rw [← hU]; simp; omega
  rw [hU] at HT ⊢
  clear hU hca
  generalize ith nums i = x at *
  have hov : U.length + (vbytes x).length ≤ 9223372036854775807 := by omega
  go_wp2_with fail
  refine (rbytes_any x m0 m1 _).mono ?_
  rintro e w5 ⟨rfl, hb5⟩
  have hs5 := hs.later hb5
  have HB5 := Lib.hid (HBR.out.later hb5)
  clear hb5 b0 b1 b2 fb
  go_wp2_with fail
  go_roundw
  case rel => exact ⟨i + 1, by go_num, by omega, by rw [HT.out, ← bapp], HB5, hs5⟩
  case measure => simp [intOf]; omega
def getB (l : List UInt8) : Bool := decide (getOk l)
abbrev getRR (s : ByteArray) : Value := .tuple #[.int .i64 (getV s.data.toList), .int .i64 (getK s.data.toList), .bool (getB s.data.toList)]
theorem rget_no {s : ByteArray} (h : ¬ getOk s.data.toList) : Hid (getRR s = .tuple #[.int .i64 0, .int .i64 0, .bool false]) := Lib.hid (by
 unfold getRR getV getK getB
 rw [if_neg h, if_neg h, decide_eq_false h])
theorem rget_yes {s : ByteArray} {n : Int} {c : Nat} (h : getOk s.data.toList) (hn : getN s.data.toList = n) (hc : getC s.data.toList = c) : Hid (getRR s = .tuple #[.int .i64 n, .int .i64 c, .bool true]) := Lib.hid (by
 unfold getRR getV getK getB
 rw [if_pos h, if_pos h, decide_eq_true h, hn, hc])
theorem rget_empty (s : ByteArray) (h0 : s.size = 0) (w : World) :
  Calls Tryz.prog 138 #[.string s] w fun e w' => e = .returned (getRR s) ∧ w = w' := by
 have hl : s.data.toList = [] := by
  have : s.data.toList.length = s.size := Array.length_toList
  cases hl : s.data.toList with
  | nil => rfl
  | cons x l => rw [hl, h0] at this; cases this
 have N := rget_no (s := s) (by rw [hl]; exact fun h => h.1 rfl)
 have ne : s.toList = [] := by rw [ByteArray.toList_eq]; exact hl
 have ne2 : s.toList.isEmpty = true := by rw [ne]; rfl
 clear hl
 go_enter Tryz.func138, Tryz.ntmps138
 go_wp2_with fail
 go_ret3
 exact ⟨by rw [N.out]; rfl, rfl⟩
theorem rget_high (s : ByteArray) (h0 : 0 < s.size) (x0 : Int) (e0 : (s[0].toNat : Int) = x0) (b0 : bat s.data.toList 0 = x0) (a1 : x0 < 256) (a : 192 ≤ x0) (w : World) :
  Calls Tryz.prog 138 #[.string s] w fun e w' => e = .returned (getRR s) ∧ w = w' := by
 have N := rget_no (s := s) (fun h => by have := h.2.1; omega)
 have ne := str_ne h0
 have ne2 : ¬ s.toList = [] := by intro he; rw [he] at ne; cases ne
 clear b0
 go_enter Tryz.func138, Tryz.ntmps138
 go_wp2_with fail
 go_ret3
 exact ⟨by rw [N.out]; rfl, rfl⟩
theorem rget_k0 (s : ByteArray) (hz : s.size ≤ 9223372036854775807) (h0 : 0 < s.size) (hsz : 0 < s.size) (x0 : Int) (e0 : (s[0].toNat : Int) = x0) (b0 : bat s.data.toList 0 = x0) (a0 : 0 ≤ x0) (a1 : x0 < 64) (w : World) :
  Calls Tryz.prog 138 #[.string s] w fun e w' => e = .returned (getRR s) ∧ w = w' := by
 have hc : getC s.data.toList = 1 := by unfold getC; rw [b0, if_pos (by omega)]
 have hn : getN s.data.toList = x0 := by unfold getN; rw [b0, if_pos (by omega)]
 obtain ⟨n, hnn⟩ : ∃ n : Int, x0 % 64 = n := ⟨_, rfl⟩
 have hn2 : getN s.data.toList = n := by rw [hn]; omega
 have hlen : s.data.toList.length = s.size := Array.length_toList
 have hne : s.data.toList ≠ [] := by intro he; rw [he] at hlen; simp at hlen; omega
 have ne := str_ne (s := s) (by omega)
 have ne2 : ¬ s.toList = [] := by intro he; rw [he] at ne; cases ne
 have h3 : decide ((s.size : Int) < 1) = false := by simp; omega
 have t1 : decide (192 ≤ x0) = false := by simp; omega
 have HNN := Lib.hid hnn
 by_cases hq : longN n = 1
 · have V := rget_yes (s := s) ⟨hne, by omega, by omega, by rw [hn2, hc]; exact hq⟩ hn2 hc
   have HQ := Lib.hid hq
   clear hq hn hn2 hc hnn hne hlen b0
   go_enter Tryz.func138, Tryz.ntmps138
   go_wp2_with fail
   refine wp_loop_rounds 1 ?_
   rw [rounds_succ]
   go_wp2_with (go_at_call 117; rw [HNN.out]; refine (rlong_any n _).mono ?_; rintro e w1 ⟨rfl, rfl⟩; rw [HQ.out])
   go_ret3
   exact ⟨by rw [V.out]; rfl, rfl⟩
 · have N := rget_no (s := s) (fun h => hq (by have := h.2.2.2; rw [hn2, hc] at this; exact this))
   have HQ : (longN n == 1) = false := beq_eq_false_iff_ne.2 hq
   clear hq hn hn2 hc hnn hne hlen b0
   go_enter Tryz.func138, Tryz.ntmps138
   go_wp2_with fail
   refine wp_loop_rounds 1 ?_
   rw [rounds_succ]
   go_wp2_with (go_at_call 117; rw [HNN.out]; refine (rlong_any n _).mono ?_; rintro e w1 ⟨rfl, rfl⟩)
   go_ret3
   exact ⟨by rw [N.out]; rfl, rfl⟩
theorem rget_short1 (s : ByteArray) (h0 : 0 < s.size) (hs : s.size < 2) (x0 : Int) (e0 : (s[0].toNat : Int) = x0) (b0 : bat s.data.toList 0 = x0) (a0 : 64 ≤ x0) (a1 : x0 < 128) (w : World) :
  Calls Tryz.prog 138 #[.string s] w fun e w' => e = .returned (getRR s) ∧ w = w' := by
 have N := rget_no (s := s) (fun h => by
  have h3 := h.2.2.1
  rw [show s.data.toList.length = s.size from Array.length_toList] at h3
  have hc : getC s.data.toList = 2 := by unfold getC; rw [b0, if_neg (by omega), if_pos (by omega)]
  omega)
 have ne := str_ne h0
 have ne2 : ¬ s.toList = [] := by intro he; rw [he] at ne; cases ne
 have h3 : (s.size : Int) < 2 := by omega
 have t1 : decide (192 ≤ x0) = false := by simp; omega
 clear b0
 go_enter Tryz.func138, Tryz.ntmps138
 go_wp2_with fail
 go_ret3
 exact ⟨by rw [N.out]; rfl, rfl⟩
theorem rget_k1 (s : ByteArray) (hz : s.size ≤ 9223372036854775807) (h0 : 0 < s.size) (h1 : 1 < s.size) (hsz : 1 < s.size) (x0 x1 : Int) (e0 : (s[0].toNat : Int) = x0) (b0 : bat s.data.toList 0 = x0) (e1 : (s[1].toNat : Int) = x1) (b1 : bat s.data.toList 1 = x1) (a0 : 64 ≤ x0) (a1 : x0 < 128) (p1 : 0 ≤ x1) (q1 : x1 < 256) (w : World) :
  Calls Tryz.prog 138 #[.string s] w fun e w' => e = .returned (getRR s) ∧ w = w' := by
 have hc : getC s.data.toList = 2 := by unfold getC; rw [b0, if_neg (by omega), if_pos (by omega)]
 have hn : getN s.data.toList = (x0 - 64) * 256 + x1 := by unfold getN; rw [b0, if_neg (by omega), if_pos (by omega), b1]
 obtain ⟨n, hnn⟩ : ∃ n : Int, 256 * (x0 % 64) + x1 = n := ⟨_, rfl⟩
 have hn2 : getN s.data.toList = n := by rw [hn]; omega
 have hlen : s.data.toList.length = s.size := Array.length_toList
 have hne : s.data.toList ≠ [] := by intro he; rw [he] at hlen; simp at hlen; omega
 have ne := str_ne (s := s) (by omega)
 have ne2 : ¬ s.toList = [] := by intro he; rw [he] at ne; cases ne
 have h3 : decide ((s.size : Int) < 2) = false := by simp; omega
 have t1 : decide (192 ≤ x0) = false := by simp; omega
 have HNN := Lib.hid hnn
 by_cases hq : longN n = 2
 · have V := rget_yes (s := s) ⟨hne, by omega, by omega, by rw [hn2, hc]; exact hq⟩ hn2 hc
   have HQ := Lib.hid hq
   clear hq hn hn2 hc hnn hne hlen b0 b1
   go_enter Tryz.func138, Tryz.ntmps138
   go_wp2_with fail
   refine wp_loop_rounds 2 ?_
   rw [rounds_succ]
   go_wp2_with fail
   rw [rounds_succ]
   go_wp2_with (go_at_call 117; rw [HNN.out]; refine (rlong_any n _).mono ?_; rintro e w1 ⟨rfl, rfl⟩; rw [HQ.out])
   go_ret3
   exact ⟨by rw [V.out]; rfl, rfl⟩
 · have N := rget_no (s := s) (fun h => hq (by have := h.2.2.2; rw [hn2, hc] at this; exact this))
   have HQ : (longN n == 2) = false := beq_eq_false_iff_ne.2 hq
   clear hq hn hn2 hc hnn hne hlen b0 b1
   go_enter Tryz.func138, Tryz.ntmps138
   go_wp2_with fail
   refine wp_loop_rounds 2 ?_
   rw [rounds_succ]
   go_wp2_with fail
   rw [rounds_succ]
   go_wp2_with (go_at_call 117; rw [HNN.out]; refine (rlong_any n _).mono ?_; rintro e w1 ⟨rfl, rfl⟩)
   go_ret3
   exact ⟨by rw [N.out]; rfl, rfl⟩
theorem rget_short2 (s : ByteArray) (h0 : 0 < s.size) (hs : s.size < 4) (x0 : Int) (e0 : (s[0].toNat : Int) = x0) (b0 : bat s.data.toList 0 = x0) (a0 : 128 ≤ x0) (a1 : x0 < 192) (w : World) :
  Calls Tryz.prog 138 #[.string s] w fun e w' => e = .returned (getRR s) ∧ w = w' := by
 have N := rget_no (s := s) (fun h => by
  have h3 := h.2.2.1
  rw [show s.data.toList.length = s.size from Array.length_toList] at h3
  have hc : getC s.data.toList = 4 := by unfold getC; rw [b0, if_neg (by omega), if_neg (by omega)]
  omega)
 have ne := str_ne h0
 have ne2 : ¬ s.toList = [] := by intro he; rw [he] at ne; cases ne
 have h3 : (s.size : Int) < 4 := by omega
 have t1 : decide (192 ≤ x0) = false := by simp; omega
 clear b0
 go_enter Tryz.func138, Tryz.ntmps138
 go_wp2_with fail
 go_ret3
 exact ⟨by rw [N.out]; rfl, rfl⟩
theorem rget_k2 (s : ByteArray) (hz : s.size ≤ 9223372036854775807) (h0 : 0 < s.size) (h1 : 1 < s.size) (h2 : 2 < s.size) (h3 : 3 < s.size) (hsz : 3 < s.size) (x0 x1 x2 x3 : Int) (e0 : (s[0].toNat : Int) = x0) (b0 : bat s.data.toList 0 = x0) (e1 : (s[1].toNat : Int) = x1) (b1 : bat s.data.toList 1 = x1) (e2 : (s[2].toNat : Int) = x2) (b2 : bat s.data.toList 2 = x2) (e3 : (s[3].toNat : Int) = x3) (b3 : bat s.data.toList 3 = x3) (a0 : 128 ≤ x0) (a1 : x0 < 192) (p1 : 0 ≤ x1) (q1 : x1 < 256) (p2 : 0 ≤ x2) (q2 : x2 < 256) (p3 : 0 ≤ x3) (q3 : x3 < 256) (w : World) :
  Calls Tryz.prog 138 #[.string s] w fun e w' => e = .returned (getRR s) ∧ w = w' := by
 have hc : getC s.data.toList = 4 := by unfold getC; rw [b0, if_neg (by omega), if_neg (by omega)]
 have hn : getN s.data.toList = (((x0 - 128) * 256 + x1) * 256 + x2) * 256 + x3 := by unfold getN; rw [b0, if_neg (by omega), if_neg (by omega), b1, b2, b3]
 obtain ⟨n, hnn⟩ : ∃ n : Int, 256 * (256 * (256 * (x0 % 64) + x1) + x2) + x3 = n := ⟨_, rfl⟩
 have hn2 : getN s.data.toList = n := by rw [hn]; omega
 have hlen : s.data.toList.length = s.size := Array.length_toList
 have hne : s.data.toList ≠ [] := by intro he; rw [he] at hlen; simp at hlen; omega
 have ne := str_ne (s := s) (by omega)
 have ne2 : ¬ s.toList = [] := by intro he; rw [he] at ne; cases ne
 have h3 : decide ((s.size : Int) < 4) = false := by simp; omega
 have t1 : decide (192 ≤ x0) = false := by simp; omega
 have HNN := Lib.hid hnn
 by_cases hq : longN n = 4
 · have V := rget_yes (s := s) ⟨hne, by omega, by omega, by rw [hn2, hc]; exact hq⟩ hn2 hc
   have HQ := Lib.hid hq
   clear hq hn hn2 hc hnn hne hlen b0 b1 b2 b3
   go_enter Tryz.func138, Tryz.ntmps138
   go_wp2_with fail
   refine wp_loop_rounds 4 ?_
   rw [rounds_succ]
   go_wp2_with fail
   rw [rounds_succ]
   go_wp2_with fail
   rw [rounds_succ]
   go_wp2_with fail
   rw [rounds_succ]
   go_wp2_with (go_at_call 117; rw [HNN.out]; refine (rlong_any n _).mono ?_; rintro e w1 ⟨rfl, rfl⟩; rw [HQ.out])
   go_ret3
   exact ⟨by rw [V.out]; rfl, rfl⟩
 · have N := rget_no (s := s) (fun h => hq (by have := h.2.2.2; rw [hn2, hc] at this; exact this))
   have HQ : (longN n == 4) = false := beq_eq_false_iff_ne.2 hq
   clear hq hn hn2 hc hnn hne hlen b0 b1 b2 b3
   go_enter Tryz.func138, Tryz.ntmps138
   go_wp2_with fail
   refine wp_loop_rounds 4 ?_
   rw [rounds_succ]
   go_wp2_with fail
   rw [rounds_succ]
   go_wp2_with fail
   rw [rounds_succ]
   go_wp2_with fail
   rw [rounds_succ]
   go_wp2_with (go_at_call 117; rw [HNN.out]; refine (rlong_any n _).mono ?_; rintro e w1 ⟨rfl, rfl⟩)
   go_ret3
   exact ⟨by rw [N.out]; rfl, rfl⟩
theorem rget_any (s : ByteArray) (hz : s.size ≤ 9223372036854775807) (w : World) :
  Calls Tryz.prog 138 #[.string s] w fun e w' => e = .returned (getRR s) ∧ w = w' := by
 rcases Nat.eq_zero_or_pos s.size with h | h
 · exact rget_empty s h w
 have e0 := str_at s 0 h
 obtain ⟨p0, q0⟩ := bat_bounds s.data.toList 0
 by_cases c0 : 192 ≤ bat s.data.toList 0
 · exact rget_high s h _ e0 rfl q0 c0 w
 by_cases c1 : bat s.data.toList 0 < 64
 · exact rget_k0 s hz h h _ e0 rfl p0 c1 w
 by_cases c2 : bat s.data.toList 0 < 128
 · by_cases h1 : 1 < s.size
   · obtain ⟨p1, q1⟩ := bat_bounds s.data.toList 1
     exact rget_k1 s hz h h1 h1 _ _ e0 rfl (str_at s 1 h1) rfl (by omega) c2 p1 q1 w
   · exact rget_short1 s h (by omega) _ e0 rfl (by omega) c2 w
 · by_cases h3 : 3 < s.size
   · obtain ⟨p1, q1⟩ := bat_bounds s.data.toList 1
     obtain ⟨p2, q2⟩ := bat_bounds s.data.toList 2
     obtain ⟨p3, q3⟩ := bat_bounds s.data.toList 3
     exact rget_k2 s hz h (by omega) (by omega) h3 h3 _ _ _ _ e0 rfl (str_at s 1 (by omega)) rfl (str_at s 2 (by omega)) rfl (str_at s 3 h3) rfl (by omega) (by omega) p1 q1 p2 q2 p3 q3 w
   · exact rget_short2 s h (by omega) _ e0 rfl (by omega) (by omega) w
theorem rget0 (s : ByteArray) (hz : s.size ≤ 9223372036854775807) (w : World) :
  Calls Tryz.prog 138 #[.string s] w fun e w' => e = .returned (.tuple #[.int .i64 (getV s.data.toList), .int .i64 (kN s.data.toList : Nat), .bool (gok s.data.toList)]) ∧ w = w' := by
 refine (rget_any s hz w).mono fun e w' ⟨h1, h2⟩ => ⟨?_, h2⟩
 rw [h1]; unfold getRR; rw [kN_eq]; rfl
theorem rgetD (s : ByteArray) (k : Nat) (hz : s.size ≤ 9223372036854775807) (w : World) :
  Calls Tryz.prog 138 #[.string (s.extract k s.size)] w fun e w' => e = .returned (.tuple #[.int .i64 (getV (s.data.toList.drop k)), .int .i64 (kN (s.data.toList.drop k) : Nat), .bool (gok (s.data.toList.drop k))]) ∧ w = w' := by
 have := rget0 (s.extract k s.size) (Nat.le_trans (str_drop_size s k) hz) w
 rw [str_drop] at this
 exact this
structure RrSt (w wr : World) (b : List UInt8) (i k : Nat) (h : Int) (A : Option Addr) (cap : Nat) (M : List Rng) : Prop where
 ls : Lst wr 101 2 (.slice A i cap) (M.map rngRow)
 new : ∀ q, q ∈ blocks (.slice A 0 0) → w.heap.size ≤ q
 since : Since w wr
 len : M.length = i
 le : k ≤ b.length
 up : rdUp b (getV b) (hdK b) i = some (M, k)
 hi0 : i = 0 → h = getV b
 hib : -1073741826 ≤ h ∧ h ≤ 1073741823
 each : ∀ r ∈ M, 0 ≤ r.lo ∧ r.lo ≤ 1073741823
theorem raread (s : ByteArray) (w : World) (hz : s.size ≤ 9223372036854775807) :
  Calls Tryz.prog 137 #[.string s] w fun e w' => ∃ (A : Option Addr) (cap k : Nat) (ok : Bool) (M : List Rng), e = .returned (.tuple #[.slice A M.length cap, .int .i64 k, .bool ok]) ∧ Lst w' 101 2 (.slice A M.length cap) (M.map rngRow) ∧ M.length ≤ 12 ∧ Below w.heap.size w w' ∧ (∀ q, q ∈ blocks (.slice A 0 0) → w.heap.size ≤ q) ∧ readA s.data.toList = if ok = true then some (M, k) else none := by
 have G0 := Lib.hid (fun w => rget0 s hz w)
 have GD := Lib.hid (fun k w => rgetD s k hz w)
 have hsz : s.data.toList.length = s.size := rfl
 have HZ := Lib.hid hz
 obtain ⟨b, hb⟩ : ∃ b, s.data.toList = b := ⟨_, rfl⟩
 rw [hb] at G0 GD hsz ⊢
 have HBL := Lib.hid hsz
 clear hz hb
 have hk0 : kN b ≤ b.length := by have := kN_le b (Nat.zero_le _); simpa using this
 have hk1 : hdK b ≤ b.length := kN_le b hk0
 have hkk : (kN b : Int) + (kN (b.drop (kN b)) : Int) = (hdK b : Int) := by unfold hdK; omega
 have HRB := Lib.hid (fun h => readA_bad (b := b) h)
 have HRM := Lib.hid (fun h => readA_many (b := b) h)
 have HH : Hid (hdOk b = (gok b && gok (b.drop (kN b)))) := Lib.hid rfl
 have HM : Hid (getV (b.drop (kN b)) = hdM b) := Lib.hid rfl
 have hm := bits_getN (b.drop (kN b))
 rw [HM.out] at hm
 have HV0 := Lib.hid (bits_getN b)
 obtain ⟨m0, m1⟩ := hm
 have hk0' : (kN b : Int) ≤ (s.size : Int) := by omega
 rw [hsz] at hk0 hk1
 have hk1' : hdK b ≤ 9223372036854775807 := Nat.le_trans hk1 HZ.out
 clear hsz
 cases g0 : gok b with
 | false =>
   have HR := Lib.hid (HRB.out (by rw [HH.out, g0]; rfl))
   have GG0 := Lib.hid g0
   clear g0
   go_enter Tryz.func137, Tryz.ntmps137
   go_wp2_with fail
   refine (G0.out _).mono ?_
   rintro e w1 ⟨rfl, rfl⟩
   rw [GG0.out]
   go_wp2_with fail
   go_ret3
   exact ⟨none, 0, 0, false, [], rfl, Lst.nil _ _ _, by simp, Below.refl _ _, by simp [Value.ownBlock], by rw [HR.out]; rfl⟩
 | true =>
   have GG0 := Lib.hid g0
   clear g0
   cases g1 : gok (b.drop (kN b)) with
   | false =>
     have HR := Lib.hid (HRB.out (by rw [HH.out, g1, Bool.and_false]))
     have GG1 := Lib.hid g1
     clear g1
     go_enter Tryz.func137, Tryz.ntmps137
     go_wp2_with fail
     refine (G0.out _).mono ?_
     rintro e w1 ⟨rfl, rfl⟩
     rw [GG0.out]
     go_wp2_with fail
     refine (GD.out (kN b) _).mono ?_
     rintro e w1 ⟨rfl, rfl⟩
     rw [GG1.out]
     go_wp2_with fail
     go_ret3
     exact ⟨none, 0, 0, false, [], rfl, Lst.nil _ _ _, by simp, Below.refl _ _, by simp [Value.ownBlock], by rw [HR.out]; rfl⟩
   | true =>
     have HOK := Lib.hid (show hdOk b = true by rw [HH.out, GG0.out, g1]; rfl)
     have GG1 := Lib.hid g1
     clear g1
     by_cases hmany : 12 ≤ hdM b
     · have HR := Lib.hid (HRM.out hmany)
       go_enter Tryz.func137, Tryz.ntmps137
       go_wp2_with fail
       refine (G0.out _).mono ?_
       rintro e w1 ⟨rfl, rfl⟩
       rw [GG0.out]
       go_wp2_with fail
       refine (GD.out (kN b) _).mono ?_
       rintro e w1 ⟨rfl, rfl⟩
       rw [GG1.out, HM.out]
       go_wp2_with fail
       go_ret3
       exact ⟨none, 0, 0, false, [], rfl, Lst.nil _ _ _, by simp, Below.refl _ _, by simp [Value.ownBlock], by rw [HR.out]; rfl⟩
     have hmany' : decide (12 ≤ hdM b) = false := by simpa using hmany
     have hm12 : hdM b ≤ 11 := by omega
     clear hmany
     have HST : Hid (RrSt w w b 0 (hdK b) (getV b) none 0 []) := Lib.hid
      { ls := Lst.nil _ _ _, new := by simp [Value.ownBlock], since := Since.refl _, len := rfl, le := by rw [HBL.out]; exact hk1
        up := rfl, hi0 := fun _ => rfl, hib := by have := HV0.out; omega, each := by simp }
     have HEND := Lib.hid (fun (i : Nat) (M : List Rng) (k : Nat) h1 h2 h3 => readA_end (b := b) (i := i) (M := M) (k := k) h1 HOK.out h2 h3)
     have HUP := Lib.hid (fun (i : Nat) h1 h2 => readA_up (b := b) (i := i) h1 h2)
     go_enter Tryz.func137, Tryz.ntmps137
     go_wp2_with fail
     refine (G0.out _).mono ?_
     rintro e w1 ⟨rfl, rfl⟩
     rw [GG0.out]
     go_wp2_with fail
     refine (GD.out (kN b) _).mono ?_
     rintro e w1 ⟨rfl, rfl⟩
     rw [GG1.out, HM.out]
     go_wp2_with fail
     go_loopw [5, 6, 10, 11] (fun s5 s6 s10 s11 wr => ∃ (i k : Nat) (h : Int) (A : Option Addr) (cap : Nat) (M : List Rng), s5 = .int .i64 h ∧ s6 = .int .i64 k ∧ s10 = .slice A i cap ∧ s11 = .int .i64 i ∧ (i : Int) ≤ hdM b + 1 ∧ RrSt w wr b i k h A cap M) (fun _ _ _ s11 _ => (hdM b + 1).toNat - (intOf s11).toNat)
     case atStart => exact ⟨0, hdK b, getV b, none, 0, [], rfl, rfl, rfl, rfl, by omega, HST.out⟩
     case round =>
      clear hkk hk0 hk1 hk0' hk1'
      obtain ⟨i, k, h, A, cap, M, rfl, rfl, rfl, rfl, hup, hS⟩ := hrel
      have HS := Lib.hid hS
      have hs := hS.since
      obtain ⟨h1, h2⟩ := hS.hib
      have HLN := Lib.hid hS.len
      have hkl : k ≤ s.size := by rw [← HBL.out]; exact hS.le
      clear hS
      by_cases hle : (i : Int) ≤ hdM b
      case neg =>
       have HE := Lib.hid (HEND.out i M k HS.out.up (by omega) (by omega))
       have hle' : decide ((i : Int) ≤ hdM b) = false := by simpa using hle
       clear hle
       go_wp2_with fail
       go_ret3
       exact ⟨A, cap, k, true, M, by rw [HLN.out]; rfl, by rw [HLN.out]; exact HS.out.ls, by rw [HLN.out]; omega, hs, HS.out.new, by rw [HE.out]; rfl⟩
      have HNH0 : Hid (i = 0 → h = nH b (getV b) i M k ∧ k = nK b i k ∧ nG b i k = true) := Lib.hid (fun h0 => ⟨by rw [HS.out.hi0 h0]; unfold nH; rw [if_pos h0], by unfold nK; rw [if_pos h0], by unfold nG; rw [if_pos h0]⟩)
      have HNH1 : Hid (0 < i → (rat M (i - 1)).lo - 2 - getV (b.drop k) = nH b (getV b) i M k ∧ k + kN (b.drop k) = nK b i k ∧ gok (b.drop k) = nG b i k) := Lib.hid (fun h0 => ⟨by unfold nH; rw [if_neg (by omega)], by unfold nK; rw [if_neg (by omega)], by unfold nG; rw [if_neg (by omega)]⟩)
      have HNB : Hid (0 < i → 0 ≤ (rat M (i - 1)).lo ∧ (rat M (i - 1)).lo ≤ 1073741823) := Lib.hid (fun h0 => by rw [rat_get (by rw [HLN.out]; omega)]; exact HS.out.each _ (List.getElem_mem _))
      have HAI : Hid (0 < i → ∃ q, A = some ⟨q, 0, none⟩) := Lib.hid (fun h0 => by
       obtain ⟨A', cap', hv, _, _, hA⟩ := HS.out.ls.shape
       simp only [Value.slice.injEq] at hv
       obtain ⟨rfl, _⟩ := hv
       rcases hA with ⟨_, h1, _⟩ | hq
       · have := congrArg List.length h1; rw [List.length_map, HLN.out] at this; simp at this; omega
       · exact hq)
      have HSO := Lib.hid (fun (hn : ¬ (nG b i k = true ∧ gok (b.drop (nK b i k)) = true ∧ 0 ≤ nH b (getV b) i M k - getV (b.drop (nK b i k)))) => HUP.out (i + 1) (step_no HS.out.up hn) (by omega))
      have HSY := Lib.hid (fun h1 h2 h3 => step_ok (M := M) HS.out.up h1 h2 h3)
      have hkn2 : nK b i k ≤ s.size := by
       rcases Nat.eq_zero_or_pos i with h0 | h0
       · rw [← (HNH0.out h0).2.1]; exact hkl
       · rw [← (HNH1.out h0).2.1, ← HBL.out]; exact kN_le b HS.out.le
      have hkl' : (k : Int) ≤ (s.size : Int) := by omega
      have hzz := HZ.out
      have HML : Hid ((M.map rngRow).length = i) := Lib.hid (by rw [List.length_map, HLN.out])
      cases hgap : nG b i k with
      | false =>
        have hip : 0 < i := by
         rcases Nat.eq_zero_or_pos i with h0 | h0
         · have := (HNH0.out h0).2.2; rw [hgap] at this; cases this
         · exact h0
        have hip' : (0 : Int) < (i : Int) := by omega
        have hg := (HNH1.out hip).2.2
        rw [hgap] at hg
        have HG := Lib.hid hg
        have HR := Lib.hid (HSO.out (fun h => by rw [hgap] at h; cases h.1))
        clear hg hgap hkn2
        go_wp2_with fail
        refine (GD.out k _).mono ?_
        rintro e w1 ⟨rfl, rfl⟩
        rw [HG.out]
        go_wp2_with fail
        go_ret3
        exact ⟨none, 0, 0, false, [], rfl, Lst.nil _ _ _, by simp, hs, by simp [Value.ownBlock], by rw [HR.out]; rfl⟩
      | true =>
        have HGAP := Lib.hid hgap
        clear hgap
        have hbd : -1073741826 ≤ nH b (getV b) i M k ∧ nH b (getV b) i M k ≤ 1073741823 := by
         rcases Nat.eq_zero_or_pos i with h0 | h0
         · rw [← (HNH0.out h0).1]; exact ⟨h1, h2⟩
         · have a1 := HNB.out h0
           have a2 := bits_getN (b.drop k)
           rw [← (HNH1.out h0).1]
           omega
        obtain ⟨b1, b2⟩ := hbd
        have hkn2' : (nK b i k : Int) ≤ (s.size : Int) := by omega
        by_cases hi0 : i = 0
        case' pos =>
         obtain ⟨q1, q2, q3⟩ := HNH0.out hi0
         have hi0' : decide (0 < i) = false := by simp; omega
         generalize nH b (getV b) i M k = hh at *
         generalize nK b i k = k1 at *
         obtain rfl : hh = h := q1.symm
         obtain rfl : k1 = k := q2.symm
         clear q1 q2 q3 HNH0 HNH1 HNB HAI hi0
         go_wp2_with fail
        case' neg =>
         have hip : 0 < i := by omega
         have hip' : (0 : Int) < (i : Int) := by omega
         obtain ⟨q1, q2, q3⟩ := HNH1.out hip
         obtain ⟨l0, l1⟩ := HNB.out hip
         obtain ⟨q, rfl⟩ := HAI.out hip
         have dq : wr.cell? ⟨q, (i - 1) * 2, none⟩ = some (.int .i64 (rat M (i - 1)).lo) := by
          have := HS.out.ls.cell rfl (elem_of_rng (L := M) (i := i - 1) (by rw [HLN.out]; omega)) (j := 0) rfl
          rw [rat_get (by rw [HLN.out]; omega)]
          simpa using this
         have hi1 : (i : Int) - 1 = ((i - 1 : Nat) : Int) := by omega
         have hi3 : ((i - 1 : Nat) : Int) < (i : Int) := by omega
         obtain ⟨v0, v1⟩ := bits_getN (b.drop k)
         have lq : q < wr.heap.size := HS.out.ls.lt q (by simp [Value.ownBlock])
         rw [HGAP.out] at q3
         have Q3 := Lib.hid q3
         have hk1 : (k : Int) + (kN (b.drop k) : Int) = (nK b i k : Int) := by omega
         clear HNH0 HNH1 HNB HAI q2 q3 hi0
         have GDk := Lib.hid (GD.out k)
         generalize (rat M (i - 1)).lo = pl at *
         generalize getV (b.drop k) = V at *
         generalize kN (b.drop k) = kk at *
         generalize nH b (getV b) i M k = hh at *
         generalize nK b i k = k1 at *
         go_wp2_with fail
         refine (GDk.out _).mono ?_
         rintro e w1 ⟨rfl, rfl⟩
         rw [Q3.out]
         go_wp2_with fail
         skip
        all_goals
         have GD1 := Lib.hid (GD.out k1)
         obtain ⟨v2, v3⟩ := bits_getN (b.drop k1)
         have hkn := kN_le b (k := k1) (by rw [HBL.out]; exact hkn2)
         rw [HBL.out] at hkn
         have hk2 : (k1 : Int) + (kN (b.drop k1) : Int) = ((k1 + kN (b.drop k1) : Nat) : Int) := by omega
         generalize getV (b.drop k1) = V2 at *
         generalize kN (b.drop k1) = K2 at *
         obtain ⟨k3, hk3⟩ : ∃ k3, k1 + K2 = k3 := ⟨_, rfl⟩
         rw [hk3] at hk2 hkn HSY
         clear hk3
         refine (GD1.out _).mono ?_
         rintro e w1 ⟨rfl, rfl⟩
         cases hg2 : gok (b.drop k1) with
         | false =>
           have HR := Lib.hid (HSO.out (fun h => by rw [hg2] at h; cases h.2.1))
           clear hg2
           go_wp2_with fail
           go_ret3
           exact ⟨none, 0, 0, false, [], rfl, Lst.nil _ _ _, by simp, hs, by simp [Value.ownBlock], by rw [HR.out]; rfl⟩
         | true =>
           by_cases hlo : hh - V2 < 0
           · have HR := Lib.hid (HSO.out (fun h => by omega))
             clear hg2
             go_wp2_with fail
             go_ret3
             exact ⟨none, 0, 0, false, [], rfl, Lst.nil _ _ _, by simp, hs, by simp [Value.ownBlock], by rw [HR.out]; rfl⟩
           have hlo' : decide (hh - V2 < 0) = false := by simpa using hlo
           have HNX := Lib.hid (HSY.out HGAP.out hg2 (by omega))
           clear hg2 HSO HSY
           go_wp2_with (at_builtin; refine wpList_push rfl _ _ 44 rfl 101 2 16 Tryz.elRange2 (.slice _ i cap) (M.map rngRow) rfl (HS.out.ls.alloc _) wr.heap.size 1 [.int .i64 (hh - V2), .int .i64 hh] rfl rfl (rngRow_one ⟨hh - V2, hh⟩).2 (BlockIs.fresh _ _ _) (by rw [HML.out]; omega) ?_; intro q9 cq w5 hl5 ho5 hq5 hlt5)
           rw [HML.out] at hl5
           have hs5 : Since w w5 := (hs.alloc _).out' ho5 (fun k hk => HS.out.new k (by rw [blocks_any _ 0 0 i cap]; exact hk))
           have hqn : w.heap.size ≤ q9 := by
            rcases hq5 with h | h
            · exact HS.out.new q9 (by rw [blocks_any _ 0 0 i cap]; exact h)
            · rw [h]; have := hs.le; simp; omega
           have HST2 : Hid (RrSt w w5 b (i + 1) k3 hh (some ⟨q9, 0, none⟩) cq (M ++ [⟨hh - V2, hh⟩])) := Lib.hid
            { ls := by rw [List.map_append]; exact hl5
              new := fun k hk => by have : q9 = k := by simpa [Value.ownBlock] using hk
                                    omega
              since := hs5, len := by rw [List.length_append, HLN.out]; rfl
              le := by rw [HBL.out]; exact hkn
              up := HNX.out
              hi0 := fun h => by omega
              hib := ⟨b1, b2⟩
              each := fun r hr => by
               rcases List.mem_append.1 hr with hr | hr
               · exact HS.out.each r hr
               · rw [List.mem_singleton.1 hr]; exact ⟨by show 0 ≤ hh - V2; omega, by show hh - V2 ≤ 1073741823; omega⟩ }
           clear hl5 ho5 hq5 hlt5 hqn
           go_wp2_with fail
           go_roundw
           case rel => exact ⟨i + 1, k3, hh, some ⟨q9, 0, none⟩, cq, _, rfl, rfl, by first | rfl | rw [HLN.out], by go_num, by omega, HST2.out⟩
           case measure => simp [intOf]; omega
structure RfSt (w wr : World) (kind : Int) (M : List Int) (i : Nat) (A : Option Addr) (c : Nat) : Prop where
 bl : BlockIs wr (w.heap.size + 1) 93 #[.int .i64 kind, .slice A i c, .string ⟨#[]⟩]
 br : BlockIs wr w.heap.size 93 #[.int .i64 0, .slice none 0 0, .string ⟨#[]⟩]
 ls : Lst wr 3 1 (.slice A i c) (M.map intRow)
 len : M.length = i
 new : ∀ q, q ∈ blocks (.slice A 0 0) → w.heap.size ≤ q
 since : Since w wr
theorem RfSt.later {w wr w' : World} {kind : Int} {M : List Int} {i : Nat} {A : Option Addr} {c : Nat} (h : RfSt w wr kind M i A c) (hb : Below wr.heap.size wr w') : RfSt w w' kind M i A c :=
 ⟨h.bl.later hb, h.br.later hb, h.ls.later hb, h.len, h.new, h.since.later hb⟩
theorem RfSt.alloc {w wr : World} {kind : Int} {M : List Int} {i : Nat} {A : Option Addr} {c : Nat} (h : RfSt w wr kind M i A c) (o : Obj) : RfSt w (wr.alloc o) kind M i A c :=
 ⟨h.bl.alloc o, h.br.alloc o, h.ls.alloc o, h.len, h.new, h.since.alloc o⟩
theorem RfSt.drew {w wr : World} {kind : Int} {M : List Int} {i : Nat} {A : Option Addr} {c : Nat} (h : RfSt w wr kind M i A c) : RfSt w wr.drew kind M i A c :=
 ⟨h.bl.drew, h.br.drew, h.ls.drew, h.len, h.new, h.since.drew⟩
theorem RfSt.after {w X w9 : World} {kind : Int} {M : List Int} {i : Nat} {A : Option Addr} {c : Nat} (h : RfSt w X kind M i A c) (ho : Out X w9 (blocks (.slice A i c))) :
  Since w w9 ∧ BlockIs w9 (w.heap.size + 1) 93 #[.int .i64 kind, .slice A i c, .string ⟨#[]⟩] ∧ BlockIs w9 w.heap.size 93 #[.int .i64 0, .slice none 0 0, .string ⟨#[]⟩] :=
 ⟨h.since.out' ho (fun k hk => h.new k (by rw [blocks_any A 0 0 i c]; exact hk)), ho.block' h.bl (h.ls.apart h.bl (by decide)), ho.block' h.br (h.ls.apart h.br (by decide))⟩
theorem RfSt.step {w X w9 : World} {kind : Int} {M N : List Int} {i m : Nat} {A A9 : Option Addr} {c c9 : Nat} (h : RfSt w X kind M i A c) (ho : Out X w9 (blocks (.slice A i c)))
  (hl : Lst w9 3 1 (.slice A9 (i + m) c9) (M.map intRow ++ N.map intRow)) (hN : N.length = m) (hb : ∀ k, k ∈ blocks (.slice A9 (i + m) c9) → k ∈ blocks (.slice A i c) ∨ k = X.heap.size) :
  RfSt w (w9.setCell ⟨w.heap.size + 1, 1, none⟩ (.slice A9 (i + m) c9)) kind (M ++ N) (i + m) A9 c9 := by
 obtain ⟨hs, h1, h2⟩ := h.after ho
 refine ⟨h1.put 1 _, h2.far (by simp) _, ?_, by rw [List.length_append, h.len, hN], fun k hk => ?_, hs.set (by simp) _⟩
 · rw [List.map_append]
   exact hl.kept ((Out.refl w9 [w.heap.size + 1]).put (p := ⟨w.heap.size + 1, 1, none⟩) (Or.inl (by simp)) _) (fun k hk hk2 => hl.apart h1 (by decide) (by rw [List.mem_singleton.1 hk2] at hk; exact hk))
 · rcases hb k (by rw [blocks_any A9 0 0 (i + m) c9] at hk; exact hk) with h' | h'
   · exact h.new k (by rw [blocks_any A 0 0 i c]; exact h')
   · rw [h']; exact h.since.le
theorem Lst.apart3 {w : World} {E E' size size' : Nat} {v v' : Value} {es es' : List (List Value)} (h : Lst w E size v es) (h' : Lst w E' size' v' es') (ht : E ≠ E') : ∀ k, k ∈ blocks v → k ∉ blocks v' := by
 intro k hk hk'
 rcases h.own.2 with ⟨rfl, _⟩ | ⟨g, cap, cur, rfl, _, hgg, _⟩
 · simp [blocks, Value.ownBlock] at hk
 · rcases h'.own.2 with ⟨rfl, _⟩ | ⟨g', cap', cur', rfl, _, hgg', _⟩
   · simp [blocks, Value.ownBlock] at hk'
   · simp [blocks, Value.ownBlock] at hk hk'
     subst hk hk'
     rw [hgg] at hgg'
     simp only [Option.some.injEq, Obj.cells.injEq] at hgg'
     exact ht hgg'.2.1
theorem numUp_shift (b : List UInt8) : ∀ i, numUp b 1 i = match numUp (b.drop 1) 0 i with | none => none | some (L, k) => some (L, k + 1)
 | 0 => rfl
 | i + 1 => by
   have ih := numUp_shift b i
   cases h : numUp (b.drop 1) 0 i with
   | none => rw [h] at ih; rw [numUp, ih, numUp, h]
   | some q =>
     obtain ⟨L, k⟩ := q
     rw [h] at ih
     simp only at ih
     have hd : (b.drop 1).drop k = b.drop (k + 1) := by rw [List.drop_drop, Nat.add_comm]
     by_cases hg : getOk (b.drop (k + 1))
     · rw [numUp_yes ih hg, numUp_yes h (by rw [hd]; exact hg), hd]
       simp only [Option.some.injEq, Prod.mk.injEq, true_and]
       omega
     · rw [numUp_no ih hg, numUp_no h (by rw [hd]; exact hg)]
theorem numUp_back1 {b : List UInt8} {i k : Nat} {L : List Int} (h : numUp b 1 i = some (L, k)) : 1 ≤ k ∧ numUp (b.drop 1) 0 i = some (L, k - 1) := by
 rw [numUp_shift] at h
 cases hc : numUp (b.drop 1) 0 i with
 | none => rw [hc] at h; cases h
 | some q =>
   obtain ⟨L', k'⟩ := q
   rw [hc] at h
   simp only [Option.some.injEq, Prod.mk.injEq] at h
   obtain ⟨rfl, rfl⟩ := h
   exact ⟨by omega, rfl⟩
theorem numUp_none1 {b : List UInt8} {i : Nat} (h : numUp b 1 i = none) : numUp (b.drop 1) 0 i = none := by
 rw [numUp_shift] at h
 cases hc : numUp (b.drop 1) 0 i with
 | none => rfl
 | some q => rw [hc] at h; cases h
theorem rd_ack {b : List UInt8} (h : ¬ (b = [] ∨ bat b 0 < 1 ∨ 8 < bat b 0)) (hk : bat b 0 = 2) : readF b = match readA (b.drop 1) with | none => none | some (L, n) => some (⟨2, unpairs L, ByteArray.empty⟩, n + 1) := by
 rw [readF_rest h, hk, restF_ack]; cases readA (b.drop 1) <;> rfl
theorem readK_many {k : Int} (h : k ≠ 2) (h3 : k ≠ 3) : manyK k = (readK k : Nat) := by
 unfold manyK readK
 rw [if_neg h, if_neg h3]
 by_cases h1 : k = 1
 · rw [if_pos h1, if_pos h1]; rfl
 · rw [if_neg h1, if_neg h1]
   by_cases h7 : k = 7
   · rw [if_pos h7, if_pos h7]; rfl
   · rw [if_neg h7, if_neg h7]; rfl
theorem rd_plain {b : List UInt8} {L : List Int} {k : Nat} (h : ¬ (b = [] ∨ bat b 0 < 1 ∨ 8 < bat b 0)) (h2 : bat b 0 ≠ 2) (h3 : bat b 0 ≠ 3) (hn : numUp b 1 (readK (bat b 0)) = some (L, k)) : readF b = some (⟨bat b 0, L, ByteArray.empty⟩, k) := by
 obtain ⟨k1, hn1⟩ := numUp_back1 hn
 rw [readF_rest h, restF_plain h2 h3 hn1]
 simp only [Option.some.injEq, Prod.mk.injEq, true_and]; omega
theorem rd_num {b : List UInt8} (h : ¬ (b = [] ∨ bat b 0 < 1 ∨ 8 < bat b 0)) (h2 : bat b 0 ≠ 2) (hn : numUp b 1 (readK (bat b 0)) = none) : readF b = none := by
 rw [readF_rest h, restF_num h2 (numUp_none1 hn)]
theorem rd_no {b : List UInt8} {L : List Int} {k : Nat} (h : ¬ (b = [] ∨ bat b 0 < 1 ∨ 8 < bat b 0)) (h3 : bat b 0 = 3) (hn : numUp b 1 2 = some (L, k)) (hx : ¬ (ith L 1 ≤ 20 ∧ (k : Int) + ith L 1 ≤ b.length)) : readF b = none := by
 obtain ⟨k1, hn1⟩ := numUp_back1 hn
 have hl : 1 ≤ b.length := by
  cases b with
  | nil => exact absurd (Or.inl rfl) h
  | cons c b => simp
 rw [readF_rest h, h3, restF_no hn1 (by rw [List.length_drop]; omega)]
theorem rd_yes {b : List UInt8} {L : List Int} {k : Nat} (h : ¬ (b = [] ∨ bat b 0 < 1 ∨ 8 < bat b 0)) (h3 : bat b 0 = 3) (hn : numUp b 1 2 = some (L, k)) (hx : ith L 1 ≤ 20 ∧ (k : Int) + ith L 1 ≤ b.length) : readF b = some (⟨3, [ith L 0], ⟨((b.drop k).take (ith L 1).toNat).toArray⟩⟩, k + (ith L 1).toNat) := by
 obtain ⟨k1, hn1⟩ := numUp_back1 hn
 rw [readF_rest h, h3, restF_yes hn1 (by rw [List.length_drop]; omega)]
 simp only [Option.some.injEq, Prod.mk.injEq, Frm.mk.injEq, true_and]
 rw [List.drop_drop, show 1 + (k - 1) = k by omega]
 exact ⟨rfl, by omega⟩
theorem newA_nil (g : Nat) : newA none g := fun b off h => by cases h
abbrev RfPost (b : List UInt8) (w : World) (e : Ending) (w' : World) : Prop := ∃ (p : FrmV) (n : Nat) (ok : Bool), e = .returned (.tuple #[p.agg, .int .i64 n, .bool ok]) ∧ Below w.heap.size w w' ∧ FrmIn w' p ∧ readF b = (if ok = true then some (p.f, n) else none) ∧ (ok = false → p.f = frm0 ∧ n = 0) ∧ newA p.A w.heap.size
theorem rfread_ack (s : ByteArray) (w : World) (hz : s.size ≤ 9223372036854775707) (hb : ¬ (s.data.toList = [] ∨ bat s.data.toList 0 < 1 ∨ 8 < bat s.data.toList 0)) (h2 : bat s.data.toList 0 = 2) :
  Calls Tryz.prog 108 #[.string s] w fun e w' => RfPost s.data.toList w e w' := by
 have hsz : s.data.toList.length = s.size := rfl
 have hpos : 0 < s.size := by
  rcases Nat.eq_zero_or_pos s.size with h | h
  · exact absurd (Or.inl (List.length_eq_zero_iff.1 (by omega))) hb
  · exact h
 obtain ⟨e1, e2⟩ := str_full (s := s) (by omega)
 have e0 := str_at s 0 hpos
 rw [h2] at e0
 have HRD := Lib.hid (rd_ack hb h2)
 have RA := Lib.hid (fun W => raread (s.extract 1 s.size) W (Nat.le_trans (str_drop_size s 1) (by omega)))
 rw [str_drop] at RA
 obtain ⟨b, hbb⟩ : ∃ b, s.data.toList = b := ⟨_, rfl⟩
 rw [hbb] at HRD RA hsz ⊢
 have hsl : (1 : Int) ≤ (s.size : Int) := by omega
 have hwrap : IntKind.i64.wrap 2 = 2 := by decide
 have HB0 := Lib.hid (BlockIs.fresh w 93 #[.int .i64 0, .slice none 0 0, .string ⟨#[]⟩])
 have HST : Hid (RfSt w ((w.alloc (.cells #[.int .i64 0, .slice none 0 0, .string ⟨#[]⟩] 93)).alloc (.cells #[.int .i64 2, .slice none 0 0, .string ⟨#[]⟩] 93)) 2 [] 0 none 0) := Lib.hid
  ⟨BlockIs.fresh_at (by simp), (BlockIs.fresh _ _ _).alloc _, Lst.nil _ _ _, rfl, by simp [Value.ownBlock], (by exact Since.alloc (Since.alloc (Since.refl _) _) _)⟩
 have hbl : b.length ≤ 9223372036854775707 := by omega
 clear hb h2 hbb hz
 go_enter Tryz.func108, Tryz.ntmps108
 go_wp2_with fail
 refine (RA.out _).mono ?_
 rintro e w1 ⟨A1, c1, k, ok, R, rfl, hl1, hR, hb1, _, hr1⟩
 have HL1 := Lib.hid hl1
 have HST1 := Lib.hid (HST.out.later hb1)
 have HR1 := Lib.hid hr1
 clear hl1 hb1 hr1 HST
 have b0 : w1.cell? ⟨w.heap.size, 0, none⟩ = some (.int .i64 0) := HST1.out.br.cell 0
 have b1 : w1.cell? ⟨w.heap.size, 1, none⟩ = some (.slice none 0 0) := HST1.out.br.cell 1
 have b2 : w1.cell? ⟨w.heap.size, 2, none⟩ = some (.string ⟨#[]⟩) := HST1.out.br.cell 2
 have lb := HST1.out.br.lt
 have fb := HST1.out.br.free
 cases ok with
 | false =>
   have P := Lib.hid (show readF b = none by rw [HRD.out, HR1.out]; rfl)
   go_wp2_with fail
   have HB3 := Lib.hid (st3 HST1.out.br (.int .i64 0) (.slice none 0 0) (.string ⟨#[]⟩))
   have hs3 := (HST1.out.since).out' (out3 w1 w.heap.size (.int .i64 0) (.slice none 0 0) (.string ⟨#[]⟩)) (fun k hk => by (have : k = w.heap.size := by simpa using hk); omega)
   generalize (((w1.setCell ⟨w.heap.size, 0, none⟩ (.int .i64 0)).setCell ⟨w.heap.size, 1, none⟩ (.slice none 0 0)).setCell ⟨w.heap.size, 2, none⟩ (.string ⟨#[]⟩)) = w3 at *
   have kc0 : w3.cell? ⟨w.heap.size, 0, none⟩ = some (.int .i64 0) := HB3.out.cell 0
   have kc1 : w3.cell? ⟨w.heap.size, 1, none⟩ = some (.slice none 0 0) := HB3.out.cell 1
   have kc2 : w3.cell? ⟨w.heap.size, 2, none⟩ = some (.string ⟨#[]⟩) := HB3.out.cell 2
   refine bodyPost_ret (v := .tuple #[.agg #[.int .i64 0, .slice none 0 0, .string ⟨#[]⟩], .int .i64 0, .bool false]) (by simp [results, Tryz.results108, go_sem, kc0, kc1, kc2]) rfl ⟨⟨frm0, none, 0⟩, 0, false, by rfl, hs3, frm0_in _, by rw [P.out]; rfl, fun _ => ⟨rfl, rfl⟩, newA_nil _⟩
 | true =>
   have P := Lib.hid (show readF b = some (⟨2, unpairs R, ByteArray.empty⟩, k + 1) by rw [HRD.out, HR1.out]; rfl)
   have hkb : k ≤ b.length := by have := (readF_inv P.out).2.2.1; omega
   have hk1 : (1 : Int) + (k : Int) = ((k + 1 : Nat) : Int) := by omega
   obtain ⟨nR, hnR⟩ : ∃ nR, R.length = nR := ⟨_, rfl⟩
   have HNR := Lib.hid hnR
   rw [hnR] at HL1 hR ⊢
   clear hnR b0 b1 b2 lb fb
   go_wp2_with fail
   go_loopw [9] (fun s9 wr => ∃ (i i2 : Nat) (A' : Option Addr) (c' : Nat), s9 = .int .i64 i ∧ i ≤ nR ∧ Hid (i2 = 2 * i) ∧ Hid (RfSt w wr 2 (unpairs (R.take i)) i2 A' c') ∧ Hid (Lst wr 101 2 (.slice A1 nR c1) (R.map rngRow))) (fun s9 _ => nR - (intOf s9).toNat)
   case atStart => exact ⟨0, 0, none, 0, rfl, Nat.zero_le _, Lib.hid rfl, HST1, HL1⟩
   case round =>
    obtain ⟨i, i2, A', c', rfl, hi, hi2, HS, HLR⟩ := hrel
    have d0 : wr.cell? ⟨w.heap.size + 1, 0, none⟩ = some (.int .i64 2) := HS.out.bl.cell 0
    have d1 : wr.cell? ⟨w.heap.size + 1, 1, none⟩ = some (.slice A' i2 c') := HS.out.bl.cell 1
    have d2 : wr.cell? ⟨w.heap.size + 1, 2, none⟩ = some (.string ⟨#[]⟩) := HS.out.bl.cell 2
    have ld := HS.out.bl.lt
    have fd := HS.out.bl.free
    by_cases hlt : i < nR
    case neg =>
     obtain rfl : i = nR := by omega
     have hf : decide ((i : Int) < (i : Int)) = false := by simp
     have b0 : wr.cell? ⟨w.heap.size, 0, none⟩ = some (.int .i64 0) := HS.out.br.cell 0
     have b1 : wr.cell? ⟨w.heap.size, 1, none⟩ = some (.slice none 0 0) := HS.out.br.cell 1
     have b2 : wr.cell? ⟨w.heap.size, 2, none⟩ = some (.string ⟨#[]⟩) := HS.out.br.cell 2
     have lb := HS.out.br.lt
     have fb := HS.out.br.free
     have hz : Hid (R.take i = R) := Lib.hid (List.take_of_length_le (by rw [HNR.out]; exact Nat.le_refl _))
     rw [hz.out] at HS
     have HLEN := Lib.hid HS.out.len
     go_wp2_with fail
     have HB3 := Lib.hid (st3 HS.out.br (.int .i64 2) (.slice A' i2 c') (.string ⟨#[]⟩))
     have HO3 := Lib.hid (out3 wr w.heap.size (.int .i64 2) (.slice A' i2 c') (.string ⟨#[]⟩))
     have hs3 := (HS.out.since).out' HO3.out (fun k hk => by (have : k = w.heap.size := by simpa using hk); omega)
     generalize (((wr.setCell ⟨w.heap.size, 0, none⟩ (.int .i64 2)).setCell ⟨w.heap.size, 1, none⟩ (.slice A' i2 c')).setCell ⟨w.heap.size, 2, none⟩ (.string ⟨#[]⟩)) = w3 at *
     have kc0 : w3.cell? ⟨w.heap.size, 0, none⟩ = some (.int .i64 2) := HB3.out.cell 0
     have kc1 : w3.cell? ⟨w.heap.size, 1, none⟩ = some (.slice A' i2 c') := HB3.out.cell 1
     have kc2 : w3.cell? ⟨w.heap.size, 2, none⟩ = some (.string ⟨#[]⟩) := HB3.out.cell 2
     have hE := (readF_inv P.out).1
     refine bodyPost_ret (v := .tuple #[.agg #[.int .i64 2, .slice A' i2 c', .string ⟨#[]⟩], .int .i64 (((k + 1) : Nat) : Int), .bool true]) (by simp [results, Tryz.results108, go_sem, kc0, kc1, kc2]) rfl ⟨⟨⟨2, (unpairs R), ⟨#[]⟩⟩, A', c'⟩, (k + 1), true, ?_, hs3, frmIn_of (n := i2) hE ((HS.out.ls).far HS.out.br (by decide) HO3.out) ?_, by rw [P.out]; rfl, fun h => (by cases h), newA_of (HS.out.ls) HS.out.new⟩
     · unfold FrmV.agg
       simp only [HLEN.out]
     · exact (frmE_out hE).2.2.2.1
    have hlt' : (i : Int) < (nR : Int) := by omega
    have hil : i < R.length := by rw [HNR.out]; exact hlt
    obtain ⟨_, _, hv1, _, _, hA1⟩ := HLR.out.shape
    simp only [Value.slice.injEq] at hv1
    obtain ⟨rfl, hv2, rfl⟩ := hv1
    clear hv2
    rcases hA1 with ⟨_, hA1, _⟩ | ⟨q1, rfl⟩
    · exact absurd (congrArg List.length hA1) (by rw [List.length_map, HNR.out]; simp; omega)
    have c0 : wr.cell? ⟨q1, i * 2, none⟩ = some (.int .i64 (rat R i).lo) := by
     have := HLR.out.cell rfl (elem_of_rng (L := R) (i := i) hil) (j := 0) rfl
     rw [rat_get hil]; simpa using this
    have c1' : wr.cell? ⟨q1, i * 2 + 1, none⟩ = some (.int .i64 (rat R i).hi) := by
     have := HLR.out.cell rfl (elem_of_rng (L := R) (i := i) hil) (j := 1) rfl
     rw [rat_get hil]; simpa using this
    have lq : q1 < wr.heap.size := HLR.out.lt q1 (by simp [Value.ownBlock])
    have HT := Lib.hid (take_unpairs hil)
    have HUL : Hid (((unpairs (R.take i)).map intRow).length = i2) := Lib.hid (by rw [List.length_map, HS.out.len])
    clear hil
    generalize (rat R i).lo = lo at *
    generalize (rat R i).hi = hi3 at *
    have HNEW : Hid (∀ j u, (flat [intRow hi3, intRow lo])[j]? = some u → (wr.alloc (.cells #[.int .i64 hi3, .int .i64 lo] 3)).cell? ((⟨wr.heap.size, 0, none⟩ : Addr).add j) = some u) := Lib.hid (fun j u hj => by
     rw [addr_at, (BlockIs.fresh wr 3 #[.int .i64 hi3, .int .i64 lo]).cell]
     match j, hj with
     | 0, hj => exact hj
     | 1, hj => exact hj
     | _ + 2, hj => simp [intRow] at hj)
    go_wp2_with fail
    go_region_law ((refine step_cat rfl _ _ 22 rfl 3 1 8 Tryz.elInt (.slice A' i2 c') ((unpairs (R.take i)).map intRow) rfl ?_ ⟨wr.heap.size, 0, none⟩ 2 2 [intRow hi3, intRow lo] rfl rfl ?_ ?_ ?_ ?_; (first | exact (HS.out.ls.alloc _).drew | exact HS.out.ls.alloc _); (intro e he; simp at he; rcases he with rfl | rfl <;> exact intRow_one _); (exact HNEW.out); (rw [HUL.out]; have := hi2.out; simp; omega); intro A9 c9 w9 hl9 ho9 hb9; rw [HUL.out] at hl9 hb9; (try rw [HUL.out]); have HX := Lib.hid (HS.out.alloc (.cells #[.int .i64 hi3, .int .i64 lo] 3)).drew; have HX2 := Lib.hid (HLR.out.alloc (.cells #[.int .i64 hi3, .int .i64 lo] 3)).drew; have HY9 := Lib.hid (HX2.out.kept ho9 (HX2.out.apart3 HX.out.ls (by decide))); have HN9 := Lib.hid (HX.out.step (N := [hi3, lo]) (m := 2) ho9 hl9 rfl hb9); obtain ⟨hs9, hB9, hR9⟩ := HX.out.after ho9; have f9 := hB9.free; have l9 := hB9.lt; have e91 : w9.cell? ⟨w.heap.size + 1, 1, none⟩ = some (.slice A' i2 c') := hB9.cell 1; have HZ9 := Lib.hid (HY9.out.kept ((Out.refl w9 [w.heap.size + 1]).put (p := ⟨w.heap.size + 1, 1, none⟩) (Or.inl (by simp)) (.slice A9 (i2 + 2) c9)) (fun k hk hk2 => HY9.out.apart hB9 (by decide) (by rw [List.mem_singleton.1 hk2] at hk; exact hk))); clear hl9 ho9 hb9 hB9 hR9))
    all_goals
     have HN10 : Hid (RfSt w (w9.setCell ⟨w.heap.size + 1, 1, none⟩ (.slice A9 (i2 + 2) c9)) 2 (unpairs (R.take (i + 1))) (i2 + 2) A9 c9) := Lib.hid (by rw [HT.out]; exact HN9.out)
     go_wp2_with fail
     go_roundw
     case rel => exact ⟨i + 1, i2 + 2, A9, c9, by go_num, by omega, Lib.hid (by have := hi2.out; omega), (by first | exact HN10 | exact Lib.hid HN10.out.drew), (by first | exact HZ9 | exact Lib.hid HZ9.out.drew)⟩
     case measure => simp [intOf]; omega
theorem kN_of {l : List UInt8} (h : getOk l) : kN l = getC l := by unfold kN; rw [if_pos h]
theorem rfread_num (s : ByteArray) (w : World) (hz : s.size ≤ 9223372036854775707) (hb : ¬ (s.data.toList = [] ∨ bat s.data.toList 0 < 1 ∨ 8 < bat s.data.toList 0)) (h2 : bat s.data.toList 0 ≠ 2) :
  Calls Tryz.prog 108 #[.string s] w fun e w' => RfPost s.data.toList w e w' := by
 have hsz : s.data.toList.length = s.size := rfl
 have hpos : 0 < s.size := by
  rcases Nat.eq_zero_or_pos s.size with h | h
  · exact absurd (Or.inl (List.length_eq_zero_iff.1 (by omega))) hb
  · exact h
 obtain ⟨e1, e2⟩ := str_full (s := s) (by omega)
 have e0 := str_at s 0 hpos
 have GD := Lib.hid (fun k W => rgetD s k (by omega) W)
 have HPL := Lib.hid (fun L k h3 hn => rd_plain (L := L) (k := k) hb h2 h3 hn)
 have HPN := Lib.hid (fun hn => rd_num hb h2 hn)
 have HNO := Lib.hid (fun L k h3 hn hx => rd_no (L := L) (k := k) hb h3 hn hx)
 have HYES := Lib.hid (fun L k h3 hn hx => rd_yes (L := L) (k := k) hb h3 hn hx)
 have HDT : Hid (∀ p l, ((⟨((s.data.toList.drop p).take l).toArray⟩ : ByteArray) = s.extract p (p + l))) := Lib.hid (fun p l => ba_ext (by
  rw [ByteArray.data_extract, Array.toList_extract, List.extract_eq_take_drop]
  simp only
  rw [show p + l - p = l by omega]))
 have HX8 : Hid (1 ≤ bat s.data.toList 0 ∧ bat s.data.toList 0 ≤ 8) := Lib.hid ⟨by
  rcases Int.lt_or_le (bat s.data.toList 0) 1 with h | h
  · exact absurd (Or.inr (Or.inl h)) hb
  · exact h, by
  rcases Int.lt_or_le 8 (bat s.data.toList 0) with h | h
  · exact absurd (Or.inr (Or.inr h)) hb
  · exact h⟩
 obtain ⟨m, hm, hm2⟩ : ∃ m : Nat, manyK (bat s.data.toList 0) = m ∧ m ≤ 2 := by
  obtain ⟨q0, q1⟩ := manyK_two h2
  exact ⟨(manyK (bat s.data.toList 0)).toNat, by omega, by omega⟩
 have HM3 : Hid (bat s.data.toList 0 ≠ 3 → readK (bat s.data.toList 0) = m) := Lib.hid (fun h3 => by have := readK_many h2 h3; omega)
 have HM1 : Hid (bat s.data.toList 0 = 3 → m = 1 ∧ readK (bat s.data.toList 0) = 2) := Lib.hid (fun h3 => ⟨by rw [h3] at hm; have : manyK 3 = 1 := rfl; omega, by rw [h3]; rfl⟩)
 have HMK := Lib.hid hm
 have HH2 := Lib.hid h2
 obtain ⟨b, hbb⟩ : ∃ b, s.data.toList = b := ⟨_, rfl⟩
 rw [hbb] at GD HPL HPN HNO HYES HDT HX8 HM3 HM1 HMK HH2 hsz e0 ⊢
 have hbl : b.length ≤ 9223372036854775707 := by omega
 have HUP0 : Hid (numUp b 1 0 = some ([], 1)) := Lib.hid rfl
 have HUPN : Hid (∀ i, numUp b 1 (i + 1) = none → i + 1 ≤ readK (bat b 0) → readF b = none) := Lib.hid (fun i hi hj => HPN.out (numUp_none hi _ hj))
 clear hb h2 hbb hz hm
 obtain ⟨x, hx⟩ : ∃ x, bat b 0 = x := ⟨_, rfl⟩
 rw [hx] at HPL HPN HNO HYES HX8 HM3 HM1 HMK HH2 HUPN e0
 obtain ⟨x1, x8⟩ := HX8.out
 have x1' : decide (x < 1) = false := by simp; omega
 have x8' : decide (8 < x) = false := by simp; omega
 have hx2 : (x == 2) = false := by rw [beq_eq_false_iff_ne]; exact HH2.out
 have hwrap : IntKind.i64.wrap x = x := by simp [IntKind.wrap, IntKind.bits, IntKind.signed]; omega
 have HSZ := Lib.hid hsz
 have hsl : (1 : Int) ≤ (s.size : Int) := by omega
 have HST : Hid (RfSt w ((w.alloc (.cells #[.int .i64 0, .slice none 0 0, .string ⟨#[]⟩] 93)).alloc (.cells #[.int .i64 x, .slice none 0 0, .string ⟨#[]⟩] 93)) x [] 0 none 0) := Lib.hid
  ⟨BlockIs.fresh_at (by simp), (BlockIs.fresh _ _ _).alloc _, Lst.nil _ _ _, rfl, by simp [Value.ownBlock], (by exact Since.alloc (Since.alloc (Since.refl _) _) _)⟩
 clear hx hsz
 go_enter Tryz.func108, Tryz.ntmps108
 go_wp2_with fail
 refine (rcounts x _).mono ?_
 rintro e w1 ⟨rfl, rfl⟩
 rw [HMK.out]
 go_wp2_with fail
 go_loopw [10, 12] (fun s10 s12 wr => ∃ (i k : Nat) (A' : Option Addr) (c' : Nat) (M : List Int), s10 = .int .i64 k ∧ s12 = .int .i64 i ∧ i ≤ m ∧ k ≤ b.length ∧ Hid (numUp b 1 i = some (M, k)) ∧ Hid (RfSt w wr x M i A' c')) (fun _ s12 _ => m - (intOf s12).toNat)
 case atStart => exact ⟨0, 1, none, 0, [], rfl, rfl, Nat.zero_le _, by have := HSZ.out; omega, HUP0, HST⟩
 case round =>
  obtain ⟨i, k, A', c', M, rfl, rfl, hi, hkb, HUP, HS⟩ := hrel
  have b0 : wr.cell? ⟨w.heap.size, 0, none⟩ = some (.int .i64 0) := HS.out.br.cell 0
  have b1 : wr.cell? ⟨w.heap.size, 1, none⟩ = some (.slice none 0 0) := HS.out.br.cell 1
  have b2 : wr.cell? ⟨w.heap.size, 2, none⟩ = some (.string ⟨#[]⟩) := HS.out.br.cell 2
  have lb := HS.out.br.lt
  have fb := HS.out.br.free
  have d0 : wr.cell? ⟨w.heap.size + 1, 0, none⟩ = some (.int .i64 x) := HS.out.bl.cell 0
  have d1 : wr.cell? ⟨w.heap.size + 1, 1, none⟩ = some (.slice A' i c') := HS.out.bl.cell 1
  have d2 : wr.cell? ⟨w.heap.size + 1, 2, none⟩ = some (.string ⟨#[]⟩) := HS.out.bl.cell 2
  have ld := HS.out.bl.lt
  have fd := HS.out.bl.free
  have HLEN := Lib.hid HS.out.len
  have hks : (k : Int) ≤ (s.size : Int) := by have := HSZ.out; omega
  have hkn := kN_le b hkb
  have hkk : (k : Int) + (kN (b.drop k) : Int) = ((k + kN (b.drop k) : Nat) : Int) := by omega
  have GDk := Lib.hid (GD.out k)
  obtain ⟨v0, v1⟩ := bits_getN (b.drop k)
  have HG : Hid (gok (b.drop k) = true → numUp b 1 (i + 1) = some (M ++ [getV (b.drop k)], k + kN (b.drop k))) := Lib.hid (fun h => by
   have hg := of_decide_eq_true h
   rw [numUp_yes HUP.out hg]
   obtain ⟨_, g1, g2, _⟩ := gok_yes hg
   rw [g1, kN_of hg])
  have HGN : Hid (gok (b.drop k) = false → numUp b 1 (i + 1) = none) := Lib.hid (fun h => numUp_no HUP.out (of_decide_eq_false h))
  obtain ⟨V, hV⟩ : ∃ V, getV (b.drop k) = V := ⟨_, rfl⟩
  obtain ⟨k2, hk2⟩ : ∃ k2, k + kN (b.drop k) = k2 := ⟨_, rfl⟩
  obtain ⟨kd, hkd⟩ : ∃ kd, kN (b.drop k) = kd := ⟨_, rfl⟩
  rw [hV] at GDk HG v0 v1
  rw [hk2] at hkn hkk HG
  rw [hkd] at GDk hkk
  clear hV hk2 hkd
  by_cases hlt : i < m
  case neg =>
   obtain rfl : i = m := by omega
   have hf : decide ((i : Int) < (i : Int)) = false := by simp
   by_cases h3 : x = 3
   case neg =>
    have h3' : (x == 3) = false := by simpa using h3
    have P := Lib.hid (HPL.out M k h3 (by rw [HM3.out h3]; exact HUP.out))
    clear h3
    go_wp2_with fail
    have HB3 := Lib.hid (st3 HS.out.br (.int .i64 x) (.slice A' i c') (.string ⟨#[]⟩))
    have HO3 := Lib.hid (out3 wr w.heap.size (.int .i64 x) (.slice A' i c') (.string ⟨#[]⟩))
    have hs3 := (HS.out.since).out' HO3.out (fun k hk => by (have : k = w.heap.size := by simpa using hk); omega)
    generalize (((wr.setCell ⟨w.heap.size, 0, none⟩ (.int .i64 x)).setCell ⟨w.heap.size, 1, none⟩ (.slice A' i c')).setCell ⟨w.heap.size, 2, none⟩ (.string ⟨#[]⟩)) = w3 at *
    have kc0 : w3.cell? ⟨w.heap.size, 0, none⟩ = some (.int .i64 x) := HB3.out.cell 0
    have kc1 : w3.cell? ⟨w.heap.size, 1, none⟩ = some (.slice A' i c') := HB3.out.cell 1
    have kc2 : w3.cell? ⟨w.heap.size, 2, none⟩ = some (.string ⟨#[]⟩) := HB3.out.cell 2
    have hE := (readF_inv P.out).1
    refine bodyPost_ret (v := .tuple #[.agg #[.int .i64 x, .slice A' i c', .string ⟨#[]⟩], .int .i64 ((k : Nat) : Int), .bool true]) (by simp [results, Tryz.results108, go_sem, kc0, kc1, kc2]) rfl ⟨⟨⟨x, M, ⟨#[]⟩⟩, A', c'⟩, k, true, ?_, hs3, frmIn_of (n := i) hE ((HS.out.ls).far HS.out.br (by decide) HO3.out) ?_, by rw [P.out]; rfl, fun h => (by cases h), newA_of (HS.out.ls) HS.out.new⟩
    · unfold FrmV.agg
      simp only [HLEN.out]
    · exact (frmE_out hE).2.2.2.1
   obtain ⟨m1, m2⟩ := HM1.out h3
   have h3' : (x == 3) = true := by simpa using h3
   obtain ⟨z, hMz⟩ : ∃ z, M = [z] := by
    have := HLEN.out
    match M, this with
    | [z], _ => exact ⟨z, rfl⟩
    | [], h => exact absurd h (by simp; omega)
    | _ :: _ :: _, h => exact absurd h (by simp; omega)
   cases hg : gok (b.drop k) with
   | false =>
     have P := Lib.hid (HUPN.out i (HGN.out hg) (by omega))
     have HGG := Lib.hid hg
     clear hg h3 m1 m2 hMz
     go_wp2_with fail
     refine (GDk.out _).mono ?_
     rintro e w1 ⟨rfl, rfl⟩
     rw [HGG.out]
     go_wp2_with fail
     have HB3 := Lib.hid (st3 HS.out.br (.int .i64 0) (.slice none 0 0) (.string ⟨#[]⟩))
     have hs3 := (HS.out.since).out' (out3 wr w.heap.size (.int .i64 0) (.slice none 0 0) (.string ⟨#[]⟩)) (fun k hk => by (have : k = w.heap.size := by simpa using hk); omega)
     generalize (((wr.setCell ⟨w.heap.size, 0, none⟩ (.int .i64 0)).setCell ⟨w.heap.size, 1, none⟩ (.slice none 0 0)).setCell ⟨w.heap.size, 2, none⟩ (.string ⟨#[]⟩)) = w3 at *
     have kc0 : w3.cell? ⟨w.heap.size, 0, none⟩ = some (.int .i64 0) := HB3.out.cell 0
     have kc1 : w3.cell? ⟨w.heap.size, 1, none⟩ = some (.slice none 0 0) := HB3.out.cell 1
     have kc2 : w3.cell? ⟨w.heap.size, 2, none⟩ = some (.string ⟨#[]⟩) := HB3.out.cell 2
     refine bodyPost_ret (v := .tuple #[.agg #[.int .i64 0, .slice none 0 0, .string ⟨#[]⟩], .int .i64 0, .bool false]) (by simp [results, Tryz.results108, go_sem, kc0, kc1, kc2]) rfl ⟨⟨frm0, none, 0⟩, 0, false, by rfl, hs3, frm0_in _, by rw [P.out]; rfl, fun _ => ⟨rfl, rfl⟩, newA_nil _⟩
   | true =>
     have HU2 := Lib.hid (HG.out hg)
     have HGG := Lib.hid hg
     obtain ⟨l, rfl⟩ : ∃ l : Nat, V = l := ⟨V.toNat, by omega⟩
     have HNO2 := Lib.hid (fun hx => HNO.out (M ++ [(l : Int)]) k2 h3 (by have := HU2.out; rw [m1] at this; exact this) hx)
     have HYES2 := Lib.hid (fun hx => HYES.out (M ++ [(l : Int)]) k2 h3 (by have := HU2.out; rw [m1] at this; exact this) hx)
     rw [hMz] at HNO2 HYES2
     simp only [show ith ([z] ++ [(l : Int)]) 1 = (l : Int) from rfl, show ith ([z] ++ [(l : Int)]) 0 = z from rfl, Int.toNat_natCast] at HNO2 HYES2
     rw [← hMz] at HYES2
     have HX3 := Lib.hid h3
     have hkl : (k2 : Int) + (l : Int) = ((k2 + l : Nat) : Int) := by omega
     have hkn2 : (k2 : Int) ≤ (s.size : Int) := by have := HSZ.out; omega
     clear hg h3 m1 m2 hMz
     by_cases h20 : 20 < l
     · have h20' : (20 : Int) < (l : Int) := by omega
       have P := Lib.hid (HNO2.out (by omega))
       go_wp2_with fail
       refine (GDk.out _).mono ?_
       rintro e w1 ⟨rfl, rfl⟩
       rw [HGG.out]
       go_wp2_with fail
       have HB3 := Lib.hid (st3 HS.out.br (.int .i64 0) (.slice none 0 0) (.string ⟨#[]⟩))
       have hs3 := (HS.out.since).out' (out3 wr w.heap.size (.int .i64 0) (.slice none 0 0) (.string ⟨#[]⟩)) (fun k hk => by (have : k = w.heap.size := by simpa using hk); omega)
       generalize (((wr.setCell ⟨w.heap.size, 0, none⟩ (.int .i64 0)).setCell ⟨w.heap.size, 1, none⟩ (.slice none 0 0)).setCell ⟨w.heap.size, 2, none⟩ (.string ⟨#[]⟩)) = w3 at *
       have kc0 : w3.cell? ⟨w.heap.size, 0, none⟩ = some (.int .i64 0) := HB3.out.cell 0
       have kc1 : w3.cell? ⟨w.heap.size, 1, none⟩ = some (.slice none 0 0) := HB3.out.cell 1
       have kc2 : w3.cell? ⟨w.heap.size, 2, none⟩ = some (.string ⟨#[]⟩) := HB3.out.cell 2
       refine bodyPost_ret (v := .tuple #[.agg #[.int .i64 0, .slice none 0 0, .string ⟨#[]⟩], .int .i64 0, .bool false]) (by simp [results, Tryz.results108, go_sem, kc0, kc1, kc2]) rfl ⟨⟨frm0, none, 0⟩, 0, false, by rfl, hs3, frm0_in _, by rw [P.out]; rfl, fun _ => ⟨rfl, rfl⟩, newA_nil _⟩
     have h20' : decide ((20 : Int) < (l : Int)) = false := by simp; omega
     obtain ⟨k5, hk5⟩ : ∃ k5, k2 + l = k5 := ⟨_, rfl⟩
     have HDT2 := Lib.hid (HDT.out k2 l)
     rw [hk5] at hkl HYES2 HDT2
     have HK5 := Lib.hid hk5
     have hl20 : l ≤ 20 := by omega
     have hk6 : k2 ≤ k5 := by omega
     clear hk5 h20
     by_cases hfar : s.size < k5
     · have hfar' : (s.size : Int) < (k5 : Int) := by omega
       have P := Lib.hid (HNO2.out (fun h => by have := HSZ.out; omega))
       go_wp2_with fail
       refine (GDk.out _).mono ?_
       rintro e w1 ⟨rfl, rfl⟩
       rw [HGG.out]
       go_wp2_with fail
       have HB3 := Lib.hid (st3 HS.out.br (.int .i64 0) (.slice none 0 0) (.string ⟨#[]⟩))
       have hs3 := (HS.out.since).out' (out3 wr w.heap.size (.int .i64 0) (.slice none 0 0) (.string ⟨#[]⟩)) (fun k hk => by (have : k = w.heap.size := by simpa using hk); omega)
       generalize (((wr.setCell ⟨w.heap.size, 0, none⟩ (.int .i64 0)).setCell ⟨w.heap.size, 1, none⟩ (.slice none 0 0)).setCell ⟨w.heap.size, 2, none⟩ (.string ⟨#[]⟩)) = w3 at *
       have kc0 : w3.cell? ⟨w.heap.size, 0, none⟩ = some (.int .i64 0) := HB3.out.cell 0
       have kc1 : w3.cell? ⟨w.heap.size, 1, none⟩ = some (.slice none 0 0) := HB3.out.cell 1
       have kc2 : w3.cell? ⟨w.heap.size, 2, none⟩ = some (.string ⟨#[]⟩) := HB3.out.cell 2
       refine bodyPost_ret (v := .tuple #[.agg #[.int .i64 0, .slice none 0 0, .string ⟨#[]⟩], .int .i64 0, .bool false]) (by simp [results, Tryz.results108, go_sem, kc0, kc1, kc2]) rfl ⟨⟨frm0, none, 0⟩, 0, false, by rfl, hs3, frm0_in _, by rw [P.out]; rfl, fun _ => ⟨rfl, rfl⟩, newA_nil _⟩
     have hfar' : decide ((s.size : Int) < (k5 : Int)) = false := by simp; omega
     have hfr2 : (k5 : Int) ≤ (s.size : Int) := by omega
     have hk68 : (k2 : Int) ≤ (k5 : Int) := by omega
     have P0 := HYES2.out (by have := HSZ.out; omega)
     rw [HDT2.out, ← HX3.out] at P0
     have P := Lib.hid P0
     clear hfar P0
     go_wp2_with fail
     refine (GDk.out _).mono ?_
     rintro e w1 ⟨rfl, rfl⟩
     rw [HGG.out]
     go_wp2_with fail
     have HQB := Lib.hid (HS.out.br.far (p := ⟨w.heap.size + 1, 2, none⟩) (by simp) (.string (s.extract k2 k5)))
     have HQS := Lib.hid (HS.out.since.set (p := ⟨w.heap.size + 1, 2, none⟩) (by simp) (.string (s.extract k2 k5)))
     have HQL := Lib.hid (HS.out.ls.kept ((Out.refl wr [w.heap.size + 1]).put (p := ⟨w.heap.size + 1, 2, none⟩) (Or.inl (by simp)) (.string (s.extract k2 k5))) (fun k hk hk2 => HS.out.ls.apart HS.out.bl (by decide) (by rw [List.mem_singleton.1 hk2] at hk; exact hk)))
     generalize wr.setCell ⟨w.heap.size + 1, 2, none⟩ (.string (s.extract k2 k5)) = wq at *
     have HB3 := Lib.hid (st3 HQB.out (.int .i64 x) (.slice A' i c') (.string (s.extract k2 k5)))
     have HO3 := Lib.hid (out3 wq w.heap.size (.int .i64 x) (.slice A' i c') (.string (s.extract k2 k5)))
     have hs3 := (HQS.out).out' HO3.out (fun k hk => by (have : k = w.heap.size := by simpa using hk); omega)
     generalize (((wq.setCell ⟨w.heap.size, 0, none⟩ (.int .i64 x)).setCell ⟨w.heap.size, 1, none⟩ (.slice A' i c')).setCell ⟨w.heap.size, 2, none⟩ (.string (s.extract k2 k5))) = w3 at *
     have kc0 : w3.cell? ⟨w.heap.size, 0, none⟩ = some (.int .i64 x) := HB3.out.cell 0
     have kc1 : w3.cell? ⟨w.heap.size, 1, none⟩ = some (.slice A' i c') := HB3.out.cell 1
     have kc2 : w3.cell? ⟨w.heap.size, 2, none⟩ = some (.string (s.extract k2 k5)) := HB3.out.cell 2
     have hE := (readF_inv P.out).1
     refine bodyPost_ret (v := .tuple #[.agg #[.int .i64 x, .slice A' i c', .string (s.extract k2 k5)], .int .i64 ((k5 : Nat) : Int), .bool true]) (by simp [results, Tryz.results108, go_sem, kc0, kc1, kc2]) rfl ⟨⟨⟨x, M, (s.extract k2 k5)⟩, A', c'⟩, k5, true, ?_, hs3, frmIn_of (n := i) hE ((HQL.out).far HQB.out (by decide) HO3.out) ?_, by rw [P.out]; rfl, fun h => (by cases h), newA_of (HQL.out) HS.out.new⟩
     · unfold FrmV.agg
       simp only [HLEN.out]
     · exact (frmE_out hE).2.2.2.1
  have hlt' : (i : Int) < (m : Int) := by omega
  cases hg : gok (b.drop k) with
  | false =>
    have P := Lib.hid (HUPN.out i (HGN.out hg) (by
     by_cases h3 : x = 3
     · have := HM1.out h3; omega
     · have := HM3.out h3; omega))
    have HGG := Lib.hid hg
    clear hg
    go_wp2_with fail
    refine (GDk.out _).mono ?_
    rintro e w1 ⟨rfl, rfl⟩
    rw [HGG.out]
    go_wp2_with fail
    have HB3 := Lib.hid (st3 HS.out.br (.int .i64 0) (.slice none 0 0) (.string ⟨#[]⟩))
    have hs3 := (HS.out.since).out' (out3 wr w.heap.size (.int .i64 0) (.slice none 0 0) (.string ⟨#[]⟩)) (fun k hk => by (have : k = w.heap.size := by simpa using hk); omega)
    generalize (((wr.setCell ⟨w.heap.size, 0, none⟩ (.int .i64 0)).setCell ⟨w.heap.size, 1, none⟩ (.slice none 0 0)).setCell ⟨w.heap.size, 2, none⟩ (.string ⟨#[]⟩)) = w3 at *
    have kc0 : w3.cell? ⟨w.heap.size, 0, none⟩ = some (.int .i64 0) := HB3.out.cell 0
    have kc1 : w3.cell? ⟨w.heap.size, 1, none⟩ = some (.slice none 0 0) := HB3.out.cell 1
    have kc2 : w3.cell? ⟨w.heap.size, 2, none⟩ = some (.string ⟨#[]⟩) := HB3.out.cell 2
    refine bodyPost_ret (v := .tuple #[.agg #[.int .i64 0, .slice none 0 0, .string ⟨#[]⟩], .int .i64 0, .bool false]) (by simp [results, Tryz.results108, go_sem, kc0, kc1, kc2]) rfl ⟨⟨frm0, none, 0⟩, 0, false, by rfl, hs3, frm0_in _, by rw [P.out]; rfl, fun _ => ⟨rfl, rfl⟩, newA_nil _⟩
  | true =>
    have HU2 := Lib.hid (HG.out hg)
    have HGG := Lib.hid hg
    have HML : Hid ((M.map intRow).length = i) := Lib.hid (by rw [List.length_map, HLEN.out])
    have HNEW : Hid (∀ j u, (flat [intRow V])[j]? = some u → (wr.alloc (.cells #[.int .i64 V] 3)).cell? ((⟨wr.heap.size, 0, none⟩ : Addr).add j) = some u) := Lib.hid (fun j u hj => by
     rw [addr_at, (BlockIs.fresh wr 3 #[.int .i64 V]).cell]
     match j, hj with
     | 0, hj => exact hj
     | _ + 1, hj => simp [intRow] at hj)
    have HX := Lib.hid (HS.out.alloc (.cells #[.int .i64 V] 3))
    clear hg
    go_wp2_with fail
    refine (GDk.out _).mono ?_
    rintro e w1 ⟨rfl, rfl⟩
    rw [HGG.out]
    go_wp2_with (at_builtin; (refine wpList_cat rfl _ _ 22 rfl 3 1 8 Tryz.elInt (.slice A' i c') (M.map intRow) rfl (HS.out.ls.alloc _) ⟨wr.heap.size, 0, none⟩ 1 1 [intRow V] rfl rfl (by intro e he; rw [List.mem_singleton.1 he]; exact intRow_one _) HNEW.out (by rw [HML.out]; simp; omega) ?_); intro A9 c9 w9 hl9 ho9 hb9; rw [HML.out] at hl9 hb9; (try rw [HML.out]); have HN9 := Lib.hid (HX.out.step (N := [V]) (m := 1) ho9 hl9 rfl hb9); obtain ⟨hs9, hB9, hR9⟩ := HX.out.after ho9; have f9 := hB9.free; have l9 := hB9.lt; have e91 : w9.cell? ⟨w.heap.size + 1, 1, none⟩ = some (.slice A' i c') := hB9.cell 1; clear hl9 ho9 hb9 hB9 hR9)
    go_roundw
    case rel => exact ⟨i + 1, k2, A9, c9, M ++ [V], by first | rfl | (simp only [hkk]), by go_num, by omega, hkn, HU2, HN9⟩
    case measure => simp [intOf]; omega
theorem rfread (s : ByteArray) (w : World) (hz : s.size ≤ 9223372036854775707) :
  Calls Tryz.prog 108 #[.string s] w fun e w' => RfPost s.data.toList w e w' := by
 by_cases hb : s.data.toList = [] ∨ bat s.data.toList 0 < 1 ∨ 8 < bat s.data.toList 0
 case neg =>
  by_cases h2 : bat s.data.toList 0 = 2
  · exact rfread_ack s w hz hb h2
  · exact rfread_num s w hz hb h2
 have P1 := Lib.hid (readF_out hb)
 by_cases h0 : s.size = 0
 · obtain ⟨e1, e2⟩ := str_empty h0
   clear h0 hb
   go_enter Tryz.func108, Tryz.ntmps108
   go_wp2_with fail
   refine bodyPost_ret (v := .tuple #[.agg #[.int .i64 0, .slice none 0 0, .string ⟨#[]⟩], .int .i64 0, .bool false]) (by simp [results, Tryz.results108, go_sem]) rfl ⟨⟨frm0, none, 0⟩, 0, false, by rfl, (by exact Since.alloc (Since.refl _) _), frm0_in _, by rw [P1.out]; rfl, fun _ => ⟨rfl, rfl⟩, newA_nil _⟩
 have hpos : 0 < s.size := by omega
 obtain ⟨e1, e2⟩ := str_full h0
 have e0 := str_at s 0 hpos
 have hb' : bat s.data.toList 0 < 1 ∨ 8 < bat s.data.toList 0 := by
  rcases hb with h | h
  · exact absurd (show s.data.toList.length = 0 by rw [h]; rfl) (by show ¬ s.data.toList.length = 0; exact h0)
  · exact h
 obtain ⟨x, hx⟩ : ∃ x, bat s.data.toList 0 = x := ⟨_, rfl⟩
 rw [hx] at hb' e0
 clear hb hx
 by_cases hx1 : x < 1
 · clear hb'
   go_enter Tryz.func108, Tryz.ntmps108
   go_wp2_with fail
   refine bodyPost_ret (v := .tuple #[.agg #[.int .i64 0, .slice none 0 0, .string ⟨#[]⟩], .int .i64 0, .bool false]) (by simp [results, Tryz.results108, go_sem]) rfl ⟨⟨frm0, none, 0⟩, 0, false, by rfl, (by exact Since.alloc (Since.refl _) _), frm0_in _, by rw [P1.out]; rfl, fun _ => ⟨rfl, rfl⟩, newA_nil _⟩
 have hx1' : decide (x < 1) = false := by simpa using hx1
 have hx8 : 8 < x := by omega
 clear hb' hx1
 go_enter Tryz.func108, Tryz.ntmps108
 go_wp2_with fail
 refine bodyPost_ret (v := .tuple #[.agg #[.int .i64 0, .slice none 0 0, .string ⟨#[]⟩], .int .i64 0, .bool false]) (by simp [results, Tryz.results108, go_sem]) rfl ⟨⟨frm0, none, 0⟩, 0, false, by rfl, (by exact Since.alloc (Since.refl _) _), frm0_in _, by rw [P1.out]; rfl, fun _ => ⟨rfl, rfl⟩, newA_nil _⟩
theorem rwhole_any (cut b next : Int) (w : World) :
  Calls Tryz.prog 107 #[.int .i64 cut, .int .i64 b, .int .i64 next] w fun e w' => e = .returned (.tuple #[.int .i64 (wholeV cut b next), .bool (decide (wholeE cut b next = 0))]) ∧ w = w' := by
 by_cases h : WholeOk cut b next
 · rw [show wholeV cut b next = wholeN cut b next by unfold wholeV; rw [if_pos h], show wholeE cut b next = 0 by unfold wholeE; rw [if_pos h]]
   exact rwhole_yes cut b next h w
 · rw [show wholeV cut b next = 0 by unfold wholeV; rw [if_neg h], show wholeE cut b next = 1 by unfold wholeE; rw [if_neg h]]
   exact rwhole_no cut b next h w
abbrev RoPost (b : List UInt8) (next : Int) (w : World) (e : Ending) (w' : World) : Prop := ∃ (A : Option Addr) (n c : Nat) (Ms : List FrmV), e = .returned (.tuple #[.int .i64 (openN b next), .slice A n c, .int .i64 (openE b next)]) ∧ Below w.heap.size w w' ∧ FrmsIn w' (.slice A n c) Ms ∧ Ms.length = n ∧ Ms.map (·.f) = openL b next
theorem roPost_bad {b : List UInt8} {next k : Int} {w w' : World} {e : Ending} (p1 : openE b next = k) (hk : k ≠ 0) (he : e = .returned (.tuple #[.int .i64 0, .slice none 0 0, .int .i64 k])) (hw : Below w.heap.size w w') : RoPost b next w e w' := by
 obtain ⟨p2, p3⟩ := op_bad p1 hk
 exact ⟨none, 0, 0, [], by rw [he, p1, p2], hw, frms0 _, rfl, by rw [p3]; rfl⟩
theorem openHead {b : List UInt8} {next : Int} (h : MayBe next) (h2 : ¬ 200 < b.length) (h3 : ¬ (1 ≤ bat b 0 ∧ bat b 0 ≤ 4 ∧ bat b 0 < b.length)) : openE b next = 2 :=
 op_head h h2 (fun hh => h3 ⟨hh.2.1, hh.2.2.1, hh.2.2.2.1⟩)
theorem ropen (s : ByteArray) (next : Int) (w : World) (hz : s.size ≤ 9223372036854775707) :
  Calls Tryz.prog 59 #[.string s, .int .i64 next] w fun e w' => RoPost s.data.toList next w e w' := by
 have hsz : s.data.toList.length = s.size := rfl
 have FP := Lib.hid (fun k W => rfread (s.extract k s.size) W (Nat.le_trans (str_drop_size s k) hz))
 have HDR := Lib.hid (fun k => str_drop s k)
 have HAT := Lib.hid (fun k h => str_at s k h)
 obtain ⟨b, hb⟩ : ∃ b, s.data.toList = b := ⟨_, rfl⟩
 rw [hb] at hsz HAT ⊢
 have HDB : Hid (∀ k, (s.extract k s.size).data.toList = b.drop k) := Lib.hid (fun k => by rw [HDR.out, hb])
 have HSZ := Lib.hid hsz
 clear hb HDR
 by_cases hm : MayBe next
 case neg =>
  have P1 := Lib.hid (op_may (b := b) hm)
  have hmb := Lib.hid (mayB_not hm)
  clear hm hsz
  go_enter Tryz.func59, Tryz.ntmps59
  go_wp2_with fail
  refine (rmay_any next _).mono ?_
  rintro e w1 ⟨rfl, rfl⟩
  rw [hmb.out]
  go_wp2_with fail
  go_ret3
  exact roPost_bad P1.out (by decide) rfl (Below.refl _ _)
 have HM := Lib.hid hm
 have hmb := Lib.hid (mayB_iff.2 hm)
 clear hm
 by_cases h200 : 200 < s.size
 · have P1 := Lib.hid (op_big (b := b) HM.out (by omega))
   have h200' : (200 : Int) < (s.size : Int) := by omega
   clear hsz
   go_enter Tryz.func59, Tryz.ntmps59
   go_wp2_with fail
   refine (rmay_any next _).mono ?_
   rintro e w1 ⟨rfl, rfl⟩
   rw [hmb.out]
   go_wp2_with fail
   go_ret3
   exact roPost_bad P1.out (by decide) rfl (Below.refl _ _)
 have h200' : decide ((200 : Int) < (s.size : Int)) = false := by simp; omega
 have HB2 : Hid (¬ 200 < b.length) := Lib.hid (by omega)
 have hs200 : s.size ≤ 200 := by omega
 clear h200
 by_cases h0 : s.size = 0
 · obtain ⟨e1, e2⟩ := str_empty h0
   have P1 := Lib.hid (openHead (b := b) HM.out HB2.out (fun hh => by omega))
   clear h0 hsz
   go_enter Tryz.func59, Tryz.ntmps59
   go_wp2_with fail
   refine (rmay_any next _).mono ?_
   rintro e w1 ⟨rfl, rfl⟩
   rw [hmb.out]
   go_wp2_with fail
   go_ret3
   exact roPost_bad P1.out (by decide) rfl (Below.refl _ _)
 obtain ⟨e1, e2⟩ := str_full h0
 have hpos : 0 < s.size := by omega
 have e0 := HAT.out 0 hpos
 obtain ⟨y0, y1⟩ := bat_bounds b 0
 have HOH := Lib.hid (fun h3 => openHead (b := b) HM.out HB2.out h3)
 have HOP := Lib.hid (fun (h4 : ¬ WholeOk (cutOf b (bat b 0)) (bat b 0) next) => op_head (b := b) HM.out HB2.out (fun hh => h4 hh.2.2.2.2))
 have HHY : Hid (1 ≤ bat b 0 → bat b 0 ≤ 4 → bat b 0 < b.length → WholeOk (cutOf b (bat b 0)) (bat b 0) next → HeadOk b next) := Lib.hid (fun a1 a2 a3 a4 => ⟨fun hh => by rw [hh] at hsz; simp at hsz; omega, a1, a2, a3, a4⟩)
 have HOSS := Lib.hid (fun hh => fun L p h hx => op_some (b := b) HM.out HB2.out hh (opF_some (L := L) (p := p) h hx))
 have HONN := Lib.hid (fun hh => fun h => op_none (b := b) HM.out HB2.out hh (opF_none h))
 have HOFF := Lib.hid (fun hh => fun L p h hx => op_none (b := b) HM.out HB2.out hh (opF_few (L := L) (p := p) h hx))
 have HCO := Lib.hid (fun (m : Nat) (a1 : 1 ≤ m) (a2 : m ≤ 4) => cutU_of b a1 a2)
 have HCB := Lib.hid (cutU_bounds b)
 have HBB := Lib.hid (bat_bounds b)
 obtain ⟨x, hx⟩ : ∃ x, bat b 0 = x := ⟨_, rfl⟩
 rw [hx] at e0 y0 y1 HOH HOP HHY HOSS HONN HOFF
 have hwrap : IntKind.i64.wrap x = x := by simp [IntKind.wrap, IntKind.bits, IntKind.signed]; omega
 by_cases hx1 : x < 1
 · have P1 := Lib.hid (HOH.out (by omega))
   clear hx h0 hsz
   go_enter Tryz.func59, Tryz.ntmps59
   go_wp2_with fail
   refine (rmay_any next _).mono ?_
   rintro e w1 ⟨rfl, rfl⟩
   rw [hmb.out]
   go_wp2_with fail
   go_ret3
   exact roPost_bad P1.out (by decide) rfl (Below.refl _ _)
 have hx1' : decide (x < 1) = false := by simpa using hx1
 by_cases hx4 : 4 < x
 · have P1 := Lib.hid (HOH.out (by omega))
   clear hx h0 hsz hx1
   go_enter Tryz.func59, Tryz.ntmps59
   go_wp2_with fail
   refine (rmay_any next _).mono ?_
   rintro e w1 ⟨rfl, rfl⟩
   rw [hmb.out]
   go_wp2_with fail
   go_ret3
   exact roPost_bad P1.out (by decide) rfl (Below.refl _ _)
 have hx4' : decide (4 < x) = false := by simpa using hx4
 have hg1 : ¬ (x < 1 ∨ 4 < x) := by omega
 by_cases hlen : (s.size : Int) ≤ x
 · have P1 := Lib.hid (HOH.out (by have := HSZ.out; omega))
   clear hx h0 hsz hx1 hx4
   go_enter Tryz.func59, Tryz.ntmps59
   go_wp2_with fail
   refine (rmay_any next _).mono ?_
   rintro e w1 ⟨rfl, rfl⟩
   rw [hmb.out]
   go_wp2_with fail
   go_ret3
   exact roPost_bad P1.out (by decide) rfl (Below.refl _ _)
 have hlen' : decide ((s.size : Int) ≤ x) = false := by simpa using hlen
 have hg2 : ¬ ((x < 1 ∨ 4 < x) ∨ (s.size : Int) ≤ x) := by omega
 obtain ⟨m, rfl⟩ : ∃ m : Nat, x = m := ⟨x.toNat, by omega⟩
 have hm1 : 1 ≤ m := by omega
 have hm4 : m ≤ 4 := by omega
 have hml : m < s.size := by omega
 have HHY2 := Lib.hid (HHY.out (by omega) (by omega) (by omega))
 clear hx h0 hsz hx1 hx4 hlen HHY HOH
 go_enter Tryz.func59, Tryz.ntmps59
 go_wp2_with fail
 refine (rmay_any next _).mono ?_
 rintro e w1 ⟨rfl, rfl⟩
 rw [hmb.out]
 go_wp2_with fail
 obtain ⟨wo, rfl⟩ : ∃ wo : World, wo = w := ⟨_, rfl⟩
 go_loopw [9, 10] (fun s9 s10 wr => ∃ j : Nat, s10 = .int .i64 ((j + 1 : Nat) : Int) ∧ j ≤ m ∧ s9 = .int .i64 (cutU b j) ∧ wr = wo) (fun _ s10 _ => m + 1 - (intOf s10).toNat)
 case atStart => exact ⟨0, rfl, Nat.zero_le _, rfl, rfl⟩
 case round =>
  obtain ⟨j, rfl, hj, rfl, rfl⟩ := hrel
  by_cases hjm : j < m
  case neg =>
   obtain rfl : j = m := by omega
   have hf : decide (((j + 1 : Nat) : Int) ≤ (j : Int)) = false := by simp; omega
   go_wp2_with fail
   refine (rwhole_any (cutU b j) j next _).mono ?_
   rintro e w1 ⟨rfl, rfl⟩
   rw [HCO.out j hm1 hm4]
   by_cases hw : WholeOk (cutOf b j) j next
   case neg =>
    have P1 := Lib.hid (HOP.out hw)
    rw [show wholeE (cutOf b j) j next = 1 by unfold wholeE; rw [if_neg hw], show decide ((1 : Int) = 0) = false by decide]
    clear hw
    generalize wholeV (cutOf b j) j next = W at *
    go_wp2_with fail
    go_ret3
    exact roPost_bad P1.out (by decide) rfl (Below.refl _ _)
   have HH := Lib.hid (HHY2.out hw)
   rw [show wholeE (cutOf b j) j next = 0 by unfold wholeE; rw [if_pos hw], show decide ((0 : Int) = 0) = true by decide, show wholeV (cutOf b j) j next = wholeN (cutOf b j) j next by unfold wholeV; rw [if_pos hw]]
   obtain ⟨k0, hk0⟩ : ∃ k0, (j : Int).toNat + 1 = k0 := ⟨_, rfl⟩
   have hk1 : 1 + (j : Int) = (k0 : Int) := by omega
   have hkb : k0 ≤ b.length := by have := HSZ.out; omega
   have HON := Lib.hid (HONN.out HH.out)
   have HOF := Lib.hid (HOFF.out HH.out)
   have HOS := Lib.hid (HOSS.out HH.out)
   rw [hk0] at HON HOF HOS
   have HST : Hid (∀ W, Since wr W → PsSt wr W b k0 0 k0 none 0 []) := Lib.hid (fun W hW => ⟨Lst.nil _ _ _, by simp, by simp [Value.ownBlock], hW, rfl, rfl, hkb, by omega⟩)
   generalize wholeN (cutOf b j) j next = N at *
   generalize cutOf b j = C at *
   have hov := HSZ.out
   clear hw hkb hk0 HONN HOFF HOSS HHY2 HOP
   go_wp2_with fail
   obtain ⟨w, rfl⟩ : ∃ w : World, w = wr := ⟨_, rfl⟩
   go_loopw [13, 14] (fun s13 s14 wr => ∃ (i p : Nat) (A : Option Addr) (c : Nat) (Ms : List FrmV), s13 = .int .i64 p ∧ s14 = .slice A i c ∧ p ≤ s.size ∧ Hid (PsSt w wr b k0 i p A c Ms)) (fun s13 _ _ => s.size - (intOf s13).toNat)
   case atStart => exact ⟨0, k0, none, 0, [], by first | rfl | rw [hk1], rfl, by have := (HST.out w (Since.refl w)).le; omega, Lib.hid (HST.out w (Since.refl w))⟩
   case round =>
    obtain ⟨i, p, A, c, Ms, rfl, rfl, hp, HS⟩ := hrel
    have hs := Lib.hid HS.out.since
    have HML := Lib.hid HS.out.len
    by_cases hlt : p < s.size
    case neg =>
     have hf : decide ((p : Int) < (s.size : Int)) = false := by simp; omega
     have hup : rdFs b k0 b.length = some (Ms.map (·.f), p) := rdFs_end HS.out.up (by have := HSZ.out; omega) _ (by have := HS.out.ip; have := HS.out.le; omega)
     have hmm : (Ms.map (·.f)).length = i := by rw [List.length_map, HML.out]
     by_cases h0 : i = 0
     · subst h0
       have P1 := Lib.hid (HOF.out _ _ hup (Or.inl (List.length_eq_zero_iff.1 hmm)))
       clear hup hmm
       go_wp2_with fail
       go_ret3
       exact roPost_bad P1.out (by decide) rfl hs.out
     have h0' : ((i : Int) == 0) = false := by rw [beq_eq_false_iff_ne]; omega
     by_cases h12 : 12 < i
     · have P1 := Lib.hid (HOF.out _ _ hup (Or.inr (by rw [hmm]; exact h12)))
       have h12' : (12 : Int) < (i : Int) := by omega
       clear hup hmm h0
       go_wp2_with fail
       go_ret3
       exact roPost_bad P1.out (by decide) rfl hs.out
     obtain ⟨p1, p2, p3⟩ := HOS.out _ _ hup (fun hx => by
      rcases hx with hx | hx
      · have := congrArg List.length hx; rw [hmm] at this; exact h0 this
      · rw [hmm] at hx; exact h12 hx)
     have P1 := Lib.hid p1
     have P2 := Lib.hid p2
     have P3 := Lib.hid p3
     have h12' : decide ((12 : Int) < (i : Int)) = false := by simp; omega
     clear p1 p2 p3 hup hmm h0 h12
     go_wp2_with fail
     go_ret3
     exact ⟨A, i, c, Ms, by rw [P1.out, P2.out]; rfl, hs.out, ⟨fun g hg => (HS.out.each g hg).1, Rd.of_lst HS.out.ls⟩, HML.out, P3.out.symm⟩
    have hlt' : (p : Int) < (s.size : Int) := by omega
    have hp0 : (p : Int) ≤ (s.size : Int) := by omega
    have FPp := Lib.hid (FP.out p)
    rw [HDB.out] at FPp
    clear hlt
    go_wp2_with fail
    refine (FPp.out _).mono ?_
    rintro e w2 ⟨g, n, ok, rfl, hb2, hg2, hrd, hno, hgn2⟩
    cases ok with
    | false =>
      simp only [Bool.false_eq_true, if_false] at hrd
      have P1 := Lib.hid (HON.out (rdFs_none (rdFs_no HS.out.up (by omega) hrd) _ (by have := HS.out.ip; omega)))
      have hs2 := hs.out.later hb2
      clear hrd hg2 hno hgn2 hb2
      go_wp2_with fail
      go_ret3
      exact roPost_bad P1.out (by decide) rfl (by exact Since.alloc hs2 _)
    | true =>
      simp only [if_true] at hrd
      have HRD := Lib.hid hrd
      obtain ⟨_, r2, r3, _⟩ := readF_inv hrd
      rw [List.length_drop] at r3
      have HLS := Lib.hid (((HS.out.ls.later hb2).alloc (.cells #[.int .i64 g.f.kind, .slice g.A g.f.nums.length g.cap, .string g.f.data] 93)).alloc (.cells #[.int .i64 g.f.kind, .slice g.A g.f.nums.length g.cap, .string g.f.data] 93))
      have HMR : Hid ((Ms.map frmRow).length = i) := Lib.hid (by rw [List.length_map, HML.out])
      have HSTEP := Lib.hid (fun q9 c9 w9 o1 o2 hl ho hq => HS.out.step (q9 := q9) (c9 := c9) (w9 := w9) (o1 := o1) (o2 := o2) hb2 hg2 hgn2 HRD.out (by omega) hl ho hq)
      have HBK := Lib.hid (BlockIs.fresh (w2.alloc (.cells #[.int .i64 g.f.kind, .slice g.A g.f.nums.length g.cap, .string g.f.data] 93)) 93 #[.int .i64 g.f.kind, .slice g.A g.f.nums.length g.cap, .string g.f.data])
      rw [World.size_alloc] at HBK
      obtain ⟨pn, hpn0⟩ : ∃ pn, p + n = pn := ⟨_, rfl⟩
      have hpn : (p : Int) + (n : Int) = (pn : Int) := by omega
      have hpn3 : p < pn := by omega
      have hpn4 : pn ≤ s.size := by omega
      rw [hpn0] at HSTEP
      clear hpn0
      have hi6 : i ≤ 200 := by have := HS.out.ip; omega
      clear hrd hg2 hno hgn2 hb2
      go_wp2_with (at_builtin; refine wpList_push rfl _ _ 91 rfl 93 3 48 Tryz.elFrm (.slice A i c) (Ms.map frmRow) rfl HLS.out (w2.heap.size + 1) 1 (frmRow g) rfl rfl (frmRow_one g).2 HBK.out (by rw [HMR.out]; omega) ?_; intro q9 cq w5 hl5 ho5 hq5 hlt5; rw [HMR.out] at hl5; (try rw [HMR.out]); have HN5 := Lib.hid (HSTEP.out q9 cq w5 _ _ hl5 ho5 hq5); clear hl5 ho5 hq5 hlt5)
      go_wp2_with fail
      go_roundw
      case rel => exact ⟨i + 1, pn, some ⟨q9, 0, none⟩, cq, Ms ++ [g], by first | rfl | (rw [hpn]), rfl, hpn4, HN5⟩
      case measure => simp [intOf]; omega
  have hjm' : (((j + 1 : Nat) : Int) ≤ (m : Int)) := by omega
  have cj := HAT.out (j + 1) (by omega)
  obtain ⟨y0, y1⟩ := HBB.out (j + 1)
  obtain ⟨z0, z1⟩ := HCB.out j
  have HCU : Hid (cutU b (j + 1) = 256 * cutU b j + bat b (j + 1)) := Lib.hid rfl
  have z2 : cutU b j < 16777216 := by
   have : j = 0 ∨ j = 1 ∨ j = 2 ∨ j = 3 := by omega
   rcases this with rfl | rfl | rfl | rfl <;> simp at z1 <;> omega
  clear z1
  have hjs : ((j + 1 : Nat) : Int) < (s.size : Int) := by omega
  generalize bat b (j + 1) = y at *
  generalize cutU b j = c at *
  have hwy : IntKind.i64.wrap y = y := by simp [IntKind.wrap, IntKind.bits, IntKind.signed]; omega
  go_wp2_with fail
  go_roundw
  case rel => exact ⟨j + 1, by go_num, by omega, by rw [HCU.out], by first | rfl | trivial⟩
  case measure => simp [intOf]; omega
end Go.Proofs.YtmfbaijbigodkaaGreatDoor
