/- TopLossy: for every size, data and any two counts the law returns true: whatever is lost each way, all that was written is read, in order. Condition: errors.errorType and the tables of kinds and counts hold what the program's text lays (the row lists them, the card ties them). -/
import Derived.Test.YtaindcicloapfaaGreatDoorZF
import Derived.Test.YtaindcicloapfaaGreatDoorCards
import Derived.Test.YtaindcicloapfaaGreatDoorTie
import Derived.Deep.DeepHandedRow
import Derived.LaidLaws
import Derived.LaidHandle
import Derived.Deep.DeepWitnessRowRef
import Derived.Test.YtaindcicloapfaaGreatDoorRows
import Derived.WalkKit
import Derived.ProofKit
import Derived.OpenShut
import Derived.ShutString
import Derived.ChangeOld
import Derived.Below
import Derived.Lib.SmallJoins
import Derived.Deep.Slices
import Derived.Deep.Matrix
import Derived.Deep.Strs
namespace Go.Proofs.YtaindcicloapfaaGreatDoor.topLossy
open Go.ChangeShapes Go.WideShapes Go.ChangeAt Go.RowKit
open Go.ChangeMaps (open_string shut_string)
set_option linter.unusedVariables false

noncomputable abbrev laidWorld := YtaindcicloapfaaGreatDoor.laidWorld2
theorem laidMetW (os : Os) (args : Array Value) : laidMetH Tryz.prog Rows.topLossyRow.laid ((laidWorld os).forCall (fun _ _ => 0) ⟨#[], args, []⟩).memory := laidMet_ekc os args
theorem laidWalk {W : World} (h : laidMetH Tryz.prog Rows.topLossyRow.laid W) : ETok W ∧ KTab W ∧ CTab W := laid_ekc h
def q1 : EnS := (EnS.new 9).write ⟨#[113]⟩
theorem q1_eq : q1 = { EnS.new 9 with data := ⟨#[113]⟩ } := (new_write (n := 9) (d := ⟨#[113]⟩) (by decide)).1
theorem q1_ok : EnOk q1 := (EnOk.new (by decide) (by decide)).write ⟨#[113]⟩
theorem fact_take : (EnS.new 9).takeE q1.packet = 0 := by
  rw [(first_take q1_ok (by rw [q1_eq]; rfl) (by rw [q1_eq]; rfl) rfl).1, q1_eq]
  decide
theorem fact_read : ((EnS.new 9).take q1.packet).readS 5 = ⟨#[113]⟩ := by
  rw [(first_take q1_ok (by rw [q1_eq]; rfl) (by rw [q1_eq]; rfl) rfl).2, q1_eq]
  decide
theorem pk_size {x : EnS} (h : EnOk x) (hm : x.made.length ≤ 1000000) : (ByteArray.mk x.packet.toArray).size ≤ 9223372036854775000 := by
  have := (h.packetOk hm).2.2
  show x.packet.toArray.size ≤ _
  rw [List.size_toArray]; omega
theorem etakeP (g : Nat) (s x : EnS) (w : World) (S : List Nat) (h : (endT g s).is w S) (hK : KTab w) (hC : CTab w) (h1000 : s.made.length ≤ 1000) (hx : EnOk x) (hm : x.made.length ≤ 1000000) :
    Calls Tryz.prog 18 #[.pointer (some ⟨g, 0, none⟩), .string ⟨x.packet.toArray⟩] w fun e w' => e = .returned (errV (s.takeE x.packet)) ∧ Leaves w w' S (endT g (s.take x.packet)) := by
  have h1 := etake g s ⟨x.packet.toArray⟩ w S h hK hC h1000 (pk_size hx hm)
  simp only at h1
  exact h1
set_option maxRecDepth 100000 in
set_option maxHeartbeats 3200000 in
theorem one_yes (w : World) (hkc : KTab w ∧ CTab w) : Calls Tryz.prog 37 #[] w fun e w' => e = .returned (.bool true) ∧ Below w.heap.size w w' := by
  have HK := Lib.hid hkc.1
  have HC := Lib.hid hkc.2
  have F1 := Lib.hid fact_take
  have F2 := Lib.hid fact_read
  have FW : Hid ((EnS.new 9).writeE ⟨#[113]⟩ = 0) := Lib.hid (new_write (n := 9) (d := ⟨#[113]⟩) (by decide)).2
  clear hkc
  go_enter Tryz.func37, Tryz.ntmps37
  go_wp2_with fail
  refine (enew 9 (by decide) (by decide) _).mono ?_
  rintro e w1 ⟨g1, rfl, hl⟩
  have HW1 : Hid (Own w [] w1 [endT g1 (EnS.new 9)]) := Lib.hid ((Own.start w).made hl)
  clear hl
  go_wp2_with fail
  refine (enew 9 (by decide) (by decide) _).mono ?_
  rintro e w2 ⟨g2, rfl, hl⟩
  have HW2 : Hid (Own w [] w2 [endT g1 (EnS.new 9), endT g2 (EnS.new 9)]) := Lib.hid (HW1.out.made hl)
  clear hl HW1
  obtain ⟨S, hS, up⟩ := HW2.out.at_ 0 rfl
  go_wp2_with fail
  refine (ewrite g1 (EnS.new 9) ⟨#[113]⟩ _ S hS (by decide)).mono ?_
  rintro e w3 ⟨rfl, hl⟩
  rw [FW.out, errV_zero]
  have HW3 : Hid (Own w [] w3 [endT g1 q1, endT g2 (EnS.new 9)]) := Lib.hid (up _ _ hl)
  clear hl HW2 hS up
  obtain ⟨S, hS, up⟩ := HW3.out.at_ 0 rfl
  go_wp2_with fail
  refine (emake g1 q1 _ S hS (HK.out.later HW3.out.since) (by rw [q1_eq]; show 0 ≤ 1000; omega)).mono ?_
  rintro e w4 ⟨rfl, hl⟩
  have HW4 : Hid (Own w [] w4 [endT g1 q1.make, endT g2 (EnS.new 9)]) := Lib.hid (up _ _ hl)
  clear hl HW3 hS up
  obtain ⟨S, hS, up⟩ := HW4.out.at_ 1 rfl
  go_wp2_with fail
  refine (etakeP g2 (EnS.new 9) q1 _ S hS (HK.out.later HW4.out.since) (HC.out.later HW4.out.since) (by show 0 ≤ 1000; omega) q1_ok (by rw [q1_eq]; show 0 ≤ 1000000; omega)).mono ?_
  rintro e w5 ⟨rfl, hl⟩
  rw [F1.out, errV_zero]
  have HW5 : Hid (Own w [] w5 [endT g1 q1.make, endT g2 ((EnS.new 9).take q1.packet)]) := Lib.hid (up _ _ hl)
  clear hl HW4 hS up
  obtain ⟨S, hS, up⟩ := HW5.out.at_ 1 rfl
  go_wp2_with fail
  refine (eread g2 ((EnS.new 9).take q1.packet) 5 _ S hS).mono ?_
  rintro e w6 ⟨rfl, hl⟩
  rw [show EnS.readE 5 = 0 from rfl, errV_zero, F2.out]
  have HW6 := Lib.hid (up _ _ hl)
  clear hl HW5 hS up
  go_wp2_with fail
  go_ret
  exact ⟨rfl, HW6.out.since⟩
theorem same_at (n : Int) (hn : n ≠ 0) (w : World) (hg : ETok w) : Calls Tryz.prog 10 #[.iface 118 (.int .i64 n), .int .i64 n] w fun ev w' => ev = .returned (.bool true) ∧ Below w.heap.size w w' := by
  have := same_yes n w hg
  rw [errV_pos hn] at this
  exact this
theorem all_text {d : ByteArray} {t : Nat} (h : t = d.size) : d.extract 0 t = d := by
  rw [h]; exact ByteArray.extract_zero_size
theorem ly_half {n : Int} {ev ot r : Nat} {x y : EnS} (h : Ly n ev ot x y r) (hn : 10 ≤ n) (hl : ¬ (r + 1) % ev = 0) (hr : r ≤ 1000) (h0 : y.takeE x.packet = 0) :
    Lh n ev ot x.make ((y.take x.packet).read 60) r ∧ x.data.extract 0 y.t ++ (y.take x.packet).readS 60 = x.data.extract 0 ((y.take x.packet).read 60).t ∧ ((y.take x.packet).read 60).t ≤ x.data.size := by
  have h4 : y.takeE x.packet ≠ 4 := by rw [h0]; decide
  have hh := h.hear hn hl hr h4
  obtain ⟨a, m, c, l1, l2, l3⟩ := h.lo
  obtain ⟨e0, C', M', c, hp, hf, hM⟩ := send_take l1.pr (by rw [h.mx]; omega) h4
  obtain ⟨f1, f2, f3, f4, f5, f6, f7, f8, f9⟩ := got_fields y x.made.length x.came x.L C' M'
  have ht := (read_text hp 60).2
  have ht2 := (read_text (hp.symm.read 60).symm 60).1
  refine ⟨hh, ?_, ht2⟩
  rw [c, f4, ← c] at ht
  exact ht
theorem ly_halfL {n : Int} {ev ot r : Nat} {x y : EnS} (h : Ly n ev ot x y r) (he : 2 ≤ ev) (hl : (r + 1) % ev = 0) :
    Lh n ev ot x.make (y.read 60) r ∧ x.data.extract 0 y.t ++ y.readS 60 = x.data.extract 0 (y.read 60).t ∧ (y.read 60).t ≤ x.data.size := by
  have hh := h.loseX he hl
  obtain ⟨a, m, c, l1, l2, l3⟩ := h.lo
  exact ⟨hh, (read_text l1.pr 60).2, (read_text (l1.pr.symm.read 60).symm 60).1⟩
theorem ly_bad {n : Int} {ev ot r : Nat} {x y : EnS} (h : Ly n ev ot x y r) (he : 2 ≤ ev) (hr : r ≤ 1000) (hb : y.takeE x.packet ≠ 0) : y.takeE x.packet = 4 ∧ x.data.extract 0 y.t = x.data := by
  obtain ⟨a, b⟩ := h.late he hr hb
  exact ⟨b, all_text (h.all (by omega))⟩
theorem lh_bad {n : Int} {ev ot r : Nat} {x y : EnS} (h : Lh n ev ot x y r) (he : 2 ≤ ot) (hr : r ≤ 1000) (hb : x.takeE y.packet ≠ 0) : x.takeE y.packet = 4 ∧ x.data.extract 0 y.t = x.data := by
  obtain ⟨a, b⟩ := h.late he hr hb
  exact ⟨b, all_text (h.all (by omega))⟩
theorem ly_oks {n : Int} {ev ot r : Nat} {x y : EnS} (h : Ly n ev ot x y r) : EnOk x ∧ EnOk y := by
  obtain ⟨a, m, c, l1, l2, l3⟩ := h.lo
  exact ⟨l1.pr.ox, l1.pr.oy⟩
theorem lh_oks {n : Int} {ev ot r : Nat} {x y : EnS} (h : Lh n ev ot x y r) : EnOk x ∧ EnOk y := by
  obtain ⟨a, m, c, l1, l2, l3⟩ := h.lo
  exact ⟨l1.pr.ox, l1.pr.oy⟩

set_option maxRecDepth 100000 in
set_option maxHeartbeats 6400000 in
theorem walk (n : Int) (d : ByteArray) (ev ot : Int) (w : World) (w0 : (Lit.int .i64 n).wf = true) (wd : d.size ≤ 140737488351232) (we : (Lit.int .i64 ev).wf = true) (wo : (Lit.int .i64 ot).wf = true) (hL : ETok w ∧ KTab w ∧ CTab w) :
    Calls Tryz.prog 6 #[.int .i64 n, .string d, .int .i64 ev, .int .i64 ot] w fun e w' => e = .returned (.bool true) ∧ Below w.heap.size w w' := by
  have HE := Lib.hid hL.1
  have HK := Lib.hid hL.2.1
  have HC := Lib.hid hL.2.2
  have HONE := Lib.hid (one_yes w hL.2)
  clear hL w0 we wo
  go_enter Tryz.func6, Tryz.ntmps6
  go_wp2_with fail
  refine HONE.out.mono ?_
  rintro e w1 ⟨rfl, hb1⟩
  clear HONE
  have HW1 : Hid (Own w [] w1 []) := Lib.hid ((Own.start w).later hb1)
  clear hb1
  by_cases hn : 1 ≤ n ∧ n ≤ 1000
  case neg =>
    go_wp2_with fail
    refine (enew_no n hn _).mono ?_
    rintro e w2 ⟨rfl, hb2⟩
    rw [errV_pos (show (1 : Int) ≠ 0 by decide)]
    have HW2 := Lib.hid (HW1.out.later hb2)
    clear hb2 HW1
    go_wp2_with fail
    refine (enew_no n hn _).mono ?_
    rintro e w3 ⟨rfl, hb3⟩
    rw [errV_pos (show (1 : Int) ≠ 0 by decide)]
    have HW3 := Lib.hid (HW2.out.later hb3)
    clear hb3 HW2 hn
    go_wp2_with fail
    go_ret
    exact ⟨rfl, HW3.out.since⟩
  have HN := Lib.hid hn
  go_wp2_with fail
  refine (enew n HN.out.1 HN.out.2 _).mono ?_
  rintro e w2 ⟨gx, rfl, hl⟩
  have HW2 : Hid (Own w [] w2 [endT gx (EnS.new n)]) := Lib.hid (HW1.out.made hl)
  clear hl HW1 hn
  go_wp2_with fail
  refine (enew n HN.out.1 HN.out.2 _).mono ?_
  rintro e w3 ⟨gy, rfl, hl⟩
  have HW3 : Hid (Own w [] w3 [endT gx (EnS.new n), endT gy (EnS.new n)]) := Lib.hid (HW2.out.made hl)
  clear hl HW2
  by_cases he : ev < 2
  · go_wp2_with fail
    go_ret
    exact ⟨rfl, HW3.out.since⟩
  by_cases ho : ot < 2
  · have he' : decide (ev < 2) = false := by simpa using he
    clear he
    go_wp2_with fail
    go_ret
    exact ⟨rfl, HW3.out.since⟩
  by_cases h10 : n < 10
  · have he' : decide (ev < 2) = false := by simpa using he
    have ho' : decide (ot < 2) = false := by simpa using ho
    clear he ho
    go_wp2_with fail
    go_ret
    exact ⟨rfl, HW3.out.since⟩
  have he' : decide (ev < 2) = false := by simpa using he
  have ho' : decide (ot < 2) = false := by simpa using ho
  have h10' : decide (n < 10) = false := by simpa using h10
  have H10 : Hid (10 ≤ n) := Lib.hid (by omega)
  obtain ⟨S, hS, up⟩ := HW3.out.at_ 0 rfl
  have HV : Hid (2 ≤ ev ∧ 2 ≤ ot) := Lib.hid (by omega)
  clear he ho h10
  go_wp2_with fail
  refine (ewrite gx (EnS.new n) d _ S hS (by omega)).mono ?_
  rintro e w4 ⟨rfl, hl⟩
  have HW4 := Lib.hid (up _ _ hl)
  clear hl HW3 hS up
  by_cases h60 : d.size ≤ 60
  case neg =>
    rw [new_full h60, errV_pos (show (4 : Int) ≠ 0 by decide)]
    clear h60
    go_wp2_with fail
    go_ret
    exact ⟨rfl, HW4.out.since⟩
  have H60 := Lib.hid h60
  rw [(new_write h60).2, errV_zero]
  clear he' ho' h10'
  obtain ⟨e, hev⟩ : ∃ e : Nat, ev = e := ⟨ev.toNat, by have := HV.out.1; omega⟩
  obtain ⟨o, hot⟩ : ∃ o : Nat, ot = o := ⟨ot.toNat, by have := HV.out.2; omega⟩
  subst hev hot
  have HO : Hid (2 ≤ e ∧ 2 ≤ o) := Lib.hid (by have := HV.out; omega)
  have HY : Hid (Ly n e o ((EnS.new n).write d) (EnS.new n) 0) := Lib.hid (Ly.start HN.out.1 HN.out.2 h60)
  have HD : Hid (((EnS.new n).write d).data = d) := Lib.hid (by rw [(new_write h60).1])
  clear HV h60
  go_wp2_with fail
  go_loopw [14, 15] (fun s14 s15 wr => ∃ (i r : Nat) (x y : EnS), s15 = .int .i64 i ∧ i = r + 1 ∧ r ≤ 60 ∧ s14 = .string (d.extract 0 y.t) ∧ Ly n e o x y r ∧ x.data = d ∧ Own w [] wr [endT gx x, endT gy y]) (fun _ s15 _ => 62 - (intOf s15).toNat)
  case atStart => exact ⟨1, 0, _, _, rfl, rfl, by omega, by simp [EnS.new]; rfl, HY.out, HD.out, HW4.out⟩
  case round =>
    obtain ⟨i, r, x, y, rfl, hir, hr, rfl, hy, hd, hw⟩ := hrel
    have HW := Lib.hid hw
    have HLY := Lib.hid hy
    have HDX := Lib.hid hd
    have HIR := Lib.hid hir
    clear hw hy hd HY HD HW4
    by_cases h60 : i ≤ 60
    case neg =>
      have h60' : decide ((i : Int) ≤ 60) = false := by simp; omega
      have hall : d.extract 0 y.t = d := by rw [← HDX.out]; exact all_text (HLY.out.all (by omega))
      rw [hall]
      clear hall h60 hir
      go_wp2_with fail
      go_ret
      exact ⟨by first | rfl | simp, HW.out.since⟩
    have h60' : (i : Int) ≤ 60 := by omega
    have hmk : x.made.length ≤ 1000 := by rw [HLY.out.mx]; omega
    obtain ⟨G, hG⟩ : ∃ G, d.extract 0 y.t = G := ⟨_, rfl⟩
    have HG := Lib.hid hG
    rw [hG]
    obtain ⟨S, hS, up⟩ := HW.out.at_ 0 rfl
    have ne : ¬ e = 0 := by have := HO.out; omega
    have no : ¬ o = 0 := by have := HO.out; omega
    have ne2 : ((e : Int) == 0) = false := by simpa using ne
    have no2 : ((o : Int) == 0) = false := by simpa using no
    clear hir hG
    go_wp2_with fail
    refine (emake gx x _ S hS (HK.out.later HW.out.since) hmk).mono ?_
    rintro e1 w5 ⟨rfl, hl⟩
    have HW5 : Hid (Own w [] w5 [endT gx x.make, endT gy y]) := Lib.hid (up _ _ hl)
    clear hl HW hS up
    repeat ((fail_if_success (with_reducible refine stop_at 13 ?_)); first | fail | go_values | go_skip | go_guarded | go_step | go_upon | go_back | go_simp)
    go_cut [] (fun wx => ∃ y1 : EnS, Lh n e o x.make (y1.read 60) r ∧ G ++ y1.readS 60 = d.extract 0 (y1.read 60).t ∧ (y1.read 60).t ≤ d.size ∧ Own w [] wx [endT gx x.make, endT gy y1])
    case first =>
      by_cases hm : (r + 1) % e = 0
      · have hm' : ((i : Int) % (e : Int) != 0) = false := by
          have : ((r + 1 : Nat) : Int) % (e : Int) = 0 := by rw [← Int.natCast_emod, hm]; rfl
          rw [HIR.out, this]; rfl
        have HH := Lib.hid (ly_halfL HLY.out HO.out.1 hm)
        rw [HDX.out, HG.out] at HH
        clear hm
        go_wp2_with fail
        go_meet
        case rel => exact ⟨y, HH.out.1, HH.out.2.1, HH.out.2.2, HW5.out⟩
      · have hm' : ((i : Int) % (e : Int) != 0) = true := by
          have : ((r + 1 : Nat) : Int) % (e : Int) ≠ 0 := by rw [← Int.natCast_emod]; omega
          rw [HIR.out]; simpa using this
        have hm2 := Lib.hid hm
        obtain ⟨S, hS, up⟩ := HW5.out.at_ 1 rfl
        clear hm
        go_wp2_with fail
        refine (etakeP gy y x _ S hS (HK.out.later HW5.out.since) (HC.out.later HW5.out.since) (by rw [HLY.out.my]; omega) (ly_oks HLY.out).1 (by omega)).mono ?_
        rintro e2 w6 ⟨rfl, hl⟩
        have HW6 : Hid (Own w [] w6 [endT gx x.make, endT gy (y.take x.packet)]) := Lib.hid (up _ _ hl)
        clear hl HW5 hS up
        by_cases h0 : y.takeE x.packet = 0
        · have HH := Lib.hid (ly_half HLY.out H10.out hm2.out (by omega) h0)
          rw [HDX.out, HG.out] at HH
          rw [h0, errV_zero]
          clear h0
          go_wp2_with fail
          go_meet
          case rel => exact ⟨_, HH.out.1, HH.out.2.1, HH.out.2.2, HW6.out⟩
        · obtain ⟨b1, b2⟩ := ly_bad HLY.out HO.out.1 (by omega) h0
          rw [HDX.out, HG.out] at b2
          rw [b1, errV_pos (show (4 : Int) ≠ 0 by decide), b2]
          clear h0 b1 b2
          go_wp2_with (first | (go_at_call 10; refine (same_at 4 (by decide) _ (HE.out.later HW6.out.since)).mono ?_; rintro e3 w7 ⟨rfl, hb7⟩) | fail)
          have HW7 := Lib.hid (HW6.out.later hb7)
          go_wp2_with fail
          go_ret
          exact ⟨by first | rfl | simp, HW7.out.since⟩
    case rest =>
      obtain ⟨y1, hh, hg, ht, hw⟩ := hcut
      have HW6 := Lib.hid hw
      have HH := Lib.hid hh
      have HGG := Lib.hid hg
      have HTT := Lib.hid ht
      clear hh hg ht hw HW5
      obtain ⟨S, hS, up⟩ := HW6.out.at_ 1 rfl
      go_wp2_with fail
      refine (eread gy y1 60 _ S hS).mono ?_
      rintro e2 w7 ⟨rfl, hl⟩
      rw [show EnS.readE 60 = 0 from rfl, errV_zero]
      have HW7 : Hid (Own w [] w7 [endT gx x.make, endT gy (y1.read 60)]) := Lib.hid (up _ _ hl)
      clear hl HW6 hS up
      obtain ⟨y2, hy2⟩ : ∃ y2, y1.read 60 = y2 := ⟨_, rfl⟩
      obtain ⟨X, hX⟩ : ∃ X, y1.readS 60 = X := ⟨_, rfl⟩
      rw [hy2] at HW7 HH HGG HTT
      rw [hX] at HGG
      rw [hX]
      clear hy2 hX
      have hsm : G.size + X.size ≤ 60 := by
        have h1 := congrArg ByteArray.size HGG.out
        rw [ByteArray.size_append, ByteArray.size_extract] at h1
        have h2 := HTT.out
        have h3 := H60.out
        omega
      have hgs : G.size ≤ 60 := by omega
      have hxs : X.size ≤ 60 := by omega
      repeat ((fail_if_success (with_reducible refine stop_at 21 ?_)); first | fail | go_values | go_skip | go_guarded | go_step | go_upon | go_back | go_simp)
      rw [HGG.out]
      have hz1 : (d.extract 0 y2.t).size = y2.t := by rw [ByteArray.size_extract]; have := HTT.out; omega
      have hz2 : decide ((d.size : Int) < (y2.t : Int)) = false := by simp; exact HTT.out
      have hz3 : (y2.t : Int) ≤ (d.size : Int) := by have := HTT.out; omega
      have HMY : Hid (y2.made.length ≤ 1000) := Lib.hid (by rw [HH.out.my]; omega)
      go_wp2_with fail
      clear hsm hgs hxs HGG hz1 hz2 hz3
      obtain ⟨S, hS, up⟩ := HW7.out.at_ 1 rfl
      refine (emake gy y2 _ S hS (HK.out.later HW7.out.since) HMY.out).mono ?_
      rintro e3 w8 ⟨rfl, hl⟩
      have HW8 : Hid (Own w [] w8 [endT gx x.make, endT gy y2.make]) := Lib.hid (up _ _ hl)
      clear hl HW7 hS up
      have HDM : Hid (x.make.data = d) := Lib.hid HDX.out
      obtain ⟨x2, hx2⟩ : ∃ x2, x.make = x2 := ⟨_, rfl⟩
      rw [hx2] at HW8 HH HDM
      clear hx2
      by_cases hm : (r + 1) % o = 0
      · have hm' : ((i : Int) % (o : Int) != 0) = false := by
          have : ((r + 1 : Nat) : Int) % (o : Int) = 0 := by rw [← Int.natCast_emod, hm]; rfl
          rw [HIR.out, this]; rfl
        have HLN := Lib.hid (HH.out.loseY HO.out.2 hm)
        clear hm
        go_wp2_with fail
        go_roundw
        case rel => exact ⟨i + 1, r + 1, x2, y2.make, by go_num, by rw [HIR.out], by have := HIR.out; omega, rfl, HLN.out, HDM.out, HW8.out⟩
        case measure => simp [intOf]; omega
      · have hm' : ((i : Int) % (o : Int) != 0) = true := by
          have : ((r + 1 : Nat) : Int) % (o : Int) ≠ 0 := by rw [← Int.natCast_emod]; omega
          rw [HIR.out]; simpa using this
        have hm2 := Lib.hid hm
        obtain ⟨S, hS, up⟩ := HW8.out.at_ 0 rfl
        clear hm
        go_wp2_with fail
        refine (etakeP gx x2 y2 _ S hS (HK.out.later HW8.out.since) (HC.out.later HW8.out.since) (by rw [HH.out.mx]; omega) (lh_oks HH.out).2 (by have := HMY.out; omega)).mono ?_
        rintro e4 w9 ⟨rfl, hl⟩
        have HW9 : Hid (Own w [] w9 [endT gx (x2.take y2.packet), endT gy y2.make]) := Lib.hid (up _ _ hl)
        clear hl HW8 hS up
        by_cases h0 : x2.takeE y2.packet = 0
        · have HB := Lib.hid (HH.out.back hm2.out (by omega) (by rw [h0]; decide))
          have HDT : Hid ((x2.take y2.packet).data = d) := Lib.hid (by rw [HB.out.2]; exact HDM.out)
          rw [h0, errV_zero]
          clear h0
          go_wp2_with fail
          go_roundw
          case rel => exact ⟨i + 1, r + 1, _, y2.make, by go_num, by rw [HIR.out], by have := HIR.out; omega, rfl, HB.out.1, HDT.out, HW9.out⟩
          case measure => simp [intOf]; omega
        · obtain ⟨b1, b2⟩ := lh_bad HH.out HO.out.2 (by omega) h0
          rw [HDM.out] at b2
          rw [b1, errV_pos (show (4 : Int) ≠ 0 by decide), b2]
          clear h0 b1 b2
          go_wp2_with (first | (go_at_call 10; refine (same_at 4 (by decide) _ (HE.out.later HW9.out.since)).mono ?_; rintro e3 w7 ⟨rfl, hb7⟩) | fail)
          have HWX := Lib.hid (HW9.out.later hb7)
          go_wp2_with fail
          go_ret
          exact ⟨by first | rfl | simp, HWX.out.since⟩

/-! the row -/
theorem own : ownKnob Tryz.prog.godebug = none := by kernel_rfl
theorem laidOut : laidOutB Tryz.prog = true := by kernel_rfl
set_option maxRecDepth 100000 in
theorem contract (H : Type) (enc : TypeId × Value → H) (W : World) (base : Nat) (args : Array Value) (ds gs : List (DataW H)) (before : List MemPlace)
    (hval : ∀ (j : Nat) t v, Tryz.f6.params[j]? = some t → args[j]? = some v → Value.okWide Tryz.prog W .any base t v)
    (hW : DataW.Whole enc Tryz.prog Tryz.f6.params.toList Rows.topLossySpec.vars false W args.toList ds gs before) (hsz : (DataW.weightsEach Tryz.prog (Tryz.f6.params.toList ++ (OpenSpec.ofChange Rows.topLossySpec).bare.plain.varTypes Tryz.prog) (ds ++ gs)).all (· ≤ reachBytes) = true) (hL : laidMetH Tryz.prog Rows.topLossyRow.laid W) :
    Calls Tryz.prog 6 args W fun e W' => ∃ v, e = .returned v ∧ Rows.topLossySpec.post enc Tryz.prog Tryz.f6 false true false false W args v W' := by
  have hW' := hW
  obtain ⟨p, q, hA0, hV, rfl, hfz, hnd⟩ := hW
  have hA : DataW.TrodAll enc Tryz.prog W 0 (fun _ => true) true Tryz.f6.params.toList args.toList ds p := hA0
  rw [Tryz.params6] at hA hval
  obtain ⟨v0, vs0, d0, ds0, p0, q0, hargs, rfl, rfl, h0, r0⟩ := trodAll_cons hA
  obtain ⟨v1, vs1, d1, ds1, p1, q1, rfl, rfl, rfl, h1, r1⟩ := trodAll_cons r0
  obtain ⟨v2, vs2, d2, ds2, p2, q2, rfl, rfl, rfl, h2, r2⟩ := trodAll_cons r1
  obtain ⟨v3, vs3, d3, ds3, p3, q3, rfl, rfl, rfl, h3, r3⟩ := trodAll_cons r2
  obtain ⟨rfl, rfl, rfl⟩ := trodAll_nil r3
  obtain rfl : args = #[v0, v1, v2, v3] := by cases args; simp_all
  obtain ⟨rfl, rfl⟩ := trodVars_none hV
  obtain ⟨a0, rfl, rfl, rfl, w0⟩ := open_int Tryz.underlying3 (hval 0 3 v0 rfl rfl) h0
  obtain ⟨s1, rfl, rfl, rfl, w1⟩ := open_string Tryz.underlying9 (hval 1 9 v1 rfl rfl) h1
  have z1 : s1.size ≤ 140737488351232 := by
    have hq := sized_string hsz (j := 1) rfl rfl
    simpa [reachBytes] using hq
  obtain ⟨a2, rfl, rfl, rfl, w2⟩ := open_int Tryz.underlying3 (hval 2 3 v2 rfl rfl) h2
  obtain ⟨a3, rfl, rfl, rfl, w3⟩ := open_int Tryz.underlying3 (hval 3 3 v3 rfl rfl) h3
  have lw := laidWalk hL
  refine (walk a0 s1 a2 a3 W w0 z1 w2 w3 lw).mono fun e W' ⟨he, bel⟩ => ?_
  subst he
  exact ⟨_, rfl, _, _, _, [], _, [], hW', trodAll_mk1 (shut_bool Tryz.underlying4 _), (trodAll_cons_mk (shut_int Tryz.underlying3 w0) (trodAll_cons_mk (shut_string Tryz.underlying9 w1) (trodAll_cons_mk (shut_int Tryz.underlying3 w2) (trodAll_cons_mk (shut_int Tryz.underlying3 w3) trodAll_mk0)))), rfl, bel.frame _, fun h => by cases h⟩

theorem reads (os : Os) {H : Type} (enc : TypeId × Value → H) : ∃ places, DataW.whole enc Tryz.prog ((laidWorld os).forCall (fun _ _ => 0) ⟨#[], #[.int .i64 0, .string ByteArray.empty, .int .i64 0, .int .i64 0], []⟩).memory Tryz.f6.params.toList Rows.topLossySpec.vars false (#[.int .i64 0, .string ByteArray.empty, .int .i64 0, .int .i64 0] : Array Value).toList 8 = some ([.lit (.int .i64 0), .lit (.string []), .lit (.int .i64 0), .lit (.int .i64 0)], [], places) :=
  ⟨[], by kernel_rfl⟩
theorem laid_met (os : Os) : laidMetH Tryz.prog Rows.topLossyRow.laid ((laidWorld os).forCall (fun _ _ => 0) ⟨#[], #[.int .i64 0, .string ByteArray.empty, .int .i64 0, .int .i64 0], []⟩).memory := laidMetW os _

set_option maxRecDepth 100000 in
theorem lifted (os : Os) (started : os.Started) (H : Type) (enc : TypeId × Value → H) (F : Stop.Interp) :
    ReturnsInHanded {} Tryz.checked os 6 .any ((OpenSpec.ofChange Rows.topLossySpec).preRow enc Tryz.prog Tryz.f6 Rows.topLossyRow.domain false Rows.topLossyRow.laid) (((OpenSpec.ofChange Rows.topLossySpec).at F).post enc Tryz.prog Tryz.f6 false true false false) := by
  obtain ⟨places, hx⟩ := reads os enc
  refine returnsInHanded_of_row (C := Tryz.checked) (s := OpenSpec.ofChange Rows.topLossySpec) own started (by kernel_rfl) Tryz.func6
    (witness_row_at (enc := enc) (C := Tryz.checked) false (laidWorld os) #[.int .i64 0, .string ByteArray.empty, .int .i64 0, .int .i64 0] rfl (by kernel_rfl) (by kernel_rfl) (by kernel_rfl)
      (OpenSpec.preRow_of_cond 8 hx (by kernel_rfl) (fun k hk => by cases hk) (by kernel_rfl) (laid_met os))) ?_
  intro W base args ds gs before hval hW _ _ hsz hL _ _
  exact contract H enc W base args ds gs before hval hW hsz hL

theorem said : Rows.TopLossySaid :=
  OpenClaim.holds_of_cond 6 Tryz.f6 rfl rfl rfl rfl rfl rfl rfl ⟨rfl, rfl, rfl, rfl, rfl⟩ rfl rfl rfl rfl rfl (by kernel_rfl) Tryz.func6 (by kernel_rfl)
    (of_decide_eq_true (by kernel_rfl)) (by unfold Func.isWrapper; first | (rw [if_pos (by decide +kernel)]; kernel_rfl) | (rw [if_neg (by decide +kernel)]; exact ⟨rfl, rfl⟩))
    (fun os started H enc _ F => by rw [OpenClaim.pre_eq_preRow]; exact lifted os started H enc F)

theorem plain (f : FuncId) (fn : Func) (hf : Tryz.pinned.checked.prog.funcNamed "wanderwire/wiretop.TopLossy" = some f) (hfn : Tryz.pinned.checked.prog.funcs[f]? = some fn) :
    true = Tryz.pinned.checked.prog.looks [] ∧ ∀ (j : Nat) t, fn.params[j]? = some t → Tryz.pinned.checked.prog.wantsStandIn t = false := by
  obtain rfl : f = 6 := Option.some.inj ((show Tryz.prog.funcNamed "wanderwire/wiretop.TopLossy" = some 6 by kernel_rfl).symm.trans hf) |>.symm
  obtain rfl : fn = Tryz.f6 := (Option.some.inj (Tryz.func6.symm.trans hfn)).symm
  refine ⟨by kernel_rfl, fun j t ht => ?_⟩
  rw [Tryz.params6] at ht
  have ht' := Array.mem_of_getElem? ht
  have hall : (([3, 9, 3, 3] : List Nat).all fun t => !Tryz.prog.wantsStandIn t) = true := by kernel_rfl
  have hq := List.all_eq_true.1 hall t (by simpa using ht')
  have hq2 : Tryz.prog.wantsStandIn t = false := by simpa using hq
  exact hq2

theorem card : Rows.TopLossyCardSaid :=
  Claim7.holds_tied_plain_at .later [] _ _ _ _ said (fun _ h => by cases h) (by kernel_rfl) (fun _ h => by cases h) topLossy_row_tie rfl ⟨rfl, rfl⟩ (by kernel_rfl) rfl plain (by kernel_rfl)
#print axioms card
end Go.Proofs.YtaindcicloapfaaGreatDoor.topLossy
