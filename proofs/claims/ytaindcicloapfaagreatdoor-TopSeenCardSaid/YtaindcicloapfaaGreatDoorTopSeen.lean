/- TopSeen: for every numbers, step to stop at and bytes to keep the law returns true: numbers that were opened, and kept, are just those that were added; none is taken for new twice. Condition: strconv's tables and errors and the tables of kinds and counts hold what the program's text lays (the row lists them, the card ties them). -/
import Derived.Test.YtaindcicloapfaaGreatDoorZS
import Derived.Test.YtaindcicloapfaaGreatDoorCards
import Derived.Test.YtaindcicloapfaaGreatDoorTie
import Derived.Deep.DeepHandedRow
import Derived.LaidLaws
import Derived.LaidHandle
import Derived.Deep.DeepWitnessRowRef
import Derived.Test.YtaindcicloapfaaGreatDoorRows
import Derived.WalkKit
import Derived.ProofKit
import Derived.OpenShut
import Derived.ShutString
import Derived.ChangeOld
import Derived.Below
import Derived.Lib.SmallJoins
import Derived.Deep.Slices
import Derived.Deep.Matrix
import Derived.Deep.Strs
namespace Go.Proofs.YtaindcicloapfaaGreatDoor.topSeen
open Go.ChangeShapes Go.WideShapes Go.ChangeAt Go.RowKit
open Go.ChangeMaps (open_string shut_string)
set_option linter.unusedVariables false

noncomputable abbrev laidWorld := YtaindcicloapfaaGreatDoor.laidWorld5
theorem laidMetW (os : Os) (args : Array Value) : laidMetH Tryz.prog Rows.topSeenRow.laid ((laidWorld os).forCall (fun _ _ => 0) ⟨#[], args, []⟩).memory := laidMet_s os args
theorem laidWalk {W : World} (h : laidMetH Tryz.prog Rows.topSeenRow.laid W) : PTab W ∧ KTab W ∧ CTab W := laid_s h
def q1 : EnS := (EnS.new 9).write ⟨#[113]⟩
theorem q1_eq : q1 = { EnS.new 9 with data := ⟨#[113]⟩ } := (new_write (n := 9) (d := ⟨#[113]⟩) (by decide)).1
theorem q1_ok : EnOk q1 := (EnOk.new (by decide) (by decide)).write ⟨#[113]⟩
theorem fact_take : (EnS.new 9).takeE q1.packet = 0 := by
  rw [(first_take q1_ok (by rw [q1_eq]; rfl) (by rw [q1_eq]; rfl) rfl).1, q1_eq]
  decide
theorem fact_read : ((EnS.new 9).take q1.packet).readS 5 = ⟨#[113]⟩ := by
  rw [(first_take q1_ok (by rw [q1_eq]; rfl) (by rw [q1_eq]; rfl) rfl).2, q1_eq]
  decide
theorem pk_size {x : EnS} (h : EnOk x) (hm : x.made.length ≤ 1000000) : (ByteArray.mk x.packet.toArray).size ≤ 9223372036854775000 := by
  have := (h.packetOk hm).2.2
  show x.packet.toArray.size ≤ _
  rw [List.size_toArray]; omega
theorem etakeP (g : Nat) (s x : EnS) (w : World) (S : List Nat) (h : (endT g s).is w S) (hK : KTab w) (hC : CTab w) (h1000 : s.made.length ≤ 1000) (hx : EnOk x) (hm : x.made.length ≤ 1000000) :
    Calls Tryz.prog 18 #[.pointer (some ⟨g, 0, none⟩), .string ⟨x.packet.toArray⟩] w fun e w' => e = .returned (errV (s.takeE x.packet)) ∧ Leaves w w' S (endT g (s.take x.packet)) := by
  have h1 := etake g s ⟨x.packet.toArray⟩ w S h hK hC h1000 (pk_size hx hm)
  simp only at h1
  exact h1
set_option maxRecDepth 100000 in
set_option maxHeartbeats 3200000 in
theorem one_yes (w : World) (hkc : KTab w ∧ CTab w) : Calls Tryz.prog 37 #[] w fun e w' => e = .returned (.bool true) ∧ Below w.heap.size w w' := by
  have HK := Lib.hid hkc.1
  have HC := Lib.hid hkc.2
  have F1 := Lib.hid fact_take
  have F2 := Lib.hid fact_read
  have FW : Hid ((EnS.new 9).writeE ⟨#[113]⟩ = 0) := Lib.hid (new_write (n := 9) (d := ⟨#[113]⟩) (by decide)).2
  clear hkc
  go_enter Tryz.func37, Tryz.ntmps37
  go_wp2_with fail
  refine (enew 9 (by decide) (by decide) _).mono ?_
  rintro e w1 ⟨g1, rfl, hl⟩
  have HW1 : Hid (Own w [] w1 [endT g1 (EnS.new 9)]) := Lib.hid ((Own.start w).made hl)
  clear hl
  go_wp2_with fail
  refine (enew 9 (by decide) (by decide) _).mono ?_
  rintro e w2 ⟨g2, rfl, hl⟩
  have HW2 : Hid (Own w [] w2 [endT g1 (EnS.new 9), endT g2 (EnS.new 9)]) := Lib.hid (HW1.out.made hl)
  clear hl HW1
  obtain ⟨S, hS, up⟩ := HW2.out.at_ 0 rfl
  go_wp2_with fail
  refine (ewrite g1 (EnS.new 9) ⟨#[113]⟩ _ S hS (by decide)).mono ?_
  rintro e w3 ⟨rfl, hl⟩
  rw [FW.out, errV_zero]
  have HW3 : Hid (Own w [] w3 [endT g1 q1, endT g2 (EnS.new 9)]) := Lib.hid (up _ _ hl)
  clear hl HW2 hS up
  obtain ⟨S, hS, up⟩ := HW3.out.at_ 0 rfl
  go_wp2_with fail
  refine (emake g1 q1 _ S hS (HK.out.later HW3.out.since) (by rw [q1_eq]; show 0 ≤ 1000; omega)).mono ?_
  rintro e w4 ⟨rfl, hl⟩
  have HW4 : Hid (Own w [] w4 [endT g1 q1.make, endT g2 (EnS.new 9)]) := Lib.hid (up _ _ hl)
  clear hl HW3 hS up
  obtain ⟨S, hS, up⟩ := HW4.out.at_ 1 rfl
  go_wp2_with fail
  refine (etakeP g2 (EnS.new 9) q1 _ S hS (HK.out.later HW4.out.since) (HC.out.later HW4.out.since) (by show 0 ≤ 1000; omega) q1_ok (by rw [q1_eq]; show 0 ≤ 1000000; omega)).mono ?_
  rintro e w5 ⟨rfl, hl⟩
  rw [F1.out, errV_zero]
  have HW5 : Hid (Own w [] w5 [endT g1 q1.make, endT g2 ((EnS.new 9).take q1.packet)]) := Lib.hid (up _ _ hl)
  clear hl HW4 hS up
  obtain ⟨S, hS, up⟩ := HW5.out.at_ 1 rfl
  go_wp2_with fail
  refine (eread g2 ((EnS.new 9).take q1.packet) 5 _ S hS).mono ?_
  rintro e w6 ⟨rfl, hl⟩
  rw [show EnS.readE 5 = 0 from rfl, errV_zero, F2.out]
  have HW6 := Lib.hid (up _ _ hl)
  clear hl HW5 hS up
  go_wp2_with fail
  go_ret
  exact ⟨rfl, HW6.out.since⟩
theorem wf_small {x : Int} (h0 : 0 ≤ x) (h1 : x ≤ 1000000) : (Lit.int .i64 x).wf = true := by
  have h2 : IntKind.i64.min = -9223372036854775808 := by decide
  have h3 : IntKind.i64.max = 9223372036854775807 := by decide
  unfold Lit.wf
  simp
  omega
def ping : FrmV := ⟨⟨1, [], ⟨#[]⟩⟩, none, 0⟩
theorem ping_ok {x k : Int} (h0 : -1 ≤ k) (h1 : k < x) (h2 : x ≤ k + 51) (h3 : x ≤ 5000) : pktE x k [ping.f] = 0 ∧ pktV x k [ping.f] = pktB x k [ping.f] ∧ (pktB x k [ping.f]).length ≤ 200 ∧ openE (pktB x k [ping.f]) (k + 1) = 0 ∧ openN (pktB x k [ping.f]) (k + 1) = x ∧ openL (pktB x k [ping.f]) (k + 1) = [ping.f] := by
  have hN : NeedOk x k := ⟨⟨by omega, by omega⟩, by omega, by omega⟩
  have ping_E : frmE ping.f = 0 := by decide
  have ping_B : frmB ping.f = [1] := by decide
  have hE : frmsE [ping.f] = 0 := by simp [frmsE, ping_E]
  obtain ⟨b1, b2⟩ := leastN_bounds (x - k)
  have hhd := headB_len (n := x) b1 b2
  have hl : (pktB x k [ping.f]).length ≤ 200 := by
    unfold pktB
    rw [List.length_append, show frmsB [ping.f] = frmB ping.f by simp [frmsB], ping_B]
    simp
    omega
  obtain ⟨a1, a2⟩ := pkt_ok hN (L := [ping.f]) (by simp) (by simp) hE (by omega)
  obtain ⟨o1, o2, o3, _⟩ := open_about (next := k + 1) a1 ⟨by omega, by omega⟩ (by omega) (by omega)
  exact ⟨a1, a2, hl, o1, o2, o3⟩
theorem pings_in {W : World} {g : Nat} (h : BlockIs W g 103 #[.int .i64 1, .slice none 0 0, .string ⟨#[]⟩]) : FrmsIn W (.slice (some ⟨g, 0, none⟩) 1 1) [ping] :=
  ⟨fun p hp => by rw [List.mem_singleton.1 hp]; exact ⟨(by decide : (-9223372036854775808 ≤ (1 : Int) ∧ (1 : Int) ≤ 9223372036854775807)), (by decide : 0 ≤ 2 ^ 63 - 1), intsIn_nil W⟩,
   rd_of_block (k := 3) (n := 1) (cap := 1) (es := [frmRow ping]) h (by intro e he; rw [List.mem_singleton.1 he]; exact frmRow_one _) rfl (by omega) (by omega)⟩

set_option maxRecDepth 100000 in
set_option maxHeartbeats 8000000 in
theorem walk (v0 : Value) (Z : List Int) (fl kp : Int) (w : World) (w0 : IntsIn w v0 Z) (w1 : (Lit.int .i64 fl).wf = true) (w2 : (Lit.int .i64 kp).wf = true) (hL : PTab w ∧ KTab w ∧ CTab w) :
    Calls Tryz.prog 8 #[v0, .int .i64 fl, .int .i64 kp] w fun e w' => e = .returned (.bool true) ∧ Below w.heap.size w w' := by
  have HP := Lib.hid hL.1
  have HK := Lib.hid hL.2.1
  have HC := Lib.hid hL.2.2
  have HONE := Lib.hid (one_yes w hL.2)
  obtain ⟨bd, A, cap, rfl, hle0, hm0, hc⟩ := w0
  unfold maxLen at hm0
  have hZ : Z.length ≤ 9223372036854775807 := by omega
  have HZ := Lib.hid hc
  have hfl : fl ≤ 9223372036854775807 := (wf_bounds w1).2
  clear hc bd hL w1 w2
  go_enter Tryz.func8, Tryz.ntmps8
  go_wp2_with fail
  refine HONE.out.mono ?_
  rintro e w1 ⟨rfl, hb1⟩
  clear HONE
  have HW1 : Hid (Own w [] w1 []) := Lib.hid ((Own.start w).later hb1)
  clear hb1
  go_wp2_with fail
  refine (gnew _).mono ?_
  rintro e w2 ⟨rfl, hl2, hb2⟩
  have HW2 : Hid (Own w [] w2 [logT w1.heap.size lg0]) := Lib.hid (HW1.out.add hb2 hl2 (by simp))
  obtain ⟨g, hg⟩ : ∃ g, w1.heap.size = g := ⟨_, rfl⟩
  rw [hg] at HW2
  rw [hg]
  clear hl2 hb2 hg HW1
  obtain ⟨S, hS, up⟩ := HW2.out.at_ 0 rfl
  go_wp2_with fail
  refine (gfail g lg0 fl hfl _ S hS).mono ?_
  rintro e w3 ⟨rfl, hl⟩
  have HW3 : Hid (Own w [] w3 [logT g (lg0.fail fl)]) := Lib.hid (up _ _ hl)
  have HO3 : Hid (LgOk (lg0.fail fl) [] []) := Lib.hid (LgOk.new.fail fl)
  clear hl hS up HW2
  repeat ((fail_if_success (with_reducible refine stop_at 8 ?_)); first | fail | go_values | go_skip | go_guarded | go_step | go_upon | go_back | go_simp)
  go_cut [10] (fun s10 wx => ∃ (s : LgS) (ns : List Int) (t : List UInt8), s10 = .int .i64 ns.length ∧ LgOk s ns t ∧ Own w [] wx [logT g s])
  case first =>
    as_aux_lemma =>
      go_wp2_with fail
      go_loopw [9, 10, 11] (fun s9 s10 s11 wr => ∃ (k : Nat) (next : Int) (s : LgS) (ns : List Int) (t : List UInt8), s11 = .int .i64 k ∧ k ≤ 30 ∧ s9 = .int .i64 next ∧ 0 ≤ next ∧ next ≤ 51 * k ∧ s10 = .int .i64 ns.length ∧ ns.length ≤ k ∧ LgOk s ns t ∧ Hid (∀ m ∈ ns, m < next) ∧ Own w [] wr [logT g s]) (fun _ _ s11 _ => 30 - (intOf s11).toNat)
      case atStart => exact ⟨0, 0, _, [], _, rfl, by omega, rfl, by omega, by omega, rfl, by simp, HO3.out, Lib.hid (by simp), HW3.out⟩
      case round =>
        obtain ⟨k, next, s, ns, t, rfl, hk, rfl, x0, x1, rfl, hnk, hok, hlt, hw⟩ := hrel
        have HW := Lib.hid hw
        have HOK := Lib.hid hok
        clear hw hok HO3 HW3
        by_cases hlen : k < Z.length
        case neg =>
          have hlen' : decide ((k : Int) < (Z.length : Int)) = false := by simp; omega
          go_wp2_with fail
          go_meet
          case rel => exact ⟨s, ns, t, rfl, HOK.out, HW.out⟩
        by_cases h30 : k < 30
        case neg =>
          have hlen' : (k : Int) < (Z.length : Int) := by omega
          have h30' : decide ((k : Int) < 30) = false := by simp; omega
          go_wp2_with fail
          go_meet
          case rel => exact ⟨s, ns, t, rfl, HOK.out, HW.out⟩
        have hlen' : (k : Int) < (Z.length : Int) := by omega
        have h30' : (k : Int) < 30 := by omega
        obtain ⟨b, off, rfl, hbl, hcc⟩ := HZ.out (by intro h0; rw [h0] at hlen; simp at hlen)
        have cz : ∀ X, Since w X → X.cell? ⟨b, off + k, none⟩ = some (.int .i64 (ith Z k)) := fun X h => h.cell hbl (hcc k hlen)
        have HCZ := Lib.hid cz
        have c0 := cz _ HW.out.since
        have lb : b < wr.heap.size := Nat.lt_of_lt_of_le hbl (Since.le HW.out.since)
        have HBL := Lib.hid hbl
        clear hcc cz
        generalize ith Z k = x at *
        by_cases hx : x < next ∨ next + 50 < x
        case pos =>
          by_cases hx1 : x < next
          · clear hx
            go_wp2_with fail
            go_roundw
            case rel => exact ⟨k + 1, next, s, ns, t, by go_num, by omega, rfl, x0, by omega, rfl, by omega, HOK.out, hlt, HW.out⟩
            case measure => simp [intOf]; omega
          · have hx1' : decide (x < next) = false := by simpa using hx1
            have hx2 : next + 50 < x := by omega
            clear hx hx1
            go_wp2_with fail
            go_roundw
            case rel => exact ⟨k + 1, next, s, ns, t, by go_num, by omega, rfl, x0, by omega, rfl, by omega, HOK.out, hlt, HW.out⟩
            case measure => simp [intOf]; omega
        have hx1 : decide (x < next) = false := by simp; omega
        have hx2 : decide (next + 50 < x) = false := by simp; omega
        have y1 : next ≤ x := by omega
        have y2 : x ≤ next + 50 := by omega
        clear hx
        obtain ⟨p1, p2, p3, p4, p5, p6⟩ := ping_ok (x := x) (k := next - 1) (by omega) (by omega) (by omega) (by omega)
        rw [show next - 1 + 1 = next by omega] at p4 p5 p6
        have HPR := Lib.hid (fun W h1 h2 h3 => pkprint x (next - 1) (some ⟨wr.heap.size, 0, none⟩) 1 1 [ping] W rfl h1 h2 h3)
        simp only [List.map_cons, List.map_nil] at HPR
        rw [p1, p2, errV_zero] at HPR
        obtain ⟨B, hB⟩ : ∃ B : ByteArray, ⟨(pktB x (next - 1) [ping.f]).toArray⟩ = B := ⟨_, rfl⟩
        rw [hB] at HPR
        have hBs : B.size ≤ 200 := by rw [← hB]; show (pktB _ _ _).toArray.size ≤ 200; rw [List.size_toArray]; exact p3
        have hBl : B.data.toList = pktB x (next - 1) [ping.f] := by rw [← hB]
        rw [← hBl] at p4 p5
        have K4 := Lib.hid p4
        have K5 := Lib.hid p5
        have HPA := Lib.hid (fun W => pkparse B next W (by omega))
        have HS1 : Hid (Since w (wr.alloc (.cells #[.int .i64 1, .slice none 0 0, .string ⟨#[]⟩] 103))) := Lib.hid (HW.out.since.later (show Since wr _ from (by refine Since.out ?_; repeat (first | with_reducible assumption | with_reducible exact Since.refl _ | with_reducible refine Since.later ?_ (by with_reducible assumption) | with_reducible refine Since.only ?_ (by with_reducible assumption) (by first | assumption | omega | (simp; done) | (simp; omega)) | with_reducible refine Since.alloc ?_ _ | with_reducible refine Since.drewN ?_ _ | with_reducible refine Since.drew ?_ | with_reducible refine Since.set ?_ (by first | assumption | omega | (simp; done) | (simp; omega)) _))))
        clear p1 p2 p3 p4 p5 p6 hB hBl
        go_wp2_with fail
        refine (HPR.out _ (pings_in (BlockIs.fresh _ _ _)) (HK.out.later HS1.out) (HC.out.later HS1.out)).mono ?_
        rintro e w4 ⟨rfl, hb4⟩
        have HW4 := Lib.hid (HW.out.later (show Since wr w4 from (by refine Since.out ?_; repeat (first | with_reducible assumption | with_reducible exact Since.refl _ | with_reducible refine Since.later ?_ (by with_reducible assumption) | with_reducible refine Since.only ?_ (by with_reducible assumption) (by first | assumption | omega | (simp; done) | (simp; omega)) | with_reducible refine Since.alloc ?_ _ | with_reducible refine Since.drewN ?_ _ | with_reducible refine Since.drew ?_ | with_reducible refine Since.set ?_ (by first | assumption | omega | (simp; done) | (simp; omega)) _))))
        clear hb4 HS1 HPR c0 lb HW
        go_wp2_with fail
        refine (HPA.out _ (HK.out.later HW4.out.since) (HC.out.later HW4.out.since)).mono ?_
        rintro e w5 ⟨A5, m5, c5, Ms, rfl, hb5, -, -, -⟩
        rw [K4.out, K5.out, errV_zero]
        have HW5 := Lib.hid (HW4.out.later hb5)
        have c0 := HCZ.out _ HW5.out.since
        have lb : b < w5.heap.size := Nat.lt_of_lt_of_le HBL.out (Since.le HW5.out.since)
        clear hb5 HW4 HPA K4 K5
        have hwf : (Lit.int .i64 x).wf = true := wf_small (by omega) (by omega)
        have HCM := Lib.hid (HOK.out.came (by omega) x)
        have hfew := HOK.out.few
        obtain ⟨S, hS, up⟩ := HW5.out.at_ 0 rfl
        go_wp2_with fail
        refine (gcame g s x _ S hS hwf (HP.out.later HW5.out.since) hfew).mono ?_
        rintro e w6 ⟨rfl, hl⟩
        have HW6 : Hid (Own w [] w6 [logT g (lgN s x)]) := Lib.hid (up _ _ hl)
        clear hl hS up HW5 c0 lb hfew
        rcases HCM.out with ⟨b1, b2, b3, b4, b5, b6, b7⟩ | ⟨b1, t', b3, b4⟩
        case inr =>
          have hE : lgE s x ≠ 0 := by
            rcases b4 with h | ⟨_, _, h1, h2⟩
            · rw [h]; decide
            · intro h0
              rw [h1] at h0
              have hin : inB (adds ns) x = true := by
                unfold addB at h2
                rw [decide_eq_true h0, Bool.true_and] at h2
                simpa using h2
              have := hlt.out x ((HOK.out.fit.mem x).1 hin)
              omega
          rw [b1, errV_pos hE]
          have HB3 := Lib.hid b3
          clear b1 b3 b4 hE
          go_wp2_with fail
          go_meet
          case rel => exact ⟨_, ns, t', rfl, HB3.out, HW6.out⟩
        have hmb := (addB_ok b5).2.1
        have hth := add_there (L := adds (ns ++ [x])) (n := x) (by have := b3.fit.rng _ (Nat.le_refl _); rw [List.take_length] at this; exact this) ((b3.fit.mem x).2 (by simp)) hmb
        rw [← b3.all] at hth
        have hag : lgB (lgN s x) x = false ∧ lgE (lgN s x) x = 0 ∧ lgN (lgN s x) x = lgN s x := by
          refine ⟨?_, ?_, ?_⟩
          · unfold lgB; rw [hth.2]; simp
          · show (if (lgN s x).st = true then (6 : Int) else if addE (lgN s x).all x = 0 then (if addB (lgN s x).all x = true ∧ (lgN s x).left = 0 then 6 else 0) else addE (lgN s x).all x) = 0
            rw [b4, if_neg (by decide), hth.1, if_pos rfl, hth.2, if_neg (by rintro ⟨h, _⟩; cases h)]
          · show (if (lgN s x).st = true then lgN s x else if addB (lgN s x).all x = true then _ else lgN s x) = lgN s x
            rw [b4, if_neg (by decide), hth.2, if_neg (by decide)]
        have HAG := Lib.hid hag
        have HB3 := Lib.hid b3
        have hfew := b3.few
        rw [b1, b2, errV_zero]
        obtain ⟨s2, hs2⟩ : ∃ s2, lgN s x = s2 := ⟨_, rfl⟩
        rw [hs2] at HAG HB3 HW6 hfew
        clear b1 b2 b3 b4 b5 b6 b7 hth hag hmb hs2 HCM
        obtain ⟨S, hS, up⟩ := HW6.out.at_ 0 rfl
        have HNX : Hid (∀ m ∈ ns ++ [x], m < x + 1) := Lib.hid (fun m hm => by
          rcases List.mem_append.1 hm with h | h
          · have := hlt.out m h; omega
          · rw [List.mem_singleton.1 h]; omega)
        have HLN : Hid ((ns.length : Int) + 1 = ((ns ++ [x]).length : Int)) := Lib.hid (by rw [List.length_append]; rfl)
        go_wp2_with fail
        refine (gcame g s2 x _ S hS hwf (HP.out.later HW6.out.since) hfew).mono ?_
        rintro e w7 ⟨rfl, hl⟩
        rw [HAG.out.2.2] at hl
        rw [HAG.out.1, HAG.out.2.1, errV_zero]
        have HW7 : Hid (Own w [] w7 [logT g s2]) := Lib.hid (up _ _ hl)
        clear hl hS up HW6 HAG hfew hwf
        by_cases h3 : k = 3
        case neg =>
          have h3' : ((k : Int) == 3) = false := by rw [beq_eq_false_iff_ne]; omega
          clear h3
          go_wp2_with fail
          go_roundw
          case rel => exact ⟨k + 1, x + 1, s2, ns ++ [x], [], by go_num, by omega, rfl, by omega, by omega, by rw [HLN.out], by rw [List.length_append]; simp; omega, HB3.out, HNX, HW7.out⟩
          case measure => simp [intOf]; omega
        have h3' : ((k : Int) == 3) = true := by rw [h3]; rfl
        obtain ⟨S, hS, up⟩ := HW7.out.at_ 0 rfl
        have HSY := Lib.hid (HB3.out.sync)
        have HK3 := Lib.hid h3
        clear h3
        go_wp2_with fail
        refine (gsync g s2 _ S hS).mono ?_
        rintro e w8 ⟨rfl, hl⟩
        have HW8 : Hid (Own w [] w8 [logT g s2.sync]) := Lib.hid (up _ _ hl)
        clear hl hS up HW7
        by_cases hE : s2.syncE = 0
        · rw [hE, errV_zero]
          clear hE
          go_wp2_with fail
          go_roundw
          case rel => exact ⟨k + 1, x + 1, s2.sync, ns ++ [x], [], by go_num, by omega, rfl, by omega, by omega, by rw [HLN.out], by rw [List.length_append]; simp; omega, HSY.out, HNX, HW8.out⟩
          case measure => simp [intOf]; omega
        · rw [errV_pos hE]
          clear hE
          go_wp2_with fail
          go_meet
          case rel => exact ⟨s2.sync, ns ++ [x], [], by rw [HLN.out], HSY.out, HW8.out⟩
  case rest =>
    as_aux_lemma =>
      obtain ⟨s, ns, t, rfl, hok, hw⟩ := hcut
      have HW := Lib.hid hw
      have HOK := Lib.hid hok
      clear hok hw HO3 HW3
      obtain ⟨S, hS, up⟩ := HW.out.at_ 0 rfl
      go_wp2_with fail
      refine (gcrash g s ns t kp _ S hS HOK.out).mono ?_
      rintro e w4 ⟨rfl, j, hwh, hl⟩
      have HW4 : Hid (Own w [] w4 [logT g (LgS.left_ (ns.take j))]) := Lib.hid (up _ _ hl)
      have HJ := Lib.hid hwh.le
      clear hl hS up HW hwh
      obtain ⟨S, hS, -⟩ := HW4.out.at_ 0 rfl
      go_wp2_with fail
      refine (gall g (LgS.left_ (ns.take j)) _ S hS).mono ?_
      rintro e w5 ⟨A5, c5, rfl, hl5, hb5, -⟩
      have HL5 : Hid (Lst w5 96 2 (.slice A5 (adds (ns.take j)).length c5) ((adds (ns.take j)).map rngRow)) := Lib.hid hl5
      have HW5 := Lib.hid (HW4.out.later hb5)
      have hrg := HOK.out.fit.rng j HJ.out
      have HCN := Lib.hid (rcount A5 (adds (ns.take j)).length c5 (adds (ns.take j)) w5 rfl (fun r hr => by
        obtain ⟨⟨p1, p2⟩, p3, p4⟩ := rngE_ok hrg r hr
        unfold okI
        omega) (Rd.of_lst HL5.out) hrg)
      rw [HOK.out.fit.cnt_take j HJ.out, errV_zero] at HCN
      have hj : (j : Int) ≤ (ns.length : Int) := by have := HJ.out; omega
      clear hl5 hb5 hS hrg
      go_wp2_with fail
      refine HCN.out.mono ?_
      rintro e w6 ⟨rfl, hb6⟩
      have HW6 := Lib.hid (HW5.out.later hb6)
      clear hb6 HCN
      go_wp2_with fail
      go_ret
      exact ⟨by first | rfl | simp, HW6.out.since⟩

/-! the row -/
theorem own : ownKnob Tryz.prog.godebug = none := by kernel_rfl
theorem laidOut : laidOutB Tryz.prog = true := by kernel_rfl
set_option maxRecDepth 100000 in
theorem contract (H : Type) (enc : TypeId × Value → H) (W : World) (base : Nat) (args : Array Value) (ds gs : List (DataW H)) (before : List MemPlace)
    (hval : ∀ (j : Nat) t v, Tryz.f8.params[j]? = some t → args[j]? = some v → Value.okWide Tryz.prog W .any base t v)
    (hW : DataW.Whole enc Tryz.prog Tryz.f8.params.toList Rows.topSeenSpec.vars false W args.toList ds gs before) (hL : laidMetH Tryz.prog Rows.topSeenRow.laid W) :
    Calls Tryz.prog 8 args W fun e W' => ∃ v, e = .returned v ∧ Rows.topSeenSpec.post enc Tryz.prog Tryz.f8 false true false false W args v W' := by
  have hW' := hW
  obtain ⟨p, q, hA0, hV, rfl, hfz, hnd⟩ := hW
  have hA : DataW.TrodAll enc Tryz.prog W 0 (fun _ => true) true Tryz.f8.params.toList args.toList ds p := hA0
  rw [Tryz.params8] at hA hval
  obtain ⟨v0, vs0, d0, ds0, p0, q0, hargs, rfl, rfl, h0, r0⟩ := trodAll_cons hA
  obtain ⟨v1, vs1, d1, ds1, p1, q1, rfl, rfl, rfl, h1, r1⟩ := trodAll_cons r0
  obtain ⟨v2, vs2, d2, ds2, p2, q2, rfl, rfl, rfl, h2, r2⟩ := trodAll_cons r1
  obtain ⟨rfl, rfl, rfl⟩ := trodAll_nil r2
  obtain rfl : args = #[v0, v1, v2] := by cases args; simp_all
  obtain ⟨rfl, rfl⟩ := trodVars_none hV
  obtain ⟨a0, len0, cap0, rfl⟩ := okWide_slice Tryz.underlying22 (hval 0 22 v0 rfl rfl)
  have k0 := h0
  have lt0 : ∀ x ∈ p0, x.block < W.heap.size := by obtain ⟨m, hm⟩ := k0; exact DataW.trod_lt m _ _ _ hm
  obtain ⟨z0, w0⟩ : ∃ zs, IntsIn W (.slice a0 len0 cap0) zs := by
    obtain ⟨fuel, hf⟩ := h0
    exact intsIn_open Tryz.underlying22 Tryz.underlying3 (by kernel_rfl) hf lt0
  obtain ⟨a1, rfl, rfl, rfl, w1⟩ := open_int Tryz.underlying3 (hval 1 3 v1 rfl rfl) h1
  obtain ⟨a2, rfl, rfl, rfl, w2⟩ := open_int Tryz.underlying3 (hval 2 3 v2 rfl rfl) h2
  have lw := laidWalk hL
  refine (walk (.slice a0 len0 cap0) z0 a1 a2 W w0 w1 w2 lw).mono fun e W' ⟨he, bel⟩ => ?_
  subst he
  exact ⟨_, rfl, _, _, _, [], _, [], hW', trodAll_mk1 (shut_bool Tryz.underlying4 _), (trodAll_cons_mk (Below.trod laidOut (by kernel_rfl) (of_decide_eq_true (by kernel_rfl)) k0 bel lt0) (trodAll_cons_mk (shut_int Tryz.underlying3 w1) (trodAll_cons_mk (shut_int Tryz.underlying3 w2) trodAll_mk0))), rfl, bel.frame _, fun h => by cases h⟩

theorem reads (os : Os) {H : Type} (enc : TypeId × Value → H) : ∃ places, DataW.whole enc Tryz.prog ((laidWorld os).forCall (fun _ _ => 0) ⟨#[], #[.slice none 0 0, .int .i64 0, .int .i64 0], []⟩).memory Tryz.f8.params.toList Rows.topSeenSpec.vars false (#[.slice none 0 0, .int .i64 0, .int .i64 0] : Array Value).toList 8 = some ([.nil, .lit (.int .i64 0), .lit (.int .i64 0)], [], places) :=
  ⟨[], by kernel_rfl⟩
theorem laid_met (os : Os) : laidMetH Tryz.prog Rows.topSeenRow.laid ((laidWorld os).forCall (fun _ _ => 0) ⟨#[], #[.slice none 0 0, .int .i64 0, .int .i64 0], []⟩).memory := laidMetW os _

set_option maxRecDepth 100000 in
theorem lifted (os : Os) (started : os.Started) (H : Type) (enc : TypeId × Value → H) (F : Stop.Interp) :
    ReturnsInHanded {} Tryz.checked os 8 .any ((OpenSpec.ofChange Rows.topSeenSpec).preRow enc Tryz.prog Tryz.f8 Rows.topSeenRow.domain false Rows.topSeenRow.laid) (((OpenSpec.ofChange Rows.topSeenSpec).at F).post enc Tryz.prog Tryz.f8 false true false false) := by
  obtain ⟨places, hx⟩ := reads os enc
  refine returnsInHanded_of_row (C := Tryz.checked) (s := OpenSpec.ofChange Rows.topSeenSpec) own started (by kernel_rfl) Tryz.func8
    (witness_row_at (enc := enc) (C := Tryz.checked) false (laidWorld os) #[.slice none 0 0, .int .i64 0, .int .i64 0] rfl (by kernel_rfl) (by kernel_rfl) (by kernel_rfl)
      (OpenSpec.preRow_of_cond 8 hx (by kernel_rfl) (fun k hk => by cases hk) (by kernel_rfl) (laid_met os))) ?_
  intro W base args ds gs before hval hW _ _ _ hL _ _
  exact contract H enc W base args ds gs before hval hW hL

theorem said : Rows.TopSeenSaid :=
  OpenClaim.holds_of_cond 8 Tryz.f8 rfl rfl rfl rfl rfl rfl rfl ⟨rfl, rfl, rfl, rfl, rfl⟩ rfl rfl rfl rfl rfl (by kernel_rfl) Tryz.func8 (by kernel_rfl)
    (of_decide_eq_true (by kernel_rfl)) (by unfold Func.isWrapper; first | (rw [if_pos (by decide +kernel)]; kernel_rfl) | (rw [if_neg (by decide +kernel)]; exact ⟨rfl, rfl⟩))
    (fun os started H enc _ F => by rw [OpenClaim.pre_eq_preRow]; exact lifted os started H enc F)

theorem plain (f : FuncId) (fn : Func) (hf : Tryz.pinned.checked.prog.funcNamed "wanderwire/wiretop.TopSeen" = some f) (hfn : Tryz.pinned.checked.prog.funcs[f]? = some fn) :
    true = Tryz.pinned.checked.prog.looks [] ∧ ∀ (j : Nat) t, fn.params[j]? = some t → Tryz.pinned.checked.prog.wantsStandIn t = false := by
  obtain rfl : f = 8 := Option.some.inj ((show Tryz.prog.funcNamed "wanderwire/wiretop.TopSeen" = some 8 by kernel_rfl).symm.trans hf) |>.symm
  obtain rfl : fn = Tryz.f8 := (Option.some.inj (Tryz.func8.symm.trans hfn)).symm
  refine ⟨by kernel_rfl, fun j t ht => ?_⟩
  rw [Tryz.params8] at ht
  have ht' := Array.mem_of_getElem? ht
  have hall : (([22, 3, 3] : List Nat).all fun t => !Tryz.prog.wantsStandIn t) = true := by kernel_rfl
  have hq := List.all_eq_true.1 hall t (by simpa using ht')
  have hq2 : Tryz.prog.wantsStandIn t = false := by simpa using hq
  exact hq2

theorem card : Rows.TopSeenCardSaid :=
  Claim7.holds_tied_plain_at .later [] _ _ _ _ said (fun _ h => by cases h) (by kernel_rfl) (fun _ h => by cases h) topSeen_row_tie rfl ⟨rfl, rfl⟩ (by kernel_rfl) rfl plain (by kernel_rfl)
#print axioms card
end Go.Proofs.YtaindcicloapfaaGreatDoor.topSeen
