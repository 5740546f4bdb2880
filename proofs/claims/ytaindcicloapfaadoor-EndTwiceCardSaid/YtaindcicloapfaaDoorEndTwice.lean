/- EndTwice: for every window, data and bytes the law returns true: a packet that came again changes nothing, nor does what is refused; behind six rounds all that was written is known to be there, and no piece is told any more. Condition: the tables of kinds and counts hold what the program's text lays (the row lists them, the card ties them). -/
import Derived.Test.YtaindcicloapfaaDoorZF
import Derived.Test.YtaindcicloapfaaDoorCards
import Derived.Test.YtaindcicloapfaaDoorTie
import Derived.Deep.DeepHandedRow
import Derived.LaidLaws
import Derived.LaidHandle
import Derived.Deep.DeepWitnessRowRef
import Derived.Test.YtaindcicloapfaaDoorRows
import Derived.WalkKit
import Derived.ProofKit
import Derived.OpenShut
import Derived.ShutString
import Derived.ChangeOld
import Derived.Below
import Derived.Lib.SmallJoins
import Derived.Deep.Slices
import Derived.Deep.Matrix
import Derived.Deep.Strs
namespace Go.Proofs.YtaindcicloapfaaDoor.endTwice
open Go.ChangeShapes Go.WideShapes Go.ChangeAt Go.RowKit
open Go.ChangeMaps (open_string shut_string)
set_option linter.unusedVariables false

noncomputable abbrev laidWorld := YtaindcicloapfaaDoor.laidWorld2
theorem laidMetW (os : Os) (args : Array Value) : laidMetH Tryd.prog Rows.endTwiceRow.laid ((laidWorld os).forCall (fun _ _ => 0) ⟨#[], args, []⟩).memory := laidMet_kc os args
theorem laidWalk {W : World} (h : laidMetH Tryd.prog Rows.endTwiceRow.laid W) : KTab W ∧ CTab W := laid_kc h
def a1 : EnS := (EnS.new 20).write ⟨#[97, 98]⟩
theorem a1_eq : a1 = { EnS.new 20 with data := ⟨#[97, 98]⟩ } := (new_write (n := 20) (d := ⟨#[97, 98]⟩) (by decide)).1
theorem a1_ok : EnOk a1 := (EnOk.new (by decide) (by decide)).write ⟨#[97, 98]⟩
theorem fact_take : (EnS.new 20).takeE a1.packet = 0 := by
  rw [(first_take a1_ok (by rw [a1_eq]; rfl) (by rw [a1_eq]; rfl) rfl).1, a1_eq]
  decide
theorem fact_read : ((EnS.new 20).take a1.packet).readS 9 = ⟨#[97, 98]⟩ := by
  rw [(first_take a1_ok (by rw [a1_eq]; rfl) (by rw [a1_eq]; rfl) rfl).2, a1_eq]
  decide
theorem fact_made : ((EnS.new 20).take a1.packet).made = [] := by
  rw [(first_take a1_ok (by rw [a1_eq]; rfl) (by rw [a1_eq]; rfl) rfl).2, a1_eq]
  rfl
theorem pk_size {x : EnS} (h : EnOk x) (hm : x.made.length ≤ 1000000) : (ByteArray.mk x.packet.toArray).size ≤ 9223372036854775000 := by
  have := (h.packetOk hm).2.2
  show x.packet.toArray.size ≤ _
  rw [List.size_toArray]; omega
theorem etakeP (g : Nat) (s x : EnS) (w : World) (S : List Nat) (h : (endT g s).is w S) (hK : KTab w) (hC : CTab w) (h1000 : s.made.length ≤ 1000) (hx : EnOk x) (hm : x.made.length ≤ 1000000) :
    Calls Tryd.prog 13 #[.pointer (some ⟨g, 0, none⟩), .string ⟨x.packet.toArray⟩] w fun e w' => e = .returned (errV (s.takeE x.packet)) ∧ Leaves w w' S (endT g (s.take x.packet)) := by
  have h1 := etake g s ⟨x.packet.toArray⟩ w S h hK hC h1000 (pk_size hx hm)
  simp only at h1
  exact h1

set_option maxRecDepth 100000 in
set_option maxHeartbeats 12800000 in
theorem walk (n : Int) (d b : ByteArray) (w : World) (w0 : (Lit.int .i64 n).wf = true) (w1 : d.size ≤ 140737488351232) (w2 : b.size ≤ 140737488351232) (hkc : KTab w ∧ CTab w) :
    Calls Tryd.prog 4 #[.int .i64 n, .string d, .string b] w fun e w' => e = .returned (.bool true) ∧ Below w.heap.size w w' := by
  have HK := Lib.hid hkc.1
  have HC := Lib.hid hkc.2
  have HD : Hid (d.size ≤ 9223372036854775000) := Lib.hid (by omega)
  have HB : Hid (b.size ≤ 9223372036854775000) := Lib.hid (by omega)
  have F1 := Lib.hid fact_take
  have F2 := Lib.hid fact_read
  have F3 := Lib.hid fact_made
  have FW : Hid ((EnS.new 20).writeE ⟨#[97, 98]⟩ = 0) := Lib.hid (new_write (n := 20) (d := ⟨#[97, 98]⟩) (by decide)).2
  clear hkc w0 w1 w2
  go_enter Tryd.func4, Tryd.ntmps4
  go_wp2_with fail
  refine (enew 20 (by decide) (by decide) _).mono ?_
  rintro e w1 ⟨g1, rfl, hl⟩
  have HW1 : Hid (Own w [] w1 [endT g1 (EnS.new 20)]) := Lib.hid ((Own.start w).made hl)
  clear hl
  go_wp2_with fail
  refine (enew 20 (by decide) (by decide) _).mono ?_
  rintro e w2 ⟨g2, rfl, hl⟩
  have HW2 : Hid (Own w [] w2 [endT g1 (EnS.new 20), endT g2 (EnS.new 20)]) := Lib.hid (HW1.out.made hl)
  clear hl HW1
  obtain ⟨S, hS, up⟩ := HW2.out.at_ 0 rfl
  go_wp2_with fail
  refine (ewrite g1 (EnS.new 20) ⟨#[97, 98]⟩ _ S hS (by decide)).mono ?_
  rintro e w3 ⟨rfl, hl⟩
  rw [FW.out, errV_zero]
  have HW3 : Hid (Own w [] w3 [endT g1 a1, endT g2 (EnS.new 20)]) := Lib.hid (up _ _ hl)
  clear hl HW2 hS up
  obtain ⟨S, hS, up⟩ := HW3.out.at_ 0 rfl
  go_wp2_with fail
  refine (emake g1 a1 _ S hS (HK.out.later HW3.out.since) (by rw [a1_eq]; show 0 ≤ 1000; omega)).mono ?_
  rintro e w4 ⟨rfl, hl⟩
  have HW4 : Hid (Own w [] w4 [endT g1 a1.make, endT g2 (EnS.new 20)]) := Lib.hid (up _ _ hl)
  clear hl HW3 hS up
  obtain ⟨S, hS, up⟩ := HW4.out.at_ 1 rfl
  go_wp2_with fail
  refine (etakeP g2 (EnS.new 20) a1 _ S hS (HK.out.later HW4.out.since) (HC.out.later HW4.out.since) (by show 0 ≤ 1000; omega) a1_ok (by rw [a1_eq]; show 0 ≤ 1000000; omega)).mono ?_
  rintro e w5 ⟨rfl, hl⟩
  rw [F1.out, errV_zero]
  have HW5 : Hid (Own w [] w5 [endT g1 a1.make, endT g2 ((EnS.new 20).take a1.packet)]) := Lib.hid (up _ _ hl)
  clear hl HW4 hS up
  obtain ⟨S, hS, up⟩ := HW5.out.at_ 1 rfl
  go_wp2_with fail
  refine (eread g2 _ 9 _ S hS).mono ?_
  rintro e w6 ⟨rfl, hl⟩
  rw [F2.out, show EnS.readE 9 = 0 from rfl, errV_zero]
  have hs6 : Since w w6 := (show Own w [] w6 _ from up _ _ hl).since
  clear hl HW5 hS up
  by_cases hn : 1 ≤ n ∧ n ≤ 1000
  case neg =>
    have hN := Lib.hid (fun W => enew_no n hn W)
    clear hn
    go_wp2_with (go_at_call 7; refine (hN.out _).mono ?_; rintro e w7 ⟨rfl, hb7⟩; rw [errV_pos (by decide)])
    go_ret
    exact ⟨rfl, (by refine Since.out ?_; repeat (first | with_reducible assumption | with_reducible exact Since.refl _ | with_reducible refine Since.later ?_ (by with_reducible assumption) | with_reducible refine Since.only ?_ (by with_reducible assumption) (by first | assumption | omega | (simp; done) | (simp; omega)) | with_reducible refine Since.alloc ?_ _ | with_reducible refine Since.drewN ?_ _ | with_reducible refine Since.drew ?_ | with_reducible refine Since.set ?_ (by first | assumption | omega | (simp; done) | (simp; omega)) _))⟩
  obtain ⟨h1, h2⟩ := hn
  have hN := Lib.hid (fun W => enew n h1 h2 W)
  go_wp2_with fail
  refine (hN.out _).mono ?_
  rintro e w7 ⟨g3, rfl, hl⟩
  have HW7 : Hid (Own w [] w7 [endT g3 (EnS.new n)]) := Lib.hid (((Own.start w).later hs6).made hl)
  clear hl hs6
  go_wp2_with fail
  refine (hN.out _).mono ?_
  rintro e w8 ⟨g4, rfl, hl⟩
  have HW8 : Hid (Own w [] w8 [endT g3 (EnS.new n), endT g4 (EnS.new n)]) := Lib.hid (HW7.out.made hl)
  clear hl HW7
  obtain ⟨S, hS, up⟩ := HW8.out.at_ 0 rfl
  go_wp2_with fail
  refine (ewrite g3 (EnS.new n) d _ S hS HD.out).mono ?_
  rintro e w9 ⟨rfl, hl⟩
  have HW9 : Hid (Own w [] w9 [endT g3 ((EnS.new n).write d), endT g4 (EnS.new n)]) := Lib.hid (up _ _ hl)
  clear hl HW8 hS up
  by_cases hd : d.size ≤ 60
  case neg =>
    have hs9 : Since w w9 := HW9.out.since
    have hdd : (60 : Int) < (d.size : Int) := by omega
    rw [new_full hd, errV_pos (by decide)]
    clear hd
    go_wp2_with fail
    go_ret
    exact ⟨rfl, hs9⟩
  rw [(new_write hd).2, errV_zero]
  have HR0 := Lib.hid (Rnd.start h1 h2 hd)
  have HX0 := Lib.hid (new_write (n := n) hd).1
  obtain ⟨x0, hx0⟩ : ∃ x, (EnS.new n).write d = x := ⟨_, rfl⟩
  rw [hx0] at HW9 HR0 HX0
  have hxm : x0.made.length = 0 := by rw [HX0.out]; rfl
  have hP0 : Pair x0 (EnS.new n) := by obtain ⟨m, hm, _⟩ := HR0.out.lo; exact hm.pr
  have HP0 := Lib.hid hP0
  have hA0 : addE (EnS.new n).came x0.made.length = 0 := by rw [hxm]; rfl
  have HT0 : Hid ((EnS.new n).takeE x0.packet = 0) := Lib.hid (took0 hP0 (by omega) hA0)
  have HAG := Lib.hid (again hP0 (by omega) hA0)
  have HMD : Hid (((EnS.new n).take x0.packet).made = []) := Lib.hid (by
    obtain ⟨_, C', M', c, _⟩ := send_take hP0 (by omega) (not4 hP0 (by omega) hA0)
    rw [c, (got_fields _ _ _ _ _ _).2.1]; rfl)
  have HXM := Lib.hid hxm
  clear hP0 hA0 hxm hx0
  obtain ⟨S, hS, up⟩ := HW9.out.at_ 0 rfl
  go_wp2_with fail
  refine (emake g3 x0 _ S hS (HK.out.later HW9.out.since) (by rw [HXM.out]; omega)).mono ?_
  rintro e w10 ⟨rfl, hl⟩
  have HW10 : Hid (Own w [] w10 [endT g3 x0.make, endT g4 (EnS.new n)]) := Lib.hid (up _ _ hl)
  clear hl HW9 hS up
  obtain ⟨S, hS, up⟩ := HW10.out.at_ 1 rfl
  go_wp2_with fail
  refine (etakeP g4 (EnS.new n) x0 _ S hS (HK.out.later HW10.out.since) (HC.out.later HW10.out.since) (by show 0 ≤ 1000; omega) HP0.out.ox (by rw [HXM.out]; omega)).mono ?_
  rintro e w11 ⟨rfl, hl⟩
  rw [HT0.out, errV_zero]
  obtain ⟨y1, hy1⟩ : ∃ y, (EnS.new n).take x0.packet = y := ⟨_, rfl⟩
  rw [hy1] at HAG HMD hl
  have HW11 : Hid (Own w [] w11 [endT g3 x0.make, endT g4 y1]) := Lib.hid (up _ _ hl)
  clear hl HW10 hS up hy1
  have HRD := Lib.hid (fun W S (h : (endT g4 y1).is W S) => eready g4 y1 W S h)
  obtain ⟨rd, hrd⟩ : ∃ r, readyN y1.M y1.t = r := ⟨_, rfl⟩
  rw [hrd] at HRD
  have hrd61 : rd ≤ 60 := by rw [← hrd]; have := readyF_le y1.M (60 - y1.t) y1.t; unfold readyN; omega
  have hrr : ((rd : Int) != (rd : Int)) = false := by simp
  clear hrd
  obtain ⟨S, hS, -⟩ := HW11.out.at_ 1 rfl
  go_wp2_with fail
  refine (HRD.out _ S hS).mono ?_
  rintro e w12 ⟨rfl, hb12⟩
  have HW12 := Lib.hid (HW11.out.later hb12)
  clear hS hb12 HW11
  obtain ⟨S, hS, -⟩ := HW12.out.at_ 1 rfl
  go_wp2_with fail
  refine (eacked g4 y1 _ S hS).mono ?_
  rintro e w13 ⟨A1, c1, rfl, hl1, hb13, hk1⟩
  have HW13 : Hid (Own w [] w13 [endT g3 x0.make, endT g4 y1, Thing.lst 81 2 (.slice A1 y1.came.length c1) (y1.came.map rngRow)]) := Lib.hid (HW12.out.add hb13 (S := blocks (.slice A1 y1.came.length c1)) ⟨hl1, rfl⟩ (fun k hk => hk1 k (blocks_any A1 _ _ _ _ ▸ hk)))
  clear hS hl1 hb13 hk1 HW12
  obtain ⟨S, hS, up⟩ := HW13.out.at_ 1 rfl
  go_wp2_with fail
  refine (etakeP g4 y1 x0 _ S hS (HK.out.later HW13.out.since) (HC.out.later HW13.out.since) (by rw [HMD.out]; show 0 ≤ 1000; omega) HP0.out.ox (by rw [HXM.out]; omega)).mono ?_
  rintro e w14 ⟨rfl, hl⟩
  rw [HAG.out.1, errV_zero]
  rw [HAG.out.2] at hl
  have HW14 : Hid (Own w [] w14 [endT g3 x0.make, endT g4 y1, Thing.lst 81 2 (.slice A1 y1.came.length c1) (y1.came.map rngRow)]) := Lib.hid (up _ _ hl)
  clear hl HW13 hS up
  have hcl12 := Lib.hid (rngE_len (show rngE y1.came = 0 from by
    obtain ⟨S, hS, _⟩ := HW14.out.at_ 1 rfl
    obtain ⟨p, hp⟩ := endT_open hS
    exact hp.ok.cm))
  have HAC := Lib.hid (fun W S (h : (endT g4 y1).is W S) => eacked g4 y1 W S h)
  have HEQ := Lib.hid (fun W A B ca cb h1 h2 => rngeqB A B ca cb y1.came.length y1.came W rfl h1 h2)
  obtain ⟨S, hS, -⟩ := HW14.out.at_ 1 rfl
  go_wp2_with fail
  refine (HRD.out _ S hS).mono ?_
  rintro e w15 ⟨rfl, hb15⟩
  have HW15 := Lib.hid (HW14.out.later hb15)
  clear hS hb15 HW14
  obtain ⟨S, hS, -⟩ := HW15.out.at_ 1 rfl
  go_wp2_with fail
  refine (HAC.out _ S hS).mono ?_
  rintro e w16 ⟨A2, c2, rfl, hl2, hb16, -⟩
  have HW16 := Lib.hid (HW15.out.later hb16)
  have HL2 := Lib.hid (Rd.of_lst hl2)
  clear hS hb16 hl2 HW15
  have hl1 := HW16.out.ls 2 rfl
  go_wp2_with fail
  refine (HEQ.out _ A2 A1 c2 c1 HL2.out (Rd.of_lst hl1)).mono ?_
  rintro e w17 ⟨rfl, hb17⟩
  have HW17 := Lib.hid (HW16.out.later hb17)
  clear hb17 hl1 HL2 HW16
  obtain ⟨S, hS, up⟩ := HW17.out.at_ 1 rfl
  have hs17 : Since w w17 := HW17.out.since
  go_wp2_with fail
  refine (etake g4 y1 b _ S hS (HK.out.later hs17) (HC.out.later hs17) (by rw [HMD.out]; show 0 ≤ 1000; omega) HB.out).mono ?_
  rintro e w18 ⟨rfl, hl⟩
  have HW18 : Hid (Own w [] w18 [endT g3 x0.make, endT g4 (y1.take b.data.toList), Thing.lst 81 2 (.slice A1 y1.came.length c1) (y1.came.map rngRow)]) := Lib.hid (up _ _ hl)
  clear hl HW17 hS up hs17
  repeat ((fail_if_success (with_reducible refine stop_at 25 ?_)); first | fail | go_values | go_skip | go_guarded | go_step | go_upon | go_back | go_simp)
  go_cut [21] (fun s21 wx => Since w wx)
  case first =>
    by_cases hbad : y1.takeE b.data.toList = 0
    · rw [hbad, errV_zero]
      have hs18 : Since w w18 := HW18.out.since
      go_wp2_with fail
      go_meet
      case rel => exact hs18
    · have HY := Lib.hid (take_bad hbad)
      rw [HY.out] at HW18
      rw [errV_pos hbad]
      clear hbad
      obtain ⟨S, hS, -⟩ := HW18.out.at_ 1 rfl
      go_wp2_with fail
      refine (HRD.out _ S hS).mono ?_
      rintro e w19 ⟨rfl, hb19⟩
      have HW19 := Lib.hid (HW18.out.later hb19)
      clear hS hb19 HW18
      obtain ⟨S, hS, -⟩ := HW19.out.at_ 1 rfl
      go_wp2_with fail
      refine (HAC.out _ S hS).mono ?_
      rintro e w20 ⟨A3, c3, rfl, hl3, hb20, -⟩
      have HW20 := Lib.hid (HW19.out.later hb20)
      have HL3 := Lib.hid (Rd.of_lst hl3)
      clear hS hb20 hl3 HW19
      have hl1 := HW20.out.ls 2 rfl
      go_wp2_with fail
      refine (HEQ.out _ A3 A1 c3 c1 HL3.out (Rd.of_lst hl1)).mono ?_
      rintro e w21 ⟨rfl, hb21⟩
      have hs21 : Since w w21 := (HW20.out.later hb21).since
      go_wp2_with fail
      go_meet
      case rel => exact hs21
  case rest =>
    have hsc : Since w wc := hcut
    clear hcut HW18 HRD HAC HEQ HAG HMD HP0 HT0
    go_wp2_with fail
    refine (hN.out _).mono ?_
    rintro e w22 ⟨g5, rfl, hl⟩
    have HW22 : Hid (Own w [] w22 [endT g5 (EnS.new n)]) := Lib.hid (((Own.start w).later hsc).made hl)
    clear hl hsc
    go_wp2_with fail
    refine (hN.out _).mono ?_
    rintro e w23 ⟨g6, rfl, hl⟩
    have HW23 : Hid (Own w [] w23 [endT g5 (EnS.new n), endT g6 (EnS.new n)]) := Lib.hid (HW22.out.made hl)
    clear hl HW22
    obtain ⟨S, hS, up⟩ := HW23.out.at_ 0 rfl
    go_wp2_with fail
    refine (ewrite g5 (EnS.new n) d _ S hS HD.out).mono ?_
    rintro e w24 ⟨rfl, hl⟩
    have hx0 : (EnS.new n).write d = x0 := by rw [(new_write hd).1, HX0.out]
    rw [hx0] at hl
    rw [(new_write hd).2, errV_zero]
    have HW24 : Hid (Own w [] w24 [endT g5 x0, endT g6 (EnS.new n)]) := Lib.hid (up _ _ hl)
    clear hl HW23 hS up hx0
    have HDS := Lib.hid hd
    have HN1 := Lib.hid h1
    clear hd
    go_wp2_with fail
    go_loopw [24] (fun s24 wr => ∃ (i : Nat) (X Y : EnS), s24 = .int .i64 i ∧ i ≤ 6 ∧ Rnd X Y i ∧ Y.W = n ∧ X.data = d ∧ Own w [] wr [endT g5 X, endT g6 Y]) (fun s24 _ => 6 - (intOf s24).toNat)
    case atStart => exact ⟨0, x0, EnS.new n, rfl, by omega, HR0.out, rfl, by rw [HX0.out], HW24.out⟩
    case round =>
      obtain ⟨i, X, Y, rfl, hi, hr, hYW, hXd, hw⟩ := hrel
      have HR := Lib.hid hr
      have HYW := Lib.hid hYW
      have HXD := Lib.hid hXd
      have HW := Lib.hid hw
      clear hr hYW hXd hw
      by_cases hlt : i < 6
      case neg =>
        obtain rfl : i = 6 := by omega
        have hXm : X.made.length = 6 := HR.out.mx
        obtain ⟨mm, hlo, hmin⟩ := HR.out.lo
        have hXok := hlo.pr.ox
        have HO := Lib.hid (own_open hXok (by omega))
        rw [hXm] at HO
        have hk3 : ∀ f ∈ X.frames, f.kind = 3 → n < 10 := fun f hf h3 => by
          rcases Int.lt_or_le n 10 with h10 | h10
          · exact h10
          · exfalso
            have hl : mm = X.data.size := by
              have h60 := hXok.dz
              have := hlo.ml
              rw [HYW.out] at hmin
              have : 60 ≤ 6 * n.toNat := by omega
              omega
            have hsil := hlo.silent hl
            unfold EnS.frames at hf
            rw [hsil] at hf
            rcases List.mem_append.1 hf with hf | hf
            · unfold ackFs at hf
              split at hf
              · simp at hf
              · rw [List.mem_singleton.1 hf] at h3; cases h3
            · rw [List.map_nil, List.mem_singleton] at hf
              rw [hf] at h3; cases h3
        have HK3 := Lib.hid hk3
        have HXOK := Lib.hid hXok
        have HXM := Lib.hid hXm
        clear hk3 hXok hXm hlo hmin
        obtain ⟨S, hS, up⟩ := HW.out.at_ 0 rfl
        have hlt6 : decide ((6 : Int) < 6) = false := by decide
        go_wp2_with fail
        refine (emake g5 X _ S hS (HK.out.later HW.out.since) (by rw [HXM.out]; omega)).mono ?_
        rintro e w30 ⟨rfl, hl⟩
        have hs30 : Since w w30 := (show Own w [] w30 _ from up _ _ hl).since
        clear hl hS up
        have HP := Lib.hid (fun W hk hc => pkparse ⟨X.packet.toArray⟩ 6 W (by have := pk_size HXOK.out (by rw [HXM.out]; omega); omega) hk hc)
        go_wp2_with fail
        refine (HP.out _ (HK.out.later hs30) (HC.out.later hs30)).mono ?_
        rintro e w31 ⟨A9, m9, c9, Ms, rfl, hb31, hf31, hm31, hM31⟩
        have hs31 : Since w w31 := hs30.later hb31
        have hM31 : Ms.map (·.f) = openL X.packet 6 := hM31
        rw [show openL X.packet 6 = X.frames from HO.out.2.2] at hM31
        have HFS := Lib.hid hf31
        have HMS := Lib.hid hM31
        have HML := Lib.hid hm31
        rw [show openE X.packet 6 = 0 from HO.out.1, errV_zero]
        have hm5 : m9 ≤ 5 := by
          have h1 := congrArg List.length hM31
          rw [List.length_map, hm31] at h1
          have := HXOK.out.framesOk.2.2.1
          omega
        clear hf31 hM31 hm31 hb31 HP
        go_wp2_with fail
        go_loopw [29] (fun s29 w9 => ∃ j : Nat, s29 = .int .i64 j ∧ j ≤ m9 ∧ w9 = w31) (fun s29 _ => m9 - (intOf s29).toNat)
        case atStart => exact ⟨0, rfl, Nat.zero_le _, rfl⟩
        case round =>
          obtain ⟨j, rfl, hj, rfl⟩ := hrel
          by_cases hlt : j < m9
          case neg =>
            obtain rfl : j = m9 := by omega
            have hlt' : decide ((j : Int) < (j : Int)) = false := by simp
            go_wp2_with fail
            go_ret
            exact ⟨rfl, hs31⟩
          have hlt' : (j : Int) < (m9 : Int) := by omega
          obtain ⟨b9, off9, hA9, hlb9, hcc9⟩ := HFS.out.agg_at HML.out hlt
          subst hA9
          obtain ⟨f0, -, -⟩ := hcc9 wr (Since.refl wr)
          have hjM : j < Ms.length := by have := HML.out; omega
          have hkind : Ms[j].f.kind = 3 → n < 10 := fun h3 => HK3.out Ms[j].f (by rw [← HMS.out]; exact List.mem_map.2 ⟨_, List.getElem_mem _, rfl⟩) h3
          obtain ⟨kk, hkk⟩ : ∃ k, Ms[j].f.kind = k := ⟨_, rfl⟩
          rw [hkk] at f0 hkind
          clear hcc9 hkk
          by_cases h3 : kk = 3
          · subst h3
            have h10 : decide ((10 : Int) ≤ n) = false := by have := hkind rfl; simp; omega
            clear hkind
            go_wp2_with fail
            go_roundw
            case rel => exact ⟨j + 1, by go_num, by omega, by first | rfl | trivial⟩
            case measure => simp [intOf]; omega
          · have h3' : (kk == 3) = false := by simpa using h3
            clear hkind
            go_wp2_with fail
            go_roundw
            case rel => exact ⟨j + 1, by go_num, by omega, by first | rfl | trivial⟩
            case measure => simp [intOf]; omega
      have HNX := Lib.hid (HR.out.next (by omega))
      have hlt' : (i : Int) < 6 := by omega
      obtain ⟨mm, hlo, -⟩ := HR.out.lo
      have HPR := Lib.hid hlo.pr
      have hXm := HR.out.mx
      have hYm := HR.out.my
      have HPH : Hid (EnOk (Y.hear X) ∧ (Y.hear X).made.length = i) := Lib.hid (by
        have ha := HR.out.gx.fits hlo.pr.oy.cm (by omega) (by omega)
        have h1 := exchange hlo.pr (by omega) (not4 hlo.pr (by omega) ha)
        exact ⟨h1.1.ox, by rw [h1.2.2.2.2.1]; exact hYm⟩)
      clear hlo
      obtain ⟨S, hS, up⟩ := HW.out.at_ 0 rfl
      go_wp2_with fail
      refine (emake g5 X _ S hS (HK.out.later HW.out.since) (by omega)).mono ?_
      rintro e w25 ⟨rfl, hl⟩
      have HW25 : Hid (Own w [] w25 [endT g5 X.make, endT g6 Y]) := Lib.hid (up _ _ hl)
      clear hl HW hS up
      obtain ⟨S, hS, up⟩ := HW25.out.at_ 1 rfl
      go_wp2_with fail
      refine (etakeP g6 Y X _ S hS (HK.out.later HW25.out.since) (HC.out.later HW25.out.since) (by omega) HPR.out.ox (by omega)).mono ?_
      rintro e w26 ⟨rfl, hl⟩
      rw [HNX.out.1, errV_zero]
      have HW26 : Hid (Own w [] w26 [endT g5 X.make, endT g6 (Y.take X.packet)]) := Lib.hid (up _ _ hl)
      clear hl HW25 hS up
      obtain ⟨S, hS, up⟩ := HW26.out.at_ 1 rfl
      go_wp2_with fail
      refine (eread g6 (Y.take X.packet) 60 _ S hS).mono ?_
      rintro e w27 ⟨rfl, hl⟩
      rw [show EnS.readE 60 = 0 from rfl, errV_zero]
      have HW27 : Hid (Own w [] w27 [endT g5 X.make, endT g6 (Y.hear X)]) := Lib.hid (up _ _ hl)
      clear hl HW26 hS up
      obtain ⟨S, hS, up⟩ := HW27.out.at_ 1 rfl
      go_wp2_with fail
      refine (emake g6 (Y.hear X) _ S hS (HK.out.later HW27.out.since) (by rw [HPH.out.2]; omega)).mono ?_
      rintro e w28 ⟨rfl, hl⟩
      have HW28 : Hid (Own w [] w28 [endT g5 X.make, endT g6 (Y.hear X).make]) := Lib.hid (up _ _ hl)
      clear hl HW27 hS up
      obtain ⟨S, hS, up⟩ := HW28.out.at_ 0 rfl
      go_wp2_with fail
      refine (etakeP g5 X.make (Y.hear X) _ S hS (HK.out.later HW28.out.since) (HC.out.later HW28.out.since) (by show (X.made ++ [X.pieces]).length ≤ 1000; rw [List.length_append]; simp; omega) HPH.out.1 (by rw [HPH.out.2]; omega)).mono ?_
      rintro e w29 ⟨rfl, hl⟩
      rw [HNX.out.2.1, errV_zero]
      have HW29 : Hid (Own w [] w29 [endT g5 (X.make.take (Y.hear X).packet), endT g6 (Y.hear X).make]) := Lib.hid (up _ _ hl)
      clear hl HW28 hS up
      go_wp2_with fail
      go_roundw
      case rel => exact ⟨i + 1, _, _, by go_num, by omega, HNX.out.2.2.1, by rw [← HYW.out]; exact HNX.out.2.2.2.1, by rw [HNX.out.2.2.2.2.1, HXD.out], HW29.out⟩
      case measure => simp [intOf]; omega

/-! the row -/
theorem own : ownKnob Tryd.prog.godebug = none := by kernel_rfl
theorem laidOut : laidOutB Tryd.prog = true := by kernel_rfl
set_option maxRecDepth 100000 in
theorem contract (H : Type) (enc : TypeId × Value → H) (W : World) (base : Nat) (args : Array Value) (ds gs : List (DataW H)) (before : List MemPlace)
    (hval : ∀ (j : Nat) t v, Tryd.f4.params[j]? = some t → args[j]? = some v → Value.okWide Tryd.prog W .any base t v)
    (hW : DataW.Whole enc Tryd.prog Tryd.f4.params.toList Rows.endTwiceSpec.vars false W args.toList ds gs before) (hsz : (DataW.weightsEach Tryd.prog (Tryd.f4.params.toList ++ (OpenSpec.ofChange Rows.endTwiceSpec).bare.plain.varTypes Tryd.prog) (ds ++ gs)).all (· ≤ reachBytes) = true) (hL : laidMetH Tryd.prog Rows.endTwiceRow.laid W) :
    Calls Tryd.prog 4 args W fun e W' => ∃ v, e = .returned v ∧ Rows.endTwiceSpec.post enc Tryd.prog Tryd.f4 false true false false W args v W' := by
  have hW' := hW
  obtain ⟨p, q, hA0, hV, rfl, hfz, hnd⟩ := hW
  have hA : DataW.TrodAll enc Tryd.prog W 0 (fun _ => true) true Tryd.f4.params.toList args.toList ds p := hA0
  rw [Tryd.params4] at hA hval
  obtain ⟨v0, vs0, d0, ds0, p0, q0, hargs, rfl, rfl, h0, r0⟩ := trodAll_cons hA
  obtain ⟨v1, vs1, d1, ds1, p1, q1, rfl, rfl, rfl, h1, r1⟩ := trodAll_cons r0
  obtain ⟨v2, vs2, d2, ds2, p2, q2, rfl, rfl, rfl, h2, r2⟩ := trodAll_cons r1
  obtain ⟨rfl, rfl, rfl⟩ := trodAll_nil r2
  obtain rfl : args = #[v0, v1, v2] := by cases args; simp_all
  obtain ⟨rfl, rfl⟩ := trodVars_none hV
  obtain ⟨a0, rfl, rfl, rfl, w0⟩ := open_int Tryd.underlying3 (hval 0 3 v0 rfl rfl) h0
  obtain ⟨s1, rfl, rfl, rfl, w1⟩ := open_string Tryd.underlying9 (hval 1 9 v1 rfl rfl) h1
  have z1 : s1.size ≤ 140737488351232 := by
    have hq := sized_string hsz (j := 1) rfl rfl
    simpa [reachBytes] using hq
  obtain ⟨s2, rfl, rfl, rfl, w2⟩ := open_string Tryd.underlying9 (hval 2 9 v2 rfl rfl) h2
  have z2 : s2.size ≤ 140737488351232 := by
    have hq := sized_string hsz (j := 2) rfl rfl
    simpa [reachBytes] using hq
  have lw := laidWalk hL
  refine (walk a0 s1 s2 W w0 z1 z2 lw).mono fun e W' ⟨he, bel⟩ => ?_
  subst he
  exact ⟨_, rfl, _, _, _, [], _, [], hW', trodAll_mk1 (shut_bool Tryd.underlying4 _), (trodAll_cons_mk (shut_int Tryd.underlying3 w0) (trodAll_cons_mk (shut_string Tryd.underlying9 w1) (trodAll_cons_mk (shut_string Tryd.underlying9 w2) trodAll_mk0))), rfl, bel.frame _, fun h => by cases h⟩

theorem reads (os : Os) {H : Type} (enc : TypeId × Value → H) : ∃ places, DataW.whole enc Tryd.prog ((laidWorld os).forCall (fun _ _ => 0) ⟨#[], #[.int .i64 0, .string ByteArray.empty, .string ByteArray.empty], []⟩).memory Tryd.f4.params.toList Rows.endTwiceSpec.vars false (#[.int .i64 0, .string ByteArray.empty, .string ByteArray.empty] : Array Value).toList 8 = some ([.lit (.int .i64 0), .lit (.string []), .lit (.string [])], [], places) :=
  ⟨[], by kernel_rfl⟩
theorem laid_met (os : Os) : laidMetH Tryd.prog Rows.endTwiceRow.laid ((laidWorld os).forCall (fun _ _ => 0) ⟨#[], #[.int .i64 0, .string ByteArray.empty, .string ByteArray.empty], []⟩).memory := laidMetW os _

set_option maxRecDepth 100000 in
theorem lifted (os : Os) (started : os.Started) (H : Type) (enc : TypeId × Value → H) (F : Stop.Interp) :
    ReturnsInHanded {} Tryd.checked os 4 .any ((OpenSpec.ofChange Rows.endTwiceSpec).preRow enc Tryd.prog Tryd.f4 Rows.endTwiceRow.domain false Rows.endTwiceRow.laid) (((OpenSpec.ofChange Rows.endTwiceSpec).at F).post enc Tryd.prog Tryd.f4 false true false false) := by
  obtain ⟨places, hx⟩ := reads os enc
  refine returnsInHanded_of_row (C := Tryd.checked) (s := OpenSpec.ofChange Rows.endTwiceSpec) own started (by kernel_rfl) Tryd.func4
    (witness_row_at (enc := enc) (C := Tryd.checked) false (laidWorld os) #[.int .i64 0, .string ByteArray.empty, .string ByteArray.empty] rfl (by kernel_rfl) (by kernel_rfl) (by kernel_rfl)
      (OpenSpec.preRow_of_cond 8 hx (by kernel_rfl) (fun k hk => by cases hk) (by kernel_rfl) (laid_met os))) ?_
  intro W base args ds gs before hval hW _ _ hsz hL _ _
  exact contract H enc W base args ds gs before hval hW hsz hL

theorem said : Rows.EndTwiceSaid :=
  OpenClaim.holds_of_cond 4 Tryd.f4 rfl rfl rfl rfl rfl rfl rfl ⟨rfl, rfl, rfl, rfl, rfl⟩ rfl rfl rfl rfl rfl (by kernel_rfl) Tryd.func4 (by kernel_rfl)
    (of_decide_eq_true (by kernel_rfl)) (by unfold Func.isWrapper; first | (rw [if_pos (by decide +kernel)]; kernel_rfl) | (rw [if_neg (by decide +kernel)]; exact ⟨rfl, rfl⟩))
    (fun os started H enc _ F => by rw [OpenClaim.pre_eq_preRow]; exact lifted os started H enc F)

theorem plain (f : FuncId) (fn : Func) (hf : Tryd.pinned.checked.prog.funcNamed "wanderwire/wirelaw2.EndTwice" = some f) (hfn : Tryd.pinned.checked.prog.funcs[f]? = some fn) :
    false = Tryd.pinned.checked.prog.looks [] ∧ ∀ (j : Nat) t, fn.params[j]? = some t → Tryd.pinned.checked.prog.wantsStandIn t = false := by
  obtain rfl : f = 4 := Option.some.inj ((show Tryd.prog.funcNamed "wanderwire/wirelaw2.EndTwice" = some 4 by kernel_rfl).symm.trans hf) |>.symm
  obtain rfl : fn = Tryd.f4 := (Option.some.inj (Tryd.func4.symm.trans hfn)).symm
  refine ⟨by kernel_rfl, fun j t ht => ?_⟩
  rw [Tryd.params4] at ht
  have ht' := Array.mem_of_getElem? ht
  have hall : (([3, 9, 9] : List Nat).all fun t => !Tryd.prog.wantsStandIn t) = true := by kernel_rfl
  have hq := List.all_eq_true.1 hall t (by simpa using ht')
  have hq2 : Tryd.prog.wantsStandIn t = false := by simpa using hq
  exact hq2

theorem card : Rows.EndTwiceCardSaid :=
  Claim7.holds_tied_plain_at .later [] _ _ _ _ said (fun _ h => by cases h) (by kernel_rfl) (fun _ h => by cases h) endTwice_row_tie rfl ⟨rfl, rfl⟩ (by kernel_rfl) rfl plain (by kernel_rfl)
#print axioms card
end Go.Proofs.YtaindcicloapfaaDoor.endTwice
