/- Contract of packet.Print. Condition: the frames can be read; the tables hold what the program's text lays. -/
import Derived.Test.YthnolkbolmbkdaaDoorPkB
import Derived.Test.YthnolkbolmbkdaaDoorSameR
namespace Go.Proofs.YthnolkbolmbkdaaDoor
open Go.ChangeShapes Go.WideShapes Go.ChangeAt Go.RowKit
set_option linter.unusedVariables false

theorem pkt_need {x known : Int} {L : List Frm} (h : ¬ NeedOk x known) : pktE x known L = 1 ∧ pktV x known L = [] := by
  have e : pktE x known L = 1 := by unfold pktE; rw [if_neg h]
  exact ⟨e, by unfold pktV; rw [if_neg (by rw [e]; decide)]⟩
theorem pkt_no {x known : Int} {L : List Frm} {k : Int} (e : pktE x known L = k) (hk : k ≠ 0) : pktV x known L = [] := by unfold pktV; rw [if_neg (by rw [e]; exact hk)]
theorem pkt_nil {x known : Int} (h : NeedOk x known) : pktE x known [] = 5 := by unfold pktE; rw [if_pos h, if_pos rfl]
theorem pkt_many {x known : Int} {L : List Frm} (h : NeedOk x known) (h2 : 12 < L.length) : pktE x known L = 4 := by
  unfold pktE; rw [if_pos h, if_neg (by intro h3; rw [h3] at h2; simp at h2), if_pos h2]
theorem pkt_frm {x known : Int} {L : List Frm} (h : NeedOk x known) (h0 : L ≠ []) (h2 : ¬ 12 < L.length) (h3 : frmsE L ≠ 0) : pktE x known L = frmsE L := by
  unfold pktE; rw [if_pos h, if_neg h0, if_neg h2, if_neg h3]
theorem pkt_big {x known : Int} {L : List Frm} (h : NeedOk x known) (h0 : L ≠ []) (h2 : ¬ 12 < L.length) (h3 : frmsE L = 0) (h4 : 200 < (pktB x known L).length) : pktE x known L = 4 := by
  unfold pktE; rw [if_pos h, if_neg h0, if_neg h2, if_pos h3, if_pos h4]
theorem pkt_ok {x known : Int} {L : List Frm} (h : NeedOk x known) (h0 : L ≠ []) (h2 : ¬ 12 < L.length) (h3 : frmsE L = 0) (h4 : ¬ 200 < (pktB x known L).length) : pktE x known L = 0 ∧ pktV x known L = pktB x known L := by
  have e : pktE x known L = 0 := by unfold pktE; rw [if_pos h, if_neg h0, if_neg h2, if_pos h3, if_neg h4]
  exact ⟨e, by unfold pktV; rw [if_pos e]⟩
theorem frmsE_upto {L : List FrmV} {i : Nat} (h : i < L.length) (hE : frmsE ((L.take i).map (·.f)) = 0) : (frmE L[i].f = 0 → frmsE ((L.take (i + 1)).map (·.f)) = 0) ∧ (frmE L[i].f ≠ 0 → frmsE (L.map (·.f)) = frmE L[i].f) := by
  constructor
  · intro h0
    rw [List.take_succ_eq_append_getElem h, List.map_append, frmsE_app_ok hE]
    simp [frmsE, h0]
  · intro h0
    have hsp : L = L.take i ++ (L[i] :: L.drop (i + 1)) := by
      rw [← List.drop_eq_getElem_cons h, List.take_append_drop]
    have e : frmsE (L.map (·.f)) = frmsE ((L.take i ++ (L[i] :: L.drop (i + 1))).map (·.f)) := congrArg (fun M => frmsE (M.map (·.f))) hsp
    rw [e, List.map_append, List.map_cons, frmsE_bad hE h0]

set_option maxHeartbeats 3200000 in
set_option maxRecDepth 100000 in
theorem pkprint (x known : Int) (A : Option Addr) (n cap : Nat) (L : List FrmV) (w : World) (hn : L.length = n) (h : FrmsIn w (.slice A n cap) L) (hK : KTab w) (hC : CTab w) :
    Calls Tryd.prog 45 #[.int .i64 x, .int .i64 known, .slice A n cap] w fun e w' => e = .returned (.tuple #[.string ⟨(pktV x known (L.map (·.f))).toArray⟩, errV (pktE x known (L.map (·.f)))]) ∧ Below w.heap.size w w' := by
  have HN := Lib.hid hn
  have H := Lib.hid h
  have HK := Lib.hid hK
  have HC := Lib.hid hC
  have hcm := (rd_cap h.rd).2
  have HML : Hid ((L.map (·.f)).length = n) := Lib.hid (by rw [List.length_map, hn])
  clear hn h hK hC
  by_cases hN : NeedOk x known
  case neg =>
    obtain ⟨p1, p2⟩ := pkt_need (L := L.map (·.f)) hN
    have P1 := Lib.hid p1
    have P2 := Lib.hid p2
    have NE : Hid (needV x known = 0 ∧ needE x known = 1) := Lib.hid ⟨by unfold needV; rw [if_neg hN], by unfold needE; rw [if_neg hN]⟩
    clear p1 p2 hN
    go_enter Tryd.func45, Tryd.ntmps45
    go_wp2_with fail
    refine (need_any x known _).mono ?_
    rintro e w1 ⟨rfl, rfl⟩
    rw [NE.out.1, NE.out.2, errV_pos (by decide)]
    trace "A"; go_wp2_with fail
    go_ret2
    exact ⟨by rw [P1.out, P2.out]; rfl, Below.refl _ _⟩
  have HNO := Lib.hid hN
  have NE : Hid (needE x known = 0) := Lib.hid (by unfold needE; rw [if_pos hN])
  clear hN
  by_cases h0 : n = 0
  · subst h0
    have hl0 : L.map (·.f) = [] := List.length_eq_zero_iff.1 HML.out
    have p1 := pkt_nil HNO.out
    rw [← hl0] at p1
    have P1 := Lib.hid p1
    have P2 := Lib.hid (pkt_no p1 (by decide))
    clear hl0 p1
    go_enter Tryd.func45, Tryd.ntmps45
    go_wp2_with fail
    refine (need_any x known _).mono ?_
    rintro e w1 ⟨rfl, rfl⟩
    rw [NE.out, errV_zero]
    trace "B"; go_wp2_with fail
    go_ret2
    exact ⟨by rw [P1.out, P2.out]; rfl, Below.refl _ _⟩
  have h0' : ((n : Int) == 0) = false := by rw [beq_eq_false_iff_ne]; omega
  have HNE : Hid (L.map (·.f) ≠ []) := Lib.hid (fun hh => by have := HML.out; rw [hh] at this; simp at this; omega)
  clear h0
  by_cases h12 : 12 < n
  · have h12' : (12 : Int) < (n : Int) := by omega
    have p1 := pkt_many (L := L.map (·.f)) HNO.out (by rw [HML.out]; exact h12)
    have P1 := Lib.hid p1
    have P2 := Lib.hid (pkt_no p1 (by decide))
    clear p1
    go_enter Tryd.func45, Tryd.ntmps45
    go_wp2_with fail
    refine (need_any x known _).mono ?_
    rintro e w1 ⟨rfl, rfl⟩
    rw [NE.out, errV_zero]
    trace "C"; go_wp2_with fail
    go_ret2
    exact ⟨by rw [P1.out, P2.out]; rfl, Below.refl _ _⟩
  have h12' : decide ((12 : Int) < (n : Int)) = false := by simp; omega
  have HF : Hid (frmsE (L.map (·.f)) ≠ 0 → pktE x known (L.map (·.f)) = frmsE (L.map (·.f))) := Lib.hid (fun hh => pkt_frm HNO.out HNE.out (by rw [HML.out]; exact h12) hh)
  have HBG : Hid (frmsE (L.map (·.f)) = 0 → 200 < (pktB x known (L.map (·.f))).length → pktE x known (L.map (·.f)) = 4) := Lib.hid (fun h3 h4 => pkt_big HNO.out HNE.out (by rw [HML.out]; exact h12) h3 h4)
  have HOK : Hid (frmsE (L.map (·.f)) = 0 → ¬ 200 < (pktB x known (L.map (·.f))).length → pktE x known (L.map (·.f)) = 0 ∧ pktV x known (L.map (·.f)) = pktB x known (L.map (·.f))) := Lib.hid (fun h3 h4 => pkt_ok HNO.out HNE.out (by rw [HML.out]; exact h12) h3 h4)
  have PB := Lib.hid (fun W h1 h2 h3 => pkbytes x known A n cap L W HN.out (by omega) h1 h2 HNO.out h3)
  clear h12
  go_enter Tryd.func45, Tryd.ntmps45
  go_wp2_with fail
  refine (need_any x known _).mono ?_
  rintro e w1 ⟨rfl, rfl⟩
  rw [NE.out, errV_zero]
  trace "D"; go_wp2_with fail
  go_loopw [36] (fun s36 wr => ∃ i : Nat, s36 = .int .i64 i ∧ i ≤ n ∧ Hid (frmsE ((L.take i).map (·.f)) = 0) ∧ Since w wr) (fun s36 _ => n - (intOf s36).toNat)
  case atStart => exact ⟨0, rfl, Nat.zero_le _, Lib.hid rfl, Since.refl _⟩
  case round =>
    obtain ⟨i, rfl, hi, HU, hs⟩ := hrel
    by_cases hlt : i < n
    case neg =>
      obtain rfl : i = n := by omega
      have hf : decide ((i : Int) < (i : Int)) = false := by simp
      have HE0 : Hid (frmsE (L.map (·.f)) = 0) := Lib.hid (by have := HU.out; rw [List.take_of_length_le (by rw [HN.out]; exact Nat.le_refl _)] at this; exact this)
      trace "E"; go_wp2_with fail
      refine (PB.out _ (H.out.later hs) HE0.out (HK.out.later hs)).mono ?_
      rintro e w5 ⟨rfl, hb5⟩
      have hs5 := hs.later hb5
      clear hb5
      by_cases h2 : 200 < (pktB x known (L.map (·.f))).length
      · have p1 := HBG.out HE0.out h2
        have P1 := Lib.hid p1
        have P2 := Lib.hid (pkt_no p1 (by decide))
        have h2' : (200 : Int) < ((pktB x known (L.map (·.f))).length : Int) := by omega
        clear p1 HF HBG HOK
        generalize pktB x known (L.map (·.f)) = Y at *
        trace "F"; go_wp2_with fail
        go_ret2
        exact ⟨by rw [P1.out, P2.out]; rfl, hs5⟩
      · obtain ⟨p1, p2⟩ := HOK.out HE0.out h2
        have P1 := Lib.hid p1
        have P2 := Lib.hid p2
        have h2' : decide ((200 : Int) < ((pktB x known (L.map (·.f))).length : Int)) = false := by simp; omega
        clear p1 p2 HF HBG HOK
        generalize pktB x known (L.map (·.f)) = Y at *
        trace "G"; go_wp2_with fail
        go_ret2
        exact ⟨by rw [P1.out, P2.out]; rfl, hs5⟩
    have hlt' : (i : Int) < (n : Int) := by omega
    have hil : i < L.length := by rw [HN.out]; exact hlt
    obtain ⟨b, off, rfl, hbl, hc⟩ := H.out.rd.frm hil
    obtain ⟨c0, c1, c2⟩ := hc wr hs i hil
    have lb : b < wr.heap.size := Nat.lt_of_lt_of_le hbl hs.le
    have HPI := Lib.hid (H.out.each L[i] (List.getElem_mem hil))
    obtain ⟨y1, y2⟩ := frmsE_upto hil HU.out
    have Y1 := Lib.hid y1
    have Y2 := Lib.hid y2
    clear hc y1 y2
    generalize L[i] = p at *
    have FC := Lib.hid (fun W h1 h2 => fcheck p W h1 h2)
    unfold FrmV.agg at FC
    clear hil
    trace "H"; go_wp2_with fail
    refine (FC.out _ (HPI.out.later (by refine Since.out ?_; repeat (first | with_reducible assumption | with_reducible exact Since.refl _ | with_reducible refine Since.later ?_ (by with_reducible assumption) | with_reducible refine Since.only ?_ (by with_reducible assumption) (by first | assumption | omega | (simp; done) | (simp; omega)) | with_reducible refine Since.alloc ?_ _ | with_reducible refine Since.drewN ?_ _ | with_reducible refine Since.drew ?_ | with_reducible refine Since.set ?_ (by first | assumption | omega | (simp; done) | (simp; omega)) _))) (HC.out.later (by refine Since.out ?_; repeat (first | with_reducible assumption | with_reducible exact Since.refl _ | with_reducible refine Since.later ?_ (by with_reducible assumption) | with_reducible refine Since.only ?_ (by with_reducible assumption) (by first | assumption | omega | (simp; done) | (simp; omega)) | with_reducible refine Since.alloc ?_ _ | with_reducible refine Since.drewN ?_ _ | with_reducible refine Since.drew ?_ | with_reducible refine Since.set ?_ (by first | assumption | omega | (simp; done) | (simp; omega)) _)))).mono ?_
    rintro e w2 ⟨rfl, hb2⟩
    have hs2 : Since w w2 := (by refine Since.out ?_; repeat (first | with_reducible assumption | with_reducible exact Since.refl _ | with_reducible refine Since.later ?_ (by with_reducible assumption) | with_reducible refine Since.only ?_ (by with_reducible assumption) (by first | assumption | omega | (simp; done) | (simp; omega)) | with_reducible refine Since.alloc ?_ _ | with_reducible refine Since.drewN ?_ _ | with_reducible refine Since.drew ?_ | with_reducible refine Since.set ?_ (by first | assumption | omega | (simp; done) | (simp; omega)) _))
    clear hb2
    by_cases hE : frmE p.f = 0
    · have Y3 := Lib.hid (Y1.out hE)
      rw [hE, errV_zero]
      clear hE
      trace "I"; go_wp2_with fail
      go_roundw
      case rel => exact ⟨i + 1, by go_num, by omega, Y3, hs2⟩
      case measure => simp [intOf]; omega
    · have y3 := Y2.out hE
      have p1 := HF.out (by rw [y3]; exact hE)
      rw [y3] at p1
      have P1 := Lib.hid p1
      have P2 := Lib.hid (pkt_no p1 hE)
      have HEE := Lib.hid hE
      rw [errV_pos hE]
      clear hE y3 p1
      trace "J"; go_wp2_with fail
      go_ret2
      exact ⟨by rw [P1.out, P2.out, errV_pos HEE.out]; rfl, hs2⟩
end Go.Proofs.YthnolkbolmbkdaaDoor
