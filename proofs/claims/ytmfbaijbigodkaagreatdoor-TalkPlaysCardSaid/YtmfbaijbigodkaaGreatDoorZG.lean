/- Contracts and plain laws that the claim leans on, part 7 of 8: each part has its own word. No condition beside theirs. -/
import Derived.Test.YtmfbaijbigodkaaGreatDoorBase
import Derived.Test.YtmfbaijbigodkaaGreatDoorOnly
import Derived.Test.YtmfbaijbigodkaaGreatDoorMay
import Derived.Test.YtmfbaijbigodkaaGreatDoorCredit
import Derived.Test.YtmfbaijbigodkaaGreatDoorZF
import Derived.Deep.QuietTactic
import Derived.BigQuiet
import Derived.BigRegion
import Derived.Deep.RegionLaw
import Derived.Deep.DeepCutAuto
import Derived.StillTailTactics
import Derived.Deep.MidRow
/-! Contract of wireref2.Read, the kinds with numbers, and whole. Condition: the string's length is an int. Printed by gen_rread.py. -/
namespace Go.Proofs.YtmfbaijbigodkaaGreatDoor
open Go.ChangeShapes Go.WideShapes Go.ChangeAt Go.RowKit
set_option linter.unusedVariables false

theorem kN_of {l : List UInt8} (h : getOk l) : kN l = getC l := by unfold kN; rw [if_pos h]

set_option maxHeartbeats 6400000 in
set_option maxRecDepth 100000 in
theorem rfread_num (s : ByteArray) (w : World) (hz : s.size ≤ 9223372036854775707) (hb : ¬ (s.data.toList = [] ∨ bat s.data.toList 0 < 1 ∨ 8 < bat s.data.toList 0)) (h2 : bat s.data.toList 0 ≠ 2) :
    Calls Tryz.prog 108 #[.string s] w fun e w' => RfPost s.data.toList w e w' := by
  have hsz : s.data.toList.length = s.size := rfl
  have hpos : 0 < s.size := by
    rcases Nat.eq_zero_or_pos s.size with h | h
    · exact absurd (Or.inl (List.length_eq_zero_iff.1 (by omega))) hb
    · exact h
  obtain ⟨e1, e2⟩ := str_full (s := s) (by omega)
  have e0 := str_at s 0 hpos
  have GD := Lib.hid (fun k W => rgetD s k (by omega) W)
  have HPL := Lib.hid (fun L k h3 hn => rd_plain (L := L) (k := k) hb h2 h3 hn)
  have HPN := Lib.hid (fun hn => rd_num hb h2 hn)
  have HNO := Lib.hid (fun L k h3 hn hx => rd_no (L := L) (k := k) hb h3 hn hx)
  have HYES := Lib.hid (fun L k h3 hn hx => rd_yes (L := L) (k := k) hb h3 hn hx)
  have HDT : Hid (∀ p l, ((⟨((s.data.toList.drop p).take l).toArray⟩ : ByteArray) = s.extract p (p + l))) := Lib.hid (fun p l => ba_ext (by
    rw [ByteArray.data_extract, Array.toList_extract, List.extract_eq_take_drop]
    simp only
    rw [show p + l - p = l by omega]))
  have HX8 : Hid (1 ≤ bat s.data.toList 0 ∧ bat s.data.toList 0 ≤ 8) := Lib.hid ⟨by
    rcases Int.lt_or_le (bat s.data.toList 0) 1 with h | h
    · exact absurd (Or.inr (Or.inl h)) hb
    · exact h, by
    rcases Int.lt_or_le 8 (bat s.data.toList 0) with h | h
    · exact absurd (Or.inr (Or.inr h)) hb
    · exact h⟩
  obtain ⟨m, hm, hm2⟩ : ∃ m : Nat, manyK (bat s.data.toList 0) = m ∧ m ≤ 2 := by
    obtain ⟨q0, q1⟩ := manyK_two h2
    exact ⟨(manyK (bat s.data.toList 0)).toNat, by omega, by omega⟩
  have HM3 : Hid (bat s.data.toList 0 ≠ 3 → readK (bat s.data.toList 0) = m) := Lib.hid (fun h3 => by have := readK_many h2 h3; omega)
  have HM1 : Hid (bat s.data.toList 0 = 3 → m = 1 ∧ readK (bat s.data.toList 0) = 2) := Lib.hid (fun h3 => ⟨by rw [h3] at hm; have : manyK 3 = 1 := rfl; omega, by rw [h3]; rfl⟩)
  have HMK := Lib.hid hm
  have HH2 := Lib.hid h2
  obtain ⟨b, hbb⟩ : ∃ b, s.data.toList = b := ⟨_, rfl⟩
  rw [hbb] at GD HPL HPN HNO HYES HDT HX8 HM3 HM1 HMK HH2 hsz e0 ⊢
  have hbl : b.length ≤ 9223372036854775707 := by omega
  have HUP0 : Hid (numUp b 1 0 = some ([], 1)) := Lib.hid rfl
  have HUPN : Hid (∀ i, numUp b 1 (i + 1) = none → i + 1 ≤ readK (bat b 0) → readF b = none) := Lib.hid (fun i hi hj => HPN.out (numUp_none hi _ hj))
  clear hb h2 hbb hz hm
  obtain ⟨x, hx⟩ : ∃ x, bat b 0 = x := ⟨_, rfl⟩
  rw [hx] at HPL HPN HNO HYES HX8 HM3 HM1 HMK HH2 HUPN e0
  obtain ⟨x1, x8⟩ := HX8.out
  have x1' : decide (x < 1) = false := by simp; omega
  have x8' : decide (8 < x) = false := by simp; omega
  have hx2 : (x == 2) = false := by rw [beq_eq_false_iff_ne]; exact HH2.out
  have hwrap : IntKind.i64.wrap x = x := by simp [IntKind.wrap, IntKind.bits, IntKind.signed]; omega
  have HSZ := Lib.hid hsz
  have hsl : (1 : Int) ≤ (s.size : Int) := by omega
  have HST : Hid (RfSt w ((w.alloc (.cells #[.int .i64 0, .slice none 0 0, .string ⟨#[]⟩] 93)).alloc (.cells #[.int .i64 x, .slice none 0 0, .string ⟨#[]⟩] 93)) x [] 0 none 0) := Lib.hid
    ⟨BlockIs.fresh_at (by simp), (BlockIs.fresh _ _ _).alloc _, Lst.nil _ _ _, rfl, by simp [Value.ownBlock], (by refine Since.out ?_; repeat (first | with_reducible assumption | with_reducible exact Since.refl _ | with_reducible refine Since.later ?_ (by with_reducible assumption) | with_reducible refine Since.only ?_ (by with_reducible assumption) (by first | assumption | omega | (simp; done) | (simp; omega)) | with_reducible refine Since.alloc ?_ _ | with_reducible refine Since.drewN ?_ _ | with_reducible refine Since.drew ?_ | with_reducible refine Since.set ?_ (by first | assumption | omega | (simp; done) | (simp; omega)) _))⟩
  clear hx hsz
  go_enter Tryz.func108, Tryz.ntmps108
  trace "A"; go_wp2_with fail
  refine (rcounts x _).mono ?_
  rintro e w1 ⟨rfl, rfl⟩
  rw [HMK.out]
  trace "B"; go_wp2_with fail
  go_loopw [10, 12] (fun s10 s12 wr => ∃ (i k : Nat) (A' : Option Addr) (c' : Nat) (M : List Int), s10 = .int .i64 k ∧ s12 = .int .i64 i ∧ i ≤ m ∧ k ≤ b.length ∧ Hid (numUp b 1 i = some (M, k)) ∧ Hid (RfSt w wr x M i A' c')) (fun _ s12 _ => m - (intOf s12).toNat)
  case atStart => exact ⟨0, 1, none, 0, [], rfl, rfl, Nat.zero_le _, by have := HSZ.out; omega, HUP0, HST⟩
  case round =>
    obtain ⟨i, k, A', c', M, rfl, rfl, hi, hkb, HUP, HS⟩ := hrel
    have b0 : wr.cell? ⟨w.heap.size, 0, none⟩ = some (.int .i64 0) := HS.out.br.cell 0
    have b1 : wr.cell? ⟨w.heap.size, 1, none⟩ = some (.slice none 0 0) := HS.out.br.cell 1
    have b2 : wr.cell? ⟨w.heap.size, 2, none⟩ = some (.string ⟨#[]⟩) := HS.out.br.cell 2
    have lb := HS.out.br.lt
    have fb := HS.out.br.free
    have d0 : wr.cell? ⟨w.heap.size + 1, 0, none⟩ = some (.int .i64 x) := HS.out.bl.cell 0
    have d1 : wr.cell? ⟨w.heap.size + 1, 1, none⟩ = some (.slice A' i c') := HS.out.bl.cell 1
    have d2 : wr.cell? ⟨w.heap.size + 1, 2, none⟩ = some (.string ⟨#[]⟩) := HS.out.bl.cell 2
    have ld := HS.out.bl.lt
    have fd := HS.out.bl.free
    have HLEN := Lib.hid HS.out.len
    have hks : (k : Int) ≤ (s.size : Int) := by have := HSZ.out; omega
    have hkn := kN_le b hkb
    have hkk : (k : Int) + (kN (b.drop k) : Int) = ((k + kN (b.drop k) : Nat) : Int) := by omega
    have GDk := Lib.hid (GD.out k)
    obtain ⟨v0, v1⟩ := bits_getN (b.drop k)
    have HG : Hid (gok (b.drop k) = true → numUp b 1 (i + 1) = some (M ++ [getV (b.drop k)], k + kN (b.drop k))) := Lib.hid (fun h => by
      have hg := of_decide_eq_true h
      rw [numUp_yes HUP.out hg]
      obtain ⟨_, g1, g2, _⟩ := gok_yes hg
      rw [g1, kN_of hg])
    have HGN : Hid (gok (b.drop k) = false → numUp b 1 (i + 1) = none) := Lib.hid (fun h => numUp_no HUP.out (of_decide_eq_false h))
    obtain ⟨V, hV⟩ : ∃ V, getV (b.drop k) = V := ⟨_, rfl⟩
    obtain ⟨k2, hk2⟩ : ∃ k2, k + kN (b.drop k) = k2 := ⟨_, rfl⟩
    obtain ⟨kd, hkd⟩ : ∃ kd, kN (b.drop k) = kd := ⟨_, rfl⟩
    rw [hV] at GDk HG v0 v1
    rw [hk2] at hkn hkk HG
    rw [hkd] at GDk hkk
    clear hV hk2 hkd
    by_cases hlt : i < m
    case neg =>
      obtain rfl : i = m := by omega
      have hf : decide ((i : Int) < (i : Int)) = false := by simp
      by_cases h3 : x = 3
      case neg =>
        have h3' : (x == 3) = false := by simpa using h3
        have P := Lib.hid (HPL.out M k h3 (by rw [HM3.out h3]; exact HUP.out))
        clear h3
        trace "C"; go_wp2_with fail
        have HB3 := Lib.hid (st3 HS.out.br (.int .i64 x) (.slice A' i c') (.string ⟨#[]⟩))
        have HO3 := Lib.hid (out3 wr w.heap.size (.int .i64 x) (.slice A' i c') (.string ⟨#[]⟩))
        have hs3 := (HS.out.since).out' HO3.out (fun k hk => by (have : k = w.heap.size := by simpa using hk); omega)
        generalize (((wr.setCell ⟨w.heap.size, 0, none⟩ (.int .i64 x)).setCell ⟨w.heap.size, 1, none⟩ (.slice A' i c')).setCell ⟨w.heap.size, 2, none⟩ (.string ⟨#[]⟩)) = w3 at *
        have kc0 : w3.cell? ⟨w.heap.size, 0, none⟩ = some (.int .i64 x) := HB3.out.cell 0
        have kc1 : w3.cell? ⟨w.heap.size, 1, none⟩ = some (.slice A' i c') := HB3.out.cell 1
        have kc2 : w3.cell? ⟨w.heap.size, 2, none⟩ = some (.string ⟨#[]⟩) := HB3.out.cell 2
        have hE := (readF_inv P.out).1
        refine bodyPost_ret (v := .tuple #[.agg #[.int .i64 x, .slice A' i c', .string ⟨#[]⟩], .int .i64 ((k : Nat) : Int), .bool true]) (by simp [results, Tryz.results108, go_sem, kc0, kc1, kc2]) rfl ⟨⟨⟨x, M, ⟨#[]⟩⟩, A', c'⟩, k, true, ?_, hs3, frmIn_of (n := i) hE ((HS.out.ls).far HS.out.br (by decide) HO3.out) ?_, by rw [P.out]; rfl, fun h => (by cases h), newA_of (HS.out.ls) HS.out.new⟩
        · unfold FrmV.agg
          simp only [HLEN.out]
        · exact (frmE_out hE).2.2.2.1
      obtain ⟨m1, m2⟩ := HM1.out h3
      have h3' : (x == 3) = true := by simpa using h3
      obtain ⟨z, hMz⟩ : ∃ z, M = [z] := by
        have := HLEN.out
        match M, this with
        | [z], _ => exact ⟨z, rfl⟩
        | [], h => exact absurd h (by simp; omega)
        | _ :: _ :: _, h => exact absurd h (by simp; omega)
      cases hg : gok (b.drop k) with
      | false =>
        have P := Lib.hid (HUPN.out i (HGN.out hg) (by omega))
        have HGG := Lib.hid hg
        clear hg h3 m1 m2 hMz
        trace "D"; go_wp2_with fail
        refine (GDk.out _).mono ?_
        rintro e w1 ⟨rfl, rfl⟩
        rw [HGG.out]
        trace "D1"; go_wp2_with fail
        have HB3 := Lib.hid (st3 HS.out.br (.int .i64 0) (.slice none 0 0) (.string ⟨#[]⟩))
        have hs3 := (HS.out.since).out' (out3 wr w.heap.size (.int .i64 0) (.slice none 0 0) (.string ⟨#[]⟩)) (fun k hk => by (have : k = w.heap.size := by simpa using hk); omega)
        generalize (((wr.setCell ⟨w.heap.size, 0, none⟩ (.int .i64 0)).setCell ⟨w.heap.size, 1, none⟩ (.slice none 0 0)).setCell ⟨w.heap.size, 2, none⟩ (.string ⟨#[]⟩)) = w3 at *
        have kc0 : w3.cell? ⟨w.heap.size, 0, none⟩ = some (.int .i64 0) := HB3.out.cell 0
        have kc1 : w3.cell? ⟨w.heap.size, 1, none⟩ = some (.slice none 0 0) := HB3.out.cell 1
        have kc2 : w3.cell? ⟨w.heap.size, 2, none⟩ = some (.string ⟨#[]⟩) := HB3.out.cell 2
        refine bodyPost_ret (v := .tuple #[.agg #[.int .i64 0, .slice none 0 0, .string ⟨#[]⟩], .int .i64 0, .bool false]) (by simp [results, Tryz.results108, go_sem, kc0, kc1, kc2]) rfl ⟨⟨frm0, none, 0⟩, 0, false, by rfl, hs3, frm0_in _, by rw [P.out]; rfl, fun _ => ⟨rfl, rfl⟩, newA_nil _⟩
      | true =>
        have HU2 := Lib.hid (HG.out hg)
        have HGG := Lib.hid hg
        obtain ⟨l, rfl⟩ : ∃ l : Nat, V = l := ⟨V.toNat, by omega⟩
        have HNO2 := Lib.hid (fun hx => HNO.out (M ++ [(l : Int)]) k2 h3 (by have := HU2.out; rw [m1] at this; exact this) hx)
        have HYES2 := Lib.hid (fun hx => HYES.out (M ++ [(l : Int)]) k2 h3 (by have := HU2.out; rw [m1] at this; exact this) hx)
        rw [hMz] at HNO2 HYES2
        simp only [show ith ([z] ++ [(l : Int)]) 1 = (l : Int) from rfl, show ith ([z] ++ [(l : Int)]) 0 = z from rfl, Int.toNat_natCast] at HNO2 HYES2
        rw [← hMz] at HYES2
        have HX3 := Lib.hid h3
        have hkl : (k2 : Int) + (l : Int) = ((k2 + l : Nat) : Int) := by omega
        have hkn2 : (k2 : Int) ≤ (s.size : Int) := by have := HSZ.out; omega
        clear hg h3 m1 m2 hMz
        by_cases h20 : 20 < l
        · have h20' : (20 : Int) < (l : Int) := by omega
          have P := Lib.hid (HNO2.out (by omega))
          trace "E"; go_wp2_with fail
          refine (GDk.out _).mono ?_
          rintro e w1 ⟨rfl, rfl⟩
          rw [HGG.out]
          trace "E1"; go_wp2_with fail
          have HB3 := Lib.hid (st3 HS.out.br (.int .i64 0) (.slice none 0 0) (.string ⟨#[]⟩))
          have hs3 := (HS.out.since).out' (out3 wr w.heap.size (.int .i64 0) (.slice none 0 0) (.string ⟨#[]⟩)) (fun k hk => by (have : k = w.heap.size := by simpa using hk); omega)
          generalize (((wr.setCell ⟨w.heap.size, 0, none⟩ (.int .i64 0)).setCell ⟨w.heap.size, 1, none⟩ (.slice none 0 0)).setCell ⟨w.heap.size, 2, none⟩ (.string ⟨#[]⟩)) = w3 at *
          have kc0 : w3.cell? ⟨w.heap.size, 0, none⟩ = some (.int .i64 0) := HB3.out.cell 0
          have kc1 : w3.cell? ⟨w.heap.size, 1, none⟩ = some (.slice none 0 0) := HB3.out.cell 1
          have kc2 : w3.cell? ⟨w.heap.size, 2, none⟩ = some (.string ⟨#[]⟩) := HB3.out.cell 2
          refine bodyPost_ret (v := .tuple #[.agg #[.int .i64 0, .slice none 0 0, .string ⟨#[]⟩], .int .i64 0, .bool false]) (by simp [results, Tryz.results108, go_sem, kc0, kc1, kc2]) rfl ⟨⟨frm0, none, 0⟩, 0, false, by rfl, hs3, frm0_in _, by rw [P.out]; rfl, fun _ => ⟨rfl, rfl⟩, newA_nil _⟩
        have h20' : decide ((20 : Int) < (l : Int)) = false := by simp; omega
        obtain ⟨k5, hk5⟩ : ∃ k5, k2 + l = k5 := ⟨_, rfl⟩
        have HDT2 := Lib.hid (HDT.out k2 l)
        rw [hk5] at hkl HYES2 HDT2
        have HK5 := Lib.hid hk5
        have hl20 : l ≤ 20 := by omega
        have hk6 : k2 ≤ k5 := by omega
        clear hk5 h20
        by_cases hfar : s.size < k5
        · have hfar' : (s.size : Int) < (k5 : Int) := by omega
          have P := Lib.hid (HNO2.out (fun h => by have := HSZ.out; omega))
          trace "G"; go_wp2_with fail
          refine (GDk.out _).mono ?_
          rintro e w1 ⟨rfl, rfl⟩
          rw [HGG.out]
          trace "G1"; go_wp2_with fail
          have HB3 := Lib.hid (st3 HS.out.br (.int .i64 0) (.slice none 0 0) (.string ⟨#[]⟩))
          have hs3 := (HS.out.since).out' (out3 wr w.heap.size (.int .i64 0) (.slice none 0 0) (.string ⟨#[]⟩)) (fun k hk => by (have : k = w.heap.size := by simpa using hk); omega)
          generalize (((wr.setCell ⟨w.heap.size, 0, none⟩ (.int .i64 0)).setCell ⟨w.heap.size, 1, none⟩ (.slice none 0 0)).setCell ⟨w.heap.size, 2, none⟩ (.string ⟨#[]⟩)) = w3 at *
          have kc0 : w3.cell? ⟨w.heap.size, 0, none⟩ = some (.int .i64 0) := HB3.out.cell 0
          have kc1 : w3.cell? ⟨w.heap.size, 1, none⟩ = some (.slice none 0 0) := HB3.out.cell 1
          have kc2 : w3.cell? ⟨w.heap.size, 2, none⟩ = some (.string ⟨#[]⟩) := HB3.out.cell 2
          refine bodyPost_ret (v := .tuple #[.agg #[.int .i64 0, .slice none 0 0, .string ⟨#[]⟩], .int .i64 0, .bool false]) (by simp [results, Tryz.results108, go_sem, kc0, kc1, kc2]) rfl ⟨⟨frm0, none, 0⟩, 0, false, by rfl, hs3, frm0_in _, by rw [P.out]; rfl, fun _ => ⟨rfl, rfl⟩, newA_nil _⟩
        have hfar' : decide ((s.size : Int) < (k5 : Int)) = false := by simp; omega
        have hfr2 : (k5 : Int) ≤ (s.size : Int) := by omega
        have hk68 : (k2 : Int) ≤ (k5 : Int) := by omega
        have P0 := HYES2.out (by have := HSZ.out; omega)
        rw [HDT2.out, ← HX3.out] at P0
        have P := Lib.hid P0
        clear hfar P0
        trace "H"; go_wp2_with fail
        refine (GDk.out _).mono ?_
        rintro e w1 ⟨rfl, rfl⟩
        rw [HGG.out]
        trace "H1"; go_wp2_with fail
        have HQB := Lib.hid (HS.out.br.far (p := ⟨w.heap.size + 1, 2, none⟩) (by simp) (.string (s.extract k2 k5)))
        have HQS := Lib.hid (HS.out.since.set (p := ⟨w.heap.size + 1, 2, none⟩) (by simp) (.string (s.extract k2 k5)))
        have HQL := Lib.hid (HS.out.ls.kept ((Out.refl wr [w.heap.size + 1]).put (p := ⟨w.heap.size + 1, 2, none⟩) (Or.inl (by simp)) (.string (s.extract k2 k5))) (fun k hk hk2 => HS.out.ls.apart HS.out.bl (by decide) (by rw [List.mem_singleton.1 hk2] at hk; exact hk)))
        generalize wr.setCell ⟨w.heap.size + 1, 2, none⟩ (.string (s.extract k2 k5)) = wq at *
        have HB3 := Lib.hid (st3 HQB.out (.int .i64 x) (.slice A' i c') (.string (s.extract k2 k5)))
        have HO3 := Lib.hid (out3 wq w.heap.size (.int .i64 x) (.slice A' i c') (.string (s.extract k2 k5)))
        have hs3 := (HQS.out).out' HO3.out (fun k hk => by (have : k = w.heap.size := by simpa using hk); omega)
        generalize (((wq.setCell ⟨w.heap.size, 0, none⟩ (.int .i64 x)).setCell ⟨w.heap.size, 1, none⟩ (.slice A' i c')).setCell ⟨w.heap.size, 2, none⟩ (.string (s.extract k2 k5))) = w3 at *
        have kc0 : w3.cell? ⟨w.heap.size, 0, none⟩ = some (.int .i64 x) := HB3.out.cell 0
        have kc1 : w3.cell? ⟨w.heap.size, 1, none⟩ = some (.slice A' i c') := HB3.out.cell 1
        have kc2 : w3.cell? ⟨w.heap.size, 2, none⟩ = some (.string (s.extract k2 k5)) := HB3.out.cell 2
        have hE := (readF_inv P.out).1
        refine bodyPost_ret (v := .tuple #[.agg #[.int .i64 x, .slice A' i c', .string (s.extract k2 k5)], .int .i64 ((k5 : Nat) : Int), .bool true]) (by simp [results, Tryz.results108, go_sem, kc0, kc1, kc2]) rfl ⟨⟨⟨x, M, (s.extract k2 k5)⟩, A', c'⟩, k5, true, ?_, hs3, frmIn_of (n := i) hE ((HQL.out).far HQB.out (by decide) HO3.out) ?_, by rw [P.out]; rfl, fun h => (by cases h), newA_of (HQL.out) HS.out.new⟩
        · unfold FrmV.agg
          simp only [HLEN.out]
        · exact (frmE_out hE).2.2.2.1
    have hlt' : (i : Int) < (m : Int) := by omega
    cases hg : gok (b.drop k) with
    | false =>
      have P := Lib.hid (HUPN.out i (HGN.out hg) (by
        by_cases h3 : x = 3
        · have := HM1.out h3; omega
        · have := HM3.out h3; omega))
      have HGG := Lib.hid hg
      clear hg
      trace "I"; go_wp2_with fail
      refine (GDk.out _).mono ?_
      rintro e w1 ⟨rfl, rfl⟩
      rw [HGG.out]
      trace "I1"; go_wp2_with fail
      have HB3 := Lib.hid (st3 HS.out.br (.int .i64 0) (.slice none 0 0) (.string ⟨#[]⟩))
      have hs3 := (HS.out.since).out' (out3 wr w.heap.size (.int .i64 0) (.slice none 0 0) (.string ⟨#[]⟩)) (fun k hk => by (have : k = w.heap.size := by simpa using hk); omega)
      generalize (((wr.setCell ⟨w.heap.size, 0, none⟩ (.int .i64 0)).setCell ⟨w.heap.size, 1, none⟩ (.slice none 0 0)).setCell ⟨w.heap.size, 2, none⟩ (.string ⟨#[]⟩)) = w3 at *
      have kc0 : w3.cell? ⟨w.heap.size, 0, none⟩ = some (.int .i64 0) := HB3.out.cell 0
      have kc1 : w3.cell? ⟨w.heap.size, 1, none⟩ = some (.slice none 0 0) := HB3.out.cell 1
      have kc2 : w3.cell? ⟨w.heap.size, 2, none⟩ = some (.string ⟨#[]⟩) := HB3.out.cell 2
      refine bodyPost_ret (v := .tuple #[.agg #[.int .i64 0, .slice none 0 0, .string ⟨#[]⟩], .int .i64 0, .bool false]) (by simp [results, Tryz.results108, go_sem, kc0, kc1, kc2]) rfl ⟨⟨frm0, none, 0⟩, 0, false, by rfl, hs3, frm0_in _, by rw [P.out]; rfl, fun _ => ⟨rfl, rfl⟩, newA_nil _⟩
    | true =>
      have HU2 := Lib.hid (HG.out hg)
      have HGG := Lib.hid hg
      have HML : Hid ((M.map intRow).length = i) := Lib.hid (by rw [List.length_map, HLEN.out])
      have HNEW : Hid (∀ j u, (flat [intRow V])[j]? = some u → (wr.alloc (.cells #[.int .i64 V] 3)).cell? ((⟨wr.heap.size, 0, none⟩ : Addr).add j) = some u) := Lib.hid (fun j u hj => by
        rw [addr_at, (BlockIs.fresh wr 3 #[.int .i64 V]).cell]
        match j, hj with
        | 0, hj => exact hj
        | _ + 1, hj => simp [intRow] at hj)
      have HX := Lib.hid (HS.out.alloc (.cells #[.int .i64 V] 3))
      clear hg
      trace "J"; go_wp2_with fail
      refine (GDk.out _).mono ?_
      rintro e w1 ⟨rfl, rfl⟩
      rw [HGG.out]
      trace "K"; go_wp2_with (at_builtin; (refine wpList_cat rfl _ _ 22 rfl 3 1 8 Tryz.elInt (.slice A' i c') (M.map intRow) rfl (HS.out.ls.alloc _) ⟨wr.heap.size, 0, none⟩ 1 1 [intRow V] rfl rfl (by intro e he; rw [List.mem_singleton.1 he]; exact intRow_one _) HNEW.out (by rw [HML.out]; simp; omega) ?_); intro A9 c9 w9 hl9 ho9 hb9; rw [HML.out] at hl9 hb9; (try rw [HML.out]); have HN9 := Lib.hid (HX.out.step (N := [V]) (m := 1) ho9 hl9 rfl hb9); obtain ⟨hs9, hB9, hR9⟩ := HX.out.after ho9; have f9 := hB9.free; have l9 := hB9.lt; have e91 : w9.cell? ⟨w.heap.size + 1, 1, none⟩ = some (.slice A' i c') := hB9.cell 1; clear hl9 ho9 hb9 hB9 hR9)
      trace "L"; go_roundw
      case rel => exact ⟨i + 1, k2, A9, c9, M ++ [V], by first | rfl | (simp only [hkk]), by go_num, by omega, hkn, HU2, HN9⟩
      case measure => simp [intOf]; omega

set_option maxHeartbeats 3200000 in
set_option maxRecDepth 100000 in
theorem rfread (s : ByteArray) (w : World) (hz : s.size ≤ 9223372036854775707) :
    Calls Tryz.prog 108 #[.string s] w fun e w' => RfPost s.data.toList w e w' := by
  by_cases hb : s.data.toList = [] ∨ bat s.data.toList 0 < 1 ∨ 8 < bat s.data.toList 0
  case neg =>
    by_cases h2 : bat s.data.toList 0 = 2
    · exact rfread_ack s w hz hb h2
    · exact rfread_num s w hz hb h2
  have P1 := Lib.hid (readF_out hb)
  by_cases h0 : s.size = 0
  · obtain ⟨e1, e2⟩ := str_empty h0
    clear h0 hb
    go_enter Tryz.func108, Tryz.ntmps108
    trace "A"; go_wp2_with fail
    refine bodyPost_ret (v := .tuple #[.agg #[.int .i64 0, .slice none 0 0, .string ⟨#[]⟩], .int .i64 0, .bool false]) (by simp [results, Tryz.results108, go_sem]) rfl ⟨⟨frm0, none, 0⟩, 0, false, by rfl, (by refine Since.out ?_; repeat (first | with_reducible assumption | with_reducible exact Since.refl _ | with_reducible refine Since.later ?_ (by with_reducible assumption) | with_reducible refine Since.only ?_ (by with_reducible assumption) (by first | assumption | omega | (simp; done) | (simp; omega)) | with_reducible refine Since.alloc ?_ _ | with_reducible refine Since.drewN ?_ _ | with_reducible refine Since.drew ?_ | with_reducible refine Since.set ?_ (by first | assumption | omega | (simp; done) | (simp; omega)) _)), frm0_in _, by rw [P1.out]; rfl, fun _ => ⟨rfl, rfl⟩, newA_nil _⟩
  have hpos : 0 < s.size := by omega
  obtain ⟨e1, e2⟩ := str_full h0
  have e0 := str_at s 0 hpos
  have hb' : bat s.data.toList 0 < 1 ∨ 8 < bat s.data.toList 0 := by
    rcases hb with h | h
    · exact absurd (show s.data.toList.length = 0 by rw [h]; rfl) (by show ¬ s.data.toList.length = 0; exact h0)
    · exact h
  obtain ⟨x, hx⟩ : ∃ x, bat s.data.toList 0 = x := ⟨_, rfl⟩
  rw [hx] at hb' e0
  clear hb hx
  by_cases hx1 : x < 1
  · clear hb'
    go_enter Tryz.func108, Tryz.ntmps108
    trace "B"; go_wp2_with fail
    refine bodyPost_ret (v := .tuple #[.agg #[.int .i64 0, .slice none 0 0, .string ⟨#[]⟩], .int .i64 0, .bool false]) (by simp [results, Tryz.results108, go_sem]) rfl ⟨⟨frm0, none, 0⟩, 0, false, by rfl, (by refine Since.out ?_; repeat (first | with_reducible assumption | with_reducible exact Since.refl _ | with_reducible refine Since.later ?_ (by with_reducible assumption) | with_reducible refine Since.only ?_ (by with_reducible assumption) (by first | assumption | omega | (simp; done) | (simp; omega)) | with_reducible refine Since.alloc ?_ _ | with_reducible refine Since.drewN ?_ _ | with_reducible refine Since.drew ?_ | with_reducible refine Since.set ?_ (by first | assumption | omega | (simp; done) | (simp; omega)) _)), frm0_in _, by rw [P1.out]; rfl, fun _ => ⟨rfl, rfl⟩, newA_nil _⟩
  have hx1' : decide (x < 1) = false := by simpa using hx1
  have hx8 : 8 < x := by omega
  clear hb' hx1
  go_enter Tryz.func108, Tryz.ntmps108
  trace "C"; go_wp2_with fail
  refine bodyPost_ret (v := .tuple #[.agg #[.int .i64 0, .slice none 0 0, .string ⟨#[]⟩], .int .i64 0, .bool false]) (by simp [results, Tryz.results108, go_sem]) rfl ⟨⟨frm0, none, 0⟩, 0, false, by rfl, (by refine Since.out ?_; repeat (first | with_reducible assumption | with_reducible exact Since.refl _ | with_reducible refine Since.later ?_ (by with_reducible assumption) | with_reducible refine Since.only ?_ (by with_reducible assumption) (by first | assumption | omega | (simp; done) | (simp; omega)) | with_reducible refine Since.alloc ?_ _ | with_reducible refine Since.drewN ?_ _ | with_reducible refine Since.drew ?_ | with_reducible refine Since.set ?_ (by first | assumption | omega | (simp; done) | (simp; omega)) _)), frm0_in _, by rw [P1.out]; rfl, fun _ => ⟨rfl, rfl⟩, newA_nil _⟩
end Go.Proofs.YtmfbaijbigodkaaGreatDoor

/-! Contract of wireref2.Open. Condition: the string's length is an int. -/
namespace Go.Proofs.YtmfbaijbigodkaaGreatDoor
open Go.ChangeShapes Go.WideShapes Go.ChangeAt Go.RowKit
set_option linter.unusedVariables false

/-- wireref1.Whole by one contract -/
theorem rwhole_any (cut b next : Int) (w : World) :
    Calls Tryz.prog 107 #[.int .i64 cut, .int .i64 b, .int .i64 next] w fun e w' => e = .returned (.tuple #[.int .i64 (wholeV cut b next), .bool (decide (wholeE cut b next = 0))]) ∧ w = w' := by
  by_cases h : WholeOk cut b next
  · rw [show wholeV cut b next = wholeN cut b next by unfold wholeV; rw [if_pos h], show wholeE cut b next = 0 by unfold wholeE; rw [if_pos h]]
    exact rwhole_yes cut b next h w
  · rw [show wholeV cut b next = 0 by unfold wholeV; rw [if_neg h], show wholeE cut b next = 1 by unfold wholeE; rw [if_neg h]]
    exact rwhole_no cut b next h w
abbrev RoPost (b : List UInt8) (next : Int) (w : World) (e : Ending) (w' : World) : Prop := ∃ (A : Option Addr) (n c : Nat) (Ms : List FrmV), e = .returned (.tuple #[.int .i64 (openN b next), .slice A n c, .int .i64 (openE b next)]) ∧ Below w.heap.size w w' ∧ FrmsIn w' (.slice A n c) Ms ∧ Ms.length = n ∧ Ms.map (·.f) = openL b next
theorem roPost_bad {b : List UInt8} {next k : Int} {w w' : World} {e : Ending} (p1 : openE b next = k) (hk : k ≠ 0) (he : e = .returned (.tuple #[.int .i64 0, .slice none 0 0, .int .i64 k])) (hw : Below w.heap.size w w') : RoPost b next w e w' := by
  obtain ⟨p2, p3⟩ := op_bad p1 hk
  exact ⟨none, 0, 0, [], by rw [he, p1, p2], hw, frms0 _, rfl, by rw [p3]; rfl⟩
theorem openHead {b : List UInt8} {next : Int} (h : MayBe next) (h2 : ¬ 200 < b.length) (h3 : ¬ (1 ≤ bat b 0 ∧ bat b 0 ≤ 4 ∧ bat b 0 < b.length)) : openE b next = 2 :=
  op_head h h2 (fun hh => h3 ⟨hh.2.1, hh.2.2.1, hh.2.2.2.1⟩)

set_option maxHeartbeats 6400000 in
set_option maxRecDepth 100000 in
theorem ropen (s : ByteArray) (next : Int) (w : World) (hz : s.size ≤ 9223372036854775707) :
    Calls Tryz.prog 59 #[.string s, .int .i64 next] w fun e w' => RoPost s.data.toList next w e w' := by
  have hsz : s.data.toList.length = s.size := rfl
  have FP := Lib.hid (fun k W => rfread (s.extract k s.size) W (Nat.le_trans (str_drop_size s k) hz))
  have HDR := Lib.hid (fun k => str_drop s k)
  have HAT := Lib.hid (fun k h => str_at s k h)
  obtain ⟨b, hb⟩ : ∃ b, s.data.toList = b := ⟨_, rfl⟩
  rw [hb] at hsz HAT ⊢
  have HDB : Hid (∀ k, (s.extract k s.size).data.toList = b.drop k) := Lib.hid (fun k => by rw [HDR.out, hb])
  have HSZ := Lib.hid hsz
  clear hb HDR
  by_cases hm : MayBe next
  case neg =>
    have P1 := Lib.hid (op_may (b := b) hm)
    have hmb := Lib.hid (mayB_not hm)
    clear hm hsz
    go_enter Tryz.func59, Tryz.ntmps59
    go_wp2_with fail
    refine (rmay_any next _).mono ?_
    rintro e w1 ⟨rfl, rfl⟩
    rw [hmb.out]
    trace "A"; go_wp2_with fail
    go_ret3
    exact roPost_bad P1.out (by decide) rfl (Below.refl _ _)
  have HM := Lib.hid hm
  have hmb := Lib.hid (mayB_iff.2 hm)
  clear hm
  by_cases h200 : 200 < s.size
  · have P1 := Lib.hid (op_big (b := b) HM.out (by omega))
    have h200' : (200 : Int) < (s.size : Int) := by omega
    clear hsz
    go_enter Tryz.func59, Tryz.ntmps59
    go_wp2_with fail
    refine (rmay_any next _).mono ?_
    rintro e w1 ⟨rfl, rfl⟩
    rw [hmb.out]
    trace "B"; go_wp2_with fail
    go_ret3
    exact roPost_bad P1.out (by decide) rfl (Below.refl _ _)
  have h200' : decide ((200 : Int) < (s.size : Int)) = false := by simp; omega
  have HB2 : Hid (¬ 200 < b.length) := Lib.hid (by omega)
  have hs200 : s.size ≤ 200 := by omega
  clear h200
  by_cases h0 : s.size = 0
  · obtain ⟨e1, e2⟩ := str_empty h0
    have P1 := Lib.hid (openHead (b := b) HM.out HB2.out (fun hh => by omega))
    clear h0 hsz
    go_enter Tryz.func59, Tryz.ntmps59
    go_wp2_with fail
    refine (rmay_any next _).mono ?_
    rintro e w1 ⟨rfl, rfl⟩
    rw [hmb.out]
    trace "C"; go_wp2_with fail
    go_ret3
    exact roPost_bad P1.out (by decide) rfl (Below.refl _ _)
  obtain ⟨e1, e2⟩ := str_full h0
  have hpos : 0 < s.size := by omega
  have e0 := HAT.out 0 hpos
  obtain ⟨y0, y1⟩ := bat_bounds b 0
  have HOH := Lib.hid (fun h3 => openHead (b := b) HM.out HB2.out h3)
  have HOP := Lib.hid (fun (h4 : ¬ WholeOk (cutOf b (bat b 0)) (bat b 0) next) => op_head (b := b) HM.out HB2.out (fun hh => h4 hh.2.2.2.2))
  have HHY : Hid (1 ≤ bat b 0 → bat b 0 ≤ 4 → bat b 0 < b.length → WholeOk (cutOf b (bat b 0)) (bat b 0) next → HeadOk b next) := Lib.hid (fun a1 a2 a3 a4 => ⟨fun hh => by rw [hh] at hsz; simp at hsz; omega, a1, a2, a3, a4⟩)
  have HOSS := Lib.hid (fun hh => fun L p h hx => op_some (b := b) HM.out HB2.out hh (opF_some (L := L) (p := p) h hx))
  have HONN := Lib.hid (fun hh => fun h => op_none (b := b) HM.out HB2.out hh (opF_none h))
  have HOFF := Lib.hid (fun hh => fun L p h hx => op_none (b := b) HM.out HB2.out hh (opF_few (L := L) (p := p) h hx))
  have HCO := Lib.hid (fun (m : Nat) (a1 : 1 ≤ m) (a2 : m ≤ 4) => cutU_of b a1 a2)
  have HCB := Lib.hid (cutU_bounds b)
  have HBB := Lib.hid (bat_bounds b)
  obtain ⟨x, hx⟩ : ∃ x, bat b 0 = x := ⟨_, rfl⟩
  rw [hx] at e0 y0 y1 HOH HOP HHY HOSS HONN HOFF
  have hwrap : IntKind.i64.wrap x = x := by simp [IntKind.wrap, IntKind.bits, IntKind.signed]; omega
  by_cases hx1 : x < 1
  · have P1 := Lib.hid (HOH.out (by omega))
    clear hx h0 hsz
    go_enter Tryz.func59, Tryz.ntmps59
    go_wp2_with fail
    refine (rmay_any next _).mono ?_
    rintro e w1 ⟨rfl, rfl⟩
    rw [hmb.out]
    trace "D"; go_wp2_with fail
    go_ret3
    exact roPost_bad P1.out (by decide) rfl (Below.refl _ _)
  have hx1' : decide (x < 1) = false := by simpa using hx1
  by_cases hx4 : 4 < x
  · have P1 := Lib.hid (HOH.out (by omega))
    clear hx h0 hsz hx1
    go_enter Tryz.func59, Tryz.ntmps59
    go_wp2_with fail
    refine (rmay_any next _).mono ?_
    rintro e w1 ⟨rfl, rfl⟩
    rw [hmb.out]
    trace "E"; go_wp2_with fail
    go_ret3
    exact roPost_bad P1.out (by decide) rfl (Below.refl _ _)
  have hx4' : decide (4 < x) = false := by simpa using hx4
  have hg1 : ¬ (x < 1 ∨ 4 < x) := by omega
  by_cases hlen : (s.size : Int) ≤ x
  · have P1 := Lib.hid (HOH.out (by have := HSZ.out; omega))
    clear hx h0 hsz hx1 hx4
    go_enter Tryz.func59, Tryz.ntmps59
    go_wp2_with fail
    refine (rmay_any next _).mono ?_
    rintro e w1 ⟨rfl, rfl⟩
    rw [hmb.out]
    trace "F"; go_wp2_with fail
    go_ret3
    exact roPost_bad P1.out (by decide) rfl (Below.refl _ _)
  have hlen' : decide ((s.size : Int) ≤ x) = false := by simpa using hlen
  have hg2 : ¬ ((x < 1 ∨ 4 < x) ∨ (s.size : Int) ≤ x) := by omega
  obtain ⟨m, rfl⟩ : ∃ m : Nat, x = m := ⟨x.toNat, by omega⟩
  have hm1 : 1 ≤ m := by omega
  have hm4 : m ≤ 4 := by omega
  have hml : m < s.size := by omega
  have HHY2 := Lib.hid (HHY.out (by omega) (by omega) (by omega))
  clear hx h0 hsz hx1 hx4 hlen HHY HOH
  go_enter Tryz.func59, Tryz.ntmps59
  go_wp2_with fail
  refine (rmay_any next _).mono ?_
  rintro e w1 ⟨rfl, rfl⟩
  rw [hmb.out]
  trace "G"; go_wp2_with fail
  obtain ⟨wo, rfl⟩ : ∃ wo : World, wo = w := ⟨_, rfl⟩
  go_loopw [9, 10] (fun s9 s10 wr => ∃ j : Nat, s10 = .int .i64 ((j + 1 : Nat) : Int) ∧ j ≤ m ∧ s9 = .int .i64 (cutU b j) ∧ wr = wo) (fun _ s10 _ => m + 1 - (intOf s10).toNat)
  case atStart => exact ⟨0, rfl, Nat.zero_le _, rfl, rfl⟩
  case round =>
    obtain ⟨j, rfl, hj, rfl, rfl⟩ := hrel
    by_cases hjm : j < m
    case neg =>
      obtain rfl : j = m := by omega
      have hf : decide (((j + 1 : Nat) : Int) ≤ (j : Int)) = false := by simp; omega
      trace "H"; go_wp2_with fail
      refine (rwhole_any (cutU b j) j next _).mono ?_
      rintro e w1 ⟨rfl, rfl⟩
      rw [HCO.out j hm1 hm4]
      by_cases hw : WholeOk (cutOf b j) j next
      case neg =>
        have P1 := Lib.hid (HOP.out hw)
        rw [show wholeE (cutOf b j) j next = 1 by unfold wholeE; rw [if_neg hw], show decide ((1 : Int) = 0) = false by decide]
        clear hw
        generalize wholeV (cutOf b j) j next = W at *
        trace "I"; go_wp2_with fail
        go_ret3
        exact roPost_bad P1.out (by decide) rfl (Below.refl _ _)
      have HH := Lib.hid (HHY2.out hw)
      rw [show wholeE (cutOf b j) j next = 0 by unfold wholeE; rw [if_pos hw], show decide ((0 : Int) = 0) = true by decide, show wholeV (cutOf b j) j next = wholeN (cutOf b j) j next by unfold wholeV; rw [if_pos hw]]
      obtain ⟨k0, hk0⟩ : ∃ k0, (j : Int).toNat + 1 = k0 := ⟨_, rfl⟩
      have hk1 : 1 + (j : Int) = (k0 : Int) := by omega
      have hkb : k0 ≤ b.length := by have := HSZ.out; omega
      have HON := Lib.hid (HONN.out HH.out)
      have HOF := Lib.hid (HOFF.out HH.out)
      have HOS := Lib.hid (HOSS.out HH.out)
      rw [hk0] at HON HOF HOS
      have HST : Hid (∀ W, Since wr W → PsSt wr W b k0 0 k0 none 0 []) := Lib.hid (fun W hW => ⟨Lst.nil _ _ _, by simp, by simp [Value.ownBlock], hW, rfl, rfl, hkb, by omega⟩)
      generalize wholeN (cutOf b j) j next = N at *
      generalize cutOf b j = C at *
      have hov := HSZ.out
      clear hw hkb hk0 HONN HOFF HOSS HHY2 HOP
      trace "J"; go_wp2_with fail
      obtain ⟨w, rfl⟩ : ∃ w : World, w = wr := ⟨_, rfl⟩
      go_loopw [13, 14] (fun s13 s14 wr => ∃ (i p : Nat) (A : Option Addr) (c : Nat) (Ms : List FrmV), s13 = .int .i64 p ∧ s14 = .slice A i c ∧ p ≤ s.size ∧ Hid (PsSt w wr b k0 i p A c Ms)) (fun s13 _ _ => s.size - (intOf s13).toNat)
      case atStart => exact ⟨0, k0, none, 0, [], by first | rfl | rw [hk1], rfl, by have := (HST.out w (Since.refl w)).le; omega, Lib.hid (HST.out w (Since.refl w))⟩
      case round =>
        obtain ⟨i, p, A, c, Ms, rfl, rfl, hp, HS⟩ := hrel
        have hs := Lib.hid HS.out.since
        have HML := Lib.hid HS.out.len
        by_cases hlt : p < s.size
        case neg =>
          have hf : decide ((p : Int) < (s.size : Int)) = false := by simp; omega
          have hup : rdFs b k0 b.length = some (Ms.map (·.f), p) := rdFs_end HS.out.up (by have := HSZ.out; omega) _ (by have := HS.out.ip; have := HS.out.le; omega)
          have hmm : (Ms.map (·.f)).length = i := by rw [List.length_map, HML.out]
          by_cases h0 : i = 0
          · subst h0
            have P1 := Lib.hid (HOF.out _ _ hup (Or.inl (List.length_eq_zero_iff.1 hmm)))
            clear hup hmm
            trace "K"; go_wp2_with fail
            go_ret3
            exact roPost_bad P1.out (by decide) rfl hs.out
          have h0' : ((i : Int) == 0) = false := by rw [beq_eq_false_iff_ne]; omega
          by_cases h12 : 12 < i
          · have P1 := Lib.hid (HOF.out _ _ hup (Or.inr (by rw [hmm]; exact h12)))
            have h12' : (12 : Int) < (i : Int) := by omega
            clear hup hmm h0
            trace "L"; go_wp2_with fail
            go_ret3
            exact roPost_bad P1.out (by decide) rfl hs.out
          obtain ⟨p1, p2, p3⟩ := HOS.out _ _ hup (fun hx => by
            rcases hx with hx | hx
            · have := congrArg List.length hx; rw [hmm] at this; exact h0 this
            · rw [hmm] at hx; exact h12 hx)
          have P1 := Lib.hid p1
          have P2 := Lib.hid p2
          have P3 := Lib.hid p3
          have h12' : decide ((12 : Int) < (i : Int)) = false := by simp; omega
          clear p1 p2 p3 hup hmm h0 h12
          trace "M"; go_wp2_with fail
          go_ret3
          exact ⟨A, i, c, Ms, by rw [P1.out, P2.out]; rfl, hs.out, ⟨fun g hg => (HS.out.each g hg).1, Rd.of_lst HS.out.ls⟩, HML.out, P3.out.symm⟩
        have hlt' : (p : Int) < (s.size : Int) := by omega
        have hp0 : (p : Int) ≤ (s.size : Int) := by omega
        have FPp := Lib.hid (FP.out p)
        rw [HDB.out] at FPp
        clear hlt
        trace "Q"; go_wp2_with fail
        refine (FPp.out _).mono ?_
        rintro e w2 ⟨g, n, ok, rfl, hb2, hg2, hrd, hno, hgn2⟩
        cases ok with
        | false =>
          simp only [Bool.false_eq_true, if_false] at hrd
          have P1 := Lib.hid (HON.out (rdFs_none (rdFs_no HS.out.up (by omega) hrd) _ (by have := HS.out.ip; omega)))
          have hs2 := hs.out.later hb2
          clear hrd hg2 hno hgn2 hb2
          trace "R"; go_wp2_with fail
          go_ret3
          exact roPost_bad P1.out (by decide) rfl (by refine Since.out ?_; repeat (first | with_reducible assumption | with_reducible exact Since.refl _ | with_reducible refine Since.later ?_ (by with_reducible assumption) | with_reducible refine Since.only ?_ (by with_reducible assumption) (by first | assumption | omega | (simp; done) | (simp; omega)) | with_reducible refine Since.alloc ?_ _ | with_reducible refine Since.drewN ?_ _ | with_reducible refine Since.drew ?_ | with_reducible refine Since.set ?_ (by first | assumption | omega | (simp; done) | (simp; omega)) _))
        | true =>
          simp only [if_true] at hrd
          have HRD := Lib.hid hrd
          obtain ⟨_, r2, r3, _⟩ := readF_inv hrd
          rw [List.length_drop] at r3
          have HLS := Lib.hid (((HS.out.ls.later hb2).alloc (.cells #[.int .i64 g.f.kind, .slice g.A g.f.nums.length g.cap, .string g.f.data] 93)).alloc (.cells #[.int .i64 g.f.kind, .slice g.A g.f.nums.length g.cap, .string g.f.data] 93))
          have HMR : Hid ((Ms.map frmRow).length = i) := Lib.hid (by rw [List.length_map, HML.out])
          have HSTEP := Lib.hid (fun q9 c9 w9 o1 o2 hl ho hq => HS.out.step (q9 := q9) (c9 := c9) (w9 := w9) (o1 := o1) (o2 := o2) hb2 hg2 hgn2 HRD.out (by omega) hl ho hq)
          have HBK := Lib.hid (BlockIs.fresh (w2.alloc (.cells #[.int .i64 g.f.kind, .slice g.A g.f.nums.length g.cap, .string g.f.data] 93)) 93 #[.int .i64 g.f.kind, .slice g.A g.f.nums.length g.cap, .string g.f.data])
          rw [World.size_alloc] at HBK
          obtain ⟨pn, hpn0⟩ : ∃ pn, p + n = pn := ⟨_, rfl⟩
          have hpn : (p : Int) + (n : Int) = (pn : Int) := by omega
          have hpn3 : p < pn := by omega
          have hpn4 : pn ≤ s.size := by omega
          rw [hpn0] at HSTEP
          clear hpn0
          have hi6 : i ≤ 200 := by have := HS.out.ip; omega
          clear hrd hg2 hno hgn2 hb2
          trace "S"; go_wp2_with (at_builtin; refine wpList_push rfl _ _ 91 rfl 93 3 48 Tryz.elFrm (.slice A i c) (Ms.map frmRow) rfl HLS.out (w2.heap.size + 1) 1 (frmRow g) rfl rfl (frmRow_one g).2 HBK.out (by rw [HMR.out]; omega) ?_; intro q9 cq w5 hl5 ho5 hq5 hlt5; rw [HMR.out] at hl5; (try rw [HMR.out]); have HN5 := Lib.hid (HSTEP.out q9 cq w5 _ _ hl5 ho5 hq5); clear hl5 ho5 hq5 hlt5)
          trace "T"; go_wp2_with fail
          go_roundw
          case rel => exact ⟨i + 1, pn, some ⟨q9, 0, none⟩, cq, Ms ++ [g], by first | rfl | (rw [hpn]), rfl, hpn4, HN5⟩
          case measure => simp [intOf]; omega
    have hjm' : (((j + 1 : Nat) : Int) ≤ (m : Int)) := by omega
    have cj := HAT.out (j + 1) (by omega)
    obtain ⟨y0, y1⟩ := HBB.out (j + 1)
    obtain ⟨z0, z1⟩ := HCB.out j
    have HCU : Hid (cutU b (j + 1) = 256 * cutU b j + bat b (j + 1)) := Lib.hid rfl
    have z2 : cutU b j < 16777216 := by
      have : j = 0 ∨ j = 1 ∨ j = 2 ∨ j = 3 := by omega
      rcases this with rfl | rfl | rfl | rfl <;> simp at z1 <;> omega
    clear z1
    have hjs : ((j + 1 : Nat) : Int) < (s.size : Int) := by omega
    generalize bat b (j + 1) = y at *
    generalize cutU b j = c at *
    have hwy : IntKind.i64.wrap y = y := by simp [IntKind.wrap, IntKind.bits, IntKind.signed]; omega
    trace "P"; go_wp2_with fail
    go_roundw
    case rel => exact ⟨j + 1, by go_num, by omega, by rw [HCU.out], by first | rfl | trivial⟩
    case measure => simp [intOf]; omega
end Go.Proofs.YtmfbaijbigodkaaGreatDoor

/-! Contracts of the reference's stream: what each answers, and what becomes of its block. Condition: the block holds a stream as NewStream and the calls leave it; a piece's bytes are no more than the memory reaches. -/
namespace Go.Proofs.YtmfbaijbigodkaaGreatDoor
open Go.ChangeShapes Go.WideShapes Go.ChangeAt Go.RowKit
set_option linter.unusedVariables false

def iv (o : Option UInt8) : Int := match o with | none => -1 | some b => (b.toNat : Int)
def inV (o : Option UInt8) : Value := .int .i64 (iv o)
/-- the reference's cells -/
def refCells (M : Plc) (t : Nat) : Array Value := (M.map inV ++ [Value.int .i64 (t : Int)]).toArray
theorem refCells_at {M : Plc} (hM : M.length = 60) (t : Nat) {i : Nat} (h : i < 60) : (refCells M t)[i]? = some (.int .i64 (iv (M.at i))) := by
  unfold refCells
  rw [List.getElem?_toArray, List.getElem?_append_left (by rw [List.length_map]; omega), List.getElem?_map]
  unfold Plc.at
  rw [List.getElem?_eq_getElem (by omega)]
  simp [List.getD, List.getElem?_eq_getElem (show i < M.length by omega), inV]
theorem refCells_taken {M : Plc} (hM : M.length = 60) (t : Nat) : (refCells M t)[60]? = some (.int .i64 (t : Int)) := by
  unfold refCells
  rw [List.getElem?_toArray, List.getElem?_append_right (by rw [List.length_map]; omega), List.length_map, hM]
  rfl
theorem refCells_put {M : Plc} (hM : M.length = 60) (t : Nat) {i : Nat} (h : i < 60) (o : Option UInt8) : (refCells M t).setIfInBounds i (.int .i64 (iv o)) = refCells (M.set i o) t := by
  unfold refCells
  rw [List.setIfInBounds_toArray, List.set_append_left _ _ (by rw [List.length_map]; omega), List.map_set]
  rfl
theorem refCells_take {M : Plc} (hM : M.length = 60) (t t' : Nat) : (refCells M t).setIfInBounds 60 (.int .i64 (t' : Int)) = refCells M t' := by
  unfold refCells
  rw [List.setIfInBounds_toArray, List.set_append_right _ _ (by rw [List.length_map]; omega), List.length_map, hM]
  rfl
/-- the reference's stream at g -/
structure Qz (w : World) (g : Nat) (M : Plc) (t : Nat) : Prop where
  bl : BlockIs w g 114 (refCells M t)
  len : M.length = 60
  most : t ≤ 60
theorem Qz.later {w w1 : World} {g : Nat} {M : Plc} {t : Nat} (h : Qz w g M t) (hb : Below w.heap.size w w1) : Qz w1 g M t := ⟨h.bl.later hb, h.len, h.most⟩
theorem Qz.kept {w w1 : World} {g : Nat} {M : Plc} {t : Nat} {S : List Nat} (h : Qz w g M t) (hg : Out w w1 S) (h1 : g ∉ S) : Qz w1 g M t := ⟨hg.block' h.bl h1, h.len, h.most⟩
theorem Qz.drewN {w : World} {g : Nat} {M : Plc} {t : Nat} (h : Qz w g M t) (n : Nat) : Qz (w.drewN n) g M t := ⟨h.bl, h.len, h.most⟩
theorem Qz.at_ {w : World} {g : Nat} {M : Plc} {t : Nat} (h : Qz w g M t) {i : Nat} (hi : i < 60) : w.cell? ⟨g, i, none⟩ = some (.int .i64 (iv (M.at i))) := (h.bl.cell i).trans (refCells_at h.len t hi)
theorem Qz.taken {w : World} {g : Nat} {M : Plc} {t : Nat} (h : Qz w g M t) : w.cell? ⟨g, 60, none⟩ = some (.int .i64 (t : Int)) := (h.bl.cell _).trans (refCells_taken h.len t)
theorem Qz.put {w : World} {g : Nat} {M : Plc} {t : Nat} (h : Qz w g M t) {i : Nat} (hi : i < 60) (o : Option UInt8) : Qz (w.setCell ⟨g, i, none⟩ (.int .i64 (iv o))) g (M.set i o) t := by
  refine ⟨?_, by rw [List.length_set]; exact h.len, h.most⟩
  rw [← refCells_put h.len t hi o]
  exact h.bl.put i _
theorem Qz.take {w : World} {g : Nat} {M : Plc} {t t' : Nat} (h : Qz w g M t) (ht : t' ≤ 60) : Qz (w.setCell ⟨g, 60, none⟩ (.int .i64 (t' : Int))) g M t' := by
  refine ⟨?_, h.len, ht⟩
  rw [← refCells_take h.len t t']
  exact h.bl.put 60 _

/-- so many places are none, the rest is a byte 0 -/
def blank (i : Nat) : Plc := List.replicate i none ++ List.replicate (60 - i) (some 0)
theorem blank_len {i : Nat} (h : i ≤ 60) : (blank i).length = 60 := by unfold blank; rw [List.length_append, List.length_replicate, List.length_replicate]; omega
theorem blank_step {i : Nat} (h : i < 60) : (blank i).set i none = blank (i + 1) := by
  unfold blank
  rw [List.set_append_right _ _ (by rw [List.length_replicate]; exact Nat.le_refl _), List.length_replicate, Nat.sub_self]
  obtain ⟨m, hm⟩ : ∃ m, 60 - i = m + 1 := ⟨59 - i, by omega⟩
  rw [hm, List.replicate_succ, List.set_cons_zero, show 60 - (i + 1) = m by omega, List.replicate_succ']
  simp
theorem blank_end : blank 60 = Plc.new := by unfold blank Plc.new; simp

set_option maxHeartbeats 1600000 in
theorem qnew (w : World) : Calls Tryz.prog 43 #[] w fun e w' => e = .returned (.pointer (some ⟨w.heap.size, 0, none⟩)) ∧ Qz w' w.heap.size Plc.new 0 ∧ Below w.heap.size w w' := by
  go_enter Tryz.func43, Tryz.ntmps43
  go_wp2_with fail
  go_loopw [2] (fun s2 wr => ∃ i : Nat, s2 = .int .i64 i ∧ i ≤ 60 ∧ Qz wr w.heap.size (blank i) 0 ∧ Since w wr) (fun s2 _ => 60 - (intOf s2).toNat)
  case atStart => exact ⟨0, rfl, by omega, ⟨BlockIs.fresh _ _ _, blank_len (by omega), by omega⟩, (by refine Since.out ?_; repeat (first | with_reducible assumption | with_reducible exact Since.refl _ | with_reducible refine Since.later ?_ (by with_reducible assumption) | with_reducible refine Since.only ?_ (by with_reducible assumption) (by first | assumption | omega | (simp; done) | (simp; omega)) | with_reducible refine Since.alloc ?_ _ | with_reducible refine Since.drewN ?_ _ | with_reducible refine Since.drew ?_ | with_reducible refine Since.set ?_ (by first | assumption | omega | (simp; done) | (simp; omega)) _))⟩
  case round =>
    obtain ⟨i, rfl, hi, hz, hs⟩ := hrel
    have HZ := Lib.hid hz
    have lg := hz.bl.lt
    have f0 := hz.bl.free
    clear hz
    by_cases hlt : i < 60
    case neg =>
      obtain rfl : i = 60 := by omega
      go_wp2_with fail
      go_ret
      exact ⟨rfl, by rw [← blank_end]; exact HZ.out, (by refine Since.out ?_; repeat (first | with_reducible assumption | with_reducible exact Since.refl _ | with_reducible refine Since.later ?_ (by with_reducible assumption) | with_reducible refine Since.only ?_ (by with_reducible assumption) (by first | assumption | omega | (simp; done) | (simp; omega)) | with_reducible refine Since.alloc ?_ _ | with_reducible refine Since.drewN ?_ _ | with_reducible refine Since.drew ?_ | with_reducible refine Since.set ?_ (by first | assumption | omega | (simp; done) | (simp; omega)) _))⟩
    have hlt' : (i : Int) < 60 := by omega
    have c0 := HZ.out.at_ hlt
    generalize iv ((blank i).at i) = x0 at c0
    have hz1 := HZ.out.put hlt none
    rw [blank_step hlt] at hz1
    have HZ1 := Lib.hid hz1
    clear hz1
    go_wp2_with fail
    go_roundw
    case rel => exact ⟨i + 1, by go_num, by omega, HZ1.out, (by refine Since.out ?_; repeat (first | with_reducible assumption | with_reducible exact Since.refl _ | with_reducible refine Since.later ?_ (by with_reducible assumption) | with_reducible refine Since.only ?_ (by with_reducible assumption) (by first | assumption | omega | (simp; done) | (simp; omega)) | with_reducible refine Since.alloc ?_ _ | with_reducible refine Since.drewN ?_ _ | with_reducible refine Since.drew ?_ | with_reducible refine Since.set ?_ (by first | assumption | omega | (simp; done) | (simp; omega)) _))⟩
    case measure => simp [intOf]; omega

set_option maxHeartbeats 1600000 in
theorem qready (g : Nat) (M : Plc) (t : Nat) (w : World) (h : Qz w g M t) :
    Calls Tryz.prog 20 #[.pointer (some ⟨g, 0, none⟩)] w fun e w' => e = .returned (.int .i64 (readyN M t)) ∧ Below w.heap.size w w' := by
  have H := Lib.hid h
  have ht := h.most
  clear h
  go_enter Tryz.func20, Tryz.ntmps20
  go_wp2_with fail
  go_loopw [3] (fun s3 wr => ∃ n : Nat, s3 = .int .i64 n ∧ t + n ≤ 60 ∧ Hid (∀ j, j < n → (M.at (t + j)).isSome = true) ∧ Since w wr) (fun s3 _ => 60 - t - (intOf s3).toNat)
  case atStart => exact ⟨0, rfl, by omega, Lib.hid (fun j hj => by omega), Since.refl _⟩
  case round =>
    obtain ⟨n, rfl, hn, HS, hs⟩ := hrel
    have c0 : wr.cell? ⟨g, 60, none⟩ = some (.int .i64 (t : Int)) := (H.out.later hs).taken
    by_cases hlt : t + n < 60
    case neg =>
      have e : readyN M t = n := readyN_eq HS.out hn (Or.inr (by omega))
      have hlt' : decide ((t : Int) + (n : Int) < 60) = false := by simp; omega
      have E := Lib.hid e
      clear e
      go_wp2_with fail
      go_quiet (fail)
      go_wp2_with fail
      go_ret
      exact ⟨by rw [E.out]; rfl, (by refine Since.out ?_; repeat (first | with_reducible assumption | with_reducible exact Since.refl _ | with_reducible refine Since.later ?_ (by with_reducible assumption) | with_reducible refine Since.only ?_ (by with_reducible assumption) (by first | assumption | omega | (simp; done) | (simp; omega)) | with_reducible refine Since.alloc ?_ _ | with_reducible refine Since.drewN ?_ _ | with_reducible refine Since.drew ?_ | with_reducible refine Since.set ?_ (by first | assumption | omega | (simp; done) | (simp; omega)) _))⟩
    have hlt' : decide ((t : Int) + (n : Int) < 60) = true := by simp; omega
    have c1 : wr.cell? ⟨g, t + n, none⟩ = some (.int .i64 (iv (M.at (t + n)))) := (H.out.later hs).at_ hlt
    have lg := (H.out.later hs).bl.lt
    obtain ⟨o, ho⟩ : ∃ o, M.at (t + n) = o := ⟨_, rfl⟩
    rw [ho] at c1
    have HO := Lib.hid ho
    have hlt2 : (t : Int) + (n : Int) < 60 := by omega
    clear ho
    cases o with
    | none =>
      have E : Hid (readyN M t = n) := Lib.hid (readyN_eq HS.out hn (Or.inl (by rw [HO.out]; rfl)))
      change wr.cell? ⟨g, t + n, none⟩ = some (.int .i64 (-1)) at c1
      go_wp2_with fail
      go_quiet (fail)
      go_wp2_with fail
      go_ret
      exact ⟨by rw [E.out]; rfl, (by refine Since.out ?_; repeat (first | with_reducible assumption | with_reducible exact Since.refl _ | with_reducible refine Since.later ?_ (by with_reducible assumption) | with_reducible refine Since.only ?_ (by with_reducible assumption) (by first | assumption | omega | (simp; done) | (simp; omega)) | with_reducible refine Since.alloc ?_ _ | with_reducible refine Since.drewN ?_ _ | with_reducible refine Since.drew ?_ | with_reducible refine Since.set ?_ (by first | assumption | omega | (simp; done) | (simp; omega)) _))⟩
    | some y =>
      obtain ⟨y0, hy0⟩ : ∃ y0 : Int, (y.toNat : Int) = y0 := ⟨_, rfl⟩
      have hy1 : 0 ≤ y0 := by omega
      change wr.cell? ⟨g, t + n, none⟩ = some (.int .i64 (y.toNat : Int)) at c1
      rw [hy0] at c1
      clear hy0
      go_wp2_with fail
      go_quiet (fail)
      go_wp2_with fail
      go_roundw
      case rel => exact ⟨n + 1, by go_num, by omega, Lib.hid (fun j hj => by
        rcases Nat.lt_succ_iff_lt_or_eq.1 hj with h1 | h1
        · exact HS.out j h1
        · rw [h1, HO.out]; rfl), (by refine Since.out ?_; repeat (first | with_reducible assumption | with_reducible exact Since.refl _ | with_reducible refine Since.later ?_ (by with_reducible assumption) | with_reducible refine Since.only ?_ (by with_reducible assumption) (by first | assumption | omega | (simp; done) | (simp; omega)) | with_reducible refine Since.alloc ?_ _ | with_reducible refine Since.drewN ?_ _ | with_reducible refine Since.drew ?_ | with_reducible refine Since.set ?_ (by first | assumption | omega | (simp; done) | (simp; omega)) _))⟩
      case measure => simp [intOf]; omega

set_option maxHeartbeats 3200000 in
theorem qput (g : Nat) (M : Plc) (t : Nat) (x : Int) (d : ByteArray) (w : World) (h : Qz w g M t) (hd : d.size ≤ 140737488351232) :
    Calls Tryz.prog 63 #[.pointer (some ⟨g, 0, none⟩), .int .i64 x, .string d] w fun e w' => e = .returned (.int .i64 (putE M x d.data.toList)) ∧ Qz w' g (putM M x d.data.toList) t ∧ Out w w' [g] := by
  have H := Lib.hid h
  have ht := h.most
  have lg := h.bl.lt
  have hlen : d.data.toList.length = d.size := Array.length_toList
  clear h
  by_cases hx : 0 ≤ x ∧ x ≤ 60
  case neg =>
    have E : Hid (putE M x d.data.toList = 1) := Lib.hid (by unfold putE; rw [if_pos (by omega)])
    have EM : Hid (putM M x d.data.toList = M) := Lib.hid (by unfold putM; rw [E.out, if_neg (by decide)])
    clear hlen
    by_cases h0 : x < 0
    · clear hx
      go_enter Tryz.func63, Tryz.ntmps63
      go_wp2_with fail
      go_ret
      exact ⟨by rw [E.out]; rfl, by rw [EM.out]; exact H.out, Out.refl _ _⟩
    · have h0' : decide (x < 0) = false := by simpa using h0
      have h1 : decide (60 < x) = true := by simp; omega
      clear hx
      go_enter Tryz.func63, Tryz.ntmps63
      go_wp2_with fail
      go_ret
      exact ⟨by rw [E.out]; rfl, by rw [EM.out]; exact H.out, Out.refl _ _⟩
  obtain ⟨x0, x1⟩ := hx
  obtain ⟨a, rfl⟩ := Int.eq_ofNat_of_zero_le x0
  have h0' : decide ((a : Int) < 0) = false := by simp
  have h1' : decide (60 < (a : Int)) = false := by simp; omega
  by_cases hf : 60 < a + d.size
  · have E : Hid (putE M a d.data.toList = 4) := Lib.hid (by unfold putE; rw [if_neg (by omega), if_pos (by rw [hlen]; omega)])
    have EM : Hid (putM M a d.data.toList = M) := Lib.hid (by unfold putM; rw [E.out, if_neg (by decide)])
    have h2 : decide (60 < (a : Int) + (d.size : Int)) = true := by simp; omega
    clear hlen
    go_enter Tryz.func63, Tryz.ntmps63
    go_wp2_with fail
    go_ret
    exact ⟨by rw [E.out]; rfl, by rw [EM.out]; exact H.out, Out.refl _ _⟩
  have h2 : decide (60 < (a : Int) + (d.size : Int)) = false := by simp; omega
  have E : Hid (putE M a d.data.toList = if clashN M a d.data.toList d.size = true then 7 else 0) := Lib.hid (by unfold putE; rw [if_neg (by omega), if_neg (by rw [hlen]; omega), hlen]; rfl)
  have hn : a + d.size ≤ 60 := by omega
  have HLEN := Lib.hid hlen
  clear hlen hf
  go_enter Tryz.func63, Tryz.ntmps63
  go_wp2_with fail
  go_loopw [7] (fun s7 wr => ∃ i : Nat, s7 = .int .i64 i ∧ i ≤ d.size ∧ clashN M a d.data.toList i = false ∧ Since w wr) (fun s7 _ => d.size - (intOf s7).toNat)
  case atStart => exact ⟨0, rfl, Nat.zero_le _, rfl, Since.refl _⟩
  case round =>
    obtain ⟨i, rfl, hi, hc, hs⟩ := hrel
    have HC := Lib.hid hc
    clear hc
    by_cases hlt : i < d.size
    case neg =>
      have hi2 : i = d.size := by omega
      subst hi2
      have E0 : Hid (putE M a d.data.toList = 0) := Lib.hid (by rw [E.out, HC.out]; rfl)
      have EM : Hid (putM M a d.data.toList = wrN M a d.data.toList d.size) := Lib.hid (by unfold putM; rw [E0.out, if_pos rfl, HLEN.out]; rfl)
      have hlt' : decide ((d.size : Int) < (d.size : Int)) = false := by simp
      go_wp2_with fail
      obtain ⟨wo, rfl⟩ : ∃ wo : World, wo = wr := ⟨_, rfl⟩
      go_loopw [8] (fun s8 wr => ∃ i : Nat, s8 = .int .i64 i ∧ i ≤ d.size ∧ Qz wr g (wrN M a d.data.toList i) t ∧ Out w wr [g]) (fun s8 _ => d.size - (intOf s8).toNat)
      case atStart => exact ⟨0, rfl, Nat.zero_le _, H.out.later hs, Out.of_below hs _⟩
      case round =>
        obtain ⟨i, rfl, hi, hz, ho⟩ := hrel
        have HZ := Lib.hid hz
        have HOO := Lib.hid ho
        have hlg := hz.bl.lt
        clear hz ho
        by_cases hlt : i < d.size
        case neg =>
          obtain rfl : i = d.size := by omega
          go_wp2_with fail
          go_ret
          exact ⟨by rw [E0.out]; rfl, by rw [EM.out]; exact HZ.out, HOO.out⟩
        clear hlt'
        have hlt' : (i : Int) < (d.size : Int) := by omega
        have hw8 : wrap64 (d[i].toNat : Int) = (d[i].toNat : Int) := by have := d[i].toNat_lt; unfold wrap64; omega
        have hai : a + i < 60 := by omega
        have hai' : (a : Int) + (i : Int) < 60 := by omega
        have c0 := HZ.out.at_ hai
        generalize iv ((wrN M a d.data.toList i).at (a + i)) = oy at c0
        have f0 := HZ.out.bl.free
        have hw : IntKind.i64.wrap ((a : Int) + (i : Int)) = ((a + i : Nat) : Int) := by rw [IntWalk.i64_in _ (by omega)]; rfl
        go_wp2_with fail
        go_region
        all_goals
          go_wp2_with fail
          (try rw [hw8])
          have hO : Out wr (wr.setCell ⟨g, a + i, none⟩ (.int .i64 (d[i].toNat : Int))) [g] := (Out.refl wr [g]).put (p := ⟨g, a + i, none⟩) (Or.inl (by simp)) _
          have hP := HZ.out.put hai (some d[i])
          have hset : wrN M a d.data.toList (i + 1) = (wrN M a d.data.toList i).set (a + i) (some d[i]) := by rw [← bth_get hlt]; rfl
          go_roundw
          case rel => exact ⟨i + 1, by go_num, by omega, by rw [hset]; exact ⟨hP.bl, hP.len, hP.most⟩, HOO.out.trans (by first | exact hO | exact hO.drew | exact ⟨hO.os, hO.tape, hO.output, hO.size, hO.block⟩)⟩
          case measure => simp [intOf]; omega
    have hlt' : (i : Int) < (d.size : Int) := by omega
    have hw8 : wrap64 (d[i].toNat : Int) = (d[i].toNat : Int) := by have := d[i].toNat_lt; unfold wrap64; omega
    have hai : a + i < 60 := by omega
    have c0 := (H.out.later hs).at_ hai
    have hai' : (a : Int) + (i : Int) < 60 := by omega
    have hlg := (H.out.later hs).bl.lt
    obtain ⟨o, ho⟩ : ∃ o, M.at (a + i) = o := ⟨_, rfl⟩
    rw [ho] at c0
    have HO := Lib.hid ho
    clear ho
    cases o with
    | none =>
      change wr.cell? ⟨g, a + i, none⟩ = some (.int .i64 (-1)) at c0
      have HC1 : Hid (clashN M a d.data.toList (i + 1) = false) := Lib.hid (clashN_miss HC.out (fun y hy => by rw [HO.out] at hy; cases hy))
      go_wp2_with fail
      go_quiet (fail)
      go_wp2_with fail
      go_roundw
      case rel => exact ⟨i + 1, by go_num, by omega, HC1.out, (by refine Since.out ?_; repeat (first | with_reducible assumption | with_reducible exact Since.refl _ | with_reducible refine Since.later ?_ (by with_reducible assumption) | with_reducible refine Since.only ?_ (by with_reducible assumption) (by first | assumption | omega | (simp; done) | (simp; omega)) | with_reducible refine Since.alloc ?_ _ | with_reducible refine Since.drewN ?_ _ | with_reducible refine Since.drew ?_ | with_reducible refine Since.set ?_ (by first | assumption | omega | (simp; done) | (simp; omega)) _))⟩
      case measure => simp [intOf]; omega
    | some y =>
      change wr.cell? ⟨g, a + i, none⟩ = some (.int .i64 (y.toNat : Int)) at c0
      have hy0 : decide (0 ≤ (y.toNat : Int)) = true := by simp
      by_cases hy : y = d[i]
      · have HC1 : Hid (clashN M a d.data.toList (i + 1) = false) := Lib.hid (clashN_miss HC.out (fun z hz => by rw [HO.out] at hz; rw [bth_get hlt, ← hy]; exact (Option.some.inj hz).symm))
        have hq : ((y.toNat : Int) != (d[i].toNat : Int)) = false := by rw [hy]; simp
        clear hy
        go_wp2_with fail
        go_quiet (fail)
        go_wp2_with fail
        go_roundw
        case rel => exact ⟨i + 1, by go_num, by omega, HC1.out, (by refine Since.out ?_; repeat (first | with_reducible assumption | with_reducible exact Since.refl _ | with_reducible refine Since.later ?_ (by with_reducible assumption) | with_reducible refine Since.only ?_ (by with_reducible assumption) (by first | assumption | omega | (simp; done) | (simp; omega)) | with_reducible refine Since.alloc ?_ _ | with_reducible refine Since.drewN ?_ _ | with_reducible refine Since.drew ?_ | with_reducible refine Since.set ?_ (by first | assumption | omega | (simp; done) | (simp; omega)) _))⟩
        case measure => simp [intOf]; omega
      · have E7 : Hid (putE M a d.data.toList = 7) := Lib.hid (by rw [E.out, if_pos (clashN_hit hlt HO.out (by rw [bth_get hlt]; exact hy))])
        have EM : Hid (putM M a d.data.toList = M) := Lib.hid (by unfold putM; rw [E7.out, if_neg (by decide)])
        have hq : ((y.toNat : Int) != (d[i].toNat : Int)) = true := by
          simp
          intro he
          exact hy (UInt8.toNat_inj.1 (by omega))
        clear hy
        go_wp2_with fail
        go_quiet (fail)
        go_wp2_with fail
        go_ret
        exact ⟨by rw [E7.out]; rfl, by rw [EM.out]; exact H.out.later (by refine Since.out ?_; repeat (first | with_reducible assumption | with_reducible exact Since.refl _ | with_reducible refine Since.later ?_ (by with_reducible assumption) | with_reducible refine Since.only ?_ (by with_reducible assumption) (by first | assumption | omega | (simp; done) | (simp; omega)) | with_reducible refine Since.alloc ?_ _ | with_reducible refine Since.drewN ?_ _ | with_reducible refine Since.drew ?_ | with_reducible refine Since.set ?_ (by first | assumption | omega | (simp; done) | (simp; omega)) _)), Out.of_below (by refine Since.out ?_; repeat (first | with_reducible assumption | with_reducible exact Since.refl _ | with_reducible refine Since.later ?_ (by with_reducible assumption) | with_reducible refine Since.only ?_ (by with_reducible assumption) (by first | assumption | omega | (simp; done) | (simp; omega)) | with_reducible refine Since.alloc ?_ _ | with_reducible refine Since.drewN ?_ _ | with_reducible refine Since.drew ?_ | with_reducible refine Since.set ?_ (by first | assumption | omega | (simp; done) | (simp; omega)) _)) _⟩
end Go.Proofs.YtmfbaijbigodkaaGreatDoor

/-! Contracts of the reference's stream: Take from 0 on, Gaps. Condition: the block holds a stream as NewStream and the calls leave it. -/
namespace Go.Proofs.YtmfbaijbigodkaaGreatDoor
open Go.ChangeShapes Go.WideShapes Go.ChangeAt Go.RowKit
set_option linter.unusedVariables false

def byRow (b : UInt8) : List Value := [.int .u8 (b.toNat : Int)]
theorem byRow_one (b : UInt8) : (byRow b).length = 1 ∧ ∀ u ∈ byRow b, u.oneCell' = true := ⟨rfl, by intro u hu; simp [byRow] at hu; rw [hu]; rfl⟩
theorem Tryz.elByte : Elem Tryz.prog 131 5 1 1 := ⟨Tryz.underlying131, ⟨.int .u8 0, rfl, by kernel_rfl⟩, by decide, by decide⟩
theorem conv_lst {W : World} {n : Nat} {bs : List UInt8} (hn : bs.length = n) {A : Option Addr} {c : Nat} (h : Lst W 5 1 (.slice A n c) (bs.map byRow)) :
    (convert 131 9 (.slice A n c)).run Tryz.prog W = .ok (.string ⟨bs.toArray⟩) W := by
  obtain ⟨A', cap, hv, _, _, hA⟩ := h.shape
  simp only [List.length_map, Value.slice.injEq] at hv
  obtain ⟨rfl, _, rfl⟩ := hv
  rcases hA with ⟨rfl, h0, _⟩ | ⟨q, rfl⟩
  · have hb : bs = [] := by simpa using h0
    subst hb
    subst hn
    exact conv_none
  · refine conv_at hn (fun j b hb => ?_)
    have := h.cell rfl (i := j) (j := 0) (e := byRow b) (u := .int .u8 (b.toNat : Int)) (by rw [List.getElem?_map, hb]; rfl) rfl
    rw [Nat.zero_add]
    simpa using this

set_option maxHeartbeats 3200000 in
set_option maxRecDepth 100000 in
theorem qtake (g : Nat) (M : Plc) (t : Nat) (x : Int) (hx : 0 ≤ x) (w : World) (h : Qz w g M t) (S : ByteArray) (hS : S = ⟨(cutL M t (takeK M t x)).toArray⟩) :
    Calls Tryz.prog 44 #[.pointer (some ⟨g, 0, none⟩), .int .i64 x] w fun e w' => e = .returned (.string S) ∧ Qz w' g M (t + takeK M t x) ∧ Out w w' [g] := by
  have H := Lib.hid h
  have ht := h.most
  have lg := h.bl.lt
  have hr := readyN_le M t ht
  obtain ⟨k, hk⟩ : ∃ k, takeK M t x = k := ⟨_, rfl⟩
  have hkr : k ≤ readyN M t := by rw [← hk]; unfold takeK; omega
  have htk : t + k ≤ 60 := by omega
  have hmin : (x < (readyN M t : Int) ∧ x = (k : Int)) ∨ ((readyN M t : Int) ≤ x ∧ k = readyN M t) := by rw [← hk]; unfold takeK; omega
  have HK := Lib.hid hk
  have HS := Lib.hid hS
  clear h hk hS
  go_enter Tryz.func44, Tryz.ntmps44
  repeat ((fail_if_success (with_reducible refine stop_at 2 ?_)); first | (go_at_call 20; refine (qready g M t _ H.out).mono ?_; rintro e w1 ⟨rfl, hb1⟩) | go_values | go_skip | go_guarded | go_step | go_upon | go_back | go_simp)
  go_cut [5] (fun s5 wx => s5 = .int .i64 k ∧ Qz wx g M t ∧ Since w wx)
  case first =>
    have HB := Lib.hid (H.out.later hb1)
    have hs1 : Since w w1 := hb1
    rcases hmin with ⟨h1, rfl⟩ | ⟨h1, rfl⟩
    · go_wp2_with fail
      go_meet
      case rel => exact ⟨rfl, HB.out, hs1⟩
    · go_wp2_with fail
      go_meet
      case rel => exact ⟨rfl, HB.out, hs1⟩
  case rest =>
    obtain ⟨wo, rfl⟩ : ∃ wo : World, wo = wc := ⟨_, rfl⟩
    obtain ⟨rfl, hz, hs⟩ := hcut
    have HZ := Lib.hid hz
    clear hz
    go_wp2_with fail
    go_loopw [6, 7] (fun s6 s7 wr => ∃ (i : Nat) (A : Option Addr) (c : Nat), s7 = .int .i64 i ∧ i ≤ k ∧ s6 = .slice A i c ∧ Lst wr 5 1 (.slice A i c) ((cutL M t i).map byRow) ∧ (∀ q, q ∈ blocks (.slice A 0 0) → wo.heap.size ≤ q) ∧ Since wo wr) (fun _ s7 _ => k - (intOf s7).toNat)
    case atStart => exact ⟨0, none, 0, rfl, Nat.zero_le _, rfl, by simpa [cutL] using Lst.nil wo _ 1, by simp [Value.ownBlock], Since.refl _⟩
    case round =>
      obtain ⟨i, A, c, rfl, hi, rfl, hl, hfar, hs2⟩ := hrel
      have HL := Lib.hid hl
      have HFAR := Lib.hid hfar
      have hq := HZ.out.later hs2
      have c6 : wr.cell? ⟨g, 60, none⟩ = some (.int .i64 (t : Int)) := hq.taken
      have lgr := hq.bl.lt
      have f0 := hq.bl.free
      clear hl hfar
      by_cases hlt : i < k
      case neg =>
        obtain rfl : i = k := by omega
        have hf : decide ((i : Int) < (i : Int)) = false := by simp
        have hw : IntKind.i64.wrap ((t : Int) + (i : Int)) = ((t + i : Nat) : Int) := by rw [IntWalk.i64_in _ (by omega)]; rfl
        have HQ := Lib.hid (hq.take (t' := t + i) htk)
        have hO : Out wr (wr.setCell ⟨g, 60, none⟩ (.int .i64 ((t + i : Nat) : Int))) [g] := (Out.refl wr [g]).put (p := ⟨g, 60, none⟩) (Or.inl (by simp)) _
        have HL2 := Lib.hid (HL.out.kept hO (fun q hq hm => by rw [List.mem_singleton.1 hm] at hq; have := HFAR.out _ (blocks_any A _ _ _ _ ▸ hq); have := HZ.out.bl.lt; omega))
        have HO := Lib.hid hO
        have hcv : (convert 131 9 (.slice A i c)).run Tryz.prog (wr.setCell ⟨g, 60, none⟩ (.int .i64 ((t : Int) + (i : Int)))) = .ok (.string S) (wr.setCell ⟨g, 60, none⟩ (.int .i64 ((t : Int) + (i : Int)))) := by
          have h1 := conv_lst (cutL_len M t i) HL2.out
          rw [HS.out, HK.out]
          exact h1
        clear hq hO
        go_wp2_with fail
        go_ret
        exact ⟨rfl, by rw [HK.out]; exact HQ.out, (Out.of_below (hs.later hs2) [g]).trans HO.out⟩
      have hlt' : (i : Int) < (k : Int) := by omega
      have hti : t + i < 60 := by omega
      have hti' : (t : Int) + (i : Int) < 60 := by omega
      have hsome := readyN_some (M := M) (t := t) (j := i) (by omega)
      obtain ⟨y, hy⟩ := Option.isSome_iff_exists.1 hsome
      have cb : wr.cell? ⟨g, t + i, none⟩ = some (.int .i64 (y.toNat : Int)) := by rw [hq.at_ hti, hy]; rfl
      have hst : cutL M t (i + 1) = cutL M t i ++ [y] := by show cutL M t i ++ _ = _; rw [hy]; rfl
      have HST := Lib.hid hst
      have hw : IntKind.i64.wrap ((t : Int) + (i : Int)) = ((t + i : Nat) : Int) := by rw [IntWalk.i64_in _ (by omega)]; rfl
      have hyb := y.toNat_lt
      have hti0 : (0 : Int) ≤ (t : Int) + (i : Int) := by omega
      have htn : ((t : Int) + (i : Int)).toNat = t + i := by omega
      have hw8 : IntKind.u8.wrap (y.toNat : Int) = (y.toNat : Int) := by simp only [IntKind.wrap, IntKind.bits, IntKind.signed]; simp; omega
      have hml : ((cutL M t i).map byRow).length = i := by rw [List.length_map, cutL_len]
      have HML := Lib.hid hml
      clear hy hst hsome hq hml
      go_wp2_with fail
      go_region_law (refine step_push rfl _ _ 131 rfl 5 1 1 Tryz.elByte (.slice A i c) ((cutL M t i).map byRow) rfl ?_ wr.heap.size 1 [.int .u8 (y.toNat : Int)] rfl rfl (byRow_one y).2 ?_ ?_ ?_; (first | exact (HL.out.alloc _).drew | exact HL.out.alloc _); (exact BlockIs.fresh wr _ _); (rw [HML.out]; omega); intro q cap' w3 hl3 ho3 hq3 hlt3)
      all_goals
        simp only [cutL_len]
        rw [HML.out] at hl3
        have hsn : Since wo w3 := by
          first
            | exact (hs2.alloc _).out' ho3 (fun k hk => HFAR.out k (blocks_any A _ _ _ _ ▸ hk))
            | exact ((hs2.alloc _).drew).out' ho3 (fun k hk => HFAR.out k (blocks_any A _ _ _ _ ▸ hk))
        have hfar1 : ∀ k, k ∈ blocks (.slice (some ⟨q, 0, none⟩) 0 0) → wo.heap.size ≤ k := by
          intro k hk
          have hkq : q = k := by simpa [Value.ownBlock] using hk
          rw [← hkq]
          rcases hq3 with h1 | h1
          · exact HFAR.out _ (blocks_any A _ _ _ _ ▸ h1)
          · have := hs2.le; simp at h1; omega
        have HF1 := Lib.hid hfar1
        have HL1 := Lib.hid hl3
        clear hfar1 hl3 ho3 hq3 hlt3 cb c6
        go_wp2_with fail
        go_roundw
        case rel => exact ⟨i + 1, some ⟨q, 0, none⟩, cap', by go_num, by omega, rfl, by rw [HST.out, List.map_append]; exact HL1.out, HF1.out, hsn⟩
        case measure => simp [intOf]; omega

end Go.Proofs.YtmfbaijbigodkaaGreatDoor

/-! The reference's end of a connection in memory; its New, Write and Read. Condition: the blocks hold an end as NewEnd and the calls leave it. -/
namespace Go.Proofs.YtmfbaijbigodkaaGreatDoor
open Go.ChangeShapes Go.WideShapes Go.ChangeAt Go.RowKit
set_option linter.unusedVariables false

def rnParts (g : Nat) (s : EnS) (p : EnP) : List Thing :=
  Thing.block g 48 (enCells s p.mv p.cv p.gi p.gl).toArray :: Thing.block p.gi 114 (refCells s.M s.t) :: Thing.block p.gl 88 (credCells s.W s.L s.C s.R) ::
    Thing.lst 95 1 p.mv (p.vs.map fun v => [v]) :: Thing.lst 101 2 p.cv (s.came.map rngRow) :: inner p.vs s.made
/-- the reference's end at g -/
def rnT (g : Nat) (s : EnS) : Thing := Thing.ex fun p : EnP => Thing.with_ (EnOk s ∧ p.vs.length = s.made.length) (Thing.all (rnParts g s p))
/-- an end, opened -/
structure RnIn (w : World) (S : List Nat) (g : Nat) (s : EnS) (p : EnP) : Prop where
  ok : EnOk s
  len : p.vs.length = s.made.length
  own : Own w S w (rnParts g s p)
theorem rnT_open {w : World} {S : List Nat} {g : Nat} {s : EnS} (h : (rnT g s).is w S) : ∃ p, RnIn w S g s p := by
  obtain ⟨p, ⟨h1, h2⟩, h3⟩ := h
  exact ⟨p, h1, h2, Own.unfold_ h3⟩
theorem rnT_close {w w' : World} {S : List Nat} {g : Nat} {s : EnS} {p : EnP} (h1 : EnOk s) (h2 : p.vs.length = s.made.length) (h : Own w S w' (rnParts g s p)) : Leaves w w' S (rnT g s) :=
  Leaves.ex p (Leaves.with_ ⟨h1, h2⟩ h.closed)
namespace RnIn
variable {w : World} {S : List Nat} {g : Nat} {s : EnS} {p : EnP} (h : RnIn w S g s p)
include h
theorem bg : BlockIs w g 48 (enCells s p.mv p.cv p.gi p.gl).toArray := h.own.blk 0 rfl
theorem qz : Qz w p.gi s.M s.t := ⟨h.own.blk 1 rfl, h.ok.ml, h.ok.tt⟩
theorem bl : BlockIs w p.gl 88 (credCells s.W s.L s.C s.R) := h.own.blk 2 rfl
theorem lm : Lst w 95 1 p.mv (p.vs.map fun v => [v]) := h.own.ls 3 rfl
theorem lc : Lst w 101 2 p.cv (s.came.map rngRow) := h.own.ls 4 rfl
theorem lp {i : Nat} {v : Value} {ps : List Pc} (h1 : p.vs[i]? = some v) (h2 : s.made[i]? = some ps) : Lst w 98 2 v (ps.map pcRow) := h.own.ls (i + 5) (inner_get h1 h2)
theorem c0 : w.cell? ⟨g, 0, none⟩ = some (.string s.data) := (h.bg.cell 0).trans (enCells_data _ _ _ _ _)
theorem ct {i : Nat} (hi : i < 60) : w.cell? ⟨g, 1 + i, none⟩ = some (.bool (tat s.told i)) := (h.bg.cell _).trans (enCells_told _ _ _ _ h.ok.tl hi)
theorem c61 : w.cell? ⟨g, 61, none⟩ = some (.int .i64 s.may) := (h.bg.cell 61).trans (enCells_tail _ _ _ _ h.ok.tl 0)
theorem c62 : w.cell? ⟨g, 62, none⟩ = some p.mv := (h.bg.cell 62).trans (enCells_tail _ _ _ _ h.ok.tl 1)
theorem c63 : w.cell? ⟨g, 63, none⟩ = some (.int .i64 s.known) := (h.bg.cell 63).trans (enCells_tail _ _ _ _ h.ok.tl 2)
theorem c64 : w.cell? ⟨g, 64, none⟩ = some p.cv := (h.bg.cell 64).trans (enCells_tail _ _ _ _ h.ok.tl 3)
theorem c65 : w.cell? ⟨g, 65, none⟩ = some (.pointer (some ⟨p.gi, 0, none⟩)) := (h.bg.cell 65).trans (enCells_tail _ _ _ _ h.ok.tl 4)
theorem c66 : w.cell? ⟨g, 66, none⟩ = some (.pointer (some ⟨p.gl, 0, none⟩)) := (h.bg.cell 66).trans (enCells_tail _ _ _ _ h.ok.tl 5)
theorem later {w' : World} (hb : Below w.heap.size w w') : RnIn w' S g s p := ⟨h.ok, h.len, by
  obtain ⟨own, ho⟩ := h.own.has
  refine ⟨Out.refl _ _, own, fun i t hi => ?_⟩
  obtain ⟨Si, h1, h2⟩ := ho i t hi
  refine ⟨Si, t.later h1 hb, fun k hk => ⟨(h2 k hk).1, Or.inl ?_⟩⟩
  have := t.lt h1 k hk
  rcases (h2 k hk).2 with h3 | h3
  · exact h3
  · omega⟩
end RnIn
set_option maxRecDepth 100000 in
theorem nnew (n : Int) (h1 : 1 ≤ n) (h2 : n ≤ 1000) (w : World) :
    Calls Tryz.prog 10 #[.int .i64 n] w fun e w' => ∃ g, e = .returned (.pointer (some ⟨g, 0, none⟩)) ∧ Leaves w w' [] (rnT g (EnS.new n)) := by
  have H1 := Lib.hid h1
  have H2 := Lib.hid h2
  go_enter Tryz.func10, Tryz.ntmps10
  trace "A"; go_wp2_with (go_at_call 43; refine (qnew _).mono ?_; rintro e w1 ⟨rfl, hz, hb⟩)
  trace "B"; go_ret
  refine ⟨w1.heap.size + 1, rfl, rnT_close (p := ⟨w.heap.size, w1.heap.size, .slice none 0 0, .slice none 0 0, []⟩) (EnOk.new H1.out H2.out) rfl ?_⟩
  have ec : ((((Tryz.zeroCells48.setIfInBounds 61 (Value.int IntKind.i64 n)).setIfInBounds 63 (Value.int IntKind.i64 (-1))).setIfInBounds 65 (Value.pointer (some { block := w.heap.size, off := 0 }))).setIfInBounds 66 (Value.pointer (some { block := w1.heap.size, off := 0 }))) = (enCells (EnS.new n) (.slice none 0 0) (.slice none 0 0) w.heap.size w1.heap.size).toArray := by kernel_rfl
  have o1 := (Own.start w).add hb (S := [_]) (t := Thing.block _ 114 (refCells Plc.new 0)) ⟨hz.bl, rfl⟩ (by simp)
  have o2 := o1.alloc 88 (credCells n n 0 0)
  have o3 := ((o2.alloc 48 (enCells (EnS.new n) (.slice none 0 0) (.slice none 0 0) w.heap.size w1.heap.size).toArray).nil_ 95 1).nil_ 101 2
  show Own w [] ((w1.alloc (.cells (credCells n n 0 0) 88)).alloc (.cells ((((Tryz.zeroCells48.setIfInBounds 61 (Value.int IntKind.i64 n)).setIfInBounds 63 (Value.int IntKind.i64 (-1))).setIfInBounds 65 (Value.pointer (some { block := w.heap.size, off := 0 }))).setIfInBounds 66 (Value.pointer (some { block := w1.heap.size, off := 0 }))) 48)) _
  rw [ec]
  rw [World.size_alloc] at o3
  refine Own.pick o3 [2, 0, 1, 3, 4] (by decide) (fun i t hi => ?_)
  match i, hi with
  | 0, hi => exact ⟨2, rfl, hi⟩
  | 1, hi => exact ⟨0, rfl, hi⟩
  | 2, hi => exact ⟨1, rfl, hi⟩
  | 3, hi => exact ⟨3, rfl, hi⟩
  | 4, hi => exact ⟨4, rfl, hi⟩
/-- Write: its own cell alone is written -/
theorem nwrite (g : Nat) (s : EnS) (d : ByteArray) (w : World) (S : List Nat) (h : (rnT g s).is w S) (hd : d.size ≤ 9223372036854775000) :
    Calls Tryz.prog 12 #[.pointer (some ⟨g, 0, none⟩), .string d] w fun e w' => e = .returned (.int .i64 (s.writeE d)) ∧ Leaves w w' S (rnT g (s.write d)) := by
  obtain ⟨p, hp⟩ := rnT_open h
  have H := Lib.hid h
  have HP := Lib.hid hp
  have c0 := hp.c0
  have lg := hp.bg.lt
  have fg := hp.bg.free
  have hz := hp.ok.dz
  have hw : IntKind.i64.wrap ((s.data.size : Int) + (d.size : Int)) = (s.data.size : Int) + (d.size : Int) := IntWalk.i64_in _ (by omega)
  clear h hp
  by_cases hf : 60 < s.data.size + d.size
  · have HE : Hid (s.writeE d = 4 ∧ s.write d = s) := Lib.hid ⟨by unfold EnS.writeE; rw [if_pos hf], by unfold EnS.write; rw [if_pos hf]⟩
    rw [HE.out.1, HE.out.2]
    have hb : (60 : Int) < (s.data.size : Int) + (d.size : Int) := by omega
    clear hf
    go_enter Tryz.func12, Tryz.ntmps12
    trace "A"; go_wp2_with fail
    go_ret
    exact ⟨rfl, Leaves.same H.out (Below.refl _ _)⟩
  · have HE : Hid (s.writeE d = 0 ∧ s.write d = { s with data := s.data ++ d }) := Lib.hid ⟨by unfold EnS.writeE; rw [if_neg hf], by unfold EnS.write; rw [if_neg hf]⟩
    have HW := Lib.hid (HP.out.ok.write d)
    rw [HE.out.2] at HW
    rw [HE.out.1, HE.out.2]
    have hb : decide ((60 : Int) < (s.data.size : Int) + (d.size : Int)) = false := by simp; omega
    have hc : (9223372036854775807 < s.data.size + d.size) = False := by simp; omega
    clear hf
    go_enter Tryz.func12, Tryz.ntmps12
    trace "B"; go_wp2_with fail
    go_ret
    refine ⟨rfl, rnT_close (p := p) HW.out HP.out.len ?_⟩
    have o := HP.out.own.put 0 rfl 0 (.string (s.data ++ d))
    exact o
theorem nread (g : Nat) (s : EnS) (n : Int) (w : World) (S : List Nat) (h : (rnT g s).is w S) :
    Calls Tryz.prog 13 #[.pointer (some ⟨g, 0, none⟩), .int .i64 n] w fun e w' => e = .returned (.tuple #[.string (s.readS n), .int .i64 (EnS.readE n)]) ∧ Leaves w w' S (rnT g (s.read n)) := by
  obtain ⟨p, hp⟩ := rnT_open h
  have H := Lib.hid h
  have HP := Lib.hid hp
  have c65 := hp.c65
  have lg := hp.bg.lt
  clear h hp
  by_cases hn : n < 0
  · have HE : Hid (EnS.readE n = 1 ∧ s.readS n = ⟨#[]⟩ ∧ s.read n = s) := Lib.hid ⟨by unfold EnS.readE; rw [if_pos hn], by unfold EnS.readS; rw [if_pos hn], by unfold EnS.read; rw [if_pos hn]⟩
    rw [HE.out.1, HE.out.2.1, HE.out.2.2]
    go_enter Tryz.func13, Tryz.ntmps13
    go_wp2_with fail
    go_ret2
    exact ⟨rfl, Leaves.same H.out (Below.refl _ _)⟩
  · have hn' : decide (n < 0) = false := by simpa using hn
    obtain ⟨k, hk⟩ : ∃ k, takeK s.M s.t n = k := ⟨_, rfl⟩
    obtain ⟨T, hT⟩ : ∃ T, takeS s.M s.t n = T := ⟨_, rfl⟩
    have hTk : T.size = k := by
      rw [← hT, ← hk]
      show (cutL s.M s.t (takeK s.M s.t n)).toArray.size = _
      rw [List.size_toArray, cutL_len]
    have HE : Hid (EnS.readE n = 0 ∧ s.readS n = T ∧ s.read n = { s with t := s.t + k, L := limitN s.W s.L s.R k, R := s.R + k }) := Lib.hid ⟨by unfold EnS.readE; rw [if_neg hn], by unfold EnS.readS; rw [if_neg hn]; exact hT, by unfold EnS.read; rw [if_neg hn, hk]⟩
    have HW := Lib.hid (HP.out.ok.read n)
    rw [HE.out.2.2] at HW
    have HRD := Lib.hid (HP.out.ok.readOk n).1
    have HS := Lib.hid (qtake p.gi s.M s.t n (by omega) w HP.out.qz T hT.symm)
    rw [hk] at HRD HS
    rw [HE.out.1, HE.out.2.1, HE.out.2.2]
    have HTK := Lib.hid hTk
    clear hn hk hT hTk HE
    go_enter Tryz.func13, Tryz.ntmps13
    trace "A"; go_wp2_with fail
    refine HS.out.mono ?_
    rintro e w1 ⟨rfl, hz, ho⟩
    have HO := Lib.hid (HP.out.own.chg1 1 rfl hz.bl ho)
    have d66 : w1.cell? ⟨g, 66, none⟩ = some (.pointer (some ⟨p.gl, 0, none⟩)) := (HO.out.blk 0 rfl).cell 66 |>.trans (enCells_tail _ _ _ _ HP.out.ok.tl 5)
    have lg1 := (HO.out.blk 0 rfl).lt
    have HC := Lib.hid (rgetc_any p.gl s.W s.L s.C s.R k HP.out.ok.cr w1 (HO.out.blk 2 rfl))
    unfold rL rR at HC
    rw [HRD.out, if_pos rfl, if_pos rfl] at HC
    have hsz : (T.size : Int) = (k : Int) := by rw [HTK.out]
    clear hz ho
    trace "B"; go_wp2_with fail
    refine HC.out.mono ?_
    rintro e w2 ⟨rfl, hb2, ho2⟩
    have HO2 := Lib.hid (HO.out.chg1 2 rfl hb2 (Out.of_only ho2))
    clear hb2 ho2
    trace "C"; go_wp2_with fail
    go_ret2
    exact ⟨rfl, rnT_close (p := p) HW.out HP.out.len HO2.out⟩
end Go.Proofs.YtmfbaijbigodkaaGreatDoor

/-! Contract of the reference's With. Condition: the ranges can be read, and each number may be one. -/
namespace Go.Proofs.YtmfbaijbigodkaaGreatDoor
open Go.ChangeShapes Go.WideShapes Go.ChangeAt Go.RowKit
set_option linter.unusedVariables false

theorem blocks_zero {A : Option Addr} {n c k : Nat} (h : k ∈ blocks (.slice A 0 0)) : k ∈ blocks (.slice A n c) := by cases A <;> exact h
theorem wstep_ok {s : WSt} {r : Rng} (hs : okN s.x) (hr : okN r) : okN (wstep s r).x := by
  unfold wstep
  split
  · exact hs
  · split
    · split <;> exact hs
    · obtain ⟨⟨a1, a2⟩, a3, a4⟩ := hs
      obtain ⟨⟨b1, b2⟩, b3, b4⟩ := hr
      refine ⟨⟨?_, ?_⟩, ?_, ?_⟩ <;> simp only <;> split <;> omega
theorem wup_ok {L : List Rng} {x : Rng} (hL : ∀ r ∈ L, okN r) (hx : okN x) : ∀ i, i ≤ L.length → okN (wup L x i).x
  | 0, _ => hx
  | i + 1, h => by
    rw [wup_succ (by omega)]
    exact wstep_ok (wup_ok hL hx i (by omega)) (by rw [rat_get (by omega)]; exact hL _ (List.getElem_mem _))
/-- what With holds in memory -/
structure WR (w wr : World) (out : List Rng) (x : Rng) (v : Value) : Prop where
  ls : Lst wr 101 2 v (out.map rngRow)
  nw : ∀ k, k ∈ blocks v → w.heap.size + 1 ≤ k
  bx : BlockIs wr w.heap.size 101 #[.int .i64 x.lo, .int .i64 x.hi]
  since : Since w wr
theorem WR.later {w wr wx : World} {out : List Rng} {x : Rng} {v : Value} (h : WR w wr out x v) (hb : Below wr.heap.size wr wx) : WR w wx out x v := ⟨h.ls.later hb, h.nw, h.bx.later hb, h.since.later hb⟩
theorem WR.push {w W w' : World} {out : List Rng} {x r : Rng} {v : Value} {g n c : Nat} (h : WR w W out x v) (hl : Lst w' 101 2 (.slice (some ⟨g, 0, none⟩) n c) (out.map rngRow ++ [rngRow r])) (ho : Out W w' (blocks v)) (hq : g ∈ blocks v ∨ g = W.heap.size) : WR w w' (out ++ [r]) x (.slice (some ⟨g, 0, none⟩) n c) := by
  refine ⟨by rw [List.map_append]; exact hl, fun k hk => ?_, ho.block' h.bx (fun hm => by have := h.nw _ hm; omega), h.since.out' ho (fun k hk => by have := h.nw k hk; omega)⟩
  have hk' : g = k := by simpa [Value.ownBlock] using hk
  subst hk'
  rcases hq with h1 | h1
  · exact h.nw _ h1
  · have := h.bx.lt; omega
theorem WR.put {w W : World} {out : List Rng} {x : Rng} {v : Value} (h : WR w W out x v) : (∀ a, WR w (W.setCell ⟨w.heap.size, 0, none⟩ (.int .i64 a)) out ⟨a, x.hi⟩ v) ∧ (∀ b, WR w (W.setCell ⟨w.heap.size, 1, none⟩ (.int .i64 b)) out ⟨x.lo, b⟩ v) := by
  have hs : ∀ u j, Out W (W.setCell ⟨w.heap.size, j, none⟩ u) [w.heap.size] := fun u j => (Out.refl W _).put (p := ⟨w.heap.size, j, none⟩) (Or.inl (by simp)) u
  exact ⟨fun a => ⟨h.ls.kept (hs _ _) (fun k hk hm => by have := h.nw k hk; rw [List.mem_singleton.1 hm] at this; omega), h.nw, h.bx.put 0 _, h.since.out' (hs _ _) (by simp)⟩,
    fun b => ⟨h.ls.kept (hs _ _) (fun k hk hm => by have := h.nw k hk; rw [List.mem_singleton.1 hm] at this; omega), h.nw, h.bx.put 1 _, h.since.out' (hs _ _) (by simp)⟩⟩
set_option maxHeartbeats 6400000 in
set_option maxRecDepth 100000 in
theorem rwith (A : Option Addr) (n cap : Nat) (L : List Rng) (x : Rng) (w : World) (hn : L.length = n) (hL : ∀ r ∈ L, okN r) (hx : okN x) (hm : n ≤ 1000) (h : Rd w 2 (.slice A n cap) (L.map rngRow)) :
    Calls Tryz.prog 64 #[.slice A n cap, .agg #[.int .i64 x.lo, .int .i64 x.hi]] w fun e w' => ∃ A' cap', e = .returned (.slice A' (withL L x).length cap') ∧ Lst w' 101 2 (.slice A' (withL L x).length cap') ((withL L x).map rngRow) ∧ Below w.heap.size w w' ∧ ∀ k, k ∈ blocks (.slice A' 0 0) → w.heap.size ≤ k := by
  have H := Lib.hid h
  have HN := Lib.hid hn
  have HU := Lib.hid (fun i (hi : i ≤ n) => wup_ok hL hx i (by omega))
  have HS := Lib.hid (fun i (hi : i < n) => wup_succ (x := x) (show i < L.length by omega))
  have HLE := Lib.hid (fun i (hi : i ≤ n) => wup_len L x i (by omega))
  have HR := Lib.hid (fun i (hi : i < n) => show okN (rat L i) by rw [rat_get (by omega)]; exact hL _ (List.getElem_mem _))
  have HE : Hid (withL L x = if (wup L x n).put = true then (wup L x n).out else (wup L x n).out ++ [(wup L x n).x]) := Lib.hid (by rw [← hn]; rfl)
  clear h hn hL
  go_enter Tryz.func64, Tryz.ntmps64
  go_wp2_with fail
  trace "A"; go_loopw [5, 6, 7] (fun s5 s6 s7 wr => ∃ i : Nat, s7 = .int .i64 i ∧ i ≤ n ∧ s6 = .bool (wup L x i).put ∧ WR w wr (wup L x i).out (wup L x i).x s5) (fun _ _ s7 _ => n - (intOf s7).toNat)
  case atStart => exact ⟨0, rfl, Nat.zero_le _, rfl, Lst.nil _ _ _, by simp [Value.ownBlock], BlockIs.fresh _ _ _, (by refine Since.out ?_; repeat (first | with_reducible assumption | with_reducible exact Since.refl _ | with_reducible refine Since.later ?_ (by with_reducible assumption) | with_reducible refine Since.only ?_ (by with_reducible assumption) (by first | assumption | omega | (simp; done) | (simp; omega)) | with_reducible refine Since.alloc ?_ _ | with_reducible refine Since.drewN ?_ _ | with_reducible refine Since.drew ?_ | with_reducible refine Since.set ?_ (by first | assumption | omega | (simp; done) | (simp; omega)) _))⟩
  case round =>
    obtain ⟨i, rfl, hi, rfl, hW⟩ := hrel
    have hxo := HU.out i hi
    have hle := HLE.out i hi
    by_cases hlt : i < n
    case neg =>
      obtain rfl : i = n := by omega
      have hf : decide ((i : Int) < (i : Int)) = false := by simp
      generalize wup L x i = st at *
      obtain ⟨out, put, ⟨xl, xh⟩⟩ := st
      simp only at *
      clear hxo
      obtain ⟨A5, c5, hve, _, _, hA5⟩ := hW.ls.shape
      rw [List.length_map] at hve
      cases put with
      | true =>
        have HE2 := Lib.hid (HE.out.trans (if_pos rfl))
        have HW := Lib.hid hW
        subst hve
        clear hW
        trace "B"; go_wp2_with fail
        go_ret
        rw [HE2.out]
        exact ⟨A5, c5, rfl, HW.out.ls, HW.out.since.out, fun k hk => by have := HW.out.nw k (blocks_zero (by first | exact hk | simpa using hk)); omega⟩
      | false =>
        have HE2 := Lib.hid (HE.out.trans (if_neg (by decide)))
        have HW := Lib.hid hW
        have b0 : wr.cell? ⟨w.heap.size, 0, none⟩ = some (.int .i64 xl) := hW.bx.cell 0
        have b1 : wr.cell? ⟨w.heap.size, 1, none⟩ = some (.int .i64 xh) := hW.bx.cell 1
        have lb := hW.bx.lt
        have HLL : Hid ((out.map rngRow).length = out.length) := Lib.hid (List.length_map ..)
        clear hW
        trace "C"; go_wp2_with (at_builtin; refine wpList_push rfl _ _ 44 rfl 101 2 16 Tryz.elRange u5 (out.map rngRow) rfl ((HW.out.later ((Since.refl wr).alloc _)).ls) wr.heap.size 1 [.int .i64 xl, .int .i64 xh] rfl rfl (rngRow_one ⟨xl, xh⟩).2 (BlockIs.fresh _ _ _) (by rw [HLL.out]; simp at hle; omega) ?_; intro q4 c4 w4 hl4 ho4 hq4 hlt4; rw [HLL.out] at hl4; (try rw [HLL.out]))
        go_ret
        have hF := (HW.out.later ((Since.refl wr).alloc _)).push (r := ⟨xl, xh⟩) hl4 ho4 hq4
        rw [HE2.out]
        have hlen : (out ++ [(⟨xl, xh⟩ : Rng)]).length = out.length + 1 := by simp
        rw [hlen]
        exact ⟨_, c4, rfl, hF.ls, hF.since.out, fun k hk => by have := hF.nw k (blocks_zero (by first | exact hk | simpa using hk)); omega⟩
    have hlt' : (i : Int) < (n : Int) := by omega
    have hiL : i < L.length := by rw [HN.out]; exact hlt
    obtain ⟨b, off, rfl, hbl, hc⟩ := H.out.rng (i := i) hiL
    obtain ⟨c0, c1⟩ := hc wr hW.since i hiL
    have lb : b < wr.heap.size := Nat.lt_of_lt_of_le hbl hW.since.le
    have hst := HS.out i hlt
    have hle2 := HLE.out (i + 1) (by omega)
    have hro := HR.out i hlt
    generalize rat L i = r at *
    rw [hst] at hle2
    clear hc hiL
    generalize wup L x i = st at *
    obtain ⟨out, put, ⟨xl, xh⟩⟩ := st
    obtain ⟨rl, rh⟩ := r
    obtain ⟨⟨p1, p2⟩, p3, p4⟩ := hxo
    obtain ⟨⟨q1, q2⟩, q3, q4⟩ := hro
    simp only at *
    have HST1 := Lib.hid hst
    clear hst
    have HW := Lib.hid hW
    have b0 : wr.cell? ⟨w.heap.size, 0, none⟩ = some (.int .i64 xl) := hW.bx.cell 0
    have b1 : wr.cell? ⟨w.heap.size, 1, none⟩ = some (.int .i64 xh) := hW.bx.cell 1
    have fb := hW.bx.free
    have lw := hW.bx.lt
    have nb : w.heap.size ≠ wr.heap.size := by omega
    have nb2 : wr.heap.size ≠ w.heap.size := by omega
    have HLL : Hid ((out.map rngRow).length = out.length) := Lib.hid (List.length_map ..)
    have hlo : out.length ≤ 1002 := by split at hle <;> omega
    clear hW
    by_cases h1 : xh + 1 < rl
    · have HST : Hid (wstep ⟨out, put, ⟨xl, xh⟩⟩ ⟨rl, rh⟩ = ⟨out ++ [⟨rl, rh⟩], put, ⟨xl, xh⟩⟩) := Lib.hid (by unfold wstep; rw [if_pos h1])
      trace "D"; go_wp2_with (at_builtin; refine wpList_push rfl _ _ 44 rfl 101 2 16 Tryz.elRange u5 (out.map rngRow) rfl (((HW.out.later ((Since.refl wr).alloc _)).later ((Since.refl _).alloc _)).ls) (wr.heap.size + 1) 1 [.int .i64 rl, .int .i64 rh] rfl rfl (rngRow_one ⟨rl, rh⟩).2 (BlockIs.fresh_at (by simp)) (by rw [HLL.out]; omega) ?_; intro q4 c4 w4 hl4 ho4 hq4 hlt4; rw [HLL.out] at hl4; (try rw [HLL.out]))
      have hF := (((HW.out.later ((Since.refl wr).alloc _)).later ((Since.refl _).alloc _))).push (r := ⟨rl, rh⟩) hl4 ho4 hq4
      have HF := Lib.hid hF
      clear hF hl4 ho4 hq4
      go_roundw
      case rel => exact ⟨i + 1, by go_num, by omega, by rw [HST1.out, HST.out], by rw [HST1.out, HST.out]; exact HF.out⟩
      case measure => simp [intOf]; omega
    have h1' : decide (xh + 1 < rl) = false := by simpa using h1
    by_cases h2 : rh < xl - 1
    · cases put with
      | true =>
        have HST : Hid (wstep ⟨out, true, ⟨xl, xh⟩⟩ ⟨rl, rh⟩ = ⟨out ++ [⟨rl, rh⟩], true, ⟨xl, xh⟩⟩) := Lib.hid (by unfold wstep; rw [if_neg h1, if_pos h2, if_pos rfl])
        clear h1
        trace "E"; go_wp2_with (at_builtin; refine wpList_push rfl _ _ 44 rfl 101 2 16 Tryz.elRange u5 (out.map rngRow) rfl (((HW.out.later ((Since.refl wr).alloc _)).later ((Since.refl _).alloc _)).ls) (wr.heap.size + 1) 1 [.int .i64 rl, .int .i64 rh] rfl rfl (rngRow_one ⟨rl, rh⟩).2 (BlockIs.fresh_at (by simp)) (by rw [HLL.out]; omega) ?_; intro q4 c4 w4 hl4 ho4 hq4 hlt4; rw [HLL.out] at hl4; (try rw [HLL.out]))
        have hF := (((HW.out.later ((Since.refl wr).alloc _)).later ((Since.refl _).alloc _))).push (r := ⟨rl, rh⟩) hl4 ho4 hq4
        have HF := Lib.hid hF
        clear hF hl4 ho4 hq4
        go_roundw
        case rel => exact ⟨i + 1, by go_num, by omega, by rw [HST1.out, HST.out], by rw [HST1.out, HST.out]; exact HF.out⟩
        case measure => simp [intOf]; omega
      | false =>
        have HST : Hid (wstep ⟨out, false, ⟨xl, xh⟩⟩ ⟨rl, rh⟩ = ⟨out ++ [⟨xl, xh⟩] ++ [⟨rl, rh⟩], true, ⟨xl, xh⟩⟩) := Lib.hid (by unfold wstep; rw [if_neg h1, if_pos h2, if_neg (by simp)])
        clear h1
        trace "F"; go_wp2_with (first | (at_builtin; refine wpList_push rfl _ _ 44 rfl 101 2 16 Tryz.elRange u5 (out.map rngRow) rfl (((HW.out.later ((Since.refl wr).alloc _)).later ((Since.refl _).alloc _)).ls) (wr.heap.size + 1) 1 [.int .i64 xl, .int .i64 xh] rfl rfl (rngRow_one ⟨xl, xh⟩).2 (BlockIs.fresh_at (by simp)) (by rw [HLL.out]; omega) ?_; intro q4 c4 w4 hl4 ho4 hq4 hlt4; rw [HLL.out] at hl4; (try rw [HLL.out]); have HF := Lib.hid ((((HW.out.later ((Since.refl wr).alloc _)).later ((Since.refl _).alloc _))).push (r := ⟨xl, xh⟩) hl4 ho4 hq4); have hbx := ho4.block' (g := wr.heap.size) (t := 101) (cs := #[.int .i64 rl, .int .i64 rh]) ((BlockIs.fresh _ _ _).alloc _) (fun hm => by have := HW.out.ls.lt _ hm; omega); have e0 : w4.cell? ⟨wr.heap.size, 0, none⟩ = some (.int .i64 rl) := hbx.cell 0; have e1 : w4.cell? ⟨wr.heap.size, 1, none⟩ = some (.int .i64 rh) := hbx.cell 1; have le := hbx.lt; clear hl4 ho4 hq4 hbx b0 b1) | (at_builtin; refine wpList_push rfl _ _ 44 rfl 101 2 16 Tryz.elRange (.slice (some ⟨q4, 0, none⟩) (out.length + 1) c4) ((out ++ [(⟨xl, xh⟩ : Rng)]).map rngRow) rfl ((HF.out.later ((Since.refl w4).alloc _)).ls) w4.heap.size 1 [.int .i64 rl, .int .i64 rh] rfl rfl (rngRow_one ⟨rl, rh⟩).2 (BlockIs.fresh _ _ _) (by simp; omega) ?_; intro q6 c6 w6 hl6 ho6 hq6 hlt6; rw [List.length_map, List.length_append, List.length_singleton] at hl6; (try rw [List.length_map, List.length_append, List.length_singleton]); have HF2 := Lib.hid ((HF.out.later ((Since.refl w4).alloc _)).push (r := ⟨rl, rh⟩) hl6 ho6 hq6); clear hl6 ho6 hq6))
        go_roundw
        case rel => exact ⟨i + 1, by go_num, by omega, by rw [HST1.out, HST.out], by rw [HST1.out, HST.out]; exact HF2.out⟩
        case measure => simp [intOf]; omega
    have h2' : decide (rh < xl - 1) = false := by simpa using h2
    have HST : Hid (wstep ⟨out, put, ⟨xl, xh⟩⟩ ⟨rl, rh⟩ = ⟨out, put, ⟨if rl < xl then rl else xl, if xh < rh then rh else xh⟩⟩) := Lib.hid (by unfold wstep; rw [if_neg h1, if_neg h2])
    clear h1 h2
    by_cases h3 : rl < xl
    · have HW3 := Lib.hid (HW.out.put.1 rl)
      by_cases h4 : xh < rh
      · trace "G"; go_wp2_with fail
        go_roundw
        case rel => exact ⟨i + 1, by go_num, by omega, by rw [HST1.out, HST.out], by rw [HST1.out, HST.out, if_pos h3, if_pos h4]; exact (HW3.out.put.2 rh).later ((Since.refl _).alloc _)⟩
        case measure => simp [intOf]; omega
      · have h4' : decide (xh < rh) = false := by simpa using h4
        trace "I"; go_wp2_with fail
        go_roundw
        case rel => exact ⟨i + 1, by go_num, by omega, by rw [HST1.out, HST.out], by rw [HST1.out, HST.out, if_pos h3, if_neg h4]; exact HW3.out.later ((Since.refl _).alloc _)⟩
        case measure => simp [intOf]; omega
    · have h3' : decide (rl < xl) = false := by simpa using h3
      have HW3 := HW
      by_cases h4 : xh < rh
      · trace "J"; go_wp2_with fail
        go_roundw
        case rel => exact ⟨i + 1, by go_num, by omega, by rw [HST1.out, HST.out], by rw [HST1.out, HST.out, if_neg h3, if_pos h4]; exact (HW3.out.put.2 rh).later ((Since.refl _).alloc _)⟩
        case measure => simp [intOf]; omega
      · have h4' : decide (xh < rh) = false := by simpa using h4
        trace "K"; go_wp2_with fail
        go_roundw
        case rel => exact ⟨i + 1, by go_num, by omega, by rw [HST1.out, HST.out], by rw [HST1.out, HST.out, if_neg h3, if_neg h4]; exact HW3.out.later ((Since.refl _).alloc _)⟩
        case measure => simp [intOf]; omega
end Go.Proofs.YtmfbaijbigodkaaGreatDoor

/-! What the reference's Take keeps while it goes over the frames: copies of what may change. No condition of its own. -/
namespace Go.Proofs.YtmfbaijbigodkaaGreatDoor
open Go.ChangeShapes Go.WideShapes Go.ChangeAt Go.RowKit
set_option linter.unusedVariables false

/-- which places are told, as cells -/
def tolCells (T : List Bool) : Array Value := (T.map Value.bool).toArray
theorem tolCells_at {T : List Bool} (hT : T.length = 60) {i : Nat} (hi : i < 60) : (tolCells T)[i]? = some (.bool (tat T i)) := by
  unfold tolCells tat
  rw [List.getElem?_toArray, List.getElem?_map, List.getElem?_eq_getElem (by omega)]
  simp [List.getD, List.getElem?_eq_getElem (show i < T.length by omega)]
theorem tolCells_put {T : List Bool} {i : Nat} (b : Bool) : (tolCells T).setIfInBounds i (.bool b) = tolCells (T.set i b) := by
  unfold tolCells
  rw [List.setIfInBounds_toArray, ← List.map_set]
theorem tol_put {w : World} {gt : Nat} {T : List Bool} {a q : Nat} (h : BlockIs w gt 42 (tolCells (tellN T a q))) : BlockIs (w.setCell ⟨gt, a + q, none⟩ (.bool true)) gt 42 (tolCells (tellN T a (q + 1))) := by
  have h1 := h.put (a + q) (.bool true)
  rw [tolCells_put] at h1
  exact h1
/-- part of a block was written -/
theorem BlockIs.putsAt {w : World} {g : Nat} {t : TypeId} {cs : Array Value} (h : BlockIs w g t cs) {o : Nat} {vs : List Value} (hl : o + vs.length ≤ cs.size) : BlockIs (w.setCells g o vs) g t (cs.toList.take o ++ vs ++ cs.toList.drop (o + vs.length)).toArray := by
  have := setCells_heap g vs o w t cs (0, 0) h hl
  unfold BlockIs
  exact this
theorem enCells_allTold {s : EnS} (mv cv : Value) (gi gl : Nat) (h : s.told.length = 60) {T : List Bool} (hT : T.length = 60) : ((enCells s mv cv gi gl).toArray.toList.take 1 ++ T.map Value.bool ++ (enCells s mv cv gi gl).toArray.toList.drop (1 + (T.map Value.bool).length)).toArray = (enCells { s with told := T } mv cv gi gl).toArray := by
  unfold enCells
  have e1 : 1 + (T.map Value.bool).length = (s.told.map Value.bool).length + 1 := by rw [List.length_map, List.length_map, h, hT]
  rw [e1]
  simp
theorem told_range {w : World} {S : List Nat} {g : Nat} {s : EnS} {p : EnP} (h : RnIn w S g s p) : w.rangeAt g 1 (s.told.map Value.bool) := fun j v hv => by
  rw [List.getElem?_map] at hv
  have hj : j < s.told.length := by
    rcases Nat.lt_or_ge j s.told.length with hh | hh
    · exact hh
    · rw [List.getElem?_eq_none hh] at hv; cases hv
  rw [List.getElem?_eq_getElem hj] at hv
  simp only [Option.map_some, Option.some.injEq] at hv
  have := h.ct (i := j) (by have := h.ok.tl; omega)
  rw [this, ← hv]
  unfold tat
  simp [List.getD, List.getElem?_eq_getElem hj]
theorem open_may {b : List UInt8} {next : Int} (h : openE b next = 0) : MayBe (openN b next) := by
  unfold openN
  rw [if_pos h]
  unfold openE at h
  split at h
  · split at h
    · cases h
    · split at h
      · rename_i hh
        have := wholeN_cut _ _ _ hh.2.2.2.2
        exact ⟨this.2.1, this.2.2⟩
      · cases h
  · cases h
theorem take1_data (s : EnS) (f : Frm) : (s.take1 f).data = s.data := by
  unfold EnS.take1
  repeat' split
  all_goals rfl
theorem takes_data (L : List Frm) : ∀ s : EnS, (s.takes L).2.data = s.data := by
  induction L with
  | nil => intro s; rfl
  | cons f r ih =>
    intro s
    rw [EnS.takes]
    split
    · rw [ih, take1_data]
    · exact take1_data s f
/-- its own cells are written anew -/
theorem enCells_new {s si : EnS} (mv cv cv' : Value) (gi gl : Nat) (h : s.told.length = 60) (hT : si.told.length = 60) (hd : si.data = s.data) {cn : List Rng} :
    ((((((enCells s mv cv gi gl).toArray.toList.take 1 ++ si.told.map Value.bool ++ (enCells s mv cv gi gl).toArray.toList.drop (1 + (si.told.map Value.bool).length)).toArray).setIfInBounds 61 (.int .i64 si.may)).setIfInBounds 63 (.int .i64 si.known)).setIfInBounds 64 cv') = (enCells { si with came := cn } mv cv' gi gl).toArray := by
  rw [enCells_allTold mv cv gi gl h hT, enCells_61 (s := { s with told := si.told }) mv cv gi gl hT, enCells_63 (s := { s with told := si.told, may := si.may }) mv cv gi gl hT, enCells_64 (s := { s with told := si.told, may := si.may, known := si.known }) mv cv gi gl hT]
  unfold enCells
  simp only [hd]
/-- the three copies -/
structure TkW (w2 wx : World) (gt gs gc : Nat) (s : EnS) : Prop where
  bt : BlockIs wx gt 42 (tolCells s.told)
  bs : BlockIs wx gs 114 (refCells s.M s.t)
  bc : BlockIs wx gc 88 (credCells s.W s.L s.C s.R)
  since : Since w2 wx
theorem TkW.later {w2 wx w' : World} {gt gs gc : Nat} {s : EnS} (h : TkW w2 wx gt gs gc s) (hb : Below wx.heap.size wx w') : TkW w2 w' gt gs gc s := ⟨h.bt.later hb, h.bs.later hb, h.bc.later hb, h.since.later hb⟩
theorem TkW.ne {w2 wx : World} {gt gs gc : Nat} {s : EnS} (h : TkW w2 wx gt gs gc s) : gt ≠ gs ∧ gt ≠ gc ∧ gs ≠ gc := ⟨block_ne h.bt h.bs (by decide), block_ne h.bt h.bc (by decide), block_ne h.bs h.bc (by decide)⟩
/-- only the told places changed -/
theorem TkW.told {w2 w4 wx : World} {gt gs gc : Nat} {s : EnS} {T : List Bool} (h : TkW w2 w4 gt gs gc s) (hg : w2.heap.size ≤ gt) (hb : BlockIs wx gt 42 (tolCells T)) (ho : Out w4 wx [gt]) : TkW w2 wx gt gs gc { s with told := T } := by
  obtain ⟨n1, n2, n3⟩ := h.ne
  exact ⟨hb, ho.block' h.bs (by simp; omega), ho.block' h.bc (by simp; omega), h.since.out' ho (fun k hk => by rw [List.mem_singleton.1 hk]; exact hg)⟩
theorem TkW.cred {w2 w4 wx : World} {gt gs gc : Nat} {s : EnS} {C : Int} (h : TkW w2 w4 gt gs gc s) (hg : w2.heap.size ≤ gc) (hb : BlockIs wx gc 88 (credCells s.W s.L C s.R)) (ho : Out w4 wx [gc]) : TkW w2 wx gt gs gc { s with C := C } := by
  obtain ⟨n1, n2, n3⟩ := h.ne
  exact ⟨ho.block' h.bt (by simp; omega), ho.block' h.bs (by simp; omega), hb, h.since.out' ho (fun k hk => by rw [List.mem_singleton.1 hk]; exact hg)⟩
theorem TkW.strm {w2 w4 wx : World} {gt gs gc : Nat} {s : EnS} {M : Plc} (h : TkW w2 w4 gt gs gc s) (hg : w2.heap.size ≤ gs) (hb : BlockIs wx gs 114 (refCells M s.t)) (ho : Out w4 wx [gs]) : TkW w2 wx gt gs gc { s with M := M } := by
  obtain ⟨n1, n2, n3⟩ := h.ne
  exact ⟨ho.block' h.bt (by simp; omega), hb, ho.block' h.bc (by simp; omega), h.since.out' ho (fun k hk => by rw [List.mem_singleton.1 hk]; exact hg)⟩
theorem TkW.as {w2 wx : World} {gt gs gc : Nat} {s s' : EnS} (h : TkW w2 wx gt gs gc s) (e1 : s'.told = s.told) (e2 : s'.M = s.M) (e3 : s'.t = s.t) (e4 : s'.W = s.W) (e5 : s'.L = s.L) (e6 : s'.C = s.C) (e7 : s'.R = s.R) : TkW w2 wx gt gs gc s' := ⟨by rw [e1]; exact h.bt, by rw [e2, e3]; exact h.bs, by rw [e4, e5, e6, e7]; exact h.bc, h.since⟩
theorem made_succ {M : List (List Pc)} {T : List Bool} {lo m : Nat} (h1 : lo ≤ m) (h2 : m < M.length) : tellPcs T (((M.take (m + 1)).drop lo).flatten) = tellPcs (tellPcs T (((M.take m).drop lo).flatten)) M[m] := by
  rw [List.take_succ_eq_append_getElem h2, List.drop_append_of_le_length (by rw [List.length_take]; omega), List.flatten_append]
  unfold tellPcs
  rw [List.foldl_append]
  simp
/-- the load of a struct of many cells, in a region that only reads ahead of its tail -/
theorem still_load_mid {P : Program} {ops : Array Oper} {w : World} {Q : Act → Prop} {rest : List Oper} {op : Oper} {a : Act} (hgd : op.guard = none) (ty : TypeId) (x : Operand) (ho : op.op = .load ty x)
    (b o : Nat) (hx : a.eval x = .pointer (some ⟨b, o, none⟩)) (cs : List Value) (d : TypeDesc) (hc : w.rangeAt b o cs)
    (hu : P.underlying ty = some d) (hd : d.isRow = true) (hi : (P.info? ty).map (·.size) = some cs.length)
    (h : wpStill P ops w Q rest (a.put op.dst (.agg cs.toArray))) : wpStill P ops w Q (op :: rest) a := by
  have hw : Region.wanted op (yielded ops a.tmps) = true := by simp [Region.wanted, hgd]
  rw [wpStill, if_pos hw]
  unfold Oper.still execOp
  simp only [ho, hx, Instr.loadAt, Instr.sureAddr, Sem.run_bind, Sem.run_pure, Result.andThen_ok, run_loadVar_mid w b o ty cs d hc hu hd hi]
  exact ⟨rfl, h⟩
/-- a list in its place that a call has made -/
theorem Own.grow' {w0 w w' : World} {S0 : List Nat} {L : List Thing} (h : Own w0 S0 w L) (i : Nat) {E size : Nat} {v v' : Value} {es es' : List (List Value)} (hi : L[i]? = some (Thing.lst E size v es)) (hb : Below w.heap.size w w') (hl : Lst w' E size v' es') (hk : ∀ k, k ∈ blocks v' → w.heap.size ≤ k) : Own w0 S0 w' (L.set i (Thing.lst E size v' es')) := by
  obtain ⟨S, ⟨h1, rfl⟩, up⟩ := h.at_ i hi
  exact up _ _ ⟨blocks v', ⟨hl, rfl⟩, Out.of_below hb _, fun k hk' => Or.inr (hk k hk')⟩
theorem blocks_zero'' {A : Option Addr} {n c k : Nat} (h : k ∈ blocks (.slice A n c)) : k ∈ blocks (.slice A 0 0) := by cases A <;> exact h
theorem cell_ex {w : World} {g : Nat} {t : TypeId} {cs : Array Value} (h : BlockIs w g t cs) {k : Nat} (hk : k < cs.size) : ∃ v, w.cell? ⟨g, k, none⟩ = some v := ⟨cs[k], by rw [h.cell k, Array.getElem?_eq_getElem hk]⟩
end Go.Proofs.YtmfbaijbigodkaaGreatDoor
