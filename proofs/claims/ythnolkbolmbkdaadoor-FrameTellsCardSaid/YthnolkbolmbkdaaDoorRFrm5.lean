/- Contract of wireref2.Read, the kinds with numbers, and whole. Condition: the string's length is an int. Printed by gen_rread.py. -/
import Derived.Test.YthnolkbolmbkdaaDoorRFrm4
import Derived.Test.YthnolkbolmbkdaaDoorRFrm1
namespace Go.Proofs.YthnolkbolmbkdaaDoor
open Go.ChangeShapes Go.WideShapes Go.ChangeAt Go.RowKit
set_option linter.unusedVariables false

theorem kN_of {l : List UInt8} (h : getOk l) : kN l = getC l := by unfold kN; rw [if_pos h]

set_option maxHeartbeats 6400000 in
set_option maxRecDepth 100000 in
theorem rfread_num (s : ByteArray) (w : World) (hz : s.size ≤ 9223372036854775707) (hb : ¬ (s.data.toList = [] ∨ bat s.data.toList 0 < 1 ∨ 8 < bat s.data.toList 0)) (h2 : bat s.data.toList 0 ≠ 2) :
    Calls Tryd.prog 44 #[.string s] w fun e w' => RfPost s.data.toList w e w' := by
  have hsz : s.data.toList.length = s.size := rfl
  have hpos : 0 < s.size := by
    rcases Nat.eq_zero_or_pos s.size with h | h
    · exact absurd (Or.inl (List.length_eq_zero_iff.1 (by omega))) hb
    · exact h
  obtain ⟨e1, e2⟩ := str_full (s := s) (by omega)
  have e0 := str_at s 0 hpos
  have GD := Lib.hid (fun k W => rgetD s k (by omega) W)
  have HPL := Lib.hid (fun L k h3 hn => rd_plain (L := L) (k := k) hb h2 h3 hn)
  have HPN := Lib.hid (fun hn => rd_num hb h2 hn)
  have HNO := Lib.hid (fun L k h3 hn hx => rd_no (L := L) (k := k) hb h3 hn hx)
  have HYES := Lib.hid (fun L k h3 hn hx => rd_yes (L := L) (k := k) hb h3 hn hx)
  have HDT : Hid (∀ p l, ((⟨((s.data.toList.drop p).take l).toArray⟩ : ByteArray) = s.extract p (p + l))) := Lib.hid (fun p l => ba_ext (by
    rw [ByteArray.data_extract, Array.toList_extract, List.extract_eq_take_drop]
    simp only
    rw [show p + l - p = l by omega]))
  have HX8 : Hid (1 ≤ bat s.data.toList 0 ∧ bat s.data.toList 0 ≤ 8) := Lib.hid ⟨by
    rcases Int.lt_or_le (bat s.data.toList 0) 1 with h | h
    · exact absurd (Or.inr (Or.inl h)) hb
    · exact h, by
    rcases Int.lt_or_le 8 (bat s.data.toList 0) with h | h
    · exact absurd (Or.inr (Or.inr h)) hb
    · exact h⟩
  obtain ⟨m, hm, hm2⟩ : ∃ m : Nat, manyK (bat s.data.toList 0) = m ∧ m ≤ 2 := by
    obtain ⟨q0, q1⟩ := manyK_two h2
    exact ⟨(manyK (bat s.data.toList 0)).toNat, by omega, by omega⟩
  have HM3 : Hid (bat s.data.toList 0 ≠ 3 → readK (bat s.data.toList 0) = m) := Lib.hid (fun h3 => by have := readK_many h2 h3; omega)
  have HM1 : Hid (bat s.data.toList 0 = 3 → m = 1 ∧ readK (bat s.data.toList 0) = 2) := Lib.hid (fun h3 => ⟨by rw [h3] at hm; have : manyK 3 = 1 := rfl; omega, by rw [h3]; rfl⟩)
  have HMK := Lib.hid hm
  have HH2 := Lib.hid h2
  obtain ⟨b, hbb⟩ : ∃ b, s.data.toList = b := ⟨_, rfl⟩
  rw [hbb] at GD HPL HPN HNO HYES HDT HX8 HM3 HM1 HMK HH2 hsz e0 ⊢
  have hbl : b.length ≤ 9223372036854775707 := by omega
  have HUP0 : Hid (numUp b 1 0 = some ([], 1)) := Lib.hid rfl
  have HUPN : Hid (∀ i, numUp b 1 (i + 1) = none → i + 1 ≤ readK (bat b 0) → readF b = none) := Lib.hid (fun i hi hj => HPN.out (numUp_none hi _ hj))
  clear hb h2 hbb hz hm
  obtain ⟨x, hx⟩ : ∃ x, bat b 0 = x := ⟨_, rfl⟩
  rw [hx] at HPL HPN HNO HYES HX8 HM3 HM1 HMK HH2 HUPN e0
  obtain ⟨x1, x8⟩ := HX8.out
  have x1' : decide (x < 1) = false := by simp; omega
  have x8' : decide (8 < x) = false := by simp; omega
  have hx2 : (x == 2) = false := by rw [beq_eq_false_iff_ne]; exact HH2.out
  have hwrap : IntKind.i64.wrap x = x := by simp [IntKind.wrap, IntKind.bits, IntKind.signed]; omega
  have HSZ := Lib.hid hsz
  have hsl : (1 : Int) ≤ (s.size : Int) := by omega
  have HST : Hid (RfSt w ((w.alloc (.cells #[.int .i64 0, .slice none 0 0, .string ⟨#[]⟩] 82)).alloc (.cells #[.int .i64 x, .slice none 0 0, .string ⟨#[]⟩] 82)) x [] 0 none 0) := Lib.hid
    ⟨BlockIs.fresh_at (by simp), (BlockIs.fresh _ _ _).alloc _, Lst.nil _ _ _, rfl, by simp [Value.ownBlock], (by refine Since.out ?_; repeat (first | with_reducible assumption | with_reducible exact Since.refl _ | with_reducible refine Since.later ?_ (by with_reducible assumption) | with_reducible refine Since.only ?_ (by with_reducible assumption) (by first | assumption | omega | (simp; done) | (simp; omega)) | with_reducible refine Since.alloc ?_ _ | with_reducible refine Since.drewN ?_ _ | with_reducible refine Since.drew ?_ | with_reducible refine Since.set ?_ (by first | assumption | omega | (simp; done) | (simp; omega)) _))⟩
  clear hx hsz
  go_enter Tryd.func44, Tryd.ntmps44
  trace "A"; go_wp2_with fail
  refine (rcounts x _).mono ?_
  rintro e w1 ⟨rfl, rfl⟩
  rw [HMK.out]
  trace "B"; go_wp2_with fail
  go_loopw [10, 12] (fun s10 s12 wr => ∃ (i k : Nat) (A' : Option Addr) (c' : Nat) (M : List Int), s10 = .int .i64 k ∧ s12 = .int .i64 i ∧ i ≤ m ∧ k ≤ b.length ∧ Hid (numUp b 1 i = some (M, k)) ∧ Hid (RfSt w wr x M i A' c')) (fun _ s12 _ => m - (intOf s12).toNat)
  case atStart => exact ⟨0, 1, none, 0, [], rfl, rfl, Nat.zero_le _, by have := HSZ.out; omega, HUP0, HST⟩
  case round =>
    obtain ⟨i, k, A', c', M, rfl, rfl, hi, hkb, HUP, HS⟩ := hrel
    have b0 : wr.cell? ⟨w.heap.size, 0, none⟩ = some (.int .i64 0) := HS.out.br.cell 0
    have b1 : wr.cell? ⟨w.heap.size, 1, none⟩ = some (.slice none 0 0) := HS.out.br.cell 1
    have b2 : wr.cell? ⟨w.heap.size, 2, none⟩ = some (.string ⟨#[]⟩) := HS.out.br.cell 2
    have lb := HS.out.br.lt
    have fb := HS.out.br.free
    have d0 : wr.cell? ⟨w.heap.size + 1, 0, none⟩ = some (.int .i64 x) := HS.out.bl.cell 0
    have d1 : wr.cell? ⟨w.heap.size + 1, 1, none⟩ = some (.slice A' i c') := HS.out.bl.cell 1
    have d2 : wr.cell? ⟨w.heap.size + 1, 2, none⟩ = some (.string ⟨#[]⟩) := HS.out.bl.cell 2
    have ld := HS.out.bl.lt
    have fd := HS.out.bl.free
    have HLEN := Lib.hid HS.out.len
    have hks : (k : Int) ≤ (s.size : Int) := by have := HSZ.out; omega
    have hkn := kN_le b hkb
    have hkk : (k : Int) + (kN (b.drop k) : Int) = ((k + kN (b.drop k) : Nat) : Int) := by omega
    have GDk := Lib.hid (GD.out k)
    obtain ⟨v0, v1⟩ := bits_getN (b.drop k)
    have HG : Hid (gok (b.drop k) = true → numUp b 1 (i + 1) = some (M ++ [getV (b.drop k)], k + kN (b.drop k))) := Lib.hid (fun h => by
      have hg := of_decide_eq_true h
      rw [numUp_yes HUP.out hg]
      obtain ⟨_, g1, g2, _⟩ := gok_yes hg
      rw [g1, kN_of hg])
    have HGN : Hid (gok (b.drop k) = false → numUp b 1 (i + 1) = none) := Lib.hid (fun h => numUp_no HUP.out (of_decide_eq_false h))
    obtain ⟨V, hV⟩ : ∃ V, getV (b.drop k) = V := ⟨_, rfl⟩
    obtain ⟨k2, hk2⟩ : ∃ k2, k + kN (b.drop k) = k2 := ⟨_, rfl⟩
    obtain ⟨kd, hkd⟩ : ∃ kd, kN (b.drop k) = kd := ⟨_, rfl⟩
    rw [hV] at GDk HG v0 v1
    rw [hk2] at hkn hkk HG
    rw [hkd] at GDk hkk
    clear hV hk2 hkd
    by_cases hlt : i < m
    case neg =>
      obtain rfl : i = m := by omega
      have hf : decide ((i : Int) < (i : Int)) = false := by simp
      by_cases h3 : x = 3
      case neg =>
        have h3' : (x == 3) = false := by simpa using h3
        have P := Lib.hid (HPL.out M k h3 (by rw [HM3.out h3]; exact HUP.out))
        clear h3
        trace "C"; go_wp2_with fail
        have HB3 := Lib.hid (st3 HS.out.br (.int .i64 x) (.slice A' i c') (.string ⟨#[]⟩))
        have HO3 := Lib.hid (out3 wr w.heap.size (.int .i64 x) (.slice A' i c') (.string ⟨#[]⟩))
        have hs3 := (HS.out.since).out' HO3.out (fun k hk => by (have : k = w.heap.size := by simpa using hk); omega)
        generalize (((wr.setCell ⟨w.heap.size, 0, none⟩ (.int .i64 x)).setCell ⟨w.heap.size, 1, none⟩ (.slice A' i c')).setCell ⟨w.heap.size, 2, none⟩ (.string ⟨#[]⟩)) = w3 at *
        have kc0 : w3.cell? ⟨w.heap.size, 0, none⟩ = some (.int .i64 x) := HB3.out.cell 0
        have kc1 : w3.cell? ⟨w.heap.size, 1, none⟩ = some (.slice A' i c') := HB3.out.cell 1
        have kc2 : w3.cell? ⟨w.heap.size, 2, none⟩ = some (.string ⟨#[]⟩) := HB3.out.cell 2
        have hE := (readF_inv P.out).1
        refine bodyPost_ret (v := .tuple #[.agg #[.int .i64 x, .slice A' i c', .string ⟨#[]⟩], .int .i64 ((k : Nat) : Int), .bool true]) (by simp [results, Tryd.results44, go_sem, kc0, kc1, kc2]) rfl ⟨⟨⟨x, M, ⟨#[]⟩⟩, A', c'⟩, k, true, ?_, hs3, frmIn_of (n := i) hE ((HS.out.ls).far HS.out.br (by decide) HO3.out) ?_, by rw [P.out]; rfl, fun h => by cases h⟩
        · unfold FrmV.agg
          simp only [HLEN.out]
        · exact (frmE_out hE).2.2.2.1
      obtain ⟨m1, m2⟩ := HM1.out h3
      have h3' : (x == 3) = true := by simpa using h3
      obtain ⟨z, hMz⟩ : ∃ z, M = [z] := by
        have := HLEN.out
        match M, this with
        | [z], _ => exact ⟨z, rfl⟩
        | [], h => exact absurd h (by simp; omega)
        | _ :: _ :: _, h => exact absurd h (by simp; omega)
      cases hg : gok (b.drop k) with
      | false =>
        have P := Lib.hid (HUPN.out i (HGN.out hg) (by omega))
        have HGG := Lib.hid hg
        clear hg h3 m1 m2 hMz
        trace "D"; go_wp2_with fail
        refine (GDk.out _).mono ?_
        rintro e w1 ⟨rfl, rfl⟩
        rw [HGG.out]
        trace "D1"; go_wp2_with fail
        have HB3 := Lib.hid (st3 HS.out.br (.int .i64 0) (.slice none 0 0) (.string ⟨#[]⟩))
        have hs3 := (HS.out.since).out' (out3 wr w.heap.size (.int .i64 0) (.slice none 0 0) (.string ⟨#[]⟩)) (fun k hk => by (have : k = w.heap.size := by simpa using hk); omega)
        generalize (((wr.setCell ⟨w.heap.size, 0, none⟩ (.int .i64 0)).setCell ⟨w.heap.size, 1, none⟩ (.slice none 0 0)).setCell ⟨w.heap.size, 2, none⟩ (.string ⟨#[]⟩)) = w3 at *
        have kc0 : w3.cell? ⟨w.heap.size, 0, none⟩ = some (.int .i64 0) := HB3.out.cell 0
        have kc1 : w3.cell? ⟨w.heap.size, 1, none⟩ = some (.slice none 0 0) := HB3.out.cell 1
        have kc2 : w3.cell? ⟨w.heap.size, 2, none⟩ = some (.string ⟨#[]⟩) := HB3.out.cell 2
        refine bodyPost_ret (v := .tuple #[.agg #[.int .i64 0, .slice none 0 0, .string ⟨#[]⟩], .int .i64 0, .bool false]) (by simp [results, Tryd.results44, go_sem, kc0, kc1, kc2]) rfl ⟨⟨frm0, none, 0⟩, 0, false, by rfl, hs3, frm0_in _, by rw [P.out]; rfl, fun _ => ⟨rfl, rfl⟩⟩
      | true =>
        have HU2 := Lib.hid (HG.out hg)
        have HGG := Lib.hid hg
        obtain ⟨l, rfl⟩ : ∃ l : Nat, V = l := ⟨V.toNat, by omega⟩
        have HNO2 := Lib.hid (fun hx => HNO.out (M ++ [(l : Int)]) k2 h3 (by have := HU2.out; rw [m1] at this; exact this) hx)
        have HYES2 := Lib.hid (fun hx => HYES.out (M ++ [(l : Int)]) k2 h3 (by have := HU2.out; rw [m1] at this; exact this) hx)
        rw [hMz] at HNO2 HYES2
        simp only [show ith ([z] ++ [(l : Int)]) 1 = (l : Int) from rfl, show ith ([z] ++ [(l : Int)]) 0 = z from rfl, Int.toNat_natCast] at HNO2 HYES2
        rw [← hMz] at HYES2
        have HX3 := Lib.hid h3
        have hkl : (k2 : Int) + (l : Int) = ((k2 + l : Nat) : Int) := by omega
        have hkn2 : (k2 : Int) ≤ (s.size : Int) := by have := HSZ.out; omega
        clear hg h3 m1 m2 hMz
        by_cases h20 : 20 < l
        · have h20' : (20 : Int) < (l : Int) := by omega
          have P := Lib.hid (HNO2.out (by omega))
          trace "E"; go_wp2_with fail
          refine (GDk.out _).mono ?_
          rintro e w1 ⟨rfl, rfl⟩
          rw [HGG.out]
          trace "E1"; go_wp2_with fail
          have HB3 := Lib.hid (st3 HS.out.br (.int .i64 0) (.slice none 0 0) (.string ⟨#[]⟩))
          have hs3 := (HS.out.since).out' (out3 wr w.heap.size (.int .i64 0) (.slice none 0 0) (.string ⟨#[]⟩)) (fun k hk => by (have : k = w.heap.size := by simpa using hk); omega)
          generalize (((wr.setCell ⟨w.heap.size, 0, none⟩ (.int .i64 0)).setCell ⟨w.heap.size, 1, none⟩ (.slice none 0 0)).setCell ⟨w.heap.size, 2, none⟩ (.string ⟨#[]⟩)) = w3 at *
          have kc0 : w3.cell? ⟨w.heap.size, 0, none⟩ = some (.int .i64 0) := HB3.out.cell 0
          have kc1 : w3.cell? ⟨w.heap.size, 1, none⟩ = some (.slice none 0 0) := HB3.out.cell 1
          have kc2 : w3.cell? ⟨w.heap.size, 2, none⟩ = some (.string ⟨#[]⟩) := HB3.out.cell 2
          refine bodyPost_ret (v := .tuple #[.agg #[.int .i64 0, .slice none 0 0, .string ⟨#[]⟩], .int .i64 0, .bool false]) (by simp [results, Tryd.results44, go_sem, kc0, kc1, kc2]) rfl ⟨⟨frm0, none, 0⟩, 0, false, by rfl, hs3, frm0_in _, by rw [P.out]; rfl, fun _ => ⟨rfl, rfl⟩⟩
        have h20' : decide ((20 : Int) < (l : Int)) = false := by simp; omega
        obtain ⟨k5, hk5⟩ : ∃ k5, k2 + l = k5 := ⟨_, rfl⟩
        have HDT2 := Lib.hid (HDT.out k2 l)
        rw [hk5] at hkl HYES2 HDT2
        have HK5 := Lib.hid hk5
        have hl20 : l ≤ 20 := by omega
        have hk6 : k2 ≤ k5 := by omega
        clear hk5 h20
        by_cases hfar : s.size < k5
        · have hfar' : (s.size : Int) < (k5 : Int) := by omega
          have P := Lib.hid (HNO2.out (fun h => by have := HSZ.out; omega))
          trace "G"; go_wp2_with fail
          refine (GDk.out _).mono ?_
          rintro e w1 ⟨rfl, rfl⟩
          rw [HGG.out]
          trace "G1"; go_wp2_with fail
          have HB3 := Lib.hid (st3 HS.out.br (.int .i64 0) (.slice none 0 0) (.string ⟨#[]⟩))
          have hs3 := (HS.out.since).out' (out3 wr w.heap.size (.int .i64 0) (.slice none 0 0) (.string ⟨#[]⟩)) (fun k hk => by (have : k = w.heap.size := by simpa using hk); omega)
          generalize (((wr.setCell ⟨w.heap.size, 0, none⟩ (.int .i64 0)).setCell ⟨w.heap.size, 1, none⟩ (.slice none 0 0)).setCell ⟨w.heap.size, 2, none⟩ (.string ⟨#[]⟩)) = w3 at *
          have kc0 : w3.cell? ⟨w.heap.size, 0, none⟩ = some (.int .i64 0) := HB3.out.cell 0
          have kc1 : w3.cell? ⟨w.heap.size, 1, none⟩ = some (.slice none 0 0) := HB3.out.cell 1
          have kc2 : w3.cell? ⟨w.heap.size, 2, none⟩ = some (.string ⟨#[]⟩) := HB3.out.cell 2
          refine bodyPost_ret (v := .tuple #[.agg #[.int .i64 0, .slice none 0 0, .string ⟨#[]⟩], .int .i64 0, .bool false]) (by simp [results, Tryd.results44, go_sem, kc0, kc1, kc2]) rfl ⟨⟨frm0, none, 0⟩, 0, false, by rfl, hs3, frm0_in _, by rw [P.out]; rfl, fun _ => ⟨rfl, rfl⟩⟩
        have hfar' : decide ((s.size : Int) < (k5 : Int)) = false := by simp; omega
        have hfr2 : (k5 : Int) ≤ (s.size : Int) := by omega
        have hk68 : (k2 : Int) ≤ (k5 : Int) := by omega
        have P0 := HYES2.out (by have := HSZ.out; omega)
        rw [HDT2.out, ← HX3.out] at P0
        have P := Lib.hid P0
        clear hfar P0
        trace "H"; go_wp2_with fail
        refine (GDk.out _).mono ?_
        rintro e w1 ⟨rfl, rfl⟩
        rw [HGG.out]
        trace "H1"; go_wp2_with fail
        have HQB := Lib.hid (HS.out.br.far (p := ⟨w.heap.size + 1, 2, none⟩) (by simp) (.string (s.extract k2 k5)))
        have HQS := Lib.hid (HS.out.since.set (p := ⟨w.heap.size + 1, 2, none⟩) (by simp) (.string (s.extract k2 k5)))
        have HQL := Lib.hid (HS.out.ls.kept ((Out.refl wr [w.heap.size + 1]).put (p := ⟨w.heap.size + 1, 2, none⟩) (Or.inl (by simp)) (.string (s.extract k2 k5))) (fun k hk hk2 => HS.out.ls.apart HS.out.bl (by decide) (by rw [List.mem_singleton.1 hk2] at hk; exact hk)))
        generalize wr.setCell ⟨w.heap.size + 1, 2, none⟩ (.string (s.extract k2 k5)) = wq at *
        have HB3 := Lib.hid (st3 HQB.out (.int .i64 x) (.slice A' i c') (.string (s.extract k2 k5)))
        have HO3 := Lib.hid (out3 wq w.heap.size (.int .i64 x) (.slice A' i c') (.string (s.extract k2 k5)))
        have hs3 := (HQS.out).out' HO3.out (fun k hk => by (have : k = w.heap.size := by simpa using hk); omega)
        generalize (((wq.setCell ⟨w.heap.size, 0, none⟩ (.int .i64 x)).setCell ⟨w.heap.size, 1, none⟩ (.slice A' i c')).setCell ⟨w.heap.size, 2, none⟩ (.string (s.extract k2 k5))) = w3 at *
        have kc0 : w3.cell? ⟨w.heap.size, 0, none⟩ = some (.int .i64 x) := HB3.out.cell 0
        have kc1 : w3.cell? ⟨w.heap.size, 1, none⟩ = some (.slice A' i c') := HB3.out.cell 1
        have kc2 : w3.cell? ⟨w.heap.size, 2, none⟩ = some (.string (s.extract k2 k5)) := HB3.out.cell 2
        have hE := (readF_inv P.out).1
        refine bodyPost_ret (v := .tuple #[.agg #[.int .i64 x, .slice A' i c', .string (s.extract k2 k5)], .int .i64 ((k5 : Nat) : Int), .bool true]) (by simp [results, Tryd.results44, go_sem, kc0, kc1, kc2]) rfl ⟨⟨⟨x, M, (s.extract k2 k5)⟩, A', c'⟩, k5, true, ?_, hs3, frmIn_of (n := i) hE ((HQL.out).far HQB.out (by decide) HO3.out) ?_, by rw [P.out]; rfl, fun h => by cases h⟩
        · unfold FrmV.agg
          simp only [HLEN.out]
        · exact (frmE_out hE).2.2.2.1
    have hlt' : (i : Int) < (m : Int) := by omega
    cases hg : gok (b.drop k) with
    | false =>
      have P := Lib.hid (HUPN.out i (HGN.out hg) (by
        by_cases h3 : x = 3
        · have := HM1.out h3; omega
        · have := HM3.out h3; omega))
      have HGG := Lib.hid hg
      clear hg
      trace "I"; go_wp2_with fail
      refine (GDk.out _).mono ?_
      rintro e w1 ⟨rfl, rfl⟩
      rw [HGG.out]
      trace "I1"; go_wp2_with fail
      have HB3 := Lib.hid (st3 HS.out.br (.int .i64 0) (.slice none 0 0) (.string ⟨#[]⟩))
      have hs3 := (HS.out.since).out' (out3 wr w.heap.size (.int .i64 0) (.slice none 0 0) (.string ⟨#[]⟩)) (fun k hk => by (have : k = w.heap.size := by simpa using hk); omega)
      generalize (((wr.setCell ⟨w.heap.size, 0, none⟩ (.int .i64 0)).setCell ⟨w.heap.size, 1, none⟩ (.slice none 0 0)).setCell ⟨w.heap.size, 2, none⟩ (.string ⟨#[]⟩)) = w3 at *
      have kc0 : w3.cell? ⟨w.heap.size, 0, none⟩ = some (.int .i64 0) := HB3.out.cell 0
      have kc1 : w3.cell? ⟨w.heap.size, 1, none⟩ = some (.slice none 0 0) := HB3.out.cell 1
      have kc2 : w3.cell? ⟨w.heap.size, 2, none⟩ = some (.string ⟨#[]⟩) := HB3.out.cell 2
      refine bodyPost_ret (v := .tuple #[.agg #[.int .i64 0, .slice none 0 0, .string ⟨#[]⟩], .int .i64 0, .bool false]) (by simp [results, Tryd.results44, go_sem, kc0, kc1, kc2]) rfl ⟨⟨frm0, none, 0⟩, 0, false, by rfl, hs3, frm0_in _, by rw [P.out]; rfl, fun _ => ⟨rfl, rfl⟩⟩
    | true =>
      have HU2 := Lib.hid (HG.out hg)
      have HGG := Lib.hid hg
      have HML : Hid ((M.map intRow).length = i) := Lib.hid (by rw [List.length_map, HLEN.out])
      have HNEW : Hid (∀ j u, (flat [intRow V])[j]? = some u → (wr.alloc (.cells #[.int .i64 V] 3)).cell? ((⟨wr.heap.size, 0, none⟩ : Addr).add j) = some u) := Lib.hid (fun j u hj => by
        rw [addr_at, (BlockIs.fresh wr 3 #[.int .i64 V]).cell]
        match j, hj with
        | 0, hj => exact hj
        | _ + 1, hj => simp [intRow] at hj)
      have HX := Lib.hid (HS.out.alloc (.cells #[.int .i64 V] 3))
      clear hg
      trace "J"; go_wp2_with fail
      refine (GDk.out _).mono ?_
      rintro e w1 ⟨rfl, rfl⟩
      rw [HGG.out]
      trace "K"; go_wp2_with (at_builtin; (refine wpList_cat rfl _ _ 50 rfl 3 1 8 Tryd.elInt (.slice A' i c') (M.map intRow) rfl (HS.out.ls.alloc _) ⟨wr.heap.size, 0, none⟩ 1 1 [intRow V] rfl rfl (by intro e he; rw [List.mem_singleton.1 he]; exact intRow_one _) HNEW.out (by rw [HML.out]; simp; omega) ?_); intro A9 c9 w9 hl9 ho9 hb9; rw [HML.out] at hl9 hb9; (try rw [HML.out]); have HN9 := Lib.hid (HX.out.step (N := [V]) (m := 1) ho9 hl9 rfl hb9); obtain ⟨hs9, hB9, hR9⟩ := HX.out.after ho9; have f9 := hB9.free; have l9 := hB9.lt; have e91 : w9.cell? ⟨w.heap.size + 1, 1, none⟩ = some (.slice A' i c') := hB9.cell 1; clear hl9 ho9 hb9 hB9 hR9)
      trace "L"; go_roundw
      case rel => exact ⟨i + 1, k2, A9, c9, M ++ [V], by first | rfl | (simp only [hkk]), by go_num, by omega, hkn, HU2, HN9⟩
      case measure => simp [intOf]; omega

set_option maxHeartbeats 3200000 in
set_option maxRecDepth 100000 in
theorem rfread (s : ByteArray) (w : World) (hz : s.size ≤ 9223372036854775707) :
    Calls Tryd.prog 44 #[.string s] w fun e w' => RfPost s.data.toList w e w' := by
  by_cases hb : s.data.toList = [] ∨ bat s.data.toList 0 < 1 ∨ 8 < bat s.data.toList 0
  case neg =>
    by_cases h2 : bat s.data.toList 0 = 2
    · exact rfread_ack s w hz hb h2
    · exact rfread_num s w hz hb h2
  have P1 := Lib.hid (readF_out hb)
  by_cases h0 : s.size = 0
  · obtain ⟨e1, e2⟩ := str_empty h0
    clear h0 hb
    go_enter Tryd.func44, Tryd.ntmps44
    trace "A"; go_wp2_with fail
    refine bodyPost_ret (v := .tuple #[.agg #[.int .i64 0, .slice none 0 0, .string ⟨#[]⟩], .int .i64 0, .bool false]) (by simp [results, Tryd.results44, go_sem]) rfl ⟨⟨frm0, none, 0⟩, 0, false, by rfl, (by refine Since.out ?_; repeat (first | with_reducible assumption | with_reducible exact Since.refl _ | with_reducible refine Since.later ?_ (by with_reducible assumption) | with_reducible refine Since.only ?_ (by with_reducible assumption) (by first | assumption | omega | (simp; done) | (simp; omega)) | with_reducible refine Since.alloc ?_ _ | with_reducible refine Since.drewN ?_ _ | with_reducible refine Since.drew ?_ | with_reducible refine Since.set ?_ (by first | assumption | omega | (simp; done) | (simp; omega)) _)), frm0_in _, by rw [P1.out]; rfl, fun _ => ⟨rfl, rfl⟩⟩
  have hpos : 0 < s.size := by omega
  obtain ⟨e1, e2⟩ := str_full h0
  have e0 := str_at s 0 hpos
  have hb' : bat s.data.toList 0 < 1 ∨ 8 < bat s.data.toList 0 := by
    rcases hb with h | h
    · exact absurd (show s.data.toList.length = 0 by rw [h]; rfl) (by show ¬ s.data.toList.length = 0; exact h0)
    · exact h
  obtain ⟨x, hx⟩ : ∃ x, bat s.data.toList 0 = x := ⟨_, rfl⟩
  rw [hx] at hb' e0
  clear hb hx
  by_cases hx1 : x < 1
  · clear hb'
    go_enter Tryd.func44, Tryd.ntmps44
    trace "B"; go_wp2_with fail
    refine bodyPost_ret (v := .tuple #[.agg #[.int .i64 0, .slice none 0 0, .string ⟨#[]⟩], .int .i64 0, .bool false]) (by simp [results, Tryd.results44, go_sem]) rfl ⟨⟨frm0, none, 0⟩, 0, false, by rfl, (by refine Since.out ?_; repeat (first | with_reducible assumption | with_reducible exact Since.refl _ | with_reducible refine Since.later ?_ (by with_reducible assumption) | with_reducible refine Since.only ?_ (by with_reducible assumption) (by first | assumption | omega | (simp; done) | (simp; omega)) | with_reducible refine Since.alloc ?_ _ | with_reducible refine Since.drewN ?_ _ | with_reducible refine Since.drew ?_ | with_reducible refine Since.set ?_ (by first | assumption | omega | (simp; done) | (simp; omega)) _)), frm0_in _, by rw [P1.out]; rfl, fun _ => ⟨rfl, rfl⟩⟩
  have hx1' : decide (x < 1) = false := by simpa using hx1
  have hx8 : 8 < x := by omega
  clear hb' hx1
  go_enter Tryd.func44, Tryd.ntmps44
  trace "C"; go_wp2_with fail
  refine bodyPost_ret (v := .tuple #[.agg #[.int .i64 0, .slice none 0 0, .string ⟨#[]⟩], .int .i64 0, .bool false]) (by simp [results, Tryd.results44, go_sem]) rfl ⟨⟨frm0, none, 0⟩, 0, false, by rfl, (by refine Since.out ?_; repeat (first | with_reducible assumption | with_reducible exact Since.refl _ | with_reducible refine Since.later ?_ (by with_reducible assumption) | with_reducible refine Since.only ?_ (by with_reducible assumption) (by first | assumption | omega | (simp; done) | (simp; omega)) | with_reducible refine Since.alloc ?_ _ | with_reducible refine Since.drewN ?_ _ | with_reducible refine Since.drew ?_ | with_reducible refine Since.set ?_ (by first | assumption | omega | (simp; done) | (simp; omega)) _)), frm0_in _, by rw [P1.out]; rfl, fun _ => ⟨rfl, rfl⟩⟩
end Go.Proofs.YthnolkbolmbkdaaDoor
