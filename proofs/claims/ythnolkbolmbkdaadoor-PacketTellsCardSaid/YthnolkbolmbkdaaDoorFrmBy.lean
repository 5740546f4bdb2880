/- Contracts of frame.Bytes and frame.Print. Condition: the frame's parts are right; the tables hold what the program's text lays. -/
import Derived.Test.YthnolkbolmbkdaaDoorFrmCk
import Derived.Test.YthnolkbolmbkdaaDoorAckB
import Derived.Deep.RegionLaw
namespace Go.Proofs.YthnolkbolmbkdaaDoor
open Go.ChangeShapes Go.WideShapes Go.ChangeAt Go.RowKit
set_option linter.unusedVariables false

theorem byte_cell {k : Int} (h1 : 0 ≤ k) (h2 : k < 256) : ([.int .u8 k] : List Value) = Lib.byteCells [byteOf k] := by
  have := byteOf_toNat h1 h2
  show _ = [Value.int .u8 ((byteOf k).toNat : Int)]
  rw [this]
theorem frmB_two {f : Frm} (h : f.kind = 2) : frmB f = byteOf f.kind :: ackB (pairs f.nums) := by unfold frmB; rw [if_pos h]
theorem frmB_three {f : Frm} (h : f.kind = 3) : frmB f = byteOf f.kind :: (allL f.nums ++ (vbytes f.data.size ++ f.data.data.toList)) := by unfold frmB; rw [if_neg (by omega), if_pos h]
theorem frmB_other {f : Frm} (h : f.kind ≠ 2) (h3 : f.kind ≠ 3) : frmB f = byteOf f.kind :: allL f.nums := by unfold frmB; rw [if_neg h, if_neg h3, List.append_nil]
theorem shapeB_len {f : Frm} (h : shapeB f = true) (hk : f.kind ≠ 2) : f.nums.length ≤ 2 := by
  unfold shapeB at h
  rw [if_neg hk] at h
  simp only [Bool.and_eq_true, decide_eq_true_eq] at h
  have h2 := h.2
  unfold manyK at h2
  first | omega | (split at h2 <;> (first | omega | (split at h2 <;> (first | omega | (split at h2 <;> omega)))))
theorem frmB_len (f : Frm) (h : frmE f = 0) : (frmB f).length ≤ 120 := by
  obtain ⟨⟨k1, k8⟩, hs, hm, hd, ha⟩ := frmE_out h
  by_cases h2 : f.kind = 2
  · have hl := ackUp_len (pairs f.nums) (rngE_len (ha h2)) (pairs f.nums).length
    have := rngE_len (ha h2)
    rw [frmB_two h2, List.length_cons]
    unfold ackB
    omega
  · have hn := shapeB_len hs h2
    have h4 := allL_short f.nums
    by_cases h3 : f.kind = 3
    · have h5 := vbytes_len4 (f.data.size : Int)
      have h6 : f.data.data.toList.length = f.data.size := rfl
      rw [frmB_three h3, List.length_cons, List.length_append, List.length_append, h6]
      omega
    · rw [frmB_other h2 h3, List.length_cons]
      omega

set_option maxHeartbeats 3200000 in
set_option maxRecDepth 100000 in
theorem fbytes (p : FrmV) (w : World) (hp : FrmIn w p) (hE : frmE p.f = 0) (hk : KTab w) :
    Calls Tryd.prog 76 #[p.agg] w fun e w' => e = .returned (.string ⟨(frmB p.f).toArray⟩) ∧ Below w.heap.size w w' := by
  obtain ⟨⟨k1, k8⟩, hs, hm, hd, ha⟩ := frmE_out hE
  have HK := Lib.hid hk
  have HP := Lib.hid hp
  have HS := Lib.hid hs
  have HM := Lib.hid hm
  have HA := Lib.hid ha
  have HQ : Hid (BlockIs ((w.alloc (.cells #[.int .i64 p.f.kind, .slice p.A p.f.nums.length p.cap, .string p.f.data] 82)).alloc (.cells #[.pointer none, .slice none 0 0] 157)) w.heap.size 82 #[.int .i64 p.f.kind, .slice p.A p.f.nums.length p.cap, .string p.f.data]) := Lib.hid ((BlockIs.fresh _ _ _).alloc _)
  have hb0 := bfresh (w.alloc (.cells #[.int .i64 p.f.kind, .slice p.A p.f.nums.length p.cap, .string p.f.data] 82))
  rw [World.size_alloc] at hb0
  have HB0 := Lib.hid hb0
  have hbc := byte_cell (k := p.f.kind) (by omega) (by omega)
  have HBC := Lib.hid hbc
  have hs1 : Since w ((w.alloc (.cells #[.int .i64 p.f.kind, .slice p.A p.f.nums.length p.cap, .string p.f.data] 82)).alloc (.cells #[.pointer none, .slice none 0 0] 157)) := ((Since.refl w).alloc _).alloc _
  have hwrap : IntKind.u8.wrap p.f.kind = p.f.kind := by simp [IntKind.wrap, IntKind.bits, IntKind.signed]; omega
  clear hk hp hs hm ha hbc hb0
  unfold FrmV.agg
  go_enter Tryd.func76, Tryd.ntmps76
  trace "A"; go_wp2_with fail
  refine (bbyteK (w.heap.size + 1) (w.heap.size + 1) _ p.f.kind _ HB0.out (by simp [Lib.byteCells]) (by simp)).mono ?_
  rintro e w1 ⟨rfl, hB1, hb1, ho1⟩
  rw [HBC.out, ← Lib.byteCells_append, List.nil_append] at hB1
  have HQ1 := Lib.hid (HQ.out.others ho1 (by omega) (by decide))
  have hs2 : Since w w1 := Below.trans hs1 (hb1.mono (by omega))
  have f0 : w1.cell? ⟨w.heap.size, 0, none⟩ = some (.int .i64 p.f.kind) := HQ1.out.cell 0
  have f1 : w1.cell? ⟨w.heap.size, 1, none⟩ = some (.slice p.A p.f.nums.length p.cap) := HQ1.out.cell 1
  have l1 := HQ1.out.lt
  have HB1 := Lib.hid hB1
  have hle1 : (w.heap.size + 1) ≤ w1.heap.size := by have := hB1.lt; omega
  clear hB1 hb1 ho1 hs1
  by_cases h2 : p.f.kind = 2
  · obtain ⟨_, n1, n2, n3⟩ := shapeB_two HS.out h2
    have hl2 := pairs_len p.f.nums n2
    have HE := Lib.hid (HA.out h2)
    have HFB := Lib.hid (frmB_two h2)
    have h12 := rngE_len (HA.out h2)
    have hal := ackUp_len (pairs p.f.nums) h12 (pairs p.f.nums).length
    have HAL : Hid ((ackB (pairs p.f.nums)).length ≤ 97) := Lib.hid (by unfold ackB; omega)
    obtain ⟨K, hK⟩ : ∃ K, (pairs p.f.nums).length = K := ⟨_, rfl⟩
    have h2' : (p.f.kind == 2) = true := by simpa using h2
    have HKK := Lib.hid hK
    have FR := Lib.hid (fun W hW => franges p.A p.cap p.f.nums K W hW (by omega) (by omega) (by omega))
    clear hK h2 n1 n2 n3 hl2 h12 hal hwrap
    trace "B"; go_wp2_with fail
    refine (FR.out _ (HP.out.nums.keep hs2)).mono ?_
    rintro e w3 ⟨A3, c3, rfl, hl3, hb3, _⟩
    have HL3 := Lib.hid hl3
    have hs3 := hs2.later hb3
    have HB3 := Lib.hid (builderAtF_later HB1.out hb3)
    have hle3 : (w.heap.size + 1) ≤ w3.heap.size := Nat.le_trans hle1 hb3.size
    clear hl3 hb3
    go_wp2_with fail
    refine (ackbytes A3 K c3 (pairs p.f.nums) _ HKK.out (Rd.of_lst HL3.out) HE.out (HK.out.later hs3)).mono ?_
    rintro e w4 ⟨rfl, hb4⟩
    have hs4 := hs3.later hb4
    have HB4 := Lib.hid (builderAtF_later HB3.out hb4)
    have hle4 : (w.heap.size + 1) ≤ w4.heap.size := Nat.le_trans hle3 hb4.size
    clear hb4
    trace "C"; go_wp2_with fail
    refine (bwriteK (w.heap.size + 1) (w.heap.size + 1) _ _ _ (Or.inr HB4.out) (by rw [Lib.byteCells_length, bsize]; have := HAL.out; simp; omega) hle4).mono ?_
    rintro e w5 ⟨rfl, hB5, hb5, ho5⟩
    rw [strCells_bytes, ← Lib.byteCells_append] at hB5
    have HB5 := Lib.hid hB5
    have hs5 : Since w w5 := Below.trans hs4 (hb5.mono (by omega))
    have hle5 : (w.heap.size + 1) ≤ w5.heap.size := by have := hB5.lt; omega
    clear hB5 hb5 ho5
    trace "D"; go_wp2_with fail
    refine (bstringK (w.heap.size + 1) (w.heap.size + 1) _ _ (Or.inr HB5.out) hle5).mono ?_
    rintro e w6 ⟨rfl, _, hb6, _⟩
    have hs6 : Since w w6 := Below.trans hs5 (hb6.mono (by omega))
    go_wp2_with fail
    go_ret
    exact ⟨by rw [HFB.out]; rfl, hs6⟩
  have h2' : (p.f.kind == 2) = false := by simpa using h2
  have hn2 := shapeB_len HS.out h2
  have HK2 := Lib.hid h2
  obtain ⟨n, hn⟩ : ∃ n, p.f.nums.length = n := ⟨_, rfl⟩
  have HN := Lib.hid hn
  obtain ⟨_, A2, cap2, hv, _, _, hA⟩ := HP.out.nums
  simp only [FrmV.v, Value.slice.injEq, true_and] at hv
  obtain ⟨hvA, hvc⟩ := hv
  rw [← hvA] at hA
  have HA2 := Lib.hid hA
  rw [hn] at f1 hn2 ⊢
  have HQ1n : Hid (BlockIs w1 w.heap.size 82 #[.int .i64 p.f.kind, .slice p.A n p.cap, .string p.f.data]) := Lib.hid (by rw [← hn]; exact HQ1.out)
  clear hn h2 hvA hvc hA hwrap HQ1 HQ HB0
  trace "E"; go_wp2_with fail
  go_loopw [22] (fun s22 wr => ∃ i : Nat, s22 = .int .i64 i ∧ i ≤ n ∧ Hid (Lib.BuilderAtF 157 5 (w.heap.size + 1) (w.heap.size + 1) (.pointer (some ⟨(w.heap.size + 1), 0, none⟩)) (Lib.byteCells (byteOf p.f.kind :: allL (p.f.nums.take i))) wr) ∧ Since w wr ∧ Hid (BlockIs wr w.heap.size 82 #[.int .i64 p.f.kind, .slice p.A n p.cap, .string p.f.data])) (fun s22 _ => n - (intOf s22).toNat)
  case atStart => exact ⟨0, rfl, Nat.zero_le _, Lib.hid HB1.out, hs2, HQ1n⟩
  case round =>
    obtain ⟨i, rfl, hi, HB, hs, HQ⟩ := hrel
    clear f0 f1 l1 hs2 HB1 hle1
    have hle : (w.heap.size + 1) ≤ wr.heap.size := by have := HB.out.lt; omega
    have HUL : Hid ((allL (p.f.nums.take i)).length ≤ 8) := Lib.hid (by
      have := allL_short (p.f.nums.take i)
      have h3 : (p.f.nums.take i).length ≤ i := List.length_take_le _ _
      omega)
    by_cases hlt : i < n
    case neg =>
      obtain rfl : i = n := by omega
      have hf : decide ((i : Int) < (i : Int)) = false := by simp
      have hz : Hid (allL (p.f.nums.take i) = allL p.f.nums) := Lib.hid (by rw [List.take_of_length_le (by rw [HN.out]; exact Nat.le_refl _)])
      rw [hz.out] at HB HUL
      have f0 : wr.cell? ⟨w.heap.size, 0, none⟩ = some (.int .i64 p.f.kind) := HQ.out.cell 0
      have f2 : wr.cell? ⟨w.heap.size, 2, none⟩ = some (.string p.f.data) := HQ.out.cell 2
      have l1 := HQ.out.lt
      by_cases h3 : p.f.kind = 3
      · have h3' : (p.f.kind == 3) = true := by simpa using h3
        have HFB := Lib.hid (frmB_three h3)
        have h5 := vbytes_len4 (p.f.data.size : Int)
        have hov : (vbytes (p.f.data.size : Int)).length + p.f.data.size ≤ 9223372036854775807 := by omega
        have hdz : p.f.data.size ≤ 9223372036854775807 := by omega
        have hov3 : (9223372036854775807 < (vbytes (p.f.data.size : Int)).length + p.f.data.size) = False := eq_false (by omega)
        have hg0 : (0 : Int) ≤ (p.f.data.size : Int) := by omega
        have hg1 : (p.f.data.size : Int) ≤ 1073741823 := by omega
        have hcat : Hid ((⟨(vbytes (p.f.data.size : Int)).toArray⟩ : ByteArray) ++ p.f.data = ⟨(vbytes (p.f.data.size : Int) ++ p.f.data.data.toList).toArray⟩) := Lib.hid (by apply ByteArray.ext; simp)
        have hdl : p.f.data.data.toList.length = p.f.data.size := rfl
        have HDL := Lib.hid hdl
        clear h3 hdl
        trace "F"; go_wp2_with fail
        go_region_law (first | (go_simp; go_at_call 73; refine (bytes_any (p.f.data.size : Int) hg0 hg1 _ (HK.out.later (by first | exact hs | exact hs.drew))).mono ?_; rintro e w4 ⟨rfl, hb4⟩; have HS4 := Lib.hid (show Since wr w4 from (by refine Since.out ?_; repeat (first | with_reducible assumption | with_reducible exact Since.refl _ | with_reducible refine Since.later ?_ (by with_reducible assumption) | with_reducible refine Since.only ?_ (by with_reducible assumption) (by first | assumption | omega | (simp; done) | (simp; omega)) | with_reducible refine Since.alloc ?_ _ | with_reducible refine Since.drewN ?_ _ | with_reducible refine Since.drew ?_ | with_reducible refine Since.set ?_ (by first | assumption | omega | (simp; done) | (simp; omega)) _))); have g2 : w4.cell? ⟨w.heap.size, 2, none⟩ = some (.string p.f.data) := (HQ.out.later HS4.out).cell 2; have m4 := (HQ.out.later HS4.out).lt; clear hb4) | (go_simp; go_at_call 98; rw [hcat.out]; refine (bwriteK (w.heap.size + 1) (w.heap.size + 1) _ _ _ (Or.inr (builderAtF_later HB.out HS4.out)) (by rw [Lib.byteCells_length, bsize]; have := HUL.out; have := HDL.out; simp; omega) (Nat.le_trans hle HS4.out.le)).mono ?_; rintro e w5 ⟨rfl, hB5, hb5, ho5⟩; rw [strCells_bytes, ← Lib.byteCells_append] at hB5; have HB5 := Lib.hid hB5; have HS5 := Lib.hid (show Since w w5 from Below.trans (hs.later HS4.out) (hb5.mono (by omega))); clear hB5 hb5 ho5))
        all_goals
          have hle5 : (w.heap.size + 1) ≤ w5.heap.size := by have := HB5.out.lt; omega
          have hs5 := HS5.out
          trace "G"; go_wp2_with fail
          refine (bstringK (w.heap.size + 1) (w.heap.size + 1) _ _ (Or.inr HB5.out) hle5).mono ?_
          rintro e w6 ⟨rfl, _, hb6, _⟩
          have hs6 : Since w w6 := Below.trans hs5 (hb6.mono (by omega))
          go_wp2_with fail
          go_ret
          exact ⟨by rw [HFB.out]; simp, hs6⟩
      · have h3' : (p.f.kind == 3) = false := by simpa using h3
        have HFB := Lib.hid (frmB_other HK2.out h3)
        clear h3
        trace "H"; go_wp2_with fail
        refine (bstringK (w.heap.size + 1) (w.heap.size + 1) _ _ (Or.inr HB.out) hle).mono ?_
        rintro e w6 ⟨rfl, _, hb6, _⟩
        have hs6 : Since w w6 := Below.trans hs (hb6.mono (by omega))
        go_wp2_with fail
        go_ret
        exact ⟨by rw [HFB.out]; rfl, hs6⟩
    have hlt' : (i : Int) < (n : Int) := by omega
    have hil : i < p.f.nums.length := by rw [HN.out]; exact hlt
    obtain ⟨b, off, hbA, hbl, hcc⟩ := HA2.out (by intro h0; rw [h0] at hil; simp at hil)
    have c0 := hs.cell hbl (hcc i hil)
    have lb : b < wr.heap.size := Nat.lt_of_lt_of_le hbl hs.le
    obtain ⟨z0, z1⟩ := HM.out _ (ith_mem hil)
    have HT := Lib.hid (take_ith hil)
    rw [hbA]
    have HBA := Lib.hid hbA
    clear hcc hil hbA
    generalize ith p.f.nums i = z at *
    have hv4 := vbytes_len4 z
    trace "I"; go_wp2_with fail
    refine (bytes_any z z0 z1 _ (HK.out.later hs)).mono ?_
    rintro e w3 ⟨rfl, hb3⟩
    have hs3 := hs.later hb3
    have HB3 := Lib.hid (builderAtF_later HB.out hb3)
    have HQ3 := Lib.hid (HQ.out.later hb3)
    have hle3 := Nat.le_trans hle hb3.size
    clear hb3
    go_wp2_with fail
    refine (bwriteK (w.heap.size + 1) (w.heap.size + 1) _ _ _ (Or.inr HB3.out) (by rw [Lib.byteCells_length, bsize]; have := HUL.out; simp; omega) hle3).mono ?_
    rintro e w5 ⟨rfl, hB5, hb5, ho5⟩
    rw [strCells_bytes, ← Lib.byteCells_append, List.cons_append, ← allL_snoc, ← HT.out] at hB5
    have HB5 := Lib.hid hB5
    have hs5 : Since w w5 := Below.trans hs3 (hb5.mono (by omega))
    have HQ5 := Lib.hid (HQ3.out.others ho5 (by omega) (by decide))
    clear hB5 hb5 ho5
    trace "J"; go_wp2_with fail
    go_roundw
    case rel => exact ⟨i + 1, by go_num, by omega, HB5, hs5, by rw [← HBA.out]; exact HQ5⟩
    case measure => simp [intOf]; omega

def frmV (f : Frm) : List UInt8 := if frmE f = 0 then frmB f else []
set_option maxHeartbeats 1600000 in
theorem fprint (p : FrmV) (w : World) (hp : FrmIn w p) (hk : KTab w) (hC : CTab w) :
    Calls Tryd.prog 38 #[p.agg] w fun e w' => e = .returned (.tuple #[.string ⟨(frmV p.f).toArray⟩, errV (frmE p.f)]) ∧ Below w.heap.size w w' := by
  have HK := Lib.hid hk
  have HC := Lib.hid hC
  have HP := Lib.hid hp
  have hW : Since w (w.alloc (.cells #[.int .i64 p.f.kind, .slice p.A p.f.nums.length p.cap, .string p.f.data] 82)) := (Since.refl w).alloc _
  have HQ : Hid (BlockIs (w.alloc (.cells #[.int .i64 p.f.kind, .slice p.A p.f.nums.length p.cap, .string p.f.data] 82)) w.heap.size 82 #[.int .i64 p.f.kind, .slice p.A p.f.nums.length p.cap, .string p.f.data]) := Lib.hid (BlockIs.fresh _ _ _)
  have FC := Lib.hid (fun W h1 h2 => fcheck p W h1 h2)
  have FB := Lib.hid (fun W h1 h2 h3 => fbytes p W h1 h2 h3)
  unfold FrmV.agg at FC FB ⊢
  clear hk hC hp
  by_cases hE : frmE p.f = 0
  · have HV : Hid (frmV p.f = frmB p.f) := Lib.hid (by unfold frmV; rw [if_pos hE])
    have HE := Lib.hid hE
    clear hE
    go_enter Tryd.func38, Tryd.ntmps38
    go_wp2_with fail
    refine (FC.out _ (HP.out.later hW) (HC.out.later hW)).mono ?_
    rintro e w1 ⟨rfl, hb1⟩
    rw [HE.out, errV_zero]
    have hs1 := hW.later hb1
    have HQ1 := Lib.hid (HQ.out.later hb1)
    have f0 : w1.cell? ⟨w.heap.size, 0, none⟩ = some (.int .i64 p.f.kind) := HQ1.out.cell 0
    have f1 : w1.cell? ⟨w.heap.size, 1, none⟩ = some (.slice p.A p.f.nums.length p.cap) := HQ1.out.cell 1
    have f2 : w1.cell? ⟨w.heap.size, 2, none⟩ = some (.string p.f.data) := HQ1.out.cell 2
    have l1 := HQ1.out.lt
    clear hb1
    go_wp2_with fail
    refine (FB.out _ (HP.out.later hs1) HE.out (HK.out.later hs1)).mono ?_
    rintro e w2 ⟨rfl, hb2⟩
    go_wp2_with fail
    go_ret2
    exact ⟨by rw [HV.out, HE.out]; rfl, hs1.later hb2⟩
  · have HV : Hid (frmV p.f = []) := Lib.hid (by unfold frmV; rw [if_neg hE])
    have HE := Lib.hid hE
    clear hE
    go_enter Tryd.func38, Tryd.ntmps38
    go_wp2_with fail
    refine (FC.out _ (HP.out.later hW) (HC.out.later hW)).mono ?_
    rintro e w1 ⟨rfl, hb1⟩
    rw [errV_pos HE.out]
    go_wp2_with fail
    go_ret2
    exact ⟨by rw [HV.out, errV_pos HE.out]; rfl, hW.later hb1⟩
end Go.Proofs.YthnolkbolmbkdaaDoor
