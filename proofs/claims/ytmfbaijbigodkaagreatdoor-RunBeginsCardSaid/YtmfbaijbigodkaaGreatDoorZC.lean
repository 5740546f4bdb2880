/- Contracts and plain laws that the claim leans on, part 3 of 8: each part has its own word. No condition beside theirs. -/
import Derived.Test.YtmfbaijbigodkaaGreatDoorBase
import Derived.Test.YtmfbaijbigodkaaGreatDoorOnly
import Derived.Test.YtmfbaijbigodkaaGreatDoorMay
import Derived.Test.YtmfbaijbigodkaaGreatDoorCredit
import Derived.Test.YtmfbaijbigodkaaGreatDoorZB
import Derived.Deep.RegionLaw
import Derived.Lib.ConvBytes
/-! Contracts of frame.Bytes and frame.Print. Condition: the frame's parts are right; the tables hold what the program's text lays. -/
namespace Go.Proofs.YtmfbaijbigodkaaGreatDoor
open Go.ChangeShapes Go.WideShapes Go.ChangeAt Go.RowKit
set_option linter.unusedVariables false

theorem byte_cell {k : Int} (h1 : 0 ≤ k) (h2 : k < 256) : ([.int .u8 k] : List Value) = Lib.byteCells [byteOf k] := by
  have := byteOf_toNat h1 h2
  show _ = [Value.int .u8 ((byteOf k).toNat : Int)]
  rw [this]
theorem frmB_two {f : Frm} (h : f.kind = 2) : frmB f = byteOf f.kind :: ackB (pairs f.nums) := by unfold frmB; rw [if_pos h]
theorem frmB_three {f : Frm} (h : f.kind = 3) : frmB f = byteOf f.kind :: (allL f.nums ++ (vbytes f.data.size ++ f.data.data.toList)) := by unfold frmB; rw [if_neg (by omega), if_pos h]
theorem frmB_other {f : Frm} (h : f.kind ≠ 2) (h3 : f.kind ≠ 3) : frmB f = byteOf f.kind :: allL f.nums := by unfold frmB; rw [if_neg h, if_neg h3, List.append_nil]
theorem shapeB_len {f : Frm} (h : shapeB f = true) (hk : f.kind ≠ 2) : f.nums.length ≤ 2 := by
  unfold shapeB at h
  rw [if_neg hk] at h
  simp only [Bool.and_eq_true, decide_eq_true_eq] at h
  have h2 := h.2
  unfold manyK at h2
  first | omega | (split at h2 <;> (first | omega | (split at h2 <;> (first | omega | (split at h2 <;> omega)))))
theorem frmB_len (f : Frm) (h : frmE f = 0) : (frmB f).length ≤ 120 := by
  obtain ⟨⟨k1, k8⟩, hs, hm, hd, ha⟩ := frmE_out h
  by_cases h2 : f.kind = 2
  · have hl := ackUp_len (pairs f.nums) (rngE_len (ha h2)) (pairs f.nums).length
    have := rngE_len (ha h2)
    rw [frmB_two h2, List.length_cons]
    unfold ackB
    omega
  · have hn := shapeB_len hs h2
    have h4 := allL_short f.nums
    by_cases h3 : f.kind = 3
    · have h5 := vbytes_len4 (f.data.size : Int)
      have h6 : f.data.data.toList.length = f.data.size := rfl
      rw [frmB_three h3, List.length_cons, List.length_append, List.length_append, h6]
      omega
    · rw [frmB_other h2 h3, List.length_cons]
      omega

set_option maxHeartbeats 3200000 in
set_option maxRecDepth 100000 in
theorem fbytes (p : FrmV) (w : World) (hp : FrmIn w p) (hE : frmE p.f = 0) (hk : KTab w) :
    Calls Tryz.prog 89 #[p.agg] w fun e w' => e = .returned (.string ⟨(frmB p.f).toArray⟩) ∧ Below w.heap.size w w' := by
  obtain ⟨⟨k1, k8⟩, hs, hm, hd, ha⟩ := frmE_out hE
  have HK := Lib.hid hk
  have HP := Lib.hid hp
  have HS := Lib.hid hs
  have HM := Lib.hid hm
  have HA := Lib.hid ha
  have HQ : Hid (BlockIs ((w.alloc (.cells #[.int .i64 p.f.kind, .slice p.A p.f.nums.length p.cap, .string p.f.data] 93)).alloc (.cells #[.pointer none, .slice none 0 0] 133)) w.heap.size 93 #[.int .i64 p.f.kind, .slice p.A p.f.nums.length p.cap, .string p.f.data]) := Lib.hid ((BlockIs.fresh _ _ _).alloc _)
  have hb0 := bfresh (w.alloc (.cells #[.int .i64 p.f.kind, .slice p.A p.f.nums.length p.cap, .string p.f.data] 93))
  rw [World.size_alloc] at hb0
  have HB0 := Lib.hid hb0
  have hbc := byte_cell (k := p.f.kind) (by omega) (by omega)
  have HBC := Lib.hid hbc
  have hs1 : Since w ((w.alloc (.cells #[.int .i64 p.f.kind, .slice p.A p.f.nums.length p.cap, .string p.f.data] 93)).alloc (.cells #[.pointer none, .slice none 0 0] 133)) := ((Since.refl w).alloc _).alloc _
  have hwrap : IntKind.u8.wrap p.f.kind = p.f.kind := by simp [IntKind.wrap, IntKind.bits, IntKind.signed]; omega
  clear hk hp hs hm ha hbc hb0
  unfold FrmV.agg
  go_enter Tryz.func89, Tryz.ntmps89
  trace "A"; go_wp2_with fail
  refine (bbyteK (w.heap.size + 1) (w.heap.size + 1) _ p.f.kind _ HB0.out (by simp [Lib.byteCells]) (by simp)).mono ?_
  rintro e w1 ⟨rfl, hB1, hb1, ho1⟩
  rw [HBC.out, ← Lib.byteCells_append, List.nil_append] at hB1
  have HQ1 := Lib.hid (HQ.out.others ho1 (by omega) (by decide))
  have hs2 : Since w w1 := Below.trans hs1 (hb1.mono (by omega))
  have f0 : w1.cell? ⟨w.heap.size, 0, none⟩ = some (.int .i64 p.f.kind) := HQ1.out.cell 0
  have f1 : w1.cell? ⟨w.heap.size, 1, none⟩ = some (.slice p.A p.f.nums.length p.cap) := HQ1.out.cell 1
  have l1 := HQ1.out.lt
  have HB1 := Lib.hid hB1
  have hle1 : (w.heap.size + 1) ≤ w1.heap.size := by have := hB1.lt; omega
  clear hB1 hb1 ho1 hs1
  by_cases h2 : p.f.kind = 2
  · obtain ⟨_, n1, n2, n3⟩ := shapeB_two HS.out h2
    have hl2 := pairs_len p.f.nums n2
    have HE := Lib.hid (HA.out h2)
    have HFB := Lib.hid (frmB_two h2)
    have h12 := rngE_len (HA.out h2)
    have hal := ackUp_len (pairs p.f.nums) h12 (pairs p.f.nums).length
    have HAL : Hid ((ackB (pairs p.f.nums)).length ≤ 97) := Lib.hid (by unfold ackB; omega)
    obtain ⟨K, hK⟩ : ∃ K, (pairs p.f.nums).length = K := ⟨_, rfl⟩
    have h2' : (p.f.kind == 2) = true := by simpa using h2
    have HKK := Lib.hid hK
    have FR := Lib.hid (fun W hW => franges p.A p.cap p.f.nums K W hW (by omega) (by omega) (by omega))
    clear hK h2 n1 n2 n3 hl2 h12 hal hwrap
    trace "B"; go_wp2_with fail
    refine (FR.out _ (HP.out.nums.keep hs2)).mono ?_
    rintro e w3 ⟨A3, c3, rfl, hl3, hb3, _⟩
    have HL3 := Lib.hid hl3
    have hs3 := hs2.later hb3
    have HB3 := Lib.hid (builderAtF_later HB1.out hb3)
    have hle3 : (w.heap.size + 1) ≤ w3.heap.size := Nat.le_trans hle1 hb3.size
    clear hl3 hb3
    go_wp2_with fail
    refine (ackbytes A3 K c3 (pairs p.f.nums) _ HKK.out (Rd.of_lst HL3.out) HE.out (HK.out.later hs3)).mono ?_
    rintro e w4 ⟨rfl, hb4⟩
    have hs4 := hs3.later hb4
    have HB4 := Lib.hid (builderAtF_later HB3.out hb4)
    have hle4 : (w.heap.size + 1) ≤ w4.heap.size := Nat.le_trans hle3 hb4.size
    clear hb4
    trace "C"; go_wp2_with fail
    refine (bwriteK (w.heap.size + 1) (w.heap.size + 1) _ _ _ (Or.inr HB4.out) (by rw [Lib.byteCells_length, bsize]; have := HAL.out; simp; omega) hle4).mono ?_
    rintro e w5 ⟨rfl, hB5, hb5, ho5⟩
    rw [strCells_bytes, ← Lib.byteCells_append] at hB5
    have HB5 := Lib.hid hB5
    have hs5 : Since w w5 := Below.trans hs4 (hb5.mono (by omega))
    have hle5 : (w.heap.size + 1) ≤ w5.heap.size := by have := hB5.lt; omega
    clear hB5 hb5 ho5
    trace "D"; go_wp2_with fail
    refine (bstringK (w.heap.size + 1) (w.heap.size + 1) _ _ (Or.inr HB5.out) hle5).mono ?_
    rintro e w6 ⟨rfl, _, hb6, _⟩
    have hs6 : Since w w6 := Below.trans hs5 (hb6.mono (by omega))
    go_wp2_with fail
    go_ret
    exact ⟨by rw [HFB.out]; rfl, hs6⟩
  have h2' : (p.f.kind == 2) = false := by simpa using h2
  have hn2 := shapeB_len HS.out h2
  have HK2 := Lib.hid h2
  obtain ⟨n, hn⟩ : ∃ n, p.f.nums.length = n := ⟨_, rfl⟩
  have HN := Lib.hid hn
  obtain ⟨_, A2, cap2, hv, _, _, hA⟩ := HP.out.nums
  simp only [FrmV.v, Value.slice.injEq, true_and] at hv
  obtain ⟨hvA, hvc⟩ := hv
  rw [← hvA] at hA
  have HA2 := Lib.hid hA
  rw [hn] at f1 hn2 ⊢
  have HQ1n : Hid (BlockIs w1 w.heap.size 93 #[.int .i64 p.f.kind, .slice p.A n p.cap, .string p.f.data]) := Lib.hid (by rw [← hn]; exact HQ1.out)
  clear hn h2 hvA hvc hA hwrap HQ1 HQ HB0
  trace "E"; go_wp2_with fail
  go_loopw [22] (fun s22 wr => ∃ i : Nat, s22 = .int .i64 i ∧ i ≤ n ∧ Hid (Lib.BuilderAtF 133 5 (w.heap.size + 1) (w.heap.size + 1) (.pointer (some ⟨(w.heap.size + 1), 0, none⟩)) (Lib.byteCells (byteOf p.f.kind :: allL (p.f.nums.take i))) wr) ∧ Since w wr ∧ Hid (BlockIs wr w.heap.size 93 #[.int .i64 p.f.kind, .slice p.A n p.cap, .string p.f.data])) (fun s22 _ => n - (intOf s22).toNat)
  case atStart => exact ⟨0, rfl, Nat.zero_le _, Lib.hid HB1.out, hs2, HQ1n⟩
  case round =>
    obtain ⟨i, rfl, hi, HB, hs, HQ⟩ := hrel
    clear f0 f1 l1 hs2 HB1 hle1
    have hle : (w.heap.size + 1) ≤ wr.heap.size := by have := HB.out.lt; omega
    have HUL : Hid ((allL (p.f.nums.take i)).length ≤ 8) := Lib.hid (by
      have := allL_short (p.f.nums.take i)
      have h3 : (p.f.nums.take i).length ≤ i := List.length_take_le _ _
      omega)
    by_cases hlt : i < n
    case neg =>
      obtain rfl : i = n := by omega
      have hf : decide ((i : Int) < (i : Int)) = false := by simp
      have hz : Hid (allL (p.f.nums.take i) = allL p.f.nums) := Lib.hid (by rw [List.take_of_length_le (by rw [HN.out]; exact Nat.le_refl _)])
      rw [hz.out] at HB HUL
      have f0 : wr.cell? ⟨w.heap.size, 0, none⟩ = some (.int .i64 p.f.kind) := HQ.out.cell 0
      have f2 : wr.cell? ⟨w.heap.size, 2, none⟩ = some (.string p.f.data) := HQ.out.cell 2
      have l1 := HQ.out.lt
      by_cases h3 : p.f.kind = 3
      · have h3' : (p.f.kind == 3) = true := by simpa using h3
        have HFB := Lib.hid (frmB_three h3)
        have h5 := vbytes_len4 (p.f.data.size : Int)
        have hov : (vbytes (p.f.data.size : Int)).length + p.f.data.size ≤ 9223372036854775807 := by omega
        have hdz : p.f.data.size ≤ 9223372036854775807 := by omega
        have hov3 : (9223372036854775807 < (vbytes (p.f.data.size : Int)).length + p.f.data.size) = False := eq_false (by omega)
        have hg0 : (0 : Int) ≤ (p.f.data.size : Int) := by omega
        have hg1 : (p.f.data.size : Int) ≤ 1073741823 := by omega
        have hcat : Hid ((⟨(vbytes (p.f.data.size : Int)).toArray⟩ : ByteArray) ++ p.f.data = ⟨(vbytes (p.f.data.size : Int) ++ p.f.data.data.toList).toArray⟩) := Lib.hid (by apply ByteArray.ext; simp)
        have hdl : p.f.data.data.toList.length = p.f.data.size := rfl
        have HDL := Lib.hid hdl
        clear h3 hdl
        trace "F"; go_wp2_with fail
        go_region_law (first | (go_simp; go_at_call 126; refine (bytes_any (p.f.data.size : Int) hg0 hg1 _ (HK.out.later (by first | exact hs | exact hs.drew))).mono ?_; rintro e w4 ⟨rfl, hb4⟩; have HS4 := Lib.hid (show Since wr w4 from (by refine Since.out ?_; repeat (first | with_reducible assumption | with_reducible exact Since.refl _ | with_reducible refine Since.later ?_ (by with_reducible assumption) | with_reducible refine Since.only ?_ (by with_reducible assumption) (by first | assumption | omega | (simp; done) | (simp; omega)) | with_reducible refine Since.alloc ?_ _ | with_reducible refine Since.drewN ?_ _ | with_reducible refine Since.drew ?_ | with_reducible refine Since.set ?_ (by first | assumption | omega | (simp; done) | (simp; omega)) _))); have g2 : w4.cell? ⟨w.heap.size, 2, none⟩ = some (.string p.f.data) := (HQ.out.later HS4.out).cell 2; have m4 := (HQ.out.later HS4.out).lt; clear hb4) | (go_simp; go_at_call 76; rw [hcat.out]; refine (bwriteK (w.heap.size + 1) (w.heap.size + 1) _ _ _ (Or.inr (builderAtF_later HB.out HS4.out)) (by rw [Lib.byteCells_length, bsize]; have := HUL.out; have := HDL.out; simp; omega) (Nat.le_trans hle HS4.out.le)).mono ?_; rintro e w5 ⟨rfl, hB5, hb5, ho5⟩; rw [strCells_bytes, ← Lib.byteCells_append] at hB5; have HB5 := Lib.hid hB5; have HS5 := Lib.hid (show Since w w5 from Below.trans (hs.later HS4.out) (hb5.mono (by omega))); clear hB5 hb5 ho5))
        all_goals
          have hle5 : (w.heap.size + 1) ≤ w5.heap.size := by have := HB5.out.lt; omega
          have hs5 := HS5.out
          trace "G"; go_wp2_with fail
          refine (bstringK (w.heap.size + 1) (w.heap.size + 1) _ _ (Or.inr HB5.out) hle5).mono ?_
          rintro e w6 ⟨rfl, _, hb6, _⟩
          have hs6 : Since w w6 := Below.trans hs5 (hb6.mono (by omega))
          go_wp2_with fail
          go_ret
          exact ⟨by rw [HFB.out]; simp, hs6⟩
      · have h3' : (p.f.kind == 3) = false := by simpa using h3
        have HFB := Lib.hid (frmB_other HK2.out h3)
        clear h3
        trace "H"; go_wp2_with fail
        refine (bstringK (w.heap.size + 1) (w.heap.size + 1) _ _ (Or.inr HB.out) hle).mono ?_
        rintro e w6 ⟨rfl, _, hb6, _⟩
        have hs6 : Since w w6 := Below.trans hs (hb6.mono (by omega))
        go_wp2_with fail
        go_ret
        exact ⟨by rw [HFB.out]; rfl, hs6⟩
    have hlt' : (i : Int) < (n : Int) := by omega
    have hil : i < p.f.nums.length := by rw [HN.out]; exact hlt
    obtain ⟨b, off, hbA, hbl, hcc⟩ := HA2.out (by intro h0; rw [h0] at hil; simp at hil)
    have c0 := hs.cell hbl (hcc i hil)
    have lb : b < wr.heap.size := Nat.lt_of_lt_of_le hbl hs.le
    obtain ⟨z0, z1⟩ := HM.out _ (ith_mem hil)
    have HT := Lib.hid (take_ith hil)
    rw [hbA]
    have HBA := Lib.hid hbA
    clear hcc hil hbA
    generalize ith p.f.nums i = z at *
    have hv4 := vbytes_len4 z
    trace "I"; go_wp2_with fail
    refine (bytes_any z z0 z1 _ (HK.out.later hs)).mono ?_
    rintro e w3 ⟨rfl, hb3⟩
    have hs3 := hs.later hb3
    have HB3 := Lib.hid (builderAtF_later HB.out hb3)
    have HQ3 := Lib.hid (HQ.out.later hb3)
    have hle3 := Nat.le_trans hle hb3.size
    clear hb3
    go_wp2_with fail
    refine (bwriteK (w.heap.size + 1) (w.heap.size + 1) _ _ _ (Or.inr HB3.out) (by rw [Lib.byteCells_length, bsize]; have := HUL.out; simp; omega) hle3).mono ?_
    rintro e w5 ⟨rfl, hB5, hb5, ho5⟩
    rw [strCells_bytes, ← Lib.byteCells_append, List.cons_append, ← allL_snoc, ← HT.out] at hB5
    have HB5 := Lib.hid hB5
    have hs5 : Since w w5 := Below.trans hs3 (hb5.mono (by omega))
    have HQ5 := Lib.hid (HQ3.out.others ho5 (by omega) (by decide))
    clear hB5 hb5 ho5
    trace "J"; go_wp2_with fail
    go_roundw
    case rel => exact ⟨i + 1, by go_num, by omega, HB5, hs5, by rw [← HBA.out]; exact HQ5⟩
    case measure => simp [intOf]; omega

def frmV (f : Frm) : List UInt8 := if frmE f = 0 then frmB f else []
end Go.Proofs.YtmfbaijbigodkaaGreatDoor

/-! Contracts of ack's reader, ack.Read and ack.Parse. Condition: the table of kinds holds what the program's text lays; the string's length is an int. -/
namespace Go.Proofs.YtmfbaijbigodkaaGreatDoor
open Go.ChangeShapes Go.WideShapes Go.ChangeAt Go.RowKit
set_option linter.unusedVariables false

theorem Only.of_drew {a w : World} {g : Nat} (h : Only a.drew w g) : Only a w g := ⟨h.os, h.tape, h.output, h.size, h.block⟩
theorem str_drop (s : ByteArray) (k : Nat) : (s.extract k s.size).data.toList = s.data.toList.drop k := by
  rw [ByteArray.data_extract]
  have : s.data.toList.length = s.size := rfl
  rw [Array.toList_extract, List.extract_eq_take_drop]
  rw [List.take_of_length_le]
  simp [this]
theorem str_drop_size (s : ByteArray) (k : Nat) : (s.extract k s.size).size ≤ s.size := by
  rw [ByteArray.size_extract]; omega
/-- is there a number -/
def gok (l : List UInt8) : Bool := decide (getOk l)
theorem gok_yes {l : List UInt8} (h : getOk l) : gok l = true ∧ getV l = getN l ∧ getK l = getC l ∧ getE l = 0 := by
  unfold gok getV getK getE; simp [h]
theorem gok_no {l : List UInt8} (h : ¬ getOk l) : gok l = false ∧ getV l = 0 ∧ getK l = 0 ∧ getE l = 2 := by
  unfold gok getV getK getE; simp [h]
theorem getR_drop (s : ByteArray) (k : Nat) : getR (s.extract k s.size) = .tuple #[.int .i64 (getV (s.data.toList.drop k)), .int .i64 (getK (s.data.toList.drop k)), errV (getE (s.data.toList.drop k))] := by
  unfold getR; rw [str_drop]
theorem bits_getN (l : List UInt8) : 0 ≤ getV l ∧ getV l ≤ 1073741823 := by
  by_cases h : getOk l
  · rw [(gok_yes h).2.1]; exact getN_bounds h.2.1
  · rw [(gok_no h).2.1]; omega
theorem bits_getK (l : List UInt8) : 0 ≤ getK l ∧ getK l ≤ 4 ∧ getK l ≤ l.length := by
  by_cases h : getOk l
  · rw [(gok_yes h).2.2.1]
    have := (getC_pos l).2
    have := h.2.2.1
    omega
  · rw [(gok_no h).2.2.1]; omega

set_option maxHeartbeats 1600000 in
theorem anext (g : Nat) (s : ByteArray) (k : Nat) (bad : Bool) (w : World) (h : BlockIs w g 246 #[.string s, .int .i64 k, .bool bad]) (hz : s.size ≤ 9223372036854775807) (hk : k ≤ s.size) (hK : KTab w) :
    Calls Tryz.prog 167 #[.pointer (some ⟨g, 0, none⟩)] w fun e w' => e = .returned (.int .i64 (getV (s.data.toList.drop k))) ∧ BlockIs w' g 246 #[.string s, .int .i64 ((k : Int) + getK (s.data.toList.drop k)), .bool (bad || !gok (s.data.toList.drop k))] ∧ Only w w' g := by
  have d0 : w.cell? ⟨g, 0, none⟩ = some (.string s) := h.cell 0
  have d1 : w.cell? ⟨g, 1, none⟩ = some (.int .i64 k) := h.cell 1
  have lt := h.lt
  have HB := Lib.hid h
  have HK := Lib.hid hK
  have HZ := Lib.hid (Nat.le_trans (str_drop_size s k) hz)
  have HR := Lib.hid (getR_drop s k)
  have hk' : (k : Int) ≤ (s.size : Int) := by omega
  obtain ⟨v0, v1⟩ := bits_getN (s.data.toList.drop k)
  obtain ⟨k0, k1, k2⟩ := bits_getK (s.data.toList.drop k)
  have hk3 : (k : Int) + getK (s.data.toList.drop k) ≤ 9223372036854775807 := by
    have : s.data.toList.length = s.size := rfl
    rw [List.length_drop] at k2
    omega
  clear h hK k2
  by_cases hg : getOk (s.data.toList.drop k)
  · obtain ⟨e1, e2, e3, e4⟩ := gok_yes hg
    rw [e4, errV_zero] at HR
    have HG := Lib.hid e1
    clear e1 e2 e3 e4 hg
    generalize getV (s.data.toList.drop k) = V at *
    generalize getK (s.data.toList.drop k) = K at *
    generalize s.data.toList.drop k = D at *
    go_enter Tryz.func167, Tryz.ntmps167
    trace "A"; go_wp2_with fail
    go_region_law (go_simp; go_at_call 168; refine (vget_any _ HZ.out _ (HK.out.later (by refine Since.out ?_; repeat (first | with_reducible assumption | with_reducible exact Since.refl _ | with_reducible refine Since.later ?_ (by with_reducible assumption) | with_reducible refine Since.only ?_ (by with_reducible assumption) (by first | assumption | omega | (simp; done) | (simp; omega)) | with_reducible refine Since.alloc ?_ _ | with_reducible refine Since.drewN ?_ _ | with_reducible refine Since.drew ?_ | with_reducible refine Since.set ?_ (by first | assumption | omega | (simp; done) | (simp; omega)) _)))).mono ?_; rintro e w1 ⟨rfl, hb1⟩; rw [HR.out]; have HS1 := Lib.hid (show Since w w1 from (by refine Since.out ?_; repeat (first | with_reducible assumption | with_reducible exact Since.refl _ | with_reducible refine Since.later ?_ (by with_reducible assumption) | with_reducible refine Since.only ?_ (by with_reducible assumption) (by first | assumption | omega | (simp; done) | (simp; omega)) | with_reducible refine Since.alloc ?_ _ | with_reducible refine Since.drewN ?_ _ | with_reducible refine Since.drew ?_ | with_reducible refine Since.set ?_ (by first | assumption | omega | (simp; done) | (simp; omega)) _))); clear hb1)
    all_goals
      have hB1 := HB.out.later HS1.out
      have d11 : w1.cell? ⟨g, 1, none⟩ = some (.int .i64 k) := hB1.cell 1
      have f1 := hB1.free
      have l1 := hB1.lt
      have HB1 := Lib.hid hB1
      clear hB1
      trace "B"; go_wp2_with fail
      go_ret
      exact ⟨rfl, by rw [HG.out, Bool.not_true, Bool.or_false]; exact HB1.out.put 1 _, (Only.of_below HS1.out g).put 1 _⟩
  · obtain ⟨e1, e2, e3, e4⟩ := gok_no hg
    rw [e4, e2, e3, errV_pos (by decide)] at HR
    rw [e1, e2, e3]
    clear e1 e2 e3 e4 hg v0 v1 k0 k1 hk3
    go_enter Tryz.func167, Tryz.ntmps167
    go_wp2_with fail
    go_region_law (go_simp; go_at_call 168; refine (vget_any _ HZ.out _ (HK.out.later (by refine Since.out ?_; repeat (first | with_reducible assumption | with_reducible exact Since.refl _ | with_reducible refine Since.later ?_ (by with_reducible assumption) | with_reducible refine Since.only ?_ (by with_reducible assumption) (by first | assumption | omega | (simp; done) | (simp; omega)) | with_reducible refine Since.alloc ?_ _ | with_reducible refine Since.drewN ?_ _ | with_reducible refine Since.drew ?_ | with_reducible refine Since.set ?_ (by first | assumption | omega | (simp; done) | (simp; omega)) _)))).mono ?_; rintro e w1 ⟨rfl, hb1⟩; rw [HR.out]; have HS1 := Lib.hid (show Since w w1 from (by refine Since.out ?_; repeat (first | with_reducible assumption | with_reducible exact Since.refl _ | with_reducible refine Since.later ?_ (by with_reducible assumption) | with_reducible refine Since.only ?_ (by with_reducible assumption) (by first | assumption | omega | (simp; done) | (simp; omega)) | with_reducible refine Since.alloc ?_ _ | with_reducible refine Since.drewN ?_ _ | with_reducible refine Since.drew ?_ | with_reducible refine Since.set ?_ (by first | assumption | omega | (simp; done) | (simp; omega)) _))); clear hb1)
    all_goals
      have hB1 := HB.out.later HS1.out
      have f1 := hB1.free
      have l1 := hB1.lt
      have d12 : w1.cell? ⟨g, 2, none⟩ = some (.bool bad) := hB1.cell 2
      have HB1 := Lib.hid hB1
      clear hB1
      go_wp2_with fail
      go_ret
      exact ⟨rfl, by rw [Int.add_zero, Bool.not_false, Bool.or_true]; exact HB1.out.put 2 _, (Only.of_below HS1.out g).put 2 _⟩

/-- how many bytes a number takes, none: 0 -/
def kN (l : List UInt8) : Nat := if getOk l then getC l else 0
theorem kN_eq (l : List UInt8) : getK l = (kN l : Int) := by unfold getK kN; split <;> simp
theorem kN_le (b : List UInt8) {k : Nat} (hk : k ≤ b.length) : k + kN (b.drop k) ≤ b.length := by
  have h := (bits_getK (b.drop k)).2.2
  rw [kN_eq, List.length_drop] at h
  omega
theorem anextN (g : Nat) (s : ByteArray) (k : Nat) (bad : Bool) (w : World) (h : BlockIs w g 246 #[.string s, .int .i64 k, .bool bad]) (hz : s.size ≤ 9223372036854775807) (hk : k ≤ s.data.toList.length) (hK : KTab w) :
    Calls Tryz.prog 167 #[.pointer (some ⟨g, 0, none⟩)] w fun e w' => e = .returned (.int .i64 (getV (s.data.toList.drop k))) ∧ BlockIs w' g 246 #[.string s, .int .i64 ((k + kN (s.data.toList.drop k) : Nat) : Int), .bool (bad || !gok (s.data.toList.drop k))] ∧ Only w w' g := by
  refine (anext g s k bad w h hz hk hK).mono fun e w' ⟨h1, h2, h3⟩ => ⟨h1, ?_, h3⟩
  rw [kN_eq] at h2
  rw [show ((k + kN (s.data.toList.drop k) : Nat) : Int) = (k : Int) + (kN (s.data.toList.drop k) : Int) by omega]
  exact h2
/-- the i-th range's end, where its length stands, and was there a gap -/
def nH (b : List UInt8) (hi : Int) (i : Nat) (M : List Rng) (k : Nat) : Int := if i = 0 then hi else (rat M (i - 1)).lo - 2 - getV (b.drop k)
def nK (b : List UInt8) (i k : Nat) : Nat := if i = 0 then k else k + kN (b.drop k)
def nG (b : List UInt8) (i k : Nat) : Bool := if i = 0 then true else gok (b.drop k)
theorem gok_iff {l : List UInt8} : gok l = true ↔ getOk l := by unfold gok; simp
theorem step_ok {b : List UInt8} {hi : Int} {k0 i k : Nat} {M : List Rng} (h : rdUp b hi k0 i = some (M, k)) (hg : nG b i k = true) (hl : gok (b.drop (nK b i k)) = true) (h0 : 0 ≤ nH b hi i M k - getV (b.drop (nK b i k))) :
    rdUp b hi k0 (i + 1) = some (M ++ [⟨nH b hi i M k - getV (b.drop (nK b i k)), nH b hi i M k⟩], nK b i k + kN (b.drop (nK b i k))) := by
  rw [rdUp_step h]
  have hv := gok_yes (gok_iff.1 hl)
  have hkn : kN (b.drop (nK b i k)) = getC (b.drop (nK b i k)) := by unfold kN; rw [if_pos (gok_iff.1 hl)]
  rw [hv.2.1] at h0 ⊢
  rw [hkn]
  refine rdOne_yes ?_ ⟨gok_iff.1 hl, h0⟩
  unfold nH nK nG at *
  by_cases hi0 : i = 0
  · subst hi0; rfl
  · rw [if_neg hi0] at hg
    have hg' := gok_iff.1 hg
    rw [hiAt_yes (by omega) hg', if_neg hi0, if_neg hi0, (gok_yes hg').2.1]
    unfold kN; rw [if_pos hg']
theorem step_no {b : List UInt8} {hi : Int} {k0 i k : Nat} {M : List Rng} (h : rdUp b hi k0 i = some (M, k)) (hn : ¬ (nG b i k = true ∧ gok (b.drop (nK b i k)) = true ∧ 0 ≤ nH b hi i M k - getV (b.drop (nK b i k)))) : rdUp b hi k0 (i + 1) = none := by
  rw [rdUp_step h]
  unfold nH nK nG at hn
  by_cases hi0 : i = 0
  · subst hi0
    simp only [if_pos] at hn
    refine rdOne_no (hiAt_zero _ _ _ _) (fun hh => hn ⟨trivial, gok_iff.2 hh.1, ?_⟩)
    rw [(gok_yes hh.1).2.1]; exact hh.2
  · simp only [if_neg hi0] at hn
    by_cases hg : getOk (b.drop k)
    · have hv := gok_yes hg
      have hkn : kN (b.drop k) = getC (b.drop k) := by unfold kN; rw [if_pos hg]
      rw [hv.2.1, hkn] at hn
      refine rdOne_no (hiAt_yes (by omega) hg) (fun hh => hn ⟨hv.1, gok_iff.2 hh.1, ?_⟩)
      rw [(gok_yes hh.1).2.1]; exact hh.2
    · exact rdOne_gap (hiAt_no (by omega) hg)
/-- the first two numbers -/
def hdOk (b : List UInt8) : Bool := gok b && gok (b.drop (kN b))
def hdM (b : List UInt8) : Int := getV (b.drop (kN b))
def hdK (b : List UInt8) : Nat := kN b + kN (b.drop (kN b))
theorem readA_head (b : List UInt8) : readA b = if hdOk b = true ∧ hdM b < 12 then rdUp b (getV b) (hdK b) ((hdM b).toNat + 1) else none := by
  unfold readA hdOk hdM hdK
  by_cases h1 : getOk b
  · have e1 : kN b = getC b := by unfold kN; rw [if_pos h1]
    rw [e1]
    by_cases h2 : getOk (b.drop (getC b))
    · have e2 : kN (b.drop (getC b)) = getC (b.drop (getC b)) := by unfold kN; rw [if_pos h2]
      rw [e2, (gok_yes h1).1, (gok_yes h2).1, (gok_yes h1).2.1, (gok_yes h2).2.1]
      simp [h1, h2]
    · rw [(gok_no h2).1]; simp [h2]
  · rw [(gok_no h1).1]; simp [h1]
theorem readA_bad {b : List UInt8} (h : hdOk b = false) : readA b = none := by rw [readA_head, if_neg (by simp [h])]
theorem readA_many {b : List UInt8} (h : 12 ≤ hdM b) : readA b = none := by rw [readA_head, if_neg (by omega)]
theorem readA_up {b : List UInt8} {i : Nat} (h : rdUp b (getV b) (hdK b) i = none) (hi : (i : Int) ≤ hdM b + 1) : readA b = none := by
  rw [readA_head]
  split
  · exact rdUp_none h _ (by omega)
  · rfl
theorem readA_end {b : List UInt8} {i : Nat} {M : List Rng} {k : Nat} (h : rdUp b (getV b) (hdK b) i = some (M, k)) (h0 : hdOk b = true) (hi : (i : Int) = hdM b + 1) (h12 : i ≤ 12) : readA b = some (M, k) := by
  have hm : 0 ≤ hdM b := (bits_getN _).1
  rw [readA_head, if_pos ⟨h0, by omega⟩, show (hdM b).toNat + 1 = i by omega, h]

theorem Tryz.elRange2 : Elem Tryz.prog 44 101 2 16 := ⟨Tryz.underlying44, ⟨.agg #[.int .i64 0, .int .i64 0], rfl, by kernel_rfl⟩, by decide, by decide⟩
/-- what the loop of ack.Read keeps -/
structure RdSt (w wr : World) (b : List UInt8) (g : Nat) (s : ByteArray) (i k : Nat) (bad : Bool) (h : Int) (A : Option Addr) (cap : Nat) (M : List Rng) : Prop where
  bl : BlockIs wr g 246 #[.string s, .int .i64 k, .bool bad]
  ls : Lst wr 101 2 (.slice A i cap) (M.map rngRow)
  new : ∀ q, q ∈ blocks (.slice A 0 0) → w.heap.size ≤ q
  ap : g ∉ blocks (.slice A i cap)
  since : Since w wr
  len : M.length = i
  le : k ≤ b.length
  was : bad = true → readA b = none
  now : bad = false → hdOk b = true ∧ rdUp b (getV b) (hdK b) i = some (M, k) ∧ i ≤ 12
  hi0 : i = 0 → h = getV b
  hib : -1073741826 ≤ h ∧ h ≤ 1073741823
  each : ∀ r ∈ M, 0 ≤ r.lo ∧ r.lo ≤ 1073741823
  up : (i : Int) ≤ hdM b + 1
  few : i ≤ 13

set_option maxHeartbeats 3200000 in
set_option maxRecDepth 100000 in
theorem aread (s : ByteArray) (w : World) (hz : s.size ≤ 9223372036854775807) (hK : KTab w) :
    Calls Tryz.prog 152 #[.string s] w fun e w' => ∃ (A : Option Addr) (cap k : Nat) (ok : Bool) (M : List Rng), e = .returned (.tuple #[.slice A M.length cap, .int .i64 k, .bool ok]) ∧ Lst w' 101 2 (.slice A M.length cap) (M.map rngRow) ∧ M.length ≤ 13 ∧ Below w.heap.size w w' ∧ (∀ q, q ∈ blocks (.slice A 0 0) → w.heap.size ≤ q) ∧ (∀ r ∈ M, 0 ≤ r.lo ∧ r.lo ≤ 1073741823) ∧ readA s.data.toList = if ok = true then some (M, k) else none := by
  have HK := Lib.hid hK
  have HZ := Lib.hid hz
  obtain ⟨b, hb⟩ : ∃ b, s.data.toList = b := ⟨_, rfl⟩
  have HBD := Lib.hid hb
  rw [hb]
  have AN : Hid (∀ (g k : Nat) (bad : Bool) (w : World), BlockIs w g 246 #[.string s, .int .i64 k, .bool bad] → k ≤ b.length → KTab w → Calls Tryz.prog 167 #[.pointer (some ⟨g, 0, none⟩)] w fun e w' => e = .returned (.int .i64 (getV (b.drop k))) ∧ BlockIs w' g 246 #[.string s, .int .i64 ((k + kN (b.drop k) : Nat) : Int), .bool (bad || !gok (b.drop k))] ∧ Only w w' g) := Lib.hid (fun g k bad w h1 h2 h3 => by subst hb; exact anextN g s k bad w h1 hz h2 h3)
  clear hK hz hb
  have HV0 := Lib.hid (bits_getN b)
  go_enter Tryz.func152, Tryz.ntmps152
  go_wp2_with fail
  refine (AN.out w.heap.size 0 false _ (BlockIs.fresh w _ _) (Nat.zero_le _) (HK.out.later ((Since.refl w).alloc _))).mono ?_
  rintro e w1 ⟨rfl, hB1, ho1⟩
  rw [List.drop_zero, Nat.zero_add, Bool.false_or] at *
  have hs1 : Since w w1 := ho1.below ((Since.refl w).alloc _) (by simp) (Nat.le_refl _)
  have HB1 := Lib.hid hB1
  clear ho1 hB1
  go_wp2_with fail
  refine (AN.out w.heap.size (kN b) (!gok b) _ HB1.out (by have := kN_le b (Nat.zero_le _); simpa using this) (HK.out.later hs1)).mono ?_
  rintro e w2 ⟨rfl, hB2, ho2⟩
  have hs2 : Since w w2 := ho2.below hs1 hs1.le (Nat.le_refl _)
  have HST : Hid (RdSt w w2 b w.heap.size s 0 (hdK b) (!gok b || !gok (b.drop (kN b))) (getV b) none 0 []) := Lib.hid
    { bl := hB2, ls := Lst.nil _ _ _, new := by simp [Value.ownBlock], ap := by simp [Value.ownBlock], since := hs2, len := rfl,
      le := kN_le b (by have := kN_le b (Nat.zero_le _); simpa using this)
      was := fun h => readA_bad (by unfold hdOk; cases h1 : gok b <;> simp [h1] at h ⊢; exact h)
      now := fun h => ⟨by unfold hdOk; cases h1 : gok b <;> simp [h1] at h ⊢; exact h, rfl, by omega⟩
      hi0 := fun _ => rfl, hib := by have := HV0.out; omega, each := by simp, up := by have := (bits_getN (b.drop (kN b))).1; unfold hdM; omega, few := by omega }
  have HM : Hid (getV (b.drop (kN b)) = hdM b) := Lib.hid rfl
  obtain ⟨m0, m1⟩ : 0 ≤ hdM b ∧ hdM b ≤ 1073741823 := bits_getN (b.drop (kN b))
  clear ho2 hB2 hs1
  rw [HM.out]
  trace "A"; go_wp2_with fail
  go_loopw [6, 8, 9] (fun s6 s8 s9 wr => ∃ (i k : Nat) (bad : Bool) (h : Int) (A : Option Addr) (cap : Nat) (M : List Rng), s6 = .int .i64 h ∧ s8 = .slice A i cap ∧ s9 = .int .i64 i ∧ RdSt w wr b w.heap.size s i k bad h A cap M) (fun _ _ s9 _ => (hdM b + 1).toNat - (intOf s9).toNat)
  case atStart => exact ⟨0, _, _, _, none, 0, [], rfl, rfl, rfl, HST.out⟩
  case round =>
    obtain ⟨i, k, bad, h, A, cap, M, rfl, rfl, rfl, hS⟩ := hrel
    have HS := Lib.hid hS
    have hs := hS.since
    have hup := hS.up
    have hfew := hS.few
    have HBL := Lib.hid hS.bl
    have e2 : wr.cell? ⟨w.heap.size, 2, none⟩ = some (.bool bad) := hS.bl.cell 2
    have lt := hS.bl.lt
    obtain ⟨h1, h2⟩ := hS.hib
    have HLN := Lib.hid hS.len
    clear hS
    have fin : ∀ ok : Bool, (readA b = if ok = true then some (M, k) else none) → ∀ W, Below wr.heap.size wr W → ∃ (A' : Option Addr) (cap' k' : Nat) (ok' : Bool) (M' : List Rng), Ending.returned (.tuple #[.slice A i cap, .int .i64 k, .bool ok]) = .returned (.tuple #[.slice A' M'.length cap', .int .i64 k', .bool ok']) ∧ Lst W 101 2 (.slice A' M'.length cap') (M'.map rngRow) ∧ M'.length ≤ 13 ∧ Below w.heap.size w W ∧ (∀ q, q ∈ blocks (.slice A' 0 0) → w.heap.size ≤ q) ∧ (∀ r ∈ M', 0 ≤ r.lo ∧ r.lo ≤ 1073741823) ∧ readA b = if ok' = true then some (M', k') else none := by
      intro ok hok W hW
      have hl := HS.out.len
      refine ⟨A, cap, k, ok, M, by rw [hl], by rw [hl]; exact HS.out.ls.later hW, by rw [hl]; exact HS.out.few, HS.out.since.later hW, HS.out.new, HS.out.each, hok⟩
    have FIN := Lib.hid fin
    clear fin
    cases bad with
    | true =>
      have HF := Lib.hid (FIN.out false (by rw [HS.out.was rfl]; rfl))
      have d1 : wr.cell? ⟨w.heap.size, 1, none⟩ = some (.int .i64 k) := HBL.out.cell 1
      by_cases hle : (i : Int) ≤ hdM b
      · trace "B"; go_wp2_with fail
        go_quiet (fail)
        go_wp2_with fail
        go_ret3
        exact HF.out _ (by refine Since.out ?_; repeat (first | with_reducible assumption | with_reducible exact Since.refl _ | with_reducible refine Since.later ?_ (by with_reducible assumption) | with_reducible refine Since.only ?_ (by with_reducible assumption) (by first | assumption | omega | (simp; done) | (simp; omega)) | with_reducible refine Since.alloc ?_ _ | with_reducible refine Since.drewN ?_ _ | with_reducible refine Since.drew ?_ | with_reducible refine Since.set ?_ (by first | assumption | omega | (simp; done) | (simp; omega)) _))
      · have hle' : decide ((i : Int) ≤ hdM b) = false := by simpa using hle
        clear hle
        go_wp2_with fail
        go_quiet (fail)
        go_wp2_with fail
        go_ret3
        exact HF.out _ (by refine Since.out ?_; repeat (first | with_reducible assumption | with_reducible exact Since.refl _ | with_reducible refine Since.later ?_ (by with_reducible assumption) | with_reducible refine Since.only ?_ (by with_reducible assumption) (by first | assumption | omega | (simp; done) | (simp; omega)) | with_reducible refine Since.alloc ?_ _ | with_reducible refine Since.drewN ?_ _ | with_reducible refine Since.drew ?_ | with_reducible refine Since.set ?_ (by first | assumption | omega | (simp; done) | (simp; omega)) _))
    | false =>
      obtain ⟨n1, n2, n3⟩ := HS.out.now rfl
      have HN1 := Lib.hid n1
      have HN2 := Lib.hid n2
      clear n1 n2
      by_cases hle : (i : Int) ≤ hdM b
      case neg =>
        have HF := Lib.hid (FIN.out true (by rw [readA_end HN2.out HN1.out (by omega) n3]; rfl))
        have d1 : wr.cell? ⟨w.heap.size, 1, none⟩ = some (.int .i64 k) := HBL.out.cell 1
        have hle' : decide ((i : Int) ≤ hdM b) = false := by simpa using hle
        clear hle
        go_wp2_with fail
        go_quiet (fail)
        go_wp2_with fail
        go_ret3
        exact HF.out _ (by refine Since.out ?_; repeat (first | with_reducible assumption | with_reducible exact Since.refl _ | with_reducible refine Since.later ?_ (by with_reducible assumption) | with_reducible refine Since.only ?_ (by with_reducible assumption) (by first | assumption | omega | (simp; done) | (simp; omega)) | with_reducible refine Since.alloc ?_ _ | with_reducible refine Since.drewN ?_ _ | with_reducible refine Since.drew ?_ | with_reducible refine Since.set ?_ (by first | assumption | omega | (simp; done) | (simp; omega)) _))
      have HNH0 : Hid (i = 0 → h = nH b (getV b) i M k ∧ k = nK b i k ∧ (!nG b i k) = false) := Lib.hid (fun h0 => ⟨by rw [HS.out.hi0 h0]; unfold nH; rw [if_pos h0], by unfold nK; rw [if_pos h0], by unfold nG; rw [if_pos h0]; rfl⟩)
      have HNH1 : Hid (0 < i → (rat M (i - 1)).lo - 2 - getV (b.drop k) = nH b (getV b) i M k ∧ k + kN (b.drop k) = nK b i k ∧ (false || !gok (b.drop k)) = (!nG b i k)) := Lib.hid (fun h0 => ⟨by unfold nH; rw [if_neg (by omega)], by unfold nK; rw [if_neg (by omega)], by unfold nG; rw [if_neg (by omega)]; rfl⟩)
      have HNB : Hid (0 < i → 0 ≤ (rat M (i - 1)).lo ∧ (rat M (i - 1)).lo ≤ 1073741823) := Lib.hid (fun h0 => by rw [rat_get (by rw [HLN.out]; omega)]; exact HS.out.each _ (List.getElem_mem _))
      have HAI : Hid (0 < i → ∃ q, A = some ⟨q, 0, none⟩) := Lib.hid (fun h0 => by
        obtain ⟨A', cap', hv, _, _, hA⟩ := HS.out.ls.shape
        simp only [Value.slice.injEq] at hv
        obtain ⟨rfl, _⟩ := hv
        rcases hA with ⟨_, h1, _⟩ | hq
        · have := congrArg List.length h1; rw [List.length_map, HLN.out] at this; simp at this; omega
        · exact hq)
      trace "C"; repeat ((fail_if_success (with_reducible refine stop_at 7 ?_)); first | fail | go_values | go_skip | go_guarded | go_step | go_upon | go_back | go_simp)
      obtain ⟨wq, rfl⟩ : ∃ wq : World, wq = wr := ⟨_, rfl⟩
      go_cut [6] (fun s6 wx => s6 = .int .i64 (nH b (getV b) i M k) ∧ BlockIs wx w.heap.size 246 #[.string s, .int .i64 (nK b i k : Nat), .bool (!nG b i k)] ∧ Only wq wx w.heap.size)
      case first =>
        by_cases hi0 : i = 0
        · subst hi0
          obtain ⟨q1, q2, q3⟩ := HNH0.out rfl
          have Q1 := Lib.hid q1
          have Q2 := Lib.hid q2
          have Q3 := Lib.hid q3
          clear q1 q2 q3
          go_wp2_with fail
          go_meet
          case rel => exact ⟨by rw [Q1.out], by rw [← Q2.out, Q3.out]; exact HBL.out, Only.refl _ _⟩
        · have hip : 0 < i := by omega
          have hip' : (0 : Int) < (i : Int) := by omega
          obtain ⟨q1, q2, q3⟩ := HNH1.out hip
          obtain ⟨l0, l1⟩ := HNB.out hip
          obtain ⟨q, rfl⟩ := HAI.out hip
          have hcl : ∀ W, Only wq W w.heap.size → W.cell? ⟨q, (i - 1) * 2, none⟩ = some (.int .i64 (rat M (i - 1)).lo) := fun W hW => by
            have hl := HS.out.ls.kept (Out.of_only hW) (fun k hk hk2 => HS.out.ap (by rw [List.mem_singleton.1 hk2] at hk; exact hk))
            have := hl.cell rfl (elem_of_rng (L := M) (i := i - 1) (by rw [HLN.out]; omega)) (j := 0) rfl
            rw [rat_get (by rw [HLN.out]; omega)]
            simpa using this
          have HCL := Lib.hid hcl
          have dq := hcl wq (Only.refl _ _)
          have hi1 : (i : Int) - 1 = ((i - 1 : Nat) : Int) := by omega
          have hi3 : ((i - 1 : Nat) : Int) < (i : Int) := by omega
          have hw0 : IntKind.i64.wrap ((i - 1 : Nat) : Int) = ((i - 1 : Nat) : Int) := by simp [IntKind.wrap, IntKind.bits, IntKind.signed]; omega
          obtain ⟨v0, v1⟩ := bits_getN (b.drop k)
          have Q1 := Lib.hid q1
          have Q2 := Lib.hid q2
          have Q3 := Lib.hid q3
          clear q1 q2 q3 hcl hi0
          generalize (rat M (i - 1)).lo = pl at *
          obtain ⟨V, hV⟩ : ∃ V, getV (b.drop k) = V := ⟨_, rfl⟩
          have HV := Lib.hid hV
          rw [hV] at v0 v1
          clear hV
          have hw1 : IntKind.i64.wrap (pl - 2) = pl - 2 := by simp [IntKind.wrap, IntKind.bits, IntKind.signed]; omega
          have hw2 : IntKind.i64.wrap (pl - 2 - V) = pl - 2 - V := by simp [IntKind.wrap, IntKind.bits, IntKind.signed]; omega
          have lq : q < wq.heap.size := HS.out.ls.lt q (by simp [Value.ownBlock])
          trace "D"; go_wp2_with fail
          go_region_law (go_simp; go_at_call 167; refine (AN.out w.heap.size k false _ ?_ HS.out.le (HK.out.later (by refine Since.out ?_; repeat (first | with_reducible assumption | with_reducible exact Since.refl _ | with_reducible refine Since.later ?_ (by with_reducible assumption) | with_reducible refine Since.only ?_ (by with_reducible assumption) (by first | assumption | omega | (simp; done) | (simp; omega)) | with_reducible refine Since.alloc ?_ _ | with_reducible refine Since.drewN ?_ _ | with_reducible refine Since.drew ?_ | with_reducible refine Since.set ?_ (by first | assumption | omega | (simp; done) | (simp; omega)) _)))).mono ?_; (first | exact HBL.out | exact HBL.out.drew); rintro e w3 ⟨rfl, hB3, ho3⟩; rw [HV.out]; have HO3 := Lib.hid (show Only wq w3 w.heap.size from (by first | exact ho3 | exact Only.of_drew ho3)); have HB3 := Lib.hid hB3; have dq3 := HCL.out w3 HO3.out; have lq3 : q < w3.heap.size := Nat.lt_of_lt_of_le lq HO3.out.size_le; clear ho3 hB3)
          all_goals
            go_wp2_with fail
            go_meet
            case rel => exact ⟨by rw [← Q1.out, ← HV.out], by rw [← Q2.out, ← Q3.out]; exact HB3.out, HO3.out⟩
      case rest =>
        obtain ⟨wo, rfl⟩ : ∃ wo : World, wo = wc := ⟨_, rfl⟩
        obtain ⟨rfl, hB, ho⟩ := hcut
        have hbd : -1073741826 ≤ nH b (getV b) i M k ∧ nH b (getV b) i M k ≤ 1073741823 := by
          rcases Nat.eq_zero_or_pos i with h0 | h0
          · rw [← (HNH0.out h0).1]; exact ⟨h1, h2⟩
          · have a1 := HNB.out h0
            have a2 := bits_getN (b.drop k)
            rw [← (HNH1.out h0).1]
            omega
        obtain ⟨b1, b2⟩ := hbd
        have hkl : nK b i k ≤ b.length := by
          rcases Nat.eq_zero_or_pos i with h0 | h0
          · rw [← (HNH0.out h0).2.1]; exact HS.out.le
          · rw [← (HNH1.out h0).2.1]; exact kN_le b HS.out.le
        have HKL := Lib.hid hkl
        have hso : Since w wo := ho.below hs hs.le (Nat.le_refl _)
        have HO := Lib.hid ho
        have HB := Lib.hid hB
        have HSO := Lib.hid (fun (hn : ¬ (nG b i k = true ∧ gok (b.drop (nK b i k)) = true ∧ 0 ≤ nH b (getV b) i M k - getV (b.drop (nK b i k)))) => readA_up (step_no HN2.out hn) (show ((i + 1 : Nat) : Int) ≤ hdM b + 1 by omega))
        have HSY := Lib.hid (fun h1 h2 h3 => step_ok (M := M) HN2.out h1 h2 h3)
        have HMAX := Lib.hid (fun (h : 12 ≤ i) => readA_many (b := b) (by omega))
        clear HNH0 HNH1 HNB HAI HN2 e2 HBL h1 h2 hkl hB ho FIN
        trace "E"; go_wp2_with fail
        refine (AN.out w.heap.size (nK b i k) (!nG b i k) _ HB.out HKL.out (HK.out.later hso)).mono ?_
        rintro e w4 ⟨rfl, hB4, ho4⟩
        have hs4 : Since w w4 := ho4.below hso hso.le (Nat.le_refl _)
        have HO4 := Lib.hid (HO.out.trans ho4)
        have HB4 := Lib.hid hB4
        obtain ⟨v0, v1⟩ := bits_getN (b.drop (nK b i k))
        have hkn := kN_le b HKL.out
        have HKN := Lib.hid hkn
        generalize nH b (getV b) i M k = hh at *
        generalize getV (b.drop (nK b i k)) = V2 at *
        generalize kN (b.drop (nK b i k)) = K2 at *
        generalize gok (b.drop (nK b i k)) = G2 at *
        generalize nK b i k = k1 at *
        generalize nG b i k = G1 at *
        clear hB4 ho4 hkn
        by_cases hlo : hh - V2 < 0
        · have HR := Lib.hid (HSO.out (fun h => by omega))
          trace "F"; go_wp2_with fail
          go_ret3
          exact ⟨none, 0, 0, false, [], rfl, Lst.nil _ _ _, by simp, hs4, by simp [Value.ownBlock], by simp, by rw [HR.out]; rfl⟩
        have hlo' : decide (hh - V2 < 0) = false := by simpa using hlo
        by_cases h12 : 12 ≤ i
        · have HR := Lib.hid (HMAX.out h12)
          have h12' : (12 : Int) ≤ (i : Int) := by omega
          trace "G"; go_wp2_with fail
          go_ret3
          exact ⟨none, 0, 0, false, [], rfl, Lst.nil _ _ _, by simp, hs4, by simp [Value.ownBlock], by simp, by rw [HR.out]; rfl⟩
        have h12' : decide ((12 : Int) ≤ (i : Int)) = false := by simp; omega
        have HML : Hid ((M.map rngRow).length = i) := Lib.hid (by rw [List.length_map, HLN.out])
        have HL4 := Lib.hid (HS.out.ls.kept (Out.of_only HO4.out) (fun k hk hk2 => HS.out.ap (by rw [List.mem_singleton.1 hk2] at hk; exact hk)))
        trace "H"; go_wp2_with (at_builtin; refine wpList_push rfl _ _ 44 rfl 101 2 16 Tryz.elRange2 (.slice A i cap) (M.map rngRow) rfl (HL4.out.alloc _) w4.heap.size 1 [.int .i64 (hh - V2), .int .i64 hh] rfl rfl (rngRow_one ⟨hh - V2, hh⟩).2 (BlockIs.fresh _ _ _) (by rw [HML.out]; omega) ?_; intro q cq w5 hl5 ho5 hq5 hlt5)
        rw [HML.out] at hl5
        have hB5 := ho5.block' (HB4.out.alloc _) HS.out.ap
        have hs5 : Since w w5 := (hs4.alloc _).out' ho5 (fun k hk => HS.out.new k (by rw [blocks_any A 0 0 i cap]; exact hk))
        have hqn : w.heap.size ≤ q ∧ w.heap.size ≠ q := by
          rcases hq5 with h | h
          · exact ⟨HS.out.new q (by rw [blocks_any A 0 0 i cap]; exact h), fun he => HS.out.ap (by rw [he]; exact h)⟩
          · have := HB4.out.lt
            rw [h]
            simp
            omega
        have HST2 : Hid (RdSt w w5 b w.heap.size s (i + 1) (k1 + K2) (!G1 || !G2) hh (some ⟨q, 0, none⟩) cq (M ++ [⟨hh - V2, hh⟩])) := Lib.hid
          { bl := hB5, ls := by rw [List.map_append]; exact hl5
            new := fun k hk => by have : q = k := by simpa [Value.ownBlock] using hk
                                  omega
            ap := fun hk => by have : q = w.heap.size := by simpa [Value.ownBlock] using hk
                               omega
            since := hs5, len := by rw [List.length_append, HLN.out]; rfl
            le := HKN.out
            was := fun h => HSO.out (fun hh => by rw [hh.1, hh.2.1] at h; cases h)
            now := fun h => ⟨HN1.out, HSY.out (by cases G1 <;> simp at h ⊢) (by cases G1 <;> cases G2 <;> simp at h ⊢) (by omega), by omega⟩
            hi0 := fun h => by omega
            hib := ⟨b1, b2⟩
            each := fun r hr => by
              rcases List.mem_append.1 hr with hr | hr
              · exact HS.out.each r hr
              · rw [List.mem_singleton.1 hr]; exact ⟨by show 0 ≤ hh - V2; omega, by show hh - V2 ≤ 1073741823; omega⟩
            up := by omega, few := by omega }
        clear hl5 ho5 hq5 hlt5 hB5 hqn
        trace "I"; go_wp2_with fail
        go_roundw
        case rel => exact ⟨i + 1, _, _, _, some ⟨q, 0, none⟩, cq, _, rfl, by first | rfl | rw [HLN.out], by go_num, HST2.out⟩
        case measure => simp [intOf]; omega

/-- just ranges' bytes -/
def parL (b : List UInt8) : Option (List Rng) := match readA b with | some (L, n) => if n = b.length then some L else none | none => none
def parE (b : List UInt8) : Int := if parL b = none then 2 else 0
def parM (b : List UInt8) : List Rng := (parL b).getD []
theorem parL_none {b : List UInt8} (h : readA b = none) : parL b = none ∧ parE b = 2 ∧ parM b = [] := by
  have e : parL b = none := by unfold parL; rw [h]
  exact ⟨e, by unfold parE; rw [if_pos e], by unfold parM; rw [e]; rfl⟩
theorem parL_yes {b : List UInt8} {L : List Rng} (h : readA b = some (L, b.length)) : parL b = some L ∧ parE b = 0 ∧ parM b = L := by
  have e : parL b = some L := by unfold parL; rw [h]; simp
  exact ⟨e, by unfold parE; rw [e]; simp, by unfold parM; rw [e]; rfl⟩
theorem parL_no {b : List UInt8} {L : List Rng} {n : Nat} (h : readA b = some (L, n)) (hn : n ≠ b.length) : parL b = none ∧ parE b = 2 ∧ parM b = [] := by
  have e : parL b = none := by unfold parL; rw [h]; simp only; rw [if_neg hn]
  exact ⟨e, by unfold parE; rw [if_pos e], by unfold parM; rw [e]; rfl⟩
theorem parL_iff {b : List UInt8} {L : List Rng} : parL b = some L ↔ readA b = some (L, b.length) := by
  constructor
  · intro h
    unfold parL at h
    cases hr : readA b with
    | none => rw [hr] at h; cases h
    | some p =>
      obtain ⟨M, n⟩ := p
      rw [hr] at h
      simp only at h
      by_cases hn : n = b.length
      · rw [if_pos hn] at h; rw [Option.some.inj h, hn]
      · rw [if_neg hn] at h; cases h
  · exact fun h => (parL_yes h).1
end Go.Proofs.YtmfbaijbigodkaaGreatDoor

/-! Slices of ints of the call's own. No condition of its own. -/
namespace Go.Proofs.YtmfbaijbigodkaaGreatDoor
open Go.ChangeShapes Go.WideShapes Go.ChangeAt Go.RowKit
set_option linter.unusedVariables false

def intRow (n : Int) : List Value := [.int .i64 n]
theorem intRow_one (n : Int) : (intRow n).length = 1 ∧ ∀ u ∈ intRow n, u.oneCell' = true := ⟨rfl, by intro u hu; simp [intRow] at hu; rw [hu]; rfl⟩
theorem Tryz.elInt : Elem Tryz.prog 22 3 1 8 := ⟨Tryz.underlying22, ⟨.int .i64 0, rfl, by kernel_rfl⟩, by decide, by decide⟩
theorem flat_ints (zs : List Int) : flat (zs.map intRow) = zs.map (Value.int .i64) := by
  induction zs with
  | nil => rfl
  | cons z r ih => simp only [List.map_cons, flat, List.flatten_cons] at ih ⊢; rw [ih]; rfl
theorem ints_of_lst {w : World} {A : Option Addr} {n cap : Nat} {zs : List Int} (h : Lst w 3 1 (.slice A n cap) (zs.map intRow)) (hb : ∀ z ∈ zs, -9223372036854775808 ≤ z ∧ z ≤ 9223372036854775807) : IntsIn w (.slice A zs.length cap) zs := by
  obtain ⟨A', cap', hv, hc, hm, hA⟩ := h.shape
  rw [List.length_map] at hv hc
  simp only [Value.slice.injEq] at hv
  obtain ⟨rfl, rfl, rfl⟩ := hv
  refine ⟨hb, A, cap, rfl, hc, hm, fun hne => ?_⟩
  rcases hA with ⟨_, h0, _⟩ | ⟨g, rfl⟩
  · simp at h0; exact absurd h0 hne
  · refine ⟨g, 0, rfl, h.lt g (by simp [Value.ownBlock]), fun i hi => ?_⟩
    have := h.cell rfl (i := i) (j := 0) (e := intRow (ith zs i)) (u := .int .i64 (ith zs i)) (by unfold ith; simp [hi, List.getD]) rfl
    simpa using this
end Go.Proofs.YtmfbaijbigodkaaGreatDoor

/-! Contracts of frame.Acked and frame.numbers. Condition: the string's length is an int; the tables hold what the program's text lays. -/
namespace Go.Proofs.YtmfbaijbigodkaaGreatDoor
open Go.ChangeShapes Go.WideShapes Go.ChangeAt Go.RowKit
set_option linter.unusedVariables false

theorem take_unpairs {L : List Rng} {i : Nat} (h : i < L.length) : unpairs (L.take (i + 1)) = unpairs (L.take i) ++ [(rat L i).hi, (rat L i).lo] := by
  rw [take_rat h, unpairs_snoc]
/-- what frame.Acked keeps -/
structure AkSt (w wr : World) (L : List Rng) (i : Nat) (A : Option Addr) (c : Nat) : Prop where
  bl : BlockIs wr (w.heap.size + 1) 93 #[.int .i64 2, .slice A (2 * i) c, .string ⟨#[]⟩]
  br : BlockIs wr w.heap.size 93 #[.int .i64 0, .slice none 0 0, .string ⟨#[]⟩]
  ls : Lst wr 3 1 (.slice A (2 * i) c) ((unpairs (L.take i)).map intRow)
  new : ∀ q, q ∈ blocks (.slice A 0 0) → w.heap.size ≤ q
  since : Since w wr

theorem AkSt.after {w wr w9 : World} {L : List Rng} {i : Nat} {A : Option Addr} {c : Nat} (h : AkSt w wr L i A c) {o1 o2 : Obj} (ho : Out ((wr.alloc o1).alloc o2) w9 (blocks (.slice A (2 * i) c))) :
    Since w w9 ∧ BlockIs w9 (w.heap.size + 1) 93 #[.int .i64 2, .slice A (2 * i) c, .string ⟨#[]⟩] ∧ BlockIs w9 w.heap.size 93 #[.int .i64 0, .slice none 0 0, .string ⟨#[]⟩] := by
  have hl := (h.ls.alloc o1).alloc o2
  have h1 := (h.bl.alloc o1).alloc o2
  have h2 := (h.br.alloc o1).alloc o2
  refine ⟨((h.since.alloc o1).alloc o2).out' ho (fun k hk => h.new k (by rw [blocks_any A 0 0 (2 * i) c]; exact hk)), ho.block' h1 (hl.apart h1 (by decide)), ho.block' h2 (hl.apart h2 (by decide))⟩
set_option maxHeartbeats 1600000 in
set_option maxRecDepth 100000 in
theorem facked (A : Option Addr) (n cap : Nat) (L : List Rng) (w : World) (hn : L.length = n) (hm : n ≤ 100) (h : Rd w 2 (.slice A n cap) (L.map rngRow)) :
    Calls Tryz.prog 48 #[.slice A n cap] w fun e w' => ∃ A' c', e = .returned (.agg #[.int .i64 2, .slice A' (2 * n) c', .string ⟨#[]⟩]) ∧ Lst w' 3 1 (.slice A' (2 * n) c') ((unpairs L).map intRow) ∧ Below w.heap.size w w' ∧ (∀ q, q ∈ blocks (.slice A' 0 0) → w.heap.size ≤ q) := by
  have H := Lib.hid h
  have HN := Lib.hid hn
  have hst : AkSt w ((w.alloc (.cells #[.int .i64 0, .slice none 0 0, .string ⟨#[]⟩] 93)).alloc (.cells #[.int .i64 2, .slice none 0 0, .string ⟨#[]⟩] 93)) L 0 none 0 :=
    ⟨BlockIs.fresh_at (by simp), (BlockIs.fresh _ _ _).alloc _, Lst.nil _ _ _, by simp [Value.ownBlock], (by refine Since.out ?_; repeat (first | with_reducible assumption | with_reducible exact Since.refl _ | with_reducible refine Since.later ?_ (by with_reducible assumption) | with_reducible refine Since.only ?_ (by with_reducible assumption) (by first | assumption | omega | (simp; done) | (simp; omega)) | with_reducible refine Since.alloc ?_ _ | with_reducible refine Since.drewN ?_ _ | with_reducible refine Since.drew ?_ | with_reducible refine Since.set ?_ (by first | assumption | omega | (simp; done) | (simp; omega)) _))⟩
  have HST := Lib.hid hst
  clear h hn hst
  go_enter Tryz.func48, Tryz.ntmps48
  go_wp2_with fail
  go_loopw [9] (fun s9 wr => ∃ (i : Nat) (A' : Option Addr) (c' : Nat), s9 = .int .i64 i ∧ i ≤ n ∧ Hid (AkSt w wr L i A' c')) (fun s9 _ => n - (intOf s9).toNat)
  case atStart => exact ⟨0, none, 0, rfl, Nat.zero_le _, HST⟩
  case round =>
    obtain ⟨i, A', c', rfl, hi, HS⟩ := hrel
    have hs := HS.out.since
    have b0 : wr.cell? ⟨w.heap.size + 1, 0, none⟩ = some (.int .i64 2) := HS.out.bl.cell 0
    have b1 : wr.cell? ⟨w.heap.size + 1, 1, none⟩ = some (.slice A' (2 * i) c') := HS.out.bl.cell 1
    have b2 : wr.cell? ⟨w.heap.size + 1, 2, none⟩ = some (.string ⟨#[]⟩) := HS.out.bl.cell 2
    have lb := HS.out.bl.lt
    have fb := HS.out.bl.free
    by_cases hlt : i < n
    case neg =>
      obtain rfl : i = n := by omega
      have hf : decide ((i : Int) < (i : Int)) = false := by simp
      have r0 : wr.cell? ⟨w.heap.size, 0, none⟩ = some (.int .i64 0) := HS.out.br.cell 0
      have r1 : wr.cell? ⟨w.heap.size, 1, none⟩ = some (.slice none 0 0) := HS.out.br.cell 1
      have r2 : wr.cell? ⟨w.heap.size, 2, none⟩ = some (.string ⟨#[]⟩) := HS.out.br.cell 2
      have lr := HS.out.br.lt
      have fr := HS.out.br.free
      have hz : Hid (L.take i = L) := Lib.hid (by rw [List.take_of_length_le (by rw [HN.out]; exact Nat.le_refl _)])
      trace "A"; go_wp2_with fail
      have HB3 := Lib.hid (((HS.out.br.put 0 (.int .i64 2)).put 1 (.slice A' (2 * i) c')).put 2 (.string ⟨#[]⟩))
      have hs3 : Since w (((wr.setCell ⟨w.heap.size, 0, none⟩ (.int .i64 2)).setCell ⟨w.heap.size, 1, none⟩ (.slice A' (2 * i) c')).setCell ⟨w.heap.size, 2, none⟩ (.string ⟨#[]⟩)) := (by refine Since.out ?_; repeat (first | with_reducible assumption | with_reducible exact Since.refl _ | with_reducible refine Since.later ?_ (by with_reducible assumption) | with_reducible refine Since.only ?_ (by with_reducible assumption) (by first | assumption | omega | (simp; done) | (simp; omega)) | with_reducible refine Since.alloc ?_ _ | with_reducible refine Since.drewN ?_ _ | with_reducible refine Since.drew ?_ | with_reducible refine Since.set ?_ (by first | assumption | omega | (simp; done) | (simp; omega)) _))
      have ho3 : Out wr (((wr.setCell ⟨w.heap.size, 0, none⟩ (.int .i64 2)).setCell ⟨w.heap.size, 1, none⟩ (.slice A' (2 * i) c')).setCell ⟨w.heap.size, 2, none⟩ (.string ⟨#[]⟩)) [w.heap.size] := (((Out.refl _ _).put (p := ⟨w.heap.size, 0, none⟩) (Or.inl (by simp)) _).put (p := ⟨w.heap.size, 1, none⟩) (Or.inl (by simp)) _).put (p := ⟨w.heap.size, 2, none⟩) (Or.inl (by simp)) _
      generalize (((wr.setCell ⟨w.heap.size, 0, none⟩ (.int .i64 2)).setCell ⟨w.heap.size, 1, none⟩ (.slice A' (2 * i) c')).setCell ⟨w.heap.size, 2, none⟩ (.string ⟨#[]⟩)) = w3 at *
      have k0 : w3.cell? ⟨w.heap.size, 0, none⟩ = some (.int .i64 2) := HB3.out.cell 0
      have k1 : w3.cell? ⟨w.heap.size, 1, none⟩ = some (.slice A' (2 * i) c') := HB3.out.cell 1
      have k2 : w3.cell? ⟨w.heap.size, 2, none⟩ = some (.string ⟨#[]⟩) := HB3.out.cell 2
      refine bodyPost_ret (v := .agg #[.int .i64 2, .slice A' (2 * i) c', .string ⟨#[]⟩]) (by simp [results, Tryz.results48, go_sem, k0, k1, k2]) rfl ⟨A', c', rfl, ?_, hs3, HS.out.new⟩
      · have hl := HS.out.ls
        rw [hz.out] at hl
        exact hl.kept ho3 (fun k hk hk2 => HS.out.ls.apart HS.out.br (by decide) (by rw [List.mem_singleton.1 hk2] at hk; exact hk))
    have hlt' : (i : Int) < (n : Int) := by omega
    have hil : i < L.length := by rw [HN.out]; exact hlt
    obtain ⟨b, off, rfl, hbl, hc⟩ := H.out.rng (i := i) hil
    obtain ⟨c0, c1⟩ := hc wr hs i hil
    have lbb : b < wr.heap.size := Nat.lt_of_lt_of_le hbl hs.le
    have HT := Lib.hid (take_unpairs hil)
    have HUL : Hid (((unpairs (L.take i)).map intRow).length = 2 * i) := Lib.hid (by rw [List.length_map, unpairs_len, List.length_take]; omega)
    clear hc hil
    generalize (rat L i).lo = lo at *
    generalize (rat L i).hi = hi2 at *
    have HNEW : Hid (∀ j u, (flat [intRow hi2, intRow lo])[j]? = some u → ((wr.alloc (.cells #[.int .i64 lo, .int .i64 hi2] 101)).alloc (.cells #[.int .i64 hi2, .int .i64 lo] 3)).cell? ((⟨wr.heap.size + 1, 0, none⟩ : Addr).add j) = some u) := Lib.hid (fun j u hj => by
      rw [addr_at, (BlockIs.fresh_at (w := wr.alloc (.cells #[.int .i64 lo, .int .i64 hi2] 101)) (t := 3) (cs := #[.int .i64 hi2, .int .i64 lo]) (by simp)).cell]
      match j, hj with
      | 0, hj => exact hj
      | 1, hj => exact hj
      | _ + 2, hj => simp [intRow] at hj)
    trace "B"; go_wp2_with (at_builtin; (refine wpList_cat rfl _ _ 22 rfl 3 1 8 Tryz.elInt (.slice A' (2 * i) c') ((unpairs (L.take i)).map intRow) rfl ((HS.out.ls.alloc _).alloc _) ⟨wr.heap.size + 1, 0, none⟩ 2 2 [intRow hi2, intRow lo] rfl rfl (by intro e he; simp at he; rcases he with rfl | rfl <;> exact intRow_one _) HNEW.out (by rw [HUL.out]; simp; omega) ?_); intro A9 c9 w9 hl9 ho9 hb9; rw [HUL.out] at hl9 hb9; (try rw [HUL.out]); have HL9 := Lib.hid hl9; have HO9 := Lib.hid ho9; have HBB9 := Lib.hid hb9; obtain ⟨hs9, hB9, hR9⟩ := HS.out.after ho9; have f9 := hB9.free; have l9 := hB9.lt; have e91 : w9.cell? ⟨w.heap.size + 1, 1, none⟩ = some (.slice A' (2 * i) c') := hB9.cell 1; have HB9 := Lib.hid hB9; have HR9 := Lib.hid hR9; clear hl9 ho9 hb9 hB9 hR9)
    trace "C"; go_roundw
    case rel =>
      refine ⟨i + 1, A9, c9, by go_num, by omega, Lib.hid ⟨HB9.out.put 1 _, HR9.out.far (by simp) _, ?_, ?_, (by refine Since.out ?_; repeat (first | with_reducible assumption | with_reducible exact Since.refl _ | with_reducible refine Since.later ?_ (by with_reducible assumption) | with_reducible refine Since.only ?_ (by with_reducible assumption) (by first | assumption | omega | (simp; done) | (simp; omega)) | with_reducible refine Since.alloc ?_ _ | with_reducible refine Since.drewN ?_ _ | with_reducible refine Since.drew ?_ | with_reducible refine Since.set ?_ (by first | assumption | omega | (simp; done) | (simp; omega)) _))⟩⟩
      · rw [HT.out, List.map_append]
        exact HL9.out.kept ((Out.refl w9 [w.heap.size + 1]).put (p := ⟨w.heap.size + 1, 1, none⟩) (Or.inl (by simp)) _) (fun k hk hk2 => HL9.out.apart HB9.out (by decide) (by rw [List.mem_singleton.1 hk2] at hk; exact hk))
      · intro k hk
        rcases HBB9.out k (by rw [blocks_any A9 0 0 (2 * i + 2) c9] at hk; exact hk) with h | h
        · exact HS.out.new k (by rw [blocks_any A' 0 0 (2 * i) c']; exact h)
        · rw [h]; have := hs.le; simp; omega
    case measure => simp [intOf]; omega

set_option maxHeartbeats 3200000 in
set_option maxRecDepth 100000 in
theorem fnumbers (s : ByteArray) (m : Nat) (w : World) (hm : m ≤ 100) (hz : s.size ≤ 9223372036854775807) (hK : KTab w) :
    Calls Tryz.prog 153 #[.string s, .int .i64 m] w fun e w' => ∃ (A : Option Addr) (cap k : Nat) (ok : Bool) (L : List Int), e = .returned (.tuple #[.slice A L.length cap, .int .i64 k, .bool ok]) ∧ Lst w' 3 1 (.slice A L.length cap) (L.map intRow) ∧ Below w.heap.size w w' ∧ (∀ q, q ∈ blocks (.slice A 0 0) → w.heap.size ≤ q) ∧ numUp s.data.toList 0 m = (if ok = true then some (L, k) else none) ∧ (ok = false → L = []) := by
  have HK := Lib.hid hK
  have HZ := Lib.hid hz
  have VG := Lib.hid (fun (k : Nat) (W : World) hW => vget_any (s.extract k s.size) (Nat.le_trans (str_drop_size s k) hz) W hW)
  have GD := Lib.hid (fun k => getR_drop s k)
  have hsz : s.data.toList.length = s.size := rfl
  obtain ⟨b, hb⟩ : ∃ b, s.data.toList = b := ⟨_, rfl⟩
  rw [hb] at hsz ⊢
  have GD2 : Hid (∀ k, getR (s.extract k s.size) = .tuple #[.int .i64 (getV (b.drop k)), .int .i64 (kN (b.drop k) : Nat), errV (getE (b.drop k))]) := Lib.hid (fun k => by rw [GD.out, hb, kN_eq])
  have HBL := Lib.hid hsz
  clear hK hb hsz GD
  go_enter Tryz.func153, Tryz.ntmps153
  go_wp2_with fail
  go_loopw [7, 8, 13] (fun s7 s8 s13 wr => ∃ (i k : Nat) (A : Option Addr) (c : Nat) (L : List Int), s7 = .slice A i c ∧ s8 = .int .i64 k ∧ s13 = .int .i64 i ∧ i ≤ m ∧ Hid (numUp b 0 i = some (L, k)) ∧ Hid (Lst wr 3 1 (.slice A i c) (L.map intRow)) ∧ Hid (∀ q, q ∈ blocks (.slice A 0 0) → w.heap.size ≤ q) ∧ Since w wr) (fun _ _ s13 _ => m - (intOf s13).toNat)
  case atStart => exact ⟨0, 0, none, 0, [], rfl, rfl, rfl, Nat.zero_le _, Lib.hid rfl, Lib.hid (Lst.nil _ _ _), Lib.hid (by simp [Value.ownBlock]), Since.refl _⟩
  case round =>
    obtain ⟨i, k, A, c, L, rfl, rfl, rfl, hi, HU, HL, HN, hs⟩ := hrel
    obtain ⟨u1, u2, u3, u4⟩ := numUp_inv (Nat.zero_le _) i L k HU.out
    have HLEN := Lib.hid u1
    rw [HBL.out] at u2
    have hku : (k : Int) ≤ (s.size : Int) := by omega
    clear u1 u3 u4
    by_cases hlt : i < m
    case neg =>
      obtain rfl : i = m := by omega
      have hf : decide ((i : Int) < (i : Int)) = false := by simp
      trace "A"; go_wp2_with fail
      go_ret3
      exact ⟨A, c, k, true, L, by rw [HLEN.out]; rfl, by rw [HLEN.out]; exact HL.out, hs, HN.out, by rw [HU.out]; rfl, fun h => by cases h⟩
    have hlt' : (i : Int) < (m : Int) := by omega
    have VG2 := Lib.hid (VG.out k _ (HK.out.later hs))
    rw [GD2.out] at VG2
    by_cases hg : getOk (b.drop k)
    · obtain ⟨g1, g2, g3, g4⟩ := gok_yes hg
      rw [g4, errV_zero] at VG2
      have HNX := Lib.hid (numUp_yes HU.out hg)
      have hkn : Hid (kN (b.drop k) = getC (b.drop k)) := Lib.hid (by unfold kN; rw [if_pos hg])
      rw [← g2, ← hkn.out] at HNX
      have hb4 := kN_le b (k := k) (by rw [HBL.out]; exact u2)
      rw [HBL.out] at hb4
      obtain ⟨v0, v1⟩ := bits_getN (b.drop k)
      have hk2 : (k : Int) + (kN (b.drop k) : Int) = ((k + kN (b.drop k) : Nat) : Int) := by omega
      have hk3 : k + kN (b.drop k) ≤ 9223372036854775807 := by omega
      have HML : Hid ((L.map intRow).length = i) := Lib.hid (by rw [List.length_map, HLEN.out])
      clear g1 g2 g3 g4 hg hkn
      generalize getV (b.drop k) = V at *
      generalize kN (b.drop k) = kk at *
      obtain ⟨k4, hk4⟩ : ∃ k4, k + kk = k4 := ⟨_, rfl⟩
      rw [hk4] at hk2 hk3 HNX hb4
      clear hk4
      trace "B"; go_wp2_with fail
      refine VG2.out.mono ?_
      rintro e w1 ⟨rfl, hb1⟩
      have hs1 := hs.later hb1
      have HL1 := Lib.hid (HL.out.later hb1)
      clear hb1
      trace "C"; go_wp2_with (at_builtin; refine wpList_push rfl _ _ 22 rfl 3 1 8 Tryz.elInt (.slice A i c) (L.map intRow) rfl (HL1.out.alloc _) w1.heap.size 1 [.int .i64 V] rfl rfl (intRow_one V).2 (BlockIs.fresh _ _ _) (by rw [HML.out]; omega) ?_; intro q cq w5 hl5 ho5 hq5 hlt5)
      rw [HML.out] at hl5
      have hs5 : Since w w5 := (hs1.alloc _).out' ho5 (fun k hk => HN.out k (by rw [blocks_any A 0 0 i c]; exact hk))
      have HN5 : Hid (∀ j, j ∈ blocks (.slice (some ⟨q, 0, none⟩) 0 0) → w.heap.size ≤ j) := Lib.hid (fun j hj => by
        have hj' : q = j := by simpa [Value.ownBlock] using hj
        rcases hq5 with h | h
        · rw [← hj']; exact HN.out q (by rw [blocks_any A 0 0 i c]; exact h)
        · rw [← hj', h]; have := hs1.le; simp; omega)
      have HL5 : Hid (Lst w5 3 1 (.slice (some ⟨q, 0, none⟩) (i + 1) cq) ((L ++ [V]).map intRow)) := Lib.hid (by rw [List.map_append]; exact hl5)
      clear hl5 ho5 hq5 hlt5
      trace "D"; go_wp2_with fail
      go_roundw
      case rel => exact ⟨i + 1, k4, some ⟨q, 0, none⟩, cq, L ++ [V], by first | rfl | rw [HML.out] | rw [HLEN.out], rfl, by go_num, by omega, HNX, HL5, HN5, hs5⟩
      case measure => simp [intOf]; omega
    · obtain ⟨g1, g2, g3, g4⟩ := gok_no hg
      rw [g4, errV_pos (by decide)] at VG2
      have HR := Lib.hid (numUp_none (numUp_no HU.out hg) m (by omega))
      clear g1 g2 g3 g4 hg
      trace "E"; go_wp2_with fail
      refine VG2.out.mono ?_
      rintro e w1 ⟨rfl, hb1⟩
      have hs1 := hs.later hb1
      go_wp2_with fail
      go_ret3
      exact ⟨none, 0, 0, false, [], rfl, Lst.nil _ _ _, hs1, by simp [Value.ownBlock], by rw [HR.out]; rfl, fun _ => rfl⟩
end Go.Proofs.YtmfbaijbigodkaaGreatDoor

/-! Contracts of frame.rest and frame.Parse. Condition: the string's length is an int; the tables hold what the program's text lays. -/
namespace Go.Proofs.YtmfbaijbigodkaaGreatDoor
open Go.ChangeShapes Go.WideShapes Go.ChangeAt Go.RowKit
set_option linter.unusedVariables false

theorem st3 {W : World} {g : Nat} {t : TypeId} {x y z : Value} (h : BlockIs W g t #[x, y, z]) (a b c : Value) : BlockIs (((W.setCell ⟨g, 0, none⟩ a).setCell ⟨g, 1, none⟩ b).setCell ⟨g, 2, none⟩ c) g t #[a, b, c] := ((h.put 0 a).put 1 b).put 2 c
theorem out3 (W : World) (g : Nat) (a b c : Value) : Out W (((W.setCell ⟨g, 0, none⟩ a).setCell ⟨g, 1, none⟩ b).setCell ⟨g, 2, none⟩ c) [g] := (((Out.refl _ _).put (p := ⟨g, 0, none⟩) (Or.inl (by simp)) _).put (p := ⟨g, 1, none⟩) (Or.inl (by simp)) _).put (p := ⟨g, 2, none⟩) (Or.inl (by simp)) _
theorem Lst.far {w w' : World} {E size g : Nat} {v : Value} {es : List (List Value)} {t : TypeId} {cs : Array Value} (h : Lst w E size v es) (hb : BlockIs w g t cs) (ht : t ≠ E) (ho : Out w w' [g]) : Lst w' E size v es :=
  h.kept ho (fun k hk hk2 => h.apart hb ht (by rw [List.mem_singleton.1 hk2] at hk; exact hk))
/-- where numbers lie is new -/
def newA (A : Option Addr) (g : Nat) : Prop := ∀ b off, A = some ⟨b, off, none⟩ → g ≤ b
theorem newA_of {w : World} {E k g n c : Nat} {A : Option Addr} {es : List (List Value)} (h : Lst w E k (.slice A n c) es) (hn : ∀ q, q ∈ blocks (.slice A 0 0) → g ≤ q) : newA A g := by
  intro b off hA
  obtain ⟨A', cap', hv, _, _, hs⟩ := h.shape
  simp only [Value.slice.injEq] at hv
  obtain ⟨rfl, _⟩ := hv
  rcases hs with ⟨h0, _⟩ | ⟨q, rfl⟩
  · rw [h0] at hA; cases hA
  · have hq : q = b := by injection hA with h1; injection h1
    exact hq ▸ hn q (by simp [Value.ownBlock])
theorem newA_le {A : Option Addr} {g g' : Nat} (h : newA A g) (hl : g' ≤ g) : newA A g' := fun b off hA => Nat.le_trans hl (h b off hA)
theorem empty_str : (⟨#[]⟩ : ByteArray) = ByteArray.empty := ba_ext rfl
theorem cnt_read {k : Nat} (h1 : 1 ≤ k) (h8 : k ≤ 8) (h2 : k ≠ 2) : cntK k + (if k = 3 then 1 else 0) = (readK k : Nat) := by
  match k, h1, h8, h2 with
  | 1, _, _, _ => rfl
  | 3, _, _, _ => rfl
  | 4, _, _, _ => rfl
  | 5, _, _, _ => rfl
  | 6, _, _, _ => rfl
  | 7, _, _, _ => rfl
  | 8, _, _, _ => rfl
theorem frmIn_of {w : World} {f : Frm} {A : Option Addr} {c n : Nat} (hE : frmE f = 0) (h : Lst w 3 1 (.slice A n c) (f.nums.map intRow)) (hd : f.data.size ≤ 20) : FrmIn w ⟨f, A, c⟩ := by
  obtain ⟨⟨k1, k8⟩, _, hm, _, _⟩ := frmE_out hE
  refine ⟨by unfold okI; simp only; omega, by unfold maxLen; simp only; omega, ints_of_lst h (fun z hz => by have := hm z hz; unfold MayBe at this; omega)⟩
theorem restF_ack (b : List UInt8) : restF 2 b = match readA b with | none => none | some (L, n) => some (⟨2, unpairs L, ByteArray.empty⟩, n) := by unfold restF; rw [if_pos rfl]; cases readA b <;> rfl
theorem restF_num {k : Int} (h : k ≠ 2) {b : List UInt8} (hn : numUp b 0 (readK k) = none) : restF k b = none := by unfold restF; rw [if_neg h, hn]
theorem restF_plain {k : Int} (h : k ≠ 2) (h3 : k ≠ 3) {b : List UInt8} {L : List Int} {n : Nat} (hn : numUp b 0 (readK k) = some (L, n)) : restF k b = some (⟨k, L, ByteArray.empty⟩, n) := by unfold restF; rw [if_neg h, hn]; simp only; rw [if_neg h3]
theorem restF_no {b : List UInt8} {L : List Int} {n : Nat} (hn : numUp b 0 (readK 3) = some (L, n)) (hx : ¬ (ith L 1 ≤ 20 ∧ (n : Int) + ith L 1 ≤ b.length)) : restF 3 b = none := by unfold restF; rw [if_neg (by decide), hn]; simp only; rw [if_pos trivial, if_neg hx]
theorem restF_yes {b : List UInt8} {L : List Int} {n : Nat} (hn : numUp b 0 (readK 3) = some (L, n)) (hx : ith L 1 ≤ 20 ∧ (n : Int) + ith L 1 ≤ b.length) : restF 3 b = some (⟨3, [ith L 0], ⟨((b.drop n).take (ith L 1).toNat).toArray⟩⟩, n + (ith L 1).toNat) := by unfold restF; rw [if_neg (by decide), hn]; simp only; rw [if_pos trivial, if_pos hx]

set_option maxHeartbeats 6400000 in
set_option maxRecDepth 100000 in
theorem frest_ack (s : ByteArray) (w : World) (hz : s.size ≤ 9223372036854775807) (hK : KTab w) :
    Calls Tryz.prog 131 #[.int .i64 2, .string s] w fun e w' => ∃ (p : FrmV) (n : Nat) (ok : Bool), e = .returned (.tuple #[p.agg, .int .i64 n, .bool ok]) ∧ Below w.heap.size w w' ∧ (ok = true → FrmIn w' p) ∧ newA p.A w.heap.size ∧ restF 2 s.data.toList = if ok = true then some (p.f, n) else none := by
  have HK := Lib.hid hK
  have HZ := Lib.hid hz
  have HB0 := Lib.hid (BlockIs.fresh w 93 #[.int .i64 0, .slice none 0 0, .string ⟨#[]⟩])
  have HS0 := Lib.hid (show Since w (w.alloc (.cells #[.int .i64 0, .slice none 0 0, .string ⟨#[]⟩] 93)) from (Since.refl w).alloc _)
  have HRA := Lib.hid (restF_ack s.data.toList)
  clear hK
  go_enter Tryz.func131, Tryz.ntmps131
  trace "A"; go_wp2_with fail
  refine (aread s _ HZ.out (HK.out.later HS0.out)).mono ?_
  rintro e w1 ⟨A, cap, k, ok, M, rfl, hl, hM, hb1, hn1, he1, hr1⟩
  have HL1 := Lib.hid hl
  have HR1 := Lib.hid hr1
  have hs1 := HS0.out.later hb1
  have HB1 := Lib.hid (HB0.out.later hb1)
  clear hl hb1 hn1 he1 hr1
  go_wp2_with fail
  refine (facked A M.length cap M _ rfl (by omega) (Rd.of_lst HL1.out)).mono ?_
  rintro e w2 ⟨A2, c2, rfl, hl2, hb2, hn2⟩
  have HL2 := Lib.hid hl2
  have HNW := Lib.hid (newA_le (newA_of hl2 hn2) hs1.le)
  have hs2 := hs1.later hb2
  have HB2 := Lib.hid (HB1.out.later hb2)
  have r0 : w2.cell? ⟨w.heap.size, 0, none⟩ = some (.int .i64 0) := HB2.out.cell 0
  have r1 : w2.cell? ⟨w.heap.size, 1, none⟩ = some (.slice none 0 0) := HB2.out.cell 1
  have r2 : w2.cell? ⟨w.heap.size, 2, none⟩ = some (.string ⟨#[]⟩) := HB2.out.cell 2
  have l2 := HB2.out.lt
  have f2 := HB2.out.free
  clear hl2 hb2 hn2 hs1
  trace "B"; go_wp2_with fail
  have HB3 := Lib.hid (st3 HB2.out (.int .i64 2) (.slice A2 (2 * M.length) c2) (.string ⟨#[]⟩))
  have HO3 := Lib.hid (out3 w2 w.heap.size (.int .i64 2) (.slice A2 (2 * M.length) c2) (.string ⟨#[]⟩))
  have hs3 := hs2.out' HO3.out (fun k hk => by have : k = w.heap.size := by simpa using hk
                                               omega)
  generalize (((w2.setCell ⟨w.heap.size, 0, none⟩ (.int .i64 2)).setCell ⟨w.heap.size, 1, none⟩ (.slice A2 (2 * M.length) c2)).setCell ⟨w.heap.size, 2, none⟩ (.string ⟨#[]⟩)) = w3 at *
  have k0 : w3.cell? ⟨w.heap.size, 0, none⟩ = some (.int .i64 2) := HB3.out.cell 0
  have k1 : w3.cell? ⟨w.heap.size, 1, none⟩ = some (.slice A2 (2 * M.length) c2) := HB3.out.cell 1
  have k2 : w3.cell? ⟨w.heap.size, 2, none⟩ = some (.string ⟨#[]⟩) := HB3.out.cell 2
  refine bodyPost_ret (v := .tuple #[.agg #[.int .i64 2, .slice A2 (2 * M.length) c2, .string ⟨#[]⟩], .int .i64 k, .bool ok]) (by simp [results, Tryz.results131, go_sem, k0, k1, k2]) rfl ⟨⟨⟨2, unpairs M, ByteArray.empty⟩, A2, c2⟩, k, ok, ?_, hs3, ?_, HNW.out, ?_⟩
  · unfold FrmV.agg
    simp only [unpairs_len, empty_str]
  · intro hok
    have hrd : restF 2 s.data.toList = some (⟨2, unpairs M, ByteArray.empty⟩, k) := by rw [HRA.out, HR1.out, if_pos hok]
    exact frmIn_of (restF_inv (by decide) (by decide) hrd).1 (HL2.out.far HB2.out (by decide) HO3.out) (by simp)
  · rw [HRA.out, HR1.out]
    cases ok <;> rfl

set_option maxHeartbeats 6400000 in
set_option maxRecDepth 100000 in
theorem frest_num (kk : Nat) (s : ByteArray) (w : World) (g1 : 1 ≤ kk) (g8 : kk ≤ 8) (g2 : kk ≠ 2) (g3 : kk ≠ 3) (hz : s.size ≤ 9223372036854775807) (hK : KTab w) (hC : CTab w) :
    Calls Tryz.prog 131 #[.int .i64 kk, .string s] w fun e w' => ∃ (p : FrmV) (n : Nat) (ok : Bool), e = .returned (.tuple #[p.agg, .int .i64 n, .bool ok]) ∧ Below w.heap.size w w' ∧ (ok = true → FrmIn w' p) ∧ newA p.A w.heap.size ∧ restF kk s.data.toList = if ok = true then some (p.f, n) else none := by
  have HK := Lib.hid hK
  have HB0 := Lib.hid (BlockIs.fresh w 93 #[.int .i64 0, .slice none 0 0, .string ⟨#[]⟩])
  have HS0 := Lib.hid (show Since w (w.alloc (.cells #[.int .i64 0, .slice none 0 0, .string ⟨#[]⟩] 93)) from (Since.refl w).alloc _)
  have hcc := hC kk (by omega)
  have hgl := hC.lt
  have hcr := cnt_read g1 g8 g2
  rw [if_neg g3, Int.add_zero] at hcr
  rw [hcr] at hcc
  have hr2 : readK kk ≤ 2 := by unfold readK; split <;> (try split) <;> (try split) <;> omega
  have FN := Lib.hid (fun W hW => fnumbers s (readK kk) W (by omega) hz hW)
  have HQ2 : Hid ((kk : Int) ≠ 2) := Lib.hid (by omega)
  have HQ3 : Hid ((kk : Int) ≠ 3) := Lib.hid (by omega)
  have q2 : ((kk : Int) == 2) = false := by simp; omega
  have q3 : ((kk : Int) == 3) = false := by simp; omega
  have q3' : ((kk : Int) != 3) = true := by simp; omega
  obtain ⟨m, hm⟩ : ∃ m, readK kk = m := ⟨_, rfl⟩
  have HRM := Lib.hid hm
  rw [hm] at FN hr2 hcc
  clear hK hC hcr g2 g3 hm
  go_enter Tryz.func131, Tryz.ntmps131
  trace "A"; go_wp2_with fail
  refine (FN.out _ (HK.out.later HS0.out)).mono ?_
  rintro e w1 ⟨A, c, k, ok, L, rfl, hl, hb1, hn1, hr1, hbad⟩
  have HL1 := Lib.hid hl
  have HNW := Lib.hid (newA_le (newA_of hl hn1) HS0.out.le)
  have HR1 := Lib.hid hr1
  have HB := Lib.hid hbad
  have hs1 := HS0.out.later hb1
  have HBR1 := Lib.hid (HB0.out.later hb1)
  clear hl hb1 hn1 hr1 hbad
  have r0 : w1.cell? ⟨w.heap.size, 0, none⟩ = some (.int .i64 0) := HBR1.out.cell 0
  have r1 : w1.cell? ⟨w.heap.size, 1, none⟩ = some (.slice none 0 0) := HBR1.out.cell 1
  have r2 : w1.cell? ⟨w.heap.size, 2, none⟩ = some (.string ⟨#[]⟩) := HBR1.out.cell 2
  have l2 := HBR1.out.lt
  have f2 := HBR1.out.free
  cases ok with
  | false =>
    obtain rfl : L = [] := HB.out rfl
    trace "B"; go_wp2_with fail
    have HB3 := Lib.hid ((st3 HBR1.out (.int .i64 kk) (.slice A 0 c) (.string ⟨#[]⟩)).alloc (.cells #[.int .i64 kk, .slice A 0 c, .string ⟨#[]⟩] 93))
    have HO3 := Lib.hid ((out3 w1 w.heap.size (.int .i64 kk) (.slice A 0 c) (.string ⟨#[]⟩)).alloc (.cells #[.int .i64 kk, .slice A 0 c, .string ⟨#[]⟩] 93))
    have hs3 := hs1.out' HO3.out (fun k hk => by have : k = w.heap.size := by simpa using hk
                                                 omega)
    generalize ((((w1.setCell ⟨w.heap.size, 0, none⟩ (.int .i64 kk)).setCell ⟨w.heap.size, 1, none⟩ (.slice A 0 c)).setCell ⟨w.heap.size, 2, none⟩ (.string ⟨#[]⟩)).alloc (.cells #[.int .i64 kk, .slice A 0 c, .string ⟨#[]⟩] 93)) = w3 at *
    have k0 : w3.cell? ⟨w.heap.size, 0, none⟩ = some (.int .i64 kk) := HB3.out.cell 0
    have k1 : w3.cell? ⟨w.heap.size, 1, none⟩ = some (.slice A 0 c) := HB3.out.cell 1
    have k2 : w3.cell? ⟨w.heap.size, 2, none⟩ = some (.string ⟨#[]⟩) := HB3.out.cell 2
    refine bodyPost_ret (v := .tuple #[.agg #[.int .i64 kk, (.slice A 0 c), .string ⟨#[]⟩], .int .i64 k, .bool false]) (by simp [results, Tryz.results131, go_sem, k0, k1, k2]) rfl ⟨⟨⟨kk, [], ByteArray.empty⟩, A, c⟩, k, false, ?_, hs3, ?_, HNW.out, ?_⟩

    · unfold FrmV.agg
      simp only [List.length_nil, empty_str]
    · intro h; cases h
    · rw [restF_num HQ2.out (by rw [HRM.out, HR1.out]; rfl)]; rfl
  | true =>
    have hrf := restF_plain HQ2.out HQ3.out (L := L) (n := k) (by rw [HRM.out, HR1.out]; rfl)
    have HRF := Lib.hid hrf
    clear hrf
    trace "C"; go_wp2_with fail
    have HB3 := Lib.hid ((st3 HBR1.out (.int .i64 kk) (.slice A L.length c) (.string ⟨#[]⟩)).alloc (.cells #[.int .i64 kk, .slice A L.length c, .string ⟨#[]⟩] 93))
    have HO3 := Lib.hid ((out3 w1 w.heap.size (.int .i64 kk) (.slice A L.length c) (.string ⟨#[]⟩)).alloc (.cells #[.int .i64 kk, .slice A L.length c, .string ⟨#[]⟩] 93))
    have hs3 := hs1.out' HO3.out (fun k hk => by have : k = w.heap.size := by simpa using hk
                                                 omega)
    generalize ((((w1.setCell ⟨w.heap.size, 0, none⟩ (.int .i64 kk)).setCell ⟨w.heap.size, 1, none⟩ (.slice A L.length c)).setCell ⟨w.heap.size, 2, none⟩ (.string ⟨#[]⟩)).alloc (.cells #[.int .i64 kk, .slice A L.length c, .string ⟨#[]⟩] 93)) = w3 at *
    have k0 : w3.cell? ⟨w.heap.size, 0, none⟩ = some (.int .i64 kk) := HB3.out.cell 0
    have k1 : w3.cell? ⟨w.heap.size, 1, none⟩ = some (.slice A L.length c) := HB3.out.cell 1
    have k2 : w3.cell? ⟨w.heap.size, 2, none⟩ = some (.string ⟨#[]⟩) := HB3.out.cell 2
    refine bodyPost_ret (v := .tuple #[.agg #[.int .i64 kk, (.slice A L.length c), .string ⟨#[]⟩], .int .i64 k, .bool true]) (by simp [results, Tryz.results131, go_sem, k0, k1, k2]) rfl ⟨⟨⟨kk, L, ByteArray.empty⟩, A, c⟩, k, true, ?_, hs3, ?_, HNW.out, ?_⟩

    · unfold FrmV.agg
      simp only [empty_str]
    · intro _
      exact frmIn_of (restF_inv (by omega) (by omega) HRF.out).1 (HL1.out.far HBR1.out (by decide) HO3.out) (by simp)
    · rw [HRF.out]; rfl

set_option maxHeartbeats 6400000 in
set_option maxRecDepth 100000 in
theorem frest_str (s : ByteArray) (w : World) (hz2 : s.size ≤ 9223372036854775707) (hK : KTab w) (hC : CTab w) :
    Calls Tryz.prog 131 #[.int .i64 3, .string s] w fun e w' => ∃ (p : FrmV) (n : Nat) (ok : Bool), e = .returned (.tuple #[p.agg, .int .i64 n, .bool ok]) ∧ Below w.heap.size w w' ∧ (ok = true → FrmIn w' p) ∧ newA p.A w.heap.size ∧ restF 3 s.data.toList = if ok = true then some (p.f, n) else none := by
  have hz : s.size ≤ 9223372036854775807 := by omega
  have HZ2 := Lib.hid hz2
  have HK := Lib.hid hK
  have HB0 := Lib.hid (BlockIs.fresh w 93 #[.int .i64 0, .slice none 0 0, .string ⟨#[]⟩])
  have HS0 := Lib.hid (show Since w (w.alloc (.cells #[.int .i64 0, .slice none 0 0, .string ⟨#[]⟩] 93)) from (Since.refl w).alloc _)
  have hcc := hC 3 (by omega)
  have hgl := hC.lt
  rw [show cntK 3 = 1 from rfl] at hcc
  have FN : Hid (∀ W : World, KTab W → Calls Tryz.prog 153 #[.string s, .int .i64 2] W fun e w' => ∃ (A : Option Addr) (cap k : Nat) (ok : Bool) (L : List Int), e = .returned (.tuple #[.slice A L.length cap, .int .i64 k, .bool ok]) ∧ Lst w' 3 1 (.slice A L.length cap) (L.map intRow) ∧ Below W.heap.size W w' ∧ (∀ q, q ∈ blocks (.slice A 0 0) → W.heap.size ≤ q) ∧ numUp s.data.toList 0 2 = (if ok = true then some (L, k) else none) ∧ (ok = false → L = [])) := Lib.hid (fun W hW => fnumbers s 2 W (by omega) hz hW)
  have HRM : Hid (readK 3 = 2) := Lib.hid rfl
  have HZ := Lib.hid hz
  clear hK hC hz2
  go_enter Tryz.func131, Tryz.ntmps131
  trace "A"; go_wp2_with fail
  refine (FN.out _ (HK.out.later HS0.out)).mono ?_
  rintro e w1 ⟨A, c, k, ok, L, rfl, hl, hb1, hn1, hr1, hbad⟩
  have HL1 := Lib.hid hl
  have HNW := Lib.hid (newA_le (newA_of hl hn1) HS0.out.le)
  have HR1 := Lib.hid hr1
  have HB := Lib.hid hbad
  have hs1 := HS0.out.later hb1
  have HBR1 := Lib.hid (HB0.out.later hb1)
  clear hl hb1 hn1 hr1 hbad
  have r0 : w1.cell? ⟨w.heap.size, 0, none⟩ = some (.int .i64 0) := HBR1.out.cell 0
  have r1 : w1.cell? ⟨w.heap.size, 1, none⟩ = some (.slice none 0 0) := HBR1.out.cell 1
  have r2 : w1.cell? ⟨w.heap.size, 2, none⟩ = some (.string ⟨#[]⟩) := HBR1.out.cell 2
  have l2 := HBR1.out.lt
  have f2 := HBR1.out.free
  cases ok with
  | false =>
    obtain rfl : L = [] := HB.out rfl
    trace "B"; go_wp2_with fail
    have HB3 := Lib.hid ((st3 HBR1.out (.int .i64 3) (.slice A 0 c) (.string ⟨#[]⟩)).alloc (.cells #[.int .i64 3, .slice A 0 c, .string ⟨#[]⟩] 93))
    have HO3 := Lib.hid ((out3 w1 w.heap.size (.int .i64 3) (.slice A 0 c) (.string ⟨#[]⟩)).alloc (.cells #[.int .i64 3, .slice A 0 c, .string ⟨#[]⟩] 93))
    have hs3 := hs1.out' HO3.out (fun k hk => by have : k = w.heap.size := by simpa using hk
                                                 omega)
    generalize ((((w1.setCell ⟨w.heap.size, 0, none⟩ (.int .i64 3)).setCell ⟨w.heap.size, 1, none⟩ (.slice A 0 c)).setCell ⟨w.heap.size, 2, none⟩ (.string ⟨#[]⟩)).alloc (.cells #[.int .i64 3, .slice A 0 c, .string ⟨#[]⟩] 93)) = w3 at *
    have k0 : w3.cell? ⟨w.heap.size, 0, none⟩ = some (.int .i64 3) := HB3.out.cell 0
    have k1 : w3.cell? ⟨w.heap.size, 1, none⟩ = some (.slice A 0 c) := HB3.out.cell 1
    have k2 : w3.cell? ⟨w.heap.size, 2, none⟩ = some (.string ⟨#[]⟩) := HB3.out.cell 2
    refine bodyPost_ret (v := .tuple #[.agg #[.int .i64 3, (.slice A 0 c), .string ⟨#[]⟩], .int .i64 k, .bool false]) (by simp [results, Tryz.results131, go_sem, k0, k1, k2]) rfl ⟨⟨⟨3, [], ByteArray.empty⟩, A, c⟩, k, false, ?_, hs3, ?_, HNW.out, ?_⟩

    · unfold FrmV.agg
      simp only [List.length_nil, empty_str]
    · intro h; cases h
    · rw [restF_num (by decide : (3 : Int) ≠ 2) (by rw [HRM.out, HR1.out]; rfl)]; rfl
  | true =>
    have hsz : s.data.toList.length = s.size := rfl
    have HNU := Lib.hid (show numUp s.data.toList 0 (readK 3) = some (L, k) by rw [HRM.out, HR1.out]; rfl)
    obtain ⟨a1, a2, a3, a4⟩ := numUp_inv (Nat.zero_le _) 2 L k (by rw [HR1.out]; rfl)
    rw [hsz] at a2
    have HNO := Lib.hid (fun h => restF_no HNU.out h)
    have HYES := Lib.hid (fun h => restF_yes HNU.out h)
    match L, a1 with
    | [x, y], _ =>
    obtain ⟨y0, y1⟩ := a4 y (by simp)
    obtain ⟨x0, x1⟩ := a4 x (by simp)
    obtain ⟨l, rfl⟩ : ∃ l : Nat, y = l := ⟨y.toNat, by omega⟩
    simp only [show ith [x, (l : Int)] 1 = (l : Int) from rfl, show ith [x, (l : Int)] 0 = x from rfl, Int.toNat_natCast, hsz] at HNO HYES
    obtain ⟨A', cap', hve, hcap, hmx, hA⟩ := HL1.out.shape
    simp only [List.map_cons, List.map_nil, List.length_cons, List.length_nil, Value.slice.injEq] at hve
    obtain ⟨rfl, _, rfl⟩ := hve
    rcases hA with ⟨_, h0, _⟩ | ⟨q, rfl⟩
    · simp at h0
    have e0 : w1.cell? ⟨q, 0, none⟩ = some (.int .i64 x) := HL1.out.cell rfl (i := 0) (j := 0) rfl rfl
    have e1 : w1.cell? ⟨q, 1, none⟩ = some (.int .i64 l) := HL1.out.cell rfl (i := 1) (j := 0) rfl rfl
    have lq : q < w1.heap.size := HL1.out.lt q (by simp [Value.ownBlock])
    have hc2 : (1 : Int) ≤ (c : Int) := by simp at hcap; omega
    have hc3 : 2 ≤ c := by simpa using hcap
    unfold maxLen at hmx
    have hzz := HZ.out
    have hkk : k ≤ 9223372036854775807 := by omega
    clear a3 a4 hcap
    by_cases h20 : 20 < l
    · have h20' : (20 : Int) < (l : Int) := by omega
      have HR := Lib.hid (HNO.out (by omega))
      trace "P"; go_wp2_with fail
      have HB3 := Lib.hid ((st3 HBR1.out (.int .i64 3) (.slice (some ⟨q, 0, none⟩) 1 c) (.string ⟨#[]⟩)).alloc (.cells #[.int .i64 3, .slice (some ⟨q, 0, none⟩) 1 c, .string ⟨#[]⟩] 93))
      have HO3 := Lib.hid ((out3 w1 w.heap.size (.int .i64 3) (.slice (some ⟨q, 0, none⟩) 1 c) (.string ⟨#[]⟩)).alloc (.cells #[.int .i64 3, .slice (some ⟨q, 0, none⟩) 1 c, .string ⟨#[]⟩] 93))
      have hs3 := hs1.out' HO3.out (fun k hk => by have : k = w.heap.size := by simpa using hk
                                                   omega)
      generalize ((((w1.setCell ⟨w.heap.size, 0, none⟩ (.int .i64 3)).setCell ⟨w.heap.size, 1, none⟩ (.slice (some ⟨q, 0, none⟩) 1 c)).setCell ⟨w.heap.size, 2, none⟩ (.string ⟨#[]⟩)).alloc (.cells #[.int .i64 3, .slice (some ⟨q, 0, none⟩) 1 c, .string ⟨#[]⟩] 93)) = w3 at *
      have k0 : w3.cell? ⟨w.heap.size, 0, none⟩ = some (.int .i64 3) := HB3.out.cell 0
      have k1 : w3.cell? ⟨w.heap.size, 1, none⟩ = some (.slice (some ⟨q, 0, none⟩) 1 c) := HB3.out.cell 1
      have k2 : w3.cell? ⟨w.heap.size, 2, none⟩ = some (.string ⟨#[]⟩) := HB3.out.cell 2
      refine bodyPost_ret (v := .tuple #[.agg #[.int .i64 3, (.slice (some ⟨q, 0, none⟩) 1 c), .string ⟨#[]⟩], .int .i64 0, .bool false]) (by simp [results, Tryz.results131, go_sem, k0, k1, k2]) rfl ⟨⟨⟨3, [x], ByteArray.empty⟩, some ⟨q, 0, none⟩, c⟩, 0, false, ?_, hs3, ?_, HNW.out, ?_⟩

      · unfold FrmV.agg
        simp only [List.length_cons, List.length_nil, empty_str]
        rfl
      · intro h; cases h
      · rw [HR.out]; rfl
    have h20' : decide ((20 : Int) < (l : Int)) = false := by simp; omega
    have hkl : (k : Int) + (l : Int) = ((k + l : Nat) : Int) := by omega
    obtain ⟨k5, hk5⟩ : ∃ k5, k + l = k5 := ⟨_, rfl⟩
    rw [hk5] at hkl
    have HK5 := Lib.hid hk5
    have hl20 : l ≤ 20 := by omega
    have hk6 : k ≤ k5 := by omega
    have hk7 : k5 ≤ 9223372036854775827 := by omega
    clear hk5 h20
    by_cases hfar : s.size < k5
    · have hfar' : (s.size : Int) < (k5 : Int) := by omega
      have HR := Lib.hid (HNO.out (fun h => by omega))
      have hkf : k5 ≤ 9223372036854775807 := by have := HZ2.out; omega
      trace "Q"; go_wp2_with fail
      have HB3 := Lib.hid ((st3 HBR1.out (.int .i64 3) (.slice (some ⟨q, 0, none⟩) 1 c) (.string ⟨#[]⟩)).alloc (.cells #[.int .i64 3, .slice (some ⟨q, 0, none⟩) 1 c, .string ⟨#[]⟩] 93))
      have HO3 := Lib.hid ((out3 w1 w.heap.size (.int .i64 3) (.slice (some ⟨q, 0, none⟩) 1 c) (.string ⟨#[]⟩)).alloc (.cells #[.int .i64 3, .slice (some ⟨q, 0, none⟩) 1 c, .string ⟨#[]⟩] 93))
      have hs3 := hs1.out' HO3.out (fun k hk => by have : k = w.heap.size := by simpa using hk
                                                   omega)
      generalize ((((w1.setCell ⟨w.heap.size, 0, none⟩ (.int .i64 3)).setCell ⟨w.heap.size, 1, none⟩ (.slice (some ⟨q, 0, none⟩) 1 c)).setCell ⟨w.heap.size, 2, none⟩ (.string ⟨#[]⟩)).alloc (.cells #[.int .i64 3, .slice (some ⟨q, 0, none⟩) 1 c, .string ⟨#[]⟩] 93)) = w3 at *
      have k0 : w3.cell? ⟨w.heap.size, 0, none⟩ = some (.int .i64 3) := HB3.out.cell 0
      have k1 : w3.cell? ⟨w.heap.size, 1, none⟩ = some (.slice (some ⟨q, 0, none⟩) 1 c) := HB3.out.cell 1
      have k2 : w3.cell? ⟨w.heap.size, 2, none⟩ = some (.string ⟨#[]⟩) := HB3.out.cell 2
      refine bodyPost_ret (v := .tuple #[.agg #[.int .i64 3, (.slice (some ⟨q, 0, none⟩) 1 c), .string ⟨#[]⟩], .int .i64 0, .bool false]) (by simp [results, Tryz.results131, go_sem, k0, k1, k2]) rfl ⟨⟨⟨3, [x], ByteArray.empty⟩, some ⟨q, 0, none⟩, c⟩, 0, false, ?_, hs3, ?_, HNW.out, ?_⟩

      · unfold FrmV.agg
        simp only [List.length_cons, List.length_nil, empty_str]
        rfl
      · intro h; cases h
      · rw [HR.out]; rfl
    have hfar' : decide ((s.size : Int) < (k5 : Int)) = false := by simp; omega
    have hfr2 : (k5 : Int) ≤ (s.size : Int) := by omega
    have hk68 : (k : Int) ≤ (k5 : Int) := by omega
    have HR := Lib.hid (HYES.out (by omega))
    have hkf : k5 ≤ 9223372036854775807 := by omega
    have HDT : Hid ((⟨((s.data.toList.drop k).take l).toArray⟩ : ByteArray) = s.extract k k5) := Lib.hid (ba_ext (by
      rw [ByteArray.data_extract, Array.toList_extract, List.extract_eq_take_drop]
      simp only
      rw [show k5 - k = l by have := HK5.out; omega]))
    have hds : (s.extract k k5).size ≤ 20 := by rw [ByteArray.size_extract]; have := HK5.out; omega
    have HDS := Lib.hid hds
    clear hfar hds
    trace "R"; go_wp2_with fail
    have HB3 := Lib.hid ((st3 HBR1.out (.int .i64 3) (.slice (some ⟨q, 0, none⟩) 1 c) (.string (s.extract k k5))).alloc (.cells #[.int .i64 3, .slice (some ⟨q, 0, none⟩) 1 c, .string (s.extract k k5)] 93))
    have HO3 := Lib.hid ((out3 w1 w.heap.size (.int .i64 3) (.slice (some ⟨q, 0, none⟩) 1 c) (.string (s.extract k k5))).alloc (.cells #[.int .i64 3, .slice (some ⟨q, 0, none⟩) 1 c, .string (s.extract k k5)] 93))
    have hs3 := hs1.out' HO3.out (fun k hk => by have : k = w.heap.size := by simpa using hk
                                                 omega)
    generalize ((((w1.setCell ⟨w.heap.size, 0, none⟩ (.int .i64 3)).setCell ⟨w.heap.size, 1, none⟩ (.slice (some ⟨q, 0, none⟩) 1 c)).setCell ⟨w.heap.size, 2, none⟩ (.string (s.extract k k5))).alloc (.cells #[.int .i64 3, .slice (some ⟨q, 0, none⟩) 1 c, .string (s.extract k k5)] 93)) = w3 at *
    have k0 : w3.cell? ⟨w.heap.size, 0, none⟩ = some (.int .i64 3) := HB3.out.cell 0
    have k1 : w3.cell? ⟨w.heap.size, 1, none⟩ = some (.slice (some ⟨q, 0, none⟩) 1 c) := HB3.out.cell 1
    have k2 : w3.cell? ⟨w.heap.size, 2, none⟩ = some (.string (s.extract k k5)) := HB3.out.cell 2
    refine bodyPost_ret (v := .tuple #[.agg #[.int .i64 3, (.slice (some ⟨q, 0, none⟩) 1 c), .string (s.extract k k5)], .int .i64 k5, .bool true]) (by simp [results, Tryz.results131, go_sem, k0, k1, k2]) rfl ⟨⟨⟨3, [x], s.extract k k5⟩, some ⟨q, 0, none⟩, c⟩, k5, true, ?_, hs3, ?_, HNW.out, ?_⟩

    · rfl
    · intro _
      refine ⟨by unfold okI; simp only; omega, by have := HDS.out; unfold maxLen; simp only; omega, ⟨fun z hz => by rw [List.mem_singleton.1 hz]; omega, some ⟨q, 0, none⟩, c, rfl, by simp; omega, by unfold maxLen; omega, fun _ => ⟨q, 0, rfl, by have := HO3.out.size; omega, fun i hi => ?_⟩⟩⟩
      have : i = 0 := by simpa using hi
      subst this
      have hl3 := HL1.out.far HBR1.out (by decide) HO3.out
      have := hl3.cell rfl (i := 0) (j := 0) (e := intRow x) (u := .int .i64 x) rfl rfl
      show _ = some (Value.int .i64 x)
      simpa using this
    · rw [HR.out, HDT.out, HK5.out]; rfl

theorem frest (kind : Int) (s : ByteArray) (w : World) (h1 : 1 ≤ kind) (h8 : kind ≤ 8) (hz : s.size ≤ 9223372036854775707) (hK : KTab w) (hC : CTab w) :
    Calls Tryz.prog 131 #[.int .i64 kind, .string s] w fun e w' => ∃ (p : FrmV) (n : Nat) (ok : Bool), e = .returned (.tuple #[p.agg, .int .i64 n, .bool ok]) ∧ Below w.heap.size w w' ∧ (ok = true → FrmIn w' p) ∧ newA p.A w.heap.size ∧ restF kind s.data.toList = if ok = true then some (p.f, n) else none := by
  by_cases h2 : kind = 2
  · subst h2; exact frest_ack s w (by omega) hK
  by_cases h3 : kind = 3
  · subst h3; exact frest_str s w hz hK hC
  obtain ⟨k, rfl⟩ : ∃ k : Nat, kind = k := ⟨kind.toNat, by omega⟩
  exact frest_num k s w (by omega) (by omega) (by omega) (by omega) (by omega) hK hC
end Go.Proofs.YtmfbaijbigodkaaGreatDoor

/-! Contract of frame.Parse. Condition: the string's length is an int; the tables hold what the program's text lays. -/
namespace Go.Proofs.YtmfbaijbigodkaaGreatDoor
open Go.ChangeShapes Go.WideShapes Go.ChangeAt Go.RowKit
set_option linter.unusedVariables false

def frm0 : Frm := ⟨0, [], ByteArray.empty⟩
def pfE (b : List UInt8) : Int := if readF b = none then 2 else 0
def pfF (b : List UInt8) : Frm := ((readF b).getD (frm0, 0)).1
def pfN (b : List UInt8) : Nat := ((readF b).getD (frm0, 0)).2
theorem pf_none {b : List UInt8} (h : readF b = none) : pfE b = 2 ∧ pfF b = frm0 ∧ pfN b = 0 := by
  unfold pfE pfF pfN; rw [h]; exact ⟨by simp, rfl, rfl⟩
theorem pf_some {b : List UInt8} {f : Frm} {n : Nat} (h : readF b = some (f, n)) : pfE b = 0 ∧ pfF b = f ∧ pfN b = n := by
  unfold pfE pfF pfN; rw [h]; exact ⟨by simp, rfl, rfl⟩
theorem newA_none (g : Nat) : newA none g := fun b off h => by cases h
theorem frm0_in (w : World) : FrmIn w ⟨frm0, none, 0⟩ := ⟨by unfold okI frm0; simp, by simp [frm0], intsIn_nil w⟩
theorem readF_out {b : List UInt8} (h : b = [] ∨ bat b 0 < 1 ∨ 8 < bat b 0) : readF b = none := by unfold readF; rw [if_pos h]
theorem readF_rest {b : List UInt8} (h : ¬ (b = [] ∨ bat b 0 < 1 ∨ 8 < bat b 0)) : readF b = match restF (bat b 0) (b.drop 1) with | none => none | some (f, n) => some (f, n + 1) := by unfold readF; rw [if_neg h]; cases restF (bat b 0) (b.drop 1) <;> rfl

/-- a slice lies in no block g -/
def blkI (v : Value) (g : Nat) : Prop := ∀ A n c b off, v = .slice A n c → A = some ⟨b, off, none⟩ → b ≠ g
theorem ints_out {w w' : World} {v : Value} {zs : List Int} {g : Nat} {t : TypeId} {cs : Array Value} (h : IntsIn w v zs) (hb : BlockIs w g t cs) (ht : t ≠ 3) (ho : Out w w' [g]) (hn : blkI v g) : IntsIn w' v zs := by
  obtain ⟨h1, A, cap, h2, h3, h4, h5⟩ := h
  refine ⟨h1, A, cap, h2, h3, h4, fun hne => ?_⟩
  obtain ⟨b, off, e, hlt, hc⟩ := h5 hne
  have hbn := hn _ _ _ _ _ h2 e
  refine ⟨b, off, e, Nat.lt_of_lt_of_le hlt ho.size, fun i hi => ?_⟩
  have hblk := ho.block b hlt (by simpa using hbn)
  rw [← hc i hi]
  unfold World.cell?
  simp only
  rw [hblk]
set_option maxHeartbeats 6400000 in
set_option maxRecDepth 100000 in
theorem fparseN (s : ByteArray) (w : World) (hz : s.size ≤ 9223372036854775707) (hK : KTab w) (hC : CTab w) :
    Calls Tryz.prog 95 #[.string s] w fun e w' => ∃ (p : FrmV), e = .returned (.tuple #[p.agg, .int .i64 (pfN s.data.toList), errV (pfE s.data.toList)]) ∧ Below w.heap.size w w' ∧ FrmIn w' p ∧ p.f = pfF s.data.toList ∧ newA p.A w.heap.size := by
  have HK := Lib.hid hK
  have HC := Lib.hid hC
  have HZ := Lib.hid hz
  have HB0 := Lib.hid (BlockIs.fresh w 93 #[.int .i64 0, .slice none 0 0, .string ⟨#[]⟩])
  have HS0 := Lib.hid (show Since w (w.alloc (.cells #[.int .i64 0, .slice none 0 0, .string ⟨#[]⟩] 93)) from (Since.refl w).alloc _)
  have hsz : s.data.toList.length = s.size := rfl
  have FR := Lib.hid (fun k W h1 h8 hW hW2 => frest k (s.extract 1 s.size) W h1 h8 (Nat.le_trans (str_drop_size s 1) hz) hW hW2)
  rw [str_drop] at FR
  obtain ⟨b, hb⟩ : ∃ b, s.data.toList = b := ⟨_, rfl⟩
  have HRO := Lib.hid (readF_out (b := b))
  have HRR := Lib.hid (readF_rest (b := b))
  have hat := fun h => str_at s 0 h
  rw [hb] at hat hsz FR ⊢
  have HBL := Lib.hid hsz
  clear hK hC hz hb
  by_cases h0 : s.size = 0
  · obtain ⟨e1, e2⟩ := str_empty h0
    obtain ⟨p1, p2, p3⟩ := pf_none (HRO.out (Or.inl (List.length_eq_zero_iff.1 (by omega))))
    have P1 := Lib.hid p1
    have P2 := Lib.hid p2
    have P3 := Lib.hid p3
    clear p1 p2 p3 hat hsz h0
    go_enter Tryz.func95, Tryz.ntmps95
    trace "A"; go_wp2_with fail
    refine bodyPost_ret (v := .tuple #[.agg #[.int .i64 0, .slice none 0 0, .string ⟨#[]⟩], .int .i64 0, errV 2]) (by simp [results, Tryz.results95, go_sem]; rfl) rfl ⟨⟨frm0, none, 0⟩, by rw [P1.out, P3.out]; rfl, (by refine Since.out ?_; repeat (first | with_reducible assumption | with_reducible exact Since.refl _ | with_reducible refine Since.later ?_ (by with_reducible assumption) | with_reducible refine Since.only ?_ (by with_reducible assumption) (by first | assumption | omega | (simp; done) | (simp; omega)) | with_reducible refine Since.alloc ?_ _ | with_reducible refine Since.drewN ?_ _ | with_reducible refine Since.drew ?_ | with_reducible refine Since.set ?_ (by first | assumption | omega | (simp; done) | (simp; omega)) _)), frm0_in _, P2.out.symm, newA_none _⟩
  have hpos : 0 < s.size := by omega
  obtain ⟨e1, e2⟩ := str_full h0
  have e0 := hat hpos
  obtain ⟨b0, b1⟩ := bat_bounds b 0
  have hne : b ≠ [] := by intro h; rw [h] at hsz; simp at hsz; omega
  have HNE := Lib.hid hne
  generalize bat b 0 = x at *
  clear hat h0 hsz hne
  by_cases hx1 : x < 1
  · obtain ⟨p1, p2, p3⟩ := pf_none (HRO.out (Or.inr (Or.inl hx1)))
    have P1 := Lib.hid p1
    have P2 := Lib.hid p2
    have P3 := Lib.hid p3
    clear p1 p2 p3
    go_enter Tryz.func95, Tryz.ntmps95
    trace "B"; go_wp2_with fail
    refine bodyPost_ret (v := .tuple #[.agg #[.int .i64 0, .slice none 0 0, .string ⟨#[]⟩], .int .i64 0, errV 2]) (by simp [results, Tryz.results95, go_sem]; rfl) rfl ⟨⟨frm0, none, 0⟩, by rw [P1.out, P3.out]; rfl, (by refine Since.out ?_; repeat (first | with_reducible assumption | with_reducible exact Since.refl _ | with_reducible refine Since.later ?_ (by with_reducible assumption) | with_reducible refine Since.only ?_ (by with_reducible assumption) (by first | assumption | omega | (simp; done) | (simp; omega)) | with_reducible refine Since.alloc ?_ _ | with_reducible refine Since.drewN ?_ _ | with_reducible refine Since.drew ?_ | with_reducible refine Since.set ?_ (by first | assumption | omega | (simp; done) | (simp; omega)) _)), frm0_in _, P2.out.symm, newA_none _⟩
  have hx1' : decide (x < 1) = false := by simpa using hx1
  by_cases hx8 : 8 < x
  · obtain ⟨p1, p2, p3⟩ := pf_none (HRO.out (Or.inr (Or.inr hx8)))
    have P1 := Lib.hid p1
    have P2 := Lib.hid p2
    have P3 := Lib.hid p3
    clear p1 p2 p3 hx1
    go_enter Tryz.func95, Tryz.ntmps95
    trace "C"; go_wp2_with fail
    refine bodyPost_ret (v := .tuple #[.agg #[.int .i64 0, .slice none 0 0, .string ⟨#[]⟩], .int .i64 0, errV 2]) (by simp [results, Tryz.results95, go_sem]; rfl) rfl ⟨⟨frm0, none, 0⟩, by rw [P1.out, P3.out]; rfl, (by refine Since.out ?_; repeat (first | with_reducible assumption | with_reducible exact Since.refl _ | with_reducible refine Since.later ?_ (by with_reducible assumption) | with_reducible refine Since.only ?_ (by with_reducible assumption) (by first | assumption | omega | (simp; done) | (simp; omega)) | with_reducible refine Since.alloc ?_ _ | with_reducible refine Since.drewN ?_ _ | with_reducible refine Since.drew ?_ | with_reducible refine Since.set ?_ (by first | assumption | omega | (simp; done) | (simp; omega)) _)), frm0_in _, P2.out.symm, newA_none _⟩
  have hx8' : decide (8 < x) = false := by simpa using hx8
  have HR := Lib.hid (HRR.out (fun h => by rcases h with h | h | h; exact HNE.out h; omega; omega))
  have FR2 := Lib.hid (fun W hW hW2 => FR.out x W (by omega) (by omega) hW hW2)
  have hsl : (1 : Int) ≤ (s.size : Int) := by omega
  have hwrap : IntKind.i64.wrap x = x := by simp [IntKind.wrap, IntKind.bits, IntKind.signed]; omega
  have HX : Hid (1 ≤ x ∧ x ≤ 8) := Lib.hid (by omega)
  clear hx1 hx8
  go_enter Tryz.func95, Tryz.ntmps95
  trace "D"; go_wp2_with fail
  go_region_law (go_simp; go_at_call 131; refine (FR2.out _ (HK.out.later (by refine Since.out ?_; repeat (first | with_reducible assumption | with_reducible exact Since.refl _ | with_reducible refine Since.later ?_ (by with_reducible assumption) | with_reducible refine Since.only ?_ (by with_reducible assumption) (by first | assumption | omega | (simp; done) | (simp; omega)) | with_reducible refine Since.alloc ?_ _ | with_reducible refine Since.drewN ?_ _ | with_reducible refine Since.drew ?_ | with_reducible refine Since.set ?_ (by first | assumption | omega | (simp; done) | (simp; omega)) _))) (HC.out.later (by refine Since.out ?_; repeat (first | with_reducible assumption | with_reducible exact Since.refl _ | with_reducible refine Since.later ?_ (by with_reducible assumption) | with_reducible refine Since.only ?_ (by with_reducible assumption) (by first | assumption | omega | (simp; done) | (simp; omega)) | with_reducible refine Since.alloc ?_ _ | with_reducible refine Since.drewN ?_ _ | with_reducible refine Since.drew ?_ | with_reducible refine Since.set ?_ (by first | assumption | omega | (simp; done) | (simp; omega)) _)))).mono ?_; rintro e w1 ⟨⟨⟨kk, L, d⟩, A, c⟩, n, ok, rfl, hb1, hp1, hnw1, hr1⟩; (try dsimp only [FrmV.agg]); have HP1 := Lib.hid hp1; have HR1 := Lib.hid hr1; have HNW1 := Lib.hid hnw1; have HB1 := Lib.hid hb1; (first | (have hbx : BlockIs w1 (w.heap.size + 1) 93 #[.int .i64 0, .slice none 0 0, .string ⟨#[]⟩] := (by first | (refine BlockIs.later (BlockIs.drew (BlockIs.fresh_at ?_)) hb1; (simp only [World.size_alloc]; done)) | (refine BlockIs.later (BlockIs.fresh_at ?_) hb1; (simp only [World.size_alloc]; done))); have x0 : w1.cell? ⟨w.heap.size + 1, 0, none⟩ = some (.int .i64 0) := hbx.cell 0; have x1 : w1.cell? ⟨w.heap.size + 1, 1, none⟩ = some (.slice none 0 0) := hbx.cell 1; have x2 : w1.cell? ⟨w.heap.size + 1, 2, none⟩ = some (.string ⟨#[]⟩) := hbx.cell 2; have fx := hbx.free; have lx := hbx.lt; have HBX := Lib.hid hbx; clear hbx) | skip); clear hp1 hr1 hb1 hnw1)
  · have hb1 := HB1.out
    have hs1 : Since w w1 := (by refine Since.out ?_; repeat (first | with_reducible assumption | with_reducible exact Since.refl _ | with_reducible refine Since.later ?_ (by with_reducible assumption) | with_reducible refine Since.only ?_ (by with_reducible assumption) (by first | assumption | omega | (simp; done) | (simp; omega)) | with_reducible refine Since.alloc ?_ _ | with_reducible refine Since.drewN ?_ _ | with_reducible refine Since.drew ?_ | with_reducible refine Since.set ?_ (by first | assumption | omega | (simp; done) | (simp; omega)) _))
    have HNR : Hid (blkI (.slice A L.length c) w.heap.size) := Lib.hid (fun A' n' c' b' off' hv hA => by
      simp only [Value.slice.injEq] at hv
      obtain ⟨rfl, _⟩ := hv
      have := HNW1.out b' off' hA
      simp only [World.size_alloc, World.drew] at this
      omega)
    have HNB : Hid (ok = true → n ≤ s.size) := Lib.hid (fun h => by
      have := (restF_inv HX.out.1 HX.out.2 (show restF x (b.drop 1) = some (⟨kk, L, d⟩, n) by rw [HR1.out, if_pos h])).2.2.1
      rw [List.length_drop] at this
      have := HBL.out
      omega)
    have hbr : BlockIs w1 w.heap.size 93 #[.int .i64 0, .slice none 0 0, .string ⟨#[]⟩] := HB0.out.drew.later hb1
    have HBR := Lib.hid (hbr.alloc (.cells #[.int .i64 kk, .slice A L.length c, .string d] 93))
    have HBG := Lib.hid (BlockIs.fresh w1 93 #[.int .i64 kk, .slice A L.length c, .string d])
    have hsF : Since w (w1.alloc (.cells #[.int .i64 kk, .slice A L.length c, .string d] 93)) := hs1.alloc _
    have HPF : Hid (ok = true → FrmIn (w1.alloc (.cells #[.int .i64 kk, .slice A L.length c, .string d] 93)) ⟨⟨kk, L, d⟩, A, c⟩) := Lib.hid (fun h => (HP1.out h).later ((Since.refl w1).alloc _))
    clear hb1 hs1 hbr
    generalize (w1.alloc (.cells #[.int .i64 kk, .slice A L.length c, .string d] 93)) = wF at *
    have d0 : wF.cell? ⟨w1.heap.size, 0, none⟩ = some (.int .i64 kk) := HBG.out.cell 0
    have d1 : wF.cell? ⟨w1.heap.size, 1, none⟩ = some (.slice A L.length c) := HBG.out.cell 1
    have d2 : wF.cell? ⟨w1.heap.size, 2, none⟩ = some (.string d) := HBG.out.cell 2
    have y0 : wF.cell? ⟨w.heap.size, 0, none⟩ = some (.int .i64 0) := HBR.out.cell 0
    have y1 : wF.cell? ⟨w.heap.size, 1, none⟩ = some (.slice none 0 0) := HBR.out.cell 1
    have y2 : wF.cell? ⟨w.heap.size, 2, none⟩ = some (.string ⟨#[]⟩) := HBR.out.cell 2
    have fy := HBR.out.free
    have ly := HBR.out.lt
    have lg := HBG.out.lt
    cases ok with
    | false =>
      obtain ⟨p1, p2, p3⟩ := pf_none (b := b) (by rw [HR.out, HR1.out]; rfl)
      have P1 := Lib.hid p1
      have P2 := Lib.hid p2
      have P3 := Lib.hid p3
      clear p1 p2 p3
      go_wp2_with fail
      have HB3 := Lib.hid (st3 HBR.out (.int .i64 0) (.slice none 0 0) (.string ⟨#[]⟩))
      have hs3 := hsF.out' (out3 wF w.heap.size (.int .i64 0) (.slice none 0 0) (.string ⟨#[]⟩)) (fun k hk => by have : k = w.heap.size := by simpa using hk
                                                                                                                 omega)
      generalize (((wF.setCell ⟨w.heap.size, 0, none⟩ (.int .i64 0)).setCell ⟨w.heap.size, 1, none⟩ (.slice none 0 0)).setCell ⟨w.heap.size, 2, none⟩ (.string ⟨#[]⟩)) = w3 at *
      have k0 : w3.cell? ⟨w.heap.size, 0, none⟩ = some (.int .i64 0) := HB3.out.cell 0
      have k1 : w3.cell? ⟨w.heap.size, 1, none⟩ = some (.slice none 0 0) := HB3.out.cell 1
      have k2 : w3.cell? ⟨w.heap.size, 2, none⟩ = some (.string ⟨#[]⟩) := HB3.out.cell 2
      refine bodyPost_ret (v := .tuple #[.agg #[.int .i64 0, .slice none 0 0, .string ⟨#[]⟩], .int .i64 0, errV 2]) (by simp [results, Tryz.results95, go_sem, k0, k1, k2]; rfl) rfl ⟨⟨frm0, none, 0⟩, by rw [P1.out, P3.out]; rfl, hs3, frm0_in _, P2.out.symm, newA_none _⟩
    | true =>
      obtain ⟨p1, p2, p3⟩ := pf_some (b := b) (by rw [HR.out, HR1.out]; rfl)
      have P1 := Lib.hid p1
      have P2 := Lib.hid p2
      have P3 := Lib.hid p3
      have hn8 : n ≤ 9223372036854775707 := Nat.le_trans (HNB.out (by first | rfl | trivial)) HZ.out
      clear p1 p2 p3
      go_wp2_with fail
      have HB3 := Lib.hid (st3 HBR.out (.int .i64 kk) (.slice A L.length c) (.string d))
      have HO3 := Lib.hid (out3 wF w.heap.size (.int .i64 kk) (.slice A L.length c) (.string d))
      have hs3 := hsF.out' HO3.out (fun k hk => by have : k = w.heap.size := by simpa using hk
                                                   omega)
      generalize (((wF.setCell ⟨w.heap.size, 0, none⟩ (.int .i64 kk)).setCell ⟨w.heap.size, 1, none⟩ (.slice A L.length c)).setCell ⟨w.heap.size, 2, none⟩ (.string d)) = w3 at *
      have k0 : w3.cell? ⟨w.heap.size, 0, none⟩ = some (.int .i64 kk) := HB3.out.cell 0
      have k1 : w3.cell? ⟨w.heap.size, 1, none⟩ = some (.slice A L.length c) := HB3.out.cell 1
      have k2 : w3.cell? ⟨w.heap.size, 2, none⟩ = some (.string d) := HB3.out.cell 2
      refine bodyPost_ret (v := .tuple #[.agg #[.int .i64 kk, .slice A L.length c, .string d], .int .i64 ((n : Int) + 1), errV 0]) (by simp [results, Tryz.results95, go_sem, k0, k1, k2]; rfl) rfl ⟨⟨⟨kk, L, d⟩, A, c⟩, by rw [P1.out, P3.out]; rfl, hs3, ?_, P2.out.symm, newA_le HNW1.out (by first | (simp [World.drew]; done) | (simp [World.drew]; omega) | (simp; omega))⟩
      refine ⟨(HPF.out (by first | rfl | trivial)).kind, (HPF.out (by first | rfl | trivial)).data, ?_⟩
      exact ints_out (HPF.out (by first | rfl | trivial)).nums HBR.out (by decide) HO3.out HNR.out
  · have hb1 := HB1.out
    have hs1 : Since w w1 := (by refine Since.out ?_; repeat (first | with_reducible assumption | with_reducible exact Since.refl _ | with_reducible refine Since.later ?_ (by with_reducible assumption) | with_reducible refine Since.only ?_ (by with_reducible assumption) (by first | assumption | omega | (simp; done) | (simp; omega)) | with_reducible refine Since.alloc ?_ _ | with_reducible refine Since.drewN ?_ _ | with_reducible refine Since.drew ?_ | with_reducible refine Since.set ?_ (by first | assumption | omega | (simp; done) | (simp; omega)) _))
    have HNR : Hid (blkI (.slice A L.length c) w.heap.size) := Lib.hid (fun A' n' c' b' off' hv hA => by
      simp only [Value.slice.injEq] at hv
      obtain ⟨rfl, _⟩ := hv
      have := HNW1.out b' off' hA
      simp only [World.size_alloc, World.drew] at this
      omega)
    have HNR2 : Hid (blkI (.slice A L.length c) (w.heap.size + 1)) := Lib.hid (fun A' n' c' b' off' hv hA => by
      simp only [Value.slice.injEq] at hv
      obtain ⟨rfl, _⟩ := hv
      have := HNW1.out b' off' hA
      simp only [World.size_alloc, World.drew] at this
      omega)
    have HNB : Hid (ok = true → n ≤ s.size) := Lib.hid (fun h => by
      have := (restF_inv HX.out.1 HX.out.2 (show restF x (b.drop 1) = some (⟨kk, L, d⟩, n) by rw [HR1.out, if_pos h])).2.2.1
      rw [List.length_drop] at this
      have := HBL.out
      omega)
    have hbr : BlockIs w1 w.heap.size 93 #[.int .i64 0, .slice none 0 0, .string ⟨#[]⟩] := by first | exact BlockIs.later (BlockIs.drew (HB0.out.alloc _)) hb1 | exact BlockIs.later (HB0.out.drew.alloc _) hb1
    have HO2 := Lib.hid (out3 w1 (w.heap.size + 1) (.int .i64 kk) (.slice A L.length c) (.string d))
    have HBR := Lib.hid (HO2.out.block' hbr (by simp))
    have HBG := Lib.hid (st3 HBX.out (.int .i64 kk) (.slice A L.length c) (.string d))
    have hsF : Since w (((w1.setCell ⟨w.heap.size + 1, 0, none⟩ (.int .i64 kk)).setCell ⟨w.heap.size + 1, 1, none⟩ (.slice A L.length c)).setCell ⟨w.heap.size + 1, 2, none⟩ (.string d)) := hs1.out' HO2.out (fun k hk => by (have : k = w.heap.size + 1 := by simpa using hk); omega)
    have HPF : Hid (ok = true → FrmIn (((w1.setCell ⟨w.heap.size + 1, 0, none⟩ (.int .i64 kk)).setCell ⟨w.heap.size + 1, 1, none⟩ (.slice A L.length c)).setCell ⟨w.heap.size + 1, 2, none⟩ (.string d)) ⟨⟨kk, L, d⟩, A, c⟩) := Lib.hid (fun h => ⟨(HP1.out h).kind, (HP1.out h).data, ints_out (HP1.out h).nums HBX.out (by decide) HO2.out HNR2.out⟩)
    clear hb1 hs1 hbr x0 x1 x2 fx lx
    generalize (((w1.setCell ⟨w.heap.size + 1, 0, none⟩ (.int .i64 kk)).setCell ⟨w.heap.size + 1, 1, none⟩ (.slice A L.length c)).setCell ⟨w.heap.size + 1, 2, none⟩ (.string d)) = wF at *
    have d0 : wF.cell? ⟨w.heap.size + 1, 0, none⟩ = some (.int .i64 kk) := HBG.out.cell 0
    have d1 : wF.cell? ⟨w.heap.size + 1, 1, none⟩ = some (.slice A L.length c) := HBG.out.cell 1
    have d2 : wF.cell? ⟨w.heap.size + 1, 2, none⟩ = some (.string d) := HBG.out.cell 2
    have y0 : wF.cell? ⟨w.heap.size, 0, none⟩ = some (.int .i64 0) := HBR.out.cell 0
    have y1 : wF.cell? ⟨w.heap.size, 1, none⟩ = some (.slice none 0 0) := HBR.out.cell 1
    have y2 : wF.cell? ⟨w.heap.size, 2, none⟩ = some (.string ⟨#[]⟩) := HBR.out.cell 2
    have fy := HBR.out.free
    have ly := HBR.out.lt
    have lg := HBG.out.lt
    cases ok with
    | false =>
      obtain ⟨p1, p2, p3⟩ := pf_none (b := b) (by rw [HR.out, HR1.out]; rfl)
      have P1 := Lib.hid p1
      have P2 := Lib.hid p2
      have P3 := Lib.hid p3
      clear p1 p2 p3
      go_wp2_with fail
      have HB3 := Lib.hid (st3 HBR.out (.int .i64 0) (.slice none 0 0) (.string ⟨#[]⟩))
      have hs3 := hsF.out' (out3 wF w.heap.size (.int .i64 0) (.slice none 0 0) (.string ⟨#[]⟩)) (fun k hk => by have : k = w.heap.size := by simpa using hk
                                                                                                                 omega)
      generalize (((wF.setCell ⟨w.heap.size, 0, none⟩ (.int .i64 0)).setCell ⟨w.heap.size, 1, none⟩ (.slice none 0 0)).setCell ⟨w.heap.size, 2, none⟩ (.string ⟨#[]⟩)) = w3 at *
      have k0 : w3.cell? ⟨w.heap.size, 0, none⟩ = some (.int .i64 0) := HB3.out.cell 0
      have k1 : w3.cell? ⟨w.heap.size, 1, none⟩ = some (.slice none 0 0) := HB3.out.cell 1
      have k2 : w3.cell? ⟨w.heap.size, 2, none⟩ = some (.string ⟨#[]⟩) := HB3.out.cell 2
      refine bodyPost_ret (v := .tuple #[.agg #[.int .i64 0, .slice none 0 0, .string ⟨#[]⟩], .int .i64 0, errV 2]) (by simp [results, Tryz.results95, go_sem, k0, k1, k2]; rfl) rfl ⟨⟨frm0, none, 0⟩, by rw [P1.out, P3.out]; rfl, hs3, frm0_in _, P2.out.symm, newA_none _⟩
    | true =>
      obtain ⟨p1, p2, p3⟩ := pf_some (b := b) (by rw [HR.out, HR1.out]; rfl)
      have P1 := Lib.hid p1
      have P2 := Lib.hid p2
      have P3 := Lib.hid p3
      have hn8 : n ≤ 9223372036854775707 := Nat.le_trans (HNB.out (by first | rfl | trivial)) HZ.out
      clear p1 p2 p3
      go_wp2_with fail
      have HB3 := Lib.hid (st3 HBR.out (.int .i64 kk) (.slice A L.length c) (.string d))
      have HO3 := Lib.hid (out3 wF w.heap.size (.int .i64 kk) (.slice A L.length c) (.string d))
      have hs3 := hsF.out' HO3.out (fun k hk => by have : k = w.heap.size := by simpa using hk
                                                   omega)
      generalize (((wF.setCell ⟨w.heap.size, 0, none⟩ (.int .i64 kk)).setCell ⟨w.heap.size, 1, none⟩ (.slice A L.length c)).setCell ⟨w.heap.size, 2, none⟩ (.string d)) = w3 at *
      have k0 : w3.cell? ⟨w.heap.size, 0, none⟩ = some (.int .i64 kk) := HB3.out.cell 0
      have k1 : w3.cell? ⟨w.heap.size, 1, none⟩ = some (.slice A L.length c) := HB3.out.cell 1
      have k2 : w3.cell? ⟨w.heap.size, 2, none⟩ = some (.string d) := HB3.out.cell 2
      refine bodyPost_ret (v := .tuple #[.agg #[.int .i64 kk, .slice A L.length c, .string d], .int .i64 ((n : Int) + 1), errV 0]) (by simp [results, Tryz.results95, go_sem, k0, k1, k2]; rfl) rfl ⟨⟨⟨kk, L, d⟩, A, c⟩, by rw [P1.out, P3.out]; rfl, hs3, ?_, P2.out.symm, newA_le HNW1.out (by first | (simp [World.drew]; done) | (simp [World.drew]; omega) | (simp; omega))⟩
      refine ⟨(HPF.out (by first | rfl | trivial)).kind, (HPF.out (by first | rfl | trivial)).data, ?_⟩
      exact ints_out (HPF.out (by first | rfl | trivial)).nums HBR.out (by decide) HO3.out HNR.out
  · have hb1 := HB1.out
    have hs1 : Since w w1 := (by refine Since.out ?_; repeat (first | with_reducible assumption | with_reducible exact Since.refl _ | with_reducible refine Since.later ?_ (by with_reducible assumption) | with_reducible refine Since.only ?_ (by with_reducible assumption) (by first | assumption | omega | (simp; done) | (simp; omega)) | with_reducible refine Since.alloc ?_ _ | with_reducible refine Since.drewN ?_ _ | with_reducible refine Since.drew ?_ | with_reducible refine Since.set ?_ (by first | assumption | omega | (simp; done) | (simp; omega)) _))
    have HNR : Hid (blkI (.slice A L.length c) w.heap.size) := Lib.hid (fun A' n' c' b' off' hv hA => by
      simp only [Value.slice.injEq] at hv
      obtain ⟨rfl, _⟩ := hv
      have := HNW1.out b' off' hA
      simp only [World.size_alloc, World.drew] at this
      omega)
    have HNR2 : Hid (blkI (.slice A L.length c) (w.heap.size + 1)) := Lib.hid (fun A' n' c' b' off' hv hA => by
      simp only [Value.slice.injEq] at hv
      obtain ⟨rfl, _⟩ := hv
      have := HNW1.out b' off' hA
      simp only [World.size_alloc, World.drew] at this
      omega)
    have HNB : Hid (ok = true → n ≤ s.size) := Lib.hid (fun h => by
      have := (restF_inv HX.out.1 HX.out.2 (show restF x (b.drop 1) = some (⟨kk, L, d⟩, n) by rw [HR1.out, if_pos h])).2.2.1
      rw [List.length_drop] at this
      have := HBL.out
      omega)
    have hbr : BlockIs w1 w.heap.size 93 #[.int .i64 0, .slice none 0 0, .string ⟨#[]⟩] := by first | exact BlockIs.later (BlockIs.drew (HB0.out.alloc _)) hb1 | exact BlockIs.later (HB0.out.drew.alloc _) hb1
    have HO2 := Lib.hid (out3 w1 (w.heap.size + 1) (.int .i64 kk) (.slice A L.length c) (.string d))
    have HBR := Lib.hid (HO2.out.block' hbr (by simp))
    have HBG := Lib.hid (st3 HBX.out (.int .i64 kk) (.slice A L.length c) (.string d))
    have hsF : Since w (((w1.setCell ⟨w.heap.size + 1, 0, none⟩ (.int .i64 kk)).setCell ⟨w.heap.size + 1, 1, none⟩ (.slice A L.length c)).setCell ⟨w.heap.size + 1, 2, none⟩ (.string d)) := hs1.out' HO2.out (fun k hk => by (have : k = w.heap.size + 1 := by simpa using hk); omega)
    have HPF : Hid (ok = true → FrmIn (((w1.setCell ⟨w.heap.size + 1, 0, none⟩ (.int .i64 kk)).setCell ⟨w.heap.size + 1, 1, none⟩ (.slice A L.length c)).setCell ⟨w.heap.size + 1, 2, none⟩ (.string d)) ⟨⟨kk, L, d⟩, A, c⟩) := Lib.hid (fun h => ⟨(HP1.out h).kind, (HP1.out h).data, ints_out (HP1.out h).nums HBX.out (by decide) HO2.out HNR2.out⟩)
    clear hb1 hs1 hbr x0 x1 x2 fx lx
    generalize (((w1.setCell ⟨w.heap.size + 1, 0, none⟩ (.int .i64 kk)).setCell ⟨w.heap.size + 1, 1, none⟩ (.slice A L.length c)).setCell ⟨w.heap.size + 1, 2, none⟩ (.string d)) = wF at *
    have d0 : wF.cell? ⟨w.heap.size + 1, 0, none⟩ = some (.int .i64 kk) := HBG.out.cell 0
    have d1 : wF.cell? ⟨w.heap.size + 1, 1, none⟩ = some (.slice A L.length c) := HBG.out.cell 1
    have d2 : wF.cell? ⟨w.heap.size + 1, 2, none⟩ = some (.string d) := HBG.out.cell 2
    have y0 : wF.cell? ⟨w.heap.size, 0, none⟩ = some (.int .i64 0) := HBR.out.cell 0
    have y1 : wF.cell? ⟨w.heap.size, 1, none⟩ = some (.slice none 0 0) := HBR.out.cell 1
    have y2 : wF.cell? ⟨w.heap.size, 2, none⟩ = some (.string ⟨#[]⟩) := HBR.out.cell 2
    have fy := HBR.out.free
    have ly := HBR.out.lt
    have lg := HBG.out.lt
    cases ok with
    | false =>
      obtain ⟨p1, p2, p3⟩ := pf_none (b := b) (by rw [HR.out, HR1.out]; rfl)
      have P1 := Lib.hid p1
      have P2 := Lib.hid p2
      have P3 := Lib.hid p3
      clear p1 p2 p3
      go_wp2_with fail
      have HB3 := Lib.hid (st3 HBR.out (.int .i64 0) (.slice none 0 0) (.string ⟨#[]⟩))
      have hs3 := hsF.out' (out3 wF w.heap.size (.int .i64 0) (.slice none 0 0) (.string ⟨#[]⟩)) (fun k hk => by have : k = w.heap.size := by simpa using hk
                                                                                                                 omega)
      generalize (((wF.setCell ⟨w.heap.size, 0, none⟩ (.int .i64 0)).setCell ⟨w.heap.size, 1, none⟩ (.slice none 0 0)).setCell ⟨w.heap.size, 2, none⟩ (.string ⟨#[]⟩)) = w3 at *
      have k0 : w3.cell? ⟨w.heap.size, 0, none⟩ = some (.int .i64 0) := HB3.out.cell 0
      have k1 : w3.cell? ⟨w.heap.size, 1, none⟩ = some (.slice none 0 0) := HB3.out.cell 1
      have k2 : w3.cell? ⟨w.heap.size, 2, none⟩ = some (.string ⟨#[]⟩) := HB3.out.cell 2
      refine bodyPost_ret (v := .tuple #[.agg #[.int .i64 0, .slice none 0 0, .string ⟨#[]⟩], .int .i64 0, errV 2]) (by simp [results, Tryz.results95, go_sem, k0, k1, k2]; rfl) rfl ⟨⟨frm0, none, 0⟩, by rw [P1.out, P3.out]; rfl, hs3, frm0_in _, P2.out.symm, newA_none _⟩
    | true =>
      obtain ⟨p1, p2, p3⟩ := pf_some (b := b) (by rw [HR.out, HR1.out]; rfl)
      have P1 := Lib.hid p1
      have P2 := Lib.hid p2
      have P3 := Lib.hid p3
      have hn8 : n ≤ 9223372036854775707 := Nat.le_trans (HNB.out (by first | rfl | trivial)) HZ.out
      clear p1 p2 p3
      go_wp2_with fail
      have HB3 := Lib.hid (st3 HBR.out (.int .i64 kk) (.slice A L.length c) (.string d))
      have HO3 := Lib.hid (out3 wF w.heap.size (.int .i64 kk) (.slice A L.length c) (.string d))
      have hs3 := hsF.out' HO3.out (fun k hk => by have : k = w.heap.size := by simpa using hk
                                                   omega)
      generalize (((wF.setCell ⟨w.heap.size, 0, none⟩ (.int .i64 kk)).setCell ⟨w.heap.size, 1, none⟩ (.slice A L.length c)).setCell ⟨w.heap.size, 2, none⟩ (.string d)) = w3 at *
      have k0 : w3.cell? ⟨w.heap.size, 0, none⟩ = some (.int .i64 kk) := HB3.out.cell 0
      have k1 : w3.cell? ⟨w.heap.size, 1, none⟩ = some (.slice A L.length c) := HB3.out.cell 1
      have k2 : w3.cell? ⟨w.heap.size, 2, none⟩ = some (.string d) := HB3.out.cell 2
      refine bodyPost_ret (v := .tuple #[.agg #[.int .i64 kk, .slice A L.length c, .string d], .int .i64 ((n : Int) + 1), errV 0]) (by simp [results, Tryz.results95, go_sem, k0, k1, k2]; rfl) rfl ⟨⟨⟨kk, L, d⟩, A, c⟩, by rw [P1.out, P3.out]; rfl, hs3, ?_, P2.out.symm, newA_le HNW1.out (by first | (simp [World.drew]; done) | (simp [World.drew]; omega) | (simp; omega))⟩
      refine ⟨(HPF.out (by first | rfl | trivial)).kind, (HPF.out (by first | rfl | trivial)).data, ?_⟩
      exact ints_out (HPF.out (by first | rfl | trivial)).nums HBR.out (by decide) HO3.out HNR.out
theorem fparse (s : ByteArray) (w : World) (hz : s.size ≤ 9223372036854775707) (hK : KTab w) (hC : CTab w) :
    Calls Tryz.prog 95 #[.string s] w fun e w' => ∃ (p : FrmV), e = .returned (.tuple #[p.agg, .int .i64 (pfN s.data.toList), errV (pfE s.data.toList)]) ∧ Below w.heap.size w w' ∧ FrmIn w' p ∧ p.f = pfF s.data.toList :=
  (fparseN s w hz hK hC).mono fun _ _ ⟨p, h1, h2, h3, h4, _⟩ => ⟨p, h1, h2, h3, h4⟩
end Go.Proofs.YtmfbaijbigodkaaGreatDoor

/-! Plain words on packets: what is wrong with one, its bytes, what any bytes are, and that a packet comes back. No program here. -/
namespace Go.Proofs.YtmfbaijbigodkaaGreatDoor
open Go.ChangeShapes Go.WideShapes Go.ChangeAt Go.RowKit
set_option linter.unusedVariables false

/-- a packet's first bytes: how many, and these of a number -/
def headB (n b : Int) : List UInt8 :=
  byteOf b :: (if b = 1 then [byteOf (n % 256)] else if b = 2 then [byteOf (n / 256 % 256), byteOf (n % 256)]
    else if b = 3 then [byteOf (n / 65536 % 256), byteOf (n / 256 % 256), byteOf (n % 256)]
    else [byteOf (n / 16777216 % 256), byteOf (n / 65536 % 256), byteOf (n / 256 % 256), byteOf (n % 256)])
theorem headB_len {n b : Int} (h1 : 1 ≤ b) (h2 : b ≤ 4) : ((headB n b).length : Int) = b + 1 := by
  rcases four h1 h2 with rfl | rfl | rfl | rfl <;> rfl
/-- frames' bytes one behind the other -/
def frmsB (L : List Frm) : List UInt8 := L.flatMap frmB
theorem frmsB_snoc (L : List Frm) (f : Frm) : frmsB (L ++ [f]) = frmsB L ++ frmB f := by simp [frmsB]
theorem frmsB_append (L M : List Frm) : frmsB (L ++ M) = frmsB L ++ frmsB M := by simp [frmsB]
def pktB (n known : Int) (L : List Frm) : List UInt8 := headB n (leastN (n - known)) ++ frmsB L
/-- the first fault of frames -/
def frmsE : List Frm → Int
  | [] => 0
  | f :: L => if frmE f = 0 then frmsE L else frmE f
theorem frmsE_app_ok {L M : List Frm} (h : frmsE L = 0) : frmsE (L ++ M) = frmsE M := by
  induction L with
  | nil => rfl
  | cons f L ih =>
    rw [frmsE] at h
    by_cases h0 : frmE f = 0
    · rw [if_pos h0] at h
      rw [List.cons_append, frmsE, if_pos h0, ih h]
    · rw [if_neg h0] at h; exact absurd h h0
theorem frmsE_bad {L M : List Frm} {f : Frm} (h : frmsE L = 0) (hf : frmE f ≠ 0) : frmsE (L ++ f :: M) = frmE f := by
  rw [frmsE_app_ok h, frmsE, if_neg hf]
theorem frmsE_all {L : List Frm} (h : frmsE L = 0) : ∀ f ∈ L, frmE f = 0 := by
  induction L with
  | nil => simp
  | cons f L ih =>
    rw [frmsE] at h
    by_cases h0 : frmE f = 0
    · rw [if_pos h0] at h
      intro g hg
      rcases List.mem_cons.1 hg with rfl | hg
      · exact h0
      · exact ih h g hg
    · rw [if_neg h0] at h; exact absurd h h0
/-- what is wrong with a packet -/
def pktE (n known : Int) (L : List Frm) : Int :=
  if NeedOk n known then (if L = [] then 5 else if 12 < L.length then 4 else if frmsE L = 0 then (if 200 < (pktB n known L).length then 4 else 0) else frmsE L) else 1
def pktV (n known : Int) (L : List Frm) : List UInt8 := if pktE n known L = 0 then pktB n known L else []

/-- the cut number in the first bytes -/
def cutOf (b : List UInt8) (m : Int) : Int :=
  if m = 1 then bat b 1 else if m = 2 then 256 * bat b 1 + bat b 2 else if m = 3 then 256 * (256 * bat b 1 + bat b 2) + bat b 3 else 256 * (256 * (256 * bat b 1 + bat b 2) + bat b 3) + bat b 4
/-- is there a packet's head -/
def HeadOk (b : List UInt8) (next : Int) : Prop := b ≠ [] ∧ 1 ≤ bat b 0 ∧ bat b 0 ≤ 4 ∧ bat b 0 < b.length ∧ WholeOk (cutOf b (bat b 0)) (bat b 0) next
noncomputable instance (b : List UInt8) (next : Int) : Decidable (HeadOk b next) := Classical.propDecidable _
/-- the frames of i rounds behind the first k bytes, and up to where -/
def rdFs (b : List UInt8) (k : Nat) : Nat → Option (List Frm × Nat)
  | 0 => some ([], k)
  | i + 1 => match rdFs b k i with
    | none => none
    | some (L, p) => if p < b.length then (match readF (b.drop p) with | none => none | some (f, n) => some (L ++ [f], p + n)) else some (L, p)
theorem rdFs_none {b : List UInt8} {k i : Nat} (h : rdFs b k i = none) : ∀ j, i ≤ j → rdFs b k j = none := by
  intro j hj
  induction j with
  | zero => obtain rfl : i = 0 := by omega
            exact h
  | succ j ih =>
    by_cases he : i = j + 1
    · rw [← he]; exact h
    · rw [rdFs, ih (by omega)]
theorem rdFs_end {b : List UInt8} {k i p : Nat} {L : List Frm} (h : rdFs b k i = some (L, p)) (hp : b.length ≤ p) : ∀ j, i ≤ j → rdFs b k j = some (L, p) := by
  intro j hj
  induction j with
  | zero => obtain rfl : i = 0 := by omega
            exact h
  | succ j ih =>
    by_cases he : i = j + 1
    · rw [← he]; exact h
    · rw [rdFs, ih (by omega)]; simp only; rw [if_neg (by omega)]
theorem rdFs_yes {b : List UInt8} {k i p n : Nat} {L : List Frm} {f : Frm} (h : rdFs b k i = some (L, p)) (hp : p < b.length) (hf : readF (b.drop p) = some (f, n)) : rdFs b k (i + 1) = some (L ++ [f], p + n) := by
  rw [rdFs, h]; simp only; rw [if_pos hp, hf]
theorem rdFs_no {b : List UInt8} {k i p : Nat} {L : List Frm} (h : rdFs b k i = some (L, p)) (hp : p < b.length) (hf : readF (b.drop p) = none) : rdFs b k (i + 1) = none := by
  rw [rdFs, h]; simp only; rw [if_pos hp, hf]
theorem rdFs_inv {b : List UInt8} {k : Nat} (hk : k ≤ b.length) : ∀ (i : Nat) (L : List Frm) (p : Nat), rdFs b k i = some (L, p) → p ≤ b.length ∧ L.length ≤ i ∧ (∀ f ∈ L, frmE f = 0) ∧ b.take p = b.take k ++ frmsB L ∧ (p < b.length → L.length = i ∧ k + i ≤ p)
  | 0, L, p, h => by
    simp only [rdFs, Option.some.injEq, Prod.mk.injEq] at h
    obtain ⟨rfl, rfl⟩ := h
    exact ⟨hk, by simp, by simp, by simp [frmsB], fun _ => ⟨rfl, by omega⟩⟩
  | i + 1, L, p, h => by
    cases hc : rdFs b k i with
    | none => rw [rdFs, hc] at h; cases h
    | some q =>
      obtain ⟨M, m⟩ := q
      obtain ⟨a1, a2, a3, a4, a5⟩ := rdFs_inv hk i M m hc
      by_cases hm : m < b.length
      · cases hf : readF (b.drop m) with
        | none => rw [rdFs_no hc hm hf] at h; cases h
        | some q2 =>
          obtain ⟨f, n⟩ := q2
          rw [rdFs_yes hc hm hf] at h
          simp only [Option.some.injEq, Prod.mk.injEq] at h
          obtain ⟨rfl, rfl⟩ := h
          obtain ⟨r1, r2, r3, r4⟩ := readF_inv hf
          rw [List.length_drop] at r3
          obtain ⟨c1, c2⟩ := a5 hm
          refine ⟨by omega, by simp; omega, fun g hg => ?_, by rw [List.take_add, a4, r4, frmsB_snoc, List.append_assoc], fun _ => ⟨by simp [c1], by omega⟩⟩
          rcases List.mem_append.1 hg with hg | hg
          · exact a3 g hg
          · rw [List.mem_singleton.1 hg]; exact r1
      · rw [rdFs_end hc (by omega) (i + 1) (by omega)] at h
        simp only [Option.some.injEq, Prod.mk.injEq] at h
        obtain ⟨rfl, rfl⟩ := h
        exact ⟨a1, by omega, a3, a4, fun h => absurd h hm⟩
/-- behind as many rounds as there are bytes all is read -/
theorem rdFs_done {b : List UInt8} {k : Nat} (hk : k ≤ b.length) {L : List Frm} {p : Nat} (h : rdFs b k b.length = some (L, p)) : p = b.length := by
  obtain ⟨a1, a2, a3, a4, a5⟩ := rdFs_inv hk _ L p h
  rcases Nat.lt_or_ge p b.length with h1 | h1
  · have := (a5 h1).2; omega
  · omega
/-- any bytes as a packet: its number, frames, and the fault -/
noncomputable def openF (b : List UInt8) : Option (List Frm) := match rdFs b ((bat b 0).toNat + 1) b.length with | none => none | some (L, _) => if L = [] ∨ 12 < L.length then none else some L
noncomputable def openE (b : List UInt8) (next : Int) : Int :=
  if MayBe next then (if 200 < b.length then 4 else if HeadOk b next then (match openF b with | none => 2 | some _ => 0) else 2) else 1
noncomputable def openN (b : List UInt8) (next : Int) : Int := if openE b next = 0 then wholeN (cutOf b (bat b 0)) (bat b 0) next else 0
noncomputable def openL (b : List UInt8) (next : Int) : List Frm := if openE b next = 0 then (openF b).getD [] else []
theorem frmB_pos (f : Frm) : 1 ≤ (frmB f).length := by unfold frmB; simp
theorem rdFs_back {L : List Frm} {hd b : List UInt8} (hE : frmsE L = 0) (hb : b = hd ++ frmsB L) : ∀ i, i ≤ L.length → rdFs b hd.length i = some (L.take i, hd.length + (frmsB (L.take i)).length)
  | 0, _ => by simp [rdFs, frmsB]
  | i + 1, hi => by
    have hiL : i < L.length := by omega
    have hsp : L = L.take i ++ (L[i] :: L.drop (i + 1)) := by
      rw [← List.drop_eq_getElem_cons hiL, List.take_append_drop]
    have hb2 : b = hd ++ frmsB (L.take i) ++ (frmB L[i] ++ frmsB (L.drop (i + 1))) := by
      have e : frmsB L = frmsB (L.take i ++ (L[i] :: L.drop (i + 1))) := congrArg frmsB hsp
      rw [hb, e, frmsB_append, show frmsB (L[i] :: L.drop (i + 1)) = frmB L[i] ++ frmsB (L.drop (i + 1)) from rfl, List.append_assoc]
    have hdr : b.drop (hd.length + (frmsB (L.take i)).length) = frmB L[i] ++ frmsB (L.drop (i + 1)) := drop_of hb2 (by simp)
    have hlt : hd.length + (frmsB (L.take i)).length < b.length := by
      have := congrArg List.length hb2
      have := frmB_pos L[i]
      simp at *; omega
    rw [rdFs_yes (rdFs_back hE hb i (by omega)) hlt (by rw [hdr]; exact readF_back (frmsE_all hE _ (List.getElem_mem hiL)) _), List.take_succ_eq_append_getElem hiL, frmsB_snoc, List.length_append, Nat.add_assoc]
theorem headB_back {n b : Int} (h0 : 0 ≤ n) (h1 : 1 ≤ b) (h2 : b ≤ 4) (r : List UInt8) : bat (headB n b ++ r) 0 = b ∧ cutOf (headB n b ++ r) b = n % rnd b := by
  have hby : ∀ m : Int, 0 ≤ m → m < 256 → ((byteOf m).toNat : Int) = m := fun m a c => byteOf_toNat a c
  refine ⟨by unfold headB; exact hby b (by omega) (by omega), ?_⟩
  have e0 := hby (n % 256) (by omega) (by omega)
  have e1 := hby (n / 256 % 256) (by omega) (by omega)
  have e2 := hby (n / 65536 % 256) (by omega) (by omega)
  have e3 := hby (n / 16777216 % 256) (by omega) (by omega)
  rcases four h1 h2 with rfl | rfl | rfl | rfl
  · show ((byteOf (n % 256)).toNat : Int) = n % 256
    omega
  · show 256 * ((byteOf (n / 256 % 256)).toNat : Int) + ((byteOf (n % 256)).toNat : Int) = n % 65536
    omega
  · show 256 * (256 * ((byteOf (n / 65536 % 256)).toNat : Int) + ((byteOf (n / 256 % 256)).toNat : Int)) + ((byteOf (n % 256)).toNat : Int) = n % 16777216
    omega
  · show 256 * (256 * (256 * ((byteOf (n / 16777216 % 256)).toNat : Int) + ((byteOf (n / 65536 % 256)).toNat : Int)) + ((byteOf (n / 256 % 256)).toNat : Int)) + ((byteOf (n % 256)).toNat : Int) = n % 4294967296
    omega
/-- a packet is read as it was -/
theorem open_about {n known next : Int} {L : List Frm} (h : pktE n known L = 0) (hm : MayBe next) (m1 : known < next) (m2 : next ≤ n + 100) : openE (pktB n known L) next = 0 ∧ openN (pktB n known L) next = n ∧ openL (pktB n known L) next = L ∧ (pktB n known L).length ≤ 200 := by
  unfold pktE at h
  by_cases hn : NeedOk n known
  case neg => rw [if_neg hn] at h; cases h
  rw [if_pos hn] at h
  by_cases h5 : L = []
  · rw [if_pos h5] at h; cases h
  rw [if_neg h5] at h
  by_cases h4 : 12 < L.length
  · rw [if_pos h4] at h; cases h
  rw [if_neg h4] at h
  by_cases hE : frmsE L = 0
  case neg => rw [if_neg hE] at h; exact absurd h hE
  rw [if_pos hE] at h
  by_cases h2 : 200 < (pktB n known L).length
  · rw [if_pos h2] at h; cases h
  obtain ⟨w1, w2⟩ := wholeN_about n known next hn hm m1 m2
  obtain ⟨b1, b2⟩ := leastN_bounds (n - known)
  obtain ⟨⟨n1, n2⟩, k1, k2⟩ := hn
  obtain ⟨e1, e2⟩ := headB_back (n := n) n1 b1 b2 (frmsB L)
  have hlen := headB_len (n := n) b1 b2
  have hpk : headB n (leastN (n - known)) ++ frmsB L = pktB n known L := rfl
  rw [hpk] at e1 e2
  have hpl : (pktB n known L).length = (headB n (leastN (n - known))).length + (frmsB L).length := by rw [← hpk, List.length_append]
  have hfl : 1 ≤ (frmsB L).length := by
    cases L with
    | nil => exact absurd rfl h5
    | cons f L => have := frmB_pos f; simp [frmsB]; omega
  have hlL : ∀ M : List Frm, M.length ≤ (frmsB M).length := by
    intro M
    induction M with
    | nil => simp
    | cons f M ih => have := frmB_pos f; simp [frmsB] at ih ⊢; omega
  have hh : HeadOk (pktB n known L) next := by
    refine ⟨fun h0 => ?_, by omega, by omega, by omega, ?_⟩
    · rw [h0] at hpl; simp at hpl; omega
    · rw [e1, e2]; exact w1
  have hback := rdFs_back (hd := headB n (leastN (n - known))) hE hpk.symm L.length (Nat.le_refl _)
  rw [List.take_length, ← hpl] at hback
  have hend := rdFs_end hback (Nat.le_refl _) (pktB n known L).length (by have := hlL L; omega)
  have hF : openF (pktB n known L) = some L := by
    unfold openF
    rw [e1, show (leastN (n - known)).toNat + 1 = (headB n (leastN (n - known))).length by omega, hend]
    simp only
    rw [if_neg (fun hx => by rcases hx with hx | hx; exact h5 hx; exact h4 hx)]
  have hO : openE (pktB n known L) next = 0 := by
    unfold openE
    rw [if_pos hm, if_neg h2, if_pos hh, hF]
  refine ⟨hO, ?_, ?_, by omega⟩
  · unfold openN; rw [if_pos hO, e1, e2]; exact w2
  · unfold openL; rw [if_pos hO, hF]; rfl
theorem open_back {n known more : Int} {L : List Frm} (h : pktE n known L = 0) (m1 : known ≤ more) (m2 : more < n) : openE (pktB n known L) (more + 1) = 0 ∧ openN (pktB n known L) (more + 1) = n ∧ openL (pktB n known L) (more + 1) = L ∧ (pktB n known L).length ≤ 200 := by
  have hN : NeedOk n known := by
    unfold pktE at h
    by_cases hn : NeedOk n known
    · exact hn
    · rw [if_neg hn] at h; cases h
  obtain ⟨⟨n1, n2⟩, k1, k2⟩ := hN
  exact open_about h ⟨by omega, by omega⟩ (by omega) (by omega)
end Go.Proofs.YtmfbaijbigodkaaGreatDoor

/-! Contract of packet.first. Condition: the string is short. -/
namespace Go.Proofs.YtmfbaijbigodkaaGreatDoor
open Go.ChangeShapes Go.WideShapes Go.ChangeAt Go.RowKit
set_option linter.unusedVariables false

noncomputable def firE (b : List UInt8) (next : Int) : Int := if HeadOk b next then 0 else 2
noncomputable def firN (b : List UInt8) (next : Int) : Int := if HeadOk b next then wholeN (cutOf b (bat b 0)) (bat b 0) next else 0
noncomputable def firK (b : List UInt8) (next : Int) : Int := if HeadOk b next then bat b 0 + 1 else 0
theorem fir_no {b : List UInt8} {next : Int} (h : ¬ HeadOk b next) : firE b next = 2 ∧ firN b next = 0 ∧ firK b next = 0 := by
  unfold firE firN firK; rw [if_neg h, if_neg h, if_neg h]; exact ⟨rfl, rfl, rfl⟩
theorem fir_yes {b : List UInt8} {next : Int} (h : HeadOk b next) : firE b next = 0 ∧ firN b next = wholeN (cutOf b (bat b 0)) (bat b 0) next ∧ firK b next = bat b 0 + 1 := by
  unfold firE firN firK; rw [if_pos h, if_pos h, if_pos h]; exact ⟨rfl, rfl, rfl⟩
/-- the cut number of the first j bytes behind the head -/
def cutU (b : List UInt8) : Nat → Int
  | 0 => 0
  | j + 1 => 256 * cutU b j + bat b (j + 1)
theorem cutU_bounds (b : List UInt8) : ∀ j, 0 ≤ cutU b j ∧ cutU b j < 256 ^ j
  | 0 => by simp [cutU]
  | j + 1 => by
    obtain ⟨h1, h2⟩ := cutU_bounds b j
    obtain ⟨g1, g2⟩ := bat_bounds b (j + 1)
    rw [cutU, Int.pow_succ]
    omega
theorem cutU_of (b : List UInt8) {m : Nat} (h1 : 1 ≤ m) (h4 : m ≤ 4) : cutU b m = cutOf b m := by
  have : m = 1 ∨ m = 2 ∨ m = 3 ∨ m = 4 := by omega
  rcases this with rfl | rfl | rfl | rfl <;> simp [cutU, cutOf]
theorem Since.bytes {w wr : World} (h : Since w wr) (e : TypeId) (s : ByteArray) : Since w (Lib.bytesWorld wr e s) :=
  h.later ⟨rfl, rfl, rfl, by rw [Lib.bytesWorld_size]; omega, fun i hi => Lib.bytesWorld_at_old wr e s i hi⟩

set_option maxHeartbeats 1600000 in
set_option maxRecDepth 100000 in
theorem pfirst (s : ByteArray) (next : Int) (w : World) (hz : s.size ≤ 1000) :
    Calls Tryz.prog 94 #[.string s, .int .i64 next] w fun e w' => e = .returned (.tuple #[.int .i64 (firN s.data.toList next), .int .i64 (firK s.data.toList next), errV (firE s.data.toList next)]) ∧ Below w.heap.size w w' := by
  have hsz : s.data.toList.length = s.size := rfl
  have hat := fun h => str_at s 0 h
  obtain ⟨b, hb⟩ : ∃ b, s.data.toList = b := ⟨_, rfl⟩
  have HBD := Lib.hid hb
  have HNO := Lib.hid (fun h => fir_no (b := b) (next := next) h)
  have HYES := Lib.hid (fun h => fir_yes (b := b) (next := next) h)
  rw [hb] at hsz hat ⊢
  by_cases h0 : s.size = 0
  · obtain ⟨e1, e2⟩ := str_empty h0
    obtain ⟨p1, p2, p3⟩ := HNO.out (fun h => h.1 (List.length_eq_zero_iff.1 (by omega)))
    have P1 := Lib.hid p1
    have P2 := Lib.hid p2
    have P3 := Lib.hid p3
    clear p1 p2 p3 h0 hat hsz hb
    go_enter Tryz.func94, Tryz.ntmps94
    trace "A"; go_wp2_with fail
    go_ret3
    exact ⟨by rw [P1.out, P2.out, P3.out]; rfl, Below.refl _ _⟩
  obtain ⟨e1, e2⟩ := str_full h0
  have hpos : 0 < s.size := by omega
  have e0 := hat hpos
  obtain ⟨x, hx⟩ : ∃ x, bat b 0 = x := ⟨_, rfl⟩
  rw [hx] at e0
  obtain ⟨b0, b1⟩ := bat_bounds b 0
  rw [hx] at b0 b1
  have hwrap : IntKind.i64.wrap x = x := by simp [IntKind.wrap, IntKind.bits, IntKind.signed]; omega
  by_cases hlen : (s.size : Int) ≤ x
  · obtain ⟨p1, p2, p3⟩ := HNO.out (fun h => by have := h.2.2.2.1; omega)
    have P1 := Lib.hid p1
    have P2 := Lib.hid p2
    have P3 := Lib.hid p3
    clear p1 p2 p3 h0 hat hsz hb hx
    go_enter Tryz.func94, Tryz.ntmps94
    trace "B"; go_wp2_with fail
    go_ret3
    exact ⟨by rw [P1.out, P2.out, P3.out]; rfl, Below.refl _ _⟩
  have hlen' : decide ((s.size : Int) ≤ x) = false := by simpa using hlen
  by_cases h4 : 4 < x
  · obtain ⟨p1, p2, p3⟩ := HNO.out (fun h => by have := h.2.2.1; omega)
    have P1 := Lib.hid p1
    have P2 := Lib.hid p2
    have P3 := Lib.hid p3
    clear p1 p2 p3 h0 hat hsz hb hx hlen
    go_enter Tryz.func94, Tryz.ntmps94
    trace "C"; go_wp2_with fail
    go_ret3
    exact ⟨by rw [P1.out, P2.out, P3.out]; rfl, Below.refl _ _⟩
  have h4' : decide (4 < x) = false := by simpa using h4
  obtain ⟨m, rfl⟩ : ∃ m : Nat, x = m := ⟨x.toNat, by omega⟩
  have hw1 : IntKind.i64.wrap (1 + (m : Int)) = ((1 + m : Nat) : Int) := by simp [IntKind.wrap, IntKind.bits, IntKind.signed]; omega
  have hm1 : (1 : Int) + (m : Int) = ((1 + m : Nat) : Int) := by omega
  have hm2 : (1 : Int) ≤ ((1 + m : Nat) : Int) := by omega
  have hm3 : ((1 + m : Nat) : Int) ≤ (s.size : Int) := by omega
  have hcv := Lib.run_convert_string_bytes (P := Tryz.prog) w 9 131 5 (s.extract 1 (1 + m)) (u := .string) Tryz.underlying9 Tryz.underlying131 Tryz.underlying5
  have hex : (s.extract 1 (1 + m)).size = m := by rw [ByteArray.size_extract]; omega
  rw [hex] at hcv
  have hlen4 : m ≤ 4 := by omega
  obtain ⟨m1, hmm1⟩ : ∃ m1, 1 + m = m1 := ⟨_, rfl⟩
  rw [hmm1] at hw1 hm1 hm2 hm3 hcv
  clear h0 hat hb hlen h4 hmm1
  go_enter Tryz.func94, Tryz.ntmps94
  have hS1 : Since w (Lib.bytesWorld w 5 (s.extract 1 m1)) := (Since.refl w).bytes _ _
  have hB : ∀ j, j < m → (Lib.bytesWorld w 5 (s.extract 1 m1)).cell? ⟨w.heap.size, j, none⟩ = some (.int .u8 (bat b (j + 1))) := fun j hj => by
    rw [Lib.bytesWorld_cell w _ _ j (by rw [ByteArray.size_extract]; omega)]
    congr 2
    rw [ByteArray.data_extract, Array.toList_extract, List.extract_eq_take_drop, HBD.out]
    unfold bat
    simp only [List.getD, List.getElem?_take, List.getElem?_drop]
    rw [if_pos (by omega), Nat.add_comm 1 j]
  have HW1 : Hid (∀ k : Nat, WholeOk (cutU b k) k next → 1 ≤ (k : Int)) := Lib.hid (fun k hk => hk.2.1.1)
  have HHY : Hid (1 ≤ m → m ≤ 4 → WholeOk (cutOf b m) m next → HeadOk b next) := Lib.hid (fun a1 a2 a3 => ⟨fun hh => by rw [hh] at hsz; simp at hsz; omega, by rw [hx]; omega, by rw [hx]; omega, by rw [hx]; omega, by rw [hx]; exact a3⟩)
  have hlt : w.heap.size < (Lib.bytesWorld w 5 (s.extract 1 m1)).heap.size := by rw [Lib.bytesWorld_size]; omega
  obtain ⟨W1, hW1⟩ : ∃ W1, W1 = Lib.bytesWorld w 5 (s.extract 1 m1) := ⟨_, rfl⟩
  rw [← hW1] at hcv hS1 hB hlt
  have HB := Lib.hid hB
  clear hW1 hB
  trace "D"; go_wp2_with fail
  obtain ⟨wo, rfl⟩ : ∃ wo : World, wo = W1 := ⟨_, rfl⟩
  go_loopw [8, 36] (fun s8 s36 wr => ∃ j : Nat, s36 = .int .i64 j ∧ j ≤ m ∧ s8 = .int .i64 (cutU b j) ∧ wr = wo) (fun _ s36 _ => m - (intOf s36).toNat)
  case atStart => exact ⟨0, rfl, Nat.zero_le _, rfl, rfl⟩
  case round =>
    obtain ⟨j, rfl, hj, rfl, rfl⟩ := hrel
    by_cases hjm : j < m
    case neg =>
      obtain rfl : j = m := by omega
      have hf : decide ((j : Int) < (j : Int)) = false := by simp
      trace "N"; go_wp2_with fail
      refine (whole_any (cutU b j) j next _).mono ?_
      rintro e w1 ⟨rfl, rfl⟩
      by_cases hw : WholeOk (cutU b j) j next
      · have hj1 : 1 ≤ j := by have := HW1.out j hw; omega
        have hcu := cutU_of b hj1 hlen4
        obtain ⟨p1, p2, p3⟩ := HYES.out (HHY.out hj1 hlen4 (by rw [← hcu]; exact hw))
        rw [hx, ← hcu] at p2
        rw [hx] at p3
        have P1 := Lib.hid p1
        have P2 := Lib.hid p2
        have P3 := Lib.hid p3
        rw [show wholeE (cutU b j) j next = 0 by unfold wholeE; rw [if_pos hw], errV_zero, show wholeV (cutU b j) j next = wholeN (cutU b j) j next by unfold wholeV; rw [if_pos hw]]
        clear p1 p2 p3 hw hcu hj1
        generalize wholeN (cutU b j) j next = W at *
        trace "N1"; go_wp2_with fail
        go_ret3
        exact ⟨by rw [P1.out, P2.out, P3.out, errV_zero, show (j : Int) + 1 = 1 + (j : Int) by omega]; first | rfl | (rw [hm1]; rfl), hS1⟩
      · obtain ⟨p1, p2, p3⟩ := HNO.out (fun hh => hw (by
          have h5 := hh.2.1
          have h6 := hh.2.2.2.2
          rw [hx] at h5 h6
          rw [cutU_of b (by omega) hlen4]; exact h6))
        have P1 := Lib.hid p1
        have P2 := Lib.hid p2
        have P3 := Lib.hid p3
        rw [show wholeE (cutU b j) j next = 1 by unfold wholeE; rw [if_neg hw], errV_pos (by decide)]
        clear p1 p2 p3 hw
        generalize wholeV (cutU b j) j next = W at *
        trace "N2"; go_wp2_with fail
        go_ret3
        exact ⟨by rw [P1.out, P2.out, P3.out]; rfl, hS1⟩
    have hjm' : (j : Int) < (m : Int) := by omega
    have cj := HB.out j hjm
    obtain ⟨y0, y1⟩ := bat_bounds b (j + 1)
    obtain ⟨z0, z1⟩ := cutU_bounds b j
    have HCU : Hid (cutU b (j + 1) = 256 * cutU b j + bat b (j + 1)) := Lib.hid rfl
    have z2 : cutU b j < 16777216 := by
      have : j = 0 ∨ j = 1 ∨ j = 2 ∨ j = 3 := by omega
      rcases this with rfl | rfl | rfl | rfl <;> simp at z1 <;> omega
    clear z1
    generalize bat b (j + 1) = y at *
    generalize cutU b j = c at *
    trace "P"; go_wp2_with fail
    go_roundw
    case rel => exact ⟨j + 1, by go_num, by omega, by rw [HCU.out, i64_or8 (c * 256) y (by omega) (by omega) (by omega) (by omega) (by omega)]; congr 1; omega, by first | rfl | trivial⟩
    case measure => simp [intOf]; omega
end Go.Proofs.YtmfbaijbigodkaaGreatDoor

/-! Contract of packet.Parse. Condition: the string's length is an int; the tables hold what the program's text lays. -/
namespace Go.Proofs.YtmfbaijbigodkaaGreatDoor
open Go.ChangeShapes Go.WideShapes Go.ChangeAt Go.RowKit
set_option linter.unusedVariables false

theorem Tryz.elFrm : Elem Tryz.prog 91 93 3 48 := ⟨Tryz.underlying91, ⟨.agg #[.int .i64 0, .slice none 0 0, .string ByteArray.empty], rfl, by kernel_rfl⟩, by decide, by decide⟩
/-- a frame's numbers lie in none of these blocks -/
def farA (g : FrmV) (S : List Nat) : Prop := g.f.nums ≠ [] → ∀ b off, g.A = some ⟨b, off, none⟩ → b ∉ S
theorem FrmIn.out {X w9 : World} {S : List Nat} {g : FrmV} (h : FrmIn X g) (ho : Out X w9 S) (hf : farA g S) : FrmIn w9 g := by
  obtain ⟨h1, A, cap, h2, h3, h4, h5⟩ := h.nums
  refine ⟨h.kind, h.data, h1, A, cap, h2, h3, h4, fun hne => ?_⟩
  obtain ⟨b, off, e, hlt, hc⟩ := h5 hne
  have hA : g.A = A := by simp only [FrmV.v, Value.slice.injEq] at h2; exact h2.1
  have hbn := hf hne b off (hA.trans e)
  refine ⟨b, off, e, Nat.lt_of_lt_of_le hlt ho.size, fun i hi => ?_⟩
  rw [← hc i hi]
  unfold World.cell?
  simp only
  rw [ho.block b hlt hbn]
/-- what packet.Parse keeps -/
structure PsSt (w wr : World) (b : List UInt8) (k0 i p : Nat) (A : Option Addr) (c : Nat) (Ms : List FrmV) : Prop where
  ls : Lst wr 93 3 (.slice A i c) (Ms.map frmRow)
  each : ∀ g ∈ Ms, FrmIn wr g ∧ farA g (blocks (.slice A i c))
  new : ∀ q, q ∈ blocks (.slice A i c) → w.heap.size ≤ q
  since : Since w wr
  len : Ms.length = i
  up : rdFs b k0 i = some (Ms.map (·.f), p)
  le : p ≤ b.length
  ip : k0 + i ≤ p
theorem farA_lt {w : World} {g : FrmV} {q : Nat} (h : FrmIn w g) (hq : w.heap.size ≤ q) : farA g [q] := by
  intro hne b off hA
  obtain ⟨_, A, cap, h2, _, _, h5⟩ := h.nums
  obtain ⟨b', off', e, hlt, _⟩ := h5 hne
  have hA2 : g.A = A := by simp only [FrmV.v, Value.slice.injEq] at h2; exact h2.1
  rw [hA2, e] at hA
  have : b' = b := by injection hA with h1; injection h1
  simp; omega
/-- a round: the frame g, read in W (from wr on), is put behind -/
theorem PsSt.step {w wr W w9 : World} {b : List UInt8} {k0 i p n q9 c c9 : Nat} {A : Option Addr} {Ms : List FrmV} {g : FrmV} {o1 o2 : Obj} (h : PsSt w wr b k0 i p A c Ms) (hb : Below wr.heap.size wr W) (hg : FrmIn W g) (hn : newA g.A wr.heap.size)
    (hr : readF (b.drop p) = some (g.f, n)) (hp : p < b.length)
    (hl : Lst w9 93 3 (.slice (some ⟨q9, 0, none⟩) (i + 1) c9) (Ms.map frmRow ++ [frmRow g])) (ho : Out ((W.alloc o1).alloc o2) w9 (blocks (.slice A i c))) (hq : q9 ∈ blocks (.slice A i c) ∨ q9 = ((W.alloc o1).alloc o2).heap.size) :
    PsSt w w9 b k0 (i + 1) (p + n) (some ⟨q9, 0, none⟩) c9 (Ms ++ [g]) := by
  have hWX : Below W.heap.size W ((W.alloc o1).alloc o2) := ((Since.refl W).alloc o1).alloc o2
  have hwX : Below wr.heap.size wr ((W.alloc o1).alloc o2) := (Since.later (w := wr) hb hWX)
  have hsz : W.heap.size ≤ ((W.alloc o1).alloc o2).heap.size := hWX.size
  have hgX : FrmIn ((W.alloc o1).alloc o2) g := hg.later hWX
  have hold : ∀ q, q ∈ blocks (.slice A i c) → q < wr.heap.size := h.ls.lt
  have hgf : farA g (blocks (.slice A i c)) := fun _ b' off' hA hm => by have := hn b' off' hA; have := hold b' hm; omega
  refine ⟨by rw [List.map_append]; exact hl, fun g' hg' => ?_, fun q hqm => ?_, (h.since.later hwX).out' ho h.new, by rw [List.length_append, h.len]; rfl, ?_, ?_, by have := (readF_inv hr).2.1; have := h.ip; omega⟩
  · have key : ∀ x : FrmV, FrmIn ((W.alloc o1).alloc o2) x → farA x (blocks (.slice A i c)) → FrmIn w9 x ∧ farA x (blocks (.slice (some ⟨q9, 0, none⟩) (i + 1) c9)) := fun x hx hxf => by
      refine ⟨hx.out ho hxf, fun hne b' off' hA hm => ?_⟩
      have hm' : q9 = b' := by simpa [Value.ownBlock] using hm
      subst hm'
      rcases hq with hq | hq
      · exact hxf hne q9 off' hA hq
      · exact farA_lt hx (Nat.le_of_eq hq.symm) hne q9 off' hA (by simp)
    rcases List.mem_append.1 hg' with hm | hm
    · obtain ⟨e1, e2⟩ := h.each g' hm
      exact key g' (e1.later hwX) e2
    · rw [List.mem_singleton.1 hm]; exact key g hgX hgf
  · have hm' : q9 = q := by simpa [Value.ownBlock] using hqm
    rw [← hm']
    rcases hq with hq | hq
    · exact h.new q9 hq
    · rw [hq]; have := h.since.le; have := hwX.size; omega
  · rw [List.map_append]; exact rdFs_yes h.up hp hr
  · have := (readF_inv hr).2.2.1; rw [List.length_drop] at this; omega
theorem op_bad {b : List UInt8} {next k : Int} (h : openE b next = k) (hk : k ≠ 0) : openN b next = 0 ∧ openL b next = [] := by
  unfold openN openL; rw [if_neg (by rw [h]; exact hk), if_neg (by rw [h]; exact hk)]; exact ⟨rfl, rfl⟩
theorem op_may {b : List UInt8} {next : Int} (h : ¬ MayBe next) : openE b next = 1 := by unfold openE; rw [if_neg h]
theorem op_big {b : List UInt8} {next : Int} (h : MayBe next) (h2 : 200 < b.length) : openE b next = 4 := by unfold openE; rw [if_pos h, if_pos h2]
theorem op_head {b : List UInt8} {next : Int} (h : MayBe next) (h2 : ¬ 200 < b.length) (h3 : ¬ HeadOk b next) : openE b next = 2 := by unfold openE; rw [if_pos h, if_neg h2, if_neg h3]
theorem op_none {b : List UInt8} {next : Int} (h : MayBe next) (h2 : ¬ 200 < b.length) (h3 : HeadOk b next) (h4 : openF b = none) : openE b next = 2 := by unfold openE; rw [if_pos h, if_neg h2, if_pos h3, h4]
theorem op_some {b : List UInt8} {next : Int} {L : List Frm} (h : MayBe next) (h2 : ¬ 200 < b.length) (h3 : HeadOk b next) (h4 : openF b = some L) : openE b next = 0 ∧ openN b next = wholeN (cutOf b (bat b 0)) (bat b 0) next ∧ openL b next = L := by
  have e : openE b next = 0 := by unfold openE; rw [if_pos h, if_neg h2, if_pos h3, h4]
  unfold openN openL
  rw [if_pos e, if_pos e, h4]; exact ⟨e, rfl, rfl⟩
theorem opF_none {b : List UInt8} (h : rdFs b ((bat b 0).toNat + 1) b.length = none) : openF b = none := by unfold openF; rw [h]
theorem opF_few {b : List UInt8} {L : List Frm} {p : Nat} (h : rdFs b ((bat b 0).toNat + 1) b.length = some (L, p)) (hx : L = [] ∨ 12 < L.length) : openF b = none := by unfold openF; rw [h]; simp only; rw [if_pos hx]
theorem opF_some {b : List UInt8} {L : List Frm} {p : Nat} (h : rdFs b ((bat b 0).toNat + 1) b.length = some (L, p)) (hx : ¬ (L = [] ∨ 12 < L.length)) : openF b = some L := by unfold openF; rw [h]; simp only; rw [if_neg hx]
abbrev PkPost (b : List UInt8) (next : Int) (w : World) (e : Ending) (w' : World) : Prop := ∃ (A : Option Addr) (n c : Nat) (Ms : List FrmV), e = .returned (.tuple #[.int .i64 (openN b next), .slice A n c, errV (openE b next)]) ∧ Below w.heap.size w w' ∧ FrmsIn w' (.slice A n c) Ms ∧ Ms.length = n ∧ Ms.map (·.f) = openL b next
theorem frms0 (w : World) : FrmsIn w (.slice none 0 0) [] := ⟨by simp, Rd.nil _ _⟩

set_option maxHeartbeats 3200000 in
set_option maxRecDepth 100000 in
theorem pkparse (s : ByteArray) (next : Int) (w : World) (hz : s.size ≤ 9223372036854775707) (hK : KTab w) (hC : CTab w) :
    Calls Tryz.prog 53 #[.string s, .int .i64 next] w fun e w' => PkPost s.data.toList next w e w' := by
  have HK := Lib.hid hK
  have HC := Lib.hid hC
  have hsz : s.data.toList.length = s.size := rfl
  have PF := Lib.hid (fun h W => pfirst s next W h)
  have FP := Lib.hid (fun k W h1 h2 => fparseN (s.extract k s.size) W (Nat.le_trans (str_drop_size s k) hz) h1 h2)
  have HDR := Lib.hid (fun k => str_drop s k)
  obtain ⟨b, hb⟩ : ∃ b, s.data.toList = b := ⟨_, rfl⟩
  rw [hb] at hsz PF ⊢
  have HDB : Hid (∀ k, (s.extract k s.size).data.toList = b.drop k) := Lib.hid (fun k => by rw [HDR.out, hb])
  have HSZ := Lib.hid hsz
  clear hK hC hb HDR
  by_cases hm : MayBe next
  case neg =>
    have p1 := op_may (b := b) hm
    obtain ⟨p2, p3⟩ := op_bad p1 (by decide)
    have P1 := Lib.hid p1
    have P2 := Lib.hid p2
    have P3 := Lib.hid p3
    have hmb := Lib.hid (mayB_not hm)
    clear p1 p2 p3 hm hsz
    go_enter Tryz.func53, Tryz.ntmps53
    go_wp2_with fail
    refine (may_any next _).mono ?_
    rintro e w1 ⟨rfl, rfl⟩
    rw [hmb.out]
    trace "A"; go_wp2_with fail
    go_ret3
    exact ⟨none, 0, 0, [], by rw [P1.out, P2.out]; rfl, Below.refl _ _, frms0 _, rfl, by rw [P3.out]; rfl⟩
  have HM := Lib.hid hm
  have hmb := Lib.hid (mayB_iff.2 hm)
  clear hm
  by_cases h200 : 200 < s.size
  · have p1 := op_big (b := b) HM.out (by omega)
    obtain ⟨p2, p3⟩ := op_bad p1 (by decide)
    have P1 := Lib.hid p1
    have P2 := Lib.hid p2
    have P3 := Lib.hid p3
    have h200' : (200 : Int) < (s.size : Int) := by omega
    clear p1 p2 p3 hsz
    go_enter Tryz.func53, Tryz.ntmps53
    go_wp2_with fail
    refine (may_any next _).mono ?_
    rintro e w1 ⟨rfl, rfl⟩
    rw [hmb.out]
    trace "B"; go_wp2_with fail
    go_ret3
    exact ⟨none, 0, 0, [], by rw [P1.out, P2.out]; rfl, Below.refl _ _, frms0 _, rfl, by rw [P3.out]; rfl⟩
  have h200' : decide ((200 : Int) < (s.size : Int)) = false := by simp; omega
  have HB2 : Hid (¬ 200 < b.length) := Lib.hid (by omega)
  have hs200 : s.size ≤ 200 := by omega
  have PF2 := Lib.hid (PF.out (by omega))
  clear h200
  by_cases hh : HeadOk b next
  case neg =>
    have p1 := op_head (b := b) HM.out HB2.out hh
    obtain ⟨p2, p3⟩ := op_bad p1 (by decide)
    obtain ⟨f1, f2, f3⟩ := fir_no hh
    have P1 := Lib.hid p1
    have P2 := Lib.hid p2
    have P3 := Lib.hid p3
    rw [f1, f2, f3] at PF2
    clear p1 p2 p3 hsz f1 f2 f3 hh
    go_enter Tryz.func53, Tryz.ntmps53
    go_wp2_with fail
    refine (may_any next _).mono ?_
    rintro e w1 ⟨rfl, rfl⟩
    rw [hmb.out]
    trace "C"; go_wp2_with fail
    refine (PF2.out _).mono ?_
    rintro e w1 ⟨rfl, hb1⟩
    rw [errV_pos (by decide)]
    trace "C1"; go_wp2_with fail
    go_ret3
    exact ⟨none, 0, 0, [], by rw [P1.out, P2.out]; rfl, hb1, frms0 _, rfl, by rw [P3.out]; rfl⟩
  obtain ⟨f1, f2, f3⟩ := fir_yes hh
  obtain ⟨k0, hk0⟩ : ∃ k0, (bat b 0).toNat + 1 = k0 := ⟨_, rfl⟩
  have hk1 : bat b 0 + 1 = (k0 : Int) := by have := hh.2.1; omega
  have hkb : k0 ≤ b.length := by have := hh.2.2.2.1; omega
  rw [f1, f2, f3, hk1, errV_zero] at PF2
  have HON := Lib.hid (fun h => (op_none HM.out HB2.out hh (opF_none h)))
  have HOF := Lib.hid (fun L p h hx => (op_none HM.out HB2.out hh (opF_few (L := L) (p := p) h hx)))
  have HOS := Lib.hid (fun L p h hx => (op_some HM.out HB2.out hh (opF_some (L := L) (p := p) h hx)))
  rw [hk0] at HON HOF HOS
  have HST : Hid (∀ W, Since w W → PsSt w W b k0 0 k0 none 0 []) := Lib.hid (fun W hW => ⟨Lst.nil _ _ _, by simp, by simp [Value.ownBlock], hW, rfl, rfl, hkb, by omega⟩)
  generalize wholeN (cutOf b (bat b 0)) (bat b 0) next = N at *
  clear f1 f2 f3 hk0 hk1 hh hkb
  go_enter Tryz.func53, Tryz.ntmps53
  go_wp2_with fail
  refine (may_any next _).mono ?_
  rintro e w1 ⟨rfl, rfl⟩
  rw [hmb.out]
  trace "D"; go_wp2_with fail
  refine (PF2.out _).mono ?_
  rintro e w1 ⟨rfl, hb1⟩
  have HS1 := Lib.hid (HST.out w1 hb1)
  trace "E"; go_wp2_with fail
  go_loopw [8, 10] (fun s8 s10 wr => ∃ (i p : Nat) (A : Option Addr) (c : Nat) (Ms : List FrmV), s8 = .int .i64 p ∧ s10 = .slice A i c ∧ p ≤ s.size ∧ Hid (PsSt w wr b k0 i p A c Ms)) (fun s8 _ _ => s.size - (intOf s8).toNat)
  case atStart => exact ⟨0, k0, none, 0, [], rfl, rfl, by have := HS1.out.le; omega, HS1⟩
  case round =>
    obtain ⟨i, p, A, c, Ms, rfl, rfl, hp, HS⟩ := hrel
    have hs := Lib.hid HS.out.since
    have HML := Lib.hid HS.out.len
    by_cases hlt : p < s.size
    case neg =>
      have hf : decide ((p : Int) < (s.size : Int)) = false := by simp; omega
      have hup : rdFs b k0 b.length = some (Ms.map (·.f), p) := rdFs_end HS.out.up (by have := HSZ.out; omega) _ (by have := HS.out.ip; have := HS.out.le; omega)
      have hmm : (Ms.map (·.f)).length = i := by rw [List.length_map, HML.out]
      by_cases h0 : i = 0
      · subst h0
        have p1 := HOF.out _ _ hup (Or.inl (List.length_eq_zero_iff.1 hmm))
        obtain ⟨p2, p3⟩ := op_bad p1 (by decide)
        have P1 := Lib.hid p1
        have P2 := Lib.hid p2
        have P3 := Lib.hid p3
        clear p1 p2 p3 hup hmm
        trace "G"; go_wp2_with fail
        go_ret3
        exact ⟨none, 0, 0, [], by rw [P1.out, P2.out]; rfl, hs.out, frms0 _, rfl, by rw [P3.out]; rfl⟩
      have h0' : ((i : Int) == 0) = false := by rw [beq_eq_false_iff_ne]; omega
      by_cases h12 : 12 < i
      · have p1 := HOF.out _ _ hup (Or.inr (by rw [hmm]; exact h12))
        obtain ⟨p2, p3⟩ := op_bad p1 (by decide)
        have P1 := Lib.hid p1
        have P2 := Lib.hid p2
        have P3 := Lib.hid p3
        have h12' : (12 : Int) < (i : Int) := by omega
        clear p1 p2 p3 hup hmm h0
        trace "H"; go_wp2_with fail
        go_ret3
        exact ⟨none, 0, 0, [], by rw [P1.out, P2.out]; rfl, hs.out, frms0 _, rfl, by rw [P3.out]; rfl⟩
      obtain ⟨p1, p2, p3⟩ := HOS.out _ _ hup (fun hx => by
        rcases hx with hx | hx
        · have := congrArg List.length hx; rw [hmm] at this; exact h0 this
        · rw [hmm] at hx; exact h12 hx)
      have P1 := Lib.hid p1
      have P2 := Lib.hid p2
      have P3 := Lib.hid p3
      have h12' : decide ((12 : Int) < (i : Int)) = false := by simp; omega
      clear p1 p2 p3 hup hmm h0 h12
      trace "I"; go_wp2_with fail
      go_ret3
      exact ⟨A, i, c, Ms, by rw [P1.out, P2.out]; rfl, hs.out, ⟨fun g hg => (HS.out.each g hg).1, Rd.of_lst HS.out.ls⟩, HML.out, P3.out.symm⟩
    have hlt' : (p : Int) < (s.size : Int) := by omega
    have hp0 : (p : Int) ≤ (s.size : Int) := by omega
    have FPp := Lib.hid (FP.out p)
    rw [HDB.out] at FPp
    have hov := HSZ.out
    clear hlt
    trace "J"; go_wp2_with fail
    refine (FPp.out _ (HK.out.later hs.out) (HC.out.later hs.out)).mono ?_
    rintro e w2 ⟨g, rfl, hb2, hg2, hgf2, hgn2⟩
    cases hrd : readF (b.drop p) with
    | none =>
      obtain ⟨q1, q2, q3⟩ := pf_none hrd
      have p1 := HON.out (rdFs_none (rdFs_no HS.out.up (by omega) hrd) _ (by have := HS.out.ip; omega))
      obtain ⟨p2, p3⟩ := op_bad p1 (by decide)
      have P1 := Lib.hid p1
      have P2 := Lib.hid p2
      have P3 := Lib.hid p3
      rw [q1, q3, errV_pos (by decide)]
      have hs2 := hs.out.later hb2
      clear p1 p2 p3 q1 q2 q3 hrd hg2 hgf2 hgn2 hb2
      trace "K"; go_wp2_with fail
      go_ret3
      exact ⟨none, 0, 0, [], by rw [P1.out, P2.out]; rfl, (by refine Since.out ?_; repeat (first | with_reducible assumption | with_reducible exact Since.refl _ | with_reducible refine Since.later ?_ (by with_reducible assumption) | with_reducible refine Since.only ?_ (by with_reducible assumption) (by first | assumption | omega | (simp; done) | (simp; omega)) | with_reducible refine Since.alloc ?_ _ | with_reducible refine Since.drewN ?_ _ | with_reducible refine Since.drew ?_ | with_reducible refine Since.set ?_ (by first | assumption | omega | (simp; done) | (simp; omega)) _)), frms0 _, rfl, by rw [P3.out]; rfl⟩
    | some q =>
      obtain ⟨f, n⟩ := q
      obtain ⟨q1, q2, q3⟩ := pf_some hrd
      obtain ⟨_, r2, r3, _⟩ := readF_inv hrd
      rw [q1, q3, errV_zero]
      rw [q2] at hgf2
      rw [List.length_drop] at r3
      have HRD : Hid (readF (b.drop p) = some (g.f, n)) := Lib.hid (by rw [hrd, hgf2])
      have HLS := Lib.hid (((HS.out.ls.later hb2).alloc (.cells #[.int .i64 g.f.kind, .slice g.A g.f.nums.length g.cap, .string g.f.data] 93)).alloc (.cells #[.int .i64 g.f.kind, .slice g.A g.f.nums.length g.cap, .string g.f.data] 93))
      have HMR : Hid ((Ms.map frmRow).length = i) := Lib.hid (by rw [List.length_map, HML.out])
      have HSTEP := Lib.hid (fun q9 c9 w9 o1 o2 hl ho hq => HS.out.step (q9 := q9) (c9 := c9) (w9 := w9) (o1 := o1) (o2 := o2) hb2 hg2 hgn2 HRD.out (by omega) hl ho hq)
      have HBK := Lib.hid (BlockIs.fresh (w2.alloc (.cells #[.int .i64 g.f.kind, .slice g.A g.f.nums.length g.cap, .string g.f.data] 93)) 93 #[.int .i64 g.f.kind, .slice g.A g.f.nums.length g.cap, .string g.f.data])
      rw [World.size_alloc] at HBK
      obtain ⟨pn, hpn0⟩ : ∃ pn, p + n = pn := ⟨_, rfl⟩
      have hpn : (p : Int) + (n : Int) = (pn : Int) := by omega
      have hpn3 : p < pn := by omega
      have hpn4 : pn ≤ s.size := by omega
      rw [hpn0] at HSTEP
      clear hpn0
      have hi6 : i ≤ 200 := by have := HS.out.ip; omega
      clear q1 q2 q3 hrd hgf2 hg2 hgn2 hb2
      trace "L"; go_wp2_with (at_builtin; refine wpList_push rfl _ _ 91 rfl 93 3 48 Tryz.elFrm (.slice A i c) (Ms.map frmRow) rfl HLS.out (w2.heap.size + 1) 1 (frmRow g) rfl rfl (frmRow_one g).2 HBK.out (by rw [HMR.out]; omega) ?_; intro q9 cq w5 hl5 ho5 hq5 hlt5; rw [HMR.out] at hl5; (try rw [HMR.out]); have HN5 := Lib.hid (HSTEP.out q9 cq w5 _ _ hl5 ho5 hq5); clear hl5 ho5 hq5 hlt5)
      trace "M"; go_wp2_with fail
      go_roundw
      case rel => exact ⟨i + 1, pn, some ⟨q9, 0, none⟩, cq, Ms ++ [g], by first | rfl | (rw [hpn]), rfl, hpn4, HN5⟩
      case measure => simp [intOf]; omega
end Go.Proofs.YtmfbaijbigodkaaGreatDoor

/-! Contracts of packet.head and packet.Bytes. Condition: the number may be; the frames are right. -/
namespace Go.Proofs.YtmfbaijbigodkaaGreatDoor
open Go.ChangeShapes Go.WideShapes Go.ChangeAt Go.RowKit
set_option linter.unusedVariables false

def u8Row (n : Int) : List Value := [.int .u8 n]
theorem u8Row_one (n : Int) : (u8Row n).length = 1 ∧ ∀ u ∈ u8Row n, u.oneCell' = true := ⟨rfl, by intro u hu; simp [u8Row] at hu; rw [hu]; rfl⟩
theorem Tryz.elU8 : Elem Tryz.prog 131 5 1 1 := ⟨Tryz.underlying131, ⟨.int .u8 0, rfl, by kernel_rfl⟩, by decide, by decide⟩
/-- a packet's first bytes as numbers -/
def hdZ (n b : Int) : List Int := b :: (if b = 1 then [n % 256] else if b = 2 then [n / 256 % 256, n % 256]
    else if b = 3 then [n / 65536 % 256, n / 256 % 256, n % 256] else [n / 16777216 % 256, n / 65536 % 256, n / 256 % 256, n % 256])
theorem hdZ_bytes {n b : Int} (h1 : 1 ≤ b) (h2 : b ≤ 4) : (hdZ n b).map byteOf = headB n b := by
  rcases four h1 h2 with rfl | rfl | rfl | rfl <;> rfl
theorem hdZ_len {n b : Int} (h1 : 1 ≤ b) (h2 : b ≤ 4) : ((hdZ n b).length : Int) = b + 1 := by
  rcases four h1 h2 with rfl | rfl | rfl | rfl <;> rfl
def shB (c : Int) : Nat → Int
  | 0 => c % 256
  | 1 => c / 256 % 256
  | 2 => c / 65536 % 256
  | _ => c / 16777216 % 256
theorem hdZ_next {n c : Int} {m j i : Nat} (hc : n % rnd (m : Int) = c) (h1 : 1 ≤ m) (h4 : m ≤ 4) (hji : m - 1 - j = i) (hj : j < m) : (hdZ n m).take (j + 2) = (hdZ n m).take (j + 1) ++ [shB c i] := by
  subst hc hji
  have hm : m = 1 ∨ m = 2 ∨ m = 3 ∨ m = 4 := by omega
  have hjj : j = 0 ∨ j = 1 ∨ j = 2 ∨ j = 3 := by omega
  rcases hm with rfl | rfl | rfl | rfl <;> rcases hjj with rfl | rfl | rfl | rfl <;> first | omega | (simp [hdZ, rnd, shB]; done) | (simp [hdZ, rnd, shB]; omega)
/-- what packet.head keeps -/
structure HdSt (w wr : World) (ns : List Int) (j : Nat) (q c : Nat) : Prop where
  ls : Lst wr 5 1 (.slice (some ⟨q, 0, none⟩) j c) ((ns.take j).map u8Row)
  new : w.heap.size ≤ q
  since : Since w wr

theorem HdSt.step {w wr w5 : World} {ns : List Int} {j q c q9 cq : Nat} {x y : Int} {o : Obj} (h : HdSt w wr ns (j + 1) q c) (ht : ns.take (j + 2) = ns.take (j + 1) ++ [y]) (hx : y = x) (hml : ((ns.take (j + 1)).map u8Row).length = j + 1)
    (hl : Lst w5 5 1 (.slice (some ⟨q9, 0, none⟩) (j + 1 + 1) cq) ((ns.take (j + 1)).map u8Row ++ [[.int .u8 x]])) (ho : Out (wr.alloc o) w5 (blocks (.slice (some ⟨q, 0, none⟩) (j + 1) c))) (hq : q9 ∈ blocks (.slice (some ⟨q, 0, none⟩) (j + 1) c) ∨ q9 = (wr.alloc o).heap.size) : HdSt w w5 ns (j + 1 + 1) q9 cq := by
  subst hx
  have hkk : ∀ k, k ∈ blocks (.slice (some ⟨q, 0, none⟩) (j + 1) c) → w.heap.size ≤ k := fun k hk => by
    have : q = k := by simpa [Value.ownBlock] using hk
    rw [← this]; exact h.new
  refine ⟨by rw [ht, List.map_append]; exact hl, ?_, (h.since.alloc o).out' ho hkk⟩
  rcases hq with hq | hq
  · exact hkk q9 hq
  · rw [hq]; have := h.since.le; simp; omega
set_option maxHeartbeats 1600000 in
set_option maxRecDepth 100000 in
theorem phead (n b : Int) (w : World) (h0 : 0 ≤ n) (hn : n ≤ 1073741823) (h1 : 1 ≤ b) (h2 : b ≤ 4) :
    Calls Tryz.prog 87 #[.int .i64 n, .int .i64 b] w fun e w' => e = .returned (.string ⟨(headB n b).toArray⟩) ∧ Below w.heap.size w w' := by
  have hwrap : IntKind.u8.wrap b = b := by simp [IntKind.wrap, IntKind.bits, IntKind.signed]; omega
  obtain ⟨m, rfl⟩ : ∃ m : Nat, b = m := ⟨b.toNat, by omega⟩
  have hrn := rnd_bounds (m : Int)
  have hc0 : 0 ≤ n % rnd (m : Int) := Int.emod_nonneg _ (by omega)
  have hc1 : n % rnd (m : Int) < rnd (m : Int) := Int.emod_lt_of_pos _ (by omega)
  obtain ⟨c, hc⟩ : ∃ c, n % rnd (m : Int) = c := ⟨_, rfl⟩
  have HCD := Lib.hid hc
  rw [hc] at hc0 hc1
  go_enter Tryz.func87, Tryz.ntmps87
  trace "A"; go_wp2_with fail
  refine (short_any n m h0 h1 h2 _).mono ?_
  rintro e w1 ⟨rfl, rfl⟩
  rw [hc]
  clear hc
  trace "B"; go_wp2_with fail
  go_loopw [5, 7] (fun s5 s7 wr => ∃ (j q cp : Nat), s5 = .slice (some ⟨q, 0, none⟩) (j + 1) cp ∧ s7 = .int .i64 ((m : Int) - 1 - j) ∧ j ≤ m ∧ HdSt w wr (hdZ n m) (j + 1) q cp) (fun _ s7 _ => (intOf s7 + 1).toNat)
  case atStart => exact ⟨0, w.heap.size, 1, rfl, by simp, Nat.zero_le _, ⟨⟨World.ownsRow_lit (base := 0) w #[.int .u8 m] 1 (Nat.zero_le _) (by decide) rfl, by intro e he; obtain ⟨z, _, rfl⟩ := List.mem_map.1 he; exact u8Row_one z⟩, Nat.le_refl _, (by refine Since.out ?_; repeat (first | with_reducible assumption | with_reducible exact Since.refl _ | with_reducible refine Since.later ?_ (by with_reducible assumption) | with_reducible refine Since.only ?_ (by with_reducible assumption) (by first | assumption | omega | (simp; done) | (simp; omega)) | with_reducible refine Since.alloc ?_ _ | with_reducible refine Since.drewN ?_ _ | with_reducible refine Since.drew ?_ | with_reducible refine Since.set ?_ (by first | assumption | omega | (simp; done) | (simp; omega)) _))⟩⟩
  case round =>
    obtain ⟨j, q, cp, rfl, rfl, hj, hS⟩ := hrel
    by_cases hlt : j < m
    case neg =>
      obtain rfl : j = m := by omega
      have hm1 : (j : Int) - 1 - (j : Int) = -1 := by omega
      have hln : (hdZ n j).length = j + 1 := by have := hdZ_len (n := n) h1 h2; omega
      have hcv := conv_of (W := wr) (g := q) (c := cp) (ns := hdZ n j) (fun k v hk => by
        rw [List.getElem?_map] at hk
        cases hz : (hdZ n j)[k]? with
        | none => rw [hz] at hk; cases hk
        | some z =>
          rw [hz] at hk
          simp only [Option.map_some, Option.some.injEq] at hk
          subst hk
          have hl := hS.ls
          rw [List.take_of_length_le (by omega)] at hl
          have := hl.cell rfl (i := k) (j := 0) (e := u8Row z) (u := .int .u8 z) (by rw [List.getElem?_map, hz]; rfl) rfl
          simpa using this)
      rw [hln, hdZ_bytes h1 h2] at hcv
      rw [hm1]
      have hs := Lib.hid hS.since
      clear hS hln hm1
      trace "N"; go_wp2_with fail
      go_ret
      exact ⟨by rfl, hs.out⟩
    have hi : (m : Int) - 1 - (j : Int) = ((m - 1 - j : Nat) : Int) := by omega
    rw [hi]
    obtain ⟨i, hi2⟩ : ∃ i, m - 1 - j = i := ⟨_, rfl⟩
    have HI2 := Lib.hid hi2
    rw [hi2]
    have hi4 : i = 0 ∨ i = 1 ∨ i = 2 ∨ i = 3 := by omega
    clear hi hi2
    have HS := Lib.hid hS
    have HML : Hid ((((hdZ n m).take (j + 1)).map u8Row).length = j + 1) := Lib.hid (by have := hdZ_len (n := n) h1 h2; simp; omega)
    have HT := Lib.hid (hdZ_next (j := j) HCD.out (by omega) (by omega) HI2.out hlt)
    clear hS
    rcases hi4 with rfl | rfl | rfl | rfl
    · have HX := Lib.hid (show shB c 0 = c % 256 from rfl)
      trace "C0"; go_wp2_with (at_builtin; refine wpList_push rfl _ _ 131 rfl 5 1 1 Tryz.elU8 (.slice (some ⟨q, 0, none⟩) (j + 1) cp) (((hdZ n m).take (j + 1)).map u8Row) rfl (HS.out.ls.alloc _) wr.heap.size 1 [.int .u8 (c % 256)] rfl rfl (u8Row_one _).2 (BlockIs.fresh _ _ _) (by rw [HML.out]; omega) ?_; intro q9 cq w5 hl5 ho5 hq5 hlt5; rw [HML.out] at hl5; (try rw [HML.out]); have HN5 := Lib.hid (HS.out.step (HT.out) HX.out HML.out hl5 ho5 hq5); clear hl5 ho5 hq5 hlt5)
      go_roundw
      case rel => exact ⟨j + 1, q9, cq, rfl, by have := HI2.out; first | (simp; omega) | (congr 1; omega), by omega, HN5.out⟩
      case measure => (simp [intOf]; try omega)
    · have HX := Lib.hid (show shB c 1 = c / 256 % 256 from rfl)
      trace "C1"; go_wp2_with (at_builtin; refine wpList_push rfl _ _ 131 rfl 5 1 1 Tryz.elU8 (.slice (some ⟨q, 0, none⟩) (j + 1) cp) (((hdZ n m).take (j + 1)).map u8Row) rfl (HS.out.ls.alloc _) wr.heap.size 1 [.int .u8 (c / 256 % 256)] rfl rfl (u8Row_one _).2 (BlockIs.fresh _ _ _) (by rw [HML.out]; omega) ?_; intro q9 cq w5 hl5 ho5 hq5 hlt5; rw [HML.out] at hl5; (try rw [HML.out]); have HN5 := Lib.hid (HS.out.step (HT.out) HX.out HML.out hl5 ho5 hq5); clear hl5 ho5 hq5 hlt5)
      go_roundw
      case rel => exact ⟨j + 1, q9, cq, rfl, by have := HI2.out; first | (simp; omega) | (congr 1; omega), by omega, HN5.out⟩
      case measure => (simp [intOf]; try omega)
    · have HX := Lib.hid (show shB c 2 = c / 65536 % 256 from rfl)
      trace "C2"; go_wp2_with (at_builtin; refine wpList_push rfl _ _ 131 rfl 5 1 1 Tryz.elU8 (.slice (some ⟨q, 0, none⟩) (j + 1) cp) (((hdZ n m).take (j + 1)).map u8Row) rfl (HS.out.ls.alloc _) wr.heap.size 1 [.int .u8 (c / 65536 % 256)] rfl rfl (u8Row_one _).2 (BlockIs.fresh _ _ _) (by rw [HML.out]; omega) ?_; intro q9 cq w5 hl5 ho5 hq5 hlt5; rw [HML.out] at hl5; (try rw [HML.out]); have HN5 := Lib.hid (HS.out.step (HT.out) HX.out HML.out hl5 ho5 hq5); clear hl5 ho5 hq5 hlt5)
      go_roundw
      case rel => exact ⟨j + 1, q9, cq, rfl, by have := HI2.out; first | (simp; omega) | (congr 1; omega), by omega, HN5.out⟩
      case measure => (simp [intOf]; try omega)
    · have HX := Lib.hid (show shB c 3 = c / 16777216 by show c / 16777216 % 256 = _; omega)
      trace "C3"; go_wp2_with (at_builtin; refine wpList_push rfl _ _ 131 rfl 5 1 1 Tryz.elU8 (.slice (some ⟨q, 0, none⟩) (j + 1) cp) (((hdZ n m).take (j + 1)).map u8Row) rfl (HS.out.ls.alloc _) wr.heap.size 1 [.int .u8 (c / 16777216)] rfl rfl (u8Row_one _).2 (BlockIs.fresh _ _ _) (by rw [HML.out]; omega) ?_; intro q9 cq w5 hl5 ho5 hq5 hlt5; rw [HML.out] at hl5; (try rw [HML.out]); have HN5 := Lib.hid (HS.out.step (HT.out) HX.out HML.out hl5 ho5 hq5); clear hl5 ho5 hq5 hlt5)
      go_roundw
      case rel => exact ⟨j + 1, q9, cq, rfl, by have := HI2.out; first | (simp; omega) | (congr 1; omega), by omega, HN5.out⟩
      case measure => (simp [intOf]; try omega)
end Go.Proofs.YtmfbaijbigodkaaGreatDoor
