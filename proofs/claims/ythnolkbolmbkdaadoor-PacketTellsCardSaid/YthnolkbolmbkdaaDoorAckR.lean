/- Contracts of ack's reader, ack.Read and ack.Parse. Condition: the table of kinds holds what the program's text lays; the string's length is an int. -/
import Derived.Test.YthnolkbolmbkdaaDoorAckB
import Derived.Test.YthnolkbolmbkdaaDoorLst
namespace Go.Proofs.YthnolkbolmbkdaaDoor
open Go.ChangeShapes Go.WideShapes Go.ChangeAt Go.RowKit
set_option linter.unusedVariables false

theorem Only.of_drew {a w : World} {g : Nat} (h : Only a.drew w g) : Only a w g := ⟨h.os, h.tape, h.output, h.size, h.block⟩
theorem str_drop (s : ByteArray) (k : Nat) : (s.extract k s.size).data.toList = s.data.toList.drop k := by
  rw [ByteArray.data_extract]
  have : s.data.toList.length = s.size := rfl
  rw [Array.toList_extract, List.extract_eq_take_drop]
  rw [List.take_of_length_le]
  simp [this]
theorem str_drop_size (s : ByteArray) (k : Nat) : (s.extract k s.size).size ≤ s.size := by
  rw [ByteArray.size_extract]; omega
/-- is there a number -/
def gok (l : List UInt8) : Bool := decide (getOk l)
theorem gok_yes {l : List UInt8} (h : getOk l) : gok l = true ∧ getV l = getN l ∧ getK l = getC l ∧ getE l = 0 := by
  unfold gok getV getK getE; simp [h]
theorem gok_no {l : List UInt8} (h : ¬ getOk l) : gok l = false ∧ getV l = 0 ∧ getK l = 0 ∧ getE l = 2 := by
  unfold gok getV getK getE; simp [h]
theorem getR_drop (s : ByteArray) (k : Nat) : getR (s.extract k s.size) = .tuple #[.int .i64 (getV (s.data.toList.drop k)), .int .i64 (getK (s.data.toList.drop k)), errV (getE (s.data.toList.drop k))] := by
  unfold getR; rw [str_drop]
theorem bits_getN (l : List UInt8) : 0 ≤ getV l ∧ getV l ≤ 1073741823 := by
  by_cases h : getOk l
  · rw [(gok_yes h).2.1]; exact getN_bounds h.2.1
  · rw [(gok_no h).2.1]; omega
theorem bits_getK (l : List UInt8) : 0 ≤ getK l ∧ getK l ≤ 4 ∧ getK l ≤ l.length := by
  by_cases h : getOk l
  · rw [(gok_yes h).2.2.1]
    have := (getC_pos l).2
    have := h.2.2.1
    omega
  · rw [(gok_no h).2.2.1]; omega

set_option maxHeartbeats 1600000 in
theorem anext (g : Nat) (s : ByteArray) (k : Nat) (bad : Bool) (w : World) (h : BlockIs w g 162 #[.string s, .int .i64 k, .bool bad]) (hz : s.size ≤ 9223372036854775807) (hk : k ≤ s.size) (hK : KTab w) :
    Calls Tryd.prog 100 #[.pointer (some ⟨g, 0, none⟩)] w fun e w' => e = .returned (.int .i64 (getV (s.data.toList.drop k))) ∧ BlockIs w' g 162 #[.string s, .int .i64 ((k : Int) + getK (s.data.toList.drop k)), .bool (bad || !gok (s.data.toList.drop k))] ∧ Only w w' g := by
  have d0 : w.cell? ⟨g, 0, none⟩ = some (.string s) := h.cell 0
  have d1 : w.cell? ⟨g, 1, none⟩ = some (.int .i64 k) := h.cell 1
  have lt := h.lt
  have HB := Lib.hid h
  have HK := Lib.hid hK
  have HZ := Lib.hid (Nat.le_trans (str_drop_size s k) hz)
  have HR := Lib.hid (getR_drop s k)
  have hk' : (k : Int) ≤ (s.size : Int) := by omega
  obtain ⟨v0, v1⟩ := bits_getN (s.data.toList.drop k)
  obtain ⟨k0, k1, k2⟩ := bits_getK (s.data.toList.drop k)
  have hk3 : (k : Int) + getK (s.data.toList.drop k) ≤ 9223372036854775807 := by
    have : s.data.toList.length = s.size := rfl
    rw [List.length_drop] at k2
    omega
  clear h hK k2
  by_cases hg : getOk (s.data.toList.drop k)
  · obtain ⟨e1, e2, e3, e4⟩ := gok_yes hg
    rw [e4, errV_zero] at HR
    have HG := Lib.hid e1
    clear e1 e2 e3 e4 hg
    generalize getV (s.data.toList.drop k) = V at *
    generalize getK (s.data.toList.drop k) = K at *
    generalize s.data.toList.drop k = D at *
    go_enter Tryd.func100, Tryd.ntmps100
    trace "A"; go_wp2_with fail
    go_region_law (go_simp; go_at_call 117; refine (vget_any _ HZ.out _ (HK.out.later (by refine Since.out ?_; repeat (first | with_reducible assumption | with_reducible exact Since.refl _ | with_reducible refine Since.later ?_ (by with_reducible assumption) | with_reducible refine Since.only ?_ (by with_reducible assumption) (by first | assumption | omega | (simp; done) | (simp; omega)) | with_reducible refine Since.alloc ?_ _ | with_reducible refine Since.drewN ?_ _ | with_reducible refine Since.drew ?_ | with_reducible refine Since.set ?_ (by first | assumption | omega | (simp; done) | (simp; omega)) _)))).mono ?_; rintro e w1 ⟨rfl, hb1⟩; rw [HR.out]; have HS1 := Lib.hid (show Since w w1 from (by refine Since.out ?_; repeat (first | with_reducible assumption | with_reducible exact Since.refl _ | with_reducible refine Since.later ?_ (by with_reducible assumption) | with_reducible refine Since.only ?_ (by with_reducible assumption) (by first | assumption | omega | (simp; done) | (simp; omega)) | with_reducible refine Since.alloc ?_ _ | with_reducible refine Since.drewN ?_ _ | with_reducible refine Since.drew ?_ | with_reducible refine Since.set ?_ (by first | assumption | omega | (simp; done) | (simp; omega)) _))); clear hb1)
    all_goals
      have hB1 := HB.out.later HS1.out
      have d11 : w1.cell? ⟨g, 1, none⟩ = some (.int .i64 k) := hB1.cell 1
      have f1 := hB1.free
      have l1 := hB1.lt
      have HB1 := Lib.hid hB1
      clear hB1
      trace "B"; go_wp2_with fail
      go_ret
      exact ⟨rfl, by rw [HG.out, Bool.not_true, Bool.or_false]; exact HB1.out.put 1 _, (Only.of_below HS1.out g).put 1 _⟩
  · obtain ⟨e1, e2, e3, e4⟩ := gok_no hg
    rw [e4, e2, e3, errV_pos (by decide)] at HR
    rw [e1, e2, e3]
    clear e1 e2 e3 e4 hg v0 v1 k0 k1 hk3
    go_enter Tryd.func100, Tryd.ntmps100
    go_wp2_with fail
    go_region_law (go_simp; go_at_call 117; refine (vget_any _ HZ.out _ (HK.out.later (by refine Since.out ?_; repeat (first | with_reducible assumption | with_reducible exact Since.refl _ | with_reducible refine Since.later ?_ (by with_reducible assumption) | with_reducible refine Since.only ?_ (by with_reducible assumption) (by first | assumption | omega | (simp; done) | (simp; omega)) | with_reducible refine Since.alloc ?_ _ | with_reducible refine Since.drewN ?_ _ | with_reducible refine Since.drew ?_ | with_reducible refine Since.set ?_ (by first | assumption | omega | (simp; done) | (simp; omega)) _)))).mono ?_; rintro e w1 ⟨rfl, hb1⟩; rw [HR.out]; have HS1 := Lib.hid (show Since w w1 from (by refine Since.out ?_; repeat (first | with_reducible assumption | with_reducible exact Since.refl _ | with_reducible refine Since.later ?_ (by with_reducible assumption) | with_reducible refine Since.only ?_ (by with_reducible assumption) (by first | assumption | omega | (simp; done) | (simp; omega)) | with_reducible refine Since.alloc ?_ _ | with_reducible refine Since.drewN ?_ _ | with_reducible refine Since.drew ?_ | with_reducible refine Since.set ?_ (by first | assumption | omega | (simp; done) | (simp; omega)) _))); clear hb1)
    all_goals
      have hB1 := HB.out.later HS1.out
      have f1 := hB1.free
      have l1 := hB1.lt
      have d12 : w1.cell? ⟨g, 2, none⟩ = some (.bool bad) := hB1.cell 2
      have HB1 := Lib.hid hB1
      clear hB1
      go_wp2_with fail
      go_ret
      exact ⟨rfl, by rw [Int.add_zero, Bool.not_false, Bool.or_true]; exact HB1.out.put 2 _, (Only.of_below HS1.out g).put 2 _⟩

/-- how many bytes a number takes, none: 0 -/
def kN (l : List UInt8) : Nat := if getOk l then getC l else 0
theorem kN_eq (l : List UInt8) : getK l = (kN l : Int) := by unfold getK kN; split <;> simp
theorem kN_le (b : List UInt8) {k : Nat} (hk : k ≤ b.length) : k + kN (b.drop k) ≤ b.length := by
  have h := (bits_getK (b.drop k)).2.2
  rw [kN_eq, List.length_drop] at h
  omega
theorem anextN (g : Nat) (s : ByteArray) (k : Nat) (bad : Bool) (w : World) (h : BlockIs w g 162 #[.string s, .int .i64 k, .bool bad]) (hz : s.size ≤ 9223372036854775807) (hk : k ≤ s.data.toList.length) (hK : KTab w) :
    Calls Tryd.prog 100 #[.pointer (some ⟨g, 0, none⟩)] w fun e w' => e = .returned (.int .i64 (getV (s.data.toList.drop k))) ∧ BlockIs w' g 162 #[.string s, .int .i64 ((k + kN (s.data.toList.drop k) : Nat) : Int), .bool (bad || !gok (s.data.toList.drop k))] ∧ Only w w' g := by
  refine (anext g s k bad w h hz hk hK).mono fun e w' ⟨h1, h2, h3⟩ => ⟨h1, ?_, h3⟩
  rw [kN_eq] at h2
  rw [show ((k + kN (s.data.toList.drop k) : Nat) : Int) = (k : Int) + (kN (s.data.toList.drop k) : Int) by omega]
  exact h2
/-- the i-th range's end, where its length stands, and was there a gap -/
def nH (b : List UInt8) (hi : Int) (i : Nat) (M : List Rng) (k : Nat) : Int := if i = 0 then hi else (rat M (i - 1)).lo - 2 - getV (b.drop k)
def nK (b : List UInt8) (i k : Nat) : Nat := if i = 0 then k else k + kN (b.drop k)
def nG (b : List UInt8) (i k : Nat) : Bool := if i = 0 then true else gok (b.drop k)
theorem gok_iff {l : List UInt8} : gok l = true ↔ getOk l := by unfold gok; simp
theorem step_ok {b : List UInt8} {hi : Int} {k0 i k : Nat} {M : List Rng} (h : rdUp b hi k0 i = some (M, k)) (hg : nG b i k = true) (hl : gok (b.drop (nK b i k)) = true) (h0 : 0 ≤ nH b hi i M k - getV (b.drop (nK b i k))) :
    rdUp b hi k0 (i + 1) = some (M ++ [⟨nH b hi i M k - getV (b.drop (nK b i k)), nH b hi i M k⟩], nK b i k + kN (b.drop (nK b i k))) := by
  rw [rdUp_step h]
  have hv := gok_yes (gok_iff.1 hl)
  have hkn : kN (b.drop (nK b i k)) = getC (b.drop (nK b i k)) := by unfold kN; rw [if_pos (gok_iff.1 hl)]
  rw [hv.2.1] at h0 ⊢
  rw [hkn]
  refine rdOne_yes ?_ ⟨gok_iff.1 hl, h0⟩
  unfold nH nK nG at *
  by_cases hi0 : i = 0
  · subst hi0; rfl
  · rw [if_neg hi0] at hg
    have hg' := gok_iff.1 hg
    rw [hiAt_yes (by omega) hg', if_neg hi0, if_neg hi0, (gok_yes hg').2.1]
    unfold kN; rw [if_pos hg']
theorem step_no {b : List UInt8} {hi : Int} {k0 i k : Nat} {M : List Rng} (h : rdUp b hi k0 i = some (M, k)) (hn : ¬ (nG b i k = true ∧ gok (b.drop (nK b i k)) = true ∧ 0 ≤ nH b hi i M k - getV (b.drop (nK b i k)))) : rdUp b hi k0 (i + 1) = none := by
  rw [rdUp_step h]
  unfold nH nK nG at hn
  by_cases hi0 : i = 0
  · subst hi0
    simp only [if_pos] at hn
    refine rdOne_no (hiAt_zero _ _ _ _) (fun hh => hn ⟨trivial, gok_iff.2 hh.1, ?_⟩)
    rw [(gok_yes hh.1).2.1]; exact hh.2
  · simp only [if_neg hi0] at hn
    by_cases hg : getOk (b.drop k)
    · have hv := gok_yes hg
      have hkn : kN (b.drop k) = getC (b.drop k) := by unfold kN; rw [if_pos hg]
      rw [hv.2.1, hkn] at hn
      refine rdOne_no (hiAt_yes (by omega) hg) (fun hh => hn ⟨hv.1, gok_iff.2 hh.1, ?_⟩)
      rw [(gok_yes hh.1).2.1]; exact hh.2
    · exact rdOne_gap (hiAt_no (by omega) hg)
/-- the first two numbers -/
def hdOk (b : List UInt8) : Bool := gok b && gok (b.drop (kN b))
def hdM (b : List UInt8) : Int := getV (b.drop (kN b))
def hdK (b : List UInt8) : Nat := kN b + kN (b.drop (kN b))
theorem readA_head (b : List UInt8) : readA b = if hdOk b = true ∧ hdM b < 12 then rdUp b (getV b) (hdK b) ((hdM b).toNat + 1) else none := by
  unfold readA hdOk hdM hdK
  by_cases h1 : getOk b
  · have e1 : kN b = getC b := by unfold kN; rw [if_pos h1]
    rw [e1]
    by_cases h2 : getOk (b.drop (getC b))
    · have e2 : kN (b.drop (getC b)) = getC (b.drop (getC b)) := by unfold kN; rw [if_pos h2]
      rw [e2, (gok_yes h1).1, (gok_yes h2).1, (gok_yes h1).2.1, (gok_yes h2).2.1]
      simp [h1, h2]
    · rw [(gok_no h2).1]; simp [h2]
  · rw [(gok_no h1).1]; simp [h1]
theorem readA_bad {b : List UInt8} (h : hdOk b = false) : readA b = none := by rw [readA_head, if_neg (by simp [h])]
theorem readA_many {b : List UInt8} (h : 12 ≤ hdM b) : readA b = none := by rw [readA_head, if_neg (by omega)]
theorem readA_up {b : List UInt8} {i : Nat} (h : rdUp b (getV b) (hdK b) i = none) (hi : (i : Int) ≤ hdM b + 1) : readA b = none := by
  rw [readA_head]
  split
  · exact rdUp_none h _ (by omega)
  · rfl
theorem readA_end {b : List UInt8} {i : Nat} {M : List Rng} {k : Nat} (h : rdUp b (getV b) (hdK b) i = some (M, k)) (h0 : hdOk b = true) (hi : (i : Int) = hdM b + 1) (h12 : i ≤ 12) : readA b = some (M, k) := by
  have hm : 0 ≤ hdM b := (bits_getN _).1
  rw [readA_head, if_pos ⟨h0, by omega⟩, show (hdM b).toNat + 1 = i by omega, h]

theorem Tryd.elRange2 : Elem Tryd.prog 65 69 2 16 := ⟨Tryd.underlying65, ⟨.agg #[.int .i64 0, .int .i64 0], rfl, by kernel_rfl⟩, by decide, by decide⟩
/-- what the loop of ack.Read keeps -/
structure RdSt (w wr : World) (b : List UInt8) (g : Nat) (s : ByteArray) (i k : Nat) (bad : Bool) (h : Int) (A : Option Addr) (cap : Nat) (M : List Rng) : Prop where
  bl : BlockIs wr g 162 #[.string s, .int .i64 k, .bool bad]
  ls : Lst wr 69 2 (.slice A i cap) (M.map rngRow)
  new : ∀ q, q ∈ blocks (.slice A 0 0) → w.heap.size ≤ q
  ap : g ∉ blocks (.slice A i cap)
  since : Since w wr
  len : M.length = i
  le : k ≤ b.length
  was : bad = true → readA b = none
  now : bad = false → hdOk b = true ∧ rdUp b (getV b) (hdK b) i = some (M, k) ∧ i ≤ 12
  hi0 : i = 0 → h = getV b
  hib : -1073741826 ≤ h ∧ h ≤ 1073741823
  each : ∀ r ∈ M, 0 ≤ r.lo ∧ r.lo ≤ 1073741823
  up : (i : Int) ≤ hdM b + 1
  few : i ≤ 13

set_option maxHeartbeats 3200000 in
set_option maxRecDepth 100000 in
theorem aread (s : ByteArray) (w : World) (hz : s.size ≤ 9223372036854775807) (hK : KTab w) :
    Calls Tryd.prog 71 #[.string s] w fun e w' => ∃ (A : Option Addr) (cap k : Nat) (ok : Bool) (M : List Rng), e = .returned (.tuple #[.slice A M.length cap, .int .i64 k, .bool ok]) ∧ Lst w' 69 2 (.slice A M.length cap) (M.map rngRow) ∧ M.length ≤ 13 ∧ Below w.heap.size w w' ∧ (∀ q, q ∈ blocks (.slice A 0 0) → w.heap.size ≤ q) ∧ (∀ r ∈ M, 0 ≤ r.lo ∧ r.lo ≤ 1073741823) ∧ readA s.data.toList = if ok = true then some (M, k) else none := by
  have HK := Lib.hid hK
  have HZ := Lib.hid hz
  obtain ⟨b, hb⟩ : ∃ b, s.data.toList = b := ⟨_, rfl⟩
  have HBD := Lib.hid hb
  rw [hb]
  have AN : Hid (∀ (g k : Nat) (bad : Bool) (w : World), BlockIs w g 162 #[.string s, .int .i64 k, .bool bad] → k ≤ b.length → KTab w → Calls Tryd.prog 100 #[.pointer (some ⟨g, 0, none⟩)] w fun e w' => e = .returned (.int .i64 (getV (b.drop k))) ∧ BlockIs w' g 162 #[.string s, .int .i64 ((k + kN (b.drop k) : Nat) : Int), .bool (bad || !gok (b.drop k))] ∧ Only w w' g) := Lib.hid (fun g k bad w h1 h2 h3 => by subst hb; exact anextN g s k bad w h1 hz h2 h3)
  clear hK hz hb
  have HV0 := Lib.hid (bits_getN b)
  go_enter Tryd.func71, Tryd.ntmps71
  go_wp2_with fail
  refine (AN.out w.heap.size 0 false _ (BlockIs.fresh w _ _) (Nat.zero_le _) (HK.out.later ((Since.refl w).alloc _))).mono ?_
  rintro e w1 ⟨rfl, hB1, ho1⟩
  rw [List.drop_zero, Nat.zero_add, Bool.false_or] at *
  have hs1 : Since w w1 := ho1.below ((Since.refl w).alloc _) (by simp) (Nat.le_refl _)
  have HB1 := Lib.hid hB1
  clear ho1 hB1
  go_wp2_with fail
  refine (AN.out w.heap.size (kN b) (!gok b) _ HB1.out (by have := kN_le b (Nat.zero_le _); simpa using this) (HK.out.later hs1)).mono ?_
  rintro e w2 ⟨rfl, hB2, ho2⟩
  have hs2 : Since w w2 := ho2.below hs1 hs1.le (Nat.le_refl _)
  have HST : Hid (RdSt w w2 b w.heap.size s 0 (hdK b) (!gok b || !gok (b.drop (kN b))) (getV b) none 0 []) := Lib.hid
    { bl := hB2, ls := Lst.nil _ _ _, new := by simp [Value.ownBlock], ap := by simp [Value.ownBlock], since := hs2, len := rfl,
      le := kN_le b (by have := kN_le b (Nat.zero_le _); simpa using this)
      was := fun h => readA_bad (by unfold hdOk; cases h1 : gok b <;> simp [h1] at h ⊢; exact h)
      now := fun h => ⟨by unfold hdOk; cases h1 : gok b <;> simp [h1] at h ⊢; exact h, rfl, by omega⟩
      hi0 := fun _ => rfl, hib := by have := HV0.out; omega, each := by simp, up := by have := (bits_getN (b.drop (kN b))).1; unfold hdM; omega, few := by omega }
  have HM : Hid (getV (b.drop (kN b)) = hdM b) := Lib.hid rfl
  obtain ⟨m0, m1⟩ : 0 ≤ hdM b ∧ hdM b ≤ 1073741823 := bits_getN (b.drop (kN b))
  clear ho2 hB2 hs1
  rw [HM.out]
  trace "A"; go_wp2_with fail
  go_loopw [6, 8, 9] (fun s6 s8 s9 wr => ∃ (i k : Nat) (bad : Bool) (h : Int) (A : Option Addr) (cap : Nat) (M : List Rng), s6 = .int .i64 h ∧ s8 = .slice A i cap ∧ s9 = .int .i64 i ∧ RdSt w wr b w.heap.size s i k bad h A cap M) (fun _ _ s9 _ => (hdM b + 1).toNat - (intOf s9).toNat)
  case atStart => exact ⟨0, _, _, _, none, 0, [], rfl, rfl, rfl, HST.out⟩
  case round =>
    obtain ⟨i, k, bad, h, A, cap, M, rfl, rfl, rfl, hS⟩ := hrel
    have HS := Lib.hid hS
    have hs := hS.since
    have hup := hS.up
    have hfew := hS.few
    have HBL := Lib.hid hS.bl
    have e2 : wr.cell? ⟨w.heap.size, 2, none⟩ = some (.bool bad) := hS.bl.cell 2
    have lt := hS.bl.lt
    obtain ⟨h1, h2⟩ := hS.hib
    have HLN := Lib.hid hS.len
    clear hS
    have fin : ∀ ok : Bool, (readA b = if ok = true then some (M, k) else none) → ∀ W, Below wr.heap.size wr W → ∃ (A' : Option Addr) (cap' k' : Nat) (ok' : Bool) (M' : List Rng), Ending.returned (.tuple #[.slice A i cap, .int .i64 k, .bool ok]) = .returned (.tuple #[.slice A' M'.length cap', .int .i64 k', .bool ok']) ∧ Lst W 69 2 (.slice A' M'.length cap') (M'.map rngRow) ∧ M'.length ≤ 13 ∧ Below w.heap.size w W ∧ (∀ q, q ∈ blocks (.slice A' 0 0) → w.heap.size ≤ q) ∧ (∀ r ∈ M', 0 ≤ r.lo ∧ r.lo ≤ 1073741823) ∧ readA b = if ok' = true then some (M', k') else none := by
      intro ok hok W hW
      have hl := HS.out.len
      refine ⟨A, cap, k, ok, M, by rw [hl], by rw [hl]; exact HS.out.ls.later hW, by rw [hl]; exact HS.out.few, HS.out.since.later hW, HS.out.new, HS.out.each, hok⟩
    have FIN := Lib.hid fin
    clear fin
    cases bad with
    | true =>
      have HF := Lib.hid (FIN.out false (by rw [HS.out.was rfl]; rfl))
      have d1 : wr.cell? ⟨w.heap.size, 1, none⟩ = some (.int .i64 k) := HBL.out.cell 1
      by_cases hle : (i : Int) ≤ hdM b
      · trace "B"; go_wp2_with fail
        go_quiet (fail)
        go_wp2_with fail
        go_ret3
        exact HF.out _ (by refine Since.out ?_; repeat (first | with_reducible assumption | with_reducible exact Since.refl _ | with_reducible refine Since.later ?_ (by with_reducible assumption) | with_reducible refine Since.only ?_ (by with_reducible assumption) (by first | assumption | omega | (simp; done) | (simp; omega)) | with_reducible refine Since.alloc ?_ _ | with_reducible refine Since.drewN ?_ _ | with_reducible refine Since.drew ?_ | with_reducible refine Since.set ?_ (by first | assumption | omega | (simp; done) | (simp; omega)) _))
      · have hle' : decide ((i : Int) ≤ hdM b) = false := by simpa using hle
        clear hle
        go_wp2_with fail
        go_quiet (fail)
        go_wp2_with fail
        go_ret3
        exact HF.out _ (by refine Since.out ?_; repeat (first | with_reducible assumption | with_reducible exact Since.refl _ | with_reducible refine Since.later ?_ (by with_reducible assumption) | with_reducible refine Since.only ?_ (by with_reducible assumption) (by first | assumption | omega | (simp; done) | (simp; omega)) | with_reducible refine Since.alloc ?_ _ | with_reducible refine Since.drewN ?_ _ | with_reducible refine Since.drew ?_ | with_reducible refine Since.set ?_ (by first | assumption | omega | (simp; done) | (simp; omega)) _))
    | false =>
      obtain ⟨n1, n2, n3⟩ := HS.out.now rfl
      have HN1 := Lib.hid n1
      have HN2 := Lib.hid n2
      clear n1 n2
      by_cases hle : (i : Int) ≤ hdM b
      case neg =>
        have HF := Lib.hid (FIN.out true (by rw [readA_end HN2.out HN1.out (by omega) n3]; rfl))
        have d1 : wr.cell? ⟨w.heap.size, 1, none⟩ = some (.int .i64 k) := HBL.out.cell 1
        have hle' : decide ((i : Int) ≤ hdM b) = false := by simpa using hle
        clear hle
        go_wp2_with fail
        go_quiet (fail)
        go_wp2_with fail
        go_ret3
        exact HF.out _ (by refine Since.out ?_; repeat (first | with_reducible assumption | with_reducible exact Since.refl _ | with_reducible refine Since.later ?_ (by with_reducible assumption) | with_reducible refine Since.only ?_ (by with_reducible assumption) (by first | assumption | omega | (simp; done) | (simp; omega)) | with_reducible refine Since.alloc ?_ _ | with_reducible refine Since.drewN ?_ _ | with_reducible refine Since.drew ?_ | with_reducible refine Since.set ?_ (by first | assumption | omega | (simp; done) | (simp; omega)) _))
      have HNH0 : Hid (i = 0 → h = nH b (getV b) i M k ∧ k = nK b i k ∧ (!nG b i k) = false) := Lib.hid (fun h0 => ⟨by rw [HS.out.hi0 h0]; unfold nH; rw [if_pos h0], by unfold nK; rw [if_pos h0], by unfold nG; rw [if_pos h0]; rfl⟩)
      have HNH1 : Hid (0 < i → (rat M (i - 1)).lo - 2 - getV (b.drop k) = nH b (getV b) i M k ∧ k + kN (b.drop k) = nK b i k ∧ (false || !gok (b.drop k)) = (!nG b i k)) := Lib.hid (fun h0 => ⟨by unfold nH; rw [if_neg (by omega)], by unfold nK; rw [if_neg (by omega)], by unfold nG; rw [if_neg (by omega)]; rfl⟩)
      have HNB : Hid (0 < i → 0 ≤ (rat M (i - 1)).lo ∧ (rat M (i - 1)).lo ≤ 1073741823) := Lib.hid (fun h0 => by rw [rat_get (by rw [HLN.out]; omega)]; exact HS.out.each _ (List.getElem_mem _))
      have HAI : Hid (0 < i → ∃ q, A = some ⟨q, 0, none⟩) := Lib.hid (fun h0 => by
        obtain ⟨A', cap', hv, _, _, hA⟩ := HS.out.ls.shape
        simp only [Value.slice.injEq] at hv
        obtain ⟨rfl, _⟩ := hv
        rcases hA with ⟨_, h1, _⟩ | hq
        · have := congrArg List.length h1; rw [List.length_map, HLN.out] at this; simp at this; omega
        · exact hq)
      trace "C"; repeat ((fail_if_success (with_reducible refine stop_at 7 ?_)); first | fail | go_values | go_skip | go_guarded | go_step | go_upon | go_back | go_simp)
      obtain ⟨wq, rfl⟩ : ∃ wq : World, wq = wr := ⟨_, rfl⟩
      go_cut [6] (fun s6 wx => s6 = .int .i64 (nH b (getV b) i M k) ∧ BlockIs wx w.heap.size 162 #[.string s, .int .i64 (nK b i k : Nat), .bool (!nG b i k)] ∧ Only wq wx w.heap.size)
      case first =>
        by_cases hi0 : i = 0
        · subst hi0
          obtain ⟨q1, q2, q3⟩ := HNH0.out rfl
          have Q1 := Lib.hid q1
          have Q2 := Lib.hid q2
          have Q3 := Lib.hid q3
          clear q1 q2 q3
          go_wp2_with fail
          go_meet
          case rel => exact ⟨by rw [Q1.out], by rw [← Q2.out, Q3.out]; exact HBL.out, Only.refl _ _⟩
        · have hip : 0 < i := by omega
          have hip' : (0 : Int) < (i : Int) := by omega
          obtain ⟨q1, q2, q3⟩ := HNH1.out hip
          obtain ⟨l0, l1⟩ := HNB.out hip
          obtain ⟨q, rfl⟩ := HAI.out hip
          have hcl : ∀ W, Only wq W w.heap.size → W.cell? ⟨q, (i - 1) * 2, none⟩ = some (.int .i64 (rat M (i - 1)).lo) := fun W hW => by
            have hl := HS.out.ls.kept (Out.of_only hW) (fun k hk hk2 => HS.out.ap (by rw [List.mem_singleton.1 hk2] at hk; exact hk))
            have := hl.cell rfl (elem_of_rng (L := M) (i := i - 1) (by rw [HLN.out]; omega)) (j := 0) rfl
            rw [rat_get (by rw [HLN.out]; omega)]
            simpa using this
          have HCL := Lib.hid hcl
          have dq := hcl wq (Only.refl _ _)
          have hi1 : (i : Int) - 1 = ((i - 1 : Nat) : Int) := by omega
          have hi3 : ((i - 1 : Nat) : Int) < (i : Int) := by omega
          have hw0 : IntKind.i64.wrap ((i - 1 : Nat) : Int) = ((i - 1 : Nat) : Int) := by simp [IntKind.wrap, IntKind.bits, IntKind.signed]; omega
          obtain ⟨v0, v1⟩ := bits_getN (b.drop k)
          have Q1 := Lib.hid q1
          have Q2 := Lib.hid q2
          have Q3 := Lib.hid q3
          clear q1 q2 q3 hcl hi0
          generalize (rat M (i - 1)).lo = pl at *
          obtain ⟨V, hV⟩ : ∃ V, getV (b.drop k) = V := ⟨_, rfl⟩
          have HV := Lib.hid hV
          rw [hV] at v0 v1
          clear hV
          have hw1 : IntKind.i64.wrap (pl - 2) = pl - 2 := by simp [IntKind.wrap, IntKind.bits, IntKind.signed]; omega
          have hw2 : IntKind.i64.wrap (pl - 2 - V) = pl - 2 - V := by simp [IntKind.wrap, IntKind.bits, IntKind.signed]; omega
          have lq : q < wq.heap.size := HS.out.ls.lt q (by simp [Value.ownBlock])
          trace "D"; go_wp2_with fail
          go_region_law (go_simp; go_at_call 100; refine (AN.out w.heap.size k false _ ?_ HS.out.le (HK.out.later (by refine Since.out ?_; repeat (first | with_reducible assumption | with_reducible exact Since.refl _ | with_reducible refine Since.later ?_ (by with_reducible assumption) | with_reducible refine Since.only ?_ (by with_reducible assumption) (by first | assumption | omega | (simp; done) | (simp; omega)) | with_reducible refine Since.alloc ?_ _ | with_reducible refine Since.drewN ?_ _ | with_reducible refine Since.drew ?_ | with_reducible refine Since.set ?_ (by first | assumption | omega | (simp; done) | (simp; omega)) _)))).mono ?_; (first | exact HBL.out | exact HBL.out.drew); rintro e w3 ⟨rfl, hB3, ho3⟩; rw [HV.out]; have HO3 := Lib.hid (show Only wq w3 w.heap.size from (by first | exact ho3 | exact Only.of_drew ho3)); have HB3 := Lib.hid hB3; have dq3 := HCL.out w3 HO3.out; have lq3 : q < w3.heap.size := Nat.lt_of_lt_of_le lq HO3.out.size_le; clear ho3 hB3)
          all_goals
            go_wp2_with fail
            go_meet
            case rel => exact ⟨by rw [← Q1.out, ← HV.out], by rw [← Q2.out, ← Q3.out]; exact HB3.out, HO3.out⟩
      case rest =>
        obtain ⟨wo, rfl⟩ : ∃ wo : World, wo = wc := ⟨_, rfl⟩
        obtain ⟨rfl, hB, ho⟩ := hcut
        have hbd : -1073741826 ≤ nH b (getV b) i M k ∧ nH b (getV b) i M k ≤ 1073741823 := by
          rcases Nat.eq_zero_or_pos i with h0 | h0
          · rw [← (HNH0.out h0).1]; exact ⟨h1, h2⟩
          · have a1 := HNB.out h0
            have a2 := bits_getN (b.drop k)
            rw [← (HNH1.out h0).1]
            omega
        obtain ⟨b1, b2⟩ := hbd
        have hkl : nK b i k ≤ b.length := by
          rcases Nat.eq_zero_or_pos i with h0 | h0
          · rw [← (HNH0.out h0).2.1]; exact HS.out.le
          · rw [← (HNH1.out h0).2.1]; exact kN_le b HS.out.le
        have HKL := Lib.hid hkl
        have hso : Since w wo := ho.below hs hs.le (Nat.le_refl _)
        have HO := Lib.hid ho
        have HB := Lib.hid hB
        have HSO := Lib.hid (fun (hn : ¬ (nG b i k = true ∧ gok (b.drop (nK b i k)) = true ∧ 0 ≤ nH b (getV b) i M k - getV (b.drop (nK b i k)))) => readA_up (step_no HN2.out hn) (show ((i + 1 : Nat) : Int) ≤ hdM b + 1 by omega))
        have HSY := Lib.hid (fun h1 h2 h3 => step_ok (M := M) HN2.out h1 h2 h3)
        have HMAX := Lib.hid (fun (h : 12 ≤ i) => readA_many (b := b) (by omega))
        clear HNH0 HNH1 HNB HAI HN2 e2 HBL h1 h2 hkl hB ho FIN
        trace "E"; go_wp2_with fail
        refine (AN.out w.heap.size (nK b i k) (!nG b i k) _ HB.out HKL.out (HK.out.later hso)).mono ?_
        rintro e w4 ⟨rfl, hB4, ho4⟩
        have hs4 : Since w w4 := ho4.below hso hso.le (Nat.le_refl _)
        have HO4 := Lib.hid (HO.out.trans ho4)
        have HB4 := Lib.hid hB4
        obtain ⟨v0, v1⟩ := bits_getN (b.drop (nK b i k))
        have hkn := kN_le b HKL.out
        have HKN := Lib.hid hkn
        generalize nH b (getV b) i M k = hh at *
        generalize getV (b.drop (nK b i k)) = V2 at *
        generalize kN (b.drop (nK b i k)) = K2 at *
        generalize gok (b.drop (nK b i k)) = G2 at *
        generalize nK b i k = k1 at *
        generalize nG b i k = G1 at *
        clear hB4 ho4 hkn
        by_cases hlo : hh - V2 < 0
        · have HR := Lib.hid (HSO.out (fun h => by omega))
          trace "F"; go_wp2_with fail
          go_ret3
          exact ⟨none, 0, 0, false, [], rfl, Lst.nil _ _ _, by simp, hs4, by simp [Value.ownBlock], by simp, by rw [HR.out]; rfl⟩
        have hlo' : decide (hh - V2 < 0) = false := by simpa using hlo
        by_cases h12 : 12 ≤ i
        · have HR := Lib.hid (HMAX.out h12)
          have h12' : (12 : Int) ≤ (i : Int) := by omega
          trace "G"; go_wp2_with fail
          go_ret3
          exact ⟨none, 0, 0, false, [], rfl, Lst.nil _ _ _, by simp, hs4, by simp [Value.ownBlock], by simp, by rw [HR.out]; rfl⟩
        have h12' : decide ((12 : Int) ≤ (i : Int)) = false := by simp; omega
        have HML : Hid ((M.map rngRow).length = i) := Lib.hid (by rw [List.length_map, HLN.out])
        have HL4 := Lib.hid (HS.out.ls.kept (Out.of_only HO4.out) (fun k hk hk2 => HS.out.ap (by rw [List.mem_singleton.1 hk2] at hk; exact hk)))
        trace "H"; go_wp2_with (at_builtin; refine wpList_push rfl _ _ 65 rfl 69 2 16 Tryd.elRange2 (.slice A i cap) (M.map rngRow) rfl (HL4.out.alloc _) w4.heap.size 1 [.int .i64 (hh - V2), .int .i64 hh] rfl rfl (rngRow_one ⟨hh - V2, hh⟩).2 (BlockIs.fresh _ _ _) (by rw [HML.out]; omega) ?_; intro q cq w5 hl5 ho5 hq5 hlt5)
        rw [HML.out] at hl5
        have hB5 := ho5.block' (HB4.out.alloc _) HS.out.ap
        have hs5 : Since w w5 := (hs4.alloc _).out' ho5 (fun k hk => HS.out.new k (by rw [blocks_any A 0 0 i cap]; exact hk))
        have hqn : w.heap.size ≤ q ∧ w.heap.size ≠ q := by
          rcases hq5 with h | h
          · exact ⟨HS.out.new q (by rw [blocks_any A 0 0 i cap]; exact h), fun he => HS.out.ap (by rw [he]; exact h)⟩
          · have := HB4.out.lt
            rw [h]
            simp
            omega
        have HST2 : Hid (RdSt w w5 b w.heap.size s (i + 1) (k1 + K2) (!G1 || !G2) hh (some ⟨q, 0, none⟩) cq (M ++ [⟨hh - V2, hh⟩])) := Lib.hid
          { bl := hB5, ls := by rw [List.map_append]; exact hl5
            new := fun k hk => by have : q = k := by simpa [Value.ownBlock] using hk
                                  omega
            ap := fun hk => by have : q = w.heap.size := by simpa [Value.ownBlock] using hk
                               omega
            since := hs5, len := by rw [List.length_append, HLN.out]; rfl
            le := HKN.out
            was := fun h => HSO.out (fun hh => by rw [hh.1, hh.2.1] at h; cases h)
            now := fun h => ⟨HN1.out, HSY.out (by cases G1 <;> simp at h ⊢) (by cases G1 <;> cases G2 <;> simp at h ⊢) (by omega), by omega⟩
            hi0 := fun h => by omega
            hib := ⟨b1, b2⟩
            each := fun r hr => by
              rcases List.mem_append.1 hr with hr | hr
              · exact HS.out.each r hr
              · rw [List.mem_singleton.1 hr]; exact ⟨by show 0 ≤ hh - V2; omega, by show hh - V2 ≤ 1073741823; omega⟩
            up := by omega, few := by omega }
        clear hl5 ho5 hq5 hlt5 hB5 hqn
        trace "I"; go_wp2_with fail
        go_roundw
        case rel => exact ⟨i + 1, _, _, _, some ⟨q, 0, none⟩, cq, _, rfl, by first | rfl | rw [HLN.out], by go_num, HST2.out⟩
        case measure => simp [intOf]; omega

/-- just ranges' bytes -/
def parL (b : List UInt8) : Option (List Rng) := match readA b with | some (L, n) => if n = b.length then some L else none | none => none
def parE (b : List UInt8) : Int := if parL b = none then 2 else 0
def parM (b : List UInt8) : List Rng := (parL b).getD []
theorem parL_none {b : List UInt8} (h : readA b = none) : parL b = none ∧ parE b = 2 ∧ parM b = [] := by
  have e : parL b = none := by unfold parL; rw [h]
  exact ⟨e, by unfold parE; rw [if_pos e], by unfold parM; rw [e]; rfl⟩
theorem parL_yes {b : List UInt8} {L : List Rng} (h : readA b = some (L, b.length)) : parL b = some L ∧ parE b = 0 ∧ parM b = L := by
  have e : parL b = some L := by unfold parL; rw [h]; simp
  exact ⟨e, by unfold parE; rw [e]; simp, by unfold parM; rw [e]; rfl⟩
theorem parL_no {b : List UInt8} {L : List Rng} {n : Nat} (h : readA b = some (L, n)) (hn : n ≠ b.length) : parL b = none ∧ parE b = 2 ∧ parM b = [] := by
  have e : parL b = none := by unfold parL; rw [h]; simp only; rw [if_neg hn]
  exact ⟨e, by unfold parE; rw [if_pos e], by unfold parM; rw [e]; rfl⟩
theorem parL_iff {b : List UInt8} {L : List Rng} : parL b = some L ↔ readA b = some (L, b.length) := by
  constructor
  · intro h
    unfold parL at h
    cases hr : readA b with
    | none => rw [hr] at h; cases h
    | some p =>
      obtain ⟨M, n⟩ := p
      rw [hr] at h
      simp only at h
      by_cases hn : n = b.length
      · rw [if_pos hn] at h; rw [Option.some.inj h, hn]
      · rw [if_neg hn] at h; cases h
  · exact fun h => (parL_yes h).1
set_option maxHeartbeats 1600000 in
theorem aparse (s : ByteArray) (w : World) (hz : s.size ≤ 9223372036854775807) (hK : KTab w) :
    Calls Tryd.prog 32 #[.string s] w fun e w' => ∃ (A : Option Addr) (cap : Nat), e = .returned (.tuple #[.slice A (parM s.data.toList).length cap, errV (parE s.data.toList)]) ∧ Lst w' 69 2 (.slice A (parM s.data.toList).length cap) ((parM s.data.toList).map rngRow) ∧ Below w.heap.size w w' ∧ (∀ q, q ∈ blocks (.slice A 0 0) → w.heap.size ≤ q) := by
  have HK := Lib.hid hK
  have HZ := Lib.hid hz
  have hsz : s.data.toList.length = s.size := rfl
  have HSZ := Lib.hid hsz
  clear hK hsz
  obtain ⟨b, hb⟩ : ∃ b, s.data.toList = b := ⟨_, rfl⟩
  have HBD := Lib.hid hb
  rw [hb] at HSZ ⊢
  clear hb
  go_enter Tryd.func32, Tryd.ntmps32
  go_wp2_with fail
  refine (aread s _ HZ.out HK.out).mono ?_
  rintro e w1 ⟨A, cap, k, ok, M, rfl, hl, hM, hb1, hnew, heach, hr⟩
  rw [HBD.out] at hr
  have HL := Lib.hid hl
  have HN := Lib.hid hnew
  clear hl hnew heach
  cases ok with
  | false =>
    obtain ⟨_, hpe, hpm⟩ := parL_none (b := b) (by rw [hr]; rfl)
    have HPE := Lib.hid hpe
    have HPM := Lib.hid hpm
    clear hpe hpm
    clear hr
    go_wp2_with fail
    go_ret2
    rw [HPE.out, HPM.out]
    exact ⟨none, 0, rfl, Lst.nil _ _ _, hb1, by simp [Value.ownBlock]⟩
  | true =>
    have hr' : readA b = some (M, k) := by rw [hr]; rfl
    by_cases hk : k = s.size
    · subst hk
      obtain ⟨_, hpe, hpm⟩ := parL_yes (by rw [HSZ.out]; exact hr')
      have HPE := Lib.hid hpe
      have HPM := Lib.hid hpm
      clear hpe hpm
      have hq : ((s.size : Int) != (s.size : Int)) = false := by simp
      clear hr hr'
      go_wp2_with fail
      go_ret2
      rw [HPE.out, HPM.out]
      exact ⟨A, cap, rfl, HL.out, hb1, HN.out⟩
    · obtain ⟨_, hpe, hpm⟩ := parL_no hr' (by rw [HSZ.out]; exact hk)
      have HPE := Lib.hid hpe
      have HPM := Lib.hid hpm
      clear hpe hpm
      have hq : ((k : Int) != (s.size : Int)) = true := by simp; omega
      clear hr hr' hk
      go_wp2_with fail
      go_ret2
      rw [HPE.out, HPM.out]
      exact ⟨none, 0, rfl, Lst.nil _ _ _, hb1, by simp [Value.ownBlock]⟩
end Go.Proofs.YthnolkbolmbkdaaDoor
