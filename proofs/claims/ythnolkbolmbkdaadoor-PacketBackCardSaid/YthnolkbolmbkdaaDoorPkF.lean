/- Contract of packet.first. Condition: the string is short. -/
import Derived.Test.YthnolkbolmbkdaaDoorPktLaw
import Derived.Test.YthnolkbolmbkdaaDoorAckR
import Derived.Test.YthnolkbolmbkdaaDoorFrmChk
import Derived.Lib.ConvBytes
namespace Go.Proofs.YthnolkbolmbkdaaDoor
open Go.ChangeShapes Go.WideShapes Go.ChangeAt Go.RowKit
set_option linter.unusedVariables false

noncomputable def firE (b : List UInt8) (next : Int) : Int := if HeadOk b next then 0 else 2
noncomputable def firN (b : List UInt8) (next : Int) : Int := if HeadOk b next then wholeN (cutOf b (bat b 0)) (bat b 0) next else 0
noncomputable def firK (b : List UInt8) (next : Int) : Int := if HeadOk b next then bat b 0 + 1 else 0
theorem fir_no {b : List UInt8} {next : Int} (h : ¬ HeadOk b next) : firE b next = 2 ∧ firN b next = 0 ∧ firK b next = 0 := by
  unfold firE firN firK; rw [if_neg h, if_neg h, if_neg h]; exact ⟨rfl, rfl, rfl⟩
theorem fir_yes {b : List UInt8} {next : Int} (h : HeadOk b next) : firE b next = 0 ∧ firN b next = wholeN (cutOf b (bat b 0)) (bat b 0) next ∧ firK b next = bat b 0 + 1 := by
  unfold firE firN firK; rw [if_pos h, if_pos h, if_pos h]; exact ⟨rfl, rfl, rfl⟩
/-- the cut number of the first j bytes behind the head -/
def cutU (b : List UInt8) : Nat → Int
  | 0 => 0
  | j + 1 => 256 * cutU b j + bat b (j + 1)
theorem cutU_bounds (b : List UInt8) : ∀ j, 0 ≤ cutU b j ∧ cutU b j < 256 ^ j
  | 0 => by simp [cutU]
  | j + 1 => by
    obtain ⟨h1, h2⟩ := cutU_bounds b j
    obtain ⟨g1, g2⟩ := bat_bounds b (j + 1)
    rw [cutU, Int.pow_succ]
    omega
theorem cutU_of (b : List UInt8) {m : Nat} (h1 : 1 ≤ m) (h4 : m ≤ 4) : cutU b m = cutOf b m := by
  have : m = 1 ∨ m = 2 ∨ m = 3 ∨ m = 4 := by omega
  rcases this with rfl | rfl | rfl | rfl <;> simp [cutU, cutOf]
theorem Since.bytes {w wr : World} (h : Since w wr) (e : TypeId) (s : ByteArray) : Since w (Lib.bytesWorld wr e s) :=
  h.later ⟨rfl, rfl, rfl, by rw [Lib.bytesWorld_size]; omega, fun i hi => Lib.bytesWorld_at_old wr e s i hi⟩

set_option maxHeartbeats 1600000 in
set_option maxRecDepth 100000 in
theorem pfirst (s : ByteArray) (next : Int) (w : World) (hz : s.size ≤ 1000) :
    Calls Tryd.prog 87 #[.string s, .int .i64 next] w fun e w' => e = .returned (.tuple #[.int .i64 (firN s.data.toList next), .int .i64 (firK s.data.toList next), errV (firE s.data.toList next)]) ∧ Below w.heap.size w w' := by
  have hsz : s.data.toList.length = s.size := rfl
  have hat := fun h => str_at s 0 h
  obtain ⟨b, hb⟩ : ∃ b, s.data.toList = b := ⟨_, rfl⟩
  have HBD := Lib.hid hb
  have HNO := Lib.hid (fun h => fir_no (b := b) (next := next) h)
  have HYES := Lib.hid (fun h => fir_yes (b := b) (next := next) h)
  rw [hb] at hsz hat ⊢
  by_cases h0 : s.size = 0
  · obtain ⟨e1, e2⟩ := str_empty h0
    obtain ⟨p1, p2, p3⟩ := HNO.out (fun h => h.1 (List.length_eq_zero_iff.1 (by omega)))
    have P1 := Lib.hid p1
    have P2 := Lib.hid p2
    have P3 := Lib.hid p3
    clear p1 p2 p3 h0 hat hsz hb
    go_enter Tryd.func87, Tryd.ntmps87
    trace "A"; go_wp2_with fail
    go_ret3
    exact ⟨by rw [P1.out, P2.out, P3.out]; rfl, Below.refl _ _⟩
  obtain ⟨e1, e2⟩ := str_full h0
  have hpos : 0 < s.size := by omega
  have e0 := hat hpos
  obtain ⟨x, hx⟩ : ∃ x, bat b 0 = x := ⟨_, rfl⟩
  rw [hx] at e0
  obtain ⟨b0, b1⟩ := bat_bounds b 0
  rw [hx] at b0 b1
  have hwrap : IntKind.i64.wrap x = x := by simp [IntKind.wrap, IntKind.bits, IntKind.signed]; omega
  by_cases hlen : (s.size : Int) ≤ x
  · obtain ⟨p1, p2, p3⟩ := HNO.out (fun h => by have := h.2.2.2.1; omega)
    have P1 := Lib.hid p1
    have P2 := Lib.hid p2
    have P3 := Lib.hid p3
    clear p1 p2 p3 h0 hat hsz hb hx
    go_enter Tryd.func87, Tryd.ntmps87
    trace "B"; go_wp2_with fail
    go_ret3
    exact ⟨by rw [P1.out, P2.out, P3.out]; rfl, Below.refl _ _⟩
  have hlen' : decide ((s.size : Int) ≤ x) = false := by simpa using hlen
  by_cases h4 : 4 < x
  · obtain ⟨p1, p2, p3⟩ := HNO.out (fun h => by have := h.2.2.1; omega)
    have P1 := Lib.hid p1
    have P2 := Lib.hid p2
    have P3 := Lib.hid p3
    clear p1 p2 p3 h0 hat hsz hb hx hlen
    go_enter Tryd.func87, Tryd.ntmps87
    trace "C"; go_wp2_with fail
    go_ret3
    exact ⟨by rw [P1.out, P2.out, P3.out]; rfl, Below.refl _ _⟩
  have h4' : decide (4 < x) = false := by simpa using h4
  obtain ⟨m, rfl⟩ : ∃ m : Nat, x = m := ⟨x.toNat, by omega⟩
  have hw1 : IntKind.i64.wrap (1 + (m : Int)) = ((1 + m : Nat) : Int) := by simp [IntKind.wrap, IntKind.bits, IntKind.signed]; omega
  have hm1 : (1 : Int) + (m : Int) = ((1 + m : Nat) : Int) := by omega
  have hm2 : (1 : Int) ≤ ((1 + m : Nat) : Int) := by omega
  have hm3 : ((1 + m : Nat) : Int) ≤ (s.size : Int) := by omega
  have hcv := Lib.run_convert_string_bytes (P := Tryd.prog) w 9 134 5 (s.extract 1 (1 + m)) (u := .string) Tryd.underlying9 Tryd.underlying134 Tryd.underlying5
  have hex : (s.extract 1 (1 + m)).size = m := by rw [ByteArray.size_extract]; omega
  rw [hex] at hcv
  have hlen4 : m ≤ 4 := by omega
  obtain ⟨m1, hmm1⟩ : ∃ m1, 1 + m = m1 := ⟨_, rfl⟩
  rw [hmm1] at hw1 hm1 hm2 hm3 hcv
  clear h0 hat hb hlen h4 hmm1
  go_enter Tryd.func87, Tryd.ntmps87
  have hS1 : Since w (Lib.bytesWorld w 5 (s.extract 1 m1)) := (Since.refl w).bytes _ _
  have hB : ∀ j, j < m → (Lib.bytesWorld w 5 (s.extract 1 m1)).cell? ⟨w.heap.size, j, none⟩ = some (.int .u8 (bat b (j + 1))) := fun j hj => by
    rw [Lib.bytesWorld_cell w _ _ j (by rw [ByteArray.size_extract]; omega)]
    congr 2
    rw [ByteArray.data_extract, Array.toList_extract, List.extract_eq_take_drop, HBD.out]
    unfold bat
    simp only [List.getD, List.getElem?_take, List.getElem?_drop]
    rw [if_pos (by omega), Nat.add_comm 1 j]
  have HW1 : Hid (∀ k : Nat, WholeOk (cutU b k) k next → 1 ≤ (k : Int)) := Lib.hid (fun k hk => hk.2.1.1)
  have HHY : Hid (1 ≤ m → m ≤ 4 → WholeOk (cutOf b m) m next → HeadOk b next) := Lib.hid (fun a1 a2 a3 => ⟨fun hh => by rw [hh] at hsz; simp at hsz; omega, by rw [hx]; omega, by rw [hx]; omega, by rw [hx]; omega, by rw [hx]; exact a3⟩)
  have hlt : w.heap.size < (Lib.bytesWorld w 5 (s.extract 1 m1)).heap.size := by rw [Lib.bytesWorld_size]; omega
  obtain ⟨W1, hW1⟩ : ∃ W1, W1 = Lib.bytesWorld w 5 (s.extract 1 m1) := ⟨_, rfl⟩
  rw [← hW1] at hcv hS1 hB hlt
  have HB := Lib.hid hB
  clear hW1 hB
  trace "D"; go_wp2_with fail
  obtain ⟨wo, rfl⟩ : ∃ wo : World, wo = W1 := ⟨_, rfl⟩
  go_loopw [8, 36] (fun s8 s36 wr => ∃ j : Nat, s36 = .int .i64 j ∧ j ≤ m ∧ s8 = .int .i64 (cutU b j) ∧ wr = wo) (fun _ s36 _ => m - (intOf s36).toNat)
  case atStart => exact ⟨0, rfl, Nat.zero_le _, rfl, rfl⟩
  case round =>
    obtain ⟨j, rfl, hj, rfl, rfl⟩ := hrel
    by_cases hjm : j < m
    case neg =>
      obtain rfl : j = m := by omega
      have hf : decide ((j : Int) < (j : Int)) = false := by simp
      trace "N"; go_wp2_with fail
      refine (whole_any (cutU b j) j next _).mono ?_
      rintro e w1 ⟨rfl, rfl⟩
      by_cases hw : WholeOk (cutU b j) j next
      · have hj1 : 1 ≤ j := by have := HW1.out j hw; omega
        have hcu := cutU_of b hj1 hlen4
        obtain ⟨p1, p2, p3⟩ := HYES.out (HHY.out hj1 hlen4 (by rw [← hcu]; exact hw))
        rw [hx, ← hcu] at p2
        rw [hx] at p3
        have P1 := Lib.hid p1
        have P2 := Lib.hid p2
        have P3 := Lib.hid p3
        rw [show wholeE (cutU b j) j next = 0 by unfold wholeE; rw [if_pos hw], errV_zero, show wholeV (cutU b j) j next = wholeN (cutU b j) j next by unfold wholeV; rw [if_pos hw]]
        clear p1 p2 p3 hw hcu hj1
        generalize wholeN (cutU b j) j next = W at *
        trace "N1"; go_wp2_with fail
        go_ret3
        exact ⟨by rw [P1.out, P2.out, P3.out, errV_zero, show (j : Int) + 1 = 1 + (j : Int) by omega]; first | rfl | (rw [hm1]; rfl), hS1⟩
      · obtain ⟨p1, p2, p3⟩ := HNO.out (fun hh => hw (by
          have h5 := hh.2.1
          have h6 := hh.2.2.2.2
          rw [hx] at h5 h6
          rw [cutU_of b (by omega) hlen4]; exact h6))
        have P1 := Lib.hid p1
        have P2 := Lib.hid p2
        have P3 := Lib.hid p3
        rw [show wholeE (cutU b j) j next = 1 by unfold wholeE; rw [if_neg hw], errV_pos (by decide)]
        clear p1 p2 p3 hw
        generalize wholeV (cutU b j) j next = W at *
        trace "N2"; go_wp2_with fail
        go_ret3
        exact ⟨by rw [P1.out, P2.out, P3.out]; rfl, hS1⟩
    have hjm' : (j : Int) < (m : Int) := by omega
    have cj := HB.out j hjm
    obtain ⟨y0, y1⟩ := bat_bounds b (j + 1)
    obtain ⟨z0, z1⟩ := cutU_bounds b j
    have HCU : Hid (cutU b (j + 1) = 256 * cutU b j + bat b (j + 1)) := Lib.hid rfl
    have z2 : cutU b j < 16777216 := by
      have : j = 0 ∨ j = 1 ∨ j = 2 ∨ j = 3 := by omega
      rcases this with rfl | rfl | rfl | rfl <;> simp at z1 <;> omega
    clear z1
    generalize bat b (j + 1) = y at *
    generalize cutU b j = c at *
    trace "P"; go_wp2_with fail
    go_roundw
    case rel => exact ⟨j + 1, by go_num, by omega, by rw [HCU.out, i64_or8 (c * 256) y (by omega) (by omega) (by omega) (by omega) (by omega)]; congr 1; omega, by first | rfl | trivial⟩
    case measure => simp [intOf]; omega
end Go.Proofs.YthnolkbolmbkdaaDoor
