/- Contract of wireref1.Get: the number that bytes begin with, for every string. No condition but that its length is an int. -/
import Derived.Test.YthnolkbolmbkdaaDoorVGet
namespace Go.Proofs.YthnolkbolmbkdaaDoor
open Go.ChangeShapes Go.WideShapes Go.ChangeAt Go.RowKit
set_option linter.unusedVariables false

def getB (l : List UInt8) : Bool := decide (getOk l)
/-- what the reference's Get answers -/
abbrev getRR (s : ByteArray) : Value := .tuple #[.int .i64 (getV s.data.toList), .int .i64 (getK s.data.toList), .bool (getB s.data.toList)]
theorem rget_no {s : ByteArray} (h : ¬ getOk s.data.toList) : Hid (getRR s = .tuple #[.int .i64 0, .int .i64 0, .bool false]) := Lib.hid (by
  unfold getRR getV getK getB
  rw [if_neg h, if_neg h, decide_eq_false h])
theorem rget_yes {s : ByteArray} {n : Int} {c : Nat} (h : getOk s.data.toList) (hn : getN s.data.toList = n) (hc : getC s.data.toList = c) : Hid (getRR s = .tuple #[.int .i64 n, .int .i64 c, .bool true]) := Lib.hid (by
  unfold getRR getV getK getB
  rw [if_pos h, if_pos h, decide_eq_true h, hn, hc])
theorem rget_empty (s : ByteArray) (h0 : s.size = 0) (w : World) :
    Calls Tryd.prog 75 #[.string s] w fun e w' => e = .returned (getRR s) ∧ w = w' := by
  have hl : s.data.toList = [] := by
    have : s.data.toList.length = s.size := Array.length_toList
    cases hl : s.data.toList with
    | nil => rfl
    | cons x l => rw [hl, h0] at this; cases this
  have N := rget_no (s := s) (by rw [hl]; exact fun h => h.1 rfl)
  have ne : s.toList = [] := by rw [ByteArray.toList_eq]; exact hl
  have ne2 : s.toList.isEmpty = true := by rw [ne]; rfl
  clear hl
  go_enter Tryd.func75, Tryd.ntmps75
  go_wp2_with fail
  go_ret3
  exact ⟨by rw [N.out]; rfl, rfl⟩
set_option maxRecDepth 100000 in
theorem rget_high (s : ByteArray) (h0 : 0 < s.size) (x0 : Int) (e0 : (s[0].toNat : Int) = x0) (b0 : bat s.data.toList 0 = x0) (a1 : x0 < 256) (a : 192 ≤ x0) (w : World) :
    Calls Tryd.prog 75 #[.string s] w fun e w' => e = .returned (getRR s) ∧ w = w' := by
  have N := rget_no (s := s) (fun h => by have := h.2.1; omega)
  have ne := str_ne h0
  have ne2 : ¬ s.toList = [] := by intro he; rw [he] at ne; cases ne
  clear b0
  go_enter Tryd.func75, Tryd.ntmps75
  go_wp2_with fail
  go_ret3
  exact ⟨by rw [N.out]; rfl, rfl⟩
set_option maxRecDepth 100000 in
set_option maxHeartbeats 800000 in
theorem rget_k0 (s : ByteArray) (hz : s.size ≤ 9223372036854775807) (h0 : 0 < s.size) (hsz : 0 < s.size) (x0 : Int) (e0 : (s[0].toNat : Int) = x0) (b0 : bat s.data.toList 0 = x0) (a0 : 0 ≤ x0) (a1 : x0 < 64) (w : World) :
    Calls Tryd.prog 75 #[.string s] w fun e w' => e = .returned (getRR s) ∧ w = w' := by
  have hc : getC s.data.toList = 1 := by unfold getC; rw [b0, if_pos (by omega)]
  have hn : getN s.data.toList = x0 := by unfold getN; rw [b0, if_pos (by omega)]
  obtain ⟨n, hnn⟩ : ∃ n : Int, x0 % 64 = n := ⟨_, rfl⟩
  have hn2 : getN s.data.toList = n := by rw [hn]; omega
  have hlen : s.data.toList.length = s.size := Array.length_toList
  have hne : s.data.toList ≠ [] := by intro he; rw [he] at hlen; simp at hlen; omega
  have ne := str_ne (s := s) (by omega)
  have ne2 : ¬ s.toList = [] := by intro he; rw [he] at ne; cases ne
  have h3 : decide ((s.size : Int) < 1) = false := by simp; omega
  have t1 : decide (192 ≤ x0) = false := by simp; omega
  have HNN := Lib.hid hnn
  by_cases hq : longN n = 1
  · have V := rget_yes (s := s) ⟨hne, by omega, by omega, by rw [hn2, hc]; exact hq⟩ hn2 hc
    have HQ := Lib.hid hq
    clear hq hn hn2 hc hnn hne hlen b0
    go_enter Tryd.func75, Tryd.ntmps75
    go_wp2_with fail
    refine wp_loop_rounds 1 ?_
    rw [rounds_succ]
    go_wp2_with (go_at_call 103; rw [HNN.out]; refine (rlong_any n _).mono ?_; rintro e w1 ⟨rfl, rfl⟩; rw [HQ.out])
    go_ret3
    exact ⟨by rw [V.out]; rfl, rfl⟩
  · have N := rget_no (s := s) (fun h => hq (by have := h.2.2.2; rw [hn2, hc] at this; exact this))
    have HQ : (longN n == 1) = false := beq_eq_false_iff_ne.2 hq
    clear hq hn hn2 hc hnn hne hlen b0
    go_enter Tryd.func75, Tryd.ntmps75
    go_wp2_with fail
    refine wp_loop_rounds 1 ?_
    rw [rounds_succ]
    go_wp2_with (go_at_call 103; rw [HNN.out]; refine (rlong_any n _).mono ?_; rintro e w1 ⟨rfl, rfl⟩)
    go_ret3
    exact ⟨by rw [N.out]; rfl, rfl⟩
set_option maxRecDepth 100000 in
theorem rget_short1 (s : ByteArray) (h0 : 0 < s.size) (hs : s.size < 2) (x0 : Int) (e0 : (s[0].toNat : Int) = x0) (b0 : bat s.data.toList 0 = x0) (a0 : 64 ≤ x0) (a1 : x0 < 128) (w : World) :
    Calls Tryd.prog 75 #[.string s] w fun e w' => e = .returned (getRR s) ∧ w = w' := by
  have N := rget_no (s := s) (fun h => by
    have h3 := h.2.2.1
    rw [show s.data.toList.length = s.size from Array.length_toList] at h3
    have hc : getC s.data.toList = 2 := by unfold getC; rw [b0, if_neg (by omega), if_pos (by omega)]
    omega)
  have ne := str_ne h0
  have ne2 : ¬ s.toList = [] := by intro he; rw [he] at ne; cases ne
  have h3 : (s.size : Int) < 2 := by omega
  have t1 : decide (192 ≤ x0) = false := by simp; omega
  clear b0
  go_enter Tryd.func75, Tryd.ntmps75
  go_wp2_with fail
  go_ret3
  exact ⟨by rw [N.out]; rfl, rfl⟩
set_option maxRecDepth 100000 in
set_option maxHeartbeats 800000 in
theorem rget_k1 (s : ByteArray) (hz : s.size ≤ 9223372036854775807) (h0 : 0 < s.size) (h1 : 1 < s.size) (hsz : 1 < s.size) (x0 x1 : Int) (e0 : (s[0].toNat : Int) = x0) (b0 : bat s.data.toList 0 = x0) (e1 : (s[1].toNat : Int) = x1) (b1 : bat s.data.toList 1 = x1) (a0 : 64 ≤ x0) (a1 : x0 < 128) (p1 : 0 ≤ x1) (q1 : x1 < 256) (w : World) :
    Calls Tryd.prog 75 #[.string s] w fun e w' => e = .returned (getRR s) ∧ w = w' := by
  have hc : getC s.data.toList = 2 := by unfold getC; rw [b0, if_neg (by omega), if_pos (by omega)]
  have hn : getN s.data.toList = (x0 - 64) * 256 + x1 := by unfold getN; rw [b0, if_neg (by omega), if_pos (by omega), b1]
  obtain ⟨n, hnn⟩ : ∃ n : Int, 256 * (x0 % 64) + x1 = n := ⟨_, rfl⟩
  have hn2 : getN s.data.toList = n := by rw [hn]; omega
  have hlen : s.data.toList.length = s.size := Array.length_toList
  have hne : s.data.toList ≠ [] := by intro he; rw [he] at hlen; simp at hlen; omega
  have ne := str_ne (s := s) (by omega)
  have ne2 : ¬ s.toList = [] := by intro he; rw [he] at ne; cases ne
  have h3 : decide ((s.size : Int) < 2) = false := by simp; omega
  have t1 : decide (192 ≤ x0) = false := by simp; omega
  have HNN := Lib.hid hnn
  by_cases hq : longN n = 2
  · have V := rget_yes (s := s) ⟨hne, by omega, by omega, by rw [hn2, hc]; exact hq⟩ hn2 hc
    have HQ := Lib.hid hq
    clear hq hn hn2 hc hnn hne hlen b0 b1
    go_enter Tryd.func75, Tryd.ntmps75
    go_wp2_with fail
    refine wp_loop_rounds 2 ?_
    rw [rounds_succ]
    go_wp2_with fail
    rw [rounds_succ]
    go_wp2_with (go_at_call 103; rw [HNN.out]; refine (rlong_any n _).mono ?_; rintro e w1 ⟨rfl, rfl⟩; rw [HQ.out])
    go_ret3
    exact ⟨by rw [V.out]; rfl, rfl⟩
  · have N := rget_no (s := s) (fun h => hq (by have := h.2.2.2; rw [hn2, hc] at this; exact this))
    have HQ : (longN n == 2) = false := beq_eq_false_iff_ne.2 hq
    clear hq hn hn2 hc hnn hne hlen b0 b1
    go_enter Tryd.func75, Tryd.ntmps75
    go_wp2_with fail
    refine wp_loop_rounds 2 ?_
    rw [rounds_succ]
    go_wp2_with fail
    rw [rounds_succ]
    go_wp2_with (go_at_call 103; rw [HNN.out]; refine (rlong_any n _).mono ?_; rintro e w1 ⟨rfl, rfl⟩)
    go_ret3
    exact ⟨by rw [N.out]; rfl, rfl⟩
set_option maxRecDepth 100000 in
theorem rget_short2 (s : ByteArray) (h0 : 0 < s.size) (hs : s.size < 4) (x0 : Int) (e0 : (s[0].toNat : Int) = x0) (b0 : bat s.data.toList 0 = x0) (a0 : 128 ≤ x0) (a1 : x0 < 192) (w : World) :
    Calls Tryd.prog 75 #[.string s] w fun e w' => e = .returned (getRR s) ∧ w = w' := by
  have N := rget_no (s := s) (fun h => by
    have h3 := h.2.2.1
    rw [show s.data.toList.length = s.size from Array.length_toList] at h3
    have hc : getC s.data.toList = 4 := by unfold getC; rw [b0, if_neg (by omega), if_neg (by omega)]
    omega)
  have ne := str_ne h0
  have ne2 : ¬ s.toList = [] := by intro he; rw [he] at ne; cases ne
  have h3 : (s.size : Int) < 4 := by omega
  have t1 : decide (192 ≤ x0) = false := by simp; omega
  clear b0
  go_enter Tryd.func75, Tryd.ntmps75
  go_wp2_with fail
  go_ret3
  exact ⟨by rw [N.out]; rfl, rfl⟩
set_option maxRecDepth 100000 in
set_option maxHeartbeats 800000 in
theorem rget_k2 (s : ByteArray) (hz : s.size ≤ 9223372036854775807) (h0 : 0 < s.size) (h1 : 1 < s.size) (h2 : 2 < s.size) (h3 : 3 < s.size) (hsz : 3 < s.size) (x0 x1 x2 x3 : Int) (e0 : (s[0].toNat : Int) = x0) (b0 : bat s.data.toList 0 = x0) (e1 : (s[1].toNat : Int) = x1) (b1 : bat s.data.toList 1 = x1) (e2 : (s[2].toNat : Int) = x2) (b2 : bat s.data.toList 2 = x2) (e3 : (s[3].toNat : Int) = x3) (b3 : bat s.data.toList 3 = x3) (a0 : 128 ≤ x0) (a1 : x0 < 192) (p1 : 0 ≤ x1) (q1 : x1 < 256) (p2 : 0 ≤ x2) (q2 : x2 < 256) (p3 : 0 ≤ x3) (q3 : x3 < 256) (w : World) :
    Calls Tryd.prog 75 #[.string s] w fun e w' => e = .returned (getRR s) ∧ w = w' := by
  have hc : getC s.data.toList = 4 := by unfold getC; rw [b0, if_neg (by omega), if_neg (by omega)]
  have hn : getN s.data.toList = (((x0 - 128) * 256 + x1) * 256 + x2) * 256 + x3 := by unfold getN; rw [b0, if_neg (by omega), if_neg (by omega), b1, b2, b3]
  obtain ⟨n, hnn⟩ : ∃ n : Int, 256 * (256 * (256 * (x0 % 64) + x1) + x2) + x3 = n := ⟨_, rfl⟩
  have hn2 : getN s.data.toList = n := by rw [hn]; omega
  have hlen : s.data.toList.length = s.size := Array.length_toList
  have hne : s.data.toList ≠ [] := by intro he; rw [he] at hlen; simp at hlen; omega
  have ne := str_ne (s := s) (by omega)
  have ne2 : ¬ s.toList = [] := by intro he; rw [he] at ne; cases ne
  have h3 : decide ((s.size : Int) < 4) = false := by simp; omega
  have t1 : decide (192 ≤ x0) = false := by simp; omega
  have HNN := Lib.hid hnn
  by_cases hq : longN n = 4
  · have V := rget_yes (s := s) ⟨hne, by omega, by omega, by rw [hn2, hc]; exact hq⟩ hn2 hc
    have HQ := Lib.hid hq
    clear hq hn hn2 hc hnn hne hlen b0 b1 b2 b3
    go_enter Tryd.func75, Tryd.ntmps75
    go_wp2_with fail
    refine wp_loop_rounds 4 ?_
    rw [rounds_succ]
    go_wp2_with fail
    rw [rounds_succ]
    go_wp2_with fail
    rw [rounds_succ]
    go_wp2_with fail
    rw [rounds_succ]
    go_wp2_with (go_at_call 103; rw [HNN.out]; refine (rlong_any n _).mono ?_; rintro e w1 ⟨rfl, rfl⟩; rw [HQ.out])
    go_ret3
    exact ⟨by rw [V.out]; rfl, rfl⟩
  · have N := rget_no (s := s) (fun h => hq (by have := h.2.2.2; rw [hn2, hc] at this; exact this))
    have HQ : (longN n == 4) = false := beq_eq_false_iff_ne.2 hq
    clear hq hn hn2 hc hnn hne hlen b0 b1 b2 b3
    go_enter Tryd.func75, Tryd.ntmps75
    go_wp2_with fail
    refine wp_loop_rounds 4 ?_
    rw [rounds_succ]
    go_wp2_with fail
    rw [rounds_succ]
    go_wp2_with fail
    rw [rounds_succ]
    go_wp2_with fail
    rw [rounds_succ]
    go_wp2_with (go_at_call 103; rw [HNN.out]; refine (rlong_any n _).mono ?_; rintro e w1 ⟨rfl, rfl⟩)
    go_ret3
    exact ⟨by rw [N.out]; rfl, rfl⟩
theorem rget_any (s : ByteArray) (hz : s.size ≤ 9223372036854775807) (w : World) :
    Calls Tryd.prog 75 #[.string s] w fun e w' => e = .returned (getRR s) ∧ w = w' := by
  rcases Nat.eq_zero_or_pos s.size with h | h
  · exact rget_empty s h w
  have e0 := str_at s 0 h
  obtain ⟨p0, q0⟩ := bat_bounds s.data.toList 0
  by_cases c0 : 192 ≤ bat s.data.toList 0
  · exact rget_high s h _ e0 rfl q0 c0 w
  by_cases c1 : bat s.data.toList 0 < 64
  · exact rget_k0 s hz h h _ e0 rfl p0 c1 w
  by_cases c2 : bat s.data.toList 0 < 128
  · by_cases h1 : 1 < s.size
    · obtain ⟨p1, q1⟩ := bat_bounds s.data.toList 1
      exact rget_k1 s hz h h1 h1 _ _ e0 rfl (str_at s 1 h1) rfl (by omega) c2 p1 q1 w
    · exact rget_short1 s h (by omega) _ e0 rfl (by omega) c2 w
  · by_cases h3 : 3 < s.size
    · obtain ⟨p1, q1⟩ := bat_bounds s.data.toList 1
      obtain ⟨p2, q2⟩ := bat_bounds s.data.toList 2
      obtain ⟨p3, q3⟩ := bat_bounds s.data.toList 3
      exact rget_k2 s hz h (by omega) (by omega) h3 h3 _ _ _ _ e0 rfl (str_at s 1 (by omega)) rfl (str_at s 2 (by omega)) rfl (str_at s 3 h3) rfl (by omega) (by omega) p1 q1 p2 q2 p3 q3 w
    · exact rget_short2 s h (by omega) _ e0 rfl (by omega) (by omega) w
end Go.Proofs.YthnolkbolmbkdaaDoor
