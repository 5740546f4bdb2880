/- Contracts of varint.Long, varint.Put and varint.Get, and of wireref1.Get: what each returns, for every argument. Condition: the table of kinds holds what the program's text lays. -/
import Derived.Test.YthnolkbolmbkdaaDoorVBytes
import Derived.Test.YthnolkbolmbkdaaDoorVRef
import Derived.Test.YthnolkbolmbkdaaDoorNumAny
import Derived.BigQuiet
import Derived.Deep.DeepCutAuto
import Derived.Deep.QuietTactic
namespace Go.Proofs.YthnolkbolmbkdaaDoor
open Go.ChangeShapes Go.WideShapes Go.ChangeAt Go.RowKit
set_option linter.unusedVariables false

def vlongV (n : Int) : Int := if MayBe n then longN n else 0
def vputE (n : Int) : Int := if MayBe n then 0 else 1
def vputL (n : Int) : List UInt8 := if MayBe n then vbytes n else []
theorem vput_any (n : Int) (w : World) (hk : KTab w) :
    Calls Tryd.prog 34 #[.int .i64 n] w fun e w' => e = .returned (.tuple #[.string ⟨(vputL n).toArray⟩, errV (vputE n)]) ∧ Below w.heap.size w w' := by
  have HK := Lib.hid hk
  clear hk
  unfold vputL vputE
  by_cases h : MayBe n
  · rw [if_pos h, if_pos h]
    have n0 := h.1
    have n1 := h.2
    clear h
    go_enter Tryd.func34, Tryd.ntmps34
    go_wp2_with (first | (go_at_call 72; refine (may_yes n n0 n1 _).mono ?_; rintro e w' ⟨rfl, rfl⟩) | (go_at_call 73; refine (bytes_any n n0 n1 _ HK.out).mono ?_; rintro e w1 ⟨rfl, hb⟩))
    go_ret2
    exact ⟨rfl, (by refine Since.out ?_; repeat (first | with_reducible assumption | with_reducible exact Since.refl _ | with_reducible refine Since.later ?_ (by with_reducible assumption) | with_reducible refine Since.only ?_ (by with_reducible assumption) (by first | assumption | omega | (simp; done) | (simp; omega)) | with_reducible refine Since.alloc ?_ _ | with_reducible refine Since.drewN ?_ _ | with_reducible refine Since.drew ?_ | with_reducible refine Since.set ?_ (by first | assumption | omega | (simp; done) | (simp; omega)) _))⟩
  · rw [if_neg h, if_neg h]
    go_enter Tryd.func34, Tryd.ntmps34
    go_wp2_with (go_at_call 72; refine (may_no n h _).mono ?_; rintro e w' ⟨rfl, rfl⟩)
    go_ret2
    exact ⟨rfl, Below.refl _ _⟩
/-! varint.Get -/
theorem str_ne {s : ByteArray} (h : 0 < s.size) : s.toList.isEmpty = false := by
  rw [ByteArray.toList_eq]
  have : s.data.toList.length = s.size := Array.length_toList
  cases hl : s.data.toList with
  | nil => rw [hl] at this; simp at this; omega
  | cons x l => rfl
theorem str_at (s : ByteArray) (i : Nat) (h : i < s.size) : (s[i].toNat : Int) = bat s.data.toList i := by
  have h2 : i < s.data.toList.length := by rw [show s.data.toList.length = s.size from Array.length_toList]; exact h
  have h3 : s[i] = s.data.toList[i] := rfl
  unfold bat
  rw [h3, List.getD, List.getElem?_eq_getElem h2]
  rfl
theorem i64_or8 (x y : Int) (h0 : 0 ≤ x) (h1 : x % 256 = 0) (h2 : x < 4611686018427387904) (h3 : 0 ≤ y) (h4 : y < 256) : bits .or .i64 x y = x + y :=
  bits_join .i64 62 (by decide) (fun n a b => IntWalk.i64_in n (by omega)) 8 x y h0 (by omega) (by omega) h3 (by omega) (by omega)
theorem kind_long (n : Int) : (kindN n = 0 ↔ longN n = 1) ∧ (kindN n = 1 ↔ longN n = 2) ∧ (kindN n = 2 ↔ longN n = 4) := by
  unfold kindN longN
  split
  · simp
  · split <;> simp
/-- what Get answers -/
abbrev getR (s : ByteArray) : Value := .tuple #[.int .i64 (getV s.data.toList), .int .i64 (getK s.data.toList), errV (getE s.data.toList)]
theorem get_no {s : ByteArray} (h : ¬ getOk s.data.toList) : Hid (getV s.data.toList = 0 ∧ getK s.data.toList = 0 ∧ getE s.data.toList = 2) := Lib.hid (by
  unfold getV getK getE
  rw [if_neg h, if_neg h, if_neg h]
  exact ⟨rfl, rfl, rfl⟩)
theorem get_yes {s : ByteArray} (h : getOk s.data.toList) : getV s.data.toList = getN s.data.toList ∧ getK s.data.toList = getC s.data.toList ∧ getE s.data.toList = 0 := by
  unfold getV getK getE
  rw [if_pos h, if_pos h, if_pos h]
  exact ⟨rfl, rfl, rfl⟩
theorem vget_empty (s : ByteArray) (h0 : s.size = 0) (w : World) :
    Calls Tryd.prog 117 #[.string s] w fun e w' => e = .returned (getR s) ∧ Below w.heap.size w w' := by
  have hl : s.data.toList = [] := by
    have : s.data.toList.length = s.size := Array.length_toList
    cases hl : s.data.toList with
    | nil => rfl
    | cons x l => rw [hl, h0] at this; cases this
  have N := get_no (s := s) (by rw [hl]; exact fun h => h.1 rfl)
  have ne : s.toList = [] := by rw [ByteArray.toList_eq]; exact hl
  have ne2 : s.toList.isEmpty = true := by rw [ne]; rfl
  clear hl
  go_enter Tryd.func117, Tryd.ntmps117
  go_wp2_with fail
  go_ret3
  exact ⟨by rw [getR, N.out.1, N.out.2.1, N.out.2.2]; rfl, Below.refl _ _⟩
set_option maxRecDepth 100000 in
theorem vget_high (s : ByteArray) (h0 : 0 < s.size) (x0 : Int) (e0 : (s[0].toNat : Int) = x0) (b0 : bat s.data.toList 0 = x0) (a1 : x0 < 256) (a : 192 ≤ x0) (w : World) :
    Calls Tryd.prog 117 #[.string s] w fun e w' => e = .returned (getR s) ∧ Below w.heap.size w w' := by
  have N := get_no (s := s) (fun h => by have := h.2.1; omega)
  have ne := str_ne h0
  have ne2 : ¬ s.toList = [] := by intro he; rw [he] at ne; cases ne
  have l1 : x0 / 64 = 3 := by omega
  have B0 := Lib.hid b0
  clear b0
  go_enter Tryd.func117, Tryd.ntmps117
  go_wp2_with fail
  go_ret3
  exact ⟨by rw [getR, N.out.1, N.out.2.1, N.out.2.2]; rfl, Below.refl _ _⟩
set_option maxRecDepth 100000 in
set_option maxHeartbeats 800000 in
theorem vget_k0 (s : ByteArray) (hz : s.size ≤ 9223372036854775807) (h0 : 0 < s.size) (hsz : 0 < s.size) (x0 : Int) (e0 : (s[0].toNat : Int) = x0) (b0 : bat s.data.toList 0 = x0) (a0 : 0 ≤ x0) (a1 : x0 < 64) (w : World) (hk : KTab w) :
    Calls Tryd.prog 117 #[.string s] w fun e w' => e = .returned (getR s) ∧ Below w.heap.size w w' := by
  have hc : getC s.data.toList = 1 := by unfold getC; rw [b0, if_pos (by omega)]
  have hn : getN s.data.toList = x0 := by unfold getN; rw [b0, if_pos (by omega)]
  obtain ⟨n, hnn⟩ : ∃ n : Int, x0 = n := ⟨_, rfl⟩
  have hn2 : getN s.data.toList = n := by rw [hn]; omega
  have hlen : s.data.toList.length = s.size := Array.length_toList
  have hne : s.data.toList ≠ [] := by intro he; rw [he] at hlen; simp at hlen; omega
  have HK := Lib.hid hk
  obtain ⟨k0, k1, k2, k3, k4, k5⟩ := hk
  have ne := str_ne (s := s) (by omega)
  have ne2 : ¬ s.toList = [] := by intro he; rw [he] at ne; cases ne
  have l1 : x0 / 64 = 0 := by omega
  have h3 : decide ((s.size : Int) < 1) = false := by simp; omega
  have o0 : bits BinOp.or IntKind.i64 0 x0 = x0 := by rw [i64_or8 0 x0 (by omega) (by omega) (by omega) (by omega) (by omega)]; omega
  have HNN := Lib.hid hnn
  by_cases hq : kindN n = 0
  · obtain ⟨v1, v2, v3⟩ := get_yes (s := s) ⟨hne, by omega, by omega, by rw [hn2, hc]; exact (kind_long n).1.1 hq⟩
    have V : Hid (getV s.data.toList = n ∧ getK s.data.toList = 1 ∧ getE s.data.toList = 0) := Lib.hid ⟨v1.trans hn2, by rw [v2, hc]; rfl, v3⟩
    have HQ := Lib.hid hq
    clear hq v1 v2 v3 hn hn2 hc hnn hne hlen b0
    go_enter Tryd.func117, Tryd.ntmps117
    go_wp2_with fail
    refine wp_loop_rounds 2 ?_
    rw [rounds_succ]
    go_wp2_with fail
    rw [rounds_succ]
    go_wp2_with (go_at_call 101; rw [HNN.out]; refine (kind_any n _ (HK.out.alloc _)).mono ?_; rintro e w1 ⟨rfl, hb⟩; rw [HQ.out]; (first | (refine keepk (w.heap.size) hb (by first | assumption | (simp; omega) | (simp; done)) ?_; intro lk ck fk)))
    go_quiet (fail)
    go_wp2_with fail
    go_ret3
    exact ⟨by rw [getR, V.out.1, V.out.2.1, V.out.2.2]; rfl, (by refine Since.out ?_; repeat (first | with_reducible assumption | with_reducible exact Since.refl _ | with_reducible refine Since.later ?_ (by with_reducible assumption) | with_reducible refine Since.only ?_ (by with_reducible assumption) (by first | assumption | omega | (simp; done) | (simp; omega)) | with_reducible refine Since.alloc ?_ _ | with_reducible refine Since.drewN ?_ _ | with_reducible refine Since.drew ?_ | with_reducible refine Since.set ?_ (by first | assumption | omega | (simp; done) | (simp; omega)) _))⟩
  · have N := get_no (s := s) (fun h => hq ((kind_long n).1.2 (by have := h.2.2.2; rw [hn2, hc] at this; exact this)))
    have HQ : (kindN n == 0) = false := beq_eq_false_iff_ne.2 hq
    clear hq hn hn2 hc hnn hne hlen b0
    go_enter Tryd.func117, Tryd.ntmps117
    go_wp2_with fail
    refine wp_loop_rounds 2 ?_
    rw [rounds_succ]
    go_wp2_with fail
    rw [rounds_succ]
    go_wp2_with (go_at_call 101; rw [HNN.out]; refine (kind_any n _ (HK.out.alloc _)).mono ?_; rintro e w1 ⟨rfl, hb⟩)
    go_ret3
    exact ⟨by rw [getR, N.out.1, N.out.2.1, N.out.2.2]; rfl, (by refine Since.out ?_; repeat (first | with_reducible assumption | with_reducible exact Since.refl _ | with_reducible refine Since.later ?_ (by with_reducible assumption) | with_reducible refine Since.only ?_ (by with_reducible assumption) (by first | assumption | omega | (simp; done) | (simp; omega)) | with_reducible refine Since.alloc ?_ _ | with_reducible refine Since.drewN ?_ _ | with_reducible refine Since.drew ?_ | with_reducible refine Since.set ?_ (by first | assumption | omega | (simp; done) | (simp; omega)) _))⟩
set_option maxRecDepth 100000 in
theorem vget_short1 (s : ByteArray) (h0 : 0 < s.size) (hs : s.size < 2) (x0 : Int) (e0 : (s[0].toNat : Int) = x0) (b0 : bat s.data.toList 0 = x0) (a0 : 64 ≤ x0) (a1 : x0 < 128) (w : World) (hk : KTab w) :
    Calls Tryd.prog 117 #[.string s] w fun e w' => e = .returned (getR s) ∧ Below w.heap.size w w' := by
  have N := get_no (s := s) (fun h => by
    have h3 := h.2.2.1
    rw [show s.data.toList.length = s.size from Array.length_toList] at h3
    have hc : getC s.data.toList = 2 := by unfold getC; rw [b0, if_neg (by omega), if_pos (by omega)]
    omega)
  obtain ⟨k0, k1, k2, k3, k4, k5⟩ := hk
  have ne := str_ne h0
  have ne2 : ¬ s.toList = [] := by intro he; rw [he] at ne; cases ne
  have l1 : x0 / 64 = 1 := by omega
  have h3 : (s.size : Int) < 2 := by omega
  have B0 := Lib.hid b0
  clear b0
  go_enter Tryd.func117, Tryd.ntmps117
  go_wp2_with fail
  go_ret3
  exact ⟨by rw [getR, N.out.1, N.out.2.1, N.out.2.2]; rfl, (by refine Since.out ?_; repeat (first | with_reducible assumption | with_reducible exact Since.refl _ | with_reducible refine Since.later ?_ (by with_reducible assumption) | with_reducible refine Since.only ?_ (by with_reducible assumption) (by first | assumption | omega | (simp; done) | (simp; omega)) | with_reducible refine Since.alloc ?_ _ | with_reducible refine Since.drewN ?_ _ | with_reducible refine Since.drew ?_ | with_reducible refine Since.set ?_ (by first | assumption | omega | (simp; done) | (simp; omega)) _))⟩
set_option maxRecDepth 100000 in
set_option maxHeartbeats 800000 in
theorem vget_k1 (s : ByteArray) (hz : s.size ≤ 9223372036854775807) (h0 : 0 < s.size) (h1 : 1 < s.size) (hsz : 1 < s.size) (x0 x1 : Int) (e0 : (s[0].toNat : Int) = x0) (b0 : bat s.data.toList 0 = x0) (e1 : (s[1].toNat : Int) = x1) (b1 : bat s.data.toList 1 = x1) (a0 : 64 ≤ x0) (a1 : x0 < 128) (p1 : 0 ≤ x1) (q1 : x1 < 256) (w : World) (hk : KTab w) :
    Calls Tryd.prog 117 #[.string s] w fun e w' => e = .returned (getR s) ∧ Below w.heap.size w w' := by
  have hc : getC s.data.toList = 2 := by unfold getC; rw [b0, if_neg (by omega), if_pos (by omega)]
  have hn : getN s.data.toList = (x0 - 64) * 256 + x1 := by unfold getN; rw [b0, if_neg (by omega), if_pos (by omega), b1]
  obtain ⟨n, hnn⟩ : ∃ n : Int, x0 * 256 + x1 - 16384 = n := ⟨_, rfl⟩
  have hn2 : getN s.data.toList = n := by rw [hn]; omega
  have hlen : s.data.toList.length = s.size := Array.length_toList
  have hne : s.data.toList ≠ [] := by intro he; rw [he] at hlen; simp at hlen; omega
  have HK := Lib.hid hk
  obtain ⟨k0, k1, k2, k3, k4, k5⟩ := hk
  have ne := str_ne (s := s) (by omega)
  have ne2 : ¬ s.toList = [] := by intro he; rw [he] at ne; cases ne
  have l1 : x0 / 64 = 1 := by omega
  have h3 : decide ((s.size : Int) < 2) = false := by simp; omega
  have o0 : bits BinOp.or IntKind.i64 0 x0 = x0 := by rw [i64_or8 0 x0 (by omega) (by omega) (by omega) (by omega) (by omega)]; omega
  have o1 : bits BinOp.or IntKind.i64 (x0 * 256) x1 = x0 * 256 + x1 := i64_or8 _ _ (by omega) (by omega) (by omega) (by omega) (by omega)
  have HNN := Lib.hid hnn
  by_cases hq : kindN n = 1
  · obtain ⟨v1, v2, v3⟩ := get_yes (s := s) ⟨hne, by omega, by omega, by rw [hn2, hc]; exact (kind_long n).2.1.1 hq⟩
    have V : Hid (getV s.data.toList = n ∧ getK s.data.toList = 2 ∧ getE s.data.toList = 0) := Lib.hid ⟨v1.trans hn2, by rw [v2, hc]; rfl, v3⟩
    have HQ := Lib.hid hq
    clear hq v1 v2 v3 hn hn2 hc hnn hne hlen b0 b1
    go_enter Tryd.func117, Tryd.ntmps117
    go_wp2_with fail
    refine wp_loop_rounds 3 ?_
    rw [rounds_succ]
    go_wp2_with fail
    rw [rounds_succ]
    go_wp2_with fail
    rw [rounds_succ]
    go_wp2_with (go_at_call 101; rw [HNN.out]; refine (kind_any n _ (HK.out.alloc _)).mono ?_; rintro e w1 ⟨rfl, hb⟩; rw [HQ.out]; (first | (refine keepk (w.heap.size) hb (by first | assumption | (simp; omega) | (simp; done)) ?_; intro lk ck fk)))
    go_quiet (fail)
    go_wp2_with fail
    go_ret3
    exact ⟨by rw [getR, V.out.1, V.out.2.1, V.out.2.2]; rfl, (by refine Since.out ?_; repeat (first | with_reducible assumption | with_reducible exact Since.refl _ | with_reducible refine Since.later ?_ (by with_reducible assumption) | with_reducible refine Since.only ?_ (by with_reducible assumption) (by first | assumption | omega | (simp; done) | (simp; omega)) | with_reducible refine Since.alloc ?_ _ | with_reducible refine Since.drewN ?_ _ | with_reducible refine Since.drew ?_ | with_reducible refine Since.set ?_ (by first | assumption | omega | (simp; done) | (simp; omega)) _))⟩
  · have N := get_no (s := s) (fun h => hq ((kind_long n).2.1.2 (by have := h.2.2.2; rw [hn2, hc] at this; exact this)))
    have HQ : (kindN n == 1) = false := beq_eq_false_iff_ne.2 hq
    clear hq hn hn2 hc hnn hne hlen b0 b1
    go_enter Tryd.func117, Tryd.ntmps117
    go_wp2_with fail
    refine wp_loop_rounds 3 ?_
    rw [rounds_succ]
    go_wp2_with fail
    rw [rounds_succ]
    go_wp2_with fail
    rw [rounds_succ]
    go_wp2_with (go_at_call 101; rw [HNN.out]; refine (kind_any n _ (HK.out.alloc _)).mono ?_; rintro e w1 ⟨rfl, hb⟩)
    go_ret3
    exact ⟨by rw [getR, N.out.1, N.out.2.1, N.out.2.2]; rfl, (by refine Since.out ?_; repeat (first | with_reducible assumption | with_reducible exact Since.refl _ | with_reducible refine Since.later ?_ (by with_reducible assumption) | with_reducible refine Since.only ?_ (by with_reducible assumption) (by first | assumption | omega | (simp; done) | (simp; omega)) | with_reducible refine Since.alloc ?_ _ | with_reducible refine Since.drewN ?_ _ | with_reducible refine Since.drew ?_ | with_reducible refine Since.set ?_ (by first | assumption | omega | (simp; done) | (simp; omega)) _))⟩
set_option maxRecDepth 100000 in
theorem vget_short2 (s : ByteArray) (h0 : 0 < s.size) (hs : s.size < 4) (x0 : Int) (e0 : (s[0].toNat : Int) = x0) (b0 : bat s.data.toList 0 = x0) (a0 : 128 ≤ x0) (a1 : x0 < 192) (w : World) (hk : KTab w) :
    Calls Tryd.prog 117 #[.string s] w fun e w' => e = .returned (getR s) ∧ Below w.heap.size w w' := by
  have N := get_no (s := s) (fun h => by
    have h3 := h.2.2.1
    rw [show s.data.toList.length = s.size from Array.length_toList] at h3
    have hc : getC s.data.toList = 4 := by unfold getC; rw [b0, if_neg (by omega), if_neg (by omega)]
    omega)
  obtain ⟨k0, k1, k2, k3, k4, k5⟩ := hk
  have ne := str_ne h0
  have ne2 : ¬ s.toList = [] := by intro he; rw [he] at ne; cases ne
  have l1 : x0 / 64 = 2 := by omega
  have h3 : (s.size : Int) < 4 := by omega
  have B0 := Lib.hid b0
  clear b0
  go_enter Tryd.func117, Tryd.ntmps117
  go_wp2_with fail
  go_ret3
  exact ⟨by rw [getR, N.out.1, N.out.2.1, N.out.2.2]; rfl, (by refine Since.out ?_; repeat (first | with_reducible assumption | with_reducible exact Since.refl _ | with_reducible refine Since.later ?_ (by with_reducible assumption) | with_reducible refine Since.only ?_ (by with_reducible assumption) (by first | assumption | omega | (simp; done) | (simp; omega)) | with_reducible refine Since.alloc ?_ _ | with_reducible refine Since.drewN ?_ _ | with_reducible refine Since.drew ?_ | with_reducible refine Since.set ?_ (by first | assumption | omega | (simp; done) | (simp; omega)) _))⟩
set_option maxRecDepth 100000 in
set_option maxHeartbeats 800000 in
theorem vget_k2 (s : ByteArray) (hz : s.size ≤ 9223372036854775807) (h0 : 0 < s.size) (h1 : 1 < s.size) (h2 : 2 < s.size) (h3 : 3 < s.size) (hsz : 3 < s.size) (x0 x1 x2 x3 : Int) (e0 : (s[0].toNat : Int) = x0) (b0 : bat s.data.toList 0 = x0) (e1 : (s[1].toNat : Int) = x1) (b1 : bat s.data.toList 1 = x1) (e2 : (s[2].toNat : Int) = x2) (b2 : bat s.data.toList 2 = x2) (e3 : (s[3].toNat : Int) = x3) (b3 : bat s.data.toList 3 = x3) (a0 : 128 ≤ x0) (a1 : x0 < 192) (p1 : 0 ≤ x1) (q1 : x1 < 256) (p2 : 0 ≤ x2) (q2 : x2 < 256) (p3 : 0 ≤ x3) (q3 : x3 < 256) (w : World) (hk : KTab w) :
    Calls Tryd.prog 117 #[.string s] w fun e w' => e = .returned (getR s) ∧ Below w.heap.size w w' := by
  have hc : getC s.data.toList = 4 := by unfold getC; rw [b0, if_neg (by omega), if_neg (by omega)]
  have hn : getN s.data.toList = (((x0 - 128) * 256 + x1) * 256 + x2) * 256 + x3 := by unfold getN; rw [b0, if_neg (by omega), if_neg (by omega), b1, b2, b3]
  obtain ⟨n, hnn⟩ : ∃ n : Int, ((x0 * 256 + x1) * 256 + x2) * 256 + x3 - 2147483648 = n := ⟨_, rfl⟩
  have hn2 : getN s.data.toList = n := by rw [hn]; omega
  have hlen : s.data.toList.length = s.size := Array.length_toList
  have hne : s.data.toList ≠ [] := by intro he; rw [he] at hlen; simp at hlen; omega
  have HK := Lib.hid hk
  obtain ⟨k0, k1, k2, k3, k4, k5⟩ := hk
  have ne := str_ne (s := s) (by omega)
  have ne2 : ¬ s.toList = [] := by intro he; rw [he] at ne; cases ne
  have l1 : x0 / 64 = 2 := by omega
  have h3 : decide ((s.size : Int) < 4) = false := by simp; omega
  have o0 : bits BinOp.or IntKind.i64 0 x0 = x0 := by rw [i64_or8 0 x0 (by omega) (by omega) (by omega) (by omega) (by omega)]; omega
  have o1 : bits BinOp.or IntKind.i64 (x0 * 256) x1 = x0 * 256 + x1 := i64_or8 _ _ (by omega) (by omega) (by omega) (by omega) (by omega)
  have o2 : bits BinOp.or IntKind.i64 ((x0 * 256 + x1) * 256) x2 = (x0 * 256 + x1) * 256 + x2 := i64_or8 _ _ (by omega) (by omega) (by omega) (by omega) (by omega)
  have o3 : bits BinOp.or IntKind.i64 (((x0 * 256 + x1) * 256 + x2) * 256) x3 = ((x0 * 256 + x1) * 256 + x2) * 256 + x3 := i64_or8 _ _ (by omega) (by omega) (by omega) (by omega) (by omega)
  have HNN := Lib.hid hnn
  by_cases hq : kindN n = 2
  · obtain ⟨v1, v2, v3⟩ := get_yes (s := s) ⟨hne, by omega, by omega, by rw [hn2, hc]; exact (kind_long n).2.2.1 hq⟩
    have V : Hid (getV s.data.toList = n ∧ getK s.data.toList = 4 ∧ getE s.data.toList = 0) := Lib.hid ⟨v1.trans hn2, by rw [v2, hc]; rfl, v3⟩
    have HQ := Lib.hid hq
    clear hq v1 v2 v3 hn hn2 hc hnn hne hlen b0 b1 b2 b3
    go_enter Tryd.func117, Tryd.ntmps117
    go_wp2_with fail
    refine wp_loop_rounds 5 ?_
    rw [rounds_succ]
    go_wp2_with fail
    rw [rounds_succ]
    go_wp2_with fail
    rw [rounds_succ]
    go_wp2_with fail
    rw [rounds_succ]
    go_wp2_with fail
    rw [rounds_succ]
    go_wp2_with (go_at_call 101; rw [HNN.out]; refine (kind_any n _ (HK.out.alloc _)).mono ?_; rintro e w1 ⟨rfl, hb⟩; rw [HQ.out]; (first | (refine keepk (w.heap.size) hb (by first | assumption | (simp; omega) | (simp; done)) ?_; intro lk ck fk)))
    go_quiet (fail)
    go_wp2_with fail
    go_ret3
    exact ⟨by rw [getR, V.out.1, V.out.2.1, V.out.2.2]; rfl, (by refine Since.out ?_; repeat (first | with_reducible assumption | with_reducible exact Since.refl _ | with_reducible refine Since.later ?_ (by with_reducible assumption) | with_reducible refine Since.only ?_ (by with_reducible assumption) (by first | assumption | omega | (simp; done) | (simp; omega)) | with_reducible refine Since.alloc ?_ _ | with_reducible refine Since.drewN ?_ _ | with_reducible refine Since.drew ?_ | with_reducible refine Since.set ?_ (by first | assumption | omega | (simp; done) | (simp; omega)) _))⟩
  · have N := get_no (s := s) (fun h => hq ((kind_long n).2.2.2 (by have := h.2.2.2; rw [hn2, hc] at this; exact this)))
    have HQ : (kindN n == 2) = false := beq_eq_false_iff_ne.2 hq
    clear hq hn hn2 hc hnn hne hlen b0 b1 b2 b3
    go_enter Tryd.func117, Tryd.ntmps117
    go_wp2_with fail
    refine wp_loop_rounds 5 ?_
    rw [rounds_succ]
    go_wp2_with fail
    rw [rounds_succ]
    go_wp2_with fail
    rw [rounds_succ]
    go_wp2_with fail
    rw [rounds_succ]
    go_wp2_with fail
    rw [rounds_succ]
    go_wp2_with (go_at_call 101; rw [HNN.out]; refine (kind_any n _ (HK.out.alloc _)).mono ?_; rintro e w1 ⟨rfl, hb⟩)
    go_ret3
    exact ⟨by rw [getR, N.out.1, N.out.2.1, N.out.2.2]; rfl, (by refine Since.out ?_; repeat (first | with_reducible assumption | with_reducible exact Since.refl _ | with_reducible refine Since.later ?_ (by with_reducible assumption) | with_reducible refine Since.only ?_ (by with_reducible assumption) (by first | assumption | omega | (simp; done) | (simp; omega)) | with_reducible refine Since.alloc ?_ _ | with_reducible refine Since.drewN ?_ _ | with_reducible refine Since.drew ?_ | with_reducible refine Since.set ?_ (by first | assumption | omega | (simp; done) | (simp; omega)) _))⟩
theorem vget_any (s : ByteArray) (hz : s.size ≤ 9223372036854775807) (w : World) (hk : KTab w) :
    Calls Tryd.prog 117 #[.string s] w fun e w' => e = .returned (getR s) ∧ Below w.heap.size w w' := by
  rcases Nat.eq_zero_or_pos s.size with h | h
  · exact vget_empty s h w
  have e0 := str_at s 0 h
  obtain ⟨p0, q0⟩ := bat_bounds s.data.toList 0
  by_cases c0 : 192 ≤ bat s.data.toList 0
  · exact vget_high s h _ e0 rfl q0 c0 w
  by_cases c1 : bat s.data.toList 0 < 64
  · exact vget_k0 s hz h h _ e0 rfl p0 c1 w hk
  by_cases c2 : bat s.data.toList 0 < 128
  · by_cases h1 : 1 < s.size
    · obtain ⟨p1, q1⟩ := bat_bounds s.data.toList 1
      exact vget_k1 s hz h h1 h1 _ _ e0 rfl (str_at s 1 h1) rfl (by omega) c2 p1 q1 w hk
    · exact vget_short1 s h (by omega) _ e0 rfl (by omega) c2 w hk
  · by_cases h3 : 3 < s.size
    · obtain ⟨p1, q1⟩ := bat_bounds s.data.toList 1
      obtain ⟨p2, q2⟩ := bat_bounds s.data.toList 2
      obtain ⟨p3, q3⟩ := bat_bounds s.data.toList 3
      exact vget_k2 s hz h (by omega) (by omega) h3 h3 _ _ _ _ e0 rfl (str_at s 1 (by omega)) rfl (str_at s 2 (by omega)) rfl (str_at s 3 h3) rfl (by omega) (by omega) p1 q1 p2 q2 p3 q3 w hk
    · exact vget_short2 s h (by omega) _ e0 rfl (by omega) (by omega) w hk
end Go.Proofs.YthnolkbolmbkdaaDoor
