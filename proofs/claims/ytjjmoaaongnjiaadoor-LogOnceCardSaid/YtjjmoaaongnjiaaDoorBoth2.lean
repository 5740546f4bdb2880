/- Contract of ranges.Both. Condition: the slices can be read. -/
import Derived.Test.YtjjmoaaongnjiaaDoorBoth
namespace Go.Proofs.YtjjmoaaongnjiaaDoor
open Go.ChangeShapes Go.WideShapes Go.ChangeAt Go.RowKit
set_option linter.unusedVariables false

theorem rjoinedA (A : Option Addr) (n cap : Nat) (L : List Rng) (w : World) (hn : L.length = n) (hm : n ≤ 100) (hL : ∀ r ∈ L, okN r) (h : Rd w 2 (.slice A n cap) (L.map rngRow)) :
    Calls Tryd.prog 22 #[.slice A n cap] w fun e w' => ∃ L' A' cap', L'.Perm L ∧ L'.Pairwise (fun a b => b.hi ≤ a.hi) ∧ e = .returned (.slice A' (joinL L').length cap') ∧ Lst w' 31 2 (.slice A' (joinL L').length cap') ((joinL L').map rngRow) ∧ Below w.heap.size w w' ∧ ∀ k, k ∈ blocks (.slice A' 0 0) → w.heap.size ≤ k := by
  rcases Nat.eq_zero_or_pos n with h0 | h0
  · subst h0
    have hL0 : L = [] := List.length_eq_zero_iff.1 hn
    subst hL0
    refine (rjoined0 A cap w h).mono ?_
    rintro e w' ⟨rfl, hb⟩
    exact ⟨[], none, 0, List.Perm.refl _, List.Pairwise.nil, rfl, Lst.nil _ _ _, hb, by simp [Value.ownBlock]⟩
  · exact rjoined A n cap L w hn h0 hm hL h

set_option maxHeartbeats 3200000 in
set_option maxRecDepth 100000 in
/-- one of the two is wrong -/
theorem rboth_bad (A A2 : Option Addr) (n n2 cap cap2 : Nat) (L M : List Rng) (w : World) (hn : L.length = n) (hn2 : M.length = n2) (hb : ∀ r ∈ L, okI r.lo ∧ okI r.hi) (hb2 : ∀ r ∈ M, okI r.lo ∧ okI r.hi) (h : Rd w 2 (.slice A n cap) (L.map rngRow)) (h2 : Rd w 2 (.slice A2 n2 cap2) (M.map rngRow)) (x : Int) (hx : x ≠ 0) (hE : (if rngE L = 0 then rngE M else rngE L) = x) :
    Calls Tryd.prog 15 #[.slice A n cap, .slice A2 n2 cap2] w fun e w' => e = .returned (.tuple #[.slice none 0 0, errV x]) ∧ Below w.heap.size w w' := by
  have H := Lib.hid h
  have HN := Lib.hid hn
  have HB := Lib.hid hb
  have H2 := Lib.hid h2
  have HN2 := Lib.hid hn2
  have HB2 := Lib.hid hb2
  have HX := Lib.hid hx
  clear h hn hb h2 hn2 hb2
  rw [errV_pos hx]
  by_cases h0 : rngE L = 0
  · rw [if_pos h0] at hE
    have HE0 := Lib.hid h0
    have HE := Lib.hid hE
    clear h0 hE hx
    go_enter Tryd.func15, Tryd.ntmps15
    go_wp2_with fail
    refine wp_loop_rounds 3 ?_
    rw [rounds_succ]
    go_wp2_with (go_at_call 7; refine (rcheck A n cap L _ HN.out HB.out (H.out.later ((Since.refl w).alloc _))).mono ?_; rintro e w1 ⟨rfl, hb1⟩; rw [HE0.out, errV_zero]; have hs1 : Since w w1 := ((Since.refl w).alloc _).later hb1; have hq : BlockIs w1 w.heap.size 22 #[.slice A n cap, .slice A2 n2 cap2] := (BlockIs.fresh w _ _).later hb1; have d1 : w1.cell? ⟨w.heap.size, 1, none⟩ = some (.slice A2 n2 cap2) := hq.cell 1; clear hb1 hq)
    rw [rounds_succ]
    go_wp2_with (go_at_call 7; refine (rcheck A2 n2 cap2 M _ HN2.out HB2.out (H2.out.later hs1)).mono ?_; rintro e w2 ⟨rfl, hb2⟩; rw [HE.out, errV_pos HX.out])
    go_ret2
    exact ⟨rfl, hs1.later hb2⟩
  · rw [if_neg h0] at hE
    have HE := Lib.hid hE
    clear h0 hE hx
    go_enter Tryd.func15, Tryd.ntmps15
    go_wp2_with fail
    refine wp_loop_rounds 3 ?_
    rw [rounds_succ]
    go_wp2_with (go_at_call 7; refine (rcheck A n cap L _ HN.out HB.out (H.out.later ((Since.refl w).alloc _))).mono ?_; rintro e w1 ⟨rfl, hb1⟩; rw [HE.out, errV_pos HX.out])
    go_ret2
    exact ⟨rfl, ((Since.refl w).alloc _).later hb1⟩

set_option maxHeartbeats 6400000 in
set_option maxRecDepth 100000 in
/-- both are right -/
theorem rboth_ok (A A2 : Option Addr) (n n2 cap cap2 : Nat) (L M : List Rng) (w : World) (hn : L.length = n) (hn2 : M.length = n2) (hb : ∀ r ∈ L, okI r.lo ∧ okI r.hi) (hb2 : ∀ r ∈ M, okI r.lo ∧ okI r.hi) (h : Rd w 2 (.slice A n cap) (L.map rngRow)) (h2 : Rd w 2 (.slice A2 n2 cap2) (M.map rngRow)) (hE : rngE L = 0) (hE2 : rngE M = 0) :
    Calls Tryd.prog 15 #[.slice A n cap, .slice A2 n2 cap2] w fun e w' => ∃ L' : List Rng, L'.Perm (L ++ M) ∧ L'.Pairwise (fun a b => b.hi ≤ a.hi) ∧ Below w.heap.size w w' ∧
      ((12 < (joinL L').length ∧ e = .returned (.tuple #[.slice none 0 0, errV 4])) ∨
       ((joinL L').length ≤ 12 ∧ ∃ A' cap', e = .returned (.tuple #[.slice A' (joinL L').length cap', errV 0]) ∧ Lst w' 31 2 (.slice A' (joinL L').length cap') ((joinL L').map rngRow) ∧ ∀ k, k ∈ blocks (.slice A' 0 0) → w.heap.size ≤ k)) := by
  have hl12 : n ≤ 12 := by rw [← hn]; exact rngE_len hE
  have hl12' : n2 ≤ 12 := by rw [← hn2]; exact rngE_len hE2
  have HOK : Hid (∀ r ∈ L ++ M, okN r) := Lib.hid (fun r hr => by
    rcases List.mem_append.1 hr with hr | hr
    · exact rngE_ok hE r hr
    · exact rngE_ok hE2 r hr)
  have H := Lib.hid h
  have HN := Lib.hid hn
  have HB := Lib.hid hb
  have H2 := Lib.hid h2
  have HN2 := Lib.hid hn2
  have HB2 := Lib.hid hb2
  have HE := Lib.hid hE
  have HE2 := Lib.hid hE2
  clear h hn hb h2 hn2 hb2 hE hE2
  go_enter Tryd.func15, Tryd.ntmps15
  go_wp2_with fail
  refine wp_loop_rounds 3 ?_
  rw [rounds_succ]
  go_wp2_with (go_at_call 7; refine (rcheck A n cap L _ HN.out HB.out (H.out.later ((Since.refl w).alloc _))).mono ?_; rintro e w1 ⟨rfl, hb1⟩; rw [HE.out, errV_zero]; have hs1 : Since w w1 := ((Since.refl w).alloc _).later hb1; have hq : BlockIs w1 w.heap.size 22 #[.slice A n cap, .slice A2 n2 cap2] := (BlockIs.fresh w _ _).later hb1; have d1 : w1.cell? ⟨w.heap.size, 1, none⟩ = some (.slice A2 n2 cap2) := hq.cell 1; clear hb1 hq)
  rw [rounds_succ]
  go_wp2_with (go_at_call 7; refine (rcheck A2 n2 cap2 M _ HN2.out HB2.out (H2.out.later hs1)).mono ?_; rintro e w2 ⟨rfl, hb2⟩; rw [HE2.out, errV_zero]; have hs2 : Since w w2 := hs1.later hb2; clear hb2 d1)
  rw [rounds_succ]
  go_wp2_with (first | (go_at_call 25; refine (rconcat w2.heap.size 2 A A2 n n2 cap cap2 L M _ HN.out HN2.out (by omega) (by omega) (H.out.later (hs2.alloc _)) (H2.out.later (hs2.alloc _)) (by simp) (by simp) (by simp)).mono ?_; rintro e w3 ⟨A3, c3, rfl, hl3, hb3, hk3⟩; have hs3 : Since w w3 := (hs2.alloc _).later hb3; have HL3 := Lib.hid hl3; clear hl3 hb3 hk3) | (go_at_call 22; refine (rjoinedA A3 (n + n2) c3 (L ++ M) w3 (by rw [List.length_append, HN.out, HN2.out]) (by omega) HOK.out (Rd.of_lst HL3.out)).mono ?_; rintro e w5 ⟨L5, A5, c5, hp5, hq5, rfl, hl5, hb5, hk5⟩; have HP5 := Lib.hid hp5; have HQ5 := Lib.hid hq5; have HL5 := Lib.hid hl5; have HK5 := Lib.hid (fun k hk => Nat.le_trans hs3.le (hk5 k hk)); have hs5 := hs3.later hb5; have hjl := joinL_len L5 L5.length; rw [List.take_length, hp5.length_eq, List.length_append, HN.out, HN2.out] at hjl; have HJ5 := Lib.hid hjl; clear hp5 hq5 hl5 hb5 hk5 hjl))
  refine (rfits A5 (joinL L5).length c5 _ (by have := HJ5.out; omega)).mono ?_
  rintro e w6 ⟨rfl, rfl⟩
  by_cases hj : 12 < (joinL L5).length
  · rw [if_pos hj, show errV 4 = .iface 48 (.int .i64 4) from rfl]
    have HJ := Lib.hid hj
    clear hj
    go_wp2_with fail
    go_ret2
    exact ⟨L5, HP5.out, HQ5.out, hs5, Or.inl ⟨HJ.out, rfl⟩⟩
  · rw [if_neg hj, errV_zero]
    have HJ := Lib.hid hj
    clear hj
    go_wp2_with fail
    go_ret2
    exact ⟨L5, HP5.out, HQ5.out, hs5, Or.inr ⟨by have := HJ.out; omega, A5, c5, rfl, HL5.out, HK5.out⟩⟩
end Go.Proofs.YtjjmoaaongnjiaaDoor
