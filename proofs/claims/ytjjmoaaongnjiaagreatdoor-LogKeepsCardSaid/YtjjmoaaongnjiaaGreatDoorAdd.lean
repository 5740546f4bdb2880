/- Contracts of ranges.Add and ranges.Count. Condition: the slice can be read. -/
import Derived.Test.YtjjmoaaongnjiaaGreatDoorJoin
import Derived.Test.YtjjmoaaongnjiaaGreatDoorRngLaw
namespace Go.Proofs.YtjjmoaaongnjiaaGreatDoor
open Go.ChangeShapes Go.WideShapes Go.ChangeAt Go.RowKit
set_option linter.unusedVariables false

theorem rfits (A : Option Addr) (n cap : Nat) (w : World) (hm : n ≤ 1000) :
    Calls Tryz.prog 29 #[.slice A n cap] w fun e w' => e = .returned (if 12 < n then .tuple #[.slice none 0 0, errV 4] else .tuple #[.slice A n cap, errV 0]) ∧ w = w' := by
  by_cases h : 12 < n
  · rw [if_pos h]
    have h1 : (12 : Int) < (n : Int) := by omega
    go_enter Tryz.func29, Tryz.ntmps29
    go_wp2
    go_ret2
    exact ⟨rfl, rfl⟩
  · rw [if_neg h]
    have h1 : decide ((12 : Int) < (n : Int)) = false := by simp; omega
    go_enter Tryz.func29, Tryz.ntmps29
    go_wp2
    go_ret2
    exact ⟨rfl, rfl⟩

set_option maxHeartbeats 3200000 in
set_option maxRecDepth 100000 in
/-- a number that cannot be is not added -/
theorem radd_out (A : Option Addr) (n cap : Nat) (L : List Rng) (x : Int) (w : World) (hn : L.length = n) (hb : ∀ r ∈ L, okI r.lo ∧ okI r.hi) (h : Rd w 2 (.slice A n cap) (L.map rngRow)) (hE : rngE L = 0) (hx : mayB x = false) :
    Calls Tryz.prog 19 #[.slice A n cap, .int .i64 x] w fun e w' => e = .returned (.tuple #[.slice none 0 0, .bool false, errV 1]) ∧ Below w.heap.size w w' := by
  have H := Lib.hid h
  have HN := Lib.hid hn
  have HB := Lib.hid hb
  have HE := Lib.hid hE
  have HX := Lib.hid hx
  clear h hn hb hE hx
  go_enter Tryz.func19, Tryz.ntmps19
  go_wp2_with (first | (go_at_call 27; refine (rcheck A n cap L _ HN.out HB.out H.out).mono ?_; rintro e w1 ⟨rfl, hb1⟩; rw [HE.out, errV_zero]) | (go_at_call 28; refine (may_any x _).mono ?_; rintro e w2 ⟨rfl, rfl⟩; rw [HX.out]))
  go_ret3
  exact ⟨rfl, (by refine Since.out ?_; repeat (first | with_reducible assumption | with_reducible exact Since.refl _ | with_reducible refine Since.later ?_ (by with_reducible assumption) | with_reducible refine Since.only ?_ (by with_reducible assumption) (by first | assumption | omega | (simp; done) | (simp; omega)) | with_reducible refine Since.alloc ?_ _ | with_reducible refine Since.drewN ?_ _ | with_reducible refine Since.drew ?_ | with_reducible refine Since.set ?_ (by first | assumption | omega | (simp; done) | (simp; omega)) _))⟩

set_option maxHeartbeats 3200000 in
set_option maxRecDepth 100000 in
/-- a number is added -/
theorem radd_ok (A : Option Addr) (n cap : Nat) (L : List Rng) (x : Int) (w : World) (hn : L.length = n) (hb : ∀ r ∈ L, okI r.lo ∧ okI r.hi) (h : Rd w 2 (.slice A n cap) (L.map rngRow)) (hE : rngE L = 0) (hx : mayB x = true) :
    Calls Tryz.prog 19 #[.slice A n cap, .int .i64 x] w fun e w' => ∃ L' : List Rng, L'.Perm (L ++ [⟨x, x⟩]) ∧ L'.Pairwise (fun a b => b.hi ≤ a.hi) ∧ Below w.heap.size w w' ∧
      ((12 < (joinL L').length ∧ e = .returned (.tuple #[.slice none 0 0, .bool false, errV 4])) ∨
       ((joinL L').length ≤ 12 ∧ ∃ A' cap', e = .returned (.tuple #[.slice A' (joinL L').length cap', .bool (!inB L x), errV 0]) ∧ Lst w' 34 2 (.slice A' (joinL L').length cap') ((joinL L').map rngRow) ∧ ∀ k, k ∈ blocks (.slice A' 0 0) → w.heap.size ≤ k)) := by
  have H := Lib.hid h
  have HN := Lib.hid hn
  have HB := Lib.hid hb
  have HE := Lib.hid hE
  have HX := Lib.hid hx
  have hl12 : n ≤ 12 := by rw [← hn]; exact rngE_len hE
  have HML : Hid ((L.map rngRow).length = n) := Lib.hid (by rw [List.length_map]; exact hn)
  have HOK : Hid (∀ r ∈ L ++ [(⟨x, x⟩ : Rng)], okN r) := Lib.hid (fun r hr => by
    rcases List.mem_append.1 hr with hr | hr
    · exact rngE_ok hE r hr
    · rw [List.mem_singleton.1 hr]; exact ⟨mayB_iff.1 hx, mayB_iff.1 hx⟩)
  clear h hn hb hE hx
  go_enter Tryz.func19, Tryz.ntmps19
  go_wp2_with (first | (go_at_call 27; refine (rcheck A n cap L _ HN.out HB.out H.out).mono ?_; rintro e w1 ⟨rfl, hb1⟩; rw [HE.out, errV_zero]; have HB1 := Lib.hid hb1; clear hb1) | (go_at_call 28; refine (may_any x _).mono ?_; rintro e w2 ⟨rfl, rfl⟩; rw [HX.out]) | (go_at_call 24; refine (rclone A n cap L _ HN.out (by omega) (H.out.later HB1.out)).mono ?_; rintro e w3 ⟨A3, c3, rfl, hl3, hb3, hk3⟩; have HL3 := Lib.hid hl3; have HK3 := Lib.hid hk3; have HS3 := Lib.hid ((show Since w w1 from HB1.out).later hb3); clear hl3 hk3 hb3) | (at_builtin; refine wpList_push rfl _ _ 31 rfl 34 2 16 Tryz.elRange (.slice A3 n c3) (L.map rngRow) rfl (HL3.out.alloc _) w3.heap.size 1 [.int .i64 x, .int .i64 x] rfl rfl (rngRow_one ⟨x, x⟩).2 (BlockIs.fresh _ _ _) (by rw [HML.out]; omega) ?_; intro q4 c4 w4 hl4 ho4 hq4 hlt4; rw [HML.out] at hl4; (try rw [HML.out]); have HL4 : Hid (Lst w4 34 2 (.slice (some ⟨q4, 0, none⟩) (n + 1) c4) ((L ++ [(⟨x, x⟩ : Rng)]).map rngRow)) := Lib.hid (by rw [List.map_append]; exact hl4); have HS4 := Lib.hid ((HS3.out.alloc _).out' ho4 (fun k hk => Nat.le_trans HB1.out.size (HK3.out k (blocks_any A3 _ _ _ _ ▸ hk)))); clear hl4 ho4 hq4 hlt4) | (go_at_call 30; refine (rjoined (some ⟨q4, 0, none⟩) (n + 1) c4 (L ++ [⟨x, x⟩]) w4 (by rw [List.length_append, HN.out]; rfl) (by omega) (by omega) HOK.out (Rd.of_lst HL4.out)).mono ?_; rintro e w5 ⟨L5, A5, c5, hp5, hs5, rfl, hl5, hb5, hk5⟩; have HP5 := Lib.hid hp5; have HQ5 := Lib.hid hs5; have HL5 := Lib.hid hl5; have HK5 := Lib.hid hk5; have HS5 := Lib.hid (HS4.out.later hb5); have hjl := joinL_len L5 L5.length; rw [List.take_length, hp5.length_eq, List.length_append, HN.out] at hjl; have HJ5 := Lib.hid hjl; clear hp5 hs5 hl5 hb5 hk5 hjl))
  refine (rfits A5 (joinL L5).length c5 _ (by have := HJ5.out; simp only [List.length_cons, List.length_nil] at this; omega)).mono ?_
  rintro e w6 ⟨rfl, rfl⟩
  have hs5 := HS5.out
  by_cases hj : 12 < (joinL L5).length
  · rw [if_pos hj, show errV 4 = .iface 46 (.int .i64 4) from rfl]
    have HJ := Lib.hid hj
    clear hj
    go_wp2_with fail
    go_ret3
    exact ⟨L5, HP5.out, HQ5.out, (by refine Since.out ?_; repeat (first | with_reducible assumption | with_reducible exact Since.refl _ | with_reducible refine Since.later ?_ (by with_reducible assumption) | with_reducible refine Since.only ?_ (by with_reducible assumption) (by first | assumption | omega | (simp; done) | (simp; omega)) | with_reducible refine Since.alloc ?_ _ | with_reducible refine Since.drewN ?_ _ | with_reducible refine Since.drew ?_ | with_reducible refine Since.set ?_ (by first | assumption | omega | (simp; done) | (simp; omega)) _)), Or.inl ⟨HJ.out, rfl⟩⟩
  · rw [if_neg hj, errV_zero]
    have HJ := Lib.hid hj
    clear hj
    go_wp2_with (go_at_call 31; refine (rin_any A n cap L x _ HN.out (H.out.later hs5)).mono ?_; rintro e w7 ⟨rfl, hb7⟩)
    go_ret3
    exact ⟨L5, HP5.out, HQ5.out, (by refine Since.out ?_; repeat (first | with_reducible assumption | with_reducible exact Since.refl _ | with_reducible refine Since.later ?_ (by with_reducible assumption) | with_reducible refine Since.only ?_ (by with_reducible assumption) (by first | assumption | omega | (simp; done) | (simp; omega)) | with_reducible refine Since.alloc ?_ _ | with_reducible refine Since.drewN ?_ _ | with_reducible refine Since.drew ?_ | with_reducible refine Since.set ?_ (by first | assumption | omega | (simp; done) | (simp; omega)) _)), Or.inr ⟨by have := HJ.out; omega, A5, c5, rfl, HL5.out.later hb7, fun k hk => Nat.le_trans HS4.out.le (HK5.out k hk)⟩⟩

def cntL (L : List Rng) : Int := L.foldl (fun a r => a + (r.hi - r.lo + 1)) 0
theorem cntL_succ {L : List Rng} {i : Nat} (h : i < L.length) : cntL (L.take (i + 1)) = cntL (L.take i) + ((rat L i).hi - (rat L i).lo + 1) := by
  unfold cntL
  rw [List.take_add_one, List.foldl_append, rat_get h]
  simp [List.getElem?_eq_getElem h]
theorem cntL_le {L : List Rng} (h : ∀ r ∈ L, okN r) : ∀ i, i ≤ L.length → -(1073741823 * (i : Int)) ≤ cntL (L.take i) ∧ cntL (L.take i) ≤ 1073741824 * (i : Int)
  | 0, _ => by simp [cntL]
  | i + 1, hi => by
    have ih := cntL_le h i (by omega)
    have hr : okN (rat L i) := by rw [rat_get (by omega)]; exact h _ (List.getElem_mem _)
    rw [cntL_succ (by omega)]
    obtain ⟨⟨a, b⟩, c, d⟩ := hr
    omega
end Go.Proofs.YtjjmoaaongnjiaaGreatDoor
