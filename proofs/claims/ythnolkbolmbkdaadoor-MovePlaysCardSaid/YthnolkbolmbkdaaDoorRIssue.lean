/- Contract of the reference's IDs.Issue. Condition: the blocks hold IDs as the calls leave them. -/
import Derived.Test.YthnolkbolmbkdaaDoorRLive
import Derived.Deep.RegionLaw
namespace Go.Proofs.YthnolkbolmbkdaaDoor
open Go.ChangeShapes Go.WideShapes Go.ChangeAt Go.RowKit
set_option linter.unusedVariables false

def rissE (lim : Int) (N : List Int) (Gn : List Bool) (x : Int) : Int := if MayBe x then (if x ∈ N then 7 else if lim ≤ ((liveOf N Gn).length : Int) ∨ 100 ≤ N.length then 4 else 0) else 1
def rissG (lim : Int) (N : List Int) (Gn : List Bool) (x : Int) : List Bool := if rissE lim N Gn x = 0 then Gn ++ [false] else Gn
def rissN (lim : Int) (N : List Int) (Gn : List Bool) (x : Int) : List Int := if rissE lim N Gn x = 0 then N ++ [x] else N
def rissD (lim : Int) (N : List Int) (Gn : List Bool) (x : Int) : One := if rissE lim N Gn x = 0 then ⟨N.length, x⟩ else ⟨0, 0⟩
theorem riss_bad {lim : Int} {N : List Int} {Gn : List Bool} {x : Int} (h : rissE lim N Gn x ≠ 0) : rissG lim N Gn x = Gn ∧ rissN lim N Gn x = N ∧ rissD lim N Gn x = ⟨0, 0⟩ := by
  unfold rissG rissN rissD
  rw [if_neg h, if_neg h, if_neg h]
  exact ⟨rfl, rfl, rfl⟩
theorem riss_ok {lim : Int} {N : List Int} {Gn : List Bool} {x : Int} (h : rissE lim N Gn x = 0) : rissG lim N Gn x = Gn ++ [false] ∧ rissN lim N Gn x = N ++ [x] ∧ rissD lim N Gn x = ⟨N.length, x⟩ := by
  unfold rissG rissN rissD
  rw [if_pos h, if_pos h, if_pos h]
  exact ⟨rfl, rfl, rfl⟩
/-- what a call leaves of the reference's IDs -/
def JLeft (w w' : World) (g : Nat) (va vg : Value) (lim : Int) (N : List Int) (Gn : List Bool) : Prop :=
  ∃ va' vg', Rz w' g va' vg' lim N Gn ∧ Out w w' (g :: (blocks va ++ blocks vg)) ∧ ∀ k, k ∈ blocks va' ++ blocks vg' → k ∈ blocks va ++ blocks vg ∨ w.heap.size ≤ k

set_option maxHeartbeats 3200000 in
theorem rissue (g : Nat) (va vg : Value) (lim : Int) (N : List Int) (Gn : List Bool) (x : Int) (w : World) (h : Rz w g va vg lim N Gn) :
    Calls Tryd.prog 22 #[.pointer (some ⟨g, 0, none⟩), .int .i64 x] w fun e w' => e = .returned (.tuple #[oneV (rissD lim N Gn x), .int .i64 (rissE lim N Gn x)]) ∧ JLeft w w' g va vg lim (rissN lim N Gn x) (rissG lim N Gn x) := by
  have lg := h.bl.lt
  by_cases hm : MayBe x
  case neg =>
    have E : Hid (rissE lim N Gn x = 1) := Lib.hid (by unfold rissE; rw [if_neg hm])
    have HB := Lib.hid (riss_bad (N := N) (Gn := Gn) (lim := lim) (x := x) (by rw [E.out]; decide))
    have H := Lib.hid h
    clear h
    go_enter Tryd.func22, Tryd.ntmps22
    go_wp2_with (go_at_call 65; refine (rmay_no x hm _).mono ?_; rintro e w' ⟨rfl, rfl⟩)
    refine bodyPost_ret (v := .tuple #[oneV ⟨0, 0⟩, .int .i64 1]) (by simp [results, Tryd.results22, go_sem]) rfl ⟨by rw [HB.out.2.2, E.out], ?_⟩
    rw [HB.out.1, HB.out.2.1]
    exact ⟨va, vg, H.out.later (by refine Since.out ?_; repeat (first | with_reducible assumption | with_reducible exact Since.refl _ | with_reducible refine Since.later ?_ (by with_reducible assumption) | with_reducible refine Since.only ?_ (by with_reducible assumption) (by first | assumption | omega | (simp; done) | (simp; omega)) | with_reducible refine Since.alloc ?_ _ | with_reducible refine Since.drewN ?_ _ | with_reducible refine Since.drew ?_ | with_reducible refine Since.set ?_ (by first | assumption | omega | (simp; done) | (simp; omega)) _)), Out.of_below (by refine Since.out ?_; repeat (first | with_reducible assumption | with_reducible exact Since.refl _ | with_reducible refine Since.later ?_ (by with_reducible assumption) | with_reducible refine Since.only ?_ (by with_reducible assumption) (by first | assumption | omega | (simp; done) | (simp; omega)) | with_reducible refine Since.alloc ?_ _ | with_reducible refine Since.drewN ?_ _ | with_reducible refine Since.drew ?_ | with_reducible refine Since.set ?_ (by first | assumption | omega | (simp; done) | (simp; omega)) _)) _, fun k hk => Or.inl hk⟩
  have x0 := hm.1
  have x1 := hm.2
  obtain ⟨A, cap, hve, hcap, hmx, hA⟩ := h.la.shape
  rw [List.length_map, issued_length] at hve hcap
  have hmost := h.most
  subst hve
  have H := Lib.hid h
  have HA := Lib.hid hA
  have HM := Lib.hid hm
  clear h hA hm
  go_enter Tryd.func22, Tryd.ntmps22
  go_wp2_with (go_at_call 65; refine (rmay_yes x x0 x1 _).mono ?_; rintro e w' ⟨rfl, rfl⟩)
  go_loopw [7] (fun s7 wr => ∃ i : Nat, s7 = .int .i64 i ∧ i ≤ N.length ∧ Hid (∀ j (hj : j < N.length), j < i → N[j] ≠ x) ∧ BlockIs wr w.heap.size 52 #[.int .i64 0, .int .i64 0] ∧ Since w wr) (fun s7 _ => N.length - (intOf s7).toNat)
  case atStart => exact ⟨0, rfl, Nat.zero_le _, Lib.hid (fun j _ hj => by omega), BlockIs.fresh _ _ _, (by refine Since.out ?_; repeat (first | with_reducible assumption | with_reducible exact Since.refl _ | with_reducible refine Since.later ?_ (by with_reducible assumption) | with_reducible refine Since.only ?_ (by with_reducible assumption) (by first | assumption | omega | (simp; done) | (simp; omega)) | with_reducible refine Since.alloc ?_ _ | with_reducible refine Since.drewN ?_ _ | with_reducible refine Since.drew ?_ | with_reducible refine Since.set ?_ (by first | assumption | omega | (simp; done) | (simp; omega)) _))⟩
  case round =>
    obtain ⟨i, rfl, hi, hno, hB, hs⟩ := hrel
    have hR := H.out.later hs
    have c1 : wr.cell? ⟨g, 1, none⟩ = some (.slice A N.length cap) := hR.bl.cell 1
    by_cases hlt : i < N.length
    case pos =>
      have hlt' : (i : Int) < (N.length : Int) := by omega
      rcases HA.out with ⟨_, h0, _⟩ | ⟨qa, rfl⟩
      · have : issued N = [] := by simpa using h0
        have : (issued N).length = 0 := by rw [this]; rfl
        rw [issued_length] at this
        omega
      have hji : i < (issued N).length := by rw [issued_length]; exact hlt
      have q1 : wr.cell? ⟨qa, i * 2 + 1, none⟩ = some (.int .i64 N[i]) := by
        have := hR.la.cell rfl (elem_of_row hji) (j := 1) rfl
        rw [issued_at hji] at this
        exact this
      by_cases hx : N[i] = x
      · have hmem : x ∈ N := by rw [← hx]; exact List.getElem_mem hlt
        have E : Hid (rissE lim N Gn x = 7) := Lib.hid (by unfold rissE; rw [if_pos HM.out, if_pos hmem])
        have HB := Lib.hid (riss_bad (N := N) (Gn := Gn) (lim := lim) (x := x) (by rw [E.out]; decide))
        rw [hx] at q1
        have f4 := hB.free
        have e40 : wr.cell? ⟨w.heap.size, 0, none⟩ = some (.int .i64 0) := hB.cell 0
        have e41 : wr.cell? ⟨w.heap.size, 1, none⟩ = some (.int .i64 0) := hB.cell 1
        have l4 := hB.lt
        clear hR hno hmem hB hx
        go_wp2_with fail
        refine bodyPost_ret (v := .tuple #[oneV ⟨0, 0⟩, .int .i64 7]) (by simp [results, Tryd.results22, go_sem, e40, e41]) rfl ⟨by rw [HB.out.2.2, E.out], ?_⟩
        rw [HB.out.1, HB.out.2.1]
        exact ⟨_, vg, H.out.later (by refine Since.out ?_; repeat (first | with_reducible assumption | with_reducible exact Since.refl _ | with_reducible refine Since.later ?_ (by with_reducible assumption) | with_reducible refine Since.only ?_ (by with_reducible assumption) (by first | assumption | omega | (simp; done) | (simp; omega)) | with_reducible refine Since.alloc ?_ _ | with_reducible refine Since.drewN ?_ _ | with_reducible refine Since.drew ?_ | with_reducible refine Since.set ?_ (by first | assumption | omega | (simp; done) | (simp; omega)) _)), Out.of_below (by refine Since.out ?_; repeat (first | with_reducible assumption | with_reducible exact Since.refl _ | with_reducible refine Since.later ?_ (by with_reducible assumption) | with_reducible refine Since.only ?_ (by with_reducible assumption) (by first | assumption | omega | (simp; done) | (simp; omega)) | with_reducible refine Since.alloc ?_ _ | with_reducible refine Since.drewN ?_ _ | with_reducible refine Since.drew ?_ | with_reducible refine Since.set ?_ (by first | assumption | omega | (simp; done) | (simp; omega)) _)) _, fun k hk => Or.inl hk⟩
      · have hxb : (N[i] == x) = false := by simpa using hx
        have hno2 : Hid (∀ j (hj : j < N.length), j < i + 1 → N[j] ≠ x) := Lib.hid (fun j hj hji => by
          by_cases e : j = i
          · subst e; exact hx
          · exact hno.out j hj (by omega))
        clear hR hno hx
        go_wp2_with fail
        go_roundw
        case rel => exact ⟨i + 1, by go_num, by omega, hno2, hB, hs⟩
        case measure => simp [intOf]; omega
    obtain rfl : i = N.length := by omega
    have hmem : x ∉ N := by
      intro hx
      obtain ⟨j, hj, e⟩ := List.getElem_of_mem hx
      exact hno.out j hj hj e
    have hf : decide ((N.length : Int) < (N.length : Int)) = false := by simp
    have HNM := Lib.hid hmem
    have HR' := Lib.hid hR
    obtain ⟨wo, rfl⟩ : ∃ wo : World, wo = wr := ⟨_, rfl⟩
    clear hno hR hmem
    obtain ⟨m, hml⟩ : ∃ m, (liveOf N Gn).length = m := ⟨_, rfl⟩
    have HML := Lib.hid hml
    have hm100 : m ≤ 100 := by
      have := liveOf_le H.out.len N.length
      rw [List.take_of_length_le (Nat.le_refl _), List.take_of_length_le (by rw [H.out.len]; exact Nat.le_refl _), hml] at this
      omega
    clear hml
    by_cases hfull : lim ≤ (m : Int)
    · have E : Hid (rissE lim N Gn x = 4) := Lib.hid (by unfold rissE; rw [if_pos HM.out, if_neg HNM.out, HML.out, if_pos (Or.inl hfull)])
      have HB := Lib.hid (riss_bad (N := N) (Gn := Gn) (lim := lim) (x := x) (by rw [E.out]; decide))
      have hf' : decide (lim ≤ (m : Int)) = true := by simpa using hfull
      go_wp2_with fail
      refine (rlive g _ vg lim N Gn _ HR'.out).mono ?_
      rintro e w1 ⟨A1, cap1, rfl, hl1, hb1, hk1⟩
      rw [HML.out]
      have hB1 := hB.later hb1
      have f4 := hB1.free
      have e40 : w1.cell? ⟨w.heap.size, 0, none⟩ = some (.int .i64 0) := hB1.cell 0
      have e41 : w1.cell? ⟨w.heap.size, 1, none⟩ = some (.int .i64 0) := hB1.cell 1
      have l4 := hB1.lt
      have hR1 := HR'.out.later hb1
      have a0 : w1.cell? ⟨g, 0, none⟩ = some (.int .i64 lim) := hR1.bl.cell 0
      have a1 : w1.cell? ⟨g, 1, none⟩ = some (.slice A N.length cap) := hR1.bl.cell 1
      have hs1 : Since w w1 := hs.later hb1
      have HL1 := Lib.hid hl1
      clear hl1 hR1 hB1
      go_wp2_with fail
      refine bodyPost_ret (v := .tuple #[oneV ⟨0, 0⟩, .int .i64 4]) (by simp [results, Tryd.results22, go_sem, e40, e41]) rfl ⟨by rw [HB.out.2.2, E.out], ?_⟩
      rw [HB.out.1, HB.out.2.1]
      exact ⟨_, vg, H.out.later (by refine Since.out ?_; repeat (first | with_reducible assumption | with_reducible exact Since.refl _ | with_reducible refine Since.later ?_ (by with_reducible assumption) | with_reducible refine Since.only ?_ (by with_reducible assumption) (by first | assumption | omega | (simp; done) | (simp; omega)) | with_reducible refine Since.alloc ?_ _ | with_reducible refine Since.drewN ?_ _ | with_reducible refine Since.drew ?_ | with_reducible refine Since.set ?_ (by first | assumption | omega | (simp; done) | (simp; omega)) _)), Out.of_below (by refine Since.out ?_; repeat (first | with_reducible assumption | with_reducible exact Since.refl _ | with_reducible refine Since.later ?_ (by with_reducible assumption) | with_reducible refine Since.only ?_ (by with_reducible assumption) (by first | assumption | omega | (simp; done) | (simp; omega)) | with_reducible refine Since.alloc ?_ _ | with_reducible refine Since.drewN ?_ _ | with_reducible refine Since.drew ?_ | with_reducible refine Since.set ?_ (by first | assumption | omega | (simp; done) | (simp; omega)) _)) _, fun k hk => Or.inl hk⟩
    have hf' : decide (lim ≤ (m : Int)) = false := by simpa using hfull
    have hf'' : (m : Int) < lim := by omega
    by_cases h100 : 100 ≤ N.length
    · have E : Hid (rissE lim N Gn x = 4) := Lib.hid (by unfold rissE; rw [if_pos HM.out, if_neg HNM.out, HML.out, if_pos (Or.inr h100)])
      have HB := Lib.hid (riss_bad (N := N) (Gn := Gn) (lim := lim) (x := x) (by rw [E.out]; decide))
      have h100' : decide (100 ≤ (N.length : Int)) = true := by simp; omega
      go_wp2_with fail
      refine (rlive g _ vg lim N Gn _ HR'.out).mono ?_
      rintro e w1 ⟨A1, cap1, rfl, hl1, hb1, hk1⟩
      rw [HML.out]
      have hB1 := hB.later hb1
      have f4 := hB1.free
      have e40 : w1.cell? ⟨w.heap.size, 0, none⟩ = some (.int .i64 0) := hB1.cell 0
      have e41 : w1.cell? ⟨w.heap.size, 1, none⟩ = some (.int .i64 0) := hB1.cell 1
      have l4 := hB1.lt
      have hR1 := HR'.out.later hb1
      have a0 : w1.cell? ⟨g, 0, none⟩ = some (.int .i64 lim) := hR1.bl.cell 0
      have a1 : w1.cell? ⟨g, 1, none⟩ = some (.slice A N.length cap) := hR1.bl.cell 1
      have hs1 : Since w w1 := hs.later hb1
      have HL1 := Lib.hid hl1
      clear hl1 hR1 hB1
      go_wp2_with fail
      refine bodyPost_ret (v := .tuple #[oneV ⟨0, 0⟩, .int .i64 4]) (by simp [results, Tryd.results22, go_sem, e40, e41]) rfl ⟨by rw [HB.out.2.2, E.out], ?_⟩
      rw [HB.out.1, HB.out.2.1]
      exact ⟨_, vg, H.out.later (by refine Since.out ?_; repeat (first | with_reducible assumption | with_reducible exact Since.refl _ | with_reducible refine Since.later ?_ (by with_reducible assumption) | with_reducible refine Since.only ?_ (by with_reducible assumption) (by first | assumption | omega | (simp; done) | (simp; omega)) | with_reducible refine Since.alloc ?_ _ | with_reducible refine Since.drewN ?_ _ | with_reducible refine Since.drew ?_ | with_reducible refine Since.set ?_ (by first | assumption | omega | (simp; done) | (simp; omega)) _)), Out.of_below (by refine Since.out ?_; repeat (first | with_reducible assumption | with_reducible exact Since.refl _ | with_reducible refine Since.later ?_ (by with_reducible assumption) | with_reducible refine Since.only ?_ (by with_reducible assumption) (by first | assumption | omega | (simp; done) | (simp; omega)) | with_reducible refine Since.alloc ?_ _ | with_reducible refine Since.drewN ?_ _ | with_reducible refine Since.drew ?_ | with_reducible refine Since.set ?_ (by first | assumption | omega | (simp; done) | (simp; omega)) _)) _, fun k hk => Or.inl hk⟩
    have h100' : decide (100 ≤ (N.length : Int)) = false := by simp; omega
    have h100'' : (N.length : Int) < 100 := by omega
    have E : Hid (rissE lim N Gn x = 0) := Lib.hid (by unfold rissE; rw [if_pos HM.out, if_neg HNM.out, HML.out, if_neg (by rintro (h | h); exact hfull h; exact h100 h)])
    have HB := Lib.hid (riss_ok E.out)
    go_wp2_with fail
    refine (rlive g _ vg lim N Gn _ HR'.out).mono ?_
    rintro e w1 ⟨A1, cap1, rfl, hl1, hb1, hk1⟩
    rw [HML.out]
    have hB1 := hB.later hb1
    have hR1 := HR'.out.later hb1
    have a0 : w1.cell? ⟨g, 0, none⟩ = some (.int .i64 lim) := hR1.bl.cell 0
    have a1 : w1.cell? ⟨g, 1, none⟩ = some (.slice A N.length cap) := hR1.bl.cell 1
    have hs1 : Since w w1 := hs.later hb1
    have HL1 := Lib.hid hl1
    have HR1 := Lib.hid hR1
    have HB1 := Lib.hid hB1
    clear hl1 hR1 hB1
    go_wp2_with fail
    have hl4 := hB.lt
    have hl41 := HB1.out.lt
    have hlg1 := HR1.out.bl.lt
    have hdd : BlockIs (w1.alloc (.cells #[.int .i64 N.length, .int .i64 x] 52)) w1.heap.size 52 #[.int .i64 N.length, .int .i64 x] := BlockIs.fresh _ _ _
    have hR2 : Rz (w1.alloc (.cells #[.int .i64 N.length, .int .i64 x] 52)) g (.slice A N.length cap) vg lim N Gn := HR1.out.later (by refine Since.out ?_; repeat (first | with_reducible assumption | with_reducible exact Since.refl _ | with_reducible refine Since.later ?_ (by with_reducible assumption) | with_reducible refine Since.only ?_ (by with_reducible assumption) (by first | assumption | omega | (simp; done) | (simp; omega)) | with_reducible refine Since.alloc ?_ _ | with_reducible refine Since.drewN ?_ _ | with_reducible refine Since.drew ?_ | with_reducible refine Since.set ?_ (by first | assumption | omega | (simp; done) | (simp; omega)) _))
    have hB2 : BlockIs (w1.alloc (.cells #[.int .i64 N.length, .int .i64 x] 52)) w.heap.size 52 #[.int .i64 0, .int .i64 0] := HB1.out.alloc _
    have hs2 : Since w (w1.alloc (.cells #[.int .i64 N.length, .int .i64 x] 52)) := (by refine Since.out ?_; repeat (first | with_reducible assumption | with_reducible exact Since.refl _ | with_reducible refine Since.later ?_ (by with_reducible assumption) | with_reducible refine Since.only ?_ (by with_reducible assumption) (by first | assumption | omega | (simp; done) | (simp; omega)) | with_reducible refine Since.alloc ?_ _ | with_reducible refine Since.drewN ?_ _ | with_reducible refine Since.drew ?_ | with_reducible refine Since.set ?_ (by first | assumption | omega | (simp; done) | (simp; omega)) _))
    have hd4 : w1.heap.size ≠ w.heap.size := by omega
    have hdg : w1.heap.size ≠ g := by omega
    have hga := hR2.la.apart hR2.bl (by decide)
    have hgv := hR2.lg.apart hR2.bl (by decide)
    have hda : w1.heap.size ∉ blocks (.slice A N.length cap) := fun hk => by have := HR1.out.la.lt _ hk; omega
    have hdv : w1.heap.size ∉ blocks vg := fun hk => by have := HR1.out.lg.lt _ hk; omega
    have h4a : w.heap.size ∉ blocks (.slice A N.length cap) := fun hk => by have := H.out.la.lt _ hk; omega
    have h4v : w.heap.size ∉ blocks vg := fun hk => by have := H.out.lg.lt _ hk; omega
    have hav := hR2.la.apart2 hR2.lg (by decide)
    have hg4 : g ≠ w.heap.size := by omega
    have hld := hdd.lt
    have hwd : w.heap.size ≤ w1.heap.size := by omega
    generalize w1.alloc (.cells #[.int .i64 N.length, .int .i64 x] 52) = w2 at *
    generalize w1.heap.size = dd at *
    have hln : ((issued N).map idRow).length = N.length := by rw [List.length_map, issued_length]
    have HLN := Lib.hid hln
    have HD := Lib.hid hdd
    have HR2 := Lib.hid hR2
    have HB2 := Lib.hid hB2
    have HX := Lib.hid (And.intro hga (And.intro hgv (And.intro hda (And.intro hdv (And.intro h4a (And.intro h4v hav))))))
    have d1 : w2.cell? ⟨g, 1, none⟩ = some (.slice A N.length cap) := hR2.bl.cell 1
    have d6 : w2.cell? ⟨dd, 0, none⟩ = some (.int .i64 N.length) := hdd.cell 0
    have d7 : w2.cell? ⟨dd, 1, none⟩ = some (.int .i64 x) := hdd.cell 1
    have lg2 := hR2.bl.lt
    have l4 := hB2.lt
    clear hln hdd hR2 hB2 hga hgv hda hdv h4a h4v hav a0 a1 c1 HL1 HR1 HB1 hb1 hs1 hk1 hlg1 hl4 hl41 hB hs HR'
    go_region_law ((refine step_push rfl _ _ 38 rfl 52 2 16 Tryd.elID (.slice A N.length cap) ((issued N).map idRow) rfl ?_ w2.heap.size 1 [.int .i64 N.length, .int .i64 x] rfl rfl (idRow_one ⟨N.length, x⟩).2 ?_ ?_ ?_; (first | exact (HR2.out.la.alloc _).drew | exact HR2.out.la.alloc _); (exact BlockIs.fresh w2 _ _); (rw [HLN.out]; omega); intro q cap' w3 hl3 ho3 hq3 hlt3; have hb3 := ho3.block' (HR2.out.bl.alloc _) HX.out.1; have h63 := ho3.block' (HD.out.alloc _) HX.out.2.2.1; have h43 := ho3.block' (HB2.out.alloc _) HX.out.2.2.2.2.1; have f3 := hb3.free; have e31 : w3.cell? ⟨g, 1, none⟩ = some (.slice A N.length cap) := hb3.cell 1))
    all_goals
      simp only [issued_length]
      rw [HLN.out] at hl3
      have hO3 : Out w2 w3 (blocks (.slice A N.length cap)) := by
        first
          | exact ((Out.refl w2 _).alloc _).trans ho3
          | exact (((Out.refl w2 _).alloc _).drew).trans ho3
      have hqg : q ≠ g := fun e => by have := hl3.apart hb3 (by decide); rw [e] at this; simp [Value.ownBlock] at this
      have hq4 : q ≠ w.heap.size := fun e => by
        rcases hq3 with h1 | h1
        · exact HX.out.2.2.2.2.1 (e ▸ h1)
        · simp at h1; omega
      have hqd : q ≠ dd := fun e => by
        rcases hq3 with h1 | h1
        · exact HX.out.2.2.1 (e ▸ h1)
        · simp at h1; omega
      have hO4 : Out w3 (w3.setCell ⟨g, 1, none⟩ (.slice (some ⟨q, 0, none⟩) (N.length + 1) cap')) [g] := (Out.refl w3 [g]).put (p := ⟨g, 1, none⟩) (Or.inl (by simp)) _
      have hb4 : BlockIs (w3.setCell ⟨g, 1, none⟩ (.slice (some ⟨q, 0, none⟩) (N.length + 1) cap')) g 41 #[.int .i64 lim, .slice (some ⟨q, 0, none⟩) (N.length + 1) cap', vg] := hb3.put 1 _
      have hlg3 : Lst w3 4 1 vg (Gn.map boolRow) := HR2.out.lg.kept hO3 (fun k hk hm => HX.out.2.2.2.2.2.2 k hm hk)
      have hlg4 := hlg3.kept hO4 (fun k hk hm => HX.out.2.1 (by rw [List.mem_singleton.1 hm] at hk; exact hk))
      have hla4 := hl3.kept hO4 (fun k hk hm => hqg (by rw [List.mem_singleton.1 hm] at hk; simpa [Value.ownBlock] using hk))
      have h64 := hO4.block' h63 (by simpa using hdg)
      have h44 := hO4.block' h43 (by simpa using fun e => hg4 e.symm)
      have hs4 : Out w (w3.setCell ⟨g, 1, none⟩ (.slice (some ⟨q, 0, none⟩) (N.length + 1) cap')) (g :: (blocks (.slice A N.length cap) ++ blocks vg)) := ((Out.of_below hs2 _).then' hO3 (fun k hk => Or.inl (by simp [hk]))).then' hO4 (fun k hk => Or.inl (by rw [List.mem_singleton.1 hk]; simp))
      clear hO4 hO3 hl3 hb3 h63 h43 hlg3 f3 e31 ho3 d1 d6 d7
      generalize w3.setCell ⟨g, 1, none⟩ (.slice (some ⟨q, 0, none⟩) (N.length + 1) cap') = w4 at *
      have HLG4 := Lib.hid hlg4
      have HLA4 := Lib.hid hla4
      have HB4 := Lib.hid hb4
      have H64 := Lib.hid h64
      have H44 := Lib.hid h44
      have HS4 := Lib.hid hs4
      have g1 : w4.cell? ⟨g, 1, none⟩ = some (.slice (some ⟨q, 0, none⟩) (N.length + 1) cap') := hb4.cell 1
      have g2 : w4.cell? ⟨g, 2, none⟩ = some vg := hb4.cell 2
      have lg4 := hb4.lt
      have ld4 := h64.lt
      have l44 := h44.lt
      clear hlg4 hla4 hb4 h64 h44 hs4
      go_wp2_with (at_builtin; refine wpList_push rfl _ _ 39 rfl 4 1 1 Tryd.elBool vg (Gn.map boolRow) rfl (HLG4.out.alloc _) w4.heap.size 1 [.bool false] rfl rfl (boolRow_one false).2 (BlockIs.fresh _ _ _) (by rw [List.length_map, H.out.len]; omega) ?_; intro q5 cap5 w5 hl5 ho5 hq5 hlt5; have hb5 := ho5.block' (HB4.out.alloc _) HX.out.2.1; have h65 := ho5.block' (H64.out.alloc _) HX.out.2.2.2.1; have h45 := ho5.block' (H44.out.alloc _) HX.out.2.2.2.2.2.1; have f5 := hb5.free; have i0 : w5.cell? ⟨g, 0, none⟩ = some (.int .i64 lim) := hb5.cell 0; have i2 : w5.cell? ⟨g, 2, none⟩ = some vg := hb5.cell 2; have j0 : w5.cell? ⟨dd, 0, none⟩ = some (.int .i64 N.length) := h65.cell 0; have j1 : w5.cell? ⟨dd, 1, none⟩ = some (.int .i64 x) := h65.cell 1; have k0 : w5.cell? ⟨w.heap.size, 0, none⟩ = some (.int .i64 0) := h45.cell 0; have k1 : w5.cell? ⟨w.heap.size, 1, none⟩ = some (.int .i64 0) := h45.cell 1; have fd5 := h65.free; have f45 := h45.free; have l65 := h65.lt; have l45 := h45.lt; have lg5 := hb5.lt; clear g1 g2)
      have hgl := H.out.len
      rw [hgl]
      rw [List.length_map, hgl] at hl5
      refine bodyPost_ret (v := .tuple #[oneV ⟨N.length, x⟩, .int .i64 0]) (by simp [results, Tryd.results22, go_sem, k0, k1]) rfl ⟨by rw [HB.out.2.2, E.out], ?_⟩
      rw [HB.out.1, HB.out.2.1]
      have hqv : q ∉ blocks vg := HLA4.out.apart2 HLG4.out (by decide) q (by simp [Value.ownBlock])
      have hla5 := (HLA4.out.alloc (.cells #[.bool false] 4)).kept ho5 (fun k hk hm => hqv (by have : q = k := (by simpa [Value.ownBlock] using hk); rw [this]; exact hm))
      have hq5g : q5 ≠ g := fun e => by have := hl5.apart hb5 (by decide); rw [e] at this; simp [Value.ownBlock] at this
      have hq54 : q5 ≠ w.heap.size := fun e => by have := hl5.apart h45 (by decide); rw [e] at this; simp [Value.ownBlock] at this
      have hO5 : ∀ a b c, Out w5 (((w5.setCell ⟨g, 2, none⟩ a).setCell ⟨w.heap.size, 0, none⟩ b).setCell ⟨w.heap.size, 1, none⟩ c) [g, w.heap.size] := fun a b c => (((Out.refl w5 _).put (p := ⟨g, 2, none⟩) (Or.inl (by simp)) a).put (p := ⟨w.heap.size, 0, none⟩) (Or.inl (by simp)) b).put (p := ⟨w.heap.size, 1, none⟩) (Or.inl (by simp)) c
      refine ⟨.slice (some ⟨q, 0, none⟩) (N.length + 1) cap', .slice (some ⟨q5, 0, none⟩) (N.length + 1) cap5, ⟨((hb5.put 2 _).far hg4 _).far hg4 _, ?_, ?_, by simp [hgl], by simp; omega⟩, ?_, ?_⟩
      · rw [issued_snoc, List.map_append]
        exact hla5.kept (hO5 _ _ _) (fun k hk hm => by
          have hkq : q = k := by simpa [Value.ownBlock] using hk
          simp only [List.mem_cons, List.not_mem_nil, or_false] at hm
          rcases hm with h1 | h1
          · exact hqg (hkq.trans h1)
          · exact hq4 (hkq.trans h1))
      · rw [List.map_append]
        exact hl5.kept (hO5 _ _ _) (fun k hk hm => by
          have hkq : q5 = k := by simpa [Value.ownBlock] using hk
          simp only [List.mem_cons, List.not_mem_nil, or_false] at hm
          rcases hm with h1 | h1
          · exact hq5g (hkq.trans h1)
          · exact hq54 (hkq.trans h1))
      · exact ((HS4.out.alloc _).then' ho5 (fun k hk => Or.inl (by simp [hk]))).then' (hO5 _ _ _) (fun k hk => by
          simp only [List.mem_cons, List.not_mem_nil, or_false] at hk
          rcases hk with h1 | h1
          · exact Or.inl (by simp [h1])
          · exact Or.inr (by rw [h1]; exact Nat.le_refl _))
      · intro k hk
        rcases List.mem_append.1 hk with hk | hk
        · have hkq : q = k := by simpa [Value.ownBlock] using hk
          rw [← hkq]
          rcases hq3 with h1 | h1
          · exact Or.inl (List.mem_append.2 (Or.inl h1))
          · exact Or.inr (by have := hs2.le; simp at h1; omega)
        · have hkq : q5 = k := by simpa [Value.ownBlock] using hk
          rw [← hkq]
          rcases hq5 with h1 | h1
          · exact Or.inl (List.mem_append.2 (Or.inr h1))
          · exact Or.inr (by have := HS4.out.le; simp at h1; omega)
end Go.Proofs.YthnolkbolmbkdaaDoor
