/- ranges.Joined of none; contracts of ranges.Has and ranges.Both. Condition: the slices can be read. -/
import Derived.Test.YtjjmoaaongnjiaaGreatDoorConcat
namespace Go.Proofs.YtjjmoaaongnjiaaGreatDoor
open Go.ChangeShapes Go.WideShapes Go.ChangeAt Go.RowKit
set_option linter.unusedVariables false

theorem rbits (w : World) : Calls Tryz.prog 55 #[.int .u64 0] w fun e w' => e = .returned (.int .i64 0) ∧ w' = w := by
  have h := Any.bits_Len (SlLaysF0.n15.bits (P := Tryz.prog) (ρ := laysSort_ren) { laysSort with }) 0 w (by omega) (by omega)
  exact h
theorem rins_nil (c : Nat) (w : World) : Calls Tryz.prog 71 #[.slice none 0 c, .int .i64 0, .int .i64 0, .func (Fn.func 40) #[] #[]] w fun e w' => e = .returned (.tuple #[]) ∧ w = w' := by
  go_enter Tryz.func71, Tryz.ntmps71
  go_wp2_with fail
  refine wp_loop_rounds 1 ?_
  rw [rounds_succ]
  go_wp2_with fail
  go_end0
  exact ⟨rfl, rfl⟩
set_option maxHeartbeats 1600000 in
theorem rpdq_nil (c : Nat) (w : World) : Calls Tryz.prog 54 #[.slice none 0 c, .int .i64 0, .int .i64 0, .int .i64 0, .func (Fn.func 40) #[] #[]] w fun e w' => e = .returned (.tuple #[]) ∧ Below w.heap.size w w' := by
  go_enter Tryz.func54, Tryz.ntmps54
  go_wp2_with fail
  refine wp_loop_rounds 1 ?_
  rw [rounds_succ]
  go_wp2_with (go_at_call 71; refine (rins_nil c _).mono ?_; rintro e w1 ⟨rfl, rfl⟩)
  (try simp only [Exit.inBlock, Exit.then]); refine bodyPost_ret (results_none rfl _ _ _) rfl ?_
  exact ⟨rfl, (by refine Since.out ?_; repeat (first | with_reducible assumption | with_reducible exact Since.refl _ | with_reducible refine Since.later ?_ (by with_reducible assumption) | with_reducible refine Since.only ?_ (by with_reducible assumption) (by first | assumption | omega | (simp; done) | (simp; omega)) | with_reducible refine Since.alloc ?_ _ | with_reducible refine Since.drewN ?_ _ | with_reducible refine Since.drew ?_ | with_reducible refine Since.set ?_ (by first | assumption | omega | (simp; done) | (simp; omega)) _))⟩
theorem rsort_nil (c : Nat) (w : World) : Calls Tryz.prog 39 #[.slice none 0 c, .func (Fn.func 40) #[] #[]] w fun e w' => e = .returned (.tuple #[]) ∧ Below w.heap.size w w' := by
  go_enter Tryz.func39, Tryz.ntmps39
  go_wp2_with (first | (go_at_call 55; refine (rbits _).mono ?_; rintro e w1 ⟨rfl, rfl⟩) | (go_at_call 54; refine (rpdq_nil c _).mono ?_; rintro e w2 ⟨rfl, hb2⟩))
  go_end0
  exact ⟨rfl, (by refine Since.out ?_; repeat (first | with_reducible assumption | with_reducible exact Since.refl _ | with_reducible refine Since.later ?_ (by with_reducible assumption) | with_reducible refine Since.only ?_ (by with_reducible assumption) (by first | assumption | omega | (simp; done) | (simp; omega)) | with_reducible refine Since.alloc ?_ _ | with_reducible refine Since.drewN ?_ _ | with_reducible refine Since.drew ?_ | with_reducible refine Since.set ?_ (by first | assumption | omega | (simp; done) | (simp; omega)) _))⟩

set_option maxHeartbeats 3200000 in
set_option maxRecDepth 100000 in
theorem rjoined0 (A : Option Addr) (cap : Nat) (w : World) (h : Rd w 2 (.slice A 0 cap) []) :
    Calls Tryz.prog 30 #[.slice A 0 cap] w fun e w' => e = .returned (.slice none 0 0) ∧ Below w.heap.size w w' := by
  have H : Hid (Rd w 2 (.slice A 0 cap) (([] : List Rng).map rngRow)) := Lib.hid h
  clear h
  have hz : decide ((0 : Int) < 0) = false := by simp
  go_enter Tryz.func30, Tryz.ntmps30
  go_wp2_with (go_at_call 24; refine (rclone A 0 cap [] _ rfl (by omega) H.out).mono ?_; rintro e w1 ⟨A1, c1, rfl, hl1, hb1, hk1⟩)
  obtain ⟨w2, hs2, hcall⟩ : ∃ _ : Unit, True ∧ Calls Tryz.prog 39 #[.slice A1 0 c1, .func (Fn.func 40) #[] #[]] w1 fun e w' => e = .returned (.tuple #[]) ∧ Below w.heap.size w w' := by
    refine ⟨(), trivial, ?_⟩
    cases A1 with
    | none => exact (rsort_nil c1 w1).mono fun e w' ⟨he, hb⟩ => ⟨he, (show Since w w1 from hb1).later hb⟩
    | some ad =>
      obtain ⟨A2, c2, hv, _, _, hA⟩ := hl1.shape
      simp only [Value.slice.injEq] at hv
      rcases hA with ⟨h3, _, _⟩ | ⟨g, hg⟩
      · rw [← hv.1] at h3; cases h3
      · rw [hg] at hv
        obtain ⟨hv1, _, _⟩ := hv
        rw [hv1] at hl1 hk1 ⊢
        refine (rsort g 0 c1 [] w1 rfl (by simp) hl1 (by omega)).mono ?_
        rintro e w' ⟨he, _, _, _, _, ho⟩
        exact ⟨he, ho.below hb1 hb1.size (fun k hk => by rw [List.mem_singleton.1 hk]; exact hk1 g (by simp [Value.ownBlock]))⟩
  refine hcall.mono ?_
  rintro e w3 ⟨rfl, hb3⟩
  have HB3 := Lib.hid hb3
  clear hs2 hcall hl1 hb1 hk1 hb3
  go_wp2_with fail
  refine wp_loop_rounds 1 ?_
  rw [rounds_succ]
  go_wp2_with fail
  go_ret
  exact ⟨rfl, HB3.out⟩

def hasE (L : List Rng) (x : Int) : Int := if mayB x = true then rngE L else 1
set_option maxHeartbeats 3200000 in
set_option maxRecDepth 100000 in
theorem rhas (A : Option Addr) (n cap : Nat) (L : List Rng) (x : Int) (w : World) (hn : L.length = n) (hb : ∀ r ∈ L, okI r.lo ∧ okI r.hi) (h : Rd w 2 (.slice A n cap) (L.map rngRow)) :
    Calls Tryz.prog 26 #[.slice A n cap, .int .i64 x] w fun e w' => e = .returned (.tuple #[.bool (decide (hasE L x = 0) && inB L x), errV (hasE L x)]) ∧ Below w.heap.size w w' := by
  have H := Lib.hid h
  have HN := Lib.hid hn
  have HB := Lib.hid hb
  clear h hn hb
  cases hx : mayB x with
  | false =>
    have e1 : hasE L x = 1 := by unfold hasE; rw [hx]; rfl
    rw [e1]
    have HX := Lib.hid hx
    clear hx e1
    go_enter Tryz.func26, Tryz.ntmps26
    go_wp2_with (go_at_call 28; refine (may_any x _).mono ?_; rintro e w2 ⟨rfl, rfl⟩; rw [HX.out])
    go_ret2
    exact ⟨rfl, (by refine Since.out ?_; repeat (first | with_reducible assumption | with_reducible exact Since.refl _ | with_reducible refine Since.later ?_ (by with_reducible assumption) | with_reducible refine Since.only ?_ (by with_reducible assumption) (by first | assumption | omega | (simp; done) | (simp; omega)) | with_reducible refine Since.alloc ?_ _ | with_reducible refine Since.drewN ?_ _ | with_reducible refine Since.drew ?_ | with_reducible refine Since.set ?_ (by first | assumption | omega | (simp; done) | (simp; omega)) _))⟩
  | true =>
    have e1 : hasE L x = rngE L := by unfold hasE; rw [hx]; rfl
    rw [e1]
    have HX := Lib.hid hx
    clear hx e1
    by_cases hE : rngE L = 0
    · rw [hE, errV_zero]
      have HE := Lib.hid hE
      clear hE
      go_enter Tryz.func26, Tryz.ntmps26
      go_wp2_with (first | (go_at_call 28; refine (may_any x _).mono ?_; rintro e w2 ⟨rfl, rfl⟩; rw [HX.out]) | (go_at_call 27; refine (rcheck A n cap L _ HN.out HB.out H.out).mono ?_; rintro e w1 ⟨rfl, hb1⟩; rw [HE.out, errV_zero]) | (go_at_call 31; refine (rin_any A n cap L x _ HN.out (H.out.later hb1)).mono ?_; rintro e w7 ⟨rfl, hb7⟩))
      go_ret2
      exact ⟨by simp, (show Since w w1 from hb1).later hb7⟩
    · rw [errV_pos hE]
      have HE := Lib.hid hE
      have hd : decide (rngE L = 0) = false := by simpa using hE
      rw [hd]
      clear hE hd
      go_enter Tryz.func26, Tryz.ntmps26
      go_wp2_with (first | (go_at_call 28; refine (may_any x _).mono ?_; rintro e w2 ⟨rfl, rfl⟩; rw [HX.out]) | (go_at_call 27; refine (rcheck A n cap L _ HN.out HB.out H.out).mono ?_; rintro e w1 ⟨rfl, hb1⟩; rw [errV_pos HE.out]))
      go_ret2
      exact ⟨rfl, hb1⟩
end Go.Proofs.YtjjmoaaongnjiaaGreatDoor
