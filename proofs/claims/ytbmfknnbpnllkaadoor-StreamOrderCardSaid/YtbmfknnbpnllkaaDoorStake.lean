/- Contract of package stream's Take. Condition: the block holds a stream as New and the calls leave it. -/
import Derived.Test.YtbmfknnbpnllkaaDoorStrm
import Derived.Test.YtbmfknnbpnllkaaDoorConv
import Derived.Deep.RegionLaw
import Derived.Deep.DeepCutAuto
namespace Go.Proofs.YtbmfknnbpnllkaaDoor
open Go.ChangeShapes Go.WideShapes Go.ChangeAt Go.RowKit
set_option linter.unusedVariables false

def takeE (x : Int) : Int := if x < 0 then 1 else 0
def takeS (M : Plc) (t : Nat) (x : Int) : ByteArray := ⟨(cutL M t (takeK M t x)).toArray⟩
theorem takeK_neg {M : Plc} {t : Nat} {x : Int} (h : x < 0) : takeK M t x = 0 := by unfold takeK; omega
theorem takeS_neg {M : Plc} {t : Nat} {x : Int} (h : x < 0) : takeS M t x = ⟨#[]⟩ := by unfold takeS; rw [takeK_neg h]; rfl

set_option maxHeartbeats 1600000 in
set_option maxRecDepth 100000 in
theorem stake (g : Nat) (M : Plc) (t : Nat) (x : Int) (w : World) (h : Sz w g M t) :
    Calls Tryd.prog 12 #[.pointer (some ⟨g, 0, none⟩), .int .i64 x] w fun e w' => e = .returned (.tuple #[.string (takeS M t x), errV (takeE x)]) ∧ Sz w' g M (t + takeK M t x) ∧ Out w w' [g] := by
  have H := Lib.hid h
  have ht := h.most
  have lg := h.bl.lt
  have c0 := h.taken
  have f0 := h.bl.free
  have hr := readyN_le M t ht
  clear h
  by_cases hx : x < 0
  · have E : Hid (takeE x = 1) := Lib.hid (by unfold takeE; rw [if_pos hx])
    have ES := Lib.hid (takeS_neg (M := M) (t := t) hx)
    have EK := Lib.hid (takeK_neg (M := M) (t := t) hx)
    go_enter Tryd.func12, Tryd.ntmps12
    go_wp2_with fail
    go_ret2
    exact ⟨by rw [E.out, ES.out]; rfl, by rw [EK.out]; exact H.out, Out.refl _ _⟩
  have E : Hid (takeE x = 0) := Lib.hid (by unfold takeE; rw [if_neg hx])
  obtain ⟨k, hk⟩ : ∃ k, takeK M t x = k := ⟨_, rfl⟩
  have hkr : k ≤ readyN M t := by rw [← hk]; unfold takeK; omega
  have hmin : Hid ((if (readyN M t : Int) < x then (readyN M t : Int) else x) = (k : Int)) := Lib.hid (by rw [← hk]; unfold takeK; split <;> omega)
  have HK := Lib.hid hk
  have hx' : decide (x < 0) = false := by simpa using hx
  have htk : t + k ≤ 60 := by omega
  clear hk
  go_enter Tryd.func12, Tryd.ntmps12
  go_wp2_with fail
  have hF : ∀ w1 : World, Sz w1 g M t → w1.cell? ⟨g, 120, none⟩ = some (.int .i64 (t : Int)) ∧ (∀ i, w1.frozen? ⟨g, i, none⟩ = false) ∧ g < w1.heap.size := fun w1 h => ⟨h.taken, h.bl.free, h.bl.lt⟩
  have hm1 := hmin.out
  have hw : IntKind.i64.wrap ((t : Int) + (k : Int)) = ((t + k : Nat) : Int) := by rw [IntWalk.i64_in _ (by omega)]; rfl
  go_region_law (first | (go_simp; go_at_call 14; refine (sready g M t _ ?_).mono ?_; (first | exact H.out | exact H.out.drewN 1); rintro e w1 ⟨rfl, hb1⟩; have hs1 : Since w w1 := (by first | exact (Since.refl w).later hb1 | exact (Since.refl w).drew.later hb1); obtain ⟨d0, fz, ld⟩ := hF w1 (H.out.later hs1)))
  all_goals
    have HZ : Hid (Sz (w1.setCell ⟨g, 120, none⟩ (.int .i64 ((t : Int) + (k : Int)))) g M (t + k)) := Lib.hid ((H.out.later hs1).take htk)
    have HO : Hid (Out w (w1.setCell ⟨g, 120, none⟩ (.int .i64 ((t : Int) + (k : Int)))) [g]) := Lib.hid ((Out.of_below hs1 [g]).put (p := ⟨g, 120, none⟩) (Or.inl (by simp)) _)
    clear d0 fz ld
    generalize w1.setCell ⟨g, 120, none⟩ (.int .i64 ((t : Int) + (k : Int))) = w2 at *
    have d0 : w2.cell? ⟨g, 120, none⟩ = some (.int .i64 ((t : Int) + (k : Int))) := HZ.out.taken
    have ld := HZ.out.bl.lt
    have hcv : ∀ c n, (convert 99 9 (.slice (some ⟨g, 60 + t, none⟩) k c)).run Tryd.prog (w2.drewN n) = .ok (.string (takeS M t x)) (w2.drewN n) := by
      intro c n
      have h1 := conv_at (W := w2.drewN n) (g := g) (o := 60 + t) (n := k) (c := c) (bs := cutL M t k) (cutL_len M t k) (fun j b hj => by
        have hjk : j < k := by
          have := (List.getElem?_eq_some_iff.1 hj).1
          rw [cutL_len] at this
          exact this
        rw [cutL_get hjk] at hj
        have h2 := (HZ.out.drewN n).by_ (i := t + j) (by omega)
        rw [Option.some.inj hj] at h2
        rw [Nat.add_assoc]
        exact h2)
      rw [h1]
      unfold takeS
      rw [HK.out]
    have hE : ∀ n, (convert 99 9 (.slice (some (if 60 = t then (⟨g, 60, none⟩ : Addr) else ⟨g, 60 + t, none⟩)) (t + k - t) (60 - t))).run Tryd.prog (w2.drewN n) = .ok (.string (takeS M t x)) (w2.drewN n) := by
      intro n
      rw [Nat.add_sub_cancel_left]
      by_cases h60 : 60 = t
      · have hk0 : k = 0 := by omega
        have h1 := conv_at (W := w2.drewN n) (g := g) (o := 60) (n := 0) (c := 60 - t) (bs := []) rfl (fun j b hj => by simp at hj)
        have e1 : takeS M t x = ⟨#[]⟩ := by unfold takeS; rw [HK.out, hk0]; rfl
        rw [e1, hk0, if_pos h60]
        exact h1
      · rw [if_neg h60]
        exact hcv _ n
    have hc0 : (convert 99 9 (.slice (some (if 60 = t then (⟨g, 60, none⟩ : Addr) else ⟨g, 60 + t, none⟩)) (t + k - t) (60 - t))).run Tryd.prog w2 = .ok (.string (takeS M t x)) w2 := hE 0
    have hc1 : (convert 99 9 (.slice (some (if 60 = t then (⟨g, 60, none⟩ : Addr) else ⟨g, 60 + t, none⟩)) (t + k - t) (60 - t))).run Tryd.prog w2.drew = .ok (.string (takeS M t x)) w2.drew := hE 1
    have hc2 : (convert 99 9 (.slice (some (if 60 = t then (⟨g, 60, none⟩ : Addr) else ⟨g, 60 + t, none⟩)) (((t : Int) + (k : Int)).toNat - t) (60 - t))).run Tryd.prog w2 = .ok (.string (takeS M t x)) w2 := hE 0
    have hc3 : (convert 99 9 (.slice (some (if 60 = t then (⟨g, 60, none⟩ : Addr) else ⟨g, 60 + t, none⟩)) (((t : Int) + (k : Int)).toNat - t) (60 - t))).run Tryd.prog w2.drew = .ok (.string (takeS M t x)) w2.drew := hE 1
    have hs0 : (0 : Int) ≤ (t : Int) := by omega
    have hs1 : (t : Int) ≤ (t : Int) + (k : Int) := by omega
    have hs2 : (t : Int) + (k : Int) ≤ 60 := by omega
    clear hcv hE
    go_wp2_with fail
    go_region
    all_goals
      go_wp2_with fail
    all_goals
      go_ret2
      exact ⟨by rw [E.out]; rfl, by rw [HK.out]; exact ⟨HZ.out.bl, HZ.out.len, HZ.out.most⟩, by first | exact HO.out | exact HO.out.drew⟩
end Go.Proofs.YtbmfknnbpnllkaaDoor
