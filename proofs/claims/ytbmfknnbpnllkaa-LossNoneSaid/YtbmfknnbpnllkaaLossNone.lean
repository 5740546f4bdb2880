/- LossNone: for every packets and times the law returns true: where nothing came nothing is lost, and all is left. No condition. -/
import Derived.Test.YtbmfknnbpnllkaaBase
import Derived.Test.YtbmfknnbpnllkaaMay
import Derived.Test.YtbmfknnbpnllkaaMayB
import Derived.Test.YtbmfknnbpnllkaaErrV
import Derived.Test.YtbmfknnbpnllkaaOnly
import Derived.Test.YtbmfknnbpnllkaaSince
import Derived.Test.YtbmfknnbpnllkaaRules
import Derived.Test.YtbmfknnbpnllkaaOut
import Derived.Test.YtbmfknnbpnllkaaLst
import Derived.Test.YtbmfknnbpnllkaaRng
import Derived.Test.YtbmfknnbpnllkaaIns
import Derived.Test.YtbmfknnbpnllkaaRd
import Derived.Test.YtbmfknnbpnllkaaRngs
import Derived.Test.YtbmfknnbpnllkaaLoss
import Derived.Test.YtbmfknnbpnllkaaDelG
import Derived.Test.YtbmfknnbpnllkaaLeft
import Derived.Test.YtbmfknnbpnllkaaDelF
import Derived.Test.YtbmfknnbpnllkaaLost
import Derived.Test.YtbmfknnbpnllkaaRows
import Derived.WalkKit
import Derived.ProofKit
import Derived.OpenShut
import Derived.ShutString
import Derived.ChangeOld
import Derived.Below
import Derived.Lib.SmallJoins
import Derived.Deep.Slices
import Derived.Deep.Matrix
import Derived.Deep.Strs
namespace Go.Proofs.Ytbmfknnbpnllkaa.lossNone
open Go.ChangeShapes Go.WideShapes Go.ChangeAt Go.RowKit
open Go.ChangeMaps (open_string shut_string)
set_option linter.unusedVariables false

theorem both_none (L : List Snt) : bothE L [] = sntE L := by
  unfold bothE
  by_cases h : sntE L = 0
  · rw [if_pos h, h]; rfl
  · rw [if_neg h]
theorem left_none (L : List Snt) : leftL L [] = L := List.filter_eq_self.2 fun r _ => by simp [inB]
theorem lost_none (L : List Snt) (now wait : Int) : lostL L [] now wait = [] := by
  unfold lostL
  split
  · exact if_pos (show ([] : List Rng).length = 0 from rfl)
  · rfl

set_option maxRecDepth 100000 in
set_option maxHeartbeats 3200000 in
theorem walk (v0 : Value) (L : List Snt) (now wait : Int) (w : World) (w0 : SntsIn w v0 L) (w1 : (Lit.int .i64 now).wf = true) (w2 : (Lit.int .i64 wait).wf = true) :
    Calls Try.prog 5 #[v0, .int .i64 now, .int .i64 wait] w fun e w' => e = .returned (.bool true) ∧ Below w.heap.size w w' := by
  obtain ⟨hb, hr⟩ := w0
  obtain ⟨A, cap, rfl, hz1, hz2, hz3⟩ := id hr.shape
  rw [List.length_map] at hr ⊢
  obtain ⟨n, hn⟩ : ∃ n, L.length = n := ⟨_, rfl⟩
  rw [hn] at hr ⊢
  have HR := Lib.hid hr
  have HN := Lib.hid hn
  clear hz1 hz2 hz3 hr hn w1 w2 hb
  go_enter Try.func5, Try.ntmps5
  go_wp2_with fail
  refine (sLost A n cap L none 0 0 [] now wait _ HN.out HR.out rfl (by simp) (Rd.nil _ 2)).mono ?_
  rintro e w1 ⟨A1, c1, rfl, hl1, hb1⟩
  have hs1 : Since w w1 := hb1
  rw [lost_none] at hl1 ⊢
  clear hl1
  by_cases he : lostE L [] now wait = 0
  case neg =>
    rw [errV_pos he]
    unfold lostE at he
    rw [both_none] at he
    by_cases hs : sntE L = 0
    · rw [if_pos hs] at he
      have hc : now < 0 ∨ 100000 < now ∨ wait < 1 ∨ 100000 < wait := by
        by_cases hc : now < 0 ∨ 100000 < now ∨ wait < 1 ∨ 100000 < wait
        · exact hc
        · rw [if_neg hc] at he; exact absurd rfl he
      have HS := Lib.hid hs
      clear he hs
      go_wp2_with fail
      refine (scheck A n cap L _ HN.out (HR.out.later hs1)).mono ?_
      rintro e w2 ⟨rfl, hb2⟩
      rw [HS.out, errV_zero]
      rcases hc with t1 | t1 | t1 | t1
      · go_wp2_with fail
        go_ret
        exact ⟨by first | rfl | simp, (by refine Since.out ?_; repeat (first | with_reducible assumption | with_reducible exact Since.refl _ | with_reducible refine Since.later ?_ (by with_reducible assumption) | with_reducible refine Since.only ?_ (by with_reducible assumption) (by first | assumption | omega | (simp; done) | (simp; omega)) | with_reducible refine Since.alloc ?_ _ | with_reducible refine Since.drewN ?_ _ | with_reducible refine Since.drew ?_ | with_reducible refine Since.set ?_ (by first | assumption | omega | (simp; done) | (simp; omega)) _))⟩
      · have t0 : decide (now < 0) = false := by simp; omega
        go_wp2_with fail
        go_ret
        exact ⟨by first | rfl | simp, (by refine Since.out ?_; repeat (first | with_reducible assumption | with_reducible exact Since.refl _ | with_reducible refine Since.later ?_ (by with_reducible assumption) | with_reducible refine Since.only ?_ (by with_reducible assumption) (by first | assumption | omega | (simp; done) | (simp; omega)) | with_reducible refine Since.alloc ?_ _ | with_reducible refine Since.drewN ?_ _ | with_reducible refine Since.drew ?_ | with_reducible refine Since.set ?_ (by first | assumption | omega | (simp; done) | (simp; omega)) _))⟩
      · by_cases t2 : now < 0
        · go_wp2_with fail
          go_ret
          exact ⟨by first | rfl | simp, (by refine Since.out ?_; repeat (first | with_reducible assumption | with_reducible exact Since.refl _ | with_reducible refine Since.later ?_ (by with_reducible assumption) | with_reducible refine Since.only ?_ (by with_reducible assumption) (by first | assumption | omega | (simp; done) | (simp; omega)) | with_reducible refine Since.alloc ?_ _ | with_reducible refine Since.drewN ?_ _ | with_reducible refine Since.drew ?_ | with_reducible refine Since.set ?_ (by first | assumption | omega | (simp; done) | (simp; omega)) _))⟩
        have t2' : decide (now < 0) = false := by simpa using t2
        by_cases t3 : 100000 < now
        · clear t2
          go_wp2_with fail
          go_ret
          exact ⟨by first | rfl | simp, (by refine Since.out ?_; repeat (first | with_reducible assumption | with_reducible exact Since.refl _ | with_reducible refine Since.later ?_ (by with_reducible assumption) | with_reducible refine Since.only ?_ (by with_reducible assumption) (by first | assumption | omega | (simp; done) | (simp; omega)) | with_reducible refine Since.alloc ?_ _ | with_reducible refine Since.drewN ?_ _ | with_reducible refine Since.drew ?_ | with_reducible refine Since.set ?_ (by first | assumption | omega | (simp; done) | (simp; omega)) _))⟩
        have t3' : decide (100000 < now) = false := by simpa using t3
        clear t2 t3
        go_wp2_with fail
        go_ret
        exact ⟨by first | rfl | simp, (by refine Since.out ?_; repeat (first | with_reducible assumption | with_reducible exact Since.refl _ | with_reducible refine Since.later ?_ (by with_reducible assumption) | with_reducible refine Since.only ?_ (by with_reducible assumption) (by first | assumption | omega | (simp; done) | (simp; omega)) | with_reducible refine Since.alloc ?_ _ | with_reducible refine Since.drewN ?_ _ | with_reducible refine Since.drew ?_ | with_reducible refine Since.set ?_ (by first | assumption | omega | (simp; done) | (simp; omega)) _))⟩
      · by_cases t2 : now < 0
        · go_wp2_with fail
          go_ret
          exact ⟨by first | rfl | simp, (by refine Since.out ?_; repeat (first | with_reducible assumption | with_reducible exact Since.refl _ | with_reducible refine Since.later ?_ (by with_reducible assumption) | with_reducible refine Since.only ?_ (by with_reducible assumption) (by first | assumption | omega | (simp; done) | (simp; omega)) | with_reducible refine Since.alloc ?_ _ | with_reducible refine Since.drewN ?_ _ | with_reducible refine Since.drew ?_ | with_reducible refine Since.set ?_ (by first | assumption | omega | (simp; done) | (simp; omega)) _))⟩
        have t2' : decide (now < 0) = false := by simpa using t2
        by_cases t3 : 100000 < now
        · clear t2
          go_wp2_with fail
          go_ret
          exact ⟨by first | rfl | simp, (by refine Since.out ?_; repeat (first | with_reducible assumption | with_reducible exact Since.refl _ | with_reducible refine Since.later ?_ (by with_reducible assumption) | with_reducible refine Since.only ?_ (by with_reducible assumption) (by first | assumption | omega | (simp; done) | (simp; omega)) | with_reducible refine Since.alloc ?_ _ | with_reducible refine Since.drewN ?_ _ | with_reducible refine Since.drew ?_ | with_reducible refine Since.set ?_ (by first | assumption | omega | (simp; done) | (simp; omega)) _))⟩
        have t3' : decide (100000 < now) = false := by simpa using t3
        have t4' : decide (wait < 1) = false := by simp; omega
        clear t2 t3
        go_wp2_with fail
        go_ret
        exact ⟨by first | rfl | simp, (by refine Since.out ?_; repeat (first | with_reducible assumption | with_reducible exact Since.refl _ | with_reducible refine Since.later ?_ (by with_reducible assumption) | with_reducible refine Since.only ?_ (by with_reducible assumption) (by first | assumption | omega | (simp; done) | (simp; omega)) | with_reducible refine Since.alloc ?_ _ | with_reducible refine Since.drewN ?_ _ | with_reducible refine Since.drew ?_ | with_reducible refine Since.set ?_ (by first | assumption | omega | (simp; done) | (simp; omega)) _))⟩
    · have HS := Lib.hid (errV_pos hs)
      clear he hs
      go_wp2_with fail
      refine (scheck A n cap L _ HN.out (HR.out.later hs1)).mono ?_
      rintro e w2 ⟨rfl, hb2⟩
      rw [HS.out]
      go_wp2_with fail
      go_ret
      exact ⟨by first | rfl | simp, (by refine Since.out ?_; repeat (first | with_reducible assumption | with_reducible exact Since.refl _ | with_reducible refine Since.later ?_ (by with_reducible assumption) | with_reducible refine Since.only ?_ (by with_reducible assumption) (by first | assumption | omega | (simp; done) | (simp; omega)) | with_reducible refine Since.alloc ?_ _ | with_reducible refine Since.drewN ?_ _ | with_reducible refine Since.drew ?_ | with_reducible refine Since.set ?_ (by first | assumption | omega | (simp; done) | (simp; omega)) _))⟩
  have hs : bothE L [] = 0 := by
    unfold lostE at he
    by_cases hs : bothE L [] = 0
    · exact hs
    · rw [if_neg hs] at he; exact absurd he hs
  have HL : Hid (leftR L [] = L) := Lib.hid (by unfold leftR; rw [if_pos hs, left_none])
  have HS := Lib.hid hs
  rw [he, errV_zero]
  clear he hs
  go_wp2_with fail
  refine (sLeft A n cap L none 0 0 [] _ HN.out (HR.out.later hs1) rfl (by simp) (Rd.nil _ 2)).mono ?_
  rintro e w2 ⟨A2, c2, rfl, hr2, hb2⟩
  rw [HL.out] at hr2 ⊢
  rw [HS.out, errV_zero]
  rw [HN.out] at hr2 ⊢
  have HR2 := Lib.hid hr2
  have hs2 := hs1.later hb2
  clear hr2
  go_wp2_with fail
  refine (sntEq A2 A c2 cap n L _ HN.out HR2.out (HR.out.later hs2)).mono ?_
  rintro e w3 ⟨rfl, hb3⟩
  go_wp2_with fail
  go_ret
  exact ⟨by first | rfl | simp, (by refine Since.out ?_; repeat (first | with_reducible assumption | with_reducible exact Since.refl _ | with_reducible refine Since.later ?_ (by with_reducible assumption) | with_reducible refine Since.only ?_ (by with_reducible assumption) (by first | assumption | omega | (simp; done) | (simp; omega)) | with_reducible refine Since.alloc ?_ _ | with_reducible refine Since.drewN ?_ _ | with_reducible refine Since.drew ?_ | with_reducible refine Since.set ?_ (by first | assumption | omega | (simp; done) | (simp; omega)) _))⟩

/-! the row -/
theorem own : ownKnob Try.prog.godebug = none := by kernel_rfl
theorem laidOut : laidOutB Try.prog = true := by kernel_rfl
set_option maxRecDepth 100000 in
theorem contract (H : Type) (enc : TypeId × Value → H) (W : World) (base : Nat) (args : Array Value) (ds gs : List (DataW H)) (before : List MemPlace)
    (hval : ∀ (j : Nat) t v, Try.f5.params[j]? = some t → args[j]? = some v → Value.okWide Try.prog W .any base t v)
    (hW : DataW.Whole enc Try.prog Try.f5.params.toList Rows.lossNoneSpec.vars false W args.toList ds gs before) :
    Calls Try.prog 5 args W fun e W' => ∃ v, e = .returned v ∧ Rows.lossNoneSpec.post enc Try.prog Try.f5 false true false false W args v W' := by
  have hW' := hW
  obtain ⟨p, q, hA0, hV, rfl, hfz, hnd⟩ := hW
  have hA : DataW.TrodAll enc Try.prog W 0 (fun _ => true) true Try.f5.params.toList args.toList ds p := hA0
  rw [Try.params5] at hA hval
  obtain ⟨v0, vs0, d0, ds0, p0, q0, hargs, rfl, rfl, h0, r0⟩ := trodAll_cons hA
  obtain ⟨v1, vs1, d1, ds1, p1, q1, rfl, rfl, rfl, h1, r1⟩ := trodAll_cons r0
  obtain ⟨v2, vs2, d2, ds2, p2, q2, rfl, rfl, rfl, h2, r2⟩ := trodAll_cons r1
  obtain ⟨rfl, rfl, rfl⟩ := trodAll_nil r2
  obtain rfl : args = #[v0, v1, v2] := by cases args; simp_all
  obtain ⟨rfl, rfl⟩ := trodVars_none hV
  obtain ⟨a0, len0, cap0, rfl⟩ := okWide_slice Try.underlying45 (hval 0 45 v0 rfl rfl)
  have k0 := h0
  have lt0 : ∀ x ∈ p0, x.block < W.heap.size := by obtain ⟨m, hm⟩ := k0; exact DataW.trod_lt m _ _ _ hm
  obtain ⟨z0, w0⟩ : ∃ zs, SntsIn W (.slice a0 len0 cap0) zs := by
    obtain ⟨fuel, hf⟩ := h0
    exact sntsIn_open Try.underlying45 Try.underlying54 (by kernel_rfl) rfl rfl rfl (by kernel_rfl) (by kernel_rfl) (by kernel_rfl) Try.underlying3 Try.underlying3 Try.underlying3 hf
  obtain ⟨a1, rfl, rfl, rfl, w1⟩ := open_int Try.underlying3 (hval 1 3 v1 rfl rfl) h1
  obtain ⟨a2, rfl, rfl, rfl, w2⟩ := open_int Try.underlying3 (hval 2 3 v2 rfl rfl) h2
  refine (walk (.slice a0 len0 cap0) z0 a1 a2 W w0 w1 w2).mono fun e W' ⟨he, bel⟩ => ?_
  subst he
  exact ⟨_, rfl, _, _, _, [], _, [], hW', trodAll_mk1 (shut_bool Try.underlying4 _), (trodAll_cons_mk (Below.trod laidOut (by kernel_rfl) (of_decide_eq_true (by kernel_rfl)) k0 bel lt0) (trodAll_cons_mk (shut_int Try.underlying3 w1) (trodAll_cons_mk (shut_int Try.underlying3 w2) trodAll_mk0))), rfl, bel.frame _, fun h => by cases h⟩

set_option maxRecDepth 100000 in
theorem lifted (os : Os) (started : os.Started) (H : Type) (enc : TypeId × Value → H) :
    ReturnsInHanded {} Try.checked os 5 .any (Rows.lossNoneSpec.pre6 enc Try.prog Try.f5 Rows.lossNoneRow.domain false) (Rows.lossNoneSpec.post enc Try.prog Try.f5 false true false false) := by
  refine returnsInHanded_of_change (C := Try.checked) own started (by kernel_rfl) Try.func5
    (ChangeSpec.witness6 (enc := enc) (C := Try.checked) false ⟨#[], #[.slice none 0 0, .int .i64 0, .int .i64 0], []⟩ 8 (by kernel_rfl) (by kernel_rfl) (by kernel_rfl) (by kernel_rfl)) ?_
  intro W base args ds gs before hval hW _ _
  exact contract H enc W base args ds gs before hval hW

theorem said : Rows.LossNoneSaid :=
  OpenClaim.holds_of_wide 5 Try.f5 rfl rfl rfl rfl rfl rfl rfl ⟨rfl, rfl, rfl, rfl, rfl⟩ rfl rfl rfl rfl rfl (by kernel_rfl) Try.func5 (by kernel_rfl)
    (of_decide_eq_true (by kernel_rfl)) (by unfold Func.isWrapper; first | (rw [if_pos (by decide +kernel)]; kernel_rfl) | (rw [if_neg (by decide +kernel)]; exact ⟨rfl, rfl⟩))
    (fun os started H enc _ => lifted os started H enc)
#print axioms said
end Go.Proofs.Ytbmfknnbpnllkaa.lossNone
