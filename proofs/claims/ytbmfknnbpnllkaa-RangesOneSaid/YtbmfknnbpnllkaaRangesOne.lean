/- RangesOne: for every number the law returns true: a number added to no ranges is one range of one number; added again it changes nothing. No condition. -/
import Derived.Test.YtbmfknnbpnllkaaBase
import Derived.Test.YtbmfknnbpnllkaaMay
import Derived.Test.YtbmfknnbpnllkaaErrV
import Derived.Test.YtbmfknnbpnllkaaOnly
import Derived.Test.YtbmfknnbpnllkaaSince
import Derived.Test.YtbmfknnbpnllkaaRules
import Derived.Test.YtbmfknnbpnllkaaMayB
import Derived.Test.YtbmfknnbpnllkaaOut
import Derived.Test.YtbmfknnbpnllkaaLst
import Derived.Test.YtbmfknnbpnllkaaRng
import Derived.Test.YtbmfknnbpnllkaaIns
import Derived.Test.YtbmfknnbpnllkaaRd
import Derived.Test.YtbmfknnbpnllkaaRngs
import Derived.Test.YtbmfknnbpnllkaaSortLay
import Derived.Test.YtbmfknnbpnllkaaSort
import Derived.Test.YtbmfknnbpnllkaaJoin
import Derived.Test.YtbmfknnbpnllkaaAdd
import Derived.Deep.DeepCutAuto
import Derived.Deep.QuietTactic
import Derived.BigQuiet
import Derived.Test.YtbmfknnbpnllkaaRows
import Derived.WalkKit
import Derived.ProofKit
import Derived.OpenShut
import Derived.ShutString
import Derived.ChangeOld
import Derived.Below
import Derived.Lib.SmallJoins
import Derived.Deep.Slices
import Derived.Deep.Matrix
import Derived.Deep.Strs
namespace Go.Proofs.Ytbmfknnbpnllkaa.rangesOne
open Go.ChangeShapes Go.WideShapes Go.ChangeAt Go.RowKit
open Go.ChangeMaps (open_string shut_string)
set_option linter.unusedVariables false

theorem one_join (x : Int) : joinL [⟨x, x⟩] = [⟨x, x⟩] := rfl
theorem two_join (x : Int) : joinL [⟨x, x⟩, ⟨x, x⟩] = [⟨x, x⟩] := by
  have h1 : jinto [⟨x, x⟩] ⟨x, x⟩ = true := by
    unfold jinto rat
    simp
    omega
  show jstep (jstep [] ⟨x, x⟩) ⟨x, x⟩ = _
  rw [show jstep [] (⟨x, x⟩ : Rng) = [⟨x, x⟩] from rfl, jstep, if_pos h1]
  show [(⟨min x x, x⟩ : Rng)] = _
  rw [Int.min_def, if_pos (Int.le_refl x)]
theorem one_ok {x : Int} (hx : mayB x = true) : rngE [⟨x, x⟩] = 0 := by
  unfold rngE
  rw [if_neg (by simp)]
  show (if (0 : Int) = 0 then rngOne [⟨x, x⟩] 0 else 0) = 0
  rw [if_pos rfl]
  unfold rngOne
  rw [show rat [(⟨x, x⟩ : Rng)] 0 = ⟨x, x⟩ from rfl, if_pos ⟨hx, hx⟩, if_neg (by simp)]
theorem one_in (x : Int) : inB [⟨x, x⟩] x = true := by
  unfold inB rin
  simp
theorem one_cnt (x : Int) : cntL [⟨x, x⟩] = 1 := by
  show (0 : Int) + (x - x + 1) = 1
  omega
theorem perm_one {L : List Rng} {r : Rng} (h : L.Perm ([] ++ [r])) : L = [r] := List.perm_singleton.1 (by simpa using h)
theorem perm_two {L : List Rng} {r : Rng} (h : L.Perm ([r] ++ [r])) : L = [r, r] := by
  have h2 : L.Perm (List.replicate 2 r) := h
  exact List.perm_replicate.1 h2

set_option maxRecDepth 100000 in
set_option maxHeartbeats 8000000 in
theorem walk (x : Int) (w : World) (w0 : (Lit.int .i64 x).wf = true) :
    Calls Try.prog 7 #[.int .i64 x] w fun e w' => e = .returned (.bool true) ∧ Below w.heap.size w w' := by
  have hxb : -9223372036854775808 ≤ x ∧ x ≤ 9223372036854775807 := wf_bounds w0
  clear w0
  cases hx : mayB x with
  | false =>
    have HX := Lib.hid hx
    have hxx : x < 0 ∨ 1073741823 < x := by
      by_cases h1 : 0 ≤ x
      · by_cases h2 : x ≤ 1073741823
        · rw [mayB_iff.2 ⟨h1, h2⟩] at hx; cases hx
        · omega
      · omega
    clear hx
    go_enter Try.func7, Try.ntmps7
    go_wp2_with (go_at_call 23; refine (radd_out none 0 0 [] x _ rfl (by simp) (Rd.nil _ _) rfl HX.out).mono ?_; rintro e w1 ⟨rfl, hb1⟩; rw [show errV 1 = .iface 67 (.int .i64 1) from rfl])
    all_goals
      go_ret
      refine ⟨?_, hb1⟩
      rcases hxx with h | h
      · simp [h]
      · simp [h]
  | true =>
    have HX := Lib.hid hx
    have HOK : Hid (∀ r ∈ [(⟨x, x⟩ : Rng)], okI r.lo ∧ okI r.hi) := Lib.hid (fun r hr => by
      have := mayB_iff.1 hx
      unfold MayBe at this
      rw [List.mem_singleton.1 hr]
      show okI x ∧ okI x
      unfold okI
      omega)
    clear hx
    go_enter Try.func7, Try.ntmps7
    go_wp2_with fail
    refine (radd_ok none 0 0 [] x _ rfl (by simp) (Rd.nil _ _) rfl HX.out).mono ?_
    rintro e w1 ⟨L1, hp1, _, hb1, h1⟩
    obtain rfl := perm_one hp1
    rw [one_join] at h1
    rcases h1 with ⟨h1, _⟩ | ⟨_, A1, c1, rfl, hl1, hk1⟩
    · simp at h1
    rw [show ([(⟨x, x⟩ : Rng)]).length = 1 from rfl, show (!inB [] x) = true from rfl, errV_zero] at *
    have HL1 := Lib.hid hl1
    have hs1 : Since w w1 := hb1
    clear hp1 hl1 hk1 hb1
    go_wp2_with fail
    refine (radd_ok A1 1 c1 [⟨x, x⟩] x _ rfl HOK.out ((Rd.of_lst HL1.out)) (one_ok HX.out) HX.out).mono ?_
    rintro e w2 ⟨L2, hp2, _, hb2, h2⟩
    obtain rfl := perm_two hp2
    rw [two_join] at h2
    rcases h2 with ⟨h2, _⟩ | ⟨_, A2, c2, rfl, hl2, hk2⟩
    · simp at h2
    rw [show ([(⟨x, x⟩ : Rng)]).length = 1 from rfl, one_in, errV_zero] at *
    have HL2 := Lib.hid hl2
    have HL1b := Lib.hid (HL1.out.later hb2)
    have hs2 : Since w w2 := hs1.later hb2
    clear hp2 hl2 hk2 hb2 hs1
    go_wp2_with fail
    refine (rcount A2 1 c2 [⟨x, x⟩] _ rfl HOK.out (Rd.of_lst HL2.out) (one_ok HX.out)).mono ?_
    rintro e w3 ⟨rfl, hb3⟩
    rw [one_cnt, errV_zero]
    have hs3 := hs2.later hb3
    go_wp2_with (go_at_call 25; refine (rngeq A1 A2 c1 c2 1 [⟨x, x⟩] _ rfl (HL1b.out.later hb3) (HL2.out.later hb3) (by omega)).mono ?_; rintro e w4 ⟨rfl, hb4⟩)
    go_ret
    exact ⟨rfl, (by refine Since.out ?_; repeat (first | with_reducible assumption | with_reducible exact Since.refl _ | with_reducible refine Since.later ?_ (by with_reducible assumption) | with_reducible refine Since.only ?_ (by with_reducible assumption) (by first | assumption | omega | (simp; done) | (simp; omega)) | with_reducible refine Since.alloc ?_ _ | with_reducible refine Since.drewN ?_ _ | with_reducible refine Since.drew ?_ | with_reducible refine Since.set ?_ (by first | assumption | omega | (simp; done) | (simp; omega)) _))⟩

/-! the row -/
theorem own : ownKnob Try.prog.godebug = none := by kernel_rfl
theorem laidOut : laidOutB Try.prog = true := by kernel_rfl
set_option maxRecDepth 100000 in
theorem contract (H : Type) (enc : TypeId × Value → H) (W : World) (base : Nat) (args : Array Value) (ds gs : List (DataW H)) (before : List MemPlace)
    (hval : ∀ (j : Nat) t v, Try.f7.params[j]? = some t → args[j]? = some v → Value.okWide Try.prog W .any base t v)
    (hW : DataW.Whole enc Try.prog Try.f7.params.toList Rows.rangesOneSpec.vars false W args.toList ds gs before) :
    Calls Try.prog 7 args W fun e W' => ∃ v, e = .returned v ∧ Rows.rangesOneSpec.post enc Try.prog Try.f7 false true false false W args v W' := by
  have hW' := hW
  obtain ⟨p, q, hA0, hV, rfl, hfz, hnd⟩ := hW
  have hA : DataW.TrodAll enc Try.prog W 0 (fun _ => true) true Try.f7.params.toList args.toList ds p := hA0
  rw [Try.params7] at hA hval
  obtain ⟨v0, vs0, d0, ds0, p0, q0, hargs, rfl, rfl, h0, r0⟩ := trodAll_cons hA
  obtain ⟨rfl, rfl, rfl⟩ := trodAll_nil r0
  obtain rfl : args = #[v0] := by cases args; simp_all
  obtain ⟨rfl, rfl⟩ := trodVars_none hV
  obtain ⟨a0, rfl, rfl, rfl, w0⟩ := open_int Try.underlying3 (hval 0 3 v0 rfl rfl) h0
  refine (walk a0 W w0).mono fun e W' ⟨he, bel⟩ => ?_
  subst he
  exact ⟨_, rfl, _, _, _, [], _, [], hW', trodAll_mk1 (shut_bool Try.underlying4 _), (trodAll_cons_mk (shut_int Try.underlying3 w0) trodAll_mk0), rfl, bel.frame _, fun h => by cases h⟩

set_option maxRecDepth 100000 in
theorem lifted (os : Os) (started : os.Started) (H : Type) (enc : TypeId × Value → H) :
    ReturnsInHanded {} Try.checked os 7 .any (Rows.rangesOneSpec.pre6 enc Try.prog Try.f7 Rows.rangesOneRow.domain false) (Rows.rangesOneSpec.post enc Try.prog Try.f7 false true false false) := by
  refine returnsInHanded_of_change (C := Try.checked) own started (by kernel_rfl) Try.func7
    (ChangeSpec.witness6 (enc := enc) (C := Try.checked) false ⟨#[], #[.int .i64 0], []⟩ 8 (by kernel_rfl) (by kernel_rfl) (by kernel_rfl) (by kernel_rfl)) ?_
  intro W base args ds gs before hval hW _ _
  exact contract H enc W base args ds gs before hval hW

theorem said : Rows.RangesOneSaid :=
  OpenClaim.holds_of_wide 7 Try.f7 rfl rfl rfl rfl rfl rfl rfl ⟨rfl, rfl, rfl, rfl, rfl⟩ rfl rfl rfl rfl rfl (by kernel_rfl) Try.func7 (by kernel_rfl)
    (of_decide_eq_true (by kernel_rfl)) (by unfold Func.isWrapper; first | (rw [if_pos (by decide +kernel)]; kernel_rfl) | (rw [if_neg (by decide +kernel)]; exact ⟨rfl, rfl⟩))
    (fun os started H enc _ => lifted os started H enc)
#print axioms said
end Go.Proofs.Ytbmfknnbpnllkaa.rangesOne
