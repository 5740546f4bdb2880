/- LinkMany: for every two numbers the law returns true: forty letters, and no more. Condition: errors.errorType holds its handle (the row lists it, the card ties it). -/
import Derived.Test.YtbmfknnbpnllkaaDoorBase
import Derived.Test.YtbmfknnbpnllkaaDoorTold
import Derived.Test.YtbmfknnbpnllkaaDoorLaid
import Derived.Test.YtbmfknnbpnllkaaDoorOnly
import Derived.Test.YtbmfknnbpnllkaaDoorSince
import Derived.Test.YtbmfknnbpnllkaaDoorRules
import Derived.Test.YtbmfknnbpnllkaaDoorOut
import Derived.Test.YtbmfknnbpnllkaaDoorLst
import Derived.Test.YtbmfknnbpnllkaaDoorDelG
import Derived.Test.YtbmfknnbpnllkaaDoorLnk
import Derived.Deep.DeepCutAuto
import Derived.Test.YtbmfknnbpnllkaaDoorCards
import Derived.Test.YtbmfknnbpnllkaaDoorTie
import Derived.Deep.DeepHandedRow
import Derived.LaidLaws
import Derived.LaidHandle
import Derived.Deep.DeepWitnessRowRef
import Derived.Test.YtbmfknnbpnllkaaDoorRows
import Derived.WalkKit
import Derived.ProofKit
import Derived.OpenShut
import Derived.ShutString
import Derived.ChangeOld
import Derived.Below
import Derived.Lib.SmallJoins
import Derived.Deep.Slices
import Derived.Deep.Matrix
import Derived.Deep.Strs
namespace Go.Proofs.YtbmfknnbpnllkaaDoor.linkMany
open Go.ChangeShapes Go.WideShapes Go.ChangeAt Go.RowKit
open Go.ChangeMaps (open_string shut_string)
set_option linter.unusedVariables false

noncomputable abbrev laidWorld := YtbmfknnbpnllkaaDoor.laidWorld
theorem laidMetW (os : Os) (args : Array Value) : laidMetH Tryd.prog Rows.linkManyRow.laid ((laidWorld os).forCall (fun _ _ => 0) ⟨#[], args, []⟩).memory := laidMet_et os args
theorem laidWalk {W : World} (h : laidMetH Tryd.prog Rows.linkManyRow.laid W) : ETok W := laid_et h
theorem knext {w wr wx : World} {g : Nat} {v : Value} {L : List Let} (hs : Since w wr) (hn : ∀ k, k ∈ g :: blocks v → w.heap.size ≤ k) (h : KLeft wr wx g v L) : Since w wx ∧ ∃ v', Kz wx g v' L ∧ ∀ k, k ∈ g :: blocks v' → w.heap.size ≤ k := by
  obtain ⟨v', hz, ho, hk⟩ := h
  refine ⟨hs.out' ho hn, v', hz, fun k hm => ?_⟩
  rcases List.mem_cons.1 hm with rfl | hm
  · exact hn _ (by simp)
  · rcases hk k hm with h1 | h1
    · exact hn k (List.mem_cons_of_mem _ h1)
    · exact Nat.le_trans hs.le h1
theorem same_at (n : Int) (hn : n ≠ 0) (w : World) (hg : ETok w) : Calls Tryd.prog 13 #[.iface 98 (.int .i64 n), .int .i64 n] w fun ev w' => ev = .returned (.bool true) ∧ Below w.heap.size w w' := by
  have := same_yes n w hg
  rw [errV_pos hn] at this
  exact this

set_option maxRecDepth 100000 in
set_option maxHeartbeats 3200000 in
theorem walk (x n : Int) (w : World) (w0 : (Lit.int .i64 x).wf = true) (w1 : (Lit.int .i64 n).wf = true) (hL : ETok w) :
    Calls Tryd.prog 5 #[.int .i64 x, .int .i64 n] w fun e w' => e = .returned (.bool true) ∧ Below w.heap.size w w' := by
  have HE := Lib.hid hL
  clear w0 w1 hL
  go_enter Tryd.func5, Tryd.ntmps5
  go_wp2_with fail
  refine (knew _).mono ?_
  rintro e w1 ⟨rfl, hk1, hb1⟩
  have HK := Lib.hid hk1
  have hs1 : Since w w1 := hb1
  clear hk1 hb1
  by_cases hn : 0 ≤ n ∧ n ≤ 60
  case neg =>
    by_cases h0 : n < 0
    · clear hn
      go_wp2_with (go_at_call 23; refine (kcount _ _ _ _ HK.out).mono ?_; rintro e w2 ⟨rfl, rfl⟩)
      go_ret
      exact ⟨by first | rfl | simp, (by refine Since.out ?_; repeat (first | with_reducible assumption | with_reducible exact Since.refl _ | with_reducible refine Since.later ?_ (by with_reducible assumption) | with_reducible refine Since.only ?_ (by with_reducible assumption) (by first | assumption | omega | (simp; done) | (simp; omega)) | with_reducible refine Since.alloc ?_ _ | with_reducible refine Since.drewN ?_ _ | with_reducible refine Since.drew ?_ | with_reducible refine Since.set ?_ (by first | assumption | omega | (simp; done) | (simp; omega)) _))⟩
    · have h0' : decide (n < 0) = false := by simpa using h0
      have h1 : 60 < n := by omega
      clear hn h0
      go_wp2_with (go_at_call 23; refine (kcount _ _ _ _ HK.out).mono ?_; rintro e w2 ⟨rfl, rfl⟩)
      go_ret
      exact ⟨by first | rfl | simp, (by refine Since.out ?_; repeat (first | with_reducible assumption | with_reducible exact Since.refl _ | with_reducible refine Since.later ?_ (by with_reducible assumption) | with_reducible refine Since.only ?_ (by with_reducible assumption) (by first | assumption | omega | (simp; done) | (simp; omega)) | with_reducible refine Since.alloc ?_ _ | with_reducible refine Since.drewN ?_ _ | with_reducible refine Since.drew ?_ | with_reducible refine Since.set ?_ (by first | assumption | omega | (simp; done) | (simp; omega)) _))⟩
  obtain ⟨n0, n1⟩ := hn
  obtain ⟨m, rfl⟩ := Int.eq_ofNat_of_zero_le n0
  have h0' : decide ((m : Int) < 0) = false := by simp
  have h1' : decide (60 < (m : Int)) = false := by simp; omega
  have hX : (⟨#[120]⟩ : ByteArray).size = 1 := rfl
  by_cases hw : whoB x = true
  case neg =>
    have E : Hid (∀ L, sendE L x ⟨#[120]⟩ = 1) := Lib.hid (fun L => by unfold sendE; rw [if_neg hw])
    have EL : Hid (∀ L, sendL L x ⟨#[120]⟩ = L) := Lib.hid (fun L => by unfold sendL; rw [E.out, if_neg (by decide)])
    have a0 : (x != 0) = true := by simp; rintro rfl; exact hw (by decide)
    have a1 : (x != 1) = true := by simp; rintro rfl; exact hw (by decide)
    clear hw
    go_wp2_with fail
    go_loopw [6, 7] (fun s6 s7 wr => ∃ (k : Nat) (v : Value), s6 = .int .i64 k ∧ k ≤ m ∧ Kz wr w.heap.size v [] ∧ (∀ q, q ∈ w.heap.size :: blocks v → w.heap.size ≤ q) ∧ Since w wr) (fun s6 _ _ => m - (intOf s6).toNat)
    case atStart => exact ⟨0, _, rfl, by omega, HK.out, by simp [Value.ownBlock], hs1⟩
    case round =>
      obtain ⟨k, v, rfl, hk, hz, hnew, hs⟩ := hrel
      have HZ := Lib.hid hz
      clear hz
      by_cases hlt : k < m
      case neg =>
        obtain rfl : k = m := by omega
        have hf : decide ((k : Int) < (k : Int)) = false := by simp
        by_cases h40 : 40 < k
        · have h40' : (40 : Int) < (k : Int) := by omega
          go_wp2_with (go_at_call 23; refine (kcount _ _ _ _ HZ.out).mono ?_; rintro e w2 ⟨rfl, rfl⟩)
          go_ret
          exact ⟨by first | rfl | simp, (by refine Since.out ?_; repeat (first | with_reducible assumption | with_reducible exact Since.refl _ | with_reducible refine Since.later ?_ (by with_reducible assumption) | with_reducible refine Since.only ?_ (by with_reducible assumption) (by first | assumption | omega | (simp; done) | (simp; omega)) | with_reducible refine Since.alloc ?_ _ | with_reducible refine Since.drewN ?_ _ | with_reducible refine Since.drew ?_ | with_reducible refine Since.set ?_ (by first | assumption | omega | (simp; done) | (simp; omega)) _))⟩
        · have h40' : decide ((40 : Int) < (k : Int)) = false := by simp; omega
          go_wp2_with (go_at_call 23; refine (kcount _ _ _ _ HZ.out).mono ?_; rintro e w2 ⟨rfl, rfl⟩)
          go_ret
          exact ⟨by first | rfl | simp, (by refine Since.out ?_; repeat (first | with_reducible assumption | with_reducible exact Since.refl _ | with_reducible refine Since.later ?_ (by with_reducible assumption) | with_reducible refine Since.only ?_ (by with_reducible assumption) (by first | assumption | omega | (simp; done) | (simp; omega)) | with_reducible refine Since.alloc ?_ _ | with_reducible refine Since.drewN ?_ _ | with_reducible refine Since.drew ?_ | with_reducible refine Since.set ?_ (by first | assumption | omega | (simp; done) | (simp; omega)) _))⟩
      have hlt' : (k : Int) < (m : Int) := by omega
      go_wp2_with fail
      refine (ksend _ v [] x ⟨#[120]⟩ _ HZ.out (by rw [hX]; omega)).mono ?_
      rintro e w2 ⟨rfl, h2⟩
      rw [E.out, errV_pos (show (1 : Int) ≠ 0 by decide)]
      rw [EL.out] at h2
      obtain ⟨hs2, v2, hz2, hnew2⟩ := knext hs hnew h2
      have HZ2 := Lib.hid hz2
      clear h2 hz2
      go_wp2_with fail
      refine (same_at 1 (by decide) _ (HE.out.later hs2)).mono ?_
      rintro e w3 ⟨rfl, hb3⟩
      go_wp2_with fail
      go_roundw
      case rel => exact ⟨k + 1, v2, by go_num, by omega, HZ2.out.later hb3, hnew2, hs2.later hb3⟩
      case measure => simp [intOf]; omega
  have E : Hid (∀ L : List Let, sendE L x ⟨#[120]⟩ = if L.length = 40 then 4 else 0) := Lib.hid (fun L => by
    unfold sendE
    rw [if_pos hw]
    by_cases h : L.length = 40
    · rw [if_pos (Or.inl h), if_pos h]
    · rw [if_neg (by rw [hX]; omega), if_neg h])
  have hx : x = 0 ∨ x = 1 := by unfold whoB at hw; simpa using hw
  have hg17 : Hid ((x != 0) = false ∨ ((x != 0) = true ∧ (x != 1) = false)) := Lib.hid (by rcases hx with rfl | rfl; exact Or.inl (by decide); exact Or.inr ⟨by decide, by decide⟩)
  clear hw hx
  go_wp2_with fail
  go_loopw [6, 7] (fun s6 s7 wr => ∃ (k : Nat) (v : Value) (L : List Let), s6 = .int .i64 k ∧ k ≤ m ∧ L.length = min k 40 ∧ Kz wr w.heap.size v L ∧ (∀ q, q ∈ w.heap.size :: blocks v → w.heap.size ≤ q) ∧ Since w wr) (fun s6 _ _ => m - (intOf s6).toNat)
  case atStart => exact ⟨0, _, [], rfl, by omega, by simp, HK.out, by simp [Value.ownBlock], hs1⟩
  case round =>
    obtain ⟨k, v, L, rfl, hk, hll, hz, hnew, hs⟩ := hrel
    have HZ := Lib.hid hz
    clear hz
    by_cases hlt : k < m
    case neg =>
      obtain rfl : k = m := by omega
      have hf : decide ((k : Int) < (k : Int)) = false := by simp
      have hcnt : ∀ wx, Kz wx w.heap.size v L → Calls Tryd.prog 23 #[.pointer (some ⟨w.heap.size, 0, none⟩)] wx fun e w' => e = .returned (.int .i64 ((min k 40 : Nat) : Int)) ∧ wx = w' := fun wx h => by
        have := kcount _ v L wx h
        rw [hll] at this
        exact this
      have HCNT := Lib.hid hcnt
      clear hcnt
      by_cases h40 : 40 < k
      · have h40' : (40 : Int) < (k : Int) := by omega
        have hmin : min k 40 = 40 := by omega
        rw [hmin] at HCNT
        rcases hg17.out with a0 | ⟨a0, a1⟩
        · go_wp2_with (go_at_call 23; refine (HCNT.out _ HZ.out).mono ?_; rintro e w2 ⟨rfl, rfl⟩)
          go_ret
          exact ⟨by first | rfl | simp, (by refine Since.out ?_; repeat (first | with_reducible assumption | with_reducible exact Since.refl _ | with_reducible refine Since.later ?_ (by with_reducible assumption) | with_reducible refine Since.only ?_ (by with_reducible assumption) (by first | assumption | omega | (simp; done) | (simp; omega)) | with_reducible refine Since.alloc ?_ _ | with_reducible refine Since.drewN ?_ _ | with_reducible refine Since.drew ?_ | with_reducible refine Since.set ?_ (by first | assumption | omega | (simp; done) | (simp; omega)) _))⟩
        · go_wp2_with (go_at_call 23; refine (HCNT.out _ HZ.out).mono ?_; rintro e w2 ⟨rfl, rfl⟩)
          go_ret
          exact ⟨by first | rfl | simp, (by refine Since.out ?_; repeat (first | with_reducible assumption | with_reducible exact Since.refl _ | with_reducible refine Since.later ?_ (by with_reducible assumption) | with_reducible refine Since.only ?_ (by with_reducible assumption) (by first | assumption | omega | (simp; done) | (simp; omega)) | with_reducible refine Since.alloc ?_ _ | with_reducible refine Since.drewN ?_ _ | with_reducible refine Since.drew ?_ | with_reducible refine Since.set ?_ (by first | assumption | omega | (simp; done) | (simp; omega)) _))⟩
      · have h40' : decide ((40 : Int) < (k : Int)) = false := by simp; omega
        have hmin : min k 40 = k := by omega
        rw [hmin] at HCNT
        rcases hg17.out with a0 | ⟨a0, a1⟩
        · go_wp2_with (go_at_call 23; refine (HCNT.out _ HZ.out).mono ?_; rintro e w2 ⟨rfl, rfl⟩)
          go_ret
          exact ⟨by first | rfl | simp, (by refine Since.out ?_; repeat (first | with_reducible assumption | with_reducible exact Since.refl _ | with_reducible refine Since.later ?_ (by with_reducible assumption) | with_reducible refine Since.only ?_ (by with_reducible assumption) (by first | assumption | omega | (simp; done) | (simp; omega)) | with_reducible refine Since.alloc ?_ _ | with_reducible refine Since.drewN ?_ _ | with_reducible refine Since.drew ?_ | with_reducible refine Since.set ?_ (by first | assumption | omega | (simp; done) | (simp; omega)) _))⟩
        · go_wp2_with (go_at_call 23; refine (HCNT.out _ HZ.out).mono ?_; rintro e w2 ⟨rfl, rfl⟩)
          go_ret
          exact ⟨by first | rfl | simp, (by refine Since.out ?_; repeat (first | with_reducible assumption | with_reducible exact Since.refl _ | with_reducible refine Since.later ?_ (by with_reducible assumption) | with_reducible refine Since.only ?_ (by with_reducible assumption) (by first | assumption | omega | (simp; done) | (simp; omega)) | with_reducible refine Since.alloc ?_ _ | with_reducible refine Since.drewN ?_ _ | with_reducible refine Since.drew ?_ | with_reducible refine Since.set ?_ (by first | assumption | omega | (simp; done) | (simp; omega)) _))⟩
    have hlt' : (k : Int) < (m : Int) := by omega
    by_cases h40 : k < 40
    · have h40' : (k : Int) < 40 := by omega
      have hl : ¬ L.length = 40 := by omega
      have E0 : Hid (sendE L x ⟨#[120]⟩ = 0) := Lib.hid (by rw [E.out, if_neg hl])
      have EL : Hid (sendL L x ⟨#[120]⟩ = L ++ [(⟨x, ⟨#[120]⟩⟩ : Let)]) := Lib.hid (by unfold sendL; rw [E0.out, if_pos rfl])
      have hlen : (L ++ [(⟨x, ⟨#[120]⟩⟩ : Let)]).length = min (k + 1) 40 := by rw [List.length_append]; simp; omega
      have HLN := Lib.hid hlen
      clear hl hll hlen
      rcases hg17.out with a0 | ⟨a0, a1⟩
      all_goals
        go_wp2_with fail
        refine (ksend _ v L x ⟨#[120]⟩ _ HZ.out (by rw [hX]; omega)).mono ?_
        rintro e w2 ⟨rfl, h2⟩
        rw [E0.out, errV_zero]
        rw [EL.out] at h2
        obtain ⟨hs2, v2, hz2, hnew2⟩ := knext hs hnew h2
        have HZ2 := Lib.hid hz2
        clear h2 hz2
        go_wp2_with fail
        go_roundw
        case rel => exact ⟨k + 1, v2, _, by go_num, by omega, HLN.out, HZ2.out, hnew2, hs2⟩
        case measure => simp [intOf]; omega
    · have h40' : decide ((k : Int) < 40) = false := by simp; omega
      have hl : L.length = 40 := by omega
      have E0 : Hid (sendE L x ⟨#[120]⟩ = 4) := Lib.hid (by rw [E.out, if_pos hl])
      have EL : Hid (sendL L x ⟨#[120]⟩ = L) := Lib.hid (by unfold sendL; rw [E0.out, if_neg (by decide)])
      have hlen : L.length = min (k + 1) 40 := by omega
      have HLN := Lib.hid hlen
      clear hl hll hlen
      rcases hg17.out with a0 | ⟨a0, a1⟩
      all_goals
        go_wp2_with fail
        refine (ksend _ v L x ⟨#[120]⟩ _ HZ.out (by rw [hX]; omega)).mono ?_
        rintro e w2 ⟨rfl, h2⟩
        rw [E0.out, errV_pos (show (4 : Int) ≠ 0 by decide)]
        rw [EL.out] at h2
        obtain ⟨hs2, v2, hz2, hnew2⟩ := knext hs hnew h2
        have HZ2 := Lib.hid hz2
        clear h2 hz2
        go_wp2_with fail
        refine (same_at 4 (by decide) _ (HE.out.later hs2)).mono ?_
        rintro e w3 ⟨rfl, hb3⟩
        go_wp2_with fail
        go_roundw
        case rel => exact ⟨k + 1, v2, L, by go_num, by omega, HLN.out, HZ2.out.later hb3, hnew2, hs2.later hb3⟩
        case measure => simp [intOf]; omega

/-! the row -/
theorem own : ownKnob Tryd.prog.godebug = none := by kernel_rfl
theorem laidOut : laidOutB Tryd.prog = true := by kernel_rfl
set_option maxRecDepth 100000 in
theorem contract (H : Type) (enc : TypeId × Value → H) (W : World) (base : Nat) (args : Array Value) (ds gs : List (DataW H)) (before : List MemPlace)
    (hval : ∀ (j : Nat) t v, Tryd.f5.params[j]? = some t → args[j]? = some v → Value.okWide Tryd.prog W .any base t v)
    (hW : DataW.Whole enc Tryd.prog Tryd.f5.params.toList Rows.linkManySpec.vars false W args.toList ds gs before) (hL : laidMetH Tryd.prog Rows.linkManyRow.laid W) :
    Calls Tryd.prog 5 args W fun e W' => ∃ v, e = .returned v ∧ Rows.linkManySpec.post enc Tryd.prog Tryd.f5 false true false false W args v W' := by
  have hW' := hW
  obtain ⟨p, q, hA0, hV, rfl, hfz, hnd⟩ := hW
  have hA : DataW.TrodAll enc Tryd.prog W 0 (fun _ => true) true Tryd.f5.params.toList args.toList ds p := hA0
  rw [Tryd.params5] at hA hval
  obtain ⟨v0, vs0, d0, ds0, p0, q0, hargs, rfl, rfl, h0, r0⟩ := trodAll_cons hA
  obtain ⟨v1, vs1, d1, ds1, p1, q1, rfl, rfl, rfl, h1, r1⟩ := trodAll_cons r0
  obtain ⟨rfl, rfl, rfl⟩ := trodAll_nil r1
  obtain rfl : args = #[v0, v1] := by cases args; simp_all
  obtain ⟨rfl, rfl⟩ := trodVars_none hV
  obtain ⟨a0, rfl, rfl, rfl, w0⟩ := open_int Tryd.underlying3 (hval 0 3 v0 rfl rfl) h0
  obtain ⟨a1, rfl, rfl, rfl, w1⟩ := open_int Tryd.underlying3 (hval 1 3 v1 rfl rfl) h1
  have lw := laidWalk hL
  refine (walk a0 a1 W w0 w1 lw).mono fun e W' ⟨he, bel⟩ => ?_
  subst he
  exact ⟨_, rfl, _, _, _, [], _, [], hW', trodAll_mk1 (shut_bool Tryd.underlying4 _), (trodAll_cons_mk (shut_int Tryd.underlying3 w0) (trodAll_cons_mk (shut_int Tryd.underlying3 w1) trodAll_mk0)), rfl, bel.frame _, fun h => by cases h⟩

theorem reads (os : Os) {H : Type} (enc : TypeId × Value → H) : ∃ places, DataW.whole enc Tryd.prog ((laidWorld os).forCall (fun _ _ => 0) ⟨#[], #[.int .i64 0, .int .i64 0], []⟩).memory Tryd.f5.params.toList Rows.linkManySpec.vars false (#[.int .i64 0, .int .i64 0] : Array Value).toList 8 = some ([.lit (.int .i64 0), .lit (.int .i64 0)], [], places) :=
  ⟨[], by kernel_rfl⟩
theorem laid_met (os : Os) : laidMetH Tryd.prog Rows.linkManyRow.laid ((laidWorld os).forCall (fun _ _ => 0) ⟨#[], #[.int .i64 0, .int .i64 0], []⟩).memory := laidMetW os _

set_option maxRecDepth 100000 in
theorem lifted (os : Os) (started : os.Started) (H : Type) (enc : TypeId × Value → H) (F : Stop.Interp) :
    ReturnsInHanded {} Tryd.checked os 5 .any ((OpenSpec.ofChange Rows.linkManySpec).preRow enc Tryd.prog Tryd.f5 Rows.linkManyRow.domain false Rows.linkManyRow.laid) (((OpenSpec.ofChange Rows.linkManySpec).at F).post enc Tryd.prog Tryd.f5 false true false false) := by
  obtain ⟨places, hx⟩ := reads os enc
  refine returnsInHanded_of_row (C := Tryd.checked) (s := OpenSpec.ofChange Rows.linkManySpec) own started (by kernel_rfl) Tryd.func5
    (witness_row_at (enc := enc) (C := Tryd.checked) false (laidWorld os) #[.int .i64 0, .int .i64 0] rfl (by kernel_rfl) (by kernel_rfl) (by kernel_rfl)
      (OpenSpec.preRow_of_cond 8 hx (by kernel_rfl) (fun k hk => by cases hk) (by kernel_rfl) (laid_met os))) ?_
  intro W base args ds gs before hval hW _ _ _ hL _ _
  exact contract H enc W base args ds gs before hval hW hL

theorem said : Rows.LinkManySaid :=
  OpenClaim.holds_of_cond 5 Tryd.f5 rfl rfl rfl rfl rfl rfl rfl ⟨rfl, rfl, rfl, rfl, rfl⟩ rfl rfl rfl rfl rfl (by kernel_rfl) Tryd.func5 (by kernel_rfl)
    (of_decide_eq_true (by kernel_rfl)) (by unfold Func.isWrapper; first | (rw [if_pos (by decide +kernel)]; kernel_rfl) | (rw [if_neg (by decide +kernel)]; exact ⟨rfl, rfl⟩))
    (fun os started H enc _ F => by rw [OpenClaim.pre_eq_preRow]; exact lifted os started H enc F)

theorem plain (f : FuncId) (fn : Func) (hf : Tryd.pinned.checked.prog.funcNamed "wanderwire/wirelaw4.LinkMany" = some f) (hfn : Tryd.pinned.checked.prog.funcs[f]? = some fn) :
    true = Tryd.pinned.checked.prog.looks [] ∧ ∀ (j : Nat) t, fn.params[j]? = some t → Tryd.pinned.checked.prog.wantsStandIn t = false := by
  obtain rfl : f = 5 := Option.some.inj ((show Tryd.prog.funcNamed "wanderwire/wirelaw4.LinkMany" = some 5 by kernel_rfl).symm.trans hf) |>.symm
  obtain rfl : fn = Tryd.f5 := (Option.some.inj (Tryd.func5.symm.trans hfn)).symm
  refine ⟨by kernel_rfl, fun j t ht => ?_⟩
  rw [Tryd.params5] at ht
  have ht' := Array.mem_of_getElem? ht
  have hall : (([3, 3] : List Nat).all fun t => !Tryd.prog.wantsStandIn t) = true := by kernel_rfl
  have hq := List.all_eq_true.1 hall t (by simpa using ht')
  have hq2 : Tryd.prog.wantsStandIn t = false := by simpa using hq
  exact hq2

theorem card : Rows.LinkManyCardSaid :=
  Claim7.holds_tied_plain_at .later [] _ _ _ _ said (fun _ h => by cases h) (by kernel_rfl) (fun _ h => by cases h) linkMany_row_tie rfl ⟨rfl, rfl⟩ (by kernel_rfl) rfl plain (by kernel_rfl)
#print axioms card
end Go.Proofs.YtbmfknnbpnllkaaDoor.linkMany
