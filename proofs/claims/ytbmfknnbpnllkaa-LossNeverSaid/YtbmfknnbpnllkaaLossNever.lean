/- LossNever: for every packets, ranges and times the law returns true: what came is never lost; none that is told as lost is in acks, and each was sent, and is left; the longer the wait, the fewer are. No condition. -/
import Derived.Test.YtbmfknnbpnllkaaBase
import Derived.Test.YtbmfknnbpnllkaaMay
import Derived.Test.YtbmfknnbpnllkaaMayB
import Derived.Test.YtbmfknnbpnllkaaErrV
import Derived.Test.YtbmfknnbpnllkaaOnly
import Derived.Test.YtbmfknnbpnllkaaSince
import Derived.Test.YtbmfknnbpnllkaaRules
import Derived.Test.YtbmfknnbpnllkaaOut
import Derived.Test.YtbmfknnbpnllkaaLst
import Derived.Test.YtbmfknnbpnllkaaRng
import Derived.Test.YtbmfknnbpnllkaaIns
import Derived.Test.YtbmfknnbpnllkaaRd
import Derived.Test.YtbmfknnbpnllkaaRngs
import Derived.Test.YtbmfknnbpnllkaaLoss
import Derived.Test.YtbmfknnbpnllkaaDelG
import Derived.Test.YtbmfknnbpnllkaaLeft
import Derived.Test.YtbmfknnbpnllkaaDelF
import Derived.Test.YtbmfknnbpnllkaaLost
import Derived.Test.YtbmfknnbpnllkaaLossLaw
import Derived.Deep.DeepCutAuto
import Derived.Deep.QuietTactic
import Derived.BigQuiet
import Derived.Test.YtbmfknnbpnllkaaRows
import Derived.WalkKit
import Derived.ProofKit
import Derived.OpenShut
import Derived.ShutString
import Derived.ChangeOld
import Derived.Below
import Derived.Lib.SmallJoins
import Derived.Deep.Slices
import Derived.Deep.Matrix
import Derived.Deep.Strs
namespace Go.Proofs.Ytbmfknnbpnllkaa.lossNever
open Go.ChangeShapes Go.WideShapes Go.ChangeAt Go.RowKit
open Go.ChangeMaps (open_string shut_string)
set_option linter.unusedVariables false


set_option maxRecDepth 100000 in
set_option maxHeartbeats 8000000 in
theorem walk (v0 : Value) (L : List Snt) (v1 : Value) (M : List Rng) (now wait more : Int) (w : World) (w0 : SntsIn w v0 L) (w1 : RngsIn w v1 M) (w2 : (Lit.int .i64 now).wf = true) (w3 : (Lit.int .i64 wait).wf = true) (w4 : (Lit.int .i64 more).wf = true) :
    Calls Try.prog 6 #[v0, v1, .int .i64 now, .int .i64 wait, .int .i64 more] w fun e w' => e = .returned (.bool true) ∧ Below w.heap.size w w' := by
  obtain ⟨hb, hr⟩ := w0
  obtain ⟨A, cap, rfl, hz1, hz2, hz3⟩ := id hr.shape
  rw [List.length_map] at hr ⊢
  obtain ⟨n, hn⟩ : ∃ n, L.length = n := ⟨_, rfl⟩
  rw [hn] at hr ⊢
  have HR := Lib.hid hr
  have HN := Lib.hid hn
  clear hz1 hz2 hz3 hr hn hb
  obtain ⟨hb2, hr2⟩ := w1
  obtain ⟨A2, cap2, rfl, hz1, hz2, hz3⟩ := id hr2.shape
  rw [List.length_map] at hr2 ⊢
  obtain ⟨n2, hn2⟩ : ∃ n2, M.length = n2 := ⟨_, rfl⟩
  rw [hn2] at hr2 ⊢
  have HR2 := Lib.hid hr2
  have HN2 := Lib.hid hn2
  have HB2 := Lib.hid hb2
  have hcm2 := hr2.cap_le.2
  have hmb : -9223372036854775808 ≤ more ∧ more ≤ 9223372036854775807 := wf_bounds w4
  clear hz1 hz2 hz3 hr2 hn2 hb2 w2 w3 w4
  go_enter Try.func6, Try.ntmps6
  go_wp2_with fail
  have hbl : BlockIs ((w.alloc (.cells #[.int .i64 1, .int .i64 5, .int .i64 9, .int .i64 4, .int .i64 6, .int .i64 9, .int .i64 5, .int .i64 9, .int .i64 9] 54)).alloc (.cells #[.int .i64 5, .int .i64 5] 33)) w.heap.size 54 #[.int .i64 1, .int .i64 5, .int .i64 9, .int .i64 4, .int .i64 6, .int .i64 9, .int .i64 5, .int .i64 9, .int .i64 9] := (BlockIs.fresh w _ _).alloc _
  have hbm : BlockIs ((w.alloc (.cells #[.int .i64 1, .int .i64 5, .int .i64 9, .int .i64 4, .int .i64 6, .int .i64 9, .int .i64 5, .int .i64 9, .int .i64 9] 54)).alloc (.cells #[.int .i64 5, .int .i64 5] 33)) (w.heap.size + 1) 33 #[.int .i64 5, .int .i64 5] := BlockIs.fresh_at (by simp)
  have hs0 : Since w ((w.alloc (.cells #[.int .i64 1, .int .i64 5, .int .i64 9, .int .i64 4, .int .i64 6, .int .i64 9, .int .i64 5, .int .i64 9, .int .i64 9] 54)).alloc (.cells #[.int .i64 5, .int .i64 5] 33)) := ((Since.refl w).alloc _).alloc _
  have hrl := Rd.of_block (k := 3) (n := 3) (cap := 3) (es := exL.map sntRow) hbl (fun e he => by obtain ⟨a, _, rfl⟩ := List.mem_map.1 he; exact sntRow_one a) rfl (by omega) (by omega)
  have hrm := Rd.of_block (k := 2) (n := 1) (cap := 1) (es := exM.map rngRow) hbm (fun e he => by obtain ⟨a, _, rfl⟩ := List.mem_map.1 he; exact rngRow_one a) rfl (by omega) (by omega)
  refine (sLost _ 3 3 exL _ 1 1 exM 10 50 _ rfl hrl rfl (by intro r hr; simp [exM] at hr; subst hr; show okI 5 ∧ okI 5; unfold okI; omega) hrm).mono ?_
  rintro e w1 ⟨A1, c1, rfl, hl1, hb1⟩
  rw [exLost.1] at hl1 ⊢
  rw [exLost.2, errV_zero]
  obtain ⟨A', cap', hve, hz1, hz2, hA⟩ := hl1.shape
  simp only [List.map_cons, List.map_nil, List.length_cons, List.length_nil, Value.slice.injEq] at hve
  obtain ⟨rfl, hz3, rfl⟩ := hve
  rcases hA with ⟨_, h0, _⟩ | ⟨q1, rfl⟩
  · simp at h0
  have d1 : w1.cell? ⟨q1, 0, none⟩ = some (.int .i64 1) := hl1.cell rfl (i := 0) (j := 0) rfl rfl
  have hs1 : Since w w1 := hs0.later hb1
  clear hl1 hbl hbm hs0 hrl hrm hz1 hz2 hz3 hb1
  go_wp2_with fail
  refine (sLost A n cap L A2 n2 cap2 M now wait _ HN.out (HR.out.later hs1) HN2.out HB2.out (HR2.out.later hs1)).mono ?_
  rintro e w5 ⟨A5, c5, rfl, hl5, hb5⟩
  have hs5 := hs1.later hb5
  clear d1 hb5 hs1
  by_cases he : lostE L M now wait = 0
  case neg =>
    rw [errV_pos he]
    clear he hl5
    go_wp2_with fail
    go_ret
    exact ⟨rfl, (by refine Since.out ?_; repeat (first | with_reducible assumption | with_reducible exact Since.refl _ | with_reducible refine Since.later ?_ (by with_reducible assumption) | with_reducible refine Since.only ?_ (by with_reducible assumption) (by first | assumption | omega | (simp; done) | (simp; omega)) | with_reducible refine Since.alloc ?_ _ | with_reducible refine Since.drewN ?_ _ | with_reducible refine Since.drew ?_ | with_reducible refine Since.set ?_ (by first | assumption | omega | (simp; done) | (simp; omega)) _))⟩
  obtain ⟨hbo, n0, n1, t0, t1⟩ := lostE_both he
  have HBO := Lib.hid hbo
  have HL5 := Lib.hid hl5
  rw [he, errV_zero]
  have HE := Lib.hid he
  clear he hbo hl5
  go_wp2_with fail
  refine (sLeft A n cap L A2 n2 cap2 M _ HN.out (HR.out.later hs5) HN2.out HB2.out (HR2.out.later hs5)).mono ?_
  rintro e w6 ⟨A6, c6, rfl, hr6, hb6⟩
  have hs6 := hs5.later hb6
  have hle : leftR L M = leftL L M := by unfold leftR; rw [if_pos HBO.out]
  rw [hle] at hr6 ⊢
  rw [HBO.out, errV_zero]
  have HL6 := Lib.hid (HL5.out.later hb6)
  obtain ⟨K, hK⟩ : ∃ K, leftL L M = K := ⟨_, rfl⟩
  have HK := Lib.hid hK
  rw [hK] at hr6 ⊢
  obtain ⟨X, hX⟩ : ∃ X, lostL L M now wait = X := ⟨_, rfl⟩
  have HX := Lib.hid hX
  rw [hX] at HL6 ⊢
  obtain ⟨kx, hkx⟩ : ∃ kx, X.length = kx := ⟨_, rfl⟩
  rw [hkx] at HL6 ⊢
  have HKX := Lib.hid hkx
  obtain ⟨kk, hkk⟩ : ∃ kk, K.length = kk := ⟨_, rfl⟩
  rw [hkk] at hr6 ⊢
  have HKK := Lib.hid hkk
  have HR6 := Lib.hid hr6
  have hkm := hr6.cap_le.2
  have hxm := (Rd.of_lst HL6.out).cap_le.2
  clear hle hK hX hkx hkk hr6 hb6 hs5 HL5
  repeat ((fail_if_success (with_reducible refine stop_at 10 ?_)); first | fail | go_values | go_skip | go_guarded | go_step | go_upon | go_back | go_simp)
  go_cut [17, 18, 19, 20] (fun s17 s18 s19 s20 wx => Since w6 wx)
  case first =>
    as_aux_lemma =>
      go_wp2_with fail
      go_loopw [17, 18, 19, 20] (fun s17 s18 s19 s20 wr => ∃ i : Nat, s17 = .int .i64 i ∧ i ≤ kx ∧ Since w6 wr) (fun s17 _ _ _ _ => kx - (intOf s17).toNat)
      case atStart => exact ⟨0, rfl, Nat.zero_le _, Since.refl _⟩
      case round =>
        obtain ⟨i, rfl, hi, hs⟩ := hrel
        by_cases hlt : i < kx
        case neg =>
          obtain rfl : i = kx := by omega
          have hf : decide ((i : Int) < (i : Int)) = false := by simp
          go_wp2_with fail
          go_meet
          case rel => exact hs
        have hlt' : (i : Int) < (kx : Int) := by omega
        have hiX : i < X.length := by rw [HKX.out]; exact hlt
        have hm0 : M.length ≠ 0 := fun h0 => by have h1 := lostL_nil (L := L) (now := now) (wait := wait) h0; rw [HX.out] at h1; rw [h1] at hiX; simp at hiX
        have hn20 : 0 < n2 := by have := HN2.out; omega
        have hXe : X = lostOf K (rat M 0).hi now wait := by rw [← HX.out, lostL_eq HE.out hm0, HK.out]
        have hmem : ith X i ∈ lostOf K (rat M 0).hi now wait := by rw [← hXe, ith_get hiX]; exact List.getElem_mem _
        obtain ⟨s, hsK, hsn, _⟩ := lost_mem hmem
        have hin : inB M (ith X i) = false := by rw [← hsn]; exact left_not (by rw [HK.out]; exact hsK)
        have hnum : numB K (ith X i) kk = true := by rw [← HKK.out]; exact numB_mem hsK hsn
        have htop : ith X i ≤ (rat M 0).hi := lost_top hmem
        have hsort : 0 < i → ith X (i - 1) < ith X i := fun h0 => by
          have hp : X.Pairwise (· < ·) := by rw [hXe, ← HK.out]; exact lost_sorted (both_zero HBO.out).1 _ _ _ _
          have := List.pairwise_iff_getElem.1 hp (i - 1) i (by omega) hiX (by omega)
          rw [ith_get hiX, ith_get (show i - 1 < X.length by omega)]
          exact this
        obtain ⟨A', cap', hve, hz1, hz2, hA⟩ := HL6.out.shape
        simp only [Value.slice.injEq] at hve
        obtain ⟨rfl, hz3, rfl⟩ := hve
        rcases hA with ⟨_, h0, _⟩ | ⟨qx, rfl⟩
        · have h1 : X = [] := by simpa using h0
          rw [h1] at hiX
          simp at hiX
        have cxx : ∀ wx, Since w6 wx → wx.cell? ⟨qx, i, none⟩ = some (.int .i64 (ith X i)) := fun wx h => intLst.at_ (HL6.out.later h) hiX
        have cxp : 0 < i → ∀ wx, Since w6 wx → wx.cell? ⟨qx, i - 1, none⟩ = some (.int .i64 (ith X (i - 1))) := fun h0 wx h => intLst.at_ (HL6.out.later h) (by omega)
        obtain ⟨b, off, rfl, hbl, hc⟩ := HR2.out.rng (i := 0) (by rw [HN2.out]; exact hn20)
        have chi : ∀ wx, Since w6 wx → wx.cell? ⟨b, off + 1, none⟩ = some (.int .i64 (rat M 0).hi) := fun wx h => by
          have := (hc wx (hs6.later h) 0 (by rw [HN2.out]; exact hn20)).2
          simpa using this
        have HALL := Lib.hid (And.intro cxx (And.intro cxp (And.intro chi hsort)))
        have c0 := cxx wr hs
        generalize ith X i = x at *
        generalize ith X (i - 1) = px at *
        generalize (rat M 0).hi = top at *
        have HIN := Lib.hid hin
        have HNUM := Lib.hid hnum
        clear hc cxx cxp chi hsort hmem hXe hm0 hz1 hz2 hz3 hin hnum hsK hsn
        go_wp2_with fail
        refine (rinR _ n2 cap2 M x _ HN2.out (HR2.out.later (hs6.later hs))).mono ?_
        rintro e w7 ⟨rfl, hb7⟩
        rw [HIN.out]
        have hs7 := hs.later hb7
        clear c0 hs hb7
        repeat ((fail_if_success (with_reducible refine stop_at 15 ?_)); first | fail | go_values | go_skip | go_guarded | go_step | go_upon | go_back | go_simp)
        obtain ⟨wq, rfl⟩ : ∃ wq : World, wq = w7 := ⟨_, rfl⟩
        go_cut [19, 20] (fun s19 s20 wx => s19 = .bool true ∧ Since w6 wx)
        case first =>
          go_wp2_with fail
          go_loopw [19, 20] (fun s19 s20 wr => ∃ j : Nat, s20 = .int .i64 j ∧ j ≤ kk ∧ s19 = .bool (numB K x j) ∧ Since w6 wr) (fun _ s20 _ => kk - (intOf s20).toNat)
          case atStart => exact ⟨0, rfl, Nat.zero_le _, rfl, hs7⟩
          case round =>
            obtain ⟨j, rfl, hj, rfl, hs8⟩ := hrel
            by_cases hjl : j < kk
            case neg =>
              obtain rfl : j = kk := by omega
              have hf : decide ((j : Int) < (j : Int)) = false := by simp
              rw [HNUM.out]
              go_wp2_with fail
              go_meet
              case rel => exact ⟨rfl, hs8⟩
            have hjl' : (j : Int) < (kk : Int) := by omega
            obtain ⟨b3, off3, rfl, hbl3, hc3⟩ := HR6.out.snt (i := j) (by rw [HKK.out]; exact hjl)
            obtain ⟨e0, _, _⟩ := hc3 wr hs8 j (by rw [HKK.out]; exact hjl)
            have cx := HALL.out.1 wr hs8
            have lb3 : b3 < wr.heap.size := Nat.lt_of_lt_of_le hbl3 hs8.le
            have hst : numB K x (j + 1) = (numB K x j || (sat K j).n == x) := rfl
            generalize (sat K j).n = sn at *
            have HST := Lib.hid hst
            clear hc3 hst
            cases hbb : numB K x j with
            | true =>
              rw [hbb] at HST
              have HST2 := Lib.hid (show numB K x (j + 1) = true by rw [HST.out]; rfl)
              clear hbb
              go_wp2_with fail
              go_quiet (fail)
              go_wp2_with fail
              go_roundw
              case rel => exact ⟨j + 1, by go_num, by omega, by rw [HST2.out], (by refine Since.out ?_; repeat (first | with_reducible assumption | with_reducible exact Since.refl _ | with_reducible refine Since.later ?_ (by with_reducible assumption) | with_reducible refine Since.only ?_ (by with_reducible assumption) (by first | assumption | omega | (simp; done) | (simp; omega)) | with_reducible refine Since.alloc ?_ _ | with_reducible refine Since.drewN ?_ _ | with_reducible refine Since.drew ?_ | with_reducible refine Since.set ?_ (by first | assumption | omega | (simp; done) | (simp; omega)) _))⟩
              case measure => simp [intOf]; omega
            | false =>
              rw [hbb] at HST
              have HST2 := Lib.hid (show numB K x (j + 1) = (sn == x) by rw [HST.out]; rfl)
              clear hbb
              go_wp2_with fail
              go_quiet (fail)
              go_wp2_with fail
              go_roundw
              case rel => exact ⟨j + 1, by go_num, by omega, by rw [HST2.out], (by refine Since.out ?_; repeat (first | with_reducible assumption | with_reducible exact Since.refl _ | with_reducible refine Since.later ?_ (by with_reducible assumption) | with_reducible refine Since.only ?_ (by with_reducible assumption) (by first | assumption | omega | (simp; done) | (simp; omega)) | with_reducible refine Since.alloc ?_ _ | with_reducible refine Since.drewN ?_ _ | with_reducible refine Since.drew ?_ | with_reducible refine Since.set ?_ (by first | assumption | omega | (simp; done) | (simp; omega)) _))⟩
              case measure => simp [intOf]; omega
        case rest =>
          obtain ⟨wz, rfl⟩ : ∃ wz : World, wz = wc := ⟨_, rfl⟩
          obtain ⟨rfl, hs8⟩ := hcut
          have cx := HALL.out.1 wz hs8
          have ch := HALL.out.2.2.1 wz hs8
          have lbz : b < wz.heap.size := Nat.lt_of_lt_of_le hbl (hs6.later hs8).le
          have hn2' : ((n2 : Int) == 0) = false := by simp; omega
          have hn2i : (0 : Int) < (n2 : Int) := by omega
          have htop' : decide (top < x) = false := by simpa using htop
          by_cases hi0 : i = 0
          · subst hi0
            clear hs7
            go_wp2_with fail
            go_quiet (fail)
            go_wp2_with fail
            go_roundw
            case rel => exact ⟨0 + 1, by go_num, by omega, (by refine Since.out ?_; repeat (first | with_reducible assumption | with_reducible exact Since.refl _ | with_reducible refine Since.later ?_ (by with_reducible assumption) | with_reducible refine Since.only ?_ (by with_reducible assumption) (by first | assumption | omega | (simp; done) | (simp; omega)) | with_reducible refine Since.alloc ?_ _ | with_reducible refine Since.drewN ?_ _ | with_reducible refine Since.drew ?_ | with_reducible refine Since.set ?_ (by first | assumption | omega | (simp; done) | (simp; omega)) _))⟩
            case measure => simp [intOf]; omega
          have hip : 0 < i := by omega
          have cp := HALL.out.2.1 hip wz hs8
          have hso := HALL.out.2.2.2 hip
          have hi1 : (0 : Int) < (i : Int) := by omega
          have hi2' : (i : Int) - 1 = ((i - 1 : Nat) : Int) := by omega
          have hi3 : ((i - 1 : Nat) : Int) < (kx : Int) := by omega
          have hso' : decide (x ≤ px) = false := by simpa using hso
          clear hs7
          go_wp2_with fail
          go_quiet (fail)
          go_wp2_with fail
          go_roundw
          case rel => exact ⟨i + 1, by go_num, by omega, (by refine Since.out ?_; repeat (first | with_reducible assumption | with_reducible exact Since.refl _ | with_reducible refine Since.later ?_ (by with_reducible assumption) | with_reducible refine Since.only ?_ (by with_reducible assumption) (by first | assumption | omega | (simp; done) | (simp; omega)) | with_reducible refine Since.alloc ?_ _ | with_reducible refine Since.drewN ?_ _ | with_reducible refine Since.drew ?_ | with_reducible refine Since.set ?_ (by first | assumption | omega | (simp; done) | (simp; omega)) _))⟩
          case measure => simp [intOf]; omega
  case rest =>
    as_aux_lemma =>
      obtain ⟨wo, rfl⟩ : ∃ wo : World, wo = wc := ⟨_, rfl⟩
      have hs7 : Since w6 wo := hcut
      have hsw := hs6.later hs7
      by_cases m0 : more < 0
      · go_wp2_with fail
        go_ret
        exact ⟨rfl, (by refine Since.out ?_; repeat (first | with_reducible assumption | with_reducible exact Since.refl _ | with_reducible refine Since.later ?_ (by with_reducible assumption) | with_reducible refine Since.only ?_ (by with_reducible assumption) (by first | assumption | omega | (simp; done) | (simp; omega)) | with_reducible refine Since.alloc ?_ _ | with_reducible refine Since.drewN ?_ _ | with_reducible refine Since.drew ?_ | with_reducible refine Since.set ?_ (by first | assumption | omega | (simp; done) | (simp; omega)) _))⟩
      have m0' : decide (more < 0) = false := by simpa using m0
      by_cases m1 : 100000 < more
      · clear m0
        go_wp2_with fail
        go_ret
        exact ⟨rfl, (by refine Since.out ?_; repeat (first | with_reducible assumption | with_reducible exact Since.refl _ | with_reducible refine Since.later ?_ (by with_reducible assumption) | with_reducible refine Since.only ?_ (by with_reducible assumption) (by first | assumption | omega | (simp; done) | (simp; omega)) | with_reducible refine Since.alloc ?_ _ | with_reducible refine Since.drewN ?_ _ | with_reducible refine Since.drew ?_ | with_reducible refine Since.set ?_ (by first | assumption | omega | (simp; done) | (simp; omega)) _))⟩
      have m1' : decide (100000 < more) = false := by simpa using m1
      have hmore : 0 ≤ more := by omega
      have hmore2 : more ≤ 100000 := by omega
      clear m0 m1
      go_wp2_with fail
      refine (sLost A n cap L A2 n2 cap2 M now (wait + more) _ HN.out (HR.out.later hsw) HN2.out HB2.out (HR2.out.later hsw)).mono ?_
      rintro e w8 ⟨A8, c8, rfl, hl8, hb8⟩
      have hs8 := hs7.later hb8
      have hsw8 := hsw.later hb8
      by_cases he8 : lostE L M now (wait + more) = 0
      case neg =>
        rw [errV_pos he8]
        clear he8 hl8 hb8 hs7 hs8 hsw
        go_wp2_with fail
        go_ret
        exact ⟨rfl, (by refine Since.out ?_; repeat (first | with_reducible assumption | with_reducible exact Since.refl _ | with_reducible refine Since.later ?_ (by with_reducible assumption) | with_reducible refine Since.only ?_ (by with_reducible assumption) (by first | assumption | omega | (simp; done) | (simp; omega)) | with_reducible refine Since.alloc ?_ _ | with_reducible refine Since.drewN ?_ _ | with_reducible refine Since.drew ?_ | with_reducible refine Since.set ?_ (by first | assumption | omega | (simp; done) | (simp; omega)) _))⟩
      rw [he8, errV_zero]
      have HE8 := Lib.hid he8
      obtain ⟨Y, hY⟩ : ∃ Y, lostL L M now (wait + more) = Y := ⟨_, rfl⟩
      have HY := Lib.hid hY
      rw [hY] at hl8 ⊢
      obtain ⟨ky, hky⟩ : ∃ ky, Y.length = ky := ⟨_, rfl⟩
      rw [hky] at hl8 ⊢
      have HKY := Lib.hid hky
      have HL8 := Lib.hid hl8
      have hym := (Rd.of_lst hl8).cap_le.2
      clear he8 hY hky hl8
      go_wp2_with fail
      go_loopw [22, 23, 24] (fun s22 s23 s24 wr => ∃ i : Nat, s22 = .int .i64 i ∧ i ≤ ky ∧ Since w8 wr) (fun s22 _ _ _ => ky - (intOf s22).toNat)
      case atStart => exact ⟨0, rfl, Nat.zero_le _, Since.refl _⟩
      case round =>
        obtain ⟨i, rfl, hi, hs⟩ := hrel
        by_cases hlt : i < ky
        case neg =>
          obtain rfl : i = ky := by omega
          have hf : decide ((i : Int) < (i : Int)) = false := by simp
          have hfin := hsw8.later hs
          clear hs7 hs8 hsw hsw8 hb8
          go_wp2_with fail
          go_ret
          exact ⟨rfl, hfin⟩
        have hlt' : (i : Int) < (ky : Int) := by omega
        have hiY : i < Y.length := by rw [HKY.out]; exact hlt
        have hm0 : M.length ≠ 0 := fun h0 => by have h1 := lostL_nil (L := L) (now := now) (wait := wait + more) h0; rw [HY.out] at h1; rw [h1] at hiY; simp at hiY
        have hmem : ith Y i ∈ X := by
          rw [← HX.out, lostL_eq HE.out hm0]
          refine lost_less hmore ?_
          rw [← lostL_eq HE8.out hm0, HY.out, ith_get hiY]
          exact List.getElem_mem _
        have hint : intB X (ith Y i) kx = true := by rw [← HKX.out]; exact intB_mem hmem
        obtain ⟨A', cap', hve, hz1, hz2, hA⟩ := HL8.out.shape
        simp only [Value.slice.injEq] at hve
        obtain ⟨rfl, hz3, rfl⟩ := hve
        rcases hA with ⟨_, h0, _⟩ | ⟨qy, rfl⟩
        · have h1 : Y = [] := by simpa using h0
          rw [h1] at hiY
          simp at hiY
        have cyy : ∀ wx, Since w8 wx → wx.cell? ⟨qy, i, none⟩ = some (.int .i64 (ith Y i)) := fun wx h => intLst.at_ (HL8.out.later h) hiY
        have CY := Lib.hid cyy
        have HINT := Lib.hid hint
        generalize ith Y i = y at *
        clear hz1 hz2 hz3 cyy hint hmem hm0
        repeat ((fail_if_success (with_reducible refine stop_at 30 ?_)); first | fail | go_values | go_skip | go_guarded | go_step | go_upon | go_back | go_simp)
        obtain ⟨wq, rfl⟩ : ∃ wq : World, wq = wr := ⟨_, rfl⟩
        go_cut [23, 24] (fun s23 s24 wx => s23 = .bool true ∧ Since w8 wx)
        case first =>
          go_wp2_with fail
          go_loopw [23, 24] (fun s23 s24 wr => ∃ j : Nat, s24 = .int .i64 j ∧ j ≤ kx ∧ s23 = .bool (intB X y j) ∧ Since w8 wr) (fun _ s24 _ => kx - (intOf s24).toNat)
          case atStart => exact ⟨0, rfl, Nat.zero_le _, rfl, hs⟩
          case round =>
            obtain ⟨j, rfl, hj, rfl, hs9⟩ := hrel
            by_cases hjl : j < kx
            case neg =>
              obtain rfl : j = kx := by omega
              have hf : decide ((j : Int) < (j : Int)) = false := by simp
              rw [HINT.out]
              go_wp2_with fail
              go_meet
              case rel => exact ⟨rfl, hs9⟩
            have hjl' : (j : Int) < (kx : Int) := by omega
            have hjX : j < X.length := by rw [HKX.out]; exact hjl
            obtain ⟨A', cap', hve, hz1, hz2, hA⟩ := HL6.out.shape
            simp only [Value.slice.injEq] at hve
            obtain ⟨rfl, hz3, rfl⟩ := hve
            rcases hA with ⟨_, h0, _⟩ | ⟨qx, rfl⟩
            · have h1 : X = [] := by simpa using h0
              rw [h1] at hjX
              simp at hjX
            have cx : wr.cell? ⟨qx, j, none⟩ = some (.int .i64 (ith X j)) := intLst.at_ (HL6.out.later (hs8.later hs9)) hjX
            have cy := CY.out wr hs9
            have hst : intB X y (j + 1) = (intB X y j || ith X j == y) := rfl
            have HST := Lib.hid hst
            generalize ith X j = xj at *
            clear hz1 hz2 hz3 hst
            cases hbb : intB X y j with
            | true =>
              rw [hbb] at HST
              have HST2 := Lib.hid (show intB X y (j + 1) = true by rw [HST.out]; rfl)
              clear hbb
              go_wp2_with fail
              go_quiet (fail)
              go_wp2_with fail
              go_roundw
              case rel => exact ⟨j + 1, by go_num, by omega, by rw [HST2.out], (by refine Since.out ?_; repeat (first | with_reducible assumption | with_reducible exact Since.refl _ | with_reducible refine Since.later ?_ (by with_reducible assumption) | with_reducible refine Since.only ?_ (by with_reducible assumption) (by first | assumption | omega | (simp; done) | (simp; omega)) | with_reducible refine Since.alloc ?_ _ | with_reducible refine Since.drewN ?_ _ | with_reducible refine Since.drew ?_ | with_reducible refine Since.set ?_ (by first | assumption | omega | (simp; done) | (simp; omega)) _))⟩
              case measure => simp [intOf]; omega
            | false =>
              rw [hbb] at HST
              have HST2 := Lib.hid (show intB X y (j + 1) = (xj == y) by rw [HST.out]; rfl)
              clear hbb
              go_wp2_with fail
              go_quiet (fail)
              go_wp2_with fail
              go_roundw
              case rel => exact ⟨j + 1, by go_num, by omega, by rw [HST2.out], (by refine Since.out ?_; repeat (first | with_reducible assumption | with_reducible exact Since.refl _ | with_reducible refine Since.later ?_ (by with_reducible assumption) | with_reducible refine Since.only ?_ (by with_reducible assumption) (by first | assumption | omega | (simp; done) | (simp; omega)) | with_reducible refine Since.alloc ?_ _ | with_reducible refine Since.drewN ?_ _ | with_reducible refine Since.drew ?_ | with_reducible refine Since.set ?_ (by first | assumption | omega | (simp; done) | (simp; omega)) _))⟩
              case measure => simp [intOf]; omega
        case rest =>
          obtain ⟨wz, rfl⟩ : ∃ wz : World, wz = wc := ⟨_, rfl⟩
          obtain ⟨rfl, hs9⟩ := hcut
          clear hs
          go_wp2_with fail
          go_roundw
          case rel => exact ⟨i + 1, by go_num, by omega, hs9⟩
          case measure => simp [intOf]; omega

/-! the row -/
theorem own : ownKnob Try.prog.godebug = none := by kernel_rfl
theorem laidOut : laidOutB Try.prog = true := by kernel_rfl
set_option maxRecDepth 100000 in
theorem contract (H : Type) (enc : TypeId × Value → H) (W : World) (base : Nat) (args : Array Value) (ds gs : List (DataW H)) (before : List MemPlace)
    (hval : ∀ (j : Nat) t v, Try.f6.params[j]? = some t → args[j]? = some v → Value.okWide Try.prog W .any base t v)
    (hW : DataW.Whole enc Try.prog Try.f6.params.toList Rows.lossNeverSpec.vars false W args.toList ds gs before) :
    Calls Try.prog 6 args W fun e W' => ∃ v, e = .returned v ∧ Rows.lossNeverSpec.post enc Try.prog Try.f6 false true false false W args v W' := by
  have hW' := hW
  obtain ⟨p, q, hA0, hV, rfl, hfz, hnd⟩ := hW
  have hA : DataW.TrodAll enc Try.prog W 0 (fun _ => true) true Try.f6.params.toList args.toList ds p := hA0
  rw [Try.params6] at hA hval
  obtain ⟨v0, vs0, d0, ds0, p0, q0, hargs, rfl, rfl, h0, r0⟩ := trodAll_cons hA
  obtain ⟨v1, vs1, d1, ds1, p1, q1, rfl, rfl, rfl, h1, r1⟩ := trodAll_cons r0
  obtain ⟨v2, vs2, d2, ds2, p2, q2, rfl, rfl, rfl, h2, r2⟩ := trodAll_cons r1
  obtain ⟨v3, vs3, d3, ds3, p3, q3, rfl, rfl, rfl, h3, r3⟩ := trodAll_cons r2
  obtain ⟨v4, vs4, d4, ds4, p4, q4, rfl, rfl, rfl, h4, r4⟩ := trodAll_cons r3
  obtain ⟨rfl, rfl, rfl⟩ := trodAll_nil r4
  obtain rfl : args = #[v0, v1, v2, v3, v4] := by cases args; simp_all
  obtain ⟨rfl, rfl⟩ := trodVars_none hV
  obtain ⟨a0, len0, cap0, rfl⟩ := okWide_slice Try.underlying45 (hval 0 45 v0 rfl rfl)
  have k0 := h0
  have lt0 : ∀ x ∈ p0, x.block < W.heap.size := by obtain ⟨m, hm⟩ := k0; exact DataW.trod_lt m _ _ _ hm
  obtain ⟨z0, w0⟩ : ∃ zs, SntsIn W (.slice a0 len0 cap0) zs := by
    obtain ⟨fuel, hf⟩ := h0
    exact sntsIn_open Try.underlying45 Try.underlying54 (by kernel_rfl) rfl rfl rfl (by kernel_rfl) (by kernel_rfl) (by kernel_rfl) Try.underlying3 Try.underlying3 Try.underlying3 hf
  obtain ⟨a1, len1, cap1, rfl⟩ := okWide_slice Try.underlying29 (hval 1 29 v1 rfl rfl)
  have k1 := h1
  have lt1 : ∀ x ∈ p1, x.block < W.heap.size := by obtain ⟨m, hm⟩ := k1; exact DataW.trod_lt m _ _ _ hm
  obtain ⟨z1, w1⟩ : ∃ zs, RngsIn W (.slice a1 len1 cap1) zs := by
    obtain ⟨fuel, hf⟩ := h1
    exact rngsIn_open Try.underlying29 Try.underlying33 (by kernel_rfl) rfl rfl (by kernel_rfl) (by kernel_rfl) Try.underlying3 Try.underlying3 hf
  obtain ⟨a2, rfl, rfl, rfl, w2⟩ := open_int Try.underlying3 (hval 2 3 v2 rfl rfl) h2
  obtain ⟨a3, rfl, rfl, rfl, w3⟩ := open_int Try.underlying3 (hval 3 3 v3 rfl rfl) h3
  obtain ⟨a4, rfl, rfl, rfl, w4⟩ := open_int Try.underlying3 (hval 4 3 v4 rfl rfl) h4
  refine (walk (.slice a0 len0 cap0) z0 (.slice a1 len1 cap1) z1 a2 a3 a4 W w0 w1 w2 w3 w4).mono fun e W' ⟨he, bel⟩ => ?_
  subst he
  exact ⟨_, rfl, _, _, _, [], _, [], hW', trodAll_mk1 (shut_bool Try.underlying4 _), (trodAll_cons_mk (Below.trod laidOut (by kernel_rfl) (of_decide_eq_true (by kernel_rfl)) k0 bel lt0) (trodAll_cons_mk (Below.trod laidOut (by kernel_rfl) (of_decide_eq_true (by kernel_rfl)) k1 bel lt1) (trodAll_cons_mk (shut_int Try.underlying3 w2) (trodAll_cons_mk (shut_int Try.underlying3 w3) (trodAll_cons_mk (shut_int Try.underlying3 w4) trodAll_mk0))))), rfl, bel.frame _, fun h => by cases h⟩

set_option maxRecDepth 100000 in
theorem lifted (os : Os) (started : os.Started) (H : Type) (enc : TypeId × Value → H) :
    ReturnsInHanded {} Try.checked os 6 .any (Rows.lossNeverSpec.pre6 enc Try.prog Try.f6 Rows.lossNeverRow.domain false) (Rows.lossNeverSpec.post enc Try.prog Try.f6 false true false false) := by
  refine returnsInHanded_of_change (C := Try.checked) own started (by kernel_rfl) Try.func6
    (ChangeSpec.witness6 (enc := enc) (C := Try.checked) false ⟨#[], #[.slice none 0 0, .slice none 0 0, .int .i64 0, .int .i64 0, .int .i64 0], []⟩ 8 (by kernel_rfl) (by kernel_rfl) (by kernel_rfl) (by kernel_rfl)) ?_
  intro W base args ds gs before hval hW _ _
  exact contract H enc W base args ds gs before hval hW

theorem said : Rows.LossNeverSaid :=
  OpenClaim.holds_of_wide 6 Try.f6 rfl rfl rfl rfl rfl rfl rfl ⟨rfl, rfl, rfl, rfl, rfl⟩ rfl rfl rfl rfl rfl (by kernel_rfl) Try.func6 (by kernel_rfl)
    (of_decide_eq_true (by kernel_rfl)) (by unfold Func.isWrapper; first | (rw [if_pos (by decide +kernel)]; kernel_rfl) | (rw [if_neg (by decide +kernel)]; exact ⟨rfl, rfl⟩))
    (fun os started H enc _ => lifted os started H enc)
#print axioms said
end Go.Proofs.Ytbmfknnbpnllkaa.lossNever
