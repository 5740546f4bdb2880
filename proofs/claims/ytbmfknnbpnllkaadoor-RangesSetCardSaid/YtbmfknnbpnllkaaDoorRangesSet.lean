/- RangesSet: for every two ranges and numbers the law returns true: what is added is there, once, and counted; both are the union, either way round. No condition. -/
import Derived.Test.YtbmfknnbpnllkaaDoorBase
import Derived.Test.YtbmfknnbpnllkaaDoorMay
import Derived.Test.YtbmfknnbpnllkaaDoorRMay
import Derived.Test.YtbmfknnbpnllkaaDoorMayB
import Derived.Test.YtbmfknnbpnllkaaDoorTold
import Derived.Test.YtbmfknnbpnllkaaDoorLaid
import Derived.Test.YtbmfknnbpnllkaaDoorOnly
import Derived.Test.YtbmfknnbpnllkaaDoorSince
import Derived.Test.YtbmfknnbpnllkaaDoorRules
import Derived.Test.YtbmfknnbpnllkaaDoorErrV
import Derived.Test.YtbmfknnbpnllkaaDoorOut
import Derived.Test.YtbmfknnbpnllkaaDoorLst
import Derived.Test.YtbmfknnbpnllkaaDoorRng
import Derived.Test.YtbmfknnbpnllkaaDoorIns
import Derived.Test.YtbmfknnbpnllkaaDoorRd
import Derived.Test.YtbmfknnbpnllkaaDoorRngs
import Derived.Test.YtbmfknnbpnllkaaDoorRngLaw
import Derived.Test.YtbmfknnbpnllkaaDoorSortLay
import Derived.Test.YtbmfknnbpnllkaaDoorSort
import Derived.Test.YtbmfknnbpnllkaaDoorJoin
import Derived.Test.YtbmfknnbpnllkaaDoorAdd
import Derived.Test.YtbmfknnbpnllkaaDoorCanon
import Derived.Test.YtbmfknnbpnllkaaDoorGrow
import Derived.Test.YtbmfknnbpnllkaaDoorConcat
import Derived.Test.YtbmfknnbpnllkaaDoorBoth
import Derived.Test.YtbmfknnbpnllkaaDoorBoth2
import Derived.Test.YtbmfknnbpnllkaaDoorCount
import Derived.Test.YtbmfknnbpnllkaaDoorSet
import Derived.Deep.DeepCutAuto
import Derived.Deep.QuietTactic
import Derived.BigQuiet
import Derived.Test.YtbmfknnbpnllkaaDoorCards
import Derived.Test.YtbmfknnbpnllkaaDoorTie
import Derived.Deep.DeepHandedRow
import Derived.LaidLaws
import Derived.LaidHandle
import Derived.Deep.DeepWitnessRowRef
import Derived.Test.YtbmfknnbpnllkaaDoorRows
import Derived.WalkKit
import Derived.ProofKit
import Derived.OpenShut
import Derived.ShutString
import Derived.ChangeOld
import Derived.Below
import Derived.Lib.SmallJoins
import Derived.Deep.Slices
import Derived.Deep.Matrix
import Derived.Deep.Strs
namespace Go.Proofs.YtbmfknnbpnllkaaDoor.rangesSet
open Go.ChangeShapes Go.WideShapes Go.ChangeAt Go.RowKit
open Go.ChangeMaps (open_string shut_string)
set_option linter.unusedVariables false

noncomputable abbrev laidWorld := YtbmfknnbpnllkaaDoor.laidWorld
theorem laidMetW (os : Os) (args : Array Value) : laidMetH Tryd.prog Rows.rangesSetRow.laid ((laidWorld os).forCall (fun _ _ => 0) ⟨#[], args, []⟩).memory := laidMet_et os args
theorem laidWalk {W : World} (h : laidMetH Tryd.prog Rows.rangesSetRow.laid W) : ETok W := laid_et h
theorem rd_of_block {w : World} {g k n cap : Nat} {t : TypeId} {es : List (List Value)} (h : BlockIs w g t (flat es).toArray) (hr : ∀ e ∈ es, e.length = k ∧ ∀ u ∈ e, u.oneCell' = true) (hn : es.length = n) (hc : n ≤ cap) (hm : cap ≤ 1000000) : Rd w k (.slice (some ⟨g, 0, none⟩) n cap) es := by
  subst hn
  refine ⟨⟨_, cap, rfl, hc, by unfold maxLen; omega, fun _ => ⟨g, 0, rfl, h.lt, fun j u hu => ?_⟩⟩, hr⟩
  rw [Nat.zero_add, h.cell]
  simpa using hu
def exR : List Rng := [⟨7, 9⟩, ⟨3, 5⟩]
theorem exR_ok : rngE exR = 0 := by decide
theorem okR {L : List Rng} (h : rngE L = 0) : ∀ r ∈ L, okN r ∧ r.lo ≤ r.hi := fun r hr => ⟨rngE_ok h r hr, (rngE_canon h).ok r hr⟩
theorem okX {L : List Rng} {x : Int} (h : rngE L = 0) (hx : mayB x = true) : ∀ r ∈ L ++ [(⟨x, x⟩ : Rng)], okN r ∧ r.lo ≤ r.hi := fun r hr => by
  rcases List.mem_append.1 hr with hr | hr
  · exact okR h r hr
  · rw [List.mem_singleton.1 hr]; exact ⟨⟨mayB_iff.1 hx, mayB_iff.1 hx⟩, Int.le_refl x⟩
theorem okB {L M : List Rng} (h : rngE L = 0) (h2 : rngE M = 0) : ∀ r ∈ L ++ M, okN r ∧ r.lo ≤ r.hi := fun r hr => by
  rcases List.mem_append.1 hr with hr | hr
  · exact okR h r hr
  · exact okR h2 r hr
theorem exR_join {L' : List Rng} (hp : L'.Perm (exR ++ [⟨6, 6⟩])) (hs : L'.Pairwise (fun a b => b.hi ≤ a.hi)) : joinL L' = [⟨3, 9⟩] := by
  have h1 := joined_ok hp hs (okX exR_ok (by decide))
  refine canon_eq h1.1 ⟨by intro r hr; rw [List.mem_singleton.1 hr]; decide, by simp⟩ (fun y => ?_)
  rw [h1.2.1, Bool.eq_iff_iff, inB_iff, inB_iff]
  simp [exR]
  omega

/-- a number added: what is wrong, or what comes -/
theorem radd_any (A : Option Addr) (n cap : Nat) (L : List Rng) (x : Int) (w : World) (hn : L.length = n) (hb : ∀ r ∈ L, okI r.lo ∧ okI r.hi) (h : Rd w 2 (.slice A n cap) (L.map rngRow)) (hE : rngE L = 0) :
    Calls Tryd.prog 42 #[.slice A n cap, .int .i64 x] w fun e w' => ∃ (A' : Option Addr) (n' c' : Nat) (b : Bool) (E : Int) (J : List Rng), e = .returned (.tuple #[.slice A' n' c', .bool b, errV E]) ∧ Below w.heap.size w w' ∧
      (E = 0 → mayB x = true ∧ Canon J ∧ J.length ≤ 12 ∧ (∀ r ∈ J, okN r) ∧ (∀ y, inB J y = (inB L y || rin ⟨x, x⟩ y)) ∧ n' = J.length ∧ b = !inB L x ∧ Lst w' 74 2 (.slice A' n' c') (J.map rngRow)) := by
  cases hx : mayB x with
  | false =>
    refine (radd_out A n cap L x w hn hb h hE hx).mono ?_
    rintro e w' ⟨he, hb'⟩
    exact ⟨none, 0, 0, false, 1, [], he, hb', fun h => by cases h⟩
  | true =>
    refine (radd_ok A n cap L x w hn hb h hE hx).mono ?_
    rintro e w' ⟨L', hp, hs, hb', hr⟩
    rcases hr with ⟨_, he⟩ | ⟨hl, A', c', he, hlst, _⟩
    · exact ⟨none, 0, 0, false, 4, [], he, hb', fun h => by cases h⟩
    · obtain ⟨h1, h2, h3⟩ := joined_ok hp hs (okX hE hx)
      exact ⟨A', _, c', _, 0, joinL L', he, hb', fun _ => ⟨rfl, h1, hl, h3, fun y => by rw [h2, inB_append]; simp [inB], rfl, rfl, hlst⟩⟩

set_option maxRecDepth 100000 in
set_option maxHeartbeats 8000000 in
theorem walk (v0 : Value) (L : List Rng) (x m : Int) (v3 : Value) (K : List Rng) (w : World) (w0 : RngsIn w v0 L) (w1 : (Lit.int .i64 x).wf = true) (w2 : (Lit.int .i64 m).wf = true) (w3 : RngsIn w v3 K) (hL : ETok w) :
    Calls Tryd.prog 9 #[v0, .int .i64 x, .int .i64 m, v3] w fun e w' => e = .returned (.bool true) ∧ Below w.heap.size w w' := by
  have HET := Lib.hid hL
  obtain ⟨hb, hr⟩ := w0
  obtain ⟨A, cap, rfl, hz1, hz2, hz3⟩ := id hr.shape
  rw [List.length_map] at hr ⊢
  obtain ⟨n, hn⟩ : ∃ n, L.length = n := ⟨_, rfl⟩
  rw [hn] at hr ⊢
  have HR := Lib.hid hr
  have HN := Lib.hid hn
  have HB := Lib.hid hb
  clear hz1 hz2 hz3 hr hn hb
  obtain ⟨hb2, hr2⟩ := w3
  obtain ⟨A2, cap2, rfl, hz1, hz2, hz3⟩ := id hr2.shape
  rw [List.length_map] at hr2 ⊢
  obtain ⟨n2, hn2⟩ : ∃ n2, K.length = n2 := ⟨_, rfl⟩
  rw [hn2] at hr2 ⊢
  have HR2 := Lib.hid hr2
  have HN2 := Lib.hid hn2
  have HB2 := Lib.hid hb2
  clear hz1 hz2 hz3 hr2 hn2 hb2 w1 w2 hL
  go_enter Tryd.func9, Tryd.ntmps9
  go_wp2_with fail
  refine (radd_ok _ 2 2 exR 6 _ rfl (by intro r hr; simp [exR] at hr; rcases hr with rfl | rfl <;> (show okI _ ∧ okI _; unfold okI; simp)) (rd_of_block (BlockIs.fresh w _ _) (fun e he => by obtain ⟨a, _, rfl⟩ := List.mem_map.1 he; exact rngRow_one a) rfl (by omega) (by omega)) exR_ok (by decide)).mono ?_
  rintro e w1 ⟨L1, hp1, hq1, hb1, h1⟩
  rw [exR_join hp1 hq1] at h1
  rcases h1 with ⟨h1, _⟩ | ⟨_, A1, c1, rfl, hl1, hk1⟩
  · simp at h1
  rw [show ([(⟨3, 9⟩ : Rng)]).length = 1 from rfl, show (!inB exR 6) = true by decide, errV_zero] at *
  obtain ⟨A', cap', hve, hz1, hz2, hA⟩ := hl1.shape
  simp only [List.map_cons, List.map_nil, List.length_cons, List.length_nil, Value.slice.injEq] at hve
  obtain ⟨rfl, hz3, rfl⟩ := hve
  rcases hA with ⟨_, h0, _⟩ | ⟨q1, rfl⟩
  · simp at h0
  have d1 : w1.cell? ⟨q1, 0, none⟩ = some (.int .i64 3) := hl1.cell rfl (i := 0) (j := 0) rfl rfl
  have d2 : w1.cell? ⟨q1, 1, none⟩ = some (.int .i64 9) := hl1.cell rfl (i := 0) (j := 1) rfl rfl
  have hs1 : Since w w1 := ((Since.refl w).alloc _).later hb1
  clear hl1 hk1 hz1 hz2 hz3 hb1 hp1 hq1
  go_wp2_with fail
  refine (rhas A n cap L m _ HN.out HB.out (HR.out.later hs1)).mono ?_
  rintro e w2 ⟨rfl, hb2⟩
  have hs2 := hs1.later hb2
  clear hb2 d1 d2
  by_cases hH : hasE L m = 0
  case neg =>
    rw [errV_pos hH]
    clear hH
    go_wp2_with fail
    go_ret
    exact ⟨rfl, (by refine Since.out ?_; repeat (first | with_reducible assumption | with_reducible exact Since.refl _ | with_reducible refine Since.later ?_ (by with_reducible assumption) | with_reducible refine Since.only ?_ (by with_reducible assumption) (by first | assumption | omega | (simp; done) | (simp; omega)) | with_reducible refine Since.alloc ?_ _ | with_reducible refine Since.drewN ?_ _ | with_reducible refine Since.drew ?_ | with_reducible refine Since.set ?_ (by first | assumption | omega | (simp; done) | (simp; omega)) _))⟩
  have hm : mayB m = true := by
    cases hx : mayB m with
    | true => rfl
    | false => unfold hasE at hH; rw [hx] at hH; cases hH
  have hE : rngE L = 0 := by unfold hasE at hH; rw [hm] at hH; exact hH
  rw [hH, errV_zero, show (decide ((0 : Int) = 0) && inB L m) = inB L m by simp]
  have HM := Lib.hid hm
  have HE := Lib.hid hE
  clear hH hm hE
  go_wp2_with fail
  refine (radd_any A n cap L x _ HN.out HB.out (HR.out.later hs2) HE.out).mono ?_
  rintro e w3 ⟨A3, n3, c3, b3, E3, J, rfl, hb3, hj⟩
  have hs3 := hs2.later hb3
  have HJ := Lib.hid hj
  clear hb3 hj hs1 hs2
  repeat ((fail_if_success (with_reducible refine stop_at 8 ?_)); first | fail | go_values | go_skip | go_guarded | go_step | go_upon | go_back | go_simp)
  go_cut [15, 16, 17, 18, 19, 20] (fun s15 s16 s17 s18 s19 s20 wx => Since w wx)
  case first =>
    as_aux_lemma =>
      by_cases hg : E3 = 0
      case neg =>
        rw [errV_pos hg] at *
        go_wp2_with fail
        go_meet
        exact hs3
      subst hg
      rw [errV_zero] at *
      obtain ⟨hx, hc, hl, hok, hin, rfl, rfl, hlst⟩ := HJ.out rfl
      have hEJ : rngE J = 0 := canon_rngE hc hl hok
      have hbJ : ∀ r ∈ J, okI r.lo ∧ okI r.hi := fun r hr => by
        obtain ⟨⟨p1, p2⟩, p3, p4⟩ := hok r hr
        unfold okI
        omega
      have hxx := mayB_iff.1 hx
      unfold MayBe at hxx
      have hcnt : cntL J = cntL L + if inB L x = true then 0 else 1 := cnt_more (N := 1073741824) (rngE_canon HE.out) hc (fun r hr => by have := rngE_ok HE.out r hr; omega) (fun r hr => by have := hok r hr; omega) hxx.1 (by omega) hin
      have hcl := cntL_le (rngE_ok HE.out) L.length (Nat.le_refl _)
      rw [List.take_length, HN.out] at hcl
      have hl12 : n ≤ 12 := by rw [← HN.out]; exact rngE_len HE.out
      have hHJ : hasE J m = 0 := by unfold hasE; rw [HM.out, if_pos rfl]; exact hEJ
      have hinm := hin m
      have HBJ := Lib.hid hbJ
      have HEJ := Lib.hid hEJ
      have HLJ := Lib.hid hlst
      have HCN := Lib.hid hcnt
      have HIN := Lib.hid hinm
      have HHJ := Lib.hid hHJ
      clear hx hc hl hok hin hEJ hbJ hcnt hlst hinm hHJ HJ hxx
      go_wp2_with fail
      refine (rhas A3 J.length c3 J m _ rfl HBJ.out (Rd.of_lst HLJ.out)).mono ?_
      rintro e w4 ⟨rfl, hb4⟩
      rw [HHJ.out, errV_zero, show (decide ((0 : Int) = 0) && inB J m) = inB J m by simp, HIN.out]
      have hs4 := hs3.later hb4
      have HL4 := Lib.hid (HLJ.out.later hb4)
      clear hb4 hs3
      go_wp2_with fail
      refine (rcount A n cap L _ HN.out HB.out (HR.out.later hs4) HE.out).mono ?_
      rintro e w5 ⟨rfl, hb5⟩
      rw [errV_zero]
      have hs5 := hs4.later hb5
      have HL5 := Lib.hid (HL4.out.later hb5)
      clear hb5 hs4
      go_wp2_with fail
      refine (rcount A3 J.length c3 J _ rfl HBJ.out (Rd.of_lst HL5.out) HEJ.out).mono ?_
      rintro e w6 ⟨rfl, hb6⟩
      rw [errV_zero, HCN.out]
      have hs6 := hs5.later hb6
      clear hb6 hs5
      have hw : IntKind.i64.wrap (cntL L + 1) = cntL L + 1 := by simp [IntKind.wrap, IntKind.bits, IntKind.signed]; omega
      generalize cntL L = c at *
      generalize inB L x = bx at *
      generalize inB L m = bm at *
      have hrin : rin ⟨x, x⟩ m = (m == x) := by
        unfold rin
        rw [Bool.eq_iff_iff]
        simp
        omega
      rw [hrin]
      obtain ⟨bq, hq⟩ : ∃ bq, (m == x) = bq := ⟨_, rfl⟩
      rw [hq]
      have hc1 : (c + 1 == c) = false := by simp; omega
      have hc2 : (c == c + 1) = false := by simp; omega
      cases bx <;> cases bm <;> cases bq <;> simp only [Bool.false_eq_true, if_false, if_true, Int.add_zero, Bool.or_false, Bool.or_true, Bool.not_true, Bool.not_false]
      all_goals
        go_wp2_with fail
        go_meet
        exact hs6
  case rest =>
    have hsx := hcut
    clear hs3 HJ
    go_wp2_with fail
    refine (rhas A2 n2 cap2 K m _ HN2.out HB2.out (HR2.out.later hsx)).mono ?_
    rintro e w4 ⟨rfl, hb4⟩
    have hs4 := hsx.later hb4
    clear hb4 hsx
    by_cases hH : hasE K m = 0
    case neg =>
      rw [errV_pos hH]
      clear hH
      go_wp2_with fail
      go_ret
      exact ⟨rfl, (by refine Since.out ?_; repeat (first | with_reducible assumption | with_reducible exact Since.refl _ | with_reducible refine Since.later ?_ (by with_reducible assumption) | with_reducible refine Since.only ?_ (by with_reducible assumption) (by first | assumption | omega | (simp; done) | (simp; omega)) | with_reducible refine Since.alloc ?_ _ | with_reducible refine Since.drewN ?_ _ | with_reducible refine Since.drew ?_ | with_reducible refine Since.set ?_ (by first | assumption | omega | (simp; done) | (simp; omega)) _))⟩
    have hE2 : rngE K = 0 := by unfold hasE at hH; rw [HM.out] at hH; exact hH
    rw [hH, errV_zero, show (decide ((0 : Int) = 0) && inB K m) = inB K m by simp]
    have HE2 := Lib.hid hE2
    clear hH hE2
    go_wp2_with fail
    refine (rboth_ok A A2 n n2 cap cap2 L K _ HN.out HN2.out HB.out HB2.out (HR.out.later hs4) (HR2.out.later hs4) HE.out HE2.out).mono ?_
    rintro e w5 ⟨P1, hp1, hq1, hb5, h5⟩
    have hs5 := hs4.later hb5
    obtain ⟨hc, hin, hok⟩ := joined_ok hp1 hq1 (okB HE.out HE2.out)
    have HJ2 : Hid (∀ M' : List Rng, M'.Perm (K ++ L) → M'.Pairwise (fun a b => b.hi ≤ a.hi) → joinL M' = joinL P1) := Lib.hid (fun M' h1 h2 => (joined_eq hp1 hq1 h1 h2 (okB HE.out HE2.out)).symm)
    clear hp1 hq1 hb5 hs4
    generalize joinL P1 = J1 at *
    rcases h5 with ⟨hl, rfl⟩ | ⟨hl, A5, c5, rfl, hl5, _⟩
    · rw [show errV 4 = .iface 98 (.int .i64 4) from rfl]
      go_wp2_with fail
      refine (rboth_ok A2 A n2 n cap2 cap K L _ HN2.out HN.out HB2.out HB.out (HR2.out.later hs5) (HR.out.later hs5) HE2.out HE.out).mono ?_
      rintro e w6 ⟨P2, hp2, hq2, hb6, h6⟩
      have hs6 := hs5.later hb6
      have e2 := HJ2.out P2 hp2 hq2
      rw [e2] at h6
      rcases h6 with ⟨_, rfl⟩ | ⟨hl2, _⟩
      · rw [show errV 4 = .iface 98 (.int .i64 4) from rfl]
        have h4 : ∀ W : World, Since w W → Calls Tryd.prog 13 #[.iface 98 (.int .i64 4), .int .i64 4] W fun e w' => e = .returned (.bool true) ∧ Below W.heap.size W w' := fun W hW => same_yes 4 W (HET.out.later hW)
        have H4 := Lib.hid h4
        clear h4 HJ2
        go_wp2_with fail
        refine (H4.out _ hs6).mono ?_
        rintro e w7 ⟨rfl, hb7⟩
        have hs7 := hs6.later hb7
        go_wp2_with fail
        refine (H4.out _ hs7).mono ?_
        rintro e w8 ⟨rfl, hb8⟩
        have hs8 := hs7.later hb8
        go_wp2_with fail
        go_ret
        exact ⟨rfl, hs8⟩
      · omega
    · rw [errV_zero]
      have HL5 := Lib.hid hl5
      clear hl5
      go_wp2_with fail
      refine (rboth_ok A2 A n2 n cap2 cap K L _ HN2.out HN.out HB2.out HB.out (HR2.out.later hs5) (HR.out.later hs5) HE2.out HE.out).mono ?_
      rintro e w6 ⟨P2, hp2, hq2, hb6, h6⟩
      have hs6 := hs5.later hb6
      have e2 := HJ2.out P2 hp2 hq2
      rw [e2] at h6
      rcases h6 with ⟨hl2, _⟩ | ⟨_, A6, c6, rfl, hl6, _⟩
      · omega
      · rw [errV_zero]
        have HL6 := Lib.hid hl6
        have HL5b := Lib.hid (HL5.out.later hb6)
        have hbJ : ∀ r ∈ J1, okI r.lo ∧ okI r.hi := fun r hr => by
          obtain ⟨⟨p1, p2⟩, p3, p4⟩ := hok r hr
          unfold okI
          omega
        have hEJ : rngE J1 = 0 := canon_rngE hc hl hok
        have hHJ : hasE J1 m = 0 := by unfold hasE; rw [HM.out, if_pos rfl]; exact hEJ
        have hinm : inB J1 m = (inB L m || inB K m) := by rw [hin, inB_append]
        have HBJ := Lib.hid hbJ
        have HEJ := Lib.hid hEJ
        have HHJ := Lib.hid hHJ
        have HIN := Lib.hid hinm
        have HJL := Lib.hid hl
        clear hbJ hEJ hHJ hinm hin hok hc hl HJ2 hl6
        go_wp2_with fail
        refine (rhas A5 J1.length c5 J1 m _ rfl HBJ.out (Rd.of_lst HL5b.out)).mono ?_
        rintro e w7 ⟨rfl, hb7⟩
        rw [HHJ.out, errV_zero, show (decide ((0 : Int) = 0) && inB J1 m) = inB J1 m by simp, HIN.out]
        have hs7 := hs6.later hb7
        have HL7 := Lib.hid (HL5b.out.later hb7)
        have HM7 := Lib.hid (HL6.out.later hb7)
        clear hb7 hs6
        generalize inB L m = bl at *
        generalize inB K m = bk at *
        cases bl <;> cases bk <;> simp only [Bool.or_false, Bool.or_true]
        all_goals
          go_wp2_with (first | (go_at_call 20; refine (rngeq A5 A6 c5 c6 J1.length J1 _ rfl HL7.out HM7.out (by have := HJL.out; omega)).mono ?_; rintro e w8 ⟨rfl, hb8⟩; have hs8 := hs7.later hb8) | (go_at_call 39; refine (rcheck A5 J1.length c5 J1 _ rfl HBJ.out (Rd.of_lst (HL7.out.later hb8))).mono ?_; rintro e w9 ⟨rfl, hb9⟩; rw [HEJ.out, errV_zero]))
          go_ret
          exact ⟨rfl, hs8.later hb9⟩

/-! the row -/
theorem own : ownKnob Tryd.prog.godebug = none := by kernel_rfl
theorem laidOut : laidOutB Tryd.prog = true := by kernel_rfl
set_option maxRecDepth 100000 in
theorem contract (H : Type) (enc : TypeId × Value → H) (W : World) (base : Nat) (args : Array Value) (ds gs : List (DataW H)) (before : List MemPlace)
    (hval : ∀ (j : Nat) t v, Tryd.f9.params[j]? = some t → args[j]? = some v → Value.okWide Tryd.prog W .any base t v)
    (hW : DataW.Whole enc Tryd.prog Tryd.f9.params.toList Rows.rangesSetSpec.vars false W args.toList ds gs before) (hL : laidMetH Tryd.prog Rows.rangesSetRow.laid W) :
    Calls Tryd.prog 9 args W fun e W' => ∃ v, e = .returned v ∧ Rows.rangesSetSpec.post enc Tryd.prog Tryd.f9 false true false false W args v W' := by
  have hW' := hW
  obtain ⟨p, q, hA0, hV, rfl, hfz, hnd⟩ := hW
  have hA : DataW.TrodAll enc Tryd.prog W 0 (fun _ => true) true Tryd.f9.params.toList args.toList ds p := hA0
  rw [Tryd.params9] at hA hval
  obtain ⟨v0, vs0, d0, ds0, p0, q0, hargs, rfl, rfl, h0, r0⟩ := trodAll_cons hA
  obtain ⟨v1, vs1, d1, ds1, p1, q1, rfl, rfl, rfl, h1, r1⟩ := trodAll_cons r0
  obtain ⟨v2, vs2, d2, ds2, p2, q2, rfl, rfl, rfl, h2, r2⟩ := trodAll_cons r1
  obtain ⟨v3, vs3, d3, ds3, p3, q3, rfl, rfl, rfl, h3, r3⟩ := trodAll_cons r2
  obtain ⟨rfl, rfl, rfl⟩ := trodAll_nil r3
  obtain rfl : args = #[v0, v1, v2, v3] := by cases args; simp_all
  obtain ⟨rfl, rfl⟩ := trodVars_none hV
  obtain ⟨a0, len0, cap0, rfl⟩ := okWide_slice Tryd.underlying35 (hval 0 35 v0 rfl rfl)
  have k0 := h0
  have lt0 : ∀ x ∈ p0, x.block < W.heap.size := by obtain ⟨m, hm⟩ := k0; exact DataW.trod_lt m _ _ _ hm
  obtain ⟨z0, w0⟩ : ∃ zs, RngsIn W (.slice a0 len0 cap0) zs := by
    obtain ⟨fuel, hf⟩ := h0
    exact rngsIn_open Tryd.underlying35 Tryd.underlying74 (by kernel_rfl) rfl rfl (by kernel_rfl) (by kernel_rfl) Tryd.underlying3 Tryd.underlying3 hf
  obtain ⟨a1, rfl, rfl, rfl, w1⟩ := open_int Tryd.underlying3 (hval 1 3 v1 rfl rfl) h1
  obtain ⟨a2, rfl, rfl, rfl, w2⟩ := open_int Tryd.underlying3 (hval 2 3 v2 rfl rfl) h2
  obtain ⟨a3, len3, cap3, rfl⟩ := okWide_slice Tryd.underlying35 (hval 3 35 v3 rfl rfl)
  have k3 := h3
  have lt3 : ∀ x ∈ p3, x.block < W.heap.size := by obtain ⟨m, hm⟩ := k3; exact DataW.trod_lt m _ _ _ hm
  obtain ⟨z3, w3⟩ : ∃ zs, RngsIn W (.slice a3 len3 cap3) zs := by
    obtain ⟨fuel, hf⟩ := h3
    exact rngsIn_open Tryd.underlying35 Tryd.underlying74 (by kernel_rfl) rfl rfl (by kernel_rfl) (by kernel_rfl) Tryd.underlying3 Tryd.underlying3 hf
  have lw := laidWalk hL
  refine (walk (.slice a0 len0 cap0) z0 a1 a2 (.slice a3 len3 cap3) z3 W w0 w1 w2 w3 lw).mono fun e W' ⟨he, bel⟩ => ?_
  subst he
  exact ⟨_, rfl, _, _, _, [], _, [], hW', trodAll_mk1 (shut_bool Tryd.underlying4 _), (trodAll_cons_mk (Below.trod laidOut (by kernel_rfl) (of_decide_eq_true (by kernel_rfl)) k0 bel lt0) (trodAll_cons_mk (shut_int Tryd.underlying3 w1) (trodAll_cons_mk (shut_int Tryd.underlying3 w2) (trodAll_cons_mk (Below.trod laidOut (by kernel_rfl) (of_decide_eq_true (by kernel_rfl)) k3 bel lt3) trodAll_mk0)))), rfl, bel.frame _, fun h => by cases h⟩

theorem reads (os : Os) {H : Type} (enc : TypeId × Value → H) : ∃ places, DataW.whole enc Tryd.prog ((laidWorld os).forCall (fun _ _ => 0) ⟨#[], #[.slice none 0 0, .int .i64 0, .int .i64 0, .slice none 0 0], []⟩).memory Tryd.f9.params.toList Rows.rangesSetSpec.vars false (#[.slice none 0 0, .int .i64 0, .int .i64 0, .slice none 0 0] : Array Value).toList 8 = some ([.nil, .lit (.int .i64 0), .lit (.int .i64 0), .nil], [], places) :=
  ⟨[], by kernel_rfl⟩
theorem laid_met (os : Os) : laidMetH Tryd.prog Rows.rangesSetRow.laid ((laidWorld os).forCall (fun _ _ => 0) ⟨#[], #[.slice none 0 0, .int .i64 0, .int .i64 0, .slice none 0 0], []⟩).memory := laidMetW os _

set_option maxRecDepth 100000 in
theorem lifted (os : Os) (started : os.Started) (H : Type) (enc : TypeId × Value → H) (F : Stop.Interp) :
    ReturnsInHanded {} Tryd.checked os 9 .any ((OpenSpec.ofChange Rows.rangesSetSpec).preRow enc Tryd.prog Tryd.f9 Rows.rangesSetRow.domain false Rows.rangesSetRow.laid) (((OpenSpec.ofChange Rows.rangesSetSpec).at F).post enc Tryd.prog Tryd.f9 false true false false) := by
  obtain ⟨places, hx⟩ := reads os enc
  refine returnsInHanded_of_row (C := Tryd.checked) (s := OpenSpec.ofChange Rows.rangesSetSpec) own started (by kernel_rfl) Tryd.func9
    (witness_row_at (enc := enc) (C := Tryd.checked) false (laidWorld os) #[.slice none 0 0, .int .i64 0, .int .i64 0, .slice none 0 0] rfl (by kernel_rfl) (by kernel_rfl) (by kernel_rfl)
      (OpenSpec.preRow_of_cond 8 hx (by kernel_rfl) (fun k hk => by cases hk) (by kernel_rfl) (laid_met os))) ?_
  intro W base args ds gs before hval hW _ _ _ hL _ _
  exact contract H enc W base args ds gs before hval hW hL

theorem said : Rows.RangesSetSaid :=
  OpenClaim.holds_of_cond 9 Tryd.f9 rfl rfl rfl rfl rfl rfl rfl ⟨rfl, rfl, rfl, rfl, rfl⟩ rfl rfl rfl rfl rfl (by kernel_rfl) Tryd.func9 (by kernel_rfl)
    (of_decide_eq_true (by kernel_rfl)) (by unfold Func.isWrapper; first | (rw [if_pos (by decide +kernel)]; kernel_rfl) | (rw [if_neg (by decide +kernel)]; exact ⟨rfl, rfl⟩))
    (fun os started H enc _ F => by rw [OpenClaim.pre_eq_preRow]; exact lifted os started H enc F)

theorem plain (f : FuncId) (fn : Func) (hf : Tryd.pinned.checked.prog.funcNamed "wanderwire/wirelaw1.RangesSet" = some f) (hfn : Tryd.pinned.checked.prog.funcs[f]? = some fn) :
    true = Tryd.pinned.checked.prog.looks [] ∧ ∀ (j : Nat) t, fn.params[j]? = some t → Tryd.pinned.checked.prog.wantsStandIn t = false := by
  obtain rfl : f = 9 := Option.some.inj ((show Tryd.prog.funcNamed "wanderwire/wirelaw1.RangesSet" = some 9 by kernel_rfl).symm.trans hf) |>.symm
  obtain rfl : fn = Tryd.f9 := (Option.some.inj (Tryd.func9.symm.trans hfn)).symm
  refine ⟨by kernel_rfl, fun j t ht => ?_⟩
  rw [Tryd.params9] at ht
  have ht' := Array.mem_of_getElem? ht
  have hall : (([35, 3, 3, 35] : List Nat).all fun t => !Tryd.prog.wantsStandIn t) = true := by kernel_rfl
  have hq := List.all_eq_true.1 hall t (by simpa using ht')
  have hq2 : Tryd.prog.wantsStandIn t = false := by simpa using hq
  exact hq2

theorem card : Rows.RangesSetCardSaid :=
  Claim7.holds_tied_plain_at .later [] _ _ _ _ said (fun _ h => by cases h) (by kernel_rfl) (fun _ h => by cases h) rangesSet_row_tie rfl ⟨rfl, rfl⟩ (by kernel_rfl) rfl plain (by kernel_rfl)
#print axioms card
end Go.Proofs.YtbmfknnbpnllkaaDoor.rangesSet
