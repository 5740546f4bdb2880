/- The walk and the row of TopFlight: for every packets, ranges and times the law returns true: as many bytes come off the window as came or were lost, and what is left is what the rest is. Condition: the tables of kinds and counts hold what the program's text lays (the row lists them, the card ties them). -/
import Derived.Test.YtaindcicloapfaaGreatDoorZK
import Derived.StillTailTactics
import Derived.Deep.QuietTactic
import Derived.BigQuiet
import Derived.Deep.DeepHandedRow
import Derived.LaidLaws
import Derived.LaidHandle
import Derived.Deep.DeepWitnessRowRef
import Derived.Test.YtaindcicloapfaaGreatDoorRows
import Derived.WalkKit
import Derived.ProofKit
import Derived.OpenShut
import Derived.ShutString
import Derived.ChangeOld
import Derived.Below
import Derived.Lib.SmallJoins
import Derived.Deep.Slices
import Derived.Deep.Matrix
import Derived.Deep.Strs
namespace Go.Proofs.YtaindcicloapfaaGreatDoor.topFlight
open Go.ChangeShapes Go.WideShapes Go.ChangeAt Go.RowKit
open Go.ChangeMaps (open_string shut_string)
set_option linter.unusedVariables false

noncomputable abbrev laidWorld := YtaindcicloapfaaGreatDoor.laidWorld2
theorem laidMetW (os : Os) (args : Array Value) : laidMetH Tryz.prog Rows.topFlightRow.laid ((laidWorld os).forCall (fun _ _ => 0) ⟨#[], args, []⟩).memory := laidMet_kc os args
theorem laidWalk {W : World} (h : laidMetH Tryz.prog Rows.topFlightRow.laid W) : KTab W ∧ CTab W := laid_kc h
def q1 : EnS := (EnS.new 9).write ⟨#[113]⟩
theorem q1_eq : q1 = { EnS.new 9 with data := ⟨#[113]⟩ } := (new_write (n := 9) (d := ⟨#[113]⟩) (by decide)).1
theorem q1_ok : EnOk q1 := (EnOk.new (by decide) (by decide)).write ⟨#[113]⟩
theorem fact_take : (EnS.new 9).takeE q1.packet = 0 := by
  rw [(first_take q1_ok (by rw [q1_eq]; rfl) (by rw [q1_eq]; rfl) rfl).1, q1_eq]
  decide
theorem fact_read : ((EnS.new 9).take q1.packet).readS 5 = ⟨#[113]⟩ := by
  rw [(first_take q1_ok (by rw [q1_eq]; rfl) (by rw [q1_eq]; rfl) rfl).2, q1_eq]
  decide
theorem pk_size {x : EnS} (h : EnOk x) (hm : x.made.length ≤ 1000000) : (ByteArray.mk x.packet.toArray).size ≤ 9223372036854775000 := by
  have := (h.packetOk hm).2.2
  show x.packet.toArray.size ≤ _
  rw [List.size_toArray]; omega
theorem etakeP (g : Nat) (s x : EnS) (w : World) (S : List Nat) (h : (endT g s).is w S) (hK : KTab w) (hC : CTab w) (h1000 : s.made.length ≤ 1000) (hx : EnOk x) (hm : x.made.length ≤ 1000000) :
    Calls Tryz.prog 18 #[.pointer (some ⟨g, 0, none⟩), .string ⟨x.packet.toArray⟩] w fun e w' => e = .returned (errV (s.takeE x.packet)) ∧ Leaves w w' S (endT g (s.take x.packet)) := by
  have h1 := etake g s ⟨x.packet.toArray⟩ w S h hK hC h1000 (pk_size hx hm)
  simp only at h1
  exact h1
set_option maxRecDepth 100000 in
set_option maxHeartbeats 3200000 in
theorem one_yes (w : World) (hkc : KTab w ∧ CTab w) : Calls Tryz.prog 37 #[] w fun e w' => e = .returned (.bool true) ∧ Below w.heap.size w w' := by
  have HK := Lib.hid hkc.1
  have HC := Lib.hid hkc.2
  have F1 := Lib.hid fact_take
  have F2 := Lib.hid fact_read
  have FW : Hid ((EnS.new 9).writeE ⟨#[113]⟩ = 0) := Lib.hid (new_write (n := 9) (d := ⟨#[113]⟩) (by decide)).2
  clear hkc
  go_enter Tryz.func37, Tryz.ntmps37
  go_wp2_with fail
  refine (enew 9 (by decide) (by decide) _).mono ?_
  rintro e w1 ⟨g1, rfl, hl⟩
  have HW1 : Hid (Own w [] w1 [endT g1 (EnS.new 9)]) := Lib.hid ((Own.start w).made hl)
  clear hl
  go_wp2_with fail
  refine (enew 9 (by decide) (by decide) _).mono ?_
  rintro e w2 ⟨g2, rfl, hl⟩
  have HW2 : Hid (Own w [] w2 [endT g1 (EnS.new 9), endT g2 (EnS.new 9)]) := Lib.hid (HW1.out.made hl)
  clear hl HW1
  obtain ⟨S, hS, up⟩ := HW2.out.at_ 0 rfl
  go_wp2_with fail
  refine (ewrite g1 (EnS.new 9) ⟨#[113]⟩ _ S hS (by decide)).mono ?_
  rintro e w3 ⟨rfl, hl⟩
  rw [FW.out, errV_zero]
  have HW3 : Hid (Own w [] w3 [endT g1 q1, endT g2 (EnS.new 9)]) := Lib.hid (up _ _ hl)
  clear hl HW2 hS up
  obtain ⟨S, hS, up⟩ := HW3.out.at_ 0 rfl
  go_wp2_with fail
  refine (emake g1 q1 _ S hS (HK.out.later HW3.out.since) (by rw [q1_eq]; show 0 ≤ 1000; omega)).mono ?_
  rintro e w4 ⟨rfl, hl⟩
  have HW4 : Hid (Own w [] w4 [endT g1 q1.make, endT g2 (EnS.new 9)]) := Lib.hid (up _ _ hl)
  clear hl HW3 hS up
  obtain ⟨S, hS, up⟩ := HW4.out.at_ 1 rfl
  go_wp2_with fail
  refine (etakeP g2 (EnS.new 9) q1 _ S hS (HK.out.later HW4.out.since) (HC.out.later HW4.out.since) (by show 0 ≤ 1000; omega) q1_ok (by rw [q1_eq]; show 0 ≤ 1000000; omega)).mono ?_
  rintro e w5 ⟨rfl, hl⟩
  rw [F1.out, errV_zero]
  have HW5 : Hid (Own w [] w5 [endT g1 q1.make, endT g2 ((EnS.new 9).take q1.packet)]) := Lib.hid (up _ _ hl)
  clear hl HW4 hS up
  obtain ⟨S, hS, up⟩ := HW5.out.at_ 1 rfl
  go_wp2_with fail
  refine (eread g2 ((EnS.new 9).take q1.packet) 5 _ S hS).mono ?_
  rintro e w6 ⟨rfl, hl⟩
  rw [show EnS.readE 5 = 0 from rfl, errV_zero, F2.out]
  have HW6 := Lib.hid (up _ _ hl)
  clear hl HW5 hS up
  go_wp2_with fail
  go_ret
  exact ⟨rfl, HW6.out.since⟩
theorem sums (L : List Snt) : ∀ n, n ≤ L.length → zs (L.take n) + zs (L.drop n) = zs L := fun n _ => by rw [← zs_app, List.take_append_drop]
theorem take_step {L : List Snt} {i : Nat} (h : i < L.length) : zs (L.take (i + 1)) = zs (L.take i) + (sat L i).z := by
  rw [List.take_succ_eq_append_getElem h, zs_app, sat_get h]
  show _ + (L[i].z + 0) = _
  omega
theorem take_bound {L : List Snt} (h : sntE L = 0) {i : Nat} (hi : i ≤ L.length) : 0 ≤ zs (L.take i) ∧ zs (L.take i) ≤ 6000 := by
  have hl := snt_len h
  have := zs_bound (L := L.take i) (fun s hs => (snt_all h s (List.mem_of_mem_take hs)).2.2.2.2)
  rw [List.length_take] at this
  omega

set_option maxRecDepth 100000 in
set_option maxHeartbeats 8000000 in
theorem walk (v0 : Value) (L : List Snt) (v1 : Value) (M : List Rng) (now t : Int) (w : World) (w0 : SntsIn w v0 L) (w1 : RngsIn w v1 M) (w2 : (Lit.int .i64 now).wf = true) (w3 : (Lit.int .i64 t).wf = true) (hL : KTab w ∧ CTab w) :
    Calls Tryz.prog 7 #[v0, v1, .int .i64 now, .int .i64 t] w fun e w' => e = .returned (.bool true) ∧ Below w.heap.size w w' := by
  have HONE := Lib.hid (one_yes w hL)
  obtain ⟨hb, hr⟩ := w0
  obtain ⟨A, cap, rfl, hz1, hz2, hz3⟩ := id hr.shape
  rw [List.length_map] at hr ⊢
  obtain ⟨n, hn⟩ : ∃ n, L.length = n := ⟨_, rfl⟩
  rw [hn] at hr ⊢
  have HR := Lib.hid hr
  have HN := Lib.hid hn
  clear hz1 hz2 hz3 hr hn hb
  obtain ⟨hb2, hr2⟩ := w1
  obtain ⟨A2, cap2, rfl, hz1, hz2, hz3⟩ := id hr2.shape
  rw [List.length_map] at hr2 ⊢
  obtain ⟨n2, hn2⟩ : ∃ n2, M.length = n2 := ⟨_, rfl⟩
  rw [hn2] at hr2 ⊢
  have HR2 := Lib.hid hr2
  have HN2 := Lib.hid hn2
  have HB2 := Lib.hid hb2
  clear hz1 hz2 hz3 hr2 hn2 hb2 w2 w3 hL
  go_enter Tryz.func7, Tryz.ntmps7
  go_wp2_with fail
  refine HONE.out.mono ?_
  rintro e w1 ⟨rfl, hb1⟩
  have hs1 : Since w w1 := hb1
  clear HONE hb1
  by_cases ht : 1 ≤ t ∧ t ≤ 100000
  case neg =>
    go_wp2_with fail
    refine (first_no t ht _).mono ?_
    rintro e w2 ⟨rfl, rfl⟩
    clear ht
    go_wp2_with fail
    go_ret
    exact ⟨rfl, (by refine Since.out ?_; repeat (first | with_reducible assumption | with_reducible exact Since.refl _ | with_reducible refine Since.later ?_ (by with_reducible assumption) | with_reducible refine Since.only ?_ (by with_reducible assumption) (by first | assumption | omega | (simp; done) | (simp; omega)) | with_reducible refine Since.alloc ?_ _ | with_reducible refine Since.drewN ?_ _ | with_reducible refine Since.drew ?_ | with_reducible refine Since.set ?_ (by first | assumption | omega | (simp; done) | (simp; omega)) _))⟩
  obtain ⟨t1, t2⟩ := ht
  have htr : TRight (8 * t) (4 * t) t := ⟨by omega, by omega, by omega, by omega, by omega, by omega⟩
  have HTR := Lib.hid htr
  obtain ⟨wt, hwt⟩ : ∃ x, waitN (8 * t) (4 * t) = x := ⟨_, rfl⟩
  have hwt2 : t < wt ∧ wt ≤ 1000000 := by rw [← hwt]; unfold waitN; split <;> omega
  have HWT := Lib.hid (fun W => wait_yes (8 * t) (4 * t) t htr W)
  rw [hwt] at HWT
  obtain ⟨hwt3, hwt4⟩ := hwt2
  have hwt5 : decide (wt ≤ t) = false := by simp; omega
  clear hwt htr
  go_wp2_with fail
  refine (first_yes t t1 t2 _).mono ?_
  rintro e w2 ⟨rfl, rfl⟩
  go_wp2_with fail
  refine (HWT.out _).mono ?_
  rintro e w3 ⟨rfl, hb3⟩
  have hs3 : Since w w3 := (by refine Since.out ?_; repeat (first | with_reducible assumption | with_reducible exact Since.refl _ | with_reducible refine Since.later ?_ (by with_reducible assumption) | with_reducible refine Since.only ?_ (by with_reducible assumption) (by first | assumption | omega | (simp; done) | (simp; omega)) | with_reducible refine Since.alloc ?_ _ | with_reducible refine Since.drewN ?_ _ | with_reducible refine Since.drew ?_ | with_reducible refine Since.set ?_ (by first | assumption | omega | (simp; done) | (simp; omega)) _))
  clear HWT hb3 hs1 HTR
  go_wp2_with fail
  refine (sLost A n cap L A2 n2 cap2 M now wt _ HN.out (HR.out.later hs3) HN2.out HB2.out (HR2.out.later hs3)).mono ?_
  rintro e w5 ⟨A5, c5, rfl, hl5, hb5⟩
  have hs5 := hs3.later hb5
  clear hb5 hs3
  by_cases he : lostE L M now wt = 0
  case neg =>
    rw [errV_pos he]
    clear he hl5
    go_wp2_with fail
    go_ret
    exact ⟨rfl, (by refine Since.out ?_; repeat (first | with_reducible assumption | with_reducible exact Since.refl _ | with_reducible refine Since.later ?_ (by with_reducible assumption) | with_reducible refine Since.only ?_ (by with_reducible assumption) (by first | assumption | omega | (simp; done) | (simp; omega)) | with_reducible refine Since.alloc ?_ _ | with_reducible refine Since.drewN ?_ _ | with_reducible refine Since.drew ?_ | with_reducible refine Since.set ?_ (by first | assumption | omega | (simp; done) | (simp; omega)) _))⟩
  obtain ⟨hbo, n0, n1, t0, t3⟩ := lostE_both he
  obtain ⟨hse, hre⟩ := both_zero hbo
  have HBO := Lib.hid hbo
  have HSE := Lib.hid hse
  have HRE := Lib.hid hre
  have HL5 := Lib.hid hl5
  rw [he, errV_zero]
  have HE := Lib.hid he
  clear he hbo hl5 hse hre
  obtain ⟨X, hX⟩ : ∃ X, lostL L M now wt = X := ⟨_, rfl⟩
  have HX := Lib.hid hX
  rw [hX] at HL5 ⊢
  obtain ⟨kx, hkx⟩ : ∃ kx, X.length = kx := ⟨_, rfl⟩
  rw [hkx] at HL5 ⊢
  have HKX := Lib.hid hkx
  clear hX hkx
  go_wp2_with fail
  refine (sLeft A n cap L A2 n2 cap2 M _ HN.out (HR.out.later hs5) HN2.out HB2.out (HR2.out.later hs5)).mono ?_
  rintro e w6 ⟨A6, c6, rfl, hr6, hb6⟩
  have hs6 := hs5.later hb6
  have hle : leftR L M = leftL L M := by unfold leftR; rw [if_pos HBO.out]
  rw [hle] at hr6 ⊢
  rw [HBO.out, errV_zero]
  have HL6 := Lib.hid (HL5.out.later hb6)
  obtain ⟨K, hK⟩ : ∃ K, leftL L M = K := ⟨_, rfl⟩
  have HK := Lib.hid hK
  rw [hK] at hr6 ⊢
  obtain ⟨kk, hkk⟩ : ∃ kk, K.length = kk := ⟨_, rfl⟩
  rw [hkk] at hr6 ⊢
  have HKK := Lib.hid hkk
  have HR6 := Lib.hid hr6
  have hse2 : sntE K = 0 := by rw [← hK]; exact sntE_left HSE.out
  have hwa : wayN L = flY L M X 0 := by rw [flY_zero]; exact wayN_zs HSE.out
  have hwk : wayN K = flR L M X 0 := by rw [flR_zero, hK]; exact wayN_zs hse2
  have hz2 : ∀ s ∈ L, 1 ≤ s.z ∧ s.z ≤ 200 := fun s hs => (snt_all HSE.out s hs).2.2.2.2
  have hle2 : flR L M X 0 ≤ flY L M X 0 := by
    rw [flY_zero, flR_zero]
    exact zs_filter hz2
  have HSWA := Lib.hid (fun W h => sway A n cap L W HN.out h)
  have HSWK := Lib.hid (fun W h => sway A6 kk c6 K W hkk h)
  rw [HSE.out, errV_zero, hwa] at HSWA
  rw [hse2, errV_zero, hwk] at HSWK
  have HZ2 := Lib.hid hz2
  have HY0 : Hid (flY L M X 0 = zs L) := Lib.hid (flY_zero L M X)
  clear hle hK hkk hr6 hb6 hs5 HL5 hse2 hwa hwk hz2
  obtain ⟨y0, hy0⟩ : ∃ y, flY L M X 0 = y := ⟨_, rfl⟩
  obtain ⟨r0, hr0⟩ : ∃ r, flR L M X 0 = r := ⟨_, rfl⟩
  rw [hy0] at HSWA hle2 HY0
  rw [hr0] at HSWK hle2
  have HYY := Lib.hid hy0
  have HRR := Lib.hid hr0
  clear hy0 hr0
  go_wp2_with fail
  refine (HSWA.out _ (HR.out.later hs6)).mono ?_
  rintro e w7 ⟨rfl, hb7⟩
  have hs7 := hs6.later hb7
  have HR7 := Lib.hid (HR6.out.later hb7)
  have HL7 := Lib.hid (HL6.out.later hb7)
  clear hb7 hs6 HL6 HR6
  go_wp2_with fail
  refine (HSWK.out _ HR7.out).mono ?_
  rintro e w8 ⟨rfl, hb8⟩
  have hs8 := hs7.later hb8
  have HL8 := Lib.hid (HL7.out.later hb8)
  have HS8 := Lib.hid hs8
  have hle2' : decide (y0 < r0) = false := by simp; omega
  clear hb8 hs7 HL7 HR7 hle2 hs8
  have HW9 : Hid (Own w8 [] (w8.alloc (.cells #[.int .i64 100000, .int .i64 100000, .int .i64 0] 87)) [Thing.block w8.heap.size 87 #[.int .i64 100000, .int .i64 100000, .int .i64 0]]) := Lib.hid ((Own.start w8).alloc _ _)
  have hn30 : n ≤ 30 := by have := snt_len HSE.out; have := HN.out; omega
  repeat ((fail_if_success (with_reducible refine stop_at 19 ?_)); first | fail | go_values | go_skip | go_guarded | go_step | go_upon | go_back | go_simp)
  obtain ⟨wa, hwa⟩ : ∃ x, w8.alloc (.cells #[.int .i64 100000, .int .i64 100000, .int .i64 0] 87) = x := ⟨_, rfl⟩
  obtain ⟨gb, hgb⟩ : ∃ x, w8.heap.size = x := ⟨_, rfl⟩
  rw [hwa, hgb] at HW9
  rw [hwa, hgb]
  clear hwa hgb
  go_cut [] (fun wx => Own w8 [] wx [Thing.block gb 87 #[.int .i64 100000, .int .i64 100000, .int .i64 y0]])
  case first =>
    as_aux_lemma =>
      go_wp2_with fail
      go_loopw [22] (fun s22 wr => ∃ i : Nat, s22 = .int .i64 i ∧ i ≤ n ∧ Own w8 [] wr [Thing.block gb 87 #[.int .i64 100000, .int .i64 100000, .int .i64 (zs (L.take i))]]) (fun s22 _ => n - (intOf s22).toNat)
      case atStart => exact ⟨0, rfl, Nat.zero_le _, HW9.out⟩
      case round =>
        obtain ⟨i, rfl, hi, hw⟩ := hrel
        have HW := Lib.hid hw
        clear hw HW9
        by_cases hlt : i < n
        case neg =>
          obtain rfl : i = n := by omega
          have hf : decide ((i : Int) < (i : Int)) = false := by simp
          have e : zs (L.take i) = y0 := by rw [HY0.out, ← HN.out, List.take_length]
          rw [e] at HW
          go_wp2_with fail
          go_meet
          case rel => exact HW.out
        have hlt' : (i : Int) < (n : Int) := by omega
        have hs : Since w wr := HS8.out.later HW.out.since
        obtain ⟨b, off, rfl, hbl, hc⟩ := HR.out.snt (i := i) (by rw [HN.out]; exact hlt)
        obtain ⟨c0, c1, c2⟩ := hc wr hs i (by rw [HN.out]; exact hlt)
        have lb : b < wr.heap.size := Nat.lt_of_lt_of_le hbl hs.le
        have z0 : wr.cell? ⟨gb, 0, none⟩ = some (.int .i64 100000) := (HW.out.blk 0 rfl).cell 0
        have z1 : wr.cell? ⟨gb, 1, none⟩ = some (.int .i64 100000) := (HW.out.blk 0 rfl).cell 1
        have z2 : wr.cell? ⟨gb, 2, none⟩ = some (.int .i64 (zs (L.take i))) := (HW.out.blk 0 rfl).cell 2
        have zl : gb < wr.heap.size := (HW.out.blk 0 rfl).lt
        have hb6 := take_bound HSE.out (i := i) (by rw [HN.out]; exact hi)
        have hts := take_step (L := L) (i := i) (by rw [HN.out]; exact hlt)
        have hz := HZ2.out (sat L i) (by rw [sat_get (by rw [HN.out]; exact hlt)]; exact List.getElem_mem _)
        have HTS := Lib.hid hts
        generalize (sat L i).z = sz at *
        generalize (sat L i).n = sn at *
        generalize (sat L i).t = st at *
        generalize zs (L.take i) = ya at *
        have HSN := Lib.hid (fun W => wsend_all 100000 100000 ya sz W)
        have hse0 : sendWE 100000 100000 ya sz = 0 := by rw [sendWE_eq, if_pos ⟨⟨by omega, by omega, by omega, by omega, by omega, by omega⟩, by omega, by omega⟩, if_neg (by omega)]
        rw [hse0, sel_ok, sel_ok, errV_zero] at HSN
        simp only [winV] at HSN
        clear hc hts hse0 hz hb6
        go_upto_region 22 with fail
        go_cut [13] (fun s13 wx => s13 = .nilIface ∧ Own w8 [] wx [Thing.block gb 87 #[.int .i64 100000, .int .i64 100000, .int .i64 (ya + sz)]])
        case first =>
          go_region_law (first | (go_simp; go_at_call 43; refine (HSN.out _).mono ?_; rintro e w9 ⟨rfl, hb9⟩; have q9 := ((HW.out.later (show Since wr wr.drew from (Since.refl wr).drew)).later hb9).blk 0 rfl; have q0 : w9.cell? ⟨gb, 0, none⟩ = some (.int .i64 100000) := q9.cell 0; have q1 : w9.cell? ⟨gb, 1, none⟩ = some (.int .i64 100000) := q9.cell 1; have q2 : w9.cell? ⟨gb, 2, none⟩ = some (.int .i64 ya) := q9.cell 2; have qf := q9.free; have ql := q9.lt; clear q9))
          all_goals
            go_wp2_with fail
            go_meet
            case rel => exact ⟨rfl, (((((HW.out.later (show Since wr wr.drew from (Since.refl wr).drew)).later hb9)).put 0 rfl 0 _).put 0 rfl 1 _).put 0 rfl 2 _⟩
        case rest =>
          obtain ⟨rfl, hw⟩ := hcut
          have HW2 := Lib.hid hw
          clear hw HW z0 z1 z2 zl
          go_wp2_with fail
          go_roundw
          case rel => exact ⟨i + 1, by go_num, by omega, by rw [HTS.out]; exact HW2.out⟩
          case measure => simp [intOf]; omega
  case rest =>
    as_aux_lemma =>
      have HWB := Lib.hid hcut
      have z2 : wc.cell? ⟨gb, 2, none⟩ = some (.int .i64 y0) := (HWB.out.blk 0 rfl).cell 2
      have zl : gb < wc.heap.size := (HWB.out.blk 0 rfl).lt
      clear hcut HW9
      obtain ⟨wo, rfl⟩ : ∃ wo : World, wo = wc := ⟨_, rfl⟩
      have hn30' : n ≤ 30 := hn30
      have hyb := fl_bound (M := M) (X := X) HSE.out (i := 0) (by omega)
      go_wp2_with fail
      clear z2 zl hyb
      go_loopw [19, 23] (fun s19 s23 wr => ∃ (i : Nat) (S Sl : Int), s23 = .int .i64 i ∧ i ≤ n ∧ s19 = .int .i64 (flR L M X i) ∧ 400 ≤ S ∧ S ≤ 100000 ∧ 400 ≤ Sl ∧ Sl ≤ 100000 ∧ Own w8 [] wr [Thing.block gb 87 #[.int .i64 S, .int .i64 Sl, .int .i64 (flY L M X i)]]) (fun _ s23 _ => n - (intOf s23).toNat)
      case atStart => exact ⟨0, 100000, 100000, rfl, Nat.zero_le _, by rw [HRR.out], by decide, by decide, by decide, by decide, by rw [HYY.out]; exact HWB.out⟩
      case round =>
        obtain ⟨i, S, Sl, rfl, hi, rfl, s1, s2, l1, l2, hw⟩ := hrel
        have HW := Lib.hid hw
        clear hw HWB
        by_cases hlt : i < n
        case neg =>
          obtain rfl : i = n := by omega
          have hf : decide ((i : Int) < (i : Int)) = false := by simp
          have e : flY L M X i = flR L M X i := by rw [← HN.out]; exact fl_end L M X
          rw [e] at HW
          obtain ⟨z, hz⟩ : ∃ z, flR L M X i = z := ⟨_, rfl⟩
          rw [hz] at HW ⊢
          have z2 : wr.cell? ⟨gb, 2, none⟩ = some (.int .i64 z) := (HW.out.blk 0 rfl).cell 2
          have zl : gb < wr.heap.size := (HW.out.blk 0 rfl).lt
          clear hz e
          go_wp2_with fail
          go_ret
          exact ⟨by first | rfl | simp, HS8.out.later HW.out.since⟩
        have hlt' : (i : Int) < (n : Int) := by omega
        have hiL : i < L.length := by rw [HN.out]; exact hlt
        have hs : Since w wr := HS8.out.later HW.out.since
        obtain ⟨b, off, rfl, hbl, hc⟩ := HR.out.snt (i := i) hiL
        obtain ⟨c0, c1, c2⟩ := hc wr hs i hiL
        have HCC := Lib.hid (fun wx (h : Since w wx) => hc wx h i hiL)
        have HBL := Lib.hid hbl
        have lb : b < wr.heap.size := Nat.lt_of_lt_of_le hbl hs.le
        have hsm := snt_all HSE.out (sat L i) (by rw [sat_get hiL]; exact List.getElem_mem _)
        have hwhy : (sat L i).n ∈ X → inB M (sat L i).n = false ∧ M.length ≠ 0 ∧ ¬ (now - (sat L i).t < wt ∧ (rat M 0).hi < (sat L i).n + 3) := fun hx => lost_why HE.out hiL (by rw [HX.out]; exact hx)
        have HST := Lib.hid (fl_step (M := M) (X := X) hiL (fun hb hx => by have := (hwhy hx).1; rw [hb] at this; cases this))
        have HBD := Lib.hid (fl_bound (M := M) (X := X) HSE.out (i := i) (by omega))
        have HZL : Hid ((sat L i).z ≤ flY L M X i) := Lib.hid (HBD.out.2.2.2.2 hiL)
        have HWHY := Lib.hid hwhy
        have HBDI : Hid (0 ≤ flY L M X i ∧ flY L M X i ≤ 6000 ∧ 0 ≤ flR L M X i ∧ flR L M X i ≤ 6000) := Lib.hid ⟨HBD.out.1, HBD.out.2.1, HBD.out.2.2.1, HBD.out.2.2.2.1⟩
        have HRH := Lib.hid (fun W h => rhas A2 n2 cap2 M (sat L i).n W HN2.out HB2.out h)
        have hh0 : hasE M (sat L i).n = 0 := by unfold hasE; rw [if_pos (mayB_iff.2 ⟨hsm.1, hsm.2.1⟩)]; exact HRE.out
        rw [hh0, errV_zero, decide_eq_true (rfl : (0 : Int) = 0), Bool.true_and] at HRH
        have HIN := Lib.hid (fun W h => rin0 A5 kx c5 X (sat L i).n W HKX.out h)
        clear hc hh0 hwhy HBD
        obtain ⟨y2, hy2⟩ : ∃ y, flY L M X (i + 1) = y := ⟨_, rfl⟩
        obtain ⟨r2, hr2⟩ : ∃ y, flR L M X (i + 1) = y := ⟨_, rfl⟩
        rw [hy2, hr2] at HST
        have HFY := Lib.hid hy2
        have HFR := Lib.hid hr2
        clear hy2 hr2
        generalize flY L M X i = ya at *
        generalize flR L M X i = ra at *
        generalize (sat L i).z = sz at *
        generalize (sat L i).n = sn at *
        generalize (sat L i).t = st at *
        go_wp2_with fail
        refine (HRH.out _ (HR2.out.later hs)).mono ?_
        rintro e w10 ⟨rfl, hb10⟩
        have hsA : Since w w10 := hs.later hb10
        have HWA := Lib.hid (HW.out.later hb10)
        have HL10 := Lib.hid (HL8.out.later HWA.out.since)
        obtain ⟨c0, c1, c2⟩ := HCC.out _ hsA
        have lb : b < w10.heap.size := Nat.lt_of_lt_of_le HBL.out hsA.le
        clear hb10 HW hs
        go_wp2_with fail
        refine (HIN.out _ HL10.out).mono ?_
        rintro e w11 ⟨rfl, hb11⟩
        have hsB : Since w w11 := hsA.later hb11
        have HWX0 := Lib.hid (HWA.out.later hb11)
        clear c0 c1 c2 lb hsA HWA HL10 hb11
        obtain ⟨c0, c1, c2⟩ := HCC.out _ hsB
        have lb : b < w11.heap.size := Nat.lt_of_lt_of_le HBL.out hsB.le
        obtain ⟨gd, hgd⟩ : ∃ x, decide (sn ∈ X) = x := ⟨_, rfl⟩
        have HGD := Lib.hid hgd
        rw [hgd]
        clear hgd
        obtain ⟨hb_, hhb⟩ : ∃ x, inB M sn = x := ⟨_, rfl⟩
        have HHB := Lib.hid hhb
        rw [hhb]
        clear hhb
        obtain ⟨x1, x2, x3, x4, x5, x6⟩ := hsm
        have hnb : hb_ = true → gd = false := fun h => by
          cases hg : gd with
          | false => rfl
          | true =>
            have := (HWHY.out (of_decide_eq_true (HGD.out.trans hg))).1
            rw [HHB.out, h] at this; cases this
        have HNB := Lib.hid hnb
        clear hnb
        have hpac : PacOk S Sl ya sz := ⟨⟨s1, s2, l1, l2, HBDI.out.1, by have := HBDI.out.2.1; omega⟩, x5, x6⟩
        have hbk : backE S Sl ya sz = 0 := backE_zero ⟨hpac, HZL.out⟩
        have HCM := Lib.hid (fun W => wcame_all S Sl ya sz W)
        have HLO := Lib.hid (fun W => wlost_all S Sl ya sz W)
        rw [hbk, sel_ok, sel_ok, sel_ok, errV_zero] at HCM
        rw [hbk, sel_ok, sel_ok, errV_zero] at HLO
        simp only [winV] at HCM HLO
        have HCS := Lib.hid (cameS_bounds S Sl sz s1 s2 x5 x6)
        have hls : 400 ≤ lostS S ∧ lostS S ≤ 100000 := by unfold lostS; split <;> omega
        have HLS := Lib.hid hls
        have HY2 : Hid (hb_ = true ∨ gd = true → ya - sz = y2) := Lib.hid (fun h => by
          have h1 := HST.out.1
          rw [if_pos (h.imp (fun h => HHB.out.trans h) (fun h => of_decide_eq_true (HGD.out.trans h)))] at h1
          exact h1.symm)
        have HY3 : Hid (hb_ = false → gd = false → ya = y2) := Lib.hid (fun h g => by
          have h1 := HST.out.1
          rw [if_neg (by
            rintro (k | k)
            · rw [HHB.out, h] at k; cases k
            · have := HGD.out.symm.trans (decide_eq_true k); rw [g] at this; cases this)] at h1
          exact h1.symm)
        have HR2' : Hid (ra - (if gd = true then sz else 0) = r2) := Lib.hid (by
          have h1 := HST.out.2
          cases hg : gd with
          | true => rw [if_pos (of_decide_eq_true (HGD.out.trans hg))] at h1; rw [if_pos rfl]; exact h1.symm
          | false => rw [if_neg (of_decide_eq_false (HGD.out.trans hg))] at h1; rw [if_neg (by decide)]; omega)
        have hrb := HBDI.out.2.2
        clear hbk hpac hls HST
        generalize cameS S Sl sz = cs at *
        generalize lostS S = ls at *
        repeat ((fail_if_success (with_reducible refine stop_at 34 ?_)); first | fail | go_values | go_skip | go_guarded | go_step | go_upon | go_back | go_simp)
        obtain ⟨wz, rfl⟩ : ∃ x : World, x = w11 := ⟨_, rfl⟩
        go_cut [] (fun wx => wx = wz)
        case first =>
          cases hb_ with
          | true =>
            obtain rfl := HNB.out rfl
            go_wp2_with fail
            go_meet
            case rel => rfl
          | false =>
            go_wp2_with fail
            go_meet
            case rel => rfl
        case rest =>
        obtain rfl := hcut
        obtain ⟨w11, rfl⟩ : ∃ x : World, x = wc := ⟨_, rfl⟩
        repeat ((fail_if_success (with_reducible refine stop_at 36 ?_)); first | fail | go_values | go_skip | go_guarded | go_step | go_upon | go_back | go_simp)
        go_cut [19, 25] (fun s19 s25 wx => ∃ S2 Sl2 : Int, s19 = .int .i64 r2 ∧ s25 = .nilIface ∧ 400 ≤ S2 ∧ S2 ≤ 100000 ∧ 400 ≤ Sl2 ∧ Sl2 ≤ 100000 ∧ Own w8 [] wx [Thing.block gb 87 #[.int .i64 S2, .int .i64 Sl2, .int .i64 y2]])
        case first =>
          as_aux_lemma =>
            obtain ⟨wc, rfl⟩ : ∃ x : World, x = w11 := ⟨_, rfl⟩
            have HWX := HWX0
            have z0 : wc.cell? ⟨gb, 0, none⟩ = some (.int .i64 S) := (HWX.out.blk 0 rfl).cell 0
            have z1 : wc.cell? ⟨gb, 1, none⟩ = some (.int .i64 Sl) := (HWX.out.blk 0 rfl).cell 1
            have z2 : wc.cell? ⟨gb, 2, none⟩ = some (.int .i64 ya) := (HWX.out.blk 0 rfl).cell 2
            have zl : gb < wc.heap.size := (HWX.out.blk 0 rfl).lt
            cases hb_ with
            | true =>
              obtain rfl := HNB.out rfl
              have e2 := HY2.out (Or.inl rfl)
              have e3 : ra = r2 := by have := HR2'.out; rw [if_neg (by decide)] at this; omega
              have HE2 := Lib.hid e2
              have HE3 := Lib.hid e3
              clear e2 e3
              go_upto_region 37 with fail
              go_region_law (first | (go_simp; go_at_call 46; refine (HCM.out _).mono ?_; rintro e w9 ⟨rfl, hb9⟩; have q9 := ((HWX.out.later (show Since wc wc.drew from (Since.refl wc).drew)).later hb9).blk 0 rfl; have q0 : w9.cell? ⟨gb, 0, none⟩ = some (.int .i64 S) := q9.cell 0; have q1 : w9.cell? ⟨gb, 1, none⟩ = some (.int .i64 Sl) := q9.cell 1; have q2 : w9.cell? ⟨gb, 2, none⟩ = some (.int .i64 ya) := q9.cell 2; have qf := q9.free; have ql := q9.lt; clear q9))
              all_goals
                go_wp2_with fail
                go_meet
                case rel => exact ⟨cs, Sl, by rw [HE3.out], rfl, by have := HCS.out; omega, by have := HCS.out; omega, l1, l2, by rw [← HE2.out]; exact (((((HWX.out.later (show Since wc wc.drew from (Since.refl wc).drew)).later hb9)).put 0 rfl 0 _).put 0 rfl 1 _).put 0 rfl 2 _⟩
            | false =>
              cases gd with
              | true =>
                have e2 := HY2.out (Or.inr rfl)
                have e3 : ra - sz = r2 := by have := HR2'.out; rw [if_pos rfl] at this; exact this
                have HE2 := Lib.hid e2
                have HE3 := Lib.hid e3
                clear e2 e3
                go_upto_region 39 with fail
                obtain ⟨wd, rfl⟩ : ∃ x : World, x = wc := ⟨_, rfl⟩
                go_cut [25] (fun s25 wx => s25 = .nilIface ∧ Own w8 [] wx [Thing.block gb 87 #[.int .i64 ls, .int .i64 ls, .int .i64 (ya - sz)]])
                case first =>
                  go_region_law (first | (go_simp; go_at_call 47; refine (HLO.out _).mono ?_; rintro e w9 ⟨rfl, hb9⟩; have q9 := ((HWX.out.later (show Since wd wd.drew from (Since.refl wd).drew)).later hb9).blk 0 rfl; have q0 : w9.cell? ⟨gb, 0, none⟩ = some (.int .i64 S) := q9.cell 0; have q1 : w9.cell? ⟨gb, 1, none⟩ = some (.int .i64 Sl) := q9.cell 1; have q2 : w9.cell? ⟨gb, 2, none⟩ = some (.int .i64 ya) := q9.cell 2; have qf := q9.free; have ql := q9.lt; clear q9))
                  all_goals
                    go_wp2_with fail
                    go_meet
                    case rel => exact ⟨rfl, (((((HWX.out.later (show Since wd wd.drew from (Since.refl wd).drew)).later hb9)).put 0 rfl 0 _).put 0 rfl 1 _).put 0 rfl 2 _⟩
                case rest =>
                  obtain ⟨rfl, hw⟩ := hcut
                  have HWC := Lib.hid hw
                  have hsC : Since w wc := HS8.out.later HWC.out.since
                  clear hw HWX0 HWX z0 z1 z2 zl c0 c1 c2 lb
                  obtain ⟨c0, c1, c2⟩ := HCC.out _ hsC
                  have lb : b < wc.heap.size := Nat.lt_of_lt_of_le HBL.out hsC.le
                  go_wp2_with fail
                  go_meet
                  case rel => exact ⟨ls, ls, by rw [HE3.out], rfl, HLS.out.1, HLS.out.2, HLS.out.1, HLS.out.2, by rw [← HE2.out]; exact HWC.out⟩
              | false =>
                have e2 := HY3.out rfl rfl
                have e3 : ra = r2 := by have := HR2'.out; rw [if_neg (by decide)] at this; omega
                have HE2 := Lib.hid e2
                have HE3 := Lib.hid e3
                clear e2 e3
                go_wp2_with fail
                go_meet
                case rel => exact ⟨S, Sl, by rw [HE3.out], rfl, s1, s2, l1, l2, by rw [← HE2.out]; exact HWX.out⟩
        case rest =>
          as_aux_lemma =>
            obtain ⟨S2, Sl2, rfl, rfl, q1, q2, q3, q4, hw⟩ := hcut
            have HWR := Lib.hid hw
            have hsC : Since w wc := HS8.out.later HWR.out.since
            clear hw HWX0 c0 c1 c2 lb HCM HLO HCS HLS HY2 HY3 HR2' hrb
            obtain ⟨c0, c1, c2⟩ := HCC.out _ hsC
            have lb : b < wc.heap.size := Nat.lt_of_lt_of_le HBL.out hsC.le
            cases gd with
            | false =>
              go_upto_region 43 with fail
              go_quiet (fail)
              go_wp2_with fail
              go_roundw
              case rel => exact ⟨i + 1, S2, Sl2, by go_num, by omega, by rw [HFR.out], q1, q2, q3, q4, by rw [HFY.out]; exact HWR.out.drewN _⟩
              case measure => simp [intOf]; omega
            | true =>
              have hwh := HWHY.out (of_decide_eq_true HGD.out)
              obtain ⟨b2, off2, rfl, hbl2, hc2⟩ := HR2.out.rng (i := 0) (by omega)
              obtain ⟨d0, d1⟩ := hc2 wc hsC 0 (by omega)
              have hr0 := rng_all HRE.out 0 (by omega)
              have lb2 : b2 < wc.heap.size := Nat.lt_of_lt_of_le hbl2 hsC.le
              have hn2 : 0 < n2 := by have := HN2.out; omega
              obtain ⟨m1, m2, m3⟩ := hwh
              clear hc2
              generalize (rat M 0).hi = hi0 at *
              generalize (rat M 0).lo = lo0 at *
              obtain ⟨r1, r2_, r3, -⟩ := hr0
              by_cases h1 : now - st < wt
              · have h2 : decide (hi0 < sn + 3) = false := by simp; omega
                clear m1 m2 m3
                go_upto_region 43 with fail
                go_quiet (fail)
                go_wp2_with fail
                go_roundw
                case rel => exact ⟨i + 1, S2, Sl2, by go_num, by omega, by rw [HFR.out], q1, q2, q3, q4, by rw [HFY.out]; exact HWR.out.drewN _⟩
                case measure => simp [intOf]; omega
              · have h1' : decide (now - st < wt) = false := by simpa using h1
                clear m1 m2 m3 h1
                go_upto_region 43 with fail
                go_quiet (fail)
                go_wp2_with fail
                go_roundw
                case rel => exact ⟨i + 1, S2, Sl2, by go_num, by omega, by rw [HFR.out], q1, q2, q3, q4, by rw [HFY.out]; exact HWR.out.drewN _⟩
                case measure => simp [intOf]; omega

/-! the row -/
theorem own : ownKnob Tryz.prog.godebug = none := by kernel_rfl
theorem laidOut : laidOutB Tryz.prog = true := by kernel_rfl
set_option maxRecDepth 100000 in
theorem contract (H : Type) (enc : TypeId × Value → H) (W : World) (base : Nat) (args : Array Value) (ds gs : List (DataW H)) (before : List MemPlace)
    (hval : ∀ (j : Nat) t v, Tryz.f7.params[j]? = some t → args[j]? = some v → Value.okWide Tryz.prog W .any base t v)
    (hW : DataW.Whole enc Tryz.prog Tryz.f7.params.toList Rows.topFlightSpec.vars false W args.toList ds gs before) (hsz : (DataW.weightsEach Tryz.prog (Tryz.f7.params.toList ++ (OpenSpec.ofChange Rows.topFlightSpec).bare.plain.varTypes Tryz.prog) (ds ++ gs)).all (· ≤ reachBytes) = true) (hL : laidMetH Tryz.prog Rows.topFlightRow.laid W) :
    Calls Tryz.prog 7 args W fun e W' => ∃ v, e = .returned v ∧ Rows.topFlightSpec.post enc Tryz.prog Tryz.f7 false true false false W args v W' := by
  have hW' := hW
  obtain ⟨p, q, hA0, hV, rfl, hfz, hnd⟩ := hW
  have hA : DataW.TrodAll enc Tryz.prog W 0 (fun _ => true) true Tryz.f7.params.toList args.toList ds p := hA0
  rw [Tryz.params7] at hA hval
  obtain ⟨v0, vs0, d0, ds0, p0, q0, hargs, rfl, rfl, h0, r0⟩ := trodAll_cons hA
  obtain ⟨v1, vs1, d1, ds1, p1, q1, rfl, rfl, rfl, h1, r1⟩ := trodAll_cons r0
  obtain ⟨v2, vs2, d2, ds2, p2, q2, rfl, rfl, rfl, h2, r2⟩ := trodAll_cons r1
  obtain ⟨v3, vs3, d3, ds3, p3, q3, rfl, rfl, rfl, h3, r3⟩ := trodAll_cons r2
  obtain ⟨rfl, rfl, rfl⟩ := trodAll_nil r3
  obtain rfl : args = #[v0, v1, v2, v3] := by cases args; simp_all
  obtain ⟨rfl, rfl⟩ := trodVars_none hV
  obtain ⟨a0, len0, cap0, rfl⟩ := okWide_slice Tryz.underlying74 (hval 0 74 v0 rfl rfl)
  have k0 := h0
  have lt0 : ∀ x ∈ p0, x.block < W.heap.size := by obtain ⟨m, hm⟩ := k0; exact DataW.trod_lt m _ _ _ hm
  obtain ⟨z0, w0⟩ : ∃ zs, SntsIn W (.slice a0 len0 cap0) zs := by
    obtain ⟨fuel, hf⟩ := h0
    exact sntsIn_open Tryz.underlying74 Tryz.underlying91 (by kernel_rfl) rfl rfl rfl (by kernel_rfl) (by kernel_rfl) (by kernel_rfl) Tryz.underlying3 Tryz.underlying3 Tryz.underlying3 hf
  obtain ⟨a1, len1, cap1, rfl⟩ := okWide_slice Tryz.underlying44 (hval 1 44 v1 rfl rfl)
  have k1 := h1
  have lt1 : ∀ x ∈ p1, x.block < W.heap.size := by obtain ⟨m, hm⟩ := k1; exact DataW.trod_lt m _ _ _ hm
  obtain ⟨z1, w1⟩ : ∃ zs, RngsIn W (.slice a1 len1 cap1) zs := by
    obtain ⟨fuel, hf⟩ := h1
    exact rngsIn_open Tryz.underlying44 Tryz.underlying96 (by kernel_rfl) rfl rfl (by kernel_rfl) (by kernel_rfl) Tryz.underlying3 Tryz.underlying3 hf
  obtain ⟨a2, rfl, rfl, rfl, w2⟩ := open_int Tryz.underlying3 (hval 2 3 v2 rfl rfl) h2
  obtain ⟨a3, rfl, rfl, rfl, w3⟩ := open_int Tryz.underlying3 (hval 3 3 v3 rfl rfl) h3
  have lw := laidWalk hL
  refine (walk (.slice a0 len0 cap0) z0 (.slice a1 len1 cap1) z1 a2 a3 W w0 w1 w2 w3 lw).mono fun e W' ⟨he, bel⟩ => ?_
  subst he
  exact ⟨_, rfl, _, _, _, [], _, [], hW', trodAll_mk1 (shut_bool Tryz.underlying4 _), (trodAll_cons_mk (Below.trod laidOut (by kernel_rfl) (of_decide_eq_true (by kernel_rfl)) k0 bel lt0) (trodAll_cons_mk (Below.trod laidOut (by kernel_rfl) (of_decide_eq_true (by kernel_rfl)) k1 bel lt1) (trodAll_cons_mk (shut_int Tryz.underlying3 w2) (trodAll_cons_mk (shut_int Tryz.underlying3 w3) trodAll_mk0)))), rfl, bel.frame _, fun h => by cases h⟩

theorem reads (os : Os) {H : Type} (enc : TypeId × Value → H) : ∃ places, DataW.whole enc Tryz.prog ((laidWorld os).forCall (fun _ _ => 0) ⟨#[], #[.slice none 0 0, .slice none 0 0, .int .i64 0, .int .i64 0], []⟩).memory Tryz.f7.params.toList Rows.topFlightSpec.vars false (#[.slice none 0 0, .slice none 0 0, .int .i64 0, .int .i64 0] : Array Value).toList 8 = some ([.nil, .nil, .lit (.int .i64 0), .lit (.int .i64 0)], [], places) :=
  ⟨[], by kernel_rfl⟩
theorem laid_met (os : Os) : laidMetH Tryz.prog Rows.topFlightRow.laid ((laidWorld os).forCall (fun _ _ => 0) ⟨#[], #[.slice none 0 0, .slice none 0 0, .int .i64 0, .int .i64 0], []⟩).memory := laidMetW os _

set_option maxRecDepth 100000 in
theorem lifted (os : Os) (started : os.Started) (H : Type) (enc : TypeId × Value → H) (F : Stop.Interp) :
    ReturnsInHanded {} Tryz.checked os 7 .any ((OpenSpec.ofChange Rows.topFlightSpec).preRow enc Tryz.prog Tryz.f7 Rows.topFlightRow.domain false Rows.topFlightRow.laid) (((OpenSpec.ofChange Rows.topFlightSpec).at F).post enc Tryz.prog Tryz.f7 false true false false) := by
  obtain ⟨places, hx⟩ := reads os enc
  refine returnsInHanded_of_row (C := Tryz.checked) (s := OpenSpec.ofChange Rows.topFlightSpec) own started (by kernel_rfl) Tryz.func7
    (witness_row_at (enc := enc) (C := Tryz.checked) false (laidWorld os) #[.slice none 0 0, .slice none 0 0, .int .i64 0, .int .i64 0] rfl (by kernel_rfl) (by kernel_rfl) (by kernel_rfl)
      (OpenSpec.preRow_of_cond 8 hx (by kernel_rfl) (fun k hk => by cases hk) (by kernel_rfl) (laid_met os))) ?_
  intro W base args ds gs before hval hW _ _ hsz hL _ _
  exact contract H enc W base args ds gs before hval hW hsz hL
end Go.Proofs.YtaindcicloapfaaGreatDoor.topFlight
