/- AckTells: for every ranges and text the law returns true: any ranges in few bytes, and any bytes as ranges, are told as the reference says. Conditions: errors.errorType holds its handle and the table of kinds what the program's text lays (the row lists them, the card ties them). -/
import Derived.Test.YthnolkbolmbkdaaDoorAckR
import Derived.Test.YthnolkbolmbkdaaDoorRAckR
import Derived.Test.YthnolkbolmbkdaaDoorAckRefB
import Derived.Test.YthnolkbolmbkdaaDoorSameR
import Derived.Test.YthnolkbolmbkdaaDoorFrmLaw
import Derived.Test.YthnolkbolmbkdaaDoorLaid
import Derived.Test.YthnolkbolmbkdaaDoorTold
import Derived.Test.YthnolkbolmbkdaaDoorNumAny
import Derived.Deep.DeepCutAuto
import Derived.Test.YthnolkbolmbkdaaDoorCards
import Derived.Test.YthnolkbolmbkdaaDoorTie
import Derived.Deep.DeepHandedRow
import Derived.LaidLaws
import Derived.LaidHandle
import Derived.Deep.DeepWitnessRowRef
import Derived.Test.YthnolkbolmbkdaaDoorRows
import Derived.WalkKit
import Derived.ProofKit
import Derived.OpenShut
import Derived.ShutString
import Derived.ChangeOld
import Derived.Below
import Derived.Lib.SmallJoins
import Derived.Deep.Slices
import Derived.Deep.Matrix
import Derived.Deep.Strs
namespace Go.Proofs.YthnolkbolmbkdaaDoor.ackTells
open Go.ChangeShapes Go.WideShapes Go.ChangeAt Go.RowKit
open Go.ChangeMaps (open_string shut_string)
set_option linter.unusedVariables false

noncomputable abbrev laidWorld := YthnolkbolmbkdaaDoor.laidWorld
theorem laidMetW (os : Os) (args : Array Value) : laidMetH Tryd.prog Rows.ackTellsRow.laid ((laidWorld os).forCall (fun _ _ => 0) ⟨#[], args, []⟩).memory := laidMet_both os args
theorem laidWalk {W : World} (h : laidMetH Tryd.prog Rows.ackTellsRow.laid W) : ETok W ∧ KTab W := laid_both h
theorem parE_or (b : List UInt8) : parE b = 0 ∨ parE b = 2 := by unfold parE; split <;> simp

set_option maxRecDepth 100000 in
set_option maxHeartbeats 3200000 in
theorem walk (v0 : Value) (L : List Rng) (s : ByteArray) (w : World) (w0 : RngsIn w v0 L) (w1 : s.size ≤ maxLen) (hL : ETok w ∧ KTab w) :
    Calls Tryd.prog 7 #[v0, .string s] w fun e w' => e = .returned (.bool true) ∧ Below w.heap.size w w' := by
  have HET := Lib.hid hL.1
  have HK := Lib.hid hL.2
  obtain ⟨hb, hr⟩ := w0
  obtain ⟨A, cap, rfl, hz1, hz2, hz3⟩ := id hr.shape
  rw [List.length_map] at hr ⊢
  obtain ⟨n, hn⟩ : ∃ n, L.length = n := ⟨_, rfl⟩
  rw [hn] at hr ⊢
  have HR := Lib.hid hr
  have HN := Lib.hid hn
  have HB := Lib.hid hb
  have hcm := (rd_cap hr).2
  have HSZ : Hid (s.size ≤ 9223372036854775807) := Lib.hid (by unfold maxLen at w1; omega)
  have HAE : Hid (ackE L = if rngE L = 0 then (if n = 0 then 5 else 0) else rngE L) := Lib.hid (by unfold ackE; rw [hn])
  have HAV : Hid (ackV L = if ackE L = 0 then ackB L else []) := Lib.hid rfl
  clear hz1 hz2 hz3 hr hn hb w1 hL
  go_enter Tryd.func7, Tryd.ntmps7
  go_wp2_with fail
  refine (rcheckR A n cap L _ HN.out HB.out HR.out).mono ?_
  rintro e w1 ⟨rfl, hb1⟩
  have hs1 : Since w w1 := hb1
  clear hb1
  repeat ((fail_if_success (with_reducible refine stop_at 2 ?_)); first | fail | go_values | go_skip | go_guarded | go_step | go_upon | go_back | go_simp)
  obtain ⟨wq, rfl⟩ : ∃ wq : World, wq = w1 := ⟨_, rfl⟩
  go_cut [5] (fun s5 wx => s5 = .int .i64 (ackE L) ∧ Since w wx)
  case first =>
    as_aux_lemma =>
      by_cases h0 : rngE L = 0
      · have HE : Hid (ackE L = if n = 0 then 5 else 0) := Lib.hid (by rw [HAE.out, if_pos h0])
        rw [h0]
        clear h0
        by_cases hn0 : n = 0
        · subst hn0
          have HE1 : Hid (ackE L = 5) := Lib.hid (by rw [HE.out, if_pos rfl])
          go_wp2_with fail
          go_meet
          case rel => exact ⟨by rw [HE1.out], hs1⟩
        · have HE1 : Hid (ackE L = 0) := Lib.hid (by rw [HE.out, if_neg hn0])
          have h0' : ((n : Int) == 0) = false := by simp; omega
          clear hn0
          go_wp2_with fail
          go_meet
          case rel => exact ⟨by rw [HE1.out], hs1⟩
      · have HE : Hid (ackE L = rngE L) := Lib.hid (by rw [HAE.out, if_neg h0])
        have h0' : (rngE L == 0) = false := by simpa using h0
        clear h0
        go_wp2_with fail
        go_meet
        case rel => exact ⟨by rw [HE.out], hs1⟩
  case rest =>
    as_aux_lemma =>
      obtain ⟨wo, rfl⟩ : ∃ wo : World, wo = wc := ⟨_, rfl⟩
      obtain ⟨rfl, hs⟩ := hcut
      clear hs1
      repeat ((fail_if_success (with_reducible refine stop_at 5 ?_)); first | fail | go_values | go_skip | go_guarded | go_step | go_upon | go_back | go_simp)
      obtain ⟨wq, rfl⟩ : ∃ wq : World, wq = wo := ⟨_, rfl⟩
      go_cut [5, 6] (fun s5 s6 wx => s5 = .int .i64 (ackE L) ∧ s6 = .string ⟨(ackV L).toArray⟩ ∧ Since w wx)
      case first =>
        as_aux_lemma =>
          by_cases h0 : ackE L = 0
          · have HV : Hid (ackV L = ackB L) := Lib.hid (by rw [HAV.out, if_pos h0])
            have HA0 := Lib.hid h0
            have hE : rngE L = 0 ∧ n ≠ 0 := by
              rw [HAE.out] at h0
              by_cases h1 : rngE L = 0
              · rw [if_pos h1] at h0
                by_cases h2 : n = 0
                · rw [if_pos h2] at h0; cases h0
                · exact ⟨h1, h2⟩
              · rw [if_neg h1] at h0; exact absurd h0 h1
            rw [h0]
            have HE := Lib.hid hE
            clear h0 hE
            go_wp2_with fail
            refine (rack A n cap L _ HN.out (by have := HE.out.2; omega) (HR.out.later hs) HE.out.1).mono ?_
            rintro e w3 ⟨rfl, hb3⟩
            go_wp2_with fail
            go_meet
            case rel => exact ⟨by rw [HA0.out], by rw [HV.out], hs.later hb3⟩
          · have HV : Hid (ackV L = []) := Lib.hid (by rw [HAV.out, if_neg h0])
            have h0' : (ackE L == 0) = false := by simpa using h0
            clear h0
            go_wp2_with fail
            go_meet
            case rel => exact ⟨rfl, by rw [HV.out], hs⟩
      case rest =>
        as_aux_lemma =>
          obtain ⟨wo, rfl⟩ : ∃ wo : World, wo = wc := ⟨_, rfl⟩
          obtain ⟨rfl, rfl, hs3⟩ := hcut
          clear hs
          go_wp2_with fail
          refine (ackprint A n cap L _ HN.out HB.out (HR.out.later hs3) (HK.out.later hs3)).mono ?_
          rintro e w4 ⟨rfl, hb4⟩
          have hs4 := hs3.later hb4
          clear hb4 hs3
          go_wp2_with fail
          refine (same_yes (ackE L) _ (HET.out.later hs4)).mono ?_
          rintro e w5 ⟨rfl, hb5⟩
          have hs5 := hs4.later hb5
          generalize ackV L = V at *
          generalize ackE L = E at *
          have hq : (V == V) = true := by simp
          clear hb5 hs4 HAE HAV
          go_wp2_with fail
          refine (raread s _ HSZ.out).mono ?_
          rintro e w6 ⟨A6, c6, k, ok, M, rfl, hl6, hM, hb6, hn6, hr6⟩
          have hszb : s.data.toList.length = s.size := rfl
          obtain ⟨b, hb⟩ : ∃ b, s.data.toList = b := ⟨_, rfl⟩
          rw [hb] at hr6 hszb
          have HBD := Lib.hid hb
          have HBL := Lib.hid hszb
          have HRD := Lib.hid hr6
          have HL6 := Lib.hid hl6
          have hs6 := hs5.later hb6
          clear hl6 hb6 hn6 hr6 hb hszb hs5 hq
          repeat ((fail_if_success (with_reducible refine stop_at 11 ?_)); first | fail | go_values | go_skip | go_guarded | go_step | go_upon | go_back | go_simp)
          obtain ⟨wq, rfl⟩ : ∃ wq : World, wq = w6 := ⟨_, rfl⟩
          go_cut [5, 10] (fun s5 s10 wx => s5 = .int .i64 (parE b) ∧ ∃ (A' : Option Addr) (c' : Nat), s10 = .slice A' (parM b).length c' ∧ Rd wx 2 (.slice A' (parM b).length c') ((parM b).map rngRow) ∧ Since w wx)
          case first =>
            as_aux_lemma =>
              cases ok with
              | false =>
                obtain ⟨_, p1, p2⟩ := parL_none (b := b) (by rw [HRD.out]; rfl)
                have P1 := Lib.hid p1
                have P2 := Lib.hid p2
                clear p1 p2
                go_wp2_with fail
                go_meet
                case rel => exact ⟨by rw [P1.out], none, 0, by rw [P2.out]; rfl, by rw [P2.out]; exact Rd.nil _ _, hs6⟩
              | true =>
                by_cases hk : k = s.size
                · subst hk
                  obtain ⟨_, p1, p2⟩ := parL_yes (b := b) (L := M) (by rw [HRD.out, HBL.out]; rfl)
                  have P1 := Lib.hid p1
                  have P2 := Lib.hid p2
                  have hq : ((s.size : Int) != (s.size : Int)) = false := by simp
                  clear p1 p2
                  go_wp2_with fail
                  go_meet
                  case rel => exact ⟨by rw [P1.out], A6, c6, by rw [P2.out], by rw [P2.out]; exact Rd.of_lst HL6.out, hs6⟩
                · obtain ⟨_, p1, p2⟩ := parL_no (b := b) (L := M) (n := k) (by rw [HRD.out]; rfl) (by rw [HBL.out]; exact hk)
                  have P1 := Lib.hid p1
                  have P2 := Lib.hid p2
                  have hq : ((k : Int) != (s.size : Int)) = true := by simp; omega
                  clear p1 p2 hk
                  go_wp2_with fail
                  go_meet
                  case rel => exact ⟨by rw [P1.out], none, 0, by rw [P2.out]; rfl, by rw [P2.out]; exact Rd.nil _ _, hs6⟩
          case rest =>
            as_aux_lemma =>
              obtain ⟨wo, rfl⟩ : ∃ wo : World, wo = wc := ⟨_, rfl⟩
              obtain ⟨rfl, A7, c7, rfl, hr7, hs7⟩ := hcut
              have HR7 := Lib.hid hr7
              clear hr7 hs6
              go_wp2_with fail
              refine (aparse s _ HSZ.out (HK.out.later hs7)).mono ?_
              rintro e w8 ⟨A8, c8, rfl, hl8, hb8, _⟩
              rw [HBD.out] at hl8 ⊢
              have HL8 := Lib.hid hl8
              have hs8 := hs7.later hb8
              have HR8 := Lib.hid (HR7.out.later hb8)
              clear hl8 hb8 hs7
              go_wp2_with fail
              refine (same_yes (parE b) _ (HET.out.later hs8)).mono ?_
              rintro e w9 ⟨rfl, hb9⟩
              have hs9 := hs8.later hb9
              obtain ⟨m, hm⟩ : ∃ m, (parM b).length = m := ⟨_, rfl⟩
              have HMM := Lib.hid hm
              rw [hm] at HL8 HR8 ⊢
              clear hm
              go_wp2_with fail
              refine (rngeqR A8 A7 c8 c7 m (parM b) _ HMM.out (Rd.of_lst (HL8.out.later hb9)) (HR8.out.later hb9)).mono ?_
              rintro e w10 ⟨rfl, hb10⟩
              have hs10 := hs9.later hb10
              go_wp2_with fail
              go_ret
              exact ⟨by first | rfl | simp, hs10⟩

/-! the row -/
theorem own : ownKnob Tryd.prog.godebug = none := by kernel_rfl
theorem laidOut : laidOutB Tryd.prog = true := by kernel_rfl
set_option maxRecDepth 100000 in
theorem contract (H : Type) (enc : TypeId × Value → H) (W : World) (base : Nat) (args : Array Value) (ds gs : List (DataW H)) (before : List MemPlace)
    (hval : ∀ (j : Nat) t v, Tryd.f7.params[j]? = some t → args[j]? = some v → Value.okWide Tryd.prog W .any base t v)
    (hW : DataW.Whole enc Tryd.prog Tryd.f7.params.toList Rows.ackTellsSpec.vars false W args.toList ds gs before) (hL : laidMetH Tryd.prog Rows.ackTellsRow.laid W) :
    Calls Tryd.prog 7 args W fun e W' => ∃ v, e = .returned v ∧ Rows.ackTellsSpec.post enc Tryd.prog Tryd.f7 false true false false W args v W' := by
  have hW' := hW
  obtain ⟨p, q, hA0, hV, rfl, hfz, hnd⟩ := hW
  have hA : DataW.TrodAll enc Tryd.prog W 0 (fun _ => true) true Tryd.f7.params.toList args.toList ds p := hA0
  rw [Tryd.params7] at hA hval
  obtain ⟨v0, vs0, d0, ds0, p0, q0, hargs, rfl, rfl, h0, r0⟩ := trodAll_cons hA
  obtain ⟨v1, vs1, d1, ds1, p1, q1, rfl, rfl, rfl, h1, r1⟩ := trodAll_cons r0
  obtain ⟨rfl, rfl, rfl⟩ := trodAll_nil r1
  obtain rfl : args = #[v0, v1] := by cases args; simp_all
  obtain ⟨rfl, rfl⟩ := trodVars_none hV
  obtain ⟨a0, len0, cap0, rfl⟩ := okWide_slice Tryd.underlying65 (hval 0 65 v0 rfl rfl)
  have k0 := h0
  have lt0 : ∀ x ∈ p0, x.block < W.heap.size := by obtain ⟨m, hm⟩ := k0; exact DataW.trod_lt m _ _ _ hm
  obtain ⟨z0, w0⟩ : ∃ zs, RngsIn W (.slice a0 len0 cap0) zs := by
    obtain ⟨fuel, hf⟩ := h0
    exact rngsIn_open Tryd.underlying65 Tryd.underlying69 (by kernel_rfl) rfl rfl (by kernel_rfl) (by kernel_rfl) Tryd.underlying3 Tryd.underlying3 hf
  obtain ⟨s1, rfl, rfl, rfl, w1⟩ := open_string Tryd.underlying9 (hval 1 9 v1 rfl rfl) h1
  have lw := laidWalk hL
  refine (walk (.slice a0 len0 cap0) z0 s1 W w0 w1 lw).mono fun e W' ⟨he, bel⟩ => ?_
  subst he
  exact ⟨_, rfl, _, _, _, [], _, [], hW', trodAll_mk1 (shut_bool Tryd.underlying4 _), (trodAll_cons_mk (Below.trod laidOut (by kernel_rfl) (of_decide_eq_true (by kernel_rfl)) k0 bel lt0) (trodAll_cons_mk (shut_string Tryd.underlying9 w1) trodAll_mk0)), rfl, bel.frame _, fun h => by cases h⟩

theorem reads (os : Os) {H : Type} (enc : TypeId × Value → H) : ∃ places, DataW.whole enc Tryd.prog ((laidWorld os).forCall (fun _ _ => 0) ⟨#[], #[.slice none 0 0, .string ByteArray.empty], []⟩).memory Tryd.f7.params.toList Rows.ackTellsSpec.vars false (#[.slice none 0 0, .string ByteArray.empty] : Array Value).toList 8 = some ([.nil, .lit (.string [])], [], places) :=
  ⟨[], by kernel_rfl⟩
theorem laid_met (os : Os) : laidMetH Tryd.prog Rows.ackTellsRow.laid ((laidWorld os).forCall (fun _ _ => 0) ⟨#[], #[.slice none 0 0, .string ByteArray.empty], []⟩).memory := laidMetW os _

set_option maxRecDepth 100000 in
theorem lifted (os : Os) (started : os.Started) (H : Type) (enc : TypeId × Value → H) (F : Stop.Interp) :
    ReturnsInHanded {} Tryd.checked os 7 .any ((OpenSpec.ofChange Rows.ackTellsSpec).preRow enc Tryd.prog Tryd.f7 Rows.ackTellsRow.domain false Rows.ackTellsRow.laid) (((OpenSpec.ofChange Rows.ackTellsSpec).at F).post enc Tryd.prog Tryd.f7 false true false false) := by
  obtain ⟨places, hx⟩ := reads os enc
  refine returnsInHanded_of_row (C := Tryd.checked) (s := OpenSpec.ofChange Rows.ackTellsSpec) own started (by kernel_rfl) Tryd.func7
    (witness_row_at (enc := enc) (C := Tryd.checked) false (laidWorld os) #[.slice none 0 0, .string ByteArray.empty] rfl (by kernel_rfl) (by kernel_rfl) (by kernel_rfl)
      (OpenSpec.preRow_of_cond 8 hx (by kernel_rfl) (fun k hk => by cases hk) (by kernel_rfl) (laid_met os))) ?_
  intro W base args ds gs before hval hW _ _ _ hL _ _
  exact contract H enc W base args ds gs before hval hW hL

theorem said : Rows.AckTellsSaid :=
  OpenClaim.holds_of_cond 7 Tryd.f7 rfl rfl rfl rfl rfl rfl rfl ⟨rfl, rfl, rfl, rfl, rfl⟩ rfl rfl rfl rfl rfl (by kernel_rfl) Tryd.func7 (by kernel_rfl)
    (of_decide_eq_true (by kernel_rfl)) (by unfold Func.isWrapper; first | (rw [if_pos (by decide +kernel)]; kernel_rfl) | (rw [if_neg (by decide +kernel)]; exact ⟨rfl, rfl⟩))
    (fun os started H enc _ F => by rw [OpenClaim.pre_eq_preRow]; exact lifted os started H enc F)

theorem plain (f : FuncId) (fn : Func) (hf : Tryd.pinned.checked.prog.funcNamed "wanderwire/wirelaw1.AckTells" = some f) (hfn : Tryd.pinned.checked.prog.funcs[f]? = some fn) :
    true = Tryd.pinned.checked.prog.looks [] ∧ ∀ (j : Nat) t, fn.params[j]? = some t → Tryd.pinned.checked.prog.wantsStandIn t = false := by
  obtain rfl : f = 7 := Option.some.inj ((show Tryd.prog.funcNamed "wanderwire/wirelaw1.AckTells" = some 7 by kernel_rfl).symm.trans hf) |>.symm
  obtain rfl : fn = Tryd.f7 := (Option.some.inj (Tryd.func7.symm.trans hfn)).symm
  refine ⟨by kernel_rfl, fun j t ht => ?_⟩
  rw [Tryd.params7] at ht
  have ht' := Array.mem_of_getElem? ht
  have hall : (([65, 9] : List Nat).all fun t => !Tryd.prog.wantsStandIn t) = true := by kernel_rfl
  have hq := List.all_eq_true.1 hall t (by simpa using ht')
  have hq2 : Tryd.prog.wantsStandIn t = false := by simpa using hq
  exact hq2

theorem card : Rows.AckTellsCardSaid :=
  Claim7.holds_tied_plain_at .later [] _ _ _ _ said (fun _ h => by cases h) (by kernel_rfl) (fun _ h => by cases h) ackTells_row_tie rfl ⟨rfl, rfl⟩ (by kernel_rfl) rfl plain (by kernel_rfl)
#print axioms card
end Go.Proofs.YthnolkbolmbkdaaDoor.ackTells
