/- PacketTells: for every number, known number, frames, text and next number the law returns true: any frames in one packet, and any bytes as one, are told as the reference says. Conditions: errors.errorType holds its handle and the tables of kinds and counts what the program's text lays (the row lists them, the card ties them). -/
import Derived.Test.YthnolkbolmbkdaaDoorAckR
import Derived.Test.YthnolkbolmbkdaaDoorSameR
import Derived.Test.YthnolkbolmbkdaaDoorFrmLaw
import Derived.Test.YthnolkbolmbkdaaDoorLaid2
import Derived.Test.YthnolkbolmbkdaaDoorTold
import Derived.Test.YthnolkbolmbkdaaDoorNumAny
import Derived.Test.YthnolkbolmbkdaaDoorFrmBy
import Derived.Test.YthnolkbolmbkdaaDoorFrmPs
import Derived.Test.YthnolkbolmbkdaaDoorFrmEq
import Derived.Test.YthnolkbolmbkdaaDoorPkts
import Derived.Test.YthnolkbolmbkdaaDoorCards
import Derived.Test.YthnolkbolmbkdaaDoorTie
import Derived.Deep.DeepHandedRow
import Derived.LaidLaws
import Derived.LaidHandle
import Derived.Deep.DeepWitnessRowRef
import Derived.Test.YthnolkbolmbkdaaDoorRows
import Derived.WalkKit
import Derived.ProofKit
import Derived.OpenShut
import Derived.ShutString
import Derived.ChangeOld
import Derived.Below
import Derived.Lib.SmallJoins
import Derived.Deep.Slices
import Derived.Deep.Matrix
import Derived.Deep.Strs
namespace Go.Proofs.YthnolkbolmbkdaaDoor.packetTells
open Go.ChangeShapes Go.WideShapes Go.ChangeAt Go.RowKit
open Go.ChangeMaps (open_string shut_string)
set_option linter.unusedVariables false

noncomputable abbrev laidWorld := YthnolkbolmbkdaaDoor.laidWorld2
theorem laidMetW (os : Os) (args : Array Value) : laidMetH Tryd.prog Rows.packetTellsRow.laid ((laidWorld os).forCall (fun _ _ => 0) ⟨#[], args, []⟩).memory := laidMet_ekc os args
theorem laidWalk {W : World} (h : laidMetH Tryd.prog Rows.packetTellsRow.laid W) : ETok W ∧ KTab W ∧ CTab W := laid_ekc h

set_option maxRecDepth 100000 in
set_option maxHeartbeats 3200000 in
theorem walk (n known : Int) (v : Value) (L : List FrmV) (s : ByteArray) (next : Int) (w : World) (w0 : (Lit.int .i64 n).wf = true) (w1 : (Lit.int .i64 known).wf = true) (w2 : FrmsIn w v L) (w3 : s.size ≤ 140737488351232) (w4 : (Lit.int .i64 next).wf = true) (hL : ETok w ∧ KTab w ∧ CTab w) :
    Calls Tryd.prog 13 #[.int .i64 n, .int .i64 known, v, .string s, .int .i64 next] w fun e w' => e = .returned (.bool true) ∧ Below w.heap.size w w' := by
  have HET := Lib.hid hL.1
  have HK := Lib.hid hL.2.1
  have HC := Lib.hid hL.2.2
  have hb0 := wf_bounds w0
  have hb1 := wf_bounds w1
  obtain ⟨A, cap, rfl, _⟩ := id w2.rd.shape
  rw [List.length_map] at w2 ⊢
  obtain ⟨k, hk⟩ : ∃ k, L.length = k := ⟨_, rfl⟩
  rw [hk] at w2 ⊢
  have HF := Lib.hid w2
  have RP := Lib.hid (fun W h => rpacket n known A k cap L W (by omega) (by omega) hk h)
  have PP := Lib.hid (fun W h1 h2 h3 => pkprint n known A k cap L W hk h1 h2 h3)
  have RO := Lib.hid (fun W => ropen s next W (by omega))
  have PS := Lib.hid (fun W h1 h2 => pkparse s next W (by omega) h1 h2)
  obtain ⟨b, hb⟩ : ∃ b, s.data.toList = b := ⟨_, rfl⟩
  rw [hb] at RO PS
  generalize pktE n known (L.map (·.f)) = E at *
  generalize pktV n known (L.map (·.f)) = V at *
  have hq : (V == V) = true := by simp
  clear w0 w1 w2 w3 w4 hk hb hL hb0 hb1
  go_enter Tryd.func13, Tryd.ntmps13
  go_wp2_with fail
  refine (RP.out _ HF.out).mono ?_
  rintro e w1 ⟨rfl, hb1⟩
  have hs1 : Since w w1 := hb1
  clear hb1
  go_wp2_with fail
  refine (PP.out _ (HF.out.later hs1) (HK.out.later hs1) (HC.out.later hs1)).mono ?_
  rintro e w2 ⟨rfl, hb2⟩
  have hs2 := hs1.later hb2
  clear hb2
  go_wp2_with fail
  refine (same_yes E _ (HET.out.later hs2)).mono ?_
  rintro e w3 ⟨rfl, hb3⟩
  have hs3 := hs2.later hb3
  clear hb3
  go_wp2_with fail
  refine (RO.out _).mono ?_
  rintro e w4 ⟨A4, n4, c4, M4, rfl, hb4, hf4, hl4, hm4⟩
  have hs4 := hs3.later hb4
  have HF4 := Lib.hid hf4
  clear hb4 hf4
  go_wp2_with fail
  refine (PS.out _ (HK.out.later hs4) (HC.out.later hs4)).mono ?_
  rintro e w5 ⟨A5, n5, c5, M5, rfl, hb5, hf5, hl5, hm5⟩
  have hs5 := hs4.later hb5
  have HF4' := Lib.hid (HF4.out.later hb5)
  obtain rfl : n5 = n4 := by have := congrArg List.length (hm5.trans hm4.symm); simp at this; omega
  have FE := Lib.hid (fun W h1 h2 => frmseqR A5 A4 c5 c4 n5 M5 M4 W hl5 (hm5.trans hm4.symm) h1 h2)
  have HF5 := Lib.hid hf5
  clear hb5 hf5 hl5 hm5 hl4 hm4
  generalize openE b next = E5 at *
  generalize openN b next = N5 at *
  have hqn : (N5 == N5) = true := by simp
  go_wp2_with fail
  refine (same_yes E5 _ (HET.out.later hs5)).mono ?_
  rintro e w6 ⟨rfl, hb6⟩
  have hs6 := hs5.later hb6
  have HF6 := Lib.hid (HF4'.out.later hb6)
  have HF7 := Lib.hid (HF5.out.later hb6)
  clear hb6
  go_wp2_with fail
  refine (FE.out _ HF7.out HF6.out).mono ?_
  rintro e w7 ⟨rfl, hb7⟩
  go_wp2_with fail
  go_ret
  exact ⟨by first | rfl | simp, hs6.later hb7⟩

/-! the row -/
theorem own : ownKnob Tryd.prog.godebug = none := by kernel_rfl
theorem laidOut : laidOutB Tryd.prog = true := by kernel_rfl
set_option maxRecDepth 100000 in
theorem contract (H : Type) (enc : TypeId × Value → H) (W : World) (base : Nat) (args : Array Value) (ds gs : List (DataW H)) (before : List MemPlace)
    (hval : ∀ (j : Nat) t v, Tryd.f13.params[j]? = some t → args[j]? = some v → Value.okWide Tryd.prog W .any base t v)
    (hW : DataW.Whole enc Tryd.prog Tryd.f13.params.toList Rows.packetTellsSpec.vars false W args.toList ds gs before) (hsz : (DataW.weightsEach Tryd.prog (Tryd.f13.params.toList ++ (OpenSpec.ofChange Rows.packetTellsSpec).bare.plain.varTypes Tryd.prog) (ds ++ gs)).all (· ≤ reachBytes) = true) (hL : laidMetH Tryd.prog Rows.packetTellsRow.laid W) :
    Calls Tryd.prog 13 args W fun e W' => ∃ v, e = .returned v ∧ Rows.packetTellsSpec.post enc Tryd.prog Tryd.f13 false true false false W args v W' := by
  have hW' := hW
  obtain ⟨p, q, hA0, hV, rfl, hfz, hnd⟩ := hW
  have hA : DataW.TrodAll enc Tryd.prog W 0 (fun _ => true) true Tryd.f13.params.toList args.toList ds p := hA0
  rw [Tryd.params13] at hA hval
  obtain ⟨v0, vs0, d0, ds0, p0, q0, hargs, rfl, rfl, h0, r0⟩ := trodAll_cons hA
  obtain ⟨v1, vs1, d1, ds1, p1, q1, rfl, rfl, rfl, h1, r1⟩ := trodAll_cons r0
  obtain ⟨v2, vs2, d2, ds2, p2, q2, rfl, rfl, rfl, h2, r2⟩ := trodAll_cons r1
  obtain ⟨v3, vs3, d3, ds3, p3, q3, rfl, rfl, rfl, h3, r3⟩ := trodAll_cons r2
  obtain ⟨v4, vs4, d4, ds4, p4, q4, rfl, rfl, rfl, h4, r4⟩ := trodAll_cons r3
  obtain ⟨rfl, rfl, rfl⟩ := trodAll_nil r4
  obtain rfl : args = #[v0, v1, v2, v3, v4] := by cases args; simp_all
  obtain ⟨rfl, rfl⟩ := trodVars_none hV
  obtain ⟨a0, rfl, rfl, rfl, w0⟩ := open_int Tryd.underlying3 (hval 0 3 v0 rfl rfl) h0
  obtain ⟨a1, rfl, rfl, rfl, w1⟩ := open_int Tryd.underlying3 (hval 1 3 v1 rfl rfl) h1
  obtain ⟨a2, len2, cap2, rfl⟩ := okWide_slice Tryd.underlying94 (hval 2 94 v2 rfl rfl)
  have k2 := h2
  have lt2 : ∀ x ∈ p2, x.block < W.heap.size := by obtain ⟨m, hm⟩ := k2; exact DataW.trod_lt m _ _ _ hm
  obtain ⟨z2, w2⟩ : ∃ zs, FrmsIn W (.slice a2 len2 cap2) zs := by
    obtain ⟨fuel, hf⟩ := h2
    exact frmsIn_open Tryd.underlying94 Tryd.underlying82 (by kernel_rfl) rfl rfl rfl (by kernel_rfl) (by kernel_rfl) (by kernel_rfl) Tryd.underlying3 Tryd.underlying50 Tryd.underlying9 Tryd.underlying3 (by kernel_rfl) hf
  obtain ⟨s3, rfl, rfl, rfl, w3⟩ := open_string Tryd.underlying9 (hval 3 9 v3 rfl rfl) h3
  have z3 : s3.size ≤ 140737488351232 := by
    have hq := sized_string hsz (j := 3) rfl rfl
    simpa [reachBytes] using hq
  obtain ⟨a4, rfl, rfl, rfl, w4⟩ := open_int Tryd.underlying3 (hval 4 3 v4 rfl rfl) h4
  have lw := laidWalk hL
  refine (walk a0 a1 (.slice a2 len2 cap2) z2 s3 a4 W w0 w1 w2 z3 w4 lw).mono fun e W' ⟨he, bel⟩ => ?_
  subst he
  exact ⟨_, rfl, _, _, _, [], _, [], hW', trodAll_mk1 (shut_bool Tryd.underlying4 _), (trodAll_cons_mk (shut_int Tryd.underlying3 w0) (trodAll_cons_mk (shut_int Tryd.underlying3 w1) (trodAll_cons_mk (Below.trod laidOut (by kernel_rfl) (of_decide_eq_true (by kernel_rfl)) k2 bel lt2) (trodAll_cons_mk (shut_string Tryd.underlying9 w3) (trodAll_cons_mk (shut_int Tryd.underlying3 w4) trodAll_mk0))))), rfl, bel.frame _, fun h => by cases h⟩

theorem reads (os : Os) {H : Type} (enc : TypeId × Value → H) : ∃ places, DataW.whole enc Tryd.prog ((laidWorld os).forCall (fun _ _ => 0) ⟨#[], #[.int .i64 0, .int .i64 0, .slice none 0 0, .string ByteArray.empty, .int .i64 0], []⟩).memory Tryd.f13.params.toList Rows.packetTellsSpec.vars false (#[.int .i64 0, .int .i64 0, .slice none 0 0, .string ByteArray.empty, .int .i64 0] : Array Value).toList 8 = some ([.lit (.int .i64 0), .lit (.int .i64 0), .nil, .lit (.string []), .lit (.int .i64 0)], [], places) :=
  ⟨[], by kernel_rfl⟩
theorem laid_met (os : Os) : laidMetH Tryd.prog Rows.packetTellsRow.laid ((laidWorld os).forCall (fun _ _ => 0) ⟨#[], #[.int .i64 0, .int .i64 0, .slice none 0 0, .string ByteArray.empty, .int .i64 0], []⟩).memory := laidMetW os _

set_option maxRecDepth 100000 in
theorem lifted (os : Os) (started : os.Started) (H : Type) (enc : TypeId × Value → H) (F : Stop.Interp) :
    ReturnsInHanded {} Tryd.checked os 13 .any ((OpenSpec.ofChange Rows.packetTellsSpec).preRow enc Tryd.prog Tryd.f13 Rows.packetTellsRow.domain false Rows.packetTellsRow.laid) (((OpenSpec.ofChange Rows.packetTellsSpec).at F).post enc Tryd.prog Tryd.f13 false true false false) := by
  obtain ⟨places, hx⟩ := reads os enc
  refine returnsInHanded_of_row (C := Tryd.checked) (s := OpenSpec.ofChange Rows.packetTellsSpec) own started (by kernel_rfl) Tryd.func13
    (witness_row_at (enc := enc) (C := Tryd.checked) false (laidWorld os) #[.int .i64 0, .int .i64 0, .slice none 0 0, .string ByteArray.empty, .int .i64 0] rfl (by kernel_rfl) (by kernel_rfl) (by kernel_rfl)
      (OpenSpec.preRow_of_cond 8 hx (by kernel_rfl) (fun k hk => by cases hk) (by kernel_rfl) (laid_met os))) ?_
  intro W base args ds gs before hval hW _ _ hsz hL _ _
  exact contract H enc W base args ds gs before hval hW hsz hL

theorem said : Rows.PacketTellsSaid :=
  OpenClaim.holds_of_cond 13 Tryd.f13 rfl rfl rfl rfl rfl rfl rfl ⟨rfl, rfl, rfl, rfl, rfl⟩ rfl rfl rfl rfl rfl (by kernel_rfl) Tryd.func13 (by kernel_rfl)
    (of_decide_eq_true (by kernel_rfl)) (by unfold Func.isWrapper; first | (rw [if_pos (by decide +kernel)]; kernel_rfl) | (rw [if_neg (by decide +kernel)]; exact ⟨rfl, rfl⟩))
    (fun os started H enc _ F => by rw [OpenClaim.pre_eq_preRow]; exact lifted os started H enc F)

theorem plain (f : FuncId) (fn : Func) (hf : Tryd.pinned.checked.prog.funcNamed "wanderwire/wirelaw2.PacketTells" = some f) (hfn : Tryd.pinned.checked.prog.funcs[f]? = some fn) :
    true = Tryd.pinned.checked.prog.looks [] ∧ ∀ (j : Nat) t, fn.params[j]? = some t → Tryd.pinned.checked.prog.wantsStandIn t = false := by
  obtain rfl : f = 13 := Option.some.inj ((show Tryd.prog.funcNamed "wanderwire/wirelaw2.PacketTells" = some 13 by kernel_rfl).symm.trans hf) |>.symm
  obtain rfl : fn = Tryd.f13 := (Option.some.inj (Tryd.func13.symm.trans hfn)).symm
  refine ⟨by kernel_rfl, fun j t ht => ?_⟩
  rw [Tryd.params13] at ht
  have ht' := Array.mem_of_getElem? ht
  have hall : (([3, 3, 94, 9, 3] : List Nat).all fun t => !Tryd.prog.wantsStandIn t) = true := by kernel_rfl
  have hq := List.all_eq_true.1 hall t (by simpa using ht')
  have hq2 : Tryd.prog.wantsStandIn t = false := by simpa using hq
  exact hq2

theorem card : Rows.PacketTellsCardSaid :=
  Claim7.holds_tied_plain_at .later [] _ _ _ _ said (fun _ h => by cases h) (by kernel_rfl) (fun _ h => by cases h) packetTells_row_tie rfl ⟨rfl, rfl⟩ (by kernel_rfl) rfl plain (by kernel_rfl)
#print axioms card
end Go.Proofs.YthnolkbolmbkdaaDoor.packetTells
