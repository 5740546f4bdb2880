/- PacketBack: for every number, known number, frames and next number the law returns true: a packet that is printed comes back whole where the reader has seen as much as the writer knew, and is of two hundred bytes at most. Condition: the tables of kinds and counts hold what the program's text lays (the row lists them, the card ties them). -/
import Derived.Test.YthnolkbolmbkdaaDoorAckR
import Derived.Test.YthnolkbolmbkdaaDoorSameR
import Derived.Test.YthnolkbolmbkdaaDoorFrmLaw
import Derived.Test.YthnolkbolmbkdaaDoorLaid2
import Derived.Test.YthnolkbolmbkdaaDoorTold
import Derived.Test.YthnolkbolmbkdaaDoorNumAny
import Derived.Test.YthnolkbolmbkdaaDoorFrmBy
import Derived.Test.YthnolkbolmbkdaaDoorFrmPs
import Derived.Test.YthnolkbolmbkdaaDoorFrmEq
import Derived.Test.YthnolkbolmbkdaaDoorPkP
import Derived.Test.YthnolkbolmbkdaaDoorPkS
import Derived.Test.YthnolkbolmbkdaaDoorCards
import Derived.Test.YthnolkbolmbkdaaDoorTie
import Derived.Deep.DeepHandedRow
import Derived.LaidLaws
import Derived.LaidHandle
import Derived.Deep.DeepWitnessRowRef
import Derived.Test.YthnolkbolmbkdaaDoorRows
import Derived.WalkKit
import Derived.ProofKit
import Derived.OpenShut
import Derived.ShutString
import Derived.ChangeOld
import Derived.Below
import Derived.Lib.SmallJoins
import Derived.Deep.Slices
import Derived.Deep.Matrix
import Derived.Deep.Strs
namespace Go.Proofs.YthnolkbolmbkdaaDoor.packetBack
open Go.ChangeShapes Go.WideShapes Go.ChangeAt Go.RowKit
open Go.ChangeMaps (open_string shut_string)
set_option linter.unusedVariables false

noncomputable abbrev laidWorld := YthnolkbolmbkdaaDoor.laidWorld2
theorem laidMetW (os : Os) (args : Array Value) : laidMetH Tryd.prog Rows.packetBackRow.laid ((laidWorld os).forCall (fun _ _ => 0) ⟨#[], args, []⟩).memory := laidMet_kc os args
theorem laidWalk {W : World} (h : laidMetH Tryd.prog Rows.packetBackRow.laid W) : KTab W ∧ CTab W := laid_kc h
def ping : FrmV := ⟨⟨1, [], ⟨#[]⟩⟩, none, 0⟩
theorem ping_E : frmE ping.f = 0 := by decide
theorem ping_B : frmB ping.f = [1] := by decide
theorem fact_B : pktB 5 4 [ping.f] = [1, 5, 1] := by
  unfold pktB
  rw [show leastN (5 - 4) = 1 by decide, show frmsB [ping.f] = frmB ping.f by simp [frmsB], ping_B]; decide
theorem fact_ok : pktE 5 4 [ping.f] = 0 ∧ pktV 5 4 [ping.f] = [1, 5, 1] := by
  have h := pkt_ok (x := 5) (known := 4) (L := [ping.f]) (by unfold NeedOk; unfold MayBe; omega) (by simp) (by simp) (by simp [frmsE, ping_E]) (by rw [fact_B]; decide)
  rw [fact_B] at h; exact h
theorem pings_in {W : World} {g : Nat} (h : BlockIs W g 82 #[.int .i64 1, .slice none 0 0, .string ⟨#[]⟩]) : FrmsIn W (.slice (some ⟨g, 0, none⟩) 1 1) [ping] :=
  ⟨fun p hp => by rw [List.mem_singleton.1 hp]; exact ⟨(by decide : (-9223372036854775808 ≤ (1 : Int) ∧ (1 : Int) ≤ 9223372036854775807)), (by decide : 0 ≤ 2 ^ 63 - 1), intsIn_nil W⟩,
   rd_of_block (k := 3) (n := 1) (cap := 1) (es := [frmRow ping]) h (by intro e he; rw [List.mem_singleton.1 he]; exact frmRow_one _) rfl (by omega) (by omega)⟩

set_option maxRecDepth 100000 in
set_option maxHeartbeats 1600000 in
theorem walk (n known : Int) (v : Value) (L : List FrmV) (more : Int) (w : World) (w0 : (Lit.int .i64 n).wf = true) (w1 : (Lit.int .i64 known).wf = true) (w2 : FrmsIn w v L) (w3 : (Lit.int .i64 more).wf = true) (hkc : KTab w ∧ CTab w) :
    Calls Tryd.prog 12 #[.int .i64 n, .int .i64 known, v, .int .i64 more] w fun e w' => e = .returned (.bool true) ∧ Below w.heap.size w w' := by
  have HK := Lib.hid hkc.1
  have HC := Lib.hid hkc.2
  have hwn := wf_bounds w0
  have hwm := wf_bounds w3
  obtain ⟨A, cap, rfl, _⟩ := id w2.rd.shape
  rw [List.length_map] at w2 ⊢
  obtain ⟨k, hk⟩ : ∃ k, L.length = k := ⟨_, rfl⟩
  rw [hk] at w2 ⊢
  have HL := Lib.hid w2
  have HKL := Lib.hid hk
  have HB := Lib.hid (BlockIs.fresh w 82 #[.int .i64 1, .slice none 0 0, .string ⟨#[]⟩])
  have HS0 := Lib.hid (show Since w (w.alloc (.cells #[.int .i64 1, .slice none 0 0, .string ⟨#[]⟩] 82)) from (Since.refl w).alloc _)
  have P5 := Lib.hid (fun W h1 h2 h3 => pkprint 5 4 (some ⟨w.heap.size, 0, none⟩) 1 1 [ping] W rfl h1 h2 h3)
  simp only [List.map_cons, List.map_nil, fact_ok.1, fact_ok.2, errV_zero] at P5
  have PP := Lib.hid (fun W h1 h2 h3 => pkprint n known A k cap L W hk h1 h2 h3)
  have hq0 : ([1, 5, 1] != (⟨#[1, 5, 1]⟩ : ByteArray).toList) = false := by decide +kernel
  have HE0 : Hid (pktE n known (L.map (·.f)) = 0 → pktV n known (L.map (·.f)) = pktB n known (L.map (·.f))) := Lib.hid (fun h => by unfold pktV; rw [if_pos h])
  have HBK := Lib.hid (fun h h1 h2 => open_back (n := n) (known := known) (more := more) (L := L.map (·.f)) h h1 h2)
  have hw1 := wf_bounds w1
  clear w0 w1 w2 w3 hk hkc
  go_enter Tryd.func12, Tryd.ntmps12
  go_wp2_with fail
  refine (P5.out _ (pings_in HB.out) (HK.out.later HS0.out) (HC.out.later HS0.out)).mono ?_
  rintro e w4 ⟨rfl, hb4⟩
  have hs4 := HS0.out.later hb4
  clear hb4
  go_wp2_with fail
  refine (PP.out _ (HL.out.later hs4) (HK.out.later hs4) (HC.out.later hs4)).mono ?_
  rintro e w5 ⟨rfl, hb5⟩
  have hs5 := hs4.later hb5
  clear hb5
  by_cases hE : pktE n known (L.map (·.f)) = 0
  case neg =>
    rw [errV_pos hE]
    clear hE
    go_wp2_with fail
    go_ret
    exact ⟨rfl, hs5⟩
  have HE := Lib.hid hE
  rw [hE, errV_zero, HE0.out hE]
  clear hE
  by_cases h1 : more < known
  · generalize pktB n known (L.map (·.f)) = Y at *
    go_wp2_with fail
    go_ret
    exact ⟨rfl, hs5⟩
  have h1' : decide (more < known) = false := by simpa using h1
  by_cases h2 : n ≤ more
  · generalize pktB n known (L.map (·.f)) = Y at *
    clear h1
    go_wp2_with fail
    go_ret
    exact ⟨rfl, hs5⟩
  have h2' : decide (n ≤ more) = false := by simpa using h2
  obtain ⟨o1, o2, o3, o4⟩ := HBK.out HE.out (by omega) (by omega)
  obtain ⟨Y, hY⟩ : ∃ Y, pktB n known (L.map (·.f)) = Y := ⟨_, rfl⟩
  rw [hY] at o1 o2 o3 o4 ⊢
  have O1 := Lib.hid o1
  have O2 := Lib.hid o2
  have O3 := Lib.hid o3
  have hwr : IntKind.i64.wrap (more + 1) = more + 1 := by simp [IntKind.wrap, IntKind.bits, IntKind.signed]; omega
  have hwr2 : wrap64 (more + 1) = more + 1 := by unfold wrap64; omega
  have hy : (Y.length : Int) ≤ 200 := by omega
  have PS := Lib.hid (fun W h1 h2 => pkparse ⟨Y.toArray⟩ (more + 1) W (by rw [bsize]; omega) h1 h2)
  clear o1 o2 o3 hY h1 h2 HE0 HBK
  go_wp2_with fail
  refine (PS.out _ (HK.out.later hs5) (HC.out.later hs5)).mono ?_
  rintro e w6 ⟨A6, k6, c6, Ms, rfl, hb6, hf6, hl6, hm6⟩
  simp only at hm6 ⊢
  rw [O1.out, O2.out, errV_zero]
  rw [O3.out] at hm6
  have hs6 := hs5.later hb6
  have hk6 : k6 = k := by have := congrArg List.length hm6; simp at this; have := HKL.out; omega
  subst hk6
  have FE := Lib.hid (frmseqR A6 A c6 cap k6 Ms L w6 hl6 hm6 hf6 (HL.out.later hs6))
  clear hb6 hf6 hl6 hm6
  go_wp2_with fail
  refine FE.out.mono ?_
  rintro e w7 ⟨rfl, hb7⟩
  go_wp2_with fail
  go_ret
  exact ⟨by first | rfl | simp, hs6.later hb7⟩

/-! the row -/
theorem own : ownKnob Tryd.prog.godebug = none := by kernel_rfl
theorem laidOut : laidOutB Tryd.prog = true := by kernel_rfl
set_option maxRecDepth 100000 in
theorem contract (H : Type) (enc : TypeId × Value → H) (W : World) (base : Nat) (args : Array Value) (ds gs : List (DataW H)) (before : List MemPlace)
    (hval : ∀ (j : Nat) t v, Tryd.f12.params[j]? = some t → args[j]? = some v → Value.okWide Tryd.prog W .any base t v)
    (hW : DataW.Whole enc Tryd.prog Tryd.f12.params.toList Rows.packetBackSpec.vars false W args.toList ds gs before) (hL : laidMetH Tryd.prog Rows.packetBackRow.laid W) :
    Calls Tryd.prog 12 args W fun e W' => ∃ v, e = .returned v ∧ Rows.packetBackSpec.post enc Tryd.prog Tryd.f12 false true false false W args v W' := by
  have hW' := hW
  obtain ⟨p, q, hA0, hV, rfl, hfz, hnd⟩ := hW
  have hA : DataW.TrodAll enc Tryd.prog W 0 (fun _ => true) true Tryd.f12.params.toList args.toList ds p := hA0
  rw [Tryd.params12] at hA hval
  obtain ⟨v0, vs0, d0, ds0, p0, q0, hargs, rfl, rfl, h0, r0⟩ := trodAll_cons hA
  obtain ⟨v1, vs1, d1, ds1, p1, q1, rfl, rfl, rfl, h1, r1⟩ := trodAll_cons r0
  obtain ⟨v2, vs2, d2, ds2, p2, q2, rfl, rfl, rfl, h2, r2⟩ := trodAll_cons r1
  obtain ⟨v3, vs3, d3, ds3, p3, q3, rfl, rfl, rfl, h3, r3⟩ := trodAll_cons r2
  obtain ⟨rfl, rfl, rfl⟩ := trodAll_nil r3
  obtain rfl : args = #[v0, v1, v2, v3] := by cases args; simp_all
  obtain ⟨rfl, rfl⟩ := trodVars_none hV
  obtain ⟨a0, rfl, rfl, rfl, w0⟩ := open_int Tryd.underlying3 (hval 0 3 v0 rfl rfl) h0
  obtain ⟨a1, rfl, rfl, rfl, w1⟩ := open_int Tryd.underlying3 (hval 1 3 v1 rfl rfl) h1
  obtain ⟨a2, len2, cap2, rfl⟩ := okWide_slice Tryd.underlying94 (hval 2 94 v2 rfl rfl)
  have k2 := h2
  have lt2 : ∀ x ∈ p2, x.block < W.heap.size := by obtain ⟨m, hm⟩ := k2; exact DataW.trod_lt m _ _ _ hm
  obtain ⟨z2, w2⟩ : ∃ zs, FrmsIn W (.slice a2 len2 cap2) zs := by
    obtain ⟨fuel, hf⟩ := h2
    exact frmsIn_open Tryd.underlying94 Tryd.underlying82 (by kernel_rfl) rfl rfl rfl (by kernel_rfl) (by kernel_rfl) (by kernel_rfl) Tryd.underlying3 Tryd.underlying50 Tryd.underlying9 Tryd.underlying3 (by kernel_rfl) hf
  obtain ⟨a3, rfl, rfl, rfl, w3⟩ := open_int Tryd.underlying3 (hval 3 3 v3 rfl rfl) h3
  have lw := laidWalk hL
  refine (walk a0 a1 (.slice a2 len2 cap2) z2 a3 W w0 w1 w2 w3 lw).mono fun e W' ⟨he, bel⟩ => ?_
  subst he
  exact ⟨_, rfl, _, _, _, [], _, [], hW', trodAll_mk1 (shut_bool Tryd.underlying4 _), (trodAll_cons_mk (shut_int Tryd.underlying3 w0) (trodAll_cons_mk (shut_int Tryd.underlying3 w1) (trodAll_cons_mk (Below.trod laidOut (by kernel_rfl) (of_decide_eq_true (by kernel_rfl)) k2 bel lt2) (trodAll_cons_mk (shut_int Tryd.underlying3 w3) trodAll_mk0)))), rfl, bel.frame _, fun h => by cases h⟩

theorem reads (os : Os) {H : Type} (enc : TypeId × Value → H) : ∃ places, DataW.whole enc Tryd.prog ((laidWorld os).forCall (fun _ _ => 0) ⟨#[], #[.int .i64 0, .int .i64 0, .slice none 0 0, .int .i64 0], []⟩).memory Tryd.f12.params.toList Rows.packetBackSpec.vars false (#[.int .i64 0, .int .i64 0, .slice none 0 0, .int .i64 0] : Array Value).toList 8 = some ([.lit (.int .i64 0), .lit (.int .i64 0), .nil, .lit (.int .i64 0)], [], places) :=
  ⟨[], by kernel_rfl⟩
theorem laid_met (os : Os) : laidMetH Tryd.prog Rows.packetBackRow.laid ((laidWorld os).forCall (fun _ _ => 0) ⟨#[], #[.int .i64 0, .int .i64 0, .slice none 0 0, .int .i64 0], []⟩).memory := laidMetW os _

set_option maxRecDepth 100000 in
theorem lifted (os : Os) (started : os.Started) (H : Type) (enc : TypeId × Value → H) (F : Stop.Interp) :
    ReturnsInHanded {} Tryd.checked os 12 .any ((OpenSpec.ofChange Rows.packetBackSpec).preRow enc Tryd.prog Tryd.f12 Rows.packetBackRow.domain false Rows.packetBackRow.laid) (((OpenSpec.ofChange Rows.packetBackSpec).at F).post enc Tryd.prog Tryd.f12 false true false false) := by
  obtain ⟨places, hx⟩ := reads os enc
  refine returnsInHanded_of_row (C := Tryd.checked) (s := OpenSpec.ofChange Rows.packetBackSpec) own started (by kernel_rfl) Tryd.func12
    (witness_row_at (enc := enc) (C := Tryd.checked) false (laidWorld os) #[.int .i64 0, .int .i64 0, .slice none 0 0, .int .i64 0] rfl (by kernel_rfl) (by kernel_rfl) (by kernel_rfl)
      (OpenSpec.preRow_of_cond 8 hx (by kernel_rfl) (fun k hk => by cases hk) (by kernel_rfl) (laid_met os))) ?_
  intro W base args ds gs before hval hW _ _ _ hL _ _
  exact contract H enc W base args ds gs before hval hW hL

theorem said : Rows.PacketBackSaid :=
  OpenClaim.holds_of_cond 12 Tryd.f12 rfl rfl rfl rfl rfl rfl rfl ⟨rfl, rfl, rfl, rfl, rfl⟩ rfl rfl rfl rfl rfl (by kernel_rfl) Tryd.func12 (by kernel_rfl)
    (of_decide_eq_true (by kernel_rfl)) (by unfold Func.isWrapper; first | (rw [if_pos (by decide +kernel)]; kernel_rfl) | (rw [if_neg (by decide +kernel)]; exact ⟨rfl, rfl⟩))
    (fun os started H enc _ F => by rw [OpenClaim.pre_eq_preRow]; exact lifted os started H enc F)

theorem plain (f : FuncId) (fn : Func) (hf : Tryd.pinned.checked.prog.funcNamed "wanderwire/wirelaw2.PacketBack" = some f) (hfn : Tryd.pinned.checked.prog.funcs[f]? = some fn) :
    true = Tryd.pinned.checked.prog.looks [] ∧ ∀ (j : Nat) t, fn.params[j]? = some t → Tryd.pinned.checked.prog.wantsStandIn t = false := by
  obtain rfl : f = 12 := Option.some.inj ((show Tryd.prog.funcNamed "wanderwire/wirelaw2.PacketBack" = some 12 by kernel_rfl).symm.trans hf) |>.symm
  obtain rfl : fn = Tryd.f12 := (Option.some.inj (Tryd.func12.symm.trans hfn)).symm
  refine ⟨by kernel_rfl, fun j t ht => ?_⟩
  rw [Tryd.params12] at ht
  have ht' := Array.mem_of_getElem? ht
  have hall : (([3, 3, 94, 3] : List Nat).all fun t => !Tryd.prog.wantsStandIn t) = true := by kernel_rfl
  have hq := List.all_eq_true.1 hall t (by simpa using ht')
  have hq2 : Tryd.prog.wantsStandIn t = false := by simpa using hq
  exact hq2

theorem card : Rows.PacketBackCardSaid :=
  Claim7.holds_tied_plain_at .later [] _ _ _ _ said (fun _ h => by cases h) (by kernel_rfl) (fun _ h => by cases h) packetBack_row_tie rfl ⟨rfl, rfl⟩ (by kernel_rfl) rfl plain (by kernel_rfl)
#print axioms card
end Go.Proofs.YthnolkbolmbkdaaDoor.packetBack
