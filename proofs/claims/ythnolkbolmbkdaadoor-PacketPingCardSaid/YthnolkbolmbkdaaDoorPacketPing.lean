/- PacketPing: for every number the law returns true: a packet of one ping comes back, one of no frame is refused. Condition: the tables of kinds and counts hold what the program's text lays, errors.errorType its handle (the row lists them, the card ties them). -/
import Derived.Test.YthnolkbolmbkdaaDoorAckR
import Derived.Test.YthnolkbolmbkdaaDoorSameR
import Derived.Test.YthnolkbolmbkdaaDoorFrmLaw
import Derived.Test.YthnolkbolmbkdaaDoorLaid2
import Derived.Test.YthnolkbolmbkdaaDoorTold
import Derived.Test.YthnolkbolmbkdaaDoorNumAny
import Derived.Test.YthnolkbolmbkdaaDoorFrmBy
import Derived.Test.YthnolkbolmbkdaaDoorFrmPs
import Derived.Test.YthnolkbolmbkdaaDoorFrmEq
import Derived.Test.YthnolkbolmbkdaaDoorPkP
import Derived.Test.YthnolkbolmbkdaaDoorPkS
import Derived.Test.YthnolkbolmbkdaaDoorCards
import Derived.Test.YthnolkbolmbkdaaDoorTie
import Derived.Deep.DeepHandedRow
import Derived.LaidLaws
import Derived.LaidHandle
import Derived.Deep.DeepWitnessRowRef
import Derived.Test.YthnolkbolmbkdaaDoorRows
import Derived.WalkKit
import Derived.ProofKit
import Derived.OpenShut
import Derived.ShutString
import Derived.ChangeOld
import Derived.Below
import Derived.Lib.SmallJoins
import Derived.Deep.Slices
import Derived.Deep.Matrix
import Derived.Deep.Strs
namespace Go.Proofs.YthnolkbolmbkdaaDoor.packetPing
open Go.ChangeShapes Go.WideShapes Go.ChangeAt Go.RowKit
open Go.ChangeMaps (open_string shut_string)
set_option linter.unusedVariables false

noncomputable abbrev laidWorld := YthnolkbolmbkdaaDoor.laidWorld2
theorem laidMetW (os : Os) (args : Array Value) : laidMetH Tryd.prog Rows.packetPingRow.laid ((laidWorld os).forCall (fun _ _ => 0) ⟨#[], args, []⟩).memory := laidMet_ekc os args
theorem laidWalk {W : World} (h : laidMetH Tryd.prog Rows.packetPingRow.laid W) : ETok W ∧ KTab W ∧ CTab W := laid_ekc h
def ping : FrmV := ⟨⟨1, [], ⟨#[]⟩⟩, none, 0⟩
theorem ping_E : frmE ping.f = 0 := by decide
theorem ping_B : frmB ping.f = [1] := by decide
theorem ping_ok {n : Int} (h : MayBe n) : pktE n (n - 1) [ping.f] = 0 ∧ pktV n (n - 1) [ping.f] = pktB n (n - 1) [ping.f] ∧ (pktB n (n - 1) [ping.f]).length = 3 ∧ openE (pktB n (n - 1) [ping.f]) n = 0 ∧ openN (pktB n (n - 1) [ping.f]) n = n ∧ openL (pktB n (n - 1) [ping.f]) n = [ping.f] := by
  have hn : NeedOk n (n - 1) := by unfold NeedOk; unfold MayBe at *; omega
  have hl : (pktB n (n - 1) [ping.f]).length = 3 := by
    unfold pktB
    rw [List.length_append, show leastN (n - (n - 1)) = 1 by rw [show n - (n - 1) = 1 by omega]; decide, show frmsB [ping.f] = frmB ping.f by simp [frmsB], ping_B]
    rfl
  have hE : frmsE [ping.f] = 0 := by simp [frmsE, ping_E]
  obtain ⟨a1, a2⟩ := pkt_ok (x := n) (known := n - 1) (L := [ping.f]) hn (by simp) (by simp) hE (by rw [hl]; omega)
  obtain ⟨o1, o2, o3, _⟩ := open_back (more := n - 1) a1 (Int.le_refl _) (by omega)
  rw [show n - 1 + 1 = n by omega] at o1 o2 o3
  exact ⟨a1, a2, hl, o1, o2, o3⟩
theorem pings_in {W : World} {g : Nat} (h : BlockIs W g 82 #[.int .i64 1, .slice none 0 0, .string ⟨#[]⟩]) : FrmsIn W (.slice (some ⟨g, 0, none⟩) 1 1) [ping] :=
  ⟨fun p hp => by rw [List.mem_singleton.1 hp]; exact ⟨(by decide : (-9223372036854775808 ≤ (1 : Int) ∧ (1 : Int) ≤ 9223372036854775807)), (by decide : 0 ≤ 2 ^ 63 - 1), intsIn_nil W⟩,
   rd_of_block (k := 3) (n := 1) (cap := 1) (es := [frmRow ping]) h (by intro e he; rw [List.mem_singleton.1 he]; exact frmRow_one _) rfl (by omega) (by omega)⟩

set_option maxRecDepth 100000 in
set_option maxHeartbeats 1600000 in
theorem walk (n : Int) (w : World) (w0 : (Lit.int .i64 n).wf = true) (hL : ETok w ∧ KTab w ∧ CTab w) :
    Calls Tryd.prog 11 #[.int .i64 n] w fun e w' => e = .returned (.bool true) ∧ Below w.heap.size w w' := by
  have HET := Lib.hid hL.1
  have HK := Lib.hid hL.2.1
  have HC := Lib.hid hL.2.2
  have hw := wf_bounds w0
  have HB := Lib.hid (BlockIs.fresh w 82 #[.int .i64 1, .slice none 0 0, .string ⟨#[]⟩])
  have HS0 := Lib.hid (show Since w (w.alloc (.cells #[.int .i64 1, .slice none 0 0, .string ⟨#[]⟩] 82)) from (Since.refl w).alloc _)
  have PP := Lib.hid (fun k W h1 h2 h3 => pkprint n k (some ⟨w.heap.size, 0, none⟩) 1 1 [ping] W rfl h1 h2 h3)
  have P0 := Lib.hid (fun k W h2 h3 => pkprint n k none 0 0 [] W rfl (frms0 W) h2 h3)
  simp only [List.map_cons, List.map_nil] at PP P0
  clear w0 hL
  by_cases hm : MayBe n
  case neg =>
    have HN := Lib.hid (fun k L => (pkt_need (x := n) (known := k) (L := L) (fun h => hm h.1)))
    by_cases n0 : n < 0
    · clear hm
      go_enter Tryd.func11, Tryd.ntmps11
      go_wp2_with fail
      refine (PP.out _ _ (pings_in HB.out) (HK.out.later HS0.out) (HC.out.later HS0.out)).mono ?_
      rintro e w1 ⟨rfl, hb1⟩
      rw [(HN.out _ _).1, (HN.out _ _).2, errV_pos (by decide)]
      have hs1 := HS0.out.later hb1
      clear hb1
      go_wp2_with fail
      refine (P0.out _ _ (HK.out.later hs1) (HC.out.later hs1)).mono ?_
      rintro e w2 ⟨rfl, hb2⟩
      rw [(HN.out _ _).1, (HN.out _ _).2]
      have hs2 := hs1.later hb2
      clear hb2
      go_wp2_with fail
      refine (same_yes 1 _ (HET.out.later hs2)).mono ?_
      rintro e w3 ⟨rfl, hb3⟩
      go_wp2_with fail
      go_ret
      exact ⟨rfl, hs2.later hb3⟩
    · have n1 : 1073741823 < n := by unfold MayBe at hm; omega
      have n0' : decide (n < 0) = false := by simpa using n0
      clear hm n0
      go_enter Tryd.func11, Tryd.ntmps11
      go_wp2_with fail
      refine (PP.out _ _ (pings_in HB.out) (HK.out.later HS0.out) (HC.out.later HS0.out)).mono ?_
      rintro e w1 ⟨rfl, hb1⟩
      rw [(HN.out _ _).1, (HN.out _ _).2, errV_pos (by decide)]
      have hs1 := HS0.out.later hb1
      clear hb1
      go_wp2_with fail
      refine (P0.out _ _ (HK.out.later hs1) (HC.out.later hs1)).mono ?_
      rintro e w2 ⟨rfl, hb2⟩
      rw [(HN.out _ _).1, (HN.out _ _).2]
      have hs2 := hs1.later hb2
      clear hb2
      go_wp2_with fail
      refine (same_yes 1 _ (HET.out.later hs2)).mono ?_
      rintro e w3 ⟨rfl, hb3⟩
      go_wp2_with fail
      go_ret
      exact ⟨rfl, hs2.later hb3⟩
  obtain ⟨k1, k2, k3, k4, k5, k6⟩ := ping_ok hm
  have hN : NeedOk n (n - 1) := by unfold NeedOk; unfold MayBe at *; omega
  have HNI := Lib.hid (pkt_nil hN)
  have HNV := Lib.hid (pkt_no HNI.out (by decide))
  have hwr : IntKind.i64.wrap (n - 1) = n - 1 := by unfold MayBe at hm; simp [IntKind.wrap, IntKind.bits, IntKind.signed]; omega
  have K1 := Lib.hid k1
  have K2 := Lib.hid k2
  obtain ⟨Y, hY⟩ : ∃ Y, pktB n (n - 1) [ping.f] = Y := ⟨_, rfl⟩
  rw [hY] at k3 k4 k5 k6 K2
  have K4 := Lib.hid k4
  have K5 := Lib.hid k5
  have K6 := Lib.hid k6
  have PS := Lib.hid (fun W h1 h2 => pkparse ⟨Y.toArray⟩ n W (by rw [bsize]; omega) h1 h2)
  have hq : ((Y.length : Int) == 3) = true := by rw [beq_iff_eq]; omega
  have PPn := Lib.hid (PP.out (n - 1))
  have P0n := Lib.hid (P0.out (n - 1))
  rw [K1.out, K2.out, errV_zero] at PPn
  rw [HNI.out, HNV.out] at P0n
  have hwr2 : wrap64 (n - 1) = n - 1 := by unfold MayBe at hm; unfold wrap64; omega
  have hlo : 0 ≤ n := hm.1
  have hhi : n ≤ 1073741823 := hm.2
  clear k1 k2 k4 k5 k6 hY hN hm K1 K2 HNI HNV PP P0
  go_enter Tryd.func11, Tryd.ntmps11
  go_wp2_with fail
  skip
  refine (PPn.out _ (pings_in HB.out) (HK.out.later HS0.out) (HC.out.later HS0.out)).mono ?_
  rintro e w1 ⟨rfl, hb1⟩
  have hs1 := HS0.out.later hb1
  clear hb1
  go_wp2_with fail
  refine (P0n.out _ (HK.out.later hs1) (HC.out.later hs1)).mono ?_
  rintro e w2 ⟨rfl, hb2⟩
  have hs2 := hs1.later hb2
  clear hb2
  go_wp2_with fail
  refine (PS.out _ (HK.out.later hs2) (HC.out.later hs2)).mono ?_
  rintro e w3 ⟨A, k, c, Ms, rfl, hb3, hf3, hl3, hm3⟩
  simp only at hm3 ⊢
  rw [K4.out, K5.out, errV_zero]
  rw [K6.out] at hm3
  have hs3 := hs2.later hb3
  obtain ⟨g, rfl⟩ := List.length_eq_one_iff.1 (show Ms.length = 1 by have := congrArg List.length hm3; simpa using this)
  have hgk : g.f.kind = 1 := by
    have : g.f = ping.f := by simpa using hm3
    rw [this]; rfl
  obtain rfl : k = 1 := hl3.symm
  obtain ⟨b, off, rfl, hbl, hc⟩ := hf3.rd.frmAt (i := 0) (by simp)
  have HF := Lib.hid (fun W' (h : Since w3 W') => (hc W' h).1)
  clear hb3 hf3 hm3 hl3 hc
  go_wp2_with fail
  refine (same_yes 5 _ (HET.out.later hs3)).mono ?_
  rintro e w4 ⟨rfl, hb4⟩
  have hs4 := hs3.later hb4
  have c0 : w4.cell? ⟨b, off, none⟩ = some (.int .i64 1) := by
    have := HF.out w4 hb4
    simp only [List.getElem_cons_zero, hgk] at this
    simpa using this
  have l4 : b < w4.heap.size := Nat.lt_of_lt_of_le hbl hb4.size
  clear hb4
  go_wp2_with fail
  go_ret
  exact ⟨by first | rfl | simp, hs4⟩

/-! the row -/
theorem own : ownKnob Tryd.prog.godebug = none := by kernel_rfl
theorem laidOut : laidOutB Tryd.prog = true := by kernel_rfl
set_option maxRecDepth 100000 in
theorem contract (H : Type) (enc : TypeId × Value → H) (W : World) (base : Nat) (args : Array Value) (ds gs : List (DataW H)) (before : List MemPlace)
    (hval : ∀ (j : Nat) t v, Tryd.f11.params[j]? = some t → args[j]? = some v → Value.okWide Tryd.prog W .any base t v)
    (hW : DataW.Whole enc Tryd.prog Tryd.f11.params.toList Rows.packetPingSpec.vars false W args.toList ds gs before) (hL : laidMetH Tryd.prog Rows.packetPingRow.laid W) :
    Calls Tryd.prog 11 args W fun e W' => ∃ v, e = .returned v ∧ Rows.packetPingSpec.post enc Tryd.prog Tryd.f11 false true false false W args v W' := by
  have hW' := hW
  obtain ⟨p, q, hA0, hV, rfl, hfz, hnd⟩ := hW
  have hA : DataW.TrodAll enc Tryd.prog W 0 (fun _ => true) true Tryd.f11.params.toList args.toList ds p := hA0
  rw [Tryd.params11] at hA hval
  obtain ⟨v0, vs0, d0, ds0, p0, q0, hargs, rfl, rfl, h0, r0⟩ := trodAll_cons hA
  obtain ⟨rfl, rfl, rfl⟩ := trodAll_nil r0
  obtain rfl : args = #[v0] := by cases args; simp_all
  obtain ⟨rfl, rfl⟩ := trodVars_none hV
  obtain ⟨a0, rfl, rfl, rfl, w0⟩ := open_int Tryd.underlying3 (hval 0 3 v0 rfl rfl) h0
  have lw := laidWalk hL
  refine (walk a0 W w0 lw).mono fun e W' ⟨he, bel⟩ => ?_
  subst he
  exact ⟨_, rfl, _, _, _, [], _, [], hW', trodAll_mk1 (shut_bool Tryd.underlying4 _), (trodAll_cons_mk (shut_int Tryd.underlying3 w0) trodAll_mk0), rfl, bel.frame _, fun h => by cases h⟩

theorem reads (os : Os) {H : Type} (enc : TypeId × Value → H) : ∃ places, DataW.whole enc Tryd.prog ((laidWorld os).forCall (fun _ _ => 0) ⟨#[], #[.int .i64 0], []⟩).memory Tryd.f11.params.toList Rows.packetPingSpec.vars false (#[.int .i64 0] : Array Value).toList 8 = some ([.lit (.int .i64 0)], [], places) :=
  ⟨[], by kernel_rfl⟩
theorem laid_met (os : Os) : laidMetH Tryd.prog Rows.packetPingRow.laid ((laidWorld os).forCall (fun _ _ => 0) ⟨#[], #[.int .i64 0], []⟩).memory := laidMetW os _

set_option maxRecDepth 100000 in
theorem lifted (os : Os) (started : os.Started) (H : Type) (enc : TypeId × Value → H) (F : Stop.Interp) :
    ReturnsInHanded {} Tryd.checked os 11 .any ((OpenSpec.ofChange Rows.packetPingSpec).preRow enc Tryd.prog Tryd.f11 Rows.packetPingRow.domain false Rows.packetPingRow.laid) (((OpenSpec.ofChange Rows.packetPingSpec).at F).post enc Tryd.prog Tryd.f11 false true false false) := by
  obtain ⟨places, hx⟩ := reads os enc
  refine returnsInHanded_of_row (C := Tryd.checked) (s := OpenSpec.ofChange Rows.packetPingSpec) own started (by kernel_rfl) Tryd.func11
    (witness_row_at (enc := enc) (C := Tryd.checked) false (laidWorld os) #[.int .i64 0] rfl (by kernel_rfl) (by kernel_rfl) (by kernel_rfl)
      (OpenSpec.preRow_of_cond 8 hx (by kernel_rfl) (fun k hk => by cases hk) (by kernel_rfl) (laid_met os))) ?_
  intro W base args ds gs before hval hW _ _ _ hL _ _
  exact contract H enc W base args ds gs before hval hW hL

theorem said : Rows.PacketPingSaid :=
  OpenClaim.holds_of_cond 11 Tryd.f11 rfl rfl rfl rfl rfl rfl rfl ⟨rfl, rfl, rfl, rfl, rfl⟩ rfl rfl rfl rfl rfl (by kernel_rfl) Tryd.func11 (by kernel_rfl)
    (of_decide_eq_true (by kernel_rfl)) (by unfold Func.isWrapper; first | (rw [if_pos (by decide +kernel)]; kernel_rfl) | (rw [if_neg (by decide +kernel)]; exact ⟨rfl, rfl⟩))
    (fun os started H enc _ F => by rw [OpenClaim.pre_eq_preRow]; exact lifted os started H enc F)

theorem plain (f : FuncId) (fn : Func) (hf : Tryd.pinned.checked.prog.funcNamed "wanderwire/wirelaw4.PacketPing" = some f) (hfn : Tryd.pinned.checked.prog.funcs[f]? = some fn) :
    true = Tryd.pinned.checked.prog.looks [] ∧ ∀ (j : Nat) t, fn.params[j]? = some t → Tryd.pinned.checked.prog.wantsStandIn t = false := by
  obtain rfl : f = 11 := Option.some.inj ((show Tryd.prog.funcNamed "wanderwire/wirelaw4.PacketPing" = some 11 by kernel_rfl).symm.trans hf) |>.symm
  obtain rfl : fn = Tryd.f11 := (Option.some.inj (Tryd.func11.symm.trans hfn)).symm
  refine ⟨by kernel_rfl, fun j t ht => ?_⟩
  rw [Tryd.params11] at ht
  have ht' := Array.mem_of_getElem? ht
  have hall : (([3] : List Nat).all fun t => !Tryd.prog.wantsStandIn t) = true := by kernel_rfl
  have hq := List.all_eq_true.1 hall t (by simpa using ht')
  have hq2 : Tryd.prog.wantsStandIn t = false := by simpa using hq
  exact hq2

theorem card : Rows.PacketPingCardSaid :=
  Claim7.holds_tied_plain_at .later [] _ _ _ _ said (fun _ h => by cases h) (by kernel_rfl) (fun _ h => by cases h) packetPing_row_tie rfl ⟨rfl, rfl⟩ (by kernel_rfl) rfl plain (by kernel_rfl)
#print axioms card
end Go.Proofs.YthnolkbolmbkdaaDoor.packetPing
