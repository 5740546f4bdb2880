/- AckOne: for every number the law returns true: of one number its bytes and two noughts are told, and these are read as that one range. Condition: the table of kinds holds what the program's text lays (the row lists it, the card ties it). -/
import Derived.Test.YthnolkbolmbkdaaDoorAckR
import Derived.Test.YthnolkbolmbkdaaDoorSameR
import Derived.Test.YthnolkbolmbkdaaDoorLaid
import Derived.Test.YthnolkbolmbkdaaDoorTold
import Derived.Test.YthnolkbolmbkdaaDoorNumAny
import Derived.Test.YthnolkbolmbkdaaDoorCards
import Derived.Test.YthnolkbolmbkdaaDoorTie
import Derived.Deep.DeepHandedRow
import Derived.LaidLaws
import Derived.LaidHandle
import Derived.Deep.DeepWitnessRowRef
import Derived.Test.YthnolkbolmbkdaaDoorRows
import Derived.WalkKit
import Derived.ProofKit
import Derived.OpenShut
import Derived.ShutString
import Derived.ChangeOld
import Derived.Below
import Derived.Lib.SmallJoins
import Derived.Deep.Slices
import Derived.Deep.Matrix
import Derived.Deep.Strs
namespace Go.Proofs.YthnolkbolmbkdaaDoor.ackOne
open Go.ChangeShapes Go.WideShapes Go.ChangeAt Go.RowKit
open Go.ChangeMaps (open_string shut_string)
set_option linter.unusedVariables false

noncomputable abbrev laidWorld := YthnolkbolmbkdaaDoor.laidWorld
theorem laidMetW (os : Os) (args : Array Value) : laidMetH Tryd.prog Rows.ackOneRow.laid ((laidWorld os).forCall (fun _ _ => 0) ⟨#[], args, []⟩).memory := laidMet_k os args
theorem laidWalk {W : World} (h : laidMetH Tryd.prog Rows.ackOneRow.laid W) : KTab W := laid_k h
theorem vput_yes (n : Int) (n0 : 0 ≤ n) (n1 : n ≤ 1073741823) (w : World) (hk : KTab w) :
    Calls Tryd.prog 34 #[.int .i64 n] w fun e w' => e = .returned (.tuple #[.string ⟨(vbytes n).toArray⟩, .nilIface]) ∧ Below w.heap.size w w' := by
  have e := vput_any n w hk
  rw [show vputL n = vbytes n from by unfold vputL; rw [if_pos (show MayBe n from ⟨n0, n1⟩)], show vputE n = 0 from by unfold vputE; rw [if_pos (show MayBe n from ⟨n0, n1⟩)]] at e
  exact e
theorem one_no {n : Int} (h : ¬ MayBe n) : rngE [⟨n, n⟩] = 1 := by
  have hb : mayB n = false := by cases hh : mayB n with | false => rfl | true => exact absurd (mayB_iff.1 hh) h
  unfold rngE
  rw [if_neg (by simp)]
  simp [rngUp, rngOne, rat, hb]
theorem one_yes {n : Int} (h : MayBe n) : rngE [⟨n, n⟩] = 0 := by
  have hb : mayB n = true := mayB_iff.2 h
  unfold rngE
  rw [if_neg (by simp)]
  simp [rngUp, rngOne, rat, hb]
theorem one_bytes (n : Int) : ackB [⟨n, n⟩] = vbytes n ++ [0, 0] := by
  have h0 : vbytes 0 = [0] := by decide
  simp [ackB, ackUp, ackHead, tlUp, tlOne, rat, h0]
theorem errV_1 : errV 1 = .iface 113 (.int .i64 1) := rfl

set_option maxRecDepth 100000 in
set_option maxHeartbeats 1600000 in
theorem walk (n : Int) (w : World) (w0 : (Lit.int .i64 n).wf = true) (hk : KTab w) :
    Calls Tryd.prog 6 #[.int .i64 n] w fun e w' => e = .returned (.bool true) ∧ Below w.heap.size w w' := by
  have HK := Lib.hid hk
  have hw := wf_bounds w0
  have HRD := Lib.hid (rd_of_block (k := 2) (n := 1) (cap := 1) (es := [rngRow ⟨n, n⟩]) (BlockIs.fresh w 69 #[.int .i64 n, .int .i64 n]) (by intro e he; rw [List.mem_singleton.1 he]; exact rngRow_one _) rfl (by omega) (by omega))
  have HOK : Hid (∀ r ∈ [(⟨n, n⟩ : Rng)], okI r.lo ∧ okI r.hi) := Lib.hid (fun r hr => by rw [List.mem_singleton.1 hr]; exact ⟨hw, hw⟩)
  clear hk w0
  by_cases hn : MayBe n
  case neg =>
    obtain ⟨e1, e2⟩ := ackE_bad (L := [⟨n, n⟩]) (by rw [one_no hn]; decide)
    rw [one_no hn] at e1
    have E1 := Lib.hid e1
    have E2 := Lib.hid e2
    clear e1 e2
    by_cases n0 : n < 0
    · go_enter Tryd.func6, Tryd.ntmps6
      go_wp2_with fail
      refine (ackprint _ 1 1 [⟨n, n⟩] _ rfl HOK.out HRD.out (HK.out.later (by refine Since.out ?_; repeat (first | with_reducible assumption | with_reducible exact Since.refl _ | with_reducible refine Since.later ?_ (by with_reducible assumption) | with_reducible refine Since.only ?_ (by with_reducible assumption) (by first | assumption | omega | (simp; done) | (simp; omega)) | with_reducible refine Since.alloc ?_ _ | with_reducible refine Since.drewN ?_ _ | with_reducible refine Since.drew ?_ | with_reducible refine Since.set ?_ (by first | assumption | omega | (simp; done) | (simp; omega)) _)))).mono ?_
      rintro e w1 ⟨rfl, hb1⟩
      rw [E1.out, E2.out, errV_1]
      clear hn
      go_wp2_with fail
      go_ret
      exact ⟨rfl, (by refine Since.out ?_; repeat (first | with_reducible assumption | with_reducible exact Since.refl _ | with_reducible refine Since.later ?_ (by with_reducible assumption) | with_reducible refine Since.only ?_ (by with_reducible assumption) (by first | assumption | omega | (simp; done) | (simp; omega)) | with_reducible refine Since.alloc ?_ _ | with_reducible refine Since.drewN ?_ _ | with_reducible refine Since.drew ?_ | with_reducible refine Since.set ?_ (by first | assumption | omega | (simp; done) | (simp; omega)) _))⟩
    · have n1 : 1073741823 < n := by unfold MayBe at hn; omega
      have n0' : decide (n < 0) = false := by simpa using n0
      clear hn
      go_enter Tryd.func6, Tryd.ntmps6
      go_wp2_with fail
      refine (ackprint _ 1 1 [⟨n, n⟩] _ rfl HOK.out HRD.out (HK.out.later (by refine Since.out ?_; repeat (first | with_reducible assumption | with_reducible exact Since.refl _ | with_reducible refine Since.later ?_ (by with_reducible assumption) | with_reducible refine Since.only ?_ (by with_reducible assumption) (by first | assumption | omega | (simp; done) | (simp; omega)) | with_reducible refine Since.alloc ?_ _ | with_reducible refine Since.drewN ?_ _ | with_reducible refine Since.drew ?_ | with_reducible refine Since.set ?_ (by first | assumption | omega | (simp; done) | (simp; omega)) _)))).mono ?_
      rintro e w1 ⟨rfl, hb1⟩
      rw [E1.out, E2.out, errV_1]
      go_wp2_with fail
      go_ret
      exact ⟨rfl, (by refine Since.out ?_; repeat (first | with_reducible assumption | with_reducible exact Since.refl _ | with_reducible refine Since.later ?_ (by with_reducible assumption) | with_reducible refine Since.only ?_ (by with_reducible assumption) (by first | assumption | omega | (simp; done) | (simp; omega)) | with_reducible refine Since.alloc ?_ _ | with_reducible refine Since.drewN ?_ _ | with_reducible refine Since.drew ?_ | with_reducible refine Since.set ?_ (by first | assumption | omega | (simp; done) | (simp; omega)) _))⟩
  obtain ⟨e1, e2⟩ := ackE_ok (L := [⟨n, n⟩]) (one_yes hn) (by simp)
  rw [one_bytes] at e2
  have hback := readA_back (L := [⟨n, n⟩]) (one_yes hn) (by simp) []
  rw [List.append_nil, one_bytes] at hback
  obtain ⟨_, p1, p2⟩ := parL_yes hback
  have E1 := Lib.hid e1
  have E2 := Lib.hid e2
  have P1 := Lib.hid p1
  have P2 := Lib.hid p2
  obtain ⟨n0, n1⟩ := hn
  have h4 := vbytes_len4 n
  have HSZ : Hid ((⟨(vbytes n ++ [0, 0]).toArray⟩ : ByteArray).size ≤ 9223372036854775807) := Lib.hid (by rw [bsize]; simp; omega)
  have hov : (vbytes n).length + 2 ≤ 9223372036854775807 := by omega
  clear e1 e2 p1 p2 hback
  go_enter Tryd.func6, Tryd.ntmps6
  go_wp2_with fail
  refine (ackprint _ 1 1 [⟨n, n⟩] _ rfl HOK.out HRD.out (HK.out.later (by refine Since.out ?_; repeat (first | with_reducible assumption | with_reducible exact Since.refl _ | with_reducible refine Since.later ?_ (by with_reducible assumption) | with_reducible refine Since.only ?_ (by with_reducible assumption) (by first | assumption | omega | (simp; done) | (simp; omega)) | with_reducible refine Since.alloc ?_ _ | with_reducible refine Since.drewN ?_ _ | with_reducible refine Since.drew ?_ | with_reducible refine Since.set ?_ (by first | assumption | omega | (simp; done) | (simp; omega)) _)))).mono ?_
  rintro e w1 ⟨rfl, hb1⟩
  rw [E1.out, E2.out, errV_zero]
  have hs1 : Since w w1 := (by refine Since.out ?_; repeat (first | with_reducible assumption | with_reducible exact Since.refl _ | with_reducible refine Since.later ?_ (by with_reducible assumption) | with_reducible refine Since.only ?_ (by with_reducible assumption) (by first | assumption | omega | (simp; done) | (simp; omega)) | with_reducible refine Since.alloc ?_ _ | with_reducible refine Since.drewN ?_ _ | with_reducible refine Since.drew ?_ | with_reducible refine Since.set ?_ (by first | assumption | omega | (simp; done) | (simp; omega)) _))
  clear hb1
  go_wp2_with fail
  refine (vput_yes n n0 n1 _ (HK.out.later hs1)).mono ?_
  rintro e w2 ⟨rfl, hb2⟩
  have hs2 := hs1.later hb2
  clear hb2 hs1
  go_wp2_with fail
  refine (aparse _ _ HSZ.out (HK.out.later hs2)).mono ?_
  rintro e w3 ⟨A, cap, rfl, hl, hb3, _⟩
  rw [P1.out, errV_zero]
  rw [P2.out] at hl ⊢
  have hs3 := hs2.later hb3
  obtain ⟨A', cap', hve, _, _, hA⟩ := hl.shape
  simp only [List.map_cons, List.map_nil, List.length_cons, List.length_nil, Value.slice.injEq] at hve
  obtain ⟨rfl, _, rfl⟩ := hve
  rcases hA with ⟨_, h0, _⟩ | ⟨q, rfl⟩
  · simp at h0
  have d0 : w3.cell? ⟨q, 0, none⟩ = some (.int .i64 n) := hl.cell rfl (i := 0) (j := 0) rfl rfl
  have d1 : w3.cell? ⟨q, 1, none⟩ = some (.int .i64 n) := hl.cell rfl (i := 0) (j := 1) rfl rfl
  have lq : q < w3.heap.size := hl.lt q (by simp [Value.ownBlock])
  have hcmp : (vbytes n ++ [0, 0] == ((⟨(vbytes n).toArray⟩ : ByteArray) ++ ⟨#[0, 0]⟩).toList) = true := by
    rw [ByteArray.toList_eq]; simp
  clear hl hb3
  go_wp2_with fail
  go_ret
  exact ⟨by first | rfl | simp, hs3⟩

/-! the row -/
theorem own : ownKnob Tryd.prog.godebug = none := by kernel_rfl
theorem laidOut : laidOutB Tryd.prog = true := by kernel_rfl
set_option maxRecDepth 100000 in
theorem contract (H : Type) (enc : TypeId × Value → H) (W : World) (base : Nat) (args : Array Value) (ds gs : List (DataW H)) (before : List MemPlace)
    (hval : ∀ (j : Nat) t v, Tryd.f6.params[j]? = some t → args[j]? = some v → Value.okWide Tryd.prog W .any base t v)
    (hW : DataW.Whole enc Tryd.prog Tryd.f6.params.toList Rows.ackOneSpec.vars false W args.toList ds gs before) (hL : laidMetH Tryd.prog Rows.ackOneRow.laid W) :
    Calls Tryd.prog 6 args W fun e W' => ∃ v, e = .returned v ∧ Rows.ackOneSpec.post enc Tryd.prog Tryd.f6 false true false false W args v W' := by
  have hW' := hW
  obtain ⟨p, q, hA0, hV, rfl, hfz, hnd⟩ := hW
  have hA : DataW.TrodAll enc Tryd.prog W 0 (fun _ => true) true Tryd.f6.params.toList args.toList ds p := hA0
  rw [Tryd.params6] at hA hval
  obtain ⟨v0, vs0, d0, ds0, p0, q0, hargs, rfl, rfl, h0, r0⟩ := trodAll_cons hA
  obtain ⟨rfl, rfl, rfl⟩ := trodAll_nil r0
  obtain rfl : args = #[v0] := by cases args; simp_all
  obtain ⟨rfl, rfl⟩ := trodVars_none hV
  obtain ⟨a0, rfl, rfl, rfl, w0⟩ := open_int Tryd.underlying3 (hval 0 3 v0 rfl rfl) h0
  have lw := laidWalk hL
  refine (walk a0 W w0 lw).mono fun e W' ⟨he, bel⟩ => ?_
  subst he
  exact ⟨_, rfl, _, _, _, [], _, [], hW', trodAll_mk1 (shut_bool Tryd.underlying4 _), (trodAll_cons_mk (shut_int Tryd.underlying3 w0) trodAll_mk0), rfl, bel.frame _, fun h => by cases h⟩

theorem reads (os : Os) {H : Type} (enc : TypeId × Value → H) : ∃ places, DataW.whole enc Tryd.prog ((laidWorld os).forCall (fun _ _ => 0) ⟨#[], #[.int .i64 0], []⟩).memory Tryd.f6.params.toList Rows.ackOneSpec.vars false (#[.int .i64 0] : Array Value).toList 8 = some ([.lit (.int .i64 0)], [], places) :=
  ⟨[], by kernel_rfl⟩
theorem laid_met (os : Os) : laidMetH Tryd.prog Rows.ackOneRow.laid ((laidWorld os).forCall (fun _ _ => 0) ⟨#[], #[.int .i64 0], []⟩).memory := laidMetW os _

set_option maxRecDepth 100000 in
theorem lifted (os : Os) (started : os.Started) (H : Type) (enc : TypeId × Value → H) (F : Stop.Interp) :
    ReturnsInHanded {} Tryd.checked os 6 .any ((OpenSpec.ofChange Rows.ackOneSpec).preRow enc Tryd.prog Tryd.f6 Rows.ackOneRow.domain false Rows.ackOneRow.laid) (((OpenSpec.ofChange Rows.ackOneSpec).at F).post enc Tryd.prog Tryd.f6 false true false false) := by
  obtain ⟨places, hx⟩ := reads os enc
  refine returnsInHanded_of_row (C := Tryd.checked) (s := OpenSpec.ofChange Rows.ackOneSpec) own started (by kernel_rfl) Tryd.func6
    (witness_row_at (enc := enc) (C := Tryd.checked) false (laidWorld os) #[.int .i64 0] rfl (by kernel_rfl) (by kernel_rfl) (by kernel_rfl)
      (OpenSpec.preRow_of_cond 8 hx (by kernel_rfl) (fun k hk => by cases hk) (by kernel_rfl) (laid_met os))) ?_
  intro W base args ds gs before hval hW _ _ _ hL _ _
  exact contract H enc W base args ds gs before hval hW hL

theorem said : Rows.AckOneSaid :=
  OpenClaim.holds_of_cond 6 Tryd.f6 rfl rfl rfl rfl rfl rfl rfl ⟨rfl, rfl, rfl, rfl, rfl⟩ rfl rfl rfl rfl rfl (by kernel_rfl) Tryd.func6 (by kernel_rfl)
    (of_decide_eq_true (by kernel_rfl)) (by unfold Func.isWrapper; first | (rw [if_pos (by decide +kernel)]; kernel_rfl) | (rw [if_neg (by decide +kernel)]; exact ⟨rfl, rfl⟩))
    (fun os started H enc _ F => by rw [OpenClaim.pre_eq_preRow]; exact lifted os started H enc F)

theorem plain (f : FuncId) (fn : Func) (hf : Tryd.pinned.checked.prog.funcNamed "wanderwire/wirelaw4.AckOne" = some f) (hfn : Tryd.pinned.checked.prog.funcs[f]? = some fn) :
    true = Tryd.pinned.checked.prog.looks [] ∧ ∀ (j : Nat) t, fn.params[j]? = some t → Tryd.pinned.checked.prog.wantsStandIn t = false := by
  obtain rfl : f = 6 := Option.some.inj ((show Tryd.prog.funcNamed "wanderwire/wirelaw4.AckOne" = some 6 by kernel_rfl).symm.trans hf) |>.symm
  obtain rfl : fn = Tryd.f6 := (Option.some.inj (Tryd.func6.symm.trans hfn)).symm
  refine ⟨by kernel_rfl, fun j t ht => ?_⟩
  rw [Tryd.params6] at ht
  have ht' := Array.mem_of_getElem? ht
  have hall : (([3] : List Nat).all fun t => !Tryd.prog.wantsStandIn t) = true := by kernel_rfl
  have hq := List.all_eq_true.1 hall t (by simpa using ht')
  have hq2 : Tryd.prog.wantsStandIn t = false := by simpa using hq
  exact hq2

theorem card : Rows.AckOneCardSaid :=
  Claim7.holds_tied_plain_at .later [] _ _ _ _ said (fun _ h => by cases h) (by kernel_rfl) (fun _ h => by cases h) ackOne_row_tie rfl ⟨rfl, rfl⟩ (by kernel_rfl) rfl plain (by kernel_rfl)
#print axioms card
end Go.Proofs.YthnolkbolmbkdaaDoor.ackOne
