/- EndSilent: for every window the law returns true: a window that may be makes an end whose packet is number 0 and tells its credit alone; nothing is ready and nothing came. Condition: the tables of kinds and counts hold what the program's text lays (the row lists them, the card ties them). -/
import Derived.Test.YtaindcicloapfaaDoorZF
import Derived.Test.YtaindcicloapfaaDoorCards
import Derived.Test.YtaindcicloapfaaDoorTie
import Derived.Deep.DeepHandedRow
import Derived.LaidLaws
import Derived.LaidHandle
import Derived.Deep.DeepWitnessRowRef
import Derived.Test.YtaindcicloapfaaDoorRows
import Derived.WalkKit
import Derived.ProofKit
import Derived.OpenShut
import Derived.ShutString
import Derived.ChangeOld
import Derived.Below
import Derived.Lib.SmallJoins
import Derived.Deep.Slices
import Derived.Deep.Matrix
import Derived.Deep.Strs
namespace Go.Proofs.YtaindcicloapfaaDoor.endSilent
open Go.ChangeShapes Go.WideShapes Go.ChangeAt Go.RowKit
open Go.ChangeMaps (open_string shut_string)
set_option linter.unusedVariables false

noncomputable abbrev laidWorld := YtaindcicloapfaaDoor.laidWorld2
theorem laidMetW (os : Os) (args : Array Value) : laidMetH Tryd.prog Rows.endSilentRow.laid ((laidWorld os).forCall (fun _ _ => 0) ⟨#[], args, []⟩).memory := laidMet_kc os args
theorem laidWalk {W : World} (h : laidMetH Tryd.prog Rows.endSilentRow.laid W) : KTab W ∧ CTab W := laid_kc h
theorem new_pieces (n : Int) : (EnS.new n).pieces = [] := by
  unfold EnS.pieces
  rw [pcsR_none]
  show ¬ ((min (⟨#[]⟩ : ByteArray).size n.toNat) > 0 ∧ _)
  have : (⟨#[]⟩ : ByteArray).size = 0 := rfl
  omega
theorem new_frames (n : Int) : (EnS.new n).frames = [⟨4, [n], ByteArray.empty⟩] := by
  unfold EnS.frames
  rw [new_pieces]
  rfl
theorem new_open {n : Int} (h1 : 1 ≤ n) (h2 : n ≤ 1000) : openE (EnS.new n).packet 0 = 0 ∧ openN (EnS.new n).packet 0 = 0 ∧ openL (EnS.new n).packet 0 = [⟨4, [n], ByteArray.empty⟩] := by
  have hp := (EnOk.new h1 h2).packetOk (by show 0 ≤ 1000000; omega)
  have h := open_about (next := 0) hp.1 ⟨by omega, by omega⟩ (by show (-1 : Int) < 0; omega) (by show (0 : Int) ≤ 0 + 100; omega)
  rw [new_frames] at h
  have e : (EnS.new n).packet = pktB (EnS.new n).made.length (EnS.new n).known [⟨4, [n], ByteArray.empty⟩] := by unfold EnS.packet; rw [new_frames]
  rw [e]
  exact ⟨h.1, h.2.1, h.2.2.1⟩

set_option maxRecDepth 100000 in
set_option maxHeartbeats 3200000 in
theorem walk (n : Int) (w : World) (w0 : (Lit.int .i64 n).wf = true) (hkc : KTab w ∧ CTab w) :
    Calls Tryd.prog 3 #[.int .i64 n] w fun e w' => e = .returned (.bool true) ∧ Below w.heap.size w w' := by
  have HK := Lib.hid hkc.1
  have HC := Lib.hid hkc.2
  clear hkc w0
  by_cases hn : 1 ≤ n ∧ n ≤ 1000
  case neg =>
    have hN := Lib.hid (fun W => enew_no n hn W)
    by_cases h1 : n < 1
    · clear hn
      go_enter Tryd.func3, Tryd.ntmps3
      go_wp2_with (go_at_call 7; refine (hN.out _).mono ?_; rintro e w1 ⟨rfl, hb1⟩; rw [errV_pos (by decide)])
      go_ret
      exact ⟨rfl, (by refine Since.out ?_; repeat (first | with_reducible assumption | with_reducible exact Since.refl _ | with_reducible refine Since.later ?_ (by with_reducible assumption) | with_reducible refine Since.only ?_ (by with_reducible assumption) (by first | assumption | omega | (simp; done) | (simp; omega)) | with_reducible refine Since.alloc ?_ _ | with_reducible refine Since.drewN ?_ _ | with_reducible refine Since.drew ?_ | with_reducible refine Since.set ?_ (by first | assumption | omega | (simp; done) | (simp; omega)) _))⟩
    · have h1' : decide (n < 1) = false := by simpa using h1
      have h2 : 1000 < n := by omega
      clear hn h1
      go_enter Tryd.func3, Tryd.ntmps3
      go_wp2_with (go_at_call 7; refine (hN.out _).mono ?_; rintro e w1 ⟨rfl, hb1⟩; rw [errV_pos (by decide)])
      go_ret
      exact ⟨rfl, (by refine Since.out ?_; repeat (first | with_reducible assumption | with_reducible exact Since.refl _ | with_reducible refine Since.later ?_ (by with_reducible assumption) | with_reducible refine Since.only ?_ (by with_reducible assumption) (by first | assumption | omega | (simp; done) | (simp; omega)) | with_reducible refine Since.alloc ?_ _ | with_reducible refine Since.drewN ?_ _ | with_reducible refine Since.drew ?_ | with_reducible refine Since.set ?_ (by first | assumption | omega | (simp; done) | (simp; omega)) _))⟩
  obtain ⟨h1, h2⟩ := hn
  obtain ⟨o1, o2, o3⟩ := new_open h1 h2
  have HO1 := Lib.hid o1
  have HO2 := Lib.hid o2
  have HO3 := Lib.hid o3
  have hN := Lib.hid (fun W => enew n h1 h2 W)
  clear o1 o2 o3
  go_enter Tryd.func3, Tryd.ntmps3
  go_wp2_with fail
  refine (hN.out _).mono ?_
  rintro e w1 ⟨g, rfl, hl1⟩
  have HW1 : Hid (Own w [] w1 [endT g (EnS.new n)]) := Lib.hid ((Own.start w).made hl1)
  clear hl1
  obtain ⟨S, hS, up⟩ := HW1.out.at_ 0 rfl
  go_wp2_with fail
  refine (emake g (EnS.new n) _ S hS (HK.out.later HW1.out.since) (by show 0 ≤ 1000; omega)).mono ?_
  rintro e w2 ⟨rfl, hl2⟩
  have HW2 : Hid (Own w [] w2 [endT g (EnS.new n).make]) := Lib.hid (up _ _ hl2)
  clear hS up hl2 HW1
  have HP := Lib.hid (fun W hk hc => pkparse ⟨(EnS.new n).packet.toArray⟩ 0 W (by
    have := ((EnOk.new h1 h2).packetOk (by show 0 ≤ 1000000; omega)).2.2
    show (EnS.new n).packet.toArray.size ≤ _
    rw [List.size_toArray]; omega) hk hc)
  go_wp2_with fail
  refine (HP.out _ (HK.out.later HW2.out.since) (HC.out.later HW2.out.since)).mono ?_
  rintro e w3 ⟨A, m, c, Ms, rfl, hb3, hf3, hm3, hM3⟩
  have HW3 := Lib.hid (HW2.out.later hb3)
  rw [HO3.out] at hM3
  rw [HO2.out, HO1.out, errV_zero]
  obtain ⟨⟨⟨k, ns, d⟩, fA, fc⟩, rfl⟩ : ∃ q, Ms = [q] := by
    have := congrArg List.length hM3
    rw [List.length_map] at this
    exact List.length_eq_one_iff.1 this
  simp only [List.map_cons, List.map_nil, List.cons.injEq, and_true, Frm.mk.injEq] at hM3
  obtain ⟨rfl, rfl, rfl⟩ := hM3
  have hm1 : m = 1 := hm3.symm
  subst hm1
  obtain ⟨b, off, hA, hlt, hcc⟩ := hf3.rd.frm (i := 0) (by simp)
  subst hA
  obtain ⟨f0, f1, f2⟩ := hcc w3 (Since.refl _) 0 (by simp)
  have hnum := (hf3.each _ (List.mem_singleton.2 rfl)).nums
  obtain ⟨-, A9, c9, hv, -, -, hc9⟩ := hnum
  obtain ⟨b9, off9, hA9, hlt9, hcz⟩ := hc9 (by simp)
  simp only [FrmV.v, Value.slice.injEq] at hv
  obtain ⟨hv1, -, -⟩ := hv
  have hfA : fA = some ⟨b9, off9, none⟩ := hv1.trans hA9
  subst hfA
  have hz0 : w3.cell? ⟨b9, off9, none⟩ = some (.int .i64 n) := hcz 0 (by simp)
  simp only [Nat.zero_mul, Nat.add_zero, List.getElem_cons_zero] at f0 f1 f2
  have HRD := Lib.hid (fun W S' (h : (endT g (EnS.new n).make).is W S') => eready g (EnS.new n).make W S' h)
  have HAC := Lib.hid (fun W S' (h : (endT g (EnS.new n).make).is W S') => eacked g (EnS.new n).make W S' h)
  have hrn : readyN (EnS.new n).make.M (EnS.new n).make.t = 0 := by show readyN Plc.new 0 = 0; decide
  have hcl : (EnS.new n).make.came.length = 0 := rfl
  rw [hrn] at HRD
  rw [hcl] at HAC
  obtain ⟨S3, hS3, -⟩ := HW3.out.at_ 0 rfl
  have HS3 := Lib.hid hS3
  clear hcc hc9 hcz hf3 hA9 hv1 hrn hcl hS3 HP
  have hs3 : Since w w3 := HW3.out.since
  go_wp2_with (first
    | (go_at_call 10; refine (HRD.out _ S3 HS3.out).mono ?_; rintro e w4 ⟨rfl, hb4⟩; have hs4 : Since w w4 := hs3.later hb4; have HS4 := Lib.hid ((endT g (EnS.new n).make).later HS3.out hb4))
    | (go_at_call 11; refine (HAC.out _ S3 HS4.out).mono ?_; rintro e w5 ⟨A5, c5, rfl, hl5, hb5, hk5⟩; have hs5 : Since w w5 := hs4.later hb5))
  go_ret
  exact ⟨rfl, hs5⟩

/-! the row -/
theorem own : ownKnob Tryd.prog.godebug = none := by kernel_rfl
theorem laidOut : laidOutB Tryd.prog = true := by kernel_rfl
set_option maxRecDepth 100000 in
theorem contract (H : Type) (enc : TypeId × Value → H) (W : World) (base : Nat) (args : Array Value) (ds gs : List (DataW H)) (before : List MemPlace)
    (hval : ∀ (j : Nat) t v, Tryd.f3.params[j]? = some t → args[j]? = some v → Value.okWide Tryd.prog W .any base t v)
    (hW : DataW.Whole enc Tryd.prog Tryd.f3.params.toList Rows.endSilentSpec.vars false W args.toList ds gs before) (hL : laidMetH Tryd.prog Rows.endSilentRow.laid W) :
    Calls Tryd.prog 3 args W fun e W' => ∃ v, e = .returned v ∧ Rows.endSilentSpec.post enc Tryd.prog Tryd.f3 false true false false W args v W' := by
  have hW' := hW
  obtain ⟨p, q, hA0, hV, rfl, hfz, hnd⟩ := hW
  have hA : DataW.TrodAll enc Tryd.prog W 0 (fun _ => true) true Tryd.f3.params.toList args.toList ds p := hA0
  rw [Tryd.params3] at hA hval
  obtain ⟨v0, vs0, d0, ds0, p0, q0, hargs, rfl, rfl, h0, r0⟩ := trodAll_cons hA
  obtain ⟨rfl, rfl, rfl⟩ := trodAll_nil r0
  obtain rfl : args = #[v0] := by cases args; simp_all
  obtain ⟨rfl, rfl⟩ := trodVars_none hV
  obtain ⟨a0, rfl, rfl, rfl, w0⟩ := open_int Tryd.underlying3 (hval 0 3 v0 rfl rfl) h0
  have lw := laidWalk hL
  refine (walk a0 W w0 lw).mono fun e W' ⟨he, bel⟩ => ?_
  subst he
  exact ⟨_, rfl, _, _, _, [], _, [], hW', trodAll_mk1 (shut_bool Tryd.underlying4 _), (trodAll_cons_mk (shut_int Tryd.underlying3 w0) trodAll_mk0), rfl, bel.frame _, fun h => by cases h⟩

theorem reads (os : Os) {H : Type} (enc : TypeId × Value → H) : ∃ places, DataW.whole enc Tryd.prog ((laidWorld os).forCall (fun _ _ => 0) ⟨#[], #[.int .i64 0], []⟩).memory Tryd.f3.params.toList Rows.endSilentSpec.vars false (#[.int .i64 0] : Array Value).toList 8 = some ([.lit (.int .i64 0)], [], places) :=
  ⟨[], by kernel_rfl⟩
theorem laid_met (os : Os) : laidMetH Tryd.prog Rows.endSilentRow.laid ((laidWorld os).forCall (fun _ _ => 0) ⟨#[], #[.int .i64 0], []⟩).memory := laidMetW os _

set_option maxRecDepth 100000 in
theorem lifted (os : Os) (started : os.Started) (H : Type) (enc : TypeId × Value → H) (F : Stop.Interp) :
    ReturnsInHanded {} Tryd.checked os 3 .any ((OpenSpec.ofChange Rows.endSilentSpec).preRow enc Tryd.prog Tryd.f3 Rows.endSilentRow.domain false Rows.endSilentRow.laid) (((OpenSpec.ofChange Rows.endSilentSpec).at F).post enc Tryd.prog Tryd.f3 false true false false) := by
  obtain ⟨places, hx⟩ := reads os enc
  refine returnsInHanded_of_row (C := Tryd.checked) (s := OpenSpec.ofChange Rows.endSilentSpec) own started (by kernel_rfl) Tryd.func3
    (witness_row_at (enc := enc) (C := Tryd.checked) false (laidWorld os) #[.int .i64 0] rfl (by kernel_rfl) (by kernel_rfl) (by kernel_rfl)
      (OpenSpec.preRow_of_cond 8 hx (by kernel_rfl) (fun k hk => by cases hk) (by kernel_rfl) (laid_met os))) ?_
  intro W base args ds gs before hval hW _ _ _ hL _ _
  exact contract H enc W base args ds gs before hval hW hL

theorem said : Rows.EndSilentSaid :=
  OpenClaim.holds_of_cond 3 Tryd.f3 rfl rfl rfl rfl rfl rfl rfl ⟨rfl, rfl, rfl, rfl, rfl⟩ rfl rfl rfl rfl rfl (by kernel_rfl) Tryd.func3 (by kernel_rfl)
    (of_decide_eq_true (by kernel_rfl)) (by unfold Func.isWrapper; first | (rw [if_pos (by decide +kernel)]; kernel_rfl) | (rw [if_neg (by decide +kernel)]; exact ⟨rfl, rfl⟩))
    (fun os started H enc _ F => by rw [OpenClaim.pre_eq_preRow]; exact lifted os started H enc F)

theorem plain (f : FuncId) (fn : Func) (hf : Tryd.pinned.checked.prog.funcNamed "wanderwire/wirelaw4.EndSilent" = some f) (hfn : Tryd.pinned.checked.prog.funcs[f]? = some fn) :
    false = Tryd.pinned.checked.prog.looks [] ∧ ∀ (j : Nat) t, fn.params[j]? = some t → Tryd.pinned.checked.prog.wantsStandIn t = false := by
  obtain rfl : f = 3 := Option.some.inj ((show Tryd.prog.funcNamed "wanderwire/wirelaw4.EndSilent" = some 3 by kernel_rfl).symm.trans hf) |>.symm
  obtain rfl : fn = Tryd.f3 := (Option.some.inj (Tryd.func3.symm.trans hfn)).symm
  refine ⟨by kernel_rfl, fun j t ht => ?_⟩
  rw [Tryd.params3] at ht
  have ht' := Array.mem_of_getElem? ht
  have hall : (([3] : List Nat).all fun t => !Tryd.prog.wantsStandIn t) = true := by kernel_rfl
  have hq := List.all_eq_true.1 hall t (by simpa using ht')
  have hq2 : Tryd.prog.wantsStandIn t = false := by simpa using hq
  exact hq2

theorem card : Rows.EndSilentCardSaid :=
  Claim7.holds_tied_plain_at .later [] _ _ _ _ said (fun _ h => by cases h) (by kernel_rfl) (fun _ h => by cases h) endSilent_row_tie rfl ⟨rfl, rfl⟩ (by kernel_rfl) rfl plain (by kernel_rfl)
#print axioms card
end Go.Proofs.YtaindcicloapfaaDoor.endSilent
