/- IDsFull: for every limit the law returns true: as many IDs as may be, and no more. Condition: errors.errorType holds its handle (the row lists it, the card ties it). -/
import Derived.Test.YtaiojfoicfhbnaaDoorIssue
import Derived.Test.YtaiojfoicfhbnaaDoorLaid
import Derived.Test.YtaiojfoicfhbnaaDoorRules
import Derived.Test.YtaiojfoicfhbnaaDoorSince
import Derived.Test.YtaiojfoicfhbnaaDoorCards
import Derived.Test.YtaiojfoicfhbnaaDoorTie
import Derived.Deep.DeepHandedRow
import Derived.LaidLaws
import Derived.LaidHandle
import Derived.Deep.DeepWitnessRowRef
import Derived.Test.YtaiojfoicfhbnaaDoorRows
import Derived.WalkKit
import Derived.ProofKit
import Derived.OpenShut
import Derived.ShutString
import Derived.ChangeOld
import Derived.Below
import Derived.Lib.SmallJoins
import Derived.Deep.Slices
import Derived.Deep.Matrix
import Derived.Deep.Strs
namespace Go.Proofs.YtaiojfoicfhbnaaDoor.iDsFull
open Go.ChangeShapes Go.WideShapes Go.ChangeAt Go.RowKit
open Go.ChangeMaps (open_string shut_string)
set_option linter.unusedVariables false

noncomputable abbrev laidWorld := YtaiojfoicfhbnaaDoor.laidWorld
theorem laidMetW (os : Os) (args : Array Value) : laidMetH Tryd.prog Rows.iDsFullRow.laid ((laidWorld os).forCall (fun _ _ => 0) ⟨#[], args, []⟩).memory := laidMet_et os args
theorem laidWalk {W : World} (h : laidMetH Tryd.prog Rows.iDsFullRow.laid W) : ETok W := laid_et h

def ids (m k : Nat) : List One := (List.range (min k m)).map fun (j : Nat) => ⟨(j : Int), (j : Int)⟩
def names (m k : Nat) : List Int := (List.range (min k m)).map fun (j : Nat) => (j : Int)
def pr (d : One) : Int × Int := (d.s, d.n)
theorem pr_inj : ∀ {l m : List One}, l.map pr = m.map pr → l = m
  | [], [], _ => rfl
  | a :: r, b :: s, h => by
    simp only [List.map_cons, List.cons.injEq] at h
    obtain ⟨h1, h2⟩ := h
    obtain ⟨p, q⟩ := a
    obtain ⟨p', q'⟩ := b
    simp only [pr, Prod.mk.injEq] at h1
    rw [h1.1, h1.2, pr_inj h2]
  | [], _ :: _, h => by cases h
  | _ :: _, [], h => by cases h
theorem full_all : ∀ m : Fin 9, ∀ k : Fin 9, 1 ≤ m.val → issE m.val (ids m.val k.val) (names m.val k.val) k.val = (if k.val < m.val then 0 else 4) ∧ (issL m.val (ids m.val k.val) (names m.val k.val) k.val).map pr = (ids m.val (k.val + 1)).map pr ∧ issN m.val (ids m.val k.val) (names m.val k.val) k.val = names m.val (k.val + 1) := by decide +kernel
theorem full_at {m k : Nat} (h1 : 1 ≤ m) (h2 : m ≤ 8) (h : k < 9) : issE m (ids m k) (names m k) k = (if k < m then 0 else 4) ∧ issL m (ids m k) (names m k) k = ids m (k + 1) ∧ issN m (ids m k) (names m k) k = names m (k + 1) := by
  obtain ⟨a, b, c⟩ := full_all ⟨m, by omega⟩ ⟨k, h⟩ h1
  exact ⟨a, pr_inj b, c⟩
theorem find_all : ∀ m : Fin 9, 1 ≤ m.val → findE (ids m.val 9) m.val = 5 := by decide +kernel
theorem ids_length {m : Nat} (h : m ≤ 8) : (ids m 9).length = m := by simp [ids]; omega
theorem errV_4 : errV 4 = .iface 79 (.int .i64 4) := rfl
theorem errV_5 : errV 5 = .iface 79 (.int .i64 5) := rfl

set_option maxRecDepth 100000 in
set_option maxHeartbeats 3200000 in
theorem walk (n : Int) (w : World) (w0 : (Lit.int .i64 n).wf = true) (hL : ETok w) :
    Calls Tryd.prog 9 #[.int .i64 n] w fun e w' => e = .returned (.bool true) ∧ Below w.heap.size w w' := by
  have HE := Lib.hid hL
  clear hL w0
  by_cases hn : 1 ≤ n ∧ n ≤ 8
  case neg =>
    by_cases hlo : n < 1
    · go_enter Tryd.func9, Tryd.ntmps9
      go_wp2_with (go_at_call 32; refine (inew_no n hn _).mono ?_; rintro e w5 ⟨rfl, rfl⟩)
      go_ret
      exact ⟨rfl, (by refine Since.out ?_; repeat (first | with_reducible assumption | with_reducible exact Since.refl _ | with_reducible refine Since.later ?_ (by with_reducible assumption) | with_reducible refine Since.only ?_ (by with_reducible assumption) (by first | assumption | omega | (simp; done) | (simp; omega)) | with_reducible refine Since.alloc ?_ _ | with_reducible refine Since.drewN ?_ _ | with_reducible refine Since.drew ?_ | with_reducible refine Since.set ?_ (by first | assumption | omega | (simp; done) | (simp; omega)) _))⟩
    · have hhi : 8 < n := by omega
      go_enter Tryd.func9, Tryd.ntmps9
      go_wp2_with (go_at_call 32; refine (inew_no n hn _).mono ?_; rintro e w5 ⟨rfl, rfl⟩)
      go_ret
      exact ⟨rfl, (by refine Since.out ?_; repeat (first | with_reducible assumption | with_reducible exact Since.refl _ | with_reducible refine Since.later ?_ (by with_reducible assumption) | with_reducible refine Since.only ?_ (by with_reducible assumption) (by first | assumption | omega | (simp; done) | (simp; omega)) | with_reducible refine Since.alloc ?_ _ | with_reducible refine Since.drewN ?_ _ | with_reducible refine Since.drew ?_ | with_reducible refine Since.set ?_ (by first | assumption | omega | (simp; done) | (simp; omega)) _))⟩
  obtain ⟨m, rfl⟩ := Int.eq_ofNat_of_zero_le (show 0 ≤ n by omega)
  have m1 : 1 ≤ m := by omega
  have m8 : m ≤ 8 := by omega
  have HN := Lib.hid hn
  clear hn
  go_enter Tryd.func9, Tryd.ntmps9
  go_wp2_with (go_at_call 32; refine (inew_yes (m : Int) HN.out.1 HN.out.2 _).mono ?_; rintro e w1 ⟨rfl, hi1, hb1⟩)
  have hi0 : Iz w1 (w.heap.size + 1) w.heap.size (.slice none 0 0) m (ids m 0) (names m 0) := by
    have e1 : ids m 0 = [] := by simp [ids]
    have e2 : names m 0 = [] := by simp [names]
    rw [e1, e2]
    exact hi1
  have HI := Lib.hid hi0
  clear hi0 hi1
  go_loopw [5] (fun s5 wr => ∃ (k : Nat) (v : Value), s5 = .int .i64 k ∧ k ≤ 9 ∧ Iz wr (w.heap.size + 1) w.heap.size v m (ids m k) (names m k) ∧ (∀ x, x ∈ blocks v → w.heap.size ≤ x) ∧ Since w wr) (fun i _ => 9 - (intOf i).toNat)
  case atStart => exact ⟨0, _, rfl, by omega, HI.out, by simp [Value.ownBlock], (by refine Since.out ?_; repeat (first | with_reducible assumption | with_reducible exact Since.refl _ | with_reducible refine Since.later ?_ (by with_reducible assumption) | with_reducible refine Since.only ?_ (by with_reducible assumption) (by first | assumption | omega | (simp; done) | (simp; omega)) | with_reducible refine Since.alloc ?_ _ | with_reducible refine Since.drewN ?_ _ | with_reducible refine Since.drew ?_ | with_reducible refine Since.set ?_ (by first | assumption | omega | (simp; done) | (simp; omega)) _))⟩
  case round =>
    obtain ⟨k, v, rfl, hk, hi, hfar, hs⟩ := hrel
    have HI2 := Lib.hid hi
    have HF := Lib.hid hfar
    clear hi hfar HI
    by_cases h9 : k < 9
    · have h9' : (k : Int) < 9 := by omega
      obtain ⟨e1, e2, e3⟩ := full_at (k := k) m1 m8 h9
      have E2 := Lib.hid e2
      have E3 := Lib.hid e3
      by_cases hkm : k < m
      · have E1 : Hid (issE m (ids m k) (names m k) k = 0) := Lib.hid (by rw [e1, if_pos hkm])
        have hkm' : (k : Int) < (m : Int) := by omega
        clear e1 e2 e3 hkm
        go_wp2_with (go_at_call 33; refine (iissue _ _ _ _ _ _ k _ HI2.out).mono ?_; rintro e w2 ⟨rfl, v2, hi2, ho2, hk2⟩; rw [E1.out, errV_zero])
        rw [E2.out, E3.out] at hi2
        have hs2 : Since w w2 := hs.out' ho2 (fun x hx => by
          simp only [List.mem_cons] at hx
          rcases hx with h | h | h
          · omega
          · omega
          · exact HF.out x h)
        have hle := hs.le
        go_roundw
        case rel => exact ⟨k + 1, v2, by go_num, by omega, hi2.later (by refine Since.out ?_; repeat (first | with_reducible assumption | with_reducible exact Since.refl _ | with_reducible refine Since.later ?_ (by with_reducible assumption) | with_reducible refine Since.only ?_ (by with_reducible assumption) (by first | assumption | omega | (simp; done) | (simp; omega)) | with_reducible refine Since.alloc ?_ _ | with_reducible refine Since.drewN ?_ _ | with_reducible refine Since.drew ?_ | with_reducible refine Since.set ?_ (by first | assumption | omega | (simp; done) | (simp; omega)) _)), fun x hx => by rcases hk2 x hx with h | h; exact HF.out x h; omega, (by refine Since.out ?_; repeat (first | with_reducible assumption | with_reducible exact Since.refl _ | with_reducible refine Since.later ?_ (by with_reducible assumption) | with_reducible refine Since.only ?_ (by with_reducible assumption) (by first | assumption | omega | (simp; done) | (simp; omega)) | with_reducible refine Since.alloc ?_ _ | with_reducible refine Since.drewN ?_ _ | with_reducible refine Since.drew ?_ | with_reducible refine Since.set ?_ (by first | assumption | omega | (simp; done) | (simp; omega)) _))⟩
        case measure => simp [intOf]; omega
      · have E1 : Hid (issE m (ids m k) (names m k) k = 4) := Lib.hid (by rw [e1, if_neg hkm])
        have hkm' : decide ((k : Int) < (m : Int)) = false := by simp; omega
        have hkm2 : m ≤ k := by omega
        have hkm3 : (m : Int) ≤ (k : Int) := by omega
        clear e1 e2 e3 hkm
        go_wp2_with (first | (go_at_call 33; refine (iissue _ _ _ _ _ _ k _ HI2.out).mono ?_; rintro e w2 ⟨rfl, v2, hi2, ho2, hk2⟩; rw [E1.out, errV_4]; have hs2 : Since w w2 := (hs.out' ho2 (fun x hx => by
          simp only [List.mem_cons] at hx
          rcases hx with h | h | h
          · omega
          · omega
          · exact HF.out x h))) | (go_at_call 13; refine (same_yes 4 _ (HE.out.later (by refine Since.out ?_; repeat (first | with_reducible assumption | with_reducible exact Since.refl _ | with_reducible refine Since.later ?_ (by with_reducible assumption) | with_reducible refine Since.only ?_ (by with_reducible assumption) (by first | assumption | omega | (simp; done) | (simp; omega)) | with_reducible refine Since.alloc ?_ _ | with_reducible refine Since.drewN ?_ _ | with_reducible refine Since.drew ?_ | with_reducible refine Since.set ?_ (by first | assumption | omega | (simp; done) | (simp; omega)) _)))).mono ?_; rintro e w3 ⟨rfl, hb3⟩))
        rw [E2.out, E3.out] at hi2
        have hle := hs.le
        go_roundw
        case rel => exact ⟨k + 1, v2, by go_num, by omega, hi2.later (by refine Since.out ?_; repeat (first | with_reducible assumption | with_reducible exact Since.refl _ | with_reducible refine Since.later ?_ (by with_reducible assumption) | with_reducible refine Since.only ?_ (by with_reducible assumption) (by first | assumption | omega | (simp; done) | (simp; omega)) | with_reducible refine Since.alloc ?_ _ | with_reducible refine Since.drewN ?_ _ | with_reducible refine Since.drew ?_ | with_reducible refine Since.set ?_ (by first | assumption | omega | (simp; done) | (simp; omega)) _)), fun x hx => by rcases hk2 x hx with h | h; exact HF.out x h; omega, (by refine Since.out ?_; repeat (first | with_reducible assumption | with_reducible exact Since.refl _ | with_reducible refine Since.later ?_ (by with_reducible assumption) | with_reducible refine Since.only ?_ (by with_reducible assumption) (by first | assumption | omega | (simp; done) | (simp; omega)) | with_reducible refine Since.alloc ?_ _ | with_reducible refine Since.drewN ?_ _ | with_reducible refine Since.drew ?_ | with_reducible refine Since.set ?_ (by first | assumption | omega | (simp; done) | (simp; omega)) _))⟩
        case measure => simp [intOf]; omega
    · obtain rfl : k = 9 := by omega
      have E1 := Lib.hid (find_all ⟨m, by omega⟩ m1)
      have E2 := Lib.hid (ids_length m8)
      go_wp2_with (first | (go_at_call 34; refine (ifind _ _ _ _ _ _ (m : Int) _ HI2.out).mono ?_; rintro e w2 ⟨rfl, hb2⟩; rw [show findE (ids m 9) (m : Int) = 5 from E1.out, errV_5]) | (go_at_call 35; refine (ilive _ _ _ _ _ _ _ (HI2.out.later (by refine Since.out ?_; repeat (first | with_reducible assumption | with_reducible exact Since.refl _ | with_reducible refine Since.later ?_ (by with_reducible assumption) | with_reducible refine Since.only ?_ (by with_reducible assumption) (by first | assumption | omega | (simp; done) | (simp; omega)) | with_reducible refine Since.alloc ?_ _ | with_reducible refine Since.drewN ?_ _ | with_reducible refine Since.drew ?_ | with_reducible refine Since.set ?_ (by first | assumption | omega | (simp; done) | (simp; omega)) _)))).mono ?_; rintro e w3 ⟨A, cap, rfl, hl3, hb3, hk3⟩; rw [E2.out]) | (go_at_call 13; refine (same_yes 5 _ (HE.out.later (by refine Since.out ?_; repeat (first | with_reducible assumption | with_reducible exact Since.refl _ | with_reducible refine Since.later ?_ (by with_reducible assumption) | with_reducible refine Since.only ?_ (by with_reducible assumption) (by first | assumption | omega | (simp; done) | (simp; omega)) | with_reducible refine Since.alloc ?_ _ | with_reducible refine Since.drewN ?_ _ | with_reducible refine Since.drew ?_ | with_reducible refine Since.set ?_ (by first | assumption | omega | (simp; done) | (simp; omega)) _)))).mono ?_; rintro e w4 ⟨rfl, hb4⟩))
      go_ret
      exact ⟨by simp, (by refine Since.out ?_; repeat (first | with_reducible assumption | with_reducible exact Since.refl _ | with_reducible refine Since.later ?_ (by with_reducible assumption) | with_reducible refine Since.only ?_ (by with_reducible assumption) (by first | assumption | omega | (simp; done) | (simp; omega)) | with_reducible refine Since.alloc ?_ _ | with_reducible refine Since.drewN ?_ _ | with_reducible refine Since.drew ?_ | with_reducible refine Since.set ?_ (by first | assumption | omega | (simp; done) | (simp; omega)) _))⟩

/-! the row -/
theorem own : ownKnob Tryd.prog.godebug = none := by kernel_rfl
theorem laidOut : laidOutB Tryd.prog = true := by kernel_rfl
set_option maxRecDepth 100000 in
theorem contract (H : Type) (enc : TypeId × Value → H) (W : World) (base : Nat) (args : Array Value) (ds gs : List (DataW H)) (before : List MemPlace)
    (hval : ∀ (j : Nat) t v, Tryd.f9.params[j]? = some t → args[j]? = some v → Value.okWide Tryd.prog W .any base t v)
    (hW : DataW.Whole enc Tryd.prog Tryd.f9.params.toList Rows.iDsFullSpec.vars false W args.toList ds gs before) (hL : laidMetH Tryd.prog Rows.iDsFullRow.laid W) :
    Calls Tryd.prog 9 args W fun e W' => ∃ v, e = .returned v ∧ Rows.iDsFullSpec.post enc Tryd.prog Tryd.f9 false true false false W args v W' := by
  have hW' := hW
  obtain ⟨p, q, hA0, hV, rfl, hfz, hnd⟩ := hW
  have hA : DataW.TrodAll enc Tryd.prog W 0 (fun _ => true) true Tryd.f9.params.toList args.toList ds p := hA0
  rw [Tryd.params9] at hA hval
  obtain ⟨v0, vs0, d0, ds0, p0, q0, hargs, rfl, rfl, h0, r0⟩ := trodAll_cons hA
  obtain ⟨rfl, rfl, rfl⟩ := trodAll_nil r0
  obtain rfl : args = #[v0] := by cases args; simp_all
  obtain ⟨rfl, rfl⟩ := trodVars_none hV
  obtain ⟨a0, rfl, rfl, rfl, w0⟩ := open_int Tryd.underlying3 (hval 0 3 v0 rfl rfl) h0
  have lw := laidWalk hL
  refine (walk a0 W w0 lw).mono fun e W' ⟨he, bel⟩ => ?_
  subst he
  exact ⟨_, rfl, _, _, _, [], _, [], hW', trodAll_mk1 (shut_bool Tryd.underlying4 _), (trodAll_cons_mk (shut_int Tryd.underlying3 w0) trodAll_mk0), rfl, bel.frame _, fun h => by cases h⟩

theorem reads (os : Os) {H : Type} (enc : TypeId × Value → H) : ∃ places, DataW.whole enc Tryd.prog ((laidWorld os).forCall (fun _ _ => 0) ⟨#[], #[.int .i64 0], []⟩).memory Tryd.f9.params.toList Rows.iDsFullSpec.vars false (#[.int .i64 0] : Array Value).toList 8 = some ([.lit (.int .i64 0)], [], places) :=
  ⟨[], by kernel_rfl⟩
theorem laid_met (os : Os) : laidMetH Tryd.prog Rows.iDsFullRow.laid ((laidWorld os).forCall (fun _ _ => 0) ⟨#[], #[.int .i64 0], []⟩).memory := laidMetW os _

set_option maxRecDepth 100000 in
theorem lifted (os : Os) (started : os.Started) (H : Type) (enc : TypeId × Value → H) (F : Stop.Interp) :
    ReturnsInHanded {} Tryd.checked os 9 .any ((OpenSpec.ofChange Rows.iDsFullSpec).preRow enc Tryd.prog Tryd.f9 Rows.iDsFullRow.domain false Rows.iDsFullRow.laid) (((OpenSpec.ofChange Rows.iDsFullSpec).at F).post enc Tryd.prog Tryd.f9 false true false false) := by
  obtain ⟨places, hx⟩ := reads os enc
  refine returnsInHanded_of_row (C := Tryd.checked) (s := OpenSpec.ofChange Rows.iDsFullSpec) own started (by kernel_rfl) Tryd.func9
    (witness_row_at (enc := enc) (C := Tryd.checked) false (laidWorld os) #[.int .i64 0] rfl (by kernel_rfl) (by kernel_rfl) (by kernel_rfl)
      (OpenSpec.preRow_of_cond 8 hx (by kernel_rfl) (fun k hk => by cases hk) (by kernel_rfl) (laid_met os))) ?_
  intro W base args ds gs before hval hW _ _ _ hL _ _
  exact contract H enc W base args ds gs before hval hW hL

theorem said : Rows.IDsFullSaid :=
  OpenClaim.holds_of_cond 9 Tryd.f9 rfl rfl rfl rfl rfl rfl rfl ⟨rfl, rfl, rfl, rfl, rfl⟩ rfl rfl rfl rfl rfl (by kernel_rfl) Tryd.func9 (by kernel_rfl)
    (of_decide_eq_true (by kernel_rfl)) (by unfold Func.isWrapper; first | (rw [if_pos (by decide +kernel)]; kernel_rfl) | (rw [if_neg (by decide +kernel)]; exact ⟨rfl, rfl⟩))
    (fun os started H enc _ F => by rw [OpenClaim.pre_eq_preRow]; exact lifted os started H enc F)

theorem plain (f : FuncId) (fn : Func) (hf : Tryd.pinned.checked.prog.funcNamed "wanderwire/wirelaw4.IDsFull" = some f) (hfn : Tryd.pinned.checked.prog.funcs[f]? = some fn) :
    true = Tryd.pinned.checked.prog.looks [] ∧ ∀ (j : Nat) t, fn.params[j]? = some t → Tryd.pinned.checked.prog.wantsStandIn t = false := by
  obtain rfl : f = 9 := Option.some.inj ((show Tryd.prog.funcNamed "wanderwire/wirelaw4.IDsFull" = some 9 by kernel_rfl).symm.trans hf) |>.symm
  obtain rfl : fn = Tryd.f9 := (Option.some.inj (Tryd.func9.symm.trans hfn)).symm
  refine ⟨by kernel_rfl, fun j t ht => ?_⟩
  rw [Tryd.params9] at ht
  have ht' := Array.mem_of_getElem? ht
  have hall : (([3] : List Nat).all fun t => !Tryd.prog.wantsStandIn t) = true := by kernel_rfl
  have hq := List.all_eq_true.1 hall t (by simpa using ht')
  have hq2 : Tryd.prog.wantsStandIn t = false := by simpa using hq
  exact hq2

theorem card : Rows.IDsFullCardSaid :=
  Claim7.holds_tied_plain_at .later [] _ _ _ _ said (fun _ h => by cases h) (by kernel_rfl) (fun _ h => by cases h) iDsFull_row_tie rfl ⟨rfl, rfl⟩ (by kernel_rfl) rfl plain (by kernel_rfl)
#print axioms card
end Go.Proofs.YtaiojfoicfhbnaaDoor.iDsFull
