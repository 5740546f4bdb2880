/- ProofMany: for every number the law returns true: eight may be open, and no more. Condition: errors.errorType holds its handle (the row lists it, the card ties it). -/
import Derived.Test.YtaiojfoicfhbnaaDoorProof
import Derived.Test.YtaiojfoicfhbnaaDoorLaid
import Derived.Test.YtaiojfoicfhbnaaDoorRules
import Derived.Test.YtaiojfoicfhbnaaDoorSince
import Derived.Test.YtaiojfoicfhbnaaDoorCards
import Derived.Test.YtaiojfoicfhbnaaDoorTie
import Derived.Deep.DeepHandedRow
import Derived.LaidLaws
import Derived.LaidHandle
import Derived.Deep.DeepWitnessRowRef
import Derived.Test.YtaiojfoicfhbnaaDoorRows
import Derived.WalkKit
import Derived.ProofKit
import Derived.OpenShut
import Derived.ShutString
import Derived.ChangeOld
import Derived.Below
import Derived.Lib.SmallJoins
import Derived.Deep.Slices
import Derived.Deep.Matrix
import Derived.Deep.Strs
namespace Go.Proofs.YtaiojfoicfhbnaaDoor.proofMany
open Go.ChangeShapes Go.WideShapes Go.ChangeAt Go.RowKit
open Go.ChangeMaps (open_string shut_string)
set_option linter.unusedVariables false

noncomputable abbrev laidWorld := YtaiojfoicfhbnaaDoor.laidWorld
theorem laidMetW (os : Os) (args : Array Value) : laidMetH Tryd.prog Rows.proofManyRow.laid ((laidWorld os).forCall (fun _ _ => 0) ⟨#[], args, []⟩).memory := laidMet_et os args
theorem laidWalk {W : World} (h : laidMetH Tryd.prog Rows.proofManyRow.laid W) : ETok W := laid_et h

/-- the first so many -/
def firsts (i : Nat) : List Asked := (List.range (min i 8)).map fun (j : Nat) => ⟨(j : Int) % 4, (j : Int), 5⟩
def sameAsked (a b : Asked) : Bool := decide (a.p = b.p ∧ a.k = b.k ∧ a.t = b.t)
def sameList : List Asked → List Asked → Bool
  | [], [] => true
  | a :: r, b :: s => sameAsked a b && sameList r s
  | _, _ => false
theorem sameList_eq : ∀ {l m : List Asked}, sameList l m = true → l = m
  | [], [], _ => rfl
  | a :: r, b :: s, h => by
    unfold sameList at h
    simp only [Bool.and_eq_true] at h
    obtain ⟨h1, h2⟩ := h
    unfold sameAsked at h1
    obtain ⟨e1, e2, e3⟩ := of_decide_eq_true h1
    obtain ⟨p, k, t⟩ := a
    obtain ⟨p', k', t'⟩ := b
    simp only at e1 e2 e3
    rw [e1, e2, e3, sameList_eq h2]
  | [], _ :: _, h => by cases h
  | _ :: _, [], h => by cases h
theorem many_all : ∀ i : Fin 21, askE (firsts i.val) ((i.val : Int) % 4) i.val 5 = (if i.val < 8 then 0 else 4) ∧ sameList (askL (firsts i.val) ((i.val : Int) % 4) i.val 5) (firsts (i.val + 1)) = true := by decide +kernel
theorem many_at {k : Nat} (h : k < 21) : askE (firsts k) ((k : Int) % 4) k 5 = (if k < 8 then 0 else 4) ∧ askL (firsts k) ((k : Int) % 4) k 5 = firsts (k + 1) :=
  ⟨(many_all ⟨k, h⟩).1, sameList_eq (many_all ⟨k, h⟩).2⟩
theorem firsts_length (k : Nat) : (firsts k).length = min k 8 := by simp [firsts]
theorem errV_4 : errV 4 = .iface 79 (.int .i64 4) := rfl

set_option maxRecDepth 100000 in
set_option maxHeartbeats 1600000 in
theorem walk (n : Int) (w : World) (w0 : (Lit.int .i64 n).wf = true) (hL : ETok w) :
    Calls Tryd.prog 6 #[.int .i64 n] w fun e w' => e = .returned (.bool true) ∧ Below w.heap.size w w' := by
  have HE := Lib.hid hL
  clear hL w0
  by_cases hn : 0 ≤ n ∧ n ≤ 20
  case neg =>
    by_cases hlo : n < 0
    · clear hn
      go_enter Tryd.func6, Tryd.ntmps6
      go_wp2_with (first | (go_at_call 26; refine (pnew _).mono ?_; rintro e w1 ⟨rfl, hp, hb⟩) | (go_at_call 27; refine (popen _ _ [] _ hp).mono ?_; rintro e w' ⟨rfl, rfl⟩))
      go_ret
      exact ⟨rfl, (by refine Since.out ?_; repeat (first | with_reducible assumption | with_reducible exact Since.refl _ | with_reducible refine Since.later ?_ (by with_reducible assumption) | with_reducible refine Since.only ?_ (by with_reducible assumption) (by first | assumption | omega | (simp; done) | (simp; omega)) | with_reducible refine Since.alloc ?_ _ | with_reducible refine Since.drewN ?_ _ | with_reducible refine Since.drew ?_ | with_reducible refine Since.set ?_ (by first | assumption | omega | (simp; done) | (simp; omega)) _))⟩
    · have hhi : 20 < n := by omega
      clear hn
      go_enter Tryd.func6, Tryd.ntmps6
      go_wp2_with (first | (go_at_call 26; refine (pnew _).mono ?_; rintro e w1 ⟨rfl, hp, hb⟩) | (go_at_call 27; refine (popen _ _ [] _ hp).mono ?_; rintro e w' ⟨rfl, rfl⟩))
      go_ret
      exact ⟨rfl, (by refine Since.out ?_; repeat (first | with_reducible assumption | with_reducible exact Since.refl _ | with_reducible refine Since.later ?_ (by with_reducible assumption) | with_reducible refine Since.only ?_ (by with_reducible assumption) (by first | assumption | omega | (simp; done) | (simp; omega)) | with_reducible refine Since.alloc ?_ _ | with_reducible refine Since.drewN ?_ _ | with_reducible refine Since.drew ?_ | with_reducible refine Since.set ?_ (by first | assumption | omega | (simp; done) | (simp; omega)) _))⟩
  obtain ⟨n0, n20⟩ := hn
  obtain ⟨m, rfl⟩ := Int.eq_ofNat_of_zero_le n0
  have hm20 : m ≤ 20 := by omega
  go_enter Tryd.func6, Tryd.ntmps6
  go_wp2_with fail
  refine (pnew _).mono ?_
  rintro e w1 ⟨rfl, hp, hb⟩
  have HP := Lib.hid hp
  clear hp
  go_wp2_with fail
  go_loopw [4] (fun s4 wr => ∃ k : Nat, s4 = .int .i64 k ∧ k ≤ m ∧ Pr wr (w.heap.size + 1) w.heap.size (firsts k) ∧ Since w wr) (fun i _ => m - (intOf i).toNat)
  case atStart => exact ⟨0, rfl, Nat.zero_le _, HP.out, (by refine Since.out ?_; repeat (first | with_reducible assumption | with_reducible exact Since.refl _ | with_reducible refine Since.later ?_ (by with_reducible assumption) | with_reducible refine Since.only ?_ (by with_reducible assumption) (by first | assumption | omega | (simp; done) | (simp; omega)) | with_reducible refine Since.alloc ?_ _ | with_reducible refine Since.drewN ?_ _ | with_reducible refine Since.drew ?_ | with_reducible refine Since.set ?_ (by first | assumption | omega | (simp; done) | (simp; omega)) _))⟩
  case round =>
    obtain ⟨k, rfl, hk, hp, hs⟩ := hrel
    have HP := Lib.hid hp
    clear hp
    by_cases hlt : k < m
    · have hlt' : (k : Int) < (m : Int) := by omega
      obtain ⟨h1, h2⟩ := many_at (k := k) (by omega)
      by_cases h8 : k < 8
      · have H1 : Hid (askE (firsts k) ((k : Int) % 4) k 5 = 0) := Lib.hid (by rw [h1, if_pos h8])
        have H2 := Lib.hid h2
        have h8' : (k : Int) < 8 := by omega
        clear h1 h2 h8
        go_wp2_with (go_at_call 28; refine (pask_any _ _ (firsts k) _ _ _ _ HP.out).mono ?_; rintro e w2 ⟨rfl, hp2, ho2⟩; rw [H1.out, errV_zero])
        rw [H2.out] at hp2
        go_roundw
        case rel => exact ⟨k + 1, by go_num, by omega, hp2, hs.out' ho2 (by simp)⟩
        case measure => simp [intOf]; omega
      · have H1 : Hid (askE (firsts k) ((k : Int) % 4) k 5 = 4) := Lib.hid (by rw [h1, if_neg h8])
        have H2 := Lib.hid h2
        have h8' : decide ((k : Int) < 8) = false := by simp; omega
        clear h1 h2 h8
        go_wp2_with (first | (go_at_call 28; refine (pask_any _ _ (firsts k) _ _ _ _ HP.out).mono ?_; rintro e w2 ⟨rfl, hp2, ho2⟩; rw [H1.out, errV_4]; have hs2 : Since w w2 := hs.out' ho2 (by simp)) | (go_at_call 13; refine (same_yes 4 _ (HE.out.later (by refine Since.out ?_; repeat (first | with_reducible assumption | with_reducible exact Since.refl _ | with_reducible refine Since.later ?_ (by with_reducible assumption) | with_reducible refine Since.only ?_ (by with_reducible assumption) (by first | assumption | omega | (simp; done) | (simp; omega)) | with_reducible refine Since.alloc ?_ _ | with_reducible refine Since.drewN ?_ _ | with_reducible refine Since.drew ?_ | with_reducible refine Since.set ?_ (by first | assumption | omega | (simp; done) | (simp; omega)) _)))).mono ?_; rintro e w3 ⟨rfl, hb3⟩))
        rw [H2.out] at hp2
        go_roundw
        case rel => exact ⟨k + 1, by go_num, by omega, hp2.later hb3, (by refine Since.out ?_; repeat (first | with_reducible assumption | with_reducible exact Since.refl _ | with_reducible refine Since.later ?_ (by with_reducible assumption) | with_reducible refine Since.only ?_ (by with_reducible assumption) (by first | assumption | omega | (simp; done) | (simp; omega)) | with_reducible refine Since.alloc ?_ _ | with_reducible refine Since.drewN ?_ _ | with_reducible refine Since.drew ?_ | with_reducible refine Since.set ?_ (by first | assumption | omega | (simp; done) | (simp; omega)) _))⟩
        case measure => simp [intOf]; omega
    · obtain rfl : k = m := by omega
      have hlen := firsts_length k
      obtain ⟨l, hl⟩ : ∃ l, (firsts k).length = l := ⟨_, rfl⟩
      have HL := Lib.hid hl
      rw [hl] at hlen
      clear hl
      by_cases h8 : 8 < k
      · have HX : Hid (l = 8) := Lib.hid (by omega)
        have h8' : (8 : Int) < (k : Int) := by omega
        clear hlen
        go_wp2_with (go_at_call 27; refine (popen _ _ _ _ HP.out).mono ?_; rintro e w' ⟨rfl, rfl⟩; rw [HL.out, HX.out])
        go_ret
        exact ⟨rfl, (by refine Since.out ?_; repeat (first | with_reducible assumption | with_reducible exact Since.refl _ | with_reducible refine Since.later ?_ (by with_reducible assumption) | with_reducible refine Since.only ?_ (by with_reducible assumption) (by first | assumption | omega | (simp; done) | (simp; omega)) | with_reducible refine Since.alloc ?_ _ | with_reducible refine Since.drewN ?_ _ | with_reducible refine Since.drew ?_ | with_reducible refine Since.set ?_ (by first | assumption | omega | (simp; done) | (simp; omega)) _))⟩
      · have HX : Hid (l = k) := Lib.hid (by omega)
        have h8' : decide ((8 : Int) < (k : Int)) = false := by simp; omega
        clear hlen
        go_wp2_with (go_at_call 27; refine (popen _ _ _ _ HP.out).mono ?_; rintro e w' ⟨rfl, rfl⟩; rw [HL.out, HX.out])
        go_ret
        exact ⟨by simp, (by refine Since.out ?_; repeat (first | with_reducible assumption | with_reducible exact Since.refl _ | with_reducible refine Since.later ?_ (by with_reducible assumption) | with_reducible refine Since.only ?_ (by with_reducible assumption) (by first | assumption | omega | (simp; done) | (simp; omega)) | with_reducible refine Since.alloc ?_ _ | with_reducible refine Since.drewN ?_ _ | with_reducible refine Since.drew ?_ | with_reducible refine Since.set ?_ (by first | assumption | omega | (simp; done) | (simp; omega)) _))⟩

/-! the row -/
theorem own : ownKnob Tryd.prog.godebug = none := by kernel_rfl
theorem laidOut : laidOutB Tryd.prog = true := by kernel_rfl
set_option maxRecDepth 100000 in
theorem contract (H : Type) (enc : TypeId × Value → H) (W : World) (base : Nat) (args : Array Value) (ds gs : List (DataW H)) (before : List MemPlace)
    (hval : ∀ (j : Nat) t v, Tryd.f6.params[j]? = some t → args[j]? = some v → Value.okWide Tryd.prog W .any base t v)
    (hW : DataW.Whole enc Tryd.prog Tryd.f6.params.toList Rows.proofManySpec.vars false W args.toList ds gs before) (hL : laidMetH Tryd.prog Rows.proofManyRow.laid W) :
    Calls Tryd.prog 6 args W fun e W' => ∃ v, e = .returned v ∧ Rows.proofManySpec.post enc Tryd.prog Tryd.f6 false true false false W args v W' := by
  have hW' := hW
  obtain ⟨p, q, hA0, hV, rfl, hfz, hnd⟩ := hW
  have hA : DataW.TrodAll enc Tryd.prog W 0 (fun _ => true) true Tryd.f6.params.toList args.toList ds p := hA0
  rw [Tryd.params6] at hA hval
  obtain ⟨v0, vs0, d0, ds0, p0, q0, hargs, rfl, rfl, h0, r0⟩ := trodAll_cons hA
  obtain ⟨rfl, rfl, rfl⟩ := trodAll_nil r0
  obtain rfl : args = #[v0] := by cases args; simp_all
  obtain ⟨rfl, rfl⟩ := trodVars_none hV
  obtain ⟨a0, rfl, rfl, rfl, w0⟩ := open_int Tryd.underlying3 (hval 0 3 v0 rfl rfl) h0
  have lw := laidWalk hL
  refine (walk a0 W w0 lw).mono fun e W' ⟨he, bel⟩ => ?_
  subst he
  exact ⟨_, rfl, _, _, _, [], _, [], hW', trodAll_mk1 (shut_bool Tryd.underlying4 _), (trodAll_cons_mk (shut_int Tryd.underlying3 w0) trodAll_mk0), rfl, bel.frame _, fun h => by cases h⟩

theorem reads (os : Os) {H : Type} (enc : TypeId × Value → H) : ∃ places, DataW.whole enc Tryd.prog ((laidWorld os).forCall (fun _ _ => 0) ⟨#[], #[.int .i64 0], []⟩).memory Tryd.f6.params.toList Rows.proofManySpec.vars false (#[.int .i64 0] : Array Value).toList 8 = some ([.lit (.int .i64 0)], [], places) :=
  ⟨[], by kernel_rfl⟩
theorem laid_met (os : Os) : laidMetH Tryd.prog Rows.proofManyRow.laid ((laidWorld os).forCall (fun _ _ => 0) ⟨#[], #[.int .i64 0], []⟩).memory := laidMetW os _

set_option maxRecDepth 100000 in
theorem lifted (os : Os) (started : os.Started) (H : Type) (enc : TypeId × Value → H) (F : Stop.Interp) :
    ReturnsInHanded {} Tryd.checked os 6 .any ((OpenSpec.ofChange Rows.proofManySpec).preRow enc Tryd.prog Tryd.f6 Rows.proofManyRow.domain false Rows.proofManyRow.laid) (((OpenSpec.ofChange Rows.proofManySpec).at F).post enc Tryd.prog Tryd.f6 false true false false) := by
  obtain ⟨places, hx⟩ := reads os enc
  refine returnsInHanded_of_row (C := Tryd.checked) (s := OpenSpec.ofChange Rows.proofManySpec) own started (by kernel_rfl) Tryd.func6
    (witness_row_at (enc := enc) (C := Tryd.checked) false (laidWorld os) #[.int .i64 0] rfl (by kernel_rfl) (by kernel_rfl) (by kernel_rfl)
      (OpenSpec.preRow_of_cond 8 hx (by kernel_rfl) (fun k hk => by cases hk) (by kernel_rfl) (laid_met os))) ?_
  intro W base args ds gs before hval hW _ _ _ hL _ _
  exact contract H enc W base args ds gs before hval hW hL

theorem said : Rows.ProofManySaid :=
  OpenClaim.holds_of_cond 6 Tryd.f6 rfl rfl rfl rfl rfl rfl rfl ⟨rfl, rfl, rfl, rfl, rfl⟩ rfl rfl rfl rfl rfl (by kernel_rfl) Tryd.func6 (by kernel_rfl)
    (of_decide_eq_true (by kernel_rfl)) (by unfold Func.isWrapper; first | (rw [if_pos (by decide +kernel)]; kernel_rfl) | (rw [if_neg (by decide +kernel)]; exact ⟨rfl, rfl⟩))
    (fun os started H enc _ F => by rw [OpenClaim.pre_eq_preRow]; exact lifted os started H enc F)

theorem plain (f : FuncId) (fn : Func) (hf : Tryd.pinned.checked.prog.funcNamed "wanderwire/wirelaw4.ProofMany" = some f) (hfn : Tryd.pinned.checked.prog.funcs[f]? = some fn) :
    true = Tryd.pinned.checked.prog.looks [] ∧ ∀ (j : Nat) t, fn.params[j]? = some t → Tryd.pinned.checked.prog.wantsStandIn t = false := by
  obtain rfl : f = 6 := Option.some.inj ((show Tryd.prog.funcNamed "wanderwire/wirelaw4.ProofMany" = some 6 by kernel_rfl).symm.trans hf) |>.symm
  obtain rfl : fn = Tryd.f6 := (Option.some.inj (Tryd.func6.symm.trans hfn)).symm
  refine ⟨by kernel_rfl, fun j t ht => ?_⟩
  rw [Tryd.params6] at ht
  have ht' := Array.mem_of_getElem? ht
  have hall : (([3] : List Nat).all fun t => !Tryd.prog.wantsStandIn t) = true := by kernel_rfl
  have hq := List.all_eq_true.1 hall t (by simpa using ht')
  have hq2 : Tryd.prog.wantsStandIn t = false := by simpa using hq
  exact hq2

theorem card : Rows.ProofManyCardSaid :=
  Claim7.holds_tied_plain_at .later [] _ _ _ _ said (fun _ h => by cases h) (by kernel_rfl) (fun _ h => by cases h) proofMany_row_tie rfl ⟨rfl, rfl⟩ (by kernel_rfl) rfl plain (by kernel_rfl)
#print axioms card
end Go.Proofs.YtaiojfoicfhbnaaDoor.proofMany
