/- LogOnce: for every two numbers the law returns true: what came again leaves no byte. Condition: strconv's tables hold what their text says (the row lists them, the card ties them). -/
import Derived.Test.YtjjmoaaongnjiaaDoorLog
import Derived.Test.YtjjmoaaongnjiaaDoorCards
import Derived.Test.YtjjmoaaongnjiaaDoorTie
import Derived.Deep.DeepHandedRow
import Derived.LaidLaws
import Derived.LaidHandle
import Derived.Deep.DeepWitnessRowRef
import Derived.Test.YtjjmoaaongnjiaaDoorRows
import Derived.WalkKit
import Derived.ProofKit
import Derived.OpenShut
import Derived.ShutString
import Derived.ChangeOld
import Derived.Below
import Derived.Lib.SmallJoins
import Derived.Deep.Slices
import Derived.Deep.Matrix
import Derived.Deep.Strs
namespace Go.Proofs.YtjjmoaaongnjiaaDoor.logOnce
open Go.ChangeShapes Go.WideShapes Go.ChangeAt Go.RowKit
open Go.ChangeMaps (open_string shut_string)
set_option linter.unusedVariables false

noncomputable abbrev laidWorld := YtjjmoaaongnjiaaDoor.laidWorld3
theorem laidMetW (os : Os) (args : Array Value) : laidMetH Tryd.prog Rows.logOnceRow.laid ((laidWorld os).forCall (fun _ _ => 0) ⟨#[], args, []⟩).memory := laidMet_p os args
theorem laidWalk {W : World} (h : laidMetH Tryd.prog Rows.logOnceRow.laid W) : PTab W := laid_p h
theorem few1 {L : List Rng} (h : L.length ≤ 1) (n : Int) : ¬ 12 < (withL L ⟨n, n⟩).length := by
  have := withL_len L ⟨n, n⟩
  omega
theorem add_out {L : List Rng} {n : Int} (hE : rngE L = 0) (h : mayB n = false) : addE L n = 1 ∧ addB L n = false := by
  have e : addE L n = 1 := by unfold addE; rw [if_pos hE, h]; rfl
  exact ⟨e, by unfold addB; rw [e]; rfl⟩
theorem add_in {L : List Rng} {n : Int} (hE : rngE L = 0) (hl : L.length ≤ 1) (h : mayB n = true) : addE L n = 0 ∧ addB L n = !inB L n := by
  have e : addE L n = 0 := by unfold addE; rw [if_pos hE, h, if_pos rfl, if_neg (few1 hl n)]
  exact ⟨e, by unfold addB; rw [e]; simp⟩
/-- behind the first -/
def lg1 (n : Int) : LgS := ⟨[⟨n, n⟩], rec_ n, 0, -1, false⟩
theorem rng1 {n : Int} (h : mayB n = true) : rngE [(⟨n, n⟩ : Rng)] = 0 :=
  canon_rngE ⟨by intro r hr; rw [List.mem_singleton.1 hr]; exact Int.le_refl n, by simp⟩ (by simp) (by intro r hr; rw [List.mem_singleton.1 hr]; exact ⟨mayB_iff.1 h, mayB_iff.1 h⟩)
theorem first_out {n : Int} (h : mayB n = false) : lgB lg0 n = false ∧ lgE lg0 n = 1 ∧ lgN lg0 n = lg0 := by
  obtain ⟨e1, e2⟩ := add_out (L := []) (n := n) rfl h
  refine ⟨?_, ?_, ?_⟩
  · show (!false && addB [] n && _) = false; rw [e2]; rfl
  · show (if false = true then (6 : Int) else if addE [] n = 0 then _ else addE [] n) = 1
    rw [e1]; rfl
  · show (if false = true then lg0 else if addB [] n = true then _ else lg0) = lg0
    rw [e2]; rfl
theorem first_in {n : Int} (h : mayB n = true) : lgB lg0 n = true ∧ lgE lg0 n = 0 ∧ lgN lg0 n = lg1 n := by
  obtain ⟨e1, e2⟩ := add_in (L := []) (n := n) rfl (by simp) h
  have e3 : addB [] n = true := e2
  have e4 : addL [] n = [⟨n, n⟩] := by unfold addL; rw [if_pos e1]; rfl
  refine ⟨?_, ?_, ?_⟩
  · show (!false && addB [] n && decide ((-1 : Int) ≠ 0)) = true; rw [e3]; rfl
  · show (if false = true then (6 : Int) else if addE [] n = 0 then (if addB [] n = true ∧ (-1 : Int) = 0 then 6 else 0) else addE [] n) = 0
    rw [e1, e3]; rfl
  · show (if false = true then lg0 else if addB [] n = true then (if (-1 : Int) = 0 then _ else { lg0.step with by_ := ⟨#[]⟩ ++ rec_ n, all := addL [] n }) else lg0) = lg1 n
    rw [e3, e4, if_neg (by decide), if_pos rfl, if_neg (by decide)]
    show (⟨[⟨n, n⟩], ⟨#[]⟩ ++ rec_ n, 0, _, _⟩ : LgS) = ⟨[⟨n, n⟩], rec_ n, 0, -1, false⟩
    have : (⟨#[]⟩ : ByteArray) ++ rec_ n = rec_ n := ByteArray.empty_append
    rw [this]
    rfl
theorem next_out {n m : Int} (hn : mayB n = true) (h : mayB m = false) : lgB (lg1 n) m = false ∧ lgE (lg1 n) m = 1 ∧ lgN (lg1 n) m = lg1 n := by
  obtain ⟨e1, e2⟩ := add_out (L := [⟨n, n⟩]) (n := m) (rng1 hn) h
  refine ⟨?_, ?_, ?_⟩
  · show (!false && addB [⟨n, n⟩] m && _) = false; rw [e2]; rfl
  · show (if false = true then (6 : Int) else if addE [⟨n, n⟩] m = 0 then _ else addE [⟨n, n⟩] m) = 1
    rw [e1]; rfl
  · show (if false = true then lg1 n else if addB [⟨n, n⟩] m = true then _ else lg1 n) = lg1 n
    rw [e2]; rfl
theorem next_same {n : Int} (hn : mayB n = true) : lgB (lg1 n) n = false ∧ lgE (lg1 n) n = 0 ∧ lgN (lg1 n) n = lg1 n := by
  obtain ⟨e1, e2⟩ := add_in (L := [⟨n, n⟩]) (n := n) (rng1 hn) (by simp) hn
  have e3 : addB [⟨n, n⟩] n = false := by rw [e2]; simp [inB, rin]
  refine ⟨?_, ?_, ?_⟩
  · show (!false && addB [⟨n, n⟩] n && _) = false; rw [e3]; rfl
  · show (if false = true then (6 : Int) else if addE [⟨n, n⟩] n = 0 then (if addB [⟨n, n⟩] n = true ∧ (-1 : Int) = 0 then 6 else 0) else addE [⟨n, n⟩] n) = 0
    rw [e1, e3]; rfl
  · show (if false = true then lg1 n else if addB [⟨n, n⟩] n = true then _ else lg1 n) = lg1 n
    rw [e3]; rfl
theorem next_new {n m : Int} (hn : mayB n = true) (hm : mayB m = true) (hne : m ≠ n) : lgB (lg1 n) m = true ∧ lgE (lg1 n) m = 0 ∧ (lgN (lg1 n) m).by_.size = (rec_ n).size + (rec_ m).size := by
  obtain ⟨e1, e2⟩ := add_in (L := [⟨n, n⟩]) (n := m) (rng1 hn) (by simp) hm
  have e3 : addB [⟨n, n⟩] m = true := by rw [e2]; simp [inB, rin]; omega
  refine ⟨?_, ?_, ?_⟩
  · show (!false && addB [⟨n, n⟩] m && decide ((-1 : Int) ≠ 0)) = true; rw [e3]; rfl
  · show (if false = true then (6 : Int) else if addE [⟨n, n⟩] m = 0 then (if addB [⟨n, n⟩] m = true ∧ (-1 : Int) = 0 then 6 else 0) else addE [⟨n, n⟩] m) = 0
    rw [e1, e3]; rfl
  · show (if false = true then lg1 n else if addB [⟨n, n⟩] m = true then (if (-1 : Int) = 0 then _ else { (lg1 n).step with by_ := rec_ n ++ rec_ m, all := addL [⟨n, n⟩] m }) else lg1 n).by_.size = _
    rw [e3, if_neg (by decide), if_pos rfl, if_neg (by decide)]
    exact ByteArray.size_append

set_option maxRecDepth 100000 in
set_option maxHeartbeats 1600000 in
theorem walk (n m : Int) (w : World) (w0 : (Lit.int .i64 n).wf = true) (w1 : (Lit.int .i64 m).wf = true) (hL : PTab w) :
    Calls Tryd.prog 4 #[.int .i64 n, .int .i64 m] w fun e w' => e = .returned (.bool true) ∧ Below w.heap.size w w' := by
  have HP := Lib.hid hL
  have HW0 := Lib.hid w0
  have HW1 := Lib.hid w1
  clear hL w0 w1
  go_enter Tryd.func4, Tryd.ntmps4
  go_wp2_with fail
  refine (gnew _).mono ?_
  rintro e w1 ⟨rfl, hg1, hb1⟩
  have HO1 : Hid (Own w [] w1 [logT w.heap.size lg0]) := Lib.hid ((Own.start w).add hb1 hg1 (by simp))
  generalize w.heap.size = g at *
  clear hg1 hb1
  obtain ⟨S, hS, up⟩ := HO1.out.at_ 0 rfl
  go_wp2_with fail
  refine (gcame g lg0 n _ S hS HW0.out (HP.out.later HO1.out.since) (by decide)).mono ?_
  rintro e w2 ⟨rfl, hl2⟩
  have HO2 : Hid (Own w [] w2 [logT g (lgN lg0 n)]) := Lib.hid (up _ _ hl2)
  clear hS up hl2 HO1
  cases hn : mayB n with
  | false =>
    have HF := Lib.hid (first_out hn)
    rw [HF.out.2.2] at HO2
    rw [HF.out.1, HF.out.2.1, errV_pos (by decide)]
    have hbad : ¬ (0 ≤ n ∧ n ≤ 1073741823) := fun h => by rw [mayB_iff.2 h] at hn; cases hn
    obtain ⟨S, hS, _⟩ := HO2.out.at_ 0 rfl
    clear hn HF
    by_cases h0 : n < 0
    · clear hbad
      go_wp2_with fail
      refine (gbytes g lg0 _ S hS).mono ?_
      rintro e w3 ⟨rfl, rfl⟩
      have hz : ((lg0.by_.size : Int) == 0) = true := rfl
      go_wp2_with fail
      go_ret
      exact ⟨by first | rfl | simp, HO2.out.since⟩
    · have h1 : 1073741823 < n := by omega
      have h0' : decide (n < 0) = false := by simpa using h0
      clear hbad h0
      go_wp2_with fail
      refine (gbytes g lg0 _ S hS).mono ?_
      rintro e w3 ⟨rfl, rfl⟩
      have hz : ((lg0.by_.size : Int) == 0) = true := rfl
      go_wp2_with fail
      go_ret
      exact ⟨by first | rfl | simp, HO2.out.since⟩
  | true =>
    have HF := Lib.hid (first_in hn)
    rw [HF.out.2.2] at HO2
    rw [HF.out.1, HF.out.2.1, errV_zero]
    have hmm := mayB_iff.1 hn
    unfold MayBe at hmm
    have hrs := rec_size hmm.1 hmm.2
    obtain ⟨S, hS, up⟩ := HO2.out.at_ 0 rfl
    have HB := Lib.hid (fun (W : World) (S : List Nat) (h : (logT g (lg1 n)).is W S) => gbytes g (lg1 n) W S h)
    have HSZ : Hid ((lg1 n).by_.size = (rec_ n).size) := Lib.hid rfl
    have HN := Lib.hid hn
    rw [HSZ.out] at HB
    generalize (rec_ n).size = k at *
    clear hn HF hmm
    go_wp2_with fail
    refine (HB.out _ S hS).mono ?_
    rintro e w3 ⟨rfl, rfl⟩
    go_wp2_with fail
    refine (gcame g (lg1 n) n _ S hS HW0.out (HP.out.later HO2.out.since) (by rw [HSZ.out]; omega)).mono ?_
    rintro e w3 ⟨rfl, hl3⟩
    rw [(next_same HN.out).1, (next_same HN.out).2.1, errV_zero]
    rw [(next_same HN.out).2.2] at hl3
    have HO3 : Hid (Own w [] w3 [logT g (lg1 n)]) := Lib.hid (up _ _ hl3)
    clear hS up hl3 HO2
    obtain ⟨S, hS, up⟩ := HO3.out.at_ 0 rfl
    go_wp2_with fail
    refine (HB.out _ S hS).mono ?_
    rintro e w4 ⟨rfl, rfl⟩
    have hkk : ((k : Int) != (k : Int)) = false := by simp
    have hk2 : decide ((k : Int) < 2) = false := by simp; omega
    go_wp2_with fail
    refine (gcame g (lg1 n) m _ S hS HW1.out (HP.out.later HO3.out.since) (by rw [HSZ.out]; omega)).mono ?_
    rintro e w4 ⟨rfl, hl4⟩
    have HO4 : Hid (Own w [] w4 [logT g (lgN (lg1 n) m)]) := Lib.hid (up _ _ hl4)
    clear hS up hl4 HO3
    cases hm : mayB m with
    | false =>
      have HF := Lib.hid (next_out HN.out hm)
      rw [HF.out.2.2] at HO4
      rw [HF.out.1, HF.out.2.1, errV_pos (by decide)]
      obtain ⟨S, hS, _⟩ := HO4.out.at_ 0 rfl
      clear hm
      go_wp2_with fail
      refine (HB.out _ S hS).mono ?_
      rintro e w5 ⟨rfl, rfl⟩
      go_wp2_with fail
      go_ret
      exact ⟨by first | rfl | simp, HO4.out.since⟩
    | true =>
      by_cases hne : m = n
      · subst hne
        have HF := Lib.hid (next_same HN.out)
        rw [HF.out.2.2] at HO4
        rw [HF.out.1, HF.out.2.1, errV_zero]
        obtain ⟨S, hS, _⟩ := HO4.out.at_ 0 rfl
        have hmm : (m != m) = false := by simp
        clear hm
        go_wp2_with fail
        refine (HB.out _ S hS).mono ?_
        rintro e w5 ⟨rfl, rfl⟩
        have hkk : decide ((k : Int) < (k : Int)) = false := by simp
        go_wp2_with fail
        go_ret
        exact ⟨by first | rfl | simp, HO4.out.since⟩
      · have HF := Lib.hid (next_new HN.out hm hne)
        have hmm2 := mayB_iff.1 hm
        unfold MayBe at hmm2
        have hrs2 := rec_size hmm2.1 hmm2.2
        rw [HF.out.1, HF.out.2.1, errV_zero]
        obtain ⟨S, hS, _⟩ := HO4.out.at_ 0 rfl
        have HB2 := Lib.hid (gbytes g (lgN (lg1 n) m) _ S hS)
        obtain ⟨k2, hk2'⟩ : ∃ k2, (lgN (lg1 n) m).by_.size = k2 := ⟨_, rfl⟩
        rw [hk2'] at HB2
        have hlt : k < k2 := by
          have h1 := HF.out.2.2
          have h2 := HSZ.out
          rw [hk2'] at h1
          have h3 : (rec_ n).size = k := h2
          omega
        have hlt' : (k : Int) < (k2 : Int) := by omega
        have hmn : (m != n) = true := by simpa using hne
        clear hm hne hmm2 hrs2 hS hk2'
        go_wp2_with fail
        refine HB2.out.mono ?_
        rintro e w5 ⟨rfl, rfl⟩
        go_wp2_with fail
        go_ret
        exact ⟨by first | rfl | simp, HO4.out.since⟩

/-! the row -/
theorem own : ownKnob Tryd.prog.godebug = none := by kernel_rfl
theorem laidOut : laidOutB Tryd.prog = true := by kernel_rfl
set_option maxRecDepth 100000 in
theorem contract (H : Type) (enc : TypeId × Value → H) (W : World) (base : Nat) (args : Array Value) (ds gs : List (DataW H)) (before : List MemPlace)
    (hval : ∀ (j : Nat) t v, Tryd.f4.params[j]? = some t → args[j]? = some v → Value.okWide Tryd.prog W .any base t v)
    (hW : DataW.Whole enc Tryd.prog Tryd.f4.params.toList Rows.logOnceSpec.vars false W args.toList ds gs before) (hL : laidMetH Tryd.prog Rows.logOnceRow.laid W) :
    Calls Tryd.prog 4 args W fun e W' => ∃ v, e = .returned v ∧ Rows.logOnceSpec.post enc Tryd.prog Tryd.f4 false true false false W args v W' := by
  have hW' := hW
  obtain ⟨p, q, hA0, hV, rfl, hfz, hnd⟩ := hW
  have hA : DataW.TrodAll enc Tryd.prog W 0 (fun _ => true) true Tryd.f4.params.toList args.toList ds p := hA0
  rw [Tryd.params4] at hA hval
  obtain ⟨v0, vs0, d0, ds0, p0, q0, hargs, rfl, rfl, h0, r0⟩ := trodAll_cons hA
  obtain ⟨v1, vs1, d1, ds1, p1, q1, rfl, rfl, rfl, h1, r1⟩ := trodAll_cons r0
  obtain ⟨rfl, rfl, rfl⟩ := trodAll_nil r1
  obtain rfl : args = #[v0, v1] := by cases args; simp_all
  obtain ⟨rfl, rfl⟩ := trodVars_none hV
  obtain ⟨a0, rfl, rfl, rfl, w0⟩ := open_int Tryd.underlying3 (hval 0 3 v0 rfl rfl) h0
  obtain ⟨a1, rfl, rfl, rfl, w1⟩ := open_int Tryd.underlying3 (hval 1 3 v1 rfl rfl) h1
  have lw := laidWalk hL
  refine (walk a0 a1 W w0 w1 lw).mono fun e W' ⟨he, bel⟩ => ?_
  subst he
  exact ⟨_, rfl, _, _, _, [], _, [], hW', trodAll_mk1 (shut_bool Tryd.underlying4 _), (trodAll_cons_mk (shut_int Tryd.underlying3 w0) (trodAll_cons_mk (shut_int Tryd.underlying3 w1) trodAll_mk0)), rfl, bel.frame _, fun h => by cases h⟩

theorem reads (os : Os) {H : Type} (enc : TypeId × Value → H) : ∃ places, DataW.whole enc Tryd.prog ((laidWorld os).forCall (fun _ _ => 0) ⟨#[], #[.int .i64 0, .int .i64 0], []⟩).memory Tryd.f4.params.toList Rows.logOnceSpec.vars false (#[.int .i64 0, .int .i64 0] : Array Value).toList 8 = some ([.lit (.int .i64 0), .lit (.int .i64 0)], [], places) :=
  ⟨[], by kernel_rfl⟩
theorem laid_met (os : Os) : laidMetH Tryd.prog Rows.logOnceRow.laid ((laidWorld os).forCall (fun _ _ => 0) ⟨#[], #[.int .i64 0, .int .i64 0], []⟩).memory := laidMetW os _

set_option maxRecDepth 100000 in
theorem lifted (os : Os) (started : os.Started) (H : Type) (enc : TypeId × Value → H) (F : Stop.Interp) :
    ReturnsInHanded {} Tryd.checked os 4 .any ((OpenSpec.ofChange Rows.logOnceSpec).preRow enc Tryd.prog Tryd.f4 Rows.logOnceRow.domain false Rows.logOnceRow.laid) (((OpenSpec.ofChange Rows.logOnceSpec).at F).post enc Tryd.prog Tryd.f4 false true false false) := by
  obtain ⟨places, hx⟩ := reads os enc
  refine returnsInHanded_of_row (C := Tryd.checked) (s := OpenSpec.ofChange Rows.logOnceSpec) own started (by kernel_rfl) Tryd.func4
    (witness_row_at (enc := enc) (C := Tryd.checked) false (laidWorld os) #[.int .i64 0, .int .i64 0] rfl (by kernel_rfl) (by kernel_rfl) (by kernel_rfl)
      (OpenSpec.preRow_of_cond 8 hx (by kernel_rfl) (fun k hk => by cases hk) (by kernel_rfl) (laid_met os))) ?_
  intro W base args ds gs before hval hW _ _ _ hL _ _
  exact contract H enc W base args ds gs before hval hW hL

theorem said : Rows.LogOnceSaid :=
  OpenClaim.holds_of_cond 4 Tryd.f4 rfl rfl rfl rfl rfl rfl rfl ⟨rfl, rfl, rfl, rfl, rfl⟩ rfl rfl rfl rfl rfl (by kernel_rfl) Tryd.func4 (by kernel_rfl)
    (of_decide_eq_true (by kernel_rfl)) (by unfold Func.isWrapper; first | (rw [if_pos (by decide +kernel)]; kernel_rfl) | (rw [if_neg (by decide +kernel)]; exact ⟨rfl, rfl⟩))
    (fun os started H enc _ F => by rw [OpenClaim.pre_eq_preRow]; exact lifted os started H enc F)

theorem plain (f : FuncId) (fn : Func) (hf : Tryd.pinned.checked.prog.funcNamed "wanderwire/wirelaw4.LogOnce" = some f) (hfn : Tryd.pinned.checked.prog.funcs[f]? = some fn) :
    true = Tryd.pinned.checked.prog.looks [] ∧ ∀ (j : Nat) t, fn.params[j]? = some t → Tryd.pinned.checked.prog.wantsStandIn t = false := by
  obtain rfl : f = 4 := Option.some.inj ((show Tryd.prog.funcNamed "wanderwire/wirelaw4.LogOnce" = some 4 by kernel_rfl).symm.trans hf) |>.symm
  obtain rfl : fn = Tryd.f4 := (Option.some.inj (Tryd.func4.symm.trans hfn)).symm
  refine ⟨by kernel_rfl, fun j t ht => ?_⟩
  rw [Tryd.params4] at ht
  have ht' := Array.mem_of_getElem? ht
  have hall : (([3, 3] : List Nat).all fun t => !Tryd.prog.wantsStandIn t) = true := by kernel_rfl
  have hq := List.all_eq_true.1 hall t (by simpa using ht')
  have hq2 : Tryd.prog.wantsStandIn t = false := by simpa using hq
  exact hq2

theorem card : Rows.LogOnceCardSaid :=
  Claim7.holds_tied_plain_at .later [] _ _ _ _ said (fun _ h => by cases h) (by kernel_rfl) (fun _ h => by cases h) logOnce_row_tie rfl ⟨rfl, rfl⟩ (by kernel_rfl) rfl plain (by kernel_rfl)
#print axioms card
end Go.Proofs.YtjjmoaaongnjiaaDoor.logOnce
