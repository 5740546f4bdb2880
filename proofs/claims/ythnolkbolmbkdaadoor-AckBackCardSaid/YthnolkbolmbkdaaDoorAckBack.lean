/- AckBack: for every ranges and text the law returns true: which came is read as it was, any, and any bytes; in no more than eight bytes for each range, and one more. Condition: the table of kinds holds what the program's text lays (the row lists it, the card ties it). -/
import Derived.Test.YthnolkbolmbkdaaDoorAckR
import Derived.Test.YthnolkbolmbkdaaDoorSameR
import Derived.Test.YthnolkbolmbkdaaDoorFrmLaw
import Derived.Test.YthnolkbolmbkdaaDoorLaid
import Derived.Test.YthnolkbolmbkdaaDoorTold
import Derived.Test.YthnolkbolmbkdaaDoorNumAny
import Derived.Test.YthnolkbolmbkdaaDoorCards
import Derived.Test.YthnolkbolmbkdaaDoorTie
import Derived.Deep.DeepHandedRow
import Derived.LaidLaws
import Derived.LaidHandle
import Derived.Deep.DeepWitnessRowRef
import Derived.Test.YthnolkbolmbkdaaDoorRows
import Derived.WalkKit
import Derived.ProofKit
import Derived.OpenShut
import Derived.ShutString
import Derived.ChangeOld
import Derived.Below
import Derived.Lib.SmallJoins
import Derived.Deep.Slices
import Derived.Deep.Matrix
import Derived.Deep.Strs
namespace Go.Proofs.YthnolkbolmbkdaaDoor.ackBack
open Go.ChangeShapes Go.WideShapes Go.ChangeAt Go.RowKit
open Go.ChangeMaps (open_string shut_string)
set_option linter.unusedVariables false

noncomputable abbrev laidWorld := YthnolkbolmbkdaaDoor.laidWorld
theorem laidMetW (os : Os) (args : Array Value) : laidMetH Tryd.prog Rows.ackBackRow.laid ((laidWorld os).forCall (fun _ _ => 0) ⟨#[], args, []⟩).memory := laidMet_k os args
theorem laidWalk {W : World} (h : laidMetH Tryd.prog Rows.ackBackRow.laid W) : KTab W := laid_k h
def fact : List Rng := [⟨8, 9⟩, ⟨1, 5⟩]
theorem fact_ok : rngE fact = 0 := by decide
theorem fact_bytes : ackB fact = [9, 1, 1, 1, 4] := by decide
/-- what is read is printed as it was -/
theorem back_of {b : List UInt8} (h : parE b = 0) : ackE (parM b) = 0 ∧ ackV (parM b) = b ∧ 0 < (parM b).length := by
  cases hp : parL b with
  | none => unfold parE at h; rw [hp] at h; cases h
  | some L =>
    have hr := parL_iff.1 hp
    obtain ⟨h1, h2, h3, h4, _⟩ := readA_inv hr
    have e : parM b = L := by unfold parM; rw [hp]; rfl
    obtain ⟨a1, a2⟩ := ackE_ok h2 (by omega)
    rw [e]
    exact ⟨a1, by rw [a2, ← h4, List.take_length], h1⟩
/-- what is printed is read as it was -/
theorem read_of {L : List Rng} (h : ackE L = 0) : parE (ackV L) = 0 ∧ parM (ackV L) = L ∧ (ackV L).length ≤ 8 * L.length + 1 := by
  have hE : rngE L = 0 ∧ L.length ≠ 0 := by
    unfold ackE at h
    by_cases h0 : rngE L = 0
    · rw [if_pos h0] at h
      by_cases h1 : L.length = 0
      · rw [if_pos h1] at h; cases h
      · exact ⟨h0, h1⟩
    · rw [if_neg h0] at h; exact absurd h h0
  obtain ⟨a1, a2⟩ := ackE_ok hE.1 hE.2
  have hb := readA_back hE.1 (by omega) []
  rw [List.append_nil] at hb
  obtain ⟨_, p1, p2⟩ := parL_yes hb
  rw [a2]
  exact ⟨p1, p2, ackUp_len L (rngE_len hE.1) L.length⟩
theorem parE_or (b : List UInt8) : parE b = 0 ∨ parE b = 2 := by unfold parE; split <;> simp

set_option maxRecDepth 100000 in
set_option maxHeartbeats 3200000 in
theorem walk (v0 : Value) (L : List Rng) (s : ByteArray) (w : World) (w0 : RngsIn w v0 L) (w1 : s.size ≤ maxLen) (hk : KTab w) :
    Calls Tryd.prog 5 #[v0, .string s] w fun e w' => e = .returned (.bool true) ∧ Below w.heap.size w w' := by
  have HK := Lib.hid hk
  obtain ⟨hb, hr⟩ := w0
  obtain ⟨A, cap, rfl, hz1, hz2, hz3⟩ := id hr.shape
  rw [List.length_map] at hr ⊢
  obtain ⟨n, hn⟩ : ∃ n, L.length = n := ⟨_, rfl⟩
  rw [hn] at hr ⊢
  have HR := Lib.hid hr
  have HN := Lib.hid hn
  have HB := Lib.hid hb
  have hcm := (rd_cap hr).2
  have HSZ : Hid (s.size ≤ 9223372036854775807) := Lib.hid (by unfold maxLen at w1; omega)
  have HRD := Lib.hid (rd_of_block (k := 2) (n := 2) (cap := 2) (es := fact.map rngRow) (BlockIs.fresh w 69 #[.int .i64 8, .int .i64 9, .int .i64 1, .int .i64 5]) (by intro e he; obtain ⟨r, _, rfl⟩ := List.mem_map.1 he; exact rngRow_one _) rfl (by omega) (by omega))
  have HFO : Hid (∀ r ∈ fact, okI r.lo ∧ okI r.hi) := Lib.hid (fun r hr => by have := rngE_ok fact_ok r hr; unfold okI; omega)
  obtain ⟨f1, f2⟩ := ackE_ok fact_ok (by decide)
  rw [fact_bytes] at f2
  have F1 := Lib.hid f1
  have F2 := Lib.hid f2
  clear hz1 hz2 hz3 hr hn hb w1 hk f1 f2
  go_enter Tryd.func5, Tryd.ntmps5
  go_wp2_with fail
  refine (ackprint _ 2 2 fact _ rfl HFO.out HRD.out (HK.out.later (by refine Since.out ?_; repeat (first | with_reducible assumption | with_reducible exact Since.refl _ | with_reducible refine Since.later ?_ (by with_reducible assumption) | with_reducible refine Since.only ?_ (by with_reducible assumption) (by first | assumption | omega | (simp; done) | (simp; omega)) | with_reducible refine Since.alloc ?_ _ | with_reducible refine Since.drewN ?_ _ | with_reducible refine Since.drew ?_ | with_reducible refine Since.set ?_ (by first | assumption | omega | (simp; done) | (simp; omega)) _)))).mono ?_
  rintro e w1 ⟨rfl, hb1⟩
  rw [F1.out, F2.out, errV_zero]
  have hs1 : Since w w1 := (by refine Since.out ?_; repeat (first | with_reducible assumption | with_reducible exact Since.refl _ | with_reducible refine Since.later ?_ (by with_reducible assumption) | with_reducible refine Since.only ?_ (by with_reducible assumption) (by first | assumption | omega | (simp; done) | (simp; omega)) | with_reducible refine Since.alloc ?_ _ | with_reducible refine Since.drewN ?_ _ | with_reducible refine Since.drew ?_ | with_reducible refine Since.set ?_ (by first | assumption | omega | (simp; done) | (simp; omega)) _))
  clear hb1
  go_wp2_with fail
  refine (aparse s _ HSZ.out (HK.out.later hs1)).mono ?_
  rintro e w2 ⟨A2, c2, rfl, hl2, hb2, _⟩
  obtain ⟨b, hb⟩ : ∃ b, s.data.toList = b := ⟨_, rfl⟩
  have HBD := Lib.hid hb
  rw [hb] at hl2 ⊢
  have HL2 := Lib.hid hl2
  have hs2 := hs1.later hb2
  clear hb hl2 hb2 hs1
  repeat ((fail_if_success (with_reducible refine stop_at 5 ?_)); first | fail | go_values | go_skip | go_guarded | go_step | go_upon | go_back | go_simp)
  obtain ⟨wq, rfl⟩ : ∃ wq : World, wq = w2 := ⟨_, rfl⟩
  go_cut [8, 9, 10] (fun s8 s9 s10 wx => Since w wx)
  case first =>
    as_aux_lemma =>
      rcases parE_or b with h0 | h0
      · obtain ⟨e1, e2, e3⟩ := back_of h0
        rw [h0, errV_zero]
        have E1 := Lib.hid e1
        have E2 := Lib.hid e2
        have HM : Hid (∀ r ∈ parM b, okI r.lo ∧ okI r.hi) := Lib.hid (fun r hr => by
          have hE : rngE (parM b) = 0 := by
            by_cases h1 : rngE (parM b) = 0
            · exact h1
            · unfold ackE at e1; rw [if_neg h1] at e1; exact e1
          have := rngE_ok hE r hr; unfold okI; omega)
        have HBS : Hid (s = ⟨b.toArray⟩) := Lib.hid (ba_ext (by rw [HBD.out]))
        have hq : (b != s.toList) = false := by rw [ByteArray.toList_eq, HBD.out]; simp
        have hq2 : (b == s.toList) = true := by rw [ByteArray.toList_eq, HBD.out]; simp
        clear h0 e1 e2 e3
        go_wp2_with fail
        refine (ackprint A2 (parM b).length c2 (parM b) _ rfl HM.out (Rd.of_lst HL2.out) (HK.out.later hs2)).mono ?_
        rintro e w3 ⟨rfl, hb3⟩
        rw [E1.out, E2.out, errV_zero]
        have hs3 := hs2.later hb3
        go_wp2_with fail
        go_meet
        case rel => exact hs3
      · rw [h0, errV_pos (by decide)]
        clear h0
        go_wp2_with fail
        go_meet
        case rel => exact hs2
  case rest =>
    as_aux_lemma =>
      obtain ⟨wo, rfl⟩ : ∃ wo : World, wo = wc := ⟨_, rfl⟩
      have hso := hcut
      clear hs2 hcut
      go_wp2_with fail
      refine (ackprint A n cap L _ HN.out HB.out (HR.out.later hso) (HK.out.later hso)).mono ?_
      rintro e w3 ⟨rfl, hb3⟩
      have hs3 := hso.later hb3
      clear hb3
      by_cases h0 : ackE L = 0
      case neg =>
        rw [errV_pos h0]
        clear h0
        go_wp2_with fail
        go_ret
        exact ⟨rfl, hs3⟩
      obtain ⟨r1, r2, r3⟩ := read_of h0
      rw [h0, errV_zero]
      have R1 := Lib.hid r1
      have R2 := Lib.hid r2
      rw [HN.out] at r3
      obtain ⟨V, hV⟩ : ∃ V, ackV L = V := ⟨_, rfl⟩
      rw [hV] at R1 R2 r3 ⊢
      have hl12 : n ≤ 12 := by
        have hE : rngE L = 0 := by
          by_cases h1 : rngE L = 0
          · exact h1
          · unfold ackE at h0; rw [if_neg h1] at h0; exact h0
        have := rngE_len hE
        have := HN.out
        omega
      have HVZ : Hid ((⟨V.toArray⟩ : ByteArray).size ≤ 9223372036854775807) := Lib.hid (by rw [bsize]; omega)
      have r4 : (V.length : Int) ≤ 8 * (n : Int) + 1 := by omega
      clear h0 r1 r2 hV r3 hso
      go_wp2_with fail
      refine (aparse _ _ HVZ.out (HK.out.later hs3)).mono ?_
      rintro e w4 ⟨A4, c4, rfl, hl4, hb4, _⟩
      rw [R1.out, errV_zero]
      rw [R2.out] at hl4 ⊢
      have hs4 := hs3.later hb4
      have HL4 := Lib.hid hl4
      rw [HN.out] at HL4 ⊢
      clear hl4 hb4 hs3
      go_wp2_with fail
      refine (rngeqR A4 A c4 cap n L _ HN.out (Rd.of_lst HL4.out) (HR.out.later hs4)).mono ?_
      rintro e w5 ⟨rfl, hb5⟩
      have hs5 := hs4.later hb5
      go_wp2_with fail
      go_ret
      exact ⟨by first | rfl | simp, hs5⟩

/-! the row -/
theorem own : ownKnob Tryd.prog.godebug = none := by kernel_rfl
theorem laidOut : laidOutB Tryd.prog = true := by kernel_rfl
set_option maxRecDepth 100000 in
theorem contract (H : Type) (enc : TypeId × Value → H) (W : World) (base : Nat) (args : Array Value) (ds gs : List (DataW H)) (before : List MemPlace)
    (hval : ∀ (j : Nat) t v, Tryd.f5.params[j]? = some t → args[j]? = some v → Value.okWide Tryd.prog W .any base t v)
    (hW : DataW.Whole enc Tryd.prog Tryd.f5.params.toList Rows.ackBackSpec.vars false W args.toList ds gs before) (hL : laidMetH Tryd.prog Rows.ackBackRow.laid W) :
    Calls Tryd.prog 5 args W fun e W' => ∃ v, e = .returned v ∧ Rows.ackBackSpec.post enc Tryd.prog Tryd.f5 false true false false W args v W' := by
  have hW' := hW
  obtain ⟨p, q, hA0, hV, rfl, hfz, hnd⟩ := hW
  have hA : DataW.TrodAll enc Tryd.prog W 0 (fun _ => true) true Tryd.f5.params.toList args.toList ds p := hA0
  rw [Tryd.params5] at hA hval
  obtain ⟨v0, vs0, d0, ds0, p0, q0, hargs, rfl, rfl, h0, r0⟩ := trodAll_cons hA
  obtain ⟨v1, vs1, d1, ds1, p1, q1, rfl, rfl, rfl, h1, r1⟩ := trodAll_cons r0
  obtain ⟨rfl, rfl, rfl⟩ := trodAll_nil r1
  obtain rfl : args = #[v0, v1] := by cases args; simp_all
  obtain ⟨rfl, rfl⟩ := trodVars_none hV
  obtain ⟨a0, len0, cap0, rfl⟩ := okWide_slice Tryd.underlying65 (hval 0 65 v0 rfl rfl)
  have k0 := h0
  have lt0 : ∀ x ∈ p0, x.block < W.heap.size := by obtain ⟨m, hm⟩ := k0; exact DataW.trod_lt m _ _ _ hm
  obtain ⟨z0, w0⟩ : ∃ zs, RngsIn W (.slice a0 len0 cap0) zs := by
    obtain ⟨fuel, hf⟩ := h0
    exact rngsIn_open Tryd.underlying65 Tryd.underlying69 (by kernel_rfl) rfl rfl (by kernel_rfl) (by kernel_rfl) Tryd.underlying3 Tryd.underlying3 hf
  obtain ⟨s1, rfl, rfl, rfl, w1⟩ := open_string Tryd.underlying9 (hval 1 9 v1 rfl rfl) h1
  have lw := laidWalk hL
  refine (walk (.slice a0 len0 cap0) z0 s1 W w0 w1 lw).mono fun e W' ⟨he, bel⟩ => ?_
  subst he
  exact ⟨_, rfl, _, _, _, [], _, [], hW', trodAll_mk1 (shut_bool Tryd.underlying4 _), (trodAll_cons_mk (Below.trod laidOut (by kernel_rfl) (of_decide_eq_true (by kernel_rfl)) k0 bel lt0) (trodAll_cons_mk (shut_string Tryd.underlying9 w1) trodAll_mk0)), rfl, bel.frame _, fun h => by cases h⟩

theorem reads (os : Os) {H : Type} (enc : TypeId × Value → H) : ∃ places, DataW.whole enc Tryd.prog ((laidWorld os).forCall (fun _ _ => 0) ⟨#[], #[.slice none 0 0, .string ByteArray.empty], []⟩).memory Tryd.f5.params.toList Rows.ackBackSpec.vars false (#[.slice none 0 0, .string ByteArray.empty] : Array Value).toList 8 = some ([.nil, .lit (.string [])], [], places) :=
  ⟨[], by kernel_rfl⟩
theorem laid_met (os : Os) : laidMetH Tryd.prog Rows.ackBackRow.laid ((laidWorld os).forCall (fun _ _ => 0) ⟨#[], #[.slice none 0 0, .string ByteArray.empty], []⟩).memory := laidMetW os _

set_option maxRecDepth 100000 in
theorem lifted (os : Os) (started : os.Started) (H : Type) (enc : TypeId × Value → H) (F : Stop.Interp) :
    ReturnsInHanded {} Tryd.checked os 5 .any ((OpenSpec.ofChange Rows.ackBackSpec).preRow enc Tryd.prog Tryd.f5 Rows.ackBackRow.domain false Rows.ackBackRow.laid) (((OpenSpec.ofChange Rows.ackBackSpec).at F).post enc Tryd.prog Tryd.f5 false true false false) := by
  obtain ⟨places, hx⟩ := reads os enc
  refine returnsInHanded_of_row (C := Tryd.checked) (s := OpenSpec.ofChange Rows.ackBackSpec) own started (by kernel_rfl) Tryd.func5
    (witness_row_at (enc := enc) (C := Tryd.checked) false (laidWorld os) #[.slice none 0 0, .string ByteArray.empty] rfl (by kernel_rfl) (by kernel_rfl) (by kernel_rfl)
      (OpenSpec.preRow_of_cond 8 hx (by kernel_rfl) (fun k hk => by cases hk) (by kernel_rfl) (laid_met os))) ?_
  intro W base args ds gs before hval hW _ _ _ hL _ _
  exact contract H enc W base args ds gs before hval hW hL

theorem said : Rows.AckBackSaid :=
  OpenClaim.holds_of_cond 5 Tryd.f5 rfl rfl rfl rfl rfl rfl rfl ⟨rfl, rfl, rfl, rfl, rfl⟩ rfl rfl rfl rfl rfl (by kernel_rfl) Tryd.func5 (by kernel_rfl)
    (of_decide_eq_true (by kernel_rfl)) (by unfold Func.isWrapper; first | (rw [if_pos (by decide +kernel)]; kernel_rfl) | (rw [if_neg (by decide +kernel)]; exact ⟨rfl, rfl⟩))
    (fun os started H enc _ F => by rw [OpenClaim.pre_eq_preRow]; exact lifted os started H enc F)

theorem plain (f : FuncId) (fn : Func) (hf : Tryd.pinned.checked.prog.funcNamed "wanderwire/wirelaw1.AckBack" = some f) (hfn : Tryd.pinned.checked.prog.funcs[f]? = some fn) :
    true = Tryd.pinned.checked.prog.looks [] ∧ ∀ (j : Nat) t, fn.params[j]? = some t → Tryd.pinned.checked.prog.wantsStandIn t = false := by
  obtain rfl : f = 5 := Option.some.inj ((show Tryd.prog.funcNamed "wanderwire/wirelaw1.AckBack" = some 5 by kernel_rfl).symm.trans hf) |>.symm
  obtain rfl : fn = Tryd.f5 := (Option.some.inj (Tryd.func5.symm.trans hfn)).symm
  refine ⟨by kernel_rfl, fun j t ht => ?_⟩
  rw [Tryd.params5] at ht
  have ht' := Array.mem_of_getElem? ht
  have hall : (([65, 9] : List Nat).all fun t => !Tryd.prog.wantsStandIn t) = true := by kernel_rfl
  have hq := List.all_eq_true.1 hall t (by simpa using ht')
  have hq2 : Tryd.prog.wantsStandIn t = false := by simpa using hq
  exact hq2

theorem card : Rows.AckBackCardSaid :=
  Claim7.holds_tied_plain_at .later [] _ _ _ _ said (fun _ h => by cases h) (by kernel_rfl) (fun _ h => by cases h) ackBack_row_tie rfl ⟨rfl, rfl⟩ (by kernel_rfl) rfl plain (by kernel_rfl)
#print axioms card
end Go.Proofs.YthnolkbolmbkdaaDoor.ackBack
