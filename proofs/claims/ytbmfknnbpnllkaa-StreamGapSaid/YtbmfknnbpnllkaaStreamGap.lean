/- StreamGap: for every place and bytes the law returns true: behind a gap nothing is ready, and the gap is told. Condition: the bytes are no longer than the form's reach. -/
import Derived.Test.YtbmfknnbpnllkaaBase
import Derived.Test.YtbmfknnbpnllkaaErrV
import Derived.Test.YtbmfknnbpnllkaaOnly
import Derived.Test.YtbmfknnbpnllkaaSince
import Derived.Test.YtbmfknnbpnllkaaRules
import Derived.Test.YtbmfknnbpnllkaaOut
import Derived.Test.YtbmfknnbpnllkaaLst
import Derived.Test.YtbmfknnbpnllkaaRow
import Derived.Test.YtbmfknnbpnllkaaRng
import Derived.Test.YtbmfknnbpnllkaaStr
import Derived.Test.YtbmfknnbpnllkaaStrm
import Derived.Test.YtbmfknnbpnllkaaSgaps
import Derived.Deep.DeepCutAuto
import Derived.Test.YtbmfknnbpnllkaaRows
import Derived.WalkKit
import Derived.ProofKit
import Derived.OpenShut
import Derived.ShutString
import Derived.ChangeOld
import Derived.Below
import Derived.Lib.SmallJoins
import Derived.Deep.Slices
import Derived.Deep.Matrix
import Derived.Deep.Strs
namespace Go.Proofs.Ytbmfknnbpnllkaa.streamGap
open Go.ChangeShapes Go.WideShapes Go.ChangeAt Go.RowKit
open Go.ChangeMaps (open_string shut_string)
set_option linter.unusedVariables false

/-- some bytes behind a gap, and no others -/
structure Shift (M : Plc) (a n : Nat) : Prop where
  before : ∀ i, i < a → M.at i = none
  within : ∀ i, a ≤ i → i < a + n → (M.at i).isSome = true
  behind : ∀ i, a + n ≤ i → M.at i = none
theorem Shift.gaps {M : Plc} {a n : Nat} (h : Shift M a n) (ha : 0 < a) : ∀ m, gapL M m = if m ≤ a ∨ n = 0 then ([], 0) else ([⟨0, (a : Int) - 1⟩], min m (a + n))
  | 0 => by rw [if_pos (Or.inl (by omega))]; rfl
  | m + 1 => by
    have ih := Shift.gaps h ha m
    by_cases h1 : m < a
    · rw [gapL_none (h.before m h1), ih, if_pos (Or.inl (by omega)), if_pos (Or.inl (by omega))]
    by_cases h2 : m < a + n
    · obtain ⟨y, hy⟩ := Option.isSome_iff_exists.1 (h.within m (by omega) h2)
      have hn : ¬ (m + 1 ≤ a ∨ n = 0) := by omega
      rw [gapL_some hy, if_neg hn]
      by_cases hm : m = a
      · have e1 : gapL M m = ([], 0) := by rw [ih, if_pos (Or.inl (by omega))]
        rw [e1]
        simp only
        rw [if_pos (by omega), show min (m + 1) (a + n) = m + 1 by omega, hm]
        rfl
      · have e1 : gapL M m = ([⟨0, (a : Int) - 1⟩], min m (a + n)) := by rw [ih, if_neg (by omega)]
        rw [e1]
        simp only
        rw [if_neg (by omega), show min (m + 1) (a + n) = m + 1 by omega]
    · rw [gapL_none (h.behind m (by omega)), ih]
      by_cases hn : n = 0
      · rw [if_pos (Or.inr hn), if_pos (Or.inr hn)]
      · rw [if_neg (by omega), if_neg (by omega)]
        congr 1
        omega
theorem put_shift {a : Nat} {d : List UInt8} (h : a + d.length ≤ 60) : putE Plc.new a d = 0 ∧ Shift (putM Plc.new a d) a d.length := by
  have e0 : putE Plc.new a d = 0 := by
    unfold putE
    rw [if_neg (by omega), if_neg (by omega), if_neg]
    rw [clashN_no.2 (fun i _ y hy => by rw [Plc.new_at] at hy; cases hy)]
    decide
  have e1 : ∀ i, (putM Plc.new a d).at i = if a ≤ i ∧ i < a + d.length then some (bth d (i - a)) else none := fun i => by
    unfold putM
    rw [if_pos e0]
    have := wrN_at (M := Plc.new) (a := a) (d := d) (j := i) (n := d.length) (by rw [Plc.new_len]; exact h)
    rw [Plc.new_at] at this
    exact this
  exact ⟨e0, fun i hi => by rw [e1, if_neg (by omega)], fun i h1 h2 => by rw [e1, if_pos ⟨h1, h2⟩]; rfl, fun i hi => by rw [e1, if_neg (by omega)]⟩
theorem Shift.ready {M : Plc} {a n : Nat} (h : Shift M a n) (ha : 0 < a) : readyN M 0 = 0 :=
  readyN_eq (fun j hj => by omega) (by omega) (Or.inl (by rw [h.before _ (by omega)]; rfl))
theorem Shift.ready0 {M : Plc} {n : Nat} (h : Shift M 0 n) (hn : n ≤ 60) : readyN M 0 = n :=
  readyN_eq (fun j hj => h.within _ (by omega) (by omega)) (by omega) (Or.inl (by rw [h.behind _ (by omega)]; rfl))
theorem Shift.gaps0 {M : Plc} {n : Nat} (h : Shift M 0 n) : gapsOf M = [] := by
  unfold gapsOf
  rw [gapL_full (k := n) (fun j hj => h.within j (by omega) (by omega)) (fun j hj => h.behind j (by omega))]
theorem Shift.gaps1 {M : Plc} {a n : Nat} (h : Shift M a n) (ha : 0 < a) (hn : 0 < n) (hm : a < 60) : gapsOf M = [⟨0, (a : Int) - 1⟩] := by
  unfold gapsOf
  rw [h.gaps ha, if_neg (by omega)]
theorem Shift.gaps2 {M : Plc} {a : Nat} (h : Shift M a 0) (ha : 0 < a) : gapsOf M = [] := by
  unfold gapsOf
  rw [h.gaps ha, if_pos (Or.inr rfl)]
theorem errV_4 : errV 4 = .iface 67 (.int .i64 4) := rfl
theorem errV_1 : errV 1 = .iface 67 (.int .i64 1) := rfl

set_option maxRecDepth 100000 in
set_option maxHeartbeats 3200000 in
theorem walk (x : Int) (s : ByteArray) (w : World) (w0 : (Lit.int .i64 x).wf = true) (z1 : s.size ≤ 140737488351232) :
    Calls Try.prog 3 #[.int .i64 x, .string s] w fun e w' => e = .returned (.bool true) ∧ Below w.heap.size w w' := by
  have hl : s.data.toList.length = s.size := Array.length_toList
  have hcut : ∀ w1 w2 : World, Since w w1 → Out w1 w2 [w.heap.size] → Since w w2 := fun w1 w2 h k => h.out' k (by simp)
  go_enter Try.func3, Try.ntmps3
  go_wp2_with fail
  refine (snew _).mono ?_
  rintro e w1 ⟨rfl, hz1, hb1⟩
  have HZ1 := Lib.hid hz1
  have hs1 : Since w w1 := hb1
  clear hz1 hb1
  go_wp2_with fail
  refine (sput _ _ _ x s _ HZ1.out z1).mono ?_
  rintro e w2 ⟨rfl, hz2, ho2⟩
  have hs2 := hcut _ _ hs1 ho2
  have HZ2 := Lib.hid hz2
  clear hz2 ho2
  by_cases hx : 0 ≤ x ∧ x ≤ 60
  case neg =>
    have E : putE Plc.new x s.data.toList = 1 := by unfold putE; rw [if_pos (by omega)]
    rw [E, errV_1]
    clear E hl
    by_cases h0 : x < 0
    · clear hx
      go_wp2_with fail
      go_ret
      exact ⟨by first | rfl | simp, (by refine Since.out ?_; repeat (first | with_reducible assumption | with_reducible exact Since.refl _ | with_reducible refine Since.later ?_ (by with_reducible assumption) | with_reducible refine Since.only ?_ (by with_reducible assumption) (by first | assumption | omega | (simp; done) | (simp; omega)) | with_reducible refine Since.alloc ?_ _ | with_reducible refine Since.drewN ?_ _ | with_reducible refine Since.drew ?_ | with_reducible refine Since.set ?_ (by first | assumption | omega | (simp; done) | (simp; omega)) _))⟩
    · have h0' : decide (x < 0) = false := by simpa using h0
      have h1 : decide (60 < x) = true := by simp; omega
      clear hx
      go_wp2_with fail
      go_ret
      exact ⟨by first | rfl | simp, (by refine Since.out ?_; repeat (first | with_reducible assumption | with_reducible exact Since.refl _ | with_reducible refine Since.later ?_ (by with_reducible assumption) | with_reducible refine Since.only ?_ (by with_reducible assumption) (by first | assumption | omega | (simp; done) | (simp; omega)) | with_reducible refine Since.alloc ?_ _ | with_reducible refine Since.drewN ?_ _ | with_reducible refine Since.drew ?_ | with_reducible refine Since.set ?_ (by first | assumption | omega | (simp; done) | (simp; omega)) _))⟩
  obtain ⟨x0, x1⟩ := hx
  obtain ⟨a, rfl⟩ := Int.eq_ofNat_of_zero_le x0
  have h0' : decide ((a : Int) < 0) = false := by simp
  have h1' : decide (60 < (a : Int)) = false := by simp; omega
  by_cases hf : 60 < a + s.size
  · have E : putE Plc.new a s.data.toList = 4 := by unfold putE; rw [if_neg (by omega), if_pos (by rw [hl]; omega)]
    rw [E, errV_4]
    have h2 : decide (60 < (a : Int) + (s.size : Int)) = true := by simp; omega
    clear E hl
    go_wp2_with fail
    go_ret
    exact ⟨by first | rfl | simp, (by refine Since.out ?_; repeat (first | with_reducible assumption | with_reducible exact Since.refl _ | with_reducible refine Since.later ?_ (by with_reducible assumption) | with_reducible refine Since.only ?_ (by with_reducible assumption) (by first | assumption | omega | (simp; done) | (simp; omega)) | with_reducible refine Since.alloc ?_ _ | with_reducible refine Since.drewN ?_ _ | with_reducible refine Since.drew ?_ | with_reducible refine Since.set ?_ (by first | assumption | omega | (simp; done) | (simp; omega)) _))⟩
  obtain ⟨p0, p1⟩ := put_shift (a := a) (d := s.data.toList) (by rw [hl]; omega)
  rw [hl] at p1
  rw [p0, errV_zero]
  generalize putM Plc.new a s.data.toList = M at *
  have P1 := Lib.hid p1
  clear p0 p1 hl
  go_wp2_with fail
  refine (sgaps _ M 0 _ HZ2.out).mono ?_
  rintro e w3 ⟨A3, c3, rfl, hl3, hb3, hk3⟩
  have HL3 := Lib.hid hl3
  have hs3 := hs2.later hb3
  have HZ3 := Lib.hid (HZ2.out.later hb3)
  clear hl3 hb3 hk3
  by_cases ha : a = 0
  · subst ha
    have R := Lib.hid (P1.out.ready0 (by omega))
    have G := Lib.hid P1.out.gaps0
    rw [G.out]
    clear hf
    go_wp2_with fail
    refine (sready _ M 0 _ HZ3.out).mono ?_
    rintro e w4 ⟨rfl, hb4⟩
    rw [R.out]
    go_wp2_with fail
    go_ret
    exact ⟨by first | rfl | simp, hs3.later hb4⟩
  have ha' : ((a : Int) == 0) = false := by simpa using ha
  have R := Lib.hid (P1.out.ready (by omega))
  by_cases hz : s.size = 0
  · have hemp : s.toList = [] := by
      rw [ByteArray.toList_eq]
      exact List.length_eq_zero_iff.1 (by rw [← hz]; exact Array.length_toList)
    have p2 := P1.out
    rw [hz] at p2
    have G := Lib.hid (p2.gaps2 (by omega))
    rw [G.out]
    clear hf p2 P1 hz ha
    go_wp2_with fail
    refine (sready _ M 0 _ HZ3.out).mono ?_
    rintro e w4 ⟨rfl, hb4⟩
    rw [R.out]
    go_wp2_with fail
    go_ret
    exact ⟨by first | rfl | simp, hs3.later hb4⟩
  have hne : ¬ s.toList = [] := by
    intro h
    rw [ByteArray.toList_eq] at h
    have : s.data.toList.length = s.size := Array.length_toList
    rw [h] at this
    exact hz this.symm
  have hne2 : s.toList.isEmpty = false := by simpa using hne
  clear hne
  have G := Lib.hid (P1.out.gaps1 (by omega) (by omega) (by omega))
  have hl3 := HL3.out
  obtain ⟨A', cap, hve, _, _, hA⟩ := hl3.shape
  rw [G.out] at hl3 hve ⊢
  simp only [List.map_cons, List.map_nil, List.length_cons, List.length_nil, Value.slice.injEq] at hve
  obtain ⟨rfl, _, rfl⟩ := hve
  rcases hA with ⟨_, h0, _⟩ | ⟨q, rfl⟩
  · rw [G.out] at h0
    cases h0
  have hl4 : Lst w3 33 2 (.slice (some ⟨q, 0, none⟩) 1 c3) [rngRow ⟨0, (a : Int) - 1⟩] := hl3
  have HL4 := Lib.hid hl4
  clear hl3 hl4 HL3 hf P1 ha
  go_wp2_with fail
  refine (sready _ M 0 _ HZ3.out).mono ?_
  rintro e w4 ⟨rfl, hb4⟩
  rw [R.out]
  have q0 : w4.cell? ⟨q, 0, none⟩ = some (.int .i64 0) := (HL4.out.later hb4).cell rfl (i := 0) (j := 0) rfl rfl
  have q1 : w4.cell? ⟨q, 1, none⟩ = some (.int .i64 ((a : Int) - 1)) := (HL4.out.later hb4).cell rfl (i := 0) (j := 1) rfl rfl
  go_wp2_with fail
  go_ret
  exact ⟨by first | rfl | simp, hs3.later hb4⟩

/-! the row -/
theorem own : ownKnob Try.prog.godebug = none := by kernel_rfl
theorem laidOut : laidOutB Try.prog = true := by kernel_rfl
set_option maxRecDepth 100000 in
theorem contract (H : Type) (enc : TypeId × Value → H) (W : World) (base : Nat) (args : Array Value) (ds gs : List (DataW H)) (before : List MemPlace)
    (hval : ∀ (j : Nat) t v, Try.f3.params[j]? = some t → args[j]? = some v → Value.okWide Try.prog W .any base t v)
    (hW : DataW.Whole enc Try.prog Try.f3.params.toList Rows.streamGapSpec.vars false W args.toList ds gs before) (hsz : (DataW.weightsEach Try.prog (Try.f3.params.toList ++ Rows.streamGapSpec.plain.varTypes Try.prog) (ds ++ gs)).all (· ≤ reachBytes) = true) :
    Calls Try.prog 3 args W fun e W' => ∃ v, e = .returned v ∧ Rows.streamGapSpec.post enc Try.prog Try.f3 false true false false W args v W' := by
  have hW' := hW
  obtain ⟨p, q, hA0, hV, rfl, hfz, hnd⟩ := hW
  have hA : DataW.TrodAll enc Try.prog W 0 (fun _ => true) true Try.f3.params.toList args.toList ds p := hA0
  rw [Try.params3] at hA hval
  obtain ⟨v0, vs0, d0, ds0, p0, q0, hargs, rfl, rfl, h0, r0⟩ := trodAll_cons hA
  obtain ⟨v1, vs1, d1, ds1, p1, q1, rfl, rfl, rfl, h1, r1⟩ := trodAll_cons r0
  obtain ⟨rfl, rfl, rfl⟩ := trodAll_nil r1
  obtain rfl : args = #[v0, v1] := by cases args; simp_all
  obtain ⟨rfl, rfl⟩ := trodVars_none hV
  obtain ⟨a0, rfl, rfl, rfl, w0⟩ := open_int Try.underlying3 (hval 0 3 v0 rfl rfl) h0
  obtain ⟨s1, rfl, rfl, rfl, w1⟩ := open_string Try.underlying9 (hval 1 9 v1 rfl rfl) h1
  have z1 : s1.size ≤ 140737488351232 := by
    have hq := sized_string hsz (j := 1) rfl rfl
    simpa [reachBytes] using hq
  refine (walk a0 s1 W w0 z1).mono fun e W' ⟨he, bel⟩ => ?_
  subst he
  exact ⟨_, rfl, _, _, _, [], _, [], hW', trodAll_mk1 (shut_bool Try.underlying4 _), (trodAll_cons_mk (shut_int Try.underlying3 w0) (trodAll_cons_mk (shut_string Try.underlying9 w1) trodAll_mk0)), rfl, bel.frame _, fun h => by cases h⟩

set_option maxRecDepth 100000 in
theorem lifted (os : Os) (started : os.Started) (H : Type) (enc : TypeId × Value → H) :
    ReturnsInHanded {} Try.checked os 3 .any (Rows.streamGapSpec.pre6 enc Try.prog Try.f3 Rows.streamGapRow.domain false) (Rows.streamGapSpec.post enc Try.prog Try.f3 false true false false) := by
  refine returnsInHanded_of_change_sized (C := Try.checked) own started (by kernel_rfl) Try.func3
    (ChangeSpec.witness6 (enc := enc) (C := Try.checked) false ⟨#[], #[.int .i64 0, .string ByteArray.empty], []⟩ 8 (by kernel_rfl) (by kernel_rfl) (by kernel_rfl) (by kernel_rfl)) ?_
  intro W base args ds gs before hval hW _ hsz _
  exact contract H enc W base args ds gs before hval hW hsz

theorem said : Rows.StreamGapSaid :=
  OpenClaim.holds_of_wide 3 Try.f3 rfl rfl rfl rfl rfl rfl rfl ⟨rfl, rfl, rfl, rfl, rfl⟩ rfl rfl rfl rfl rfl (by kernel_rfl) Try.func3 (by kernel_rfl)
    (of_decide_eq_true (by kernel_rfl)) (by unfold Func.isWrapper; first | (rw [if_pos (by decide +kernel)]; kernel_rfl) | (rw [if_neg (by decide +kernel)]; exact ⟨rfl, rfl⟩))
    (fun os started H enc _ => lifted os started H enc)
#print axioms said
end Go.Proofs.Ytbmfknnbpnllkaa.streamGap
