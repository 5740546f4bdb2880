/- The walk and the row of RunAnswers: for every session the law returns true: it is answered line by line as the reference answers; one that is too long is told so. Condition: the tables hold what the program's text lays (the row lists them, the card ties them). -/
import Derived.Test.YtmfbaijbigodkaaGreatDoorVJ
import Derived.Deep.DeepHandedRow
import Derived.LaidLaws
import Derived.LaidHandle
import Derived.Deep.DeepWitnessRowRef
import Derived.Test.YtmfbaijbigodkaaGreatDoorRows
import Derived.WalkKit
import Derived.ProofKit
import Derived.OpenShut
import Derived.ShutString
import Derived.ChangeOld
import Derived.Below
import Derived.Lib.SmallJoins
import Derived.Deep.Slices
import Derived.Deep.Matrix
import Derived.Deep.Strs
namespace Go.Proofs.YtmfbaijbigodkaaGreatDoor.runAnswers
open Go.ChangeShapes Go.WideShapes Go.ChangeAt Go.RowKit
open Go.ChangeMaps (open_string shut_string)
set_option linter.unusedVariables false

noncomputable abbrev laidWorld := YtmfbaijbigodkaaGreatDoor.laidWorld7
theorem laidMetW (os : Os) (args : Array Value) : laidMetH Tryz.prog Rows.runAnswersRow.laid ((laidWorld os).forCall (fun _ _ => 0) ⟨#[], args, []⟩).memory := laidMet_r os args
theorem laidWalk {W : World} (h : laidMetH Tryz.prog Rows.runAnswersRow.laid W) : RTabs W := laid_r h
theorem long_at (t : ByteArray) (h : 3000 < t.size) (w : World) : Calls Tryz.prog 36 #[.string t] w fun e w' => e = .returned (.string ⟨#[116, 111, 111, 32, 108, 111, 110, 103, 10]⟩) ∧ Since w w' := prun_long t h w
set_option maxRecDepth 100000 in
set_option maxHeartbeats 3200000 in
theorem walk (t : ByteArray) (w : World) (w0 : t.size ≤ maxLen) (hL : RTabs w) :
    Calls Tryz.prog 5 #[.string t] w fun e w' => e = .returned (.bool true) ∧ Below w.heap.size w w' := by
  have HT := Lib.hid hL
  clear hL
  go_enter Tryz.func5, Tryz.ntmps5
  by_cases h3 : 3000 < t.size
  · have h3' : (3000 : Int) < (t.size : Int) := by omega
    go_wp2_with fail
    refine (long_at t h3 w).mono ?_
    rintro e w3 ⟨rfl, hs3⟩
    go_wp2_with fail
    go_ret
    exact ⟨rfl, hs3⟩
  have h3' : decide ((3000 : Int) < (t.size : Int)) = false := by simp; omega
  have h30 : t.size ≤ 3000 := by omega
  have hflat : (linesOf t.data.toList).flatten.length ≤ 3000 := by
    rw [linesOf_flat, Array.length_toList]
    exact h30
  have hLn : (linesOf t.data.toList).length ≤ 3000 := by
    have := lines_few t.data.toList
    rw [Array.length_toList] at this
    exact Nat.le_trans this h30
  have HRB : Hid (runB t = upF (linesOf t.data.toList) (linesOf t.data.toList).length) := Lib.hid (by
    unfold runB
    rw [if_neg h3, up_all])
  obtain ⟨pre, z, hz, hcut⟩ := cut_at t h30
  have HCUT := Lib.hid hcut
  obtain ⟨L, hLL⟩ : ∃ L, linesOf t.data.toList = L := ⟨_, rfl⟩
  rw [hLL] at hflat hLn HRB hz
  obtain ⟨N, hN⟩ : ∃ N, L.length = N := ⟨_, rfl⟩
  rw [hN] at HRB hLn
  obtain ⟨m, hm⟩ : ∃ m, pre.length = m := ⟨_, rfl⟩
  obtain ⟨n, hn⟩ : ∃ n, m + 1 = n := ⟨_, rfl⟩
  rw [hm, hn] at HCUT
  have HZ := Lib.hid hz
  have HNM : Hid ((z = [] ∧ N = m) ∨ (z ≠ [] ∧ N = n)) := Lib.hid (by
    rcases hz with ⟨h, e⟩ | ⟨h, e⟩
    · left
      refine ⟨h, ?_⟩
      rw [← hN, ← hm, ← e, List.length_map]
    · right
      refine ⟨h, ?_⟩
      have := congrArg List.length e
      rw [List.length_map, List.length_append, List.length_singleton] at this
      omega)
  have HAT : Hid (∀ i, i < N → (pre ++ [z])[i]? = some (lnAt L i)) := Lib.hid (fun i hi => by
    have h1 := ln_map (L := L) (i := i) (by omega)
    rcases hz with ⟨h, e⟩ | ⟨h, e⟩
    · rw [e] at h1
      have h2 : i < pre.length := (List.getElem?_eq_some_iff.1 h1).1
      rw [List.getElem?_append_left h2]
      exact h1
    · rw [e] at h1
      exact h1)
  have HLAST : Hid ((pre ++ [z])[m]? = some z) := Lib.hid (by rw [List.getElem?_append_right (by omega)]; simp [hm])
  have HST : Hid (∀ i, i < N → upS L (i + 1) = (ans (upS L i) (lnAt L i)).2 ∧ upF L (i + 1) = upF L i ++ (ans (upS L i) (lnAt L i)).1 ++ ⟨#[10]⟩) := Lib.hid (fun i hi => up_step (by omega))
  have HFEW : Hid (∀ i, Few (upS L i) 1000 ∧ (lnAt L i).length ≤ 3000) := Lib.hid (fun i => ⟨after_few L i hflat, ln_few hflat i⟩)
  have HN3 := Lib.hid hLn
  have hn1 : n = m + 1 := hn.symm
  have hmn : m < n := by omega
  have hmnI : (m : Int) < (n : Int) := by omega
  have hn30 : n ≤ 4000 := by
    rcases HNM.out with ⟨_, h⟩ | ⟨_, h⟩ <;> omega
  have q0 : IntKind.i64.wrap ((n : Int) - 1) = (m : Int) := by rw [IntWalk.i64_in _ (by omega)]; omega
  clear w0 h3 hflat hLn hcut hLL hN hm hn hz HZ hn1
  go_wp2_with fail
  refine (prunB t _ HT.out).mono ?_
  rintro e w2 ⟨rfl, hs2⟩
  rw [HRB.out]
  go_wp2_with fail
  refine (HCUT.out _).mono ?_
  rintro e w4 ⟨q, cp, rfl, hl4, hq, hs4⟩
  have cm : w4.cell? ⟨q, m, none⟩ = some (.string ⟨z.toArray⟩) := wcell hl4 HLAST.out
  have hncp : n ≤ cp := by
    obtain ⟨A, cap, he, h1, h2, _⟩ := hl4.shape
    rw [wrows_len] at he h1
    injection he with h3 h4 h5
    omega
  have hmcp : m ≤ cp := by omega
  have hmcpI : (m : Int) ≤ (cp : Int) := by omega
  obtain ⟨rs, hrs⟩ : ∃ rs, wrows (pre ++ [z]) = rs := ⟨_, rfl⟩
  have HRS := Lib.hid hrs
  rw [hrs] at hl4
  obtain ⟨LT, hLT⟩ : ∃ X : Thing, X = Thing.lst 9 1 (.slice (some ⟨q, 0, none⟩) n cp) rs := ⟨_, rfl⟩
  have HW4 : Hid (Own w [] w4 [LT]) := Lib.hid (by
    rw [hLT]
    exact ((Own.start w).later hs2).add hs4 (S := [q]) ⟨hl4, rfl⟩ (fun k hk => by rw [List.mem_singleton.1 hk]; exact hq))
  have HCE : Hid (∀ (W : World) (a : Thing), Own w [] W [a, LT] → ∀ i, i < N → W.cell? ⟨q, i, none⟩ = some (.string ⟨(lnAt L i).toArray⟩)) := Lib.hid (fun W a h i hi => by
    rw [hLT, ← HRS.out] at h
    exact wcell (h.ls 1 rfl) (HAT.out i hi))
  clear hl4 hq hrs hncp hLT HRS HAT HLAST HCUT hs4 hs2 HRB HT
  rcases HNM.out with ⟨hz, hNm⟩ | ⟨hz, hNm⟩
  · subst hz
    replace cm : w4.cell? ⟨q, m, none⟩ = some (.string ⟨#[]⟩) := cm
    clear HNM
    obtain rfl : N = m := hNm
    go_wp2_with fail
    refine (rtnew 20 (by decide) (by decide) _).mono ?_
    rintro e w7 ⟨gm, rfl, hl⟩
    have HW7 : Hid (Own w [] w7 [rtT gm (TkS.new 20), LT]) := Lib.hid (swap2 (HW4.out.made hl))
    clear hl HW4 cm hmcpI hmcp q0 hmnI hmn hn30
    go_wp2_with fail
    go_loopw [6, 7] (fun s6 s7 wr => ∃ i : Nat, s6 = .string (upF L i) ∧ s7 = .int .i64 i ∧ i ≤ N ∧ (upF L i).size ≤ 101 * i ∧ Own w [] wr [rtT gm (upS L i), LT]) (fun _ s7 _ => N - (intOf s7).toNat)
    case atStart => exact ⟨0, rfl, rfl, Nat.zero_le _, Nat.zero_le _, HW7.out⟩
    case round =>
      obtain ⟨i, rfl, rfl, hi, hsz, hw⟩ := hrel
      have HW := Lib.hid hw
      clear hw HW7
      by_cases hi2 : i < N
      · have hi3 : (i : Int) < (N : Int) := by omega
        have hN9 := HN3.out
        have ci := HCE.out wr _ HW.out i hi2
        have HS1 := Lib.hid (HST.out i hi2)
        obtain ⟨hf, hy⟩ := HFEW.out i
        have HLI := Lib.hid (rline (t := ⟨(lnAt L i).toArray⟩) hf (by rw [size_of]; exact hy) HW.out)
        rw [show (⟨(lnAt L i).toArray⟩ : ByteArray).data.toList = lnAt L i from by simp] at HLI
        obtain ⟨Sx, hSx, -⟩ := HW.out.at_ 0 rfl
        obtain ⟨k0, k1, k2⟩ := rtalk_ok hSx
        have hx1 := ans_few k0 k1 k2 (lnAt L i)
        clear hSx k0 k1 k2 hf hy
        generalize (⟨(lnAt L i).toArray⟩ : ByteArray) = Y at *
        generalize (ans (upS L i) (lnAt L i)).1 = X at *
        generalize (ans (upS L i) (lnAt L i)).2 = s2 at *
        generalize upF L i = F at *
        generalize upS L i = s at *
        have hz2 : (F ++ X).size ≤ 400000 := by rw [ByteArray.size_append]; omega
        have hz3 : (F ++ X ++ (⟨#[10]⟩ : ByteArray)).size ≤ 101 * (i + 1) := by
          rw [ByteArray.size_append, ByteArray.size_append]
          have : (⟨#[10]⟩ : ByteArray).size = 1 := rfl
          omega
        have HZ3 := Lib.hid hz3
        have hF9 : F.size ≤ 400000 := by omega
        clear hz3 hsz
        go_wp2_with fail
        refine HLI.out.mono ?_
        rintro e w8 ⟨rfl, ho8⟩
        have HW8 := Lib.hid ho8
        clear ho8 HLI HW ci
        go_wp2_with fail
        exact ⟨⟨i + 1, by rw [HS1.out.2], by go_num, by omega, by rw [HS1.out.2]; exact HZ3.out, by rw [HS1.out.1]; exact HW8.out⟩, by simp [intOf]; omega⟩
      · obtain rfl : i = N := by omega
        have hf3 : decide ((i : Int) < (i : Int)) = false := by simp
        clear hsz hi hi2
        generalize upF L i = B at *
        have hb : (B.toList == B.toList) = true := beq_self_eq_true _
        go_wp2_with fail
        go_ret
        exact ⟨rfl, HW.out.since⟩
  · have hze : (⟨z.toArray⟩ : ByteArray).toList.isEmpty = false := not_empty (fun e => hz (by injection e with e; simpa using e))
    clear HNM hz
    generalize (⟨z.toArray⟩ : ByteArray) = Z at *
    obtain rfl : N = n := hNm
    go_wp2_with fail
    refine (rtnew 20 (by decide) (by decide) _).mono ?_
    rintro e w7 ⟨gm, rfl, hl⟩
    have HW7 : Hid (Own w [] w7 [rtT gm (TkS.new 20), LT]) := Lib.hid (swap2 (HW4.out.made hl))
    clear hl HW4 cm hze hmcpI hmcp q0 hmnI hmn hn30
    go_wp2_with fail
    go_loopw [6, 7] (fun s6 s7 wr => ∃ i : Nat, s6 = .string (upF L i) ∧ s7 = .int .i64 i ∧ i ≤ N ∧ (upF L i).size ≤ 101 * i ∧ Own w [] wr [rtT gm (upS L i), LT]) (fun _ s7 _ => N - (intOf s7).toNat)
    case atStart => exact ⟨0, rfl, rfl, Nat.zero_le _, Nat.zero_le _, HW7.out⟩
    case round =>
      obtain ⟨i, rfl, rfl, hi, hsz, hw⟩ := hrel
      have HW := Lib.hid hw
      clear hw HW7
      by_cases hi2 : i < N
      · have hi3 : (i : Int) < (N : Int) := by omega
        have hN9 := HN3.out
        have ci := HCE.out wr _ HW.out i hi2
        have HS1 := Lib.hid (HST.out i hi2)
        obtain ⟨hf, hy⟩ := HFEW.out i
        have HLI := Lib.hid (rline (t := ⟨(lnAt L i).toArray⟩) hf (by rw [size_of]; exact hy) HW.out)
        rw [show (⟨(lnAt L i).toArray⟩ : ByteArray).data.toList = lnAt L i from by simp] at HLI
        obtain ⟨Sx, hSx, -⟩ := HW.out.at_ 0 rfl
        obtain ⟨k0, k1, k2⟩ := rtalk_ok hSx
        have hx1 := ans_few k0 k1 k2 (lnAt L i)
        clear hSx k0 k1 k2 hf hy
        generalize (⟨(lnAt L i).toArray⟩ : ByteArray) = Y at *
        generalize (ans (upS L i) (lnAt L i)).1 = X at *
        generalize (ans (upS L i) (lnAt L i)).2 = s2 at *
        generalize upF L i = F at *
        generalize upS L i = s at *
        have hz2 : (F ++ X).size ≤ 400000 := by rw [ByteArray.size_append]; omega
        have hz3 : (F ++ X ++ (⟨#[10]⟩ : ByteArray)).size ≤ 101 * (i + 1) := by
          rw [ByteArray.size_append, ByteArray.size_append]
          have : (⟨#[10]⟩ : ByteArray).size = 1 := rfl
          omega
        have HZ3 := Lib.hid hz3
        have hF9 : F.size ≤ 400000 := by omega
        clear hz3 hsz
        go_wp2_with fail
        refine HLI.out.mono ?_
        rintro e w8 ⟨rfl, ho8⟩
        have HW8 := Lib.hid ho8
        clear ho8 HLI HW ci
        go_wp2_with fail
        exact ⟨⟨i + 1, by rw [HS1.out.2], by go_num, by omega, by rw [HS1.out.2]; exact HZ3.out, by rw [HS1.out.1]; exact HW8.out⟩, by simp [intOf]; omega⟩
      · obtain rfl : i = N := by omega
        have hf3 : decide ((i : Int) < (i : Int)) = false := by simp
        clear hsz hi hi2
        generalize upF L i = B at *
        have hb : (B.toList == B.toList) = true := beq_self_eq_true _
        go_wp2_with fail
        go_ret
        exact ⟨rfl, HW.out.since⟩

/-! the row -/
theorem own : ownKnob Tryz.prog.godebug = none := by kernel_rfl
theorem laidOut : laidOutB Tryz.prog = true := by kernel_rfl
set_option maxRecDepth 100000 in
theorem contract (H : Type) (enc : TypeId × Value → H) (W : World) (base : Nat) (args : Array Value) (ds gs : List (DataW H)) (before : List MemPlace)
    (hval : ∀ (j : Nat) t v, Tryz.f5.params[j]? = some t → args[j]? = some v → Value.okWide Tryz.prog W .any base t v)
    (hW : DataW.Whole enc Tryz.prog Tryz.f5.params.toList Rows.runAnswersSpec.vars false W args.toList ds gs before) (hL : laidMetH Tryz.prog Rows.runAnswersRow.laid W) :
    Calls Tryz.prog 5 args W fun e W' => ∃ v, e = .returned v ∧ Rows.runAnswersSpec.post enc Tryz.prog Tryz.f5 false true false false W args v W' := by
  have hW' := hW
  obtain ⟨p, q, hA0, hV, rfl, hfz, hnd⟩ := hW
  have hA : DataW.TrodAll enc Tryz.prog W 0 (fun _ => true) true Tryz.f5.params.toList args.toList ds p := hA0
  rw [Tryz.params5] at hA hval
  obtain ⟨v0, vs0, d0, ds0, p0, q0, hargs, rfl, rfl, h0, r0⟩ := trodAll_cons hA
  obtain ⟨rfl, rfl, rfl⟩ := trodAll_nil r0
  obtain rfl : args = #[v0] := by cases args; simp_all
  obtain ⟨rfl, rfl⟩ := trodVars_none hV
  obtain ⟨s0, rfl, rfl, rfl, w0⟩ := open_string Tryz.underlying9 (hval 0 9 v0 rfl rfl) h0
  have lw := laidWalk hL
  refine (walk s0 W w0 lw).mono fun e W' ⟨he, bel⟩ => ?_
  subst he
  exact ⟨_, rfl, _, _, _, [], _, [], hW', trodAll_mk1 (shut_bool Tryz.underlying4 _), (trodAll_cons_mk (shut_string Tryz.underlying9 w0) trodAll_mk0), rfl, bel.frame _, fun h => by cases h⟩

theorem reads (os : Os) {H : Type} (enc : TypeId × Value → H) : ∃ places, DataW.whole enc Tryz.prog ((laidWorld os).forCall (fun _ _ => 0) ⟨#[], #[.string ByteArray.empty], []⟩).memory Tryz.f5.params.toList Rows.runAnswersSpec.vars false (#[.string ByteArray.empty] : Array Value).toList 8 = some ([.lit (.string [])], [], places) :=
  ⟨[], by kernel_rfl⟩
theorem laid_met (os : Os) : laidMetH Tryz.prog Rows.runAnswersRow.laid ((laidWorld os).forCall (fun _ _ => 0) ⟨#[], #[.string ByteArray.empty], []⟩).memory := laidMetW os _

set_option maxRecDepth 100000 in
theorem lifted (os : Os) (started : os.Started) (H : Type) (enc : TypeId × Value → H) (F : Stop.Interp) :
    ReturnsInHanded {} Tryz.checked os 5 .any ((OpenSpec.ofChange Rows.runAnswersSpec).preRow enc Tryz.prog Tryz.f5 Rows.runAnswersRow.domain false Rows.runAnswersRow.laid) (((OpenSpec.ofChange Rows.runAnswersSpec).at F).post enc Tryz.prog Tryz.f5 false true false false) := by
  obtain ⟨places, hx⟩ := reads os enc
  refine returnsInHanded_of_row (C := Tryz.checked) (s := OpenSpec.ofChange Rows.runAnswersSpec) own started (by kernel_rfl) Tryz.func5
    (witness_row_at (enc := enc) (C := Tryz.checked) false (laidWorld os) #[.string ByteArray.empty] rfl (by kernel_rfl) (by kernel_rfl) (by kernel_rfl)
      (OpenSpec.preRow_of_cond 8 hx (by kernel_rfl) (fun k hk => by cases hk) (by kernel_rfl) (laid_met os))) ?_
  intro W base args ds gs before hval hW _ _ _ hL _ _
  exact contract H enc W base args ds gs before hval hW hL
end Go.Proofs.YtmfbaijbigodkaaGreatDoor.runAnswers
