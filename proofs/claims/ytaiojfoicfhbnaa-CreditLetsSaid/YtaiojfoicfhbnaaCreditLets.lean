/- CreditLets: for every window and steps the law returns true: never more than a window waits, and it never stands still. No condition. -/
import Derived.Test.YtaiojfoicfhbnaaCredit
import Derived.Test.YtaiojfoicfhbnaaIns
import Derived.Deep.DeepCutAuto
import Derived.Test.YtaiojfoicfhbnaaRows
import Derived.WalkKit
import Derived.ProofKit
import Derived.OpenShut
import Derived.ShutString
import Derived.ChangeOld
import Derived.Below
import Derived.Lib.SmallJoins
import Derived.Deep.Slices
import Derived.Deep.Matrix
import Derived.Deep.Strs
namespace Go.Proofs.Ytaiojfoicfhbnaa.creditLets
open Go.ChangeShapes Go.WideShapes Go.ChangeAt Go.RowKit
open Go.ChangeMaps (open_string shut_string)
set_option linter.unusedVariables false

/-- what holds at the loop's head -/
structure Head (w wr : World) (g : Nat) (W L C R : Int) : Prop where
  bl : BlockIs wr g 43 (credCells W L C R)
  hb : Below w.heap.size w wr
  ok : CredOk W L C R
  hg : w.heap.size ≤ g

/-- what a step leaves -/
def Stepped (w : World) (g : Nat) (W L : Int) (s12 : Value) (wx : World) : Prop := ∃ L' C' R', s12 = .int .i64 R' ∧ BlockIs wx g 43 (credCells W L' C' R') ∧ CredOk W L' C' R' ∧ L ≤ L' ∧ Below w.heap.size w wx

theorem first_ok : limitN 10 10 0 6 = 16 ∧ maxN 0 10 = 10 := by decide
theorem ok0 (n : Int) (h1 : 1 ≤ n) (h2 : n ≤ 1000) : CredOk n n 0 0 := ⟨h1, h2, by omega, by omega, by omega, by omega, by omega, by omega, by omega⟩
theorem ok1 : CredOk 10 10 10 0 := ⟨by omega, by omega, by omega, by omega, by omega, by omega, by omega, by omega, by omega⟩
theorem ok2 : CredOk 10 16 10 6 := ⟨by omega, by omega, by omega, by omega, by omega, by omega, by omega, by omega, by omega⟩
theorem take_ok {W L C R u : Int} (h : CredOk W L C R) (h1 : u ≤ L) : CredOk W L (maxN C u) R := by
  obtain ⟨w1, w2, r1, k1, k2, l1, l2, lo, hi⟩ := h
  unfold maxN
  split <;> exact ⟨w1, w2, r1, by omega, by omega, l1, l2, lo, hi⟩

set_option maxRecDepth 100000 in
set_option maxHeartbeats 8000000 in
theorem walk (n : Int) (v1 : Value) (Z : List (List Int)) (w : World) (w0 : (Lit.int .i64 n).wf = true) (w1 : IntRowsIn w v1 Z) :
    Calls Try.prog 3 #[.int .i64 n, v1] w fun e w' => e = .returned (.bool true) ∧ Below w.heap.size w w' := by
  obtain ⟨A, cap, rfl, hle0, hm0, hc⟩ := w1
  unfold maxLen at hm0
  have hZ : Z.length ≤ 9223372036854775807 := by omega
  have HC := Lib.hid hc
  have F1 := Lib.hid first_ok.1
  have F2 := Lib.hid first_ok.2
  clear hc
  go_enter Try.func3, Try.ntmps3
  go_wp2_with fail
  refine (cnew_yes 10 (by omega) (by omega) _).mono ?_
  rintro e w1' ⟨rfl, rfl⟩
  go_wp2_with fail
  refine (ctake_yes _ 10 10 0 0 10 (by omega) (by omega) (by omega) _ (BlockIs.fresh _ _ _)).mono ?_
  rintro e w2 ⟨rfl, hB2, hO2⟩
  rw [F2.out] at hB2
  go_wp2_with fail
  refine (cread_yes _ 10 10 10 0 6 ok1 (by omega) (by omega) (by rw [F1.out]; omega) _ hB2).mono ?_
  rintro e w3 ⟨rfl, hB3, hO3⟩
  rw [F1.out] at hB3 ⊢
  go_wp2_with fail
  refine (cleft _ 10 16 10 6 ok2 _ hB3).mono ?_
  rintro e w4 ⟨rfl, n4, rfl⟩
  go_wp2_with fail
  have hbel : Below w.heap.size w (w3.drewN n4) := by
    have b1 : Below w.heap.size w (w.alloc (.cells (credCells 10 10 0 0) 43)) := (Below.refl _ w).alloc (Nat.le_refl _) _
    have b2 := hO2.below b1 (by simp) (Nat.le_refl _)
    have b3 := hO3.below b2 b2.size (Nat.le_refl _)
    exact ⟨b3.os, b3.tape, b3.output, b3.size, b3.block⟩
  by_cases hn : 1 ≤ n ∧ n ≤ 1000
  case neg =>
    refine (cnew_no n hn _).mono ?_
    rintro e w5 ⟨rfl, rfl⟩
    by_cases hlo : n < 1
    · go_wp2_with fail
      go_ret
      exact ⟨rfl, hbel⟩
    · have hhi : 1000 < n := by omega
      go_wp2_with fail
      go_ret
      exact ⟨rfl, hbel⟩
  refine (cnew_yes n hn.1 hn.2 _).mono ?_
  rintro e w5 ⟨rfl, rfl⟩
  have hgs := hbel.size
  have hbg : Below w.heap.size w ((w3.drewN n4).alloc (.cells (credCells n n 0 0) 43)) := hbel.alloc hbel.size _
  have hbk : BlockIs ((w3.drewN n4).alloc (.cells (credCells n n 0 0) 43)) (w3.drewN n4).heap.size 43 (credCells n n 0 0) := BlockIs.fresh _ _ _
  generalize (w3.drewN n4).heap.size = g at *
  generalize (w3.drewN n4).alloc (.cells (credCells n n 0 0) 43) = w6 at *
  clear hB2 hB3 hO2 hO3 hbel
  go_wp2_with fail
  go_loopw [12, 13] (fun s12 s13 wr => ∃ (k : Nat) (L C R : Int), s12 = .int .i64 R ∧ s13 = .int .i64 k ∧ k ≤ 80 ∧ Head w wr g n L C R) (fun _ i _ => 80 - (intOf i).toNat)
  case atStart => exact ⟨0, n, 0, 0, rfl, rfl, by omega, hbk, hbg, ok0 n hn.1 hn.2, hgs⟩
  case round =>
    obtain ⟨k, L, C, R, rfl, rfl, hk, bl, hbelow, ok, hg⟩ := hrel
    clear hbk hbg
    by_cases hlen : k < Z.length
    case neg =>
      have hlen' : decide ((k : Int) < (Z.length : Int)) = false := by simp; omega
      go_wp2_with fail
      go_ret
      exact ⟨rfl, hbelow⟩
    by_cases h80 : k < 80
    case neg =>
      have hlen' : (k : Int) < (Z.length : Int) := by omega
      have h80' : decide ((k : Int) < 80) = false := by simp; omega
      go_wp2_with fail
      go_ret
      exact ⟨rfl, hbelow⟩
    have hlen' : (k : Int) < (Z.length : Int) := by omega
    have h80' : (k : Int) < 80 := by omega
    obtain ⟨b, off, rfl, hlt, hc⟩ := HC.out (by rintro rfl; simp at hlen)
    obtain ⟨x, hx, hI⟩ := hc k hlen
    clear hc
    generalize Z.getD k [] = r at *
    obtain ⟨bdr, A', cap', rfl, hle', hm', hcr⟩ := hI
    have cx : wr.cell? ⟨b, off + k, none⟩ = some (.slice A' r.length cap') := (hbelow.cell (p := ⟨b, off + k, none⟩) hlt).trans hx
    by_cases hr : r.length = 2
    case neg =>
      have hr' : ((r.length : Int) == 2) = false := by simp; omega
      clear hr
      go_wp2_with fail
      go_roundw
      case rel => exact ⟨k + 1, L, C, R, rfl, by go_num, by omega, bl, hbelow, ok, hg⟩
      case measure => simp [intOf]; omega
    match r, hr with
    | [p, u], _ =>
      obtain ⟨b2, off2, rfl, hlt2, hc2⟩ := hcr (by simp)
      have cp0 : w.cell? ⟨b2, off2, none⟩ = some (.int .i64 p) := hc2 0 (by simp)
      have cu0 : w.cell? ⟨b2, off2 + 1, none⟩ = some (.int .i64 u) := hc2 1 (by simp)
      have cp : wr.cell? ⟨b2, off2, none⟩ = some (.int .i64 p) := (hbelow.cell (p := ⟨b2, off2, none⟩) hlt2).trans cp0
      have cu : wr.cell? ⟨b2, off2 + 1, none⟩ = some (.int .i64 u) := (hbelow.cell (p := ⟨b2, off2 + 1, none⟩) hlt2).trans cu0
      have HX := Lib.hid hx
      have HP := Lib.hid cp0
      have HU := Lib.hid cu0
      obtain ⟨u1, u2⟩ := bdr u (by simp)
      simp only [List.length_cons, List.length_nil, Nat.zero_add, Nat.reduceAdd] at cx
      clear hcr hc2 hx cp0 cu0 bdr hle' hm'
      go_upto_if 83 with (first | (go_at_call 10; refine (climit g n L C R _ bl).mono ?_; rintro e w7 ⟨rfl, rfl⟩))
      go_cut [12] (Stepped w g n L)
      case first =>
        by_cases hp : p = 0
        · subst hp
          by_cases he : takeE L u = 0
          · obtain ⟨e1, e2, e3⟩ := takeE_ok he
            clear he
            go_wp2_with (go_at_call 7; refine (ctake_yes g n L C R u e1 e2 e3 _ bl).mono ?_; rintro e w8 ⟨rfl, hB8, hO8⟩; have hb8 := hO8.below hbelow hbelow.size hg; have cx8 : w8.cell? ⟨b, off + k, none⟩ = some (.slice (some ⟨b2, off2, none⟩) 2 cap') := (hb8.cell (p := ⟨b, off + k, none⟩) hlt).trans HX.out; have cu8 : w8.cell? ⟨b2, off2 + 1, none⟩ = some (.int .i64 u) := (hb8.cell (p := ⟨b2, off2 + 1, none⟩) hlt2).trans HU.out; have cl8 : w8.cell? ⟨g, 1, none⟩ = some (.int .i64 L) := hB8.cell 1)
            go_quiet (fail)
            go_wp2_with fail
            go_meet
            case rel => exact ⟨L, _, R, rfl, hB8.drewN _, take_ok ok e1, by omega, ⟨hb8.os, hb8.tape, hb8.output, hb8.size, hb8.block⟩⟩
          · by_cases h0 : 0 ≤ u
            · have hul : L < u := by
                unfold takeE at he
                have hl2 := ok.l2
                split at he
                · split at he
                  · assumption
                  · exact absurd rfl he
                · omega
              have hul' : decide (u ≤ L) = false := by simp; omega
              have HE := Lib.hid he
              clear he
              go_wp2_with (go_at_call 7; refine (ctake_bad g n L C R u HE.out _ bl).mono ?_; rintro e w8 ⟨rfl, rfl⟩)
              go_quiet (fail)
              go_wp2_with fail
              go_meet
              case rel => exact ⟨L, C, R, rfl, bl.drewN _, ok, by omega, ⟨hbelow.os, hbelow.tape, hbelow.output, hbelow.size, hbelow.block⟩⟩
            · have h0' : decide (0 ≤ u) = false := by simpa using h0
              have HE := Lib.hid he
              clear he
              go_wp2_with (go_at_call 7; refine (ctake_bad g n L C R u HE.out _ bl).mono ?_; rintro e w8 ⟨rfl, rfl⟩)
              go_quiet (fail)
              go_wp2_with fail
              go_meet
              case rel => exact ⟨L, C, R, rfl, bl.drewN _, ok, by omega, ⟨hbelow.os, hbelow.tape, hbelow.output, hbelow.size, hbelow.block⟩⟩
        · have hp' : (p == 0) = false := by simpa using hp
          clear hp
          by_cases he : readE n L C R u = 0
          · obtain ⟨e1, e2, e3⟩ := readE_ok he
            obtain ⟨ok8, hle8⟩ := limitN_ok n L C R u ok e1 e2 e3
            have r1 := ok.r1
            have c2 := ok.c2
            have l2 := ok.l2
            clear he
            go_wp2_with (first | (go_at_call 8; refine (cread_yes g n L C R u ok e1 e2 e3 _ bl).mono ?_; rintro e w8 ⟨rfl, hB8, hO8⟩; have hb8 := hO8.below hbelow hbelow.size hg; have cx8 : w8.cell? ⟨b, off + k, none⟩ = some (.slice (some ⟨b2, off2, none⟩) 2 cap') := (hb8.cell (p := ⟨b, off + k, none⟩) hlt).trans HX.out; have cu8 : w8.cell? ⟨b2, off2 + 1, none⟩ = some (.int .i64 u) := (hb8.cell (p := ⟨b2, off2 + 1, none⟩) hlt2).trans HU.out; have cl8 : w8.cell? ⟨g, 1, none⟩ = some (.int .i64 (limitN n L R u)) := hB8.cell 1) | (go_at_call 10; refine (climit g n (limitN n L R u) C (R + u) _ hB8).mono ?_; rintro e w9 ⟨rfl, rfl⟩))
            go_meet
            case rel => exact ⟨limitN n L R u, C, R + u, rfl, hB8, ok8, hle8, hb8⟩
          · have HE := Lib.hid he
            clear he
            go_wp2_with (first | (go_at_call 8; refine (cread_bad g n L C R u ok HE.out _ bl).mono ?_; rintro e w8 ⟨rfl, n8, rfl⟩))
            go_meet
            case rel => exact ⟨L, C, R, rfl, bl.drewN _, ok, by omega, ⟨hbelow.os, hbelow.tape, hbelow.output, hbelow.size, hbelow.block⟩⟩
      case rest =>
        obtain ⟨L', C', R', rfl, bl', ok', hle', hbelow'⟩ := hcut
        clear cx cp cu bl hbelow
        obtain ⟨w1, w2, r1, k1, k2, l1, l2, lo, hi⟩ := ok'
        have ok' : CredOk n L' C' R' := ⟨w1, w2, r1, k1, k2, l1, l2, lo, hi⟩
        go_wp2_with (first | (go_at_call 10; refine (climit g n L' C' R' _ (by exact bl')).mono ?_; rintro e w9 ⟨rfl, rfl⟩) | (go_at_call 9; refine (cleft g n L' C' R' ok' _ (by exact bl')).mono ?_; rintro e w9 ⟨rfl, n9, rfl⟩))
        go_roundw
        case rel => exact ⟨k + 1, L', C', R', rfl, by go_num, by omega, bl', ⟨hbelow'.os, hbelow'.tape, hbelow'.output, hbelow'.size, hbelow'.block⟩, ok', hg⟩
        case measure => simp [intOf]; omega

/-! the row -/
theorem own : ownKnob Try.prog.godebug = none := by kernel_rfl
theorem laidOut : laidOutB Try.prog = true := by kernel_rfl
set_option maxRecDepth 100000 in
theorem contract (H : Type) (enc : TypeId × Value → H) (W : World) (base : Nat) (args : Array Value) (ds gs : List (DataW H)) (before : List MemPlace)
    (hval : ∀ (j : Nat) t v, Try.f3.params[j]? = some t → args[j]? = some v → Value.okWide Try.prog W .any base t v)
    (hW : DataW.Whole enc Try.prog Try.f3.params.toList Rows.creditLetsSpec.vars false W args.toList ds gs before) :
    Calls Try.prog 3 args W fun e W' => ∃ v, e = .returned v ∧ Rows.creditLetsSpec.post enc Try.prog Try.f3 false true false false W args v W' := by
  have hW' := hW
  obtain ⟨p, q, hA0, hV, rfl, hfz, hnd⟩ := hW
  have hA : DataW.TrodAll enc Try.prog W 0 (fun _ => true) true Try.f3.params.toList args.toList ds p := hA0
  rw [Try.params3] at hA hval
  obtain ⟨v0, vs0, d0, ds0, p0, q0, hargs, rfl, rfl, h0, r0⟩ := trodAll_cons hA
  obtain ⟨v1, vs1, d1, ds1, p1, q1, rfl, rfl, rfl, h1, r1⟩ := trodAll_cons r0
  obtain ⟨rfl, rfl, rfl⟩ := trodAll_nil r1
  obtain rfl : args = #[v0, v1] := by cases args; simp_all
  obtain ⟨rfl, rfl⟩ := trodVars_none hV
  obtain ⟨a0, rfl, rfl, rfl, w0⟩ := open_int Try.underlying3 (hval 0 3 v0 rfl rfl) h0
  obtain ⟨a1, len1, cap1, rfl⟩ := okWide_slice Try.underlying22 (hval 1 22 v1 rfl rfl)
  have k1 := h1
  have lt1 : ∀ x ∈ p1, x.block < W.heap.size := by obtain ⟨m, hm⟩ := k1; exact DataW.trod_lt m _ _ _ hm
  obtain ⟨z1, w1⟩ : ∃ zs, IntRowsIn W (.slice a1 len1 cap1) zs := by
    obtain ⟨fuel, hf⟩ := h1
    exact intRowsIn_open Try.underlying22 Try.underlying32 Try.underlying3 (by kernel_rfl) (by kernel_rfl) hf lt1
  refine (walk a0 (.slice a1 len1 cap1) z1 W w0 w1).mono fun e W' ⟨he, bel⟩ => ?_
  subst he
  exact ⟨_, rfl, _, _, _, [], _, [], hW', trodAll_mk1 (shut_bool Try.underlying4 _), (trodAll_cons_mk (shut_int Try.underlying3 w0) (trodAll_cons_mk (Below.trod laidOut (by kernel_rfl) (of_decide_eq_true (by kernel_rfl)) k1 bel lt1) trodAll_mk0)), rfl, bel.frame _, fun h => by cases h⟩

set_option maxRecDepth 100000 in
theorem lifted (os : Os) (started : os.Started) (H : Type) (enc : TypeId × Value → H) :
    ReturnsInHanded {} Try.checked os 3 .any (Rows.creditLetsSpec.pre6 enc Try.prog Try.f3 Rows.creditLetsRow.domain false) (Rows.creditLetsSpec.post enc Try.prog Try.f3 false true false false) := by
  refine returnsInHanded_of_change (C := Try.checked) own started (by kernel_rfl) Try.func3
    (ChangeSpec.witness6 (enc := enc) (C := Try.checked) false ⟨#[], #[.int .i64 0, .slice none 0 0], []⟩ 8 (by kernel_rfl) (by kernel_rfl) (by kernel_rfl) (by kernel_rfl)) ?_
  intro W base args ds gs before hval hW _ _
  exact contract H enc W base args ds gs before hval hW

theorem said : Rows.CreditLetsSaid :=
  OpenClaim.holds_of_wide 3 Try.f3 rfl rfl rfl rfl rfl rfl rfl ⟨rfl, rfl, rfl, rfl, rfl⟩ rfl rfl rfl rfl rfl (by kernel_rfl) Try.func3 (by kernel_rfl)
    (of_decide_eq_true (by kernel_rfl)) (by unfold Func.isWrapper; first | (rw [if_pos (by decide +kernel)]; kernel_rfl) | (rw [if_neg (by decide +kernel)]; exact ⟨rfl, rfl⟩))
    (fun os started H enc _ => lifted os started H enc)
#print axioms said
end Go.Proofs.Ytaiojfoicfhbnaa.creditLets
