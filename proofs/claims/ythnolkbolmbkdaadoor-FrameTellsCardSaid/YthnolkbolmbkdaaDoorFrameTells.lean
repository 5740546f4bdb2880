/- FrameTells: for every frame and text the law returns true: any frame in few bytes, and any bytes as a frame, are told as the reference says. Conditions: errors.errorType holds its handle and the tables of kinds and counts what the program's text lays (the row lists them, the card ties them). -/
import Derived.Test.YthnolkbolmbkdaaDoorAckR
import Derived.Test.YthnolkbolmbkdaaDoorSameR
import Derived.Test.YthnolkbolmbkdaaDoorFrmLaw
import Derived.Test.YthnolkbolmbkdaaDoorLaid2
import Derived.Test.YthnolkbolmbkdaaDoorTold
import Derived.Test.YthnolkbolmbkdaaDoorNumAny
import Derived.Test.YthnolkbolmbkdaaDoorFrmBy
import Derived.Test.YthnolkbolmbkdaaDoorFrmPs
import Derived.Test.YthnolkbolmbkdaaDoorFrmEq
import Derived.Test.YthnolkbolmbkdaaDoorRFrm1
import Derived.Test.YthnolkbolmbkdaaDoorRFrm5
import Derived.Deep.DeepCutAuto
import Derived.Test.YthnolkbolmbkdaaDoorCards
import Derived.Test.YthnolkbolmbkdaaDoorTie
import Derived.Deep.DeepHandedRow
import Derived.LaidLaws
import Derived.LaidHandle
import Derived.Deep.DeepWitnessRowRef
import Derived.Test.YthnolkbolmbkdaaDoorRows
import Derived.WalkKit
import Derived.ProofKit
import Derived.OpenShut
import Derived.ShutString
import Derived.ChangeOld
import Derived.Below
import Derived.Lib.SmallJoins
import Derived.Deep.Slices
import Derived.Deep.Matrix
import Derived.Deep.Strs
namespace Go.Proofs.YthnolkbolmbkdaaDoor.frameTells
open Go.ChangeShapes Go.WideShapes Go.ChangeAt Go.RowKit
open Go.ChangeMaps (open_string shut_string)
set_option linter.unusedVariables false

noncomputable abbrev laidWorld := YthnolkbolmbkdaaDoor.laidWorld2
theorem laidMetW (os : Os) (args : Array Value) : laidMetH Tryd.prog Rows.frameTellsRow.laid ((laidWorld os).forCall (fun _ _ => 0) ⟨#[], args, []⟩).memory := laidMet_ekc os args
theorem laidWalk {W : World} (h : laidMetH Tryd.prog Rows.frameTellsRow.laid W) : ETok W ∧ KTab W ∧ CTab W := laid_ekc h
theorem rd_pf {b : List UInt8} {p : FrmV} {n : Nat} {ok : Bool} (h : readF b = (if ok = true then some (p.f, n) else none)) (h0 : ok = false → p.f = frm0 ∧ n = 0) : p.f = pfF b ∧ n = pfN b ∧ (ok = true → pfE b = 0) ∧ (ok = false → pfE b = 2 ∧ pfF b = frm0 ∧ pfN b = 0) := by
  cases ok with
  | true =>
    obtain ⟨a1, a2, a3⟩ := pf_some (h.trans (if_pos rfl))
    exact ⟨a2.symm, a3.symm, fun _ => a1, fun h => by cases h⟩
  | false =>
    obtain ⟨a1, a2, a3⟩ := pf_none (h.trans (if_neg (by simp)))
    obtain ⟨c1, c2⟩ := h0 rfl
    exact ⟨c1.trans a2.symm, c2.trans a3.symm, (fun h => by cases h), fun _ => ⟨a1, a2, a3⟩⟩

set_option maxRecDepth 100000 in
set_option maxHeartbeats 3200000 in
theorem walk (p : FrmV) (s : ByteArray) (w : World) (w0 : FrmIn w p) (w1 : s.size ≤ 140737488351232) (hL : ETok w ∧ KTab w ∧ CTab w) :
    Calls Tryd.prog 10 #[p.agg, .string s] w fun e w' => e = .returned (.bool true) ∧ Below w.heap.size w w' := by
  have HET := Lib.hid hL.1
  have HK := Lib.hid hL.2.1
  have HC := Lib.hid hL.2.2
  have HP := Lib.hid w0
  have hs0 : Since w (w.alloc (.cells #[.int .i64 p.f.kind, .slice p.A p.f.nums.length p.cap, .string p.f.data] 82)) := (Since.refl w).alloc _
  have HB := Lib.hid (BlockIs.fresh w 82 #[.int .i64 p.f.kind, .slice p.A p.f.nums.length p.cap, .string p.f.data])
  have RF := Lib.hid (fun W h => rframe p W h)
  have FC := Lib.hid (fun W h1 h2 => fcheck p W h1 h2)
  have RB := Lib.hid (fun W h1 h2 => rfbytes p W h1 h2)
  have FP := Lib.hid (fun W h1 h2 h3 => fprint p W h1 h2 h3)
  have RR := Lib.hid (fun W => rfread s W (by omega))
  have PP := Lib.hid (fun W h1 h2 => fparse s W (by omega) h1 h2)
  unfold FrmV.agg at RF FC RB FP ⊢
  have HV1 : Hid (frmE p.f = 0 → frmV p.f = frmB p.f) := Lib.hid (fun h => by unfold frmV; rw [if_pos h])
  have HV2 : Hid (frmE p.f ≠ 0 → frmV p.f = []) := Lib.hid (fun h => by unfold frmV; rw [if_neg h])
  clear w0 hL
  go_enter Tryd.func10, Tryd.ntmps10
  go_wp2_with fail
  refine (RF.out _ (HP.out.later hs0)).mono ?_
  rintro e w1 ⟨rfl, hb1⟩
  have hs1 := hs0.later hb1
  have HB1 := Lib.hid (HB.out.later hb1)
  have c0 : w1.cell? ⟨w.heap.size, 0, none⟩ = some (.int .i64 p.f.kind) := HB1.out.cell 0
  have c1 : w1.cell? ⟨w.heap.size, 1, none⟩ = some (.slice p.A p.f.nums.length p.cap) := HB1.out.cell 1
  have c2 : w1.cell? ⟨w.heap.size, 2, none⟩ = some (.string p.f.data) := HB1.out.cell 2
  have l1 := HB1.out.lt
  clear hb1 HB hs0
  go_wp2_with fail
  refine (FC.out _ (HP.out.later hs1) (HC.out.later hs1)).mono ?_
  rintro e w2 ⟨rfl, hb2⟩
  have hs2 := hs1.later hb2
  have HB2 := Lib.hid (HB1.out.later hb2)
  clear hb2 c0 c1 c2 l1 hs1 HB1
  go_wp2_with fail
  refine (same_yes (frmE p.f) _ (HET.out.later hs2)).mono ?_
  rintro e w3 ⟨rfl, hb3⟩
  have hs3 := hs2.later hb3
  have HB3 := Lib.hid (HB2.out.later hb3)
  clear hb3 hs2 HB2
  repeat ((fail_if_success (with_reducible refine stop_at 4 ?_)); first | fail | go_values | go_skip | go_guarded | go_step | go_upon | go_back | go_simp)
  obtain ⟨wq, rfl⟩ : ∃ wq : World, wq = w3 := ⟨_, rfl⟩
  go_cut [5, 7] (fun s5 s7 wx => s5 = .int .i64 (frmE p.f) ∧ s7 = .string ⟨(frmV p.f).toArray⟩ ∧ Since w wx ∧ BlockIs wx w.heap.size 82 #[.int .i64 p.f.kind, .slice p.A p.f.nums.length p.cap, .string p.f.data])
  case first =>
    as_aux_lemma =>
      have c0 : wq.cell? ⟨w.heap.size, 0, none⟩ = some (.int .i64 p.f.kind) := HB3.out.cell 0
      have c1 : wq.cell? ⟨w.heap.size, 1, none⟩ = some (.slice p.A p.f.nums.length p.cap) := HB3.out.cell 1
      have c2 : wq.cell? ⟨w.heap.size, 2, none⟩ = some (.string p.f.data) := HB3.out.cell 2
      have l1 := HB3.out.lt
      by_cases h0 : frmE p.f = 0
      · have HE := Lib.hid h0
        have HV := Lib.hid (HV1.out h0)
        have h0' : (frmE p.f == 0) = true := by simpa using h0
        clear h0
        go_wp2_with fail
        refine (RB.out _ (HP.out.later hs3) HE.out).mono ?_
        rintro e w4 ⟨rfl, hb4⟩
        go_wp2_with fail
        go_meet
        case rel => exact ⟨rfl, by rw [HV.out], hs3.later hb4, HB3.out.later hb4⟩
      · have HV := Lib.hid (HV2.out h0)
        have h0' : (frmE p.f == 0) = false := by simpa using h0
        clear h0
        go_wp2_with fail
        go_meet
        case rel => exact ⟨rfl, by rw [HV.out], hs3, HB3.out⟩
  case rest =>
    as_aux_lemma =>
      obtain ⟨wo, rfl⟩ : ∃ wo : World, wo = wc := ⟨_, rfl⟩
      obtain ⟨rfl, rfl, hso, hbo⟩ := hcut
      have c0 : wo.cell? ⟨w.heap.size, 0, none⟩ = some (.int .i64 p.f.kind) := hbo.cell 0
      have c1 : wo.cell? ⟨w.heap.size, 1, none⟩ = some (.slice p.A p.f.nums.length p.cap) := hbo.cell 1
      have c2 : wo.cell? ⟨w.heap.size, 2, none⟩ = some (.string p.f.data) := hbo.cell 2
      have l1 := hbo.lt
      clear hs3 HB3 hbo
      go_wp2_with fail
      refine (FP.out _ (HP.out.later hso) (HK.out.later hso) (HC.out.later hso)).mono ?_
      rintro e w4 ⟨rfl, hb4⟩
      have hs4 := hso.later hb4
      clear hb4 hso c0 c1 c2 l1
      go_wp2_with fail
      refine (same_yes (frmE p.f) _ (HET.out.later hs4)).mono ?_
      rintro e w5 ⟨rfl, hb5⟩
      have hs5 := hs4.later hb5
      generalize frmV p.f = V at *
      have hq : (V == V) = true := by simp
      clear hb5 hs4
      go_wp2_with fail
      refine (RR.out _).mono ?_
      rintro e w6 ⟨g, n, ok, rfl, hb6, hg6, hr6, hr0⟩
      obtain ⟨r1, r2, r3, r4⟩ := rd_pf hr6 hr0
      have hs6 := hs5.later hb6
      obtain ⟨b, hb⟩ : ∃ b, s.data.toList = b := ⟨_, rfl⟩
      rw [hb] at r1 r2 r3 r4 PP
      have HG := Lib.hid hg6
      have R1 := Lib.hid r1
      have R2 := Lib.hid r2
      have R3 := Lib.hid r3
      have R4 := Lib.hid r4
      have HB6 := Lib.hid (BlockIs.fresh w6 82 #[.int .i64 g.f.kind, .slice g.A g.f.nums.length g.cap, .string g.f.data])
      have hs7 : Since w (w6.alloc (.cells #[.int .i64 g.f.kind, .slice g.A g.f.nums.length g.cap, .string g.f.data] 82)) := hs6.alloc _
      have hle := hs6.le
      clear hg6 hr6 hr0 r1 r2 r3 r4 hb6 hs5 hq hb
      repeat ((fail_if_success (with_reducible refine stop_at 10 ?_)); first | fail | go_values | go_skip | go_guarded | go_step | go_upon | go_back | go_simp)
      obtain ⟨B, hB⟩ : ∃ B, w6.heap.size = B := ⟨_, rfl⟩
      have HBB := Lib.hid hB
      rw [hB] at HB6 hle ⊢
      have hg7 : FrmIn (w6.alloc (.cells #[.int .i64 g.f.kind, .slice g.A g.f.nums.length g.cap, .string g.f.data] 82)) g := HG.out.later ((Since.refl w6).alloc _)
      have HG7 := Lib.hid hg7
      clear hg7 hB HBB HG hs6
      generalize w6.alloc (.cells #[.int .i64 g.f.kind, .slice g.A g.f.nums.length g.cap, .string g.f.data] 82) = w7 at *
      obtain ⟨wq, rfl⟩ : ∃ wq : World, wq = w7 := ⟨_, rfl⟩
      go_cut [5, 12, 13] (fun s5 s12 s13 wx => ∃ q : FrmV, s5 = .int .i64 (pfE b) ∧ s12 = .int .i64 (pfN b) ∧ Since w wx ∧ Hid (FrmIn wx q ∧ q.f = pfF b) ∧ BlockIs wx B 82 #[.int .i64 q.f.kind, .slice q.A q.f.nums.length q.cap, .string q.f.data])
      case first =>
        as_aux_lemma =>
          have c0 : wq.cell? ⟨B, 0, none⟩ = some (.int .i64 g.f.kind) := HB6.out.cell 0
          have c1 : wq.cell? ⟨B, 1, none⟩ = some (.slice g.A g.f.nums.length g.cap) := HB6.out.cell 1
          have c2 : wq.cell? ⟨B, 2, none⟩ = some (.string g.f.data) := HB6.out.cell 2
          have lB := HB6.out.lt
          have fB := HB6.out.free
          cases ok with
          | true =>
            go_wp2_with fail
            go_meet
            case rel => exact ⟨g, by rw [R3.out (by first | rfl | trivial)], by rw [R2.out], hs7, Lib.hid ⟨HG7.out, R1.out⟩, HB6.out⟩
          | false =>
            go_wp2_with fail
            go_meet
            case rel =>
              have hb9 := st3 HB6.out (.int .i64 0) (.slice none 0 0) (.string ⟨#[]⟩)
              have hs9 := hs7.out' (out3 wq B (.int .i64 0) (.slice none 0 0) (.string ⟨#[]⟩)) (fun k hk => by (have : k = B := by simpa using hk); omega)
              exact ⟨⟨frm0, none, 0⟩, by rw [(R4.out (by first | rfl | trivial)).1], by rw [(R4.out (by first | rfl | trivial)).2.2]; rfl, hs9, Lib.hid ⟨frm0_in _, (R4.out (by first | rfl | trivial)).2.1.symm⟩, hb9⟩
      case rest =>
        as_aux_lemma =>
          obtain ⟨wo, rfl⟩ : ∃ wo : World, wo = wc := ⟨_, rfl⟩
          obtain ⟨q, rfl, rfl, hso, HQ, hbo⟩ := hcut
          have HBO := Lib.hid hbo
          clear hs7 HB6 HG7 hbo R1 R2 R3 R4
          go_wp2_with fail
          refine (PP.out _ (HK.out.later hso) (HC.out.later hso)).mono ?_
          rintro e w8 ⟨h, rfl, hb8, hh8, hf8⟩
          have hs8 := hso.later hb8
          have HQ8 := Lib.hid (HQ.out.1.later hb8)
          have HBO8 := Lib.hid (HBO.out.later hb8)
          have HH8 := Lib.hid hh8
          have FE := Lib.hid (fun W h1 h2 => frmeqR h q W (hf8.trans HQ.out.2.symm) h1 h2)
          clear hb8 hh8 hf8 hso HBO
          go_wp2_with fail
          refine (same_yes (pfE b) _ (HET.out.later (by refine Since.out ?_; repeat (first | with_reducible assumption | with_reducible exact Since.refl _ | with_reducible refine Since.later ?_ (by with_reducible assumption) | with_reducible refine Since.only ?_ (by with_reducible assumption) (by first | assumption | omega | (simp; done) | (simp; omega)) | with_reducible refine Since.alloc ?_ _ | with_reducible refine Since.drewN ?_ _ | with_reducible refine Since.drew ?_ | with_reducible refine Since.set ?_ (by first | assumption | omega | (simp; done) | (simp; omega)) _)))).mono ?_
          rintro e w9 ⟨rfl, hb9⟩
          have hs9 : Since w w9 := (by refine Since.out ?_; repeat (first | with_reducible assumption | with_reducible exact Since.refl _ | with_reducible refine Since.later ?_ (by with_reducible assumption) | with_reducible refine Since.only ?_ (by with_reducible assumption) (by first | assumption | omega | (simp; done) | (simp; omega)) | with_reducible refine Since.alloc ?_ _ | with_reducible refine Since.drewN ?_ _ | with_reducible refine Since.drew ?_ | with_reducible refine Since.set ?_ (by first | assumption | omega | (simp; done) | (simp; omega)) _))
          have HH9 := Lib.hid ((HH8.out.later ((Since.refl w8).alloc _)).later hb9)
          have HQ9 := Lib.hid ((HQ8.out.later ((Since.refl w8).alloc _)).later hb9)
          have HB9 := Lib.hid ((HBO8.out.alloc _).later hb9)
          have HC9 := Lib.hid ((BlockIs.fresh w8 82 #[.int .i64 h.f.kind, .slice h.A h.f.nums.length h.cap, .string h.f.data]).later hb9)
          have c0 : w9.cell? ⟨B, 0, none⟩ = some (.int .i64 q.f.kind) := HB9.out.cell 0
          have c1 : w9.cell? ⟨B, 1, none⟩ = some (.slice q.A q.f.nums.length q.cap) := HB9.out.cell 1
          have c2 : w9.cell? ⟨B, 2, none⟩ = some (.string q.f.data) := HB9.out.cell 2
          have d0 : w9.cell? ⟨w8.heap.size, 0, none⟩ = some (.int .i64 h.f.kind) := HC9.out.cell 0
          have d1 : w9.cell? ⟨w8.heap.size, 1, none⟩ = some (.slice h.A h.f.nums.length h.cap) := HC9.out.cell 1
          have d2 : w9.cell? ⟨w8.heap.size, 2, none⟩ = some (.string h.f.data) := HC9.out.cell 2
          have lB := HB9.out.lt
          have lC := HC9.out.lt
          have hqn : ((pfN b : Int) == (pfN b : Int)) = true := by simp
          clear hb9 hs8
          go_wp2_with fail
          refine (FE.out _ HH9.out HQ9.out).mono ?_
          rintro e w10 ⟨rfl, hb10⟩
          go_wp2_with fail
          go_ret
          exact ⟨by first | rfl | simp, hs9.later hb10⟩

/-! the row -/
theorem own : ownKnob Tryd.prog.godebug = none := by kernel_rfl
theorem laidOut : laidOutB Tryd.prog = true := by kernel_rfl
set_option maxRecDepth 100000 in
theorem contract (H : Type) (enc : TypeId × Value → H) (W : World) (base : Nat) (args : Array Value) (ds gs : List (DataW H)) (before : List MemPlace)
    (hval : ∀ (j : Nat) t v, Tryd.f10.params[j]? = some t → args[j]? = some v → Value.okWide Tryd.prog W .any base t v)
    (hW : DataW.Whole enc Tryd.prog Tryd.f10.params.toList Rows.frameTellsSpec.vars false W args.toList ds gs before) (hsz : (DataW.weightsEach Tryd.prog (Tryd.f10.params.toList ++ (OpenSpec.ofChange Rows.frameTellsSpec).bare.plain.varTypes Tryd.prog) (ds ++ gs)).all (· ≤ reachBytes) = true) (hL : laidMetH Tryd.prog Rows.frameTellsRow.laid W) :
    Calls Tryd.prog 10 args W fun e W' => ∃ v, e = .returned v ∧ Rows.frameTellsSpec.post enc Tryd.prog Tryd.f10 false true false false W args v W' := by
  have hW' := hW
  obtain ⟨p, q, hA0, hV, rfl, hfz, hnd⟩ := hW
  have hA : DataW.TrodAll enc Tryd.prog W 0 (fun _ => true) true Tryd.f10.params.toList args.toList ds p := hA0
  rw [Tryd.params10] at hA hval
  obtain ⟨v0, vs0, d0, ds0, p0, q0, hargs, rfl, rfl, h0, r0⟩ := trodAll_cons hA
  obtain ⟨v1, vs1, d1, ds1, p1, q1, rfl, rfl, rfl, h1, r1⟩ := trodAll_cons r0
  obtain ⟨rfl, rfl, rfl⟩ := trodAll_nil r1
  obtain rfl : args = #[v0, v1] := by cases args; simp_all
  obtain ⟨rfl, rfl⟩ := trodVars_none hV
  have k0 := h0
  have lt0 : ∀ x ∈ p0, x.block < W.heap.size := by obtain ⟨m, hm⟩ := k0; exact DataW.trod_lt m _ _ _ hm
  obtain ⟨c0_0, c0_1, c0_2, y0_0, y0_1, y0_2, m0, rfl, hd0, hp0, u0_0, u0_1, u0_2⟩ := Joins.open_agg3 Tryd.underlying82 (by kernel_rfl) (by kernel_rfl) (hval 0 82 v0 rfl rfl) h0
  obtain ⟨a0_0, e0_0, f0_0, w0_0⟩ := DataW.trod_int Tryd.underlying3 u0_0
  obtain ⟨⟨⟨g0_0, g0_1, g0_2⟩, gA0, gc0⟩, w0, rfl, rfl, rfl⟩ := frm_fields w0_0 Tryd.underlying50 Tryd.underlying9 Tryd.underlying3 (by kernel_rfl) u0_1 u0_2
  simp only [List.cons.injEq, and_true] at e0_0
  subst e0_0
  obtain ⟨s1, rfl, rfl, rfl, w1⟩ := open_string Tryd.underlying9 (hval 1 9 v1 rfl rfl) h1
  have z1 : s1.size ≤ 140737488351232 := by
    have hq := sized_string hsz (j := 1) rfl rfl
    simpa [reachBytes] using hq
  have lw := laidWalk hL
  refine (walk ⟨⟨g0_0, g0_1, g0_2⟩, gA0, gc0⟩ s1 W w0 z1 lw).mono fun e W' ⟨he, bel⟩ => ?_
  subst he
  exact ⟨_, rfl, _, _, _, [], _, [], hW', trodAll_mk1 (shut_bool Tryd.underlying4 _), (trodAll_cons_mk (Below.trod laidOut (by kernel_rfl) (of_decide_eq_true (by kernel_rfl)) k0 bel lt0) (trodAll_cons_mk (shut_string Tryd.underlying9 w1) trodAll_mk0)), rfl, bel.frame _, fun h => by cases h⟩

theorem reads (os : Os) {H : Type} (enc : TypeId × Value → H) : ∃ places, DataW.whole enc Tryd.prog ((laidWorld os).forCall (fun _ _ => 0) ⟨#[], #[.agg #[.int .i64 0, .slice none 0 0, .string ByteArray.empty], .string ByteArray.empty], []⟩).memory Tryd.f10.params.toList Rows.frameTellsSpec.vars false (#[.agg #[.int .i64 0, .slice none 0 0, .string ByteArray.empty], .string ByteArray.empty] : Array Value).toList 8 = some ([.agg [.lit (.int .i64 0), .nil, .lit (.string [])], .lit (.string [])], [], places) :=
  ⟨[], by kernel_rfl⟩
theorem laid_met (os : Os) : laidMetH Tryd.prog Rows.frameTellsRow.laid ((laidWorld os).forCall (fun _ _ => 0) ⟨#[], #[.agg #[.int .i64 0, .slice none 0 0, .string ByteArray.empty], .string ByteArray.empty], []⟩).memory := laidMetW os _

set_option maxRecDepth 100000 in
theorem lifted (os : Os) (started : os.Started) (H : Type) (enc : TypeId × Value → H) (F : Stop.Interp) :
    ReturnsInHanded {} Tryd.checked os 10 .any ((OpenSpec.ofChange Rows.frameTellsSpec).preRow enc Tryd.prog Tryd.f10 Rows.frameTellsRow.domain false Rows.frameTellsRow.laid) (((OpenSpec.ofChange Rows.frameTellsSpec).at F).post enc Tryd.prog Tryd.f10 false true false false) := by
  obtain ⟨places, hx⟩ := reads os enc
  refine returnsInHanded_of_row (C := Tryd.checked) (s := OpenSpec.ofChange Rows.frameTellsSpec) own started (by kernel_rfl) Tryd.func10
    (witness_row_at (enc := enc) (C := Tryd.checked) false (laidWorld os) #[.agg #[.int .i64 0, .slice none 0 0, .string ByteArray.empty], .string ByteArray.empty] rfl (by kernel_rfl) (by kernel_rfl) (by kernel_rfl)
      (OpenSpec.preRow_of_cond 8 hx (by kernel_rfl) (fun k hk => by cases hk) (by kernel_rfl) (laid_met os))) ?_
  intro W base args ds gs before hval hW _ _ hsz hL _ _
  exact contract H enc W base args ds gs before hval hW hsz hL

theorem said : Rows.FrameTellsSaid :=
  OpenClaim.holds_of_cond 10 Tryd.f10 rfl rfl rfl rfl rfl rfl rfl ⟨rfl, rfl, rfl, rfl, rfl⟩ rfl rfl rfl rfl rfl (by kernel_rfl) Tryd.func10 (by kernel_rfl)
    (of_decide_eq_true (by kernel_rfl)) (by unfold Func.isWrapper; first | (rw [if_pos (by decide +kernel)]; kernel_rfl) | (rw [if_neg (by decide +kernel)]; exact ⟨rfl, rfl⟩))
    (fun os started H enc _ F => by rw [OpenClaim.pre_eq_preRow]; exact lifted os started H enc F)

theorem plain (f : FuncId) (fn : Func) (hf : Tryd.pinned.checked.prog.funcNamed "wanderwire/wirelaw2.FrameTells" = some f) (hfn : Tryd.pinned.checked.prog.funcs[f]? = some fn) :
    true = Tryd.pinned.checked.prog.looks [] ∧ ∀ (j : Nat) t, fn.params[j]? = some t → Tryd.pinned.checked.prog.wantsStandIn t = false := by
  obtain rfl : f = 10 := Option.some.inj ((show Tryd.prog.funcNamed "wanderwire/wirelaw2.FrameTells" = some 10 by kernel_rfl).symm.trans hf) |>.symm
  obtain rfl : fn = Tryd.f10 := (Option.some.inj (Tryd.func10.symm.trans hfn)).symm
  refine ⟨by kernel_rfl, fun j t ht => ?_⟩
  rw [Tryd.params10] at ht
  have ht' := Array.mem_of_getElem? ht
  have hall : (([82, 9] : List Nat).all fun t => !Tryd.prog.wantsStandIn t) = true := by kernel_rfl
  have hq := List.all_eq_true.1 hall t (by simpa using ht')
  have hq2 : Tryd.prog.wantsStandIn t = false := by simpa using hq
  exact hq2

theorem card : Rows.FrameTellsCardSaid :=
  Claim7.holds_tied_plain_at .later [] _ _ _ _ said (fun _ h => by cases h) (by kernel_rfl) (fun _ h => by cases h) frameTells_row_tie rfl ⟨rfl, rfl⟩ (by kernel_rfl) rfl plain (by kernel_rfl)
#print axioms card
end Go.Proofs.YthnolkbolmbkdaaDoor.frameTells
