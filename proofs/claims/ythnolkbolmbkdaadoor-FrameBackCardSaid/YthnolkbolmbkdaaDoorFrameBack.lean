/- FrameBack: for every frame and texts the law returns true: a frame that is right comes back whole out of its bytes and any behind them, and what bytes begin with is told by just those bytes. Condition: the tables of kinds and counts hold what the program's text lays (the row lists them, the card ties them). -/
import Derived.Test.YthnolkbolmbkdaaDoorAckR
import Derived.Test.YthnolkbolmbkdaaDoorSameR
import Derived.Test.YthnolkbolmbkdaaDoorFrmLaw
import Derived.Test.YthnolkbolmbkdaaDoorLaid2
import Derived.Test.YthnolkbolmbkdaaDoorTold
import Derived.Test.YthnolkbolmbkdaaDoorNumAny
import Derived.Test.YthnolkbolmbkdaaDoorFrmBy
import Derived.Test.YthnolkbolmbkdaaDoorFrmPs
import Derived.Test.YthnolkbolmbkdaaDoorFrmEq
import Derived.Test.YthnolkbolmbkdaaDoorCards
import Derived.Test.YthnolkbolmbkdaaDoorTie
import Derived.Deep.DeepHandedRow
import Derived.LaidLaws
import Derived.LaidHandle
import Derived.Deep.DeepWitnessRowRef
import Derived.Test.YthnolkbolmbkdaaDoorRows
import Derived.WalkKit
import Derived.ProofKit
import Derived.OpenShut
import Derived.ShutString
import Derived.ChangeOld
import Derived.Below
import Derived.Lib.SmallJoins
import Derived.Deep.Slices
import Derived.Deep.Matrix
import Derived.Deep.Strs
namespace Go.Proofs.YthnolkbolmbkdaaDoor.frameBack
open Go.ChangeShapes Go.WideShapes Go.ChangeAt Go.RowKit
open Go.ChangeMaps (open_string shut_string)
set_option linter.unusedVariables false

noncomputable abbrev laidWorld := YthnolkbolmbkdaaDoor.laidWorld2
theorem laidMetW (os : Os) (args : Array Value) : laidMetH Tryd.prog Rows.frameBackRow.laid ((laidWorld os).forCall (fun _ _ => 0) ⟨#[], args, []⟩).memory := laidMet_kc os args
theorem laidWalk {W : World} (h : laidMetH Tryd.prog Rows.frameBackRow.laid W) : KTab W ∧ CTab W := laid_kc h
def fact : Frm := ⟨3, [5], ⟨#[97, 98]⟩⟩
set_option maxRecDepth 100000 in
theorem fact_E : frmE fact = 0 := by decide
set_option maxRecDepth 100000 in
theorem fact_V : frmV fact = [3, 5, 2, 97, 98] := by decide
theorem fact_in {W : World} {b : Nat} (h : BlockIs W b 3 #[.int .i64 5]) : FrmIn W ⟨fact, some ⟨b, 0, none⟩, 1⟩ := by
  refine ⟨(by decide : (-9223372036854775808 ≤ (3 : Int) ∧ (3 : Int) ≤ 9223372036854775807)), (by decide : 2 ≤ 2 ^ 63 - 1), ?_, some ⟨b, 0, none⟩, 1, rfl, (by decide : 1 ≤ 1), (by decide : 1 ≤ 2 ^ 63 - 1), fun _ => ⟨b, 0, rfl, h.lt, fun i hi => ?_⟩⟩
  · intro n hn
    have : n ∈ [(5 : Int)] := hn
    rw [List.mem_singleton.1 this]
    decide
  · obtain rfl : i = 0 := by have : i < 1 := hi; omega
    exact h.cell 0
theorem fact_print (b : Nat) (W : World) (h : BlockIs W b 3 #[.int .i64 5]) (hk : KTab W) (hc : CTab W) :
    Calls Tryd.prog 38 #[.agg #[.int .i64 3, .slice (some ⟨b, 0, none⟩) 1 1, .string ⟨#[97, 98]⟩]] W fun e w' => e = .returned (.tuple #[.string ⟨#[3, 5, 2, 97, 98]⟩, .nilIface]) ∧ Below W.heap.size W w' := by
  have h := fprint ⟨fact, some ⟨b, 0, none⟩, 1⟩ W (fact_in h) hk hc
  simp only [fact_E, fact_V, errV_zero] at h
  exact h
theorem pf_or (b : List UInt8) : pfE b = 2 ∨ (pfE b = 0 ∧ frmE (pfF b) = 0 ∧ 1 ≤ pfN b ∧ pfN b ≤ b.length ∧ frmV (pfF b) = b.take (pfN b)) := by
  cases h : readF b with
  | none => exact .inl (pf_none h).1
  | some q =>
    obtain ⟨f, n⟩ := q
    obtain ⟨e1, e2, e3⟩ := pf_some h
    obtain ⟨a1, a2, a3, a4⟩ := readF_inv h
    refine .inr ⟨e1, by rw [e2]; exact a1, by omega, by omega, ?_⟩
    rw [e2, e3, a4]
    unfold frmV; rw [if_pos a1]
theorem pf_back {f : Frm} (h : frmE f = 0) (r : List UInt8) : pfE (frmV f ++ r) = 0 ∧ pfF (frmV f ++ r) = f ∧ pfN (frmV f ++ r) = (frmV f).length := by
  have hv : frmV f = frmB f := by unfold frmV; rw [if_pos h]
  rw [hv]
  exact pf_some (readF_back h r)

set_option maxRecDepth 100000 in
set_option maxHeartbeats 3200000 in
theorem walk (p : FrmV) (s r : ByteArray) (w : World) (w0 : FrmIn w p) (w1 : s.size ≤ 140737488351232) (w2 : r.size ≤ 140737488351232) (hkc : KTab w ∧ CTab w) :
    Calls Tryd.prog 9 #[p.agg, .string s, .string r] w fun e w' => e = .returned (.bool true) ∧ Below w.heap.size w w' := by
  have HK := Lib.hid hkc.1
  have HC := Lib.hid hkc.2
  have HP := Lib.hid w0
  have HBF : Hid (BlockIs ((w.alloc (.cells #[.int .i64 p.f.kind, .slice p.A p.f.nums.length p.cap, .string p.f.data] 82)).alloc (.cells #[.int .i64 5] 3)) (w.heap.size + 1) 3 #[.int .i64 5]) := Lib.hid (by
    have h := BlockIs.fresh (w.alloc (.cells #[.int .i64 p.f.kind, .slice p.A p.f.nums.length p.cap, .string p.f.data] 82)) 3 #[.int .i64 5]
    rw [World.size_alloc] at h
    exact h)
  have HZ : Hid (r.size ≤ 9223372036854775707) := Lib.hid (by omega)
  have HB : Hid (BlockIs (w.alloc (.cells #[.int .i64 p.f.kind, .slice p.A p.f.nums.length p.cap, .string p.f.data] 82)) w.heap.size 82 #[.int .i64 p.f.kind, .slice p.A p.f.nums.length p.cap, .string p.f.data]) := Lib.hid (BlockIs.fresh _ _ _)
  have FP := Lib.hid (fun W h1 h2 h3 => fprint p W h1 h2 h3)
  have PR := Lib.hid (fun W h1 h2 => fparse r W HZ.out h1 h2)
  have hz : (r.size : Int) ≤ 9223372036854775707 := by omega
  clear hkc w0
  have hq0 : ([3, 5, 2, 97, 98] != (⟨#[3, 5, 2, 97, 98]⟩ : ByteArray).toList) = false := by decide +kernel
  go_enter Tryd.func9, Tryd.ntmps9
  go_wp2_with fail
  refine (fact_print (w.heap.size + 1) _ HBF.out (HK.out.later (by refine Since.out ?_; repeat (first | with_reducible assumption | with_reducible exact Since.refl _ | with_reducible refine Since.later ?_ (by with_reducible assumption) | with_reducible refine Since.only ?_ (by with_reducible assumption) (by first | assumption | omega | (simp; done) | (simp; omega)) | with_reducible refine Since.alloc ?_ _ | with_reducible refine Since.drewN ?_ _ | with_reducible refine Since.drew ?_ | with_reducible refine Since.set ?_ (by first | assumption | omega | (simp; done) | (simp; omega)) _))) (HC.out.later (by refine Since.out ?_; repeat (first | with_reducible assumption | with_reducible exact Since.refl _ | with_reducible refine Since.later ?_ (by with_reducible assumption) | with_reducible refine Since.only ?_ (by with_reducible assumption) (by first | assumption | omega | (simp; done) | (simp; omega)) | with_reducible refine Since.alloc ?_ _ | with_reducible refine Since.drewN ?_ _ | with_reducible refine Since.drew ?_ | with_reducible refine Since.set ?_ (by first | assumption | omega | (simp; done) | (simp; omega)) _)))).mono ?_
  rintro e w1 ⟨rfl, hb1⟩
  have hs1 : Since w w1 := (by refine Since.out ?_; repeat (first | with_reducible assumption | with_reducible exact Since.refl _ | with_reducible refine Since.later ?_ (by with_reducible assumption) | with_reducible refine Since.only ?_ (by with_reducible assumption) (by first | assumption | omega | (simp; done) | (simp; omega)) | with_reducible refine Since.alloc ?_ _ | with_reducible refine Since.drewN ?_ _ | with_reducible refine Since.drew ?_ | with_reducible refine Since.set ?_ (by first | assumption | omega | (simp; done) | (simp; omega)) _))
  have HB1 := Lib.hid ((HB.out.alloc _).later hb1)
  clear HB hb1
  go_wp2_with fail
  refine (PR.out _ (HK.out.later hs1) (HC.out.later hs1)).mono ?_
  rintro e w2 ⟨g, rfl, hb2, hg, hgf⟩
  have hs2 := hs1.later hb2
  have HB2 := Lib.hid (HB1.out.later hb2)
  clear HB1 hb2 hs1
  obtain ⟨b, hb⟩ : ∃ b, r.data.toList = b := ⟨_, rfl⟩
  have HBD := Lib.hid hb
  rw [hb] at hgf ⊢
  have HG := Lib.hid hg
  have HGF := Lib.hid hgf
  clear hg hgf hb
  have HBS : Hid (r = ⟨b.toArray⟩) := Lib.hid (ba_ext (by rw [HBD.out]))
  have HOR := Lib.hid (pf_or b)
  have hbl : b.length = r.size := by rw [← HBD.out]; rfl
  have GP := Lib.hid (fun W h1 h2 h3 => fprint g W h1 h2 h3)
  rw [HGF.out] at GP
  obtain ⟨n, hn⟩ : ∃ n, pfN b = n := ⟨_, rfl⟩
  rw [hn] at HOR ⊢
  clear hn
  repeat ((fail_if_success (with_reducible refine stop_at 5 ?_)); first | fail | go_values | go_skip | go_guarded | go_step | go_upon | go_back | go_simp)
  obtain ⟨wq, rfl⟩ : ∃ wq : World, wq = w2 := ⟨_, rfl⟩
  go_cut [10, 11, 12, 13] (fun s10 s11 s12 s13 wx => Since w wx ∧ BlockIs wx w.heap.size 82 #[.int .i64 p.f.kind, .slice p.A p.f.nums.length p.cap, .string p.f.data])
  case first =>
    as_aux_lemma =>
      rcases HOR.out with h0 | ⟨h0, e1, n1, n2, e3⟩
      · rw [h0, errV_pos (by decide)]
        clear h0
        go_wp2_with fail
        go_meet
        case rel => exact ⟨(by refine Since.out ?_; repeat (first | with_reducible assumption | with_reducible exact Since.refl _ | with_reducible refine Since.later ?_ (by with_reducible assumption) | with_reducible refine Since.only ?_ (by with_reducible assumption) (by first | assumption | omega | (simp; done) | (simp; omega)) | with_reducible refine Since.alloc ?_ _ | with_reducible refine Since.drewN ?_ _ | with_reducible refine Since.drew ?_ | with_reducible refine Since.set ?_ (by first | assumption | omega | (simp; done) | (simp; omega)) _)), HB2.out.alloc _⟩
      · rw [h0, errV_zero]
        have E1 := Lib.hid e1
        have E3 := Lib.hid e3
        have d1 : decide ((n : Int) < 1) = false := by simp; omega
        have d2 : decide ((r.size : Int) < (n : Int)) = false := by simp; omega
        have d3 : (n : Int) ≤ (r.size : Int) := by omega
        have hn0 : (n : Int).toNat = n := Int.toNat_natCast n
        have hq : (b.take n != (r.extract 0 n).toList) = false := by
          rw [ByteArray.toList_eq, HBS.out]; simp
        have hq3 : ¬ (r.size < n ∨ (!List.take n b == (r.extract 0 n).toList) = true) := by
          rintro (h | h)
          · omega
          · have := hq; simp only [bne] at this; rw [this] at h; cases h
        clear h0 e1 e3
        go_wp2_with fail
        refine (GP.out _ (HG.out.later (by refine Since.out ?_; repeat (first | with_reducible assumption | with_reducible exact Since.refl _ | with_reducible refine Since.later ?_ (by with_reducible assumption) | with_reducible refine Since.only ?_ (by with_reducible assumption) (by first | assumption | omega | (simp; done) | (simp; omega)) | with_reducible refine Since.alloc ?_ _ | with_reducible refine Since.drewN ?_ _ | with_reducible refine Since.drew ?_ | with_reducible refine Since.set ?_ (by first | assumption | omega | (simp; done) | (simp; omega)) _))) (HK.out.later (by refine Since.out ?_; repeat (first | with_reducible assumption | with_reducible exact Since.refl _ | with_reducible refine Since.later ?_ (by with_reducible assumption) | with_reducible refine Since.only ?_ (by with_reducible assumption) (by first | assumption | omega | (simp; done) | (simp; omega)) | with_reducible refine Since.alloc ?_ _ | with_reducible refine Since.drewN ?_ _ | with_reducible refine Since.drew ?_ | with_reducible refine Since.set ?_ (by first | assumption | omega | (simp; done) | (simp; omega)) _))) (HC.out.later (by refine Since.out ?_; repeat (first | with_reducible assumption | with_reducible exact Since.refl _ | with_reducible refine Since.later ?_ (by with_reducible assumption) | with_reducible refine Since.only ?_ (by with_reducible assumption) (by first | assumption | omega | (simp; done) | (simp; omega)) | with_reducible refine Since.alloc ?_ _ | with_reducible refine Since.drewN ?_ _ | with_reducible refine Since.drew ?_ | with_reducible refine Since.set ?_ (by first | assumption | omega | (simp; done) | (simp; omega)) _)))).mono ?_
        rintro e w3 ⟨rfl, hb3⟩
        rw [E1.out, E3.out, errV_zero]
        have hs3 : Since w w3 := (by refine Since.out ?_; repeat (first | with_reducible assumption | with_reducible exact Since.refl _ | with_reducible refine Since.later ?_ (by with_reducible assumption) | with_reducible refine Since.only ?_ (by with_reducible assumption) (by first | assumption | omega | (simp; done) | (simp; omega)) | with_reducible refine Since.alloc ?_ _ | with_reducible refine Since.drewN ?_ _ | with_reducible refine Since.drew ?_ | with_reducible refine Since.set ?_ (by first | assumption | omega | (simp; done) | (simp; omega)) _))
        have HB3 := Lib.hid ((HB2.out.alloc _).later hb3)
        clear hb3
        go_wp2_with fail
        go_meet
        case rel => exact ⟨hs3, HB3.out⟩
  case rest =>
    as_aux_lemma =>
      obtain ⟨wo, rfl⟩ : ∃ wo : World, wo = wc := ⟨_, rfl⟩
      obtain ⟨hso, HBO0⟩ := hcut
      have HBO := Lib.hid HBO0
      have c0 : wo.cell? ⟨w.heap.size, 0, none⟩ = some (.int .i64 p.f.kind) := HBO0.cell 0
      have c1 : wo.cell? ⟨w.heap.size, 1, none⟩ = some (.slice p.A p.f.nums.length p.cap) := HBO0.cell 1
      have c2 : wo.cell? ⟨w.heap.size, 2, none⟩ = some (.string p.f.data) := HBO0.cell 2
      have lo := HBO0.lt
      clear hs2 HBO0
      go_wp2_with fail
      refine (FP.out _ (HP.out.later hso) (HK.out.later hso) (HC.out.later hso)).mono ?_
      rintro e w3 ⟨rfl, hb3⟩
      have hs3 := hso.later hb3
      have HB3 := Lib.hid (HBO.out.later hb3)
      clear hb3 c0 c1 c2 lo HBO
      by_cases h0 : frmE p.f = 0
      case neg =>
        rw [errV_pos h0]
        clear h0
        go_wp2_with fail
        go_ret
        exact ⟨rfl, hs3⟩
      obtain ⟨q1, q2, q3⟩ := pf_back h0 s.data.toList
      have hlen : (frmV p.f).length ≤ 120 := by unfold frmV; rw [if_pos h0]; exact frmB_len p.f h0
      rw [h0, errV_zero]
      obtain ⟨V, hV⟩ : ∃ V, frmV p.f = V := ⟨_, rfl⟩
      rw [hV] at q1 q2 q3 hlen ⊢
      have hcat : ((⟨V.toArray⟩ : ByteArray) ++ s).data.toList = V ++ s.data.toList := by simp
      have hcz : ((⟨V.toArray⟩ : ByteArray) ++ s).size ≤ 9223372036854775707 := by
        have h1 : ((⟨V.toArray⟩ : ByteArray) ++ s).size = V.length + s.size := by
          show ((⟨V.toArray⟩ : ByteArray) ++ s).data.toList.length = _
          rw [hcat, List.length_append]; rfl
        omega
      have PP := Lib.hid (fun W h1 h2 => fparse ((⟨V.toArray⟩ : ByteArray) ++ s) W hcz h1 h2)
      rw [hcat, q1, q2, q3] at PP
      have hov : V.length + s.size ≤ 9223372036854775807 := by omega
      clear h0 q1 q2 q3 hV hcz hcat
      go_wp2_with fail
      refine (PP.out _ (HK.out.later hs3) (HC.out.later hs3)).mono ?_
      rintro e w4 ⟨g4, rfl, hb4, hg4, hgf4⟩
      rw [errV_zero]
      have hs4 := hs3.later hb4
      have HB4 := Lib.hid (HB3.out.later hb4)
      have HG4 := Lib.hid hg4
      have FE := Lib.hid (fun W h1 h2 => frmeqR g4 p W hgf4 h1 h2)
      have c0 : w4.cell? ⟨w.heap.size, 0, none⟩ = some (.int .i64 p.f.kind) := HB4.out.cell 0
      have c1 : w4.cell? ⟨w.heap.size, 1, none⟩ = some (.slice p.A p.f.nums.length p.cap) := HB4.out.cell 1
      have c2 : w4.cell? ⟨w.heap.size, 2, none⟩ = some (.string p.f.data) := HB4.out.cell 2
      have lo := HB4.out.lt
      clear hb4 hg4 hgf4
      go_wp2_with fail
      refine (FE.out _ (HG4.out.later (by refine Since.out ?_; repeat (first | with_reducible assumption | with_reducible exact Since.refl _ | with_reducible refine Since.later ?_ (by with_reducible assumption) | with_reducible refine Since.only ?_ (by with_reducible assumption) (by first | assumption | omega | (simp; done) | (simp; omega)) | with_reducible refine Since.alloc ?_ _ | with_reducible refine Since.drewN ?_ _ | with_reducible refine Since.drew ?_ | with_reducible refine Since.set ?_ (by first | assumption | omega | (simp; done) | (simp; omega)) _))) (HP.out.later (by refine Since.out ?_; repeat (first | with_reducible assumption | with_reducible exact Since.refl _ | with_reducible refine Since.later ?_ (by with_reducible assumption) | with_reducible refine Since.only ?_ (by with_reducible assumption) (by first | assumption | omega | (simp; done) | (simp; omega)) | with_reducible refine Since.alloc ?_ _ | with_reducible refine Since.drewN ?_ _ | with_reducible refine Since.drew ?_ | with_reducible refine Since.set ?_ (by first | assumption | omega | (simp; done) | (simp; omega)) _)))).mono ?_
      rintro e w5 ⟨rfl, hb5⟩
      have hs5 : Since w w5 := (by refine Since.out ?_; repeat (first | with_reducible assumption | with_reducible exact Since.refl _ | with_reducible refine Since.later ?_ (by with_reducible assumption) | with_reducible refine Since.only ?_ (by with_reducible assumption) (by first | assumption | omega | (simp; done) | (simp; omega)) | with_reducible refine Since.alloc ?_ _ | with_reducible refine Since.drewN ?_ _ | with_reducible refine Since.drew ?_ | with_reducible refine Since.set ?_ (by first | assumption | omega | (simp; done) | (simp; omega)) _))
      go_wp2_with fail
      go_ret
      exact ⟨by first | rfl | simp, hs5⟩

/-! the row -/
theorem own : ownKnob Tryd.prog.godebug = none := by kernel_rfl
theorem laidOut : laidOutB Tryd.prog = true := by kernel_rfl
set_option maxRecDepth 100000 in
theorem contract (H : Type) (enc : TypeId × Value → H) (W : World) (base : Nat) (args : Array Value) (ds gs : List (DataW H)) (before : List MemPlace)
    (hval : ∀ (j : Nat) t v, Tryd.f9.params[j]? = some t → args[j]? = some v → Value.okWide Tryd.prog W .any base t v)
    (hW : DataW.Whole enc Tryd.prog Tryd.f9.params.toList Rows.frameBackSpec.vars false W args.toList ds gs before) (hsz : (DataW.weightsEach Tryd.prog (Tryd.f9.params.toList ++ (OpenSpec.ofChange Rows.frameBackSpec).bare.plain.varTypes Tryd.prog) (ds ++ gs)).all (· ≤ reachBytes) = true) (hL : laidMetH Tryd.prog Rows.frameBackRow.laid W) :
    Calls Tryd.prog 9 args W fun e W' => ∃ v, e = .returned v ∧ Rows.frameBackSpec.post enc Tryd.prog Tryd.f9 false true false false W args v W' := by
  have hW' := hW
  obtain ⟨p, q, hA0, hV, rfl, hfz, hnd⟩ := hW
  have hA : DataW.TrodAll enc Tryd.prog W 0 (fun _ => true) true Tryd.f9.params.toList args.toList ds p := hA0
  rw [Tryd.params9] at hA hval
  obtain ⟨v0, vs0, d0, ds0, p0, q0, hargs, rfl, rfl, h0, r0⟩ := trodAll_cons hA
  obtain ⟨v1, vs1, d1, ds1, p1, q1, rfl, rfl, rfl, h1, r1⟩ := trodAll_cons r0
  obtain ⟨v2, vs2, d2, ds2, p2, q2, rfl, rfl, rfl, h2, r2⟩ := trodAll_cons r1
  obtain ⟨rfl, rfl, rfl⟩ := trodAll_nil r2
  obtain rfl : args = #[v0, v1, v2] := by cases args; simp_all
  obtain ⟨rfl, rfl⟩ := trodVars_none hV
  have k0 := h0
  have lt0 : ∀ x ∈ p0, x.block < W.heap.size := by obtain ⟨m, hm⟩ := k0; exact DataW.trod_lt m _ _ _ hm
  obtain ⟨c0_0, c0_1, c0_2, y0_0, y0_1, y0_2, m0, rfl, hd0, hp0, u0_0, u0_1, u0_2⟩ := Joins.open_agg3 Tryd.underlying82 (by kernel_rfl) (by kernel_rfl) (hval 0 82 v0 rfl rfl) h0
  obtain ⟨a0_0, e0_0, f0_0, w0_0⟩ := DataW.trod_int Tryd.underlying3 u0_0
  obtain ⟨⟨⟨g0_0, g0_1, g0_2⟩, gA0, gc0⟩, w0, rfl, rfl, rfl⟩ := frm_fields w0_0 Tryd.underlying50 Tryd.underlying9 Tryd.underlying3 (by kernel_rfl) u0_1 u0_2
  simp only [List.cons.injEq, and_true] at e0_0
  subst e0_0
  obtain ⟨s1, rfl, rfl, rfl, w1⟩ := open_string Tryd.underlying9 (hval 1 9 v1 rfl rfl) h1
  have z1 : s1.size ≤ 140737488351232 := by
    have hq := sized_string hsz (j := 1) rfl rfl
    simpa [reachBytes] using hq
  obtain ⟨s2, rfl, rfl, rfl, w2⟩ := open_string Tryd.underlying9 (hval 2 9 v2 rfl rfl) h2
  have z2 : s2.size ≤ 140737488351232 := by
    have hq := sized_string hsz (j := 2) rfl rfl
    simpa [reachBytes] using hq
  have lw := laidWalk hL
  refine (walk ⟨⟨g0_0, g0_1, g0_2⟩, gA0, gc0⟩ s1 s2 W w0 z1 z2 lw).mono fun e W' ⟨he, bel⟩ => ?_
  subst he
  exact ⟨_, rfl, _, _, _, [], _, [], hW', trodAll_mk1 (shut_bool Tryd.underlying4 _), (trodAll_cons_mk (Below.trod laidOut (by kernel_rfl) (of_decide_eq_true (by kernel_rfl)) k0 bel lt0) (trodAll_cons_mk (shut_string Tryd.underlying9 w1) (trodAll_cons_mk (shut_string Tryd.underlying9 w2) trodAll_mk0))), rfl, bel.frame _, fun h => by cases h⟩

theorem reads (os : Os) {H : Type} (enc : TypeId × Value → H) : ∃ places, DataW.whole enc Tryd.prog ((laidWorld os).forCall (fun _ _ => 0) ⟨#[], #[.agg #[.int .i64 0, .slice none 0 0, .string ByteArray.empty], .string ByteArray.empty, .string ByteArray.empty], []⟩).memory Tryd.f9.params.toList Rows.frameBackSpec.vars false (#[.agg #[.int .i64 0, .slice none 0 0, .string ByteArray.empty], .string ByteArray.empty, .string ByteArray.empty] : Array Value).toList 8 = some ([.agg [.lit (.int .i64 0), .nil, .lit (.string [])], .lit (.string []), .lit (.string [])], [], places) :=
  ⟨[], by kernel_rfl⟩
theorem laid_met (os : Os) : laidMetH Tryd.prog Rows.frameBackRow.laid ((laidWorld os).forCall (fun _ _ => 0) ⟨#[], #[.agg #[.int .i64 0, .slice none 0 0, .string ByteArray.empty], .string ByteArray.empty, .string ByteArray.empty], []⟩).memory := laidMetW os _

set_option maxRecDepth 100000 in
theorem lifted (os : Os) (started : os.Started) (H : Type) (enc : TypeId × Value → H) (F : Stop.Interp) :
    ReturnsInHanded {} Tryd.checked os 9 .any ((OpenSpec.ofChange Rows.frameBackSpec).preRow enc Tryd.prog Tryd.f9 Rows.frameBackRow.domain false Rows.frameBackRow.laid) (((OpenSpec.ofChange Rows.frameBackSpec).at F).post enc Tryd.prog Tryd.f9 false true false false) := by
  obtain ⟨places, hx⟩ := reads os enc
  refine returnsInHanded_of_row (C := Tryd.checked) (s := OpenSpec.ofChange Rows.frameBackSpec) own started (by kernel_rfl) Tryd.func9
    (witness_row_at (enc := enc) (C := Tryd.checked) false (laidWorld os) #[.agg #[.int .i64 0, .slice none 0 0, .string ByteArray.empty], .string ByteArray.empty, .string ByteArray.empty] rfl (by kernel_rfl) (by kernel_rfl) (by kernel_rfl)
      (OpenSpec.preRow_of_cond 8 hx (by kernel_rfl) (fun k hk => by cases hk) (by kernel_rfl) (laid_met os))) ?_
  intro W base args ds gs before hval hW _ _ hsz hL _ _
  exact contract H enc W base args ds gs before hval hW hsz hL

theorem said : Rows.FrameBackSaid :=
  OpenClaim.holds_of_cond 9 Tryd.f9 rfl rfl rfl rfl rfl rfl rfl ⟨rfl, rfl, rfl, rfl, rfl⟩ rfl rfl rfl rfl rfl (by kernel_rfl) Tryd.func9 (by kernel_rfl)
    (of_decide_eq_true (by kernel_rfl)) (by unfold Func.isWrapper; first | (rw [if_pos (by decide +kernel)]; kernel_rfl) | (rw [if_neg (by decide +kernel)]; exact ⟨rfl, rfl⟩))
    (fun os started H enc _ F => by rw [OpenClaim.pre_eq_preRow]; exact lifted os started H enc F)

theorem plain (f : FuncId) (fn : Func) (hf : Tryd.pinned.checked.prog.funcNamed "wanderwire/wirelaw2.FrameBack" = some f) (hfn : Tryd.pinned.checked.prog.funcs[f]? = some fn) :
    true = Tryd.pinned.checked.prog.looks [] ∧ ∀ (j : Nat) t, fn.params[j]? = some t → Tryd.pinned.checked.prog.wantsStandIn t = false := by
  obtain rfl : f = 9 := Option.some.inj ((show Tryd.prog.funcNamed "wanderwire/wirelaw2.FrameBack" = some 9 by kernel_rfl).symm.trans hf) |>.symm
  obtain rfl : fn = Tryd.f9 := (Option.some.inj (Tryd.func9.symm.trans hfn)).symm
  refine ⟨by kernel_rfl, fun j t ht => ?_⟩
  rw [Tryd.params9] at ht
  have ht' := Array.mem_of_getElem? ht
  have hall : (([82, 9, 9] : List Nat).all fun t => !Tryd.prog.wantsStandIn t) = true := by kernel_rfl
  have hq := List.all_eq_true.1 hall t (by simpa using ht')
  have hq2 : Tryd.prog.wantsStandIn t = false := by simpa using hq
  exact hq2

theorem card : Rows.FrameBackCardSaid :=
  Claim7.holds_tied_plain_at .later [] _ _ _ _ said (fun _ h => by cases h) (by kernel_rfl) (fun _ h => by cases h) frameBack_row_tie rfl ⟨rfl, rfl⟩ (by kernel_rfl) rfl plain (by kernel_rfl)
#print axioms card
end Go.Proofs.YthnolkbolmbkdaaDoor.frameBack
