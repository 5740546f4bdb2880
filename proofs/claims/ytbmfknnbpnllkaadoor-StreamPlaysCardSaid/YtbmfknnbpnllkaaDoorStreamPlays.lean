/- StreamPlays: for every steps and texts the law returns true: whatever is put and taken is answered as the reference says, and as many bytes are ready, and the same are missing. Conditions: errors.errorType holds its handle (the row lists it, the card ties it); the texts are no longer than the form's reach. -/
import Derived.Test.YtbmfknnbpnllkaaDoorBase
import Derived.Test.YtbmfknnbpnllkaaDoorTold
import Derived.Test.YtbmfknnbpnllkaaDoorLaid
import Derived.Test.YtbmfknnbpnllkaaDoorOnly
import Derived.Test.YtbmfknnbpnllkaaDoorSince
import Derived.Test.YtbmfknnbpnllkaaDoorRules
import Derived.Test.YtbmfknnbpnllkaaDoorOut
import Derived.Test.YtbmfknnbpnllkaaDoorLst
import Derived.Test.YtbmfknnbpnllkaaDoorRow
import Derived.Test.YtbmfknnbpnllkaaDoorRng
import Derived.Test.YtbmfknnbpnllkaaDoorStr
import Derived.Test.YtbmfknnbpnllkaaDoorStrm
import Derived.Test.YtbmfknnbpnllkaaDoorConv
import Derived.Test.YtbmfknnbpnllkaaDoorStake
import Derived.Test.YtbmfknnbpnllkaaDoorSgaps
import Derived.Test.YtbmfknnbpnllkaaDoorRStrm
import Derived.Test.YtbmfknnbpnllkaaDoorRTake
import Derived.Test.YtbmfknnbpnllkaaDoorIns
import Derived.Test.YtbmfknnbpnllkaaDoorSized
import Derived.Deep.DeepCutAuto
import Derived.Deep.RegionHeld3
import Derived.Test.YtbmfknnbpnllkaaDoorCards
import Derived.Test.YtbmfknnbpnllkaaDoorTie
import Derived.Deep.DeepHandedRow
import Derived.LaidLaws
import Derived.LaidHandle
import Derived.Deep.DeepWitnessRowRef
import Derived.Test.YtbmfknnbpnllkaaDoorRows
import Derived.WalkKit
import Derived.ProofKit
import Derived.OpenShut
import Derived.ShutString
import Derived.ChangeOld
import Derived.Below
import Derived.Lib.SmallJoins
import Derived.Deep.Slices
import Derived.Deep.Matrix
import Derived.Deep.Strs
namespace Go.Proofs.YtbmfknnbpnllkaaDoor.streamPlays
open Go.ChangeShapes Go.WideShapes Go.ChangeAt Go.RowKit
open Go.ChangeMaps (open_string shut_string)
set_option linter.unusedVariables false

noncomputable abbrev laidWorld := YtbmfknnbpnllkaaDoor.laidWorld
theorem laidMetW (os : Os) (args : Array Value) : laidMetH Tryd.prog Rows.streamPlaysRow.laid ((laidWorld os).forCall (fun _ _ => 0) ⟨#[], args, []⟩).memory := laidMet_et os args
theorem laidWalk {W : World} (h : laidMetH Tryd.prog Rows.streamPlaysRow.laid W) : ETok W := laid_et h
/-- both streams hold the same, in blocks apart and new -/
structure Duo (w wx : World) (g gm : Nat) (M : Plc) (t : Nat) : Prop where
  sz : Sz wx g M t
  qz : Qz wx gm M t
  ne : g ≠ gm
  newS : w.heap.size ≤ g
  newQ : w.heap.size ≤ gm
  since : Since w wx
section
variable {w wx wy : World} {g gm gv : Nat} {M M' : Plc} {t t' : Nat} {x0 x1 : Int}
theorem Duo.later (h : Duo w wx g gm M t) (hb : Below wx.heap.size wx wy) : Duo w wy g gm M t := ⟨h.sz.later hb, h.qz.later hb, h.ne, h.newS, h.newQ, h.since.later hb⟩
/-- and the row that is read, in a block of its own -/
structure Trio (w wx : World) (g gm gv : Nat) (M M2 : Plc) (t t2 : Nat) (x0 x1 : Int) : Prop where
  sz : Sz wx g M t
  qz : Qz wx gm M2 t2
  row : BlockIs wx gv 41 #[.int .i64 x0, .int .i64 x1]
  ne : g ≠ gm
  newS : w.heap.size ≤ g
  newQ : w.heap.size ≤ gm
  offS : gv ≠ g
  offQ : gv ≠ gm
  since : Since w wx
variable {M2 M2' : Plc} {t2 t2' : Nat}
theorem Trio.later (h : Trio w wx g gm gv M M2 t t2 x0 x1) (hb : Below wx.heap.size wx wy) : Trio w wy g gm gv M M2 t t2 x0 x1 := ⟨h.sz.later hb, h.qz.later hb, h.row.later hb, h.ne, h.newS, h.newQ, h.offS, h.offQ, h.since.later hb⟩
theorem Trio.drew (h : Trio w wx g gm gv M M2 t t2 x0 x1) : Trio w wx.drew g gm gv M M2 t t2 x0 x1 := h.later (by exact (Since.refl wx).drew)
theorem Trio.stepS (h : Trio w wx g gm gv M M2 t t2 x0 x1) (c : Sz wy g M' t') (ho : Out wx wy [g]) : Trio w wy g gm gv M' M2 t' t2 x0 x1 :=
  ⟨c, h.qz.kept ho (by simpa using fun e => h.ne e.symm), ho.block' h.row (by simpa using h.offS), h.ne, h.newS, h.newQ, h.offS, h.offQ, h.since.out' ho (fun k hk => by rw [List.mem_singleton.1 hk]; exact h.newS)⟩
theorem Trio.stepQ (h : Trio w wx g gm gv M M2 t t2 x0 x1) (c : Qz wy gm M2' t2') (ho : Out wx wy [gm]) : Trio w wy g gm gv M M2' t t2' x0 x1 :=
  ⟨h.sz.kept ho (by simpa using h.ne), c, ho.block' h.row (by simpa using h.offQ), h.ne, h.newS, h.newQ, h.offS, h.offQ, h.since.out' ho (fun k hk => by rw [List.mem_singleton.1 hk]; exact h.newQ)⟩
theorem Trio.duo (h : Trio w wx g gm gv M M t t x0 x1) : Duo w wx g gm M t := ⟨h.sz, h.qz, h.ne, h.newS, h.newQ, h.since⟩
end
def Twins (w wx : World) (g gm : Nat) : Prop := ∃ M t, Duo w wx g gm M t

set_option maxRecDepth 100000 in
set_option maxHeartbeats 3200000 in
theorem walk (v0 : Value) (Z : List (List Int)) (v1 : Value) (T : List ByteArray) (w : World) (w0 : IntRowsIn w v0 Z) (w1 : StrsInS w v1 T) (hL : ETok w) :
    Calls Tryd.prog 4 #[v0, v1] w fun e w' => e = .returned (.bool true) ∧ Below w.heap.size w w' := by
  have HE := Lib.hid hL
  obtain ⟨A, cap, rfl, hle0, hm0, hc⟩ := w0
  obtain ⟨⟨_, A2, cap2, rfl, hle2, hm2, hc2⟩, hS⟩ := w1
  unfold maxLen at hm0 hm2
  have hZ : Z.length ≤ 9223372036854775807 := by omega
  have hT0 : T.length ≤ 9223372036854775807 := by omega
  have HC := Lib.hid hc
  have HC2 := Lib.hid hc2
  have HS := Lib.hid hS
  clear hc hc2 hS hL
  go_enter Tryd.func4, Tryd.ntmps4
  go_wp2_with fail
  refine (snew _).mono ?_
  rintro e w1 ⟨rfl, hs1, hb1⟩
  go_wp2_with fail
  refine (qnew _).mono ?_
  rintro e w2 ⟨rfl, hq2, hb2⟩
  have hlt1 := hs1.bl.lt
  have hT : Twins w w2 w.heap.size w1.heap.size := ⟨Plc.new, 0, hs1.later hb2, hq2, by omega, Nat.le_refl _, by omega, (show Since w w1 from hb1).later hb2⟩
  have HT := Lib.hid hT
  clear hT hs1 hq2 hb1 hb2
  generalize w1.heap.size = gm at *
  clear hlt1
  generalize hg : w.heap.size = g at HT ⊢
  go_wp2_with fail
  go_loopw [7] (fun s7 wr => ∃ (k : Nat), s7 = .int .i64 k ∧ k ≤ 100 ∧ Twins w wr g gm) (fun i _ => 100 - (intOf i).toNat)
  case atStart => exact ⟨0, rfl, by omega, HT.out⟩
  case round =>
    obtain ⟨k, rfl, hk, hT⟩ := hrel
    by_cases hlen : k < Z.length
    case neg =>
      have hlen' : decide ((k : Int) < (Z.length : Int)) = false := by simp; omega
      obtain ⟨M, t, hT⟩ := hT
      have hs := hT.since
      clear hT
      go_wp2_with fail
      go_ret
      exact ⟨rfl, by subst hg; exact (by refine Since.out ?_; repeat (first | with_reducible assumption | with_reducible exact Since.refl _ | with_reducible refine Since.later ?_ (by with_reducible assumption) | with_reducible refine Since.only ?_ (by with_reducible assumption) (by first | assumption | omega | (simp; done) | (simp; omega)) | with_reducible refine Since.alloc ?_ _ | with_reducible refine Since.drewN ?_ _ | with_reducible refine Since.drew ?_ | with_reducible refine Since.set ?_ (by first | assumption | omega | (simp; done) | (simp; omega)) _))⟩
    by_cases h100 : k < 100
    case neg =>
      have hlen' : (k : Int) < (Z.length : Int) := by omega
      have h100' : decide ((k : Int) < 100) = false := by simp; omega
      obtain ⟨M, t, hT⟩ := hT
      have hs := hT.since
      clear hT
      go_wp2_with fail
      go_ret
      exact ⟨rfl, by subst hg; exact (by refine Since.out ?_; repeat (first | with_reducible assumption | with_reducible exact Since.refl _ | with_reducible refine Since.later ?_ (by with_reducible assumption) | with_reducible refine Since.only ?_ (by with_reducible assumption) (by first | assumption | omega | (simp; done) | (simp; omega)) | with_reducible refine Since.alloc ?_ _ | with_reducible refine Since.drewN ?_ _ | with_reducible refine Since.drew ?_ | with_reducible refine Since.set ?_ (by first | assumption | omega | (simp; done) | (simp; omega)) _))⟩
    have hlen' : (k : Int) < (Z.length : Int) := by omega
    have h100' : (k : Int) < 100 := by omega
    obtain ⟨b, off, rfl, hlt, hc⟩ := HC.out (by rintro rfl; simp at hlen)
    obtain ⟨x, hx, hI⟩ := hc k hlen
    clear hc
    generalize Z.getD k [] = r at *
    obtain ⟨bdr, A', cap', rfl, hle', hm', hcr⟩ := hI
    have HX := Lib.hid hx
    have HR := Lib.hid hcr
    have HBD := Lib.hid (ith_bounds bdr)
    unfold maxLen at hm'
    clear hx hcr bdr
    obtain ⟨M, t, hT⟩ := hT
    have HTW := Lib.hid hT
    have hs : Since w wr := hT.since
    clear hT
    obtain ⟨wo, rfl⟩ : ∃ wo : World, wo = wr := ⟨_, rfl⟩
    repeat ((fail_if_success (with_reducible refine stop_at 7 ?_)); first | fail | go_values | go_skip | go_guarded | go_step | go_upon | go_back | go_simp)
    go_cut [] (fun wx => BlockIs wx wo.heap.size 41 #[.int .i64 (ith r 0), .int .i64 (ith r 1)] ∧ Since wo wx)
    case first =>
      go_wp2_with fail
      go_loopw [9] (fun sj wi => ∃ j : Nat, sj = .int .i64 j ∧ j ≤ 2 ∧ j ≤ r.length ∧ BlockIs wi wo.heap.size 41 #[.int .i64 (vv r j 0), .int .i64 (vv r j 1)] ∧ Since wo wi) (fun i _ => 2 - (intOf i).toNat)
      case atStart => exact ⟨0, rfl, by omega, by omega, BlockIs.fresh _ _ _, (by refine Since.out ?_; repeat (first | with_reducible assumption | with_reducible exact Since.refl _ | with_reducible refine Since.later ?_ (by with_reducible assumption) | with_reducible refine Since.only ?_ (by with_reducible assumption) (by first | assumption | omega | (simp; done) | (simp; omega)) | with_reducible refine Since.alloc ?_ _ | with_reducible refine Since.drewN ?_ _ | with_reducible refine Since.drew ?_ | with_reducible refine Since.set ?_ (by first | assumption | omega | (simp; done) | (simp; omega)) _))⟩
      case round =>
        obtain ⟨j, rfl, hj2, hjr, hB, hs2⟩ := hrel
        have cx : wr.cell? ⟨b, off + k, none⟩ = some (.slice A' r.length cap') := hs2.cell (Nat.lt_of_lt_of_le hlt hs.le) (hs.cell hlt HX.out)
        by_cases hjl : j < r.length
        case neg =>
          have hjl' : decide ((j : Int) < (r.length : Int)) = false := by simp; omega
          have HB := Lib.hid (vv_end2 (Or.inl (by omega : r.length ≤ j)) ▸ hB)
          clear hB
          go_wp2_with fail
          go_meet
          case rel => exact ⟨HB.out, hs2⟩
        by_cases hj2' : j < 2
        case neg =>
          have hj3 : decide ((j : Int) < 2) = false := by simp; omega
          have hjl' : (j : Int) < (r.length : Int) := by omega
          have HB := Lib.hid (vv_end2 (r := r) (Or.inr (by omega : 2 ≤ j)) ▸ hB)
          clear hB
          go_wp2_with fail
          go_meet
          case rel => exact ⟨HB.out, hs2⟩
        have hjl' : (j : Int) < (r.length : Int) := by omega
        have hj3 : (j : Int) < 2 := by omega
        obtain ⟨b2, off2, rfl, hlt2, hc2⟩ := HR.out (by rintro rfl; simp at hjl)
        have cj : wr.cell? ⟨b2, off2 + j, none⟩ = some (.int .i64 (ith r j)) := hs2.cell (Nat.lt_of_lt_of_le hlt2 hs.le) (hs.cell hlt2 (hc2 j hjl))
        have fj := hB.free
        have ij : wr.cell? ⟨wo.heap.size, j, none⟩ = some (.int .i64 0) := (hB.cell j).trans (vv_next2 r hj2').1
        have HB := Lib.hid ((vv_next2 r hj2').2 ▸ hB.put j (.int .i64 (ith r j)))
        clear hc2 hB
        go_wp2_with fail
        go_roundw
        case rel => exact ⟨j + 1, by go_num, by omega, by omega, HB.out, (by refine Since.out ?_; repeat (first | with_reducible assumption | with_reducible exact Since.refl _ | with_reducible refine Since.later ?_ (by with_reducible assumption) | with_reducible refine Since.only ?_ (by with_reducible assumption) (by first | assumption | omega | (simp; done) | (simp; omega)) | with_reducible refine Since.alloc ?_ _ | with_reducible refine Since.drewN ?_ _ | with_reducible refine Since.drew ?_ | with_reducible refine Since.set ?_ (by first | assumption | omega | (simp; done) | (simp; omega)) _))⟩
        case measure => simp [intOf]; omega
    case rest =>
      obtain ⟨wv, rfl⟩ : ∃ wv : World, wv = wc := ⟨_, rfl⟩
      obtain ⟨hBv, hs2⟩ := hcut
      have hTv := HTW.out.later hs2
      have hT3 : Trio w wv g gm wo.heap.size M M t t (ith r 0) (ith r 1) :=
        ⟨hTv.sz, hTv.qz, hBv, hTv.ne, hTv.newS, hTv.newQ, fun e => by have := HTW.out.sz.bl.lt; omega, fun e => by have := HTW.out.qz.bl.lt; omega, hTv.since⟩
      have HT3 := Lib.hid hT3
      generalize ith r 0 = x0 at *
      generalize ith r 1 = x1 at *
      have cv0 : wv.cell? ⟨wo.heap.size, 0, none⟩ = some (.int .i64 x0) := hBv.cell 0
      have cv1 : wv.cell? ⟨wo.heap.size, 1, none⟩ = some (.int .i64 x1) := hBv.cell 1
      clear hBv hTv hT3 hs hs2 HX HR HTW
      generalize wo.heap.size = gv at *
      repeat ((fail_if_success (with_reducible refine stop_at 12 ?_)); first | fail | go_values | go_skip | go_guarded | go_step | go_upon | go_back | go_simp)
      go_cut [10] (fun s10 wx => s10 = .bool true ∧ Twins w wx g gm)
      case first =>
        by_cases h0 : x0 = 0
        · have h0' : (x0 == 0) = true := by simpa using h0
          clear h0
          by_cases hx1 : x1 < 0
          · have E : Hid (takeE x1 = 1) := Lib.hid (by unfold takeE; rw [if_pos hx1])
            have ES := Lib.hid (takeS_neg (M := M) (t := t) hx1)
            have EK := Lib.hid (takeK_neg (M := M) (t := t) hx1)
            go_wp2_with fail
            refine (stake g M t x1 _ HT3.out.sz).mono ?_
            rintro e w5 ⟨rfl, h5, ho5⟩
            have hT5 := HT3.out.stepS h5 ho5
            rw [E.out, ES.out]
            rw [EK.out, Nat.add_zero] at hT5
            have HT5 := Lib.hid hT5
            clear h5 ho5 hT5 cv0 cv1
            go_wp2_with fail
            refine (same_yes 1 _ (HE.out.later HT5.out.since)).mono ?_
            rintro e w6 ⟨rfl, hb6⟩
            go_wp2_with fail
            go_meet
            case rel => exact ⟨by first | rfl | simp, M, t, (HT5.out.later hb6).duo⟩
          · have hx1' : decide (x1 < 0) = false := by simpa using hx1
            have E : Hid (takeE x1 = 0) := Lib.hid (by unfold takeE; rw [if_neg hx1])
            have hx2 : 0 ≤ x1 := by omega
            clear hx1
            go_wp2_with fail
            refine (qtake gm M t x1 hx2 _ HT3.out.qz (takeS M t x1) rfl).mono ?_
            rintro e w4 ⟨rfl, h4, ho4⟩
            have hT4 := HT3.out.stepQ h4 ho4
            have cw1 : w4.cell? ⟨gv, 1, none⟩ = some (.int .i64 x1) := hT4.row.cell 1
            have HT4 := Lib.hid hT4
            clear h4 ho4 hT4 cv0 cv1
            go_wp2_with fail
            refine (stake g M t x1 _ HT4.out.sz).mono ?_
            rintro e w5 ⟨rfl, h5, ho5⟩
            have hT5 := HT4.out.stepS h5 ho5
            rw [E.out]
            have HT5 := Lib.hid hT5
            clear h5 ho5 hT5 cw1
            generalize takeS M t x1 = S at *
            go_wp2_with fail
            refine (same_yes 0 _ (HE.out.later HT5.out.since)).mono ?_
            rintro e w6 ⟨rfl, hb6⟩
            go_wp2_with fail
            go_meet
            case rel => exact ⟨by first | rfl | simp, _, _, (HT5.out.later hb6).duo⟩
        · have h0' : (x0 == 0) = false := by simpa using h0
          clear h0
          repeat ((fail_if_success (with_reducible refine stop_at 21 ?_)); first | fail | go_values | go_skip | go_guarded | go_step | go_upon | go_back | go_simp)
          obtain ⟨wq, rfl⟩ : ∃ wq : World, wq = wv := ⟨_, rfl⟩
          go_cut [15] (fun s15 wx => ∃ d : ByteArray, s15 = .string d ∧ d.size ≤ 140737488351232 ∧ Since wq wx)
          case first =>
            by_cases hkT : k < T.length
            · have hkT' : (k : Int) < (T.length : Int) := by omega
              obtain ⟨b2, off2, rfl, hlt2, hc2⟩ := HC2.out (by rintro rfl; simp at hkT)
              have ct : wq.cell? ⟨b2, off2 + k, none⟩ = some (.string (sth T k)) := HT3.out.since.cell (by subst hg; exact hlt2) (hc2 k hkT)
              have hsz := HS.out k
              clear hc2
              generalize sth T k = d at *
              go_wp2_with fail
              go_meet
              case rel => exact ⟨d, rfl, hsz, Since.refl _⟩
            · have hkT' : decide ((k : Int) < (T.length : Int)) = false := by simp; omega
              go_wp2_with fail
              go_meet
              case rel => exact ⟨⟨#[]⟩, rfl, by show 0 ≤ _; omega, Since.refl _⟩
          case rest =>
            obtain ⟨wt, rfl⟩ : ∃ wt : World, wt = wc := ⟨_, rfl⟩
            obtain ⟨d, rfl, hsz, hsd⟩ := hcut
            have HT4 := Lib.hid (HT3.out.later hsd)
            have c1 := Lib.hid (HT4.out.row.cell 1)
            clear cv0 cv1 HT3 hsd
            go_wp2_with fail
            go_region_held3 (fun w' => w'.cell? ⟨gv, 1, none⟩ = some (.int .i64 x1)) (first | exact c1.out | exact cq1.out | exact cq2.out | exact cq3.out) (first | (go_at_call 11; refine (sput g M t x1 d _ ?_ hsz).mono ?_; (first | exact HT4.out.sz | exact HT4.out.drew.sz | exact HTb.out.sz | exact HTb.out.drew.sz); rintro e w5 ⟨rfl, h, ho⟩; (first | (have ha := HTb.out.stepS h ho; have cq1 := Lib.hid (ha.row.cell 1); have HTa := Lib.hid ha; clear ha) | (have ha := HTb.out.drew.stepS h ho; have cq1 := Lib.hid (ha.row.cell 1); have HTa := Lib.hid ha; clear ha) | (have ha := HT4.out.stepS h ho; have cq1 := Lib.hid (ha.row.cell 1); have HTa := Lib.hid ha; clear ha) | (have ha := HT4.out.drew.stepS h ho; have cq1 := Lib.hid (ha.row.cell 1); have HTa := Lib.hid ha; clear ha)); clear h ho) | (go_at_call 18; refine (qput gm M t x1 d _ ?_ hsz).mono ?_; (first | exact HT4.out.qz | exact HT4.out.drew.qz | exact HTa.out.qz | exact HTa.out.drew.qz); rintro e w6 ⟨rfl, h, ho⟩; (first | (have ha := HTa.out.stepQ h ho; have cq2 := Lib.hid (ha.row.cell 1); have HTb := Lib.hid ha; clear ha) | (have ha := HTa.out.drew.stepQ h ho; have cq2 := Lib.hid (ha.row.cell 1); have HTb := Lib.hid ha; clear ha) | (have ha := HT4.out.stepQ h ho; have cq2 := Lib.hid (ha.row.cell 1); have HTb := Lib.hid ha; clear ha) | (have ha := HT4.out.drew.stepQ h ho; have cq2 := Lib.hid (ha.row.cell 1); have HTb := Lib.hid ha; clear ha)); clear h ho) | (go_at_call 13; refine (same_yes (putE M x1 d.data.toList) _ ?_).mono ?_; (first | exact HE.out.later HTb.out.since | exact HE.out.later HTa.out.since | exact HE.out.later HTb.out.drew.since | exact HE.out.later HTa.out.drew.since); rintro e w7 ⟨rfl, hb7⟩; first | (have hF : Trio w w7 g gm gv (putM M x1 d.data.toList) (putM M x1 d.data.toList) t t x0 x1 := HTb.out.later hb7; have cq3 := Lib.hid (hF.row.cell 1); have HF := Lib.hid hF; clear hF) | (have hF : Trio w w7 g gm gv (putM M x1 d.data.toList) (putM M x1 d.data.toList) t t x0 x1 := HTa.out.later hb7; have cq3 := Lib.hid (hF.row.cell 1); have HF := Lib.hid hF; clear hF)))
            all_goals
              go_wp2_with fail
              go_meet
              case rel => exact ⟨by first | rfl | simp, _, _, HF.out.duo⟩
      case rest =>
        obtain ⟨wz, rfl⟩ : ∃ wz : World, wz = wc := ⟨_, rfl⟩
        obtain ⟨rfl, M', t', hT'⟩ := hcut
        have HT4 := Lib.hid hT'
        have hgl : (gapsOf M').length ≤ 60 := (gapL_le M' 60).1
        clear hT' HT3 cv0 cv1
        go_wp2_with fail
        refine (sready g M' t' _ HT4.out.sz).mono ?_
        rintro e w5 ⟨rfl, hb5⟩
        go_wp2_with fail
        refine (qready gm M' t' _ (HT4.out.later hb5).qz).mono ?_
        rintro e w6 ⟨rfl, hb6⟩
        have HT6 := Lib.hid ((HT4.out.later hb5).later hb6)
        have hrr : ((readyN M' t' : Int) != (readyN M' t' : Int)) = false := by simp
        go_wp2_with fail
        refine (sgaps g M' t' _ HT6.out.sz).mono ?_
        rintro e w7 ⟨A7, c7, rfl, hl7, hb7, hk7⟩
        have HL7 := Lib.hid hl7
        clear hl7 hk7
        go_wp2_with fail
        refine (qgaps gm M' t' _ (HT6.out.later hb7).qz).mono ?_
        rintro e w8 ⟨A8, c8, rfl, hl8, hb8, hk8⟩
        have HL8 := Lib.hid hl8
        clear hl8 hk8
        go_wp2_with fail
        refine (rngeq A7 A8 c7 c8 _ (gapsOf M') _ rfl (HL7.out.later hb8) HL8.out (by omega)).mono ?_
        rintro e w9 ⟨rfl, hb9⟩
        go_wp2_with fail
        go_roundw
        case rel => exact ⟨k + 1, by go_num, by omega, M', t', ((HT6.out.later hb7).later hb8).later hb9⟩
        case measure => simp [intOf]; omega

/-! the row -/
theorem own : ownKnob Tryd.prog.godebug = none := by kernel_rfl
theorem laidOut : laidOutB Tryd.prog = true := by kernel_rfl
set_option maxRecDepth 100000 in
theorem contract (H : Type) (enc : TypeId × Value → H) (W : World) (base : Nat) (args : Array Value) (ds gs : List (DataW H)) (before : List MemPlace)
    (hval : ∀ (j : Nat) t v, Tryd.f4.params[j]? = some t → args[j]? = some v → Value.okWide Tryd.prog W .any base t v)
    (hW : DataW.Whole enc Tryd.prog Tryd.f4.params.toList Rows.streamPlaysSpec.vars false W args.toList ds gs before) (hsz : (DataW.weightsEach Tryd.prog (Tryd.f4.params.toList ++ (OpenSpec.ofChange Rows.streamPlaysSpec).bare.plain.varTypes Tryd.prog) (ds ++ gs)).all (· ≤ reachBytes) = true) (hL : laidMetH Tryd.prog Rows.streamPlaysRow.laid W) :
    Calls Tryd.prog 4 args W fun e W' => ∃ v, e = .returned v ∧ Rows.streamPlaysSpec.post enc Tryd.prog Tryd.f4 false true false false W args v W' := by
  have hW' := hW
  obtain ⟨p, q, hA0, hV, rfl, hfz, hnd⟩ := hW
  have hA : DataW.TrodAll enc Tryd.prog W 0 (fun _ => true) true Tryd.f4.params.toList args.toList ds p := hA0
  rw [Tryd.params4] at hA hval
  obtain ⟨v0, vs0, d0, ds0, p0, q0, hargs, rfl, rfl, h0, r0⟩ := trodAll_cons hA
  obtain ⟨v1, vs1, d1, ds1, p1, q1, rfl, rfl, rfl, h1, r1⟩ := trodAll_cons r0
  obtain ⟨rfl, rfl, rfl⟩ := trodAll_nil r1
  obtain rfl : args = #[v0, v1] := by cases args; simp_all
  obtain ⟨rfl, rfl⟩ := trodVars_none hV
  obtain ⟨a0, len0, cap0, rfl⟩ := okWide_slice Tryd.underlying22 (hval 0 22 v0 rfl rfl)
  have k0 := h0
  have lt0 : ∀ x ∈ p0, x.block < W.heap.size := by obtain ⟨m, hm⟩ := k0; exact DataW.trod_lt m _ _ _ hm
  obtain ⟨z0, w0⟩ : ∃ zs, IntRowsIn W (.slice a0 len0 cap0) zs := by
    obtain ⟨fuel, hf⟩ := h0
    exact intRowsIn_open Tryd.underlying22 Tryd.underlying33 Tryd.underlying3 (by kernel_rfl) (by kernel_rfl) hf lt0
  obtain ⟨a1, len1, cap1, rfl⟩ := okWide_slice Tryd.underlying38 (hval 1 38 v1 rfl rfl)
  have k1 := h1
  have lt1 : ∀ x ∈ p1, x.block < W.heap.size := by obtain ⟨m, hm⟩ := k1; exact DataW.trod_lt m _ _ _ hm
  obtain ⟨z1, w1⟩ : ∃ zs, StrsInS W (.slice a1 len1 cap1) zs := by
    obtain ⟨fuel, hf⟩ := h1
    exact strsIn_open_sized Tryd.underlying38 Tryd.underlying9 (by kernel_rfl) hf lt1 (fun n hn => of_decide_eq_true (List.all_eq_true.1 hsz n (DataW.weights_mem_each (j := 1) rfl rfl n hn)))
  have lw := laidWalk hL
  refine (walk (.slice a0 len0 cap0) z0 (.slice a1 len1 cap1) z1 W w0 w1 lw).mono fun e W' ⟨he, bel⟩ => ?_
  subst he
  exact ⟨_, rfl, _, _, _, [], _, [], hW', trodAll_mk1 (shut_bool Tryd.underlying4 _), (trodAll_cons_mk (Below.trod laidOut (by kernel_rfl) (of_decide_eq_true (by kernel_rfl)) k0 bel lt0) (trodAll_cons_mk (Below.trod laidOut (by kernel_rfl) (of_decide_eq_true (by kernel_rfl)) k1 bel lt1) trodAll_mk0)), rfl, bel.frame _, fun h => by cases h⟩

theorem reads (os : Os) {H : Type} (enc : TypeId × Value → H) : ∃ places, DataW.whole enc Tryd.prog ((laidWorld os).forCall (fun _ _ => 0) ⟨#[], #[.slice none 0 0, .slice none 0 0], []⟩).memory Tryd.f4.params.toList Rows.streamPlaysSpec.vars false (#[.slice none 0 0, .slice none 0 0] : Array Value).toList 8 = some ([.nil, .nil], [], places) :=
  ⟨[], by kernel_rfl⟩
theorem laid_met (os : Os) : laidMetH Tryd.prog Rows.streamPlaysRow.laid ((laidWorld os).forCall (fun _ _ => 0) ⟨#[], #[.slice none 0 0, .slice none 0 0], []⟩).memory := laidMetW os _

set_option maxRecDepth 100000 in
theorem lifted (os : Os) (started : os.Started) (H : Type) (enc : TypeId × Value → H) (F : Stop.Interp) :
    ReturnsInHanded {} Tryd.checked os 4 .any ((OpenSpec.ofChange Rows.streamPlaysSpec).preRow enc Tryd.prog Tryd.f4 Rows.streamPlaysRow.domain false Rows.streamPlaysRow.laid) (((OpenSpec.ofChange Rows.streamPlaysSpec).at F).post enc Tryd.prog Tryd.f4 false true false false) := by
  obtain ⟨places, hx⟩ := reads os enc
  refine returnsInHanded_of_row (C := Tryd.checked) (s := OpenSpec.ofChange Rows.streamPlaysSpec) own started (by kernel_rfl) Tryd.func4
    (witness_row_at (enc := enc) (C := Tryd.checked) false (laidWorld os) #[.slice none 0 0, .slice none 0 0] rfl (by kernel_rfl) (by kernel_rfl) (by kernel_rfl)
      (OpenSpec.preRow_of_cond 8 hx (by kernel_rfl) (fun k hk => by cases hk) (by kernel_rfl) (laid_met os))) ?_
  intro W base args ds gs before hval hW _ _ hsz hL _ _
  exact contract H enc W base args ds gs before hval hW hsz hL

theorem said : Rows.StreamPlaysSaid :=
  OpenClaim.holds_of_cond 4 Tryd.f4 rfl rfl rfl rfl rfl rfl rfl ⟨rfl, rfl, rfl, rfl, rfl⟩ rfl rfl rfl rfl rfl (by kernel_rfl) Tryd.func4 (by kernel_rfl)
    (of_decide_eq_true (by kernel_rfl)) (by unfold Func.isWrapper; first | (rw [if_pos (by decide +kernel)]; kernel_rfl) | (rw [if_neg (by decide +kernel)]; exact ⟨rfl, rfl⟩))
    (fun os started H enc _ F => by rw [OpenClaim.pre_eq_preRow]; exact lifted os started H enc F)

theorem plain (f : FuncId) (fn : Func) (hf : Tryd.pinned.checked.prog.funcNamed "wanderwire/wirelaw1.StreamPlays" = some f) (hfn : Tryd.pinned.checked.prog.funcs[f]? = some fn) :
    true = Tryd.pinned.checked.prog.looks [] ∧ ∀ (j : Nat) t, fn.params[j]? = some t → Tryd.pinned.checked.prog.wantsStandIn t = false := by
  obtain rfl : f = 4 := Option.some.inj ((show Tryd.prog.funcNamed "wanderwire/wirelaw1.StreamPlays" = some 4 by kernel_rfl).symm.trans hf) |>.symm
  obtain rfl : fn = Tryd.f4 := (Option.some.inj (Tryd.func4.symm.trans hfn)).symm
  refine ⟨by kernel_rfl, fun j t ht => ?_⟩
  rw [Tryd.params4] at ht
  have ht' := Array.mem_of_getElem? ht
  have hall : (([22, 38] : List Nat).all fun t => !Tryd.prog.wantsStandIn t) = true := by kernel_rfl
  have hq := List.all_eq_true.1 hall t (by simpa using ht')
  have hq2 : Tryd.prog.wantsStandIn t = false := by simpa using hq
  exact hq2

theorem card : Rows.StreamPlaysCardSaid :=
  Claim7.holds_tied_plain_at .later [] _ _ _ _ said (fun _ h => by cases h) (by kernel_rfl) (fun _ h => by cases h) streamPlays_row_tie rfl ⟨rfl, rfl⟩ (by kernel_rfl) rfl plain (by kernel_rfl)
#print axioms card
end Go.Proofs.YtbmfknnbpnllkaaDoor.streamPlays
