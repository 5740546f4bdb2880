/- LinkPlays: for every steps and texts the law returns true: whatever is sent, comes, is lost and doubled is answered as the reference says, and as many are on their way. Condition: errors.errorType holds its handle (the row lists it, the card ties it). -/
import Derived.Test.YtbmfknnbpnllkaaDoorBase
import Derived.Test.YtbmfknnbpnllkaaDoorTold
import Derived.Test.YtbmfknnbpnllkaaDoorLaid
import Derived.Test.YtbmfknnbpnllkaaDoorOnly
import Derived.Test.YtbmfknnbpnllkaaDoorSince
import Derived.Test.YtbmfknnbpnllkaaDoorRules
import Derived.Test.YtbmfknnbpnllkaaDoorOut
import Derived.Test.YtbmfknnbpnllkaaDoorLst
import Derived.Test.YtbmfknnbpnllkaaDoorRow
import Derived.Test.YtbmfknnbpnllkaaDoorDelG
import Derived.Test.YtbmfknnbpnllkaaDoorLnk
import Derived.Test.YtbmfknnbpnllkaaDoorGive
import Derived.Test.YtbmfknnbpnllkaaDoorRTalk
import Derived.Test.YtbmfknnbpnllkaaDoorIns
import Derived.Deep.DeepCutAuto
import Derived.Deep.RegionHeld3
import Derived.Test.YtbmfknnbpnllkaaDoorCards
import Derived.Test.YtbmfknnbpnllkaaDoorTie
import Derived.Deep.DeepHandedRow
import Derived.LaidLaws
import Derived.LaidHandle
import Derived.Deep.DeepWitnessRowRef
import Derived.Test.YtbmfknnbpnllkaaDoorRows
import Derived.WalkKit
import Derived.ProofKit
import Derived.OpenShut
import Derived.ShutString
import Derived.ChangeOld
import Derived.Below
import Derived.Lib.SmallJoins
import Derived.Deep.Slices
import Derived.Deep.Matrix
import Derived.Deep.Strs
namespace Go.Proofs.YtbmfknnbpnllkaaDoor.linkPlays
open Go.ChangeShapes Go.WideShapes Go.ChangeAt Go.RowKit
open Go.ChangeMaps (open_string shut_string)
set_option linter.unusedVariables false

noncomputable abbrev laidWorld := YtbmfknnbpnllkaaDoor.laidWorld
theorem laidMetW (os : Os) (args : Array Value) : laidMetH Tryd.prog Rows.linkPlaysRow.laid ((laidWorld os).forCall (fun _ _ => 0) ⟨#[], args, []⟩).memory := laidMet_et os args
theorem laidWalk {W : World} (h : laidMetH Tryd.prog Rows.linkPlaysRow.laid W) : ETok W := laid_et h
/-- the link and the talk, in blocks apart and new -/
structure Duo (w wx : World) (g gm : Nat) (v vm : Value) (L L2 : List Let) : Prop where
  kz : Kz wx g v L
  tz : Tz wx gm (.pointer none) (.pointer none) vm L2
  newK : ∀ k, k ∈ g :: blocks v → w.heap.size ≤ k ∧ k ∉ gm :: blocks vm
  newT : ∀ k, k ∈ gm :: blocks vm → w.heap.size ≤ k
  since : Since w wx
/-- and the row that is read, in a block of its own -/
structure Trio (w wx : World) (g gm gv : Nat) (v vm : Value) (L L2 : List Let) (x0 x1 : Int) : Prop where
  duo : Duo w wx g gm v vm L L2
  row : BlockIs wx gv 41 #[.int .i64 x0, .int .i64 x1]
  offK : gv ∉ g :: blocks v
  offT : gv ∉ gm :: blocks vm
section
variable {w wx wy : World} {g gm gv : Nat} {v vm : Value} {L L' L2 L2' : List Let} {x0 x1 : Int}
theorem Duo.later (h : Duo w wx g gm v vm L L2) (hb : Below wx.heap.size wx wy) : Duo w wy g gm v vm L L2 := ⟨h.kz.later hb, h.tz.later hb, h.newK, h.newT, h.since.later hb⟩
theorem Trio.later (h : Trio w wx g gm gv v vm L L2 x0 x1) (hb : Below wx.heap.size wx wy) : Trio w wy g gm gv v vm L L2 x0 x1 := ⟨h.duo.later hb, h.row.later hb, h.offK, h.offT⟩
theorem Trio.drew (h : Trio w wx g gm gv v vm L L2 x0 x1) : Trio w wx.drew g gm gv v vm L L2 x0 x1 := h.later (by exact (Since.refl wx).drew)
theorem Trio.stepK (h : Trio w wx g gm gv v vm L L2 x0 x1) (c : KLeft wx wy g v L') : ∃ v', Trio w wy g gm gv v' vm L' L2 x0 x1 := by
  obtain ⟨v', hi, ho, hk⟩ := c
  have hle := h.duo.since.le
  refine ⟨v', ⟨hi, h.duo.tz.kept ho (fun k hk hm => (h.duo.newK k hm).2 hk), ?_, h.duo.newT, h.duo.since.out' ho (fun k hk => (h.duo.newK k hk).1)⟩, ho.block' h.row h.offK, ?_, h.offT⟩
  · intro k hm
    rcases List.mem_cons.1 hm with rfl | hm
    · exact h.duo.newK _ (by simp)
    · rcases hk k hm with h1 | h1
      · exact h.duo.newK k (List.mem_cons_of_mem _ h1)
      · exact ⟨Nat.le_trans hle h1, fun h2 => by have := h.duo.tz.lt k h2; omega⟩
  · intro hm
    rcases List.mem_cons.1 hm with h0 | hm
    · exact h.offK (by simp [h0])
    · rcases hk _ hm with h1 | h1
      · exact h.offK (List.mem_cons_of_mem _ h1)
      · have := h.row.lt; omega
theorem Trio.stepT (h : Trio w wx g gm gv v vm L L2 x0 x1) (c : TLeft wx wy gm (.pointer none) (.pointer none) vm L2') : ∃ vm', Trio w wy g gm gv v vm' L L2' x0 x1 := by
  obtain ⟨vm', hi, ho, hk⟩ := c
  have hle := h.duo.since.le
  refine ⟨vm', ⟨h.duo.kz.kept ho (fun k hk hm => (h.duo.newK k hk).2 hm), hi, ?_, ?_, h.duo.since.out' ho h.duo.newT⟩, ho.block' h.row h.offT, h.offK, ?_⟩
  · intro k hm
    refine ⟨(h.duo.newK k hm).1, fun h2 => ?_⟩
    rcases List.mem_cons.1 h2 with rfl | h2
    · exact (h.duo.newK _ hm).2 (by simp)
    · rcases hk k h2 with h1 | h1
      · exact (h.duo.newK k hm).2 (List.mem_cons_of_mem _ h1)
      · have := h.duo.kz.lt k hm; omega
  · intro k h2
    rcases List.mem_cons.1 h2 with rfl | h2
    · exact h.duo.newT _ (by simp)
    · rcases hk k h2 with h1 | h1
      · exact h.duo.newT k (List.mem_cons_of_mem _ h1)
      · exact Nat.le_trans hle h1
  · intro hm
    rcases List.mem_cons.1 hm with h0 | hm
    · exact h.offT (by simp [h0])
    · rcases hk _ hm with h1 | h1
      · exact h.offT (List.mem_cons_of_mem _ h1)
      · have := h.row.lt; omega
end
def Twins (w wx : World) (g gm : Nat) : Prop := ∃ v vm L, Duo w wx g gm v vm L L

set_option maxRecDepth 100000 in
set_option maxHeartbeats 40000000 in
theorem walk (v0 : Value) (Z : List (List Int)) (v1 : Value) (T : List ByteArray) (w : World) (w0 : IntRowsIn w v0 Z) (w1 : StrsIn w v1 T) (hL : ETok w) :
    Calls Tryd.prog 6 #[v0, v1] w fun e w' => e = .returned (.bool true) ∧ Below w.heap.size w w' := by
  have HE := Lib.hid hL
  obtain ⟨A, cap, rfl, hle0, hm0, hc⟩ := w0
  obtain ⟨hS, A2, cap2, rfl, hle2, hm2, hc2⟩ := w1
  unfold maxLen at hm0 hm2
  have hZ : Z.length ≤ 9223372036854775807 := by omega
  have hT0 : T.length ≤ 9223372036854775807 := by omega
  have HC := Lib.hid hc
  have HC2 := Lib.hid hc2
  have HS := Lib.hid hS
  clear hc hc2 hS hL
  go_enter Tryd.func6, Tryd.ntmps6
  go_wp2_with fail
  refine (knew _).mono ?_
  rintro e w1 ⟨rfl, hk1, hb1⟩
  have hlt1 := hk1.bl.lt
  have hs1 : Since w w1 := hb1
  go_wp2_with fail
  have hT : Twins w (w1.alloc (.cells #[.pointer none, .pointer none, .slice none 0 0] 55)) w.heap.size w1.heap.size := by
    refine ⟨.slice none 0 0, .slice none 0 0, [], hk1.later (by refine Since.out ?_; repeat (first | with_reducible assumption | with_reducible exact Since.refl _ | with_reducible refine Since.later ?_ (by with_reducible assumption) | with_reducible refine Since.only ?_ (by with_reducible assumption) (by first | assumption | omega | (simp; done) | (simp; omega)) | with_reducible refine Since.alloc ?_ _ | with_reducible refine Since.drewN ?_ _ | with_reducible refine Since.drew ?_ | with_reducible refine Since.set ?_ (by first | assumption | omega | (simp; done) | (simp; omega)) _)), ⟨BlockIs.fresh _ _ _, Lst.nil _ _ _, by simp⟩, ?_, ?_, (by refine Since.out ?_; repeat (first | with_reducible assumption | with_reducible exact Since.refl _ | with_reducible refine Since.later ?_ (by with_reducible assumption) | with_reducible refine Since.only ?_ (by with_reducible assumption) (by first | assumption | omega | (simp; done) | (simp; omega)) | with_reducible refine Since.alloc ?_ _ | with_reducible refine Since.drewN ?_ _ | with_reducible refine Since.drew ?_ | with_reducible refine Since.set ?_ (by first | assumption | omega | (simp; done) | (simp; omega)) _))⟩
    · intro k hk
      simp [Value.ownBlock] at hk ⊢
      omega
    · intro k hk
      simp [Value.ownBlock] at hk
      omega
  have HT := Lib.hid hT
  clear hT hk1 hb1 hs1
  generalize w1.alloc (.cells #[.pointer none, .pointer none, .slice none 0 0] 55) = w2 at *
  generalize w1.heap.size = gm at *
  clear hlt1
  generalize hg : w.heap.size = g at HT ⊢
  go_loopw [7] (fun s7 wr => ∃ (k : Nat), s7 = .int .i64 k ∧ k ≤ 150 ∧ Twins w wr g gm) (fun i _ => 150 - (intOf i).toNat)
  case atStart => exact ⟨0, rfl, by omega, HT.out⟩
  case round =>
    obtain ⟨k, rfl, hk, hT⟩ := hrel
    by_cases hlen : k < Z.length
    case neg =>
      have hlen' : decide ((k : Int) < (Z.length : Int)) = false := by simp; omega
      obtain ⟨v, vm, L, hT⟩ := hT
      have hs := hT.since
      clear hT
      go_wp2_with fail
      go_ret
      exact ⟨rfl, by subst hg; exact (by refine Since.out ?_; repeat (first | with_reducible assumption | with_reducible exact Since.refl _ | with_reducible refine Since.later ?_ (by with_reducible assumption) | with_reducible refine Since.only ?_ (by with_reducible assumption) (by first | assumption | omega | (simp; done) | (simp; omega)) | with_reducible refine Since.alloc ?_ _ | with_reducible refine Since.drewN ?_ _ | with_reducible refine Since.drew ?_ | with_reducible refine Since.set ?_ (by first | assumption | omega | (simp; done) | (simp; omega)) _))⟩
    by_cases h100 : k < 150
    case neg =>
      have hlen' : (k : Int) < (Z.length : Int) := by omega
      have h100' : decide ((k : Int) < 150) = false := by simp; omega
      obtain ⟨v, vm, L, hT⟩ := hT
      have hs := hT.since
      clear hT
      go_wp2_with fail
      go_ret
      exact ⟨rfl, by subst hg; exact (by refine Since.out ?_; repeat (first | with_reducible assumption | with_reducible exact Since.refl _ | with_reducible refine Since.later ?_ (by with_reducible assumption) | with_reducible refine Since.only ?_ (by with_reducible assumption) (by first | assumption | omega | (simp; done) | (simp; omega)) | with_reducible refine Since.alloc ?_ _ | with_reducible refine Since.drewN ?_ _ | with_reducible refine Since.drew ?_ | with_reducible refine Since.set ?_ (by first | assumption | omega | (simp; done) | (simp; omega)) _))⟩
    have hlen' : (k : Int) < (Z.length : Int) := by omega
    have h100' : (k : Int) < 150 := by omega
    obtain ⟨b, off, rfl, hlt, hc⟩ := HC.out (by rintro rfl; simp at hlen)
    obtain ⟨x, hx, hI⟩ := hc k hlen
    clear hc
    generalize Z.getD k [] = r at *
    obtain ⟨bdr, A', cap', rfl, hle', hm', hcr⟩ := hI
    have HX := Lib.hid hx
    have HR := Lib.hid hcr
    have HBD := Lib.hid (ith_bounds bdr)
    unfold maxLen at hm'
    clear hx hcr bdr
    obtain ⟨v, vm, L, hT⟩ := hT
    have HTW := Lib.hid hT
    have hs : Since w wr := hT.since
    clear hT
    obtain ⟨wo, rfl⟩ : ∃ wo : World, wo = wr := ⟨_, rfl⟩
    repeat ((fail_if_success (with_reducible refine stop_at 7 ?_)); first | fail | go_values | go_skip | go_guarded | go_step | go_upon | go_back | go_simp)
    go_cut [] (fun wx => BlockIs wx wo.heap.size 41 #[.int .i64 (ith r 0), .int .i64 (ith r 1)] ∧ Since wo wx)
    case first =>
      go_wp2_with fail
      go_loopw [9] (fun sj wi => ∃ j : Nat, sj = .int .i64 j ∧ j ≤ 2 ∧ j ≤ r.length ∧ BlockIs wi wo.heap.size 41 #[.int .i64 (vv r j 0), .int .i64 (vv r j 1)] ∧ Since wo wi) (fun i _ => 2 - (intOf i).toNat)
      case atStart => exact ⟨0, rfl, by omega, by omega, BlockIs.fresh _ _ _, (by refine Since.out ?_; repeat (first | with_reducible assumption | with_reducible exact Since.refl _ | with_reducible refine Since.later ?_ (by with_reducible assumption) | with_reducible refine Since.only ?_ (by with_reducible assumption) (by first | assumption | omega | (simp; done) | (simp; omega)) | with_reducible refine Since.alloc ?_ _ | with_reducible refine Since.drewN ?_ _ | with_reducible refine Since.drew ?_ | with_reducible refine Since.set ?_ (by first | assumption | omega | (simp; done) | (simp; omega)) _))⟩
      case round =>
        obtain ⟨j, rfl, hj2, hjr, hB, hs2⟩ := hrel
        have cx : wr.cell? ⟨b, off + k, none⟩ = some (.slice A' r.length cap') := hs2.cell (Nat.lt_of_lt_of_le hlt hs.le) (hs.cell hlt HX.out)
        by_cases hjl : j < r.length
        case neg =>
          have hjl' : decide ((j : Int) < (r.length : Int)) = false := by simp; omega
          have HB := Lib.hid (vv_end2 (Or.inl (by omega : r.length ≤ j)) ▸ hB)
          clear hB
          go_wp2_with fail
          go_meet
          case rel => exact ⟨HB.out, hs2⟩
        by_cases hj2' : j < 2
        case neg =>
          have hj3 : decide ((j : Int) < 2) = false := by simp; omega
          have hjl' : (j : Int) < (r.length : Int) := by omega
          have HB := Lib.hid (vv_end2 (r := r) (Or.inr (by omega : 2 ≤ j)) ▸ hB)
          clear hB
          go_wp2_with fail
          go_meet
          case rel => exact ⟨HB.out, hs2⟩
        have hjl' : (j : Int) < (r.length : Int) := by omega
        have hj3 : (j : Int) < 2 := by omega
        obtain ⟨b2, off2, rfl, hlt2, hc2⟩ := HR.out (by rintro rfl; simp at hjl)
        have cj : wr.cell? ⟨b2, off2 + j, none⟩ = some (.int .i64 (ith r j)) := hs2.cell (Nat.lt_of_lt_of_le hlt2 hs.le) (hs.cell hlt2 (hc2 j hjl))
        have fj := hB.free
        have ij : wr.cell? ⟨wo.heap.size, j, none⟩ = some (.int .i64 0) := (hB.cell j).trans (vv_next2 r hj2').1
        have HB := Lib.hid ((vv_next2 r hj2').2 ▸ hB.put j (.int .i64 (ith r j)))
        clear hc2 hB
        go_wp2_with fail
        go_roundw
        case rel => exact ⟨j + 1, by go_num, by omega, by omega, HB.out, (by refine Since.out ?_; repeat (first | with_reducible assumption | with_reducible exact Since.refl _ | with_reducible refine Since.later ?_ (by with_reducible assumption) | with_reducible refine Since.only ?_ (by with_reducible assumption) (by first | assumption | omega | (simp; done) | (simp; omega)) | with_reducible refine Since.alloc ?_ _ | with_reducible refine Since.drewN ?_ _ | with_reducible refine Since.drew ?_ | with_reducible refine Since.set ?_ (by first | assumption | omega | (simp; done) | (simp; omega)) _))⟩
        case measure => simp [intOf]; omega
    case rest =>
      as_aux_lemma =>
        obtain ⟨wv, rfl⟩ : ∃ wv : World, wv = wc := ⟨_, rfl⟩
        obtain ⟨hBv, hs2⟩ := hcut
        have hT3 : Trio w wv g gm wo.heap.size v vm L L (ith r 0) (ith r 1) :=
          ⟨HTW.out.later hs2, hBv, fun hm => by have := HTW.out.kz.lt _ hm; omega, fun hm => by have := HTW.out.tz.lt _ hm; omega⟩
        have HT3 := Lib.hid hT3
        generalize ith r 0 = x0 at *
        generalize ith r 1 = x1 at *
        clear hBv hT3 hs hs2 HX HR HTW
        generalize wo.heap.size = gv at *
        repeat ((fail_if_success (with_reducible refine stop_at 12 ?_)); first | fail | go_values | go_skip | go_guarded | go_step | go_upon | go_back | go_simp)
        obtain ⟨wq, rfl⟩ : ∃ wq : World, wq = wv := ⟨_, rfl⟩
        go_cut [10] (fun s10 wx => ∃ d : ByteArray, s10 = .string d ∧ d.size ≤ 9223372036854775807 ∧ Since wq wx)
        case first =>
          as_aux_lemma =>
            by_cases hkT : k < T.length
            · have hkT' : (k : Int) < (T.length : Int) := by omega
              obtain ⟨b2, off2, rfl, hlt2, hc2⟩ := HC2.out (by rintro rfl; simp at hkT)
              have ct : wq.cell? ⟨b2, off2 + k, none⟩ = some (.string (sth T k)) := HT3.out.duo.since.cell (by subst hg; exact hlt2) (hc2 k hkT)
              have hsz := HS.out k
              unfold maxLen at hsz
              clear hc2
              generalize sth T k = d at *
              go_wp2_with fail
              go_meet
              case rel => exact ⟨d, rfl, by omega, Since.refl _⟩
            · have hkT' : decide ((k : Int) < (T.length : Int)) = false := by simp; omega
              go_wp2_with fail
              go_meet
              case rel => exact ⟨⟨#[]⟩, rfl, by show 0 ≤ _; omega, Since.refl _⟩
        case rest =>
          as_aux_lemma =>
            obtain ⟨wv, rfl⟩ : ∃ wv : World, wv = wc := ⟨_, rfl⟩
            obtain ⟨d, rfl, hsz, hsd⟩ := hcut
            have HT4 := Lib.hid (HT3.out.later hsd)
            have cv0 : wv.cell? ⟨gv, 0, none⟩ = some (.int .i64 x0) := HT4.out.row.cell 0
            have cv1 : wv.cell? ⟨gv, 1, none⟩ = some (.int .i64 x1) := HT4.out.row.cell 1
            clear HT3 hsd
            repeat ((fail_if_success (with_reducible refine stop_at 15 ?_)); first | fail | go_values | go_skip | go_guarded | go_step | go_upon | go_back | go_simp)
            go_cut [11] (fun s11 wx => s11 = .bool true ∧ Twins w wx g gm)
            case first =>
              as_aux_lemma =>
                by_cases h0 : x0 = 0
                · have h0' : (x0 == 0) = true := by simpa using h0
                  clear h0
                  as_aux_lemma =>
                    go_wp2_with fail
                    refine (tout gm (.pointer none) (.pointer none) vm L x1 _ HT4.out.duo.tz).mono ?_
                    rintro e w5 ⟨rfl, h5⟩
                    obtain ⟨vm5, hT5⟩ := HT4.out.stepT h5
                    have c1 : w5.cell? ⟨gv, 1, none⟩ = some (.int .i64 x1) := hT5.row.cell 1
                    have lv := hT5.row.lt
                    have HT5 := Lib.hid hT5
                    generalize hD : giveD L x1 = D
                    obtain ⟨dt, db⟩ := D
                    have HD := Lib.hid hD
                    clear h5 hT5 cv0 cv1 hD
                    go_wp2_with fail
                    have hA : Since w5 (w5.alloc (.cells #[.int .i64 dt, .string db] 57)) := (Since.refl _).alloc _
                    refine (kgive g v L x1 _ (HT5.out.later hA).duo.kz).mono ?_
                    rintro e w6 ⟨rfl, h6⟩
                    obtain ⟨_, _, ho6, _⟩ := id h6
                    have hB6 : BlockIs w6 w5.heap.size 57 #[.int .i64 dt, .string db] := ho6.block' (BlockIs.fresh _ _ _) (fun hm => by have := HT5.out.duo.kz.lt _ hm; omega)
                    obtain ⟨v6, hT6⟩ := (HT5.out.later hA).stepK h6
                    rw [HD.out]
                    have HT6 := Lib.hid hT6
                    have HB6 := Lib.hid hB6
                    clear h6 hT6 ho6 c1 hB6
                    generalize w5.heap.size = d5 at *
                    go_wp2_with fail
                    refine (same_yes (giveE L x1) _ (HE.out.later HT6.out.duo.since)).mono ?_
                    rintro e w7 ⟨rfl, hb7⟩
                    have hB7 := HB6.out.later hb7
                    have e0 : w7.cell? ⟨d5, 0, none⟩ = some (.int .i64 dt) := hB7.cell 0
                    have e1 : w7.cell? ⟨d5, 1, none⟩ = some (.string db) := hB7.cell 1
                    go_wp2_with fail
                    go_meet
                    case rel => exact ⟨by first | rfl | simp, _, _, _, (HT6.out.later hb7).duo⟩
                have h0' : (x0 == 0) = false := by simpa using h0
                clear h0
                by_cases h1 : x0 = 1
                · have h1' : (x0 == 1) = true := by simpa using h1
                  clear h1
                  as_aux_lemma =>
                    go_wp2_with fail
                    refine (tout gm (.pointer none) (.pointer none) vm L x1 _ HT4.out.duo.tz).mono ?_
                    rintro e w5 ⟨rfl, h5⟩
                    obtain ⟨vm5, hT5⟩ := HT4.out.stepT h5
                    have c1 : w5.cell? ⟨gv, 1, none⟩ = some (.int .i64 x1) := hT5.row.cell 1
                    have lv := hT5.row.lt
                    have HT5 := Lib.hid hT5
                    generalize hD : giveD L x1 = D
                    obtain ⟨dt, db⟩ := D
                    clear h5 hT5 cv0 cv1 hD
                    go_wp2_with fail
                    have hA : Since w5 (w5.alloc (.cells #[.int .i64 dt, .string db] 57)) := (Since.refl _).alloc _
                    refine (klose g v L x1 _ (HT5.out.later hA).duo.kz).mono ?_
                    rintro e w6 ⟨rfl, h6⟩
                    obtain ⟨v6, hT6⟩ := (HT5.out.later hA).stepK h6
                    have HT6 := Lib.hid hT6
                    clear h6 hT6 c1
                    go_wp2_with fail
                    refine (same_yes (giveE L x1) _ (HE.out.later HT6.out.duo.since)).mono ?_
                    rintro e w7 ⟨rfl, hb7⟩
                    go_wp2_with fail
                    go_meet
                    case rel => exact ⟨by first | rfl | simp, _, _, _, (HT6.out.later hb7).duo⟩
                have h1' : (x0 == 1) = false := by simpa using h1
                clear h1
                by_cases h2 : x0 = 2
                · have h2' : (x0 == 2) = true := by simpa using h2
                  have c1 := Lib.hid cv1
                  clear h2
                  as_aux_lemma =>
                    go_wp2_with fail
                    go_region_held3 (fun w' => w'.cell? ⟨gv, 1, none⟩ = some (.int .i64 x1)) (first | exact c1.out | exact cq1.out | exact cq2.out | exact cq3.out) (first | (go_at_call 28; refine (ktwice g v L x1 _ ?_).mono ?_; (first | exact HT4.out.duo.kz | exact HT4.out.drew.duo.kz | exact HTb.out.duo.kz | exact HTb.out.drew.duo.kz); rintro e w5 ⟨rfl, h⟩; (first | (obtain ⟨v5, ha⟩ := HTb.out.stepK h; have cq1 := Lib.hid (ha.row.cell 1); have HTa := Lib.hid ha; clear ha) | (obtain ⟨v5, ha⟩ := HTb.out.drew.stepK h; have cq1 := Lib.hid (ha.row.cell 1); have HTa := Lib.hid ha; clear ha) | (obtain ⟨v5, ha⟩ := HT4.out.stepK h; have cq1 := Lib.hid (ha.row.cell 1); have HTa := Lib.hid ha; clear ha) | (obtain ⟨v5, ha⟩ := HT4.out.drew.stepK h; have cq1 := Lib.hid (ha.row.cell 1); have HTa := Lib.hid ha; clear ha)); clear h) | (go_at_call 29; refine (ttwice gm (.pointer none) (.pointer none) vm L x1 _ ?_).mono ?_; (first | exact HT4.out.duo.tz | exact HT4.out.drew.duo.tz | exact HTa.out.duo.tz | exact HTa.out.drew.duo.tz); rintro e w6 ⟨rfl, h⟩; (first | (obtain ⟨v6, ha⟩ := HTa.out.stepT h; have cq2 := Lib.hid (ha.row.cell 1); have HTb := Lib.hid ha; clear ha) | (obtain ⟨v6, ha⟩ := HTa.out.drew.stepT h; have cq2 := Lib.hid (ha.row.cell 1); have HTb := Lib.hid ha; clear ha) | (obtain ⟨v6, ha⟩ := HT4.out.stepT h; have cq2 := Lib.hid (ha.row.cell 1); have HTb := Lib.hid ha; clear ha) | (obtain ⟨v6, ha⟩ := HT4.out.drew.stepT h; have cq2 := Lib.hid (ha.row.cell 1); have HTb := Lib.hid ha; clear ha)); clear h) | (go_at_call 13; refine (same_yes (twiceE L x1) _ ?_).mono ?_; (first | exact HE.out.later HTb.out.duo.since | exact HE.out.later HTa.out.duo.since | exact HE.out.later HTb.out.drew.duo.since | exact HE.out.later HTa.out.drew.duo.since); rintro e w7 ⟨rfl, hb7⟩; first | (have hF : Trio w w7 g gm gv _ _ (twiceL L x1) (twiceL L x1) x0 x1 := HTb.out.later hb7; have cq3 := Lib.hid (hF.row.cell 1); have HF := Lib.hid hF; clear hF) | (have hF : Trio w w7 g gm gv _ _ (twiceL L x1) (twiceL L x1) x0 x1 := HTa.out.later hb7; have cq3 := Lib.hid (hF.row.cell 1); have HF := Lib.hid hF; clear hF)))
                    all_goals
                      go_wp2_with fail
                      go_meet
                      case rel => exact ⟨by first | rfl | simp, _, _, _, HF.out.duo⟩
                have h2' : (x0 == 2) = false := by simpa using h2
                clear h2
                repeat ((fail_if_success (with_reducible refine stop_at 17 ?_)); first | fail | go_values | go_skip | go_guarded | go_step | go_upon | go_back | go_simp)
                obtain ⟨wq2, rfl⟩ : ∃ wq2 : World, wq2 = wv := ⟨_, rfl⟩
                go_cut [19] (fun s19 wx => s19 = .int .i64 (sendE L x1 d) ∧ ∃ vm', Trio w wx g gm gv v vm' L (sendL L x1 d) x0 x1)
                case first =>
                  as_aux_lemma =>
                    have c2 : wq2.cell? ⟨gm, 2, none⟩ = some vm := HT4.out.duo.tz.bl.cell 2
                    have f2 := HT4.out.duo.tz.bl.free
                    have l2 := HT4.out.duo.tz.bl.lt
                    obtain ⟨A5, cap5, hve, _, _, _⟩ := HT4.out.duo.tz.ls.shape
                    rw [List.length_map] at hve
                    subst hve
                    by_cases hw : whoB x1 = true
                    case neg =>
                      have E : Hid (sendE L x1 d = 1) := Lib.hid (by unfold sendE; rw [if_neg hw])
                      have EL : Hid (sendL L x1 d = L) := Lib.hid (by unfold sendL; rw [E.out, if_neg (by decide)])
                      have a0 : (x1 != 0) = true := by simp; rintro rfl; exact hw (by decide)
                      have a1 : (x1 != 1) = true := by simp; rintro rfl; exact hw (by decide)
                      clear hw
                      go_wp2_with fail
                      go_meet
                      case rel => exact ⟨by rw [E.out], _, by rw [EL.out]; exact HT4.out⟩
                    have HW := Lib.hid hw
                    have hx : x1 = 0 ∨ x1 = 1 := by unfold whoB at hw; simpa using hw
                    have hg17 : (x1 != 0) = false ∨ ((x1 != 0) = true ∧ (x1 != 1) = false) := by rcases hx with rfl | rfl; exact Or.inl (by decide); exact Or.inr ⟨by decide, by decide⟩
                    clear hw hx
                    by_cases h40 : L.length = 40
                    · have E : Hid (sendE L x1 d = 4) := Lib.hid (by unfold sendE; rw [if_pos HW.out, if_pos (Or.inl h40)])
                      have EL : Hid (sendL L x1 d = L) := Lib.hid (by unfold sendL; rw [E.out, if_neg (by decide)])
                      have h40' : decide (40 ≤ (L.length : Int)) = true := by simp; omega
                      clear h40
                      rcases hg17 with a0 | ⟨a0, a1⟩
                      · go_wp2_with fail
                        go_meet
                        case rel => exact ⟨by rw [E.out], _, by rw [EL.out]; exact HT4.out⟩
                      · go_wp2_with fail
                        go_meet
                        case rel => exact ⟨by rw [E.out], _, by rw [EL.out]; exact HT4.out⟩
                    have hfew := HT4.out.duo.kz.few
                    have h40' : decide (40 ≤ (L.length : Int)) = false := by simp; omega
                    have hlt40 : L.length < 40 := by omega
                    by_cases h200 : 200 < d.size
                    · have E : Hid (sendE L x1 d = 4) := Lib.hid (by unfold sendE; rw [if_pos HW.out, if_pos (Or.inr h200)])
                      have EL : Hid (sendL L x1 d = L) := Lib.hid (by unfold sendL; rw [E.out, if_neg (by decide)])
                      have h200' : decide (200 < (d.size : Int)) = true := by simp; omega
                      clear h40
                      rcases hg17 with a0 | ⟨a0, a1⟩
                      · go_wp2_with fail
                        go_meet
                        case rel => exact ⟨by rw [E.out], _, by rw [EL.out]; exact HT4.out⟩
                      · go_wp2_with fail
                        go_meet
                        case rel => exact ⟨by rw [E.out], _, by rw [EL.out]; exact HT4.out⟩
                    have E : Hid (sendE L x1 d = 0) := Lib.hid (by unfold sendE; rw [if_pos HW.out, if_neg (by omega)])
                    have EL : Hid (sendL L x1 d = L ++ [⟨x1, d⟩]) := Lib.hid (by unfold sendL; rw [E.out, if_pos rfl])
                    have h200' : decide (200 < (d.size : Int)) = false := by simp; omega
                    have hmm : (L.map letRow).length = L.length := List.length_map ..
                    have hga := HT4.out.duo.tz.ls.apart HT4.out.duo.tz.bl (by decide)
                    have HML := Lib.hid hmm
                    have HGA := Lib.hid hga
                    clear h40 h200 hmm hga
                    rcases hg17 with a0 | ⟨a0, a1⟩
                    all_goals
                      go_wp2_with fail
                      go_region_law ((refine step_push rfl _ _ 53 rfl 57 2 24 Tryd.elRLet (.slice A5 L.length cap5) (L.map letRow) rfl ?_ wq2.heap.size 1 [.int .i64 x1, .string d] rfl rfl (letRow_one ⟨x1, d⟩).2 ?_ ?_ ?_; (first | exact (HT4.out.duo.tz.ls.alloc _).drew | exact HT4.out.duo.tz.ls.alloc _); (exact BlockIs.fresh wq2 _ _); (rw [HML.out]; omega); intro q5 cq w5 hl5 ho5 hq5 hlt5; have hb5 := ho5.block' (HT4.out.duo.tz.bl.alloc _) HGA.out; have f5 := hb5.free; have d5 : w5.cell? ⟨gm, 2, none⟩ = some (.slice A5 L.length cap5) := hb5.cell 2; have l5 := hb5.lt))
                      all_goals
                        rw [HML.out] at hl5
                        have hO5 : Out wq2 w5 (gm :: blocks (.slice A5 L.length cap5)) := by
                          first
                            | exact ((Out.refl wq2 _).alloc _).then' ho5 (fun k hk => Or.inl (List.mem_cons_of_mem _ hk))
                            | exact (((Out.refl wq2 _).alloc _).drew).then' ho5 (fun k hk => Or.inl (List.mem_cons_of_mem _ hk))
                        have hKP := tpush ⟨x1, d⟩ hb5 hl5 hO5 (hq5.imp id (fun h => by simp at h; omega)) hlt40
                        have HKP := Lib.hid hKP
                        clear hKP hl5 ho5 hq5 hO5 d5
                        go_wp2_with fail
                        go_meet
                        case rel => exact ⟨by rw [E.out], by
                          rw [EL.out]
                          first
                            | exact HT4.out.stepT HKP.out
                            | exact (HT4.out.stepT HKP.out).imp fun _ h => h.drew⟩
                case rest =>
                  as_aux_lemma =>
                    obtain ⟨wt, rfl⟩ : ∃ wt : World, wt = wc := ⟨_, rfl⟩
                    obtain ⟨rfl, vm', hT5⟩ := hcut
                    have c1 : wt.cell? ⟨gv, 1, none⟩ = some (.int .i64 x1) := hT5.row.cell 1
                    have lv := hT5.row.lt
                    have HT5 := Lib.hid hT5
                    clear hT5 HT4 cv0 cv1
                    go_wp2_with fail
                    refine (ksend g v L x1 d _ HT5.out.duo.kz hsz).mono ?_
                    rintro e w6 ⟨rfl, h6⟩
                    obtain ⟨v6, hT6⟩ := HT5.out.stepK h6
                    have HT6 := Lib.hid hT6
                    clear h6 hT6 c1
                    go_wp2_with fail
                    refine (same_yes (sendE L x1 d) _ (HE.out.later HT6.out.duo.since)).mono ?_
                    rintro e w7 ⟨rfl, hb7⟩
                    go_wp2_with fail
                    go_meet
                    case rel => exact ⟨by first | rfl | simp, _, _, _, (HT6.out.later hb7).duo⟩
            case rest =>
              as_aux_lemma =>
                obtain ⟨wz, rfl⟩ : ∃ wz : World, wz = wc := ⟨_, rfl⟩
                obtain ⟨rfl, v', vm', L', hT'⟩ := hcut
                have lm := hT'.tz.bl.lt
                have cm : wz.cell? ⟨gm, 2, none⟩ = some vm' := hT'.tz.bl.cell 2
                obtain ⟨A5, cap5, hve, _, _, _⟩ := hT'.tz.ls.shape
                rw [List.length_map] at hve
                subst hve
                have hrr : ((L'.length : Int) != (L'.length : Int)) = false := by simp
                have HT5 := Lib.hid hT'
                clear hT' HT4 cv0 cv1
                go_wp2_with fail
                go_quiet ((go_at_call 23; exact quiet_a (kcount _ _ _ _ (HT5.out.kz.later ((Since.refl wz).drewN _)))))
                go_wp2_with fail
                go_roundw
                case rel => exact ⟨k + 1, by go_num, by omega, v', _, L', HT5.out.later (by refine Since.out ?_; repeat (first | with_reducible assumption | with_reducible exact Since.refl _ | with_reducible refine Since.later ?_ (by with_reducible assumption) | with_reducible refine Since.only ?_ (by with_reducible assumption) (by first | assumption | omega | (simp; done) | (simp; omega)) | with_reducible refine Since.alloc ?_ _ | with_reducible refine Since.drewN ?_ _ | with_reducible refine Since.drew ?_ | with_reducible refine Since.set ?_ (by first | assumption | omega | (simp; done) | (simp; omega)) _))⟩
                case measure => simp [intOf]; omega

/-! the row -/
theorem own : ownKnob Tryd.prog.godebug = none := by kernel_rfl
theorem laidOut : laidOutB Tryd.prog = true := by kernel_rfl
set_option maxRecDepth 100000 in
theorem contract (H : Type) (enc : TypeId × Value → H) (W : World) (base : Nat) (args : Array Value) (ds gs : List (DataW H)) (before : List MemPlace)
    (hval : ∀ (j : Nat) t v, Tryd.f6.params[j]? = some t → args[j]? = some v → Value.okWide Tryd.prog W .any base t v)
    (hW : DataW.Whole enc Tryd.prog Tryd.f6.params.toList Rows.linkPlaysSpec.vars false W args.toList ds gs before) (hL : laidMetH Tryd.prog Rows.linkPlaysRow.laid W) :
    Calls Tryd.prog 6 args W fun e W' => ∃ v, e = .returned v ∧ Rows.linkPlaysSpec.post enc Tryd.prog Tryd.f6 false true false false W args v W' := by
  have hW' := hW
  obtain ⟨p, q, hA0, hV, rfl, hfz, hnd⟩ := hW
  have hA : DataW.TrodAll enc Tryd.prog W 0 (fun _ => true) true Tryd.f6.params.toList args.toList ds p := hA0
  rw [Tryd.params6] at hA hval
  obtain ⟨v0, vs0, d0, ds0, p0, q0, hargs, rfl, rfl, h0, r0⟩ := trodAll_cons hA
  obtain ⟨v1, vs1, d1, ds1, p1, q1, rfl, rfl, rfl, h1, r1⟩ := trodAll_cons r0
  obtain ⟨rfl, rfl, rfl⟩ := trodAll_nil r1
  obtain rfl : args = #[v0, v1] := by cases args; simp_all
  obtain ⟨rfl, rfl⟩ := trodVars_none hV
  obtain ⟨a0, len0, cap0, rfl⟩ := okWide_slice Tryd.underlying22 (hval 0 22 v0 rfl rfl)
  have k0 := h0
  have lt0 : ∀ x ∈ p0, x.block < W.heap.size := by obtain ⟨m, hm⟩ := k0; exact DataW.trod_lt m _ _ _ hm
  obtain ⟨z0, w0⟩ : ∃ zs, IntRowsIn W (.slice a0 len0 cap0) zs := by
    obtain ⟨fuel, hf⟩ := h0
    exact intRowsIn_open Tryd.underlying22 Tryd.underlying33 Tryd.underlying3 (by kernel_rfl) (by kernel_rfl) hf lt0
  obtain ⟨a1, len1, cap1, rfl⟩ := okWide_slice Tryd.underlying38 (hval 1 38 v1 rfl rfl)
  have k1 := h1
  have lt1 : ∀ x ∈ p1, x.block < W.heap.size := by obtain ⟨m, hm⟩ := k1; exact DataW.trod_lt m _ _ _ hm
  obtain ⟨z1, w1⟩ : ∃ zs, StrsIn W (.slice a1 len1 cap1) zs := by
    obtain ⟨fuel, hf⟩ := h1
    exact strsIn_open Tryd.underlying38 Tryd.underlying9 (by kernel_rfl) hf lt1
  have lw := laidWalk hL
  refine (walk (.slice a0 len0 cap0) z0 (.slice a1 len1 cap1) z1 W w0 w1 lw).mono fun e W' ⟨he, bel⟩ => ?_
  subst he
  exact ⟨_, rfl, _, _, _, [], _, [], hW', trodAll_mk1 (shut_bool Tryd.underlying4 _), (trodAll_cons_mk (Below.trod laidOut (by kernel_rfl) (of_decide_eq_true (by kernel_rfl)) k0 bel lt0) (trodAll_cons_mk (Below.trod laidOut (by kernel_rfl) (of_decide_eq_true (by kernel_rfl)) k1 bel lt1) trodAll_mk0)), rfl, bel.frame _, fun h => by cases h⟩

theorem reads (os : Os) {H : Type} (enc : TypeId × Value → H) : ∃ places, DataW.whole enc Tryd.prog ((laidWorld os).forCall (fun _ _ => 0) ⟨#[], #[.slice none 0 0, .slice none 0 0], []⟩).memory Tryd.f6.params.toList Rows.linkPlaysSpec.vars false (#[.slice none 0 0, .slice none 0 0] : Array Value).toList 8 = some ([.nil, .nil], [], places) :=
  ⟨[], by kernel_rfl⟩
theorem laid_met (os : Os) : laidMetH Tryd.prog Rows.linkPlaysRow.laid ((laidWorld os).forCall (fun _ _ => 0) ⟨#[], #[.slice none 0 0, .slice none 0 0], []⟩).memory := laidMetW os _

set_option maxRecDepth 100000 in
theorem lifted (os : Os) (started : os.Started) (H : Type) (enc : TypeId × Value → H) (F : Stop.Interp) :
    ReturnsInHanded {} Tryd.checked os 6 .any ((OpenSpec.ofChange Rows.linkPlaysSpec).preRow enc Tryd.prog Tryd.f6 Rows.linkPlaysRow.domain false Rows.linkPlaysRow.laid) (((OpenSpec.ofChange Rows.linkPlaysSpec).at F).post enc Tryd.prog Tryd.f6 false true false false) := by
  obtain ⟨places, hx⟩ := reads os enc
  refine returnsInHanded_of_row (C := Tryd.checked) (s := OpenSpec.ofChange Rows.linkPlaysSpec) own started (by kernel_rfl) Tryd.func6
    (witness_row_at (enc := enc) (C := Tryd.checked) false (laidWorld os) #[.slice none 0 0, .slice none 0 0] rfl (by kernel_rfl) (by kernel_rfl) (by kernel_rfl)
      (OpenSpec.preRow_of_cond 8 hx (by kernel_rfl) (fun k hk => by cases hk) (by kernel_rfl) (laid_met os))) ?_
  intro W base args ds gs before hval hW _ _ _ hL _ _
  exact contract H enc W base args ds gs before hval hW hL

theorem said : Rows.LinkPlaysSaid :=
  OpenClaim.holds_of_cond 6 Tryd.f6 rfl rfl rfl rfl rfl rfl rfl ⟨rfl, rfl, rfl, rfl, rfl⟩ rfl rfl rfl rfl rfl (by kernel_rfl) Tryd.func6 (by kernel_rfl)
    (of_decide_eq_true (by kernel_rfl)) (by unfold Func.isWrapper; first | (rw [if_pos (by decide +kernel)]; kernel_rfl) | (rw [if_neg (by decide +kernel)]; exact ⟨rfl, rfl⟩))
    (fun os started H enc _ F => by rw [OpenClaim.pre_eq_preRow]; exact lifted os started H enc F)

theorem plain (f : FuncId) (fn : Func) (hf : Tryd.pinned.checked.prog.funcNamed "wanderwire/wirelaw2.LinkPlays" = some f) (hfn : Tryd.pinned.checked.prog.funcs[f]? = some fn) :
    true = Tryd.pinned.checked.prog.looks [] ∧ ∀ (j : Nat) t, fn.params[j]? = some t → Tryd.pinned.checked.prog.wantsStandIn t = false := by
  obtain rfl : f = 6 := Option.some.inj ((show Tryd.prog.funcNamed "wanderwire/wirelaw2.LinkPlays" = some 6 by kernel_rfl).symm.trans hf) |>.symm
  obtain rfl : fn = Tryd.f6 := (Option.some.inj (Tryd.func6.symm.trans hfn)).symm
  refine ⟨by kernel_rfl, fun j t ht => ?_⟩
  rw [Tryd.params6] at ht
  have ht' := Array.mem_of_getElem? ht
  have hall : (([22, 38] : List Nat).all fun t => !Tryd.prog.wantsStandIn t) = true := by kernel_rfl
  have hq := List.all_eq_true.1 hall t (by simpa using ht')
  have hq2 : Tryd.prog.wantsStandIn t = false := by simpa using hq
  exact hq2

theorem card : Rows.LinkPlaysCardSaid :=
  Claim7.holds_tied_plain_at .later [] _ _ _ _ said (fun _ h => by cases h) (by kernel_rfl) (fun _ h => by cases h) linkPlays_row_tie rfl ⟨rfl, rfl⟩ (by kernel_rfl) rfl plain (by kernel_rfl)
#print axioms card
end Go.Proofs.YtbmfknnbpnllkaaDoor.linkPlays
