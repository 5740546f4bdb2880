/- ProofPlays: for every steps the law returns true: whatever is asked, and answered, is as the reference says. Condition: errors.errorType holds its handle (the row lists it, the card ties it). -/
import Derived.Test.YtaiojfoicfhbnaaDoorRAnswer
import Derived.Test.YtaiojfoicfhbnaaDoorProof
import Derived.Test.YtaiojfoicfhbnaaDoorLaid
import Derived.Test.YtaiojfoicfhbnaaDoorRules
import Derived.Test.YtaiojfoicfhbnaaDoorSince
import Derived.Test.YtaiojfoicfhbnaaDoorIns
import Derived.Test.YtaiojfoicfhbnaaDoorRow
import Derived.Deep.DeepCutAuto
import Derived.Deep.RegionHeld3
import Derived.Test.YtaiojfoicfhbnaaDoorCards
import Derived.Test.YtaiojfoicfhbnaaDoorTie
import Derived.Deep.DeepHandedRow
import Derived.LaidLaws
import Derived.LaidHandle
import Derived.Deep.DeepWitnessRowRef
import Derived.Test.YtaiojfoicfhbnaaDoorRows
import Derived.WalkKit
import Derived.ProofKit
import Derived.OpenShut
import Derived.ShutString
import Derived.ChangeOld
import Derived.Below
import Derived.Lib.SmallJoins
import Derived.Deep.Slices
import Derived.Deep.Matrix
import Derived.Deep.Strs
namespace Go.Proofs.YtaiojfoicfhbnaaDoor.proofPlays
open Go.ChangeShapes Go.WideShapes Go.ChangeAt Go.RowKit
open Go.ChangeMaps (open_string shut_string)
set_option linter.unusedVariables false

noncomputable abbrev laidWorld := YtaiojfoicfhbnaaDoor.laidWorld
theorem laidMetW (os : Os) (args : Array Value) : laidMetH Tryd.prog Rows.proofPlaysRow.laid ((laidWorld os).forCall (fun _ _ => 0) ⟨#[], args, []⟩).memory := laidMet_et os args
theorem laidWalk {W : World} (h : laidMetH Tryd.prog Rows.proofPlaysRow.laid W) : ETok W := laid_et h
/-- both, alike -/
structure Two (w wr : World) (gm : Nat) (v : Value) (L : List Asked) : Prop where
  pr : Pr wr (w.heap.size + 1) w.heap.size L
  rp : Rp wr gm v L
  since : Since w wr
  far : ∀ k, k ∈ gm :: blocks v → w.heap.size + 2 ≤ k
def Twins (w wr : World) (gm : Nat) : Prop := ∃ v L, Two w wr gm v L
theorem Two.later {w wr wx : World} {gm : Nat} {v : Value} {L : List Asked} (h : Two w wr gm v L) (hb : Below wr.heap.size wr wx) : Two w wx gm v L := ⟨h.pr.later hb, h.rp.later hb, h.since.later hb, h.far⟩
theorem Two.d1 {w wr : World} {gm : Nat} {v : Value} {L : List Asked} (h : Two w wr gm v L) : (w.heap.size + 1) ∉ gm :: blocks v := fun hm => by have := h.far _ hm; omega
theorem Two.d2 {w wr : World} {gm : Nat} {v : Value} {L : List Asked} (h : Two w wr gm v L) : w.heap.size ∉ gm :: blocks v := fun hm => by have := h.far _ hm; omega
theorem Two.d3 {w wr : World} {gm : Nat} {v : Value} {L : List Asked} (h : Two w wr gm v L) : ∀ k, k ∈ gm :: blocks v → k ∉ [w.heap.size] := fun k hk hm => by have := h.far _ hk; rw [List.mem_singleton.1 hm] at this; omega
theorem Two.lt {w wr : World} {gm : Nat} {v : Value} {L : List Asked} (h : Two w wr gm v L) : ∀ k, k ∈ gm :: blocks v → k < wr.heap.size := fun k hk => by
  rcases List.mem_cons.1 hk with rfl | hk
  · exact h.rp.bl.lt
  · exact h.rp.ls.lt k hk
/-- the program's part alone was done -/
theorem Two.pDone {w wr w1 : World} {gm : Nat} {v : Value} {L : List Asked} (h : Two w wr gm v L) (ho : Out wr w1 [w.heap.size]) : Rp w1 gm v L := h.rp.kept ho (h.d3 _ (by simp)) (fun k hk => h.d3 k (List.mem_cons_of_mem _ hk))
theorem Two.rDone {w wr w1 : World} {gm : Nat} {v : Value} {L : List Asked} (h : Two w wr gm v L) (ho : Out wr w1 (gm :: blocks v)) : Pr w1 (w.heap.size + 1) w.heap.size L := h.pr.kept ho h.d1 h.d2
theorem Two.sinceP {w wr w1 : World} {gm : Nat} {v : Value} {L : List Asked} (h : Two w wr gm v L) (ho : Out wr w1 [w.heap.size]) : Since w w1 := h.since.out' ho (by simp)
theorem Two.sinceR {w wr w1 : World} {gm : Nat} {v : Value} {L : List Asked} (h : Two w wr gm v L) (ho : Out wr w1 (gm :: blocks v)) : Since w w1 := h.since.out' ho (fun k hk => by have := h.far k hk; omega)
theorem Two.farR {w wr wx : World} {gm : Nat} {v v' : Value} {L : List Asked} (h : Two w wr gm v L) (hx : w.heap.size + 2 ≤ wx.heap.size) (hk : ∀ k, k ∈ blocks v' → k ∈ blocks v ∨ wx.heap.size ≤ k) : ∀ k, k ∈ gm :: blocks v' → w.heap.size + 2 ≤ k := fun k hm => by
  rcases List.mem_cons.1 hm with rfl | hm
  · exact h.far _ (by simp)
  · rcases hk k hm with h1 | h1
    · exact h.far k (List.mem_cons_of_mem _ h1)
    · omega
theorem Two.room {w wr : World} {gm : Nat} {v : Value} {L : List Asked} (h : Two w wr gm v L) : w.heap.size + 2 ≤ wr.heap.size := by have := h.pr.bl.lt; omega
theorem Two.ab {w wv w3 w4 : World} {gm : Nat} {v v' : Value} {L L' : List Asked} (h : Two w wv gm v L) (hO1 : Out wv w3 [w.heap.size]) (hP3 : Pr w3 (w.heap.size + 1) w.heap.size L') (hO2 : Out w3 w4 (gm :: blocks v)) (hR4 : Rp w4 gm v' L') (hk : ∀ k, k ∈ blocks v' → k ∈ blocks v ∨ w3.heap.size ≤ k) : Two w w4 gm v' L' :=
  ⟨hP3.kept hO2 h.d1 h.d2, hR4, (h.sinceP hO1).out' hO2 (fun k hk => by have := h.far k hk; omega), h.farR (Nat.le_trans h.room hO1.le) hk⟩
theorem Two.ba {w wv w3 w4 : World} {gm : Nat} {v v' : Value} {L L' : List Asked} (h : Two w wv gm v L) (hO2 : Out wv w4 (gm :: blocks v)) (hR4 : Rp w4 gm v' L') (hk : ∀ k, k ∈ blocks v' → k ∈ blocks v ∨ wv.heap.size ≤ k) (hO1 : Out w4 w3 [w.heap.size]) (hP3 : Pr w3 (w.heap.size + 1) w.heap.size L') : Two w w3 gm v' L' := by
  have hf := h.farR h.room hk
  have hd : ∀ k, k ∈ gm :: blocks v' → k ∉ [w.heap.size] := fun k hk hm => by have := hf _ hk; rw [List.mem_singleton.1 hm] at this; omega
  exact ⟨hP3, hR4.kept hO1 (hd _ (by simp)) (fun k hk => hd k (List.mem_cons_of_mem _ hk)), (h.sinceR hO2).out' hO1 (by simp), hf⟩
theorem cells5 {wx : World} {g : Nat} {t : TypeId} {a b c d e : Int} (h : BlockIs wx g t #[.int .i64 a, .int .i64 b, .int .i64 c, .int .i64 d, .int .i64 e]) : wx.cell? ⟨g, 1, none⟩ = some (.int .i64 b) ∧ wx.cell? ⟨g, 2, none⟩ = some (.int .i64 c) ∧ wx.cell? ⟨g, 3, none⟩ = some (.int .i64 d) ∧ wx.cell? ⟨g, 4, none⟩ = some (.int .i64 e) := ⟨h.cell 1, h.cell 2, h.cell 3, h.cell 4⟩
theorem cells3 {wx : World} {g : Nat} {t : TypeId} {a b c d e : Int} (h : BlockIs wx g t #[.int .i64 a, .int .i64 b, .int .i64 c, .int .i64 d, .int .i64 e]) : wx.cell? ⟨g, 1, none⟩ = some (.int .i64 b) ∧ wx.cell? ⟨g, 2, none⟩ = some (.int .i64 c) ∧ wx.cell? ⟨g, 3, none⟩ = some (.int .i64 d) := ⟨h.cell 1, h.cell 2, h.cell 3⟩

set_option maxRecDepth 100000 in
set_option maxHeartbeats 3200000 in
theorem walk (v0 : Value) (Z : List (List Int)) (w : World) (w0 : IntRowsIn w v0 Z) (hL : ETok w) :
    Calls Tryd.prog 8 #[v0] w fun e w' => e = .returned (.bool true) ∧ Below w.heap.size w w' := by
  have HE := Lib.hid hL
  obtain ⟨A, cap, rfl, hle0, hm0, hc⟩ := w0
  unfold maxLen at hm0
  have hZ : Z.length ≤ 9223372036854775807 := by omega
  have HC := Lib.hid hc
  clear hc hL
  go_enter Tryd.func8, Tryd.ntmps8
  go_wp2_with fail
  refine (pnew _).mono ?_
  rintro e w1 ⟨rfl, hp1, hb1⟩
  go_wp2_with fail
  have hT : Two w (w1.alloc (.cells #[.slice none 0 0] 57)) w1.heap.size (.slice none 0 0) [] :=
    ⟨⟨hp1.bl.alloc _, hp1.mp.alloc _, hp1.inv, hp1.ne⟩, ⟨BlockIs.fresh _ _ _, Lst.nil _ _ _, AInv.nil⟩, (by refine Since.out ?_; repeat (first | with_reducible assumption | with_reducible exact Since.refl _ | with_reducible refine Since.later ?_ (by with_reducible assumption) | with_reducible refine Since.only ?_ (by with_reducible assumption) (by first | assumption | omega | (simp; done) | (simp; omega)) | with_reducible refine Since.alloc ?_ _ | with_reducible refine Since.drewN ?_ _ | with_reducible refine Since.drew ?_ | with_reducible refine Since.set ?_ (by first | assumption | omega | (simp; done) | (simp; omega)) _)), by
      have := hp1.bl.lt
      intro k hk
      have hk' : k = w1.heap.size := by simpa [Value.ownBlock] using hk
      omega⟩
  have HT : Hid (Twins w (w1.alloc (.cells #[.slice none 0 0] 57)) w1.heap.size) := Lib.hid ⟨_, _, hT⟩
  clear hT hp1 hb1
  generalize w1.alloc (.cells #[.slice none 0 0] 57) = w2 at *
  generalize w1.heap.size = gm at *
  go_loopw [5] (fun s5 wr => ∃ (k : Nat), s5 = .int .i64 k ∧ k ≤ 120 ∧ Twins w wr gm) (fun i _ => 120 - (intOf i).toNat)
  case atStart => exact ⟨0, rfl, by omega, HT.out⟩
  case round =>
    obtain ⟨k, rfl, hk, hT⟩ := hrel
    by_cases hlen : k < Z.length
    case neg =>
      have hlen' : decide ((k : Int) < (Z.length : Int)) = false := by simp; omega
      obtain ⟨v, L, hT⟩ := hT
      have hs := hT.since
      clear hT
      go_wp2_with fail
      go_ret
      exact ⟨rfl, (by refine Since.out ?_; repeat (first | with_reducible assumption | with_reducible exact Since.refl _ | with_reducible refine Since.later ?_ (by with_reducible assumption) | with_reducible refine Since.only ?_ (by with_reducible assumption) (by first | assumption | omega | (simp; done) | (simp; omega)) | with_reducible refine Since.alloc ?_ _ | with_reducible refine Since.drewN ?_ _ | with_reducible refine Since.drew ?_ | with_reducible refine Since.set ?_ (by first | assumption | omega | (simp; done) | (simp; omega)) _))⟩
    by_cases h120 : k < 120
    case neg =>
      have hlen' : (k : Int) < (Z.length : Int) := by omega
      have h120' : decide ((k : Int) < 120) = false := by simp; omega
      obtain ⟨v, L, hT⟩ := hT
      have hs := hT.since
      clear hT
      go_wp2_with fail
      go_ret
      exact ⟨rfl, (by refine Since.out ?_; repeat (first | with_reducible assumption | with_reducible exact Since.refl _ | with_reducible refine Since.later ?_ (by with_reducible assumption) | with_reducible refine Since.only ?_ (by with_reducible assumption) (by first | assumption | omega | (simp; done) | (simp; omega)) | with_reducible refine Since.alloc ?_ _ | with_reducible refine Since.drewN ?_ _ | with_reducible refine Since.drew ?_ | with_reducible refine Since.set ?_ (by first | assumption | omega | (simp; done) | (simp; omega)) _))⟩
    have hlen' : (k : Int) < (Z.length : Int) := by omega
    have h120' : (k : Int) < 120 := by omega
    obtain ⟨b, off, rfl, hlt, hc⟩ := HC.out (by rintro rfl; simp at hlen)
    obtain ⟨x, hx, hI⟩ := hc k hlen
    clear hc
    generalize Z.getD k [] = r at *
    obtain ⟨bdr, A', cap', rfl, hle', hm', hcr⟩ := hI
    have HX := Lib.hid hx
    have HR := Lib.hid hcr
    have HBD := Lib.hid (ith_bounds bdr)
    unfold maxLen at hm'
    clear hx hcr bdr
    obtain ⟨v, L, hT⟩ := hT
    have HTW := Lib.hid hT
    have hs : Since w wr := hT.since
    clear hT
    obtain ⟨wo, rfl⟩ : ∃ wo : World, wo = wr := ⟨_, rfl⟩
    repeat ((fail_if_success (with_reducible refine stop_at 7 ?_)); first | fail | go_values | go_skip | go_guarded | go_step | go_upon | go_back | go_simp)
    go_cut [] (fun wx => BlockIs wx wo.heap.size 58 #[.int .i64 (ith r 0), .int .i64 (ith r 1), .int .i64 (ith r 2), .int .i64 (ith r 3), .int .i64 (ith r 4)] ∧ Since wo wx)
    case first =>
      go_wp2_with fail
      go_loopw [7] (fun sj wi => ∃ j : Nat, sj = .int .i64 j ∧ j ≤ 5 ∧ j ≤ r.length ∧ BlockIs wi wo.heap.size 58 #[.int .i64 (vv r j 0), .int .i64 (vv r j 1), .int .i64 (vv r j 2), .int .i64 (vv r j 3), .int .i64 (vv r j 4)] ∧ Since wo wi) (fun i _ => 5 - (intOf i).toNat)
      case atStart => exact ⟨0, rfl, by omega, by omega, BlockIs.fresh _ _ _, (by refine Since.out ?_; repeat (first | with_reducible assumption | with_reducible exact Since.refl _ | with_reducible refine Since.later ?_ (by with_reducible assumption) | with_reducible refine Since.only ?_ (by with_reducible assumption) (by first | assumption | omega | (simp; done) | (simp; omega)) | with_reducible refine Since.alloc ?_ _ | with_reducible refine Since.drewN ?_ _ | with_reducible refine Since.drew ?_ | with_reducible refine Since.set ?_ (by first | assumption | omega | (simp; done) | (simp; omega)) _))⟩
      case round =>
        obtain ⟨j, rfl, hj2, hjr, hB, hs2⟩ := hrel
        have cx : wr.cell? ⟨b, off + k, none⟩ = some (.slice A' r.length cap') := hs2.cell (Nat.lt_of_lt_of_le hlt hs.le) (hs.cell hlt HX.out)
        by_cases hjl : j < r.length
        case neg =>
          have hjl' : decide ((j : Int) < (r.length : Int)) = false := by simp; omega
          have HB := Lib.hid (vv_end5 (Or.inl (by omega : r.length ≤ j)) ▸ hB)
          clear hB
          go_wp2_with fail
          go_meet
          case rel => exact ⟨HB.out, hs2⟩
        by_cases hj2' : j < 5
        case neg =>
          have hj3 : decide ((j : Int) < 5) = false := by simp; omega
          have hjl' : (j : Int) < (r.length : Int) := by omega
          have HB := Lib.hid (vv_end5 (r := r) (Or.inr (by omega : 5 ≤ j)) ▸ hB)
          clear hB
          go_wp2_with fail
          go_meet
          case rel => exact ⟨HB.out, hs2⟩
        have hjl' : (j : Int) < (r.length : Int) := by omega
        have hj3 : (j : Int) < 5 := by omega
        obtain ⟨b2, off2, rfl, hlt2, hc2⟩ := HR.out (by rintro rfl; simp at hjl)
        have cj : wr.cell? ⟨b2, off2 + j, none⟩ = some (.int .i64 (ith r j)) := hs2.cell (Nat.lt_of_lt_of_le hlt2 hs.le) (hs.cell hlt2 (hc2 j hjl))
        have fj := hB.free
        have ij : wr.cell? ⟨wo.heap.size, j, none⟩ = some (.int .i64 0) := (hB.cell j).trans (vv_next5 r hj2').1
        have HB := Lib.hid ((vv_next5 r hj2').2 ▸ hB.put j (.int .i64 (ith r j)))
        clear hc2 hB
        go_wp2_with fail
        go_roundw
        case rel => exact ⟨j + 1, by go_num, by omega, by omega, HB.out, (by refine Since.out ?_; repeat (first | with_reducible assumption | with_reducible exact Since.refl _ | with_reducible refine Since.later ?_ (by with_reducible assumption) | with_reducible refine Since.only ?_ (by with_reducible assumption) (by first | assumption | omega | (simp; done) | (simp; omega)) | with_reducible refine Since.alloc ?_ _ | with_reducible refine Since.drewN ?_ _ | with_reducible refine Since.drew ?_ | with_reducible refine Since.set ?_ (by first | assumption | omega | (simp; done) | (simp; omega)) _))⟩
        case measure => simp [intOf]; omega
    case rest =>
      obtain ⟨wv, rfl⟩ : ∃ wv : World, wv = wc := ⟨_, rfl⟩
      obtain ⟨hBv, hs2⟩ := hcut
      have hTv := HTW.out.later hs2
      have hg1 : wo.heap.size ∉ gm :: blocks v := fun hm => by have := HTW.out.lt _ hm; omega
      have hg2 : wo.heap.size ∉ [w.heap.size] := fun hm => by have := HTW.out.room; rw [List.mem_singleton] at hm; omega
      have HT2 := Lib.hid hTv
      generalize ith r 0 = x0 at *
      generalize ith r 1 = x1 at *
      generalize ith r 2 = x2 at *
      generalize ith r 3 = x3 at *
      generalize ith r 4 = x4 at *
      have cv0 : wv.cell? ⟨wo.heap.size, 0, none⟩ = some (.int .i64 x0) := hBv.cell 0
      obtain ⟨k1, k2, k3, k4⟩ := cells5 hBv
      have HBV := Lib.hid hBv
      have D1 := Lib.hid hg1
      have D2 := Lib.hid hg2
      have hsv := hTv.since
      clear hBv hTv hg1 hg2 hs hs2 HX HR HTW
      generalize wo.heap.size = gv at *
      repeat ((fail_if_success (with_reducible refine stop_at 12 ?_)); first | fail | go_values | go_skip | go_guarded | go_step | go_upon | go_back | go_simp)
      go_cut [8] (fun s8 wx => s8 = .bool true ∧ Twins w wx gm)
      case first =>
        by_cases h0 : x0 = 0
        · have h0' : (x0 == 0) = true := by simpa using h0
          clear h0
          go_wp2_with fail
          refine (ranswer_any gm v L x1 x2 x3 x4 _ HT2.out.rp).mono ?_
          rintro e w3 ⟨rfl, v', hR3, hO3, hk3⟩
          have hB3 := hO3.block' HBV.out D1.out
          have hP3 := HT2.out.rDone hO3
          have hs3 := HT2.out.sinceR hO3
          obtain ⟨k1', k2', k3', k4'⟩ := cells5 hB3
          clear k1 k2 k3 k4 cv0 hB3
          go_wp2_with fail
          refine (panswer_any _ _ L x1 x2 x3 x4 _ hP3).mono ?_
          rintro e w4 ⟨rfl, hP4, hO4⟩
          have hs4 : Since w w4 := hs3.out' hO4 (by simp)
          have hf := HT2.out.farR HT2.out.room hk3
          have hR4 := hR3.kept hO4 (fun hm => by have := hf gm (by simp); rw [List.mem_singleton] at hm; omega) (fun k hk hm => by have := hf k (List.mem_cons_of_mem _ hk); rw [List.mem_singleton] at hm; omega)
          have HR4 := Lib.hid hR4
          have HP4 := Lib.hid hP4
          have HF := Lib.hid hf
          clear hR3 hO3 hk3 hP3 hO4 hR4 hP4 hf
          go_wp2_with fail
          refine (same_yes _ _ (HE.out.later (by refine Since.out ?_; repeat (first | with_reducible assumption | with_reducible exact Since.refl _ | with_reducible refine Since.later ?_ (by with_reducible assumption) | with_reducible refine Since.only ?_ (by with_reducible assumption) (by first | assumption | omega | (simp; done) | (simp; omega)) | with_reducible refine Since.alloc ?_ _ | with_reducible refine Since.drewN ?_ _ | with_reducible refine Since.drew ?_ | with_reducible refine Since.set ?_ (by first | assumption | omega | (simp; done) | (simp; omega)) _)))).mono ?_
          rintro e w5 ⟨rfl, hb5⟩
          go_wp2_with fail
          go_meet
          case rel => exact ⟨by simp, v', ansL L x1 x2 x3 x4, HP4.out.later hb5, HR4.out.later hb5, (by refine Since.out ?_; repeat (first | with_reducible assumption | with_reducible exact Since.refl _ | with_reducible refine Since.later ?_ (by with_reducible assumption) | with_reducible refine Since.only ?_ (by with_reducible assumption) (by first | assumption | omega | (simp; done) | (simp; omega)) | with_reducible refine Since.alloc ?_ _ | with_reducible refine Since.drewN ?_ _ | with_reducible refine Since.drew ?_ | with_reducible refine Since.set ?_ (by first | assumption | omega | (simp; done) | (simp; omega)) _)), HF.out⟩
        · have h0' : (x0 == 0) = false := by simpa using h0
          clear h0
          have c3 := cells3 HBV.out
          have C3 := Lib.hid c3
          clear c3 k4
          go_wp2_with fail
          go_region_held3 (fun w' => w'.cell? ⟨gv, 1, none⟩ = some (.int .i64 x1) ∧ w'.cell? ⟨gv, 2, none⟩ = some (.int .i64 x2) ∧ w'.cell? ⟨gv, 3, none⟩ = some (.int .i64 x3)) (first | exact C3.out | exact cq1.out | exact cq2.out | exact cq3.out) (first | (go_at_call 28; refine (pask_any (w.heap.size + 1) w.heap.size L x1 x2 x3 _ ?_).mono ?_; (first | exact HT2.out.pr | exact HT2.out.pr.drew | exact HT2.out.rDone hO2 | exact (HT2.out.rDone hO2).drew); rintro e w3 ⟨rfl, hP3, hO1'⟩; have hO1 := hO1'; (try replace hO1 := Out.of_drew hO1'); have cq1 := Lib.hid (show w3.cell? ⟨gv, 1, none⟩ = some (.int .i64 x1) ∧ w3.cell? ⟨gv, 2, none⟩ = some (.int .i64 x2) ∧ w3.cell? ⟨gv, 3, none⟩ = some (.int .i64 x3) from (by first | exact cells3 (hO1.block' HBV.out D2.out) | exact cells3 (hO1.block' (hO2.block' HBV.out D1.out) D2.out)))) | (go_at_call 31; refine (rask_any gm v L x1 x2 x3 _ ?_).mono ?_; (first | exact HT2.out.rp | exact HT2.out.rp.drew | exact HT2.out.pDone hO1 | exact (HT2.out.pDone hO1).drew); rintro e w4 ⟨rfl, v', hR4, hO2', hk4⟩; have hO2 := hO2'; (try replace hO2 := Out.of_drew hO2'); have cq2 := Lib.hid (show w4.cell? ⟨gv, 1, none⟩ = some (.int .i64 x1) ∧ w4.cell? ⟨gv, 2, none⟩ = some (.int .i64 x2) ∧ w4.cell? ⟨gv, 3, none⟩ = some (.int .i64 x3) from (by first | exact cells3 (hO2.block' HBV.out D1.out) | exact cells3 (hO2.block' (hO1.block' HBV.out D2.out) D1.out)))) | (go_at_call 13; refine (same_yes _ _ ?_).mono ?_; (exact HE.out.later (by first | exact (HT2.out.sinceP hO1).out' hO2 (fun k hk => by have := HT2.out.far k hk; omega) | exact (HT2.out.sinceR hO2).out' hO1 (by simp))); rintro e w5 ⟨rfl, hb5⟩; have cq3 := Lib.hid (show w5.cell? ⟨gv, 1, none⟩ = some (.int .i64 x1) ∧ w5.cell? ⟨gv, 2, none⟩ = some (.int .i64 x2) ∧ w5.cell? ⟨gv, 3, none⟩ = some (.int .i64 x3) from (by first | exact ⟨cell_later hb5 cq1.out.1, cell_later hb5 cq1.out.2.1, cell_later hb5 cq1.out.2.2⟩ | exact ⟨cell_later hb5 cq2.out.1, cell_later hb5 cq2.out.2.1, cell_later hb5 cq2.out.2.2⟩))))
          all_goals
            have hT5 : Two w _ gm v' (askL L x1 x2 x3) := (by first | exact (HT2.out.ab hO1 hP3 hO2 hR4 hk4).later hb5 | exact (HT2.out.ba hO2 hR4 hk4 hO1 hP3).later hb5)
            have HT5 := Lib.hid hT5
            clear hT5 hP3 hR4 hO1 hO2 hk4 hO1' hO2'
            go_wp2_with fail
            go_meet
            case rel => exact ⟨by first | rfl | simp, v', askL L x1 x2 x3, HT5.out⟩
      case rest =>
        obtain ⟨wz, rfl⟩ : ∃ wz : World, wz = wc := ⟨_, rfl⟩
        obtain ⟨rfl, v', L', hT'⟩ := hcut
        have lm := hT'.rp.bl.lt
        have cm : wz.cell? ⟨gm, 0, none⟩ = some v' := hT'.rp.bl.cell 0
        obtain ⟨A2, cap2, hv', _, _, _⟩ := hT'.rp.ls.shape
        rw [List.length_map] at hv'
        rw [hv'] at cm
        have HT3 := Lib.hid hT'
        clear hT' hv' cv0 k1 k2 k3 k4 hsv HT2 HBV
        go_wp2_with fail
        go_quiet ((go_at_call 27; exact quiet_a (popen _ _ _ _ (HT3.out.pr.drewN _))))
        go_wp2_with fail
        go_roundw
        case rel => exact ⟨k + 1, by go_num, by omega, v', L', HT3.out.later (by refine Since.out ?_; repeat (first | with_reducible assumption | with_reducible exact Since.refl _ | with_reducible refine Since.later ?_ (by with_reducible assumption) | with_reducible refine Since.only ?_ (by with_reducible assumption) (by first | assumption | omega | (simp; done) | (simp; omega)) | with_reducible refine Since.alloc ?_ _ | with_reducible refine Since.drewN ?_ _ | with_reducible refine Since.drew ?_ | with_reducible refine Since.set ?_ (by first | assumption | omega | (simp; done) | (simp; omega)) _))⟩
        case measure => simp [intOf]; omega

/-! the row -/
theorem own : ownKnob Tryd.prog.godebug = none := by kernel_rfl
theorem laidOut : laidOutB Tryd.prog = true := by kernel_rfl
set_option maxRecDepth 100000 in
theorem contract (H : Type) (enc : TypeId × Value → H) (W : World) (base : Nat) (args : Array Value) (ds gs : List (DataW H)) (before : List MemPlace)
    (hval : ∀ (j : Nat) t v, Tryd.f8.params[j]? = some t → args[j]? = some v → Value.okWide Tryd.prog W .any base t v)
    (hW : DataW.Whole enc Tryd.prog Tryd.f8.params.toList Rows.proofPlaysSpec.vars false W args.toList ds gs before) (hL : laidMetH Tryd.prog Rows.proofPlaysRow.laid W) :
    Calls Tryd.prog 8 args W fun e W' => ∃ v, e = .returned v ∧ Rows.proofPlaysSpec.post enc Tryd.prog Tryd.f8 false true false false W args v W' := by
  have hW' := hW
  obtain ⟨p, q, hA0, hV, rfl, hfz, hnd⟩ := hW
  have hA : DataW.TrodAll enc Tryd.prog W 0 (fun _ => true) true Tryd.f8.params.toList args.toList ds p := hA0
  rw [Tryd.params8] at hA hval
  obtain ⟨v0, vs0, d0, ds0, p0, q0, hargs, rfl, rfl, h0, r0⟩ := trodAll_cons hA
  obtain ⟨rfl, rfl, rfl⟩ := trodAll_nil r0
  obtain rfl : args = #[v0] := by cases args; simp_all
  obtain ⟨rfl, rfl⟩ := trodVars_none hV
  obtain ⟨a0, len0, cap0, rfl⟩ := okWide_slice Tryd.underlying22 (hval 0 22 v0 rfl rfl)
  have k0 := h0
  have lt0 : ∀ x ∈ p0, x.block < W.heap.size := by obtain ⟨m, hm⟩ := k0; exact DataW.trod_lt m _ _ _ hm
  obtain ⟨z0, w0⟩ : ∃ zs, IntRowsIn W (.slice a0 len0 cap0) zs := by
    obtain ⟨fuel, hf⟩ := h0
    exact intRowsIn_open Tryd.underlying22 Tryd.underlying33 Tryd.underlying3 (by kernel_rfl) (by kernel_rfl) hf lt0
  have lw := laidWalk hL
  refine (walk (.slice a0 len0 cap0) z0 W w0 lw).mono fun e W' ⟨he, bel⟩ => ?_
  subst he
  exact ⟨_, rfl, _, _, _, [], _, [], hW', trodAll_mk1 (shut_bool Tryd.underlying4 _), (trodAll_cons_mk (Below.trod laidOut (by kernel_rfl) (of_decide_eq_true (by kernel_rfl)) k0 bel lt0) trodAll_mk0), rfl, bel.frame _, fun h => by cases h⟩

theorem reads (os : Os) {H : Type} (enc : TypeId × Value → H) : ∃ places, DataW.whole enc Tryd.prog ((laidWorld os).forCall (fun _ _ => 0) ⟨#[], #[.slice none 0 0], []⟩).memory Tryd.f8.params.toList Rows.proofPlaysSpec.vars false (#[.slice none 0 0] : Array Value).toList 8 = some ([.nil], [], places) :=
  ⟨[], by kernel_rfl⟩
theorem laid_met (os : Os) : laidMetH Tryd.prog Rows.proofPlaysRow.laid ((laidWorld os).forCall (fun _ _ => 0) ⟨#[], #[.slice none 0 0], []⟩).memory := laidMetW os _

set_option maxRecDepth 100000 in
theorem lifted (os : Os) (started : os.Started) (H : Type) (enc : TypeId × Value → H) (F : Stop.Interp) :
    ReturnsInHanded {} Tryd.checked os 8 .any ((OpenSpec.ofChange Rows.proofPlaysSpec).preRow enc Tryd.prog Tryd.f8 Rows.proofPlaysRow.domain false Rows.proofPlaysRow.laid) (((OpenSpec.ofChange Rows.proofPlaysSpec).at F).post enc Tryd.prog Tryd.f8 false true false false) := by
  obtain ⟨places, hx⟩ := reads os enc
  refine returnsInHanded_of_row (C := Tryd.checked) (s := OpenSpec.ofChange Rows.proofPlaysSpec) own started (by kernel_rfl) Tryd.func8
    (witness_row_at (enc := enc) (C := Tryd.checked) false (laidWorld os) #[.slice none 0 0] rfl (by kernel_rfl) (by kernel_rfl) (by kernel_rfl)
      (OpenSpec.preRow_of_cond 8 hx (by kernel_rfl) (fun k hk => by cases hk) (by kernel_rfl) (laid_met os))) ?_
  intro W base args ds gs before hval hW _ _ _ hL _ _
  exact contract H enc W base args ds gs before hval hW hL

theorem said : Rows.ProofPlaysSaid :=
  OpenClaim.holds_of_cond 8 Tryd.f8 rfl rfl rfl rfl rfl rfl rfl ⟨rfl, rfl, rfl, rfl, rfl⟩ rfl rfl rfl rfl rfl (by kernel_rfl) Tryd.func8 (by kernel_rfl)
    (of_decide_eq_true (by kernel_rfl)) (by unfold Func.isWrapper; first | (rw [if_pos (by decide +kernel)]; kernel_rfl) | (rw [if_neg (by decide +kernel)]; exact ⟨rfl, rfl⟩))
    (fun os started H enc _ F => by rw [OpenClaim.pre_eq_preRow]; exact lifted os started H enc F)

theorem plain (f : FuncId) (fn : Func) (hf : Tryd.pinned.checked.prog.funcNamed "wanderwire/wirelaw1.ProofPlays" = some f) (hfn : Tryd.pinned.checked.prog.funcs[f]? = some fn) :
    true = Tryd.pinned.checked.prog.looks [] ∧ ∀ (j : Nat) t, fn.params[j]? = some t → Tryd.pinned.checked.prog.wantsStandIn t = false := by
  obtain rfl : f = 8 := Option.some.inj ((show Tryd.prog.funcNamed "wanderwire/wirelaw1.ProofPlays" = some 8 by kernel_rfl).symm.trans hf) |>.symm
  obtain rfl : fn = Tryd.f8 := (Option.some.inj (Tryd.func8.symm.trans hfn)).symm
  refine ⟨by kernel_rfl, fun j t ht => ?_⟩
  rw [Tryd.params8] at ht
  have ht' := Array.mem_of_getElem? ht
  have hall : (([22] : List Nat).all fun t => !Tryd.prog.wantsStandIn t) = true := by kernel_rfl
  have hq := List.all_eq_true.1 hall t (by simpa using ht')
  have hq2 : Tryd.prog.wantsStandIn t = false := by simpa using hq
  exact hq2

theorem card : Rows.ProofPlaysCardSaid :=
  Claim7.holds_tied_plain_at .later [] _ _ _ _ said (fun _ h => by cases h) (by kernel_rfl) (fun _ h => by cases h) proofPlays_row_tie rfl ⟨rfl, rfl⟩ (by kernel_rfl) rfl plain (by kernel_rfl)
#print axioms card
end Go.Proofs.YtaiojfoicfhbnaaDoor.proofPlays
