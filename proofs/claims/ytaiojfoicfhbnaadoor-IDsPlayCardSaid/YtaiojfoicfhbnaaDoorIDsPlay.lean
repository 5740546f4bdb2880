/- IDsPlay: for every limit and steps the law returns true: whatever is issued, retired and looked for is answered as the reference says. Condition: errors.errorType holds its handle (the row lists it, the card ties it). -/
import Derived.Test.YtaiojfoicfhbnaaDoorIdsEq
import Derived.Test.YtaiojfoicfhbnaaDoorLaid
import Derived.Test.YtaiojfoicfhbnaaDoorRules
import Derived.Test.YtaiojfoicfhbnaaDoorSince
import Derived.Test.YtaiojfoicfhbnaaDoorIns
import Derived.Test.YtaiojfoicfhbnaaDoorRow
import Derived.Deep.DeepCutAuto
import Derived.Deep.RegionHeld3
import Derived.Test.YtaiojfoicfhbnaaDoorCards
import Derived.Test.YtaiojfoicfhbnaaDoorTie
import Derived.Deep.DeepHandedRow
import Derived.LaidLaws
import Derived.LaidHandle
import Derived.Deep.DeepWitnessRowRef
import Derived.Test.YtaiojfoicfhbnaaDoorRows
import Derived.WalkKit
import Derived.ProofKit
import Derived.OpenShut
import Derived.ShutString
import Derived.ChangeOld
import Derived.Below
import Derived.Lib.SmallJoins
import Derived.Deep.Slices
import Derived.Deep.Matrix
import Derived.Deep.Strs
namespace Go.Proofs.YtaiojfoicfhbnaaDoor.iDsPlay
open Go.ChangeShapes Go.WideShapes Go.ChangeAt Go.RowKit
open Go.ChangeMaps (open_string shut_string)
set_option linter.unusedVariables false

noncomputable abbrev laidWorld := YtaiojfoicfhbnaaDoor.laidWorld
theorem laidMetW (os : Os) (args : Array Value) : laidMetH Tryd.prog Rows.iDsPlayRow.laid ((laidWorld os).forCall (fun _ _ => 0) ⟨#[], args, []⟩).memory := laidMet_et os args
theorem laidWalk {W : World} (h : laidMetH Tryd.prog Rows.iDsPlayRow.laid W) : ETok W := laid_et h
/-- both IDs: what they hold, and that their blocks are apart and new -/
structure Duo (w wx : World) (g b gm : Nat) (v va vg : Value) (n : Int) (L : List One) (N N2 : List Int) (G2 : List Bool) : Prop where
  iz : Iz wx g b v n L N
  rz : Rz wx gm va vg n N2 G2
  newI : ∀ k, k ∈ g :: b :: blocks v → w.heap.size ≤ k ∧ k ∉ gm :: (blocks va ++ blocks vg)
  newR : ∀ k, k ∈ gm :: (blocks va ++ blocks vg) → w.heap.size ≤ k
  since : Since w wx
section
variable {w wx wy : World} {g b gm gv : Nat} {v va vg : Value} {n x0 x1 : Int} {L L' : List One} {N N' N2 N2' : List Int} {G2 G2' : List Bool}
theorem Duo.later (h : Duo w wx g b gm v va vg n L N N2 G2) (hb : Below wx.heap.size wx wy) : Duo w wy g b gm v va vg n L N N2 G2 := ⟨h.iz.later hb, h.rz.later hb, h.newI, h.newR, h.since.later hb⟩
theorem Duo.ltI (h : Duo w wx g b gm v va vg n L N N2 G2) : ∀ k, k ∈ g :: b :: blocks v → k < wx.heap.size := by
  intro k hk
  simp only [List.mem_cons] at hk
  rcases hk with rfl | rfl | hk
  · exact h.iz.bl.lt
  · exact h.iz.mp.lt
  · exact h.iz.ls.lt k hk
theorem Duo.ltR (h : Duo w wx g b gm v va vg n L N N2 G2) : ∀ k, k ∈ gm :: (blocks va ++ blocks vg) → k < wx.heap.size := by
  intro k hk
  simp only [List.mem_cons, List.mem_append] at hk
  rcases hk with rfl | hk | hk
  · exact h.rz.bl.lt
  · exact h.rz.la.lt k hk
  · exact h.rz.lg.lt k hk
/-- and the row that is read, in a block of its own -/
structure Trio (w wx : World) (g b gm gv : Nat) (v va vg : Value) (n : Int) (L : List One) (N N2 : List Int) (G2 : List Bool) (x0 x1 : Int) : Prop where
  duo : Duo w wx g b gm v va vg n L N N2 G2
  row : BlockIs wx gv 32 #[.int .i64 x0, .int .i64 x1]
  offI : gv ∉ g :: b :: blocks v
  offR : gv ∉ gm :: (blocks va ++ blocks vg)
theorem Trio.later (h : Trio w wx g b gm gv v va vg n L N N2 G2 x0 x1) (hb : Below wx.heap.size wx wy) : Trio w wy g b gm gv v va vg n L N N2 G2 x0 x1 := ⟨h.duo.later hb, h.row.later hb, h.offI, h.offR⟩
theorem Trio.drew (h : Trio w wx g b gm gv v va vg n L N N2 G2 x0 x1) : Trio w wx.drew g b gm gv v va vg n L N N2 G2 x0 x1 := h.later (by exact (Since.refl wx).drew)
theorem Trio.stepI (h : Trio w wx g b gm gv v va vg n L N N2 G2 x0 x1) (c : ILeft wx wy g b v n L' N') : ∃ v', Trio w wy g b gm gv v' va vg n L' N' N2 G2 x0 x1 := by
  obtain ⟨v', hi, ho, hk⟩ := c
  have hle := h.duo.since.le
  refine ⟨v', ⟨hi, h.duo.rz.kept ho (fun k hk hm => (h.duo.newI k hm).2 hk), ?_, h.duo.newR, h.duo.since.out' ho (fun k hk => (h.duo.newI k hk).1)⟩, ho.block' h.row h.offI, ?_, h.offR⟩
  · intro k hm
    simp only [List.mem_cons] at hm
    rcases hm with rfl | rfl | hm
    · exact h.duo.newI _ (by simp)
    · exact h.duo.newI _ (by simp)
    · rcases hk k hm with h1 | h1
      · exact h.duo.newI k (by simp [h1])
      · exact ⟨Nat.le_trans hle h1, fun h2 => by have := h.duo.ltR k h2; omega⟩
  · intro hm
    simp only [List.mem_cons] at hm
    rcases hm with h0 | h0 | hm
    · exact h.offI (by simp [h0])
    · exact h.offI (by simp [h0])
    · rcases hk _ hm with h1 | h1
      · exact h.offI (by simp [h1])
      · have := h.row.lt; omega
theorem Trio.stepR (h : Trio w wx g b gm gv v va vg n L N N2 G2 x0 x1) (c : JLeft wx wy gm va vg n N2' G2') : ∃ va' vg', Trio w wy g b gm gv v va' vg' n L N N2' G2' x0 x1 := by
  obtain ⟨va', vg', hi, ho, hk⟩ := c
  have hle := h.duo.since.le
  refine ⟨va', vg', ⟨h.duo.iz.kept ho (fun k hk hm => (h.duo.newI k hk).2 hm), hi, ?_, ?_, h.duo.since.out' ho h.duo.newR⟩, ho.block' h.row h.offR, h.offI, ?_⟩
  · intro k hm
    refine ⟨(h.duo.newI k hm).1, fun h2 => ?_⟩
    rcases List.mem_cons.1 h2 with rfl | h2
    · exact (h.duo.newI _ hm).2 (by simp)
    · rcases hk k h2 with h1 | h1
      · exact (h.duo.newI k hm).2 (List.mem_cons_of_mem _ h1)
      · have := h.duo.ltI k hm; omega
  · intro k h2
    rcases List.mem_cons.1 h2 with rfl | h2
    · exact h.duo.newR _ (by simp)
    · rcases hk k h2 with h1 | h1
      · exact h.duo.newR k (List.mem_cons_of_mem _ h1)
      · exact Nat.le_trans hle h1
  · intro h2
    rcases List.mem_cons.1 h2 with h2 | h2
    · exact h.offR (by simp [h2])
    · rcases hk _ h2 with h1 | h1
      · exact h.offR (List.mem_cons_of_mem _ h1)
      · have := h.row.lt; omega
theorem Trio.stepT (h : Trio w wx g b gm gv v va vg n L N N2 G2 x0 x1) (hr : Rz wy gm va vg n N2' G2') (ho : Out wx wy (blocks vg)) : Trio w wy g b gm gv v va vg n L N N2' G2' x0 x1 := by
  have ho' : Out wx wy (gm :: (blocks va ++ blocks vg)) := ho.mono (fun k hk => Or.inl (by simp [hk]))
  exact ⟨⟨h.duo.iz.kept ho' (fun k hk hm => (h.duo.newI k hk).2 hm), hr, h.duo.newI, h.duo.newR, h.duo.since.out' ho' h.duo.newR⟩, ho'.block' h.row h.offR, h.offI, h.offR⟩
end
def Twins (w wx : World) (gm : Nat) (n : Int) : Prop := ∃ v va vg N G, Duo w wx (w.heap.size + 1) w.heap.size gm v va vg n (liveOf N G) N N G ∧ N.Nodup
theorem iret (g b : Nat) (v : Value) (lim : Int) (N : List Int) (G : List Bool) (x : Int) (w : World) (hl : G.length = N.length) (h : Iz w g b v lim (liveOf N G) N) :
    Calls Tryd.prog 36 #[.pointer (some ⟨g, 0, none⟩), .int .i64 x] w fun e w' => e = .returned (errV (rretE G x)) ∧ ILeft w w' g b v lim (liveOf N (rretG G x)) N := by
  have e := iretire g b v lim (liveOf N G) N x w h
  rw [(ret_same hl x).1, (ret_same hl x).2] at e
  exact e
theorem iiss (g b : Nat) (v : Value) (lim : Int) (N : List Int) (G : List Bool) (x : Int) (w : World) (hl : G.length = N.length) (h : Iz w g b v lim (liveOf N G) N) :
    Calls Tryd.prog 33 #[.pointer (some ⟨g, 0, none⟩), .int .i64 x] w fun e w' => e = .returned (.tuple #[oneV (rissD lim N G x), errV (rissE lim N G x)]) ∧ ILeft w w' g b v lim (liveOf (rissN lim N G x) (rissG lim N G x)) (rissN lim N G x) := by
  have e := iissue g b v lim (liveOf N G) N x w h
  obtain ⟨e1, e2, e3, e4⟩ := iss_same hl h.few h.most x
  rw [e1, e2, e3, e4] at e
  exact e
theorem riss_nodup {lim : Int} {N : List Int} {G : List Bool} {x : Int} (h : N.Nodup) : (rissN lim N G x).Nodup := by
  unfold rissN
  split
  · rename_i he
    rw [List.nodup_append]
    refine ⟨h, by simp, fun a ha b hb => ?_⟩
    rw [List.mem_singleton.1 hb]
    rintro rfl
    unfold rissE at he
    rw [if_pos ha] at he
    split at he <;> cases he
  · exact h
theorem oneV_eq (a b : Int) : oneV ⟨a, b⟩ = .agg #[.int .i64 a, .int .i64 b] := rfl
theorem live_names : ∀ (N : List Int) (G : List Bool) (k : Nat), ((liveFrom N G k).map One.n).Sublist N
  | [], _, _ => by simp [liveFrom]
  | _ :: _, [], _ => by simp [liveFrom]
  | y :: r, true :: s, k => by
    simp only [liveFrom, if_true]
    exact (live_names r s (k + 1)).cons _
  | y :: r, false :: s, k => by
    simp only [liveFrom, Bool.false_eq_true, if_false, List.map_cons]
    exact (live_names r s (k + 1)).cons_cons _

set_option maxRecDepth 100000 in
set_option maxHeartbeats 3200000 in
theorem walk (n : Int) (v1 : Value) (Z : List (List Int)) (w : World) (w0 : (Lit.int .i64 n).wf = true) (w1 : IntRowsIn w v1 Z) (hL : ETok w) :
    Calls Tryd.prog 11 #[.int .i64 n, v1] w fun e w' => e = .returned (.bool true) ∧ Below w.heap.size w w' := by
  have HE := Lib.hid hL
  obtain ⟨A, cap, rfl, hle0, hm0, hc⟩ := w1
  unfold maxLen at hm0
  have hZ : Z.length ≤ 9223372036854775807 := by omega
  have HC := Lib.hid hc
  clear hc w0 hL
  by_cases hn : 1 ≤ n ∧ n ≤ 8
  case neg =>
    by_cases hlo : n < 1
    · go_enter Tryd.func11, Tryd.ntmps11
      go_wp2_with (first | (go_at_call 32; refine (inew_no n hn _).mono ?_; rintro e w5 ⟨rfl, rfl⟩) | (go_at_call 13; refine (same_yes 1 _ (HE.out.later (by refine Since.out ?_; repeat (first | with_reducible assumption | with_reducible exact Since.refl _ | with_reducible refine Since.later ?_ (by with_reducible assumption) | with_reducible refine Since.only ?_ (by with_reducible assumption) (by first | assumption | omega | (simp; done) | (simp; omega)) | with_reducible refine Since.alloc ?_ _ | with_reducible refine Since.drewN ?_ _ | with_reducible refine Since.drew ?_ | with_reducible refine Since.set ?_ (by first | assumption | omega | (simp; done) | (simp; omega)) _)))).mono ?_; rintro e w6 ⟨rfl, hb6⟩))
      go_ret
      exact ⟨rfl, (by refine Since.out ?_; repeat (first | with_reducible assumption | with_reducible exact Since.refl _ | with_reducible refine Since.later ?_ (by with_reducible assumption) | with_reducible refine Since.only ?_ (by with_reducible assumption) (by first | assumption | omega | (simp; done) | (simp; omega)) | with_reducible refine Since.alloc ?_ _ | with_reducible refine Since.drewN ?_ _ | with_reducible refine Since.drew ?_ | with_reducible refine Since.set ?_ (by first | assumption | omega | (simp; done) | (simp; omega)) _))⟩
    · have hhi : 8 < n := by omega
      go_enter Tryd.func11, Tryd.ntmps11
      go_wp2_with (first | (go_at_call 32; refine (inew_no n hn _).mono ?_; rintro e w5 ⟨rfl, rfl⟩) | (go_at_call 13; refine (same_yes 1 _ (HE.out.later (by refine Since.out ?_; repeat (first | with_reducible assumption | with_reducible exact Since.refl _ | with_reducible refine Since.later ?_ (by with_reducible assumption) | with_reducible refine Since.only ?_ (by with_reducible assumption) (by first | assumption | omega | (simp; done) | (simp; omega)) | with_reducible refine Since.alloc ?_ _ | with_reducible refine Since.drewN ?_ _ | with_reducible refine Since.drew ?_ | with_reducible refine Since.set ?_ (by first | assumption | omega | (simp; done) | (simp; omega)) _)))).mono ?_; rintro e w6 ⟨rfl, hb6⟩))
      go_ret
      exact ⟨rfl, (by refine Since.out ?_; repeat (first | with_reducible assumption | with_reducible exact Since.refl _ | with_reducible refine Since.later ?_ (by with_reducible assumption) | with_reducible refine Since.only ?_ (by with_reducible assumption) (by first | assumption | omega | (simp; done) | (simp; omega)) | with_reducible refine Since.alloc ?_ _ | with_reducible refine Since.drewN ?_ _ | with_reducible refine Since.drew ?_ | with_reducible refine Since.set ?_ (by first | assumption | omega | (simp; done) | (simp; omega)) _))⟩
  have n1 := hn.1
  have n2 := hn.2
  clear hn
  go_enter Tryd.func11, Tryd.ntmps11
  go_wp2_with fail
  refine (inew_yes n n1 n2 _).mono ?_
  rintro e w1 ⟨rfl, hi1, hb1⟩
  have hs1 : Since w w1 := hb1
  go_wp2_with fail
  refine (same_yes 0 _ (HE.out.later hs1)).mono ?_
  rintro e w2 ⟨rfl, hb2⟩
  have hi2 := hi1.later hb2
  have hs2 : Since w w2 := hs1.later hb2
  go_wp2_with fail
  have hT : Twins w (w2.alloc (.cells #[.int .i64 n, .slice none 0 0, .slice none 0 0] 75)) w2.heap.size n := by
    refine ⟨.slice none 0 0, .slice none 0 0, .slice none 0 0, [], [], ⟨hi2.later (by refine Since.out ?_; repeat (first | with_reducible assumption | with_reducible exact Since.refl _ | with_reducible refine Since.later ?_ (by with_reducible assumption) | with_reducible refine Since.only ?_ (by with_reducible assumption) (by first | assumption | omega | (simp; done) | (simp; omega)) | with_reducible refine Since.alloc ?_ _ | with_reducible refine Since.drewN ?_ _ | with_reducible refine Since.drew ?_ | with_reducible refine Since.set ?_ (by first | assumption | omega | (simp; done) | (simp; omega)) _)), ⟨BlockIs.fresh _ _ _, Lst.nil _ _ _, Lst.nil _ _ _, rfl, by simp⟩, ?_, ?_, (by refine Since.out ?_; repeat (first | with_reducible assumption | with_reducible exact Since.refl _ | with_reducible refine Since.later ?_ (by with_reducible assumption) | with_reducible refine Since.only ?_ (by with_reducible assumption) (by first | assumption | omega | (simp; done) | (simp; omega)) | with_reducible refine Since.alloc ?_ _ | with_reducible refine Since.drewN ?_ _ | with_reducible refine Since.drew ?_ | with_reducible refine Since.set ?_ (by first | assumption | omega | (simp; done) | (simp; omega)) _))⟩, List.nodup_nil⟩
    · have := hi2.bl.lt
      intro k hk
      simp [Value.ownBlock] at hk ⊢
      omega
    · have := hs2.le
      intro k hk
      simp [Value.ownBlock] at hk
      omega
  have HT := Lib.hid hT
  clear hT hi1 hi2 hb1 hb2 hs1 hs2
  generalize w2.alloc (.cells #[.int .i64 n, .slice none 0 0, .slice none 0 0] 75) = w3 at *
  generalize w2.heap.size = gm at *
  go_loopw [10] (fun s10 wr => ∃ (k : Nat), s10 = .int .i64 k ∧ k ≤ 150 ∧ Twins w wr gm n) (fun i _ => 150 - (intOf i).toNat)
  case atStart => exact ⟨0, rfl, by omega, HT.out⟩
  case round =>
    obtain ⟨k, rfl, hk, hT⟩ := hrel
    by_cases hlen : k < Z.length
    case neg =>
      have hlen' : decide ((k : Int) < (Z.length : Int)) = false := by simp; omega
      obtain ⟨v, va, vg, N, G, hT, _⟩ := hT
      have hs := hT.since
      clear hT
      go_wp2_with fail
      go_ret
      exact ⟨rfl, (by refine Since.out ?_; repeat (first | with_reducible assumption | with_reducible exact Since.refl _ | with_reducible refine Since.later ?_ (by with_reducible assumption) | with_reducible refine Since.only ?_ (by with_reducible assumption) (by first | assumption | omega | (simp; done) | (simp; omega)) | with_reducible refine Since.alloc ?_ _ | with_reducible refine Since.drewN ?_ _ | with_reducible refine Since.drew ?_ | with_reducible refine Since.set ?_ (by first | assumption | omega | (simp; done) | (simp; omega)) _))⟩
    by_cases h120 : k < 150
    case neg =>
      have hlen' : (k : Int) < (Z.length : Int) := by omega
      have h120' : decide ((k : Int) < 150) = false := by simp; omega
      obtain ⟨v, va, vg, N, G, hT, _⟩ := hT
      have hs := hT.since
      clear hT
      go_wp2_with fail
      go_ret
      exact ⟨rfl, (by refine Since.out ?_; repeat (first | with_reducible assumption | with_reducible exact Since.refl _ | with_reducible refine Since.later ?_ (by with_reducible assumption) | with_reducible refine Since.only ?_ (by with_reducible assumption) (by first | assumption | omega | (simp; done) | (simp; omega)) | with_reducible refine Since.alloc ?_ _ | with_reducible refine Since.drewN ?_ _ | with_reducible refine Since.drew ?_ | with_reducible refine Since.set ?_ (by first | assumption | omega | (simp; done) | (simp; omega)) _))⟩
    have hlen' : (k : Int) < (Z.length : Int) := by omega
    have h120' : (k : Int) < 150 := by omega
    obtain ⟨b, off, rfl, hlt, hc⟩ := HC.out (by rintro rfl; simp at hlen)
    obtain ⟨x, hx, hI⟩ := hc k hlen
    clear hc
    generalize Z.getD k [] = r at *
    obtain ⟨bdr, A', cap', rfl, hle', hm', hcr⟩ := hI
    have HX := Lib.hid hx
    have HR := Lib.hid hcr
    have HBD := Lib.hid (ith_bounds bdr)
    unfold maxLen at hm'
    clear hx hcr bdr
    obtain ⟨v, va, vg, N, G, hT, hnd⟩ := hT
    have HND := Lib.hid hnd
    have HTW := Lib.hid hT
    have hs : Since w wr := hT.since
    clear hT hnd
    obtain ⟨wo, rfl⟩ : ∃ wo : World, wo = wr := ⟨_, rfl⟩
    repeat ((fail_if_success (with_reducible refine stop_at 13 ?_)); first | fail | go_values | go_skip | go_guarded | go_step | go_upon | go_back | go_simp)
    go_cut [] (fun wx => BlockIs wx wo.heap.size 32 #[.int .i64 (ith r 0), .int .i64 (ith r 1)] ∧ Since wo wx)
    case first =>
      go_wp2_with fail
      go_loopw [12] (fun sj wi => ∃ j : Nat, sj = .int .i64 j ∧ j ≤ 2 ∧ j ≤ r.length ∧ BlockIs wi wo.heap.size 32 #[.int .i64 (vv r j 0), .int .i64 (vv r j 1)] ∧ Since wo wi) (fun i _ => 2 - (intOf i).toNat)
      case atStart => exact ⟨0, rfl, by omega, by omega, BlockIs.fresh _ _ _, (by refine Since.out ?_; repeat (first | with_reducible assumption | with_reducible exact Since.refl _ | with_reducible refine Since.later ?_ (by with_reducible assumption) | with_reducible refine Since.only ?_ (by with_reducible assumption) (by first | assumption | omega | (simp; done) | (simp; omega)) | with_reducible refine Since.alloc ?_ _ | with_reducible refine Since.drewN ?_ _ | with_reducible refine Since.drew ?_ | with_reducible refine Since.set ?_ (by first | assumption | omega | (simp; done) | (simp; omega)) _))⟩
      case round =>
        obtain ⟨j, rfl, hj2, hjr, hB, hs2⟩ := hrel
        have cx : wr.cell? ⟨b, off + k, none⟩ = some (.slice A' r.length cap') := hs2.cell (Nat.lt_of_lt_of_le hlt hs.le) (hs.cell hlt HX.out)
        by_cases hjl : j < r.length
        case neg =>
          have hjl' : decide ((j : Int) < (r.length : Int)) = false := by simp; omega
          have HB := Lib.hid (vv_end2 (Or.inl (by omega : r.length ≤ j)) ▸ hB)
          clear hB
          go_wp2_with fail
          go_meet
          case rel => exact ⟨HB.out, hs2⟩
        by_cases hj2' : j < 2
        case neg =>
          have hj3 : decide ((j : Int) < 2) = false := by simp; omega
          have hjl' : (j : Int) < (r.length : Int) := by omega
          have HB := Lib.hid (vv_end2 (r := r) (Or.inr (by omega : 2 ≤ j)) ▸ hB)
          clear hB
          go_wp2_with fail
          go_meet
          case rel => exact ⟨HB.out, hs2⟩
        have hjl' : (j : Int) < (r.length : Int) := by omega
        have hj3 : (j : Int) < 2 := by omega
        obtain ⟨b2, off2, rfl, hlt2, hc2⟩ := HR.out (by rintro rfl; simp at hjl)
        have cj : wr.cell? ⟨b2, off2 + j, none⟩ = some (.int .i64 (ith r j)) := hs2.cell (Nat.lt_of_lt_of_le hlt2 hs.le) (hs.cell hlt2 (hc2 j hjl))
        have fj := hB.free
        have ij : wr.cell? ⟨wo.heap.size, j, none⟩ = some (.int .i64 0) := (hB.cell j).trans (vv_next2 r hj2').1
        have HB := Lib.hid ((vv_next2 r hj2').2 ▸ hB.put j (.int .i64 (ith r j)))
        clear hc2 hB
        go_wp2_with fail
        go_roundw
        case rel => exact ⟨j + 1, by go_num, by omega, by omega, HB.out, (by refine Since.out ?_; repeat (first | with_reducible assumption | with_reducible exact Since.refl _ | with_reducible refine Since.later ?_ (by with_reducible assumption) | with_reducible refine Since.only ?_ (by with_reducible assumption) (by first | assumption | omega | (simp; done) | (simp; omega)) | with_reducible refine Since.alloc ?_ _ | with_reducible refine Since.drewN ?_ _ | with_reducible refine Since.drew ?_ | with_reducible refine Since.set ?_ (by first | assumption | omega | (simp; done) | (simp; omega)) _))⟩
        case measure => simp [intOf]; omega
    case rest =>
      obtain ⟨wv, rfl⟩ : ∃ wv : World, wv = wc := ⟨_, rfl⟩
      obtain ⟨hBv, hs2⟩ := hcut
      have hTv := HTW.out.later hs2
      have hT3 : Trio w wv (w.heap.size + 1) w.heap.size gm wo.heap.size v va vg n (liveOf N G) N N G (ith r 0) (ith r 1) :=
        ⟨hTv, hBv, fun hm => by have := HTW.out.ltI _ hm; omega, fun hm => by have := HTW.out.ltR _ hm; omega⟩
      have HT3 := Lib.hid hT3
      generalize ith r 0 = x0 at *
      generalize ith r 1 = x1 at *
      have cv0 : wv.cell? ⟨wo.heap.size, 0, none⟩ = some (.int .i64 x0) := hBv.cell 0
      have cv1 : wv.cell? ⟨wo.heap.size, 1, none⟩ = some (.int .i64 x1) := hBv.cell 1
      have hsv := hTv.since
      have HLEN := Lib.hid hTv.rz.len
      clear hBv hTv hT3 hs hs2 HX HR HTW
      generalize wo.heap.size = gv at *
      repeat ((fail_if_success (with_reducible refine stop_at 17 ?_)); first | fail | go_values | go_skip | go_guarded | go_step | go_upon | go_back | go_simp)
      go_cut [8] (fun s8 wx => s8 = .bool true ∧ Twins w wx gm n)
      case first =>
        by_cases h0 : x0 = 0
        · have h0' : (x0 == 0) = true := by simpa using h0
          have c1 := Lib.hid cv1
          clear h0
          go_wp2_with fail
          go_region_held3 (fun w' => w'.cell? ⟨gv, 1, none⟩ = some (.int .i64 x1)) (first | exact c1.out | exact cq1.out | exact cq2.out | exact cq3.out) (first | (go_at_call 36; refine (iret (w.heap.size + 1) w.heap.size v n N G x1 _ HLEN.out ?_).mono ?_; (first | exact HT3.out.duo.iz | exact HT3.out.drew.duo.iz | exact HTb.out.duo.iz | exact HTb.out.drew.duo.iz); rintro e w5 ⟨rfl, hI⟩; (first | (obtain ⟨v5, ha⟩ := HT3.out.stepI hI; have cq1 := Lib.hid (ha.row.cell 1); have HTa := Lib.hid ha) | (obtain ⟨v5, ha⟩ := HT3.out.drew.stepI hI; have cq1 := Lib.hid (ha.row.cell 1); have HTa := Lib.hid ha) | (obtain ⟨v5, ha⟩ := HTb.out.stepI hI; have cq1 := Lib.hid (ha.row.cell 1); have HTa := Lib.hid ha) | (obtain ⟨v5, ha⟩ := HTb.out.drew.stepI hI; have cq1 := Lib.hid (ha.row.cell 1); have HTa := Lib.hid ha)); clear ha hI) | (go_at_call 37; refine (rretire gm va vg n N G x1 _ ?_).mono ?_; (first | exact HT3.out.duo.rz | exact HT3.out.drew.duo.rz | exact HTa.out.duo.rz | exact HTa.out.drew.duo.rz); rintro e w6 ⟨rfl, hR, hO⟩; (first | (have hb := HT3.out.stepT hR hO; have cq2 := Lib.hid (hb.row.cell 1); have HTb := Lib.hid hb) | (have hb := HT3.out.drew.stepT hR hO; have cq2 := Lib.hid (hb.row.cell 1); have HTb := Lib.hid hb) | (have hb := HTa.out.stepT hR hO; have cq2 := Lib.hid (hb.row.cell 1); have HTb := Lib.hid hb) | (have hb := HTa.out.drew.stepT hR hO; have cq2 := Lib.hid (hb.row.cell 1); have HTb := Lib.hid hb)); clear hb hR hO) | (go_at_call 13; refine (same_yes (rretE G x1) _ ?_).mono ?_; (first | exact HE.out.later HTb.out.duo.since | exact HE.out.later HTa.out.duo.since | exact HE.out.later HTb.out.drew.duo.since | exact HE.out.later HTa.out.drew.duo.since); rintro e w7 ⟨rfl, hb7⟩; first | (have hF : Trio w w7 (w.heap.size + 1) w.heap.size gm gv _ va vg n (liveOf N (rretG G x1)) N N (rretG G x1) x0 x1 := HTb.out.later hb7; have cq3 := Lib.hid (hF.row.cell 1); have HF := Lib.hid hF; clear hF) | (have hF : Trio w w7 (w.heap.size + 1) w.heap.size gm gv _ va vg n (liveOf N (rretG G x1)) N N (rretG G x1) x0 x1 := HTa.out.later hb7; have cq3 := Lib.hid (hF.row.cell 1); have HF := Lib.hid hF; clear hF)))
          all_goals
            go_wp2_with fail
            go_meet
            case rel => exact ⟨by first | rfl | simp, _, _, _, _, _, HF.out.duo, HND.out⟩
        · have h0' : (x0 == 0) = false := by simpa using h0
          by_cases hone : x0 = 1
          · have h1' : (x0 == 1) = true := by simpa using hone
            have hsub := live_names N G 0
            have hfew := HT3.out.duo.iz.few
            have hl2 := HT3.out.duo.iz.l2
            clear h0 hone
            go_wp2_with fail
            have hA : Since wv (wv.alloc (.cells #[.int .i64 0, .int .i64 0] 67)) := (Since.refl _).alloc _
            refine (rlive gm va vg n N G _ (HT3.out.later hA).duo.rz).mono ?_
            rintro e w5 ⟨A5, c5, rfl, hl5, hb5, hk5⟩
            have hd5 : BlockIs w5 wv.heap.size 67 #[.int .i64 0, .int .i64 0] := BlockIs.later (w := wv.alloc (.cells #[.int .i64 0, .int .i64 0] 67)) (BlockIs.fresh _ _ _) hb5
            have hs5 : Since wv w5 := hA.later hb5
            have hoff : wv.heap.size ∉ blocks (.slice A5 0 0) := fun hm => by have := hk5 _ hm; simp at this; omega
            have hlg := hd5.lt
            have lv := HT3.out.row.lt
            obtain ⟨L, hL⟩ : ∃ L, liveOf N G = L := ⟨_, rfl⟩
            have hsub' : (L.map One.n).Nodup := by rw [← hL]; exact HND.out.sublist hsub
            rw [hL] at hl5 hfew ⊢
            have hm8 : L.length ≤ 100 := by omega
            obtain ⟨A6, cap6, hve, _, _, hA6⟩ := hl5.shape
            rw [List.length_map] at hve
            simp only [Value.slice.injEq] at hve
            obtain ⟨rfl, _, rfl⟩ := hve
            have HL := Lib.hid hL
            have HL5 := Lib.hid hl5
            have HD5 := Lib.hid hd5
            have HOFF := Lib.hid hoff
            have HNM := Lib.hid hsub'
            have HA6 := Lib.hid hA6
            clear hl5 hd5 hoff hsub hsub' hL hA6 hb5 hk5 cv0 cv1
            go_wp2_with fail
            go_loopw [5, 15] (fun s5 s15 wx => ∃ i : Nat, s15 = .int .i64 i ∧ i ≤ L.length ∧ s5 = .int .i64 (findE (L.take i) x1) ∧ BlockIs wx wv.heap.size 67 #[.int .i64 (findD (L.take i) x1).s, .int .i64 (findD (L.take i) x1).n] ∧ Lst wx 67 2 (.slice A5 L.length c5) (L.map idRow) ∧ Since wv wx) (fun _ s15 _ => L.length - (intOf s15).toNat)
            case atStart => exact ⟨0, rfl, Nat.zero_le _, rfl, HD5.out, HL5.out, hs5⟩
            case round =>
              obtain ⟨i, rfl, hi, rfl, hB, hl, hs6⟩ := hrel
              have cv : wr.cell? ⟨gv, 1, none⟩ = some (.int .i64 x1) := (HT3.out.row.later hs6).cell 1
              by_cases hil : i < L.length
              case pos =>
                have hil' : (i : Int) < (L.length : Int) := by omega
                rcases HA6.out with ⟨_, h0, _⟩ | ⟨qa, rfl⟩
                · have : L = [] := by simpa using h0
                  rw [this] at hil
                  simp at hil
                have q0 : wr.cell? ⟨qa, i * 2, none⟩ = some (.int .i64 L[i].s) := hl.cell rfl (elem_of_row hil) (j := 0) rfl
                have q1 : wr.cell? ⟨qa, i * 2 + 1, none⟩ = some (.int .i64 L[i].n) := hl.cell rfl (elem_of_row hil) (j := 1) rfl
                have hst : L.take (i + 1) = L.take i ++ [L[i]] := List.take_succ_eq_append_getElem hil
                by_cases hx : L[i].n = x1
                · have hf := (find_snoc (L := L.take i) (d := L[i]) (x := x1)).1 hx (by
                    intro a ha hax
                    obtain ⟨j, hj, rfl⟩ := List.getElem_of_mem ha
                    rw [List.getElem_take] at hax
                    rw [List.length_take] at hj
                    have := List.pairwise_iff_getElem.1 HNM.out j i (by simp; omega) (by simpa using hil) (by omega)
                    simp only [List.getElem_map] at this
                    exact this (hax.trans hx.symm))
                  rw [← hst] at hf
                  have fB := hB.free
                  have lB := hB.lt
                  obtain ⟨ds, hds⟩ : ∃ x, L[i].s = x := ⟨_, rfl⟩
                  have hp := fun nq => ((hB.drewN nq).put 0 (.int .i64 ds)).put 1 (.int .i64 x1)
                  have i0 : wr.cell? ⟨wv.heap.size, 0, none⟩ = some (.int .i64 (findD (L.take i) x1).s) := hB.cell 0
                  have i1 : wr.cell? ⟨wv.heap.size, 1, none⟩ = some (.int .i64 (findD (L.take i) x1).n) := hB.cell 1
                  have hq : qa ≠ wv.heap.size := fun e => HOFF.out (by simp [Value.ownBlock, e])
                  have ho : ∀ nq a c, Out wr (((wr.drewN nq).setCell ⟨wv.heap.size, 0, none⟩ a).setCell ⟨wv.heap.size, 1, none⟩ c) [wv.heap.size] := fun nq a c => (((Out.refl wr _).drewN nq).put (p := ⟨wv.heap.size, 0, none⟩) (Or.inl (by simp)) a).put (p := ⟨wv.heap.size, 1, none⟩) (Or.inl (by simp)) c
                  rw [hx] at q1
                  rw [hds] at q0
                  have HF := Lib.hid (And.intro hf.1 (And.intro (show (findD (L.take (i + 1)) x1).s = ds by rw [hf.2]; exact hds) (show (findD (L.take (i + 1)) x1).n = x1 by rw [hf.2]; exact hx)))
                  have HP := Lib.hid hp
                  have HQ := Lib.hid ho
                  have HLL := Lib.hid hl
                  clear hf hx hst hds hp ho hl hB
                  go_wp2_with fail
                  go_quiet (fail)
                  go_wp2_with fail
                  go_roundw
                  case rel => exact ⟨i + 1, by go_num, by omega, by rw [HF.out.1], by rw [HF.out.2.1, HF.out.2.2]; exact HP.out _, HLL.out.kept (HQ.out _ _ _) (fun k hk hm => by have h1 : qa = k := (by simpa [Value.ownBlock] using hk); exact hq (h1.trans (List.mem_singleton.1 hm))), hs6.out' (HQ.out _ _ _) (fun k hk => by rw [List.mem_singleton.1 hk]; exact Nat.le_refl _)⟩
                  case measure => simp [intOf]; omega
                · have hf := (find_snoc (L := L.take i) (d := L[i]) (x := x1)).2 hx
                  rw [← hst] at hf
                  obtain ⟨dn, hdn⟩ : ∃ x, L[i].n = x := ⟨_, rfl⟩
                  rw [hdn] at q1 hx
                  have hxb : (dn == x1) = false := by simpa using hx
                  have HF := Lib.hid hf
                  have HLL := Lib.hid hl
                  have HBB := Lib.hid hB
                  clear hf hx hst hdn q0 hl hB
                  go_wp2_with fail
                  go_quiet (fail)
                  go_wp2_with fail
                  go_roundw
                  case rel => exact ⟨i + 1, by go_num, by omega, by rw [HF.out.1], by rw [HF.out.2]; exact HBB.out.drewN _, HLL.out.drewN _, hs6.drewN _⟩
                  case measure => simp [intOf]; omega
              obtain rfl : i = L.length := by omega
              have hf' : decide ((L.length : Int) < (L.length : Int)) = false := by simp
              have e2 : L.take L.length = L := List.take_length
              rw [e2] at hB ⊢
              obtain ⟨D, hD⟩ : ∃ D, findD L x1 = D := ⟨_, rfl⟩
              rw [hD] at hB
              obtain ⟨da, db⟩ := D
              have HD := Lib.hid hD
              have HB := Lib.hid hB
              have HT6 := Lib.hid (HT3.out.later hs6)
              have lB := hB.lt
              clear hD hB hl e2
              go_wp2_with fail
              refine (ifind _ _ v n (liveOf N G) N x1 _ HT6.out.duo.iz).mono ?_
              rintro e w7 ⟨rfl, hb7⟩
              rw [HL.out, HD.out, oneV_eq]
              have hs7 := hs6.later hb7
              go_wp2_with fail
              have hA7 : Since wv (w7.alloc (.cells #[.int .i64 da, .int .i64 db] 67)) := hs7.alloc _
              refine (same_yes _ _ (HE.out.later (HT3.out.later hA7).duo.since)).mono ?_
              rintro e w8 ⟨rfl, hb8⟩
              have hB8 : BlockIs w8 wv.heap.size 67 #[.int .i64 da, .int .i64 db] := ((HB.out.later hb7).alloc _).later hb8
              have hC8 : BlockIs w8 w7.heap.size 67 #[.int .i64 da, .int .i64 db] := BlockIs.later (w := w7.alloc (.cells #[.int .i64 da, .int .i64 db] 67)) (BlockIs.fresh _ _ _) hb8
              have HT8 := Lib.hid (HT3.out.later (hA7.later hb8))
              have e0 : w8.cell? ⟨wv.heap.size, 0, none⟩ = some (.int .i64 da) := hB8.cell 0
              have e1 : w8.cell? ⟨wv.heap.size, 1, none⟩ = some (.int .i64 db) := hB8.cell 1
              have e2 : w8.cell? ⟨w7.heap.size, 0, none⟩ = some (.int .i64 da) := hC8.cell 0
              have e3 : w8.cell? ⟨w7.heap.size, 1, none⟩ = some (.int .i64 db) := hC8.cell 1
              clear hB8 hC8 hb8 hb7
              go_wp2_with fail
              go_meet
              case rel => exact ⟨by first | rfl | simp, _, _, _, _, _, HT8.out.duo, HND.out⟩
          · have h1' : (x0 == 1) = false := by simpa using hone
            clear h0 hone
            go_wp2_with fail
            refine (rissue gm va vg n N G x1 _ HT3.out.duo.rz).mono ?_
            rintro e w5 ⟨rfl, hJ⟩
            obtain ⟨va5, vg5, h5⟩ := HT3.out.stepR hJ
            obtain ⟨D, hD⟩ : ∃ D, rissD n N G x1 = D := ⟨_, rfl⟩
            rw [hD]
            have HD := Lib.hid hD
            obtain ⟨da, db⟩ := D
            rw [oneV_eq]
            have c1 : w5.cell? ⟨gv, 1, none⟩ = some (.int .i64 x1) := h5.row.cell 1
            have lv := h5.row.lt
            have HT5 := Lib.hid h5
            clear h5 hJ hD cv0 cv1
            go_wp2_with fail
            have hA : Since w5 (w5.alloc (.cells #[.int .i64 da, .int .i64 db] 67)) := (Since.refl _).alloc _
            refine (iiss _ _ v n N G x1 _ HLEN.out (HT5.out.later hA).duo.iz).mono ?_
            rintro e w6 ⟨rfl, hI⟩
            obtain ⟨v6, h6⟩ := (HT5.out.later hA).stepI hI
            obtain ⟨_, _, ho6, _⟩ := hI
            have hB6 : BlockIs w6 w5.heap.size 67 #[.int .i64 da, .int .i64 db] := ho6.block' (BlockIs.fresh _ _ _) (fun hm => by have := HT5.out.duo.ltI _ hm; omega)
            rw [HD.out, oneV_eq]
            have l6 := hB6.lt
            have HT6 := Lib.hid h6
            have HB6 := Lib.hid hB6
            clear h6 hB6 ho6 c1
            generalize w5.heap.size = d5 at *
            go_wp2_with fail
            have hA6 : Since w6 (w6.alloc (.cells #[.int .i64 da, .int .i64 db] 67)) := (Since.refl _).alloc _
            refine (same_yes _ _ (HE.out.later (HT6.out.later hA6).duo.since)).mono ?_
            rintro e w7 ⟨rfl, hb7⟩
            have hB7 : BlockIs w7 d5 67 #[.int .i64 da, .int .i64 db] := (HB6.out.alloc _).later hb7
            have hC7 : BlockIs w7 w6.heap.size 67 #[.int .i64 da, .int .i64 db] := BlockIs.later (w := w6.alloc (.cells #[.int .i64 da, .int .i64 db] 67)) (BlockIs.fresh _ _ _) hb7
            have HT7 := Lib.hid ((HT6.out.later hA6).later hb7)
            have e0 : w7.cell? ⟨d5, 0, none⟩ = some (.int .i64 da) := hB7.cell 0
            have e1 : w7.cell? ⟨d5, 1, none⟩ = some (.int .i64 db) := hB7.cell 1
            have e2 : w7.cell? ⟨w6.heap.size, 0, none⟩ = some (.int .i64 da) := hC7.cell 0
            have e3 : w7.cell? ⟨w6.heap.size, 1, none⟩ = some (.int .i64 db) := hC7.cell 1
            clear hB7 hC7 hb7
            go_wp2_with fail
            go_meet
            case rel => exact ⟨by first | rfl | simp, _, _, _, _, _, HT7.out.duo, riss_nodup HND.out⟩
      case rest =>
        obtain ⟨wz, rfl⟩ : ∃ wz : World, wz = wc := ⟨_, rfl⟩
        obtain ⟨rfl, v', va', vg', N', G', hT', hnd'⟩ := hcut
        have HT4 := Lib.hid hT'
        have HND4 := Lib.hid hnd'
        have hfew := hT'.iz.few
        have hl2 := hT'.iz.l2
        clear hT' hnd' HT3 cv0 cv1 HND HLEN
        go_wp2_with (first | (go_at_call 35; refine (ilive _ _ v' n _ N' _ HT4.out.iz).mono ?_; rintro e w8 ⟨A8, c8, rfl, hl8, hb8, hk8⟩; have HL8 := Lib.hid hl8; clear hl8) | (go_at_call 38; refine (rlive gm va' vg' n N' G' _ (HT4.out.rz.later hb8)).mono ?_; rintro e w9 ⟨A9, c9, rfl, hl9, hb9, hk9⟩; have HL9 := Lib.hid hl9; clear hl9) | (go_at_call 40; refine (idseq A8 A9 c8 c9 _ (liveOf N' G') _ rfl (HL8.out.later hb9) HL9.out (by omega)).mono ?_; rintro e w10 ⟨rfl, hb10⟩))
        go_roundw
        case rel => exact ⟨k + 1, by go_num, by omega, v', va', vg', N', G', ((HT4.out.later hb8).later hb9).later hb10, HND4.out⟩
        case measure => simp [intOf]; omega

/-! the row -/
theorem own : ownKnob Tryd.prog.godebug = none := by kernel_rfl
theorem laidOut : laidOutB Tryd.prog = true := by kernel_rfl
set_option maxRecDepth 100000 in
theorem contract (H : Type) (enc : TypeId × Value → H) (W : World) (base : Nat) (args : Array Value) (ds gs : List (DataW H)) (before : List MemPlace)
    (hval : ∀ (j : Nat) t v, Tryd.f11.params[j]? = some t → args[j]? = some v → Value.okWide Tryd.prog W .any base t v)
    (hW : DataW.Whole enc Tryd.prog Tryd.f11.params.toList Rows.iDsPlaySpec.vars false W args.toList ds gs before) (hL : laidMetH Tryd.prog Rows.iDsPlayRow.laid W) :
    Calls Tryd.prog 11 args W fun e W' => ∃ v, e = .returned v ∧ Rows.iDsPlaySpec.post enc Tryd.prog Tryd.f11 false true false false W args v W' := by
  have hW' := hW
  obtain ⟨p, q, hA0, hV, rfl, hfz, hnd⟩ := hW
  have hA : DataW.TrodAll enc Tryd.prog W 0 (fun _ => true) true Tryd.f11.params.toList args.toList ds p := hA0
  rw [Tryd.params11] at hA hval
  obtain ⟨v0, vs0, d0, ds0, p0, q0, hargs, rfl, rfl, h0, r0⟩ := trodAll_cons hA
  obtain ⟨v1, vs1, d1, ds1, p1, q1, rfl, rfl, rfl, h1, r1⟩ := trodAll_cons r0
  obtain ⟨rfl, rfl, rfl⟩ := trodAll_nil r1
  obtain rfl : args = #[v0, v1] := by cases args; simp_all
  obtain ⟨rfl, rfl⟩ := trodVars_none hV
  obtain ⟨a0, rfl, rfl, rfl, w0⟩ := open_int Tryd.underlying3 (hval 0 3 v0 rfl rfl) h0
  obtain ⟨a1, len1, cap1, rfl⟩ := okWide_slice Tryd.underlying22 (hval 1 22 v1 rfl rfl)
  have k1 := h1
  have lt1 : ∀ x ∈ p1, x.block < W.heap.size := by obtain ⟨m, hm⟩ := k1; exact DataW.trod_lt m _ _ _ hm
  obtain ⟨z1, w1⟩ : ∃ zs, IntRowsIn W (.slice a1 len1 cap1) zs := by
    obtain ⟨fuel, hf⟩ := h1
    exact intRowsIn_open Tryd.underlying22 Tryd.underlying33 Tryd.underlying3 (by kernel_rfl) (by kernel_rfl) hf lt1
  have lw := laidWalk hL
  refine (walk a0 (.slice a1 len1 cap1) z1 W w0 w1 lw).mono fun e W' ⟨he, bel⟩ => ?_
  subst he
  exact ⟨_, rfl, _, _, _, [], _, [], hW', trodAll_mk1 (shut_bool Tryd.underlying4 _), (trodAll_cons_mk (shut_int Tryd.underlying3 w0) (trodAll_cons_mk (Below.trod laidOut (by kernel_rfl) (of_decide_eq_true (by kernel_rfl)) k1 bel lt1) trodAll_mk0)), rfl, bel.frame _, fun h => by cases h⟩

theorem reads (os : Os) {H : Type} (enc : TypeId × Value → H) : ∃ places, DataW.whole enc Tryd.prog ((laidWorld os).forCall (fun _ _ => 0) ⟨#[], #[.int .i64 0, .slice none 0 0], []⟩).memory Tryd.f11.params.toList Rows.iDsPlaySpec.vars false (#[.int .i64 0, .slice none 0 0] : Array Value).toList 8 = some ([.lit (.int .i64 0), .nil], [], places) :=
  ⟨[], by kernel_rfl⟩
theorem laid_met (os : Os) : laidMetH Tryd.prog Rows.iDsPlayRow.laid ((laidWorld os).forCall (fun _ _ => 0) ⟨#[], #[.int .i64 0, .slice none 0 0], []⟩).memory := laidMetW os _

set_option maxRecDepth 100000 in
theorem lifted (os : Os) (started : os.Started) (H : Type) (enc : TypeId × Value → H) (F : Stop.Interp) :
    ReturnsInHanded {} Tryd.checked os 11 .any ((OpenSpec.ofChange Rows.iDsPlaySpec).preRow enc Tryd.prog Tryd.f11 Rows.iDsPlayRow.domain false Rows.iDsPlayRow.laid) (((OpenSpec.ofChange Rows.iDsPlaySpec).at F).post enc Tryd.prog Tryd.f11 false true false false) := by
  obtain ⟨places, hx⟩ := reads os enc
  refine returnsInHanded_of_row (C := Tryd.checked) (s := OpenSpec.ofChange Rows.iDsPlaySpec) own started (by kernel_rfl) Tryd.func11
    (witness_row_at (enc := enc) (C := Tryd.checked) false (laidWorld os) #[.int .i64 0, .slice none 0 0] rfl (by kernel_rfl) (by kernel_rfl) (by kernel_rfl)
      (OpenSpec.preRow_of_cond 8 hx (by kernel_rfl) (fun k hk => by cases hk) (by kernel_rfl) (laid_met os))) ?_
  intro W base args ds gs before hval hW _ _ _ hL _ _
  exact contract H enc W base args ds gs before hval hW hL

theorem said : Rows.IDsPlaySaid :=
  OpenClaim.holds_of_cond 11 Tryd.f11 rfl rfl rfl rfl rfl rfl rfl ⟨rfl, rfl, rfl, rfl, rfl⟩ rfl rfl rfl rfl rfl (by kernel_rfl) Tryd.func11 (by kernel_rfl)
    (of_decide_eq_true (by kernel_rfl)) (by unfold Func.isWrapper; first | (rw [if_pos (by decide +kernel)]; kernel_rfl) | (rw [if_neg (by decide +kernel)]; exact ⟨rfl, rfl⟩))
    (fun os started H enc _ F => by rw [OpenClaim.pre_eq_preRow]; exact lifted os started H enc F)

theorem plain (f : FuncId) (fn : Func) (hf : Tryd.pinned.checked.prog.funcNamed "wanderwire/wirelaw1.IDsPlay" = some f) (hfn : Tryd.pinned.checked.prog.funcs[f]? = some fn) :
    true = Tryd.pinned.checked.prog.looks [] ∧ ∀ (j : Nat) t, fn.params[j]? = some t → Tryd.pinned.checked.prog.wantsStandIn t = false := by
  obtain rfl : f = 11 := Option.some.inj ((show Tryd.prog.funcNamed "wanderwire/wirelaw1.IDsPlay" = some 11 by kernel_rfl).symm.trans hf) |>.symm
  obtain rfl : fn = Tryd.f11 := (Option.some.inj (Tryd.func11.symm.trans hfn)).symm
  refine ⟨by kernel_rfl, fun j t ht => ?_⟩
  rw [Tryd.params11] at ht
  have ht' := Array.mem_of_getElem? ht
  have hall : (([3, 22] : List Nat).all fun t => !Tryd.prog.wantsStandIn t) = true := by kernel_rfl
  have hq := List.all_eq_true.1 hall t (by simpa using ht')
  have hq2 : Tryd.prog.wantsStandIn t = false := by simpa using hq
  exact hq2

theorem card : Rows.IDsPlayCardSaid :=
  Claim7.holds_tied_plain_at .later [] _ _ _ _ said (fun _ h => by cases h) (by kernel_rfl) (fun _ h => by cases h) iDsPlay_row_tie rfl ⟨rfl, rfl⟩ (by kernel_rfl) rfl plain (by kernel_rfl)
#print axioms card
end Go.Proofs.YtaiojfoicfhbnaaDoor.iDsPlay
