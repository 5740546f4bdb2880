/- Contracts of the reference's stream: what each answers, and what becomes of its block. Condition: the block holds a stream as NewStream and the calls leave it; a piece's bytes are no more than the memory reaches. -/
import Derived.Test.YtbmfknnbpnllkaaDoorStr
import Derived.Test.YtbmfknnbpnllkaaDoorConv
import Derived.Deep.QuietTactic
import Derived.BigQuiet
import Derived.BigRegion
import Derived.Deep.RegionLaw
namespace Go.Proofs.YtbmfknnbpnllkaaDoor
open Go.ChangeShapes Go.WideShapes Go.ChangeAt Go.RowKit
set_option linter.unusedVariables false

def iv (o : Option UInt8) : Int := match o with | none => -1 | some b => (b.toNat : Int)
def inV (o : Option UInt8) : Value := .int .i64 (iv o)
/-- the reference's cells -/
def refCells (M : Plc) (t : Nat) : Array Value := (M.map inV ++ [Value.int .i64 (t : Int)]).toArray
theorem refCells_at {M : Plc} (hM : M.length = 60) (t : Nat) {i : Nat} (h : i < 60) : (refCells M t)[i]? = some (.int .i64 (iv (M.at i))) := by
  unfold refCells
  rw [List.getElem?_toArray, List.getElem?_append_left (by rw [List.length_map]; omega), List.getElem?_map]
  unfold Plc.at
  rw [List.getElem?_eq_getElem (by omega)]
  simp [List.getD, List.getElem?_eq_getElem (show i < M.length by omega), inV]
theorem refCells_taken {M : Plc} (hM : M.length = 60) (t : Nat) : (refCells M t)[60]? = some (.int .i64 (t : Int)) := by
  unfold refCells
  rw [List.getElem?_toArray, List.getElem?_append_right (by rw [List.length_map]; omega), List.length_map, hM]
  rfl
theorem refCells_put {M : Plc} (hM : M.length = 60) (t : Nat) {i : Nat} (h : i < 60) (o : Option UInt8) : (refCells M t).setIfInBounds i (.int .i64 (iv o)) = refCells (M.set i o) t := by
  unfold refCells
  rw [List.setIfInBounds_toArray, List.set_append_left _ _ (by rw [List.length_map]; omega), List.map_set]
  rfl
theorem refCells_take {M : Plc} (hM : M.length = 60) (t t' : Nat) : (refCells M t).setIfInBounds 60 (.int .i64 (t' : Int)) = refCells M t' := by
  unfold refCells
  rw [List.setIfInBounds_toArray, List.set_append_right _ _ (by rw [List.length_map]; omega), List.length_map, hM]
  rfl
/-- the reference's stream at g -/
structure Qz (w : World) (g : Nat) (M : Plc) (t : Nat) : Prop where
  bl : BlockIs w g 103 (refCells M t)
  len : M.length = 60
  most : t ≤ 60
theorem Qz.later {w w1 : World} {g : Nat} {M : Plc} {t : Nat} (h : Qz w g M t) (hb : Below w.heap.size w w1) : Qz w1 g M t := ⟨h.bl.later hb, h.len, h.most⟩
theorem Qz.kept {w w1 : World} {g : Nat} {M : Plc} {t : Nat} {S : List Nat} (h : Qz w g M t) (hg : Out w w1 S) (h1 : g ∉ S) : Qz w1 g M t := ⟨hg.block' h.bl h1, h.len, h.most⟩
theorem Qz.drewN {w : World} {g : Nat} {M : Plc} {t : Nat} (h : Qz w g M t) (n : Nat) : Qz (w.drewN n) g M t := ⟨h.bl, h.len, h.most⟩
theorem Qz.at_ {w : World} {g : Nat} {M : Plc} {t : Nat} (h : Qz w g M t) {i : Nat} (hi : i < 60) : w.cell? ⟨g, i, none⟩ = some (.int .i64 (iv (M.at i))) := (h.bl.cell i).trans (refCells_at h.len t hi)
theorem Qz.taken {w : World} {g : Nat} {M : Plc} {t : Nat} (h : Qz w g M t) : w.cell? ⟨g, 60, none⟩ = some (.int .i64 (t : Int)) := (h.bl.cell _).trans (refCells_taken h.len t)
theorem Qz.put {w : World} {g : Nat} {M : Plc} {t : Nat} (h : Qz w g M t) {i : Nat} (hi : i < 60) (o : Option UInt8) : Qz (w.setCell ⟨g, i, none⟩ (.int .i64 (iv o))) g (M.set i o) t := by
  refine ⟨?_, by rw [List.length_set]; exact h.len, h.most⟩
  rw [← refCells_put h.len t hi o]
  exact h.bl.put i _
theorem Qz.take {w : World} {g : Nat} {M : Plc} {t t' : Nat} (h : Qz w g M t) (ht : t' ≤ 60) : Qz (w.setCell ⟨g, 60, none⟩ (.int .i64 (t' : Int))) g M t' := by
  refine ⟨?_, h.len, ht⟩
  rw [← refCells_take h.len t t']
  exact h.bl.put 60 _

/-- so many places are none, the rest is a byte 0 -/
def blank (i : Nat) : Plc := List.replicate i none ++ List.replicate (60 - i) (some 0)
theorem blank_len {i : Nat} (h : i ≤ 60) : (blank i).length = 60 := by unfold blank; rw [List.length_append, List.length_replicate, List.length_replicate]; omega
theorem blank_step {i : Nat} (h : i < 60) : (blank i).set i none = blank (i + 1) := by
  unfold blank
  rw [List.set_append_right _ _ (by rw [List.length_replicate]; exact Nat.le_refl _), List.length_replicate, Nat.sub_self]
  obtain ⟨m, hm⟩ : ∃ m, 60 - i = m + 1 := ⟨59 - i, by omega⟩
  rw [hm, List.replicate_succ, List.set_cons_zero, show 60 - (i + 1) = m by omega, List.replicate_succ']
  simp
theorem blank_end : blank 60 = Plc.new := by unfold blank Plc.new; simp

set_option maxHeartbeats 1600000 in
theorem qnew (w : World) : Calls Tryd.prog 16 #[] w fun e w' => e = .returned (.pointer (some ⟨w.heap.size, 0, none⟩)) ∧ Qz w' w.heap.size Plc.new 0 ∧ Below w.heap.size w w' := by
  go_enter Tryd.func16, Tryd.ntmps16
  go_wp2_with fail
  go_loopw [2] (fun s2 wr => ∃ i : Nat, s2 = .int .i64 i ∧ i ≤ 60 ∧ Qz wr w.heap.size (blank i) 0 ∧ Since w wr) (fun s2 _ => 60 - (intOf s2).toNat)
  case atStart => exact ⟨0, rfl, by omega, ⟨BlockIs.fresh _ _ _, blank_len (by omega), by omega⟩, (by refine Since.out ?_; repeat (first | with_reducible assumption | with_reducible exact Since.refl _ | with_reducible refine Since.later ?_ (by with_reducible assumption) | with_reducible refine Since.only ?_ (by with_reducible assumption) (by first | assumption | omega | (simp; done) | (simp; omega)) | with_reducible refine Since.alloc ?_ _ | with_reducible refine Since.drewN ?_ _ | with_reducible refine Since.drew ?_ | with_reducible refine Since.set ?_ (by first | assumption | omega | (simp; done) | (simp; omega)) _))⟩
  case round =>
    obtain ⟨i, rfl, hi, hz, hs⟩ := hrel
    have HZ := Lib.hid hz
    have lg := hz.bl.lt
    have f0 := hz.bl.free
    clear hz
    by_cases hlt : i < 60
    case neg =>
      obtain rfl : i = 60 := by omega
      go_wp2_with fail
      go_ret
      exact ⟨rfl, by rw [← blank_end]; exact HZ.out, (by refine Since.out ?_; repeat (first | with_reducible assumption | with_reducible exact Since.refl _ | with_reducible refine Since.later ?_ (by with_reducible assumption) | with_reducible refine Since.only ?_ (by with_reducible assumption) (by first | assumption | omega | (simp; done) | (simp; omega)) | with_reducible refine Since.alloc ?_ _ | with_reducible refine Since.drewN ?_ _ | with_reducible refine Since.drew ?_ | with_reducible refine Since.set ?_ (by first | assumption | omega | (simp; done) | (simp; omega)) _))⟩
    have hlt' : (i : Int) < 60 := by omega
    have c0 := HZ.out.at_ hlt
    generalize iv ((blank i).at i) = x0 at c0
    have hz1 := HZ.out.put hlt none
    rw [blank_step hlt] at hz1
    have HZ1 := Lib.hid hz1
    clear hz1
    go_wp2_with fail
    go_roundw
    case rel => exact ⟨i + 1, by go_num, by omega, HZ1.out, (by refine Since.out ?_; repeat (first | with_reducible assumption | with_reducible exact Since.refl _ | with_reducible refine Since.later ?_ (by with_reducible assumption) | with_reducible refine Since.only ?_ (by with_reducible assumption) (by first | assumption | omega | (simp; done) | (simp; omega)) | with_reducible refine Since.alloc ?_ _ | with_reducible refine Since.drewN ?_ _ | with_reducible refine Since.drew ?_ | with_reducible refine Since.set ?_ (by first | assumption | omega | (simp; done) | (simp; omega)) _))⟩
    case measure => simp [intOf]; omega

set_option maxHeartbeats 1600000 in
theorem qready (g : Nat) (M : Plc) (t : Nat) (w : World) (h : Qz w g M t) :
    Calls Tryd.prog 19 #[.pointer (some ⟨g, 0, none⟩)] w fun e w' => e = .returned (.int .i64 (readyN M t)) ∧ Below w.heap.size w w' := by
  have H := Lib.hid h
  have ht := h.most
  clear h
  go_enter Tryd.func19, Tryd.ntmps19
  go_wp2_with fail
  go_loopw [3] (fun s3 wr => ∃ n : Nat, s3 = .int .i64 n ∧ t + n ≤ 60 ∧ Hid (∀ j, j < n → (M.at (t + j)).isSome = true) ∧ Since w wr) (fun s3 _ => 60 - t - (intOf s3).toNat)
  case atStart => exact ⟨0, rfl, by omega, Lib.hid (fun j hj => by omega), Since.refl _⟩
  case round =>
    obtain ⟨n, rfl, hn, HS, hs⟩ := hrel
    have c0 : wr.cell? ⟨g, 60, none⟩ = some (.int .i64 (t : Int)) := (H.out.later hs).taken
    by_cases hlt : t + n < 60
    case neg =>
      have e : readyN M t = n := readyN_eq HS.out hn (Or.inr (by omega))
      have hlt' : decide ((t : Int) + (n : Int) < 60) = false := by simp; omega
      have E := Lib.hid e
      clear e
      go_wp2_with fail
      go_quiet (fail)
      go_wp2_with fail
      go_ret
      exact ⟨by rw [E.out]; rfl, (by refine Since.out ?_; repeat (first | with_reducible assumption | with_reducible exact Since.refl _ | with_reducible refine Since.later ?_ (by with_reducible assumption) | with_reducible refine Since.only ?_ (by with_reducible assumption) (by first | assumption | omega | (simp; done) | (simp; omega)) | with_reducible refine Since.alloc ?_ _ | with_reducible refine Since.drewN ?_ _ | with_reducible refine Since.drew ?_ | with_reducible refine Since.set ?_ (by first | assumption | omega | (simp; done) | (simp; omega)) _))⟩
    have hlt' : decide ((t : Int) + (n : Int) < 60) = true := by simp; omega
    have c1 : wr.cell? ⟨g, t + n, none⟩ = some (.int .i64 (iv (M.at (t + n)))) := (H.out.later hs).at_ hlt
    have lg := (H.out.later hs).bl.lt
    obtain ⟨o, ho⟩ : ∃ o, M.at (t + n) = o := ⟨_, rfl⟩
    rw [ho] at c1
    have HO := Lib.hid ho
    have hlt2 : (t : Int) + (n : Int) < 60 := by omega
    clear ho
    cases o with
    | none =>
      have E : Hid (readyN M t = n) := Lib.hid (readyN_eq HS.out hn (Or.inl (by rw [HO.out]; rfl)))
      change wr.cell? ⟨g, t + n, none⟩ = some (.int .i64 (-1)) at c1
      go_wp2_with fail
      go_quiet (fail)
      go_wp2_with fail
      go_ret
      exact ⟨by rw [E.out]; rfl, (by refine Since.out ?_; repeat (first | with_reducible assumption | with_reducible exact Since.refl _ | with_reducible refine Since.later ?_ (by with_reducible assumption) | with_reducible refine Since.only ?_ (by with_reducible assumption) (by first | assumption | omega | (simp; done) | (simp; omega)) | with_reducible refine Since.alloc ?_ _ | with_reducible refine Since.drewN ?_ _ | with_reducible refine Since.drew ?_ | with_reducible refine Since.set ?_ (by first | assumption | omega | (simp; done) | (simp; omega)) _))⟩
    | some y =>
      obtain ⟨y0, hy0⟩ : ∃ y0 : Int, (y.toNat : Int) = y0 := ⟨_, rfl⟩
      have hy1 : 0 ≤ y0 := by omega
      change wr.cell? ⟨g, t + n, none⟩ = some (.int .i64 (y.toNat : Int)) at c1
      rw [hy0] at c1
      clear hy0
      go_wp2_with fail
      go_quiet (fail)
      go_wp2_with fail
      go_roundw
      case rel => exact ⟨n + 1, by go_num, by omega, Lib.hid (fun j hj => by
        rcases Nat.lt_succ_iff_lt_or_eq.1 hj with h1 | h1
        · exact HS.out j h1
        · rw [h1, HO.out]; rfl), (by refine Since.out ?_; repeat (first | with_reducible assumption | with_reducible exact Since.refl _ | with_reducible refine Since.later ?_ (by with_reducible assumption) | with_reducible refine Since.only ?_ (by with_reducible assumption) (by first | assumption | omega | (simp; done) | (simp; omega)) | with_reducible refine Since.alloc ?_ _ | with_reducible refine Since.drewN ?_ _ | with_reducible refine Since.drew ?_ | with_reducible refine Since.set ?_ (by first | assumption | omega | (simp; done) | (simp; omega)) _))⟩
      case measure => simp [intOf]; omega

set_option maxHeartbeats 3200000 in
theorem qput (g : Nat) (M : Plc) (t : Nat) (x : Int) (d : ByteArray) (w : World) (h : Qz w g M t) (hd : d.size ≤ 140737488351232) :
    Calls Tryd.prog 18 #[.pointer (some ⟨g, 0, none⟩), .int .i64 x, .string d] w fun e w' => e = .returned (.int .i64 (putE M x d.data.toList)) ∧ Qz w' g (putM M x d.data.toList) t ∧ Out w w' [g] := by
  have H := Lib.hid h
  have ht := h.most
  have lg := h.bl.lt
  have hlen : d.data.toList.length = d.size := Array.length_toList
  clear h
  by_cases hx : 0 ≤ x ∧ x ≤ 60
  case neg =>
    have E : Hid (putE M x d.data.toList = 1) := Lib.hid (by unfold putE; rw [if_pos (by omega)])
    have EM : Hid (putM M x d.data.toList = M) := Lib.hid (by unfold putM; rw [E.out, if_neg (by decide)])
    clear hlen
    by_cases h0 : x < 0
    · clear hx
      go_enter Tryd.func18, Tryd.ntmps18
      go_wp2_with fail
      go_ret
      exact ⟨by rw [E.out]; rfl, by rw [EM.out]; exact H.out, Out.refl _ _⟩
    · have h0' : decide (x < 0) = false := by simpa using h0
      have h1 : decide (60 < x) = true := by simp; omega
      clear hx
      go_enter Tryd.func18, Tryd.ntmps18
      go_wp2_with fail
      go_ret
      exact ⟨by rw [E.out]; rfl, by rw [EM.out]; exact H.out, Out.refl _ _⟩
  obtain ⟨x0, x1⟩ := hx
  obtain ⟨a, rfl⟩ := Int.eq_ofNat_of_zero_le x0
  have h0' : decide ((a : Int) < 0) = false := by simp
  have h1' : decide (60 < (a : Int)) = false := by simp; omega
  by_cases hf : 60 < a + d.size
  · have E : Hid (putE M a d.data.toList = 4) := Lib.hid (by unfold putE; rw [if_neg (by omega), if_pos (by rw [hlen]; omega)])
    have EM : Hid (putM M a d.data.toList = M) := Lib.hid (by unfold putM; rw [E.out, if_neg (by decide)])
    have h2 : decide (60 < (a : Int) + (d.size : Int)) = true := by simp; omega
    clear hlen
    go_enter Tryd.func18, Tryd.ntmps18
    go_wp2_with fail
    go_ret
    exact ⟨by rw [E.out]; rfl, by rw [EM.out]; exact H.out, Out.refl _ _⟩
  have h2 : decide (60 < (a : Int) + (d.size : Int)) = false := by simp; omega
  have E : Hid (putE M a d.data.toList = if clashN M a d.data.toList d.size = true then 7 else 0) := Lib.hid (by unfold putE; rw [if_neg (by omega), if_neg (by rw [hlen]; omega), hlen]; rfl)
  have hn : a + d.size ≤ 60 := by omega
  have HLEN := Lib.hid hlen
  clear hlen hf
  go_enter Tryd.func18, Tryd.ntmps18
  go_wp2_with fail
  go_loopw [7] (fun s7 wr => ∃ i : Nat, s7 = .int .i64 i ∧ i ≤ d.size ∧ clashN M a d.data.toList i = false ∧ Since w wr) (fun s7 _ => d.size - (intOf s7).toNat)
  case atStart => exact ⟨0, rfl, Nat.zero_le _, rfl, Since.refl _⟩
  case round =>
    obtain ⟨i, rfl, hi, hc, hs⟩ := hrel
    have HC := Lib.hid hc
    clear hc
    by_cases hlt : i < d.size
    case neg =>
      have hi2 : i = d.size := by omega
      subst hi2
      have E0 : Hid (putE M a d.data.toList = 0) := Lib.hid (by rw [E.out, HC.out]; rfl)
      have EM : Hid (putM M a d.data.toList = wrN M a d.data.toList d.size) := Lib.hid (by unfold putM; rw [E0.out, if_pos rfl, HLEN.out]; rfl)
      have hlt' : decide ((d.size : Int) < (d.size : Int)) = false := by simp
      go_wp2_with fail
      obtain ⟨wo, rfl⟩ : ∃ wo : World, wo = wr := ⟨_, rfl⟩
      go_loopw [8] (fun s8 wr => ∃ i : Nat, s8 = .int .i64 i ∧ i ≤ d.size ∧ Qz wr g (wrN M a d.data.toList i) t ∧ Out w wr [g]) (fun s8 _ => d.size - (intOf s8).toNat)
      case atStart => exact ⟨0, rfl, Nat.zero_le _, H.out.later hs, Out.of_below hs _⟩
      case round =>
        obtain ⟨i, rfl, hi, hz, ho⟩ := hrel
        have HZ := Lib.hid hz
        have HOO := Lib.hid ho
        have hlg := hz.bl.lt
        clear hz ho
        by_cases hlt : i < d.size
        case neg =>
          obtain rfl : i = d.size := by omega
          go_wp2_with fail
          go_ret
          exact ⟨by rw [E0.out]; rfl, by rw [EM.out]; exact HZ.out, HOO.out⟩
        clear hlt'
        have hlt' : (i : Int) < (d.size : Int) := by omega
        have hw8 : wrap64 (d[i].toNat : Int) = (d[i].toNat : Int) := by have := d[i].toNat_lt; unfold wrap64; omega
        have hai : a + i < 60 := by omega
        have hai' : (a : Int) + (i : Int) < 60 := by omega
        have c0 := HZ.out.at_ hai
        generalize iv ((wrN M a d.data.toList i).at (a + i)) = oy at c0
        have f0 := HZ.out.bl.free
        have hw : IntKind.i64.wrap ((a : Int) + (i : Int)) = ((a + i : Nat) : Int) := by rw [IntWalk.i64_in _ (by omega)]; rfl
        go_wp2_with fail
        go_region
        all_goals
          go_wp2_with fail
          (try rw [hw8])
          have hO : Out wr (wr.setCell ⟨g, a + i, none⟩ (.int .i64 (d[i].toNat : Int))) [g] := (Out.refl wr [g]).put (p := ⟨g, a + i, none⟩) (Or.inl (by simp)) _
          have hP := HZ.out.put hai (some d[i])
          have hset : wrN M a d.data.toList (i + 1) = (wrN M a d.data.toList i).set (a + i) (some d[i]) := by rw [← bth_get hlt]; rfl
          go_roundw
          case rel => exact ⟨i + 1, by go_num, by omega, by rw [hset]; exact ⟨hP.bl, hP.len, hP.most⟩, HOO.out.trans (by first | exact hO | exact hO.drew | exact ⟨hO.os, hO.tape, hO.output, hO.size, hO.block⟩)⟩
          case measure => simp [intOf]; omega
    have hlt' : (i : Int) < (d.size : Int) := by omega
    have hw8 : wrap64 (d[i].toNat : Int) = (d[i].toNat : Int) := by have := d[i].toNat_lt; unfold wrap64; omega
    have hai : a + i < 60 := by omega
    have c0 := (H.out.later hs).at_ hai
    have hai' : (a : Int) + (i : Int) < 60 := by omega
    have hlg := (H.out.later hs).bl.lt
    obtain ⟨o, ho⟩ : ∃ o, M.at (a + i) = o := ⟨_, rfl⟩
    rw [ho] at c0
    have HO := Lib.hid ho
    clear ho
    cases o with
    | none =>
      change wr.cell? ⟨g, a + i, none⟩ = some (.int .i64 (-1)) at c0
      have HC1 : Hid (clashN M a d.data.toList (i + 1) = false) := Lib.hid (clashN_miss HC.out (fun y hy => by rw [HO.out] at hy; cases hy))
      go_wp2_with fail
      go_quiet (fail)
      go_wp2_with fail
      go_roundw
      case rel => exact ⟨i + 1, by go_num, by omega, HC1.out, (by refine Since.out ?_; repeat (first | with_reducible assumption | with_reducible exact Since.refl _ | with_reducible refine Since.later ?_ (by with_reducible assumption) | with_reducible refine Since.only ?_ (by with_reducible assumption) (by first | assumption | omega | (simp; done) | (simp; omega)) | with_reducible refine Since.alloc ?_ _ | with_reducible refine Since.drewN ?_ _ | with_reducible refine Since.drew ?_ | with_reducible refine Since.set ?_ (by first | assumption | omega | (simp; done) | (simp; omega)) _))⟩
      case measure => simp [intOf]; omega
    | some y =>
      change wr.cell? ⟨g, a + i, none⟩ = some (.int .i64 (y.toNat : Int)) at c0
      have hy0 : decide (0 ≤ (y.toNat : Int)) = true := by simp
      by_cases hy : y = d[i]
      · have HC1 : Hid (clashN M a d.data.toList (i + 1) = false) := Lib.hid (clashN_miss HC.out (fun z hz => by rw [HO.out] at hz; rw [bth_get hlt, ← hy]; exact (Option.some.inj hz).symm))
        have hq : ((y.toNat : Int) != (d[i].toNat : Int)) = false := by rw [hy]; simp
        clear hy
        go_wp2_with fail
        go_quiet (fail)
        go_wp2_with fail
        go_roundw
        case rel => exact ⟨i + 1, by go_num, by omega, HC1.out, (by refine Since.out ?_; repeat (first | with_reducible assumption | with_reducible exact Since.refl _ | with_reducible refine Since.later ?_ (by with_reducible assumption) | with_reducible refine Since.only ?_ (by with_reducible assumption) (by first | assumption | omega | (simp; done) | (simp; omega)) | with_reducible refine Since.alloc ?_ _ | with_reducible refine Since.drewN ?_ _ | with_reducible refine Since.drew ?_ | with_reducible refine Since.set ?_ (by first | assumption | omega | (simp; done) | (simp; omega)) _))⟩
        case measure => simp [intOf]; omega
      · have E7 : Hid (putE M a d.data.toList = 7) := Lib.hid (by rw [E.out, if_pos (clashN_hit hlt HO.out (by rw [bth_get hlt]; exact hy))])
        have EM : Hid (putM M a d.data.toList = M) := Lib.hid (by unfold putM; rw [E7.out, if_neg (by decide)])
        have hq : ((y.toNat : Int) != (d[i].toNat : Int)) = true := by
          simp
          intro he
          exact hy (UInt8.toNat_inj.1 (by omega))
        clear hy
        go_wp2_with fail
        go_quiet (fail)
        go_wp2_with fail
        go_ret
        exact ⟨by rw [E7.out]; rfl, by rw [EM.out]; exact H.out.later (by refine Since.out ?_; repeat (first | with_reducible assumption | with_reducible exact Since.refl _ | with_reducible refine Since.later ?_ (by with_reducible assumption) | with_reducible refine Since.only ?_ (by with_reducible assumption) (by first | assumption | omega | (simp; done) | (simp; omega)) | with_reducible refine Since.alloc ?_ _ | with_reducible refine Since.drewN ?_ _ | with_reducible refine Since.drew ?_ | with_reducible refine Since.set ?_ (by first | assumption | omega | (simp; done) | (simp; omega)) _)), Out.of_below (by refine Since.out ?_; repeat (first | with_reducible assumption | with_reducible exact Since.refl _ | with_reducible refine Since.later ?_ (by with_reducible assumption) | with_reducible refine Since.only ?_ (by with_reducible assumption) (by first | assumption | omega | (simp; done) | (simp; omega)) | with_reducible refine Since.alloc ?_ _ | with_reducible refine Since.drewN ?_ _ | with_reducible refine Since.drew ?_ | with_reducible refine Since.set ?_ (by first | assumption | omega | (simp; done) | (simp; omega)) _)) _⟩
end Go.Proofs.YtbmfknnbpnllkaaDoor
