/- Contracts of package stream: what each answers, and what becomes of the stream's block. Condition: the block holds a stream as New and the calls leave it; a piece's bytes are no more than the memory reaches. -/
import Derived.Test.YtbmfknnbpnllkaaStr
import Derived.Test.YtbmfknnbpnllkaaErrV
import Derived.Test.YtbmfknnbpnllkaaLst
import Derived.Test.YtbmfknnbpnllkaaRules
import Derived.Deep.QuietTactic
import Derived.BigQuiet
import Derived.BigRegion
namespace Go.Proofs.Ytbmfknnbpnllkaa
open Go.ChangeShapes Go.WideShapes Go.ChangeAt Go.RowKit
set_option linter.unusedVariables false

def isV (o : Option UInt8) : Value := .bool o.isSome
def byV (o : Option UInt8) : Value := .int .u8 ((o.getD 0).toNat : Int)
/-- a stream's cells -/
def strCells (M : Plc) (t : Nat) : Array Value := (M.map isV ++ (M.map byV ++ [Value.int .i64 (t : Int)])).toArray
theorem strCells_is {M : Plc} (hM : M.length = 60) (t : Nat) {i : Nat} (h : i < 60) : (strCells M t)[i]? = some (.bool (M.at i).isSome) := by
  unfold strCells
  rw [List.getElem?_toArray, List.getElem?_append_left (by rw [List.length_map]; omega), List.getElem?_map]
  unfold Plc.at
  rw [List.getElem?_eq_getElem (by omega)]
  simp [List.getD, List.getElem?_eq_getElem (show i < M.length by omega), isV]
theorem strCells_by {M : Plc} (hM : M.length = 60) (t : Nat) {i : Nat} (h : i < 60) : (strCells M t)[60 + i]? = some (.int .u8 (((M.at i).getD 0).toNat : Int)) := by
  unfold strCells
  rw [List.getElem?_toArray, List.getElem?_append_right (by rw [List.length_map]; omega), List.length_map, hM, Nat.add_sub_cancel_left, List.getElem?_append_left (by rw [List.length_map]; omega), List.getElem?_map]
  unfold Plc.at
  rw [List.getElem?_eq_getElem (by omega)]
  simp [List.getD, List.getElem?_eq_getElem (show i < M.length by omega), byV]
theorem strCells_taken {M : Plc} (hM : M.length = 60) (t : Nat) : (strCells M t)[120]? = some (.int .i64 (t : Int)) := by
  unfold strCells
  rw [List.getElem?_toArray, List.getElem?_append_right (by rw [List.length_map]; omega), List.length_map, hM, List.getElem?_append_right (by rw [List.length_map]; omega), List.length_map, hM]
  rfl
theorem strCells_put {M : Plc} (hM : M.length = 60) (t : Nat) {i : Nat} (h : i < 60) (b : UInt8) :
    ((strCells M t).setIfInBounds i (.bool true)).setIfInBounds (60 + i) (.int .u8 (b.toNat : Int)) = strCells (M.set i (some b)) t := by
  unfold strCells
  rw [List.setIfInBounds_toArray, List.setIfInBounds_toArray, List.set_append_left _ _ (by rw [List.length_map]; omega), List.set_append_right _ _ (by simp [hM]), List.length_set, List.length_map, hM, Nat.add_sub_cancel_left, List.set_append_left _ _ (by rw [List.length_map]; omega), List.map_set, List.map_set]
  rfl
theorem strCells_take {M : Plc} (hM : M.length = 60) (t t' : Nat) : (strCells M t).setIfInBounds 120 (.int .i64 (t' : Int)) = strCells M t' := by
  unfold strCells
  rw [List.setIfInBounds_toArray, List.set_append_right _ _ (by rw [List.length_map]; omega), List.length_map, hM, List.set_append_right _ _ (by rw [List.length_map]; omega), List.length_map, hM]
  rfl
/-- a stream at g: what came, and how many were taken -/
structure Sz (w : World) (g : Nat) (M : Plc) (t : Nat) : Prop where
  bl : BlockIs w g 66 (strCells M t)
  len : M.length = 60
  most : t ≤ 60
theorem Sz.later {w w1 : World} {g : Nat} {M : Plc} {t : Nat} (h : Sz w g M t) (hb : Below w.heap.size w w1) : Sz w1 g M t := ⟨h.bl.later hb, h.len, h.most⟩
theorem Sz.kept {w w1 : World} {g : Nat} {M : Plc} {t : Nat} {S : List Nat} (h : Sz w g M t) (hg : Out w w1 S) (h1 : g ∉ S) : Sz w1 g M t := ⟨hg.block' h.bl h1, h.len, h.most⟩
theorem Sz.drewN {w : World} {g : Nat} {M : Plc} {t : Nat} (h : Sz w g M t) (n : Nat) : Sz (w.drewN n) g M t := ⟨h.bl, h.len, h.most⟩
theorem Sz.is {w : World} {g : Nat} {M : Plc} {t : Nat} (h : Sz w g M t) {i : Nat} (hi : i < 60) : w.cell? ⟨g, i, none⟩ = some (.bool (M.at i).isSome) := (h.bl.cell i).trans (strCells_is h.len t hi)
theorem Sz.by_ {w : World} {g : Nat} {M : Plc} {t : Nat} (h : Sz w g M t) {i : Nat} (hi : i < 60) : w.cell? ⟨g, 60 + i, none⟩ = some (.int .u8 (((M.at i).getD 0).toNat : Int)) := (h.bl.cell _).trans (strCells_by h.len t hi)
theorem Sz.taken {w : World} {g : Nat} {M : Plc} {t : Nat} (h : Sz w g M t) : w.cell? ⟨g, 120, none⟩ = some (.int .i64 (t : Int)) := (h.bl.cell _).trans (strCells_taken h.len t)
theorem Sz.put {w : World} {g : Nat} {M : Plc} {t : Nat} (h : Sz w g M t) {i : Nat} (hi : i < 60) (b : UInt8) : Sz ((w.setCell ⟨g, i, none⟩ (.bool true)).setCell ⟨g, 60 + i, none⟩ (.int .u8 (b.toNat : Int))) g (M.set i (some b)) t := by
  refine ⟨?_, by rw [List.length_set]; exact h.len, h.most⟩
  rw [← strCells_put h.len t hi b]
  exact (h.bl.put i _).put (60 + i) _
theorem Sz.take {w : World} {g : Nat} {M : Plc} {t t' : Nat} (h : Sz w g M t) (ht : t' ≤ 60) : Sz (w.setCell ⟨g, 120, none⟩ (.int .i64 (t' : Int))) g M t' := by
  refine ⟨?_, h.len, ht⟩
  rw [← strCells_take h.len t t']
  exact h.bl.put 120 _

theorem snew (w : World) : Calls Try.prog 8 #[] w fun e w' => e = .returned (.pointer (some ⟨w.heap.size, 0, none⟩)) ∧ Sz w' w.heap.size Plc.new 0 ∧ Below w.heap.size w w' := by
  go_enter Try.func8, Try.ntmps8
  go_wp2
  go_ret
  refine ⟨rfl, ⟨?_, Plc.new_len, by decide⟩, (Below.refl _ _).alloc (Nat.le_refl _) _⟩
  exact BlockIs.fresh _ _ _

set_option maxHeartbeats 1600000 in
theorem sready (g : Nat) (M : Plc) (t : Nat) (w : World) (h : Sz w g M t) :
    Calls Try.prog 11 #[.pointer (some ⟨g, 0, none⟩)] w fun e w' => e = .returned (.int .i64 (readyN M t)) ∧ Below w.heap.size w w' := by
  have H := Lib.hid h
  have ht := h.most
  clear h
  go_enter Try.func11, Try.ntmps11
  go_wp2_with fail
  go_loopw [3] (fun s3 wr => ∃ n : Nat, s3 = .int .i64 n ∧ t + n ≤ 60 ∧ Hid (∀ j, j < n → (M.at (t + j)).isSome = true) ∧ Since w wr) (fun s3 _ => 60 - t - (intOf s3).toNat)
  case atStart => exact ⟨0, rfl, by omega, Lib.hid (fun j hj => by omega), Since.refl _⟩
  case round =>
    obtain ⟨n, rfl, hn, HS, hs⟩ := hrel
    have c0 : wr.cell? ⟨g, 120, none⟩ = some (.int .i64 (t : Int)) := (H.out.later hs).taken
    by_cases hlt : t + n < 60
    case neg =>
      have e : readyN M t = n := readyN_eq HS.out hn (Or.inr (by omega))
      have hlt' : decide ((t : Int) + (n : Int) < 60) = false := by simp; omega
      have E := Lib.hid e
      clear e
      go_wp2_with fail
      go_quiet (fail)
      go_wp2_with fail
      go_ret
      exact ⟨by rw [E.out]; rfl, (by refine Since.out ?_; repeat (first | with_reducible assumption | with_reducible exact Since.refl _ | with_reducible refine Since.later ?_ (by with_reducible assumption) | with_reducible refine Since.only ?_ (by with_reducible assumption) (by first | assumption | omega | (simp; done) | (simp; omega)) | with_reducible refine Since.alloc ?_ _ | with_reducible refine Since.drewN ?_ _ | with_reducible refine Since.drew ?_ | with_reducible refine Since.set ?_ (by first | assumption | omega | (simp; done) | (simp; omega)) _))⟩
    have hlt' : decide ((t : Int) + (n : Int) < 60) = true := by simp; omega
    have c1 : wr.cell? ⟨g, t + n, none⟩ = some (.bool (M.at (t + n)).isSome) := (H.out.later hs).is hlt
    have lg := (H.out.later hs).bl.lt
    obtain ⟨b, hb⟩ : ∃ b, (M.at (t + n)).isSome = b := ⟨_, rfl⟩
    rw [hb] at c1
    have HB := Lib.hid hb
    have hlt2 : (t : Int) + (n : Int) < 60 := by omega
    clear hb
    cases b with
    | false =>
      have E : Hid (readyN M t = n) := Lib.hid (readyN_eq HS.out hn (Or.inl HB.out))
      go_wp2_with fail
      go_quiet (fail)
      go_wp2_with fail
      go_ret
      exact ⟨by rw [E.out]; rfl, (by refine Since.out ?_; repeat (first | with_reducible assumption | with_reducible exact Since.refl _ | with_reducible refine Since.later ?_ (by with_reducible assumption) | with_reducible refine Since.only ?_ (by with_reducible assumption) (by first | assumption | omega | (simp; done) | (simp; omega)) | with_reducible refine Since.alloc ?_ _ | with_reducible refine Since.drewN ?_ _ | with_reducible refine Since.drew ?_ | with_reducible refine Since.set ?_ (by first | assumption | omega | (simp; done) | (simp; omega)) _))⟩
    | true =>
      go_wp2_with fail
      go_quiet (fail)
      go_wp2_with fail
      go_roundw
      case rel => exact ⟨n + 1, by go_num, by omega, Lib.hid (fun j hj => by
        rcases Nat.lt_succ_iff_lt_or_eq.1 hj with h1 | h1
        · exact HS.out j h1
        · rw [h1]; exact HB.out), (by refine Since.out ?_; repeat (first | with_reducible assumption | with_reducible exact Since.refl _ | with_reducible refine Since.later ?_ (by with_reducible assumption) | with_reducible refine Since.only ?_ (by with_reducible assumption) (by first | assumption | omega | (simp; done) | (simp; omega)) | with_reducible refine Since.alloc ?_ _ | with_reducible refine Since.drewN ?_ _ | with_reducible refine Since.drew ?_ | with_reducible refine Since.set ?_ (by first | assumption | omega | (simp; done) | (simp; omega)) _))⟩
      case measure => simp [intOf]; omega
set_option maxHeartbeats 3200000 in
theorem sput (g : Nat) (M : Plc) (t : Nat) (x : Int) (d : ByteArray) (w : World) (h : Sz w g M t) (hd : d.size ≤ 140737488351232) :
    Calls Try.prog 9 #[.pointer (some ⟨g, 0, none⟩), .agg #[.int .i64 x, .string d]] w fun e w' => e = .returned (errV (putE M x d.data.toList)) ∧ Sz w' g (putM M x d.data.toList) t ∧ Out w w' [g] := by
  have H := Lib.hid h
  have ht := h.most
  have lg := h.bl.lt
  have hlen : d.data.toList.length = d.size := Array.length_toList
  have hB : BlockIs (w.alloc (.cells #[.int .i64 x, .string d] 28)) w.heap.size 28 #[.int .i64 x, .string d] := BlockIs.fresh _ _ _
  clear h
  by_cases hx : 0 ≤ x ∧ x ≤ 60
  case neg =>
    have E : Hid (putE M x d.data.toList = 1) := Lib.hid (by unfold putE; rw [if_pos (by omega)])
    have EM : Hid (putM M x d.data.toList = M) := Lib.hid (by unfold putM; rw [E.out, if_neg (by decide)])
    clear hlen
    by_cases h0 : x < 0
    · clear hx
      go_enter Try.func9, Try.ntmps9
      go_wp2_with fail
      go_ret
      exact ⟨by rw [E.out]; rfl, by rw [EM.out]; exact H.out.later (by refine Since.out ?_; repeat (first | with_reducible assumption | with_reducible exact Since.refl _ | with_reducible refine Since.later ?_ (by with_reducible assumption) | with_reducible refine Since.only ?_ (by with_reducible assumption) (by first | assumption | omega | (simp; done) | (simp; omega)) | with_reducible refine Since.alloc ?_ _ | with_reducible refine Since.drewN ?_ _ | with_reducible refine Since.drew ?_ | with_reducible refine Since.set ?_ (by first | assumption | omega | (simp; done) | (simp; omega)) _)), Out.of_below (by refine Since.out ?_; repeat (first | with_reducible assumption | with_reducible exact Since.refl _ | with_reducible refine Since.later ?_ (by with_reducible assumption) | with_reducible refine Since.only ?_ (by with_reducible assumption) (by first | assumption | omega | (simp; done) | (simp; omega)) | with_reducible refine Since.alloc ?_ _ | with_reducible refine Since.drewN ?_ _ | with_reducible refine Since.drew ?_ | with_reducible refine Since.set ?_ (by first | assumption | omega | (simp; done) | (simp; omega)) _)) _⟩
    · have h0' : decide (x < 0) = false := by simpa using h0
      have h1 : decide (60 < x) = true := by simp; omega
      clear hx
      go_enter Try.func9, Try.ntmps9
      go_wp2_with fail
      go_ret
      exact ⟨by rw [E.out]; rfl, by rw [EM.out]; exact H.out.later (by refine Since.out ?_; repeat (first | with_reducible assumption | with_reducible exact Since.refl _ | with_reducible refine Since.later ?_ (by with_reducible assumption) | with_reducible refine Since.only ?_ (by with_reducible assumption) (by first | assumption | omega | (simp; done) | (simp; omega)) | with_reducible refine Since.alloc ?_ _ | with_reducible refine Since.drewN ?_ _ | with_reducible refine Since.drew ?_ | with_reducible refine Since.set ?_ (by first | assumption | omega | (simp; done) | (simp; omega)) _)), Out.of_below (by refine Since.out ?_; repeat (first | with_reducible assumption | with_reducible exact Since.refl _ | with_reducible refine Since.later ?_ (by with_reducible assumption) | with_reducible refine Since.only ?_ (by with_reducible assumption) (by first | assumption | omega | (simp; done) | (simp; omega)) | with_reducible refine Since.alloc ?_ _ | with_reducible refine Since.drewN ?_ _ | with_reducible refine Since.drew ?_ | with_reducible refine Since.set ?_ (by first | assumption | omega | (simp; done) | (simp; omega)) _)) _⟩
  obtain ⟨x0, x1⟩ := hx
  obtain ⟨a, rfl⟩ := Int.eq_ofNat_of_zero_le x0
  have h0' : decide ((a : Int) < 0) = false := by simp
  have h1' : decide (60 < (a : Int)) = false := by simp; omega
  by_cases hf : 60 < a + d.size
  · have E : Hid (putE M a d.data.toList = 4) := Lib.hid (by unfold putE; rw [if_neg (by omega), if_pos (by rw [hlen]; omega)])
    have EM : Hid (putM M a d.data.toList = M) := Lib.hid (by unfold putM; rw [E.out, if_neg (by decide)])
    have h2 : decide (60 < (a : Int) + (d.size : Int)) = true := by simp; omega
    clear hlen
    go_enter Try.func9, Try.ntmps9
    go_wp2_with fail
    go_ret
    exact ⟨by rw [E.out]; rfl, by rw [EM.out]; exact H.out.later (by refine Since.out ?_; repeat (first | with_reducible assumption | with_reducible exact Since.refl _ | with_reducible refine Since.later ?_ (by with_reducible assumption) | with_reducible refine Since.only ?_ (by with_reducible assumption) (by first | assumption | omega | (simp; done) | (simp; omega)) | with_reducible refine Since.alloc ?_ _ | with_reducible refine Since.drewN ?_ _ | with_reducible refine Since.drew ?_ | with_reducible refine Since.set ?_ (by first | assumption | omega | (simp; done) | (simp; omega)) _)), Out.of_below (by refine Since.out ?_; repeat (first | with_reducible assumption | with_reducible exact Since.refl _ | with_reducible refine Since.later ?_ (by with_reducible assumption) | with_reducible refine Since.only ?_ (by with_reducible assumption) (by first | assumption | omega | (simp; done) | (simp; omega)) | with_reducible refine Since.alloc ?_ _ | with_reducible refine Since.drewN ?_ _ | with_reducible refine Since.drew ?_ | with_reducible refine Since.set ?_ (by first | assumption | omega | (simp; done) | (simp; omega)) _)) _⟩
  have h2 : decide (60 < (a : Int) + (d.size : Int)) = false := by simp; omega
  have E : Hid (putE M a d.data.toList = if clashN M a d.data.toList d.size = true then 7 else 0) := Lib.hid (by unfold putE; rw [if_neg (by omega), if_neg (by rw [hlen]; omega), hlen]; rfl)
  have hn : a + d.size ≤ 60 := by omega
  have HLEN := Lib.hid hlen
  clear hlen hf
  go_enter Try.func9, Try.ntmps9
  go_wp2_with fail
  go_loopw [5, 6, 30] (fun s5 s6 s30 wr => ∃ i : Nat, s30 = .int .i64 i ∧ i ≤ d.size ∧ clashN M a d.data.toList i = false ∧ BlockIs wr w.heap.size 28 #[.int .i64 a, .string d] ∧ Since w wr) (fun s5 s6 s30 _ => d.size - (intOf s30).toNat)
  case atStart => exact ⟨0, rfl, Nat.zero_le _, rfl, hB, (by refine Since.out ?_; repeat (first | with_reducible assumption | with_reducible exact Since.refl _ | with_reducible refine Since.later ?_ (by with_reducible assumption) | with_reducible refine Since.only ?_ (by with_reducible assumption) (by first | assumption | omega | (simp; done) | (simp; omega)) | with_reducible refine Since.alloc ?_ _ | with_reducible refine Since.drewN ?_ _ | with_reducible refine Since.drew ?_ | with_reducible refine Since.set ?_ (by first | assumption | omega | (simp; done) | (simp; omega)) _))⟩
  case round =>
    obtain ⟨i, rfl, hi, hc, hB, hs⟩ := hrel
    have HC := Lib.hid hc
    have a0 : wr.cell? ⟨w.heap.size, 0, none⟩ = some (.int .i64 a) := hB.cell 0
    have a1 : wr.cell? ⟨w.heap.size, 1, none⟩ = some (.string d) := hB.cell 1
    clear hc
    by_cases hlt : i < d.size
    case neg =>
      have hi2 : i = d.size := by omega
      subst hi2
      have E0 : Hid (putE M a d.data.toList = 0) := Lib.hid (by rw [E.out, HC.out]; rfl)
      have EM : Hid (putM M a d.data.toList = wrN M a d.data.toList d.size) := Lib.hid (by unfold putM; rw [E0.out, if_pos rfl, HLEN.out]; rfl)
      have hlt' : decide ((d.size : Int) < (d.size : Int)) = false := by simp
      go_wp2_with fail
      obtain ⟨wo, rfl⟩ : ∃ wo : World, wo = wr := ⟨_, rfl⟩
      go_loopw [7, 61] (fun s7 s61 wr => ∃ i : Nat, s61 = .int .i64 i ∧ i ≤ d.size ∧ BlockIs wr w.heap.size 28 #[.int .i64 a, .string d] ∧ Sz wr g (wrN M a d.data.toList i) t ∧ Out w wr [g]) (fun s7 s61 _ => d.size - (intOf s61).toNat)
      case atStart => exact ⟨0, rfl, Nat.zero_le _, hB, H.out.later hs, Out.of_below hs _⟩
      case round =>
        obtain ⟨i, rfl, hi, hB, hz, ho⟩ := hrel
        have a0 : wr.cell? ⟨w.heap.size, 0, none⟩ = some (.int .i64 a) := hB.cell 0
        have a1 : wr.cell? ⟨w.heap.size, 1, none⟩ = some (.string d) := hB.cell 1
        have HZ := Lib.hid hz
        have HOO := Lib.hid ho
        have hlb := hB.lt
        have hlg := hz.bl.lt
        clear hz ho
        by_cases hlt : i < d.size
        case neg =>
          obtain rfl : i = d.size := by omega
          go_wp2_with fail
          go_ret
          exact ⟨by rw [E0.out]; rfl, by rw [EM.out]; exact HZ.out, HOO.out⟩
        clear hlt'
        have hlt' : (i : Int) < (d.size : Int) := by omega
        have hai : a + i < 60 := by omega
        have hai' : (a : Int) + (i : Int) < 60 := by omega
        have c0 := HZ.out.is hai
        have c1 := HZ.out.by_ hai
        generalize ((wrN M a d.data.toList i).at (a + i)).isSome = ob at c0
        generalize (((wrN M a d.data.toList i).at (a + i)).getD 0).toNat = oy at c1
        have f0 := HZ.out.bl.free
        have hw : IntKind.i64.wrap ((a : Int) + (i : Int)) = ((a + i : Nat) : Int) := by rw [IntWalk.i64_in _ (by omega)]; rfl
        go_wp2_with fail
        go_region
        all_goals
          go_wp2_with fail
          have hO : Out wr ((wr.setCell ⟨g, a + i, none⟩ (.bool true)).setCell ⟨g, 60 + (a + i), none⟩ (.int .u8 (d[i].toNat : Int))) [g] := (((Out.refl wr [g])).put (p := ⟨g, a + i, none⟩) (Or.inl (by simp)) _).put (p := ⟨g, 60 + (a + i), none⟩) (Or.inl (by simp)) _
          have hP := HZ.out.put hai d[i]
          have hset : wrN M a d.data.toList (i + 1) = (wrN M a d.data.toList i).set (a + i) (some d[i]) := by rw [← bth_get hlt]; rfl
          have hgw : w.heap.size ∉ [g] := by simp; omega
          go_roundw
          case rel => exact ⟨i + 1, by go_num, by omega, hO.block' hB hgw, by rw [hset]; exact ⟨hP.bl, hP.len, hP.most⟩, HOO.out.trans (by first | exact hO | exact hO.drew | exact ⟨hO.os, hO.tape, hO.output, hO.size, hO.block⟩)⟩
          case measure => simp [intOf]; omega
    have hlt' : (i : Int) < (d.size : Int) := by omega
    have hai : a + i < 60 := by omega
    have c0 : wr.cell? ⟨g, a + i, none⟩ = some (.bool (M.at (a + i)).isSome) := (H.out.later hs).is hai
    have c1 : wr.cell? ⟨g, 60 + (a + i), none⟩ = some (.int .u8 (((M.at (a + i)).getD 0).toNat : Int)) := (H.out.later hs).by_ hai
    have hai' : (a : Int) + (i : Int) < 60 := by omega
    have hlb := hB.lt
    have hlg := (H.out.later hs).bl.lt
    obtain ⟨o, ho⟩ : ∃ o, M.at (a + i) = o := ⟨_, rfl⟩
    rw [ho] at c0 c1
    have HO := Lib.hid ho
    clear ho
    cases o with
    | none =>
      simp only [Option.isSome_none] at c0
      have HC1 : Hid (clashN M a d.data.toList (i + 1) = false) := Lib.hid (clashN_miss HC.out (fun y hy => by rw [HO.out] at hy; cases hy))
      go_wp2_with fail
      go_quiet (fail)
      go_wp2_with fail
      go_roundw
      case rel => exact ⟨i + 1, by go_num, by omega, HC1.out, hB, (by refine Since.out ?_; repeat (first | with_reducible assumption | with_reducible exact Since.refl _ | with_reducible refine Since.later ?_ (by with_reducible assumption) | with_reducible refine Since.only ?_ (by with_reducible assumption) (by first | assumption | omega | (simp; done) | (simp; omega)) | with_reducible refine Since.alloc ?_ _ | with_reducible refine Since.drewN ?_ _ | with_reducible refine Since.drew ?_ | with_reducible refine Since.set ?_ (by first | assumption | omega | (simp; done) | (simp; omega)) _))⟩
      case measure => simp [intOf]; omega
    | some y =>
      simp only [Option.isSome_some, Option.getD_some] at c0 c1
      by_cases hy : y = d[i]
      · have HC1 : Hid (clashN M a d.data.toList (i + 1) = false) := Lib.hid (clashN_miss HC.out (fun z hz => by rw [HO.out] at hz; rw [bth_get hlt, ← hy]; exact (Option.some.inj hz).symm))
        have hq : ((y.toNat : Int) != (d[i].toNat : Int)) = false := by rw [hy]; simp
        clear hy
        go_wp2_with fail
        go_quiet (fail)
        go_wp2_with fail
        go_roundw
        case rel => exact ⟨i + 1, by go_num, by omega, HC1.out, hB, (by refine Since.out ?_; repeat (first | with_reducible assumption | with_reducible exact Since.refl _ | with_reducible refine Since.later ?_ (by with_reducible assumption) | with_reducible refine Since.only ?_ (by with_reducible assumption) (by first | assumption | omega | (simp; done) | (simp; omega)) | with_reducible refine Since.alloc ?_ _ | with_reducible refine Since.drewN ?_ _ | with_reducible refine Since.drew ?_ | with_reducible refine Since.set ?_ (by first | assumption | omega | (simp; done) | (simp; omega)) _))⟩
        case measure => simp [intOf]; omega
      · have E7 : Hid (putE M a d.data.toList = 7) := Lib.hid (by rw [E.out, if_pos (clashN_hit hlt HO.out (by rw [bth_get hlt]; exact hy))])
        have EM : Hid (putM M a d.data.toList = M) := Lib.hid (by unfold putM; rw [E7.out, if_neg (by decide)])
        have hq : ((y.toNat : Int) != (d[i].toNat : Int)) = true := by
          simp
          intro he
          exact hy (UInt8.toNat_inj.1 (by omega))
        clear hy
        go_wp2_with fail
        go_quiet (fail)
        go_wp2_with fail
        go_ret
        exact ⟨by rw [E7.out]; rfl, by rw [EM.out]; exact H.out.later (by refine Since.out ?_; repeat (first | with_reducible assumption | with_reducible exact Since.refl _ | with_reducible refine Since.later ?_ (by with_reducible assumption) | with_reducible refine Since.only ?_ (by with_reducible assumption) (by first | assumption | omega | (simp; done) | (simp; omega)) | with_reducible refine Since.alloc ?_ _ | with_reducible refine Since.drewN ?_ _ | with_reducible refine Since.drew ?_ | with_reducible refine Since.set ?_ (by first | assumption | omega | (simp; done) | (simp; omega)) _)), Out.of_below (by refine Since.out ?_; repeat (first | with_reducible assumption | with_reducible exact Since.refl _ | with_reducible refine Since.later ?_ (by with_reducible assumption) | with_reducible refine Since.only ?_ (by with_reducible assumption) (by first | assumption | omega | (simp; done) | (simp; omega)) | with_reducible refine Since.alloc ?_ _ | with_reducible refine Since.drewN ?_ _ | with_reducible refine Since.drew ?_ | with_reducible refine Since.set ?_ (by first | assumption | omega | (simp; done) | (simp; omega)) _)) _⟩
end Go.Proofs.Ytbmfknnbpnllkaa
