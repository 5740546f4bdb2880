/- strings.Lines over whole records, as an iterator. Condition: the text is records one behind the other. -/
import Derived.Test.YtjjmoaaongnjiaaGreatDoorSeqW
import Derived.Test.YtjjmoaaongnjiaaGreatDoorRec
import Derived.RangeFuncNested
import Derived.RangeFuncLeaves
import Derived.Shelf.Abstract
import Derived.Shelf.RegionOpen
import Derived.WalkKit
import Derived.OwnWalkIn
import Derived.TacticsInMore
import Derived.LoopNIn
import Derived.LoopIn
namespace Go.Proofs.YtjjmoaaongnjiaaGreatDoor
open Go.ChangeShapes Go.WideShapes Go.ChangeAt Go.RowKit Go.Shelf
set_option linter.unusedVariables false
attribute [local go_sem] Oper.semAt_some

theorem cut_list (s : ByteArray) (a b : Nat) : (s.extract a b).data.toList = (s.data.toList.take b).drop a := by
  rw [ByteArray.data_extract, Array.toList_extract]
  rw [List.extract_eq_take_drop, List.drop_take]
def boxLen (gb : Nat) (w : World) : Nat := match w.cell? ⟨gb, 0, none⟩ with | some (.string b) => b.size | _ => 0
/-- what comes behind these -/
def nextOf (ns pre : List Int) (x : Int) : Prop := ∃ k, k < ns.length ∧ pre = ns.take k ∧ x = ns.getD k 0
def rcv (n : Int) : Value := .string ⟨(rcb n).toArray⟩
theorem cell_box {w : World} {gb : Nat} {v u : Value} (h : w.cell? ⟨gb, 0, none⟩ = some v) : (w.setCell ⟨gb, 0, none⟩ u).drew.cell? ⟨gb, 0, none⟩ = some u := World.cell?_setCell_same' w _ u (by rw [h]; rfl)
theorem frozen_box {w : World} {gb : Nat} {v u : Value} (h : w.cell? ⟨gb, 0, none⟩ = some v) (hf : w.frozen? ⟨gb, 0, none⟩ = false) : (w.setCell ⟨gb, 0, none⟩ u).drew.frozen? ⟨gb, 0, none⟩ = false := by
  show (w.setCell ⟨gb, 0, none⟩ u).frozen? ⟨gb, 0, none⟩ = false
  rw [World.frozen?_setCell]
  exact hf
theorem str_of {l : List UInt8} : (⟨l.toArray⟩ : ByteArray).size = l.length := by show l.toArray.size = _; rw [List.size_toArray]
set_option maxRecDepth 100000 in
set_option maxHeartbeats 2000000 in
theorem lines1_in (n : Nat) (hn : 1 ≤ n) (gb : Nat) (ns : List Int) (h0 : ∀ m ∈ ns, 0 ≤ m) (hb : (rcs ns).length ≤ 1000000) (l : Nat) (J : List Int → World → Prop) (W : World) (hJ : Bears gb J)
    (hY : ∀ pre x X, J pre X → nextOf ns pre x → YieldAt Fence.wide (n - 1) Tryz.prog l #[rcv x] X fun e X' => e = .returned (.bool true) ∧ J (pre ++ [x]) X' ∧ ∀ v, X.cell? ⟨gb, 0, none⟩ = some v → X.frozen? ⟨gb, 0, none⟩ = false → X'.cell? ⟨gb, 0, none⟩ = some v ∧ X'.frozen? ⟨gb, 0, none⟩ = false)
    (hc : W.cell? ⟨gb, 0, none⟩ = some (.string ⟨(rcs ns).toArray⟩)) (hf : W.frozen? ⟨gb, 0, none⟩ = false) (hj : J [] W) :
    CallsIn Fence.wide n Tryz.prog 45 #[.func (.yield l) #[] #[], .pointer (some ⟨gb, 0, none⟩)] W fun e X => (∃ v, e = .returned v) ∧ J ns X := by
  have HY := Lib.hid hY
  have HJ := Lib.hid hJ
  have HN := Lib.hid h0
  clear hY hJ h0
  refine callsIn_of_wp Tryz.func45 rfl trivial ?_ rfl
  simp only [Tryz.ntmps45, List.size_toArray, List.length_cons, List.length_nil, Nat.reduceAdd, Nat.reduceSub, Array.replicate_succ, Array.replicate_zero, List.push_toArray, List.append_toArray, List.nil_append, List.cons_append]
  gi_wp2
  gi_loopw [3] (fun s3 wr => ∃ k : Nat, k ≤ ns.length ∧ J (ns.take k) wr ∧ wr.cell? ⟨gb, 0, none⟩ = some (.string ⟨(rcs (ns.drop k)).toArray⟩) ∧ wr.frozen? ⟨gb, 0, none⟩ = false) (fun _ wr => boxLen gb wr)
  case atStart => exact ⟨0, Nat.zero_le _, hj, hc, hf⟩
  case round =>
    obtain ⟨k, hk, hJk, hck, hfk⟩ := hrel
    have HJK := Lib.hid hJk
    have HCK := Lib.hid hck
    clear hJk hj hc hf
    by_cases hlt : k < ns.length
    case neg =>
      have e : ns.drop k = [] := List.drop_eq_nil_of_le (by omega)
      rw [e] at hck
      have e2 : (⟨(rcs []).toArray⟩ : ByteArray) = ⟨#[]⟩ := rfl
      rw [e2] at hck
      have HJ2 : Hid (J ns wr) := Lib.hid (by have := HJK.out; rw [List.take_of_length_le (by omega)] at this; exact this)
      clear e e2 HCK HJK
      trace "A"; gi_wp2
      go_end0
      exact ⟨⟨_, rfl⟩, HJ2.out⟩
    obtain ⟨x, hx⟩ : ∃ x, ns[k] = x := ⟨_, rfl⟩
    have ed : ns.drop k = x :: ns.drop (k + 1) := by rw [← hx]; exact List.drop_eq_getElem_cons hlt
    have et : ns.take (k + 1) = ns.take k ++ [x] := by rw [← hx]; exact List.take_succ_eq_append_getElem hlt
    have hx0 : 0 ≤ x := HN.out x (by rw [← hx]; exact List.getElem_mem _)
    obtain ⟨B, hB⟩ : ∃ B : ByteArray, (⟨(rcs (ns.drop k)).toArray⟩ : ByteArray) = B := ⟨_, rfl⟩
    obtain ⟨R, hR⟩ : ∃ R, rcs (ns.drop (k + 1)) = R := ⟨_, rfl⟩
    have eB : B.data.toList = rcb x ++ R := by rw [← hB, ed, rcs_cons, hR]
    obtain ⟨m, hm⟩ : ∃ m, (Lib.itoa x).length = m := ⟨_, rfl⟩
    have hix : Lib.indexByte B.data.toList ((10 : Int).toNat.toUInt8) = (m : Int) := by rw [eB, ← hm]; exact rec_index hx0 R
    have hsz : B.size = m + 1 + R.length := by
      show B.data.size = _
      rw [← Array.length_toList, eB, List.length_append, rcb_len, hm]
    have hz2 : B.size ≤ 1000000 := by
      have h1 : (rcs ns).length = (rcs (ns.take k)).length + (rcs (ns.drop k)).length := by rw [← List.length_append, ← rcs_app, List.take_append_drop]
      have h2 : B.size = (rcs (ns.drop k)).length := by rw [← hB]; exact str_of
      omega
    have x1 : B.extract 0 (m + 1) = ⟨(rcb x).toArray⟩ := by
      apply ByteArray.ext
      apply Array.ext'
      rw [cut_list, eB, List.drop_zero]
      rw [List.take_append_of_le_length (by rw [rcb_len]; omega), List.take_of_length_le (by rw [rcb_len]; omega)]
    have x2 : B.extract (m + 1) B.size = ⟨R.toArray⟩ := by
      apply ByteArray.ext
      apply Array.ext'
      rw [cut_list, eB, hsz, List.take_of_length_le (by rw [List.length_append, rcb_len, hm]; omega)]
      rw [show m + 1 = (rcb x).length by rw [rcb_len, hm], List.drop_left]
    have HX1 := Lib.hid x1
    have HX2 := Lib.hid x2
    have HIX := Lib.hid hix
    have HET := Lib.hid et
    have HRR := Lib.hid hR
    have HXX : Hid (x = ns.getD k 0) := Lib.hid (by rw [← hx]; simp [List.getD, List.getElem?_eq_getElem hlt])
    rw [hB] at hck HCK
    have hpos : (0 : Int) < (B.size : Int) := by omega
    have hm1 : (m : Int) + 1 ≤ (B.size : Int) := by omega
    have hm0 : (0 : Int) ≤ (m : Int) := by omega
    have hto : ((m : Int) + 1).toNat = m + 1 := by omega
    have HLT := Lib.hid hlt
    have HHZ := Lib.hid hsz
    clear hx ed et hB hR eB hm hix x1 x2 hsz hlt
    trace "B"; gi_wp2_with (refine ⟨trivial, ?_⟩; gi_at_call 46; refine (callsIn_wide.2 (Tryz.strings_IndexByte B 10 _)).mono ?_; rintro e w' ⟨rfl, rfl⟩; rw [HIX.out])
    trace "C"; gi_region
    have hlen : nextOf ns (ns.take k) x := ⟨k, HLT.out, rfl, HXX.out⟩
    have hJX : J (ns.take k) (w'.setCell ⟨gb, 0, none⟩ (.string (B.extract (m + 1) B.size))).drew := HJ.out.drew _ _ (HJ.out.cell _ _ _ HJK.out)
    have hY := HY.out (ns.take k) x _ hJX hlen
    have b0 : (w'.setCell ⟨gb, 0, none⟩ (.string (B.extract (m + 1) B.size))).drew.cell? ⟨gb, 0, none⟩ = some (.string (B.extract (m + 1) B.size)) := cell_box hck
    have f0 : (w'.setCell ⟨gb, 0, none⟩ (.string (B.extract (m + 1) B.size))).drew.frozen? ⟨gb, 0, none⟩ = false := frozen_box hck hfk
    have HB0 := Lib.hid b0
    have HF0 := Lib.hid f0
    have hxv : rcv x = .string (B.extract 0 (m + 1)) := by rw [HX1.out]; rfl
    rw [hxv] at hY
    obtain ⟨fn, tmps, assign, body, hy, hR⟩ := hY
    have HR := Lib.hid hR
    have hlb : boxLen gb w' = B.size := by unfold boxLen; rw [hck]
    have HLB := Lib.hid hlb
    clear hR hlen hJX b0 f0 hlb hck hfk
    trace "D"; gi_wp2
    trace "E"; refine HR.out.mono ?_
    rintro e W3 ⟨rfl, hJ3, hk3⟩
    obtain ⟨c3, f3⟩ := hk3 _ HB0.out HF0.out
    rw [HX2.out] at c3
    have HJ3 := Lib.hid hJ3
    have HC3 := Lib.hid c3
    have HF3 := Lib.hid f3
    clear hJ3 hk3 c3 f3
    trace "F"; gi_wp2
    go_roundw
    case rel => exact ⟨k + 1, HLT.out, by rw [HET.out]; exact HJ3.out, by rw [HRR.out]; exact HC3.out, HF3.out⟩
    case measure =>
      have h1 : boxLen gb W3 = R.length := by unfold boxLen; rw [HC3.out]; exact str_of
      rw [h1, HLB.out, HHZ.out]
      omega
end Go.Proofs.YtjjmoaaongnjiaaGreatDoor
