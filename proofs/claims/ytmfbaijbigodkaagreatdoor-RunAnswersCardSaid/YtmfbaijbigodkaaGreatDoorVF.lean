/- Contracts and plain laws that the claim leans on, part 6 of 10: each part has its own word. No condition beside theirs. -/
import Derived.Test.YtmfbaijbigodkaaGreatDoorBase
import Derived.Test.YtmfbaijbigodkaaGreatDoorOnly
import Derived.Test.YtmfbaijbigodkaaGreatDoorMay
import Derived.Test.YtmfbaijbigodkaaGreatDoorCredit
import Derived.Test.YtmfbaijbigodkaaGreatDoorVE
import Derived.Deep.QuietTactic
import Derived.BigQuiet
import Derived.BigRegion
import Derived.Deep.RegionLaw
import Derived.Deep.DeepCutAuto
import Derived.StillTailTactics
import Derived.Deep.MidRow
set_option maxHeartbeats 40000000
set_option maxRecDepth 100000
namespace Go.Proofs.YtmfbaijbigodkaaGreatDoor
open Go.ChangeShapes Go.WideShapes Go.ChangeAt Go.RowKit
set_option linter.unusedVariables false
def iv (o : Option UInt8) : Int := match o with | none => -1 | some b => (b.toNat : Int)
def inV (o : Option UInt8) : Value := .int .i64 (iv o)
def refCells (M : Plc) (t : Nat) : Array Value := (M.map inV ++ [Value.int .i64 (t : Int)]).toArray
theorem refCells_at {M : Plc} (hM : M.length = 60) (t : Nat) {i : Nat} (h : i < 60) : (refCells M t)[i]? = some (.int .i64 (iv (M.at i))) := by
 unfold refCells
 rw [List.getElem?_toArray, List.getElem?_append_left (by rw [List.length_map]; omega), List.getElem?_map]
 unfold Plc.at
 rw [List.getElem?_eq_getElem (by omega)]
 simp [List.getD, List.getElem?_eq_getElem (show i < M.length by omega), inV]
theorem refCells_taken {M : Plc} (hM : M.length = 60) (t : Nat) : (refCells M t)[60]? = some (.int .i64 (t : Int)) := by
 unfold refCells
 rw [List.getElem?_toArray, List.getElem?_append_right (by rw [List.length_map]; omega), List.length_map, hM]
 rfl
theorem refCells_put {M : Plc} (hM : M.length = 60) (t : Nat) {i : Nat} (h : i < 60) (o : Option UInt8) : (refCells M t).setIfInBounds i (.int .i64 (iv o)) = refCells (M.set i o) t := by
 unfold refCells
 rw [List.setIfInBounds_toArray, List.set_append_left _ _ (by rw [List.length_map]; omega), List.map_set]
 rfl
theorem refCells_take {M : Plc} (hM : M.length = 60) (t t' : Nat) : (refCells M t).setIfInBounds 60 (.int .i64 (t' : Int)) = refCells M t' := by
 unfold refCells
 rw [List.setIfInBounds_toArray, List.set_append_right _ _ (by rw [List.length_map]; omega), List.length_map, hM]
 rfl
structure Qz (w : World) (g : Nat) (M : Plc) (t : Nat) : Prop where
 bl : BlockIs w g 114 (refCells M t)
 len : M.length = 60
 most : t ≤ 60
theorem Qz.later {w w1 : World} {g : Nat} {M : Plc} {t : Nat} (h : Qz w g M t) (hb : Below w.heap.size w w1) : Qz w1 g M t := ⟨h.bl.later hb, h.len, h.most⟩
theorem Qz.kept {w w1 : World} {g : Nat} {M : Plc} {t : Nat} {S : List Nat} (h : Qz w g M t) (hg : Out w w1 S) (h1 : g ∉ S) : Qz w1 g M t := ⟨hg.block' h.bl h1, h.len, h.most⟩
theorem Qz.drewN {w : World} {g : Nat} {M : Plc} {t : Nat} (h : Qz w g M t) (n : Nat) : Qz (w.drewN n) g M t := ⟨h.bl, h.len, h.most⟩
theorem Qz.at_ {w : World} {g : Nat} {M : Plc} {t : Nat} (h : Qz w g M t) {i : Nat} (hi : i < 60) : w.cell? ⟨g, i, none⟩ = some (.int .i64 (iv (M.at i))) := (h.bl.cell i).trans (refCells_at h.len t hi)
theorem Qz.taken {w : World} {g : Nat} {M : Plc} {t : Nat} (h : Qz w g M t) : w.cell? ⟨g, 60, none⟩ = some (.int .i64 (t : Int)) := (h.bl.cell _).trans (refCells_taken h.len t)
theorem Qz.put {w : World} {g : Nat} {M : Plc} {t : Nat} (h : Qz w g M t) {i : Nat} (hi : i < 60) (o : Option UInt8) : Qz (w.setCell ⟨g, i, none⟩ (.int .i64 (iv o))) g (M.set i o) t := by
 refine ⟨?_, by rw [List.length_set]; exact h.len, h.most⟩
 rw [← refCells_put h.len t hi o]
 exact h.bl.put i _
theorem Qz.take {w : World} {g : Nat} {M : Plc} {t t' : Nat} (h : Qz w g M t) (ht : t' ≤ 60) : Qz (w.setCell ⟨g, 60, none⟩ (.int .i64 (t' : Int))) g M t' := by
 refine ⟨?_, h.len, ht⟩
 rw [← refCells_take h.len t t']
 exact h.bl.put 60 _
def blank (i : Nat) : Plc := List.replicate i none ++ List.replicate (60 - i) (some 0)
theorem blank_len {i : Nat} (h : i ≤ 60) : (blank i).length = 60 := by unfold blank; rw [List.length_append, List.length_replicate, List.length_replicate]; omega
theorem blank_step {i : Nat} (h : i < 60) : (blank i).set i none = blank (i + 1) := by
 unfold blank
 rw [List.set_append_right _ _ (by rw [List.length_replicate]; exact Nat.le_refl _), List.length_replicate, Nat.sub_self]
 obtain ⟨m, hm⟩ : ∃ m, 60 - i = m + 1 := ⟨59 - i, by omega⟩
 rw [hm, List.replicate_succ, List.set_cons_zero, show 60 - (i + 1) = m by omega, List.replicate_succ']
 simp
theorem blank_end : blank 60 = Plc.new := by unfold blank Plc.new; simp
theorem qnew (w : World) : Calls Tryz.prog 43 #[] w fun e w' => e = .returned (.pointer (some ⟨w.heap.size, 0, none⟩)) ∧ Qz w' w.heap.size Plc.new 0 ∧ Below w.heap.size w w' := by
 go_enter Tryz.func43, Tryz.ntmps43
 go_wp2_with fail
 go_loopw [2] (fun s2 wr => ∃ i : Nat, s2 = .int .i64 i ∧ i ≤ 60 ∧ Qz wr w.heap.size (blank i) 0 ∧ Since w wr) (fun s2 _ => 60 - (intOf s2).toNat)
 case atStart => exact ⟨0, rfl, by omega, ⟨BlockIs.fresh _ _ _, blank_len (by omega), by omega⟩, (by exact Since.alloc (Since.refl _) _)⟩
 case round =>
  obtain ⟨i, rfl, hi, hz, hs⟩ := hrel
  have HZ := Lib.hid hz
  have lg := hz.bl.lt
  have f0 := hz.bl.free
  clear hz
  by_cases hlt : i < 60
  case neg =>
   obtain rfl : i = 60 := by omega
   go_wp2_with fail
   go_ret
   exact ⟨rfl, by rw [← blank_end]; exact HZ.out, (by exact hs)⟩
  have hlt' : (i : Int) < 60 := by omega
  have c0 := HZ.out.at_ hlt
  generalize iv ((blank i).at i) = x0 at c0
  have hz1 := HZ.out.put hlt none
  rw [blank_step hlt] at hz1
  have HZ1 := Lib.hid hz1
  clear hz1
  go_wp2_with fail
  go_roundw
  case rel => exact ⟨i + 1, by go_num, by omega, HZ1.out, (by exact Since.set hs (by first | omega | (simp; done) | (simp; omega)) _)⟩
  case measure => simp [intOf]; omega
theorem qready (g : Nat) (M : Plc) (t : Nat) (w : World) (h : Qz w g M t) :
  Calls Tryz.prog 20 #[.pointer (some ⟨g, 0, none⟩)] w fun e w' => e = .returned (.int .i64 (readyN M t)) ∧ Below w.heap.size w w' := by
 have H := Lib.hid h
 have ht := h.most
 clear h
 go_enter Tryz.func20, Tryz.ntmps20
 go_wp2_with fail
 go_loopw [3] (fun s3 wr => ∃ n : Nat, s3 = .int .i64 n ∧ t + n ≤ 60 ∧ Hid (∀ j, j < n → (M.at (t + j)).isSome = true) ∧ Since w wr) (fun s3 _ => 60 - t - (intOf s3).toNat)
 case atStart => exact ⟨0, rfl, by omega, Lib.hid (fun j hj => by omega), Since.refl _⟩
 case round =>
  obtain ⟨n, rfl, hn, HS, hs⟩ := hrel
  have c0 : wr.cell? ⟨g, 60, none⟩ = some (.int .i64 (t : Int)) := (H.out.later hs).taken
  by_cases hlt : t + n < 60
  case neg =>
   have e : readyN M t = n := readyN_eq HS.out hn (Or.inr (by omega))
   have hlt' : decide ((t : Int) + (n : Int) < 60) = false := by simp; omega
   have E := Lib.hid e
   clear e
   go_wp2_with fail
   go_quiet (fail)
   go_wp2_with fail
   go_ret
   exact ⟨by rw [E.out]; rfl, (by exact Since.drewN hs _)⟩
  have hlt' : decide ((t : Int) + (n : Int) < 60) = true := by simp; omega
  have c1 : wr.cell? ⟨g, t + n, none⟩ = some (.int .i64 (iv (M.at (t + n)))) := (H.out.later hs).at_ hlt
  have lg := (H.out.later hs).bl.lt
  obtain ⟨o, ho⟩ : ∃ o, M.at (t + n) = o := ⟨_, rfl⟩
  rw [ho] at c1
  have HO := Lib.hid ho
  have hlt2 : (t : Int) + (n : Int) < 60 := by omega
  clear ho
  cases o with
  | none =>
    have E : Hid (readyN M t = n) := Lib.hid (readyN_eq HS.out hn (Or.inl (by rw [HO.out]; rfl)))
    change wr.cell? ⟨g, t + n, none⟩ = some (.int .i64 (-1)) at c1
    go_wp2_with fail
    go_quiet (fail)
    go_wp2_with fail
    go_ret
    exact ⟨by rw [E.out]; rfl, (by exact Since.drewN hs _)⟩
  | some y =>
    obtain ⟨y0, hy0⟩ : ∃ y0 : Int, (y.toNat : Int) = y0 := ⟨_, rfl⟩
    have hy1 : 0 ≤ y0 := by omega
    change wr.cell? ⟨g, t + n, none⟩ = some (.int .i64 (y.toNat : Int)) at c1
    rw [hy0] at c1
    clear hy0
    go_wp2_with fail
    go_quiet (fail)
    go_wp2_with fail
    go_roundw
    case rel => exact ⟨n + 1, by go_num, by omega, Lib.hid (fun j hj => by
     rcases Nat.lt_succ_iff_lt_or_eq.1 hj with h1 | h1
     · exact HS.out j h1
     · rw [h1, HO.out]; rfl), (by exact Since.drewN hs _)⟩
    case measure => simp [intOf]; omega
theorem qput (g : Nat) (M : Plc) (t : Nat) (x : Int) (d : ByteArray) (w : World) (h : Qz w g M t) (hd : d.size ≤ 140737488351232) :
  Calls Tryz.prog 63 #[.pointer (some ⟨g, 0, none⟩), .int .i64 x, .string d] w fun e w' => e = .returned (.int .i64 (putE M x d.data.toList)) ∧ Qz w' g (putM M x d.data.toList) t ∧ Out w w' [g] := by
 have H := Lib.hid h
 have ht := h.most
 have lg := h.bl.lt
 have hlen : d.data.toList.length = d.size := Array.length_toList
 clear h
 by_cases hx : 0 ≤ x ∧ x ≤ 60
 case neg =>
  have E : Hid (putE M x d.data.toList = 1) := Lib.hid (by unfold putE; rw [if_pos (by omega)])
  have EM : Hid (putM M x d.data.toList = M) := Lib.hid (by unfold putM; rw [E.out, if_neg (by decide)])
  clear hlen
  by_cases h0 : x < 0
  · clear hx
    go_enter Tryz.func63, Tryz.ntmps63
    go_wp2_with fail
    go_ret
    exact ⟨by rw [E.out]; rfl, by rw [EM.out]; exact H.out, Out.refl _ _⟩
  · have h0' : decide (x < 0) = false := by simpa using h0
    have h1 : decide (60 < x) = true := by simp; omega
    clear hx
    go_enter Tryz.func63, Tryz.ntmps63
    go_wp2_with fail
    go_ret
    exact ⟨by rw [E.out]; rfl, by rw [EM.out]; exact H.out, Out.refl _ _⟩
 obtain ⟨x0, x1⟩ := hx
 obtain ⟨a, rfl⟩ := Int.eq_ofNat_of_zero_le x0
 have h0' : decide ((a : Int) < 0) = false := by simp
 have h1' : decide (60 < (a : Int)) = false := by simp; omega
 by_cases hf : 60 < a + d.size
 · have E : Hid (putE M a d.data.toList = 4) := Lib.hid (by unfold putE; rw [if_neg (by omega), if_pos (by rw [hlen]; omega)])
   have EM : Hid (putM M a d.data.toList = M) := Lib.hid (by unfold putM; rw [E.out, if_neg (by decide)])
   have h2 : decide (60 < (a : Int) + (d.size : Int)) = true := by simp; omega
   clear hlen
   go_enter Tryz.func63, Tryz.ntmps63
   go_wp2_with fail
   go_ret
   exact ⟨by rw [E.out]; rfl, by rw [EM.out]; exact H.out, Out.refl _ _⟩
 have h2 : decide (60 < (a : Int) + (d.size : Int)) = false := by simp; omega
 have E : Hid (putE M a d.data.toList = if clashN M a d.data.toList d.size = true then 7 else 0) := Lib.hid (by unfold putE; rw [if_neg (by omega), if_neg (by rw [hlen]; omega), hlen]; rfl)
 have hn : a + d.size ≤ 60 := by omega
 have HLEN := Lib.hid hlen
 clear hlen hf
 go_enter Tryz.func63, Tryz.ntmps63
 go_wp2_with fail
 go_loopw [7] (fun s7 wr => ∃ i : Nat, s7 = .int .i64 i ∧ i ≤ d.size ∧ clashN M a d.data.toList i = false ∧ Since w wr) (fun s7 _ => d.size - (intOf s7).toNat)
 case atStart => exact ⟨0, rfl, Nat.zero_le _, rfl, Since.refl _⟩
 case round =>
  obtain ⟨i, rfl, hi, hc, hs⟩ := hrel
  have HC := Lib.hid hc
  clear hc
  by_cases hlt : i < d.size
  case neg =>
   have hi2 : i = d.size := by omega
   subst hi2
   have E0 : Hid (putE M a d.data.toList = 0) := Lib.hid (by rw [E.out, HC.out]; rfl)
   have EM : Hid (putM M a d.data.toList = wrN M a d.data.toList d.size) := Lib.hid (by unfold putM; rw [E0.out, if_pos rfl, HLEN.out]; rfl)
   have hlt' : decide ((d.size : Int) < (d.size : Int)) = false := by simp
   go_wp2_with fail
   obtain ⟨wo, rfl⟩ : ∃ wo : World, wo = wr := ⟨_, rfl⟩
   go_loopw [8] (fun s8 wr => ∃ i : Nat, s8 = .int .i64 i ∧ i ≤ d.size ∧ Qz wr g (wrN M a d.data.toList i) t ∧ Out w wr [g]) (fun s8 _ => d.size - (intOf s8).toNat)
   case atStart => exact ⟨0, rfl, Nat.zero_le _, H.out.later hs, Out.of_below hs _⟩
   case round =>
    obtain ⟨i, rfl, hi, hz, ho⟩ := hrel
    have HZ := Lib.hid hz
    have HOO := Lib.hid ho
    have hlg := hz.bl.lt
    clear hz ho
    by_cases hlt : i < d.size
    case neg =>
     obtain rfl : i = d.size := by omega
     go_wp2_with fail
     go_ret
     exact ⟨by rw [E0.out]; rfl, by rw [EM.out]; exact HZ.out, HOO.out⟩
    clear hlt'
    have hlt' : (i : Int) < (d.size : Int) := by omega
    have hw8 : wrap64 (d[i].toNat : Int) = (d[i].toNat : Int) := by have := d[i].toNat_lt; unfold wrap64; omega
    have hai : a + i < 60 := by omega
    have hai' : (a : Int) + (i : Int) < 60 := by omega
    have c0 := HZ.out.at_ hai
    generalize iv ((wrN M a d.data.toList i).at (a + i)) = oy at c0
    have f0 := HZ.out.bl.free
    have hw : IntKind.i64.wrap ((a : Int) + (i : Int)) = ((a + i : Nat) : Int) := by rw [IntWalk.i64_in _ (by omega)]; rfl
    go_wp2_with fail
    go_region
    all_goals
     go_wp2_with fail
     (try rw [hw8])
     have hO : Out wr (wr.setCell ⟨g, a + i, none⟩ (.int .i64 (d[i].toNat : Int))) [g] := (Out.refl wr [g]).put (p := ⟨g, a + i, none⟩) (Or.inl (by simp)) _
     have hP := HZ.out.put hai (some d[i])
     have hset : wrN M a d.data.toList (i + 1) = (wrN M a d.data.toList i).set (a + i) (some d[i]) := by rw [← bth_get hlt]; rfl
     go_roundw
     case rel => exact ⟨i + 1, by go_num, by omega, by rw [hset]; exact ⟨hP.bl, hP.len, hP.most⟩, HOO.out.trans (by first | exact hO | exact hO.drew | exact ⟨hO.os, hO.tape, hO.output, hO.size, hO.block⟩)⟩
     case measure => simp [intOf]; omega
  have hlt' : (i : Int) < (d.size : Int) := by omega
  have hw8 : wrap64 (d[i].toNat : Int) = (d[i].toNat : Int) := by have := d[i].toNat_lt; unfold wrap64; omega
  have hai : a + i < 60 := by omega
  have c0 := (H.out.later hs).at_ hai
  have hai' : (a : Int) + (i : Int) < 60 := by omega
  have hlg := (H.out.later hs).bl.lt
  obtain ⟨o, ho⟩ : ∃ o, M.at (a + i) = o := ⟨_, rfl⟩
  rw [ho] at c0
  have HO := Lib.hid ho
  clear ho
  cases o with
  | none =>
    change wr.cell? ⟨g, a + i, none⟩ = some (.int .i64 (-1)) at c0
    have HC1 : Hid (clashN M a d.data.toList (i + 1) = false) := Lib.hid (clashN_miss HC.out (fun y hy => by rw [HO.out] at hy; cases hy))
    go_wp2_with fail
    go_quiet (fail)
    go_wp2_with fail
    go_roundw
    case rel => exact ⟨i + 1, by go_num, by omega, HC1.out, (by exact Since.drewN hs _)⟩
    case measure => simp [intOf]; omega
  | some y =>
    change wr.cell? ⟨g, a + i, none⟩ = some (.int .i64 (y.toNat : Int)) at c0
    have hy0 : decide (0 ≤ (y.toNat : Int)) = true := by simp
    by_cases hy : y = d[i]
    · have HC1 : Hid (clashN M a d.data.toList (i + 1) = false) := Lib.hid (clashN_miss HC.out (fun z hz => by rw [HO.out] at hz; rw [bth_get hlt, ← hy]; exact (Option.some.inj hz).symm))
      have hq : ((y.toNat : Int) != (d[i].toNat : Int)) = false := by rw [hy]; simp
      clear hy
      go_wp2_with fail
      go_quiet (fail)
      go_wp2_with fail
      go_roundw
      case rel => exact ⟨i + 1, by go_num, by omega, HC1.out, (by exact Since.drewN hs _)⟩
      case measure => simp [intOf]; omega
    · have E7 : Hid (putE M a d.data.toList = 7) := Lib.hid (by rw [E.out, if_pos (clashN_hit hlt HO.out (by rw [bth_get hlt]; exact hy))])
      have EM : Hid (putM M a d.data.toList = M) := Lib.hid (by unfold putM; rw [E7.out, if_neg (by decide)])
      have hq : ((y.toNat : Int) != (d[i].toNat : Int)) = true := by
       simp
       intro he
       exact hy (UInt8.toNat_inj.1 (by omega))
      clear hy
      go_wp2_with fail
      go_quiet (fail)
      go_wp2_with fail
      go_ret
      exact ⟨by rw [E7.out]; rfl, by rw [EM.out]; exact H.out.later (by exact Since.drewN hs _), Out.of_below (by exact Since.drewN hs _) _⟩
def byRow (b : UInt8) : List Value := [.int .u8 (b.toNat : Int)]
theorem byRow_one (b : UInt8) : (byRow b).length = 1 ∧ ∀ u ∈ byRow b, u.oneCell' = true := ⟨rfl, by intro u hu; simp [byRow] at hu; rw [hu]; rfl⟩
theorem Tryz.elByte : Elem Tryz.prog 131 5 1 1 := ⟨Tryz.underlying131, ⟨.int .u8 0, rfl, by kernel_rfl⟩, by decide, by decide⟩
theorem conv_lst {W : World} {n : Nat} {bs : List UInt8} (hn : bs.length = n) {A : Option Addr} {c : Nat} (h : Lst W 5 1 (.slice A n c) (bs.map byRow)) :
  (convert 131 9 (.slice A n c)).run Tryz.prog W = .ok (.string ⟨bs.toArray⟩) W := by
 obtain ⟨A', cap, hv, _, _, hA⟩ := h.shape
 simp only [List.length_map, Value.slice.injEq] at hv
 obtain ⟨rfl, _, rfl⟩ := hv
 rcases hA with ⟨rfl, h0, _⟩ | ⟨q, rfl⟩
 · have hb : bs = [] := by simpa using h0
   subst hb
   subst hn
   exact conv_none
 · refine conv_at hn (fun j b hb => ?_)
   have := h.cell rfl (i := j) (j := 0) (e := byRow b) (u := .int .u8 (b.toNat : Int)) (by rw [List.getElem?_map, hb]; rfl) rfl
   rw [Nat.zero_add]
   simpa using this
theorem qtake (g : Nat) (M : Plc) (t : Nat) (x : Int) (hx : 0 ≤ x) (w : World) (h : Qz w g M t) (S : ByteArray) (hS : S = ⟨(cutL M t (takeK M t x)).toArray⟩) :
  Calls Tryz.prog 44 #[.pointer (some ⟨g, 0, none⟩), .int .i64 x] w fun e w' => e = .returned (.string S) ∧ Qz w' g M (t + takeK M t x) ∧ Out w w' [g] := by
 have H := Lib.hid h
 have ht := h.most
 have lg := h.bl.lt
 have hr := readyN_le M t ht
 obtain ⟨k, hk⟩ : ∃ k, takeK M t x = k := ⟨_, rfl⟩
 have hkr : k ≤ readyN M t := by rw [← hk]; unfold takeK; omega
 have htk : t + k ≤ 60 := by omega
 have hmin : (x < (readyN M t : Int) ∧ x = (k : Int)) ∨ ((readyN M t : Int) ≤ x ∧ k = readyN M t) := by rw [← hk]; unfold takeK; omega
 have HK := Lib.hid hk
 have HS := Lib.hid hS
 clear h hk hS
 go_enter Tryz.func44, Tryz.ntmps44
 repeat ((fail_if_success (with_reducible refine stop_at 2 ?_)); first | (go_at_call 20; refine (qready g M t _ H.out).mono ?_; rintro e w1 ⟨rfl, hb1⟩) | go_values | go_skip | go_guarded | go_step | go_upon | go_back | go_simp)
 go_cut [5] (fun s5 wx => s5 = .int .i64 k ∧ Qz wx g M t ∧ Since w wx)
 case first =>
  have HB := Lib.hid (H.out.later hb1)
  have hs1 : Since w w1 := hb1
  rcases hmin with ⟨h1, rfl⟩ | ⟨h1, rfl⟩
  · go_wp2_with fail
    go_meet
    case rel => exact ⟨rfl, HB.out, hs1⟩
  · go_wp2_with fail
    go_meet
    case rel => exact ⟨rfl, HB.out, hs1⟩
 case rest =>
  obtain ⟨wo, rfl⟩ : ∃ wo : World, wo = wc := ⟨_, rfl⟩
  obtain ⟨rfl, hz, hs⟩ := hcut
  have HZ := Lib.hid hz
  clear hz
  go_wp2_with fail
  go_loopw [6, 7] (fun s6 s7 wr => ∃ (i : Nat) (A : Option Addr) (c : Nat), s7 = .int .i64 i ∧ i ≤ k ∧ s6 = .slice A i c ∧ Lst wr 5 1 (.slice A i c) ((cutL M t i).map byRow) ∧ (∀ q, q ∈ blocks (.slice A 0 0) → wo.heap.size ≤ q) ∧ Since wo wr) (fun _ s7 _ => k - (intOf s7).toNat)
  case atStart => exact ⟨0, none, 0, rfl, Nat.zero_le _, rfl, by simpa [cutL] using Lst.nil wo _ 1, by simp [Value.ownBlock], Since.refl _⟩
  case round =>
   obtain ⟨i, A, c, rfl, hi, rfl, hl, hfar, hs2⟩ := hrel
   have HL := Lib.hid hl
   have HFAR := Lib.hid hfar
   have hq := HZ.out.later hs2
   have c6 : wr.cell? ⟨g, 60, none⟩ = some (.int .i64 (t : Int)) := hq.taken
   have lgr := hq.bl.lt
   have f0 := hq.bl.free
   clear hl hfar
   by_cases hlt : i < k
   case neg =>
    obtain rfl : i = k := by omega
    have hf : decide ((i : Int) < (i : Int)) = false := by simp
    have hw : IntKind.i64.wrap ((t : Int) + (i : Int)) = ((t + i : Nat) : Int) := by rw [IntWalk.i64_in _ (by omega)]; rfl
    have HQ := Lib.hid (hq.take (t' := t + i) htk)
    have hO : Out wr (wr.setCell ⟨g, 60, none⟩ (.int .i64 ((t + i : Nat) : Int))) [g] := (Out.refl wr [g]).put (p := ⟨g, 60, none⟩) (Or.inl (by simp)) _
    have HL2 := Lib.hid (HL.out.kept hO (fun q hq hm => by rw [List.mem_singleton.1 hm] at hq; have := HFAR.out _ (blocks_any A _ _ _ _ ▸ hq); have := HZ.out.bl.lt; omega))
    have HO := Lib.hid hO
    have hcv : (convert 131 9 (.slice A i c)).run Tryz.prog (wr.setCell ⟨g, 60, none⟩ (.int .i64 ((t : Int) + (i : Int)))) = .ok (.string S) (wr.setCell ⟨g, 60, none⟩ (.int .i64 ((t : Int) + (i : Int)))) := by
     have h1 := conv_lst (cutL_len M t i) HL2.out
     rw [HS.out, HK.out]
     exact h1
    clear hq hO
    go_wp2_with fail
    go_ret
    exact ⟨rfl, by rw [HK.out]; exact HQ.out, (Out.of_below (hs.later hs2) [g]).trans HO.out⟩
   have hlt' : (i : Int) < (k : Int) := by omega
   have hti : t + i < 60 := by omega
   have hti' : (t : Int) + (i : Int) < 60 := by omega
   have hsome := readyN_some (M := M) (t := t) (j := i) (by omega)
   obtain ⟨y, hy⟩ := Option.isSome_iff_exists.1 hsome
   have cb : wr.cell? ⟨g, t + i, none⟩ = some (.int .i64 (y.toNat : Int)) := by rw [hq.at_ hti, hy]; rfl
   have hst : cutL M t (i + 1) = cutL M t i ++ [y] := by show cutL M t i ++ _ = _; rw [hy]; rfl
   have HST := Lib.hid hst
   have hw : IntKind.i64.wrap ((t : Int) + (i : Int)) = ((t + i : Nat) : Int) := by rw [IntWalk.i64_in _ (by omega)]; rfl
   have hyb := y.toNat_lt
   have hti0 : (0 : Int) ≤ (t : Int) + (i : Int) := by omega
   have htn : ((t : Int) + (i : Int)).toNat = t + i := by omega
   have hw8 : IntKind.u8.wrap (y.toNat : Int) = (y.toNat : Int) := by simp only [IntKind.wrap, IntKind.bits, IntKind.signed]; simp; omega
   have hml : ((cutL M t i).map byRow).length = i := by rw [List.length_map, cutL_len]
   have HML := Lib.hid hml
   clear hy hst hsome hq hml
   go_wp2_with fail
   go_region_law (refine step_push rfl _ _ 131 rfl 5 1 1 Tryz.elByte (.slice A i c) ((cutL M t i).map byRow) rfl ?_ wr.heap.size 1 [.int .u8 (y.toNat : Int)] rfl rfl (byRow_one y).2 ?_ ?_ ?_; (first | exact (HL.out.alloc _).drew | exact HL.out.alloc _); (exact BlockIs.fresh wr _ _); (rw [HML.out]; omega); intro q cap' w3 hl3 ho3 hq3 hlt3)
   all_goals
    simp only [cutL_len]
    rw [HML.out] at hl3
    have hsn : Since wo w3 := by
     first
      | exact (hs2.alloc _).out' ho3 (fun k hk => HFAR.out k (blocks_any A _ _ _ _ ▸ hk))
      | exact ((hs2.alloc _).drew).out' ho3 (fun k hk => HFAR.out k (blocks_any A _ _ _ _ ▸ hk))
    have hfar1 : ∀ k, k ∈ blocks (.slice (some ⟨q, 0, none⟩) 0 0) → wo.heap.size ≤ k := by
     intro k hk
     have hkq : q = k := by simpa [Value.ownBlock] using hk
     rw [← hkq]
     rcases hq3 with h1 | h1
     · exact HFAR.out _ (blocks_any A _ _ _ _ ▸ h1)
     · have := hs2.le; simp at h1; omega
    have HF1 := Lib.hid hfar1
    have HL1 := Lib.hid hl3
    clear hfar1 hl3 ho3 hq3 hlt3 cb c6
    go_wp2_with fail
    go_roundw
    case rel => exact ⟨i + 1, some ⟨q, 0, none⟩, cap', by go_num, by omega, rfl, by rw [HST.out, List.map_append]; exact HL1.out, HF1.out, hsn⟩
    case measure => simp [intOf]; omega
def rnParts (g : Nat) (s : EnS) (p : EnP) : List Thing :=
 Thing.block g 48 (enCells s p.mv p.cv p.gi p.gl).toArray :: Thing.block p.gi 114 (refCells s.M s.t) :: Thing.block p.gl 88 (credCells s.W s.L s.C s.R) ::
  Thing.lst 95 1 p.mv (p.vs.map fun v => [v]) :: Thing.lst 101 2 p.cv (s.came.map rngRow) :: inner p.vs s.made
def rnT (g : Nat) (s : EnS) : Thing := Thing.ex fun p : EnP => Thing.with_ (EnOk s ∧ p.vs.length = s.made.length) (Thing.all (rnParts g s p))
structure RnIn (w : World) (S : List Nat) (g : Nat) (s : EnS) (p : EnP) : Prop where
 ok : EnOk s
 len : p.vs.length = s.made.length
 own : Own w S w (rnParts g s p)
theorem rnT_open {w : World} {S : List Nat} {g : Nat} {s : EnS} (h : (rnT g s).is w S) : ∃ p, RnIn w S g s p := by
 obtain ⟨p, ⟨h1, h2⟩, h3⟩ := h
 exact ⟨p, h1, h2, Own.unfold_ h3⟩
theorem rnT_close {w w' : World} {S : List Nat} {g : Nat} {s : EnS} {p : EnP} (h1 : EnOk s) (h2 : p.vs.length = s.made.length) (h : Own w S w' (rnParts g s p)) : Leaves w w' S (rnT g s) :=
 Leaves.ex p (Leaves.with_ ⟨h1, h2⟩ h.closed)
namespace RnIn
variable {w : World} {S : List Nat} {g : Nat} {s : EnS} {p : EnP} (h : RnIn w S g s p)
include h
theorem bg : BlockIs w g 48 (enCells s p.mv p.cv p.gi p.gl).toArray := h.own.blk 0 rfl
theorem qz : Qz w p.gi s.M s.t := ⟨h.own.blk 1 rfl, h.ok.ml, h.ok.tt⟩
theorem bl : BlockIs w p.gl 88 (credCells s.W s.L s.C s.R) := h.own.blk 2 rfl
theorem lm : Lst w 95 1 p.mv (p.vs.map fun v => [v]) := h.own.ls 3 rfl
theorem lc : Lst w 101 2 p.cv (s.came.map rngRow) := h.own.ls 4 rfl
theorem lp {i : Nat} {v : Value} {ps : List Pc} (h1 : p.vs[i]? = some v) (h2 : s.made[i]? = some ps) : Lst w 98 2 v (ps.map pcRow) := h.own.ls (i + 5) (inner_get h1 h2)
theorem c0 : w.cell? ⟨g, 0, none⟩ = some (.string s.data) := (h.bg.cell 0).trans (enCells_data _ _ _ _ _)
theorem ct {i : Nat} (hi : i < 60) : w.cell? ⟨g, 1 + i, none⟩ = some (.bool (tat s.told i)) := (h.bg.cell _).trans (enCells_told _ _ _ _ h.ok.tl hi)
theorem c61 : w.cell? ⟨g, 61, none⟩ = some (.int .i64 s.may) := (h.bg.cell 61).trans (enCells_tail _ _ _ _ h.ok.tl 0)
theorem c62 : w.cell? ⟨g, 62, none⟩ = some p.mv := (h.bg.cell 62).trans (enCells_tail _ _ _ _ h.ok.tl 1)
theorem c63 : w.cell? ⟨g, 63, none⟩ = some (.int .i64 s.known) := (h.bg.cell 63).trans (enCells_tail _ _ _ _ h.ok.tl 2)
theorem c64 : w.cell? ⟨g, 64, none⟩ = some p.cv := (h.bg.cell 64).trans (enCells_tail _ _ _ _ h.ok.tl 3)
theorem c65 : w.cell? ⟨g, 65, none⟩ = some (.pointer (some ⟨p.gi, 0, none⟩)) := (h.bg.cell 65).trans (enCells_tail _ _ _ _ h.ok.tl 4)
theorem c66 : w.cell? ⟨g, 66, none⟩ = some (.pointer (some ⟨p.gl, 0, none⟩)) := (h.bg.cell 66).trans (enCells_tail _ _ _ _ h.ok.tl 5)
theorem later {w' : World} (hb : Below w.heap.size w w') : RnIn w' S g s p := ⟨h.ok, h.len, by
 obtain ⟨own, ho⟩ := h.own.has
 refine ⟨Out.refl _ _, own, fun i t hi => ?_⟩
 obtain ⟨Si, h1, h2⟩ := ho i t hi
 refine ⟨Si, t.later h1 hb, fun k hk => ⟨(h2 k hk).1, Or.inl ?_⟩⟩
 have := t.lt h1 k hk
 rcases (h2 k hk).2 with h3 | h3
 · exact h3
 · omega⟩
end RnIn
theorem nnew (n : Int) (h1 : 1 ≤ n) (h2 : n ≤ 1000) (w : World) :
  Calls Tryz.prog 10 #[.int .i64 n] w fun e w' => ∃ g, e = .returned (.pointer (some ⟨g, 0, none⟩)) ∧ Leaves w w' [] (rnT g (EnS.new n)) := by
 have H1 := Lib.hid h1
 have H2 := Lib.hid h2
 go_enter Tryz.func10, Tryz.ntmps10
 go_wp2_with (go_at_call 43; refine (qnew _).mono ?_; rintro e w1 ⟨rfl, hz, hb⟩)
 go_ret
 refine ⟨w1.heap.size + 1, rfl, rnT_close (p := ⟨w.heap.size, w1.heap.size, .slice none 0 0, .slice none 0 0, []⟩) (EnOk.new H1.out H2.out) rfl ?_⟩
 have ec : ((((Tryz.zeroCells48.setIfInBounds 61 (Value.int IntKind.i64 n)).setIfInBounds 63 (Value.int IntKind.i64 (-1))).setIfInBounds 65 (Value.pointer (some { block := w.heap.size, off := 0 }))).setIfInBounds 66 (Value.pointer (some { block := w1.heap.size, off := 0 }))) = (enCells (EnS.new n) (.slice none 0 0) (.slice none 0 0) w.heap.size w1.heap.size).toArray := by kernel_rfl
 have o1 := (Own.start w).add hb (S := [_]) (t := Thing.block _ 114 (refCells Plc.new 0)) ⟨hz.bl, rfl⟩ (by simp)
 have o2 := o1.alloc 88 (credCells n n 0 0)
 have o3 := ((o2.alloc 48 (enCells (EnS.new n) (.slice none 0 0) (.slice none 0 0) w.heap.size w1.heap.size).toArray).nil_ 95 1).nil_ 101 2
 show Own w [] ((w1.alloc (.cells (credCells n n 0 0) 88)).alloc (.cells ((((Tryz.zeroCells48.setIfInBounds 61 (Value.int IntKind.i64 n)).setIfInBounds 63 (Value.int IntKind.i64 (-1))).setIfInBounds 65 (Value.pointer (some { block := w.heap.size, off := 0 }))).setIfInBounds 66 (Value.pointer (some { block := w1.heap.size, off := 0 }))) 48)) _
 rw [ec]
 rw [World.size_alloc] at o3
 refine Own.pick o3 [2, 0, 1, 3, 4] (by decide) (fun i t hi => ?_)
 match i, hi with
 | 0, hi => exact ⟨2, rfl, hi⟩
 | 1, hi => exact ⟨0, rfl, hi⟩
 | 2, hi => exact ⟨1, rfl, hi⟩
 | 3, hi => exact ⟨3, rfl, hi⟩
 | 4, hi => exact ⟨4, rfl, hi⟩
theorem nwrite (g : Nat) (s : EnS) (d : ByteArray) (w : World) (S : List Nat) (h : (rnT g s).is w S) (hd : d.size ≤ 9223372036854775000) :
  Calls Tryz.prog 12 #[.pointer (some ⟨g, 0, none⟩), .string d] w fun e w' => e = .returned (.int .i64 (s.writeE d)) ∧ Leaves w w' S (rnT g (s.write d)) := by
 obtain ⟨p, hp⟩ := rnT_open h
 have H := Lib.hid h
 have HP := Lib.hid hp
 have c0 := hp.c0
 have lg := hp.bg.lt
 have fg := hp.bg.free
 have hz := hp.ok.dz
 have hw : IntKind.i64.wrap ((s.data.size : Int) + (d.size : Int)) = (s.data.size : Int) + (d.size : Int) := IntWalk.i64_in _ (by omega)
 clear h hp
 by_cases hf : 60 < s.data.size + d.size
 · have HE : Hid (s.writeE d = 4 ∧ s.write d = s) := Lib.hid ⟨by unfold EnS.writeE; rw [if_pos hf], by unfold EnS.write; rw [if_pos hf]⟩
   rw [HE.out.1, HE.out.2]
   have hb : (60 : Int) < (s.data.size : Int) + (d.size : Int) := by omega
   clear hf
   go_enter Tryz.func12, Tryz.ntmps12
   go_wp2_with fail
   go_ret
   exact ⟨rfl, Leaves.same H.out (Below.refl _ _)⟩
 · have HE : Hid (s.writeE d = 0 ∧ s.write d = { s with data := s.data ++ d }) := Lib.hid ⟨by unfold EnS.writeE; rw [if_neg hf], by unfold EnS.write; rw [if_neg hf]⟩
   have HW := Lib.hid (HP.out.ok.write d)
   rw [HE.out.2] at HW
   rw [HE.out.1, HE.out.2]
   have hb : decide ((60 : Int) < (s.data.size : Int) + (d.size : Int)) = false := by simp; omega
   have hc : (9223372036854775807 < s.data.size + d.size) = False := by simp; omega
   clear hf
   go_enter Tryz.func12, Tryz.ntmps12
   go_wp2_with fail
   go_ret
   refine ⟨rfl, rnT_close (p := p) HW.out HP.out.len ?_⟩
   have o := HP.out.own.put 0 rfl 0 (.string (s.data ++ d))
   exact o
theorem nread (g : Nat) (s : EnS) (n : Int) (w : World) (S : List Nat) (h : (rnT g s).is w S) :
  Calls Tryz.prog 13 #[.pointer (some ⟨g, 0, none⟩), .int .i64 n] w fun e w' => e = .returned (.tuple #[.string (s.readS n), .int .i64 (EnS.readE n)]) ∧ Leaves w w' S (rnT g (s.read n)) := by
 obtain ⟨p, hp⟩ := rnT_open h
 have H := Lib.hid h
 have HP := Lib.hid hp
 have c65 := hp.c65
 have lg := hp.bg.lt
 clear h hp
 by_cases hn : n < 0
 · have HE : Hid (EnS.readE n = 1 ∧ s.readS n = ⟨#[]⟩ ∧ s.read n = s) := Lib.hid ⟨by unfold EnS.readE; rw [if_pos hn], by unfold EnS.readS; rw [if_pos hn], by unfold EnS.read; rw [if_pos hn]⟩
   rw [HE.out.1, HE.out.2.1, HE.out.2.2]
   go_enter Tryz.func13, Tryz.ntmps13
   go_wp2_with fail
   go_ret2
   exact ⟨rfl, Leaves.same H.out (Below.refl _ _)⟩
 · have hn' : decide (n < 0) = false := by simpa using hn
   obtain ⟨k, hk⟩ : ∃ k, takeK s.M s.t n = k := ⟨_, rfl⟩
   obtain ⟨T, hT⟩ : ∃ T, takeS s.M s.t n = T := ⟨_, rfl⟩
   have hTk : T.size = k := by
    rw [← hT, ← hk]
    show (cutL s.M s.t (takeK s.M s.t n)).toArray.size = _
    rw [List.size_toArray, cutL_len]
   have HE : Hid (EnS.readE n = 0 ∧ s.readS n = T ∧ s.read n = { s with t := s.t + k, L := limitN s.W s.L s.R k, R := s.R + k }) := Lib.hid ⟨by unfold EnS.readE; rw [if_neg hn], by unfold EnS.readS; rw [if_neg hn]; exact hT, by unfold EnS.read; rw [if_neg hn, hk]⟩
   have HW := Lib.hid (HP.out.ok.read n)
   rw [HE.out.2.2] at HW
   have HRD := Lib.hid (HP.out.ok.readOk n).1
   have HS := Lib.hid (qtake p.gi s.M s.t n (by omega) w HP.out.qz T hT.symm)
   rw [hk] at HRD HS
   rw [HE.out.1, HE.out.2.1, HE.out.2.2]
   have HTK := Lib.hid hTk
   clear hn hk hT hTk HE
   go_enter Tryz.func13, Tryz.ntmps13
   go_wp2_with fail
   refine HS.out.mono ?_
   rintro e w1 ⟨rfl, hz, ho⟩
   have HO := Lib.hid (HP.out.own.chg1 1 rfl hz.bl ho)
   have d66 : w1.cell? ⟨g, 66, none⟩ = some (.pointer (some ⟨p.gl, 0, none⟩)) := (HO.out.blk 0 rfl).cell 66 |>.trans (enCells_tail _ _ _ _ HP.out.ok.tl 5)
   have lg1 := (HO.out.blk 0 rfl).lt
   have HC := Lib.hid (rgetc_any p.gl s.W s.L s.C s.R k HP.out.ok.cr w1 (HO.out.blk 2 rfl))
   unfold rL rR at HC
   rw [HRD.out, if_pos rfl, if_pos rfl] at HC
   have hsz : (T.size : Int) = (k : Int) := by rw [HTK.out]
   clear hz ho
   go_wp2_with fail
   refine HC.out.mono ?_
   rintro e w2 ⟨rfl, hb2, ho2⟩
   have HO2 := Lib.hid (HO.out.chg1 2 rfl hb2 (Out.of_only ho2))
   clear hb2 ho2
   go_wp2_with fail
   go_ret2
   exact ⟨rfl, rnT_close (p := p) HW.out HP.out.len HO2.out⟩
theorem blocks_zero {A : Option Addr} {n c k : Nat} (h : k ∈ blocks (.slice A 0 0)) : k ∈ blocks (.slice A n c) := by cases A <;> exact h
theorem wstep_ok {s : WSt} {r : Rng} (hs : okN s.x) (hr : okN r) : okN (wstep s r).x := by
 unfold wstep
 split
 · exact hs
 · split
   · split <;> exact hs
   · obtain ⟨⟨a1, a2⟩, a3, a4⟩ := hs
     obtain ⟨⟨b1, b2⟩, b3, b4⟩ := hr
     refine ⟨⟨?_, ?_⟩, ?_, ?_⟩ <;> simp only <;> split <;> omega
theorem wup_ok {L : List Rng} {x : Rng} (hL : ∀ r ∈ L, okN r) (hx : okN x) : ∀ i, i ≤ L.length → okN (wup L x i).x
 | 0, _ => hx
 | i + 1, h => by
   rw [wup_succ (by omega)]
   exact wstep_ok (wup_ok hL hx i (by omega)) (by rw [rat_get (by omega)]; exact hL _ (List.getElem_mem _))
structure WR (w wr : World) (out : List Rng) (x : Rng) (v : Value) : Prop where
 ls : Lst wr 101 2 v (out.map rngRow)
 nw : ∀ k, k ∈ blocks v → w.heap.size + 1 ≤ k
 bx : BlockIs wr w.heap.size 101 #[.int .i64 x.lo, .int .i64 x.hi]
 since : Since w wr
theorem WR.later {w wr wx : World} {out : List Rng} {x : Rng} {v : Value} (h : WR w wr out x v) (hb : Below wr.heap.size wr wx) : WR w wx out x v := ⟨h.ls.later hb, h.nw, h.bx.later hb, h.since.later hb⟩
theorem WR.push {w W w' : World} {out : List Rng} {x r : Rng} {v : Value} {g n c : Nat} (h : WR w W out x v) (hl : Lst w' 101 2 (.slice (some ⟨g, 0, none⟩) n c) (out.map rngRow ++ [rngRow r])) (ho : Out W w' (blocks v)) (hq : g ∈ blocks v ∨ g = W.heap.size) : WR w w' (out ++ [r]) x (.slice (some ⟨g, 0, none⟩) n c) := by
 refine ⟨by rw [List.map_append]; exact hl, fun k hk => ?_, ho.block' h.bx (fun hm => by have := h.nw _ hm; omega), h.since.out' ho (fun k hk => by have := h.nw k hk; omega)⟩
 have hk' : g = k := by simpa [Value.ownBlock] using hk
 subst hk'
 rcases hq with h1 | h1
 · exact h.nw _ h1
 · have := h.bx.lt; omega
theorem WR.put {w W : World} {out : List Rng} {x : Rng} {v : Value} (h : WR w W out x v) : (∀ a, WR w (W.setCell ⟨w.heap.size, 0, none⟩ (.int .i64 a)) out ⟨a, x.hi⟩ v) ∧ (∀ b, WR w (W.setCell ⟨w.heap.size, 1, none⟩ (.int .i64 b)) out ⟨x.lo, b⟩ v) := by
 have hs : ∀ u j, Out W (W.setCell ⟨w.heap.size, j, none⟩ u) [w.heap.size] := fun u j => (Out.refl W _).put (p := ⟨w.heap.size, j, none⟩) (Or.inl (by simp)) u
 exact ⟨fun a => ⟨h.ls.kept (hs _ _) (fun k hk hm => by have := h.nw k hk; rw [List.mem_singleton.1 hm] at this; omega), h.nw, h.bx.put 0 _, h.since.out' (hs _ _) (by simp)⟩,
  fun b => ⟨h.ls.kept (hs _ _) (fun k hk hm => by have := h.nw k hk; rw [List.mem_singleton.1 hm] at this; omega), h.nw, h.bx.put 1 _, h.since.out' (hs _ _) (by simp)⟩⟩
theorem rwith (A : Option Addr) (n cap : Nat) (L : List Rng) (x : Rng) (w : World) (hn : L.length = n) (hL : ∀ r ∈ L, okN r) (hx : okN x) (hm : n ≤ 1000) (h : Rd w 2 (.slice A n cap) (L.map rngRow)) :
  Calls Tryz.prog 64 #[.slice A n cap, .agg #[.int .i64 x.lo, .int .i64 x.hi]] w fun e w' => ∃ A' cap', e = .returned (.slice A' (withL L x).length cap') ∧ Lst w' 101 2 (.slice A' (withL L x).length cap') ((withL L x).map rngRow) ∧ Below w.heap.size w w' ∧ ∀ k, k ∈ blocks (.slice A' 0 0) → w.heap.size ≤ k := by
 have H := Lib.hid h
 have HN := Lib.hid hn
 have HU := Lib.hid (fun i (hi : i ≤ n) => wup_ok hL hx i (by omega))
 have HS := Lib.hid (fun i (hi : i < n) => wup_succ (x := x) (show i < L.length by omega))
 have HLE := Lib.hid (fun i (hi : i ≤ n) => wup_len L x i (by omega))
 have HR := Lib.hid (fun i (hi : i < n) => show okN (rat L i) by rw [rat_get (by omega)]; exact hL _ (List.getElem_mem _))
 have HE : Hid (withL L x = if (wup L x n).put = true then (wup L x n).out else (wup L x n).out ++ [(wup L x n).x]) := Lib.hid (by rw [← hn]; rfl)
 clear h hn hL
 go_enter Tryz.func64, Tryz.ntmps64
 go_wp2_with fail
 go_loopw [5, 6, 7] (fun s5 s6 s7 wr => ∃ i : Nat, s7 = .int .i64 i ∧ i ≤ n ∧ s6 = .bool (wup L x i).put ∧ WR w wr (wup L x i).out (wup L x i).x s5) (fun _ _ s7 _ => n - (intOf s7).toNat)
 case atStart => exact ⟨0, rfl, Nat.zero_le _, rfl, Lst.nil _ _ _, by simp [Value.ownBlock], BlockIs.fresh _ _ _, (by exact Since.alloc (Since.refl _) _)⟩
 case round =>
  obtain ⟨i, rfl, hi, rfl, hW⟩ := hrel
  have hxo := HU.out i hi
  have hle := HLE.out i hi
  by_cases hlt : i < n
  case neg =>
   obtain rfl : i = n := by omega
   have hf : decide ((i : Int) < (i : Int)) = false := by simp
   generalize wup L x i = st at *
   obtain ⟨out, put, ⟨xl, xh⟩⟩ := st
   simp only at *
   clear hxo
   obtain ⟨A5, c5, hve, _, _, hA5⟩ := hW.ls.shape
   rw [List.length_map] at hve
   cases put with
   | true =>
     have HE2 := Lib.hid (HE.out.trans (if_pos rfl))
     have HW := Lib.hid hW
     subst hve
     clear hW
     go_wp2_with fail
     go_ret
     rw [HE2.out]
     exact ⟨A5, c5, rfl, HW.out.ls, HW.out.since.out, fun k hk => by have := HW.out.nw k (blocks_zero (by first | exact hk | simpa using hk)); omega⟩
   | false =>
     have HE2 := Lib.hid (HE.out.trans (if_neg (by decide)))
     have HW := Lib.hid hW
     have b0 : wr.cell? ⟨w.heap.size, 0, none⟩ = some (.int .i64 xl) := hW.bx.cell 0
     have b1 : wr.cell? ⟨w.heap.size, 1, none⟩ = some (.int .i64 xh) := hW.bx.cell 1
     have lb := hW.bx.lt
     have HLL : Hid ((out.map rngRow).length = out.length) := Lib.hid (List.length_map ..)
     clear hW
     go_wp2_with (at_builtin; refine wpList_push rfl _ _ 44 rfl 101 2 16 Tryz.elRange u5 (out.map rngRow) rfl ((HW.out.later ((Since.refl wr).alloc _)).ls) wr.heap.size 1 [.int .i64 xl, .int .i64 xh] rfl rfl (rngRow_one ⟨xl, xh⟩).2 (BlockIs.fresh _ _ _) (by rw [HLL.out]; simp at hle; omega) ?_; intro q4 c4 w4 hl4 ho4 hq4 hlt4; rw [HLL.out] at hl4; (try rw [HLL.out]))
     go_ret
     have hF := (HW.out.later ((Since.refl wr).alloc _)).push (r := ⟨xl, xh⟩) hl4 ho4 hq4
     rw [HE2.out]
     have hlen : (out ++ [(⟨xl, xh⟩ : Rng)]).length = out.length + 1 := by simp
     rw [hlen]
     exact ⟨_, c4, rfl, hF.ls, hF.since.out, fun k hk => by have := hF.nw k (blocks_zero (by first | exact hk | simpa using hk)); omega⟩
  have hlt' : (i : Int) < (n : Int) := by omega
  have hiL : i < L.length := by rw [HN.out]; exact hlt
  obtain ⟨b, off, rfl, hbl, hc⟩ := H.out.rng (i := i) hiL
  obtain ⟨c0, c1⟩ := hc wr hW.since i hiL
  have lb : b < wr.heap.size := Nat.lt_of_lt_of_le hbl hW.since.le
  have hst := HS.out i hlt
  have hle2 := HLE.out (i + 1) (by omega)
  have hro := HR.out i hlt
  generalize rat L i = r at *
  rw [hst] at hle2
  clear hc hiL
  generalize wup L x i = st at *
  obtain ⟨out, put, ⟨xl, xh⟩⟩ := st
  obtain ⟨rl, rh⟩ := r
  obtain ⟨⟨p1, p2⟩, p3, p4⟩ := hxo
  obtain ⟨⟨q1, q2⟩, q3, q4⟩ := hro
  simp only at *
  have HST1 := Lib.hid hst
  clear hst
  have HW := Lib.hid hW
  have b0 : wr.cell? ⟨w.heap.size, 0, none⟩ = some (.int .i64 xl) := hW.bx.cell 0
  have b1 : wr.cell? ⟨w.heap.size, 1, none⟩ = some (.int .i64 xh) := hW.bx.cell 1
  have fb := hW.bx.free
  have lw := hW.bx.lt
  have nb : w.heap.size ≠ wr.heap.size := by omega
  have nb2 : wr.heap.size ≠ w.heap.size := by omega
  have HLL : Hid ((out.map rngRow).length = out.length) := Lib.hid (List.length_map ..)
  have hlo : out.length ≤ 1002 := by split at hle <;> omega
  clear hW
  by_cases h1 : xh + 1 < rl
  · have HST : Hid (wstep ⟨out, put, ⟨xl, xh⟩⟩ ⟨rl, rh⟩ = ⟨out ++ [⟨rl, rh⟩], put, ⟨xl, xh⟩⟩) := Lib.hid (by unfold wstep; rw [if_pos h1])
    go_wp2_with (at_builtin; refine wpList_push rfl _ _ 44 rfl 101 2 16 Tryz.elRange u5 (out.map rngRow) rfl (((HW.out.later ((Since.refl wr).alloc _)).later ((Since.refl _).alloc _)).ls) (wr.heap.size + 1) 1 [.int .i64 rl, .int .i64 rh] rfl rfl (rngRow_one ⟨rl, rh⟩).2 (BlockIs.fresh_at (by simp)) (by rw [HLL.out]; omega) ?_; intro q4 c4 w4 hl4 ho4 hq4 hlt4; rw [HLL.out] at hl4; (try rw [HLL.out]))
    have hF := (((HW.out.later ((Since.refl wr).alloc _)).later ((Since.refl _).alloc _))).push (r := ⟨rl, rh⟩) hl4 ho4 hq4
    have HF := Lib.hid hF
    clear hF hl4 ho4 hq4
    go_roundw
    case rel => exact ⟨i + 1, by go_num, by omega, by rw [HST1.out, HST.out], by rw [HST1.out, HST.out]; exact HF.out⟩
    case measure => simp [intOf]; omega
  have h1' : decide (xh + 1 < rl) = false := by simpa using h1
  by_cases h2 : rh < xl - 1
  · cases put with
    | true =>
      have HST : Hid (wstep ⟨out, true, ⟨xl, xh⟩⟩ ⟨rl, rh⟩ = ⟨out ++ [⟨rl, rh⟩], true, ⟨xl, xh⟩⟩) := Lib.hid (by unfold wstep; rw [if_neg h1, if_pos h2, if_pos rfl])
      clear h1
      go_wp2_with (at_builtin; refine wpList_push rfl _ _ 44 rfl 101 2 16 Tryz.elRange u5 (out.map rngRow) rfl (((HW.out.later ((Since.refl wr).alloc _)).later ((Since.refl _).alloc _)).ls) (wr.heap.size + 1) 1 [.int .i64 rl, .int .i64 rh] rfl rfl (rngRow_one ⟨rl, rh⟩).2 (BlockIs.fresh_at (by simp)) (by rw [HLL.out]; omega) ?_; intro q4 c4 w4 hl4 ho4 hq4 hlt4; rw [HLL.out] at hl4; (try rw [HLL.out]))
      have hF := (((HW.out.later ((Since.refl wr).alloc _)).later ((Since.refl _).alloc _))).push (r := ⟨rl, rh⟩) hl4 ho4 hq4
      have HF := Lib.hid hF
      clear hF hl4 ho4 hq4
      go_roundw
      case rel => exact ⟨i + 1, by go_num, by omega, by rw [HST1.out, HST.out], by rw [HST1.out, HST.out]; exact HF.out⟩
      case measure => simp [intOf]; omega
    | false =>
      have HST : Hid (wstep ⟨out, false, ⟨xl, xh⟩⟩ ⟨rl, rh⟩ = ⟨out ++ [⟨xl, xh⟩] ++ [⟨rl, rh⟩], true, ⟨xl, xh⟩⟩) := Lib.hid (by unfold wstep; rw [if_neg h1, if_pos h2, if_neg (by simp)])
      clear h1
      go_wp2_with (first | (at_builtin; refine wpList_push rfl _ _ 44 rfl 101 2 16 Tryz.elRange u5 (out.map rngRow) rfl (((HW.out.later ((Since.refl wr).alloc _)).later ((Since.refl _).alloc _)).ls) (wr.heap.size + 1) 1 [.int .i64 xl, .int .i64 xh] rfl rfl (rngRow_one ⟨xl, xh⟩).2 (BlockIs.fresh_at (by simp)) (by rw [HLL.out]; omega) ?_; intro q4 c4 w4 hl4 ho4 hq4 hlt4; rw [HLL.out] at hl4; (try rw [HLL.out]); have HF := Lib.hid ((((HW.out.later ((Since.refl wr).alloc _)).later ((Since.refl _).alloc _))).push (r := ⟨xl, xh⟩) hl4 ho4 hq4); have hbx := ho4.block' (g := wr.heap.size) (t := 101) (cs := #[.int .i64 rl, .int .i64 rh]) ((BlockIs.fresh _ _ _).alloc _) (fun hm => by have := HW.out.ls.lt _ hm; omega); have e0 : w4.cell? ⟨wr.heap.size, 0, none⟩ = some (.int .i64 rl) := hbx.cell 0; have e1 : w4.cell? ⟨wr.heap.size, 1, none⟩ = some (.int .i64 rh) := hbx.cell 1; have le := hbx.lt; clear hl4 ho4 hq4 hbx b0 b1) | (at_builtin; refine wpList_push rfl _ _ 44 rfl 101 2 16 Tryz.elRange (.slice (some ⟨q4, 0, none⟩) (out.length + 1) c4) ((out ++ [(⟨xl, xh⟩ : Rng)]).map rngRow) rfl ((HF.out.later ((Since.refl w4).alloc _)).ls) w4.heap.size 1 [.int .i64 rl, .int .i64 rh] rfl rfl (rngRow_one ⟨rl, rh⟩).2 (BlockIs.fresh _ _ _) (by simp; omega) ?_; intro q6 c6 w6 hl6 ho6 hq6 hlt6; rw [List.length_map, List.length_append, List.length_singleton] at hl6; (try rw [List.length_map, List.length_append, List.length_singleton]); have HF2 := Lib.hid ((HF.out.later ((Since.refl w4).alloc _)).push (r := ⟨rl, rh⟩) hl6 ho6 hq6); clear hl6 ho6 hq6))
      go_roundw
      case rel => exact ⟨i + 1, by go_num, by omega, by rw [HST1.out, HST.out], by rw [HST1.out, HST.out]; exact HF2.out⟩
      case measure => simp [intOf]; omega
  have h2' : decide (rh < xl - 1) = false := by simpa using h2
  have HST : Hid (wstep ⟨out, put, ⟨xl, xh⟩⟩ ⟨rl, rh⟩ = ⟨out, put, ⟨if rl < xl then rl else xl, if xh < rh then rh else xh⟩⟩) := Lib.hid (by unfold wstep; rw [if_neg h1, if_neg h2])
  clear h1 h2
  by_cases h3 : rl < xl
  · have HW3 := Lib.hid (HW.out.put.1 rl)
    by_cases h4 : xh < rh
    · go_wp2_with fail
      go_roundw
      case rel => exact ⟨i + 1, by go_num, by omega, by rw [HST1.out, HST.out], by rw [HST1.out, HST.out, if_pos h3, if_pos h4]; exact (HW3.out.put.2 rh).later ((Since.refl _).alloc _)⟩
      case measure => simp [intOf]; omega
    · have h4' : decide (xh < rh) = false := by simpa using h4
      go_wp2_with fail
      go_roundw
      case rel => exact ⟨i + 1, by go_num, by omega, by rw [HST1.out, HST.out], by rw [HST1.out, HST.out, if_pos h3, if_neg h4]; exact HW3.out.later ((Since.refl _).alloc _)⟩
      case measure => simp [intOf]; omega
  · have h3' : decide (rl < xl) = false := by simpa using h3
    have HW3 := HW
    by_cases h4 : xh < rh
    · go_wp2_with fail
      go_roundw
      case rel => exact ⟨i + 1, by go_num, by omega, by rw [HST1.out, HST.out], by rw [HST1.out, HST.out, if_neg h3, if_pos h4]; exact (HW3.out.put.2 rh).later ((Since.refl _).alloc _)⟩
      case measure => simp [intOf]; omega
    · have h4' : decide (xh < rh) = false := by simpa using h4
      go_wp2_with fail
      go_roundw
      case rel => exact ⟨i + 1, by go_num, by omega, by rw [HST1.out, HST.out], by rw [HST1.out, HST.out, if_neg h3, if_neg h4]; exact HW3.out.later ((Since.refl _).alloc _)⟩
      case measure => simp [intOf]; omega
def tolCells (T : List Bool) : Array Value := (T.map Value.bool).toArray
theorem tolCells_put {T : List Bool} {i : Nat} (b : Bool) : (tolCells T).setIfInBounds i (.bool b) = tolCells (T.set i b) := by
 unfold tolCells
 rw [List.setIfInBounds_toArray, ← List.map_set]
theorem tol_put {w : World} {gt : Nat} {T : List Bool} {a q : Nat} (h : BlockIs w gt 42 (tolCells (tellN T a q))) : BlockIs (w.setCell ⟨gt, a + q, none⟩ (.bool true)) gt 42 (tolCells (tellN T a (q + 1))) := by
 have h1 := h.put (a + q) (.bool true)
 rw [tolCells_put] at h1
 exact h1
theorem BlockIs.putsAt {w : World} {g : Nat} {t : TypeId} {cs : Array Value} (h : BlockIs w g t cs) {o : Nat} {vs : List Value} (hl : o + vs.length ≤ cs.size) : BlockIs (w.setCells g o vs) g t (cs.toList.take o ++ vs ++ cs.toList.drop (o + vs.length)).toArray := by
 have := setCells_heap g vs o w t cs (0, 0) h hl
 unfold BlockIs
 exact this
theorem enCells_allTold {s : EnS} (mv cv : Value) (gi gl : Nat) (h : s.told.length = 60) {T : List Bool} (hT : T.length = 60) : ((enCells s mv cv gi gl).toArray.toList.take 1 ++ T.map Value.bool ++ (enCells s mv cv gi gl).toArray.toList.drop (1 + (T.map Value.bool).length)).toArray = (enCells { s with told := T } mv cv gi gl).toArray := by
 unfold enCells
 have e1 : 1 + (T.map Value.bool).length = (s.told.map Value.bool).length + 1 := by rw [List.length_map, List.length_map, h, hT]
 rw [e1]
 simp
theorem told_range {w : World} {S : List Nat} {g : Nat} {s : EnS} {p : EnP} (h : RnIn w S g s p) : w.rangeAt g 1 (s.told.map Value.bool) := fun j v hv => by
 rw [List.getElem?_map] at hv
 have hj : j < s.told.length := by
  rcases Nat.lt_or_ge j s.told.length with hh | hh
  · exact hh
  · rw [List.getElem?_eq_none hh] at hv; cases hv
 rw [List.getElem?_eq_getElem hj] at hv
 simp only [Option.map_some, Option.some.injEq] at hv
 have := h.ct (i := j) (by have := h.ok.tl; omega)
 rw [this, ← hv]
 unfold tat
 simp [List.getD, List.getElem?_eq_getElem hj]
theorem open_may {b : List UInt8} {next : Int} (h : openE b next = 0) : MayBe (openN b next) := by
 unfold openN
 rw [if_pos h]
 unfold openE at h
 split at h
 · split at h
   · cases h
   · split at h
     · rename_i hh
       have := wholeN_cut _ _ _ hh.2.2.2.2
       exact ⟨this.2.1, this.2.2⟩
     · cases h
 · cases h
theorem take1_data (s : EnS) (f : Frm) : (s.take1 f).data = s.data := by
 unfold EnS.take1
 repeat' split
 all_goals rfl
theorem takes_data (L : List Frm) : ∀ s : EnS, (s.takes L).2.data = s.data := by
 induction L with
 | nil => intro s; rfl
 | cons f r ih =>
   intro s
   rw [EnS.takes]
   split
   · rw [ih, take1_data]
   · exact take1_data s f
theorem enCells_new {s si : EnS} (mv cv cv' : Value) (gi gl : Nat) (h : s.told.length = 60) (hT : si.told.length = 60) (hd : si.data = s.data) {cn : List Rng} :
  ((((((enCells s mv cv gi gl).toArray.toList.take 1 ++ si.told.map Value.bool ++ (enCells s mv cv gi gl).toArray.toList.drop (1 + (si.told.map Value.bool).length)).toArray).setIfInBounds 61 (.int .i64 si.may)).setIfInBounds 63 (.int .i64 si.known)).setIfInBounds 64 cv') = (enCells { si with came := cn } mv cv' gi gl).toArray := by
 rw [enCells_allTold mv cv gi gl h hT, enCells_61 (s := { s with told := si.told }) mv cv gi gl hT, enCells_63 (s := { s with told := si.told, may := si.may }) mv cv gi gl hT, enCells_64 (s := { s with told := si.told, may := si.may, known := si.known }) mv cv gi gl hT]
 unfold enCells
 simp only [hd]
structure TkW (w2 wx : World) (gt gs gc : Nat) (s : EnS) : Prop where
 bt : BlockIs wx gt 42 (tolCells s.told)
 bs : BlockIs wx gs 114 (refCells s.M s.t)
 bc : BlockIs wx gc 88 (credCells s.W s.L s.C s.R)
 since : Since w2 wx
theorem TkW.later {w2 wx w' : World} {gt gs gc : Nat} {s : EnS} (h : TkW w2 wx gt gs gc s) (hb : Below wx.heap.size wx w') : TkW w2 w' gt gs gc s := ⟨h.bt.later hb, h.bs.later hb, h.bc.later hb, h.since.later hb⟩
theorem TkW.ne {w2 wx : World} {gt gs gc : Nat} {s : EnS} (h : TkW w2 wx gt gs gc s) : gt ≠ gs ∧ gt ≠ gc ∧ gs ≠ gc := ⟨block_ne h.bt h.bs (by decide), block_ne h.bt h.bc (by decide), block_ne h.bs h.bc (by decide)⟩
theorem TkW.told {w2 w4 wx : World} {gt gs gc : Nat} {s : EnS} {T : List Bool} (h : TkW w2 w4 gt gs gc s) (hg : w2.heap.size ≤ gt) (hb : BlockIs wx gt 42 (tolCells T)) (ho : Out w4 wx [gt]) : TkW w2 wx gt gs gc { s with told := T } := by
 obtain ⟨n1, n2, n3⟩ := h.ne
 exact ⟨hb, ho.block' h.bs (by simp; omega), ho.block' h.bc (by simp; omega), h.since.out' ho (fun k hk => by rw [List.mem_singleton.1 hk]; exact hg)⟩
theorem TkW.cred {w2 w4 wx : World} {gt gs gc : Nat} {s : EnS} {C : Int} (h : TkW w2 w4 gt gs gc s) (hg : w2.heap.size ≤ gc) (hb : BlockIs wx gc 88 (credCells s.W s.L C s.R)) (ho : Out w4 wx [gc]) : TkW w2 wx gt gs gc { s with C := C } := by
 obtain ⟨n1, n2, n3⟩ := h.ne
 exact ⟨ho.block' h.bt (by simp; omega), ho.block' h.bs (by simp; omega), hb, h.since.out' ho (fun k hk => by rw [List.mem_singleton.1 hk]; exact hg)⟩
theorem TkW.strm {w2 w4 wx : World} {gt gs gc : Nat} {s : EnS} {M : Plc} (h : TkW w2 w4 gt gs gc s) (hg : w2.heap.size ≤ gs) (hb : BlockIs wx gs 114 (refCells M s.t)) (ho : Out w4 wx [gs]) : TkW w2 wx gt gs gc { s with M := M } := by
 obtain ⟨n1, n2, n3⟩ := h.ne
 exact ⟨ho.block' h.bt (by simp; omega), hb, ho.block' h.bc (by simp; omega), h.since.out' ho (fun k hk => by rw [List.mem_singleton.1 hk]; exact hg)⟩
theorem TkW.as {w2 wx : World} {gt gs gc : Nat} {s s' : EnS} (h : TkW w2 wx gt gs gc s) (e1 : s'.told = s.told) (e2 : s'.M = s.M) (e3 : s'.t = s.t) (e4 : s'.W = s.W) (e5 : s'.L = s.L) (e6 : s'.C = s.C) (e7 : s'.R = s.R) : TkW w2 wx gt gs gc s' := ⟨by rw [e1]; exact h.bt, by rw [e2, e3]; exact h.bs, by rw [e4, e5, e6, e7]; exact h.bc, h.since⟩
theorem made_succ {M : List (List Pc)} {T : List Bool} {lo m : Nat} (h1 : lo ≤ m) (h2 : m < M.length) : tellPcs T (((M.take (m + 1)).drop lo).flatten) = tellPcs (tellPcs T (((M.take m).drop lo).flatten)) M[m] := by
 rw [List.take_succ_eq_append_getElem h2, List.drop_append_of_le_length (by rw [List.length_take]; omega), List.flatten_append]
 unfold tellPcs
 rw [List.foldl_append]
 simp
theorem still_load_mid {P : Program} {ops : Array Oper} {w : World} {Q : Act → Prop} {rest : List Oper} {op : Oper} {a : Act} (hgd : op.guard = none) (ty : TypeId) (x : Operand) (ho : op.op = .load ty x)
  (b o : Nat) (hx : a.eval x = .pointer (some ⟨b, o, none⟩)) (cs : List Value) (d : TypeDesc) (hc : w.rangeAt b o cs)
  (hu : P.underlying ty = some d) (hd : d.isRow = true) (hi : (P.info? ty).map (·.size) = some cs.length)
  (h : wpStill P ops w Q rest (a.put op.dst (.agg cs.toArray))) : wpStill P ops w Q (op :: rest) a := by
 have hw : Region.wanted op (yielded ops a.tmps) = true := by simp [Region.wanted, hgd]
 rw [wpStill, if_pos hw]
 unfold Oper.still execOp
 simp only [ho, hx, Instr.loadAt, Instr.sureAddr, Sem.run_bind, Sem.run_pure, Result.andThen_ok, run_loadVar_mid w b o ty cs d hc hu hd hi]
 exact ⟨rfl, h⟩
theorem Own.grow' {w0 w w' : World} {S0 : List Nat} {L : List Thing} (h : Own w0 S0 w L) (i : Nat) {E size : Nat} {v v' : Value} {es es' : List (List Value)} (hi : L[i]? = some (Thing.lst E size v es)) (hb : Below w.heap.size w w') (hl : Lst w' E size v' es') (hk : ∀ k, k ∈ blocks v' → w.heap.size ≤ k) : Own w0 S0 w' (L.set i (Thing.lst E size v' es')) := by
 obtain ⟨S, ⟨h1, rfl⟩, up⟩ := h.at_ i hi
 exact up _ _ ⟨blocks v', ⟨hl, rfl⟩, Out.of_below hb _, fun k hk' => Or.inr (hk k hk')⟩
theorem blocks_zero'' {A : Option Addr} {n c k : Nat} (h : k ∈ blocks (.slice A n c)) : k ∈ blocks (.slice A 0 0) := by cases A <;> exact h
theorem cell_ex {w : World} {g : Nat} {t : TypeId} {cs : Array Value} (h : BlockIs w g t cs) {k : Nat} (hk : k < cs.size) : ∃ v, w.cell? ⟨g, k, none⟩ = some v := ⟨cs[k], by rw [h.cell k, Array.getElem?_eq_getElem hk]⟩
end Go.Proofs.YtmfbaijbigodkaaGreatDoor
namespace Go.Proofs.YtmfbaijbigodkaaGreatDoor.NTk
open Go.ChangeShapes Go.WideShapes Go.ChangeAt Go.RowKit
set_option linter.unusedVariables false
def growRow (u : Nat → Value) : Nat → Nat → List Value
 | _, 0 => []
 | k, n + 1 => u k :: growRow u (k + 1) n
theorem growRow_congr {u v : Nat → Value} : ∀ (n k : Nat), (∀ i, k ≤ i → u i = v i) → growRow u k n = growRow v k n
 | 0, _, _ => rfl
 | n + 1, k, h => by
   rw [growRow, growRow, h k (Nat.le_refl k), growRow_congr n (k + 1) (fun i hi => h i (by omega))]
theorem growRow_any : ∀ (n k : Nat) (U : List Value), U.length = n → ∃ u : Nat → Value, U = growRow u k n
 | 0, k, U, h => ⟨fun _ => .nilIface, by rw [List.length_eq_zero_iff.1 h]; rfl⟩
 | n + 1, k, [], h => by simp at h
 | n + 1, k, x :: r, h => by
   obtain ⟨u, hu⟩ := growRow_any n (k + 1) r (by simpa using h)
   refine ⟨fun i => if i = k then x else u i, ?_⟩
   rw [growRow, if_pos rfl, hu]
   congr 1
   exact growRow_congr n (k + 1) (fun i hi => by rw [if_neg (by omega)])
theorem growTail {U : List Value} (h : U.length = 242) : ∃ u : Nat → Value, U = [u 24, u 25, u 26, u 27, u 28, u 29, u 30, u 31, u 32, u 33, u 34, u 35, u 36, u 37, u 38, u 39, u 40, u 41, u 42, u 43, u 44, u 45, u 46, u 47, u 48, u 49, u 50, u 51, u 52, u 53, u 54, u 55, u 56, u 57, u 58, u 59, u 60, u 61, u 62, u 63, u 64, u 65, u 66, u 67, u 68, u 69, u 70, u 71, u 72, u 73, u 74, u 75, u 76, u 77, u 78, u 79, u 80, u 81, u 82, u 83, u 84, u 85, u 86, u 87, u 88, u 89, u 90, u 91, u 92, u 93, u 94, u 95, u 96, u 97, u 98, u 99, u 100, u 101, u 102, u 103, u 104, u 105, u 106, u 107, u 108, u 109, u 110, u 111, u 112, u 113, u 114, u 115, u 116, u 117, u 118, u 119, u 120, u 121, u 122, u 123, u 124, u 125, u 126, u 127, u 128, u 129, u 130, u 131, u 132, u 133, u 134, u 135, u 136, u 137, u 138, u 139, u 140, u 141, u 142, u 143, u 144, u 145, u 146, u 147, u 148, u 149, u 150, u 151, u 152, u 153, u 154, u 155, u 156, u 157, u 158, u 159, u 160, u 161, u 162, u 163, u 164, u 165, u 166, u 167, u 168, u 169, u 170, u 171, u 172, u 173, u 174, u 175, u 176, u 177, u 178, u 179, u 180, u 181, u 182, u 183, u 184, u 185, u 186, u 187, u 188, u 189, u 190, u 191, u 192, u 193, u 194, u 195, u 196, u 197, u 198, u 199, u 200, u 201, u 202, u 203, u 204, u 205, u 206, u 207, u 208, u 209, u 210, u 211, u 212, u 213, u 214, u 215, u 216, u 217, u 218, u 219, u 220, u 221, u 222, u 223, u 224, u 225, u 226, u 227, u 228, u 229, u 230, u 231, u 232, u 233, u 234, u 235, u 236, u 237, u 238, u 239, u 240, u 241, u 242, u 243, u 244, u 245, u 246, u 247, u 248, u 249, u 250, u 251, u 252, u 253, u 254, u 255, u 256, u 257, u 258, u 259, u 260, u 261, u 262, u 263, u 264, u 265] := by
 obtain ⟨u, hu⟩ := growRow_any 242 24 U h
 exact ⟨u, hu.trans (by kernel_rfl)⟩
def NX (g : Nat) (b : ByteArray) (nx : Int) (wv : World) (a : Act) (wx : World) : Prop := wv = wx ∧
 ∃ (t2 t3 t4 t6 t7 t8 t9 t10 t11 t12 t13 t14 t15 t16 t17 t18 t19 t20 t21 t22 t23 : Value) (U : List Value), U.length = 242 ∧ a = ⟨((.pointer (some ⟨g, 0, none⟩)) :: (.string b) :: t2 :: t3 :: t4 :: (.int .i64 nx) :: t6 :: t7 :: t8 :: t9 :: t10 :: t11 :: t12 :: t13 :: t14 :: t15 :: t16 :: t17 :: t18 :: t19 :: t20 :: t21 :: t22 :: t23 :: U).toArray, []⟩
def LI (g : Nat) (b : ByteArray) (n : Int) (Al : Option Addr) (nl cl gt gs gc : Nat) (s : EnS) (L : List Frm) (w2 : World) (a : Act) (wx : World) : Prop := ∃ (i : Nat) (si : EnS), (i ≤ nl ∧ s.takes (L.take i) = (0, si) ∧ TkW w2 wx gt gs gc si) ∧
 ∃ (t2 t3 t4 t5 t8 t9 t16 t17 t18 t19 t20 t21 t22 t23 : Value) (U : List Value), U.length = 242 ∧ a = ⟨((.pointer (some ⟨g, 0, none⟩)) :: (.string b) :: t2 :: t3 :: t4 :: t5 :: (.int .i64 n) :: (.slice Al nl cl) :: t8 :: t9 :: (.pointer (some ⟨gt, 0, none⟩)) :: (.int .i64 si.may) :: (.int .i64 si.known) :: (.pointer (some ⟨gs, 0, none⟩)) :: (.pointer (some ⟨gc, 0, none⟩)) :: (.int .i64 i) :: t16 :: t17 :: t18 :: t19 :: t20 :: t21 :: t22 :: t23 :: U).toArray, []⟩
def LM (nl : Nat) (a : Act) (wx : World) : Nat := nl - (intOf (a.tmps.toList.getD 15 undef)).toNat
def SC (g : Nat) (b : ByteArray) (n : Int) (Al : Option Addr) (nl cl gt gs gc : Nat) (E : Int) (s1 : EnS) (i : Nat) (w2 : World) (a : Act) (wx : World) : Prop := (E = 0 ∧ TkW w2 wx gt gs gc s1) ∧
 ∃ (t2 t3 t4 t5 t8 t9 t16 t17 t18 t19 t20 t21 t22 t23 : Value) (U : List Value), U.length = 242 ∧ a = ⟨((.pointer (some ⟨g, 0, none⟩)) :: (.string b) :: t2 :: t3 :: t4 :: t5 :: (.int .i64 n) :: (.slice Al nl cl) :: t8 :: t9 :: (.pointer (some ⟨gt, 0, none⟩)) :: (.int .i64 s1.may) :: (.int .i64 s1.known) :: (.pointer (some ⟨gs, 0, none⟩)) :: (.pointer (some ⟨gc, 0, none⟩)) :: (.int .i64 i) :: t16 :: t17 :: t18 :: t19 :: t20 :: t21 :: t22 :: t23 :: U).toArray, []⟩
def S3 (g : Nat) (b : ByteArray) (n : Int) (Al : Option Addr) (nl cl gt gs gc : Nat) (s0 s1 : EnS) (i : Nat) (ev : Int) (w2 : World) (a : Act) (wx : World) : Prop := TkW w2 wx gt gs gc s1 ∧
 ∃ (t2 t3 t4 t5 t8 t9 t16 t17 t18 t19 t20 t21 t23 : Value) (U : List Value), U.length = 242 ∧ a = ⟨((.pointer (some ⟨g, 0, none⟩)) :: (.string b) :: t2 :: t3 :: t4 :: t5 :: (.int .i64 n) :: (.slice Al nl cl) :: t8 :: t9 :: (.pointer (some ⟨gt, 0, none⟩)) :: (.int .i64 s0.may) :: (.int .i64 s0.known) :: (.pointer (some ⟨gs, 0, none⟩)) :: (.pointer (some ⟨gc, 0, none⟩)) :: (.int .i64 i) :: t16 :: t17 :: t18 :: t19 :: t20 :: t21 :: (.int .i64 ev) :: t23 :: U).toArray, []⟩
def LK (g : Nat) (b : ByteArray) (n : Int) (Al : Option Addr) (nl cl gt gs gc : Nat) (my : Int) (i : Nat) (Ar : Option Addr) (nr cr : Nat) (kn : Int) (M : List (List Pc)) (T : List Bool) (R : List Rng) (w4 : World) (a : Act) (wx : World) : Prop := ∃ k : Nat, (k ≤ nr ∧ BlockIs wx gt 42 (tolCells (tellRs M T (R.take k))) ∧ Out w4 wx [gt]) ∧
 ∃ (t2 t3 t4 t5 t8 t9 t18 t19 t20 t21 t22 t23 : Value) (U : List Value), U.length = 242 ∧ a = ⟨((.pointer (some ⟨g, 0, none⟩)) :: (.string b) :: t2 :: t3 :: t4 :: t5 :: (.int .i64 n) :: (.slice Al nl cl) :: t8 :: t9 :: (.pointer (some ⟨gt, 0, none⟩)) :: (.int .i64 my) :: (.int .i64 kn) :: (.pointer (some ⟨gs, 0, none⟩)) :: (.pointer (some ⟨gc, 0, none⟩)) :: (.int .i64 i) :: (.slice Ar nr cr) :: (.int .i64 k) :: t18 :: t19 :: t20 :: t21 :: t22 :: t23 :: U).toArray, []⟩
def LKM (nr : Nat) (a : Act) (wx : World) : Nat := nr - (intOf (a.tmps.toList.getD 17 undef)).toNat
def LQ (g : Nat) (b : ByteArray) (n : Int) (Al : Option Addr) (nl cl gt gs gc : Nat) (my : Int) (i : Nat) (Ar : Option Addr) (nr cr : Nat) (kn : Int) (k : Nat) (M : List (List Pc)) (T : List Bool) (lo hi : Nat) (w4 : World) (a : Act) (wx : World) : Prop := ∃ m : Nat, (lo ≤ m ∧ m ≤ hi + 1 ∧ BlockIs wx gt 42 (tolCells (tellPcs T (((M.take m).drop lo).flatten))) ∧ Out w4 wx [gt]) ∧
 ∃ (t2 t3 t4 t5 t8 t9 t19 t20 t21 t22 t23 : Value) (U : List Value), U.length = 242 ∧ a = ⟨((.pointer (some ⟨g, 0, none⟩)) :: (.string b) :: t2 :: t3 :: t4 :: t5 :: (.int .i64 n) :: (.slice Al nl cl) :: t8 :: t9 :: (.pointer (some ⟨gt, 0, none⟩)) :: (.int .i64 my) :: (.int .i64 kn) :: (.pointer (some ⟨gs, 0, none⟩)) :: (.pointer (some ⟨gc, 0, none⟩)) :: (.int .i64 i) :: (.slice Ar nr cr) :: (.int .i64 k) :: (.int .i64 m) :: t19 :: t20 :: t21 :: t22 :: t23 :: U).toArray, []⟩
def LQM (hi : Nat) (a : Act) (wx : World) : Nat := hi + 1 - (intOf (a.tmps.toList.getD 18 undef)).toNat
def LJ (g : Nat) (b : ByteArray) (n : Int) (Al : Option Addr) (nl cl gt gs gc : Nat) (my : Int) (i : Nat) (Ar : Option Addr) (nr cr : Nat) (kn : Int) (k m : Nat) (T : List Bool) (P : List Pc) (w4 : World) (a : Act) (wx : World) : Prop := ∃ j : Nat, (j ≤ P.length ∧ BlockIs wx gt 42 (tolCells (tellPcs T (P.take j))) ∧ Out w4 wx [gt]) ∧
 ∃ (t2 t3 t4 t5 t8 t9 t20 t21 t22 t23 : Value) (U : List Value), U.length = 242 ∧ a = ⟨((.pointer (some ⟨g, 0, none⟩)) :: (.string b) :: t2 :: t3 :: t4 :: t5 :: (.int .i64 n) :: (.slice Al nl cl) :: t8 :: t9 :: (.pointer (some ⟨gt, 0, none⟩)) :: (.int .i64 my) :: (.int .i64 kn) :: (.pointer (some ⟨gs, 0, none⟩)) :: (.pointer (some ⟨gc, 0, none⟩)) :: (.int .i64 i) :: (.slice Ar nr cr) :: (.int .i64 k) :: (.int .i64 m) :: (.int .i64 j) :: t20 :: t21 :: t22 :: t23 :: U).toArray, []⟩
def LJM (np : Nat) (a : Act) (wx : World) : Nat := np - (intOf (a.tmps.toList.getD 19 undef)).toNat
def LB (g : Nat) (b : ByteArray) (n : Int) (Al : Option Addr) (nl cl gt gs gc : Nat) (my : Int) (i : Nat) (Ar : Option Addr) (nr cr : Nat) (kn : Int) (k m j gp : Nat) (T : List Bool) (at_ : Nat) (d : ByteArray) (w4 : World) (a : Act) (wx : World) : Prop := ∃ q : Nat, (q ≤ d.size ∧ BlockIs wx gt 42 (tolCells (tellN T at_ q)) ∧ BlockIs wx gp 98 #[.int .i64 at_, .string d] ∧ Out w4 wx [gt]) ∧
 ∃ (t2 t3 t4 t5 t8 t9 t22 t23 : Value) (U : List Value), U.length = 242 ∧ a = ⟨((.pointer (some ⟨g, 0, none⟩)) :: (.string b) :: t2 :: t3 :: t4 :: t5 :: (.int .i64 n) :: (.slice Al nl cl) :: t8 :: t9 :: (.pointer (some ⟨gt, 0, none⟩)) :: (.int .i64 my) :: (.int .i64 kn) :: (.pointer (some ⟨gs, 0, none⟩)) :: (.pointer (some ⟨gc, 0, none⟩)) :: (.int .i64 i) :: (.slice Ar nr cr) :: (.int .i64 k) :: (.int .i64 m) :: (.int .i64 j) :: (.pointer (some ⟨gp, 0, none⟩)) :: (.int .i64 q) :: t22 :: t23 :: U).toArray, []⟩
def LBM (nd : Nat) (a : Act) (wx : World) : Nat := nd - (intOf (a.tmps.toList.getD 21 undef)).toNat
theorem ntake (g : Nat) (s : EnS) (b : ByteArray) (w : World) (S : List Nat) (h : (rnT g s).is w S) (h1000 : s.made.length ≤ 1000) (hz : b.size ≤ 9223372036854775000) :
  Calls Tryz.prog 18 #[.pointer (some ⟨g, 0, none⟩), .string b] w fun e w' => e = .returned (.int .i64 (s.takeE b.data.toList)) ∧ Leaves w w' S (rnT g (s.take b.data.toList)) := by
 have H0 := Lib.hid h
 obtain ⟨p, hp⟩ := rnT_open h
 have H := Lib.hid hp
 obtain ⟨l, hl⟩ : ∃ l, b.data.toList = l := ⟨_, rfl⟩
 have HPS := Lib.hid (fun (X : World) (z : Int) => ropen b z X (by omega))
 rw [hl] at HPS
 obtain ⟨RE, hRE⟩ : ∃ E, s.takeE b.data.toList = E := ⟨_, rfl⟩
 obtain ⟨RS, hRS⟩ : ∃ E, s.take b.data.toList = E := ⟨_, rfl⟩
 rw [hRE, hRS]
 rw [hl] at hRE hRS
 obtain ⟨nx, hnx⟩ : ∃ n, nextN s.came = n := ⟨_, rfl⟩
 have hE1 : Hid (openE l nx ≠ 0 → RE = openE l nx ∧ RS = s) := Lib.hid (fun h0 => ⟨by rw [← hRE]; unfold EnS.takeE; rw [hnx, if_neg h0], by rw [← hRS]; unfold EnS.take; rw [hnx, if_neg h0]⟩)
 have hE0 : Hid (openE l nx = 0 → RE = s.pktE (openN l nx) (openL l nx) ∧ RS = s.pkt (openN l nx) (openL l nx)) := Lib.hid (fun h0 => ⟨by rw [← hRE]; unfold EnS.takeE; rw [hnx, if_pos h0], by rw [← hRS]; unfold EnS.take; rw [hnx, if_pos h0]⟩)
 have HFO := Lib.hid (openL_ok l nx)
 have HFW := Lib.hid (openL_few l nx)
 have HNX := Lib.hid hnx
 have lg := hp.bg.lt
 have c64 := hp.c64
 obtain ⟨Ac, cc, hcv, -, -, -⟩ := hp.lc.shape
 rw [List.length_map] at hcv
 rw [hcv] at c64
 have HRC : Hid (Rd w 2 (.slice Ac s.came.length cc) (s.came.map rngRow)) := Lib.hid (by rw [← hcv]; exact Rd.of_lst hp.lc)
 have HCV := Lib.hid hcv
 clear h hp hl hRE hRS hnx hcv hz
 go_enter Tryz.func18, Tryz.ntmps18
 repeat ((fail_if_success (with_reducible refine stop_at 2 ?_)); first | fail | go_values | go_skip | go_guarded | go_step | go_upon | go_back | go_simp)
 refine wp_cut (NX g b nx w) ?_ ?_
 rotate_left
 next =>
  as_aux_lemma =>
   intro _ _ _ _
   by_cases h0 : s.came = []
   · have hE : Hid (nx = 0) := Lib.hid (by rw [← HNX.out]; unfold nextN; rw [if_pos h0])
     rw [h0] at c64
     clear h0
     go_wp2_with fail
     refine Met.intro ?_
     go_step
     unfold NX
     rw [hE.out]
     exact ⟨rfl, _, _, _, _, _, _, _, _, _, _, _, _, _, _, _, _, _, _, _, _, _, _, (by kernel_rfl), rfl⟩
   · have hl : 0 < s.came.length := List.length_pos_iff.2 h0
     have hr := rngE_ok H.out.ok.cm (rat s.came 0) (by rw [rat_get hl]; exact List.getElem_mem _)
     have hE : Hid (nx = min 1073741823 ((rat s.came 0).hi + 1)) := Lib.hid (by rw [← HNX.out]; unfold nextN; rw [if_neg h0])
     obtain ⟨bb, off, rfl, hlt, hcc⟩ := HRC.out.rng hl
     obtain ⟨-, e1⟩ := hcc w (Since.refl w) 0 hl
     have hb1 : (0 : Int) < (s.came.length : Int) := by omega
     have hwr : IntKind.i64.wrap ((rat s.came 0).hi + 1) = (rat s.came 0).hi + 1 := IntWalk.i64_in _ (by omega)
     rw [Nat.zero_mul, Nat.add_zero] at e1
     generalize rat s.came 0 = r at *
     obtain ⟨z, hzz⟩ : ∃ z, r.hi + 1 = z := ⟨_, rfl⟩
     by_cases hbig : 1073741823 < r.hi + 1
     · have hE2 : Hid (nx = 1073741823) := Lib.hid (by rw [hE.out]; omega)
       clear hcc h0 hr hzz
       go_wp2_with fail
       refine Met.intro ?_
       go_step
       unfold NX
       rw [hE2.out]
       exact ⟨rfl, _, _, _, _, _, _, _, _, _, _, _, _, _, _, _, _, _, _, _, _, _, _, (by kernel_rfl), rfl⟩
     · have hE2 : Hid (nx = r.hi + 1) := Lib.hid (by rw [hE.out]; omega)
       have hbig' : decide (1073741823 < r.hi + 1) = false := by simpa using hbig
       have hbig2 : r.hi + 1 ≤ 1073741823 := by omega
       clear hcc h0 hr hzz
       go_wp2_with fail
       refine Met.intro ?_
       go_step
       unfold NX
       rw [hE2.out]
       exact ⟨rfl, _, _, _, _, _, _, _, _, _, _, _, _, _, _, _, _, _, _, _, _, _, _, (by kernel_rfl), rfl⟩
 intro a' w1 hinv
 obtain ⟨rfl, t2, t3, t4, t6, t7, t8, t9, t10, t11, t12, t13, t14, t15, t16, t17, t18, t19, t20, t21, t22, t23, U, hU, rfl⟩ := hinv
 obtain ⟨u, rfl⟩ := growTail hU; clear hU
 go_wp2_with fail
 refine (HPS.out _ nx).mono ?_
 rintro e w1 ⟨Al, nl, cl, Ms, rfl, hb1, hf1, hn1, hm1⟩
 have hs1 : Since w w1 := hb1
 have HF1 := Lib.hid hf1
 have HM1 := Lib.hid hm1
 clear hf1 hm1 hb1 HPS
 by_cases hE : openE l nx = 0
 case neg =>
  have HH := Lib.hid (hE1.out hE)
  obtain ⟨ee, hee⟩ : ∃ e, openE l nx = e := ⟨_, rfl⟩
  rw [hee] at HH hE
  rw [hee]
  have hne : (ee != 0) = true := by simpa using hE
  clear hE hee
  go_wp2_with fail
  go_ret
  rw [HH.out.1, HH.out.2]
  exact ⟨rfl, Leaves.same H0.out hs1⟩
 have HH := Lib.hid (hE0.out hE)
 have HMY := Lib.hid (open_may hE)
 rw [hE]
 clear hE
 obtain ⟨n, hn⟩ : ∃ n, openN l nx = n := ⟨_, rfl⟩
 obtain ⟨L, hL⟩ : ∃ L, openL l nx = L := ⟨_, rfl⟩
 rw [hn, hL] at HH
 rw [hL] at HM1 HFO HFW
 rw [hn] at HMY
 rw [hn]
 have hn12 : nl ≤ 12 := by
  have h1 := congrArg List.length HM1.out
  rw [List.length_map, hn1] at h1
  have := HFW.out
  omega
 clear hn hL
 have c64 : w1.cell? ⟨g, 64, none⟩ = some (.slice Ac s.came.length cc) := hs1.cell lg c64
 have lg1 := Nat.lt_of_lt_of_le lg hs1.size
 have HRI := Lib.hid (rinR Ac s.came.length cc s.came n w1 rfl (HRC.out.later hs1))
 go_wp2_with fail
 refine HRI.out.mono ?_
 rintro e w2 ⟨rfl, hb2⟩
 have hs2 : Since w w2 := hs1.later hb2
 have HF2 := Lib.hid (HF1.out.later hb2)
 clear hb2 HRI
 cases hin : inB s.came n with
 | true =>
   have HR : Hid (RE = 0 ∧ RS = s) := Lib.hid ⟨by rw [HH.out.1]; unfold EnS.pktE; rw [if_pos hin], by rw [HH.out.2]; unfold EnS.pkt; rw [if_pos hin]⟩
   clear hin
   go_wp2_with fail
   go_ret
   rw [HR.out.1, HR.out.2]
   exact ⟨rfl, Leaves.same H0.out hs2⟩
 | false =>
   have HR : Hid (RE = (if (s.takes L).1 = 0 then addE s.came n else (s.takes L).1) ∧ RS = if (s.takes L).1 = 0 then (if addE s.came n = 0 then { (s.takes L).2 with came := addL s.came n } else s) else s) := Lib.hid ⟨by rw [HH.out.1]; unfold EnS.pktE; rw [if_neg (by rw [hin]; simp)], by rw [HH.out.2]; unfold EnS.pkt; rw [if_neg (by rw [hin]; simp)]⟩
   have c64w : w.cell? ⟨g, 64, none⟩ = some (.slice Ac s.came.length cc) := by rw [← HCV.out]; exact H.out.c64
   clear hin c64 lg1
   have H2 := Lib.hid (H.out.later hs2)
   have lg2 := H2.out.bg.lt
   have HT0 := Lib.hid (told_range H2.out)
   have HL0 : Hid ((s.told.map Value.bool).length = 60) := Lib.hid (by rw [List.length_map]; exact H2.out.ok.tl)
   have HTO : Hid (∀ v ∈ s.told.map Value.bool, v.oneCell' = true) := Lib.hid (fun v hv => by obtain ⟨o, _, rfl⟩ := List.mem_map.1 hv; rfl)
   have HQ0 : Hid (∀ X, Since w X → X.rangeAt p.gi 0 (refCells s.M s.t).toList) := Lib.hid (fun X hX => (H.out.later hX).qz.bl.range)
   have HQL : Hid ((refCells s.M s.t).toList.length = 61) := Lib.hid (by unfold refCells; simp [H2.out.ok.ml])
   have HQO : Hid (∀ v ∈ (refCells s.M s.t).toList, v.oneCell' = true) := Lib.hid (fun v hv => by
    unfold refCells at hv
    rcases List.mem_append.1 hv with hv | hv
    · obtain ⟨o, _, rfl⟩ := List.mem_map.1 hv; rfl
    · rw [List.mem_singleton.1 hv]; rfl)
   have HTC : Hid ((s.told.map Value.bool).toArray = tolCells s.told) := Lib.hid rfl
   have HQC : Hid ((refCells s.M s.t).toList.toArray = refCells s.M s.t) := Lib.hid (by simp)
   obtain ⟨tc, htc⟩ : ∃ x, s.told.map Value.bool = x := ⟨_, rfl⟩
   obtain ⟨qc, hqc⟩ : ∃ x, (refCells s.M s.t).toList = x := ⟨_, rfl⟩
   rw [htc] at HT0 HL0 HTO HTC
   rw [hqc] at HQ0 HQL HQO HQC
   have HIT : Hid ((Tryz.prog.info? 42).map (·.size) = some tc.length) := Lib.hid (by rw [HL0.out]; kernel_rfl)
   have HIQ : Hid ((Tryz.prog.info? 114).map (·.size) = some qc.length) := Lib.hid (by rw [HQL.out]; kernel_rfl)
   have HZT : Hid ((#[Value.bool false, Value.bool false, Value.bool false, Value.bool false, Value.bool false, Value.bool false, Value.bool false, Value.bool false, Value.bool false, Value.bool false, Value.bool false, Value.bool false, Value.bool false, Value.bool false, Value.bool false, Value.bool false, Value.bool false, Value.bool false, Value.bool false, Value.bool false, Value.bool false, Value.bool false, Value.bool false, Value.bool false, Value.bool false, Value.bool false, Value.bool false, Value.bool false, Value.bool false, Value.bool false, Value.bool false, Value.bool false, Value.bool false, Value.bool false, Value.bool false, Value.bool false, Value.bool false, Value.bool false, Value.bool false, Value.bool false, Value.bool false, Value.bool false, Value.bool false, Value.bool false, Value.bool false, Value.bool false, Value.bool false, Value.bool false, Value.bool false, Value.bool false, Value.bool false, Value.bool false, Value.bool false, Value.bool false, Value.bool false, Value.bool false, Value.bool false, Value.bool false, Value.bool false, Value.bool false] : Array Value).size = tc.length) := Lib.hid (by rw [HL0.out]; kernel_rfl)
   have HZQ : Hid ((#[Value.int IntKind.i64 0, Value.int IntKind.i64 0, Value.int IntKind.i64 0, Value.int IntKind.i64 0, Value.int IntKind.i64 0, Value.int IntKind.i64 0, Value.int IntKind.i64 0, Value.int IntKind.i64 0, Value.int IntKind.i64 0, Value.int IntKind.i64 0, Value.int IntKind.i64 0, Value.int IntKind.i64 0, Value.int IntKind.i64 0, Value.int IntKind.i64 0, Value.int IntKind.i64 0, Value.int IntKind.i64 0, Value.int IntKind.i64 0, Value.int IntKind.i64 0, Value.int IntKind.i64 0, Value.int IntKind.i64 0, Value.int IntKind.i64 0, Value.int IntKind.i64 0, Value.int IntKind.i64 0, Value.int IntKind.i64 0, Value.int IntKind.i64 0, Value.int IntKind.i64 0, Value.int IntKind.i64 0, Value.int IntKind.i64 0, Value.int IntKind.i64 0, Value.int IntKind.i64 0, Value.int IntKind.i64 0, Value.int IntKind.i64 0, Value.int IntKind.i64 0, Value.int IntKind.i64 0, Value.int IntKind.i64 0, Value.int IntKind.i64 0, Value.int IntKind.i64 0, Value.int IntKind.i64 0, Value.int IntKind.i64 0, Value.int IntKind.i64 0, Value.int IntKind.i64 0, Value.int IntKind.i64 0, Value.int IntKind.i64 0, Value.int IntKind.i64 0, Value.int IntKind.i64 0, Value.int IntKind.i64 0, Value.int IntKind.i64 0, Value.int IntKind.i64 0, Value.int IntKind.i64 0, Value.int IntKind.i64 0, Value.int IntKind.i64 0, Value.int IntKind.i64 0, Value.int IntKind.i64 0, Value.int IntKind.i64 0, Value.int IntKind.i64 0, Value.int IntKind.i64 0, Value.int IntKind.i64 0, Value.int IntKind.i64 0, Value.int IntKind.i64 0, Value.int IntKind.i64 0, Value.int IntKind.i64 0] : Array Value).size = qc.length) := Lib.hid (by rw [HQL.out]; kernel_rfl)
   have HFT := Lib.hid (fresh_puts (w := w2) (t := 42) HZT.out)
   have HTT := Lib.hid (fresh_there (w := w2) (t := 42) HZT.out)
   clear htc hqc
   go_upto_region 13 with (first | (refine wpList_load_mid rfl 42 (.tmp 59) rfl g 1 (by go_simp) tc _ HT0.out Tryz.underlying42 rfl HIT.out ?_) | (refine wpList_store_mid rfl 42 (.tmp 10) (.tmp 60) rfl w2.heap.size 0 tc.toArray (by go_simp) (by go_simp) HTT.out (by rw [HIT.out, List.size_toArray]) (all_oneCell_toArray HTO.out) ?_))
   have HB3 := Lib.hid HFT.out.1
   rw [HTC.out] at HB3
   have HS3 : Hid (Since w2 ((w2.alloc (.cells (#[Value.bool false, Value.bool false, Value.bool false, Value.bool false, Value.bool false, Value.bool false, Value.bool false, Value.bool false, Value.bool false, Value.bool false, Value.bool false, Value.bool false, Value.bool false, Value.bool false, Value.bool false, Value.bool false, Value.bool false, Value.bool false, Value.bool false, Value.bool false, Value.bool false, Value.bool false, Value.bool false, Value.bool false, Value.bool false, Value.bool false, Value.bool false, Value.bool false, Value.bool false, Value.bool false, Value.bool false, Value.bool false, Value.bool false, Value.bool false, Value.bool false, Value.bool false, Value.bool false, Value.bool false, Value.bool false, Value.bool false, Value.bool false, Value.bool false, Value.bool false, Value.bool false, Value.bool false, Value.bool false, Value.bool false, Value.bool false, Value.bool false, Value.bool false, Value.bool false, Value.bool false, Value.bool false, Value.bool false, Value.bool false, Value.bool false, Value.bool false, Value.bool false, Value.bool false, Value.bool false] : Array Value) 42)).setCells w2.heap.size 0 tc)) := Lib.hid HFT.out.2
   obtain ⟨gt, hgt⟩ : ∃ x, w2.heap.size = x := ⟨_, rfl⟩
   rw [hgt]
   rw [hgt] at HB3 HS3
   have HGT := Lib.hid hgt
   generalize ((w2.alloc (.cells (#[Value.bool false, Value.bool false, Value.bool false, Value.bool false, Value.bool false, Value.bool false, Value.bool false, Value.bool false, Value.bool false, Value.bool false, Value.bool false, Value.bool false, Value.bool false, Value.bool false, Value.bool false, Value.bool false, Value.bool false, Value.bool false, Value.bool false, Value.bool false, Value.bool false, Value.bool false, Value.bool false, Value.bool false, Value.bool false, Value.bool false, Value.bool false, Value.bool false, Value.bool false, Value.bool false, Value.bool false, Value.bool false, Value.bool false, Value.bool false, Value.bool false, Value.bool false, Value.bool false, Value.bool false, Value.bool false, Value.bool false, Value.bool false, Value.bool false, Value.bool false, Value.bool false, Value.bool false, Value.bool false, Value.bool false, Value.bool false, Value.bool false, Value.bool false, Value.bool false, Value.bool false, Value.bool false, Value.bool false, Value.bool false, Value.bool false, Value.bool false, Value.bool false, Value.bool false, Value.bool false] : Array Value) 42)).setCells gt 0 tc) = w3 at *
   clear hgt HT0 HFT HTT lg2 HTC HIT HZT HTO HL0
   have hs3 : Since w w3 := hs2.later HS3.out
   have H3 := Lib.hid (H.out.later hs3)
   have d61 := H3.out.c61
   have d63 := H3.out.c63
   have d65 := H3.out.c65
   have lg3 := H3.out.bg.lt
   have lgi := H3.out.qz.bl.lt
   have HR3 := Lib.hid (HQ0.out w3 hs3)
   have HFQ := Lib.hid (fresh_puts (w := w3) (t := 114) HZQ.out)
   have HTQ := Lib.hid (fresh_there (w := w3) (t := 114) HZQ.out)
   go_upto_region 16 with (first | (refine wpList_load_mid rfl 114 (.tmp 73) rfl p.gi 0 (by go_simp) qc _ HR3.out Tryz.underlying114 rfl HIQ.out ?_) | (refine wpList_store_mid rfl 114 (.tmp 13) (.tmp 74) rfl w3.heap.size 0 qc.toArray (by go_simp) (by go_simp) HTQ.out (by rw [HIQ.out, List.size_toArray]) (all_oneCell_toArray HQO.out) ?_))
   have HB4 := Lib.hid HFQ.out.1
   rw [HQC.out] at HB4
   have HS4 : Hid (Since w3 ((w3.alloc (.cells (#[Value.int IntKind.i64 0, Value.int IntKind.i64 0, Value.int IntKind.i64 0, Value.int IntKind.i64 0, Value.int IntKind.i64 0, Value.int IntKind.i64 0, Value.int IntKind.i64 0, Value.int IntKind.i64 0, Value.int IntKind.i64 0, Value.int IntKind.i64 0, Value.int IntKind.i64 0, Value.int IntKind.i64 0, Value.int IntKind.i64 0, Value.int IntKind.i64 0, Value.int IntKind.i64 0, Value.int IntKind.i64 0, Value.int IntKind.i64 0, Value.int IntKind.i64 0, Value.int IntKind.i64 0, Value.int IntKind.i64 0, Value.int IntKind.i64 0, Value.int IntKind.i64 0, Value.int IntKind.i64 0, Value.int IntKind.i64 0, Value.int IntKind.i64 0, Value.int IntKind.i64 0, Value.int IntKind.i64 0, Value.int IntKind.i64 0, Value.int IntKind.i64 0, Value.int IntKind.i64 0, Value.int IntKind.i64 0, Value.int IntKind.i64 0, Value.int IntKind.i64 0, Value.int IntKind.i64 0, Value.int IntKind.i64 0, Value.int IntKind.i64 0, Value.int IntKind.i64 0, Value.int IntKind.i64 0, Value.int IntKind.i64 0, Value.int IntKind.i64 0, Value.int IntKind.i64 0, Value.int IntKind.i64 0, Value.int IntKind.i64 0, Value.int IntKind.i64 0, Value.int IntKind.i64 0, Value.int IntKind.i64 0, Value.int IntKind.i64 0, Value.int IntKind.i64 0, Value.int IntKind.i64 0, Value.int IntKind.i64 0, Value.int IntKind.i64 0, Value.int IntKind.i64 0, Value.int IntKind.i64 0, Value.int IntKind.i64 0, Value.int IntKind.i64 0, Value.int IntKind.i64 0, Value.int IntKind.i64 0, Value.int IntKind.i64 0, Value.int IntKind.i64 0, Value.int IntKind.i64 0, Value.int IntKind.i64 0] : Array Value) 114)).setCells w3.heap.size 0 qc)) := Lib.hid HFQ.out.2
   obtain ⟨gs, hgs⟩ : ∃ x, w3.heap.size = x := ⟨_, rfl⟩
   rw [hgs]
   rw [hgs] at HB4 HS4
   have HGS : Hid (w2.heap.size ≤ gs) := Lib.hid (by rw [← hgs]; exact HS3.out.size)
   generalize ((w3.alloc (.cells (#[Value.int IntKind.i64 0, Value.int IntKind.i64 0, Value.int IntKind.i64 0, Value.int IntKind.i64 0, Value.int IntKind.i64 0, Value.int IntKind.i64 0, Value.int IntKind.i64 0, Value.int IntKind.i64 0, Value.int IntKind.i64 0, Value.int IntKind.i64 0, Value.int IntKind.i64 0, Value.int IntKind.i64 0, Value.int IntKind.i64 0, Value.int IntKind.i64 0, Value.int IntKind.i64 0, Value.int IntKind.i64 0, Value.int IntKind.i64 0, Value.int IntKind.i64 0, Value.int IntKind.i64 0, Value.int IntKind.i64 0, Value.int IntKind.i64 0, Value.int IntKind.i64 0, Value.int IntKind.i64 0, Value.int IntKind.i64 0, Value.int IntKind.i64 0, Value.int IntKind.i64 0, Value.int IntKind.i64 0, Value.int IntKind.i64 0, Value.int IntKind.i64 0, Value.int IntKind.i64 0, Value.int IntKind.i64 0, Value.int IntKind.i64 0, Value.int IntKind.i64 0, Value.int IntKind.i64 0, Value.int IntKind.i64 0, Value.int IntKind.i64 0, Value.int IntKind.i64 0, Value.int IntKind.i64 0, Value.int IntKind.i64 0, Value.int IntKind.i64 0, Value.int IntKind.i64 0, Value.int IntKind.i64 0, Value.int IntKind.i64 0, Value.int IntKind.i64 0, Value.int IntKind.i64 0, Value.int IntKind.i64 0, Value.int IntKind.i64 0, Value.int IntKind.i64 0, Value.int IntKind.i64 0, Value.int IntKind.i64 0, Value.int IntKind.i64 0, Value.int IntKind.i64 0, Value.int IntKind.i64 0, Value.int IntKind.i64 0, Value.int IntKind.i64 0, Value.int IntKind.i64 0, Value.int IntKind.i64 0, Value.int IntKind.i64 0, Value.int IntKind.i64 0, Value.int IntKind.i64 0, Value.int IntKind.i64 0] : Array Value) 114)).setCells gs 0 qc) = w4 at *
   clear hgs HFQ HTQ lg3 lgi HQC HIQ HZQ HQO HQL HR3 d61 d63 d65 HQ0 H3
   have hs4 : Since w w4 := hs3.later HS4.out
   have H4 := Lib.hid (H.out.later hs4)
   have d66 := H4.out.c66
   have lg4 := H4.out.bg.lt
   have lgl := H4.out.bl.lt
   have q0 : w4.cell? ⟨p.gl, 0, none⟩ = some (.int .i64 s.W) := H4.out.bl.cell 0
   have q1 : w4.cell? ⟨p.gl, 1, none⟩ = some (.int .i64 s.L) := H4.out.bl.cell 1
   have q2 : w4.cell? ⟨p.gl, 2, none⟩ = some (.int .i64 s.C) := H4.out.bl.cell 2
   have q3 : w4.cell? ⟨p.gl, 3, none⟩ = some (.int .i64 s.R) := H4.out.bl.cell 3
   go_wp2_with fail
   have HW0 : Hid (TkW w2 (w4.alloc (.cells #[.int .i64 s.W, .int .i64 s.L, .int .i64 s.C, .int .i64 s.R] 88)) gt gs w4.heap.size s) := Lib.hid (by
    have h3 : Since w2 w4 := HS3.out.later HS4.out
    exact ⟨(HB3.out.later HS4.out).alloc _, HB4.out.alloc _, BlockIs.fresh _ _ _, h3.alloc _⟩)
   have HGC : Hid (w2.heap.size ≤ w4.heap.size) := Lib.hid (Nat.le_trans HS3.out.size HS4.out.size)
   obtain ⟨w5, hw5⟩ : ∃ x, w4.alloc (.cells #[.int .i64 s.W, .int .i64 s.L, .int .i64 s.C, .int .i64 s.R] 88) = x := ⟨_, rfl⟩
   obtain ⟨gc, hgc⟩ : ∃ x, w4.heap.size = x := ⟨_, rfl⟩
   rw [hw5, hgc] at HW0
   rw [hgc] at HGC
   rw [hw5, hgc]
   clear hw5 hgc HB3 HB4 HS3 HS4 hs3 hs4 H4 d66 lg4 lgl q0 q1 q2 q3
   refine wp_loop (LI g b n Al nl cl gt gs gc s L w2) (LM nl) ?_ ?_
   next => exact ⟨0, s, ⟨by omega, by rw [List.take_zero]; rfl, HW0.out⟩, _, _, _, _, _, _, _, _, _, _, _, _, _, _, _, (by kernel_rfl), rfl⟩
   next =>
    intro a' wr hinv
    obtain ⟨i, si, ⟨hi, hz0, htk⟩, t2, t3, t4, t5, t8, t9, t16, t17, t18, t19, t20, t21, t22, t23, U, hU, rfl⟩ := hinv
    obtain ⟨u, rfl⟩ := growTail hU; clear hU
    have HTK := Lib.hid htk
    have HZ0 := Lib.hid hz0
    have hs2r : Since w2 wr := htk.since
    have hsr : Since w wr := hs2.later hs2r
    have HLl : Hid (L.length = nl) := Lib.hid (by rw [← HM1.out, List.length_map]; exact hn1)
    clear htk hz0 HW0
    by_cases hlt : i < nl
    case neg =>
     obtain rfl : i = nl := by omega
     have hlte : decide ((i : Int) < (i : Int)) = false := by simp
     have hLT : L.take i = L := by rw [← HLl.out, List.take_length]
     rw [hLT] at HZ0
     have HR2 : Hid (RE = addE s.came n ∧ RS = if addE s.came n = 0 then { si with came := addL s.came n } else s) := Lib.hid ⟨by rw [HR.out.1, HZ0.out, if_pos rfl], by rw [HR.out.2, HZ0.out, if_pos rfl]⟩
     have hb30 := rngE_ok H.out.ok.cm
     have HC12 := rngE_len H.out.ok.cm
     have HAE : Hid (addE s.came n = if 12 < (withL s.came ⟨n, n⟩).length then 4 else 0) := Lib.hid (by unfold addE; rw [if_pos H.out.ok.cm, if_pos (mayB_iff.2 HMY.out)])
     have hsi := H.out.ok.takes (L := L) HFO.out
     have HSD := takes_data L s
     have HSM := takes_made L s
     rw [HZ0.out] at hsi HSD HSM
     have HSI := Lib.hid hsi
     have HSD2 : Hid (si.data = s.data) := Lib.hid HSD
     have HSM2 : Hid (si.made = s.made) := Lib.hid HSM
     have HWI := Lib.hid (rwith Ac s.came.length cc s.came ⟨n, n⟩ wr rfl hb30 ⟨HMY.out, HMY.out⟩ (by omega) (HRC.out.later hsr))
     have d64 : wr.cell? ⟨g, 64, none⟩ = some (.slice Ac s.came.length cc) := hsr.cell lg c64w
     have lgr := Nat.lt_of_lt_of_le lg hsr.size
     clear hLT hb30 HC12 hsi HSD HSM hlt HZ0
     go_wp2_with fail
     refine HWI.out.mono ?_
     rintro e w9 ⟨A5, c5, rfl, hl5, hb5, hk5⟩
     have hs9 : Since w w9 := hsr.later hb5
     have HO9 := Lib.hid ((H.out.own.later hsr).grow' 4 rfl hb5 hl5 (fun k hk => hk5 k (blocks_zero'' hk)))
     have HTK9 := Lib.hid (HTK.out.later hb5)
     clear hl5 hb5 hk5 HWI d64 lgr
     obtain ⟨cn, hcn⟩ : ∃ x, withL s.came ⟨n, n⟩ = x := ⟨_, rfl⟩
     have HCN := Lib.hid hcn
     rw [hcn] at HAE HO9
     rw [hcn]
     obtain ⟨nw, hnw⟩ : ∃ x, cn.length = x := ⟨_, rfl⟩
     rw [hnw] at HAE HO9
     rw [hnw]
     clear hcn hnw
     by_cases h12 : 12 < nw
     · have h12' : (12 : Int) < (nw : Int) := by omega
       have HH2 : Hid (RE = 4 ∧ RS = s) := Lib.hid ⟨by rw [HR2.out.1, HAE.out, if_pos h12], by rw [HR2.out.2, HAE.out, if_pos h12, if_neg (by decide)]⟩
       go_wp2_with fail
       go_ret
       rw [HH2.out.1, HH2.out.2]
       exact ⟨rfl, Leaves.same H0.out hs9⟩
     have h12' : decide ((12 : Int) < (nw : Int)) = false := by simp; omega
     have hA0 : addE s.came n = 0 := by rw [HAE.out, if_neg h12]
     have HH2 : Hid (RE = 0 ∧ RS = { si with came := cn }) := Lib.hid ⟨by rw [HR2.out.1, hA0], by rw [HR2.out.2, if_pos hA0]; unfold addL; rw [if_pos hA0, HCN.out]⟩
     have HCO : Hid (rngE cn = 0) := Lib.hid (by have h9 := addL_ok H.out.ok.cm hA0; rw [h9.2.1, HCN.out] at h9; exact h9.1)
     have HTR : Hid (w9.rangeAt gt 0 (si.told.map Value.bool)) := Lib.hid (by have := HTK9.out.bt.range; unfold tolCells at this; simpa using this)
     have HTL : Hid ((si.told.map Value.bool).length = 60) := Lib.hid (by rw [List.length_map]; exact HSI.out.tl)
     have HTO : Hid (∀ v ∈ si.told.map Value.bool, v.oneCell' = true) := Lib.hid (fun v hv => by obtain ⟨o, _, rfl⟩ := List.mem_map.1 hv; rfl)
     have HPA : Hid (∀ vs : List Value, vs.length = 60 → BlockIs (w9.setCells g 1 vs) g 48 ((enCells s p.mv p.cv p.gi p.gl).toArray.toList.take 1 ++ vs ++ (enCells s p.mv p.cv p.gi p.gl).toArray.toList.drop (1 + vs.length)).toArray ∧ w9.there g 1 60) := Lib.hid (fun vs hvs => by
      have hb := HO9.out.blk 0 rfl
      have hl67 : (enCells s p.mv p.cv p.gi p.gl).toArray.size = 67 := by rw [List.size_toArray]; exact enCells_len _ _ _ _ H.out.ok.tl
      refine ⟨hb.putsAt (by rw [hl67, hvs]; decide), fun j hj => ?_⟩
      have := hb.there (1 + j) (by rw [hl67]; omega)
      rw [Nat.zero_add] at this
      exact this)
     obtain ⟨tc, htc⟩ : ∃ x, si.told.map Value.bool = x := ⟨_, rfl⟩
     rw [htc] at HTR HTL HTO
     have HTC := Lib.hid htc
     have HIT : Hid ((Tryz.prog.info? 42).map (·.size) = some tc.length) := Lib.hid (by rw [HTL.out]; kernel_rfl)
     have HTH : Hid (w9.there g 1 tc.toArray.size) := Lib.hid (by rw [List.size_toArray, HTL.out]; exact (HPA.out tc HTL.out).2)
     have lg9 := Nat.lt_of_lt_of_le lg hs9.size
     have lgt9 := HTK9.out.bt.lt
     have HPB := Lib.hid (HPA.out tc HTL.out).1
     clear htc hA0 h12
     go_upto_region 54 with fail
     go_upto_region 55 with (first | (refine wpList_load_mid rfl 42 (.tmp 10) rfl gt 0 (by go_simp) tc _ HTR.out Tryz.underlying42 rfl HIT.out ?_) | (refine wpList_store_mid rfl 42 (.tmp 241) (.tmp 239) rfl g 1 tc.toArray (by go_simp) (by go_simp) HTH.out (by rw [HIT.out, List.size_toArray]) (all_oneCell_toArray HTO.out) ?_))
     have HOU : Hid (Out w9 (w9.setCells g 1 tc) [g]) := Lib.hid ((Out.refl w9 [g]).setCells (Or.inl (by simp)) tc 1)
     obtain ⟨w10, hw10⟩ : ∃ x, w9.setCells g 1 tc = x := ⟨_, rfl⟩
     rw [hw10] at HPB HOU
     rw [hw10]
     have hz67 : ((enCells s p.mv p.cv p.gi p.gl).toArray.toList.take 1 ++ tc ++ (enCells s p.mv p.cv p.gi p.gl).toArray.toList.drop (1 + tc.length)).toArray.size = 67 := by simp [enCells_len _ _ _ _ H.out.ok.tl, HTL.out]
     have fz10 := HPB.out.free
     have lg10 := HPB.out.lt
     obtain ⟨v61, e61⟩ := cell_ex HPB.out (k := 61) (by rw [hz67]; decide)
     obtain ⟨v63, e63⟩ := cell_ex HPB.out (k := 63) (by rw [hz67]; decide)
     obtain ⟨v64, e64⟩ := cell_ex HPB.out (k := 64) (by rw [hz67]; decide)
     clear hw10 hz67 HTH HIT HTR HTO HPA lg9 lgt9
     go_upto_region 58 with fail
     have HB11 : Hid (BlockIs (((w10.setCell ⟨g, 61, none⟩ (.int .i64 si.may)).setCell ⟨g, 63, none⟩ (.int .i64 si.known)).setCell ⟨g, 64, none⟩ (.slice A5 nw c5)) g 48 (enCells { si with came := cn } p.mv (.slice A5 nw c5) p.gi p.gl).toArray) := Lib.hid (by
      have h1 := ((HPB.out.put 61 (.int .i64 si.may)).put 63 (.int .i64 si.known)).put 64 (.slice A5 nw c5)
      rw [← HTC.out, enCells_new p.mv p.cv (.slice A5 nw c5) p.gi p.gl H.out.ok.tl HSI.out.tl HSD2.out (cn := cn)] at h1
      exact h1)
     have HOU2 : Hid (Out w9 (((w10.setCell ⟨g, 61, none⟩ (.int .i64 si.may)).setCell ⟨g, 63, none⟩ (.int .i64 si.known)).setCell ⟨g, 64, none⟩ (.slice A5 nw c5)) [g]) := Lib.hid (((HOU.out.put (p := ⟨g, 61, none⟩) (Or.inl (by simp)) _).put (p := ⟨g, 63, none⟩) (Or.inl (by simp)) _).put (p := ⟨g, 64, none⟩) (Or.inl (by simp)) _)
     obtain ⟨w11, hw11⟩ : ∃ x, (((w10.setCell ⟨g, 61, none⟩ (.int .i64 si.may)).setCell ⟨g, 63, none⟩ (.int .i64 si.known)).setCell ⟨g, 64, none⟩ (.slice A5 nw c5)) = x := ⟨_, rfl⟩
     rw [hw11] at HB11 HOU2
     rw [hw11]
     have HO11 := Lib.hid (HO9.out.chg1 0 rfl HB11.out HOU2.out)
     clear hw11 fz10 lg10 e61 e63 e64 HPB HOU
     have hgw2 : w.heap.size ≤ w2.heap.size := hs2.size
     have hgi := H.out.qz.bl.lt
     have hgl := H.out.bl.lt
     have nG : g ≠ gs := by have := HGS.out; omega
     have nG2 : g ≠ gc := by have := HGC.out; omega
     have nI : p.gi ≠ gc := by have := HGC.out; omega
     have HBS : Hid (BlockIs w11 gs 114 (refCells si.M si.t)) := Lib.hid (HOU2.out.block' HTK9.out.bs (by simp; omega))
     have HBC : Hid (BlockIs w11 gc 88 (credCells si.W si.L si.C si.R)) := Lib.hid (HOU2.out.block' HTK9.out.bc (by simp; omega))
     have HQL : Hid ((refCells si.M si.t).toList.length = 61) := Lib.hid (by unfold refCells; simp [HSI.out.ml])
     have HQL0 : Hid ((refCells s.M s.t).size = 61) := Lib.hid (by unfold refCells; simp [H.out.ok.ml])
     have HQO : Hid (∀ v ∈ (refCells si.M si.t).toList, v.oneCell' = true) := Lib.hid (fun v hv => by
      unfold refCells at hv
      rcases List.mem_append.1 hv with hv | hv
      · obtain ⟨o, _, rfl⟩ := List.mem_map.1 hv; rfl
      · rw [List.mem_singleton.1 hv]; rfl)
     have HQR : Hid (w11.drew.rangeAt gs 0 (refCells si.M si.t).toList) := Lib.hid HBS.out.drew.range
     have HQC : Hid ((refCells si.M si.t).toList.toArray = refCells si.M si.t) := Lib.hid (by simp)
     obtain ⟨qc, hqc⟩ : ∃ x, (refCells si.M si.t).toList = x := ⟨_, rfl⟩
     rw [hqc] at HQL HQO HQR HQC
     have HIQ : Hid ((Tryz.prog.info? 114).map (·.size) = some qc.length) := Lib.hid (by rw [HQL.out]; kernel_rfl)
     have HQT : Hid (w11.drew.there p.gi 0 qc.toArray.size) := Lib.hid (by
      have h1 := (HO11.out.blk 1 rfl).drew.there
      rw [HQL0.out] at h1
      rw [List.size_toArray, HQL.out]; exact h1)
     have k65 : w11.cell? ⟨g, 65, none⟩ = some (.pointer (some ⟨p.gi, 0, none⟩)) := (HB11.out.cell 65).trans (enCells_tail (s := { si with came := cn }) _ _ _ _ HSI.out.tl 4)
     have lg11 := HB11.out.lt
     have lgs11 := HBS.out.lt
     have lgi11 := (HO11.out.blk 1 rfl).lt
     clear hqc hgw2
     go_still_tail 6, (by kernel_rfl)
     refine still_load_mid rfl 114 (.tmp 13) rfl gs 0 (by go_simp) qc _ HQR.out Tryz.underlying114 rfl HIQ.out ?_
     repeat still_step
     try refine wpStill_nil ?_
     change wpList _ _ _ _ _ w11.drew
     go_wp2_with (first | (refine wpList_store_mid rfl 114 (.tmp 259) (.tmp 258) rfl p.gi 0 qc.toArray (by go_simp) (by go_simp) HQT.out (by rw [HIQ.out, List.size_toArray]) (all_oneCell_toArray HQO.out) ?_))
     have HPU : Hid (BlockIs (w11.drew.setCells p.gi 0 qc) p.gi 114 (refCells si.M si.t)) := Lib.hid (by
      have h1 := (HO11.out.blk 1 rfl).drew.puts (vs := qc) (by rw [HQL.out, HQL0.out])
      rw [HQC.out] at h1
      exact h1)
     have HOU3 : Hid (Out w11.drew (w11.drew.setCells p.gi 0 qc) [p.gi]) := Lib.hid ((Out.refl _ _).setCells (Or.inl (by simp)) qc 0)
     have HO12 := Lib.hid (HO11.out.drew.chg1 1 rfl HPU.out HOU3.out)
     have HBC2 : Hid (BlockIs (w11.drew.setCells p.gi 0 qc) gc 88 (credCells si.W si.L si.C si.R)) := Lib.hid (HOU3.out.block' HBC.out.drew (by simp; omega))
     obtain ⟨w12, hw12⟩ : ∃ x, w11.drew.setCells p.gi 0 qc = x := ⟨_, rfl⟩
     have e12 : w11.drew.setCells p.gi 0 qc.toArray.toList = w12 := hw12
     rw [hw12] at HO12 HBC2
     (first | rw [hw12] | rw [e12])
     have k66 : w12.cell? ⟨g, 66, none⟩ = some (.pointer (some ⟨p.gl, 0, none⟩)) := ((HO12.out.blk 0 rfl).cell 66).trans (enCells_tail (s := { si with came := cn }) _ _ _ _ HSI.out.tl 5)
     have lg12 := (HO12.out.blk 0 rfl).lt
     have lgc := HBC2.out.lt
     have lgl12 := (HO12.out.blk 2 rfl).lt
     have r0 : w12.cell? ⟨gc, 0, none⟩ = some (.int .i64 si.W) := HBC2.out.cell 0
     have r1 : w12.cell? ⟨gc, 1, none⟩ = some (.int .i64 si.L) := HBC2.out.cell 1
     have r2 : w12.cell? ⟨gc, 2, none⟩ = some (.int .i64 si.C) := HBC2.out.cell 2
     have r3 : w12.cell? ⟨gc, 3, none⟩ = some (.int .i64 si.R) := HBC2.out.cell 3
     have t0' : w12.cell? ⟨p.gl, 0, none⟩ = some (.int .i64 s.W) := (HO12.out.blk 2 rfl).cell 0
     have t1' : w12.cell? ⟨p.gl, 1, none⟩ = some (.int .i64 s.L) := (HO12.out.blk 2 rfl).cell 1
     have t2' : w12.cell? ⟨p.gl, 2, none⟩ = some (.int .i64 s.C) := (HO12.out.blk 2 rfl).cell 2
     have t3' : w12.cell? ⟨p.gl, 3, none⟩ = some (.int .i64 s.R) := (HO12.out.blk 2 rfl).cell 3
     have fzl := (HO12.out.blk 2 rfl).free
     clear hw12 e12 k65 lg11 lgs11 lgi11 HPU HOU3 HBS HBC HQR HQT HIQ
     go_still_tail 6, (by kernel_rfl)
     change wpList _ _ _ _ _ w12.drew
     go_wp2_with fail
     go_ret
     rw [HH2.out.1, HH2.out.2]
     refine ⟨rfl, rnT_close (p := ⟨p.gi, p.gl, p.mv, .slice A5 nw c5, p.vs⟩) ?_ (by show p.vs.length = si.made.length; rw [HSM2.out]; exact H.out.len) ?_⟩
     · exact ⟨HSI.out.dz, HSI.out.tl, HSI.out.my, HSI.out.md, HSI.out.kn, HCO.out, HSI.out.ml, HSI.out.tt, HSI.out.cr, HSI.out.rt, HSI.out.mc⟩
     · have o := (((HO12.out.drew.put 2 rfl 0 (.int .i64 si.W)).put 2 rfl 1 (.int .i64 si.L)).put 2 rfl 2 (.int .i64 si.C)).put 2 rfl 3 (.int .i64 si.R)
       unfold rnParts at o ⊢
       rw [show ({ si with came := cn } : EnS).made = s.made from HSM2.out]
       exact o
    have hlt' : (i : Int) < (nl : Int) := by omega
    obtain ⟨bf, off, hA, hltb, hcf⟩ := HF2.out.agg_at hn1 hlt
    subst hA
    obtain ⟨f0, f1, f2⟩ := hcf wr hs2r
    have lbf : bf < wr.heap.size := Nat.lt_of_lt_of_le hltb hs2r.size
    have hfin := HF2.out.each _ (List.getElem_mem (show i < Ms.length by omega))
    have hiL : i < L.length := by rw [HLl.out]; exact hlt
    have hLi : L[i] = Ms[i].f := by
     have h1 : (Ms.map (·.f))[i]? = some Ms[i].f := by rw [List.getElem?_map, List.getElem?_eq_getElem]; rfl
     rw [HM1.out, List.getElem?_eq_getElem hiL] at h1
     exact Option.some.inj h1
    have hfr : frmE Ms[i].f = 0 := by rw [← hLi]; exact HFO.out _ (List.getElem_mem hiL)
    have HTS := Lib.hid (takes_succ hiL (by rw [HZ0.out]))
    rw [hLi, HZ0.out] at HTS
    have HCF := Lib.hid (fun X hX => hcf X hX)
    obtain ⟨q, hq⟩ : ∃ q, Ms[i] = q := ⟨_, rfl⟩
    rw [hq] at f0 f1 f2 hfin hfr HTS HCF
    have HOK : Hid (EnOk si) := Lib.hid (by
     have h1 := H.out.ok.takes (L := L.take i) (fun f hf => HFO.out f (List.mem_of_mem_take hf))
     rw [HZ0.out] at h1
     exact h1)
    have HMD : Hid (si.made = s.made) := Lib.hid (by
     have h1 := takes_made (L.take i) s
     rw [HZ0.out] at h1
     exact h1)
    obtain ⟨⟨fk, fn, fd⟩, fA, fc⟩ := q
    dsimp only at f0 f1 f2 HTS HCF
    have HERR : Hid (si.take1E ⟨fk, fn, fd⟩ ≠ 0 → RE = si.take1E ⟨fk, fn, fd⟩ ∧ RS = s) := Lib.hid (fun hE5 => by
     have h1 : (s.takes L).1 = si.take1E ⟨fk, fn, fd⟩ := by rw [takes_stop (i := i + 1) (by rw [HTS.out]; exact hE5), HTS.out]
     rw [HR.out.1, HR.out.2, h1, if_neg hE5, if_neg hE5]
     exact ⟨rfl, rfl⟩)
    clear hq hLi hiL hcf HZ0
    repeat ((fail_if_success (with_reducible refine stop_blk 1 ?_)); first | fail | go_values | go_skip | go_guarded | go_step | go_upon | go_back | go_simp)
    go_step
    refine wp_cut (SC g b n (some ⟨bf, off, none⟩) nl cl gt gs gc (si.take1E ⟨fk, fn, fd⟩) (si.take1 ⟨fk, fn, fd⟩) i w2) ?_ ?_
    rotate_left
    next =>
     intro _ _ _ _
     by_cases h2 : fk = 2
     case pos =>
      subst h2
      have HT := Lib.hid (take1_two (s := si) (f := ⟨2, fn, fd⟩) rfl)
      have h4 := frm_two hfr rfl
      dsimp only at h4 HT
      obtain ⟨R, hR⟩ : ∃ R, pairs fn = R := ⟨_, rfl⟩
      rw [hR] at HT h4
      obtain ⟨K, hK⟩ : ∃ K, R.length = K := ⟨_, rfl⟩
      rw [hK] at h4
      have HKK := Lib.hid hK
      have hK0 := h4.2.1
      have hK12 := h4.2.2.2
      have HRE := Lib.hid h4.1
      have HRG := Lib.hid (fun (X : World) (hX : Since w2 X) => rrngs fA fc fn K X (hfin.nums.keep hX) h4.2.2.1 h4.2.1 h4.2.2.2)
      rw [hR] at HRG
      obtain ⟨E1, hE1⟩ : ∃ E, si.take1E ⟨2, fn, fd⟩ = E := ⟨_, rfl⟩
      obtain ⟨S1, hS1⟩ : ∃ E, si.take1 ⟨2, fn, fd⟩ = E := ⟨_, rfl⟩
      rw [hE1, hS1] at HT
      rw [hE1] at HERR
      have HQ1 := Lib.hid hE1
      have HQ2 := Lib.hid hS1
      clear h4 hfin hfr hR hK hE1 hS1 HTS HCF
      go_wp2_with fail
      refine (HRG.out _ hs2r).mono ?_
      rintro e w6 ⟨Ar, cr, rfl, hl6, hb6⟩
      have hs26 : Since w2 w6 := hs2r.later hb6
      have hs6 : Since w w6 := hs2.later hs26
      have HL6 := Lib.hid hl6
      have HTK6 := Lib.hid (HTK.out.later hb6)
      have H6 := Lib.hid (H.out.later hs6)
      obtain ⟨qr, hAr⟩ : ∃ qr, Ar = some ⟨qr, 0, none⟩ := by
       obtain ⟨A9, c9, e9, _, _, h9⟩ := hl6.shape
       simp only [Value.slice.injEq] at e9
       rcases h9 with ⟨_, h9, _⟩ | ⟨g9, h9⟩
       · have := congrArg List.length h9
         rw [List.length_map, HKK.out] at this
         simp at this; omega
       · exact ⟨g9, e9.1.trans h9⟩
      subst hAr
      have HRW : Hid (∀ X, Out w6 X [gt] → ∀ k, k < K → X.cell? ⟨qr, k * 2, none⟩ = some (.int .i64 (rat R k).lo) ∧ X.cell? ⟨qr, k * 2 + 1, none⟩ = some (.int .i64 (rat R k).hi) ∧ qr < X.heap.size) := Lib.hid (fun X hX k hk => by
       have h1 := HL6.out.other HTK6.out.bt (by decide) hX
       have he := elem_of_rng (L := R) (i := k) (by rw [HKK.out]; exact hk)
       have c0 := h1.cell rfl he (j := 0) rfl
       have c1 := h1.cell rfl he (j := 1) rfl
       rw [rat_get (by rw [HKK.out]; exact hk)]
       exact ⟨by simpa using c0, by simpa using c1, h1.lt qr (by rw [blocks_at]; simp)⟩)
      obtain ⟨gm0, cm, hmv, -, -, -⟩ := H.out.lm.shape
      rw [List.length_map, H.out.len] at hmv
      have HMV := Lib.hid hmv
      have d62 : w6.cell? ⟨g, 62, none⟩ = some (.slice gm0 s.made.length cm) := by rw [← hmv]; exact H6.out.c62
      have lg6 := H6.out.bg.lt
      obtain ⟨r00, r01, lqr⟩ := HRW.out w6 (Out.refl _ _) 0 hK0
      rw [Nat.zero_mul] at r00 r01
      rw [Nat.zero_add] at r01
      have hng0 : (0 : Int) < (K : Int) := by omega
      clear hl6 hb6 hs2r hsr f0 f1 f2 lbf hmv HTK HRG
      by_cases hbig : (s.made.length : Int) ≤ (rat R 0).hi
      case pos =>
       as_aux_lemma =>
        have HH2 : Hid (E1 = 6) := Lib.hid (by rw [HT.out.1]; unfold EnS.ackE; rw [HMD.out, if_pos hbig])
        have HH3 := HERR.out (by rw [HH2.out]; decide)
        rw [HH2.out] at HH3
        have HH4 := Lib.hid HH3
        generalize rat R 0 = r at *
        clear HH3
        go_wp2_with fail
        go_quiet (fail)
        go_wp2_with fail
        go_ret
        rw [HH4.out.1, HH4.out.2]
        exact ⟨rfl, Leaves.same H0.out (hs6.drewN _)⟩
      have hbig' : decide ((s.made.length : Int) ≤ (rat R 0).hi) = false := by simpa using hbig
      have HH2 : Hid (E1 = 0 ∧ S1 = { si with told := tellRs s.made si.told R, known := max si.known (rat R 0).hi }) := Lib.hid ⟨by rw [HT.out.1]; unfold EnS.ackE; rw [HMD.out, if_neg hbig], by rw [HT.out.2]; unfold EnS.ack; rw [HMD.out, if_neg hbig]⟩
      have HLE : Hid (∀ k, k < K → 0 ≤ (rat R k).lo ∧ (rat R k).lo ≤ (rat R k).hi ∧ (rat R k).hi < s.made.length) := Lib.hid (fun k hk => by
       have hr : rat R k ∈ R := by rw [rat_get (by rw [HKK.out]; exact hk)]; exact List.getElem_mem _
       obtain ⟨p1, p2⟩ := rngE_ok HRE.out _ hr
       have p3 := (rngE_canon HRE.out).ok _ hr
       have p4 := came_top HRE.out (inB_iff.2 ⟨_, hr, p3, Int.le_refl _⟩)
       omega)
      have hbig2 : (rat R 0).hi < (s.made.length : Int) := by omega
      obtain ⟨h0x, hh0⟩ : ∃ z, (rat R 0).hi = z := ⟨_, rfl⟩
      rw [hh0] at r01 hbig' hbig2 HH2
      have HH0 := Lib.hid hh0
      clear hbig hh0
      go_wp2_with fail
      go_quiet (fail)
      go_wp2_with fail
      have M6 : MadeIs w6 p.mv p.vs s.made := ⟨H6.out.len, H6.out.lm, fun i v ps h1 h2 => H6.out.lp h1 h2⟩
      have HMA : Hid (∀ m, m < s.made.length → ∃ gm Ap cp, gm0 = some ⟨gm, 0, none⟩ ∧ ∀ X, Out w6 X [gt] → X.cell? ⟨g, 62, none⟩ = some (.slice gm0 s.made.length cm) ∧ X.cell? ⟨gm, m, none⟩ = some (.slice Ap (s.made.getD m []).length cp) ∧ Lst X 98 2 (.slice Ap (s.made.getD m []).length cp) ((s.made.getD m []).map pcRow) ∧ g < X.heap.size ∧ gm < X.heap.size) := Lib.hid (fun m hm => by
       have hvl : m < p.vs.length := by rw [M6.len]; exact hm
       have hv := List.getElem?_eq_getElem hvl
       have hp := List.getElem?_eq_getElem hm
       have hgd : s.made.getD m [] = s.made[m] := by simp [List.getD, hp]
       obtain ⟨Ap, cp, e1, -, -, -⟩ := (M6.lp m _ _ hv hp).shape
       rw [List.length_map] at e1
       have hgm : ∃ gm, gm0 = some ⟨gm, 0, none⟩ := by
        obtain ⟨A9, c9, e9, _, _, h9⟩ := M6.lm.shape
        rw [HMV.out] at e9
        simp only [Value.slice.injEq] at e9
        rcases h9 with ⟨_, h9, _⟩ | ⟨g9, h9⟩
        · have := congrArg List.length h9
          rw [List.length_map] at this
          simp at this
          omega
        · exact ⟨g9, e9.1.trans h9⟩
       obtain ⟨gm, rfl⟩ := hgm
       refine ⟨gm, Ap, cp, rfl, fun X hX => ?_⟩
       have MX := M6.other HTK6.out.bt (by decide) (by decide) hX
       have hbg := hX.block' H6.out.bg (by
        have h1 := HGT.out
        have h2 := hs2.size
        simp
        omega)
       have hc := MX.lm
       rw [HMV.out] at hc
       have hcell := hc.cell rfl (single_get hv) (j := 0) rfl
       have hgl := hc.lt gm (by rw [blocks_at]; simp)
       rw [hgd, ← e1]
       refine ⟨by rw [← HMV.out]; exact (hbg.cell 62).trans (enCells_tail _ _ _ _ H.out.ok.tl 1), by simpa using hcell, MX.lp m _ _ hv hp, hbg.lt, hgl⟩)
      have HMB : Hid (∀ m, ∀ pc ∈ s.made.getD m [], pc.at_ + pc.d.size ≤ 60) := Lib.hid (fun m pc hpc => by
       by_cases hm : m < s.made.length
       · have hgd : s.made.getD m [] = s.made[m] := by simp [List.getD, List.getElem?_eq_getElem hm]
         rw [hgd] at hpc
         exact (H.out.ok.md _ (List.getElem_mem hm)).2 pc hpc
       · have hgd : s.made.getD m [] = [] := by simp [List.getD, List.getElem?_eq_none (Nat.le_of_not_lt hm)]
         rw [hgd] at hpc; simp at hpc)
      have HM3 : Hid (∀ m, (s.made.getD m []).length ≤ 3) := Lib.hid (fun m => by
       by_cases hm : m < s.made.length
       · have hgd : s.made.getD m [] = s.made[m] := by simp [List.getD, List.getElem?_eq_getElem hm]
         rw [hgd]; exact (H.out.ok.md _ (List.getElem_mem hm)).1
       · have hgd : s.made.getD m [] = [] := by simp [List.getD, List.getElem?_eq_none (Nat.le_of_not_lt hm)]
         rw [hgd]; simp)
      have HT60 : Hid (∀ T : List Bool, T.length = 60 → ∀ X, BlockIs X gt 42 (tolCells T) → ∀ z, z < 60 → ∃ v, X.cell? ⟨gt, z, none⟩ = some v) := Lib.hid (fun T hT X hX z hz => cell_ex hX (by unfold tolCells; simp; omega))
      have HTL := HOK.out.tl
      obtain ⟨M, hM⟩ : ∃ M, s.made = M := ⟨_, rfl⟩
      rw [hM] at HLE HMA HMB HM3 hbig2 HH2 h1000
      have HMM := Lib.hid hM
      clear M6 r00 r01 lqr d62 lg6 hM hbig' hbig2
      refine wp_loop (LK g b n (some ⟨bf, off, none⟩) nl cl gt gs gc si.may i (some ⟨qr, 0, none⟩) K cr si.known M si.told R w6) (LKM K) ?_ ?_
      next => exact ⟨0, ⟨by omega, by rw [List.take_zero]; exact HTK6.out.bt.drewN _, (Out.refl _ _).drewN _⟩, _, _, _, _, _, _, _, _, _, _, _, _, _, (by kernel_rfl), rfl⟩
      next =>
       intro a' wk hinv
       obtain ⟨k, ⟨hk, hbk, hok⟩, t2, t3, t4, t5, t8, t9, t18, t19, t20, t21, t22, t23, U, hU, rfl⟩ := hinv
       obtain ⟨u, rfl⟩ := growTail hU; clear hU
       have HBK := Lib.hid hbk
       have HOK2 := Lib.hid hok
       clear hbk hok
       by_cases hkl : k < K
       case neg =>
        as_aux_lemma =>
         obtain rfl : k = K := by omega
         have hkl' : decide ((k : Int) < (k : Int)) = false := by simp
         obtain ⟨-, r01, lqr⟩ := HRW.out wk HOK2.out 0 hK0
         rw [Nat.zero_mul, Nat.zero_add, HH0.out] at r01
         have HTK : Hid (TkW w2 wk gt gs gc { si with told := tellRs M si.told R }) := Lib.hid (HTK6.out.told (Nat.le_of_eq HGT.out) (by have := HBK.out; rw [show R.take k = R by rw [← HKK.out, List.take_length]] at this; exact this) HOK2.out)
         clear hkl
         by_cases hmx : si.known < h0x
         · have hMX : Hid (max si.known h0x = h0x) := Lib.hid (by omega)
           go_wp2_with fail
           refine Met.intro ?_
           go_step
           unfold SC
           rw [HQ1.out, HQ2.out, HH2.out.1, HH2.out.2]
           dsimp only
           rw [hMX.out]
           exact ⟨⟨rfl, HTK.out.as rfl rfl rfl rfl rfl rfl rfl⟩, _, _, _, _, _, _, _, _, _, _, _, _, _, _, _, (by kernel_rfl), rfl⟩
         · have hMX : Hid (max si.known h0x = si.known) := Lib.hid (by omega)
           have hmx' : decide (si.known < h0x) = false := by simpa using hmx
           clear hmx
           go_wp2_with fail
           refine Met.intro ?_
           go_step
           unfold SC
           rw [HQ1.out, HQ2.out, HH2.out.1, HH2.out.2]
           dsimp only
           rw [hMX.out]
           exact ⟨⟨rfl, HTK.out.as rfl rfl rfl rfl rfl rfl rfl⟩, _, _, _, _, _, _, _, _, _, _, _, _, _, _, _, (by kernel_rfl), rfl⟩
       have hkl' : (k : Int) < (K : Int) := by omega
       obtain ⟨r0, r1, lq⟩ := HRW.out wk HOK2.out k hkl
       obtain ⟨q1, q2, q3⟩ := HLE.out k hkl
       obtain ⟨lo, hlo⟩ : ∃ lo : Nat, (rat R k).lo = lo := Int.eq_ofNat_of_zero_le q1
       obtain ⟨hi', hhi⟩ : ∃ h : Nat, (rat R k).hi = h := Int.eq_ofNat_of_zero_le (Int.le_trans q1 q2)
       have HRK : Hid (∀ X, Out w6 X [gt] → X.cell? ⟨qr, k * 2, none⟩ = some (.int .i64 lo) ∧ X.cell? ⟨qr, k * 2 + 1, none⟩ = some (.int .i64 hi') ∧ qr < X.heap.size) := Lib.hid (fun X hX => by have := HRW.out X hX k hkl; rw [hlo, hhi] at this; exact this)
       rw [hlo] at r0 q1 q2
       rw [hhi] at r1 q2 q3
       have HPC : Hid (pcsOf M (rat R k) = ((M.take (hi' + 1)).drop lo).flatten) := Lib.hid (by unfold pcsOf; rw [hlo, hhi]; rfl)
       have HRS := Lib.hid (rs_succ (M := M) (T := si.told) (show k < R.length by rw [HKK.out]; exact hkl))
       rw [HPC.out] at HRS
       have HT0 : Hid ((tellRs M si.told (R.take k)).length = 60) := Lib.hid (by rw [tellRs_len]; exact HTL)
       obtain ⟨Tk, hTk⟩ : ∃ T, tellRs M si.told (R.take k) = T := ⟨_, rfl⟩
       rw [hTk] at HRS HBK HT0
       have hh2 : hi' ≤ 1000 := by omega
       have HHM : Hid (hi' < M.length) := Lib.hid (by omega)
       have HLH : Hid (lo ≤ hi') := Lib.hid (by omega)
       clear hTk hlo hhi q1 q2 q3
       go_wp2_with fail
       refine wp_loop (LQ g b n (some ⟨bf, off, none⟩) nl cl gt gs gc si.may i (some ⟨qr, 0, none⟩) K cr si.known k M Tk lo hi' w6) (LQM hi') ?_ ?_
       next => exact ⟨lo, ⟨Nat.le_refl _, by have := HLH.out; omega, by rw [show ((M.take lo).drop lo).flatten = [] by simp]; exact HBK.out, HOK2.out⟩, _, _, _, _, _, _, _, _, _, _, _, _, (by kernel_rfl), rfl⟩
       next =>
        clear HBK HOK2 r0 r1 lq
        intro a' wm hinv
        obtain ⟨m, ⟨hm1, hm2, hbm, hom⟩, t2, t3, t4, t5, t8, t9, t19, t20, t21, t22, t23, U, hU, rfl⟩ := hinv
        obtain ⟨u, rfl⟩ := growTail hU; clear hU
        have HBM := Lib.hid hbm
        have HOM := Lib.hid hom
        obtain ⟨-, r1, lq⟩ := HRK.out wm hom
        clear hbm hom
        by_cases hml : m ≤ hi'
        case neg =>
         have hml' : decide ((m : Int) ≤ (hi' : Int)) = false := by simp; omega
         have hml2 : (hi' : Int) < (m : Int) := by omega
         have HB2 : Hid (BlockIs wm gt 42 (tolCells (tellRs M si.told (R.take (k + 1))))) := Lib.hid (by have := HBM.out; rw [show m = hi' + 1 by omega] at this; rw [HRS.out]; exact this)
         go_wp2_with fail
         refine ⟨⟨k + 1, ⟨by omega, HB2.out, HOM.out⟩, _, _, _, _, _, _, _, _, _, _, _, _, _, (by kernel_rfl), rfl⟩, ?_⟩
         simp [LKM, intOf]
         omega
        have hml' : (m : Int) ≤ (hi' : Int) := by omega
        have hmM : m < M.length := by have := HHM.out; omega
        obtain ⟨gm, Ap, cp, hgm, hma⟩ := HMA.out m hmM
        have HMX := Lib.hid hma
        have hP3 := HM3.out m
        have HPB := Lib.hid (HMB.out m)
        have HMS : Hid (tellPcs Tk (((M.take (m + 1)).drop lo).flatten) = tellPcs (tellPcs Tk (((M.take m).drop lo).flatten)) (M.getD m [])) := Lib.hid (by rw [made_succ hm1 hmM]; simp [List.getD, List.getElem?_eq_getElem hmM])
        have HT1 : Hid ((tellPcs Tk (((M.take m).drop lo).flatten)).length = 60) := Lib.hid (by rw [tellPcs_len]; exact HT0.out)
        obtain ⟨Tm, hTm⟩ : ∃ T, tellPcs Tk (((M.take m).drop lo).flatten) = T := ⟨_, rfl⟩
        obtain ⟨P, hP⟩ : ∃ P, M.getD m [] = P := ⟨_, rfl⟩
        rw [hTm] at HMS HBM HT1
        rw [hP] at HMS HMX hP3 HPB
        obtain ⟨np, hnp⟩ : ∃ np, P.length = np := ⟨_, rfl⟩
        have HNP := Lib.hid hnp
        rw [hnp] at HMX hP3
        have hmm : m ≤ 1000 := by omega
        have hm0 : (m : Int) < ((M.length : Nat) : Int) := by omega
        obtain ⟨nM, hnM⟩ : ∃ x, M.length = x := ⟨_, rfl⟩
        rw [hnM] at HMX hm0
        subst hgm
        clear hma hTm hP hnp hnM
        go_wp2_with fail
        refine wp_loop (LJ g b n (some ⟨bf, off, none⟩) nl cl gt gs gc si.may i (some ⟨qr, 0, none⟩) K cr si.known k m Tm P w6) (LJM np) ?_ ?_
        next => exact ⟨0, ⟨Nat.zero_le _, by rw [List.take_zero]; exact HBM.out, HOM.out⟩, _, _, _, _, _, _, _, _, _, _, _, (by kernel_rfl), rfl⟩
        next =>
         clear HBM HOM r1 lq
         intro a' wj hinv
         obtain ⟨j, ⟨hj, hbj, hoj⟩, t2, t3, t4, t5, t8, t9, t20, t21, t22, t23, U, hU, rfl⟩ := hinv
         obtain ⟨u, rfl⟩ := growTail hU; clear hU
         have HBJ := Lib.hid hbj
         have HOJ := Lib.hid hoj
         obtain ⟨c62, cgm, hlp, lgj, lgmj⟩ := HMX.out wj hoj
         have HLP := Lib.hid hlp
         rw [HNP.out] at hj
         clear hbj hoj hlp
         by_cases hjl : j < np
         case neg =>
          obtain rfl : j = np := by omega
          have hjl' : decide ((j : Int) < (j : Int)) = false := by simp
          have HB2 : Hid (BlockIs wj gt 42 (tolCells (tellPcs Tk (((M.take (m + 1)).drop lo).flatten)))) := Lib.hid (by have := HBJ.out; rw [show P.take j = P by rw [← HNP.out, List.take_length]] at this; rw [HMS.out]; exact this)
          go_wp2_with fail
          refine ⟨⟨m + 1, ⟨by omega, by omega, HB2.out, HOJ.out⟩, _, _, _, _, _, _, _, _, _, _, _, _, (by kernel_rfl), rfl⟩, ?_⟩
          simp [LQM, intOf]
          omega
         have hjl' : (j : Int) < (np : Int) := by omega
         have hjP : j < P.length := by rw [HNP.out]; exact hjl
         obtain ⟨b2, hA2, lb2, p0, p1⟩ := HLP.out.pc hjP
         have hp60 := HPB.out _ (List.getElem_mem hjP)
         have HPS := Lib.hid (pcs_succ hjP Tm)
         have HT2 : Hid ((tellPcs Tm (P.take j)).length = 60) := Lib.hid (by rw [tellPcs_len]; exact HT1.out)
         obtain ⟨Tj, hTj⟩ : ∃ T, tellPcs Tm (P.take j) = T := ⟨_, rfl⟩
         obtain ⟨⟨at_, d⟩, hpp⟩ : ∃ p, P[j] = p := ⟨_, rfl⟩
         rw [hTj] at HPS HBJ HT2
         rw [hpp] at p0 p1 hp60 HPS
         dsimp only at p0 p1 hp60 HPS
         subst hA2
         clear hpp hTj hjP
         go_wp2_with fail
         have hgt2 := HBJ.out.lt
         have HSA : Hid (BlockIs (wj.alloc (.cells #[.int .i64 at_, .string d] 98)) gt 42 (tolCells (tellN Tj at_ 0)) ∧ BlockIs (wj.alloc (.cells #[.int .i64 at_, .string d] 98)) wj.heap.size 98 #[.int .i64 at_, .string d] ∧ Out w6 (wj.alloc (.cells #[.int .i64 at_, .string d] 98)) [gt]) := Lib.hid ⟨HBJ.out.alloc _, BlockIs.fresh _ _ _, HOJ.out.alloc _⟩
         obtain ⟨w8, hw8⟩ : ∃ x, wj.alloc (.cells #[.int .i64 at_, .string d] 98) = x := ⟨_, rfl⟩
         obtain ⟨gp, hgp⟩ : ∃ x, wj.heap.size = x := ⟨_, rfl⟩
         rw [hw8, hgp] at HSA
         rw [hw8, hgp]
         have HNE : Hid (gt ≠ gp) := Lib.hid (by omega)
         clear hw8 hgp hgt2 c62 cgm lgj lgmj lb2 p0 p1 HBJ HOJ HLP
         refine wp_loop (LB g b n (some ⟨bf, off, none⟩) nl cl gt gs gc si.may i (some ⟨qr, 0, none⟩) K cr si.known k m j gp Tj at_ d w6) (LBM d.size) ?_ ?_
         next => exact ⟨0, ⟨Nat.zero_le _, HSA.out.1, HSA.out.2.1, HSA.out.2.2⟩, _, _, _, _, _, _, _, _, _, (by kernel_rfl), rfl⟩
         next =>
          clear HSA
          intro a' wq hinv
          obtain ⟨q, ⟨hq, hbq, hpq, hoq⟩, t2, t3, t4, t5, t8, t9, t22, t23, U, hU, rfl⟩ := hinv
          obtain ⟨u, rfl⟩ := growTail hU; clear hU
          have HBQ := Lib.hid hbq
          have HPQ := Lib.hid hpq
          have HOQ := Lib.hid hoq
          have g0 : wq.cell? ⟨gp, 0, none⟩ = some (.int .i64 at_) := hpq.cell 0
          have g1 : wq.cell? ⟨gp, 1, none⟩ = some (.string d) := hpq.cell 1
          have lp := hpq.lt
          have lgt := hbq.lt
          have fgt := hbq.free
          have ltn : (tellN Tj at_ q).length = 60 := by rw [tellN_len]; exact HT2.out
          clear hbq hpq hoq
          by_cases hql : q < d.size
          case neg =>
           obtain rfl : q = d.size := by omega
           have hql' : decide ((d.size : Int) < (d.size : Int)) = false := by simp
           have HB2 : Hid (BlockIs wq gt 42 (tolCells (tellPcs Tm (P.take (j + 1))))) := Lib.hid (by rw [HPS.out]; exact HBQ.out)
           clear ltn fgt
           go_wp2_with fail
           refine ⟨⟨j + 1, ⟨by rw [HNP.out]; omega, HB2.out, HOQ.out⟩, _, _, _, _, _, _, _, _, _, _, _, (by kernel_rfl), rfl⟩, ?_⟩
           simp [LJM, intOf]
           omega
          have hql' : (q : Int) < (d.size : Int) := by omega
          obtain ⟨v9, e9⟩ := HT60.out _ ltn wq HBQ.out (at_ + q) (by omega)
          have hwq : IntKind.i64.wrap ((at_ : Int) + (q : Int)) = (at_ : Int) + (q : Int) := IntWalk.i64_in _ (by omega)
          have haq0 : (0 : Int) ≤ (at_ : Int) + (q : Int) := by omega
          have haq1 : (at_ : Int) + (q : Int) < 60 := by omega
          have haqn : ((at_ : Int) + (q : Int)).toNat = at_ + q := by omega
          have HPUT := Lib.hid (tol_put HBQ.out)
          clear ltn
          go_wp2_with fail
          refine ⟨⟨q + 1, ⟨by omega, HPUT.out, HPQ.out.far HNE.out.symm _, HOQ.out.put (p := ⟨gt, at_ + q, none⟩) (Or.inl (by simp)) _⟩, _, _, _, _, _, _, _, _, _, (by kernel_rfl), rfl⟩, ?_⟩
          simp [LBM, intOf]
          omega
     have k2 : (fk == 2) = false := by simpa using h2
     by_cases h4 : fk = 4
     case pos =>
      as_aux_lemma =>
       subst h4
       obtain ⟨hn, hmb⟩ := frm_four hfr rfl
       dsimp only at hn hmb
       obtain ⟨z, hz⟩ : ∃ z, ith fn 0 = z := ⟨_, rfl⟩
       rw [hz] at hn hmb
       have hnum := hfin.nums
       subst hn
       obtain ⟨-, A1, c1, hv, -, -, hcc⟩ := hnum
       simp only [FrmV.v, Value.slice.injEq] at hv
       obtain ⟨b', off', hA, hlt4, hc⟩ := hcc (by simp)
       have hA' : fA = some ⟨b', off', none⟩ := hv.1.trans hA
       subst hA'
       have hc0 : wr.cell? ⟨b', off', none⟩ = some (.int .i64 z) := hs2r.cell hlt4 (hc 0 (by simp))
       have lb' : b' < wr.heap.size := Nat.lt_of_lt_of_le hlt4 hs2r.size
       have HT : Hid (si.take1E ⟨4, [z], fd⟩ = 0 ∧ si.take1 ⟨4, [z], fd⟩ = { si with may := max si.may z }) := Lib.hid ⟨rfl, rfl⟩
       clear hc hcc hv hA hfin hfr h2
       by_cases hmz : si.may < z
       · have HMX : Hid (max si.may z = z) := Lib.hid (by omega)
         go_wp2_with fail
         refine Met.intro ?_
         go_step
         unfold SC
         rw [HT.out.1, HT.out.2]
         dsimp only
         rw [HMX.out]
         exact ⟨⟨rfl, HTK.out.as rfl rfl rfl rfl rfl rfl rfl⟩, _, _, _, _, _, _, _, _, _, _, _, _, _, _, _, (by kernel_rfl), rfl⟩
       · have HMX : Hid (max si.may z = si.may) := Lib.hid (by omega)
         have hmz' : decide (si.may < z) = false := by simpa using hmz
         clear hmz
         go_wp2_with fail
         refine Met.intro ?_
         go_step
         unfold SC
         rw [HT.out.1, HT.out.2]
         dsimp only
         rw [HMX.out]
         exact ⟨⟨rfl, HTK.out.as rfl rfl rfl rfl rfl rfl rfl⟩, _, _, _, _, _, _, _, _, _, _, _, _, _, _, _, (by kernel_rfl), rfl⟩
     have k4 : (fk == 4) = false := by simpa using h4
     by_cases h3 : fk = 3
     case neg =>
      as_aux_lemma =>
       have k3 : (fk == 3) = false := by simpa using h3
       have HT : Hid (si.take1E ⟨fk, fn, fd⟩ = 3) := Lib.hid (by unfold EnS.take1E; rw [if_neg h2, if_neg h4, if_neg h3])
       have HH2 := HERR.out (by rw [HT.out]; decide)
       rw [HT.out] at HH2
       have HH3 := Lib.hid HH2
       clear HH2 h2 h3 h4 hfin hfr
       go_wp2_with fail
       go_ret
       rw [HH3.out.1, HH3.out.2]
       exact ⟨rfl, Leaves.same H0.out hsr⟩
     case pos =>
      subst h3
      obtain ⟨hn, hmb, hd20⟩ := frm_three hfr rfl
      dsimp only at hn hmb hd20
      obtain ⟨z, hz⟩ : ∃ z, ith fn 0 = z := ⟨_, rfl⟩
      rw [hz] at hn hmb
      have hnum := hfin.nums
      subst hn
      obtain ⟨-, A1, c1, hv, -, -, hcc⟩ := hnum
      simp only [FrmV.v, Value.slice.injEq] at hv
      obtain ⟨b', off', hA, hlt4, hc⟩ := hcc (by simp)
      have hA' : fA = some ⟨b', off', none⟩ := hv.1.trans hA
      subst hA'
      have HC0 : Hid (∀ X, Since w2 X → X.cell? ⟨b', off', none⟩ = some (.int .i64 z) ∧ b' < X.heap.size) := Lib.hid (fun X hX => ⟨hX.cell hlt4 (hc 0 (by simp)), Nat.lt_of_lt_of_le hlt4 hX.size⟩)
      obtain ⟨hc0, lb'⟩ := HC0.out wr hs2r
      have hmb' := hmb
      unfold MayBe at hmb'
      have hwr : IntKind.i64.wrap (z + (fd.size : Int)) = z + (fd.size : Int) := IntWalk.i64_in _ (by omega)
      have HEE : Hid (si.take1E ⟨3, [z], fd⟩ = if takeE si.L (z + fd.size) = 0 then putE si.M z fd.data.toList else takeE si.L (z + fd.size)) := Lib.hid rfl
      have HTE : Hid (si.take1 ⟨3, [z], fd⟩ = if takeE si.L (z + fd.size) = 0 then { si with C := maxN si.C (z + fd.size), M := putM si.M z fd.data.toList } else si) := Lib.hid rfl
      have HCT := Lib.hid (fun (X : World) (hX : Since wr X) => rtake_any gc si.W si.L si.C si.R (z + fd.size) X (HTK.out.later hX).bc)
      clear hc hcc hv hA hfin hfr h2 h4 k2 k4 hmb
      go_upto_region 46 with fail
      refine wp_cut (S3 g b n (some ⟨bf, off, none⟩) nl cl gt gs gc si { si with C := tC si.L si.C (z + fd.size) } i (takeE si.L (z + fd.size)) w2) ?_ ?_
      rotate_left
      next =>
       as_aux_lemma =>
        intro _ _ _ _
        have hsd : Since wr wr.drew := (Since.refl wr).drew
        go_still_tail 14, (by kernel_rfl)
        change wpList _ _ _ _ _ wr.drew
        go_wp2_with (go_at_call 62; refine (HCT.out _ hsd).mono ?_; rintro e w6 ⟨rfl, hb6, ho6⟩)
        refine Met.intro ?_
        go_step
        exact ⟨((HTK.out.later hsd).cred HGC.out hb6 (Out.of_only ho6)), _, _, _, _, _, _, _, _, _, _, _, _, _, _, (by kernel_rfl), rfl⟩
      intro a' w6 hinv
      obtain ⟨htk6, t2, t3, t4, t5, t8, t9, t16, t17, t18, t19, t20, t21, t23, U, hU, rfl⟩ := hinv
      obtain ⟨u, rfl⟩ := growTail hU; clear hU
      have HTK6 := Lib.hid htk6
      have hs26 : Since w2 w6 := htk6.since
      obtain ⟨g0, g1, g2⟩ := HCF.out w6 hs26
      obtain ⟨hc6, lb6⟩ := HC0.out w6 hs26
      have lbf6 : bf < w6.heap.size := Nat.lt_of_lt_of_le hltb hs26.size
      clear htk6 f0 f1 f2 hc0 lb' lbf hs2r hsr HTK HCT
      by_cases hT : takeE si.L (z + fd.size) = 0
      case neg =>
       as_aux_lemma =>
        have HE2 : Hid (si.take1E ⟨3, [z], fd⟩ = takeE si.L (z + fd.size)) := Lib.hid (by rw [HEE.out, if_neg hT])
        have HH2 := HERR.out (by rw [HE2.out]; exact hT)
        rw [HE2.out] at HH2
        have HH3 := Lib.hid HH2
        obtain ⟨ee, hee⟩ : ∃ e, takeE si.L (z + fd.size) = e := ⟨_, rfl⟩
        rw [hee] at HH3 hT
        rw [hee]
        have hne : (ee == 0) = false := by simpa using hT
        have hne2 : (ee != 0) = true := by simpa using hT
        have hs6 : Since w w6 := hs2.later hs26
        clear HH2 hee hT
        go_wp2_with fail
        go_ret
        rw [HH3.out.1, HH3.out.2]
        exact ⟨rfl, Leaves.same H0.out hs6⟩
      have htC : tC si.L si.C (z + fd.size) = maxN si.C (z + fd.size) := by unfold tC; rw [if_pos hT]
      rw [htC] at HTK6
      have HE2 : Hid (si.take1E ⟨3, [z], fd⟩ = putE si.M z fd.data.toList ∧ si.take1 ⟨3, [z], fd⟩ = { si with C := maxN si.C (z + fd.size), M := putM si.M z fd.data.toList }) := Lib.hid ⟨by rw [HEE.out, if_pos hT], by rw [HTE.out, if_pos hT]⟩
      rw [hT]
      have HPT := Lib.hid (fun (X : World) (hX : Since w6 X) => qput gs si.M si.t z fd X ⟨(HTK6.out.later hX).bs, HOK.out.ml, HOK.out.tt⟩ (by omega))
      clear hT htC HEE HTE
      go_upto_region 48 with fail
      refine wp_cut (S3 g b n (some ⟨bf, off, none⟩) nl cl gt gs gc si { si with C := maxN si.C (z + fd.size), M := putM si.M z fd.data.toList } i (putE si.M z fd.data.toList) w2) ?_ ?_
      rotate_left
      next =>
       as_aux_lemma =>
        intro _ _ _ _
        have hsd : Since w6 w6.drew := (Since.refl w6).drew
        go_still_tail 12, (by kernel_rfl)
        change wpList _ _ _ _ _ w6.drew
        go_wp2_with (go_at_call 63; refine (HPT.out _ hsd).mono ?_; rintro e w7 ⟨rfl, hz7, ho7⟩)
        refine Met.intro ?_
        go_step
        exact ⟨((HTK6.out.later hsd).strm HGS.out hz7.bl ho7), _, _, _, _, _, _, _, _, _, _, _, _, _, _, (by kernel_rfl), rfl⟩
      intro a' w7 hinv
      obtain ⟨htk7, t2, t3, t4, t5, t8, t9, t16, t17, t18, t19, t20, t21, t23, U, hU, rfl⟩ := hinv
      obtain ⟨u, rfl⟩ := growTail hU; clear hU
      have HTK7 := Lib.hid htk7
      have hs7 : Since w w7 := hs2.later htk7.since
      obtain ⟨ee, hee⟩ : ∃ e, putE si.M z fd.data.toList = e := ⟨_, rfl⟩
      rw [hee] at HE2
      rw [hee]
      clear htk7 hee g0 g1 g2 hc6 lb6 lbf6 HPT HTK6
      by_cases hP : ee = 0
      case neg =>
       have HH2 := HERR.out (by rw [HE2.out.1]; exact hP)
       rw [HE2.out.1] at HH2
       have HH3 := Lib.hid HH2
       have hne : (ee != 0) = true := by simpa using hP
       clear HH2 hP
       go_wp2_with fail
       go_ret
       rw [HH3.out.1, HH3.out.2]
       exact ⟨rfl, Leaves.same H0.out hs7⟩
      subst hP
      go_wp2_with fail
      refine Met.intro ?_
      go_step
      unfold SC
      rw [HE2.out.1, HE2.out.2]
      exact ⟨⟨rfl, HTK7.out⟩, _, _, _, _, _, _, _, _, _, _, _, _, _, _, _, (by kernel_rfl), rfl⟩
    intro a' w6 hinv
    obtain ⟨⟨hE5, htk⟩, t2, t3, t4, t5, t8, t9, t16, t17, t18, t19, t20, t21, t22, t23, U, hU, rfl⟩ := hinv
    obtain ⟨u, rfl⟩ := growTail hU; clear hU
    have HTK2 := Lib.hid htk
    have HTS2 : Hid (s.takes (L.take (i + 1)) = (0, si.take1 ⟨fk, fn, fd⟩)) := Lib.hid (by rw [HTS.out, hE5])
    clear hE5 htk f0 f1 f2 lbf HTK hs2r hsr HERR HTS
    go_wp2_with fail
    refine ⟨⟨i + 1, _, ⟨by omega, HTS2.out, HTK2.out⟩, _, _, _, _, _, _, _, _, _, _, _, _, _, _, _, (by kernel_rfl), rfl⟩, ?_⟩
    simp [LM, intOf]
    omega
end Go.Proofs.YtmfbaijbigodkaaGreatDoor.NTk
namespace Go.Proofs.YtmfbaijbigodkaaGreatDoor
open Go.ChangeShapes Go.WideShapes Go.ChangeAt Go.RowKit
set_option linter.unusedVariables false
theorem rd_cap {w : World} {k n cap : Nat} {A : Option Addr} {es : List (List Value)} (h : Rd w k (.slice A n cap) es) : es.length = n ∧ n ≤ 9223372036854775807 := by
 obtain ⟨A', cap', hv, h1, h2, _⟩ := h.shape
 simp only [Value.slice.injEq] at hv
 obtain ⟨_, rfl, _⟩ := hv
 unfold maxLen at h2
 exact ⟨rfl, by omega⟩
theorem pkt_need {x known : Int} {L : List Frm} (h : ¬ NeedOk x known) : pktE x known L = 1 ∧ pktV x known L = [] := by
 have e : pktE x known L = 1 := by unfold pktE; rw [if_neg h]
 exact ⟨e, by unfold pktV; rw [if_neg (by rw [e]; decide)]⟩
theorem pkt_no {x known : Int} {L : List Frm} {k : Int} (e : pktE x known L = k) (hk : k ≠ 0) : pktV x known L = [] := by unfold pktV; rw [if_neg (by rw [e]; exact hk)]
theorem pkt_nil {x known : Int} (h : NeedOk x known) : pktE x known [] = 5 := by unfold pktE; rw [if_pos h, if_pos rfl]
theorem pkt_many {x known : Int} {L : List Frm} (h : NeedOk x known) (h2 : 12 < L.length) : pktE x known L = 4 := by
 unfold pktE; rw [if_pos h, if_neg (by intro h3; rw [h3] at h2; simp at h2), if_pos h2]
theorem pkt_frm {x known : Int} {L : List Frm} (h : NeedOk x known) (h0 : L ≠ []) (h2 : ¬ 12 < L.length) (h3 : frmsE L ≠ 0) : pktE x known L = frmsE L := by
 unfold pktE; rw [if_pos h, if_neg h0, if_neg h2, if_neg h3]
theorem pkt_big {x known : Int} {L : List Frm} (h : NeedOk x known) (h0 : L ≠ []) (h2 : ¬ 12 < L.length) (h3 : frmsE L = 0) (h4 : 200 < (pktB x known L).length) : pktE x known L = 4 := by
 unfold pktE; rw [if_pos h, if_neg h0, if_neg h2, if_pos h3, if_pos h4]
theorem pkt_ok {x known : Int} {L : List Frm} (h : NeedOk x known) (h0 : L ≠ []) (h2 : ¬ 12 < L.length) (h3 : frmsE L = 0) (h4 : ¬ 200 < (pktB x known L).length) : pktE x known L = 0 ∧ pktV x known L = pktB x known L := by
 have e : pktE x known L = 0 := by unfold pktE; rw [if_pos h, if_neg h0, if_neg h2, if_pos h3, if_neg h4]
 exact ⟨e, by unfold pktV; rw [if_pos e]⟩
theorem frmsE_upto {L : List FrmV} {i : Nat} (h : i < L.length) (hE : frmsE ((L.take i).map (·.f)) = 0) : (frmE L[i].f = 0 → frmsE ((L.take (i + 1)).map (·.f)) = 0) ∧ (frmE L[i].f ≠ 0 → frmsE (L.map (·.f)) = frmE L[i].f) := by
 constructor
 · intro h0
   rw [List.take_succ_eq_append_getElem h, List.map_append, frmsE_app_ok hE]
   simp [frmsE, h0]
 · intro h0
   have hsp : L = L.take i ++ (L[i] :: L.drop (i + 1)) := by
    rw [← List.drop_eq_getElem_cons h, List.take_append_drop]
   have e : frmsE (L.map (·.f)) = frmsE ((L.take i ++ (L[i] :: L.drop (i + 1))).map (·.f)) := congrArg (fun M => frmsE (M.map (·.f))) hsp
   rw [e, List.map_append, List.map_cons, frmsE_bad hE h0]
theorem rround_0 (w : World) : Calls Tryz.prog 90 #[.int .i64 0] w fun e w' => e = .returned (.int .i64 1) ∧ w = w' := by
 go_enter Tryz.func90, Tryz.ntmps90
 go_wp2
 refine wp_loop_rounds 5 ?_
 repeat (rw [rounds_succ]; go_wp2)
 go_ret
 exact ⟨rfl, rfl⟩
theorem hdZ_nextR {n : Int} {m j i : Nat} (h1 : 1 ≤ m) (h4 : m ≤ 4) (hji : m - 1 - j = i) (hj : j < m) : (hdZ n m).take (j + 2) = (hdZ n m).take (j + 1) ++ [shB n i] := by
 subst hji
 have hm : m = 1 ∨ m = 2 ∨ m = 3 ∨ m = 4 := by omega
 have hjj : j = 0 ∨ j = 1 ∨ j = 2 ∨ j = 3 := by omega
 rcases hm with rfl | rfl | rfl | rfl <;> rcases hjj with rfl | rfl | rfl | rfl <;> first | omega | (simp [hdZ, shB]; done)
theorem rpacket (x known : Int) (A : Option Addr) (n cap : Nat) (L : List FrmV) (w : World) (hx : -9223372036854775808 ≤ x ∧ x ≤ 9223372036854775807) (hkn : -9223372036854775808 ≤ known ∧ known ≤ 9223372036854775807) (hn : L.length = n) (h : FrmsIn w (.slice A n cap) L) :
  Calls Tryz.prog 52 #[.int .i64 x, .int .i64 known, .slice A n cap] w fun e w' => e = .returned (.tuple #[.string ⟨(pktV x known (L.map (·.f))).toArray⟩, .int .i64 (pktE x known (L.map (·.f)))]) ∧ Below w.heap.size w w' := by
 have HN := Lib.hid hn
 have H := Lib.hid h
 have hcm := (rd_cap h.rd).2
 have HML : Hid ((L.map (·.f)).length = n) := Lib.hid (by rw [List.length_map, hn])
 clear hn h
 by_cases hN : NeedOk x known
 case neg =>
  obtain ⟨p1, p2⟩ := pkt_need (L := L.map (·.f)) hN
  have P1 := Lib.hid p1
  have P2 := Lib.hid p2
  by_cases hm : MayBe x
  case neg =>
   have hmb := Lib.hid (mayB_not hm)
   clear p1 p2 hN hm
   go_enter Tryz.func52, Tryz.ntmps52
   go_wp2_with fail
   refine (rmay_any x _).mono ?_
   rintro e w1 ⟨rfl, rfl⟩
   rw [hmb.out]
   go_wp2_with fail
   go_ret2
   exact ⟨by rw [P1.out, P2.out]; rfl, Below.refl _ _⟩
  have hmb := Lib.hid (mayB_iff.2 hm)
  by_cases hk1 : known < -1
  · clear p1 p2 hN hm
    go_enter Tryz.func52, Tryz.ntmps52
    go_wp2_with fail
    refine (rmay_any x _).mono ?_
    rintro e w1 ⟨rfl, rfl⟩
    rw [hmb.out]
    go_wp2_with fail
    go_ret2
    exact ⟨by rw [P1.out, P2.out]; rfl, Below.refl _ _⟩
  have hk1' : decide (known < -1) = false := by simpa using hk1
  have hk2 : x ≤ known := by
   rcases Int.lt_or_le known x with h | h
   · exact absurd ⟨hm, by omega, h⟩ hN
   · exact h
  clear p1 p2 hN hm hk1
  go_enter Tryz.func52, Tryz.ntmps52
  go_wp2_with fail
  refine (rmay_any x _).mono ?_
  rintro e w1 ⟨rfl, rfl⟩
  rw [hmb.out]
  go_wp2_with fail
  go_ret2
  exact ⟨by rw [P1.out, P2.out]; rfl, Below.refl _ _⟩
 have HNO := Lib.hid hN
 obtain ⟨hmx, k1, k2⟩ := hN
 have hmb := Lib.hid (mayB_iff.2 hmx)
 obtain ⟨n1, n2⟩ := hmx
 have k1' : decide (known < -1) = false := by simp; omega
 have k2' : decide (x ≤ known) = false := by simp; omega
 have hg : ¬ ((known < -1) ∨ (x ≤ known)) := by omega
 by_cases h0 : n = 0
 · subst h0
   have hL : L = [] := List.length_eq_zero_iff.1 HN.out
   have p1 := pkt_nil HNO.out
   have p2 := pkt_no p1 (by decide)
   rw [hL]
   have P1 := Lib.hid p1
   have P2 := Lib.hid p2
   clear p1 p2 hL
   go_enter Tryz.func52, Tryz.ntmps52
   go_wp2_with fail
   refine (rmay_any x _).mono ?_
   rintro e w1 ⟨rfl, rfl⟩
   rw [hmb.out]
   go_wp2_with fail
   go_ret2
   exact ⟨by rw [List.map_nil, P1.out, P2.out]; rfl, Below.refl _ _⟩
 have h0' : ((n : Int) == 0) = false := by rw [beq_eq_false_iff_ne]; omega
 by_cases h12 : 12 < n
 · have p1 := pkt_many (L := L.map (·.f)) HNO.out (by rw [HML.out]; exact h12)
   have p2 := pkt_no p1 (by decide)
   have P1 := Lib.hid p1
   have P2 := Lib.hid p2
   have h12' : (12 : Int) < (n : Int) := by omega
   clear p1 p2 h0
   go_enter Tryz.func52, Tryz.ntmps52
   go_wp2_with fail
   refine (rmay_any x _).mono ?_
   rintro e w1 ⟨rfl, rfl⟩
   rw [hmb.out]
   go_wp2_with fail
   go_ret2
   exact ⟨by rw [P1.out, P2.out]; rfl, Below.refl _ _⟩
 have h12' : decide ((12 : Int) < (n : Int)) = false := by simp; omega
 have HFRM := Lib.hid (fun h3 => pkt_frm (L := L.map (·.f)) HNO.out (by intro hh; have := HML.out; rw [hh] at this; simp at this; omega) (by rw [HML.out]; exact h12) h3)
 have HBIG := Lib.hid (fun h3 h4 => pkt_big (L := L.map (·.f)) HNO.out (by intro hh; have := HML.out; rw [hh] at this; simp at this; omega) (by rw [HML.out]; exact h12) h3 h4)
 have HOK := Lib.hid (fun h3 h4 => pkt_ok (L := L.map (·.f)) HNO.out (by intro hh; have := HML.out; rw [hh] at this; simp at this; omega) (by rw [HML.out]; exact h12) h3 h4)
 obtain ⟨b1, b2⟩ := leastN_bounds (x - known)
 have hhl := headB_len (n := x) b1 b2
 have HPK : Hid (pktB x known (L.map (·.f)) = headB x (leastN (x - known)) ++ frmsB (L.map (·.f))) := Lib.hid rfl
 have RN := Lib.hid (fun W => rneed_any x known k2 k1 n2 W)
 generalize leastN (x - known) = b at *
 obtain ⟨m, rfl⟩ : ∃ m : Nat, b = m := ⟨b.toNat, by omega⟩
 have hwrap : IntKind.u8.wrap (m : Int) = m := by simp [IntKind.wrap, IntKind.bits, IntKind.signed]; omega
 have hn12 : n ≤ 12 := by omega
 clear h0 h12
 go_enter Tryz.func52, Tryz.ntmps52
 go_wp2_with fail
 refine (rmay_any x _).mono ?_
 rintro e w1 ⟨rfl, rfl⟩
 rw [hmb.out]
 go_wp2_with fail
 refine (RN.out _).mono ?_
 rintro e w1 ⟨rfl, rfl⟩
 go_wp2_with fail
 go_loopw [10, 11] (fun s10 s11 wr => ∃ (j q cp : Nat), s10 = .slice (some ⟨q, 0, none⟩) (j + 1) cp ∧ s11 = .int .i64 ((m : Int) - 1 - j) ∧ j ≤ m ∧ HdSt w wr (hdZ x m) (j + 1) q cp) (fun _ s11 _ => (intOf s11 + 1).toNat)
 case atStart => exact ⟨0, w.heap.size, 1, rfl, by simp, Nat.zero_le _, ⟨⟨World.ownsRow_lit (base := 0) w #[.int .u8 m] 1 (Nat.zero_le _) (by decide) rfl, by intro e he; obtain ⟨z, _, rfl⟩ := List.mem_map.1 he; exact u8Row_one z⟩, Nat.le_refl _, (by exact Since.alloc (Since.refl _) _)⟩⟩
 case round =>
  obtain ⟨j, q, cp, rfl, rfl, hj, hS⟩ := hrel
  by_cases hlt : j < m
  case neg =>
   obtain rfl : j = m := by omega
   have hm1 : (j : Int) - 1 - (j : Int) = -1 := by omega
   have hln : (hdZ x j).length = j + 1 := by have := hdZ_len (n := x) b1 b2; omega
   have hcv := conv_of (W := wr) (g := q) (c := cp) (ns := hdZ x j) (fun k v hk => by
    rw [List.getElem?_map] at hk
    cases hz : (hdZ x j)[k]? with
    | none => rw [hz] at hk; cases hk
    | some z =>
      rw [hz] at hk
      simp only [Option.map_some, Option.some.injEq] at hk
      subst hk
      have hl := hS.ls
      rw [List.take_of_length_le (by omega)] at hl
      have := hl.cell rfl (i := k) (j := 0) (e := u8Row z) (u := .int .u8 z) (by rw [List.getElem?_map, hz]; rfl) rfl
      simpa using this)
   rw [hln, hdZ_bytes b1 b2] at hcv
   rw [hm1]
   have hs1 : Since w wr := hS.since
   have HSH : Hid (∀ i, i ≤ n → frmsE ((L.take i).map (·.f)) = 0 → (frmsB ((L.take i).map (·.f))).length ≤ 1440) := Lib.hid (fun i hi hE => by
    have := frmsB_short (M := (L.take i).map (·.f)) (frmsE_all hE)
    rw [List.length_map, List.length_take] at this
    omega)
   generalize headB x (j : Int) = hd at *
   clear hS hln hm1
   go_wp2_with fail
   go_loopw [12, 13] (fun s12 s13 wr => ∃ i : Nat, s13 = .int .i64 i ∧ i ≤ n ∧ s12 = .string ⟨(hd ++ frmsB ((L.take i).map (·.f))).toArray⟩ ∧ Since w wr ∧ Hid (frmsE ((L.take i).map (·.f)) = 0)) (fun _ s13 _ => n - (intOf s13).toNat)
   case atStart => exact ⟨0, rfl, Nat.zero_le _, by simp [frmsB], hs1, Lib.hid rfl⟩
   case round =>
    obtain ⟨i, rfl, hi, rfl, hs, HE⟩ := hrel
    have hsh := HSH.out i hi HE.out
    by_cases hlt : i < n
    case neg =>
     obtain rfl : i = n := by omega
     have hf : decide ((i : Int) < (i : Int)) = false := by simp
     have hz : L.take i = L := List.take_of_length_le (by rw [HN.out]; exact Nat.le_refl _)
     rw [hz] at HE hsh ⊢
     rw [← HPK.out]
     have hlp : (pktB x known (L.map (·.f))).length ≤ 1445 := by rw [HPK.out, List.length_append]; omega
     clear hz hsh
     by_cases h200 : 200 < (pktB x known (L.map (·.f))).length
     · have p1 := HBIG.out HE.out h200
       have P2 := Lib.hid (pkt_no p1 (by decide))
       have P1 := Lib.hid p1
       have h200' : (200 : Int) < ((pktB x known (L.map (·.f))).length : Int) := by omega
       clear p1
       generalize pktB x known (L.map (·.f)) = Y at *
       go_wp2_with fail
       go_ret2
       exact ⟨by rw [P1.out, P2.out]; rfl, hs⟩
     · obtain ⟨p1, p2⟩ := HOK.out HE.out h200
       have h200' : decide ((200 : Int) < ((pktB x known (L.map (·.f))).length : Int)) = false := by simp; omega
       have P1 := Lib.hid p1
       have P2 := Lib.hid p2
       clear p1 p2
       generalize pktB x known (L.map (·.f)) = Y at *
       go_wp2_with fail
       go_ret2
       exact ⟨by rw [P1.out, P2.out]; rfl, hs⟩
    have hlt' : (i : Int) < (n : Int) := by omega
    have hil : i < L.length := by rw [HN.out]; exact hlt
    obtain ⟨b, off, rfl, hbl, hc⟩ := H.out.rd.frm hil
    obtain ⟨c0, c1, c2⟩ := hc wr hs i hil
    have lb : b < wr.heap.size := Nat.lt_of_lt_of_le hbl hs.le
    have HT := Lib.hid (frmsB_take hil)
    have HPI := Lib.hid (H.out.each L[i] (List.getElem_mem hil))
    obtain ⟨u1, u2⟩ := frmsE_upto hil HE.out
    have U1 := Lib.hid u1
    have U2 := Lib.hid u2
    have HC := Lib.hid hc
    have HS1 := Lib.hid (HSH.out (i + 1) (by omega))
    rw [HT.out, List.length_append] at HS1
    clear hc u1 u2 c0 c1 c2
    have HCC := Lib.hid (fun W hW => HC.out W hW i hil)
    generalize L[i] = p at *
    obtain ⟨c0, c1, c2⟩ := HCC.out wr hs
    clear hil
    obtain ⟨U, hU⟩ : ∃ U, hd ++ frmsB ((L.take i).map (·.f)) = U := ⟨_, rfl⟩
    have hUl : U.length ≤ 1445 := by rw [← hU, List.length_append]; omega
    have HU := Lib.hid hU
    rw [hU]
    clear hU hsh
    have RF := Lib.hid (fun W h1 => rframe p W h1)
    have RB := Lib.hid (fun W h1 h2 => rfbytes p W h1 h2)
    unfold FrmV.agg at RF RB
    go_wp2_with fail
    refine (RF.out _ (HPI.out.later hs)).mono ?_
    rintro e w2 ⟨rfl, hb2⟩
    have hs2 : Since w w2 := hs.later hb2
    clear hb2
    by_cases hE : frmE p.f = 0
    case neg =>
     have p1 := HFRM.out (by rw [U2.out hE]; exact hE)
     have P2 := Lib.hid (pkt_no p1 (by rw [U2.out hE]; exact hE))
     have P1 := Lib.hid (p1.trans (U2.out hE))
     have hE' : (frmE p.f != 0) = true := by simpa using hE
     clear p1 hE
     go_wp2_with fail
     go_ret2
     exact ⟨by rw [P1.out, P2.out]; rfl, hs2⟩
    have HE2 := Lib.hid (U1.out hE)
    have HEI := Lib.hid hE
    rw [hE]
    obtain ⟨c0, c1, c2⟩ := HCC.out w2 hs2
    have lb2 : b < w2.heap.size := Nat.lt_of_lt_of_le hbl hs2.le
    have hov : U.length + (frmB p.f).length ≤ 9223372036854775807 := by have := HS1.out HE2.out; omega
    clear hE
    go_wp2_with fail
    refine (RB.out _ (HPI.out.later hs2) HEI.out).mono ?_
    rintro e w3 ⟨rfl, hb3⟩
    have hs3 : Since w w3 := hs2.later hb3
    clear hb3
    generalize hFB : frmB p.f = Y at *
    go_wp2_with fail
    go_roundw
    case rel => exact ⟨i + 1, by go_num, by omega, by rw [HT.out, ← List.append_assoc, HU.out, bapp], hs3, HE2⟩
    case measure => simp [intOf]; omega
  have hi : (m : Int) - 1 - (j : Int) = ((m - 1 - j : Nat) : Int) := by omega
  rw [hi]
  obtain ⟨i, hi2⟩ : ∃ i, m - 1 - j = i := ⟨_, rfl⟩
  have HI2 := Lib.hid hi2
  rw [hi2]
  have hi4 : i = 0 ∨ i = 1 ∨ i = 2 ∨ i = 3 := by omega
  clear hi hi2
  have HS := Lib.hid hS
  have HML2 : Hid ((((hdZ x m).take (j + 1)).map u8Row).length = j + 1) := Lib.hid (by have := hdZ_len (n := x) b1 b2; simp; omega)
  have HT := Lib.hid (hdZ_nextR (n := x) (j := j) (by omega) (by omega) HI2.out hlt)
  clear hS
  rcases hi4 with rfl | rfl | rfl | rfl
  · have HX := Lib.hid (show shB x 0 = x % 256 from rfl)
    go_wp2_with fail
    refine (rround_0 _).mono ?_
    rintro e w1 ⟨rfl, rfl⟩
    go_wp2_with (at_builtin; refine wpList_push rfl _ _ 131 rfl 5 1 1 Tryz.elU8 (.slice (some ⟨q, 0, none⟩) (j + 1) cp) (((hdZ x m).take (j + 1)).map u8Row) rfl (HS.out.ls.alloc _) wr.heap.size 1 [.int .u8 (x % 256)] rfl rfl (u8Row_one _).2 (BlockIs.fresh _ _ _) (by rw [HML2.out]; omega) ?_; intro q9 cq w5 hl5 ho5 hq5 hlt5; rw [HML2.out] at hl5; (try rw [HML2.out]); have HN5 := Lib.hid (HS.out.step (HT.out) HX.out HML2.out hl5 ho5 hq5); clear hl5 ho5 hq5 hlt5)
    go_roundw
    case rel => exact ⟨j + 1, q9, cq, rfl, by have := HI2.out; first | (simp; omega) | (congr 1; omega), by omega, HN5.out⟩
    case measure => (simp [intOf]; try omega)
  · have HX := Lib.hid (show shB x 1 = x / 256 % 256 from rfl)
    go_wp2_with fail
    refine (rround_any 1 (by decide) (by decide) _).mono ?_
    rintro e w1 ⟨rfl, rfl⟩
    simp only [rnd]
    go_wp2_with (at_builtin; refine wpList_push rfl _ _ 131 rfl 5 1 1 Tryz.elU8 (.slice (some ⟨q, 0, none⟩) (j + 1) cp) (((hdZ x m).take (j + 1)).map u8Row) rfl (HS.out.ls.alloc _) wr.heap.size 1 [.int .u8 (x / 256 % 256)] rfl rfl (u8Row_one _).2 (BlockIs.fresh _ _ _) (by rw [HML2.out]; omega) ?_; intro q9 cq w5 hl5 ho5 hq5 hlt5; rw [HML2.out] at hl5; (try rw [HML2.out]); have HN5 := Lib.hid (HS.out.step (HT.out) HX.out HML2.out hl5 ho5 hq5); clear hl5 ho5 hq5 hlt5)
    go_roundw
    case rel => exact ⟨j + 1, q9, cq, rfl, by have := HI2.out; first | (simp; omega) | (congr 1; omega), by omega, HN5.out⟩
    case measure => (simp [intOf]; try omega)
  · have HX := Lib.hid (show shB x 2 = x / 65536 % 256 from rfl)
    go_wp2_with fail
    refine (rround_any 2 (by decide) (by decide) _).mono ?_
    rintro e w1 ⟨rfl, rfl⟩
    simp only [rnd]
    go_wp2_with (at_builtin; refine wpList_push rfl _ _ 131 rfl 5 1 1 Tryz.elU8 (.slice (some ⟨q, 0, none⟩) (j + 1) cp) (((hdZ x m).take (j + 1)).map u8Row) rfl (HS.out.ls.alloc _) wr.heap.size 1 [.int .u8 (x / 65536 % 256)] rfl rfl (u8Row_one _).2 (BlockIs.fresh _ _ _) (by rw [HML2.out]; omega) ?_; intro q9 cq w5 hl5 ho5 hq5 hlt5; rw [HML2.out] at hl5; (try rw [HML2.out]); have HN5 := Lib.hid (HS.out.step (HT.out) HX.out HML2.out hl5 ho5 hq5); clear hl5 ho5 hq5 hlt5)
    go_roundw
    case rel => exact ⟨j + 1, q9, cq, rfl, by have := HI2.out; first | (simp; omega) | (congr 1; omega), by omega, HN5.out⟩
    case measure => (simp [intOf]; try omega)
  · have HX := Lib.hid (show shB x 3 = x / 16777216 % 256 from rfl)
    go_wp2_with fail
    refine (rround_any 3 (by decide) (by decide) _).mono ?_
    rintro e w1 ⟨rfl, rfl⟩
    simp only [rnd]
    go_wp2_with (at_builtin; refine wpList_push rfl _ _ 131 rfl 5 1 1 Tryz.elU8 (.slice (some ⟨q, 0, none⟩) (j + 1) cp) (((hdZ x m).take (j + 1)).map u8Row) rfl (HS.out.ls.alloc _) wr.heap.size 1 [.int .u8 (x / 16777216 % 256)] rfl rfl (u8Row_one _).2 (BlockIs.fresh _ _ _) (by rw [HML2.out]; omega) ?_; intro q9 cq w5 hl5 ho5 hq5 hlt5; rw [HML2.out] at hl5; (try rw [HML2.out]); have HN5 := Lib.hid (HS.out.step (HT.out) HX.out HML2.out hl5 ho5 hq5); clear hl5 ho5 hq5 hlt5)
    go_roundw
    case rel => exact ⟨j + 1, q9, cq, rfl, by have := HI2.out; first | (simp; omega) | (congr 1; omega), by omega, HN5.out⟩
    case measure => (simp [intOf]; try omega)
def openAt (T : List Bool) (last i : Nat) : Bool := decide (i < last) && !tat T i
theorem openAt_iff {T : List Bool} {last i : Nat} : openAt T last i = true ↔ i < last ∧ tat T i = false := by
 unfold openAt
 rw [Bool.and_eq_true, decide_eq_true_eq, Bool.not_eq_true']
theorem openAt_not {T : List Bool} {last i : Nat} (h : openAt T last i = false) : ¬ (i < last ∧ tat T i = false) := fun hc => by
 rw [openAt_iff.2 hc] at h; cases h
structure Scan (T : List Bool) (last : Nat) (data : ByteArray) (Q : List Pc) (i : Nat) (P : List Pc) (from_ : Int) : Prop where
 few : P.length ≤ 3
 at_ : (from_ = -1 ∧ P ++ pcsR T last data i (3 - P.length) = Q) ∨
  (∃ a : Nat, from_ = a ∧ a < i ∧ i ≤ last ∧ i - a ≤ 20 ∧ (∀ j, j < i - a → a + j < last ∧ tat T (a + j) = false) ∧ P ++ pcsR T last data a (3 - P.length) = Q)
namespace Scan
variable {T : List Bool} {last : Nat} {data : ByteArray} {Q : List Pc} {i : Nat} {P : List Pc}
theorem start : Scan T last data (pcsR T last data 0 3) 0 [] (-1) := ⟨by simp, Or.inl ⟨rfl, rfl⟩⟩
theorem bound {f : Int} (h : Scan T last data Q i P f) : f = -1 ∨ ∃ a : Nat, f = a ∧ a < i ∧ i ≤ last ∧ i - a ≤ 20 := by
 rcases h.at_ with ⟨h1, _⟩ | ⟨a, h1, h2, h3, h4, _⟩
 · exact Or.inl h1
 · exact Or.inr ⟨a, h1, h2, h3, h4⟩
theorem strN_at {a : Nat} (h2 : a < i) (h4 : i - a ≤ 20) (h5 : ∀ j, j < i - a → a + j < last ∧ tat T (a + j) = false) (hc : openAt T last i = false ∨ i - a = 20) : strN T last 20 a = i - a := by
 refine strN_eq h4 h5 ?_
 rcases hc with hc | hc
 · right
   rw [show a + (i - a) = i by omega]
   exact openAt_not hc
 · exact Or.inl hc
theorem close {a : Nat} (h : Scan T last data Q i P (a : Int)) (hc : openAt T last i = false ∨ i - a = 20) (hP : P.length < 3) : Scan T last data Q i (P ++ [⟨a, data.extract a i⟩]) (-1) := by
 rcases h.at_ with ⟨h1, _⟩ | ⟨a', h1, h2, h3, h4, h5, h6⟩
 · omega
 · obtain rfl : a = a' := by omega
   have hs := strN_at h2 h4 h5 hc
   refine ⟨by rw [List.length_append, List.length_singleton]; omega, Or.inl ⟨rfl, ?_⟩⟩
   rw [pcsR_take (by omega) (by omega) (by omega), hs, show a + (i - a) = i by omega] at h6
   rw [← h6, List.length_append, List.length_singleton, List.append_assoc, show 3 - (P.length + 1) = 3 - P.length - 1 by omega]
   rfl
theorem drop {a : Nat} (h : Scan T last data Q i P (a : Int)) (hP : ¬ P.length < 3) : Scan T last data Q i P (-1) := by
 have hf := h.few
 have e : 3 - P.length = 0 := by omega
 rcases h.at_ with ⟨h1, _⟩ | ⟨a', h1, h2, h3, h4, h5, h6⟩
 · omega
 · refine ⟨hf, Or.inl ⟨rfl, ?_⟩⟩
   rw [e, pcsR_none (by omega)] at h6 ⊢
   exact h6
theorem begin_ (h : Scan T last data Q i P (-1)) (ho : openAt T last i = true) : Scan T last data Q (i + 1) P (i : Int) := by
 have h0 := openAt_iff.1 ho
 rcases h.at_ with ⟨_, h6⟩ | ⟨a', h1, _⟩
 · refine ⟨h.few, Or.inr ⟨i, rfl, by omega, by omega, by omega, fun j hj => ?_, h6⟩⟩
   have : j = 0 := by omega
   subst this
   exact h0
 · omega
theorem skip (h : Scan T last data Q i P (-1)) (ho : openAt T last i = false) : Scan T last data Q (i + 1) P (-1) := by
 rcases h.at_ with ⟨_, h6⟩ | ⟨a', h1, _⟩
 · refine ⟨h.few, Or.inl ⟨rfl, ?_⟩⟩
   rw [← pcsR_skip (by rw [strN, if_neg (openAt_not ho)])]
   exact h6
 · omega
theorem goes {a : Nat} (h : Scan T last data Q i P (a : Int)) (ho : openAt T last i = true) (hn : ¬ i - a = 20) : Scan T last data Q (i + 1) P (a : Int) := by
 have h0 := openAt_iff.1 ho
 rcases h.at_ with ⟨h1, _⟩ | ⟨a', h1, h2, h3, h4, h5, h6⟩
 · omega
 · obtain rfl : a = a' := by omega
   refine ⟨h.few, Or.inr ⟨a, rfl, by omega, by omega, by omega, fun j hj => ?_, h6⟩⟩
   by_cases hj2 : j < i - a
   · exact h5 j hj2
   · have : a + j = i := by omega
     rw [this]; exact h0
theorem done {f : Int} (h : Scan T last data Q (last + 1) P f) : P = Q := by
 rcases h.at_ with ⟨_, h6⟩ | ⟨a', _, _, h3, _⟩
 · rw [pcsR_none (by omega), List.append_nil] at h6
   exact h6
 · omega
end Scan
end Go.Proofs.YtmfbaijbigodkaaGreatDoor
