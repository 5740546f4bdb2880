/- Contracts and plain laws that the claim leans on, part 4 of 6: each part has its own word. No condition beside theirs. -/
import Derived.Test.YtaindcicloapfaaDoorBase
import Derived.Test.YtaindcicloapfaaDoorOnly
import Derived.Test.YtaindcicloapfaaDoorMay
import Derived.Test.YtaindcicloapfaaDoorCredit
import Derived.Test.YtaindcicloapfaaDoorZC
import Derived.Shelf.SlSortCmp.WholeK
import Derived.OwnWalk
import Derived.WalkSpells
import Derived.Deep.RegionLaw
import Derived.Deep.QuietTactic
import Derived.BigQuiet
import Derived.BigRegion
/-! Contract of packet.Print. Condition: the frames can be read; the tables hold what the program's text lays. -/
namespace Go.Proofs.YtaindcicloapfaaDoor
open Go.ChangeShapes Go.WideShapes Go.ChangeAt Go.RowKit
set_option linter.unusedVariables false

theorem pkt_need {x known : Int} {L : List Frm} (h : ¬ NeedOk x known) : pktE x known L = 1 ∧ pktV x known L = [] := by
  have e : pktE x known L = 1 := by unfold pktE; rw [if_neg h]
  exact ⟨e, by unfold pktV; rw [if_neg (by rw [e]; decide)]⟩
theorem pkt_no {x known : Int} {L : List Frm} {k : Int} (e : pktE x known L = k) (hk : k ≠ 0) : pktV x known L = [] := by unfold pktV; rw [if_neg (by rw [e]; exact hk)]
theorem pkt_nil {x known : Int} (h : NeedOk x known) : pktE x known [] = 5 := by unfold pktE; rw [if_pos h, if_pos rfl]
theorem pkt_many {x known : Int} {L : List Frm} (h : NeedOk x known) (h2 : 12 < L.length) : pktE x known L = 4 := by
  unfold pktE; rw [if_pos h, if_neg (by intro h3; rw [h3] at h2; simp at h2), if_pos h2]
theorem pkt_frm {x known : Int} {L : List Frm} (h : NeedOk x known) (h0 : L ≠ []) (h2 : ¬ 12 < L.length) (h3 : frmsE L ≠ 0) : pktE x known L = frmsE L := by
  unfold pktE; rw [if_pos h, if_neg h0, if_neg h2, if_neg h3]
theorem pkt_big {x known : Int} {L : List Frm} (h : NeedOk x known) (h0 : L ≠ []) (h2 : ¬ 12 < L.length) (h3 : frmsE L = 0) (h4 : 200 < (pktB x known L).length) : pktE x known L = 4 := by
  unfold pktE; rw [if_pos h, if_neg h0, if_neg h2, if_pos h3, if_pos h4]
theorem pkt_ok {x known : Int} {L : List Frm} (h : NeedOk x known) (h0 : L ≠ []) (h2 : ¬ 12 < L.length) (h3 : frmsE L = 0) (h4 : ¬ 200 < (pktB x known L).length) : pktE x known L = 0 ∧ pktV x known L = pktB x known L := by
  have e : pktE x known L = 0 := by unfold pktE; rw [if_pos h, if_neg h0, if_neg h2, if_pos h3, if_neg h4]
  exact ⟨e, by unfold pktV; rw [if_pos e]⟩
theorem frmsE_upto {L : List FrmV} {i : Nat} (h : i < L.length) (hE : frmsE ((L.take i).map (·.f)) = 0) : (frmE L[i].f = 0 → frmsE ((L.take (i + 1)).map (·.f)) = 0) ∧ (frmE L[i].f ≠ 0 → frmsE (L.map (·.f)) = frmE L[i].f) := by
  constructor
  · intro h0
    rw [List.take_succ_eq_append_getElem h, List.map_append, frmsE_app_ok hE]
    simp [frmsE, h0]
  · intro h0
    have hsp : L = L.take i ++ (L[i] :: L.drop (i + 1)) := by
      rw [← List.drop_eq_getElem_cons h, List.take_append_drop]
    have e : frmsE (L.map (·.f)) = frmsE ((L.take i ++ (L[i] :: L.drop (i + 1))).map (·.f)) := congrArg (fun M => frmsE (M.map (·.f))) hsp
    rw [e, List.map_append, List.map_cons, frmsE_bad hE h0]

set_option maxHeartbeats 3200000 in
set_option maxRecDepth 100000 in
theorem pkprint (x known : Int) (A : Option Addr) (n cap : Nat) (L : List FrmV) (w : World) (hn : L.length = n) (h : FrmsIn w (.slice A n cap) L) (hK : KTab w) (hC : CTab w) :
    Calls Tryd.prog 24 #[.int .i64 x, .int .i64 known, .slice A n cap] w fun e w' => e = .returned (.tuple #[.string ⟨(pktV x known (L.map (·.f))).toArray⟩, errV (pktE x known (L.map (·.f)))]) ∧ Below w.heap.size w w' := by
  have HN := Lib.hid hn
  have H := Lib.hid h
  have HK := Lib.hid hK
  have HC := Lib.hid hC
  have hcm := (rd_cap h.rd).2
  have HML : Hid ((L.map (·.f)).length = n) := Lib.hid (by rw [List.length_map, hn])
  clear hn h hK hC
  by_cases hN : NeedOk x known
  case neg =>
    obtain ⟨p1, p2⟩ := pkt_need (L := L.map (·.f)) hN
    have P1 := Lib.hid p1
    have P2 := Lib.hid p2
    have NE : Hid (needV x known = 0 ∧ needE x known = 1) := Lib.hid ⟨by unfold needV; rw [if_neg hN], by unfold needE; rw [if_neg hN]⟩
    clear p1 p2 hN
    go_enter Tryd.func24, Tryd.ntmps24
    go_wp2_with fail
    refine (need_any x known _).mono ?_
    rintro e w1 ⟨rfl, rfl⟩
    rw [NE.out.1, NE.out.2, errV_pos (by decide)]
    trace "A"; go_wp2_with fail
    go_ret2
    exact ⟨by rw [P1.out, P2.out]; rfl, Below.refl _ _⟩
  have HNO := Lib.hid hN
  have NE : Hid (needE x known = 0) := Lib.hid (by unfold needE; rw [if_pos hN])
  clear hN
  by_cases h0 : n = 0
  · subst h0
    have hl0 : L.map (·.f) = [] := List.length_eq_zero_iff.1 HML.out
    have p1 := pkt_nil HNO.out
    rw [← hl0] at p1
    have P1 := Lib.hid p1
    have P2 := Lib.hid (pkt_no p1 (by decide))
    clear hl0 p1
    go_enter Tryd.func24, Tryd.ntmps24
    go_wp2_with fail
    refine (need_any x known _).mono ?_
    rintro e w1 ⟨rfl, rfl⟩
    rw [NE.out, errV_zero]
    trace "B"; go_wp2_with fail
    go_ret2
    exact ⟨by rw [P1.out, P2.out]; rfl, Below.refl _ _⟩
  have h0' : ((n : Int) == 0) = false := by rw [beq_eq_false_iff_ne]; omega
  have HNE : Hid (L.map (·.f) ≠ []) := Lib.hid (fun hh => by have := HML.out; rw [hh] at this; simp at this; omega)
  clear h0
  by_cases h12 : 12 < n
  · have h12' : (12 : Int) < (n : Int) := by omega
    have p1 := pkt_many (L := L.map (·.f)) HNO.out (by rw [HML.out]; exact h12)
    have P1 := Lib.hid p1
    have P2 := Lib.hid (pkt_no p1 (by decide))
    clear p1
    go_enter Tryd.func24, Tryd.ntmps24
    go_wp2_with fail
    refine (need_any x known _).mono ?_
    rintro e w1 ⟨rfl, rfl⟩
    rw [NE.out, errV_zero]
    trace "C"; go_wp2_with fail
    go_ret2
    exact ⟨by rw [P1.out, P2.out]; rfl, Below.refl _ _⟩
  have h12' : decide ((12 : Int) < (n : Int)) = false := by simp; omega
  have HF : Hid (frmsE (L.map (·.f)) ≠ 0 → pktE x known (L.map (·.f)) = frmsE (L.map (·.f))) := Lib.hid (fun hh => pkt_frm HNO.out HNE.out (by rw [HML.out]; exact h12) hh)
  have HBG : Hid (frmsE (L.map (·.f)) = 0 → 200 < (pktB x known (L.map (·.f))).length → pktE x known (L.map (·.f)) = 4) := Lib.hid (fun h3 h4 => pkt_big HNO.out HNE.out (by rw [HML.out]; exact h12) h3 h4)
  have HOK : Hid (frmsE (L.map (·.f)) = 0 → ¬ 200 < (pktB x known (L.map (·.f))).length → pktE x known (L.map (·.f)) = 0 ∧ pktV x known (L.map (·.f)) = pktB x known (L.map (·.f))) := Lib.hid (fun h3 h4 => pkt_ok HNO.out HNE.out (by rw [HML.out]; exact h12) h3 h4)
  have PB := Lib.hid (fun W h1 h2 h3 => pkbytes x known A n cap L W HN.out (by omega) h1 h2 HNO.out h3)
  clear h12
  go_enter Tryd.func24, Tryd.ntmps24
  go_wp2_with fail
  refine (need_any x known _).mono ?_
  rintro e w1 ⟨rfl, rfl⟩
  rw [NE.out, errV_zero]
  trace "D"; go_wp2_with fail
  go_loopw [36] (fun s36 wr => ∃ i : Nat, s36 = .int .i64 i ∧ i ≤ n ∧ Hid (frmsE ((L.take i).map (·.f)) = 0) ∧ Since w wr) (fun s36 _ => n - (intOf s36).toNat)
  case atStart => exact ⟨0, rfl, Nat.zero_le _, Lib.hid rfl, Since.refl _⟩
  case round =>
    obtain ⟨i, rfl, hi, HU, hs⟩ := hrel
    by_cases hlt : i < n
    case neg =>
      obtain rfl : i = n := by omega
      have hf : decide ((i : Int) < (i : Int)) = false := by simp
      have HE0 : Hid (frmsE (L.map (·.f)) = 0) := Lib.hid (by have := HU.out; rw [List.take_of_length_le (by rw [HN.out]; exact Nat.le_refl _)] at this; exact this)
      trace "E"; go_wp2_with fail
      refine (PB.out _ (H.out.later hs) HE0.out (HK.out.later hs)).mono ?_
      rintro e w5 ⟨rfl, hb5⟩
      have hs5 := hs.later hb5
      clear hb5
      by_cases h2 : 200 < (pktB x known (L.map (·.f))).length
      · have p1 := HBG.out HE0.out h2
        have P1 := Lib.hid p1
        have P2 := Lib.hid (pkt_no p1 (by decide))
        have h2' : (200 : Int) < ((pktB x known (L.map (·.f))).length : Int) := by omega
        clear p1 HF HBG HOK
        generalize pktB x known (L.map (·.f)) = Y at *
        trace "F"; go_wp2_with fail
        go_ret2
        exact ⟨by rw [P1.out, P2.out]; rfl, hs5⟩
      · obtain ⟨p1, p2⟩ := HOK.out HE0.out h2
        have P1 := Lib.hid p1
        have P2 := Lib.hid p2
        have h2' : decide ((200 : Int) < ((pktB x known (L.map (·.f))).length : Int)) = false := by simp; omega
        clear p1 p2 HF HBG HOK
        generalize pktB x known (L.map (·.f)) = Y at *
        trace "G"; go_wp2_with fail
        go_ret2
        exact ⟨by rw [P1.out, P2.out]; rfl, hs5⟩
    have hlt' : (i : Int) < (n : Int) := by omega
    have hil : i < L.length := by rw [HN.out]; exact hlt
    obtain ⟨b, off, rfl, hbl, hc⟩ := H.out.rd.frm hil
    obtain ⟨c0, c1, c2⟩ := hc wr hs i hil
    have lb : b < wr.heap.size := Nat.lt_of_lt_of_le hbl hs.le
    have HPI := Lib.hid (H.out.each L[i] (List.getElem_mem hil))
    obtain ⟨y1, y2⟩ := frmsE_upto hil HU.out
    have Y1 := Lib.hid y1
    have Y2 := Lib.hid y2
    clear hc y1 y2
    generalize L[i] = p at *
    have FC := Lib.hid (fun W h1 h2 => fcheck p W h1 h2)
    unfold FrmV.agg at FC
    clear hil
    trace "H"; go_wp2_with fail
    refine (FC.out _ (HPI.out.later (by refine Since.out ?_; repeat (first | with_reducible assumption | with_reducible exact Since.refl _ | with_reducible refine Since.later ?_ (by with_reducible assumption) | with_reducible refine Since.only ?_ (by with_reducible assumption) (by first | assumption | omega | (simp; done) | (simp; omega)) | with_reducible refine Since.alloc ?_ _ | with_reducible refine Since.drewN ?_ _ | with_reducible refine Since.drew ?_ | with_reducible refine Since.set ?_ (by first | assumption | omega | (simp; done) | (simp; omega)) _))) (HC.out.later (by refine Since.out ?_; repeat (first | with_reducible assumption | with_reducible exact Since.refl _ | with_reducible refine Since.later ?_ (by with_reducible assumption) | with_reducible refine Since.only ?_ (by with_reducible assumption) (by first | assumption | omega | (simp; done) | (simp; omega)) | with_reducible refine Since.alloc ?_ _ | with_reducible refine Since.drewN ?_ _ | with_reducible refine Since.drew ?_ | with_reducible refine Since.set ?_ (by first | assumption | omega | (simp; done) | (simp; omega)) _)))).mono ?_
    rintro e w2 ⟨rfl, hb2⟩
    have hs2 : Since w w2 := (by refine Since.out ?_; repeat (first | with_reducible assumption | with_reducible exact Since.refl _ | with_reducible refine Since.later ?_ (by with_reducible assumption) | with_reducible refine Since.only ?_ (by with_reducible assumption) (by first | assumption | omega | (simp; done) | (simp; omega)) | with_reducible refine Since.alloc ?_ _ | with_reducible refine Since.drewN ?_ _ | with_reducible refine Since.drew ?_ | with_reducible refine Since.set ?_ (by first | assumption | omega | (simp; done) | (simp; omega)) _))
    clear hb2
    by_cases hE : frmE p.f = 0
    · have Y3 := Lib.hid (Y1.out hE)
      rw [hE, errV_zero]
      clear hE
      trace "I"; go_wp2_with fail
      go_roundw
      case rel => exact ⟨i + 1, by go_num, by omega, Y3, hs2⟩
      case measure => simp [intOf]; omega
    · have y3 := Y2.out hE
      have p1 := HF.out (by rw [y3]; exact hE)
      rw [y3] at p1
      have P1 := Lib.hid p1
      have P2 := Lib.hid (pkt_no p1 hE)
      have HEE := Lib.hid hE
      rw [errV_pos hE]
      clear hE y3 p1
      trace "J"; go_wp2_with fail
      go_ret2
      exact ⟨by rw [P1.out, P2.out, errV_pos HEE.out]; rfl, hs2⟩
end Go.Proofs.YtaindcicloapfaaDoor

/-! A stream's sixty places as a list: what Put, Ready, Take and Gaps say of it. No program here. -/
namespace Go.Proofs.YtaindcicloapfaaDoor
set_option linter.unusedVariables false

/-- places, a byte or none in each -/
abbrev Plc := List (Option UInt8)
def Plc.at (M : Plc) (i : Nat) : Option UInt8 := M.getD i none
def Plc.new : Plc := List.replicate 60 none
theorem Plc.new_len : Plc.new.length = 60 := by simp [Plc.new]
theorem Plc.new_at (i : Nat) : Plc.new.at i = none := by
  unfold Plc.at Plc.new List.getD
  rw [List.getElem?_replicate]
  split <;> rfl
theorem Plc.far {M : Plc} {i : Nat} (h : M.length ≤ i) : M.at i = none := by unfold Plc.at; simp [List.getD, List.getElem?_eq_none h]
theorem Plc.at_set {M : Plc} {i j : Nat} {o : Option UInt8} (h : i < M.length) : Plc.at (M.set i o) j = if i = j then o else M.at j := by
  unfold Plc.at
  simp only [List.getD, List.getElem?_set]
  by_cases hij : i = j
  · subst hij
    simp [h]
  · simp [hij]
/-- a byte of a list, 0 beyond the end -/
def bth (d : List UInt8) (i : Nat) : UInt8 := d.getD i 0
theorem bth_get {d : ByteArray} {i : Nat} (h : i < d.size) : bth d.data.toList i = d[i] := by
  unfold bth
  have h1 : i < d.data.toList.length := by rw [Array.length_toList]; exact h
  simp only [List.getD, List.getElem?_eq_getElem h1, Option.getD_some, Array.getElem_toList]
  rfl
/-- there is another byte at one of the first n places from a on -/
def clashN (M : Plc) (a : Nat) (d : List UInt8) : Nat → Bool
  | 0 => false
  | n + 1 => clashN M a d n || (match M.at (a + n) with | some y => y != bth d n | none => false)
theorem clashN_no {M : Plc} {a : Nat} {d : List UInt8} : ∀ {n : Nat}, (clashN M a d n = false ↔ ∀ i, i < n → ∀ y, M.at (a + i) = some y → y = bth d i)
  | 0 => by simp [clashN]
  | n + 1 => by
    have ih := clashN_no (M := M) (a := a) (d := d) (n := n)
    unfold clashN
    rw [Bool.or_eq_false_iff, ih]
    constructor
    · rintro ⟨h1, h2⟩ i hi y hy
      rcases Nat.lt_succ_iff_lt_or_eq.1 hi with h | h
      · exact h1 i h y hy
      · subst h
        rw [hy] at h2
        simpa using h2
    · intro h
      refine ⟨fun i hi y hy => h i (by omega) y hy, ?_⟩
      cases hm : M.at (a + n) with
      | none => rfl
      | some y => simpa using h n (by omega) y hm
theorem clashN_mono {M : Plc} {a : Nat} {d : List UInt8} {n m : Nat} (h : n ≤ m) (hc : clashN M a d n = true) : clashN M a d m = true := by
  cases hm : clashN M a d m with
  | true => rfl
  | false =>
    have h1 := clashN_no.1 hm
    have h2 : clashN M a d n = false := clashN_no.2 fun i hi y hy => h1 i (by omega) y hy
    rw [hc] at h2
    cases h2
theorem clashN_hit {M : Plc} {a : Nat} {d : List UInt8} {i m : Nat} {y : UInt8} (h : i < m) (hy : M.at (a + i) = some y) (hne : y ≠ bth d i) : clashN M a d m = true := by
  cases hm : clashN M a d m with
  | true => rfl
  | false => exact absurd (clashN_no.1 hm i h y hy) hne
theorem clashN_miss {M : Plc} {a : Nat} {d : List UInt8} {i : Nat} (hc : clashN M a d i = false) (h : ∀ y, M.at (a + i) = some y → y = bth d i) : clashN M a d (i + 1) = false :=
  clashN_no.2 fun j hj y hy => by
    rcases Nat.lt_succ_iff_lt_or_eq.1 hj with h1 | h1
    · exact clashN_no.1 hc j h1 y hy
    · subst h1; exact h y hy
/-- the first n bytes are written from a on -/
def wrN (M : Plc) (a : Nat) (d : List UInt8) : Nat → Plc
  | 0 => M
  | n + 1 => (wrN M a d n).set (a + n) (some (bth d n))
theorem wrN_len (M : Plc) (a : Nat) (d : List UInt8) : ∀ n, (wrN M a d n).length = M.length
  | 0 => rfl
  | n + 1 => by unfold wrN; rw [List.length_set, wrN_len M a d n]
theorem wrN_at {M : Plc} {a : Nat} {d : List UInt8} {j : Nat} : ∀ {n : Nat}, a + n ≤ M.length → (wrN M a d n).at j = if a ≤ j ∧ j < a + n then some (bth d (j - a)) else M.at j
  | 0, h => by rw [if_neg (by omega)]; rfl
  | n + 1, h => by
    unfold wrN
    rw [Plc.at_set (by rw [wrN_len]; omega)]
    by_cases hj : a + n = j
    · subst hj
      rw [if_pos rfl, if_pos (by omega), Nat.add_sub_cancel_left]
    · rw [if_neg hj, wrN_at (by omega)]
      by_cases h1 : a ≤ j ∧ j < a + n
      · rw [if_pos h1, if_pos (by omega)]
      · rw [if_neg h1, if_neg (by omega)]
/-- what Put answers, and what becomes of the places -/
def putE (M : Plc) (x : Int) (d : List UInt8) : Int :=
  if x < 0 ∨ 60 < x then 1 else if 60 < x + (d.length : Int) then 4 else if clashN M x.toNat d d.length = true then 7 else 0
def putM (M : Plc) (x : Int) (d : List UInt8) : Plc := if putE M x d = 0 then wrN M x.toNat d d.length else M
theorem putM_len (M : Plc) (x : Int) (d : List UInt8) : (putM M x d).length = M.length := by
  unfold putM
  split
  · exact wrN_len _ _ _ _
  · rfl
/-- how many lie there one behind the other from t on -/
def readyF (M : Plc) : Nat → Nat → Nat
  | 0, _ => 0
  | f + 1, t => if (M.at t).isSome then readyF M f (t + 1) + 1 else 0
def readyN (M : Plc) (t : Nat) : Nat := readyF M (60 - t) t
theorem readyF_all {M : Plc} : ∀ {f t n : Nat}, (∀ j, j < n → (M.at (t + j)).isSome = true) → n ≤ f → ((M.at (t + n)).isSome = false ∨ n = f) → readyF M f t = n
  | 0, t, n, h, hn, _ => by have : n = 0 := by omega
                            subst this; rfl
  | f + 1, t, 0, h, hn, he => by
    unfold readyF
    rcases he with he | he
    · rw [Nat.add_zero] at he; simp [he]
    · omega
  | f + 1, t, n + 1, h, hn, he => by
    unfold readyF
    have h0 := h 0 (by omega)
    rw [Nat.add_zero] at h0
    rw [if_pos h0]
    have := readyF_all (M := M) (f := f) (t := t + 1) (n := n) (fun j hj => by have := h (j + 1) (by omega); rw [show t + 1 + j = t + (j + 1) by omega]; exact this) (by omega) (by
      rcases he with he | he
      · left; rw [show t + 1 + n = t + (n + 1) by omega]; exact he
      · right; omega)
    rw [this]
theorem readyN_eq {M : Plc} {t n : Nat} (h : ∀ j, j < n → (M.at (t + j)).isSome = true) (hn : t + n ≤ 60) (he : (M.at (t + n)).isSome = false ∨ t + n = 60) : readyN M t = n :=
  readyF_all h (by omega) (he.elim Or.inl (fun h => Or.inr (by omega)))
theorem readyF_le (M : Plc) : ∀ f t, readyF M f t ≤ f
  | 0, t => Nat.le_refl _
  | f + 1, t => by
    unfold readyF
    split
    · have := readyF_le M f (t + 1); omega
    · omega
theorem readyN_le (M : Plc) (t : Nat) (ht : t ≤ 60) : t + readyN M t ≤ 60 := by
  have := readyF_le M (60 - t) t
  unfold readyN
  omega
theorem readyF_some {M : Plc} : ∀ {f t j : Nat}, j < readyF M f t → (M.at (t + j)).isSome = true
  | 0, t, j, h => by simp [readyF] at h
  | f + 1, t, j, h => by
    unfold readyF at h
    split at h
    · rename_i hs
      cases j with
      | zero => exact hs
      | succ j =>
        have := readyF_some (M := M) (f := f) (t := t + 1) (j := j) (by omega)
        rw [show t + (j + 1) = t + 1 + j by omega]
        exact this
    · omega
theorem readyN_some {M : Plc} {t j : Nat} (h : j < readyN M t) : (M.at (t + j)).isSome = true := readyF_some h
/-- how many Take takes, and which -/
def takeK (M : Plc) (t : Nat) (x : Int) : Nat := min x.toNat (readyN M t)
def cutL (M : Plc) (t : Nat) : Nat → List UInt8
  | 0 => []
  | n + 1 => cutL M t n ++ [(M.at (t + n)).getD 0]
theorem cutL_len (M : Plc) (t : Nat) : ∀ n, (cutL M t n).length = n
  | 0 => rfl
  | n + 1 => by unfold cutL; rw [List.length_append, cutL_len M t n]; rfl
theorem cutL_get {M : Plc} {t j : Nat} : ∀ {n : Nat}, j < n → (cutL M t n)[j]? = some ((M.at (t + j)).getD 0)
  | 0, h => by omega
  | n + 1, h => by
    unfold cutL
    by_cases hj : j < n
    · rw [List.getElem?_append_left (by rw [cutL_len]; exact hj)]; exact cutL_get hj
    · have : j = n := by omega
      subst this
      rw [List.getElem?_append_right (by rw [cutL_len]; exact Nat.le_refl _), cutL_len]
      simp
theorem takeK_le (M : Plc) (t : Nat) (x : Int) (ht : t ≤ 60) : t + takeK M t x ≤ 60 := by
  have := readyN_le M t ht
  unfold takeK
  omega
/-- what is missing ahead of what came, of the first n places; and where the next that is missing would begin -/
def gapL (M : Plc) : Nat → List Rng × Nat
  | 0 => ([], 0)
  | n + 1 => if (M.at n).isSome then (if (gapL M n).2 < n then (gapL M n).1 ++ [⟨((gapL M n).2 : Int), (n : Int) - 1⟩] else (gapL M n).1, n + 1) else gapL M n
def gapsOf (M : Plc) : List Rng := (gapL M 60).1
theorem gapL_none {M : Plc} {n : Nat} (h : M.at n = none) : gapL M (n + 1) = gapL M n := by
  rw [gapL, h]
  simp
theorem gapL_some {M : Plc} {n : Nat} {y : UInt8} (h : M.at n = some y) : gapL M (n + 1) = (if (gapL M n).2 < n then (gapL M n).1 ++ [⟨((gapL M n).2 : Int), (n : Int) - 1⟩] else (gapL M n).1, n + 1) := by
  rw [gapL, h]
  simp
theorem gapL_le (M : Plc) : ∀ n, (gapL M n).1.length ≤ n ∧ (gapL M n).2 ≤ n
  | 0 => by simp [gapL]
  | n + 1 => by
    have ih := gapL_le M n
    cases h : M.at n with
    | none => rw [gapL_none h]; omega
    | some y =>
      rw [gapL_some h]
      refine ⟨?_, Nat.le_refl _⟩
      show (if _ then _ else _ : List Rng).length ≤ _
      split
      · simp; omega
      · omega
/-- what lies from the beginning on has no gaps ahead of it -/
theorem gapL_full {M : Plc} {k : Nat} (h : ∀ j, j < k → (M.at j).isSome = true) (h2 : ∀ j, k ≤ j → M.at j = none) : ∀ n, gapL M n = ([], min n k)
  | 0 => by simp [gapL]
  | n + 1 => by
    have ih := gapL_full h h2 n
    by_cases hn : n < k
    · have hs := h n hn
      obtain ⟨y, hy⟩ := Option.isSome_iff_exists.1 hs
      rw [gapL_some hy, ih]
      simp only
      rw [if_neg (by omega)]
      congr 1
      omega
    · rw [gapL_none (h2 n (by omega)), ih]
      congr 1
      omega
/-- every byte that is there is the text's -/
def Of (M : Plc) (d : List UInt8) : Prop := ∀ i y, M.at i = some y → i < d.length ∧ bth d i = y
theorem Of.new (d : List UInt8) : Of Plc.new d := fun i y h => by rw [Plc.new_at] at h; cases h
theorem bth_drop (d : List UInt8) (a b i : Nat) (h : i < b - a) : bth ((d.take b).drop a) i = bth d (a + i) := by
  unfold bth
  simp only [List.getD, List.getElem?_drop, List.getElem?_take]
  rw [if_pos (by omega)]
theorem cut_len (d : List UInt8) {a b : Nat} (hb : b ≤ d.length) : ((d.take b).drop a).length = b - a := by
  rw [List.length_drop, List.length_take, Nat.min_eq_left hb]
theorem Of.put {M : Plc} {d : List UInt8} (hM : M.length = 60) (h : Of M d) (hd : d.length ≤ 60) {a b : Nat} (hab : a ≤ b) (hb : b ≤ d.length) :
    putE M a ((d.take b).drop a) = 0 ∧ Of (putM M a ((d.take b).drop a)) d ∧ (∀ i, (putM M a ((d.take b).drop a)).at i = if a ≤ i ∧ i < b then some (bth d i) else M.at i) := by
  have hl := cut_len d (a := a) hb
  have e0 : putE M a ((d.take b).drop a) = 0 := by
    unfold putE
    rw [if_neg (by omega), if_neg (by rw [hl]; omega)]
    rw [if_neg]
    intro hc
    have hn : clashN M (a : Int).toNat ((d.take b).drop a) ((d.take b).drop a).length = false := clashN_no.2 fun i hi y hy => by
      rw [hl] at hi
      rw [bth_drop d a b i hi]
      simp at hy
      exact ((h _ _ hy).2).symm
    rw [hn] at hc
    cases hc
  have e1 : ∀ i, (putM M a ((d.take b).drop a)).at i = if a ≤ i ∧ i < b then some (bth d i) else M.at i := by
    intro i
    unfold putM
    rw [if_pos e0, wrN_at (by rw [hl]; simp; omega), hl]
    simp only [Int.toNat_natCast]
    by_cases hi : a ≤ i ∧ i < b
    · rw [if_pos (by omega), if_pos hi, bth_drop d a b (i - a) (by omega), show a + (i - a) = i by omega]
    · rw [if_neg (by omega), if_neg hi]
  refine ⟨e0, fun i y hy => ?_, e1⟩
  rw [e1] at hy
  split at hy
  · simp at hy
    exact ⟨by omega, hy⟩
  · exact h i y hy
end Go.Proofs.YtaindcicloapfaaDoor

/-! Contracts of package credit and its reference in one piece each: what each answers, and what becomes of the credit's block. Condition: the block holds a credit as New and the calls leave it. -/
namespace Go.Proofs.YtaindcicloapfaaDoor
open Go.ChangeShapes Go.WideShapes Go.ChangeAt Go.RowKit
set_option linter.unusedVariables false

/-- what came behind a Take -/
def tC (L C u : Int) : Int := if takeE L u = 0 then maxN C u else C
/-- the limit behind a Read -/
def rL (W L C R n : Int) : Int := if readE W L C R n = 0 then limitN W L R n else L
/-- what was read behind a Read -/
def rR (W L C R n : Int) : Int := if readE W L C R n = 0 then R + n else R
/-- what Read answers -/
def rV (W L C R n : Int) : Int := if readE W L C R n = 0 then limitN W L R n else 0
theorem tC_ok {W L C R : Int} (u : Int) (h : CredOk W L C R) : CredOk W L (tC L C u) R := by
  obtain ⟨w1, w2, r1, k1, k2, l1, l2, lo, hi⟩ := h
  unfold tC
  split
  · rename_i h0
    obtain ⟨h1, h2, h3⟩ := takeE_ok h0
    unfold maxN
    split <;> exact ⟨w1, w2, r1, by omega, by omega, l1, l2, lo, hi⟩
  · exact ⟨w1, w2, r1, k1, k2, l1, l2, lo, hi⟩
theorem rLR_ok {W L C R : Int} (n : Int) (h : CredOk W L C R) : CredOk W (rL W L C R n) C (rR W L C R n) := by
  unfold rL rR
  split
  · rename_i h0
    obtain ⟨h1, h2, h3⟩ := readE_ok h0
    exact (limitN_ok W L C R n h h1 h2 h3).1
  · exact h
def cnewE (n : Int) : Int := if 1 ≤ n ∧ n ≤ 1000 then 0 else 1

theorem ctake_any (g : Nat) (W L C R u : Int) (w : World) (hb : BlockIs w g 103 (credCells W L C R)) :
    Calls Tryd.prog 66 #[.pointer (some ⟨g, 0, none⟩), .int .i64 u] w fun e w' => e = .returned (errV (takeE L u)) ∧ BlockIs w' g 103 (credCells W L (tC L C u) R) ∧ Only w w' g := by
  unfold tC
  by_cases h : takeE L u = 0
  · obtain ⟨h1, h2, h3⟩ := takeE_ok h
    rw [h, if_pos rfl, errV_zero]
    exact ctake_yes g W L C R u h1 h2 h3 w hb
  · rw [if_neg h, errV_pos h]
    refine (ctake_bad g W L C R u h w hb).mono ?_
    rintro e w' ⟨rfl, rfl⟩
    exact ⟨rfl, hb, Only.refl _ _⟩
theorem cread_any (g : Nat) (W L C R n : Int) (ok : CredOk W L C R) (w : World) (hb : BlockIs w g 103 (credCells W L C R)) :
    Calls Tryd.prog 44 #[.pointer (some ⟨g, 0, none⟩), .int .i64 n] w fun e w' => e = .returned (.tuple #[.int .i64 (rV W L C R n), errV (readE W L C R n)]) ∧ BlockIs w' g 103 (credCells W (rL W L C R n) C (rR W L C R n)) ∧ Only w w' g := by
  unfold rL rR rV
  by_cases h : readE W L C R n = 0
  · obtain ⟨h1, h2, h3⟩ := readE_ok h
    rw [h, if_pos rfl, if_pos rfl, if_pos rfl, errV_zero]
    exact cread_yes g W L C R n ok h1 h2 h3 w hb
  · rw [if_neg h, if_neg h, if_neg h, errV_pos h]
    refine (cread_bad g W L C R n ok h w hb).mono ?_
    rintro e w' ⟨rfl, n, rfl⟩
    exact ⟨rfl, hb.drewN _, (Only.refl _ _).drewN _⟩

end Go.Proofs.YtaindcicloapfaaDoor

/-! The shelf's contract of slices.SortFunc, laid at this seat's numbers in plain words. Condition: the element is wanderwire's Range. -/
namespace Go.Proofs.YtaindcicloapfaaDoor
open Go.Shelf
def laysSort_ren : Go.Shelf.Ren := ⟨fun | 6 => 88 | 14 => 98 | 15 => 99 | 20 => 102 | 21 => 103 | 22 => 104 | 23 => 105 | 24 => 106 | 25 => 107 | 26 => 108 | 27 => 109 | 28 => 110 | 29 => 111 | 46 => 112 | 47 => 113 | 48 => 114 | 49 => 115 | 50 => 116 | 57 => 117 | n => n, fun | 0 => 0 | 3 => 3 | 4 => 4 | 5 => 5 | 9 => 9 | 22 => 35 | 24 => 81 | 25 => 145 | 39 => 104 | 45 => 165 | 46 => 166 | 50 => 170 | 53 => 173 | 55 => 175 | 66 => 176 | 70 => 180 | 76 => 182 | 77 => 183 | n => n, fun | n => n⟩
theorem laysSort : Go.Proofs.SlLaysF0.n6 Tryd.prog laysSort_ren := {
  mixed := by kernel_rfl
  f6 := ⟨ "slices.SortFunc[[]wanderwire/api.Range,wanderwire/api.Range]", by decide, Tryd.func88.trans (congrArg some (by kernel_rfl))⟩
  f14 := ⟨ "slices.pdqsortCmpFunc[wanderwire/api.Range]", by decide, Tryd.func98.trans (congrArg some (by kernel_rfl))⟩
  f15 := Tryd.func99.trans (congrArg some (by kernel_rfl))
  f20 := ⟨ "slices.insertionSortCmpFunc[wanderwire/api.Range]", by decide, Tryd.func102.trans (congrArg some (by kernel_rfl))⟩
  f21 := ⟨ "slices.heapSortCmpFunc[wanderwire/api.Range]", by decide, Tryd.func103.trans (congrArg some (by kernel_rfl))⟩
  f22 := ⟨ "slices.breakPatternsCmpFunc[wanderwire/api.Range]", by decide, Tryd.func104.trans (congrArg some (by kernel_rfl))⟩
  f23 := ⟨ "slices.choosePivotCmpFunc[wanderwire/api.Range]", by decide, Tryd.func105.trans (congrArg some (by kernel_rfl))⟩
  f24 := ⟨ "slices.reverseRangeCmpFunc[wanderwire/api.Range]", by decide, Tryd.func106.trans (congrArg some (by kernel_rfl))⟩
  f25 := ⟨ "slices.partialInsertionSortCmpFunc[wanderwire/api.Range]", by decide, Tryd.func107.trans (congrArg some (by kernel_rfl))⟩
  f26 := ⟨ "slices.partitionEqualCmpFunc[wanderwire/api.Range]", by decide, Tryd.func108.trans (congrArg some (by kernel_rfl))⟩
  f27 := ⟨ "slices.partitionCmpFunc[wanderwire/api.Range]", by decide, Tryd.func109.trans (congrArg some (by kernel_rfl))⟩
  f28 := Tryd.func110.trans (congrArg some (by kernel_rfl))
  f29 := Tryd.func111.trans (congrArg some (by kernel_rfl))
  f46 := ⟨ "slices.siftDownCmpFunc[wanderwire/api.Range]", by decide, Tryd.func112.trans (congrArg some (by kernel_rfl))⟩
  f47 := Tryd.func113.trans (congrArg some (by kernel_rfl))
  f48 := Tryd.func114.trans (congrArg some (by kernel_rfl))
  f49 := ⟨ "slices.medianAdjacentCmpFunc[wanderwire/api.Range]", by decide, Tryd.func115.trans (congrArg some (by kernel_rfl))⟩
  f50 := ⟨ "slices.medianCmpFunc[wanderwire/api.Range]", by decide, Tryd.func116.trans (congrArg some (by kernel_rfl))⟩
  f57 := ⟨ "slices.order2CmpFunc[wanderwire/api.Range]", by decide, Tryd.func117.trans (congrArg some (by kernel_rfl))⟩
  t0 := Tryd.underlying0
  a0 := Tryd.isAgg0
  z0 := Tryd.sizeOf0
  v0 := Tryd.zeroValue0
  t3 := Tryd.underlying3
  a3 := Tryd.isAgg3
  z3 := Tryd.sizeOf3
  v3 := Tryd.zeroValue3
  t4 := Tryd.underlying4
  a4 := Tryd.isAgg4
  z4 := Tryd.sizeOf4
  v4 := Tryd.zeroValue4
  t5 := Tryd.underlying5
  a5 := Tryd.isAgg5
  z5 := Tryd.sizeOf5
  v5 := Tryd.zeroValue5
  t9 := Tryd.underlying9
  a9 := Tryd.isAgg9
  z9 := Tryd.sizeOf9
  v9 := Tryd.zeroValue9
  t22 := Tryd.underlying35
  a22 := Tryd.isAgg35
  z22 := Tryd.sizeOf35
  v22 := Tryd.zeroValue35
  t25 := Tryd.underlying145
  a25 := Tryd.isAgg145
  z25 := Tryd.sizeOf145
  v25 := Tryd.zeroValue145
  t39 := Tryd.underlying104
  a39 := Tryd.isAgg104
  z39 := Tryd.sizeOf104
  v39 := Tryd.zeroValue104
  t45 := Tryd.underlying165
  a45 := Tryd.isAgg165
  z45 := Tryd.sizeOf165
  v45 := Tryd.zeroValue165
  t46 := Tryd.underlying166
  a46 := Tryd.isAgg166
  z46 := Tryd.sizeOf166
  v46 := Tryd.zeroValue166
  t50 := Tryd.underlying170
  a50 := Tryd.isAgg170
  z50 := Tryd.sizeOf170
  v50 := Tryd.zeroValue170
  t53 := Tryd.underlying173
  a53 := Tryd.isAgg173
  z53 := Tryd.sizeOf173
  v53 := Tryd.zeroValue173
  t55 := Tryd.underlying175
  a55 := Tryd.isAgg175
  z55 := Tryd.sizeOf175
  v55 := Tryd.zeroValue175
  t66 := Tryd.underlying176
  a66 := Tryd.isAgg176
  z66 := Tryd.sizeOf176
  v66 := Tryd.zeroValue176
  t70 := Tryd.underlying180
  a70 := Tryd.isAgg180
  z70 := Tryd.sizeOf180
  v70 := Tryd.zeroValue180
  t76 := Tryd.underlying182
  a76 := Tryd.isAgg182
  z76 := Tryd.sizeOf182
  v76 := Tryd.zeroValue182
  t77 := Tryd.underlying183
  a77 := Tryd.isAgg183
  z77 := Tryd.sizeOf183
  v77 := Tryd.zeroValue183
}
end Go.Proofs.YtaindcicloapfaaDoor

/-! slices.SortFunc with ranges.Joined's closure: a permutation, the highest end first. Condition: the slice is the call's own, its ends bounded. -/
namespace Go.Proofs.YtaindcicloapfaaDoor
open Go.ChangeShapes Go.WideShapes Go.ChangeAt Go.RowKit Go.Sort
set_option linter.unusedVariables false

abbrev RngB : Type := {r : Rng // okH r}
instance : Inhabited RngB := ⟨⟨⟨0, 0⟩, Int.le_refl 0, by show (0 : Int) ≤ 1073741823; decide⟩⟩
def encB (x : RngB) : List Value := rngRow x.1
def cfB (x y : RngB) : Int := y.1.hi - x.1.hi
theorem ltB (x y : RngB) : ltOf cfB x y = decide (y.1.hi < x.1.hi) := by
  unfold ltOf cfB
  by_cases h : y.1.hi < x.1.hi
  · rw [decide_eq_true h, decide_eq_true (by omega)]
  · rw [decide_eq_false h, decide_eq_false (by omega)]
theorem swoB : SWO (ltOf cfB) where
  irrefl x := by rw [ltB]; simp
  trans x y z h1 h2 := by rw [ltB] at *; simp at *; omega
  ntrans x y z h1 h2 := by rw [ltB] at *; simp at *; omega

theorem cmpB (x y : RngB) (W : World) : Calls Tryd.prog 89 #[.agg (encB x).toArray, .agg (encB y).toArray] W fun e w' => e = .returned (.int .i64 (cfB x y)) ∧ ∃ q os', w' = grow (W.drewN q) os' := by
  obtain ⟨⟨a, b⟩, h1, h2⟩ := x
  obtain ⟨⟨c, d⟩, h3, h4⟩ := y
  simp only at h1 h2 h3 h4
  show Calls Tryd.prog 89 #[.agg #[.int .i64 a, .int .i64 b], .agg #[.int .i64 c, .int .i64 d]] W fun e w' => e = .returned (.int .i64 (d - b)) ∧ ∃ q os', w' = grow (W.drewN q) os'
  go_enter Tryd.func89, Tryd.ntmps89
  go_wp2
  go_ret
  exact ⟨rfl, 0, _, by rw [alloc_eq_grow, alloc_eq_grow, grow_grow]; rfl⟩

theorem flat_at (M : List RngB) {j : Nat} (hj : j < M.length * 2) : (flat (M.map encB))[j]? = some (flatK encB 2 M.toArray)[j]! := by
  have hi : j / 2 < M.length := by omega
  have hm : j % 2 < 2 := Nat.mod_lt _ (by decide)
  rw [get_flatK encB 2 M.toArray j (by simpa using hj)]
  have h1 : (M.map encB)[j / 2]? = some (encB M[j / 2]) := by simp [hi]
  have h2 : (encB M[j / 2])[j % 2]? = some (encB M[j / 2])[j % 2]! := by
    have : j % 2 < (encB M[j / 2]).length := hm
    rw [List.getElem?_eq_getElem this, getElem!_pos (encB M[j / 2]) (j % 2) this]
  have h3 := Lst.flat_get (size := 2) (fun e he => by obtain ⟨x, _, rfl⟩ := List.mem_map.1 he; rfl) h1 h2
  rw [show j / 2 * 2 + j % 2 = j from by omega] at h3
  rw [h3]
  simp [hi]

theorem holdsB {w : World} {E g cap : Nat} {M : List RngB} {n : Nat} (h : Lst w E 2 (.slice (some ⟨g, 0, none⟩) n cap) (M.map encB)) (hn : M.length = n) : HoldsK encB 2 w g 0 M.toArray := by
  intro j hj
  have hj' : j < M.length * 2 := by simpa using hj
  have h1 := h.own.cells (g := g) rfl j _ (flat_at M hj')
  have hadd : (⟨g, 0, none⟩ : Addr).add j = ⟨g, 0 + j, none⟩ := by unfold Addr.add; split <;> simp_all
  rw [hadd] at h1
  refine ⟨h1, ?_⟩
  rcases h.own.2 with ⟨h0, _⟩ | ⟨g', cap', cur, hve, hb, hg, _⟩
  · cases h0
  · simp only [Value.slice.injEq, Option.some.injEq, Addr.mk.injEq, and_true] at hve
    obtain ⟨rfl, _, rfl⟩ := hve
    simp [World.frozen?, hg]

theorem heapB {w : World} {g m : Nat} {os : Array Obj} {cur : Array Value} {e : TypeId} {fr : Nat × Nat} (d : Array RngB) (hb : w.heap[g]? = some (.cells cur e fr)) :
    (sortWorldK encB 2 w g 0 m d os).heap[g]? = some (.cells (putCells id 0 (flatK encB 2 d) cur) e fr) := by
  have hg : g < w.heap.size := (Array.getElem?_eq_some_iff.1 hb).1
  unfold sortWorldK putRowK
  rw [heap_grow_old _ _ (by simpa using hg)]
  simp [putRow, mapBlock, Sort.ahead, Array.getElem?_modify, hb, onCells]
theorem outB (w : World) (g m : Nat) (d : Array RngB) (os : Array Obj) : Out w (sortWorldK encB 2 w g 0 m d os) [g] := by
  refine ⟨rfl, rfl, rfl, by simp [sortWorldK, putRowK, Sort.ahead], fun k hk hne => ?_⟩
  unfold sortWorldK putRowK
  rw [heap_grow_old _ _ (by simpa using hk)]
  have : g ≠ k := fun e => hne (by simp [e])
  simp [putRow, mapBlock, Sort.ahead, Array.getElem?_modify, this]
theorem lstB {w : World} {E g cap : Nat} {M N : List RngB} {n m : Nat} {os : Array Obj} (h : Lst w E 2 (.slice (some ⟨g, 0, none⟩) n cap) (M.map encB)) (hn : M.length = n) (hN : N.length = n) : Lst (sortWorldK encB 2 w g 0 m N.toArray os) E 2 (.slice (some ⟨g, 0, none⟩) n cap) (N.map encB) := by
  have hr : ∀ e ∈ N.map encB, e.length = 2 := fun e he => by obtain ⟨x, _, rfl⟩ := List.mem_map.1 he; rfl
  rcases h.own.2 with ⟨h0, _⟩ | ⟨g', cap', cur, hve, hb, hg, h1, h2, h3, h4⟩
  · cases h0
  simp only [Value.slice.injEq, Option.some.injEq, Addr.mk.injEq, and_true] at hve
  obtain ⟨rfl, _, rfl⟩ := hve
  refine ⟨⟨flat_length hr, Or.inr ⟨g, cap, _, by rw [List.length_map, hN], hb, heapB _ hg, by simpa [hN, hn] using h1, h2, by simpa [putCells] using h3, ?_⟩⟩, fun e he => by obtain ⟨x, _, rfl⟩ := List.mem_map.1 he; exact rngRow_one x.1⟩
  have hsz : n * 2 ≤ cur.size := by rw [h3]; have : n ≤ cap := by simpa [hn] using h1
                                    omega
  rw [List.length_map, hN]
  apply List.ext_getElem?
  intro j
  by_cases hj : j < n * 2
  · rw [List.getElem?_take_of_lt hj, flat_at N (by rw [hN]; exact hj), Array.getElem?_toList]
    simp [putCells, hN, hj, show j < cur.size by omega]
  · rw [List.getElem?_take_eq_none (by omega), List.getElem?_eq_none (by rw [flat_length hr]; simp; omega)]

set_option maxHeartbeats 1600000 in
theorem rsort (g n cap : Nat) (L : List Rng) (w : World) (hn : L.length = n) (hL : ∀ r ∈ L, okH r) (h : Lst w 81 2 (.slice (some ⟨g, 0, none⟩) n cap) (L.map rngRow)) (hm : n ≤ 1000000) :
    Calls Tryd.prog 88 #[.slice (some ⟨g, 0, none⟩) n cap, .func (Fn.func 89) #[] #[]] w fun e w' => e = .returned (.tuple #[]) ∧ ∃ L' : List Rng, L'.Perm L ∧ L'.Pairwise (fun a b => b.hi ≤ a.hi) ∧ Lst w' 81 2 (.slice (some ⟨g, 0, none⟩) n cap) (L'.map rngRow) ∧ Out w w' [g] := by
  obtain ⟨M, rfl⟩ : ∃ M : List RngB, L = M.map (·.1) := ⟨L.attachWith _ hL, by simp⟩
  have hnm : M.length = n := by simpa using hn
  have hl : Lst w 81 2 (.slice (some ⟨g, 0, none⟩) n cap) (M.map encB) := by
    have : (M.map (·.1)).map rngRow = M.map encB := by rw [List.map_map]; rfl
    rw [← this]; exact h
  have eg : ∀ args w, (callFunc 89 args).run Tryd.prog w = .ok (.enter 89 args) w := enters_of Tryd.func89 (by kernel_rfl) rfl
  have hg : g < w.heap.size := hl.lt g (by simp [Value.ownBlock])
  have hcon := AnyQ.slices_SortFunc laysSort 2 Tryd.isAgg81 Tryd.sizeOf81 encB (fun _ => rfl) (fun x v hv => (rngRow_one x.1).2 v hv) cfB swoB 89 #[] g 0 cap M.toArray w eg (fun _ _ _ _ x y => cmpB x y _) (holdsB hl hnm) hg (by simp; omega)
  rw [show M.toArray.size = n from by simpa using hnm] at hcon
  refine Calls.mono (P := Tryd.prog) hcon ?_
  rintro e w' ⟨rfl, d', m, os, ⟨p1, _, p3⟩, hs, rfl⟩
  have hd : d'.toList.length = n := by rw [Array.length_toList, p1]; simpa using hnm
  refine ⟨rfl, d'.toList.map (·.1), ?_, ?_, ?_, outB _ _ _ _ _⟩
  · apply List.Perm.map
    have e1 : (d'.extract 0 n).toList = d'.toList := by rw [Array.extract_eq_self_of_le (by rw [p1]; simp; omega)]
    have e2 : (M.toArray.extract 0 n).toList = M := by rw [Array.extract_eq_self_of_le (by simp; omega)]
    rw [e1, e2] at p3
    exact p3
  · rw [List.pairwise_map, List.pairwise_iff_getElem]
    intro i j hi hj hij
    have := hs i j (Nat.zero_le _) hij (by omega)
    rw [ltB] at this
    have hi' : i < d'.size := by simpa using hi
    have hj' : j < d'.size := by simpa using hj
    rw [getElem!_pos d' _ hi', getElem!_pos d' _ hj'] at this
    simp only [Array.getElem_toList]
    simpa using this
  · have := lstB (N := d'.toList) (m := m) (os := os) hl hnm hd
    rw [List.map_map]
    exact this
end Go.Proofs.YtaindcicloapfaaDoor

/-! ranges.Joined: plain words, slices.Clone of ranges, and the contract. Condition: the slice can be read, holds one range or more, their ends bounded. -/
namespace Go.Proofs.YtaindcicloapfaaDoor
open Go.ChangeShapes Go.WideShapes Go.ChangeAt Go.RowKit
set_option linter.unusedVariables false

/-- does a range run into the last of some -/
def jinto (O : List Rng) (r : Rng) : Bool := decide (0 < O.length) && decide ((rat O (O.length - 1)).lo ≤ r.hi + 1)
/-- some ranges, the next added -/
def jstep (O : List Rng) (r : Rng) : List Rng := if jinto O r = true then O.set (O.length - 1) ⟨min (rat O (O.length - 1)).lo r.lo, (rat O (O.length - 1)).hi⟩ else O ++ [r]
def joinL (L : List Rng) : List Rng := L.foldl jstep []
theorem joinL_succ {L : List Rng} {i : Nat} (h : i < L.length) : joinL (L.take (i + 1)) = jstep (joinL (L.take i)) (rat L i) := by
  unfold joinL
  rw [List.take_add_one, List.foldl_append, rat_get h]
  simp [List.getElem?_eq_getElem h]
theorem jstep_len (O : List Rng) (r : Rng) : (jstep O r).length ≤ O.length + 1 := by
  unfold jstep
  split <;> simp
theorem joinL_len (L : List Rng) : ∀ i, (joinL (L.take i)).length ≤ i
  | 0 => by simp [joinL]
  | i + 1 => by
    by_cases h : i < L.length
    · rw [joinL_succ h]
      have := jstep_len (joinL (L.take i)) (rat L i)
      have := joinL_len L i
      omega
    · have h1 : L.take (i + 1) = L.take i := by rw [List.take_of_length_le (by omega), List.take_of_length_le (by omega)]
      have := joinL_len L i
      rw [h1]; omega

/-- one cell of one element is written -/
theorem Lst.setc {w : World} {E k g n cap : Nat} {es : List (List Value)} (h : Lst w E k (.slice (some ⟨g, 0, none⟩) n cap) es) {i j : Nat} {e : List Value} (hi : es[i]? = some e) (hj : j < k) {u : Value} (h1 : u.oneCell' = true) :
    Lst (w.setCell ⟨g, i * k + j, none⟩ u) E k (.slice (some ⟨g, 0, none⟩) n cap) (es.set i (e.set j u)) := by
  have hr : ∀ e ∈ es, e.length = k := fun e he => (h.rows e he).1
  have hil : i < es.length := (List.getElem?_eq_some_iff.1 hi).1
  have hee : es[i] = e := (List.getElem?_eq_some_iff.1 hi).2
  have hel : e.length = k := by rw [← hee]; exact hr _ (List.getElem_mem _)
  have hr2 : ∀ x ∈ es.set i (e.set j u), x.length = k := fun x hx => by
    rcases List.mem_or_eq_of_mem_set hx with hx | hx
    · exact hr x hx
    · rw [hx, List.length_set]; exact hel
  have hfl : (flat es).set (i * k + j) u = flat (es.set i (e.set j u)) := by
    have hsplit : es = es.take i ++ e :: es.drop (i + 1) := by
      rw [← hee]; simp
    have hset : es.set i (e.set j u) = es.take i ++ (e.set j u) :: es.drop (i + 1) := by
      rw [List.set_eq_take_append_cons_drop, if_pos hil]
    have hlt : (flat (es.take i)).length = i * k := by
      rw [flat_length (fun x hx => hr x (List.mem_of_mem_take hx)), List.length_take]
      congr 1
      omega
    rw [hset]
    conv => lhs; rw [hsplit]
    simp only [flat, List.flatten_append, List.flatten_cons]
    simp only [flat] at hlt
    rw [List.set_append_right _ _ (by rw [hlt]; omega), hlt, List.set_append_left _ _ (by omega), show i * k + j - i * k = j from by omega]
  refine ⟨⟨flat_length hr2, ?_⟩, fun x hx => ?_⟩
  · rcases h.own.2 with ⟨h0, _⟩ | ⟨g', cap', cur, hv, hb, hg, hh1, h2, h3, h4⟩
    · cases h0
    · simp only [Value.slice.injEq, Option.some.injEq, Addr.mk.injEq, and_true] at hv
      obtain ⟨rfl, rfl, rfl⟩ := hv
      refine Or.inr ⟨g, cap, cur.setIfInBounds (i * k + j) u, by rw [List.length_set], hb, BlockIs.put hg _ u, by rw [List.length_set]; exact hh1, h2, by simpa using h3, ?_⟩
      rw [Array.toList_setIfInBounds, List.take_set, List.length_set, h4, hfl]
  · rcases List.mem_or_eq_of_mem_set hx with hx | hx
    · exact h.rows x hx
    · rw [hx, List.length_set]
      refine ⟨hel, fun v hv => ?_⟩
      rcases List.mem_or_eq_of_mem_set hv with hv | hv
      · exact (h.rows e (by rw [← hee]; exact List.getElem_mem _)).2 v hv
      · rw [hv]; exact h1
set_option maxHeartbeats 800000 in
theorem rclone (A : Option Addr) (n cap : Nat) (L : List Rng) (w : World) (hn : L.length = n) (hm : n ≤ 1000000) (h : Rd w 2 (.slice A n cap) (L.map rngRow)) :
    Calls Tryd.prog 38 #[.slice A n cap] w fun e w' => ∃ A' cap', e = .returned (.slice A' n cap') ∧ Lst w' 81 2 (.slice A' n cap') (L.map rngRow) ∧ Below w.heap.size w w' ∧ ∀ k, k ∈ blocks (.slice A' 0 0) → w.heap.size ≤ k := by
  have hml : (L.map rngRow).length = n := by rw [List.length_map]; exact hn
  have HML := Lib.hid hml
  have H := Lib.hid h
  have hnil := @Lib.run_eql_slice_nil
  obtain ⟨A0, cap0, hv, hz1, hz2, hc⟩ := h.shape
  simp only [Value.slice.injEq] at hv
  obtain ⟨rfl, hz0, rfl⟩ := hv
  clear hz0 hz1 hz2
  cases A with
  | none =>
    have hn0 : n = 0 := by
      rcases Nat.eq_zero_or_pos n with h0 | h0
      · exact h0
      · obtain ⟨b, off, he, _⟩ := hc (by intro he; rw [he] at hml; simp at hml; omega)
        cases he
    subst hn0
    have hL : L = [] := List.length_eq_zero_iff.1 hn
    subst hL
    clear h hc hml hn
    go_enter Tryd.func38, Tryd.ntmps38
    go_wp2
    go_ret
    exact ⟨none, 0, rfl, Lst.nil _ _ _, Below.refl _ _, by simp [Value.ownBlock]⟩
  | some ad =>
    have hnews : ∀ j u, (flat (L.map rngRow))[j]? = some u → (w.alloc (.cells #[] 81)).cell? (ad.add j) = some u := fun j u hu => by
      have hne : L.map rngRow ≠ [] := by intro he; rw [he] at hu; simp [flat] at hu
      obtain ⟨b, off, he, hlt, hcc⟩ := hc hne
      cases he
      have hadd : (⟨b, off, none⟩ : Addr).add j = ⟨b, off + j, none⟩ := by unfold Addr.add; split <;> simp_all
      rw [hadd]
      exact ((Since.refl w).alloc _).cell hlt (hcc j u hu)
    have HNW := Lib.hid hnews
    clear h hc hml hnews
    go_enter Tryd.func38, Tryd.ntmps38
    go_wp2_with (at_builtin; refine wpList_cat rfl _ _ 35 rfl 81 2 16 Tryd.elRange (.slice (some ⟨w.heap.size, 0, none⟩) 0 0) [] rfl (Lst.empty w _ 2) ad n cap (L.map rngRow) rfl HML.out H.out.rows HNW.out (by rw [HML.out]; simp; omega) ?_; intro A1 cap1 w1 hl1 ho1 hk1)
    simp only [List.length_nil, Nat.zero_add, List.nil_append] at hl1 ⊢
    go_ret
    refine ⟨A1, cap1, rfl, hl1, ?_, fun k hk => ?_⟩
    · exact ho1.below ((Below.refl _ _).alloc (Nat.le_refl _) _) (by simp) (by simp [Value.ownBlock])
    · rcases hk1 k (blocks_any A1 _ _ _ _ ▸ hk) with h1 | h1
      · have : w.heap.size = k := by simpa [Value.ownBlock] using h1
        omega
      · rw [h1]; simp


set_option maxHeartbeats 3200000 in
set_option maxRecDepth 100000 in
theorem rjoined (A : Option Addr) (n cap : Nat) (L : List Rng) (w : World) (hn : L.length = n) (h0 : 0 < n) (hm : n ≤ 100) (hL : ∀ r ∈ L, okN r) (h : Rd w 2 (.slice A n cap) (L.map rngRow)) :
    Calls Tryd.prog 69 #[.slice A n cap] w fun e w' => ∃ L' A' cap', L'.Perm L ∧ L'.Pairwise (fun a b => b.hi ≤ a.hi) ∧ e = .returned (.slice A' (joinL L').length cap') ∧ Lst w' 81 2 (.slice A' (joinL L').length cap') ((joinL L').map rngRow) ∧ Below w.heap.size w w' ∧ ∀ k, k ∈ blocks (.slice A' 0 0) → w.heap.size ≤ k := by
  have H := Lib.hid h
  have HN := Lib.hid hn
  have HOK := Lib.hid hL
  clear h hn hL
  go_enter Tryd.func69, Tryd.ntmps69
  go_wp2_with (first | (go_at_call 38; refine (rclone A n cap L _ HN.out (by omega) H.out).mono ?_; rintro e w1 ⟨A1, c1, rfl, hl1, hb1, hk1⟩; obtain ⟨g, rfl⟩ : ∃ g, A1 = some ⟨g, 0, none⟩ := (by obtain ⟨A2, c2, hv, _, _, hA⟩ := hl1.shape; simp only [Value.slice.injEq] at hv; obtain ⟨rfl, h2, rfl⟩ := hv; rcases hA with ⟨_, h3, _⟩ | ⟨g, rfl⟩; (rw [h3] at h2; simp at h2; omega); exact ⟨g, rfl⟩); have HL1 := Lib.hid hl1; have HK1 := Lib.hid (hk1 g (by simp [Value.ownBlock])); clear hl1 hk1) | (go_at_call 88; refine (rsort g n c1 L _ HN.out (fun r hr => (HOK.out r hr).2) HL1.out (by omega)).mono ?_; rintro e w2 ⟨rfl, L', hp, hsd, hl2, ho2⟩; have HS2 := Lib.hid (show Since w w2 from ho2.below hb1 hb1.size (by intro k hk; rw [List.mem_singleton.1 hk]; exact HK1.out)); have HL2 := Lib.hid hl2; have HP := Lib.hid hp; have HSD := Lib.hid hsd; clear hl2 ho2 hp hsd))
  have hn' : L'.length = n := by rw [HP.out.length_eq, HN.out]
  have HN' := Lib.hid hn'
  clear hn' hb1
  go_loopw [3, 5, 6, 13] (fun s3 s5 s6 s13 wr => ∃ (i m : Nat) (Ao : Option Addr) (co : Nat), s13 = .int .i64 i ∧ i ≤ n ∧ s3 = .slice Ao m co ∧ Hid (m = (joinL (L'.take i)).length) ∧ Lst wr 81 2 (.slice Ao m co) ((joinL (L'.take i)).map rngRow) ∧ (∀ k, k ∈ blocks (.slice Ao 0 0) → w2.heap.size ≤ k) ∧ Since w2 wr) (fun _ _ _ s13 _ => n - (intOf s13).toNat)
  case atStart => exact ⟨0, 0, none, 0, rfl, Nat.zero_le _, rfl, Lib.hid rfl, Lst.nil _ _ 2, by simp [Value.ownBlock], Since.refl _⟩
  case round =>
    obtain ⟨i, m, Ao, co, rfl, hi, rfl, hmm, hlo, hfar, hs⟩ := hrel
    have HLO := Lib.hid hlo
    have HFAR := Lib.hid hfar
    clear hlo hfar
    have hmi := joinL_len L' i
    by_cases hlt : i < n
    case neg =>
      obtain rfl : i = n := by omega
      have e1 : L'.take i = L' := by rw [List.take_of_length_le (by rw [HN'.out]; exact Nat.le_refl _)]
      have hf : decide ((i : Int) < (i : Int)) = false := by simp
      clear hmi
      go_wp2_with fail
      go_ret
      have h2 := hmm.out
      have h3 := HLO.out
      rw [e1] at h2 h3
      rw [h2] at h3 ⊢
      exact ⟨L', Ao, co, HP.out, HSD.out, rfl, h3, HS2.out.later hs, fun k hk => Nat.le_trans HS2.out.le (HFAR.out k hk)⟩
    have hlt' : (i : Int) < (n : Int) := by omega
    have hiL : i < L'.length := by rw [HN'.out]; exact hlt
    have hl2 := HL2.out.later hs
    have hst := joinL_succ hiL
    have c0 : wr.cell? ⟨g, i * 2, none⟩ = some (.int .i64 (rat L' i).lo) := by rw [rat_get hiL]; exact hl2.cell rfl (elem_of_rng hiL) (j := 0) rfl
    have c1 : wr.cell? ⟨g, i * 2 + 1, none⟩ = some (.int .i64 (rat L' i).hi) := by rw [rat_get hiL]; exact hl2.cell rfl (elem_of_rng hiL) (j := 1) rfl
    have hok : okN (rat L' i) := by rw [rat_get hiL]; exact HOK.out _ (HP.out.mem_iff.1 (List.getElem_mem _))
    have lg : g < wr.heap.size := hl2.lt g (by simp [Value.ownBlock])
    generalize rat L' i = r at *
    obtain ⟨lo, hi2⟩ := r
    obtain ⟨⟨b1, b2⟩, b3, b4⟩ := hok
    simp only at c0 c1 b1 b2 b3 b4
    have HST := Lib.hid hst
    clear hst hl2
    generalize joinL (L'.take i) = O at *
    have hml : (O.map rngRow).length = m := by rw [List.length_map]; exact hmm.out.symm
    have HML := Lib.hid hml
    clear hml
    have hpush : jinto O ⟨lo, hi2⟩ = false → joinL (L'.take (i + 1)) = O ++ [⟨lo, hi2⟩] := fun h => by rw [HST.out, jstep, h]; rfl
    have HPU := Lib.hid hpush
    clear hpush
    have HFR : Hid (∀ X : World, X.heap.size = wr.heap.size + 1 → BlockIs (X.alloc (.cells #[.int .i64 lo, .int .i64 hi2] 81)) (wr.heap.size + 1) 81 #[.int .i64 lo, .int .i64 hi2]) := Lib.hid (fun X h => h ▸ BlockIs.fresh X _ _)
    by_cases hm0 : m = 0
    · subst hm0
      have HN1 := Lib.hid (HPU.out (by unfold jinto; rw [← hmm.out]; rfl))
      go_wp2_with fail
      go_quiet (fail)
      go_wp2_with (at_builtin; refine wpList_push rfl _ _ 35 rfl 81 2 16 Tryd.elRange (.slice Ao 0 co) (O.map rngRow) rfl ?_ (wr.heap.size + 1) 1 [.int .i64 lo, .int .i64 hi2] rfl rfl (rngRow_one ⟨lo, hi2⟩).2 ?_ ?_ ?_; (exact ((HLO.out.alloc _).drewN _).alloc _); (exact HFR.out _ (by simp)); (rw [HML.out]; omega); intro qn cn w3 hl3 ho3 hq3 hlt3)
      have hsn : Since w2 w3 := ((hs.alloc _).drewN _ |>.alloc _).out' ho3 (fun k hk => HFAR.out k (blocks_any Ao _ _ _ _ ▸ hk))
      have hfar1 : ∀ k, k ∈ blocks (.slice (some ⟨qn, 0, none⟩) 0 0) → w2.heap.size ≤ k := by
        intro k hk
        have hkq : qn = k := by simpa [Value.ownBlock] using hk
        rw [← hkq]
        rcases hq3 with h1 | h1
        · exact HFAR.out _ (blocks_any Ao _ _ _ _ ▸ h1)
        · have := hs.le; simp at h1; omega
      have HF1 := Lib.hid hfar1
      rw [List.length_map] at hl3
      have HL3 := Lib.hid hl3
      clear hfar1 hl3 ho3 hq3 hlt3
      go_roundw
      case rel => exact ⟨i + 1, _, some ⟨qn, 0, none⟩, cn, by go_num, by omega, rfl, Lib.hid (by rw [HN1.out, List.length_append]; rfl), by rw [HN1.out, List.map_append]; exact HL3.out, HF1.out, hsn⟩
      case measure => simp [intOf]; omega
    have hmO : 0 < O.length := by have := hmm.out; omega
    have hm1 : O.length - 1 = m - 1 := by have := hmm.out; omega
    have hmp : (0 : Int) < (m : Int) := by omega
    have hmn : 0 < m := by omega
    have hm100 : m ≤ 100 := by have := hmm.out; omega
    have hw1 : IntKind.i64.wrap (hi2 + 1) = hi2 + 1 := by simp [IntKind.wrap, IntKind.bits, IntKind.signed]; omega
    have hw2 : IntKind.i64.wrap ((m - 1 : Nat) : Int) = ((m - 1 : Nat) : Int) := by simp [IntKind.wrap, IntKind.bits, IntKind.signed]; omega
    have hlA : (O.map rngRow)[m - 1]? = some (rngRow (rat O (m - 1))) := by rw [rat_get (by omega)]; exact elem_of_rng (by omega)
    obtain ⟨qo, rfl⟩ : ∃ q, Ao = some ⟨q, 0, none⟩ := by
      obtain ⟨A2, c2, hv, _, _, hA⟩ := HLO.out.shape
      simp only [Value.slice.injEq] at hv
      obtain ⟨rfl, h2, rfl⟩ := hv
      rcases hA with ⟨_, h3, _⟩ | ⟨g, rfl⟩
      · rw [h3] at h2; simp at h2; omega
      · exact ⟨g, rfl⟩
    have hstep : jinto O ⟨lo, hi2⟩ = decide ((rat O (m - 1)).lo ≤ hi2 + 1) := by unfold jinto; rw [hm1, decide_eq_true hmO]; rfl
    have hset : jinto O ⟨lo, hi2⟩ = true → joinL (L'.take (i + 1)) = O.set (m - 1) ⟨min (rat O (m - 1)).lo lo, (rat O (m - 1)).hi⟩ := fun h => by rw [HST.out, jstep, if_pos h, hm1]
    have HSE := Lib.hid hset
    have HSP := Lib.hid hstep
    have HHO := Lib.hid hmO
    have d0 : wr.cell? ⟨qo, (m - 1) * 2, none⟩ = some (.int .i64 (rat O (m - 1)).lo) := HLO.out.cell rfl hlA (j := 0) rfl
    have fz := World.ownsRow.frozenAt (w := wr) (base := 0) (e := 81) (size := 2) (g := qo) (n := m) (cap := co) (xs := flat (O.map rngRow)) (by have := HLO.out.own; rw [HML.out] at this; exact this)
    have lq : qo < wr.heap.size := HLO.out.lt qo (by simp [Value.ownBlock])
    have HLA := Lib.hid hlA
    clear hset hstep hlA hm1 hmO hmi
    have hm2' : (m : Int) - 1 = ((m - 1 : Nat) : Int) := by omega
    have hm3 : ((m - 1 : Nat) : Int) < (m : Int) := by omega
    generalize hrl : rat O (m - 1) = rl at *
    obtain ⟨ll, lh⟩ := rl
    simp only at d0
    have d1 : (wr.alloc (.cells #[.int .i64 lo, .int .i64 hi2] 81)).cell? ⟨qo, (m - 1) * 2, none⟩ = some (.int .i64 ll) := ((Since.refl wr).alloc _).cell lq d0
    by_cases hin : ll ≤ hi2 + 1
    case neg =>
      have hin' : decide (ll ≤ hi2 + 1) = false := by simpa using hin
      have HN1 := Lib.hid (HPU.out (by rw [HSP.out]; exact hin'))
      go_wp2_with fail
      go_quiet (fail)
      go_wp2_with (at_builtin; refine wpList_push rfl _ _ 35 rfl 81 2 16 Tryd.elRange (.slice (some ⟨qo, 0, none⟩) m co) (O.map rngRow) rfl ?_ (wr.heap.size + 1) 1 [.int .i64 lo, .int .i64 hi2] rfl rfl (rngRow_one ⟨lo, hi2⟩).2 ?_ ?_ ?_; (exact ((HLO.out.alloc _).drewN _).alloc _); (exact HFR.out _ (by simp)); (rw [HML.out]; omega); intro qn cn w3 hl3 ho3 hq3 hlt3)
      have hsn : Since w2 w3 := ((hs.alloc _).drewN _ |>.alloc _).out' ho3 (fun k hk => HFAR.out k (blocks_any (some ⟨qo, 0, none⟩) _ _ _ _ ▸ hk))
      have hfar1 : ∀ k, k ∈ blocks (.slice (some ⟨qn, 0, none⟩) 0 0) → w2.heap.size ≤ k := by
        intro k hk
        have hkq : qn = k := by simpa [Value.ownBlock] using hk
        rw [← hkq]
        rcases hq3 with h1 | h1
        · exact HFAR.out _ (blocks_any (some ⟨qo, 0, none⟩) _ _ _ _ ▸ h1)
        · have := hs.le; simp at h1; omega
      have HF1 := Lib.hid hfar1
      rw [List.length_map] at hl3
      have HL3 := Lib.hid hl3
      clear hfar1 hl3 ho3 hq3 hlt3
      go_roundw
      case rel => exact ⟨i + 1, _, some ⟨qn, 0, none⟩, cn, by go_num, by omega, rfl, Lib.hid (by rw [HN1.out, List.length_append]; rfl), by rw [HN1.out, List.map_append]; exact HL3.out, HF1.out, hsn⟩
      case measure => simp [intOf]; omega
    have hin' : decide (ll ≤ hi2 + 1) = true := by simpa using hin
    have HN1 := Lib.hid (HSE.out (by rw [HSP.out]; exact hin'))
    go_wp2_with fail
    go_quiet (fail)
    go_wp2_with fail
    go_region
    have hqo : w2.heap.size ≤ qo := HFAR.out qo (by simp [Value.ownBlock])
    have hl4 := ((HLO.out.alloc (.cells #[.int .i64 lo, .int .i64 hi2] 81)).drewN (nq + 1)).setc (i := m - 1) (j := 0) HLA.out (by decide) (u := .int .i64 (min ll lo)) rfl
    have he4 : (O.map rngRow).set (m - 1) ((rngRow ⟨ll, lh⟩).set 0 (.int .i64 (min ll lo))) = (O.set (m - 1) ⟨min ll lo, lh⟩).map rngRow := by rw [List.map_set]; rfl
    rw [he4] at hl4
    have HL4 := Lib.hid hl4
    have hll : m = (joinL (L'.take (i + 1))).length := by rw [HN1.out, List.length_set]; exact hmm.out
    have HLL := Lib.hid hll
    clear hl4 he4 hll
    go_wp2_with fail
    go_roundw
    case rel => exact ⟨i + 1, m, some ⟨qo, 0, none⟩, co, by go_num, by omega, rfl, HLL, by rw [HN1.out]; exact HL4.out, HFAR.out, (by refine Since.out ?_; repeat (first | with_reducible assumption | with_reducible exact Since.refl _ | with_reducible refine Since.later ?_ (by with_reducible assumption) | with_reducible refine Since.only ?_ (by with_reducible assumption) (by first | assumption | omega | (simp; done) | (simp; omega)) | with_reducible refine Since.alloc ?_ _ | with_reducible refine Since.drewN ?_ _ | with_reducible refine Since.drew ?_ | with_reducible refine Since.set ?_ (by first | assumption | omega | (simp; done) | (simp; omega)) _))⟩
    case measure => simp [intOf]; omega
end Go.Proofs.YtaindcicloapfaaDoor

/-! Plain law: ranges that stand in order and apart are told by the numbers in them; joining gives such. No condition. -/
namespace Go.Proofs.YtaindcicloapfaaDoor
set_option linter.unusedVariables false

/-- in order, and apart -/
structure Canon (L : List Rng) : Prop where
  ok : ∀ r ∈ L, r.lo ≤ r.hi
  apart : L.Pairwise (fun a b => b.hi + 1 < a.lo)
/-- the same, the last first -/
structure CanonR (L : List Rng) : Prop where
  ok : ∀ r ∈ L, r.lo ≤ r.hi
  apart : L.Pairwise (fun a b => a.hi + 1 < b.lo)
def jr (acc : List Rng) (r : Rng) : List Rng :=
  match acc with
  | [] => [r]
  | l :: t => if l.lo ≤ r.hi + 1 then ⟨min l.lo r.lo, l.hi⟩ :: t else r :: l :: t
theorem jstep_jr (acc : List Rng) (r : Rng) : jstep acc.reverse r = (jr acc r).reverse := by
  cases acc with
  | nil => rfl
  | cons l t =>
    have hr : rat (l :: t).reverse ((l :: t).reverse.length - 1) = l := by
      rw [rat_get (by simp)]
      simp
    unfold jstep jinto
    rw [hr]
    simp only [jr]
    by_cases h : l.lo ≤ r.hi + 1
    · rw [if_pos h, if_pos (by simp [h])]
      simp
    · rw [if_neg h, if_neg (by simp [h])]
      simp
theorem joinL_jr (L : List Rng) : ∀ acc, L.foldl jstep acc.reverse = (L.foldl jr acc).reverse := by
  induction L with
  | nil => intro acc; rfl
  | cons r t ih => intro acc; rw [List.foldl_cons, List.foldl_cons, jstep_jr, ih]
theorem inB_cons (r : Rng) (L : List Rng) (x : Int) : inB (r :: L) x = (rin r x || inB L x) := rfl
theorem inB_append (L M : List Rng) (x : Int) : inB (L ++ M) x = (inB L x || inB M x) := List.any_append
theorem inB_reverse (L : List Rng) (x : Int) : inB L.reverse x = inB L x := List.any_reverse
theorem inB_perm {L M : List Rng} (h : L.Perm M) (x : Int) : inB L x = inB M x := h.any_eq
theorem jr_in {acc : List Rng} {r : Rng} (hr : r.lo ≤ r.hi) (ha : ∀ l ∈ acc, l.lo ≤ l.hi ∧ r.hi ≤ l.hi) (x : Int) : inB (jr acc r) x = (inB acc x || rin r x) := by
  cases acc with
  | nil => simp [jr, inB]
  | cons l t =>
    obtain ⟨h1, h2⟩ := ha l (by simp)
    simp only [jr]
    by_cases h : l.lo ≤ r.hi + 1
    · rw [if_pos h, inB_cons, inB_cons]
      have : rin ⟨min l.lo r.lo, l.hi⟩ x = (rin l x || rin r x) := by
        unfold rin
        rw [Bool.eq_iff_iff]
        simp
        omega
      rw [this]
      cases rin l x <;> cases rin r x <;> cases inB t x <;> rfl
    · rw [if_neg h, inB_cons, inB_cons]
      cases rin l x <;> cases rin r x <;> cases inB t x <;> rfl
theorem jr_canon {acc : List Rng} {r : Rng} (hr : r.lo ≤ r.hi) (ha : CanonR acc) : CanonR (jr acc r) := by
  cases acc with
  | nil => exact ⟨by simpa [jr] using hr, by simp [jr]⟩
  | cons l t =>
    have h1 := ha.ok l (by simp)
    have h2 := List.pairwise_cons.1 ha.apart
    simp only [jr]
    by_cases h : l.lo ≤ r.hi + 1
    · rw [if_pos h]
      refine ⟨fun a hm => ?_, List.pairwise_cons.2 ⟨fun b hb => h2.1 b hb, h2.2⟩⟩
      rcases List.mem_cons.1 hm with rfl | hm
      · show min l.lo r.lo ≤ l.hi; omega
      · exact ha.ok a (by simp [hm])
    · rw [if_neg h]
      refine ⟨fun a hm => ?_, List.pairwise_cons.2 ⟨fun b hb => ?_, ha.apart⟩⟩
      · rcases List.mem_cons.1 hm with rfl | hm
        · exact hr
        · exact ha.ok a hm
      · rcases List.mem_cons.1 hb with rfl | hb
        · omega
        · have := h2.1 b hb; omega
theorem jr_top {acc : List Rng} {r : Rng} {m : Int} (hr : m ≤ r.hi) (ha : ∀ l ∈ acc, m ≤ l.hi) : ∀ l ∈ jr acc r, m ≤ l.hi := by
  cases acc with
  | nil => intro l hl; simp [jr] at hl; rw [hl]; exact hr
  | cons a t =>
    intro l hl
    simp only [jr] at hl
    split at hl
    · rcases List.mem_cons.1 hl with rfl | hl
      · exact ha a (by simp)
      · exact ha l (by simp [hl])
    · rcases List.mem_cons.1 hl with rfl | hl
      · exact hr
      · exact ha l hl
theorem fold_jr (L : List Rng) : ∀ acc, (∀ r ∈ L, r.lo ≤ r.hi) → L.Pairwise (fun a b => b.hi ≤ a.hi) → CanonR acc → (∀ r ∈ L, ∀ l ∈ acc, r.hi ≤ l.hi) → CanonR (L.foldl jr acc) ∧ ∀ x, inB (L.foldl jr acc) x = (inB acc x || inB L x) := by
  induction L with
  | nil => intro acc _ _ h _; exact ⟨h, fun x => by simp [inB]⟩
  | cons r t ih =>
    intro acc hok hs hc hm
    have hr := hok r (by simp)
    have hs2 := List.pairwise_cons.1 hs
    rw [List.foldl_cons]
    obtain ⟨h1, h2⟩ := ih (jr acc r) (fun a ha => hok a (by simp [ha])) hs2.2 (jr_canon hr hc) (fun a ha l hl => jr_top (hs2.1 a ha) (fun l hl => hm a (by simp [ha]) l hl) l hl)
    refine ⟨h1, fun x => ?_⟩
    rw [h2, jr_in hr (fun l hl => ⟨hc.ok l hl, hm r (by simp) l hl⟩), inB_cons, Bool.or_assoc]
/-- joined: in order, apart, the same numbers -/
theorem joinL_canon {L : List Rng} (hok : ∀ r ∈ L, r.lo ≤ r.hi) (hs : L.Pairwise (fun a b => b.hi ≤ a.hi)) : Canon (joinL L) ∧ ∀ x, inB (joinL L) x = inB L x := by
  obtain ⟨h1, h2⟩ := fold_jr L [] hok hs ⟨by simp, by simp⟩ (by simp)
  have he : joinL L = (L.foldl jr []).reverse := joinL_jr L []
  rw [he]
  refine ⟨⟨fun r hr => h1.ok r (by simpa using hr), by rw [List.pairwise_reverse]; exact h1.apart⟩, fun x => ?_⟩
  rw [inB_reverse, h2]
  rfl
theorem inB_iff {L : List Rng} {x : Int} : inB L x = true ↔ ∃ r ∈ L, r.lo ≤ x ∧ x ≤ r.hi := by
  unfold inB rin
  simp
/-- in order and apart, the same numbers: the same ranges -/
theorem canon_eq : ∀ {A B : List Rng}, Canon A → Canon B → (∀ x, inB A x = inB B x) → A = B
  | [], [], _, _, _ => rfl
  | [], b :: s, _, hb, h => by
    have := h b.lo
    have hb1 := hb.ok b (by simp)
    have : inB (b :: s) b.lo = true := inB_iff.2 ⟨b, by simp, by omega, hb1⟩
    rw [← h] at this
    simp [inB] at this
  | a :: t, [], ha, _, h => by
    have ha1 := ha.ok a (by simp)
    have : inB (a :: t) a.lo = true := inB_iff.2 ⟨a, by simp, by omega, ha1⟩
    rw [h] at this
    simp [inB] at this
  | a :: t, b :: s, ha, hb, h => by
    have ha1 := ha.ok a (by simp)
    have hb1 := hb.ok b (by simp)
    have ha2 := List.pairwise_cons.1 ha.apart
    have hb2 := List.pairwise_cons.1 hb.apart
    have top : ∀ {c : Rng} {u : List Rng}, Canon (c :: u) → ∀ x, inB (c :: u) x = true → x ≤ c.hi := fun {c u} hc x hx => by
      obtain ⟨r, hr, h1, h2⟩ := inB_iff.1 hx
      rcases List.mem_cons.1 hr with rfl | hr
      · exact h2
      · have := (List.pairwise_cons.1 hc.apart).1 r hr
        have := hc.ok c (by simp)
        omega
    have low : ∀ {c : Rng} {u : List Rng}, Canon (c :: u) → inB (c :: u) (c.lo - 1) = false := fun {c u} hc => by
      cases hx : inB (c :: u) (c.lo - 1) with
      | false => rfl
      | true =>
        obtain ⟨r, hr, h1, h2⟩ := inB_iff.1 hx
        rcases List.mem_cons.1 hr with rfl | hr
        · omega
        · have := (List.pairwise_cons.1 hc.apart).1 r hr
          omega
    have hh : a.hi = b.hi := by
      have h1 := top hb a.hi (by rw [← h]; exact inB_iff.2 ⟨a, by simp, ha1, by omega⟩)
      have h2 := top ha b.hi (by rw [h]; exact inB_iff.2 ⟨b, by simp, hb1, by omega⟩)
      omega
    have hl : a.lo = b.lo := by
      have h1 := low ha
      have h2 := low hb
      rcases Int.lt_trichotomy a.lo b.lo with hlt | he | hlt
      · rw [← h] at h2
        have : inB (a :: t) (b.lo - 1) = true := inB_iff.2 ⟨a, by simp, by omega, by omega⟩
        rw [this] at h2; cases h2
      · exact he
      · rw [h] at h1
        have : inB (b :: s) (a.lo - 1) = true := inB_iff.2 ⟨b, by simp, by omega, by omega⟩
        rw [this] at h1; cases h1
    have hab : a = b := by cases a; cases b; simp_all
    subst hab
    have ht := canon_eq (A := t) (B := s) ⟨fun r hr => ha.ok r (by simp [hr]), ha2.2⟩ ⟨fun r hr => hb.ok r (by simp [hr]), hb2.2⟩ (fun x => by
      have := h x
      rw [inB_cons, inB_cons] at this
      cases hx : rin a x with
      | false => rw [hx] at this; simpa using this
      | true =>
        have hx2 : a.lo ≤ x ∧ x ≤ a.hi := by unfold rin at hx; simpa using hx
        have no : ∀ {u : List Rng}, (∀ r ∈ u, r.hi + 1 < a.lo) → inB u x = false := fun {u} hu => by
          cases hy : inB u x with
          | false => rfl
          | true =>
            obtain ⟨r, hr, h1, h2⟩ := inB_iff.1 hy
            have := hu r hr
            omega
        rw [no ha2.1, no hb2.1])
    rw [ht]
end Go.Proofs.YtaindcicloapfaaDoor

/-! Contracts of ranges.Add and ranges.Count. Condition: the slice can be read. -/
namespace Go.Proofs.YtaindcicloapfaaDoor
open Go.ChangeShapes Go.WideShapes Go.ChangeAt Go.RowKit
set_option linter.unusedVariables false

theorem rfits (A : Option Addr) (n cap : Nat) (w : World) (hm : n ≤ 1000) :
    Calls Tryd.prog 68 #[.slice A n cap] w fun e w' => e = .returned (if 12 < n then .tuple #[.slice none 0 0, errV 4] else .tuple #[.slice A n cap, errV 0]) ∧ w = w' := by
  by_cases h : 12 < n
  · rw [if_pos h]
    have h1 : (12 : Int) < (n : Int) := by omega
    go_enter Tryd.func68, Tryd.ntmps68
    go_wp2
    go_ret2
    exact ⟨rfl, rfl⟩
  · rw [if_neg h]
    have h1 : decide ((12 : Int) < (n : Int)) = false := by simp; omega
    go_enter Tryd.func68, Tryd.ntmps68
    go_wp2
    go_ret2
    exact ⟨rfl, rfl⟩

set_option maxHeartbeats 3200000 in
set_option maxRecDepth 100000 in
/-- a number that cannot be is not added -/
theorem radd_out (A : Option Addr) (n cap : Nat) (L : List Rng) (x : Int) (w : World) (hn : L.length = n) (hb : ∀ r ∈ L, okI r.lo ∧ okI r.hi) (h : Rd w 2 (.slice A n cap) (L.map rngRow)) (hE : rngE L = 0) (hx : mayB x = false) :
    Calls Tryd.prog 43 #[.slice A n cap, .int .i64 x] w fun e w' => e = .returned (.tuple #[.slice none 0 0, .bool false, errV 1]) ∧ Below w.heap.size w w' := by
  have H := Lib.hid h
  have HN := Lib.hid hn
  have HB := Lib.hid hb
  have HE := Lib.hid hE
  have HX := Lib.hid hx
  clear h hn hb hE hx
  go_enter Tryd.func43, Tryd.ntmps43
  go_wp2_with (first | (go_at_call 67; refine (rcheck A n cap L _ HN.out HB.out H.out).mono ?_; rintro e w1 ⟨rfl, hb1⟩; rw [HE.out, errV_zero]) | (go_at_call 30; refine (may_any x _).mono ?_; rintro e w2 ⟨rfl, rfl⟩; rw [HX.out]))
  go_ret3
  exact ⟨rfl, (by refine Since.out ?_; repeat (first | with_reducible assumption | with_reducible exact Since.refl _ | with_reducible refine Since.later ?_ (by with_reducible assumption) | with_reducible refine Since.only ?_ (by with_reducible assumption) (by first | assumption | omega | (simp; done) | (simp; omega)) | with_reducible refine Since.alloc ?_ _ | with_reducible refine Since.drewN ?_ _ | with_reducible refine Since.drew ?_ | with_reducible refine Since.set ?_ (by first | assumption | omega | (simp; done) | (simp; omega)) _))⟩

set_option maxHeartbeats 3200000 in
set_option maxRecDepth 100000 in
/-- a number is added -/
theorem radd_ok (A : Option Addr) (n cap : Nat) (L : List Rng) (x : Int) (w : World) (hn : L.length = n) (hb : ∀ r ∈ L, okI r.lo ∧ okI r.hi) (h : Rd w 2 (.slice A n cap) (L.map rngRow)) (hE : rngE L = 0) (hx : mayB x = true) :
    Calls Tryd.prog 43 #[.slice A n cap, .int .i64 x] w fun e w' => ∃ L' : List Rng, L'.Perm (L ++ [⟨x, x⟩]) ∧ L'.Pairwise (fun a b => b.hi ≤ a.hi) ∧ Below w.heap.size w w' ∧
      ((12 < (joinL L').length ∧ e = .returned (.tuple #[.slice none 0 0, .bool false, errV 4])) ∨
       ((joinL L').length ≤ 12 ∧ ∃ A' cap', e = .returned (.tuple #[.slice A' (joinL L').length cap', .bool (!inB L x), errV 0]) ∧ Lst w' 81 2 (.slice A' (joinL L').length cap') ((joinL L').map rngRow) ∧ ∀ k, k ∈ blocks (.slice A' 0 0) → w.heap.size ≤ k)) := by
  have H := Lib.hid h
  have HN := Lib.hid hn
  have HB := Lib.hid hb
  have HE := Lib.hid hE
  have HX := Lib.hid hx
  have hl12 : n ≤ 12 := by rw [← hn]; exact rngE_len hE
  have HML : Hid ((L.map rngRow).length = n) := Lib.hid (by rw [List.length_map]; exact hn)
  have HOK : Hid (∀ r ∈ L ++ [(⟨x, x⟩ : Rng)], okN r) := Lib.hid (fun r hr => by
    rcases List.mem_append.1 hr with hr | hr
    · exact rngE_ok hE r hr
    · rw [List.mem_singleton.1 hr]; exact ⟨mayB_iff.1 hx, mayB_iff.1 hx⟩)
  clear h hn hb hE hx
  go_enter Tryd.func43, Tryd.ntmps43
  go_wp2_with (first | (go_at_call 67; refine (rcheck A n cap L _ HN.out HB.out H.out).mono ?_; rintro e w1 ⟨rfl, hb1⟩; rw [HE.out, errV_zero]; have HB1 := Lib.hid hb1; clear hb1) | (go_at_call 30; refine (may_any x _).mono ?_; rintro e w2 ⟨rfl, rfl⟩; rw [HX.out]) | (go_at_call 38; refine (rclone A n cap L _ HN.out (by omega) (H.out.later HB1.out)).mono ?_; rintro e w3 ⟨A3, c3, rfl, hl3, hb3, hk3⟩; have HL3 := Lib.hid hl3; have HK3 := Lib.hid hk3; have HS3 := Lib.hid ((show Since w w1 from HB1.out).later hb3); clear hl3 hk3 hb3) | (at_builtin; refine wpList_push rfl _ _ 35 rfl 81 2 16 Tryd.elRange (.slice A3 n c3) (L.map rngRow) rfl (HL3.out.alloc _) w3.heap.size 1 [.int .i64 x, .int .i64 x] rfl rfl (rngRow_one ⟨x, x⟩).2 (BlockIs.fresh _ _ _) (by rw [HML.out]; omega) ?_; intro q4 c4 w4 hl4 ho4 hq4 hlt4; rw [HML.out] at hl4; (try rw [HML.out]); have HL4 : Hid (Lst w4 81 2 (.slice (some ⟨q4, 0, none⟩) (n + 1) c4) ((L ++ [(⟨x, x⟩ : Rng)]).map rngRow)) := Lib.hid (by rw [List.map_append]; exact hl4); have HS4 := Lib.hid ((HS3.out.alloc _).out' ho4 (fun k hk => Nat.le_trans HB1.out.size (HK3.out k (blocks_any A3 _ _ _ _ ▸ hk)))); clear hl4 ho4 hq4 hlt4) | (go_at_call 69; refine (rjoined (some ⟨q4, 0, none⟩) (n + 1) c4 (L ++ [⟨x, x⟩]) w4 (by rw [List.length_append, HN.out]; rfl) (by omega) (by omega) HOK.out (Rd.of_lst HL4.out)).mono ?_; rintro e w5 ⟨L5, A5, c5, hp5, hs5, rfl, hl5, hb5, hk5⟩; have HP5 := Lib.hid hp5; have HQ5 := Lib.hid hs5; have HL5 := Lib.hid hl5; have HK5 := Lib.hid hk5; have HS5 := Lib.hid (HS4.out.later hb5); have hjl := joinL_len L5 L5.length; rw [List.take_length, hp5.length_eq, List.length_append, HN.out] at hjl; have HJ5 := Lib.hid hjl; clear hp5 hs5 hl5 hb5 hk5 hjl))
  refine (rfits A5 (joinL L5).length c5 _ (by have := HJ5.out; simp only [List.length_cons, List.length_nil] at this; omega)).mono ?_
  rintro e w6 ⟨rfl, rfl⟩
  have hs5 := HS5.out
  by_cases hj : 12 < (joinL L5).length
  · rw [if_pos hj, show errV 4 = .iface 70 (.int .i64 4) from rfl]
    have HJ := Lib.hid hj
    clear hj
    go_wp2_with fail
    go_ret3
    exact ⟨L5, HP5.out, HQ5.out, (by refine Since.out ?_; repeat (first | with_reducible assumption | with_reducible exact Since.refl _ | with_reducible refine Since.later ?_ (by with_reducible assumption) | with_reducible refine Since.only ?_ (by with_reducible assumption) (by first | assumption | omega | (simp; done) | (simp; omega)) | with_reducible refine Since.alloc ?_ _ | with_reducible refine Since.drewN ?_ _ | with_reducible refine Since.drew ?_ | with_reducible refine Since.set ?_ (by first | assumption | omega | (simp; done) | (simp; omega)) _)), Or.inl ⟨HJ.out, rfl⟩⟩
  · rw [if_neg hj, errV_zero]
    have HJ := Lib.hid hj
    clear hj
    go_wp2_with (go_at_call 40; refine (rin_any A n cap L x _ HN.out (H.out.later hs5)).mono ?_; rintro e w7 ⟨rfl, hb7⟩)
    go_ret3
    exact ⟨L5, HP5.out, HQ5.out, (by refine Since.out ?_; repeat (first | with_reducible assumption | with_reducible exact Since.refl _ | with_reducible refine Since.later ?_ (by with_reducible assumption) | with_reducible refine Since.only ?_ (by with_reducible assumption) (by first | assumption | omega | (simp; done) | (simp; omega)) | with_reducible refine Since.alloc ?_ _ | with_reducible refine Since.drewN ?_ _ | with_reducible refine Since.drew ?_ | with_reducible refine Since.set ?_ (by first | assumption | omega | (simp; done) | (simp; omega)) _)), Or.inr ⟨by have := HJ.out; omega, A5, c5, rfl, HL5.out.later hb7, fun k hk => Nat.le_trans HS4.out.le (HK5.out k hk)⟩⟩

def cntL (L : List Rng) : Int := L.foldl (fun a r => a + (r.hi - r.lo + 1)) 0
theorem cntL_succ {L : List Rng} {i : Nat} (h : i < L.length) : cntL (L.take (i + 1)) = cntL (L.take i) + ((rat L i).hi - (rat L i).lo + 1) := by
  unfold cntL
  rw [List.take_add_one, List.foldl_append, rat_get h]
  simp [List.getElem?_eq_getElem h]
theorem cntL_le {L : List Rng} (h : ∀ r ∈ L, okN r) : ∀ i, i ≤ L.length → -(1073741823 * (i : Int)) ≤ cntL (L.take i) ∧ cntL (L.take i) ≤ 1073741824 * (i : Int)
  | 0, _ => by simp [cntL]
  | i + 1, hi => by
    have ih := cntL_le h i (by omega)
    have hr : okN (rat L i) := by rw [rat_get (by omega)]; exact h _ (List.getElem_mem _)
    rw [cntL_succ (by omega)]
    obtain ⟨⟨a, b⟩, c, d⟩ := hr
    omega
end Go.Proofs.YtaindcicloapfaaDoor

/-! Plain law: how many numbers are in ranges that stand in order and apart; one more if one is added. No condition. -/
namespace Go.Proofs.YtaindcicloapfaaDoor
set_option linter.unusedVariables false

def num (L : List Rng) (N : Nat) : Nat := (List.range N).countP fun i : Nat => inB L (i : Int)
theorem num_congr {A B : List Rng} (h : ∀ x, inB A x = inB B x) (N : Nat) : num A N = num B N := by
  unfold num
  congr 1
  funext i
  exact h i
theorem countP_or (p q : Nat → Bool) : ∀ l : List Nat, (∀ i ∈ l, ¬ (p i = true ∧ q i = true)) → l.countP (fun i => p i || q i) = l.countP p + l.countP q
  | [], _ => rfl
  | a :: t, h => by
    have ih := countP_or p q t (fun i hi => h i (by simp [hi]))
    have ha := h a (by simp)
    rw [List.countP_cons, List.countP_cons, List.countP_cons, ih]
    cases hp : p a <;> cases hq : q a <;> simp_all <;> omega
theorem num_cons {r : Rng} {L : List Rng} {N : Nat} (h : ∀ x, rin r x = true → inB L x = false) : num (r :: L) N = num [r] N + num L N := by
  unfold num
  rw [← countP_or]
  · congr 1
    funext i
    simp [inB]
  · intro i _ hh
    obtain ⟨h1, h2⟩ := hh
    have h3 : rin r (i : Int) = true := by simpa [inB] using h1
    rw [h _ h3] at h2
    cases h2
theorem num_one (lo hi : Int) (h0 : 0 ≤ lo) (hl : lo ≤ hi + 1) : ∀ N : Nat, (num [⟨lo, hi⟩] N : Int) = if (N : Int) ≤ lo then 0 else if (N : Int) ≤ hi + 1 then (N : Int) - lo else hi + 1 - lo
  | 0 => by rw [if_pos (by omega)]; rfl
  | N + 1 => by
    have ih := num_one lo hi h0 hl N
    have hs : num [⟨lo, hi⟩] (N + 1) = num [⟨lo, hi⟩] N + (if lo ≤ (N : Int) ∧ (N : Int) ≤ hi then 1 else 0) := by
      unfold num
      rw [List.range_succ, List.countP_append, List.countP_singleton]
      congr 1
      simp [inB, rin]
    rw [hs]
    split at ih <;> split <;> (try split at ih) <;> (try split) <;> (try split) <;> omega
theorem cnt_fold (L : List Rng) : ∀ a, L.foldl (fun a r => a + (r.hi - r.lo + 1)) a = a + cntL L := by
  induction L with
  | nil => intro a; simp [cntL]
  | cons r t ih =>
    intro a
    have h2 : cntL (r :: t) = t.foldl (fun a r => a + (r.hi - r.lo + 1)) (0 + (r.hi - r.lo + 1)) := rfl
    rw [List.foldl_cons, ih, h2, ih]
    omega
theorem cnt_cons (r : Rng) (t : List Rng) : cntL (r :: t) = (r.hi - r.lo + 1) + cntL t := by
  have h2 : cntL (r :: t) = t.foldl (fun a r => a + (r.hi - r.lo + 1)) (0 + (r.hi - r.lo + 1)) := rfl
  rw [h2, cnt_fold]
  omega
theorem cnt_num {N : Nat} : ∀ {L : List Rng}, Canon L → (∀ r ∈ L, 0 ≤ r.lo ∧ r.hi < N) → cntL L = num L N
  | [], _, _ => by
    have : num [] N = 0 := by unfold num; simp [inB]
    rw [this]; rfl
  | r :: t, hc, hb => by
    have h2 := List.pairwise_cons.1 hc.apart
    have hr := hc.ok r (by simp)
    obtain ⟨b1, b2⟩ := hb r (by simp)
    have ih := cnt_num (L := t) ⟨fun a ha => hc.ok a (by simp [ha]), h2.2⟩ (fun a ha => hb a (by simp [ha]))
    rw [cnt_cons, num_cons (fun x hx => by
      have hx2 : r.lo ≤ x ∧ x ≤ r.hi := by unfold rin at hx; simpa using hx
      cases hy : inB t x with
      | false => rfl
      | true =>
        obtain ⟨q, hq, h3, h4⟩ := inB_iff.1 hy
        have := h2.1 q hq
        omega), ih]
    have h1 := num_one r.lo r.hi b1 (by omega) N
    rw [if_neg (by omega)] at h1
    have h1' : (num [r] N : Int) = r.hi + 1 - r.lo := by
      have e : num [r] N = num [⟨r.lo, r.hi⟩] N := rfl
      rw [e, h1]
      split <;> omega
    omega
/-- a number more -/
theorem cnt_more {A B : List Rng} {x : Int} {N : Nat} (ha : Canon A) (hb : Canon B) (hA : ∀ r ∈ A, 0 ≤ r.lo ∧ r.hi < N) (hB : ∀ r ∈ B, 0 ≤ r.lo ∧ r.hi < N) (h0 : 0 ≤ x) (h1 : x < N) (h : ∀ y, inB B y = (inB A y || rin ⟨x, x⟩ y)) : cntL B = cntL A + if inB A x = true then 0 else 1 := by
  rw [cnt_num ha hA, cnt_num hb hB]
  by_cases hx : inB A x = true
  · rw [if_pos hx, num_congr (A := B) (B := A)]
    · omega
    · intro y
      rw [h]
      cases hy : rin ⟨x, x⟩ y with
      | false => simp
      | true =>
        have : y = x := by unfold rin at hy; simp at hy; omega
        rw [this, hx]; rfl
  · rw [if_neg hx, num_congr (A := B) (B := ⟨x, x⟩ :: A) (fun y => by rw [h, inB_cons, Bool.or_comm]), num_cons (fun y hy => by
      have : y = x := by unfold rin at hy; simp at hy; omega
      rw [this]; simpa using hx)]
    have h2 := num_one x x h0 (by omega) N
    rw [if_neg (by omega)] at h2
    split at h2 <;> omega
end Go.Proofs.YtaindcicloapfaaDoor

/-! Plain law: what is right for Check stands in order and apart, and the other way; what is joined. No condition. -/
namespace Go.Proofs.YtaindcicloapfaaDoor
set_option linter.unusedVariables false

theorem rngE_canon {L : List Rng} (h : rngE L = 0) : Canon L := by
  have hh : ∀ i, i < L.length → okN (rat L i) ∧ (rat L i).lo ≤ (rat L i).hi ∧ (0 < i → (rat L i).hi + 1 < (rat L (i - 1)).lo) := fun i hi => rngOne_ok (rngE_each h hi)
  refine ⟨fun r hr => ?_, ?_⟩
  · obtain ⟨i, hi, rfl⟩ := List.getElem_of_mem hr
    have := (hh i hi).2.1
    rwa [rat_get hi] at this
  · have key : ∀ j, j < L.length → ∀ i, i < j → (rat L j).hi + 1 < (rat L i).lo := by
      intro j
      induction j with
      | zero => intro _ i hi; omega
      | succ j ih =>
        intro hj i hi
        have h1 := (hh (j + 1) hj).2.2 (by omega)
        rw [Nat.add_sub_cancel] at h1
        by_cases he : i = j
        · rw [he]; exact h1
        · have h2 := ih (by omega) i (by omega)
          have h3 := (hh j (by omega)).2.1
          omega
    rw [List.pairwise_iff_getElem]
    intro i j hi hj hij
    have := key j hj i hij
    rwa [rat_get hi, rat_get hj] at this
theorem canon_rngE {L : List Rng} (h : Canon L) (hl : L.length ≤ 12) (hb : ∀ r ∈ L, okN r) : rngE L = 0 := by
  have hone : ∀ i, i < L.length → rngOne L i = 0 := fun i hi => by
    have ho := hb _ (List.getElem_mem hi)
    have hk := h.ok _ (List.getElem_mem hi)
    unfold rngOne
    rw [rat_get hi, if_pos ⟨mayB_iff.2 ho.1, mayB_iff.2 ho.2⟩, if_neg]
    intro hx
    rcases hx with hx | ⟨h0, hx⟩
    · omega
    · have := (List.pairwise_iff_getElem.1 h.apart) (i - 1) i (by omega) hi (by omega)
      rw [rat_get (by omega)] at hx
      omega
  have hup : ∀ n, n ≤ L.length → rngUp L n = 0 := by
    intro n
    induction n with
    | zero => intro _; rfl
    | succ n ih => intro hn; exact rngUp_ok (ih (by omega)) (hone n (by omega))
  unfold rngE
  rw [if_neg (by omega)]
  exact hup _ (Nat.le_refl _)
/-- what is joined stands in order and apart, and holds the same numbers -/
theorem joined_ok {L' M : List Rng} (hp : L'.Perm M) (hs : L'.Pairwise (fun a b => b.hi ≤ a.hi)) (hok : ∀ r ∈ M, okN r ∧ r.lo ≤ r.hi) : Canon (joinL L') ∧ (∀ y, inB (joinL L') y = inB M y) ∧ ∀ r ∈ joinL L', okN r := by
  obtain ⟨h1, h2⟩ := joinL_canon (fun r hr => (hok r (hp.mem_iff.1 hr)).2) hs
  have h3 : ∀ y, inB (joinL L') y = inB M y := fun y => (h2 y).trans (inB_perm hp y)
  refine ⟨h1, h3, fun r hr => ?_⟩
  have hk := h1.ok r hr
  have e1 : inB M r.lo = true := by rw [← h3]; exact inB_iff.2 ⟨r, hr, by omega, hk⟩
  have e2 : inB M r.hi = true := by rw [← h3]; exact inB_iff.2 ⟨r, hr, hk, by omega⟩
  obtain ⟨a, ha, a1, a2⟩ := inB_iff.1 e1
  obtain ⟨b, hb, b1, b2⟩ := inB_iff.1 e2
  obtain ⟨⟨⟨p1, p2⟩, p3, p4⟩, p5⟩ := hok a ha
  obtain ⟨⟨⟨q1, q2⟩, q3, q4⟩, q5⟩ := hok b hb
  exact ⟨⟨by omega, by omega⟩, by omega, by omega⟩
/-- two orders of joining: one result -/
theorem joined_eq {L' M' A B : List Rng} (hp : L'.Perm (A ++ B)) (hs : L'.Pairwise (fun a b => b.hi ≤ a.hi)) (hp' : M'.Perm (B ++ A)) (hs' : M'.Pairwise (fun a b => b.hi ≤ a.hi)) (hok : ∀ r ∈ A ++ B, okN r ∧ r.lo ≤ r.hi) : joinL L' = joinL M' := by
  have h1 := joined_ok hp hs hok
  have h2 := joined_ok (M := A ++ B) (hp'.trans List.perm_append_comm) hs' hok
  exact canon_eq h1.1 h2.1 (fun y => by rw [h1.2.1, h2.2.1])
end Go.Proofs.YtaindcicloapfaaDoor

/-! Plain law: what the reference's With makes of ranges that are right, and one more. No condition. -/
namespace Go.Proofs.YtaindcicloapfaaDoor
set_option linter.unusedVariables false

/-- what With holds: the list, whether the new one is in, and the new one as it grew -/
structure WSt where
  out : List Rng
  put : Bool
  x : Rng
def wstep (s : WSt) (r : Rng) : WSt :=
  if s.x.hi + 1 < r.lo then ⟨s.out ++ [r], s.put, s.x⟩
  else if r.hi < s.x.lo - 1 then (if s.put = true then ⟨s.out ++ [r], true, s.x⟩ else ⟨s.out ++ [s.x] ++ [r], true, s.x⟩)
  else ⟨s.out, s.put, ⟨if r.lo < s.x.lo then r.lo else s.x.lo, if s.x.hi < r.hi then r.hi else s.x.hi⟩⟩
def wup (L : List Rng) (x : Rng) (i : Nat) : WSt := (L.take i).foldl wstep ⟨[], false, x⟩
def withL (L : List Rng) (x : Rng) : List Rng := if (wup L x L.length).put = true then (wup L x L.length).out else (wup L x L.length).out ++ [(wup L x L.length).x]
theorem wup_zero (L : List Rng) (x : Rng) : wup L x 0 = ⟨[], false, x⟩ := rfl
theorem wup_succ {L : List Rng} {x : Rng} {i : Nat} (h : i < L.length) : wup L x (i + 1) = wstep (wup L x i) (rat L i) := by
  unfold wup
  rw [List.take_add_one, List.foldl_append, rat_get h]
  simp [List.getElem?_eq_getElem h]
theorem wstep_len (s : WSt) (r : Rng) : (wstep s r).out.length + (if (wstep s r).put = true then 0 else 1) ≤ s.out.length + (if s.put = true then 0 else 1) + 1 := by
  unfold wstep
  by_cases h1 : s.x.hi + 1 < r.lo
  · rw [if_pos h1]; simp; omega
  · rw [if_neg h1]
    by_cases h2 : r.hi < s.x.lo - 1
    · rw [if_pos h2]
      cases hp : s.put <;> simp
    · rw [if_neg h2]; simp
theorem wup_len (L : List Rng) (x : Rng) : ∀ i, i ≤ L.length → (wup L x i).out.length + (if (wup L x i).put = true then 0 else 1) ≤ i + 1
  | 0, _ => by simp [wup_zero]
  | i + 1, h => by
    have := wup_len L x i (by omega)
    have h2 := wstep_len (wup L x i) (rat L i)
    rw [wup_succ (by omega)]
    omega
theorem withL_len (L : List Rng) (x : Rng) : (withL L x).length ≤ L.length + 1 := by
  have := wup_len L x L.length (Nat.le_refl _)
  unfold withL
  split
  · rename_i h; rw [if_pos h] at this; omega
  · rename_i h; rw [if_neg h] at this; simp; omega
/-- what holds behind i rounds -/
structure WInv (L : List Rng) (x0 : Rng) (i : Nat) (s : WSt) : Prop where
  canon : Canon s.out
  xok : s.x.lo ≤ s.x.hi
  far : ∀ o ∈ s.out, ∀ j, i ≤ j → j < L.length → (rat L j).hi + 1 < o.lo
  away : s.put = false → ∀ o ∈ s.out, s.x.hi + 1 < o.lo
  low : s.put = true → ∀ j, i ≤ j → j < L.length → (rat L j).hi + 1 < s.x.lo
  same : ∀ y, (inB s.out y || (!s.put && rin s.x y)) = (inB (L.take i) y || rin x0 y)
theorem canon_snoc {L : List Rng} {r : Rng} (h : Canon L) (hr : r.lo ≤ r.hi) (hf : ∀ o ∈ L, r.hi + 1 < o.lo) : Canon (L ++ [r]) := by
  refine ⟨fun a ha => ?_, ?_⟩
  · rcases List.mem_append.1 ha with ha | ha
    · exact h.ok a ha
    · rw [List.mem_singleton.1 ha]; exact hr
  · rw [List.pairwise_append]
    exact ⟨h.apart, by simp, fun a ha b hb => by rw [List.mem_singleton.1 hb]; exact hf a ha⟩
theorem canon_rat {L : List Rng} (h : Canon L) {i j : Nat} (hij : i < j) (hj : j < L.length) : (rat L j).hi + 1 < (rat L i).lo := by
  have := (List.pairwise_iff_getElem.1 h.apart) i j (by omega) hj hij
  rw [rat_get hj, rat_get (by omega)]; exact this
theorem inB_take_succ {L : List Rng} {i : Nat} (h : i < L.length) (y : Int) : inB (L.take (i + 1)) y = (inB (L.take i) y || rin (rat L i) y) := by
  rw [List.take_succ_eq_append_getElem h, inB_append, rat_get h]
  simp [inB]
theorem winv {L : List Rng} {x0 : Rng} (hL : Canon L) (hx : x0.lo ≤ x0.hi) : ∀ i, i ≤ L.length → WInv L x0 i (wup L x0 i)
  | 0, _ => ⟨⟨by simp [wup_zero], by simp [wup_zero]⟩, hx, by simp [wup_zero], by simp [wup_zero], by simp [wup_zero], fun y => by simp [wup_zero, inB]⟩
  | i + 1, hi => by
    obtain ⟨c, xo, fa, aw, lo, sa⟩ := winv hL hx i (by omega)
    have hiL : i < L.length := by omega
    have hr : (rat L i).lo ≤ (rat L i).hi := by rw [rat_get hiL]; exact hL.ok _ (List.getElem_mem _)
    have hlater : ∀ j, i + 1 ≤ j → j < L.length → (rat L j).hi + 1 < (rat L i).lo := fun j h1 h2 => canon_rat hL (by omega) h2
    rw [wup_succ hiL]
    generalize wup L x0 i = s at *
    obtain ⟨out, put, x⟩ := s
    simp only at *
    generalize hrr : rat L i = r at *
    obtain ⟨rl, rh⟩ := r
    obtain ⟨xl, xh⟩ := x
    simp only at *
    have hfo : ∀ o ∈ out, rh + 1 < o.lo := fun o ho => by have := fa o ho i (Nat.le_refl _) hiL; rw [hrr] at this; exact this
    unfold wstep
    simp only
    by_cases h1 : xh + 1 < rl
    · rw [if_pos h1]
      have hpf : put = false := by
        cases hp : put with
        | false => rfl
        | true => have := lo hp i (Nat.le_refl _) hiL; rw [hrr] at this; simp only at this; omega
      subst hpf
      refine ⟨canon_snoc c hr hfo, xo, fun o ho j h2 h3 => ?_, fun _ o ho => ?_, fun h => by simp at h, fun y => ?_⟩
      · rcases List.mem_append.1 ho with ho | ho
        · exact fa o ho j (by omega) h3
        · rw [List.mem_singleton.1 ho]; exact hlater j h2 h3
      · rcases List.mem_append.1 ho with ho | ho
        · exact aw rfl o ho
        · rw [List.mem_singleton.1 ho]; exact h1
      · have := sa y
        rw [inB_take_succ hiL, hrr]
        simp only [inB_append] at this ⊢
        simp only [inB, List.any_cons, List.any_nil, Bool.or_false, Bool.not_false, Bool.true_and] at this ⊢
        rw [Bool.or_assoc, Bool.or_comm (rin ⟨rl, rh⟩ y), ← Bool.or_assoc, this, Bool.or_assoc, Bool.or_comm (rin x0 y), ← Bool.or_assoc]
    · rw [if_neg h1]
      by_cases h2 : rh < xl - 1
      · rw [if_pos h2]
        cases put with
        | true =>
          rw [if_pos rfl]
          refine ⟨canon_snoc c hr hfo, xo, fun o ho j h3 h4 => ?_, fun h => by simp at h, fun _ j h3 h4 => lo rfl j (by omega) h4, fun y => ?_⟩
          · rcases List.mem_append.1 ho with ho | ho
            · exact fa o ho j (by omega) h4
            · rw [List.mem_singleton.1 ho]; exact hlater j h3 h4
          · have := sa y
            rw [inB_take_succ hiL, hrr]
            simp only [inB_append] at this ⊢
            simp only [inB, List.any_cons, List.any_nil, Bool.or_false, Bool.not_true, Bool.false_and] at this ⊢
            rw [this, Bool.or_assoc, Bool.or_comm (rin x0 y), ← Bool.or_assoc]
        | false =>
          rw [if_neg (by simp)]
          refine ⟨canon_snoc (canon_snoc c xo (aw rfl)) hr (fun o ho => ?_), xo, fun o ho j h3 h4 => ?_, fun h => by simp at h, fun _ j h3 h4 => ?_, fun y => ?_⟩
          · rcases List.mem_append.1 ho with ho | ho
            · exact hfo o ho
            · rw [List.mem_singleton.1 ho]; show rh + 1 < xl; omega
          · have hl := hlater j h3 h4
            rcases List.mem_append.1 ho with ho | ho
            · rcases List.mem_append.1 ho with ho | ho
              · exact fa o ho j (by omega) h4
              · rw [List.mem_singleton.1 ho]; show _ < xl; omega
            · rw [List.mem_singleton.1 ho]; exact hl
          · have hl := hlater j h3 h4
            simp only at hl ⊢; omega
          · have := sa y
            rw [inB_take_succ hiL, hrr]
            simp only [inB_append] at this ⊢
            simp only [inB, List.any_cons, List.any_nil, Bool.or_false, Bool.not_true, Bool.not_false, Bool.true_and, Bool.false_and] at this ⊢
            rw [this, Bool.or_assoc, Bool.or_comm (rin x0 y), ← Bool.or_assoc]
      · rw [if_neg h2]
        have hpf : put = false := by
          cases hp : put with
          | false => rfl
          | true => have := lo hp i (Nat.le_refl _) hiL; rw [hrr] at this; simp only at this; omega
        subst hpf
        refine ⟨c, ?_, fun o ho j h3 h4 => fa o ho j (by omega) h4, fun _ o ho => ?_, fun h => by simp at h, fun y => ?_⟩
        · show (if rl < xl then rl else xl) ≤ (if xh < rh then rh else xh)
          split <;> split <;> omega
        · have a1 := hfo o ho
          have a2 := aw rfl o ho
          show (if xh < rh then rh else xh) + 1 < o.lo
          split <;> omega
        · have := sa y
          rw [inB_take_succ hiL, hrr]
          have hun : rin ⟨if rl < xl then rl else xl, if xh < rh then rh else xh⟩ y = (rin ⟨xl, xh⟩ y || rin ⟨rl, rh⟩ y) := by
            unfold rin
            rw [Bool.eq_iff_iff]
            simp
            split <;> split <;> omega
          simp only [Bool.not_false, Bool.true_and] at this ⊢
          rw [hun, ← Bool.or_assoc, this, Bool.or_assoc, Bool.or_comm (rin x0 y), ← Bool.or_assoc]
theorem withL_ok {L : List Rng} {x : Rng} (hL : Canon L) (hx : x.lo ≤ x.hi) : Canon (withL L x) ∧ ∀ y, inB (withL L x) y = (inB L y || rin x y) := by
  obtain ⟨c, xo, fa, aw, lo, sa⟩ := winv hL hx L.length (Nat.le_refl _)
  rw [List.take_length] at sa
  unfold withL
  generalize wup L x L.length = s at *
  cases hp : s.put with
  | true =>
    rw [if_pos rfl]
    refine ⟨c, fun y => ?_⟩
    have := sa y
    rw [hp] at this
    simpa using this
  | false =>
    rw [if_neg (by simp)]
    refine ⟨canon_snoc c xo (aw hp), fun y => ?_⟩
    have := sa y
    rw [hp] at this
    rw [inB_append]
    simpa [inB] using this
/-- one number added: as With says -/
theorem with_joined {L L' : List Rng} {x : Int} (hL : Canon L) (hok : ∀ r ∈ L, okN r ∧ r.lo ≤ r.hi) (hx : 0 ≤ x ∧ x ≤ 1073741823) (hp : L'.Perm (L ++ [⟨x, x⟩])) (hs : L'.Pairwise (fun a b => b.hi ≤ a.hi)) : joinL L' = withL L ⟨x, x⟩ := by
  have h1 := joined_ok hp hs (fun r hr => by
    rcases List.mem_append.1 hr with hr | hr
    · exact hok r hr
    · rw [List.mem_singleton.1 hr]; exact ⟨⟨hx, hx⟩, Int.le_refl x⟩)
  have h2 := withL_ok (L := L) (x := ⟨x, x⟩) hL (Int.le_refl x)
  refine canon_eq h1.1 h2.1 (fun y => ?_)
  rw [h1.2.1, h2.2, inB_append]
  simp [inB]
/-- all of M put in, one by one -/
def withAll (L M : List Rng) (i : Nat) : List Rng := (M.take i).foldl withL L
theorem withAll_succ {L M : List Rng} {i : Nat} (h : i < M.length) : withAll L M (i + 1) = withL (withAll L M i) (rat M i) := by
  unfold withAll
  rw [List.take_add_one, List.foldl_append, rat_get h]
  simp [List.getElem?_eq_getElem h]
theorem withAll_len (L M : List Rng) : ∀ i, i ≤ M.length → (withAll L M i).length ≤ L.length + i
  | 0, _ => by simp [withAll]
  | i + 1, h => by
    have := withAll_len L M i (by omega)
    have h2 := withL_len (withAll L M i) (rat M i)
    rw [withAll_succ (by omega)]
    omega
theorem withAll_ok {L M : List Rng} (hL : Canon L) (hM : ∀ r ∈ M, r.lo ≤ r.hi) : ∀ i, i ≤ M.length → Canon (withAll L M i) ∧ ∀ y, inB (withAll L M i) y = (inB L y || inB (M.take i) y)
  | 0, _ => ⟨hL, fun y => by simp [withAll, inB]⟩
  | i + 1, h => by
    obtain ⟨h1, h2⟩ := withAll_ok hL hM i (by omega)
    have hr : (rat M i).lo ≤ (rat M i).hi := by rw [rat_get (by omega)]; exact hM _ (List.getElem_mem _)
    obtain ⟨h3, h4⟩ := withL_ok h1 hr
    rw [withAll_succ (by omega)]
    refine ⟨h3, fun y => ?_⟩
    rw [h4, h2, inB_take_succ (by omega), Bool.or_assoc]
theorem with_both {L M L' : List Rng} (hL : Canon L) (hM : Canon M) (hok : ∀ r ∈ L ++ M, okN r ∧ r.lo ≤ r.hi) (hp : L'.Perm (L ++ M)) (hs : L'.Pairwise (fun a b => b.hi ≤ a.hi)) : joinL L' = withAll L M M.length := by
  have h1 := joined_ok hp hs hok
  have h2 := withAll_ok hL hM.ok M.length (Nat.le_refl _)
  refine canon_eq h1.1 h2.1 (fun y => ?_)
  rw [h1.2.1, h2.2, inB_append, List.take_length]
end Go.Proofs.YtaindcicloapfaaDoor

/-! Contracts of ranges.Add and ranges.Count at whatever slice, and of wiresame.Ranges at two that can be read. Condition: the slices can be read. -/
namespace Go.Proofs.YtaindcicloapfaaDoor
open Go.ChangeShapes Go.WideShapes Go.ChangeAt Go.RowKit
set_option linter.unusedVariables false

set_option maxHeartbeats 3200000 in
set_option maxRecDepth 100000 in
theorem radd_bad (A : Option Addr) (n cap : Nat) (L : List Rng) (x : Int) (w : World) (hn : L.length = n) (hb : ∀ r ∈ L, okI r.lo ∧ okI r.hi) (h : Rd w 2 (.slice A n cap) (L.map rngRow)) (hE : rngE L ≠ 0) :
    Calls Tryd.prog 43 #[.slice A n cap, .int .i64 x] w fun e w' => e = .returned (.tuple #[.slice none 0 0, .bool false, errV (rngE L)]) ∧ Below w.heap.size w w' := by
  have H := Lib.hid h
  have HN := Lib.hid hn
  have HB := Lib.hid hb
  have HE := Lib.hid hE
  rw [errV_pos hE]
  clear h hn hb hE
  go_enter Tryd.func43, Tryd.ntmps43
  go_wp2_with (go_at_call 67; refine (rcheck A n cap L _ HN.out HB.out H.out).mono ?_; rintro e w1 ⟨rfl, hb1⟩; rw [errV_pos HE.out])
  go_ret3
  exact ⟨rfl, hb1⟩
set_option maxHeartbeats 1600000 in
theorem rngeqB (A B : Option Addr) (ca cb n : Nat) (L : List Rng) (w : World) (hn : L.length = n) (h : Rd w 2 (.slice A n ca) (L.map rngRow)) (h' : Rd w 2 (.slice B n cb) (L.map rngRow)) :
    Calls Tryd.prog 15 #[.slice A n ca, .slice B n cb] w fun e w' => e = .returned (.bool true) ∧ Below w.heap.size w w' := by
  have H := Lib.hid h
  have H' := Lib.hid h'
  have HN := Lib.hid hn
  have hcm : n ≤ 9223372036854775807 := by
    obtain ⟨A', cap', hv, h1, h2, _⟩ := h.shape
    rw [List.length_map, hn] at h1
    unfold maxLen at h2
    omega
  have hq : ((n : Int) != (n : Int)) = false := by simp
  clear h h' hn
  go_enter Tryd.func15, Tryd.ntmps15
  go_wp2_with fail
  go_loopw [5] (fun s5 wr => ∃ i : Nat, s5 = .int .i64 i ∧ i ≤ n ∧ Since w wr) (fun s5 _ => n - (intOf s5).toNat)
  case atStart => exact ⟨0, rfl, Nat.zero_le _, Since.refl _⟩
  case round =>
    obtain ⟨i, rfl, hi, hs⟩ := hrel
    by_cases hlt : i < n
    case neg =>
      obtain rfl : i = n := by omega
      have hf : decide ((i : Int) < (i : Int)) = false := by simp
      go_wp2_with fail
      go_ret
      exact ⟨rfl, (by refine Since.out ?_; repeat (first | with_reducible assumption | with_reducible exact Since.refl _ | with_reducible refine Since.later ?_ (by with_reducible assumption) | with_reducible refine Since.only ?_ (by with_reducible assumption) (by first | assumption | omega | (simp; done) | (simp; omega)) | with_reducible refine Since.alloc ?_ _ | with_reducible refine Since.drewN ?_ _ | with_reducible refine Since.drew ?_ | with_reducible refine Since.set ?_ (by first | assumption | omega | (simp; done) | (simp; omega)) _))⟩
    have hlt' : (i : Int) < (n : Int) := by omega
    have hil : i < L.length := by rw [HN.out]; exact hlt
    obtain ⟨b, off, rfl, hbl, hc⟩ := H.out.rng (i := i) hil
    obtain ⟨b2, off2, rfl, hbl2, hc2⟩ := H'.out.rng (i := i) hil
    obtain ⟨a0, a1⟩ := hc wr hs i hil
    obtain ⟨b0, b1⟩ := hc2 wr hs i hil
    have lb : b < wr.heap.size := Nat.lt_of_lt_of_le hbl hs.le
    have lb2 : b2 < wr.heap.size := Nat.lt_of_lt_of_le hbl2 hs.le
    generalize (rat L i).lo = ds at *
    generalize (rat L i).hi = dn at *
    clear hc hc2 hil
    go_wp2_with fail
    go_quiet (fail)
    go_wp2_with fail
    go_roundw
    case rel => exact ⟨i + 1, by go_num, by omega, (by refine Since.out ?_; repeat (first | with_reducible assumption | with_reducible exact Since.refl _ | with_reducible refine Since.later ?_ (by with_reducible assumption) | with_reducible refine Since.only ?_ (by with_reducible assumption) (by first | assumption | omega | (simp; done) | (simp; omega)) | with_reducible refine Since.alloc ?_ _ | with_reducible refine Since.drewN ?_ _ | with_reducible refine Since.drew ?_ | with_reducible refine Since.set ?_ (by first | assumption | omega | (simp; done) | (simp; omega)) _))⟩
    case measure => simp [intOf]; omega
end Go.Proofs.YtaindcicloapfaaDoor

/-! ranges.Add, Both and Count at whatever slices, in the reference's words. Condition: the slices can be read. -/
namespace Go.Proofs.YtaindcicloapfaaDoor
open Go.ChangeShapes Go.WideShapes Go.ChangeAt Go.RowKit
set_option linter.unusedVariables false

theorem okRng {L : List Rng} (h : rngE L = 0) : ∀ r ∈ L, okN r ∧ r.lo ≤ r.hi := fun r hr => ⟨rngE_ok h r hr, (rngE_canon h).ok r hr⟩
theorem wstep_bound {s : WSt} {r : Rng} (hs : okN s.x ∧ ∀ o ∈ s.out, okN o) (hr : okN r) : okN (wstep s r).x ∧ ∀ o ∈ (wstep s r).out, okN o := by
  obtain ⟨hx, ho⟩ := hs
  unfold wstep
  split
  · exact ⟨hx, fun o h => by
      rcases List.mem_append.1 h with h | h
      · exact ho o h
      · rw [List.mem_singleton.1 h]; exact hr⟩
  · split
    · split
      · exact ⟨hx, fun o h => by
          rcases List.mem_append.1 h with h | h
          · exact ho o h
          · rw [List.mem_singleton.1 h]; exact hr⟩
      · exact ⟨hx, fun o h => by
          rcases List.mem_append.1 h with h | h
          · rcases List.mem_append.1 h with h | h
            · exact ho o h
            · rw [List.mem_singleton.1 h]; exact hx
          · rw [List.mem_singleton.1 h]; exact hr⟩
    · obtain ⟨⟨a1, a2⟩, a3, a4⟩ := hx
      obtain ⟨⟨b1, b2⟩, b3, b4⟩ := hr
      refine ⟨⟨⟨?_, ?_⟩, ?_, ?_⟩, ho⟩ <;> simp only <;> split <;> omega
theorem wup_bound {L : List Rng} {x : Rng} (hL : ∀ r ∈ L, okN r) (hx : okN x) : ∀ i, i ≤ L.length → okN (wup L x i).x ∧ ∀ o ∈ (wup L x i).out, okN o
  | 0, _ => ⟨hx, by simp [wup_zero]⟩
  | i + 1, h => by
    rw [wup_succ (by omega)]
    exact wstep_bound (wup_bound hL hx i (by omega)) (by rw [rat_get (by omega)]; exact hL _ (List.getElem_mem _))
theorem withL_bound {L : List Rng} {x : Rng} (hL : ∀ r ∈ L, okN r) (hx : okN x) : ∀ r ∈ withL L x, okN r := by
  obtain ⟨h1, h2⟩ := wup_bound hL hx L.length (Nat.le_refl _)
  unfold withL
  split
  · exact h2
  · intro r hr
    rcases List.mem_append.1 hr with hr | hr
    · exact h2 r hr
    · rw [List.mem_singleton.1 hr]; exact h1
theorem withAll_bound {L M : List Rng} (hL : ∀ r ∈ L, okN r) (hM : ∀ r ∈ M, okN r) : ∀ i, i ≤ M.length → ∀ r ∈ withAll L M i, okN r
  | 0, _ => hL
  | i + 1, h => by
    rw [withAll_succ (by omega)]
    exact withL_bound (withAll_bound hL hM i (by omega)) (by rw [rat_get (by omega)]; exact hM _ (List.getElem_mem _))
/-- what is wrong with a number more -/
def addE (L : List Rng) (x : Int) : Int := if rngE L = 0 then (if mayB x = true then (if 12 < (withL L ⟨x, x⟩).length then 4 else 0) else 1) else rngE L
def addL (L : List Rng) (x : Int) : List Rng := if addE L x = 0 then withL L ⟨x, x⟩ else []
def addB (L : List Rng) (x : Int) : Bool := decide (addE L x = 0) && !inB L x
theorem radd_any (A : Option Addr) (n cap : Nat) (L : List Rng) (x : Int) (w : World) (hn : L.length = n) (hb : ∀ r ∈ L, okI r.lo ∧ okI r.hi) (h : Rd w 2 (.slice A n cap) (L.map rngRow)) :
    Calls Tryd.prog 43 #[.slice A n cap, .int .i64 x] w fun e w' => ∃ A' c', e = .returned (.tuple #[.slice A' (addL L x).length c', .bool (addB L x), errV (addE L x)]) ∧ Below w.heap.size w w' ∧ Lst w' 81 2 (.slice A' (addL L x).length c') ((addL L x).map rngRow) ∧ ∀ k, k ∈ blocks (.slice A' 0 0) → w.heap.size ≤ k := by
  by_cases hE : rngE L = 0
  · cases hx : mayB x with
    | false =>
      have e1 : addE L x = 1 := by unfold addE; rw [if_pos hE, hx]; rfl
      have e2 : addL L x = [] := by unfold addL; rw [e1]; rfl
      have e3 : addB L x = false := by unfold addB; rw [e1]; rfl
      rw [e1, e2, e3]
      refine (radd_out A n cap L x w hn hb h hE hx).mono ?_
      rintro e w' ⟨he, hb'⟩
      exact ⟨none, 0, he, hb', Lst.nil _ _ _, by simp [Value.ownBlock]⟩
    | true =>
      refine (radd_ok A n cap L x w hn hb h hE hx).mono ?_
      rintro e w' ⟨L', hp, hs, hb', hr⟩
      have hj : joinL L' = withL L ⟨x, x⟩ := with_joined (rngE_canon hE) (okRng hE) (mayB_iff.1 hx) hp hs
      rw [hj] at hr
      rcases hr with ⟨h12, he⟩ | ⟨hl, A', c', he, hlst, hk⟩
      · have e1 : addE L x = 4 := by unfold addE; rw [if_pos hE, hx, if_pos rfl, if_pos h12]
        have e2 : addL L x = [] := by unfold addL; rw [e1]; rfl
        have e3 : addB L x = false := by unfold addB; rw [e1]; rfl
        rw [e1, e2, e3]
        exact ⟨none, 0, he, hb', Lst.nil _ _ _, by simp [Value.ownBlock]⟩
      · have e1 : addE L x = 0 := by unfold addE; rw [if_pos hE, hx, if_pos rfl, if_neg (by omega)]
        have e2 : addL L x = withL L ⟨x, x⟩ := by unfold addL; rw [if_pos e1]
        have e3 : addB L x = !inB L x := by unfold addB; rw [e1]; simp
        rw [e1, e2, e3]
        exact ⟨A', c', he, hb', hlst, hk⟩
  · have e1 : addE L x = rngE L := by unfold addE; rw [if_neg hE]
    have e2 : addL L x = [] := by unfold addL; rw [e1, if_neg hE]
    have e3 : addB L x = false := by unfold addB; rw [e1, decide_eq_false hE]; rfl
    rw [e1, e2, e3]
    refine (radd_bad A n cap L x w hn hb h hE).mono ?_
    rintro e w' ⟨he, hb'⟩
    exact ⟨none, 0, he, hb', Lst.nil _ _ _, by simp [Value.ownBlock]⟩
def cntV (L : List Rng) : Int := if rngE L = 0 then cntL L else 0
/-- what is wrong with both of two -/
def bthE (L M : List Rng) : Int := if rngE L = 0 then (if rngE M = 0 then (if 12 < (withAll L M M.length).length then 4 else 0) else rngE M) else rngE L
def bthL (L M : List Rng) : List Rng := if bthE L M = 0 then withAll L M M.length else []
end Go.Proofs.YtaindcicloapfaaDoor

/-! Plain words on an end of a connection: what it holds, what each call answers and leaves. No program here. -/
namespace Go.Proofs.YtaindcicloapfaaDoor
open Go.ChangeShapes Go.WideShapes Go.ChangeAt Go.RowKit
set_option linter.unusedVariables false

/-- a piece: where it begins, its bytes -/
structure Pc where
  at_ : Nat
  d : ByteArray
/-- what an end holds -/
structure EnS where
  data : ByteArray
  told : List Bool
  may : Int
  made : List (List Pc)
  known : Int
  came : List Rng
  M : Plc
  t : Nat
  W : Int
  L : Int
  C : Int
  R : Int
def EnS.new (n : Int) : EnS := ⟨⟨#[]⟩, List.replicate 60 false, n, [], -1, [], Plc.new, 0, n, n, 0, 0⟩
def tat (T : List Bool) (i : Nat) : Bool := T.getD i false
/-- the first n bytes from a on are there -/
def tellN (T : List Bool) (a : Nat) : Nat → List Bool
  | 0 => T
  | n + 1 => (tellN T a n).set (a + n) true
def tellPc (T : List Bool) (p : Pc) : List Bool := tellN T p.at_ p.d.size
def tellPcs (T : List Bool) (ps : List Pc) : List Bool := ps.foldl tellPc T
/-- the pieces of these packets -/
def pcsOf (made : List (List Pc)) (r : Rng) : List Pc := ((made.take (r.hi.toNat + 1)).drop r.lo.toNat).flatten
def tellRs (made : List (List Pc)) (T : List Bool) (L : List Rng) : List Bool := L.foldl (fun T r => tellPcs T (pcsOf made r)) T
theorem tellN_len (T : List Bool) (a : Nat) : ∀ n, (tellN T a n).length = T.length
  | 0 => rfl
  | n + 1 => by rw [tellN, List.length_set, tellN_len T a n]
theorem tellPcs_len (ps : List Pc) : ∀ T, (tellPcs T ps).length = T.length := by
  induction ps with
  | nil => intro T; rfl
  | cons p ps ih => intro T; show (tellPcs (tellPc T p) ps).length = _; rw [ih]; exact tellN_len _ _ _
theorem tellRs_len (made : List (List Pc)) (L : List Rng) : ∀ T, (tellRs made T L).length = T.length := by
  induction L with
  | nil => intro T; rfl
  | cons r L ih => intro T; show (tellRs made (tellPcs T (pcsOf made r)) L).length = _; rw [ih]; exact tellPcs_len _ _
theorem tat_set {T : List Bool} {i j : Nat} {b : Bool} (h : i < T.length) : tat (T.set i b) j = if i = j then b else tat T j := by
  unfold tat
  simp only [List.getD, List.getElem?_set]
  by_cases hij : i = j
  · subst hij; simp [h]
  · simp [hij]
theorem tellN_at {T : List Bool} {a j : Nat} : ∀ {n : Nat}, a + n ≤ T.length → tat (tellN T a n) j = (decide (a ≤ j ∧ j < a + n) || tat T j)
  | 0, h => by
    have : decide (a ≤ j ∧ j < a + 0) = false := by rw [decide_eq_false_iff_not]; omega
    rw [this, Bool.false_or]; rfl
  | n + 1, h => by
    rw [tellN, tat_set (by rw [tellN_len]; omega), tellN_at (by omega)]
    by_cases h1 : a + n = j
    · rw [if_pos h1]
      have : decide (a ≤ j ∧ j < a + (n + 1)) = true := by simp; omega
      rw [this, Bool.true_or]
    · rw [if_neg h1]
      have : decide (a ≤ j ∧ j < a + (n + 1)) = decide (a ≤ j ∧ j < a + n) := by
        apply decide_eq_decide.2; omega
      rw [this]
/-- does a piece reach a place -/
def Pc.has (p : Pc) (j : Nat) : Bool := decide (p.at_ ≤ j ∧ j < p.at_ + p.d.size)
theorem tellPcs_at {j : Nat} (ps : List Pc) : ∀ {T : List Bool}, T.length = 60 → (∀ p ∈ ps, p.at_ + p.d.size ≤ 60) → tat (tellPcs T ps) j = (ps.any (fun p => p.has j) || tat T j) := by
  induction ps with
  | nil => intro T _ _; rfl
  | cons p ps ih =>
    intro T hT h
    show tat (tellPcs (tellPc T p) ps) j = _
    rw [ih (by unfold tellPc; rw [tellN_len]; exact hT) (fun q hq => h q (List.mem_cons_of_mem _ hq))]
    unfold tellPc
    rw [tellN_at (by rw [hT]; exact h p (List.mem_cons_self ..)), List.any_cons, ← Bool.or_assoc, Bool.or_comm (ps.any _)]
    rfl
theorem tellRs_at {made : List (List Pc)} {j : Nat} (L : List Rng) : ∀ {T : List Bool}, T.length = 60 → (∀ ps ∈ made, ∀ p ∈ ps, p.at_ + p.d.size ≤ 60) → tat (tellRs made T L) j = (L.any (fun r => (pcsOf made r).any (fun p => p.has j)) || tat T j) := by
  induction L with
  | nil => intro T _ _; rfl
  | cons r L ih =>
    intro T hT h
    show tat (tellRs made (tellPcs T (pcsOf made r)) L) j = _
    rw [ih (by rw [tellPcs_len]; exact hT) h, tellPcs_at _ hT (fun p hp => by
      obtain ⟨ps, h1, h2⟩ := List.mem_flatten.1 hp
      exact h ps (List.mem_of_mem_take (List.mem_of_mem_drop h1)) p h2), List.any_cons, ← Bool.or_assoc, Bool.or_comm (L.any _)]
/-- how many are not there one behind the other from a on, below last, no more than f -/
def strN (T : List Bool) (last : Nat) : Nat → Nat → Nat
  | 0, _ => 0
  | f + 1, a => if a < last ∧ tat T a = false then strN T last f (a + 1) + 1 else 0
theorem strN_le (T : List Bool) (last : Nat) : ∀ f a, strN T last f a ≤ f ∧ (a ≤ last → a + strN T last f a ≤ last)
  | 0, a => by simp [strN]
  | f + 1, a => by
    have := strN_le T last f (a + 1)
    rw [strN]
    split
    · rename_i h; omega
    · omega
theorem strN_all {T : List Bool} {last : Nat} : ∀ {f a j : Nat}, j < strN T last f a → a + j < last ∧ tat T (a + j) = false
  | 0, a, j, h => by simp [strN] at h
  | f + 1, a, j, h => by
    rw [strN] at h
    split at h
    · rename_i h0
      cases j with
      | zero => exact h0
      | succ j =>
        have := strN_all (T := T) (last := last) (f := f) (a := a + 1) (j := j) (by omega)
        rw [show a + (j + 1) = a + 1 + j by omega]; exact this
    · omega
theorem strN_end {T : List Bool} {last : Nat} : ∀ {f a : Nat}, strN T last f a < f → ¬ (a + strN T last f a < last ∧ tat T (a + strN T last f a) = false)
  | 0, a, h => by omega
  | f + 1, a, h => by
    rw [strN] at h ⊢
    split at h
    · rename_i h0
      rw [if_pos h0]
      have := strN_end (T := T) (last := last) (f := f) (a := a + 1) (by omega)
      rw [show a + (strN T last f (a + 1) + 1) = a + 1 + strN T last f (a + 1) by omega]; exact this
    · rename_i h0
      rw [if_neg h0]; exact h0
/-- so many places from a on are not there, and no more may be counted -/
theorem strN_eq {T : List Bool} {last : Nat} : ∀ {f a n : Nat}, n ≤ f → (∀ j, j < n → a + j < last ∧ tat T (a + j) = false) → (n = f ∨ ¬ (a + n < last ∧ tat T (a + n) = false)) → strN T last f a = n
  | 0, a, n, h, _, _ => by have : n = 0 := by omega
                           subst this; rfl
  | f + 1, a, 0, h, _, he => by
    rw [strN]
    rcases he with he | he
    · omega
    · rw [Nat.add_zero] at he; rw [if_neg he]
  | f + 1, a, n + 1, h, ha, he => by
    have h0 := ha 0 (by omega)
    rw [Nat.add_zero] at h0
    rw [strN, if_pos h0, strN_eq (f := f) (a := a + 1) (n := n) (by omega) (fun j hj => by
      have := ha (j + 1) (by omega)
      rw [show a + 1 + j = a + (j + 1) by omega]; exact this) (by
      rcases he with he | he
      · left; omega
      · right; rw [show a + 1 + n = a + (n + 1) by omega]; exact he)]
/-- the pieces from a on: no more than k, in f steps -/
def pcsF (T : List Bool) (last : Nat) (data : ByteArray) : Nat → Nat → Nat → List Pc
  | 0, _, _ => []
  | f + 1, a, k => if a < last ∧ 0 < k then (if strN T last 20 a = 0 then pcsF T last data f (a + 1) k else ⟨a, data.extract a (a + strN T last 20 a)⟩ :: pcsF T last data f (a + strN T last 20 a) (k - 1)) else []
theorem pcsF_none {T : List Bool} {last : Nat} {data : ByteArray} {f a k : Nat} (h : ¬ (a < last ∧ 0 < k)) : pcsF T last data f a k = [] := by
  cases f with
  | zero => rfl
  | succ f => rw [pcsF, if_neg h]
/-- more steps than there are places are none -/
theorem pcsF_more {T : List Bool} {last : Nat} {data : ByteArray} : ∀ {f f' a k : Nat}, last - a ≤ f → last - a ≤ f' → pcsF T last data f a k = pcsF T last data f' a k
  | 0, f', a, k, h, h' => by rw [pcsF_none (by omega), pcsF_none (by omega)]
  | f + 1, 0, a, k, h, h' => by rw [pcsF_none (by omega), pcsF_none (by omega)]
  | f + 1, f' + 1, a, k, h, h' => by
    rw [pcsF, pcsF]
    by_cases h0 : a < last ∧ 0 < k
    · rw [if_pos h0, if_pos h0]
      by_cases h1 : strN T last 20 a = 0
      · rw [if_pos h1, if_pos h1, pcsF_more (f := f) (f' := f') (by omega) (by omega)]
      · rw [if_neg h1, if_neg h1, pcsF_more (f := f) (f' := f') (by omega) (by omega)]
    · rw [if_neg h0, if_neg h0]
/-- the rest of the pieces -/
def pcsR (T : List Bool) (last : Nat) (data : ByteArray) (a k : Nat) : List Pc := pcsF T last data (last - a) a k
theorem pcsR_none {T : List Bool} {last : Nat} {data : ByteArray} {a k : Nat} (h : ¬ (a < last ∧ 0 < k)) : pcsR T last data a k = [] := pcsF_none h
theorem pcsR_skip {T : List Bool} {last : Nat} {data : ByteArray} {a k : Nat} (h1 : strN T last 20 a = 0) : pcsR T last data a k = pcsR T last data (a + 1) k := by
  by_cases h0 : a < last ∧ 0 < k
  · unfold pcsR
    rw [show last - a = (last - (a + 1)) + 1 by omega, pcsF, if_pos h0, if_pos h1]
  · rw [pcsR_none h0, pcsR_none (by omega)]
theorem pcsR_take {T : List Bool} {last : Nat} {data : ByteArray} {a k : Nat} (h : a < last) (hk : 0 < k) (h1 : strN T last 20 a ≠ 0) : pcsR T last data a k = ⟨a, data.extract a (a + strN T last 20 a)⟩ :: pcsR T last data (a + strN T last 20 a) (k - 1) := by
  unfold pcsR
  rw [show last - a = (last - (a + 1)) + 1 by omega, pcsF, if_pos ⟨h, hk⟩, if_neg h1, pcsF_more (f := last - (a + 1)) (by omega) (Nat.le_refl _)]
theorem pcsF_mem {T : List Bool} {last : Nat} {data : ByteArray} (hl : last ≤ data.size) : ∀ {f a k : Nat} {p : Pc}, p ∈ pcsF T last data f a k → (a ≤ p.at_ ∧ p.at_ + p.d.size ≤ last ∧ 1 ≤ p.d.size ∧ p.d.size ≤ 20) ∧ p.d = data.extract p.at_ (p.at_ + p.d.size) ∧ ∀ j, p.at_ ≤ j → j < p.at_ + p.d.size → tat T j = false
  | 0, a, k, p, h => by simp [pcsF] at h
  | f + 1, a, k, p, h => by
    rw [pcsF] at h
    split at h
    · rename_i h0
      split at h
      · have := pcsF_mem hl h
        exact ⟨⟨by omega, this.1.2⟩, this.2⟩
      · rename_i h1
        have hs := strN_le T last 20 a
        rcases List.mem_cons.1 h with rfl | h
        · have e : (data.extract a (a + strN T last 20 a)).size = strN T last 20 a := by
            rw [ByteArray.size_extract]; omega
          refine ⟨⟨Nat.le_refl _, ?_, ?_, ?_⟩, ?_, ?_⟩
          · show a + (data.extract a (a + strN T last 20 a)).size ≤ last; omega
          · show 1 ≤ (data.extract a (a + strN T last 20 a)).size; omega
          · show (data.extract a (a + strN T last 20 a)).size ≤ 20; omega
          · show data.extract a (a + strN T last 20 a) = data.extract a (a + (data.extract a (a + strN T last 20 a)).size); rw [e]
          · show ∀ j, a ≤ j → j < a + (data.extract a (a + strN T last 20 a)).size → tat T j = false
            intro j h2 h3
            rw [e] at h3
            have := (strN_all (T := T) (last := last) (f := 20) (a := a) (j := j - a) (by omega)).2
            rw [show a + (j - a) = j by omega] at this
            exact this
        · have := pcsF_mem hl h
          exact ⟨⟨by omega, this.1.2⟩, this.2⟩
    · simp at h
theorem pcsF_len {T : List Bool} {last : Nat} {data : ByteArray} : ∀ {f a k : Nat}, (pcsF T last data f a k).length ≤ k
  | 0, a, k => by simp [pcsF]
  | f + 1, a, k => by
    rw [pcsF]
    split
    · split
      · exact pcsF_len
      · rename_i h0 h1
        have := pcsF_len (T := T) (last := last) (data := data) (f := f) (a := a + strN T last 20 a) (k := k - 1)
        rw [List.length_cons]; omega
    · simp
/-- up to where bytes may be told -/
def EnS.last (s : EnS) : Nat := min s.data.size s.may.toNat
def EnS.pieces (s : EnS) : List Pc := pcsR s.told s.last s.data 0 3
/-- the frames of a packet that it makes -/
def pcFrm (p : Pc) : Frm := ⟨3, [(p.at_ : Int)], p.d⟩
def ackFs (came : List Rng) : List Frm := if came = [] then [] else [⟨2, unpairs came, ByteArray.empty⟩]
def EnS.frames (s : EnS) : List Frm := ackFs s.came ++ ⟨4, [s.L], ByteArray.empty⟩ :: s.pieces.map pcFrm
def EnS.packet (s : EnS) : List UInt8 := pktB s.made.length s.known s.frames
def EnS.make (s : EnS) : EnS := { s with made := s.made ++ [s.pieces] }
/-- Write -/
def EnS.writeE (s : EnS) (d : ByteArray) : Int := if 60 < s.data.size + d.size then 4 else 0
def EnS.write (s : EnS) (d : ByteArray) : EnS := if 60 < s.data.size + d.size then s else { s with data := s.data ++ d }
/-- Read -/
def EnS.readE (n : Int) : Int := if n < 0 then 1 else 0
def EnS.readS (s : EnS) (n : Int) : ByteArray := if n < 0 then ⟨#[]⟩ else ⟨(cutL s.M s.t (takeK s.M s.t n)).toArray⟩
def EnS.read (s : EnS) (n : Int) : EnS := if n < 0 then s else { s with t := s.t + takeK s.M s.t n, L := limitN s.W s.L s.R (takeK s.M s.t n), R := s.R + takeK s.M s.t n }
/-- a frame is taken -/
def pcEnd (f : Frm) : Int := ith f.nums 0 + f.data.size
def EnS.take1E (s : EnS) (f : Frm) : Int :=
  if f.kind = 2 then (if (s.made.length : Int) ≤ (rat (pairs f.nums) 0).hi then 6 else 0)
  else if f.kind = 4 then 0
  else if f.kind = 3 then (if takeE s.L (pcEnd f) = 0 then putE s.M (ith f.nums 0) f.data.data.toList else takeE s.L (pcEnd f))
  else 3
def EnS.take1 (s : EnS) (f : Frm) : EnS :=
  if f.kind = 2 then (if (s.made.length : Int) ≤ (rat (pairs f.nums) 0).hi then s else { s with told := tellRs s.made s.told (pairs f.nums), known := max s.known (rat (pairs f.nums) 0).hi })
  else if f.kind = 4 then { s with may := max s.may (ith f.nums 0) }
  else if f.kind = 3 then (if takeE s.L (pcEnd f) = 0 then { s with C := maxN s.C (pcEnd f), M := putM s.M (ith f.nums 0) f.data.data.toList } else s)
  else s
def EnS.takes (s : EnS) : List Frm → Int × EnS
  | [] => (0, s)
  | f :: r => if s.take1E f = 0 then (s.take1 f).takes r else (s.take1E f, s.take1 f)
def nextN (c : List Rng) : Int := if c = [] then 0 else min 1073741823 ((rat c 0).hi + 1)
/-- a packet that was opened is taken -/
def EnS.pktE (s : EnS) (n : Int) (L : List Frm) : Int := if inB s.came n = true then 0 else if (s.takes L).1 = 0 then addE s.came n else (s.takes L).1
def EnS.pkt (s : EnS) (n : Int) (L : List Frm) : EnS := if inB s.came n = true then s else if (s.takes L).1 = 0 then (if addE s.came n = 0 then { (s.takes L).2 with came := addL s.came n } else s) else s
/-- bytes are taken -/
noncomputable def EnS.takeE (s : EnS) (b : List UInt8) : Int := if openE b (nextN s.came) = 0 then s.pktE (openN b (nextN s.came)) (openL b (nextN s.came)) else openE b (nextN s.came)
noncomputable def EnS.take (s : EnS) (b : List UInt8) : EnS := if openE b (nextN s.came) = 0 then s.pkt (openN b (nextN s.came)) (openL b (nextN s.came)) else s

/-- what the calls keep -/
structure EnOk (s : EnS) : Prop where
  dz : s.data.size ≤ 60
  tl : s.told.length = 60
  my : 0 ≤ s.may ∧ s.may ≤ 1073741823
  md : ∀ ps ∈ s.made, ps.length ≤ 3 ∧ ∀ p ∈ ps, p.at_ + p.d.size ≤ 60
  kn : -1 ≤ s.known ∧ s.known < s.made.length
  cm : rngE s.came = 0
  ml : s.M.length = 60
  tt : s.t ≤ 60
  cr : CredOk s.W s.L s.C s.R
  rt : s.R = s.t
  mc : ∀ i, (s.M.at i).isSome = true → (i : Int) < s.C
theorem EnOk.new {n : Int} (h1 : 1 ≤ n) (h2 : n ≤ 1000) : EnOk (EnS.new n) :=
  ⟨by show (⟨#[]⟩ : ByteArray).size ≤ 60; decide, by simp [EnS.new], by simp [EnS.new]; omega, by simp [EnS.new], by simp [EnS.new], rfl, Plc.new_len, by simp [EnS.new],
    ⟨h1, h2, by simp [EnS.new], by simp [EnS.new], by simp [EnS.new]; omega, by simp [EnS.new], by simp [EnS.new]; omega, by simp [EnS.new]; omega, by simp [EnS.new]⟩, by simp [EnS.new], fun i hi => by simp [EnS.new, Plc.new_at] at hi⟩
theorem EnOk.last {s : EnS} (h : EnOk s) : s.last ≤ s.data.size ∧ s.last ≤ 60 ∧ (s.last : Int) ≤ s.may := by
  have := h.dz
  have := h.my
  unfold EnS.last
  omega
theorem EnOk.piece {s : EnS} (h : EnOk s) {p : Pc} (hp : p ∈ s.pieces) : (p.at_ + p.d.size ≤ s.last ∧ 1 ≤ p.d.size ∧ p.d.size ≤ 20) ∧ p.d = s.data.extract p.at_ (p.at_ + p.d.size) ∧ ∀ j, p.at_ ≤ j → j < p.at_ + p.d.size → tat s.told j = false := by
  obtain ⟨⟨_, a⟩, b⟩ := pcsF_mem h.last.1 hp
  exact ⟨a, b⟩
theorem pieces_len (s : EnS) : s.pieces.length ≤ 3 := pcsF_len
theorem EnOk.write {s : EnS} (h : EnOk s) (d : ByteArray) : EnOk (s.write d) := by
  unfold EnS.write
  split
  · exact h
  · rename_i hd
    exact ⟨by show (s.data ++ d).size ≤ 60; rw [ByteArray.size_append]; omega, h.tl, h.my, h.md, h.kn, h.cm, h.ml, h.tt, h.cr, h.rt, h.mc⟩
theorem EnOk.make {s : EnS} (h : EnOk s) : EnOk s.make := by
  refine ⟨h.dz, h.tl, h.my, fun ps hps => ?_, ?_, h.cm, h.ml, h.tt, h.cr, h.rt, h.mc⟩
  · rcases List.mem_append.1 hps with hps | hps
    · exact h.md ps hps
    · rw [List.mem_singleton.1 hps]
      refine ⟨pieces_len s, fun p hp => ?_⟩
      have := (h.piece hp).1
      have := h.last
      omega
  · have := h.kn
    show -1 ≤ s.known ∧ s.known < ((s.made ++ [s.pieces]).length : Nat)
    simp
    omega
theorem EnOk.readOk {s : EnS} (h : EnOk s) (n : Int) : Go.Proofs.YtaindcicloapfaaDoor.readE s.W s.L s.C s.R (takeK s.M s.t n) = 0 ∧ s.t + takeK s.M s.t n ≤ 60 := by
  have hk := takeK_le s.M s.t n h.tt
  refine ⟨?_, hk⟩
  obtain ⟨w1, w2, r1, k1, k2, l1, l2, lo, hi⟩ := h.cr
  have hrt := h.rt
  have hle : (takeK s.M s.t n : Int) ≤ s.C - s.R := by
    rcases Nat.eq_zero_or_pos (takeK s.M s.t n) with h0 | h0
    · omega
    · have hr : takeK s.M s.t n ≤ readyN s.M s.t := by unfold takeK; omega
      have := h.mc _ (readyN_some (M := s.M) (t := s.t) (j := takeK s.M s.t n - 1) (by omega))
      omega
  unfold Go.Proofs.YtaindcicloapfaaDoor.readE limitN
  have := h.tt
  rw [if_neg (by omega), if_neg (by omega), if_neg (by split <;> omega)]
theorem EnOk.read {s : EnS} (h : EnOk s) (n : Int) : EnOk (s.read n) := by
  unfold EnS.read
  split
  · exact h
  · obtain ⟨h1, h2⟩ := h.readOk n
    obtain ⟨r1, r2, r3⟩ := readE_ok h1
    refine ⟨h.dz, h.tl, h.my, h.md, h.kn, h.cm, h.ml, h2, (limitN_ok s.W s.L s.C s.R _ h.cr r1 r2 r3).1, ?_, h.mc⟩
    show s.R + (takeK s.M s.t n : Int) = ((s.t + takeK s.M s.t n : Nat) : Int)
    have := h.rt
    omega
theorem frm_three {f : Frm} (h : frmE f = 0) (hk : f.kind = 3) : f.nums = [ith f.nums 0] ∧ MayBe (ith f.nums 0) ∧ f.data.size ≤ 20 := by
  obtain ⟨_, h2, h3, h4, _⟩ := frmE_out h
  have hl : f.nums.length = 1 := by
    unfold shapeB at h2
    rw [Bool.and_eq_true, if_neg (by omega)] at h2
    have := of_decide_eq_true h2.2
    rw [hk] at this
    have e : manyK 3 = 1 := rfl
    omega
  match hn : f.nums, hl with
  | [x], _ => exact ⟨rfl, h3 x (by rw [hn]; simp), h4⟩
theorem frm_four {f : Frm} (h : frmE f = 0) (hk : f.kind = 4) : f.nums = [ith f.nums 0] ∧ MayBe (ith f.nums 0) := by
  obtain ⟨_, h2, h3, h4, _⟩ := frmE_out h
  have hl : f.nums.length = 1 := by
    unfold shapeB at h2
    rw [Bool.and_eq_true, if_neg (by omega)] at h2
    have := of_decide_eq_true h2.2
    rw [hk] at this
    have e : manyK 4 = 1 := rfl
    omega
  match hn : f.nums, hl with
  | [x], _ => exact ⟨rfl, h3 x (by rw [hn]; simp)⟩
theorem frm_two {f : Frm} (h : frmE f = 0) (hk : f.kind = 2) : rngE (pairs f.nums) = 0 ∧ 0 < (pairs f.nums).length ∧ f.nums.length = 2 * (pairs f.nums).length ∧ (pairs f.nums).length ≤ 12 := by
  obtain ⟨_, h2, h3, h4, h5⟩ := frmE_out h
  unfold shapeB at h2
  rw [Bool.and_eq_true, if_pos hk] at h2
  have := of_decide_eq_true h2.2
  have e := pairs_len f.nums this.2.1
  exact ⟨h5 hk, by omega, by omega, by omega⟩
theorem EnOk.take1 {s : EnS} (h : EnOk s) {f : Frm} (hf : frmE f = 0) : EnOk (s.take1 f) := by
  unfold EnS.take1
  by_cases h2 : f.kind = 2
  · rw [if_pos h2]
    split
    · exact h
    · rename_i hl
      refine ⟨h.dz, by show (tellRs s.made s.told _).length = 60; rw [tellRs_len]; exact h.tl, h.my, h.md, ?_, h.cm, h.ml, h.tt, h.cr, h.rt, h.mc⟩
      have := h.kn
      show -1 ≤ max s.known _ ∧ max s.known _ < (s.made.length : Int)
      omega
  · rw [if_neg h2]
    by_cases h4 : f.kind = 4
    · rw [if_pos h4]
      have hm := (frm_four hf h4).2
      unfold MayBe at hm
      have := h.my
      exact ⟨h.dz, h.tl, by show 0 ≤ max s.may _ ∧ max s.may _ ≤ _; omega, h.md, h.kn, h.cm, h.ml, h.tt, h.cr, h.rt, h.mc⟩
    · rw [if_neg h4]
      by_cases h3 : f.kind = 3
      · rw [if_pos h3]
        split
        · rename_i ht
          have hm := (frm_three hf h3).2
          unfold MayBe at hm
          have hcr := tC_ok (pcEnd f) h.cr
          unfold tC at hcr
          rw [if_pos ht] at hcr
          refine ⟨h.dz, h.tl, h.my, h.md, h.kn, h.cm, by show (putM s.M _ _).length = 60; rw [putM_len]; exact h.ml, h.tt, hcr, h.rt, fun i hi => ?_⟩
          have hi : ((putM s.M (ith f.nums 0) f.data.data.toList).at i).isSome = true := hi
          show (i : Int) < maxN s.C (pcEnd f)
          have hmx : s.C ≤ maxN s.C (pcEnd f) ∧ pcEnd f ≤ maxN s.C (pcEnd f) := by unfold maxN; split <;> omega
          have hlen : f.data.data.toList.length = f.data.size := Array.length_toList
          unfold putM at hi
          split at hi
          · rename_i hp
            have hp2 : (ith f.nums 0).toNat + f.data.size ≤ 60 := by
              unfold putE at hp
              split at hp
              · cases hp
              · split at hp
                · cases hp
                · rw [hlen] at *; omega
            rw [wrN_at (by rw [h.ml, hlen]; exact hp2)] at hi
            split at hi
            · rename_i hj
              rw [hlen] at hj
              unfold pcEnd at hmx ⊢
              omega
            · have := h.mc i hi; omega
          · have := h.mc i hi; omega
        · exact h
      · rw [if_neg h3]; exact h
theorem EnOk.takes {L : List Frm} : ∀ {s : EnS}, EnOk s → (∀ f ∈ L, frmE f = 0) → EnOk (s.takes L).2 := by
  induction L with
  | nil => intro s h _; exact h
  | cons f r ih =>
    intro s h hL
    have h1 := h.take1 (hL f (List.mem_cons_self ..))
    rw [EnS.takes]
    split
    · exact ih h1 (fun g hg => hL g (List.mem_cons_of_mem _ hg))
    · exact h1
theorem take1_came (s : EnS) (f : Frm) : (s.take1 f).came = s.came := by
  unfold EnS.take1
  repeat' split
  all_goals rfl
theorem takes_came (L : List Frm) : ∀ s : EnS, (s.takes L).2.came = s.came := by
  induction L with
  | nil => intro s; rfl
  | cons f r ih =>
    intro s
    rw [EnS.takes]
    split
    · rw [ih, take1_came]
    · exact take1_came s f
theorem addL_ok {L : List Rng} {n : Int} (h : rngE L = 0) (hn : addE L n = 0) : rngE (addL L n) = 0 ∧ addL L n = withL L ⟨n, n⟩ ∧ MayBe n := by
  have e : addL L n = withL L ⟨n, n⟩ := by unfold addL; rw [if_pos hn]
  unfold addE at hn
  rw [if_pos h] at hn
  split at hn
  · rename_i hm
    split at hn
    · cases hn
    · refine ⟨?_, e, mayB_iff.1 hm⟩
      rw [e]
      exact canon_rngE (withL_ok (rngE_canon h) (Int.le_refl n)).1 (by omega) (withL_bound (rngE_ok h) ⟨mayB_iff.1 hm, mayB_iff.1 hm⟩)
  · cases hn
theorem EnOk.pkt {s : EnS} (h : EnOk s) (n : Int) {L : List Frm} (hL : ∀ f ∈ L, frmE f = 0) : EnOk (s.pkt n L) := by
  unfold EnS.pkt
  split
  · exact h
  · split
    · split
      · rename_i hn
        have h1 := h.takes hL
        exact ⟨h1.dz, h1.tl, h1.my, h1.md, h1.kn, (addL_ok h.cm hn).1, h1.ml, h1.tt, h1.cr, h1.rt, h1.mc⟩
      · exact h
    · exact h
theorem openL_ok (b : List UInt8) (next : Int) : ∀ f ∈ openL b next, frmE f = 0 := by
  intro f hf
  unfold openL at hf
  split at hf
  · unfold openF at hf
    cases hr : rdFs b ((bat b 0).toNat + 1) b.length with
    | none => rw [hr] at hf; simp at hf
    | some p =>
      obtain ⟨L, k⟩ := p
      rw [hr] at hf
      simp only at hf
      split at hf
      · simp at hf
      · rename_i hE hx
        by_cases hk : (bat b 0).toNat + 1 ≤ b.length
        · exact (rdFs_inv hk _ L k hr).2.2.1 f (by simpa using hf)
        · have := rdFs_end (b := b) (k := (bat b 0).toNat + 1) (i := 0) (p := (bat b 0).toNat + 1) (L := []) rfl (by omega) b.length (Nat.zero_le _)
          rw [this] at hr
          cases hr
          simp at hf
  · simp at hf
theorem EnOk.take {s : EnS} (h : EnOk s) (b : List UInt8) : EnOk (s.take b) := by
  unfold EnS.take
  split
  · exact h.pkt _ (openL_ok _ _)
  · exact h
/-- what it makes is right -/
theorem frmE_ackF {came : List Rng} (h : rngE came = 0) (h0 : came ≠ []) : frmE ⟨2, unpairs came, ByteArray.empty⟩ = 0 := by
  have hl := rngE_len h
  have hu := unpairs_len came
  have hp : 0 < came.length := List.length_pos_iff.2 h0
  refine frmE_ok (by simp) ?_ ?_ (by simp) (fun _ => by show rngE (pairs (unpairs came)) = 0; rw [pairs_unpairs]; exact h)
  · unfold shapeB
    rw [if_pos rfl]
    show (((2 : Int) == 3 || ByteArray.empty.size == 0) && decide (0 < (unpairs came).length ∧ (unpairs came).length % 2 = 0 ∧ (unpairs came).length ≤ 24)) = true
    have : decide (0 < (unpairs came).length ∧ (unpairs came).length % 2 = 0 ∧ (unpairs came).length ≤ 24) = true := by simp; omega
    rw [this]; rfl
  · show (unpairs came).all mayB = true
    rw [List.all_eq_true]
    intro z hz
    obtain ⟨r, hr, hz⟩ := List.mem_flatMap.1 hz
    obtain ⟨a, b⟩ := rngE_ok h r hr
    simp at hz
    rcases hz with rfl | rfl
    · exact mayB_iff.2 b
    · exact mayB_iff.2 a
theorem frmE_crF {L : Int} (h : MayBe L) : frmE ⟨4, [L], ByteArray.empty⟩ = 0 := by
  refine frmE_ok (by simp) rfl ?_ (by simp) (fun h => by cases h)
  show ([L] : List Int).all mayB = true
  simp [mayB_iff.2 h]
theorem frmE_pcF {p : Pc} (h : p.at_ + p.d.size ≤ 60) (h2 : p.d.size ≤ 20) : frmE (pcFrm p) = 0 := by
  refine frmE_ok (by simp [pcFrm]) rfl ?_ (by simp [pcFrm]; omega) (fun h => by cases h)
  show ([(p.at_ : Int)] : List Int).all mayB = true
  have : MayBe (p.at_ : Int) := by unfold MayBe; omega
  simp [mayB_iff.2 this]
theorem frmsE_of {L : List Frm} (h : ∀ f ∈ L, frmE f = 0) : frmsE L = 0 := by
  induction L with
  | nil => rfl
  | cons f L ih => rw [frmsE, if_pos (h f (List.mem_cons_self ..)), ih (fun g hg => h g (List.mem_cons_of_mem _ hg))]
theorem EnOk.framesOk {s : EnS} (h : EnOk s) : (∀ f ∈ s.frames, frmE f = 0) ∧ s.frames ≠ [] ∧ s.frames.length ≤ 5 ∧ (frmsB s.frames).length ≤ 172 := by
  have hL : MayBe s.L := by
    obtain ⟨w1, w2, r1, k1, k2, l1, l2, lo, hi⟩ := h.cr
    unfold MayBe; omega
  have hps : ∀ p ∈ s.pieces, frmE (pcFrm p) = 0 ∧ (frmB (pcFrm p)).length ≤ 23 := fun p hp => by
    have h1 := (h.piece hp).1
    have h2 := h.last
    refine ⟨frmE_pcF (by omega) h1.2.2, ?_⟩
    have e : frmB (pcFrm p) = byteOf 3 :: (vbytes p.at_ ++ (vbytes p.d.size ++ p.d.data.toList)) := by
      unfold frmB pcFrm
      rw [if_neg (show ¬ (3 : Int) = 2 by decide), if_pos (show (3 : Int) = 3 from rfl)]
      simp [allL]
    rw [e]
    have l1 := vbytes_len1 (n := (p.at_ : Int)) (by omega)
    have l2 := vbytes_len1 (n := (p.d.size : Int)) (by omega)
    have l3 : p.d.data.toList.length = p.d.size := Array.length_toList
    simp only [List.length_cons, List.length_append]
    omega
  have hsum : ∀ (l : List Pc), (∀ p ∈ l, (frmB (pcFrm p)).length ≤ 23) → (frmsB (l.map pcFrm)).length ≤ 23 * l.length := by
    intro l
    induction l with
    | nil => intro _; simp [frmsB]
    | cons p l ih =>
      intro hl
      have h1 := hl p (List.mem_cons_self ..)
      have h2 := ih (fun q hq => hl q (List.mem_cons_of_mem _ hq))
      simp only [List.map_cons, frmsB, List.flatMap_cons, List.length_append, List.length_cons] at h2 ⊢
      omega
  have hp3 := pieces_len s
  have hsm := hsum s.pieces (fun p hp => (hps p hp).2)
  have hcr : (frmB ⟨4, [s.L], ByteArray.empty⟩).length ≤ 5 := by
    have e : frmB ⟨4, [s.L], ByteArray.empty⟩ = byteOf 4 :: vbytes s.L := by
      unfold frmB
      rw [if_neg (show ¬ (4 : Int) = 2 by decide), if_neg (show ¬ (4 : Int) = 3 by decide)]
      simp [allL]
    rw [e]
    have := vbytes_four s.L
    simp only [List.length_cons]; omega
  have hack : (ackFs s.came).length ≤ 1 ∧ (frmsB (ackFs s.came)).length ≤ 98 ∧ ∀ f ∈ ackFs s.came, frmE f = 0 := by
    unfold ackFs
    split
    · simp [frmsB]
    · rename_i h0
      refine ⟨by simp, ?_, fun f hf => by rw [List.mem_singleton.1 hf]; exact frmE_ackF h.cm h0⟩
      have e : frmsB [(⟨2, unpairs s.came, ByteArray.empty⟩ : Frm)] = byteOf 2 :: ackB s.came := by
        unfold frmsB frmB
        simp [pairs_unpairs]
      rw [e]
      have hl := rngE_len h.cm
      have := ackUp_len s.came hl s.came.length
      unfold ackB
      simp only [List.length_cons]; omega
  refine ⟨fun f hf => ?_, by unfold EnS.frames; simp, ?_, ?_⟩
  · unfold EnS.frames at hf
    rcases List.mem_append.1 hf with hf | hf
    · exact hack.2.2 f hf
    · rcases List.mem_cons.1 hf with rfl | hf
      · exact frmE_crF hL
      · obtain ⟨p, hp, rfl⟩ := List.mem_map.1 hf
        exact (hps p hp).1
  · unfold EnS.frames
    simp only [List.length_append, List.length_cons, List.length_map]
    omega
  · unfold EnS.frames
    rw [frmsB_append]
    have e : frmsB (⟨4, [s.L], ByteArray.empty⟩ :: s.pieces.map pcFrm) = frmB ⟨4, [s.L], ByteArray.empty⟩ ++ frmsB (s.pieces.map pcFrm) := rfl
    rw [e]
    simp only [List.length_append]
    omega
theorem EnOk.packetOk {s : EnS} (h : EnOk s) (hm : s.made.length ≤ 1000000) : pktE s.made.length s.known s.frames = 0 ∧ NeedOk s.made.length s.known ∧ s.packet.length ≤ 177 := by
  obtain ⟨f1, f2, f3, f4⟩ := h.framesOk
  have hk := h.kn
  have hN : NeedOk (s.made.length : Int) s.known := ⟨⟨by omega, by omega⟩, hk.1, hk.2⟩
  obtain ⟨b1, b2⟩ := leastN_bounds ((s.made.length : Int) - s.known)
  have hhd := headB_len (n := (s.made.length : Int)) b1 b2
  have hl : s.packet.length ≤ 177 := by
    unfold EnS.packet pktB
    rw [List.length_append]; omega
  refine ⟨?_, hN, hl⟩
  unfold Go.Proofs.YtaindcicloapfaaDoor.pktE
  rw [if_pos hN, if_neg f2, if_neg (by omega), if_pos (frmsE_of f1), if_neg (by unfold EnS.packet at hl; omega)]
end Go.Proofs.YtaindcicloapfaaDoor

/-! Several things side by side in memory, each in blocks of its own: what one call does to one of them leaves the others. No condition of its own. -/
namespace Go.Proofs.YtaindcicloapfaaDoor
open Go.ChangeShapes Go.WideShapes Go.ChangeAt Go.RowKit
set_option linter.unusedVariables false

/-- a thing that lies in memory: what is there, and in which blocks -/
structure Thing where
  is : World → List Nat → Prop
  lt : ∀ {w : World} {S : List Nat}, is w S → ∀ k, k ∈ S → k < w.heap.size
  kept : ∀ {w w' : World} {S T : List Nat}, is w S → Out w w' T → (∀ k, k ∈ S → k ∉ T) → is w' S
/-- what a call leaves of a thing that lay in the blocks S -/
def Leaves (w w' : World) (S : List Nat) (t : Thing) : Prop := ∃ S', t.is w' S' ∧ Out w w' S ∧ ∀ k, k ∈ S' → k ∈ S ∨ w.heap.size ≤ k
theorem Thing.later (t : Thing) {w w' : World} {S : List Nat} (h : t.is w S) (hb : Below w.heap.size w w') : t.is w' S := t.kept h (Out.of_below hb []) (by simp)
theorem Leaves.same {w w' : World} {S : List Nat} {t : Thing} (h : t.is w S) (hb : Below w.heap.size w w') : Leaves w w' S t := ⟨S, t.later h hb, Out.of_below hb S, fun k hk => Or.inl hk⟩
theorem Leaves.drew {w w' : World} {S : List Nat} {t : Thing} (h : Leaves w.drew w' S t) : Leaves w w' S t := by
  obtain ⟨S', h1, h2, h3⟩ := h
  exact ⟨S', h1, h2.of_drew, h3⟩
theorem Leaves.pre {w w1 w' : World} {S : List Nat} {t : Thing} (hb : Below w.heap.size w w1) (h : Leaves w1 w' S t) : Leaves w w' S t := by
  obtain ⟨S', h1, h2, h3⟩ := h
  refine ⟨S', h1, (Out.of_below hb S).then' h2 (fun k hk => Or.inl hk), fun k hk => ?_⟩
  rcases h3 k hk with h | h
  · exact Or.inl h
  · exact Or.inr (Nat.le_trans hb.size h)
theorem Leaves.out {w w1 w' : World} {S : List Nat} {t : Thing} (ho : Out w w1 S) (h : Leaves w1 w' S t) : Leaves w w' S t := by
  obtain ⟨S', h1, h2, h3⟩ := h
  refine ⟨S', h1, ho.then' h2 (fun k hk => Or.inl hk), fun k hk => ?_⟩
  rcases h3 k hk with h | h
  · exact Or.inl h
  · exact Or.inr (Nat.le_trans ho.size h)
theorem Leaves.post {w w1 w' : World} {S : List Nat} {t : Thing} (h : Leaves w w1 S t) (hb : Below w1.heap.size w1 w') : Leaves w w' S t := by
  obtain ⟨S', h1, h2, h3⟩ := h
  exact ⟨S', t.later h1 hb, h2.later hb, h3⟩
theorem Leaves.size {w w' : World} {S : List Nat} {t : Thing} (h : Leaves w w' S t) : w.heap.size ≤ w'.heap.size := by
  obtain ⟨S', h1, h2, h3⟩ := h
  exact h2.size
/-- these things lie side by side; since w0 only S0 and what is new has changed -/
structure Own (w0 : World) (S0 : List Nat) (w : World) (L : List Thing) : Prop where
  out : Out w0 w S0
  has : ∃ own : Nat → Nat, ∀ (i : Nat) (t : Thing), L[i]? = some t → ∃ S, t.is w S ∧ ∀ k, k ∈ S → own k = i ∧ (k ∈ S0 ∨ w0.heap.size ≤ k)
namespace Own
variable {w0 w w' : World} {S0 : List Nat} {L : List Thing}
theorem start (w : World) : Own w [] w [] := ⟨Out.refl _ _, fun _ => 0, fun i t h => by simp at h⟩
theorem opened {t : Thing} {S : List Nat} (h : t.is w S) : Own w S w [t] := by
  refine ⟨Out.refl _ _, fun _ => 0, fun i t' hi => ?_⟩
  match i, hi with
  | 0, hi =>
    simp only [List.getElem?_cons_zero, Option.some.injEq] at hi
    subst hi
    exact ⟨S, h, fun k hk => ⟨rfl, Or.inl hk⟩⟩
  | i + 1, hi => simp at hi
theorem later (h : Own w0 S0 w L) (hb : Below w.heap.size w w') : Own w0 S0 w' L := by
  obtain ⟨own, ho⟩ := h.has
  refine ⟨h.out.later hb, own, fun i t hi => ?_⟩
  obtain ⟨S, h1, h2⟩ := ho i t hi
  exact ⟨S, t.later h1 hb, h2⟩
theorem drew (h : Own w0 S0 w L) : Own w0 S0 w.drew L := h.later (Since.refl w).drew
theorem drewN (h : Own w0 S0 w L) (n : Nat) : Own w0 S0 (w.drewN n) L := h.later ((Since.refl w).drewN n)
theorem size (h : Own w0 S0 w L) : w0.heap.size ≤ w.heap.size := h.out.size
theorem since (h : Own w0 [] w L) : Since w0 w := h.out.none_
/-- one of them, and what becomes of all when a call leaves something of it -/
theorem at_ (h : Own w0 S0 w L) (i : Nat) {t : Thing} (hi : L[i]? = some t) : ∃ S, t.is w S ∧ ∀ (w' : World) (t' : Thing), Leaves w w' S t' → Own w0 S0 w' (L.set i t') := by
  obtain ⟨own, ho⟩ := h.has
  obtain ⟨S, h1, h2⟩ := ho i t hi
  have hil : i < L.length := (List.getElem?_eq_some_iff.1 hi).1
  refine ⟨S, h1, fun w' t' hl => ?_⟩
  obtain ⟨S', g1, g2, g3⟩ := hl
  refine ⟨h.out.then' g2 (fun k hk => (h2 k hk).2), fun k => if k < w.heap.size then own k else i, fun j u hj => ?_⟩
  by_cases hji : i = j
  · subst hji
    rw [List.getElem?_set_self hil, Option.some.injEq] at hj
    subst hj
    refine ⟨S', g1, fun k hk => ?_⟩
    rcases g3 k hk with hm | hm
    · exact ⟨(if_pos (t.lt h1 k hm)).trans (h2 k hm).1, (h2 k hm).2⟩
    · exact ⟨if_neg (by omega), Or.inr (Nat.le_trans h.out.size hm)⟩
  · rw [List.getElem?_set_ne hji] at hj
    obtain ⟨Sj, j1, j2⟩ := ho j u hj
    refine ⟨Sj, u.kept j1 g2 (fun k hk hm => hji ((h2 k hm).1.symm.trans (j2 k hk).1)), fun k hk => ?_⟩
    exact ⟨(if_pos (u.lt j1 k hk)).trans (j2 k hk).1, (j2 k hk).2⟩
/-- one thing more, in new blocks -/
theorem add (h : Own w0 S0 w L) (hb : Below w.heap.size w w') {t : Thing} {S : List Nat} (ht : t.is w' S) (hn : ∀ k, k ∈ S → w.heap.size ≤ k) : Own w0 S0 w' (L ++ [t]) := by
  obtain ⟨own, ho⟩ := h.has
  refine ⟨h.out.later hb, fun k => if k < w.heap.size then own k else L.length, fun i u hi => ?_⟩
  rcases Nat.lt_trichotomy i L.length with h1 | h1 | h1
  · rw [List.getElem?_append_left h1] at hi
    obtain ⟨Si, j1, j2⟩ := ho i u hi
    exact ⟨Si, u.later j1 hb, fun k hk => ⟨(if_pos (u.lt j1 k hk)).trans (j2 k hk).1, (j2 k hk).2⟩⟩
  · subst h1
    simp only [List.getElem?_append_right (Nat.le_refl _), Nat.sub_self, List.getElem?_cons_zero, Option.some.injEq] at hi
    subst hi
    exact ⟨S, ht, fun k hk => by have := hn k hk; exact ⟨if_neg (by omega), Or.inr (Nat.le_trans h.out.size this)⟩⟩
  · rw [List.getElem?_append_right (by omega)] at hi
    simp only [List.getElem?_singleton] at hi
    split at hi
    · omega
    · cases hi
/-- some of them, in another order -/
theorem pick (h : Own w0 S0 w L) (js : List Nat) {L' : List Thing} (hn : js.Nodup) (hL : ∀ (i : Nat) t, L'[i]? = some t → ∃ j, js[i]? = some j ∧ L[j]? = some t) : Own w0 S0 w L' := by
  obtain ⟨own, ho⟩ := h.has
  refine ⟨h.out, fun k => js.idxOf (own k), fun i t hi => ?_⟩
  obtain ⟨j, hj, hjt⟩ := hL i t hi
  obtain ⟨S, h1, h2⟩ := ho j t hjt
  refine ⟨S, h1, fun k hk => ⟨?_, (h2 k hk).2⟩⟩
  obtain ⟨hil, hje⟩ := List.getElem?_eq_some_iff.1 hj
  show js.idxOf (own k) = i
  rw [(h2 k hk).1, ← hje]
  exact hn.idxOf_getElem i hil
theorem take (h : Own w0 S0 w L) (n : Nat) : Own w0 S0 w (L.take n) := by
  obtain ⟨own, ho⟩ := h.has
  refine ⟨h.out, own, fun i t hi => ho i t ?_⟩
  rw [List.getElem?_take] at hi
  split at hi
  · exact hi
  · cases hi
end Own
/-- a block with these cells -/
def Thing.block (g : Nat) (t : TypeId) (cs : Array Value) : Thing where
  is w S := BlockIs w g t cs ∧ S = [g]
  lt h k hk := by rw [h.2, List.mem_singleton] at hk; subst hk; exact h.1.lt
  kept h ho hd := ⟨ho.block' h.1 (hd _ (by rw [h.2]; simp)), h.2⟩
/-- a slice of the call's own -/
def Thing.lst (E size : Nat) (v : Value) (es : List (List Value)) : Thing where
  is w S := Lst w E size v es ∧ S = blocks v
  lt h k hk := h.1.lt k (by rw [h.2] at hk; exact hk)
  kept h ho hd := ⟨h.1.kept ho (fun k hk => hd k (by rw [h.2]; exact hk)), h.2⟩
/-- one of many -/
def Thing.ex {α : Type} (f : α → Thing) : Thing where
  is w S := ∃ a, (f a).is w S
  lt h k hk := by obtain ⟨a, h⟩ := h; exact (f a).lt h k hk
  kept h ho hd := by obtain ⟨a, h⟩ := h; exact ⟨a, (f a).kept h ho hd⟩
/-- a thing, and a fact -/
def Thing.with_ (p : Prop) (t : Thing) : Thing where
  is w S := p ∧ t.is w S
  lt h k hk := t.lt h.2 k hk
  kept h ho hd := ⟨h.1, t.kept h.2 ho hd⟩
/-- things side by side -/
def Thing.all (L : List Thing) : Thing where
  is w S := (∀ k, k ∈ S → k < w.heap.size) ∧ ∃ own : Nat → Nat, ∀ (i : Nat) (t : Thing), L[i]? = some t → ∃ Si, t.is w Si ∧ ∀ k, k ∈ Si → own k = i ∧ k ∈ S
  lt h k hk := h.1 k hk
  kept h ho hd := by
    obtain ⟨h1, own, h2⟩ := h
    refine ⟨fun k hk => Nat.lt_of_lt_of_le (h1 k hk) ho.size, own, fun i t hi => ?_⟩
    obtain ⟨Si, j1, j2⟩ := h2 i t hi
    exact ⟨Si, t.kept j1 ho (fun k hk => hd k (j2 k hk).2), j2⟩
theorem Own.unfold_ {L : List Thing} {w : World} {S : List Nat} (h : (Thing.all L).is w S) : Own w S w L := by
  obtain ⟨h1, own, h2⟩ := h
  refine ⟨Out.refl _ _, own, fun i t hi => ?_⟩
  obtain ⟨Si, j1, j2⟩ := h2 i t hi
  exact ⟨Si, j1, fun k hk => ⟨(j2 k hk).1, Or.inl (j2 k hk).2⟩⟩
theorem gather {L : List Thing} {w : World} {p : Nat → Nat → Prop} (h : ∀ (i : Nat) (t : Thing), L[i]? = some t → ∃ S, t.is w S ∧ ∀ k, k ∈ S → p i k) : ∃ S' : List Nat, (∀ (i : Nat) (t : Thing), L[i]? = some t → ∃ S, t.is w S ∧ ∀ k, k ∈ S → p i k ∧ k ∈ S') ∧ ∀ k, k ∈ S' → ∃ i, p i k ∧ k < w.heap.size := by
  induction L generalizing p with
  | nil => exact ⟨[], fun i t hi => by simp at hi, by simp⟩
  | cons t L ih =>
    obtain ⟨S', h1, h2⟩ := ih (p := fun i k => p (i + 1) k) (fun i u hi => h (i + 1) u (by simpa using hi))
    obtain ⟨S, hS, hp⟩ := h 0 t rfl
    refine ⟨S ++ S', fun i u hi => ?_, fun k hk => ?_⟩
    · match i, hi with
      | 0, hi =>
        simp only [List.getElem?_cons_zero, Option.some.injEq] at hi
        subst hi
        exact ⟨S, hS, fun k hk => ⟨hp k hk, List.mem_append_left _ hk⟩⟩
      | i + 1, hi =>
        obtain ⟨Si, a, b⟩ := h1 i u (by simpa using hi)
        exact ⟨Si, a, fun k hk => ⟨(b k hk).1, List.mem_append_right _ (b k hk).2⟩⟩
    · rcases List.mem_append.1 hk with hk | hk
      · exact ⟨0, hp k hk, t.lt hS k hk⟩
      · obtain ⟨i, a, b⟩ := h2 k hk
        exact ⟨i + 1, a, b⟩
theorem Own.closed {w0 w : World} {S0 : List Nat} {L : List Thing} (h : Own w0 S0 w L) : Leaves w0 w S0 (Thing.all L) := by
  obtain ⟨own, ho⟩ := h.has
  obtain ⟨S', h1, h2⟩ := gather (p := fun i k => own k = i ∧ (k ∈ S0 ∨ w0.heap.size ≤ k)) ho
  refine ⟨S', ⟨fun k hk => (h2 k hk).choose_spec.2, own, fun i t hi => ?_⟩, h.out, fun k hk => (h2 k hk).choose_spec.1.2⟩
  obtain ⟨S, a, b⟩ := h1 i t hi
  exact ⟨S, a, fun k hk => ⟨(b k hk).1.1, (b k hk).2⟩⟩
theorem Leaves.ex {α : Type} {f : α → Thing} {w w' : World} {S : List Nat} (a : α) (h : Leaves w w' S (f a)) : Leaves w w' S (Thing.ex f) := by
  obtain ⟨S', h1, h2, h3⟩ := h
  exact ⟨S', ⟨a, h1⟩, h2, h3⟩
theorem Leaves.with_ {p : Prop} {t : Thing} {w w' : World} {S : List Nat} (hp : p) (h : Leaves w w' S t) : Leaves w w' S (Thing.with_ p t) := by
  obtain ⟨S', h1, h2, h3⟩ := h
  exact ⟨S', ⟨hp, h1⟩, h2, h3⟩
theorem Leaves.open_with {p : Prop} {t : Thing} {w w' : World} {S : List Nat} (h : Leaves w w' S (Thing.with_ p t)) : p ∧ Leaves w w' S t := by
  obtain ⟨S', ⟨hp, h1⟩, h2, h3⟩ := h
  exact ⟨hp, S', h1, h2, h3⟩
theorem Leaves.block {w w' : World} {g : Nat} {t : TypeId} {cs : Array Value} (hb : BlockIs w' g t cs) (ho : Out w w' [g]) : Leaves w w' [g] (Thing.block g t cs) := ⟨[g], ⟨hb, rfl⟩, ho, fun k hk => Or.inl hk⟩
namespace Own
variable {w0 w w' : World} {S0 : List Nat} {L : List Thing}
/-- the i-th, a block -/
theorem blk (h : Own w0 S0 w L) (i : Nat) {g : Nat} {t : TypeId} {cs : Array Value} (hi : L[i]? = some (Thing.block g t cs)) : BlockIs w g t cs := by
  obtain ⟨S, h1, _⟩ := h.at_ i hi
  exact h1.1
theorem ls (h : Own w0 S0 w L) (i : Nat) {E size : Nat} {v : Value} {es : List (List Value)} (hi : L[i]? = some (Thing.lst E size v es)) : Lst w E size v es := by
  obtain ⟨S, h1, _⟩ := h.at_ i hi
  exact h1.1
/-- a cell of it is written -/
theorem put (h : Own w0 S0 w L) (i : Nat) {g : Nat} {t : TypeId} {cs : Array Value} (hi : L[i]? = some (Thing.block g t cs)) (j : Nat) (u : Value) : Own w0 S0 (w.setCell ⟨g, j, none⟩ u) (L.set i (Thing.block g t (cs.setIfInBounds j u))) := by
  obtain ⟨S, ⟨h1, rfl⟩, h2⟩ := h.at_ i hi
  exact h2 _ _ (Leaves.block (h1.put j u) ((Out.refl w _).put (p := ⟨g, j, none⟩) (Or.inl (by simp)) u))
/-- a block is laid -/
theorem alloc (h : Own w0 S0 w L) (t : TypeId) (cs : Array Value) : Own w0 S0 (w.alloc (.cells cs t)) (L ++ [Thing.block w.heap.size t cs]) :=
  h.add ((Since.refl w).alloc _) (S := [w.heap.size]) ⟨BlockIs.fresh _ _ _, rfl⟩ (by simp)
/-- the i-th thing reads as another one in the same blocks -/
theorem alike (h : Own w0 S0 w L) (i : Nat) {t t' : Thing} (hi : L[i]? = some t) (f : ∀ S, t.is w S → t'.is w S) : Own w0 S0 w (L.set i t') := by
  obtain ⟨S, h1, h2⟩ := h.at_ i hi
  exact h2 w t' ⟨S, f S h1, Out.refl _ _, fun k hk => Or.inl hk⟩
/-- the i-th, which holds several, is opened: these lie there now (the first in its place) -/
theorem fact (h : Own w0 S0 w L) (i : Nat) {t : Thing} {p : Prop} (hi : L[i]? = some (Thing.with_ p t)) : p := by
  obtain ⟨S, h1, h2⟩ := h.at_ i hi
  exact h1.1
theorem unex (h : Own w0 S0 w L) (i : Nat) {α : Type} {f : α → Thing} (hi : L[i]? = some (Thing.ex f)) : ∃ a, Own w0 S0 w (L.set i (f a)) := by
  obtain ⟨S, ⟨a, h1⟩, h2⟩ := h.at_ i hi
  exact ⟨a, h2 w (f a) ⟨S, h1, Out.refl _ _, fun k hk => Or.inl hk⟩⟩
theorem unwith (h : Own w0 S0 w L) (i : Nat) {p : Prop} {t : Thing} (hi : L[i]? = some (Thing.with_ p t)) : p ∧ Own w0 S0 w (L.set i t) :=
  ⟨h.fact i hi, h.alike i hi (fun S hS => hS.2)⟩
end Own
end Go.Proofs.YtaindcicloapfaaDoor

/-! Contracts of package stream: what each answers, and what becomes of the stream's block. Condition: the block holds a stream as New and the calls leave it; a piece's bytes are no more than the memory reaches. -/
namespace Go.Proofs.YtaindcicloapfaaDoor
open Go.ChangeShapes Go.WideShapes Go.ChangeAt Go.RowKit
set_option linter.unusedVariables false

def isV (o : Option UInt8) : Value := .bool o.isSome
def byV (o : Option UInt8) : Value := .int .u8 ((o.getD 0).toNat : Int)
/-- a stream's cells -/
def strCells (M : Plc) (t : Nat) : Array Value := (M.map isV ++ (M.map byV ++ [Value.int .i64 (t : Int)])).toArray
theorem strCells_is {M : Plc} (hM : M.length = 60) (t : Nat) {i : Nat} (h : i < 60) : (strCells M t)[i]? = some (.bool (M.at i).isSome) := by
  unfold strCells
  rw [List.getElem?_toArray, List.getElem?_append_left (by rw [List.length_map]; omega), List.getElem?_map]
  unfold Plc.at
  rw [List.getElem?_eq_getElem (by omega)]
  simp [List.getD, List.getElem?_eq_getElem (show i < M.length by omega), isV]
theorem strCells_by {M : Plc} (hM : M.length = 60) (t : Nat) {i : Nat} (h : i < 60) : (strCells M t)[60 + i]? = some (.int .u8 (((M.at i).getD 0).toNat : Int)) := by
  unfold strCells
  rw [List.getElem?_toArray, List.getElem?_append_right (by rw [List.length_map]; omega), List.length_map, hM, Nat.add_sub_cancel_left, List.getElem?_append_left (by rw [List.length_map]; omega), List.getElem?_map]
  unfold Plc.at
  rw [List.getElem?_eq_getElem (by omega)]
  simp [List.getD, List.getElem?_eq_getElem (show i < M.length by omega), byV]
theorem strCells_taken {M : Plc} (hM : M.length = 60) (t : Nat) : (strCells M t)[120]? = some (.int .i64 (t : Int)) := by
  unfold strCells
  rw [List.getElem?_toArray, List.getElem?_append_right (by rw [List.length_map]; omega), List.length_map, hM, List.getElem?_append_right (by rw [List.length_map]; omega), List.length_map, hM]
  rfl
theorem strCells_put {M : Plc} (hM : M.length = 60) (t : Nat) {i : Nat} (h : i < 60) (b : UInt8) :
    ((strCells M t).setIfInBounds i (.bool true)).setIfInBounds (60 + i) (.int .u8 (b.toNat : Int)) = strCells (M.set i (some b)) t := by
  unfold strCells
  rw [List.setIfInBounds_toArray, List.setIfInBounds_toArray, List.set_append_left _ _ (by rw [List.length_map]; omega), List.set_append_right _ _ (by simp [hM]), List.length_set, List.length_map, hM, Nat.add_sub_cancel_left, List.set_append_left _ _ (by rw [List.length_map]; omega), List.map_set, List.map_set]
  rfl
theorem strCells_take {M : Plc} (hM : M.length = 60) (t t' : Nat) : (strCells M t).setIfInBounds 120 (.int .i64 (t' : Int)) = strCells M t' := by
  unfold strCells
  rw [List.setIfInBounds_toArray, List.set_append_right _ _ (by rw [List.length_map]; omega), List.length_map, hM, List.set_append_right _ _ (by rw [List.length_map]; omega), List.length_map, hM]
  rfl
/-- a stream at g: what came, and how many were taken -/
structure Sz (w : World) (g : Nat) (M : Plc) (t : Nat) : Prop where
  bl : BlockIs w g 98 (strCells M t)
  len : M.length = 60
  most : t ≤ 60
theorem Sz.later {w w1 : World} {g : Nat} {M : Plc} {t : Nat} (h : Sz w g M t) (hb : Below w.heap.size w w1) : Sz w1 g M t := ⟨h.bl.later hb, h.len, h.most⟩
theorem Sz.kept {w w1 : World} {g : Nat} {M : Plc} {t : Nat} {S : List Nat} (h : Sz w g M t) (hg : Out w w1 S) (h1 : g ∉ S) : Sz w1 g M t := ⟨hg.block' h.bl h1, h.len, h.most⟩
theorem Sz.drewN {w : World} {g : Nat} {M : Plc} {t : Nat} (h : Sz w g M t) (n : Nat) : Sz (w.drewN n) g M t := ⟨h.bl, h.len, h.most⟩
theorem Sz.is {w : World} {g : Nat} {M : Plc} {t : Nat} (h : Sz w g M t) {i : Nat} (hi : i < 60) : w.cell? ⟨g, i, none⟩ = some (.bool (M.at i).isSome) := (h.bl.cell i).trans (strCells_is h.len t hi)
theorem Sz.by_ {w : World} {g : Nat} {M : Plc} {t : Nat} (h : Sz w g M t) {i : Nat} (hi : i < 60) : w.cell? ⟨g, 60 + i, none⟩ = some (.int .u8 (((M.at i).getD 0).toNat : Int)) := (h.bl.cell _).trans (strCells_by h.len t hi)
theorem Sz.taken {w : World} {g : Nat} {M : Plc} {t : Nat} (h : Sz w g M t) : w.cell? ⟨g, 120, none⟩ = some (.int .i64 (t : Int)) := (h.bl.cell _).trans (strCells_taken h.len t)
theorem Sz.put {w : World} {g : Nat} {M : Plc} {t : Nat} (h : Sz w g M t) {i : Nat} (hi : i < 60) (b : UInt8) : Sz ((w.setCell ⟨g, i, none⟩ (.bool true)).setCell ⟨g, 60 + i, none⟩ (.int .u8 (b.toNat : Int))) g (M.set i (some b)) t := by
  refine ⟨?_, by rw [List.length_set]; exact h.len, h.most⟩
  rw [← strCells_put h.len t hi b]
  exact (h.bl.put i _).put (60 + i) _
theorem Sz.take {w : World} {g : Nat} {M : Plc} {t t' : Nat} (h : Sz w g M t) (ht : t' ≤ 60) : Sz (w.setCell ⟨g, 120, none⟩ (.int .i64 (t' : Int))) g M t' := by
  refine ⟨?_, h.len, ht⟩
  rw [← strCells_take h.len t t']
  exact h.bl.put 120 _

theorem snew (w : World) : Calls Tryd.prog 22 #[] w fun e w' => e = .returned (.pointer (some ⟨w.heap.size, 0, none⟩)) ∧ Sz w' w.heap.size Plc.new 0 ∧ Below w.heap.size w w' := by
  go_enter Tryd.func22, Tryd.ntmps22
  go_wp2
  go_ret
  refine ⟨rfl, ⟨?_, Plc.new_len, by decide⟩, (Below.refl _ _).alloc (Nat.le_refl _) _⟩
  exact BlockIs.fresh _ _ _

set_option maxHeartbeats 1600000 in
theorem sready (g : Nat) (M : Plc) (t : Nat) (w : World) (h : Sz w g M t) :
    Calls Tryd.prog 37 #[.pointer (some ⟨g, 0, none⟩)] w fun e w' => e = .returned (.int .i64 (readyN M t)) ∧ Below w.heap.size w w' := by
  have H := Lib.hid h
  have ht := h.most
  clear h
  go_enter Tryd.func37, Tryd.ntmps37
  go_wp2_with fail
  go_loopw [3] (fun s3 wr => ∃ n : Nat, s3 = .int .i64 n ∧ t + n ≤ 60 ∧ Hid (∀ j, j < n → (M.at (t + j)).isSome = true) ∧ Since w wr) (fun s3 _ => 60 - t - (intOf s3).toNat)
  case atStart => exact ⟨0, rfl, by omega, Lib.hid (fun j hj => by omega), Since.refl _⟩
  case round =>
    obtain ⟨n, rfl, hn, HS, hs⟩ := hrel
    have c0 : wr.cell? ⟨g, 120, none⟩ = some (.int .i64 (t : Int)) := (H.out.later hs).taken
    by_cases hlt : t + n < 60
    case neg =>
      have e : readyN M t = n := readyN_eq HS.out hn (Or.inr (by omega))
      have hlt' : decide ((t : Int) + (n : Int) < 60) = false := by simp; omega
      have E := Lib.hid e
      clear e
      go_wp2_with fail
      go_quiet (fail)
      go_wp2_with fail
      go_ret
      exact ⟨by rw [E.out]; rfl, (by refine Since.out ?_; repeat (first | with_reducible assumption | with_reducible exact Since.refl _ | with_reducible refine Since.later ?_ (by with_reducible assumption) | with_reducible refine Since.only ?_ (by with_reducible assumption) (by first | assumption | omega | (simp; done) | (simp; omega)) | with_reducible refine Since.alloc ?_ _ | with_reducible refine Since.drewN ?_ _ | with_reducible refine Since.drew ?_ | with_reducible refine Since.set ?_ (by first | assumption | omega | (simp; done) | (simp; omega)) _))⟩
    have hlt' : decide ((t : Int) + (n : Int) < 60) = true := by simp; omega
    have c1 : wr.cell? ⟨g, t + n, none⟩ = some (.bool (M.at (t + n)).isSome) := (H.out.later hs).is hlt
    have lg := (H.out.later hs).bl.lt
    obtain ⟨b, hb⟩ : ∃ b, (M.at (t + n)).isSome = b := ⟨_, rfl⟩
    rw [hb] at c1
    have HB := Lib.hid hb
    have hlt2 : (t : Int) + (n : Int) < 60 := by omega
    clear hb
    cases b with
    | false =>
      have E : Hid (readyN M t = n) := Lib.hid (readyN_eq HS.out hn (Or.inl HB.out))
      go_wp2_with fail
      go_quiet (fail)
      go_wp2_with fail
      go_ret
      exact ⟨by rw [E.out]; rfl, (by refine Since.out ?_; repeat (first | with_reducible assumption | with_reducible exact Since.refl _ | with_reducible refine Since.later ?_ (by with_reducible assumption) | with_reducible refine Since.only ?_ (by with_reducible assumption) (by first | assumption | omega | (simp; done) | (simp; omega)) | with_reducible refine Since.alloc ?_ _ | with_reducible refine Since.drewN ?_ _ | with_reducible refine Since.drew ?_ | with_reducible refine Since.set ?_ (by first | assumption | omega | (simp; done) | (simp; omega)) _))⟩
    | true =>
      go_wp2_with fail
      go_quiet (fail)
      go_wp2_with fail
      go_roundw
      case rel => exact ⟨n + 1, by go_num, by omega, Lib.hid (fun j hj => by
        rcases Nat.lt_succ_iff_lt_or_eq.1 hj with h1 | h1
        · exact HS.out j h1
        · rw [h1]; exact HB.out), (by refine Since.out ?_; repeat (first | with_reducible assumption | with_reducible exact Since.refl _ | with_reducible refine Since.later ?_ (by with_reducible assumption) | with_reducible refine Since.only ?_ (by with_reducible assumption) (by first | assumption | omega | (simp; done) | (simp; omega)) | with_reducible refine Since.alloc ?_ _ | with_reducible refine Since.drewN ?_ _ | with_reducible refine Since.drew ?_ | with_reducible refine Since.set ?_ (by first | assumption | omega | (simp; done) | (simp; omega)) _))⟩
      case measure => simp [intOf]; omega
set_option maxHeartbeats 3200000 in
theorem sput (g : Nat) (M : Plc) (t : Nat) (x : Int) (d : ByteArray) (w : World) (h : Sz w g M t) (hd : d.size ≤ 140737488351232) :
    Calls Tryd.prog 27 #[.pointer (some ⟨g, 0, none⟩), .agg #[.int .i64 x, .string d]] w fun e w' => e = .returned (errV (putE M x d.data.toList)) ∧ Sz w' g (putM M x d.data.toList) t ∧ Out w w' [g] := by
  have H := Lib.hid h
  have ht := h.most
  have lg := h.bl.lt
  have hlen : d.data.toList.length = d.size := Array.length_toList
  have hB : BlockIs (w.alloc (.cells #[.int .i64 x, .string d] 61)) w.heap.size 61 #[.int .i64 x, .string d] := BlockIs.fresh _ _ _
  clear h
  by_cases hx : 0 ≤ x ∧ x ≤ 60
  case neg =>
    have E : Hid (putE M x d.data.toList = 1) := Lib.hid (by unfold putE; rw [if_pos (by omega)])
    have EM : Hid (putM M x d.data.toList = M) := Lib.hid (by unfold putM; rw [E.out, if_neg (by decide)])
    clear hlen
    by_cases h0 : x < 0
    · clear hx
      go_enter Tryd.func27, Tryd.ntmps27
      go_wp2_with fail
      go_ret
      exact ⟨by rw [E.out]; rfl, by rw [EM.out]; exact H.out.later (by refine Since.out ?_; repeat (first | with_reducible assumption | with_reducible exact Since.refl _ | with_reducible refine Since.later ?_ (by with_reducible assumption) | with_reducible refine Since.only ?_ (by with_reducible assumption) (by first | assumption | omega | (simp; done) | (simp; omega)) | with_reducible refine Since.alloc ?_ _ | with_reducible refine Since.drewN ?_ _ | with_reducible refine Since.drew ?_ | with_reducible refine Since.set ?_ (by first | assumption | omega | (simp; done) | (simp; omega)) _)), Out.of_below (by refine Since.out ?_; repeat (first | with_reducible assumption | with_reducible exact Since.refl _ | with_reducible refine Since.later ?_ (by with_reducible assumption) | with_reducible refine Since.only ?_ (by with_reducible assumption) (by first | assumption | omega | (simp; done) | (simp; omega)) | with_reducible refine Since.alloc ?_ _ | with_reducible refine Since.drewN ?_ _ | with_reducible refine Since.drew ?_ | with_reducible refine Since.set ?_ (by first | assumption | omega | (simp; done) | (simp; omega)) _)) _⟩
    · have h0' : decide (x < 0) = false := by simpa using h0
      have h1 : decide (60 < x) = true := by simp; omega
      clear hx
      go_enter Tryd.func27, Tryd.ntmps27
      go_wp2_with fail
      go_ret
      exact ⟨by rw [E.out]; rfl, by rw [EM.out]; exact H.out.later (by refine Since.out ?_; repeat (first | with_reducible assumption | with_reducible exact Since.refl _ | with_reducible refine Since.later ?_ (by with_reducible assumption) | with_reducible refine Since.only ?_ (by with_reducible assumption) (by first | assumption | omega | (simp; done) | (simp; omega)) | with_reducible refine Since.alloc ?_ _ | with_reducible refine Since.drewN ?_ _ | with_reducible refine Since.drew ?_ | with_reducible refine Since.set ?_ (by first | assumption | omega | (simp; done) | (simp; omega)) _)), Out.of_below (by refine Since.out ?_; repeat (first | with_reducible assumption | with_reducible exact Since.refl _ | with_reducible refine Since.later ?_ (by with_reducible assumption) | with_reducible refine Since.only ?_ (by with_reducible assumption) (by first | assumption | omega | (simp; done) | (simp; omega)) | with_reducible refine Since.alloc ?_ _ | with_reducible refine Since.drewN ?_ _ | with_reducible refine Since.drew ?_ | with_reducible refine Since.set ?_ (by first | assumption | omega | (simp; done) | (simp; omega)) _)) _⟩
  obtain ⟨x0, x1⟩ := hx
  obtain ⟨a, rfl⟩ := Int.eq_ofNat_of_zero_le x0
  have h0' : decide ((a : Int) < 0) = false := by simp
  have h1' : decide (60 < (a : Int)) = false := by simp; omega
  by_cases hf : 60 < a + d.size
  · have E : Hid (putE M a d.data.toList = 4) := Lib.hid (by unfold putE; rw [if_neg (by omega), if_pos (by rw [hlen]; omega)])
    have EM : Hid (putM M a d.data.toList = M) := Lib.hid (by unfold putM; rw [E.out, if_neg (by decide)])
    have h2 : decide (60 < (a : Int) + (d.size : Int)) = true := by simp; omega
    clear hlen
    go_enter Tryd.func27, Tryd.ntmps27
    go_wp2_with fail
    go_ret
    exact ⟨by rw [E.out]; rfl, by rw [EM.out]; exact H.out.later (by refine Since.out ?_; repeat (first | with_reducible assumption | with_reducible exact Since.refl _ | with_reducible refine Since.later ?_ (by with_reducible assumption) | with_reducible refine Since.only ?_ (by with_reducible assumption) (by first | assumption | omega | (simp; done) | (simp; omega)) | with_reducible refine Since.alloc ?_ _ | with_reducible refine Since.drewN ?_ _ | with_reducible refine Since.drew ?_ | with_reducible refine Since.set ?_ (by first | assumption | omega | (simp; done) | (simp; omega)) _)), Out.of_below (by refine Since.out ?_; repeat (first | with_reducible assumption | with_reducible exact Since.refl _ | with_reducible refine Since.later ?_ (by with_reducible assumption) | with_reducible refine Since.only ?_ (by with_reducible assumption) (by first | assumption | omega | (simp; done) | (simp; omega)) | with_reducible refine Since.alloc ?_ _ | with_reducible refine Since.drewN ?_ _ | with_reducible refine Since.drew ?_ | with_reducible refine Since.set ?_ (by first | assumption | omega | (simp; done) | (simp; omega)) _)) _⟩
  have h2 : decide (60 < (a : Int) + (d.size : Int)) = false := by simp; omega
  have E : Hid (putE M a d.data.toList = if clashN M a d.data.toList d.size = true then 7 else 0) := Lib.hid (by unfold putE; rw [if_neg (by omega), if_neg (by rw [hlen]; omega), hlen]; rfl)
  have hn : a + d.size ≤ 60 := by omega
  have HLEN := Lib.hid hlen
  clear hlen hf
  go_enter Tryd.func27, Tryd.ntmps27
  go_wp2_with fail
  go_loopw [5, 6, 30] (fun s5 s6 s30 wr => ∃ i : Nat, s30 = .int .i64 i ∧ i ≤ d.size ∧ clashN M a d.data.toList i = false ∧ BlockIs wr w.heap.size 61 #[.int .i64 a, .string d] ∧ Since w wr) (fun s5 s6 s30 _ => d.size - (intOf s30).toNat)
  case atStart => exact ⟨0, rfl, Nat.zero_le _, rfl, hB, (by refine Since.out ?_; repeat (first | with_reducible assumption | with_reducible exact Since.refl _ | with_reducible refine Since.later ?_ (by with_reducible assumption) | with_reducible refine Since.only ?_ (by with_reducible assumption) (by first | assumption | omega | (simp; done) | (simp; omega)) | with_reducible refine Since.alloc ?_ _ | with_reducible refine Since.drewN ?_ _ | with_reducible refine Since.drew ?_ | with_reducible refine Since.set ?_ (by first | assumption | omega | (simp; done) | (simp; omega)) _))⟩
  case round =>
    obtain ⟨i, rfl, hi, hc, hB, hs⟩ := hrel
    have HC := Lib.hid hc
    have a0 : wr.cell? ⟨w.heap.size, 0, none⟩ = some (.int .i64 a) := hB.cell 0
    have a1 : wr.cell? ⟨w.heap.size, 1, none⟩ = some (.string d) := hB.cell 1
    clear hc
    by_cases hlt : i < d.size
    case neg =>
      have hi2 : i = d.size := by omega
      subst hi2
      have E0 : Hid (putE M a d.data.toList = 0) := Lib.hid (by rw [E.out, HC.out]; rfl)
      have EM : Hid (putM M a d.data.toList = wrN M a d.data.toList d.size) := Lib.hid (by unfold putM; rw [E0.out, if_pos rfl, HLEN.out]; rfl)
      have hlt' : decide ((d.size : Int) < (d.size : Int)) = false := by simp
      go_wp2_with fail
      obtain ⟨wo, rfl⟩ : ∃ wo : World, wo = wr := ⟨_, rfl⟩
      go_loopw [7, 61] (fun s7 s61 wr => ∃ i : Nat, s61 = .int .i64 i ∧ i ≤ d.size ∧ BlockIs wr w.heap.size 61 #[.int .i64 a, .string d] ∧ Sz wr g (wrN M a d.data.toList i) t ∧ Out w wr [g]) (fun s7 s61 _ => d.size - (intOf s61).toNat)
      case atStart => exact ⟨0, rfl, Nat.zero_le _, hB, H.out.later hs, Out.of_below hs _⟩
      case round =>
        obtain ⟨i, rfl, hi, hB, hz, ho⟩ := hrel
        have a0 : wr.cell? ⟨w.heap.size, 0, none⟩ = some (.int .i64 a) := hB.cell 0
        have a1 : wr.cell? ⟨w.heap.size, 1, none⟩ = some (.string d) := hB.cell 1
        have HZ := Lib.hid hz
        have HOO := Lib.hid ho
        have hlb := hB.lt
        have hlg := hz.bl.lt
        clear hz ho
        by_cases hlt : i < d.size
        case neg =>
          obtain rfl : i = d.size := by omega
          go_wp2_with fail
          go_ret
          exact ⟨by rw [E0.out]; rfl, by rw [EM.out]; exact HZ.out, HOO.out⟩
        clear hlt'
        have hlt' : (i : Int) < (d.size : Int) := by omega
        have hai : a + i < 60 := by omega
        have hai' : (a : Int) + (i : Int) < 60 := by omega
        have c0 := HZ.out.is hai
        have c1 := HZ.out.by_ hai
        generalize ((wrN M a d.data.toList i).at (a + i)).isSome = ob at c0
        generalize (((wrN M a d.data.toList i).at (a + i)).getD 0).toNat = oy at c1
        have f0 := HZ.out.bl.free
        have hw : IntKind.i64.wrap ((a : Int) + (i : Int)) = ((a + i : Nat) : Int) := by rw [IntWalk.i64_in _ (by omega)]; rfl
        go_wp2_with fail
        go_region
        all_goals
          go_wp2_with fail
          have hO : Out wr ((wr.setCell ⟨g, a + i, none⟩ (.bool true)).setCell ⟨g, 60 + (a + i), none⟩ (.int .u8 (d[i].toNat : Int))) [g] := (((Out.refl wr [g])).put (p := ⟨g, a + i, none⟩) (Or.inl (by simp)) _).put (p := ⟨g, 60 + (a + i), none⟩) (Or.inl (by simp)) _
          have hP := HZ.out.put hai d[i]
          have hset : wrN M a d.data.toList (i + 1) = (wrN M a d.data.toList i).set (a + i) (some d[i]) := by rw [← bth_get hlt]; rfl
          have hgw : w.heap.size ∉ [g] := by simp; omega
          go_roundw
          case rel => exact ⟨i + 1, by go_num, by omega, hO.block' hB hgw, by rw [hset]; exact ⟨hP.bl, hP.len, hP.most⟩, HOO.out.trans (by first | exact hO | exact hO.drew | exact ⟨hO.os, hO.tape, hO.output, hO.size, hO.block⟩)⟩
          case measure => simp [intOf]; omega
    have hlt' : (i : Int) < (d.size : Int) := by omega
    have hai : a + i < 60 := by omega
    have c0 : wr.cell? ⟨g, a + i, none⟩ = some (.bool (M.at (a + i)).isSome) := (H.out.later hs).is hai
    have c1 : wr.cell? ⟨g, 60 + (a + i), none⟩ = some (.int .u8 (((M.at (a + i)).getD 0).toNat : Int)) := (H.out.later hs).by_ hai
    have hai' : (a : Int) + (i : Int) < 60 := by omega
    have hlb := hB.lt
    have hlg := (H.out.later hs).bl.lt
    obtain ⟨o, ho⟩ : ∃ o, M.at (a + i) = o := ⟨_, rfl⟩
    rw [ho] at c0 c1
    have HO := Lib.hid ho
    clear ho
    cases o with
    | none =>
      simp only [Option.isSome_none] at c0
      have HC1 : Hid (clashN M a d.data.toList (i + 1) = false) := Lib.hid (clashN_miss HC.out (fun y hy => by rw [HO.out] at hy; cases hy))
      go_wp2_with fail
      go_quiet (fail)
      go_wp2_with fail
      go_roundw
      case rel => exact ⟨i + 1, by go_num, by omega, HC1.out, hB, (by refine Since.out ?_; repeat (first | with_reducible assumption | with_reducible exact Since.refl _ | with_reducible refine Since.later ?_ (by with_reducible assumption) | with_reducible refine Since.only ?_ (by with_reducible assumption) (by first | assumption | omega | (simp; done) | (simp; omega)) | with_reducible refine Since.alloc ?_ _ | with_reducible refine Since.drewN ?_ _ | with_reducible refine Since.drew ?_ | with_reducible refine Since.set ?_ (by first | assumption | omega | (simp; done) | (simp; omega)) _))⟩
      case measure => simp [intOf]; omega
    | some y =>
      simp only [Option.isSome_some, Option.getD_some] at c0 c1
      by_cases hy : y = d[i]
      · have HC1 : Hid (clashN M a d.data.toList (i + 1) = false) := Lib.hid (clashN_miss HC.out (fun z hz => by rw [HO.out] at hz; rw [bth_get hlt, ← hy]; exact (Option.some.inj hz).symm))
        have hq : ((y.toNat : Int) != (d[i].toNat : Int)) = false := by rw [hy]; simp
        clear hy
        go_wp2_with fail
        go_quiet (fail)
        go_wp2_with fail
        go_roundw
        case rel => exact ⟨i + 1, by go_num, by omega, HC1.out, hB, (by refine Since.out ?_; repeat (first | with_reducible assumption | with_reducible exact Since.refl _ | with_reducible refine Since.later ?_ (by with_reducible assumption) | with_reducible refine Since.only ?_ (by with_reducible assumption) (by first | assumption | omega | (simp; done) | (simp; omega)) | with_reducible refine Since.alloc ?_ _ | with_reducible refine Since.drewN ?_ _ | with_reducible refine Since.drew ?_ | with_reducible refine Since.set ?_ (by first | assumption | omega | (simp; done) | (simp; omega)) _))⟩
        case measure => simp [intOf]; omega
      · have E7 : Hid (putE M a d.data.toList = 7) := Lib.hid (by rw [E.out, if_pos (clashN_hit hlt HO.out (by rw [bth_get hlt]; exact hy))])
        have EM : Hid (putM M a d.data.toList = M) := Lib.hid (by unfold putM; rw [E7.out, if_neg (by decide)])
        have hq : ((y.toNat : Int) != (d[i].toNat : Int)) = true := by
          simp
          intro he
          exact hy (UInt8.toNat_inj.1 (by omega))
        clear hy
        go_wp2_with fail
        go_quiet (fail)
        go_wp2_with fail
        go_ret
        exact ⟨by rw [E7.out]; rfl, by rw [EM.out]; exact H.out.later (by refine Since.out ?_; repeat (first | with_reducible assumption | with_reducible exact Since.refl _ | with_reducible refine Since.later ?_ (by with_reducible assumption) | with_reducible refine Since.only ?_ (by with_reducible assumption) (by first | assumption | omega | (simp; done) | (simp; omega)) | with_reducible refine Since.alloc ?_ _ | with_reducible refine Since.drewN ?_ _ | with_reducible refine Since.drew ?_ | with_reducible refine Since.set ?_ (by first | assumption | omega | (simp; done) | (simp; omega)) _)), Out.of_below (by refine Since.out ?_; repeat (first | with_reducible assumption | with_reducible exact Since.refl _ | with_reducible refine Since.later ?_ (by with_reducible assumption) | with_reducible refine Since.only ?_ (by with_reducible assumption) (by first | assumption | omega | (simp; done) | (simp; omega)) | with_reducible refine Since.alloc ?_ _ | with_reducible refine Since.drewN ?_ _ | with_reducible refine Since.drew ?_ | with_reducible refine Since.set ?_ (by first | assumption | omega | (simp; done) | (simp; omega)) _)) _⟩
end Go.Proofs.YtaindcicloapfaaDoor
