/- Contracts and plain laws that the claim leans on, part 1 of 1: each part has its own word. No condition beside theirs. -/
import Derived.Test.YtmfbaijbigodkaaGreatDoorZH
/-! wiresame.Ranges and wiresame.Ints on two slices that hold one list, each readable. Condition: the slices can be read. -/
namespace Go.Proofs.YtmfbaijbigodkaaGreatDoor
open Go.ChangeShapes Go.WideShapes Go.ChangeAt Go.RowKit
set_option linter.unusedVariables false

theorem rd_cap {w : World} {k n cap : Nat} {A : Option Addr} {es : List (List Value)} (h : Rd w k (.slice A n cap) es) : es.length = n ∧ n ≤ 9223372036854775807 := by
  obtain ⟨A', cap', hv, h1, h2, _⟩ := h.shape
  simp only [Value.slice.injEq] at hv
  obtain ⟨_, rfl, _⟩ := hv
  unfold maxLen at h2
  exact ⟨rfl, by omega⟩
theorem rd_of_block {w : World} {g k n cap : Nat} {t : TypeId} {es : List (List Value)} (h : BlockIs w g t (flat es).toArray) (hr : ∀ e ∈ es, e.length = k ∧ ∀ u ∈ e, u.oneCell' = true) (hn : es.length = n) (hc : n ≤ cap) (hm : cap ≤ 1000000) : Rd w k (.slice (some ⟨g, 0, none⟩) n cap) es := by
  subst hn
  refine ⟨⟨_, cap, rfl, hc, by unfold maxLen; omega, fun _ => ⟨g, 0, rfl, h.lt, fun j u hu => ?_⟩⟩, hr⟩
  rw [Nat.zero_add, h.cell]
  simpa using hu
set_option maxHeartbeats 1600000 in
theorem rngeqR (A B : Option Addr) (ca cb n : Nat) (L : List Rng) (w : World) (hn : L.length = n) (h : Rd w 2 (.slice A n ca) (L.map rngRow)) (h' : Rd w 2 (.slice B n cb) (L.map rngRow)) :
    Calls Tryz.prog 21 #[.slice A n ca, .slice B n cb] w fun e w' => e = .returned (.bool true) ∧ Below w.heap.size w w' := by
  have hcm := (rd_cap h).2
  have H := Lib.hid h
  have H' := Lib.hid h'
  have HN := Lib.hid hn
  have hq : ((n : Int) != (n : Int)) = false := by simp
  clear h h' hn
  go_enter Tryz.func21, Tryz.ntmps21
  go_wp2_with fail
  go_loopw [5] (fun s5 wr => ∃ i : Nat, s5 = .int .i64 i ∧ i ≤ n ∧ Since w wr) (fun s5 _ => n - (intOf s5).toNat)
  case atStart => exact ⟨0, rfl, Nat.zero_le _, Since.refl _⟩
  case round =>
    obtain ⟨i, rfl, hi, hs⟩ := hrel
    by_cases hlt : i < n
    case neg =>
      obtain rfl : i = n := by omega
      have hf : decide ((i : Int) < (i : Int)) = false := by simp
      go_wp2_with fail
      go_ret
      exact ⟨rfl, (by refine Since.out ?_; repeat (first | with_reducible assumption | with_reducible exact Since.refl _ | with_reducible refine Since.later ?_ (by with_reducible assumption) | with_reducible refine Since.only ?_ (by with_reducible assumption) (by first | assumption | omega | (simp; done) | (simp; omega)) | with_reducible refine Since.alloc ?_ _ | with_reducible refine Since.drewN ?_ _ | with_reducible refine Since.drew ?_ | with_reducible refine Since.set ?_ (by first | assumption | omega | (simp; done) | (simp; omega)) _))⟩
    have hlt' : (i : Int) < (n : Int) := by omega
    obtain ⟨ba, oa, rfl, hla, hca⟩ := H.out.rng (i := i) (by rw [HN.out]; exact hlt)
    obtain ⟨bb, ob, rfl, hlb, hcb⟩ := H'.out.rng (i := i) (by rw [HN.out]; exact hlt)
    obtain ⟨a0, a1⟩ := hca wr hs i (by rw [HN.out]; exact hlt)
    obtain ⟨b0, b1⟩ := hcb wr hs i (by rw [HN.out]; exact hlt)
    have la : ba < wr.heap.size := Nat.lt_of_lt_of_le hla hs.le
    have lb : bb < wr.heap.size := Nat.lt_of_lt_of_le hlb hs.le
    clear hca hcb
    generalize (rat L i).lo = ds at *
    generalize (rat L i).hi = dn at *
    go_wp2_with fail
    go_quiet (fail)
    go_wp2_with fail
    go_roundw
    case rel => exact ⟨i + 1, by go_num, by omega, (by refine Since.out ?_; repeat (first | with_reducible assumption | with_reducible exact Since.refl _ | with_reducible refine Since.later ?_ (by with_reducible assumption) | with_reducible refine Since.only ?_ (by with_reducible assumption) (by first | assumption | omega | (simp; done) | (simp; omega)) | with_reducible refine Since.alloc ?_ _ | with_reducible refine Since.drewN ?_ _ | with_reducible refine Since.drew ?_ | with_reducible refine Since.set ?_ (by first | assumption | omega | (simp; done) | (simp; omega)) _))⟩
    case measure => simp [intOf]; omega
end Go.Proofs.YtmfbaijbigodkaaGreatDoor

/-! Contract of packet.Print. Condition: the frames can be read; the tables hold what the program's text lays. -/
namespace Go.Proofs.YtmfbaijbigodkaaGreatDoor
open Go.ChangeShapes Go.WideShapes Go.ChangeAt Go.RowKit
set_option linter.unusedVariables false

theorem pkt_need {x known : Int} {L : List Frm} (h : ¬ NeedOk x known) : pktE x known L = 1 ∧ pktV x known L = [] := by
  have e : pktE x known L = 1 := by unfold pktE; rw [if_neg h]
  exact ⟨e, by unfold pktV; rw [if_neg (by rw [e]; decide)]⟩
theorem pkt_no {x known : Int} {L : List Frm} {k : Int} (e : pktE x known L = k) (hk : k ≠ 0) : pktV x known L = [] := by unfold pktV; rw [if_neg (by rw [e]; exact hk)]
theorem pkt_nil {x known : Int} (h : NeedOk x known) : pktE x known [] = 5 := by unfold pktE; rw [if_pos h, if_pos rfl]
theorem pkt_many {x known : Int} {L : List Frm} (h : NeedOk x known) (h2 : 12 < L.length) : pktE x known L = 4 := by
  unfold pktE; rw [if_pos h, if_neg (by intro h3; rw [h3] at h2; simp at h2), if_pos h2]
theorem pkt_frm {x known : Int} {L : List Frm} (h : NeedOk x known) (h0 : L ≠ []) (h2 : ¬ 12 < L.length) (h3 : frmsE L ≠ 0) : pktE x known L = frmsE L := by
  unfold pktE; rw [if_pos h, if_neg h0, if_neg h2, if_neg h3]
theorem pkt_big {x known : Int} {L : List Frm} (h : NeedOk x known) (h0 : L ≠ []) (h2 : ¬ 12 < L.length) (h3 : frmsE L = 0) (h4 : 200 < (pktB x known L).length) : pktE x known L = 4 := by
  unfold pktE; rw [if_pos h, if_neg h0, if_neg h2, if_pos h3, if_pos h4]
theorem pkt_ok {x known : Int} {L : List Frm} (h : NeedOk x known) (h0 : L ≠ []) (h2 : ¬ 12 < L.length) (h3 : frmsE L = 0) (h4 : ¬ 200 < (pktB x known L).length) : pktE x known L = 0 ∧ pktV x known L = pktB x known L := by
  have e : pktE x known L = 0 := by unfold pktE; rw [if_pos h, if_neg h0, if_neg h2, if_pos h3, if_neg h4]
  exact ⟨e, by unfold pktV; rw [if_pos e]⟩
theorem frmsE_upto {L : List FrmV} {i : Nat} (h : i < L.length) (hE : frmsE ((L.take i).map (·.f)) = 0) : (frmE L[i].f = 0 → frmsE ((L.take (i + 1)).map (·.f)) = 0) ∧ (frmE L[i].f ≠ 0 → frmsE (L.map (·.f)) = frmE L[i].f) := by
  constructor
  · intro h0
    rw [List.take_succ_eq_append_getElem h, List.map_append, frmsE_app_ok hE]
    simp [frmsE, h0]
  · intro h0
    have hsp : L = L.take i ++ (L[i] :: L.drop (i + 1)) := by
      rw [← List.drop_eq_getElem_cons h, List.take_append_drop]
    have e : frmsE (L.map (·.f)) = frmsE ((L.take i ++ (L[i] :: L.drop (i + 1))).map (·.f)) := congrArg (fun M => frmsE (M.map (·.f))) hsp
    rw [e, List.map_append, List.map_cons, frmsE_bad hE h0]

end Go.Proofs.YtmfbaijbigodkaaGreatDoor

/-! Contract of wireref2.Packet. Condition: the frames can be read. -/
namespace Go.Proofs.YtmfbaijbigodkaaGreatDoor
open Go.ChangeShapes Go.WideShapes Go.ChangeAt Go.RowKit
set_option linter.unusedVariables false

theorem rround_0 (w : World) : Calls Tryz.prog 90 #[.int .i64 0] w fun e w' => e = .returned (.int .i64 1) ∧ w = w' := by
  go_enter Tryz.func90, Tryz.ntmps90
  go_wp2
  refine wp_loop_rounds 5 ?_
  repeat (rw [rounds_succ]; go_wp2)
  go_ret
  exact ⟨rfl, rfl⟩
theorem hdZ_nextR {n : Int} {m j i : Nat} (h1 : 1 ≤ m) (h4 : m ≤ 4) (hji : m - 1 - j = i) (hj : j < m) : (hdZ n m).take (j + 2) = (hdZ n m).take (j + 1) ++ [shB n i] := by
  subst hji
  have hm : m = 1 ∨ m = 2 ∨ m = 3 ∨ m = 4 := by omega
  have hjj : j = 0 ∨ j = 1 ∨ j = 2 ∨ j = 3 := by omega
  rcases hm with rfl | rfl | rfl | rfl <;> rcases hjj with rfl | rfl | rfl | rfl <;> first | omega | (simp [hdZ, shB]; done)

set_option maxHeartbeats 6400000 in
set_option maxRecDepth 100000 in
theorem rpacket (x known : Int) (A : Option Addr) (n cap : Nat) (L : List FrmV) (w : World) (hx : -9223372036854775808 ≤ x ∧ x ≤ 9223372036854775807) (hkn : -9223372036854775808 ≤ known ∧ known ≤ 9223372036854775807) (hn : L.length = n) (h : FrmsIn w (.slice A n cap) L) :
    Calls Tryz.prog 52 #[.int .i64 x, .int .i64 known, .slice A n cap] w fun e w' => e = .returned (.tuple #[.string ⟨(pktV x known (L.map (·.f))).toArray⟩, .int .i64 (pktE x known (L.map (·.f)))]) ∧ Below w.heap.size w w' := by
  have HN := Lib.hid hn
  have H := Lib.hid h
  have hcm := (rd_cap h.rd).2
  have HML : Hid ((L.map (·.f)).length = n) := Lib.hid (by rw [List.length_map, hn])
  clear hn h
  by_cases hN : NeedOk x known
  case neg =>
    obtain ⟨p1, p2⟩ := pkt_need (L := L.map (·.f)) hN
    have P1 := Lib.hid p1
    have P2 := Lib.hid p2
    by_cases hm : MayBe x
    case neg =>
      have hmb := Lib.hid (mayB_not hm)
      clear p1 p2 hN hm
      go_enter Tryz.func52, Tryz.ntmps52
      go_wp2_with fail
      refine (rmay_any x _).mono ?_
      rintro e w1 ⟨rfl, rfl⟩
      rw [hmb.out]
      trace "A"; go_wp2_with fail
      go_ret2
      exact ⟨by rw [P1.out, P2.out]; rfl, Below.refl _ _⟩
    have hmb := Lib.hid (mayB_iff.2 hm)
    by_cases hk1 : known < -1
    · clear p1 p2 hN hm
      go_enter Tryz.func52, Tryz.ntmps52
      go_wp2_with fail
      refine (rmay_any x _).mono ?_
      rintro e w1 ⟨rfl, rfl⟩
      rw [hmb.out]
      trace "B"; go_wp2_with fail
      go_ret2
      exact ⟨by rw [P1.out, P2.out]; rfl, Below.refl _ _⟩
    have hk1' : decide (known < -1) = false := by simpa using hk1
    have hk2 : x ≤ known := by
      rcases Int.lt_or_le known x with h | h
      · exact absurd ⟨hm, by omega, h⟩ hN
      · exact h
    clear p1 p2 hN hm hk1
    go_enter Tryz.func52, Tryz.ntmps52
    go_wp2_with fail
    refine (rmay_any x _).mono ?_
    rintro e w1 ⟨rfl, rfl⟩
    rw [hmb.out]
    trace "C"; go_wp2_with fail
    go_ret2
    exact ⟨by rw [P1.out, P2.out]; rfl, Below.refl _ _⟩
  have HNO := Lib.hid hN
  obtain ⟨hmx, k1, k2⟩ := hN
  have hmb := Lib.hid (mayB_iff.2 hmx)
  obtain ⟨n1, n2⟩ := hmx
  have k1' : decide (known < -1) = false := by simp; omega
  have k2' : decide (x ≤ known) = false := by simp; omega
  have hg : ¬ ((known < -1) ∨ (x ≤ known)) := by omega
  by_cases h0 : n = 0
  · subst h0
    have hL : L = [] := List.length_eq_zero_iff.1 HN.out
    have p1 := pkt_nil HNO.out
    have p2 := pkt_no p1 (by decide)
    rw [hL]
    have P1 := Lib.hid p1
    have P2 := Lib.hid p2
    clear p1 p2 hL
    go_enter Tryz.func52, Tryz.ntmps52
    go_wp2_with fail
    refine (rmay_any x _).mono ?_
    rintro e w1 ⟨rfl, rfl⟩
    rw [hmb.out]
    trace "D"; go_wp2_with fail
    go_ret2
    exact ⟨by rw [List.map_nil, P1.out, P2.out]; rfl, Below.refl _ _⟩
  have h0' : ((n : Int) == 0) = false := by rw [beq_eq_false_iff_ne]; omega
  by_cases h12 : 12 < n
  · have p1 := pkt_many (L := L.map (·.f)) HNO.out (by rw [HML.out]; exact h12)
    have p2 := pkt_no p1 (by decide)
    have P1 := Lib.hid p1
    have P2 := Lib.hid p2
    have h12' : (12 : Int) < (n : Int) := by omega
    clear p1 p2 h0
    go_enter Tryz.func52, Tryz.ntmps52
    go_wp2_with fail
    refine (rmay_any x _).mono ?_
    rintro e w1 ⟨rfl, rfl⟩
    rw [hmb.out]
    trace "E"; go_wp2_with fail
    go_ret2
    exact ⟨by rw [P1.out, P2.out]; rfl, Below.refl _ _⟩
  have h12' : decide ((12 : Int) < (n : Int)) = false := by simp; omega
  have HFRM := Lib.hid (fun h3 => pkt_frm (L := L.map (·.f)) HNO.out (by intro hh; have := HML.out; rw [hh] at this; simp at this; omega) (by rw [HML.out]; exact h12) h3)
  have HBIG := Lib.hid (fun h3 h4 => pkt_big (L := L.map (·.f)) HNO.out (by intro hh; have := HML.out; rw [hh] at this; simp at this; omega) (by rw [HML.out]; exact h12) h3 h4)
  have HOK := Lib.hid (fun h3 h4 => pkt_ok (L := L.map (·.f)) HNO.out (by intro hh; have := HML.out; rw [hh] at this; simp at this; omega) (by rw [HML.out]; exact h12) h3 h4)
  obtain ⟨b1, b2⟩ := leastN_bounds (x - known)
  have hhl := headB_len (n := x) b1 b2
  have HPK : Hid (pktB x known (L.map (·.f)) = headB x (leastN (x - known)) ++ frmsB (L.map (·.f))) := Lib.hid rfl
  have RN := Lib.hid (fun W => rneed_any x known k2 k1 n2 W)
  generalize leastN (x - known) = b at *
  obtain ⟨m, rfl⟩ : ∃ m : Nat, b = m := ⟨b.toNat, by omega⟩
  have hwrap : IntKind.u8.wrap (m : Int) = m := by simp [IntKind.wrap, IntKind.bits, IntKind.signed]; omega
  have hn12 : n ≤ 12 := by omega
  clear h0 h12
  go_enter Tryz.func52, Tryz.ntmps52
  go_wp2_with fail
  refine (rmay_any x _).mono ?_
  rintro e w1 ⟨rfl, rfl⟩
  rw [hmb.out]
  trace "F"; go_wp2_with fail
  refine (RN.out _).mono ?_
  rintro e w1 ⟨rfl, rfl⟩
  trace "G"; go_wp2_with fail
  go_loopw [10, 11] (fun s10 s11 wr => ∃ (j q cp : Nat), s10 = .slice (some ⟨q, 0, none⟩) (j + 1) cp ∧ s11 = .int .i64 ((m : Int) - 1 - j) ∧ j ≤ m ∧ HdSt w wr (hdZ x m) (j + 1) q cp) (fun _ s11 _ => (intOf s11 + 1).toNat)
  case atStart => exact ⟨0, w.heap.size, 1, rfl, by simp, Nat.zero_le _, ⟨⟨World.ownsRow_lit (base := 0) w #[.int .u8 m] 1 (Nat.zero_le _) (by decide) rfl, by intro e he; obtain ⟨z, _, rfl⟩ := List.mem_map.1 he; exact u8Row_one z⟩, Nat.le_refl _, (by refine Since.out ?_; repeat (first | with_reducible assumption | with_reducible exact Since.refl _ | with_reducible refine Since.later ?_ (by with_reducible assumption) | with_reducible refine Since.only ?_ (by with_reducible assumption) (by first | assumption | omega | (simp; done) | (simp; omega)) | with_reducible refine Since.alloc ?_ _ | with_reducible refine Since.drewN ?_ _ | with_reducible refine Since.drew ?_ | with_reducible refine Since.set ?_ (by first | assumption | omega | (simp; done) | (simp; omega)) _))⟩⟩
  case round =>
    obtain ⟨j, q, cp, rfl, rfl, hj, hS⟩ := hrel
    by_cases hlt : j < m
    case neg =>
      obtain rfl : j = m := by omega
      have hm1 : (j : Int) - 1 - (j : Int) = -1 := by omega
      have hln : (hdZ x j).length = j + 1 := by have := hdZ_len (n := x) b1 b2; omega
      have hcv := conv_of (W := wr) (g := q) (c := cp) (ns := hdZ x j) (fun k v hk => by
        rw [List.getElem?_map] at hk
        cases hz : (hdZ x j)[k]? with
        | none => rw [hz] at hk; cases hk
        | some z =>
          rw [hz] at hk
          simp only [Option.map_some, Option.some.injEq] at hk
          subst hk
          have hl := hS.ls
          rw [List.take_of_length_le (by omega)] at hl
          have := hl.cell rfl (i := k) (j := 0) (e := u8Row z) (u := .int .u8 z) (by rw [List.getElem?_map, hz]; rfl) rfl
          simpa using this)
      rw [hln, hdZ_bytes b1 b2] at hcv
      rw [hm1]
      have hs1 : Since w wr := hS.since
      have HSH : Hid (∀ i, i ≤ n → frmsE ((L.take i).map (·.f)) = 0 → (frmsB ((L.take i).map (·.f))).length ≤ 1440) := Lib.hid (fun i hi hE => by
        have := frmsB_short (M := (L.take i).map (·.f)) (frmsE_all hE)
        rw [List.length_map, List.length_take] at this
        omega)
      generalize headB x (j : Int) = hd at *
      clear hS hln hm1
      trace "N"; go_wp2_with fail
      go_loopw [12, 13] (fun s12 s13 wr => ∃ i : Nat, s13 = .int .i64 i ∧ i ≤ n ∧ s12 = .string ⟨(hd ++ frmsB ((L.take i).map (·.f))).toArray⟩ ∧ Since w wr ∧ Hid (frmsE ((L.take i).map (·.f)) = 0)) (fun _ s13 _ => n - (intOf s13).toNat)
      case atStart => exact ⟨0, rfl, Nat.zero_le _, by simp [frmsB], hs1, Lib.hid rfl⟩
      case round =>
        obtain ⟨i, rfl, hi, rfl, hs, HE⟩ := hrel
        have hsh := HSH.out i hi HE.out
        by_cases hlt : i < n
        case neg =>
          obtain rfl : i = n := by omega
          have hf : decide ((i : Int) < (i : Int)) = false := by simp
          have hz : L.take i = L := List.take_of_length_le (by rw [HN.out]; exact Nat.le_refl _)
          rw [hz] at HE hsh ⊢
          rw [← HPK.out]
          have hlp : (pktB x known (L.map (·.f))).length ≤ 1445 := by rw [HPK.out, List.length_append]; omega
          clear hz hsh
          by_cases h200 : 200 < (pktB x known (L.map (·.f))).length
          · have p1 := HBIG.out HE.out h200
            have P2 := Lib.hid (pkt_no p1 (by decide))
            have P1 := Lib.hid p1
            have h200' : (200 : Int) < ((pktB x known (L.map (·.f))).length : Int) := by omega
            clear p1
            generalize pktB x known (L.map (·.f)) = Y at *
            trace "O"; go_wp2_with fail
            go_ret2
            exact ⟨by rw [P1.out, P2.out]; rfl, hs⟩
          · obtain ⟨p1, p2⟩ := HOK.out HE.out h200
            have h200' : decide ((200 : Int) < ((pktB x known (L.map (·.f))).length : Int)) = false := by simp; omega
            have P1 := Lib.hid p1
            have P2 := Lib.hid p2
            clear p1 p2
            generalize pktB x known (L.map (·.f)) = Y at *
            trace "P"; go_wp2_with fail
            go_ret2
            exact ⟨by rw [P1.out, P2.out]; rfl, hs⟩
        have hlt' : (i : Int) < (n : Int) := by omega
        have hil : i < L.length := by rw [HN.out]; exact hlt
        obtain ⟨b, off, rfl, hbl, hc⟩ := H.out.rd.frm hil
        obtain ⟨c0, c1, c2⟩ := hc wr hs i hil
        have lb : b < wr.heap.size := Nat.lt_of_lt_of_le hbl hs.le
        have HT := Lib.hid (frmsB_take hil)
        have HPI := Lib.hid (H.out.each L[i] (List.getElem_mem hil))
        obtain ⟨u1, u2⟩ := frmsE_upto hil HE.out
        have U1 := Lib.hid u1
        have U2 := Lib.hid u2
        have HC := Lib.hid hc
        have HS1 := Lib.hid (HSH.out (i + 1) (by omega))
        rw [HT.out, List.length_append] at HS1
        clear hc u1 u2 c0 c1 c2
        have HCC := Lib.hid (fun W hW => HC.out W hW i hil)
        generalize L[i] = p at *
        obtain ⟨c0, c1, c2⟩ := HCC.out wr hs
        clear hil
        obtain ⟨U, hU⟩ : ∃ U, hd ++ frmsB ((L.take i).map (·.f)) = U := ⟨_, rfl⟩
        have hUl : U.length ≤ 1445 := by rw [← hU, List.length_append]; omega
        have HU := Lib.hid hU
        rw [hU]
        clear hU hsh
        have RF := Lib.hid (fun W h1 => rframe p W h1)
        have RB := Lib.hid (fun W h1 h2 => rfbytes p W h1 h2)
        unfold FrmV.agg at RF RB
        trace "Q"; go_wp2_with fail
        refine (RF.out _ (HPI.out.later hs)).mono ?_
        rintro e w2 ⟨rfl, hb2⟩
        have hs2 : Since w w2 := hs.later hb2
        clear hb2
        by_cases hE : frmE p.f = 0
        case neg =>
          have p1 := HFRM.out (by rw [U2.out hE]; exact hE)
          have P2 := Lib.hid (pkt_no p1 (by rw [U2.out hE]; exact hE))
          have P1 := Lib.hid (p1.trans (U2.out hE))
          have hE' : (frmE p.f != 0) = true := by simpa using hE
          clear p1 hE
          trace "R"; go_wp2_with fail
          go_ret2
          exact ⟨by rw [P1.out, P2.out]; rfl, hs2⟩
        have HE2 := Lib.hid (U1.out hE)
        have HEI := Lib.hid hE
        rw [hE]
        obtain ⟨c0, c1, c2⟩ := HCC.out w2 hs2
        have lb2 : b < w2.heap.size := Nat.lt_of_lt_of_le hbl hs2.le
        have hov : U.length + (frmB p.f).length ≤ 9223372036854775807 := by have := HS1.out HE2.out; omega
        clear hE
        trace "S"; go_wp2_with fail
        refine (RB.out _ (HPI.out.later hs2) HEI.out).mono ?_
        rintro e w3 ⟨rfl, hb3⟩
        have hs3 : Since w w3 := hs2.later hb3
        clear hb3
        generalize hFB : frmB p.f = Y at *
        trace "T"; go_wp2_with fail
        go_roundw
        case rel => exact ⟨i + 1, by go_num, by omega, by rw [HT.out, ← List.append_assoc, HU.out, bapp], hs3, HE2⟩
        case measure => simp [intOf]; omega
    have hi : (m : Int) - 1 - (j : Int) = ((m - 1 - j : Nat) : Int) := by omega
    rw [hi]
    obtain ⟨i, hi2⟩ : ∃ i, m - 1 - j = i := ⟨_, rfl⟩
    have HI2 := Lib.hid hi2
    rw [hi2]
    have hi4 : i = 0 ∨ i = 1 ∨ i = 2 ∨ i = 3 := by omega
    clear hi hi2
    have HS := Lib.hid hS
    have HML2 : Hid ((((hdZ x m).take (j + 1)).map u8Row).length = j + 1) := Lib.hid (by have := hdZ_len (n := x) b1 b2; simp; omega)
    have HT := Lib.hid (hdZ_nextR (n := x) (j := j) (by omega) (by omega) HI2.out hlt)
    clear hS
    rcases hi4 with rfl | rfl | rfl | rfl
    · have HX := Lib.hid (show shB x 0 = x % 256 from rfl)
      trace "C0"; go_wp2_with fail
      refine (rround_0 _).mono ?_
      rintro e w1 ⟨rfl, rfl⟩
      trace "D0"; go_wp2_with (at_builtin; refine wpList_push rfl _ _ 131 rfl 5 1 1 Tryz.elU8 (.slice (some ⟨q, 0, none⟩) (j + 1) cp) (((hdZ x m).take (j + 1)).map u8Row) rfl (HS.out.ls.alloc _) wr.heap.size 1 [.int .u8 (x % 256)] rfl rfl (u8Row_one _).2 (BlockIs.fresh _ _ _) (by rw [HML2.out]; omega) ?_; intro q9 cq w5 hl5 ho5 hq5 hlt5; rw [HML2.out] at hl5; (try rw [HML2.out]); have HN5 := Lib.hid (HS.out.step (HT.out) HX.out HML2.out hl5 ho5 hq5); clear hl5 ho5 hq5 hlt5)
      go_roundw
      case rel => exact ⟨j + 1, q9, cq, rfl, by have := HI2.out; first | (simp; omega) | (congr 1; omega), by omega, HN5.out⟩
      case measure => (simp [intOf]; try omega)
    · have HX := Lib.hid (show shB x 1 = x / 256 % 256 from rfl)
      trace "C1"; go_wp2_with fail
      refine (rround_any 1 (by decide) (by decide) _).mono ?_
      rintro e w1 ⟨rfl, rfl⟩
      simp only [rnd]
      trace "D1"; go_wp2_with (at_builtin; refine wpList_push rfl _ _ 131 rfl 5 1 1 Tryz.elU8 (.slice (some ⟨q, 0, none⟩) (j + 1) cp) (((hdZ x m).take (j + 1)).map u8Row) rfl (HS.out.ls.alloc _) wr.heap.size 1 [.int .u8 (x / 256 % 256)] rfl rfl (u8Row_one _).2 (BlockIs.fresh _ _ _) (by rw [HML2.out]; omega) ?_; intro q9 cq w5 hl5 ho5 hq5 hlt5; rw [HML2.out] at hl5; (try rw [HML2.out]); have HN5 := Lib.hid (HS.out.step (HT.out) HX.out HML2.out hl5 ho5 hq5); clear hl5 ho5 hq5 hlt5)
      go_roundw
      case rel => exact ⟨j + 1, q9, cq, rfl, by have := HI2.out; first | (simp; omega) | (congr 1; omega), by omega, HN5.out⟩
      case measure => (simp [intOf]; try omega)
    · have HX := Lib.hid (show shB x 2 = x / 65536 % 256 from rfl)
      trace "C2"; go_wp2_with fail
      refine (rround_any 2 (by decide) (by decide) _).mono ?_
      rintro e w1 ⟨rfl, rfl⟩
      simp only [rnd]
      trace "D2"; go_wp2_with (at_builtin; refine wpList_push rfl _ _ 131 rfl 5 1 1 Tryz.elU8 (.slice (some ⟨q, 0, none⟩) (j + 1) cp) (((hdZ x m).take (j + 1)).map u8Row) rfl (HS.out.ls.alloc _) wr.heap.size 1 [.int .u8 (x / 65536 % 256)] rfl rfl (u8Row_one _).2 (BlockIs.fresh _ _ _) (by rw [HML2.out]; omega) ?_; intro q9 cq w5 hl5 ho5 hq5 hlt5; rw [HML2.out] at hl5; (try rw [HML2.out]); have HN5 := Lib.hid (HS.out.step (HT.out) HX.out HML2.out hl5 ho5 hq5); clear hl5 ho5 hq5 hlt5)
      go_roundw
      case rel => exact ⟨j + 1, q9, cq, rfl, by have := HI2.out; first | (simp; omega) | (congr 1; omega), by omega, HN5.out⟩
      case measure => (simp [intOf]; try omega)
    · have HX := Lib.hid (show shB x 3 = x / 16777216 % 256 from rfl)
      trace "C3"; go_wp2_with fail
      refine (rround_any 3 (by decide) (by decide) _).mono ?_
      rintro e w1 ⟨rfl, rfl⟩
      simp only [rnd]
      trace "D3"; go_wp2_with (at_builtin; refine wpList_push rfl _ _ 131 rfl 5 1 1 Tryz.elU8 (.slice (some ⟨q, 0, none⟩) (j + 1) cp) (((hdZ x m).take (j + 1)).map u8Row) rfl (HS.out.ls.alloc _) wr.heap.size 1 [.int .u8 (x / 16777216 % 256)] rfl rfl (u8Row_one _).2 (BlockIs.fresh _ _ _) (by rw [HML2.out]; omega) ?_; intro q9 cq w5 hl5 ho5 hq5 hlt5; rw [HML2.out] at hl5; (try rw [HML2.out]); have HN5 := Lib.hid (HS.out.step (HT.out) HX.out HML2.out hl5 ho5 hq5); clear hl5 ho5 hq5 hlt5)
      go_roundw
      case rel => exact ⟨j + 1, q9, cq, rfl, by have := HI2.out; first | (simp; omega) | (congr 1; omega), by omega, HN5.out⟩
      case measure => (simp [intOf]; try omega)
end Go.Proofs.YtmfbaijbigodkaaGreatDoor

/-! Plain words on how the reference's end finds the pieces that are not there: one place after the other. No program here. -/
namespace Go.Proofs.YtmfbaijbigodkaaGreatDoor
open Go.ChangeShapes Go.WideShapes Go.ChangeAt Go.RowKit
set_option linter.unusedVariables false

/-- is a place to be told -/
def openAt (T : List Bool) (last i : Nat) : Bool := decide (i < last) && !tat T i
theorem openAt_iff {T : List Bool} {last i : Nat} : openAt T last i = true ↔ i < last ∧ tat T i = false := by
  unfold openAt
  rw [Bool.and_eq_true, decide_eq_true_eq, Bool.not_eq_true']
theorem openAt_not {T : List Bool} {last i : Nat} (h : openAt T last i = false) : ¬ (i < last ∧ tat T i = false) := fun hc => by
  rw [openAt_iff.2 hc] at h; cases h
/-- what was found ahead of place i, and where the piece that is being found begins (-1: none) -/
structure Scan (T : List Bool) (last : Nat) (data : ByteArray) (Q : List Pc) (i : Nat) (P : List Pc) (from_ : Int) : Prop where
  few : P.length ≤ 3
  at_ : (from_ = -1 ∧ P ++ pcsR T last data i (3 - P.length) = Q) ∨
    (∃ a : Nat, from_ = a ∧ a < i ∧ i ≤ last ∧ i - a ≤ 20 ∧ (∀ j, j < i - a → a + j < last ∧ tat T (a + j) = false) ∧ P ++ pcsR T last data a (3 - P.length) = Q)
namespace Scan
variable {T : List Bool} {last : Nat} {data : ByteArray} {Q : List Pc} {i : Nat} {P : List Pc}
theorem start : Scan T last data (pcsR T last data 0 3) 0 [] (-1) := ⟨by simp, Or.inl ⟨rfl, rfl⟩⟩
theorem bound {f : Int} (h : Scan T last data Q i P f) : f = -1 ∨ ∃ a : Nat, f = a ∧ a < i ∧ i ≤ last ∧ i - a ≤ 20 := by
  rcases h.at_ with ⟨h1, _⟩ | ⟨a, h1, h2, h3, h4, _⟩
  · exact Or.inl h1
  · exact Or.inr ⟨a, h1, h2, h3, h4⟩
theorem strN_at {a : Nat} (h2 : a < i) (h4 : i - a ≤ 20) (h5 : ∀ j, j < i - a → a + j < last ∧ tat T (a + j) = false) (hc : openAt T last i = false ∨ i - a = 20) : strN T last 20 a = i - a := by
  refine strN_eq h4 h5 ?_
  rcases hc with hc | hc
  · right
    rw [show a + (i - a) = i by omega]
    exact openAt_not hc
  · exact Or.inl hc
/-- a piece ends here, and is one more -/
theorem close {a : Nat} (h : Scan T last data Q i P (a : Int)) (hc : openAt T last i = false ∨ i - a = 20) (hP : P.length < 3) : Scan T last data Q i (P ++ [⟨a, data.extract a i⟩]) (-1) := by
  rcases h.at_ with ⟨h1, _⟩ | ⟨a', h1, h2, h3, h4, h5, h6⟩
  · omega
  · obtain rfl : a = a' := by omega
    have hs := strN_at h2 h4 h5 hc
    refine ⟨by rw [List.length_append, List.length_singleton]; omega, Or.inl ⟨rfl, ?_⟩⟩
    rw [pcsR_take (by omega) (by omega) (by omega), hs, show a + (i - a) = i by omega] at h6
    rw [← h6, List.length_append, List.length_singleton, List.append_assoc, show 3 - (P.length + 1) = 3 - P.length - 1 by omega]
    rfl
/-- a piece ends here, and there are enough -/
theorem drop {a : Nat} (h : Scan T last data Q i P (a : Int)) (hP : ¬ P.length < 3) : Scan T last data Q i P (-1) := by
  have hf := h.few
  have e : 3 - P.length = 0 := by omega
  rcases h.at_ with ⟨h1, _⟩ | ⟨a', h1, h2, h3, h4, h5, h6⟩
  · omega
  · refine ⟨hf, Or.inl ⟨rfl, ?_⟩⟩
    rw [e, pcsR_none (by omega)] at h6 ⊢
    exact h6
/-- one begins here -/
theorem begin_ (h : Scan T last data Q i P (-1)) (ho : openAt T last i = true) : Scan T last data Q (i + 1) P (i : Int) := by
  have h0 := openAt_iff.1 ho
  rcases h.at_ with ⟨_, h6⟩ | ⟨a', h1, _⟩
  · refine ⟨h.few, Or.inr ⟨i, rfl, by omega, by omega, by omega, fun j hj => ?_, h6⟩⟩
    have : j = 0 := by omega
    subst this
    exact h0
  · omega
/-- none begins here -/
theorem skip (h : Scan T last data Q i P (-1)) (ho : openAt T last i = false) : Scan T last data Q (i + 1) P (-1) := by
  rcases h.at_ with ⟨_, h6⟩ | ⟨a', h1, _⟩
  · refine ⟨h.few, Or.inl ⟨rfl, ?_⟩⟩
    rw [← pcsR_skip (by rw [strN, if_neg (openAt_not ho)])]
    exact h6
  · omega
/-- it goes on -/
theorem goes {a : Nat} (h : Scan T last data Q i P (a : Int)) (ho : openAt T last i = true) (hn : ¬ i - a = 20) : Scan T last data Q (i + 1) P (a : Int) := by
  have h0 := openAt_iff.1 ho
  rcases h.at_ with ⟨h1, _⟩ | ⟨a', h1, h2, h3, h4, h5, h6⟩
  · omega
  · obtain rfl : a = a' := by omega
    refine ⟨h.few, Or.inr ⟨a, rfl, by omega, by omega, by omega, fun j hj => ?_, h6⟩⟩
    by_cases hj2 : j < i - a
    · exact h5 j hj2
    · have : a + j = i := by omega
      rw [this]; exact h0
theorem done {f : Int} (h : Scan T last data Q (last + 1) P f) : P = Q := by
  rcases h.at_ with ⟨_, h6⟩ | ⟨a', _, _, h3, _⟩
  · rw [pcsR_none (by omega), List.append_nil] at h6
    exact h6
  · omega
end Scan
end Go.Proofs.YtmfbaijbigodkaaGreatDoor
