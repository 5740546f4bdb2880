/- Packets that were sent: what is wrong with some, how many bytes they are: plain words, and contracts of loss.Check, loss.both, loss.Way, trip.Time, and of the reference's Sent. Condition: the slices can be read. -/
import Derived.Test.YtbmfknnbpnllkaaDoorRngs
namespace Go.Proofs.YtbmfknnbpnllkaaDoor
open Go.ChangeShapes Go.WideShapes Go.ChangeAt Go.RowKit
set_option linter.unusedVariables false

def sat (L : List Snt) (i : Nat) : Snt := L.getD i ⟨0, 0, 0⟩
theorem sat_get {L : List Snt} {i : Nat} (h : i < L.length) : sat L i = L[i] := by unfold sat; simp [List.getD, List.getElem?_eq_getElem h]
/-- what is wrong with the i-th -/
def sntOne (L : List Snt) (i : Nat) : Int := if mayB (sat L i).n = true ∧ 0 ≤ (sat L i).t ∧ (sat L i).t ≤ 100000 ∧ 1 ≤ (sat L i).z ∧ (sat L i).z ≤ 200 then (if 0 < i ∧ ((sat L i).n ≤ (sat L (i - 1)).n ∨ (sat L i).t < (sat L (i - 1)).t) then 3 else 0) else 1
/-- what is wrong with the first n -/
def sntUp (L : List Snt) : Nat → Int
  | 0 => 0
  | n + 1 => if sntUp L n = 0 then sntOne L n else sntUp L n
def sntE (L : List Snt) : Int := if 30 < L.length then 4 else sntUp L L.length
theorem sntUp_bad {L : List Snt} {i : Nat} {x : Int} (h0 : sntUp L i = 0) (h : sntOne L i = x) (hx : x ≠ 0) : ∀ n, i < n → sntUp L n = x := by
  intro n
  induction n with
  | zero => intro h; omega
  | succ n ih =>
    intro hn
    unfold sntUp
    by_cases he : i = n
    · subst he; rw [if_pos h0]; exact h
    · rw [ih (by omega), if_neg hx]
theorem sntUp_ok {L : List Snt} {i : Nat} (h0 : sntUp L i = 0) (h : sntOne L i = 0) : sntUp L (i + 1) = 0 := by
  rw [sntUp, if_pos h0]; exact h
theorem sntUp_all {L : List Snt} : ∀ {n : Nat}, sntUp L n = 0 → ∀ i, i < n → sntOne L i = 0
  | 0, _, i, hi => by omega
  | n + 1, h, i, hi => by
    unfold sntUp at h
    by_cases h0 : sntUp L n = 0
    · rw [if_pos h0] at h
      rcases Nat.lt_succ_iff_lt_or_eq.1 hi with h1 | h1
      · exact sntUp_all h0 i h1
      · rw [h1]; exact h
    · rw [if_neg h0] at h; exact absurd h h0
theorem Rd.snt {w : World} {A : Option Addr} {n cap : Nat} {L : List Snt} (h : Rd w 3 (.slice A n cap) (L.map sntRow)) {i : Nat} (hi : i < L.length) : ∃ b off, A = some ⟨b, off, none⟩ ∧ b < w.heap.size ∧ ∀ w', Since w w' → ∀ j, j < L.length → w'.cell? ⟨b, off + j * 3, none⟩ = some (.int .i64 (sat L j).n) ∧ w'.cell? ⟨b, off + j * 3 + 1, none⟩ = some (.int .i64 (sat L j).t) ∧ w'.cell? ⟨b, off + j * 3 + 2, none⟩ = some (.int .i64 (sat L j).z) := by
  obtain ⟨A', cap', hv, _, _, hc⟩ := h.shape
  obtain ⟨b, off, hA, hlt, _⟩ := hc (by intro he; have := congrArg List.length he; simp at this; subst this; simp at hi)
  simp only [Value.slice.injEq] at hv
  obtain ⟨rfl, _, _⟩ := hv
  subst hA
  refine ⟨b, off, rfl, hlt, fun w' hs j hj => ?_⟩
  have hh := h.later hs
  rw [sat_get hj]
  exact ⟨hh.at_ (row_of_snt hj) (j := 0) rfl, by rw [Nat.add_assoc]; exact hh.at_ (row_of_snt hj) (j := 1) rfl, by rw [Nat.add_assoc]; exact hh.at_ (row_of_snt hj) (j := 2) rfl⟩
theorem Rd.cap_le {w : World} {k n cap : Nat} {A : Option Addr} {es : List (List Value)} (h : Rd w k (.slice A n cap) es) : es.length = n ∧ n ≤ 9223372036854775807 := by
  obtain ⟨A', cap', hv, h1, h2, _⟩ := h.shape
  simp only [Value.slice.injEq] at hv
  obtain ⟨_, rfl, _⟩ := hv
  unfold maxLen at h2
  exact ⟨rfl, by omega⟩

set_option maxHeartbeats 3200000 in
set_option maxRecDepth 100000 in
theorem scheck (A : Option Addr) (n cap : Nat) (L : List Snt) (w : World) (hn : L.length = n) (h : Rd w 3 (.slice A n cap) (L.map sntRow)) :
    Calls Tryd.prog 31 #[.slice A n cap] w fun e w' => e = .returned (errV (sntE L)) ∧ Below w.heap.size w w' := by
  have H := Lib.hid h
  have HN := Lib.hid hn
  have hcm := h.cap_le.2
  clear h hn
  by_cases h12 : 30 < n
  · have E : Hid (sntE L = 4) := Lib.hid (by unfold sntE; rw [HN.out, if_pos h12])
    have h12' : (30 : Int) < (n : Int) := by omega
    go_enter Tryd.func31, Tryd.ntmps31
    go_wp2
    go_ret
    exact ⟨by rw [E.out]; rfl, (by refine Since.out ?_; repeat (first | with_reducible assumption | with_reducible exact Since.refl _ | with_reducible refine Since.later ?_ (by with_reducible assumption) | with_reducible refine Since.only ?_ (by with_reducible assumption) (by first | assumption | omega | (simp; done) | (simp; omega)) | with_reducible refine Since.alloc ?_ _ | with_reducible refine Since.drewN ?_ _ | with_reducible refine Since.drew ?_ | with_reducible refine Since.set ?_ (by first | assumption | omega | (simp; done) | (simp; omega)) _))⟩
  have EU : Hid (sntE L = sntUp L n) := Lib.hid (by unfold sntE; rw [HN.out, if_neg h12])
  have h12' : decide ((30 : Int) < (n : Int)) = false := by simp; omega
  go_enter Tryd.func31, Tryd.ntmps31
  go_wp2_with fail
  go_loopw [3, 4, 11] (fun s3 s4 s11 wr => ∃ i : Nat, s11 = .int .i64 i ∧ i ≤ n ∧ Hid (sntUp L i = 0) ∧ Since w wr) (fun s3 s4 s11 _ => n - (intOf s11).toNat)
  case atStart => exact ⟨0, rfl, Nat.zero_le _, Lib.hid rfl, Since.refl _⟩
  case round =>
    obtain ⟨i, rfl, hi, HU, hs⟩ := hrel
    by_cases hlt : i < n
    case neg =>
      obtain rfl : i = n := by omega
      have hf : decide ((i : Int) < (i : Int)) = false := by simp
      go_wp2_with fail
      go_ret
      exact ⟨by rw [EU.out, HU.out]; rfl, (by refine Since.out ?_; repeat (first | with_reducible assumption | with_reducible exact Since.refl _ | with_reducible refine Since.later ?_ (by with_reducible assumption) | with_reducible refine Since.only ?_ (by with_reducible assumption) (by first | assumption | omega | (simp; done) | (simp; omega)) | with_reducible refine Since.alloc ?_ _ | with_reducible refine Since.drewN ?_ _ | with_reducible refine Since.drew ?_ | with_reducible refine Since.set ?_ (by first | assumption | omega | (simp; done) | (simp; omega)) _))⟩
    have hlt' : (i : Int) < (n : Int) := by omega
    obtain ⟨b, off, rfl, hbl, hc⟩ := H.out.snt (i := i) (by rw [HN.out]; exact hlt)
    obtain ⟨c0, c1, c2⟩ := hc wr hs i (by rw [HN.out]; exact hlt)
    have hpc : 0 < i → wr.cell? ⟨b, off + (i - 1) * 3, none⟩ = some (.int .i64 (sat L (i - 1)).n) ∧ wr.cell? ⟨b, off + (i - 1) * 3 + 1, none⟩ = some (.int .i64 (sat L (i - 1)).t) := fun h => ⟨(hc wr hs (i - 1) (by rw [HN.out]; omega)).1, (hc wr hs (i - 1) (by rw [HN.out]; omega)).2.1⟩
    have HO : Hid (∀ x, sntOne L i = x → x ≠ 0 → sntE L = x) := Lib.hid (fun x h hx => by rw [EU.out]; exact sntUp_bad HU.out h hx n hlt)
    have HK : Hid (sntOne L i = 0 → sntUp L (i + 1) = 0) := Lib.hid (sntUp_ok HU.out)
    have HD : Hid (sntOne L i = if mayB (sat L i).n = true ∧ 0 ≤ (sat L i).t ∧ (sat L i).t ≤ 100000 ∧ 1 ≤ (sat L i).z ∧ (sat L i).z ≤ 200 then (if 0 < i ∧ ((sat L i).n ≤ (sat L (i - 1)).n ∨ (sat L i).t < (sat L (i - 1)).t) then 3 else 0) else 1) := Lib.hid rfl
    generalize (sat L i).n = sn at *
    generalize (sat L i).t = st at *
    generalize (sat L i).z = sz at *
    generalize (sat L (i - 1)).n = pn at *
    generalize (sat L (i - 1)).t = pt at *
    have lb : b < wr.heap.size := Nat.lt_of_lt_of_le hbl hs.le
    clear hc
    cases hm1 : mayB sn with
    | false =>
      have E := Lib.hid (HO.out 1 (by rw [HD.out, if_neg (by rw [hm1]; simp)]) (by decide))
      have HM1 := Lib.hid hm1
      clear hm1 hpc
      go_wp2_with (go_at_call 51; refine (may_any _ _).mono ?_; rintro e w' ⟨rfl, rfl⟩; rw [HM1.out])
      go_ret
      exact ⟨by rw [E.out]; rfl, (by refine Since.out ?_; repeat (first | with_reducible assumption | with_reducible exact Since.refl _ | with_reducible refine Since.later ?_ (by with_reducible assumption) | with_reducible refine Since.only ?_ (by with_reducible assumption) (by first | assumption | omega | (simp; done) | (simp; omega)) | with_reducible refine Since.alloc ?_ _ | with_reducible refine Since.drewN ?_ _ | with_reducible refine Since.drew ?_ | with_reducible refine Since.set ?_ (by first | assumption | omega | (simp; done) | (simp; omega)) _))⟩
    | true =>
    by_cases h2 : 0 ≤ st
    case neg =>
      have h2' : decide (st < 0) = true := by simp; omega
      have E := Lib.hid (HO.out 1 (by rw [HD.out, if_neg (by omega)]) (by decide))
      have HM1 := Lib.hid hm1
      clear hm1 hpc
      go_wp2_with (go_at_call 51; refine (may_any _ _).mono ?_; rintro e w' ⟨rfl, rfl⟩; rw [HM1.out])
      go_ret
      exact ⟨by rw [E.out]; rfl, (by refine Since.out ?_; repeat (first | with_reducible assumption | with_reducible exact Since.refl _ | with_reducible refine Since.later ?_ (by with_reducible assumption) | with_reducible refine Since.only ?_ (by with_reducible assumption) (by first | assumption | omega | (simp; done) | (simp; omega)) | with_reducible refine Since.alloc ?_ _ | with_reducible refine Since.drewN ?_ _ | with_reducible refine Since.drew ?_ | with_reducible refine Since.set ?_ (by first | assumption | omega | (simp; done) | (simp; omega)) _))⟩
    have h2' : decide (st < 0) = false := by simp; omega
    by_cases h3 : st ≤ 100000
    case neg =>
      have h3' : decide (100000 < st) = true := by simp; omega
      have E := Lib.hid (HO.out 1 (by rw [HD.out, if_neg (by omega)]) (by decide))
      have HM1 := Lib.hid hm1
      clear hm1 hpc
      go_wp2_with (go_at_call 51; refine (may_any _ _).mono ?_; rintro e w' ⟨rfl, rfl⟩; rw [HM1.out])
      go_ret
      exact ⟨by rw [E.out]; rfl, (by refine Since.out ?_; repeat (first | with_reducible assumption | with_reducible exact Since.refl _ | with_reducible refine Since.later ?_ (by with_reducible assumption) | with_reducible refine Since.only ?_ (by with_reducible assumption) (by first | assumption | omega | (simp; done) | (simp; omega)) | with_reducible refine Since.alloc ?_ _ | with_reducible refine Since.drewN ?_ _ | with_reducible refine Since.drew ?_ | with_reducible refine Since.set ?_ (by first | assumption | omega | (simp; done) | (simp; omega)) _))⟩
    have h3' : decide (100000 < st) = false := by simp; omega
    by_cases h4 : 1 ≤ sz
    case neg =>
      have h4' : decide (sz < 1) = true := by simp; omega
      have E := Lib.hid (HO.out 1 (by rw [HD.out, if_neg (by omega)]) (by decide))
      have HM1 := Lib.hid hm1
      clear hm1 hpc
      go_wp2_with (go_at_call 51; refine (may_any _ _).mono ?_; rintro e w' ⟨rfl, rfl⟩; rw [HM1.out])
      go_ret
      exact ⟨by rw [E.out]; rfl, (by refine Since.out ?_; repeat (first | with_reducible assumption | with_reducible exact Since.refl _ | with_reducible refine Since.later ?_ (by with_reducible assumption) | with_reducible refine Since.only ?_ (by with_reducible assumption) (by first | assumption | omega | (simp; done) | (simp; omega)) | with_reducible refine Since.alloc ?_ _ | with_reducible refine Since.drewN ?_ _ | with_reducible refine Since.drew ?_ | with_reducible refine Since.set ?_ (by first | assumption | omega | (simp; done) | (simp; omega)) _))⟩
    have h4' : decide (sz < 1) = false := by simp; omega
    by_cases h5 : sz ≤ 200
    case neg =>
      have h5' : decide (200 < sz) = true := by simp; omega
      have E := Lib.hid (HO.out 1 (by rw [HD.out, if_neg (by omega)]) (by decide))
      have HM1 := Lib.hid hm1
      clear hm1 hpc
      go_wp2_with (go_at_call 51; refine (may_any _ _).mono ?_; rintro e w' ⟨rfl, rfl⟩; rw [HM1.out])
      go_ret
      exact ⟨by rw [E.out]; rfl, (by refine Since.out ?_; repeat (first | with_reducible assumption | with_reducible exact Since.refl _ | with_reducible refine Since.later ?_ (by with_reducible assumption) | with_reducible refine Since.only ?_ (by with_reducible assumption) (by first | assumption | omega | (simp; done) | (simp; omega)) | with_reducible refine Since.alloc ?_ _ | with_reducible refine Since.drewN ?_ _ | with_reducible refine Since.drew ?_ | with_reducible refine Since.set ?_ (by first | assumption | omega | (simp; done) | (simp; omega)) _))⟩
    have h5' : decide (200 < sz) = false := by simp; omega
    have HD2 : Hid (sntOne L i = if 0 < i ∧ (sn ≤ pn ∨ st < pt) then 3 else 0) := Lib.hid (by rw [HD.out, if_pos ⟨hm1, h2, h3, h4, h5⟩])
    have hmm := (mayB_iff.1 hm1)
    have HM1 := Lib.hid hm1
    unfold MayBe at hmm
    obtain ⟨m1, m2⟩ := hmm
    clear hm1 HD h2 h3 h4 h5
    by_cases hi0 : i = 0
    · subst hi0
      have K := Lib.hid (HK.out (by rw [HD2.out, if_neg (by omega)]))
      have c0' : wr.cell? ⟨b, off, none⟩ = some (.int .i64 sn) := by simpa using c0
      have c1' : wr.cell? ⟨b, off + 1, none⟩ = some (.int .i64 st) := by simpa using c1
      have c2' : wr.cell? ⟨b, off + 2, none⟩ = some (.int .i64 sz) := by simpa using c2
      clear hpc c0 c1 c2
      go_wp2_with (go_at_call 51; refine (may_any _ _).mono ?_; rintro e w' ⟨rfl, rfl⟩; rw [HM1.out])
      go_quiet (fail)
      go_wp2_with fail
      go_roundw
      case rel => exact ⟨0 + 1, by go_num, by omega, K, (by refine Since.out ?_; repeat (first | with_reducible assumption | with_reducible exact Since.refl _ | with_reducible refine Since.later ?_ (by with_reducible assumption) | with_reducible refine Since.only ?_ (by with_reducible assumption) (by first | assumption | omega | (simp; done) | (simp; omega)) | with_reducible refine Since.alloc ?_ _ | with_reducible refine Since.drewN ?_ _ | with_reducible refine Since.drew ?_ | with_reducible refine Since.set ?_ (by first | assumption | omega | (simp; done) | (simp; omega)) _))⟩
      case measure => simp [intOf]; omega
    have hip : 0 < i := by omega
    obtain ⟨p0, p1⟩ := hpc hip
    have hi1 : (0 : Int) < (i : Int) := by omega
    have hi2' : (i : Int) - 1 = ((i - 1 : Nat) : Int) := by omega
    have hi3 : ((i - 1 : Nat) : Int) < (n : Int) := by omega
    clear hpc
    by_cases hp : sn ≤ pn
    · have E := Lib.hid (HO.out 3 (by rw [HD2.out, if_pos ⟨hip, Or.inl hp⟩]) (by decide))
      go_wp2_with (go_at_call 51; refine (may_any _ _).mono ?_; rintro e w' ⟨rfl, rfl⟩; rw [HM1.out])
      go_quiet (fail)
      go_wp2_with fail
      go_ret
      exact ⟨by rw [E.out]; rfl, (by refine Since.out ?_; repeat (first | with_reducible assumption | with_reducible exact Since.refl _ | with_reducible refine Since.later ?_ (by with_reducible assumption) | with_reducible refine Since.only ?_ (by with_reducible assumption) (by first | assumption | omega | (simp; done) | (simp; omega)) | with_reducible refine Since.alloc ?_ _ | with_reducible refine Since.drewN ?_ _ | with_reducible refine Since.drew ?_ | with_reducible refine Since.set ?_ (by first | assumption | omega | (simp; done) | (simp; omega)) _))⟩
    have hp' : decide (sn ≤ pn) = false := by simpa using hp
    by_cases ht : st < pt
    · have E := Lib.hid (HO.out 3 (by rw [HD2.out, if_pos ⟨hip, Or.inr ht⟩]) (by decide))
      clear hp
      go_wp2_with (go_at_call 51; refine (may_any _ _).mono ?_; rintro e w' ⟨rfl, rfl⟩; rw [HM1.out])
      go_quiet (fail)
      go_wp2_with fail
      go_ret
      exact ⟨by rw [E.out]; rfl, (by refine Since.out ?_; repeat (first | with_reducible assumption | with_reducible exact Since.refl _ | with_reducible refine Since.later ?_ (by with_reducible assumption) | with_reducible refine Since.only ?_ (by with_reducible assumption) (by first | assumption | omega | (simp; done) | (simp; omega)) | with_reducible refine Since.alloc ?_ _ | with_reducible refine Since.drewN ?_ _ | with_reducible refine Since.drew ?_ | with_reducible refine Since.set ?_ (by first | assumption | omega | (simp; done) | (simp; omega)) _))⟩
    · have ht' : decide (st < pt) = false := by simpa using ht
      have K := Lib.hid (HK.out (by rw [HD2.out, if_neg (by omega)]))
      clear hp ht
      go_wp2_with (go_at_call 51; refine (may_any _ _).mono ?_; rintro e w' ⟨rfl, rfl⟩; rw [HM1.out])
      go_quiet (fail)
      go_wp2_with fail
      go_roundw
      case rel => exact ⟨i + 1, by go_num, by omega, K, (by refine Since.out ?_; repeat (first | with_reducible assumption | with_reducible exact Since.refl _ | with_reducible refine Since.later ?_ (by with_reducible assumption) | with_reducible refine Since.only ?_ (by with_reducible assumption) (by first | assumption | omega | (simp; done) | (simp; omega)) | with_reducible refine Since.alloc ?_ _ | with_reducible refine Since.drewN ?_ _ | with_reducible refine Since.drew ?_ | with_reducible refine Since.set ?_ (by first | assumption | omega | (simp; done) | (simp; omega)) _))⟩
      case measure => simp [intOf]; omega

set_option maxHeartbeats 3200000 in
set_option maxRecDepth 100000 in
theorem scheckR (A : Option Addr) (n cap : Nat) (L : List Snt) (w : World) (hn : L.length = n) (h : Rd w 3 (.slice A n cap) (L.map sntRow)) :
    Calls Tryd.prog 30 #[.slice A n cap] w fun e w' => e = .returned (.int .i64 (sntE L)) ∧ Below w.heap.size w w' := by
  have H := Lib.hid h
  have HN := Lib.hid hn
  have hcm := h.cap_le.2
  clear h hn
  by_cases h12 : 30 < n
  · have E : Hid (sntE L = 4) := Lib.hid (by unfold sntE; rw [HN.out, if_pos h12])
    have h12' : (30 : Int) < (n : Int) := by omega
    go_enter Tryd.func30, Tryd.ntmps30
    go_wp2
    go_ret
    exact ⟨by rw [E.out]; rfl, (by refine Since.out ?_; repeat (first | with_reducible assumption | with_reducible exact Since.refl _ | with_reducible refine Since.later ?_ (by with_reducible assumption) | with_reducible refine Since.only ?_ (by with_reducible assumption) (by first | assumption | omega | (simp; done) | (simp; omega)) | with_reducible refine Since.alloc ?_ _ | with_reducible refine Since.drewN ?_ _ | with_reducible refine Since.drew ?_ | with_reducible refine Since.set ?_ (by first | assumption | omega | (simp; done) | (simp; omega)) _))⟩
  have EU : Hid (sntE L = sntUp L n) := Lib.hid (by unfold sntE; rw [HN.out, if_neg h12])
  have h12' : decide ((30 : Int) < (n : Int)) = false := by simp; omega
  go_enter Tryd.func30, Tryd.ntmps30
  go_wp2_with fail
  go_loopw [3, 4, 5] (fun s3 s4 s5 wr => ∃ i : Nat, s3 = .int .i64 i ∧ i ≤ n ∧ Hid (sntUp L i = 0) ∧ Since w wr) (fun s3 s4 s5 _ => n - (intOf s3).toNat)
  case atStart => exact ⟨0, rfl, Nat.zero_le _, Lib.hid rfl, Since.refl _⟩
  case round =>
    obtain ⟨i, rfl, hi, HU, hs⟩ := hrel
    by_cases hlt : i < n
    case neg =>
      obtain rfl : i = n := by omega
      have hf : decide ((i : Int) < (i : Int)) = false := by simp
      go_wp2_with fail
      go_ret
      exact ⟨by rw [EU.out, HU.out]; rfl, (by refine Since.out ?_; repeat (first | with_reducible assumption | with_reducible exact Since.refl _ | with_reducible refine Since.later ?_ (by with_reducible assumption) | with_reducible refine Since.only ?_ (by with_reducible assumption) (by first | assumption | omega | (simp; done) | (simp; omega)) | with_reducible refine Since.alloc ?_ _ | with_reducible refine Since.drewN ?_ _ | with_reducible refine Since.drew ?_ | with_reducible refine Since.set ?_ (by first | assumption | omega | (simp; done) | (simp; omega)) _))⟩
    have hlt' : (i : Int) < (n : Int) := by omega
    obtain ⟨b, off, rfl, hbl, hc⟩ := H.out.snt (i := i) (by rw [HN.out]; exact hlt)
    obtain ⟨c0, c1, c2⟩ := hc wr hs i (by rw [HN.out]; exact hlt)
    have hpc : 0 < i → wr.cell? ⟨b, off + (i - 1) * 3, none⟩ = some (.int .i64 (sat L (i - 1)).n) ∧ wr.cell? ⟨b, off + (i - 1) * 3 + 1, none⟩ = some (.int .i64 (sat L (i - 1)).t) := fun h => ⟨(hc wr hs (i - 1) (by rw [HN.out]; omega)).1, (hc wr hs (i - 1) (by rw [HN.out]; omega)).2.1⟩
    have HO : Hid (∀ x, sntOne L i = x → x ≠ 0 → sntE L = x) := Lib.hid (fun x h hx => by rw [EU.out]; exact sntUp_bad HU.out h hx n hlt)
    have HK : Hid (sntOne L i = 0 → sntUp L (i + 1) = 0) := Lib.hid (sntUp_ok HU.out)
    have HD : Hid (sntOne L i = if mayB (sat L i).n = true ∧ 0 ≤ (sat L i).t ∧ (sat L i).t ≤ 100000 ∧ 1 ≤ (sat L i).z ∧ (sat L i).z ≤ 200 then (if 0 < i ∧ ((sat L i).n ≤ (sat L (i - 1)).n ∨ (sat L i).t < (sat L (i - 1)).t) then 3 else 0) else 1) := Lib.hid rfl
    generalize (sat L i).n = sn at *
    generalize (sat L i).t = st at *
    generalize (sat L i).z = sz at *
    generalize (sat L (i - 1)).n = pn at *
    generalize (sat L (i - 1)).t = pt at *
    have lb : b < wr.heap.size := Nat.lt_of_lt_of_le hbl hs.le
    clear hc
    cases hm1 : mayB sn with
    | false =>
      have E := Lib.hid (HO.out 1 (by rw [HD.out, if_neg (by rw [hm1]; simp)]) (by decide))
      have HM1 := Lib.hid hm1
      clear hm1 hpc
      go_wp2_with (go_at_call 40; refine (rmay_any _ _).mono ?_; rintro e w' ⟨rfl, rfl⟩; rw [HM1.out])
      go_ret
      exact ⟨by rw [E.out]; rfl, (by refine Since.out ?_; repeat (first | with_reducible assumption | with_reducible exact Since.refl _ | with_reducible refine Since.later ?_ (by with_reducible assumption) | with_reducible refine Since.only ?_ (by with_reducible assumption) (by first | assumption | omega | (simp; done) | (simp; omega)) | with_reducible refine Since.alloc ?_ _ | with_reducible refine Since.drewN ?_ _ | with_reducible refine Since.drew ?_ | with_reducible refine Since.set ?_ (by first | assumption | omega | (simp; done) | (simp; omega)) _))⟩
    | true =>
    by_cases h2 : 0 ≤ st
    case neg =>
      have h2' : decide (st < 0) = true := by simp; omega
      have E := Lib.hid (HO.out 1 (by rw [HD.out, if_neg (by omega)]) (by decide))
      have HM1 := Lib.hid hm1
      clear hm1 hpc
      go_wp2_with (go_at_call 40; refine (rmay_any _ _).mono ?_; rintro e w' ⟨rfl, rfl⟩; rw [HM1.out])
      go_ret
      exact ⟨by rw [E.out]; rfl, (by refine Since.out ?_; repeat (first | with_reducible assumption | with_reducible exact Since.refl _ | with_reducible refine Since.later ?_ (by with_reducible assumption) | with_reducible refine Since.only ?_ (by with_reducible assumption) (by first | assumption | omega | (simp; done) | (simp; omega)) | with_reducible refine Since.alloc ?_ _ | with_reducible refine Since.drewN ?_ _ | with_reducible refine Since.drew ?_ | with_reducible refine Since.set ?_ (by first | assumption | omega | (simp; done) | (simp; omega)) _))⟩
    have h2' : decide (st < 0) = false := by simp; omega
    by_cases h3 : st ≤ 100000
    case neg =>
      have h3' : decide (100000 < st) = true := by simp; omega
      have E := Lib.hid (HO.out 1 (by rw [HD.out, if_neg (by omega)]) (by decide))
      have HM1 := Lib.hid hm1
      clear hm1 hpc
      go_wp2_with (go_at_call 40; refine (rmay_any _ _).mono ?_; rintro e w' ⟨rfl, rfl⟩; rw [HM1.out])
      go_ret
      exact ⟨by rw [E.out]; rfl, (by refine Since.out ?_; repeat (first | with_reducible assumption | with_reducible exact Since.refl _ | with_reducible refine Since.later ?_ (by with_reducible assumption) | with_reducible refine Since.only ?_ (by with_reducible assumption) (by first | assumption | omega | (simp; done) | (simp; omega)) | with_reducible refine Since.alloc ?_ _ | with_reducible refine Since.drewN ?_ _ | with_reducible refine Since.drew ?_ | with_reducible refine Since.set ?_ (by first | assumption | omega | (simp; done) | (simp; omega)) _))⟩
    have h3' : decide (100000 < st) = false := by simp; omega
    by_cases h4 : 1 ≤ sz
    case neg =>
      have h4' : decide (sz < 1) = true := by simp; omega
      have E := Lib.hid (HO.out 1 (by rw [HD.out, if_neg (by omega)]) (by decide))
      have HM1 := Lib.hid hm1
      clear hm1 hpc
      go_wp2_with (go_at_call 40; refine (rmay_any _ _).mono ?_; rintro e w' ⟨rfl, rfl⟩; rw [HM1.out])
      go_ret
      exact ⟨by rw [E.out]; rfl, (by refine Since.out ?_; repeat (first | with_reducible assumption | with_reducible exact Since.refl _ | with_reducible refine Since.later ?_ (by with_reducible assumption) | with_reducible refine Since.only ?_ (by with_reducible assumption) (by first | assumption | omega | (simp; done) | (simp; omega)) | with_reducible refine Since.alloc ?_ _ | with_reducible refine Since.drewN ?_ _ | with_reducible refine Since.drew ?_ | with_reducible refine Since.set ?_ (by first | assumption | omega | (simp; done) | (simp; omega)) _))⟩
    have h4' : decide (sz < 1) = false := by simp; omega
    by_cases h5 : sz ≤ 200
    case neg =>
      have h5' : decide (200 < sz) = true := by simp; omega
      have E := Lib.hid (HO.out 1 (by rw [HD.out, if_neg (by omega)]) (by decide))
      have HM1 := Lib.hid hm1
      clear hm1 hpc
      go_wp2_with (go_at_call 40; refine (rmay_any _ _).mono ?_; rintro e w' ⟨rfl, rfl⟩; rw [HM1.out])
      go_ret
      exact ⟨by rw [E.out]; rfl, (by refine Since.out ?_; repeat (first | with_reducible assumption | with_reducible exact Since.refl _ | with_reducible refine Since.later ?_ (by with_reducible assumption) | with_reducible refine Since.only ?_ (by with_reducible assumption) (by first | assumption | omega | (simp; done) | (simp; omega)) | with_reducible refine Since.alloc ?_ _ | with_reducible refine Since.drewN ?_ _ | with_reducible refine Since.drew ?_ | with_reducible refine Since.set ?_ (by first | assumption | omega | (simp; done) | (simp; omega)) _))⟩
    have h5' : decide (200 < sz) = false := by simp; omega
    have HD2 : Hid (sntOne L i = if 0 < i ∧ (sn ≤ pn ∨ st < pt) then 3 else 0) := Lib.hid (by rw [HD.out, if_pos ⟨hm1, h2, h3, h4, h5⟩])
    have hmm := (mayB_iff.1 hm1)
    have HM1 := Lib.hid hm1
    unfold MayBe at hmm
    obtain ⟨m1, m2⟩ := hmm
    clear hm1 HD h2 h3 h4 h5
    by_cases hi0 : i = 0
    · subst hi0
      have K := Lib.hid (HK.out (by rw [HD2.out, if_neg (by omega)]))
      have c0' : wr.cell? ⟨b, off, none⟩ = some (.int .i64 sn) := by simpa using c0
      have c1' : wr.cell? ⟨b, off + 1, none⟩ = some (.int .i64 st) := by simpa using c1
      have c2' : wr.cell? ⟨b, off + 2, none⟩ = some (.int .i64 sz) := by simpa using c2
      clear hpc c0 c1 c2
      go_wp2_with (go_at_call 40; refine (rmay_any _ _).mono ?_; rintro e w' ⟨rfl, rfl⟩; rw [HM1.out])
      go_quiet (fail)
      go_wp2_with fail
      go_roundw
      case rel => exact ⟨0 + 1, by go_num, by omega, K, (by refine Since.out ?_; repeat (first | with_reducible assumption | with_reducible exact Since.refl _ | with_reducible refine Since.later ?_ (by with_reducible assumption) | with_reducible refine Since.only ?_ (by with_reducible assumption) (by first | assumption | omega | (simp; done) | (simp; omega)) | with_reducible refine Since.alloc ?_ _ | with_reducible refine Since.drewN ?_ _ | with_reducible refine Since.drew ?_ | with_reducible refine Since.set ?_ (by first | assumption | omega | (simp; done) | (simp; omega)) _))⟩
      case measure => simp [intOf]; omega
    have hip : 0 < i := by omega
    obtain ⟨p0, p1⟩ := hpc hip
    have hi1 : (0 : Int) < (i : Int) := by omega
    have hi2' : (i : Int) - 1 = ((i - 1 : Nat) : Int) := by omega
    have hi3 : ((i - 1 : Nat) : Int) < (n : Int) := by omega
    clear hpc
    by_cases hp : sn ≤ pn
    · have E := Lib.hid (HO.out 3 (by rw [HD2.out, if_pos ⟨hip, Or.inl hp⟩]) (by decide))
      go_wp2_with (go_at_call 40; refine (rmay_any _ _).mono ?_; rintro e w' ⟨rfl, rfl⟩; rw [HM1.out])
      go_quiet (fail)
      go_wp2_with fail
      go_ret
      exact ⟨by rw [E.out]; rfl, (by refine Since.out ?_; repeat (first | with_reducible assumption | with_reducible exact Since.refl _ | with_reducible refine Since.later ?_ (by with_reducible assumption) | with_reducible refine Since.only ?_ (by with_reducible assumption) (by first | assumption | omega | (simp; done) | (simp; omega)) | with_reducible refine Since.alloc ?_ _ | with_reducible refine Since.drewN ?_ _ | with_reducible refine Since.drew ?_ | with_reducible refine Since.set ?_ (by first | assumption | omega | (simp; done) | (simp; omega)) _))⟩
    have hp' : decide (sn ≤ pn) = false := by simpa using hp
    by_cases ht : st < pt
    · have E := Lib.hid (HO.out 3 (by rw [HD2.out, if_pos ⟨hip, Or.inr ht⟩]) (by decide))
      clear hp
      go_wp2_with (go_at_call 40; refine (rmay_any _ _).mono ?_; rintro e w' ⟨rfl, rfl⟩; rw [HM1.out])
      go_quiet (fail)
      go_wp2_with fail
      go_ret
      exact ⟨by rw [E.out]; rfl, (by refine Since.out ?_; repeat (first | with_reducible assumption | with_reducible exact Since.refl _ | with_reducible refine Since.later ?_ (by with_reducible assumption) | with_reducible refine Since.only ?_ (by with_reducible assumption) (by first | assumption | omega | (simp; done) | (simp; omega)) | with_reducible refine Since.alloc ?_ _ | with_reducible refine Since.drewN ?_ _ | with_reducible refine Since.drew ?_ | with_reducible refine Since.set ?_ (by first | assumption | omega | (simp; done) | (simp; omega)) _))⟩
    · have ht' : decide (st < pt) = false := by simpa using ht
      have K := Lib.hid (HK.out (by rw [HD2.out, if_neg (by omega)]))
      clear hp ht
      go_wp2_with (go_at_call 40; refine (rmay_any _ _).mono ?_; rintro e w' ⟨rfl, rfl⟩; rw [HM1.out])
      go_quiet (fail)
      go_wp2_with fail
      go_roundw
      case rel => exact ⟨i + 1, by go_num, by omega, K, (by refine Since.out ?_; repeat (first | with_reducible assumption | with_reducible exact Since.refl _ | with_reducible refine Since.later ?_ (by with_reducible assumption) | with_reducible refine Since.only ?_ (by with_reducible assumption) (by first | assumption | omega | (simp; done) | (simp; omega)) | with_reducible refine Since.alloc ?_ _ | with_reducible refine Since.drewN ?_ _ | with_reducible refine Since.drew ?_ | with_reducible refine Since.set ?_ (by first | assumption | omega | (simp; done) | (simp; omega)) _))⟩
      case measure => simp [intOf]; omega

def bothE (L : List Snt) (M : List Rng) : Int := if sntE L = 0 then rngE M else sntE L
theorem sboth (A A2 : Option Addr) (n cap n2 cap2 : Nat) (L : List Snt) (M : List Rng) (w : World) (hn : L.length = n) (h : Rd w 3 (.slice A n cap) (L.map sntRow)) (hn2 : M.length = n2) (hb : ∀ r ∈ M, okI r.lo ∧ okI r.hi) (h2 : Rd w 2 (.slice A2 n2 cap2) (M.map rngRow)) :
    Calls Tryd.prog 52 #[.slice A n cap, .slice A2 n2 cap2] w fun e w' => e = .returned (errV (bothE L M)) ∧ Below w.heap.size w w' := by
  have H := Lib.hid h
  have H2 := Lib.hid h2
  have HB := Lib.hid hb
  clear h h2 hb
  go_enter Tryd.func52, Tryd.ntmps52
  go_wp2_with fail
  refine (scheck A n cap L _ hn H.out).mono ?_
  rintro e w1 ⟨rfl, hb1⟩
  by_cases he : sntE L = 0
  · have E : Hid (bothE L M = rngE M) := Lib.hid (by unfold bothE; rw [if_pos he])
    rw [he, errV_zero]
    clear he
    go_wp2_with fail
    refine (rcheck A2 n2 cap2 M _ hn2 HB.out (H2.out.later hb1)).mono ?_
    rintro e w2 ⟨rfl, hb2⟩
    go_wp2_with fail
    go_ret
    exact ⟨by rw [E.out]; rfl, (by refine Since.out ?_; repeat (first | with_reducible assumption | with_reducible exact Since.refl _ | with_reducible refine Since.later ?_ (by with_reducible assumption) | with_reducible refine Since.only ?_ (by with_reducible assumption) (by first | assumption | omega | (simp; done) | (simp; omega)) | with_reducible refine Since.alloc ?_ _ | with_reducible refine Since.drewN ?_ _ | with_reducible refine Since.drew ?_ | with_reducible refine Since.set ?_ (by first | assumption | omega | (simp; done) | (simp; omega)) _))⟩
  · have E : Hid (bothE L M = sntE L) := Lib.hid (by unfold bothE; rw [if_neg he])
    rw [errV_pos he]
    have HE := Lib.hid (errV_pos he)
    clear he
    go_wp2_with fail
    go_ret
    exact ⟨by rw [E.out, HE.out]; rfl, (by refine Since.out ?_; repeat (first | with_reducible assumption | with_reducible exact Since.refl _ | with_reducible refine Since.later ?_ (by with_reducible assumption) | with_reducible refine Since.only ?_ (by with_reducible assumption) (by first | assumption | omega | (simp; done) | (simp; omega)) | with_reducible refine Since.alloc ?_ _ | with_reducible refine Since.drewN ?_ _ | with_reducible refine Since.drew ?_ | with_reducible refine Since.set ?_ (by first | assumption | omega | (simp; done) | (simp; omega)) _))⟩
theorem time_b (x : Int) (w : World) : Calls Tryd.prog 54 #[.int .i64 x] w fun e w' => e = .returned (.bool (decide (1 ≤ x) && decide (x ≤ 100000))) ∧ w = w' := by
  by_cases h1 : 1 ≤ x
  · have h1' : decide (1 ≤ x) = true := by simpa using h1
    rw [h1', Bool.true_and]
    clear h1'
    go_enter Tryd.func54, Tryd.ntmps54
    go_wp2
    go_ret
    exact ⟨rfl, rfl⟩
  · have h1' : decide (1 ≤ x) = false := by simpa using h1
    rw [h1', Bool.false_and]
    go_enter Tryd.func54, Tryd.ntmps54
    go_wp2
    go_ret
    exact ⟨rfl, rfl⟩
end Go.Proofs.YtbmfknnbpnllkaaDoor
