/- Contracts and plain laws that the claim leans on, part 1 of 1: each part has its own word. No condition beside theirs. -/
import Derived.Test.YtaindcicloapfaaGreatDoorZF
import Derived.Laws.IdiomCopy
import Derived.Deep.RegionLaw
import Derived.Lib.SliceRun
import Derived.OwnWalk
import Derived.WalkSpells
import Derived.Shelf.Spec.SlicesGrow
/-! Packets that were sent: what is wrong with some, how many bytes they are: plain words, and contracts of loss.Check, loss.both, loss.Way, trip.Time, and of the reference's Sent. Condition: the slices can be read. -/
namespace Go.Proofs.YtaindcicloapfaaGreatDoor
open Go.ChangeShapes Go.WideShapes Go.ChangeAt Go.RowKit
set_option linter.unusedVariables false

def sat (L : List Snt) (i : Nat) : Snt := L.getD i ⟨0, 0, 0⟩
theorem sat_get {L : List Snt} {i : Nat} (h : i < L.length) : sat L i = L[i] := by unfold sat; simp [List.getD, List.getElem?_eq_getElem h]
/-- what is wrong with the i-th -/
def sntOne (L : List Snt) (i : Nat) : Int := if mayB (sat L i).n = true ∧ 0 ≤ (sat L i).t ∧ (sat L i).t ≤ 100000 ∧ 1 ≤ (sat L i).z ∧ (sat L i).z ≤ 200 then (if 0 < i ∧ ((sat L i).n ≤ (sat L (i - 1)).n ∨ (sat L i).t < (sat L (i - 1)).t) then 3 else 0) else 1
/-- what is wrong with the first n -/
def sntUp (L : List Snt) : Nat → Int
  | 0 => 0
  | n + 1 => if sntUp L n = 0 then sntOne L n else sntUp L n
def sntE (L : List Snt) : Int := if 30 < L.length then 4 else sntUp L L.length
theorem sntUp_bad {L : List Snt} {i : Nat} {x : Int} (h0 : sntUp L i = 0) (h : sntOne L i = x) (hx : x ≠ 0) : ∀ n, i < n → sntUp L n = x := by
  intro n
  induction n with
  | zero => intro h; omega
  | succ n ih =>
    intro hn
    unfold sntUp
    by_cases he : i = n
    · subst he; rw [if_pos h0]; exact h
    · rw [ih (by omega), if_neg hx]
theorem sntUp_ok {L : List Snt} {i : Nat} (h0 : sntUp L i = 0) (h : sntOne L i = 0) : sntUp L (i + 1) = 0 := by
  rw [sntUp, if_pos h0]; exact h
theorem sntUp_all {L : List Snt} : ∀ {n : Nat}, sntUp L n = 0 → ∀ i, i < n → sntOne L i = 0
  | 0, _, i, hi => by omega
  | n + 1, h, i, hi => by
    unfold sntUp at h
    by_cases h0 : sntUp L n = 0
    · rw [if_pos h0] at h
      rcases Nat.lt_succ_iff_lt_or_eq.1 hi with h1 | h1
      · exact sntUp_all h0 i h1
      · rw [h1]; exact h
    · rw [if_neg h0] at h; exact absurd h h0
theorem Rd.snt {w : World} {A : Option Addr} {n cap : Nat} {L : List Snt} (h : Rd w 3 (.slice A n cap) (L.map sntRow)) {i : Nat} (hi : i < L.length) : ∃ b off, A = some ⟨b, off, none⟩ ∧ b < w.heap.size ∧ ∀ w', Since w w' → ∀ j, j < L.length → w'.cell? ⟨b, off + j * 3, none⟩ = some (.int .i64 (sat L j).n) ∧ w'.cell? ⟨b, off + j * 3 + 1, none⟩ = some (.int .i64 (sat L j).t) ∧ w'.cell? ⟨b, off + j * 3 + 2, none⟩ = some (.int .i64 (sat L j).z) := by
  obtain ⟨A', cap', hv, _, _, hc⟩ := h.shape
  obtain ⟨b, off, hA, hlt, _⟩ := hc (by intro he; have := congrArg List.length he; simp at this; subst this; simp at hi)
  simp only [Value.slice.injEq] at hv
  obtain ⟨rfl, _, _⟩ := hv
  subst hA
  refine ⟨b, off, rfl, hlt, fun w' hs j hj => ?_⟩
  have hh := h.later hs
  rw [sat_get hj]
  exact ⟨hh.at_ (row_of_snt hj) (j := 0) rfl, by rw [Nat.add_assoc]; exact hh.at_ (row_of_snt hj) (j := 1) rfl, by rw [Nat.add_assoc]; exact hh.at_ (row_of_snt hj) (j := 2) rfl⟩
theorem Rd.cap_le {w : World} {k n cap : Nat} {A : Option Addr} {es : List (List Value)} (h : Rd w k (.slice A n cap) es) : es.length = n ∧ n ≤ 9223372036854775807 := by
  obtain ⟨A', cap', hv, h1, h2, _⟩ := h.shape
  simp only [Value.slice.injEq] at hv
  obtain ⟨_, rfl, _⟩ := hv
  unfold maxLen at h2
  exact ⟨rfl, by omega⟩

set_option maxHeartbeats 3200000 in
set_option maxRecDepth 100000 in
theorem scheck (A : Option Addr) (n cap : Nat) (L : List Snt) (w : World) (hn : L.length = n) (h : Rd w 3 (.slice A n cap) (L.map sntRow)) :
    Calls Tryz.prog 95 #[.slice A n cap] w fun e w' => e = .returned (errV (sntE L)) ∧ Below w.heap.size w w' := by
  have H := Lib.hid h
  have HN := Lib.hid hn
  have hcm := h.cap_le.2
  clear h hn
  by_cases h12 : 30 < n
  · have E : Hid (sntE L = 4) := Lib.hid (by unfold sntE; rw [HN.out, if_pos h12])
    have h12' : (30 : Int) < (n : Int) := by omega
    go_enter Tryz.func95, Tryz.ntmps95
    go_wp2
    go_ret
    exact ⟨by rw [E.out]; rfl, (by refine Since.out ?_; repeat (first | with_reducible assumption | with_reducible exact Since.refl _ | with_reducible refine Since.later ?_ (by with_reducible assumption) | with_reducible refine Since.only ?_ (by with_reducible assumption) (by first | assumption | omega | (simp; done) | (simp; omega)) | with_reducible refine Since.alloc ?_ _ | with_reducible refine Since.drewN ?_ _ | with_reducible refine Since.drew ?_ | with_reducible refine Since.set ?_ (by first | assumption | omega | (simp; done) | (simp; omega)) _))⟩
  have EU : Hid (sntE L = sntUp L n) := Lib.hid (by unfold sntE; rw [HN.out, if_neg h12])
  have h12' : decide ((30 : Int) < (n : Int)) = false := by simp; omega
  go_enter Tryz.func95, Tryz.ntmps95
  go_wp2_with fail
  go_loopw [3, 4, 11] (fun s3 s4 s11 wr => ∃ i : Nat, s11 = .int .i64 i ∧ i ≤ n ∧ Hid (sntUp L i = 0) ∧ Since w wr) (fun s3 s4 s11 _ => n - (intOf s11).toNat)
  case atStart => exact ⟨0, rfl, Nat.zero_le _, Lib.hid rfl, Since.refl _⟩
  case round =>
    obtain ⟨i, rfl, hi, HU, hs⟩ := hrel
    by_cases hlt : i < n
    case neg =>
      obtain rfl : i = n := by omega
      have hf : decide ((i : Int) < (i : Int)) = false := by simp
      go_wp2_with fail
      go_ret
      exact ⟨by rw [EU.out, HU.out]; rfl, (by refine Since.out ?_; repeat (first | with_reducible assumption | with_reducible exact Since.refl _ | with_reducible refine Since.later ?_ (by with_reducible assumption) | with_reducible refine Since.only ?_ (by with_reducible assumption) (by first | assumption | omega | (simp; done) | (simp; omega)) | with_reducible refine Since.alloc ?_ _ | with_reducible refine Since.drewN ?_ _ | with_reducible refine Since.drew ?_ | with_reducible refine Since.set ?_ (by first | assumption | omega | (simp; done) | (simp; omega)) _))⟩
    have hlt' : (i : Int) < (n : Int) := by omega
    obtain ⟨b, off, rfl, hbl, hc⟩ := H.out.snt (i := i) (by rw [HN.out]; exact hlt)
    obtain ⟨c0, c1, c2⟩ := hc wr hs i (by rw [HN.out]; exact hlt)
    have hpc : 0 < i → wr.cell? ⟨b, off + (i - 1) * 3, none⟩ = some (.int .i64 (sat L (i - 1)).n) ∧ wr.cell? ⟨b, off + (i - 1) * 3 + 1, none⟩ = some (.int .i64 (sat L (i - 1)).t) := fun h => ⟨(hc wr hs (i - 1) (by rw [HN.out]; omega)).1, (hc wr hs (i - 1) (by rw [HN.out]; omega)).2.1⟩
    have HO : Hid (∀ x, sntOne L i = x → x ≠ 0 → sntE L = x) := Lib.hid (fun x h hx => by rw [EU.out]; exact sntUp_bad HU.out h hx n hlt)
    have HK : Hid (sntOne L i = 0 → sntUp L (i + 1) = 0) := Lib.hid (sntUp_ok HU.out)
    have HD : Hid (sntOne L i = if mayB (sat L i).n = true ∧ 0 ≤ (sat L i).t ∧ (sat L i).t ≤ 100000 ∧ 1 ≤ (sat L i).z ∧ (sat L i).z ≤ 200 then (if 0 < i ∧ ((sat L i).n ≤ (sat L (i - 1)).n ∨ (sat L i).t < (sat L (i - 1)).t) then 3 else 0) else 1) := Lib.hid rfl
    generalize (sat L i).n = sn at *
    generalize (sat L i).t = st at *
    generalize (sat L i).z = sz at *
    generalize (sat L (i - 1)).n = pn at *
    generalize (sat L (i - 1)).t = pt at *
    have lb : b < wr.heap.size := Nat.lt_of_lt_of_le hbl hs.le
    clear hc
    cases hm1 : mayB sn with
    | false =>
      have E := Lib.hid (HO.out 1 (by rw [HD.out, if_neg (by rw [hm1]; simp)]) (by decide))
      have HM1 := Lib.hid hm1
      clear hm1 hpc
      go_wp2_with (go_at_call 97; refine (may_any _ _).mono ?_; rintro e w' ⟨rfl, rfl⟩; rw [HM1.out])
      go_ret
      exact ⟨by rw [E.out]; rfl, (by refine Since.out ?_; repeat (first | with_reducible assumption | with_reducible exact Since.refl _ | with_reducible refine Since.later ?_ (by with_reducible assumption) | with_reducible refine Since.only ?_ (by with_reducible assumption) (by first | assumption | omega | (simp; done) | (simp; omega)) | with_reducible refine Since.alloc ?_ _ | with_reducible refine Since.drewN ?_ _ | with_reducible refine Since.drew ?_ | with_reducible refine Since.set ?_ (by first | assumption | omega | (simp; done) | (simp; omega)) _))⟩
    | true =>
    by_cases h2 : 0 ≤ st
    case neg =>
      have h2' : decide (st < 0) = true := by simp; omega
      have E := Lib.hid (HO.out 1 (by rw [HD.out, if_neg (by omega)]) (by decide))
      have HM1 := Lib.hid hm1
      clear hm1 hpc
      go_wp2_with (go_at_call 97; refine (may_any _ _).mono ?_; rintro e w' ⟨rfl, rfl⟩; rw [HM1.out])
      go_ret
      exact ⟨by rw [E.out]; rfl, (by refine Since.out ?_; repeat (first | with_reducible assumption | with_reducible exact Since.refl _ | with_reducible refine Since.later ?_ (by with_reducible assumption) | with_reducible refine Since.only ?_ (by with_reducible assumption) (by first | assumption | omega | (simp; done) | (simp; omega)) | with_reducible refine Since.alloc ?_ _ | with_reducible refine Since.drewN ?_ _ | with_reducible refine Since.drew ?_ | with_reducible refine Since.set ?_ (by first | assumption | omega | (simp; done) | (simp; omega)) _))⟩
    have h2' : decide (st < 0) = false := by simp; omega
    by_cases h3 : st ≤ 100000
    case neg =>
      have h3' : decide (100000 < st) = true := by simp; omega
      have E := Lib.hid (HO.out 1 (by rw [HD.out, if_neg (by omega)]) (by decide))
      have HM1 := Lib.hid hm1
      clear hm1 hpc
      go_wp2_with (go_at_call 97; refine (may_any _ _).mono ?_; rintro e w' ⟨rfl, rfl⟩; rw [HM1.out])
      go_ret
      exact ⟨by rw [E.out]; rfl, (by refine Since.out ?_; repeat (first | with_reducible assumption | with_reducible exact Since.refl _ | with_reducible refine Since.later ?_ (by with_reducible assumption) | with_reducible refine Since.only ?_ (by with_reducible assumption) (by first | assumption | omega | (simp; done) | (simp; omega)) | with_reducible refine Since.alloc ?_ _ | with_reducible refine Since.drewN ?_ _ | with_reducible refine Since.drew ?_ | with_reducible refine Since.set ?_ (by first | assumption | omega | (simp; done) | (simp; omega)) _))⟩
    have h3' : decide (100000 < st) = false := by simp; omega
    by_cases h4 : 1 ≤ sz
    case neg =>
      have h4' : decide (sz < 1) = true := by simp; omega
      have E := Lib.hid (HO.out 1 (by rw [HD.out, if_neg (by omega)]) (by decide))
      have HM1 := Lib.hid hm1
      clear hm1 hpc
      go_wp2_with (go_at_call 97; refine (may_any _ _).mono ?_; rintro e w' ⟨rfl, rfl⟩; rw [HM1.out])
      go_ret
      exact ⟨by rw [E.out]; rfl, (by refine Since.out ?_; repeat (first | with_reducible assumption | with_reducible exact Since.refl _ | with_reducible refine Since.later ?_ (by with_reducible assumption) | with_reducible refine Since.only ?_ (by with_reducible assumption) (by first | assumption | omega | (simp; done) | (simp; omega)) | with_reducible refine Since.alloc ?_ _ | with_reducible refine Since.drewN ?_ _ | with_reducible refine Since.drew ?_ | with_reducible refine Since.set ?_ (by first | assumption | omega | (simp; done) | (simp; omega)) _))⟩
    have h4' : decide (sz < 1) = false := by simp; omega
    by_cases h5 : sz ≤ 200
    case neg =>
      have h5' : decide (200 < sz) = true := by simp; omega
      have E := Lib.hid (HO.out 1 (by rw [HD.out, if_neg (by omega)]) (by decide))
      have HM1 := Lib.hid hm1
      clear hm1 hpc
      go_wp2_with (go_at_call 97; refine (may_any _ _).mono ?_; rintro e w' ⟨rfl, rfl⟩; rw [HM1.out])
      go_ret
      exact ⟨by rw [E.out]; rfl, (by refine Since.out ?_; repeat (first | with_reducible assumption | with_reducible exact Since.refl _ | with_reducible refine Since.later ?_ (by with_reducible assumption) | with_reducible refine Since.only ?_ (by with_reducible assumption) (by first | assumption | omega | (simp; done) | (simp; omega)) | with_reducible refine Since.alloc ?_ _ | with_reducible refine Since.drewN ?_ _ | with_reducible refine Since.drew ?_ | with_reducible refine Since.set ?_ (by first | assumption | omega | (simp; done) | (simp; omega)) _))⟩
    have h5' : decide (200 < sz) = false := by simp; omega
    have HD2 : Hid (sntOne L i = if 0 < i ∧ (sn ≤ pn ∨ st < pt) then 3 else 0) := Lib.hid (by rw [HD.out, if_pos ⟨hm1, h2, h3, h4, h5⟩])
    have hmm := (mayB_iff.1 hm1)
    have HM1 := Lib.hid hm1
    unfold MayBe at hmm
    obtain ⟨m1, m2⟩ := hmm
    clear hm1 HD h2 h3 h4 h5
    by_cases hi0 : i = 0
    · subst hi0
      have K := Lib.hid (HK.out (by rw [HD2.out, if_neg (by omega)]))
      have c0' : wr.cell? ⟨b, off, none⟩ = some (.int .i64 sn) := by simpa using c0
      have c1' : wr.cell? ⟨b, off + 1, none⟩ = some (.int .i64 st) := by simpa using c1
      have c2' : wr.cell? ⟨b, off + 2, none⟩ = some (.int .i64 sz) := by simpa using c2
      clear hpc c0 c1 c2
      go_wp2_with (go_at_call 97; refine (may_any _ _).mono ?_; rintro e w' ⟨rfl, rfl⟩; rw [HM1.out])
      go_quiet (fail)
      go_wp2_with fail
      go_roundw
      case rel => exact ⟨0 + 1, by go_num, by omega, K, (by refine Since.out ?_; repeat (first | with_reducible assumption | with_reducible exact Since.refl _ | with_reducible refine Since.later ?_ (by with_reducible assumption) | with_reducible refine Since.only ?_ (by with_reducible assumption) (by first | assumption | omega | (simp; done) | (simp; omega)) | with_reducible refine Since.alloc ?_ _ | with_reducible refine Since.drewN ?_ _ | with_reducible refine Since.drew ?_ | with_reducible refine Since.set ?_ (by first | assumption | omega | (simp; done) | (simp; omega)) _))⟩
      case measure => simp [intOf]; omega
    have hip : 0 < i := by omega
    obtain ⟨p0, p1⟩ := hpc hip
    have hi1 : (0 : Int) < (i : Int) := by omega
    have hi2' : (i : Int) - 1 = ((i - 1 : Nat) : Int) := by omega
    have hi3 : ((i - 1 : Nat) : Int) < (n : Int) := by omega
    clear hpc
    by_cases hp : sn ≤ pn
    · have E := Lib.hid (HO.out 3 (by rw [HD2.out, if_pos ⟨hip, Or.inl hp⟩]) (by decide))
      go_wp2_with (go_at_call 97; refine (may_any _ _).mono ?_; rintro e w' ⟨rfl, rfl⟩; rw [HM1.out])
      go_quiet (fail)
      go_wp2_with fail
      go_ret
      exact ⟨by rw [E.out]; rfl, (by refine Since.out ?_; repeat (first | with_reducible assumption | with_reducible exact Since.refl _ | with_reducible refine Since.later ?_ (by with_reducible assumption) | with_reducible refine Since.only ?_ (by with_reducible assumption) (by first | assumption | omega | (simp; done) | (simp; omega)) | with_reducible refine Since.alloc ?_ _ | with_reducible refine Since.drewN ?_ _ | with_reducible refine Since.drew ?_ | with_reducible refine Since.set ?_ (by first | assumption | omega | (simp; done) | (simp; omega)) _))⟩
    have hp' : decide (sn ≤ pn) = false := by simpa using hp
    by_cases ht : st < pt
    · have E := Lib.hid (HO.out 3 (by rw [HD2.out, if_pos ⟨hip, Or.inr ht⟩]) (by decide))
      clear hp
      go_wp2_with (go_at_call 97; refine (may_any _ _).mono ?_; rintro e w' ⟨rfl, rfl⟩; rw [HM1.out])
      go_quiet (fail)
      go_wp2_with fail
      go_ret
      exact ⟨by rw [E.out]; rfl, (by refine Since.out ?_; repeat (first | with_reducible assumption | with_reducible exact Since.refl _ | with_reducible refine Since.later ?_ (by with_reducible assumption) | with_reducible refine Since.only ?_ (by with_reducible assumption) (by first | assumption | omega | (simp; done) | (simp; omega)) | with_reducible refine Since.alloc ?_ _ | with_reducible refine Since.drewN ?_ _ | with_reducible refine Since.drew ?_ | with_reducible refine Since.set ?_ (by first | assumption | omega | (simp; done) | (simp; omega)) _))⟩
    · have ht' : decide (st < pt) = false := by simpa using ht
      have K := Lib.hid (HK.out (by rw [HD2.out, if_neg (by omega)]))
      clear hp ht
      go_wp2_with (go_at_call 97; refine (may_any _ _).mono ?_; rintro e w' ⟨rfl, rfl⟩; rw [HM1.out])
      go_quiet (fail)
      go_wp2_with fail
      go_roundw
      case rel => exact ⟨i + 1, by go_num, by omega, K, (by refine Since.out ?_; repeat (first | with_reducible assumption | with_reducible exact Since.refl _ | with_reducible refine Since.later ?_ (by with_reducible assumption) | with_reducible refine Since.only ?_ (by with_reducible assumption) (by first | assumption | omega | (simp; done) | (simp; omega)) | with_reducible refine Since.alloc ?_ _ | with_reducible refine Since.drewN ?_ _ | with_reducible refine Since.drew ?_ | with_reducible refine Since.set ?_ (by first | assumption | omega | (simp; done) | (simp; omega)) _))⟩
      case measure => simp [intOf]; omega


def bothE (L : List Snt) (M : List Rng) : Int := if sntE L = 0 then rngE M else sntE L
theorem sboth (A A2 : Option Addr) (n cap n2 cap2 : Nat) (L : List Snt) (M : List Rng) (w : World) (hn : L.length = n) (h : Rd w 3 (.slice A n cap) (L.map sntRow)) (hn2 : M.length = n2) (hb : ∀ r ∈ M, okI r.lo ∧ okI r.hi) (h2 : Rd w 2 (.slice A2 n2 cap2) (M.map rngRow)) :
    Calls Tryz.prog 93 #[.slice A n cap, .slice A2 n2 cap2] w fun e w' => e = .returned (errV (bothE L M)) ∧ Below w.heap.size w w' := by
  have H := Lib.hid h
  have H2 := Lib.hid h2
  have HB := Lib.hid hb
  clear h h2 hb
  go_enter Tryz.func93, Tryz.ntmps93
  go_wp2_with fail
  refine (scheck A n cap L _ hn H.out).mono ?_
  rintro e w1 ⟨rfl, hb1⟩
  by_cases he : sntE L = 0
  · have E : Hid (bothE L M = rngE M) := Lib.hid (by unfold bothE; rw [if_pos he])
    rw [he, errV_zero]
    clear he
    go_wp2_with fail
    refine (rcheck A2 n2 cap2 M _ hn2 HB.out (H2.out.later hb1)).mono ?_
    rintro e w2 ⟨rfl, hb2⟩
    go_wp2_with fail
    go_ret
    exact ⟨by rw [E.out]; rfl, (by refine Since.out ?_; repeat (first | with_reducible assumption | with_reducible exact Since.refl _ | with_reducible refine Since.later ?_ (by with_reducible assumption) | with_reducible refine Since.only ?_ (by with_reducible assumption) (by first | assumption | omega | (simp; done) | (simp; omega)) | with_reducible refine Since.alloc ?_ _ | with_reducible refine Since.drewN ?_ _ | with_reducible refine Since.drew ?_ | with_reducible refine Since.set ?_ (by first | assumption | omega | (simp; done) | (simp; omega)) _))⟩
  · have E : Hid (bothE L M = sntE L) := Lib.hid (by unfold bothE; rw [if_neg he])
    rw [errV_pos he]
    have HE := Lib.hid (errV_pos he)
    clear he
    go_wp2_with fail
    go_ret
    exact ⟨by rw [E.out, HE.out]; rfl, (by refine Since.out ?_; repeat (first | with_reducible assumption | with_reducible exact Since.refl _ | with_reducible refine Since.later ?_ (by with_reducible assumption) | with_reducible refine Since.only ?_ (by with_reducible assumption) (by first | assumption | omega | (simp; done) | (simp; omega)) | with_reducible refine Since.alloc ?_ _ | with_reducible refine Since.drewN ?_ _ | with_reducible refine Since.drew ?_ | with_reducible refine Since.set ?_ (by first | assumption | omega | (simp; done) | (simp; omega)) _))⟩
theorem time_b (x : Int) (w : World) : Calls Tryz.prog 91 #[.int .i64 x] w fun e w' => e = .returned (.bool (decide (1 ≤ x) && decide (x ≤ 100000))) ∧ w = w' := by
  by_cases h1 : 1 ≤ x
  · have h1' : decide (1 ≤ x) = true := by simpa using h1
    rw [h1', Bool.true_and]
    clear h1'
    go_enter Tryz.func91, Tryz.ntmps91
    go_wp2
    go_ret
    exact ⟨rfl, rfl⟩
  · have h1' : decide (1 ≤ x) = false := by simpa using h1
    rw [h1', Bool.false_and]
    go_enter Tryz.func91, Tryz.ntmps91
    go_wp2
    go_ret
    exact ⟨rfl, rfl⟩
end Go.Proofs.YtaindcicloapfaaGreatDoor

/-! slices.Delete of one element, over a slice of the call's own: laws on the cells. Condition: the slice is the call's own. -/
namespace Go.Proofs.YtaindcicloapfaaGreatDoor
open Go.ChangeShapes Go.WideShapes Go.ChangeAt Go.RowKit
set_option linter.unusedVariables false

/-- cells laid one behind the other -/
def putz (cs : Array Value) : Nat → List Value → Array Value
  | _, [] => cs
  | o, v :: r => putz (cs.setIfInBounds o v) (o + 1) r
theorem putz_size : ∀ (vs : List Value) (cs : Array Value) (o : Nat), (putz cs o vs).size = cs.size
  | [], cs, o => rfl
  | v :: r, cs, o => by unfold putz; rw [putz_size r]; simp
theorem putz_list : ∀ (vs : List Value) (cs : Array Value) (o : Nat), o + vs.length ≤ cs.size → (putz cs o vs).toList = cs.toList.take o ++ vs ++ cs.toList.drop (o + vs.length)
  | [], cs, o, h => by simp [putz]
  | v :: r, cs, o, h => by
    rw [List.length_cons] at h
    unfold putz
    rw [putz_list r (cs.setIfInBounds o v) (o + 1) (by simp; omega)]
    rw [Array.toList_setIfInBounds]
    have ho : o < cs.toList.length := by simp; omega
    rw [List.take_set, List.drop_set_of_lt (by omega)]
    have e1 : (cs.toList.take (o + 1)).set o v = cs.toList.take o ++ [v] := by
      rw [List.take_succ_eq_append_getElem ho, List.set_append_right _ _ (by rw [List.length_take]; omega), List.length_take, show o - min o cs.toList.length = 0 from by omega]
      rfl
    rw [e1, List.length_cons, show o + 1 + r.length = o + (r.length + 1) from by omega]
    simp
theorem BlockIs.putAll : ∀ (vs : List Value) {w : World} {g : Nat} {t : TypeId} {cs : Array Value} (h : BlockIs w g t cs) (o : Nat), BlockIs (w.setCells g o vs) g t (putz cs o vs)
  | [], _, _, _, _, h, _ => h
  | v :: r, w, g, t, cs, h, o => by
    unfold World.setCells putz
    exact BlockIs.putAll r (h.put o v) (o + 1)
theorem Out.putAll : ∀ (vs : List Value) (w : World) (g o : Nat), Out w (w.setCells g o vs) [g]
  | [], w, _, _ => Out.refl w _
  | v :: r, w, g, o => by
    unfold World.setCells
    exact ((Out.refl w [g]).put (p := ⟨g, o, none⟩) (Or.inl (by simp)) v).trans (Out.putAll r _ g (o + 1))
theorem run_clear1 {P : Program} (w : World) (t e ty : TypeId) (z : Value) (zs : List Value) (ht : P.underlying t = some (.slice e)) (hv : (zeroValue e).run P w = .ok z w) (hz : z.cells = zs.toArray) (h1 : ∀ u ∈ zs, u.oneCell' = true) (b o c n : Nat) (hn : n = 1)
    (hc : ∀ j, j < zs.length → (w.cell? ⟨b, o + j, none⟩).isSome = true) (hf : ∀ j, j < zs.length → w.frozen? ⟨b, o + j, none⟩ = false) :
    (Builtin.clear_ #[t] ty #[.slice (some ⟨b, o, none⟩) n c]).run P w = .ok (.tuple #[]) (w.setCells b o zs) := by
  subst hn
  have hzc : (Builtin.zeroCells z.cells 1).toList = zs := by
    rw [hz]
    simp [Builtin.zeroCells]
    apply List.ext_getElem
    · simp
    · intro i h1 h2
      simp at h1
      simp [Nat.mod_eq_of_lt h1, h1]
  have hst := run_storeCells_cells (P := P) b o zs 0 w (by simpa using hc) (by simpa using hf) h1
  simp only [Nat.add_zero] at hst
  simp [Builtin.clear_, run_underlying ht, hv, hzc, hst]

/-- what is left behind a deletion -/
theorem del_cells {E size : Nat} {w : World} {g cap : Nat} {es : List (List Value)} (h : Lst w E size (.slice (some ⟨g, 0, none⟩) es.length cap) es) {i : Nat} (hi : i < es.length) (hs : 0 < size) (zs : List Value) (hz : zs.length = size) :
    ∃ cur, BlockIs w g E cur ∧ cur.size = cap * size ∧ es.length ≤ cap ∧ cap ≤ maxLen ∧
      ((putz (putz cur (i * size) (flat (es.drop (i + 1)))) ((es.length - 1) * size) zs).toList.take ((es.length - 1) * size) = flat (es.take i ++ es.drop (i + 1))) := by
  rcases h.own.2 with ⟨h0, _⟩ | ⟨g', cap', cur, hv, _, hg, h1, h2, h3, h4⟩
  · cases h0
  simp only [Value.slice.injEq, Option.some.injEq, Addr.mk.injEq, and_true, true_and] at hv
  obtain ⟨rfl, rfl⟩ := hv
  refine ⟨cur, hg, h3, h1, h2, ?_⟩
  have hr : ∀ e ∈ es, e.length = size := fun e he => (h.rows e he).1
  have hdl : (flat (es.drop (i + 1))).length = (es.length - (i + 1)) * size := by
    rw [flat_length (fun e he => hr e (List.mem_of_mem_drop he)), List.length_drop]
  have hA : i * size + (es.length - (i + 1)) * size = (es.length - 1) * size := by rw [← Nat.add_mul]; congr 1; omega
  have hB : (es.length - 1) * size + size = es.length * size := by
    obtain ⟨m, hm⟩ : ∃ m, es.length = m + 1 := ⟨es.length - 1, by omega⟩
    rw [hm, Nat.add_sub_cancel, Nat.succ_mul]
  have hC : es.length * size ≤ cap * size := Nat.mul_le_mul_right _ h1
  have hle1 : i * size + (flat (es.drop (i + 1))).length ≤ cur.size := by rw [hdl, h3]; omega
  rw [putz_list zs _ _ (by rw [putz_size, hz, h3]; omega), putz_list _ cur _ hle1]
  have ht : cur.toList.take (i * size) = flat (es.take i) := by
    rw [← flat_take hr i, ← h4, List.take_take, Nat.min_eq_left (Nat.mul_le_mul_right _ (by omega))]
  rw [ht]
  have hl1 : (flat (es.take i) ++ flat (es.drop (i + 1))).length = (es.length - 1) * size := by
    rw [List.length_append, hdl, flat_length (fun e he => hr e (List.mem_of_mem_take he)), List.length_take, Nat.min_eq_left (by omega), hA]
  have hfl : flat (es.take i ++ es.drop (i + 1)) = flat (es.take i) ++ flat (es.drop (i + 1)) := by simp [flat]
  rw [hfl]
  generalize flat (es.take i) ++ flat (es.drop (i + 1)) = X at *
  rw [List.append_assoc, List.take_append_of_le_length (by rw [List.length_take, List.length_append, hl1]; omega), List.take_take, Nat.min_self, List.take_append_of_le_length (by omega), List.take_of_length_le (by omega)]
end Go.Proofs.YtaindcicloapfaaGreatDoor

/-! What is left of packets that were sent: slices.Clone, IndexFunc, DeleteFunc with loss.left's closure, and loss.left. Condition: the slices can be read. -/
namespace Go.Proofs.YtaindcicloapfaaGreatDoor
open Go.ChangeShapes Go.WideShapes Go.ChangeAt Go.RowKit
set_option linter.unusedVariables false

theorem Tryz.elSnt : Elem Tryz.prog 74 91 3 24 := ⟨Tryz.underlying74, ⟨.agg #[.int .i64 0, .int .i64 0, .int .i64 0], rfl, by kernel_rfl⟩, by decide, by decide⟩
theorem flat_set3 : ∀ {es : List (List Value)} (hr : ∀ e ∈ es, e.length = 3) (i : Nat) (hi : i < es.length) (a b c : Value), (((flat es).set (i * 3) a).set (i * 3 + 1) b).set (i * 3 + 2) c = flat (es.set i [a, b, c])
  | [], _, i, hi, _, _, _ => by simp at hi
  | e :: r, hr, i, hi, a, b, c => by
    match e, hr e (by simp) with
    | [x, y, z], _ =>
      cases i with
      | zero => simp [flat]
      | succ i =>
        have := flat_set3 (es := r) (fun e he => hr e (by simp [he])) i (by simpa using hi) a b c
        have e0 : flat ([x, y, z] :: r) = x :: y :: z :: flat r := by simp [flat]
        have e1 : flat (([x, y, z] :: r).set (i + 1) [a, b, c]) = x :: y :: z :: flat (r.set i [a, b, c]) := by simp [flat]
        rw [e0, e1, ← this, Nat.succ_mul]
        rfl
/-- one element of three cells is written -/
theorem Lst.set3 {w : World} {E g n cap : Nat} {es : List (List Value)} (h : Lst w E 3 (.slice (some ⟨g, 0, none⟩) n cap) es) {i : Nat} (hi : i < es.length) {a b c : Value} (h1 : ∀ u ∈ [a, b, c], u.oneCell' = true) :
    Lst (((w.setCell ⟨g, i * 3, none⟩ a).setCell ⟨g, i * 3 + 1, none⟩ b).setCell ⟨g, i * 3 + 2, none⟩ c) E 3 (.slice (some ⟨g, 0, none⟩) n cap) (es.set i [a, b, c]) := by
  have hr : ∀ e ∈ es, e.length = 3 := fun e he => (h.rows e he).1
  refine ⟨⟨?_, ?_⟩, fun e he => ?_⟩
  · rw [← flat_set3 hr i hi, List.length_set, List.length_set, List.length_set, List.length_set]
    exact h.own.1
  · rcases h.own.2 with ⟨h0, _⟩ | ⟨g', cap', cur, hv, hb, hg, hh1, h2, h3, h4⟩
    · cases h0
    · simp only [Value.slice.injEq, Option.some.injEq, Addr.mk.injEq, and_true] at hv
      obtain ⟨rfl, rfl, rfl⟩ := hv
      refine Or.inr ⟨g, cap, ((cur.setIfInBounds (i * 3) a).setIfInBounds (i * 3 + 1) b).setIfInBounds (i * 3 + 2) c, by rw [List.length_set], hb, BlockIs.put (BlockIs.put (BlockIs.put hg _ a) _ b) _ c, by rw [List.length_set]; exact hh1, h2, by simpa using h3, ?_⟩
      rw [Array.toList_setIfInBounds, Array.toList_setIfInBounds, Array.toList_setIfInBounds, List.take_set, List.take_set, List.take_set, List.length_set, h4, flat_set3 hr i hi]
  · rcases List.mem_or_eq_of_mem_set he with he | he
    · exact h.rows e he
    · rw [he]
      exact ⟨rfl, h1⟩
theorem Out.set3 (w : World) (g o : Nat) (a b c : Value) : Out w (((w.setCell ⟨g, o, none⟩ a).setCell ⟨g, o + 1, none⟩ b).setCell ⟨g, o + 2, none⟩ c) [g] :=
  (((Out.refl w [g]).put (p := ⟨g, o, none⟩) (Or.inl (by simp)) a).put (p := ⟨g, o + 1, none⟩) (Or.inl (by simp)) b).put (p := ⟨g, o + 2, none⟩) (Or.inl (by simp)) c
/-- the cells behind the i-th element are written, and the slice is cut there -/
theorem Lst.cut {w : World} {E k g n cap : Nat} {es : List (List Value)} (h : Lst w E k (.slice (some ⟨g, 0, none⟩) n cap) es) {i : Nat} (hi : i ≤ es.length) (vs : List Value) (hv : i * k + vs.length ≤ cap * k) :
    Lst (w.setCells g (i * k) vs) E k (.slice (some ⟨g, 0, none⟩) i cap) (es.take i) := by
  have hr : ∀ e ∈ es, e.length = k := fun e he => (h.rows e he).1
  have hrt : ∀ e ∈ es.take i, e.length = k := fun e he => hr e (List.mem_of_mem_take he)
  have hl : (es.take i).length = i := by rw [List.length_take]; omega
  rcases h.own.2 with ⟨h0, _⟩ | ⟨g', cap', cur, hve, hb, hg, hh1, h2, h3, h4⟩
  · cases h0
  simp only [Value.slice.injEq, Option.some.injEq, Addr.mk.injEq, and_true] at hve
  obtain ⟨rfl, rfl, rfl⟩ := hve
  refine ⟨⟨flat_length hrt, Or.inr ⟨g, cap, putz cur (i * k) vs, by rw [hl], hb, BlockIs.putAll vs hg _, by rw [hl]; omega, h2, by rw [putz_size]; exact h3, ?_⟩⟩, fun e he => h.rows e (List.mem_of_mem_take he)⟩
  rw [hl, putz_list vs cur _ (by rw [h3]; exact hv), List.append_assoc, List.take_append_of_le_length (by rw [List.length_take]; simp; rw [h3]; exact Nat.le_min.2 ⟨Nat.le_refl _, Nat.mul_le_mul_right _ (by omega)⟩), List.take_take, Nat.min_self, ← flat_take hr i, ← h4, List.take_take, Nat.min_eq_left (Nat.mul_le_mul_right _ hi)]
theorem zeroCells_len (z : Array Value) (n : Nat) : (Builtin.zeroCells z n).toList.length = n * z.size := by simp [Builtin.zeroCells]
theorem zeroCells_one {z : Array Value} (h : ∀ u ∈ z.toList, u.oneCell' = true) (n : Nat) : ∀ u ∈ (Builtin.zeroCells z n).toList, u.oneCell' = true := by
  intro u hu
  simp only [Builtin.zeroCells, Array.toList_map, List.mem_map] at hu
  obtain ⟨i, hi, rfl⟩ := hu
  have hi' : i < n * z.size := by simpa using hi
  have hz : 0 < z.size := by
    rcases Nat.eq_zero_or_pos z.size with h0 | h0
    · rw [h0, Nat.mul_zero] at hi'; omega
    · exact h0
  have hm := Nat.mod_lt i hz
  rw [getElem!_pos z _ hm]
  exact h _ (by simp)
theorem run_clearN {P : Program} (w : World) (t e ty : TypeId) (z : Value) (ht : P.underlying t = some (.slice e)) (hv : (zeroValue e).run P w = .ok z w) (h1 : ∀ u ∈ z.cells.toList, u.oneCell' = true) (b o c n : Nat)
    (hc : ∀ j, j < n * z.cells.size → (w.cell? ⟨b, o + j, none⟩).isSome = true) (hf : ∀ j, j < n * z.cells.size → w.frozen? ⟨b, o + j, none⟩ = false) :
    (Builtin.clear_ #[t] ty #[.slice (some ⟨b, o, none⟩) n c]).run P w = .ok (.tuple #[]) (w.setCells b o (Builtin.zeroCells z.cells n).toList) := by
  have hst := run_storeCells_cells (P := P) b o (Builtin.zeroCells z.cells n).toList 0 w (by rw [zeroCells_len]; simpa using hc) (by rw [zeroCells_len]; simpa using hf) (zeroCells_one h1 n)
  simp only [Nat.add_zero] at hst
  cases n with
  | zero => simp [Builtin.clear_, run_underlying ht, Builtin.zeroCells, World.setCells]
  | succ n => simp [Builtin.clear_, run_underlying ht, hv, hst]

def leftL (L : List Snt) (M : List Rng) : List Snt := L.filter fun r => !inB M r.n
/-- the first one that came; below 0: there is none -/
def splace (L : List Snt) (M : List Rng) : Int := if (L.any fun r => inB M r.n) = true then ((L.findIdx fun r => inB M r.n : Nat) : Int) else -1
theorem splace_at {L : List Snt} {M : List Rng} {i : Nat} (h : i < L.length) (h0 : ∀ j, j < i → inB M (sat L j).n = false) (h1 : inB M (sat L i).n = true) : splace L M = i := by
  unfold splace
  rw [sat_get h] at h1
  rw [if_pos (List.any_eq_true.2 ⟨_, List.getElem_mem h, h1⟩)]
  congr 1
  refine (List.findIdx_eq h).2 ⟨h1, fun j hj => ?_⟩
  have := h0 j hj
  rw [sat_get (by omega)] at this
  exact this
theorem splace_none {L : List Snt} {M : List Rng} (h : ∀ j, j < L.length → inB M (sat L j).n = false) : splace L M = -1 := by
  unfold splace
  rw [if_neg]
  intro hb
  obtain ⟨r, hr, hx⟩ := List.any_eq_true.1 hb
  obtain ⟨i, hi, rfl⟩ := List.getElem_of_mem hr
  have := h i hi
  rw [sat_get hi, hx] at this
  cases this
theorem splace_cases (L : List Snt) (M : List Rng) : (splace L M = -1 ∧ leftL L M = L) ∨ ∃ i : Nat, splace L M = i ∧ i < L.length ∧ (L.take (i + 1)).filter (fun r => !inB M r.n) = L.take i := by
  by_cases h : (L.any fun r => inB M r.n) = true
  · right
    have hlt : L.findIdx (fun r => inB M r.n) < L.length := List.findIdx_lt_length.2 (by obtain ⟨r, hr, hx⟩ := List.any_eq_true.1 h; exact ⟨r, hr, hx⟩)
    refine ⟨L.findIdx fun r => inB M r.n, by unfold splace; rw [if_pos h], hlt, ?_⟩
    rw [List.take_succ_eq_append_getElem hlt, List.filter_append]
    have e1 : [L[L.findIdx fun r => inB M r.n]].filter (fun r => !inB M r.n) = [] := by
      have := List.findIdx_getElem (w := hlt)
      simp [this]
    rw [e1, List.append_nil]
    refine List.filter_eq_self.2 fun r hr => ?_
    obtain ⟨j, hj, rfl⟩ := List.getElem_of_mem hr
    rw [List.length_take] at hj
    have := List.not_of_lt_findIdx (p := fun r : Snt => inB M r.n) (xs := L) (i := j) (by omega)
    rw [List.getElem_take]
    simpa using this
  · left
    refine ⟨by unfold splace; rw [if_neg h], List.filter_eq_self.2 fun r hr => ?_⟩
    have : ¬ inB M r.n = true := fun hx => h (List.any_eq_true.2 ⟨r, hr, hx⟩)
    simpa using this
/-- the acks can be read behind the closure's cell -/
structure Acks (w : World) (gc : Nat) (A : Option Addr) (n cap : Nat) (M : List Rng) : Prop where
  cell : w.cell? ⟨gc, 0, none⟩ = some (.slice A n cap)
  rd : Rd w 2 (.slice A n cap) (M.map rngRow)
  len : M.length = n
theorem Acks.lt {w : World} {gc n cap : Nat} {A : Option Addr} {M : List Rng} (h : Acks w gc A n cap M) : gc < w.heap.size := World.block_lt_of_cell? w _ h.cell
theorem Acks.later {w w' : World} {gc n cap : Nat} {A : Option Addr} {M : List Rng} (h : Acks w gc A n cap M) (hb : Since w w') : Acks w' gc A n cap M := ⟨hb.cell h.lt h.cell, h.rd.later hb, h.len⟩
theorem sleft1 (r : Snt) (gc n cap : Nat) (A : Option Addr) (M : List Rng) (w : World) (h : Acks w gc A n cap M) :
    Calls Tryz.prog 133 #[.agg #[.int .i64 r.n, .int .i64 r.t, .int .i64 r.z], .pointer (some ⟨gc, 0, none⟩)] w fun e w' => e = .returned (.bool (inB M r.n)) ∧ Below w.heap.size w w' := by
  have H := Lib.hid h
  have c0 := h.cell
  have hl := h.lt
  clear h
  go_enter Tryz.func133, Tryz.ntmps133
  go_wp2_with fail
  refine (rin_any A n cap M r.n _ H.out.len (H.out.rd.later (by refine Since.out ?_; repeat (first | with_reducible assumption | with_reducible exact Since.refl _ | with_reducible refine Since.later ?_ (by with_reducible assumption) | with_reducible refine Since.only ?_ (by with_reducible assumption) (by first | assumption | omega | (simp; done) | (simp; omega)) | with_reducible refine Since.alloc ?_ _ | with_reducible refine Since.drewN ?_ _ | with_reducible refine Since.drew ?_ | with_reducible refine Since.set ?_ (by first | assumption | omega | (simp; done) | (simp; omega)) _)))).mono ?_
  rintro e w1 ⟨rfl, hb1⟩
  go_wp2_with fail
  go_ret
  exact ⟨rfl, (by refine Since.out ?_; repeat (first | with_reducible assumption | with_reducible exact Since.refl _ | with_reducible refine Since.later ?_ (by with_reducible assumption) | with_reducible refine Since.only ?_ (by with_reducible assumption) (by first | assumption | omega | (simp; done) | (simp; omega)) | with_reducible refine Since.alloc ?_ _ | with_reducible refine Since.drewN ?_ _ | with_reducible refine Since.drew ?_ | with_reducible refine Since.set ?_ (by first | assumption | omega | (simp; done) | (simp; omega)) _))⟩
set_option maxHeartbeats 1600000 in
set_option maxRecDepth 100000 in
theorem sindex (A : Option Addr) (n cap : Nat) (L : List Snt) (gc n2 cap2 : Nat) (A2 : Option Addr) (M : List Rng) (w : World) (hn : L.length = n) (h : Rd w 3 (.slice A n cap) (L.map sntRow)) (hx : Acks w gc A2 n2 cap2 M) :
    Calls Tryz.prog 168 #[.slice A n cap, .func (Fn.func 133) #[] #[.pointer (some ⟨gc, 0, none⟩)]] w fun e w' => e = .returned (.int .i64 (splace L M)) ∧ Below w.heap.size w w' := by
  have H := Lib.hid h
  have HN := Lib.hid hn
  have HX := Lib.hid hx
  have hcm := h.cap_le.2
  clear h hn hx
  go_enter Tryz.func168, Tryz.ntmps168
  go_wp2_with fail
  go_loopw [8] (fun s8 wr => ∃ i : Nat, s8 = .int .i64 i ∧ i ≤ n ∧ Hid (∀ j, j < i → inB M (sat L j).n = false) ∧ Since w wr) (fun s8 _ => n - (intOf s8).toNat)
  case atStart => exact ⟨0, rfl, Nat.zero_le _, Lib.hid (fun j hj => by omega), Since.refl _⟩
  case round =>
    obtain ⟨i, rfl, hi, HU, hs⟩ := hrel
    by_cases hlt : i < n
    case neg =>
      obtain rfl : i = n := by omega
      have hf : decide ((i : Int) < (i : Int)) = false := by simp
      have E := Lib.hid (splace_none (L := L) (M := M) (fun j hj => HU.out j (by rw [HN.out] at hj; exact hj)))
      go_wp2_with fail
      go_ret
      exact ⟨by rw [E.out]; rfl, (by refine Since.out ?_; repeat (first | with_reducible assumption | with_reducible exact Since.refl _ | with_reducible refine Since.later ?_ (by with_reducible assumption) | with_reducible refine Since.only ?_ (by with_reducible assumption) (by first | assumption | omega | (simp; done) | (simp; omega)) | with_reducible refine Since.alloc ?_ _ | with_reducible refine Since.drewN ?_ _ | with_reducible refine Since.drew ?_ | with_reducible refine Since.set ?_ (by first | assumption | omega | (simp; done) | (simp; omega)) _))⟩
    have hlt' : (i : Int) < (n : Int) := by omega
    obtain ⟨b, off, rfl, hbl, hc⟩ := H.out.snt (i := i) (by rw [HN.out]; exact hlt)
    obtain ⟨c0, c1, c2⟩ := hc wr hs i (by rw [HN.out]; exact hlt)
    have lb : b < wr.heap.size := Nat.lt_of_lt_of_le hbl hs.le
    have HY : Hid (inB M (sat L i).n = true → splace L M = i) := Lib.hid (fun h => splace_at (by rw [HN.out]; exact hlt) HU.out h)
    have HW : Hid (inB M (sat L i).n = false → ∀ j, j < i + 1 → inB M (sat L j).n = false) := Lib.hid (fun h j hj => by
      rcases Nat.lt_succ_iff_lt_or_eq.1 hj with h1 | h1
      · exact HU.out j h1
      · rw [h1]; exact h)
    clear hc
    generalize sat L i = r at *
    obtain ⟨sn, st, sz⟩ := r
    simp only at c0 c1 c2
    cases hr : inB M sn with
    | true =>
      have E := Lib.hid (HY.out hr)
      have HR := Lib.hid hr
      clear hr
      go_wp2_with (go_at_call 133; refine (sleft1 ⟨sn, st, sz⟩ gc n2 cap2 A2 M _ (HX.out.later hs)).mono ?_; rintro e w1 ⟨rfl, hb1⟩; rw [HR.out])
      go_ret
      exact ⟨by rw [E.out]; rfl, (by refine Since.out ?_; repeat (first | with_reducible assumption | with_reducible exact Since.refl _ | with_reducible refine Since.later ?_ (by with_reducible assumption) | with_reducible refine Since.only ?_ (by with_reducible assumption) (by first | assumption | omega | (simp; done) | (simp; omega)) | with_reducible refine Since.alloc ?_ _ | with_reducible refine Since.drewN ?_ _ | with_reducible refine Since.drew ?_ | with_reducible refine Since.set ?_ (by first | assumption | omega | (simp; done) | (simp; omega)) _))⟩
    | false =>
      have K := Lib.hid (HW.out hr)
      have HR := Lib.hid hr
      clear hr
      go_wp2_with (go_at_call 133; refine (sleft1 ⟨sn, st, sz⟩ gc n2 cap2 A2 M _ (HX.out.later hs)).mono ?_; rintro e w1 ⟨rfl, hb1⟩; rw [HR.out])
      go_roundw
      case rel => exact ⟨i + 1, by go_num, by omega, K, (by refine Since.out ?_; repeat (first | with_reducible assumption | with_reducible exact Since.refl _ | with_reducible refine Since.later ?_ (by with_reducible assumption) | with_reducible refine Since.only ?_ (by with_reducible assumption) (by first | assumption | omega | (simp; done) | (simp; omega)) | with_reducible refine Since.alloc ?_ _ | with_reducible refine Since.drewN ?_ _ | with_reducible refine Since.drew ?_ | with_reducible refine Since.set ?_ (by first | assumption | omega | (simp; done) | (simp; omega)) _))⟩
      case measure => simp [intOf]; omega
end Go.Proofs.YtaindcicloapfaaGreatDoor

/-! What is left of packets that were sent: slices.Clone, DeleteFunc with loss.left's closure, loss.left, loss.Left. Condition: the slices can be read. -/
namespace Go.Proofs.YtaindcicloapfaaGreatDoor
open Go.ChangeShapes Go.WideShapes Go.ChangeAt Go.RowKit
set_option linter.unusedVariables false

theorem Tryz.sntZero (w : World) : (zeroValue 91).run Tryz.prog w = .ok (.agg #[.int .i64 0, .int .i64 0, .int .i64 0]) w := by kernel_rfl
set_option maxHeartbeats 800000 in
theorem sclone (A : Option Addr) (n cap : Nat) (L : List Snt) (w : World) (hn : L.length = n) (hm : n ≤ 1000000) (h : Rd w 3 (.slice A n cap) (L.map sntRow)) :
    Calls Tryz.prog 132 #[.slice A n cap] w fun e w' => ∃ A' cap', e = .returned (.slice A' n cap') ∧ Lst w' 91 3 (.slice A' n cap') (L.map sntRow) ∧ Below w.heap.size w w' ∧ ∀ k, k ∈ blocks (.slice A' 0 0) → w.heap.size ≤ k := by
  have hml : (L.map sntRow).length = n := by rw [List.length_map]; exact hn
  have HML := Lib.hid hml
  have H := Lib.hid h
  have hnil := @Lib.run_eql_slice_nil
  obtain ⟨A0, cap0, hv, hz1, hz2, hc⟩ := h.shape
  simp only [Value.slice.injEq] at hv
  obtain ⟨rfl, hz0, rfl⟩ := hv
  clear hz0 hz1 hz2
  cases A with
  | none =>
    have hn0 : n = 0 := by
      rcases Nat.eq_zero_or_pos n with h0 | h0
      · exact h0
      · obtain ⟨b, off, he, _⟩ := hc (by intro he; rw [he] at hml; simp at hml; omega)
        cases he
    subst hn0
    have hL : L = [] := List.length_eq_zero_iff.1 hn
    subst hL
    clear h hc hml hn
    go_enter Tryz.func132, Tryz.ntmps132
    go_wp2
    go_ret
    exact ⟨none, 0, rfl, Lst.nil _ _ _, Below.refl _ _, by simp [Value.ownBlock]⟩
  | some ad =>
    have hnews : ∀ j u, (flat (L.map sntRow))[j]? = some u → (w.alloc (.cells #[] 91)).cell? (ad.add j) = some u := fun j u hu => by
      have hne : L.map sntRow ≠ [] := by intro he; rw [he] at hu; simp [flat] at hu
      obtain ⟨b, off, he, hlt, hcc⟩ := hc hne
      cases he
      have hadd : (⟨b, off, none⟩ : Addr).add j = ⟨b, off + j, none⟩ := by unfold Addr.add; split <;> simp_all
      rw [hadd]
      exact ((Since.refl w).alloc _).cell hlt (hcc j u hu)
    have HNW := Lib.hid hnews
    clear h hc hml hnews
    go_enter Tryz.func132, Tryz.ntmps132
    go_wp2_with (at_builtin; refine wpList_cat rfl _ _ 74 rfl 91 3 24 Tryz.elSnt (.slice (some ⟨w.heap.size, 0, none⟩) 0 0) [] rfl (Lst.empty w _ 3) ad n cap (L.map sntRow) rfl HML.out H.out.rows HNW.out (by rw [HML.out]; simp; omega) ?_; intro A1 cap1 w1 hl1 ho1 hk1)
    simp only [List.length_nil, Nat.zero_add, List.nil_append] at hl1 ⊢
    go_ret
    refine ⟨A1, cap1, rfl, hl1, ?_, fun k hk => ?_⟩
    · exact ho1.below ((Below.refl _ _).alloc (Nat.le_refl _) _) (by simp) (by simp [Value.ownBlock])
    · rcases hk1 k (blocks_any A1 _ _ _ _ ▸ hk) with h1 | h1
      · have : w.heap.size = k := by simpa [Value.ownBlock] using h1
        omega
      · rw [h1]; simp

set_option maxHeartbeats 3200000 in
set_option maxRecDepth 100000 in
theorem sdelete (q n cap : Nat) (L : List Snt) (gc n2 cap2 : Nat) (A2 : Option Addr) (M : List Rng) (w : World) (hn : L.length = n) (h : Lst w 91 3 (.slice (some ⟨q, 0, none⟩) n cap) (L.map sntRow)) (hx : ∀ w', Out w w' [q] → Acks w' gc A2 n2 cap2 M) :
    Calls Tryz.prog 131 #[.slice (some ⟨q, 0, none⟩) n cap, .func (Fn.func 133) #[] #[.pointer (some ⟨gc, 0, none⟩)]] w fun e w' => e = .returned (.slice (some ⟨q, 0, none⟩) (leftL L M).length cap) ∧ Lst w' 91 3 (.slice (some ⟨q, 0, none⟩) (leftL L M).length cap) ((leftL L M).map sntRow) ∧ Out w w' [q] := by
  have H := Lib.hid h
  have HN := Lib.hid hn
  have HX := Lib.hid hx
  have hcap : n ≤ cap := by
    obtain ⟨A', cap', hv, h1, _, _⟩ := h.shape
    simp only [Value.slice.injEq] at hv
    rw [List.length_map, hn] at h1
    omega
  have hcm := (Rd.of_lst h).cap_le.2
  have hcm2 : cap ≤ 9223372036854775807 := by
    obtain ⟨A', cap', hv, _, h1, _⟩ := h.shape
    simp only [Value.slice.injEq] at hv
    unfold maxLen at h1
    omega
  clear h hn hx
  go_enter Tryz.func131, Tryz.ntmps131
  go_wp2_with fail
  refine (sindex _ n cap L gc n2 cap2 A2 M _ HN.out (Rd.of_lst H.out) (HX.out _ (Out.refl _ _))).mono ?_
  rintro e w1 ⟨rfl, hb1⟩
  rcases splace_cases L M with ⟨hp, hl⟩ | ⟨i0, hp, hi0, hf0⟩
  · rw [hp]
    have HLL := Lib.hid hl
    clear hp hl
    go_wp2_with fail
    go_ret
    rw [HLL.out, HN.out]
    exact ⟨rfl, H.out.later hb1, Out.of_below hb1 _⟩
  rw [hp]
  rw [HN.out] at hi0
  have hne : ((i0 : Int) == -1) = false := by simp
  have HF0 := Lib.hid hf0
  clear hp hf0
  go_wp2_with fail
  go_loopw [5, 6, 7] (fun s5 s6 s7 wr => ∃ (i j : Nat) (C : List Snt), s5 = .int .i64 i ∧ s6 = .int .i64 j ∧ i < j ∧ j ≤ n ∧ C.length = n ∧ Hid (C.take i = (L.take j).filter (fun r => !inB M r.n) ∧ C.drop j = L.drop j) ∧ Lst wr 91 3 (.slice (some ⟨q, 0, none⟩) n cap) (C.map sntRow) ∧ Out w wr [q]) (fun _ s6 _ _ => n - (intOf s6).toNat)
  case atStart => exact ⟨i0, i0 + 1, L, rfl, by go_num, by omega, by omega, HN.out, Lib.hid ⟨HF0.out.symm, rfl⟩, H.out.later hb1, Out.of_below hb1 _⟩
  case round =>
    obtain ⟨i, j, C, rfl, rfl, hij, hj, hC, hI, hl, ho⟩ := hrel
    have HL := Lib.hid hl
    have HO := Lib.hid ho
    have HCL := Lib.hid hC
    have lq := hl.lt q (by simp [Value.ownBlock])
    obtain ⟨cur, hcur, hcs, hfz⟩ : ∃ cur : Array Value, BlockIs wr q 91 cur ∧ cur.size = cap * 3 ∧ True := by
      rcases hl.own.2 with ⟨h0, _⟩ | ⟨g', cap', cur, hve, _, hg, _, _, h3, _⟩
      · cases h0
      · simp only [Value.slice.injEq, Option.some.injEq, Addr.mk.injEq, and_true] at hve
        obtain ⟨rfl, _, rfl⟩ := hve
        exact ⟨cur, hg, h3, trivial⟩
    have f0 := hcur.free
    clear hl ho hC hfz
    by_cases hlt : j < n
    case neg =>
      obtain rfl : j = n := by omega
      have hf : decide ((j : Int) < (j : Int)) = false := by simp
      have e1 : C.take i = leftL L M := by
        rw [hI.out.1]
        unfold leftL
        rw [List.take_of_length_le (by rw [HN.out]; exact Nat.le_refl _)]
      have hil : (leftL L M).length = i := by rw [← e1, List.length_take, HCL.out]; omega
      have hic : (i : Int) ≤ (j : Int) := by omega
      have hicap : (i : Int) ≤ (cap : Int) := by omega
      have hne2 : ¬ cap = i := by omega
      have hmul : (j - i) * 3 + i * 3 = j * 3 := by rw [← Nat.add_mul]; congr 1; omega
      have hmul2 := Nat.mul_le_mul_right 3 hcap
      have hcell : ∀ m, m < (j - i) * 3 → (wr.cell? ⟨q, i * 3 + m, none⟩).isSome = true := fun m hm => by
        rw [hcur.cell, Array.getElem?_eq_getElem (by rw [hcs]; omega)]
        rfl
      have hcl : ∀ ty, (Builtin.clear_ #[74] ty #[.slice (some ⟨q, i * 3, none⟩) (j - i) (cap - i)]).run Tryz.prog wr = .ok (.tuple #[]) (wr.setCells q (i * 3) (Builtin.zeroCells (Value.agg #[.int .i64 0, .int .i64 0, .int .i64 0]).cells (j - i)).toList) := fun ty =>
        run_clearN wr _ _ ty (.agg #[.int .i64 0, .int .i64 0, .int .i64 0]) (Tryz.elSnt).ht (Tryz.sntZero wr) (by intro u hu; simp [Value.cells] at hu; rcases hu with rfl | rfl | rfl <;> rfl) q _ _ _ hcell (fun m _ => f0 _)
      have hzl : (Builtin.zeroCells (Value.agg #[.int .i64 0, .int .i64 0, .int .i64 0]).cells (j - i)).toList.length = (j - i) * 3 := by rw [zeroCells_len]; rfl
      have hCut := HL.out.cut (i := i) (by rw [List.length_map, HCL.out]; omega) (Builtin.zeroCells (Value.agg #[.int .i64 0, .int .i64 0, .int .i64 0]).cells (j - i)).toList (by rw [hzl]; omega)
      have hOc := HO.out.trans (Out.putAll (Builtin.zeroCells (Value.agg #[.int .i64 0, .int .i64 0, .int .i64 0]).cells (j - i)).toList wr q (i * 3))
      rw [← List.map_take, e1] at hCut
      have HCUT := Lib.hid hCut
      have HOC := Lib.hid hOc
      have HIL := Lib.hid hil
      clear hCut hOc hil e1 hzl hcell hcur hcs hmul hmul2
      generalize (Builtin.zeroCells (Value.agg #[.int .i64 0, .int .i64 0, .int .i64 0]).cells (j - i)).toList = zs at *
      go_wp2_with fail
      go_ret
      rw [HIL.out]
      exact ⟨rfl, HCUT.out, HOC.out⟩
    have hlt' : (j : Int) < (n : Int) := by omega
    have hij' : (i : Int) < (n : Int) := by omega
    have hCj : C[j]? = L[j]? := by
      have := congrArg (fun l : List Snt => l[0]?) hI.out.2
      simpa [List.getElem?_drop] using this
    have hjl : j < L.length := by rw [HN.out]; exact hlt
    have hjc : j < C.length := by rw [HCL.out]; exact hlt
    have hCj2 : C[j] = L[j] := by
      rw [List.getElem?_eq_getElem hjl, List.getElem?_eq_getElem hjc] at hCj
      exact Option.some.inj hCj
    have c0 : wr.cell? ⟨q, j * 3, none⟩ = some (.int .i64 L[j].n) := by rw [← hCj2]; exact HL.out.cell rfl (row_of_snt hjc) (j := 0) rfl
    have c1 : wr.cell? ⟨q, j * 3 + 1, none⟩ = some (.int .i64 L[j].t) := by rw [← hCj2]; exact HL.out.cell rfl (row_of_snt hjc) (j := 1) rfl
    have c2 : wr.cell? ⟨q, j * 3 + 2, none⟩ = some (.int .i64 L[j].z) := by rw [← hCj2]; exact HL.out.cell rfl (row_of_snt hjc) (j := 2) rfl
    have htk : L.take (j + 1) = L.take j ++ [L[j]] := List.take_succ_eq_append_getElem hjl
    have HT := Lib.hid htk
    clear hCj hCj2 htk hcur hcs
    generalize L[j] = r at *
    obtain ⟨sn, st, sz⟩ := r
    simp only at c0 c1 c2
    cases hr : inB M sn with
    | true =>
      have HR := Lib.hid hr
      have K : Hid (C.take i = (L.take (j + 1)).filter (fun r => !inB M r.n) ∧ C.drop (j + 1) = L.drop (j + 1)) := Lib.hid ⟨by rw [HT.out, List.filter_append, hI.out.1]; simp [hr], by rw [← List.drop_drop, ← List.drop_drop, hI.out.2]⟩
      clear hr
      go_wp2_with (go_at_call 133; refine (sleft1 ⟨sn, st, sz⟩ gc n2 cap2 A2 M _ (HX.out _ (HO.out.alloc _))).mono ?_; rintro e w2 ⟨rfl, hb2⟩; rw [HR.out])
      go_roundw
      case rel => exact ⟨i, j + 1, C, rfl, by go_num, by omega, by omega, HCL.out, K, (HL.out.alloc _).later hb2, (HO.out.alloc _).later hb2⟩
      case measure => simp [intOf]; omega
    | false =>
      have HR := Lib.hid hr
      have K : Hid ((C.set i ⟨sn, st, sz⟩).take (i + 1) = (L.take (j + 1)).filter (fun r => !inB M r.n) ∧ (C.set i ⟨sn, st, sz⟩).drop (j + 1) = L.drop (j + 1)) := Lib.hid ⟨by
        rw [HT.out, List.filter_append, ← hI.out.1, List.take_succ_eq_append_getElem (by rw [List.length_set]; omega), List.take_set_of_le (Nat.le_refl _)]
        simp [hr], by rw [List.drop_set_of_lt (by omega), ← List.drop_drop, ← List.drop_drop, hI.out.2]⟩
      clear hr
      go_wp2_with (go_at_call 133; refine (sleft1 ⟨sn, st, sz⟩ gc n2 cap2 A2 M _ (HX.out _ (HO.out.alloc _))).mono ?_; rintro e w2 ⟨rfl, hb2⟩; rw [HR.out]; have hl2 := (HL.out.alloc (.cells #[.int .i64 sn, .int .i64 st, .int .i64 sz] 91)).later hb2; have ho2 := (HO.out.alloc (.cells #[.int .i64 sn, .int .i64 st, .int .i64 sz] 91)).later hb2; have hB2 : BlockIs w2 wr.heap.size 91 #[.int .i64 sn, .int .i64 st, .int .i64 sz] := BlockIs.later (w := wr.alloc _) (BlockIs.fresh _ _ _) hb2; have d0 : w2.cell? ⟨wr.heap.size, 0, none⟩ = some (.int .i64 sn) := hB2.cell 0; have d1 : w2.cell? ⟨wr.heap.size, 1, none⟩ = some (.int .i64 st) := hB2.cell 1; have d2 : w2.cell? ⟨wr.heap.size, 2, none⟩ = some (.int .i64 sz) := hB2.cell 2; have hil3 : i < (C.map sntRow).length := (by rw [List.length_map, HCL.out]; omega); obtain ⟨y, hy⟩ : ∃ y, (C.map sntRow)[i]? = some (sntRow y) := ⟨_, row_of_snt (by rw [HCL.out]; omega)⟩; have g0 : w2.cell? ⟨q, i * 3, none⟩ = some (.int .i64 y.n) := hl2.cell rfl hy (j := 0) rfl; have g1 : w2.cell? ⟨q, i * 3 + 1, none⟩ = some (.int .i64 y.t) := hl2.cell rfl hy (j := 1) rfl; have g2 : w2.cell? ⟨q, i * 3 + 2, none⟩ = some (.int .i64 y.z) := hl2.cell rfl hy (j := 2) rfl; have fz : ∀ m, w2.frozen? ⟨q, m, none⟩ = false := (fun m => (hb2.frozen (p := ⟨q, m, none⟩) (by simp; omega)).trans ((((Since.refl wr).alloc _).frozen (p := ⟨q, m, none⟩) lq).trans (f0 m))); have HL2 := Lib.hid hl2; have HO2 := Lib.hid ho2; have HI3 := Lib.hid hil3; clear hl2 ho2 hB2 hy hil3)
      go_roundw
      case rel => exact ⟨i + 1, j + 1, C.set i ⟨sn, st, sz⟩, by go_num, by go_num, by omega, by omega, by rw [List.length_set]; exact HCL.out, K, by rw [List.map_set]; exact HL2.out.set3 HI3.out (by intro u hu; simp at hu; rcases hu with rfl | rfl | rfl <;> rfl), HO2.out.trans (Out.set3 _ _ _ _ _ _)⟩
      case measure => simp [intOf]; omega

theorem snilIdx (gc : Nat) (w : World) : Calls Tryz.prog 168 #[.slice none 0 0, .func (Fn.func 133) #[] #[.pointer (some ⟨gc, 0, none⟩)]] w fun e w' => e = .returned (.int .i64 (-1)) ∧ Below w.heap.size w w' := by
  go_enter Tryz.func168, Tryz.ntmps168
  go_wp2_with fail
  refine wp_loop_rounds 1 ?_
  rw [rounds_succ]
  go_wp2
  go_ret
  exact ⟨rfl, Below.refl _ _⟩
theorem snilDel (gc : Nat) (w : World) : Calls Tryz.prog 131 #[.slice none 0 0, .func (Fn.func 133) #[] #[.pointer (some ⟨gc, 0, none⟩)]] w fun e w' => e = .returned (.slice none 0 0) ∧ Below w.heap.size w w' := by
  go_enter Tryz.func131, Tryz.ntmps131
  go_wp2_with fail
  refine (snilIdx gc _).mono ?_
  rintro e w1 ⟨rfl, hb1⟩
  go_wp2_with fail
  go_ret
  exact ⟨rfl, hb1⟩
/-- what loss.left leaves can be read -/
theorem sleft (A : Option Addr) (n cap : Nat) (L : List Snt) (A2 : Option Addr) (n2 cap2 : Nat) (M : List Rng) (w : World) (hn : L.length = n) (hm : n ≤ 1000000) (h : Rd w 3 (.slice A n cap) (L.map sntRow)) (hn2 : M.length = n2) (h2 : Rd w 2 (.slice A2 n2 cap2) (M.map rngRow)) :
    Calls Tryz.prog 94 #[.slice A n cap, .slice A2 n2 cap2] w fun e w' => ∃ A' cap', e = .returned (.slice A' (leftL L M).length cap') ∧ Rd w' 3 (.slice A' (leftL L M).length cap') ((leftL L M).map sntRow) ∧ Below w.heap.size w w' := by
  have H := Lib.hid h
  have H2 := Lib.hid h2
  clear h h2
  go_enter Tryz.func94, Tryz.ntmps94
  go_wp2_with fail
  have hs0 : Since w (w.alloc (.cells #[.slice A2 n2 cap2] 44)) := (Since.refl w).alloc _
  refine (sclone A n cap L _ hn hm (H.out.later hs0)).mono ?_
  rintro e w1 ⟨A', cap', rfl, hl1, hb1, hk1⟩
  have hs1 := hs0.later hb1
  have hAc : Acks w1 w.heap.size A2 n2 cap2 M := ⟨(BlockIs.later (w := w.alloc _) (BlockIs.fresh w _ _) hb1).cell 0, H2.out.later hs1, hn2⟩
  have hnew : ∀ k, k ∈ blocks (.slice A' 0 0) → w.heap.size + 1 ≤ k := fun k hk => by have := hk1 k hk; simpa using this
  obtain ⟨A1, c1, hv, _, _, hA⟩ := hl1.shape
  rw [List.length_map, hn] at hv
  simp only [Value.slice.injEq, true_and] at hv
  obtain ⟨rfl, rfl⟩ := hv
  have HL1 := Lib.hid hl1
  have HAC := Lib.hid hAc
  rcases hA with ⟨rfl, h0, rfl⟩ | ⟨q, rfl⟩
  · have hL : L = [] := by simpa using h0
    subst hL
    have hn0 : n = 0 := by simpa using hn.symm
    subst hn0
    clear hl1 hAc hk1 hnew hn hm
    go_wp2_with fail
    refine (snilDel w.heap.size _).mono ?_
    rintro e w2 ⟨rfl, hb2⟩
    go_wp2_with fail
    go_ret
    exact ⟨none, 0, rfl, Rd.nil _ 3, hs1.later hb2⟩
  · have hqn : w.heap.size + 1 ≤ q := hnew q (by simp [Value.ownBlock])
    have hX : ∀ w', Out w1 w' [q] → Acks w' w.heap.size A2 n2 cap2 M := fun w' ho => by
      have hgc : w.heap.size < w1.heap.size := hAc.lt
      refine ⟨?_, ?_, hn2⟩
      · have hc := hAc.cell
        have hb := ho.block w.heap.size hgc (by simp; omega)
        unfold World.cell? at hc ⊢
        rw [hb]
        exact hc
      · have hs2 : Since w w' := hs1.out' ho (fun k hk => by rw [List.mem_singleton.1 hk]; omega)
        exact H2.out.later hs2
    have HX := Lib.hid hX
    clear hl1 hAc hk1 hnew hX
    go_wp2_with fail
    refine (sdelete q n cap' L w.heap.size n2 cap2 A2 M _ hn HL1.out HX.out).mono ?_
    rintro e w2 ⟨rfl, hl2, ho2⟩
    have hs2 : Since w w2 := hs1.out' ho2 (fun k hk => by rw [List.mem_singleton.1 hk]; omega)
    go_wp2_with fail
    go_ret
    exact ⟨_, cap', rfl, Rd.of_lst hl2, hs2⟩
end Go.Proofs.YtaindcicloapfaaGreatDoor

/-! Package loss: Left and Lost: plain words and contracts; wiresame.Sent and wiresame.Ints on slices that hold one list. Condition: the slices can be read. -/
namespace Go.Proofs.YtaindcicloapfaaGreatDoor
open Go.ChangeShapes Go.WideShapes Go.ChangeAt Go.RowKit
set_option linter.unusedVariables false

theorem snt_len {L : List Snt} (h : sntE L = 0) : L.length ≤ 30 := by
  unfold sntE at h
  by_cases h30 : 30 < L.length
  · rw [if_pos h30] at h; cases h
  · omega
theorem snt_up {L : List Snt} (h : sntE L = 0) : sntUp L L.length = 0 := by
  unfold sntE at h
  by_cases h30 : 30 < L.length
  · rw [if_pos h30] at h; cases h
  · rw [if_neg h30] at h; exact h
theorem snt_all {L : List Snt} (h : sntE L = 0) : ∀ r ∈ L, 0 ≤ r.n ∧ r.n ≤ 1073741823 ∧ 0 ≤ r.t ∧ r.t ≤ 100000 ∧ 1 ≤ r.z ∧ r.z ≤ 200 := by
  intro r hr
  obtain ⟨i, hi, rfl⟩ := List.getElem_of_mem hr
  have h1 := sntUp_all (snt_up h) i hi
  unfold sntOne at h1
  rw [sat_get hi] at h1
  by_cases hc : mayB L[i].n = true ∧ 0 ≤ L[i].t ∧ L[i].t ≤ 100000 ∧ 1 ≤ L[i].z ∧ L[i].z ≤ 200
  · have := mayB_iff.1 hc.1
    unfold MayBe at this
    exact ⟨this.1, this.2, hc.2⟩
  · rw [if_neg hc] at h1; cases h1
theorem rng_up {M : List Rng} (h : rngE M = 0) : M.length ≤ 12 ∧ rngUp M M.length = 0 := by
  unfold rngE at h
  by_cases h12 : 12 < M.length
  · rw [if_pos h12] at h; cases h
  · rw [if_neg h12] at h; exact ⟨by omega, h⟩
theorem rngUp_all {L : List Rng} : ∀ {n : Nat}, rngUp L n = 0 → ∀ i, i < n → rngOne L i = 0
  | 0, _, i, hi => by omega
  | n + 1, h, i, hi => by
    unfold rngUp at h
    by_cases h0 : rngUp L n = 0
    · rw [if_pos h0] at h
      rcases Nat.lt_succ_iff_lt_or_eq.1 hi with h1 | h1
      · exact rngUp_all h0 i h1
      · rw [h1]; exact h
    · rw [if_neg h0] at h; exact absurd h h0
theorem rng_all {M : List Rng} (h : rngE M = 0) : ∀ i, i < M.length → 0 ≤ (rat M i).lo ∧ (rat M i).lo ≤ (rat M i).hi ∧ (rat M i).hi ≤ 1073741823 ∧ (0 < i → (rat M i).hi + 1 < (rat M (i - 1)).lo) := by
  intro i hi
  have h1 := rngUp_all (rng_up h).2 i hi
  unfold rngOne at h1
  by_cases hc : mayB (rat M i).lo = true ∧ mayB (rat M i).hi = true
  · rw [if_pos hc] at h1
    have a := mayB_iff.1 hc.1
    have b := mayB_iff.1 hc.2
    unfold MayBe at a b
    by_cases hd : (rat M i).hi < (rat M i).lo ∨ (0 < i ∧ (rat M (i - 1)).lo ≤ (rat M i).hi + 1)
    · rw [if_pos hd] at h1; cases h1
    · exact ⟨a.1, by omega, b.2, fun h0 => by omega⟩
  · rw [if_neg hc] at h1; cases h1
/-- the first range is above all others -/
theorem rng_top {M : List Rng} (h : rngE M = 0) : ∀ i, i < M.length → (rat M i).hi ≤ (rat M 0).hi
  | 0, _ => Int.le_refl _
  | i + 1, hi => by
    have h1 := rng_top h i (by omega)
    have h2 := (rng_all h (i + 1) hi).2.2.2 (by omega)
    rw [Nat.add_sub_cancel] at h2
    have h3 := (rng_all h i (by omega)).2.1
    omega
def lostB (top now wait : Int) (s : Snt) : Bool := decide (s.n + 3 ≤ top) || (decide (s.n < top) && decide (wait ≤ now - s.t))
def lostE (L : List Snt) (M : List Rng) (now wait : Int) : Int := if bothE L M = 0 then (if now < 0 ∨ 100000 < now ∨ wait < 1 ∨ 100000 < wait then 1 else 0) else bothE L M
def lostOf (K : List Snt) (top now wait : Int) : List Int := (K.filter (lostB top now wait)).map Snt.n
def lostL (L : List Snt) (M : List Rng) (now wait : Int) : List Int := if lostE L M now wait = 0 then (if M.length = 0 then [] else lostOf (leftL L M) (rat M 0).hi now wait) else []
def leftR (L : List Snt) (M : List Rng) : List Snt := if bothE L M = 0 then leftL L M else []
theorem both_zero {L : List Snt} {M : List Rng} (h : bothE L M = 0) : sntE L = 0 ∧ rngE M = 0 := by
  unfold bothE at h
  by_cases h0 : sntE L = 0
  · rw [if_pos h0] at h; exact ⟨h0, h⟩
  · rw [if_neg h0] at h; exact absurd h h0
theorem sLeft (A : Option Addr) (n cap : Nat) (L : List Snt) (A2 : Option Addr) (n2 cap2 : Nat) (M : List Rng) (w : World) (hn : L.length = n) (h : Rd w 3 (.slice A n cap) (L.map sntRow)) (hn2 : M.length = n2) (hb : ∀ r ∈ M, okI r.lo ∧ okI r.hi) (h2 : Rd w 2 (.slice A2 n2 cap2) (M.map rngRow)) :
    Calls Tryz.prog 41 #[.slice A n cap, .slice A2 n2 cap2] w fun e w' => ∃ A' cap', e = .returned (.tuple #[.slice A' (leftR L M).length cap', errV (bothE L M)]) ∧ Rd w' 3 (.slice A' (leftR L M).length cap') ((leftR L M).map sntRow) ∧ Below w.heap.size w w' := by
  have H := Lib.hid h
  have H2 := Lib.hid h2
  have HB := Lib.hid hb
  clear h h2 hb
  go_enter Tryz.func41, Tryz.ntmps41
  go_wp2_with fail
  refine (sboth A A2 n cap n2 cap2 L M _ hn H.out hn2 HB.out H2.out).mono ?_
  rintro e w1 ⟨rfl, hb1⟩
  by_cases he : bothE L M = 0
  · have E : Hid (leftR L M = leftL L M) := Lib.hid (by unfold leftR; rw [if_pos he])
    have hl30 := snt_len (both_zero he).1
    rw [he, errV_zero]
    have HE := Lib.hid he
    clear he
    go_wp2_with fail
    refine (sleft A n cap L A2 n2 cap2 M _ hn (by omega) (H.out.later hb1) hn2 (H2.out.later hb1)).mono ?_
    rintro e w2 ⟨A', cap', rfl, hr2, hb2⟩
    have HR := Lib.hid hr2
    clear hr2 hn hn2
    go_wp2_with fail
    go_ret2
    rw [E.out, HE.out]
    exact ⟨A', cap', rfl, HR.out, (by refine Since.out ?_; repeat (first | with_reducible assumption | with_reducible exact Since.refl _ | with_reducible refine Since.later ?_ (by with_reducible assumption) | with_reducible refine Since.only ?_ (by with_reducible assumption) (by first | assumption | omega | (simp; done) | (simp; omega)) | with_reducible refine Since.alloc ?_ _ | with_reducible refine Since.drewN ?_ _ | with_reducible refine Since.drew ?_ | with_reducible refine Since.set ?_ (by first | assumption | omega | (simp; done) | (simp; omega)) _))⟩
  · have E : Hid (leftR L M = []) := Lib.hid (by unfold leftR; rw [if_neg he])
    rw [errV_pos he]
    have HE := Lib.hid (errV_pos he)
    clear he hn hn2
    go_wp2_with fail
    go_ret2
    rw [E.out, HE.out]
    exact ⟨none, 0, rfl, Rd.nil _ 3, (by refine Since.out ?_; repeat (first | with_reducible assumption | with_reducible exact Since.refl _ | with_reducible refine Since.later ?_ (by with_reducible assumption) | with_reducible refine Since.only ?_ (by with_reducible assumption) (by first | assumption | omega | (simp; done) | (simp; omega)) | with_reducible refine Since.alloc ?_ _ | with_reducible refine Since.drewN ?_ _ | with_reducible refine Since.drew ?_ | with_reducible refine Since.set ?_ (by first | assumption | omega | (simp; done) | (simp; omega)) _))⟩

set_option maxHeartbeats 3200000 in
set_option maxRecDepth 100000 in
theorem sLost (A : Option Addr) (n cap : Nat) (L : List Snt) (A2 : Option Addr) (n2 cap2 : Nat) (M : List Rng) (now wait : Int) (w : World) (hn : L.length = n) (h : Rd w 3 (.slice A n cap) (L.map sntRow)) (hn2 : M.length = n2) (hb : ∀ r ∈ M, okI r.lo ∧ okI r.hi) (h2 : Rd w 2 (.slice A2 n2 cap2) (M.map rngRow)) :
    Calls Tryz.prog 40 #[.slice A n cap, .slice A2 n2 cap2, .int .i64 now, .int .i64 wait] w fun e w' => ∃ A' cap', e = .returned (.tuple #[.slice A' (lostL L M now wait).length cap', errV (lostE L M now wait)]) ∧ Lst w' 3 1 (.slice A' (lostL L M now wait).length cap') ((lostL L M now wait).map intRow) ∧ Below w.heap.size w w' := by
  have H := Lib.hid h
  have H2 := Lib.hid h2
  have HB := Lib.hid hb
  have HN := Lib.hid hn
  have HN2 := Lib.hid hn2
  clear h h2 hb hn hn2
  go_enter Tryz.func40, Tryz.ntmps40
  go_wp2_with fail
  refine (sboth A A2 n cap n2 cap2 L M _ HN.out H.out HN2.out HB.out H2.out).mono ?_
  rintro e w1 ⟨rfl, hb1⟩
  by_cases he : bothE L M = 0
  case neg =>
    have E : Hid (lostE L M now wait = bothE L M) := Lib.hid (by unfold lostE; rw [if_neg he])
    have EL : Hid (lostL L M now wait = []) := Lib.hid (by unfold lostL; rw [E.out, if_neg he])
    rw [errV_pos he]
    have HE := Lib.hid (errV_pos he)
    clear he
    go_wp2_with fail
    go_ret2
    rw [EL.out, E.out, HE.out]
    exact ⟨none, 0, rfl, Lst.nil _ _ _, (by refine Since.out ?_; repeat (first | with_reducible assumption | with_reducible exact Since.refl _ | with_reducible refine Since.later ?_ (by with_reducible assumption) | with_reducible refine Since.only ?_ (by with_reducible assumption) (by first | assumption | omega | (simp; done) | (simp; omega)) | with_reducible refine Since.alloc ?_ _ | with_reducible refine Since.drewN ?_ _ | with_reducible refine Since.drew ?_ | with_reducible refine Since.set ?_ (by first | assumption | omega | (simp; done) | (simp; omega)) _))⟩
  have hl30 := snt_len (both_zero he).1
  have HSA := Lib.hid (snt_all (both_zero he).1)
  have HRA := Lib.hid (rng_all (both_zero he).2)
  have HE0 : Hid (lostE L M now wait = if now < 0 ∨ 100000 < now ∨ wait < 1 ∨ 100000 < wait then 1 else 0) := Lib.hid (by unfold lostE; rw [if_pos he])
  rw [he, errV_zero]
  clear he
  by_cases t1 : now < 0
  · have E : Hid (lostE L M now wait = 1) := Lib.hid (by rw [HE0.out, if_pos (Or.inl t1)])
    have EL : Hid (lostL L M now wait = []) := Lib.hid (by unfold lostL; rw [E.out, if_neg (by decide)])
    go_wp2_with fail
    go_ret2
    rw [EL.out, E.out]
    exact ⟨none, 0, rfl, Lst.nil _ _ _, (by refine Since.out ?_; repeat (first | with_reducible assumption | with_reducible exact Since.refl _ | with_reducible refine Since.later ?_ (by with_reducible assumption) | with_reducible refine Since.only ?_ (by with_reducible assumption) (by first | assumption | omega | (simp; done) | (simp; omega)) | with_reducible refine Since.alloc ?_ _ | with_reducible refine Since.drewN ?_ _ | with_reducible refine Since.drew ?_ | with_reducible refine Since.set ?_ (by first | assumption | omega | (simp; done) | (simp; omega)) _))⟩
  have t1' : decide (now < 0) = false := by simpa using t1
  by_cases t2 : 100000 < now
  · have E : Hid (lostE L M now wait = 1) := Lib.hid (by rw [HE0.out, if_pos (Or.inr (Or.inl t2))])
    have EL : Hid (lostL L M now wait = []) := Lib.hid (by unfold lostL; rw [E.out, if_neg (by decide)])
    clear t1
    go_wp2_with fail
    go_ret2
    rw [EL.out, E.out]
    exact ⟨none, 0, rfl, Lst.nil _ _ _, (by refine Since.out ?_; repeat (first | with_reducible assumption | with_reducible exact Since.refl _ | with_reducible refine Since.later ?_ (by with_reducible assumption) | with_reducible refine Since.only ?_ (by with_reducible assumption) (by first | assumption | omega | (simp; done) | (simp; omega)) | with_reducible refine Since.alloc ?_ _ | with_reducible refine Since.drewN ?_ _ | with_reducible refine Since.drew ?_ | with_reducible refine Since.set ?_ (by first | assumption | omega | (simp; done) | (simp; omega)) _))⟩
  have t2' : decide (100000 < now) = false := by simpa using t2
  by_cases t3 : 1 ≤ wait ∧ wait ≤ 100000
  case neg =>
    have E : Hid (lostE L M now wait = 1) := Lib.hid (by rw [HE0.out, if_pos (by omega)])
    have EL : Hid (lostL L M now wait = []) := Lib.hid (by unfold lostL; rw [E.out, if_neg (by decide)])
    have HT : Hid ((decide (1 ≤ wait) && decide (wait ≤ 100000)) = false) := Lib.hid (by simpa using t3)
    clear t1 t2 t3
    go_wp2_with (go_at_call 91; refine (time_b wait _).mono ?_; rintro e w' ⟨rfl, rfl⟩; rw [HT.out])
    go_ret2
    rw [EL.out, E.out]
    exact ⟨none, 0, rfl, Lst.nil _ _ _, (by refine Since.out ?_; repeat (first | with_reducible assumption | with_reducible exact Since.refl _ | with_reducible refine Since.later ?_ (by with_reducible assumption) | with_reducible refine Since.only ?_ (by with_reducible assumption) (by first | assumption | omega | (simp; done) | (simp; omega)) | with_reducible refine Since.alloc ?_ _ | with_reducible refine Since.drewN ?_ _ | with_reducible refine Since.drew ?_ | with_reducible refine Since.set ?_ (by first | assumption | omega | (simp; done) | (simp; omega)) _))⟩
  have E : Hid (lostE L M now wait = 0) := Lib.hid (by rw [HE0.out, if_neg (by omega)])
  have EL : Hid (lostL L M now wait = if M.length = 0 then [] else lostOf (leftL L M) (rat M 0).hi now wait) := Lib.hid (by unfold lostL; rw [E.out, if_pos rfl])
  have HT : Hid ((decide (1 ≤ wait) && decide (wait ≤ 100000)) = true) := Lib.hid (by simpa using t3)
  have n0 : 0 ≤ now := by omega
  have n1 : now ≤ 100000 := by omega
  clear t1 t2 t3
  by_cases hm0 : n2 = 0
  · have EL0 : Hid (lostL L M now wait = []) := Lib.hid (by rw [EL.out, HN2.out, if_pos hm0])
    subst hm0
    go_wp2_with (go_at_call 91; refine (time_b wait _).mono ?_; rintro e w' ⟨rfl, rfl⟩; rw [HT.out])
    go_ret2
    rw [EL0.out, E.out]
    exact ⟨none, 0, rfl, Lst.nil _ _ _, (by refine Since.out ?_; repeat (first | with_reducible assumption | with_reducible exact Since.refl _ | with_reducible refine Since.later ?_ (by with_reducible assumption) | with_reducible refine Since.only ?_ (by with_reducible assumption) (by first | assumption | omega | (simp; done) | (simp; omega)) | with_reducible refine Since.alloc ?_ _ | with_reducible refine Since.drewN ?_ _ | with_reducible refine Since.drew ?_ | with_reducible refine Since.set ?_ (by first | assumption | omega | (simp; done) | (simp; omega)) _))⟩
  have hm0' : ((n2 : Int) == 0) = false := by simp; omega
  have hm0i : (0 : Int) < (n2 : Int) := by omega
  have EL1 : Hid (lostL L M now wait = lostOf (leftL L M) (rat M 0).hi now wait) := Lib.hid (by rw [EL.out, HN2.out, if_neg hm0])
  obtain ⟨b, off, rfl, hbl, hc⟩ := H2.out.rng (i := 0) (by rw [HN2.out]; omega)
  have hs1 : Since w w1 := hb1
  have c1 : w1.cell? ⟨b, off + 1, none⟩ = some (.int .i64 (rat M 0).hi) := by
    have := (hc w1 hs1 0 (by rw [HN2.out]; omega)).2
    simpa using this
  have hr0 := HRA.out 0 (by rw [HN2.out]; omega)
  have ht0 : 0 ≤ (rat M 0).hi ∧ (rat M 0).hi ≤ 1073741823 := ⟨by omega, hr0.2.2.1⟩
  generalize (rat M 0).hi = top at *
  have lb : b < w1.heap.size := Nat.lt_of_lt_of_le hbl hs1.le
  clear hc hr0 EL hm0
  go_wp2_with (go_at_call 91; refine (time_b wait _).mono ?_; rintro e w' ⟨rfl, rfl⟩; rw [HT.out])
  refine (sleft A n cap L _ n2 cap2 M _ HN.out (by have := HN.out; omega) (H.out.later hs1) HN2.out (H2.out.later hs1)).mono ?_
  rintro e w2 ⟨A3, c3, rfl, hr3, hb2⟩
  have hs2 := hs1.later hb2
  have HK : Hid (∀ r ∈ leftL L M, 0 ≤ r.n ∧ r.n ≤ 1073741823 ∧ 0 ≤ r.t ∧ r.t ≤ 100000) := Lib.hid (fun r hr => by
    have := HSA.out r (List.mem_filter.1 hr).1
    exact ⟨this.1, this.2.1, this.2.2.1, this.2.2.2.1⟩)
  have hk30 : (leftL L M).length ≤ 30 := Nat.le_trans (List.length_filter_le _ _) hl30
  obtain ⟨K, hK⟩ : ∃ K, leftL L M = K := ⟨_, rfl⟩
  rw [hK] at hr3 HK hk30 EL1 ⊢
  have HR3 := Lib.hid hr3
  obtain ⟨m, hm⟩ : ∃ m, K.length = m := ⟨_, rfl⟩
  rw [hm] at HR3 hk30 ⊢
  have HM := Lib.hid hm
  clear hr3 hK hm c1
  go_wp2_with fail
  go_loopw [12, 14, 44] (fun s12 s14 s44 wr => ∃ (i k : Nat) (Ao : Option Addr) (co : Nat), s44 = .int .i64 i ∧ i ≤ m ∧ s12 = .slice Ao k co ∧ Hid (k = (lostOf (K.take i) top now wait).length) ∧ k ≤ i ∧ Lst wr 3 1 (.slice Ao k co) ((lostOf (K.take i) top now wait).map intRow) ∧ (∀ q, q ∈ blocks (.slice Ao 0 0) → w2.heap.size ≤ q) ∧ Since w2 wr) (fun _ _ s44 _ => m - (intOf s44).toNat)
  case atStart => exact ⟨0, 0, none, 0, rfl, Nat.zero_le _, rfl, Lib.hid rfl, Nat.le_refl _, Lst.nil _ _ _, by simp [Value.ownBlock], Since.refl _⟩
  case round =>
    obtain ⟨i, k, Ao, co, rfl, hi, rfl, hk, hki, hl, hfar, hs⟩ := hrel
    have HL := Lib.hid hl
    have HFAR := Lib.hid hfar
    clear hl hfar
    by_cases hlt : i < m
    case neg =>
      obtain rfl : i = m := by omega
      have hf : decide ((i : Int) < (i : Int)) = false := by simp
      go_wp2_with fail
      go_ret2
      have e1 : K.take i = K := List.take_of_length_le (by rw [HM.out]; exact Nat.le_refl _)
      have h1 := HL.out
      have h2 := hk.out
      rw [e1] at h1 h2
      rw [EL1.out, E.out, ← h2]
      exact ⟨Ao, co, rfl, h1, hs2.later hs⟩
    have hlt' : (i : Int) < (m : Int) := by omega
    obtain ⟨b3, off3, rfl, hbl3, hc3⟩ := HR3.out.snt (i := i) (by rw [HM.out]; exact hlt)
    obtain ⟨c0, c1, c2⟩ := hc3 wr hs i (by rw [HM.out]; exact hlt)
    have lb3 : b3 < wr.heap.size := Nat.lt_of_lt_of_le hbl3 hs.le
    have hil : i < K.length := by rw [HM.out]; exact hlt
    have hkb := HK.out (sat K i) (by rw [sat_get hil]; exact List.getElem_mem _)
    have htk : K.take (i + 1) = K.take i ++ [sat K i] := by rw [List.take_succ_eq_append_getElem hil, sat_get hil]
    have HST : Hid (lostOf (K.take (i + 1)) top now wait = lostOf (K.take i) top now wait ++ (if lostB top now wait (sat K i) = true then [(sat K i).n] else [])) := Lib.hid (by
      rw [htk]
      unfold lostOf
      rw [List.filter_append, List.map_append]
      cases hb2 : lostB top now wait (sat K i) with
      | true => simp [hb2]
      | false => simp [hb2])
    have HLB : Hid (lostB top now wait (sat K i) = (decide ((sat K i).n + 3 ≤ top) || (decide ((sat K i).n < top) && decide (wait ≤ now - (sat K i).t)))) := Lib.hid rfl
    obtain ⟨k1, k2, k3, k4⟩ := hkb
    clear hc3 htk
    generalize sat K i = r at *
    obtain ⟨sn, st, sz⟩ := r
    simp only at c0 c1 c2 k1 k2 k3 k4 HLB HST
    obtain ⟨ta, tb⟩ := ht0
    have hkeep : lostB top now wait ⟨sn, st, sz⟩ = false → Hid (lostOf (K.take (i + 1)) top now wait = lostOf (K.take i) top now wait) := fun h => Lib.hid (by rw [HST.out, h]; simp)
    have hpush : lostB top now wait ⟨sn, st, sz⟩ = true → Hid (lostOf (K.take (i + 1)) top now wait = lostOf (K.take i) top now wait ++ [sn]) := fun h => Lib.hid (by rw [HST.out, h]; simp)
    have hml : ((lostOf (K.take i) top now wait).map intRow).length = k := by rw [List.length_map]; exact hk.out.symm
    have HML := Lib.hid hml
    clear hml
    have HKP := Lib.hid hkeep
    have HPS := Lib.hid hpush
    clear hkeep hpush HST
    by_cases a1 : sn + 3 ≤ top
    · have S := HPS.out (by rw [HLB.out]; simp; exact Or.inl a1)
      go_wp2_with (at_builtin; refine wpList_push rfl _ _ 22 rfl 3 1 8 Tryz.elInt (.slice Ao k co) ((lostOf (K.take i) top now wait).map intRow) rfl ((HL.out.alloc _).alloc _) (wr.heap.size + 1) 1 [.int .i64 sn] rfl rfl (intRow_one sn).2 (BlockIs.fresh_at (by simp)) (by rw [HML.out]; omega) ?_; intro q5 cq w5 hl5 ho5 hq5 hlt5)
      rw [HML.out] at hl5
      have hsn : Since w2 w5 := ((hs.alloc _).alloc _).out' ho5 (fun k hk => HFAR.out k (blocks_any Ao _ _ _ _ ▸ hk))
      have hfar1 : ∀ k, k ∈ blocks (.slice (some ⟨q5, 0, none⟩) 0 0) → w2.heap.size ≤ k := by
        intro k hk
        have hkq : q5 = k := by simpa [Value.ownBlock] using hk
        rw [← hkq]
        rcases hq5 with h1 | h1
        · exact HFAR.out _ (blocks_any Ao _ _ _ _ ▸ h1)
        · have := hs.le; simp at h1; omega
      have HF1 := Lib.hid hfar1
      have HL1 := Lib.hid hl5
      clear hfar1 hl5 ho5 hq5 hlt5 c0 c1 c2
      go_roundw
      case rel => exact ⟨i + 1, k + 1, some ⟨q5, 0, none⟩, cq, by go_num, by omega, by first | rfl | rw [← hk.out], Lib.hid (by rw [S.out, List.length_append, hk.out]; rfl), by omega, by rw [S.out, List.map_append]; exact HL1.out, HF1.out, hsn⟩
      case measure => simp [intOf]; omega
    have a1' : decide (sn + 3 ≤ top) = false := by simpa using a1
    by_cases a2 : sn < top
    · by_cases a3 : wait ≤ now - st
      · have S := HPS.out (by rw [HLB.out]; simp; exact Or.inr ⟨a2, a3⟩)
        clear a1
        go_wp2_with (at_builtin; refine wpList_push rfl _ _ 22 rfl 3 1 8 Tryz.elInt (.slice Ao k co) ((lostOf (K.take i) top now wait).map intRow) rfl ((HL.out.alloc _).alloc _) (wr.heap.size + 1) 1 [.int .i64 sn] rfl rfl (intRow_one sn).2 (BlockIs.fresh_at (by simp)) (by rw [HML.out]; omega) ?_; intro q5 cq w5 hl5 ho5 hq5 hlt5)
        rw [HML.out] at hl5
        have hsn : Since w2 w5 := ((hs.alloc _).alloc _).out' ho5 (fun k hk => HFAR.out k (blocks_any Ao _ _ _ _ ▸ hk))
        have hfar1 : ∀ k, k ∈ blocks (.slice (some ⟨q5, 0, none⟩) 0 0) → w2.heap.size ≤ k := by
          intro k hk
          have hkq : q5 = k := by simpa [Value.ownBlock] using hk
          rw [← hkq]
          rcases hq5 with h1 | h1
          · exact HFAR.out _ (blocks_any Ao _ _ _ _ ▸ h1)
          · have := hs.le; simp at h1; omega
        have HF1 := Lib.hid hfar1
        have HL1 := Lib.hid hl5
        clear hfar1 hl5 ho5 hq5 hlt5 c0 c1 c2
        go_roundw
        case rel => exact ⟨i + 1, k + 1, some ⟨q5, 0, none⟩, cq, by go_num, by omega, by first | rfl | rw [← hk.out], Lib.hid (by rw [S.out, List.length_append, hk.out]; rfl), by omega, by rw [S.out, List.map_append]; exact HL1.out, HF1.out, hsn⟩
        case measure => simp [intOf]; omega
      · have a3' : decide (wait ≤ now - st) = false := by simpa using a3
        have S := HKP.out (by rw [HLB.out, a1', a3']; simp)
        clear a1 a3
        go_wp2_with fail
        go_roundw
        case rel => exact ⟨i + 1, k, Ao, co, by go_num, by omega, rfl, by rw [S.out]; exact hk, by omega, by rw [S.out]; exact HL.out.alloc _, HFAR.out, hs.alloc _⟩
        case measure => simp [intOf]; omega
    · have a2' : decide (sn < top) = false := by simpa using a2
      have S := HKP.out (by rw [HLB.out, a1', a2']; simp)
      clear a1 a2
      go_wp2_with fail
      go_roundw
      case rel => exact ⟨i + 1, k, Ao, co, by go_num, by omega, rfl, by rw [S.out]; exact hk, by omega, by rw [S.out]; exact HL.out.alloc _, HFAR.out, hs.alloc _⟩
      case measure => simp [intOf]; omega
end Go.Proofs.YtaindcicloapfaaGreatDoor

/-! What package loss tells, in plain words: none that came is lost, each that is lost was sent and is left, one behind the other; the longer the wait, the fewer are. No program here. -/
namespace Go.Proofs.YtaindcicloapfaaGreatDoor
open Go.ChangeShapes Go.WideShapes Go.ChangeAt Go.RowKit
set_option linter.unusedVariables false

theorem lost_mem {K : List Snt} {top now wait x : Int} (h : x ∈ lostOf K top now wait) : ∃ s ∈ K, s.n = x ∧ lostB top now wait s = true := by
  unfold lostOf at h
  obtain ⟨s, hs, rfl⟩ := List.mem_map.1 h
  obtain ⟨h1, h2⟩ := List.mem_filter.1 hs
  exact ⟨s, h1, rfl, h2⟩
theorem lost_of_mem {K : List Snt} {top now wait : Int} {s : Snt} (h : s ∈ K) (hb : lostB top now wait s = true) : s.n ∈ lostOf K top now wait :=
  List.mem_map_of_mem (List.mem_filter.2 ⟨h, hb⟩)
theorem lostB_less {top now wait more : Int} {s : Snt} (hm : 0 ≤ more) (h : lostB top now (wait + more) s = true) : lostB top now wait s = true := by
  unfold lostB at *
  simp at *
  omega
theorem lost_less {K : List Snt} {top now wait more x : Int} (hm : 0 ≤ more) (h : x ∈ lostOf K top now (wait + more)) : x ∈ lostOf K top now wait := by
  obtain ⟨s, hs, rfl, hb⟩ := lost_mem h
  exact lost_of_mem hs (lostB_less hm hb)
theorem lost_top {K : List Snt} {top now wait x : Int} (h : x ∈ lostOf K top now wait) : x ≤ top := by
  obtain ⟨s, hs, rfl, hb⟩ := lost_mem h
  unfold lostB at hb
  simp at hb
  omega
theorem snt_step {L : List Snt} (h : sntE L = 0) {i : Nat} (hi : i + 1 < L.length) : L[i].n < L[i + 1].n ∧ L[i].t ≤ L[i + 1].t := by
  have h1 := sntUp_all (snt_up h) (i + 1) hi
  unfold sntOne at h1
  rw [Nat.add_sub_cancel, sat_get hi, sat_get (show i < L.length by omega)] at h1
  by_cases hc : mayB L[i + 1].n = true ∧ 0 ≤ L[i + 1].t ∧ L[i + 1].t ≤ 100000 ∧ 1 ≤ L[i + 1].z ∧ L[i + 1].z ≤ 200
  · rw [if_pos hc] at h1
    by_cases hd : 0 < i + 1 ∧ (L[i + 1].n ≤ L[i].n ∨ L[i + 1].t < L[i].t)
    · rw [if_pos hd] at h1; cases h1
    · omega
  · rw [if_neg hc] at h1; cases h1
theorem snt_sorted {L : List Snt} (h : sntE L = 0) : L.Pairwise (fun a b => a.n < b.n) := by
  rw [List.pairwise_iff_getElem]
  intro i j hi hj hij
  obtain ⟨k, rfl⟩ : ∃ k, j = i + 1 + k := ⟨j - (i + 1), by omega⟩
  induction k with
  | zero => exact (snt_step h hj).1
  | succ k ih =>
    have h1 := ih (by omega) (by omega)
    have h2 := (snt_step h (i := i + 1 + k) hj).1
    have h3 : L[i + 1 + (k + 1)].n = L[i + 1 + k + 1].n := rfl
    omega
theorem lost_sorted {L : List Snt} (h : sntE L = 0) (M : List Rng) (top now wait : Int) : (lostOf (leftL L M) top now wait).Pairwise (· < ·) := by
  unfold lostOf leftL
  rw [List.pairwise_map]
  exact ((snt_sorted h).filter _).filter _
theorem left_not {L : List Snt} {M : List Rng} {s : Snt} (h : s ∈ leftL L M) : inB M s.n = false := by
  have := (List.mem_filter.1 h).2
  simpa using this
/-- is there such a number among the first so many -/
def numB (K : List Snt) (x : Int) : Nat → Bool
  | 0 => false
  | n + 1 => numB K x n || (sat K n).n == x
theorem numB_mem {K : List Snt} {x : Int} {s : Snt} (h : s ∈ K) (hx : s.n = x) : numB K x K.length = true := by
  obtain ⟨i, hi, rfl⟩ := List.getElem_of_mem h
  have hm : ∀ n, i < n → numB K x n = true := by
    intro n
    induction n with
    | zero => intro h; omega
    | succ n ih =>
      intro hn
      unfold numB
      by_cases he : i = n
      · subst he
        rw [sat_get hi, hx]
        simp
      · rw [ih (by omega)]; rfl
  exact hm _ hi
def intB (X : List Int) (x : Int) : Nat → Bool
  | 0 => false
  | n + 1 => intB X x n || ith X n == x
theorem ith_get {X : List Int} {i : Nat} (h : i < X.length) : ith X i = X[i] := by unfold ith; simp [List.getD, List.getElem?_eq_getElem h]
theorem intB_mem {X : List Int} {x : Int} (h : x ∈ X) : intB X x X.length = true := by
  obtain ⟨i, hi, rfl⟩ := List.getElem_of_mem h
  have hm : ∀ n, i < n → intB X X[i] n = true := by
    intro n
    induction n with
    | zero => intro h; omega
    | succ n ih =>
      intro hn
      unfold intB
      by_cases he : i = n
      · subst he
        rw [ith_get hi]
        simp
      · rw [ih (by omega)]; rfl
  exact hm _ hi
/-- a block that holds just these elements can be read as a slice -/
theorem Rd.of_block {w : World} {g k n cap : Nat} {t : TypeId} {es : List (List Value)} (h : BlockIs w g t (flat es).toArray) (hr : ∀ e ∈ es, e.length = k ∧ ∀ u ∈ e, u.oneCell' = true) (hn : es.length = n) (hc : n ≤ cap) (hm : cap ≤ 1000000) : Rd w k (.slice (some ⟨g, 0, none⟩) n cap) es := by
  subst hn
  refine ⟨⟨_, cap, rfl, hc, by unfold maxLen; omega, fun _ => ⟨g, 0, rfl, h.lt, fun j u hu => ?_⟩⟩, hr⟩
  rw [Nat.zero_add, h.cell]
  simpa using hu
/-- the example -/
def exL : List Snt := [⟨1, 5, 9⟩, ⟨4, 6, 9⟩, ⟨5, 9, 9⟩]
def exM : List Rng := [⟨5, 5⟩]
theorem exLost : lostL exL exM 10 50 = [1] ∧ lostE exL exM 10 50 = 0 := by decide
theorem intLst.at_ {w : World} {q n cap : Nat} {X : List Int} (h : Lst w 3 1 (.slice (some ⟨q, 0, none⟩) n cap) (X.map intRow)) {i : Nat} (hi : i < X.length) : w.cell? ⟨q, i, none⟩ = some (.int .i64 (ith X i)) := by
  have hrow : (X.map intRow)[i]? = some (intRow (ith X i)) := by rw [ith_get hi]; simp [hi]
  have := h.cell rfl hrow (j := 0) rfl
  simpa using this
theorem lostE_both {L : List Snt} {M : List Rng} {now wait : Int} (h : lostE L M now wait = 0) : bothE L M = 0 ∧ 0 ≤ now ∧ now ≤ 100000 ∧ 1 ≤ wait ∧ wait ≤ 100000 := by
  unfold lostE at h
  by_cases h0 : bothE L M = 0
  · rw [if_pos h0] at h
    by_cases hc : now < 0 ∨ 100000 < now ∨ wait < 1 ∨ 100000 < wait
    · rw [if_pos hc] at h; cases h
    · exact ⟨h0, by omega, by omega, by omega, by omega⟩
  · rw [if_neg h0] at h; exact absurd h h0
theorem lostL_eq {L : List Snt} {M : List Rng} {now wait : Int} (h : lostE L M now wait = 0) (hm : M.length ≠ 0) : lostL L M now wait = lostOf (leftL L M) (rat M 0).hi now wait := by
  unfold lostL; rw [if_pos h, if_neg hm]
theorem lostL_nil {L : List Snt} {M : List Rng} {now wait : Int} (hm : M.length = 0) : lostL L M now wait = [] := by
  unfold lostL
  rw [if_pos hm]
  split <;> rfl
end Go.Proofs.YtaindcicloapfaaGreatDoor

/-! loss.Way, and what the reference tells of packets: plain words and a contract. Condition: the slices can be read. -/
namespace Go.Proofs.YtaindcicloapfaaGreatDoor
open Go.ChangeShapes Go.WideShapes Go.ChangeAt Go.RowKit
set_option linter.unusedVariables false

/-- how many bytes the first n are -/
def zsum (L : List Snt) : Nat → Int
  | 0 => 0
  | n + 1 => zsum L n + (sat L n).z
def wayN (L : List Snt) : Int := if sntE L = 0 then zsum L L.length else 0
theorem zsum_bound {L : List Snt} (h : sntE L = 0) : ∀ n, n ≤ L.length → 0 ≤ zsum L n ∧ zsum L n ≤ 200 * n
  | 0, _ => by simp [zsum]
  | n + 1, hn => by
    have ih := zsum_bound h n (by omega)
    have := snt_all h (sat L n) (by rw [sat_get (by omega)]; exact List.getElem_mem _)
    unfold zsum
    omega
set_option maxHeartbeats 1600000 in
set_option maxRecDepth 100000 in
theorem sway (A : Option Addr) (n cap : Nat) (L : List Snt) (w : World) (hn : L.length = n) (h : Rd w 3 (.slice A n cap) (L.map sntRow)) :
    Calls Tryz.prog 42 #[.slice A n cap] w fun e w' => e = .returned (.tuple #[.int .i64 (wayN L), errV (sntE L)]) ∧ Below w.heap.size w w' := by
  have H := Lib.hid h
  have HN := Lib.hid hn
  clear h hn
  go_enter Tryz.func42, Tryz.ntmps42
  go_wp2_with fail
  refine (scheck A n cap L _ HN.out H.out).mono ?_
  rintro e w1 ⟨rfl, hb1⟩
  by_cases he : sntE L = 0
  case neg =>
    have E : Hid (wayN L = 0) := Lib.hid (by unfold wayN; rw [if_neg he])
    rw [errV_pos he]
    have HE := Lib.hid (errV_pos he)
    clear he
    go_wp2_with fail
    go_ret2
    exact ⟨by rw [E.out, HE.out]; rfl, (by refine Since.out ?_; repeat (first | with_reducible assumption | with_reducible exact Since.refl _ | with_reducible refine Since.later ?_ (by with_reducible assumption) | with_reducible refine Since.only ?_ (by with_reducible assumption) (by first | assumption | omega | (simp; done) | (simp; omega)) | with_reducible refine Since.alloc ?_ _ | with_reducible refine Since.drewN ?_ _ | with_reducible refine Since.drew ?_ | with_reducible refine Since.set ?_ (by first | assumption | omega | (simp; done) | (simp; omega)) _))⟩
  have E : Hid (wayN L = zsum L n) := Lib.hid (by unfold wayN; rw [if_pos he, HN.out])
  have HB := Lib.hid (zsum_bound he)
  have hn30 : n ≤ 30 := by have := snt_len he; have := HN.out; omega
  have HS := Lib.hid (snt_all he)
  rw [he, errV_zero]
  have HE := Lib.hid he
  have hs1 : Since w w1 := hb1
  clear he hb1
  go_wp2_with fail
  go_loopw [5, 7, 15] (fun s5 s7 s15 wr => ∃ i : Nat, s15 = .int .i64 i ∧ i ≤ n ∧ s5 = .int .i64 (zsum L i) ∧ Since w1 wr) (fun _ _ s15 _ => n - (intOf s15).toNat)
  case atStart => exact ⟨0, rfl, Nat.zero_le _, rfl, Since.refl _⟩
  case round =>
    obtain ⟨i, rfl, hi, rfl, hs⟩ := hrel
    have hz := HB.out i (by rw [HN.out]; exact hi)
    by_cases hlt : i < n
    case neg =>
      obtain rfl : i = n := by omega
      have hf : decide ((i : Int) < (i : Int)) = false := by simp
      clear hz
      go_wp2_with fail
      go_ret2
      exact ⟨by rw [E.out, HE.out]; rfl, hs1.later hs⟩
    have hlt' : (i : Int) < (n : Int) := by omega
    obtain ⟨b, off, rfl, hbl, hc⟩ := H.out.snt (i := i) (by rw [HN.out]; exact hlt)
    obtain ⟨c0, c1, c2⟩ := hc wr (hs1.later hs) i (by rw [HN.out]; exact hlt)
    have lb : b < wr.heap.size := Nat.lt_of_lt_of_le hbl (hs1.later hs).le
    have hsm := HS.out (sat L i) (by rw [sat_get (by rw [HN.out]; exact hlt)]; exact List.getElem_mem _)
    have hst : zsum L (i + 1) = zsum L i + (sat L i).z := rfl
    have HST := Lib.hid hst
    generalize (sat L i).z = sz at *
    generalize (sat L i).n = sn at *
    generalize (sat L i).t = st at *
    generalize zsum L i = zi at *
    obtain ⟨_, _, _, _, z1, z2⟩ := hsm
    obtain ⟨z3, z4⟩ := hz
    have z5 : zi ≤ 6000 := by omega
    clear hc hst z4
    go_wp2_with fail
    go_roundw
    case rel => exact ⟨i + 1, by go_num, by omega, by rw [HST.out], hs.alloc _⟩
    case measure => simp [intOf]; omega
/-- is one of the first so many ranges as far, or above -/
def farB (M : List Rng) (x : Int) : Nat → Bool
  | 0 => false
  | k + 1 => farB M x k || decide (x ≤ (rat M k).hi)
theorem farB_top {M : List Rng} (h : rngE M = 0) (x : Int) : ∀ k, k ≤ M.length → farB M x k = (decide (0 < k) && decide (x ≤ (rat M 0).hi))
  | 0, _ => by simp [farB]
  | k + 1, hk => by
    rw [farB, farB_top h x k (by omega)]
    have ht := rng_top h k (by omega)
    by_cases h0 : k = 0
    · subst h0; simp
    · by_cases hx : x ≤ (rat M 0).hi
      · simp [hx]; omega
      · have hx2 : ¬ x ≤ (rat M k).hi := by omega
        simp [hx, hx2]
/-- what the reference calls lost -/
def lostBR (M : List Rng) (now wait : Int) (s : Snt) : Bool := farB M (s.n + 3) M.length || (farB M (s.n + 1) M.length && decide (wait ≤ now - s.t))
theorem lostBR_none (now wait : Int) (s : Snt) : lostBR [] now wait s = false := by simp [lostBR, farB]
theorem lostBR_eq {M : List Rng} (h : rngE M = 0) (hm : M.length ≠ 0) (now wait : Int) (s : Snt) : lostBR M now wait s = lostB (rat M 0).hi now wait s := by
  unfold lostBR lostB
  rw [farB_top h _ _ (Nat.le_refl _), farB_top h _ _ (Nat.le_refl _)]
  have hp : decide (0 < M.length) = true := by simp; omega
  rw [hp, Bool.true_and, Bool.true_and]
  congr 1
def lostRL (K : List Snt) (M : List Rng) (now wait : Int) : List Int := (K.filter (lostBR M now wait)).map Snt.n
theorem lostRL_eq {L : List Snt} {M : List Rng} {now wait : Int} (h : lostE L M now wait = 0) : lostRL (leftL L M) M now wait = lostL L M now wait := by
  have hr := (both_zero (lostE_both h).1).2
  by_cases hm : M.length = 0
  · rw [lostL_nil hm]
    have hM : M = [] := List.length_eq_zero_iff.1 hm
    subst hM
    unfold lostRL
    have : (leftL L []).filter (lostBR [] now wait) = [] := List.filter_eq_nil_iff.2 fun s _ => by rw [lostBR_none]; decide
    rw [this]
    rfl
  · rw [lostL_eq h hm]
    unfold lostRL lostOf
    congr 1
    exact List.filter_congr fun s _ => lostBR_eq hr hm now wait s
theorem leftL_snoc (L : List Snt) (M : List Rng) {i : Nat} (hi : i < L.length) : leftL (L.take (i + 1)) M = leftL (L.take i) M ++ (if inB M (sat L i).n = true then [] else [sat L i]) := by
  unfold leftL
  rw [List.take_succ_eq_append_getElem hi, List.filter_append, sat_get hi]
  cases hb : inB M L[i].n with
  | true => simp [hb]
  | false => simp [hb]
theorem lostRL_snoc (K : List Snt) (s : Snt) (M : List Rng) (now wait : Int) : lostRL (K ++ [s]) M now wait = lostRL K M now wait ++ (if lostBR M now wait s = true then [s.n] else []) := by
  unfold lostRL
  rw [List.filter_append, List.map_append]
  cases hb : lostBR M now wait s with
  | true => simp [hb]
  | false => simp [hb]
end Go.Proofs.YtaindcicloapfaaGreatDoor

/-! Contracts of package window: what each answers, for every window and number. No condition. -/
namespace Go.Proofs.YtaindcicloapfaaGreatDoor
open Go.ChangeShapes Go.WideShapes Go.ChangeAt Go.RowKit
set_option linter.unusedVariables false

abbrev winV (s l y : Int) : Value := .agg #[.int .i64 s, .int .i64 l, .int .i64 y]
abbrev winCells (s l y : Int) : Obj := .cells #[.int .i64 s, .int .i64 l, .int .i64 y] 87
/-- a right window -/
structure WinOk (s l y : Int) : Prop where
  s1 : 400 ≤ s
  s2 : s ≤ 100000
  l1 : 400 ≤ l
  l2 : l ≤ 100000
  y1 : 0 ≤ y
  y2 : y ≤ 100000
/-- a right window, and a packet -/
def PacOk (s l y n : Int) : Prop := WinOk s l y ∧ 1 ≤ n ∧ n ≤ 200

theorem wsize_yes (n : Int) (h1 : 400 ≤ n) (h2 : n ≤ 100000) (w : World) :
    Calls Tryz.prog 169 #[.int .i64 n] w fun e w' => e = .returned (.bool true) ∧ w = w' := by
  go_enter Tryz.func169, Tryz.ntmps169
  go_wp2
  go_ret
  exact ⟨rfl, rfl⟩
theorem wsize_no (n : Int) (h : ¬ (400 ≤ n ∧ n ≤ 100000)) (w : World) :
    Calls Tryz.prog 169 #[.int .i64 n] w fun e w' => e = .returned (.bool false) ∧ w = w' := by
  by_cases h1 : 400 ≤ n
  · have h2 : decide (n ≤ 100000) = false := by simp; omega
    clear h
    go_enter Tryz.func169, Tryz.ntmps169
    go_wp2
    go_ret
    exact ⟨rfl, rfl⟩
  · clear h
    go_enter Tryz.func169, Tryz.ntmps169
    go_wp2
    go_ret
    exact ⟨rfl, rfl⟩

theorem wcheck_yes (s l y : Int) (h : WinOk s l y) (w : World) :
    Calls Tryz.prog 134 #[.agg #[.int .i64 s, .int .i64 l, .int .i64 y]] w fun e w' => e = .returned .nilIface ∧ w.alloc (winCells s l y) = w' := by
  obtain ⟨s1, s2, l1, l2, y1, y2⟩ := h
  go_enter Tryz.func134, Tryz.ntmps134
  go_wp2_with (first | (go_at_call_of 169 (Value.int IntKind.i64 s); refine (wsize_yes s s1 s2 _).mono ?_; rintro e w' ⟨rfl, rfl⟩) | (go_at_call 169; refine (wsize_yes l l1 l2 _).mono ?_; rintro e w' ⟨rfl, rfl⟩))
  go_ret
  exact ⟨rfl, rfl⟩
theorem wcheck_no (s l y : Int) (h : ¬ WinOk s l y) (w : World) :
    Calls Tryz.prog 134 #[.agg #[.int .i64 s, .int .i64 l, .int .i64 y]] w fun e w' => e = .returned (.iface 118 (.int .i64 1)) ∧ w.alloc (winCells s l y) = w' := by
  by_cases hs : 400 ≤ s ∧ s ≤ 100000
  case neg =>
    clear h
    go_enter Tryz.func134, Tryz.ntmps134
    go_wp2_with (go_at_call 169; refine (wsize_no s hs _).mono ?_; rintro e w' ⟨rfl, rfl⟩)
    go_ret
    exact ⟨rfl, rfl⟩
  obtain ⟨s1, s2⟩ := hs
  by_cases hl : 400 ≤ l ∧ l ≤ 100000
  case neg =>
    have hne : s ≠ l := fun hh => hl ⟨by omega, by omega⟩
    clear h
    go_enter Tryz.func134, Tryz.ntmps134
    go_wp2_with (first | (go_at_call_of 169 (Value.int IntKind.i64 s); refine (wsize_yes s s1 s2 _).mono ?_; rintro e w' ⟨rfl, rfl⟩) | (go_at_call 169; refine (wsize_no l hl _).mono ?_; rintro e w' ⟨rfl, rfl⟩))
    go_ret
    exact ⟨rfl, rfl⟩
  obtain ⟨l1, l2⟩ := hl
  by_cases hy : 0 ≤ y
  · have hy2 : 100000 < y := by
      rcases Int.lt_or_le 100000 y with h3 | h3
      · exact h3
      · exact absurd ⟨s1, s2, l1, l2, hy, h3⟩ h
    clear h
    go_enter Tryz.func134, Tryz.ntmps134
    go_wp2_with (first | (go_at_call_of 169 (Value.int IntKind.i64 s); refine (wsize_yes s s1 s2 _).mono ?_; rintro e w' ⟨rfl, rfl⟩) | (go_at_call 169; refine (wsize_yes l l1 l2 _).mono ?_; rintro e w' ⟨rfl, rfl⟩))
    go_ret
    exact ⟨rfl, rfl⟩
  · clear h
    go_enter Tryz.func134, Tryz.ntmps134
    go_wp2_with (first | (go_at_call_of 169 (Value.int IntKind.i64 s); refine (wsize_yes s s1 s2 _).mono ?_; rintro e w' ⟨rfl, rfl⟩) | (go_at_call 169; refine (wsize_yes l l1 l2 _).mono ?_; rintro e w' ⟨rfl, rfl⟩))
    go_ret
    exact ⟨rfl, rfl⟩

theorem wpacket_yes (s l y n : Int) (h : PacOk s l y n) (w : World) :
    Calls Tryz.prog 96 #[.agg #[.int .i64 s, .int .i64 l, .int .i64 y], .int .i64 n] w fun e w' => e = .returned .nilIface ∧ (w.alloc (winCells s l y)).alloc (winCells s l y) = w' := by
  obtain ⟨hw, n1, n2⟩ := h
  go_enter Tryz.func96, Tryz.ntmps96
  go_wp2_with (go_at_call 134; refine (wcheck_yes s l y hw _).mono ?_; rintro e w' ⟨rfl, rfl⟩)
  go_ret
  exact ⟨rfl, rfl⟩
theorem wpacket_no (s l y n : Int) (h : ¬ PacOk s l y n) (w : World) :
    Calls Tryz.prog 96 #[.agg #[.int .i64 s, .int .i64 l, .int .i64 y], .int .i64 n] w fun e w' => e = .returned (.iface 118 (.int .i64 1)) ∧ (w.alloc (winCells s l y)).alloc (winCells s l y) = w' := by
  by_cases hw : WinOk s l y
  case neg =>
    clear h
    go_enter Tryz.func96, Tryz.ntmps96
    go_wp2_with (go_at_call 134; refine (wcheck_no s l y hw _).mono ?_; rintro e w' ⟨rfl, rfl⟩)
    go_ret
    exact ⟨rfl, rfl⟩
  by_cases hn : n < 1
  · clear h
    go_enter Tryz.func96, Tryz.ntmps96
    go_wp2_with (go_at_call 134; refine (wcheck_yes s l y hw _).mono ?_; rintro e w' ⟨rfl, rfl⟩)
    go_ret
    exact ⟨rfl, rfl⟩
  · have hn2 : 200 < n := by
      rcases Int.lt_or_le 200 n with h3 | h3
      · exact h3
      · exact absurd ⟨hw, by omega, h3⟩ h
    clear h
    go_enter Tryz.func96, Tryz.ntmps96
    go_wp2_with (go_at_call 134; refine (wcheck_yes s l y hw _).mono ?_; rintro e w' ⟨rfl, rfl⟩)
    go_ret
    exact ⟨rfl, rfl⟩

theorem wsend_yes (s l y n : Int) (h : PacOk s l y n) (hf : y + n ≤ s) (w : World) :
    Calls Tryz.prog 43 #[.agg #[.int .i64 s, .int .i64 l, .int .i64 y], .int .i64 n] w fun e w' => e = .returned (.tuple #[winV s l (y + n), .nilIface]) ∧ Below w.heap.size w w' := by
  have hh := h
  obtain ⟨⟨s1, s2, l1, l2, y1, y2⟩, n1, n2⟩ := hh
  go_enter Tryz.func43, Tryz.ntmps43
  go_wp2_with (go_at_call 96; refine (wpacket_yes s l y n h _).mono ?_; rintro e w' ⟨rfl, rfl⟩)
  refine bodyPost_ret (v := .tuple #[winV s l (y + n), .nilIface]) (by simp [results, Tryz.results43, go_sem]) rfl ⟨rfl, ?_⟩
  repeat (first | exact Below.refl _ _ | refine Below.alloc ?_ (by simp; omega) _ | refine Below.alloc ?_ (by simp) _)
theorem wsend_full (s l y n : Int) (h : PacOk s l y n) (hf : s < y + n) (w : World) :
    Calls Tryz.prog 43 #[.agg #[.int .i64 s, .int .i64 l, .int .i64 y], .int .i64 n] w fun e w' => e = .returned (.tuple #[winV 0 0 0, .iface 118 (.int .i64 8)]) ∧ Below w.heap.size w w' := by
  have hh := h
  obtain ⟨⟨s1, s2, l1, l2, y1, y2⟩, n1, n2⟩ := hh
  go_enter Tryz.func43, Tryz.ntmps43
  go_wp2_with (go_at_call 96; refine (wpacket_yes s l y n h _).mono ?_; rintro e w' ⟨rfl, rfl⟩)
  refine bodyPost_ret (v := .tuple #[winV 0 0 0, .iface 118 (.int .i64 8)]) (by simp [results, Tryz.results43, go_sem]) rfl ⟨rfl, ?_⟩
  repeat (first | exact Below.refl _ _ | refine Below.alloc ?_ (by simp; omega) _ | refine Below.alloc ?_ (by simp) _)
theorem wsend_no (s l y n : Int) (h : ¬ PacOk s l y n) (w : World) :
    Calls Tryz.prog 43 #[.agg #[.int .i64 s, .int .i64 l, .int .i64 y], .int .i64 n] w fun e w' => e = .returned (.tuple #[winV 0 0 0, .iface 118 (.int .i64 1)]) ∧ Below w.heap.size w w' := by
  go_enter Tryz.func43, Tryz.ntmps43
  go_wp2_with (go_at_call 96; refine (wpacket_no s l y n h _).mono ?_; rintro e w' ⟨rfl, rfl⟩)
  refine bodyPost_ret (v := .tuple #[winV 0 0 0, .iface 118 (.int .i64 1)]) (by simp [results, Tryz.results43, go_sem]) rfl ⟨rfl, ?_⟩
  repeat (first | exact Below.refl _ _ | refine Below.alloc ?_ (by simp; omega) _ | refine Below.alloc ?_ (by simp) _)

theorem wback_yes (s l y n : Int) (h : PacOk s l y n) (hf : n ≤ y) (w : World) :
    Calls Tryz.prog 99 #[.agg #[.int .i64 s, .int .i64 l, .int .i64 y], .int .i64 n] w fun e w' => e = .returned (.tuple #[winV s l (y - n), .nilIface]) ∧ (((w.alloc (winCells s l (y - n))).alloc (winCells s l (y - n))).alloc (winCells s l y)).alloc (winCells s l y) = w' := by
  have hh := h
  obtain ⟨⟨s1, s2, l1, l2, y1, y2⟩, n1, n2⟩ := hh
  go_enter Tryz.func99, Tryz.ntmps99
  go_wp2_with (go_at_call 96; refine (wpacket_yes s l y n h _).mono ?_; rintro e w' ⟨rfl, rfl⟩)
  exact bodyPost_ret (v := .tuple #[winV s l (y - n), .nilIface]) (by simp [results, Tryz.results99, go_sem]) rfl ⟨rfl, rfl⟩
theorem wback_shape (s l y n : Int) (h : PacOk s l y n) (hf : y < n) (w : World) :
    Calls Tryz.prog 99 #[.agg #[.int .i64 s, .int .i64 l, .int .i64 y], .int .i64 n] w fun e w' => e = .returned (.tuple #[winV 0 0 0, .iface 118 (.int .i64 3)]) ∧ (((w.alloc (winCells s l y)).alloc (winCells 0 0 0)).alloc (winCells s l y)).alloc (winCells s l y) = w' := by
  have hh := h
  obtain ⟨⟨s1, s2, l1, l2, y1, y2⟩, n1, n2⟩ := hh
  go_enter Tryz.func99, Tryz.ntmps99
  go_wp2_with (go_at_call 96; refine (wpacket_yes s l y n h _).mono ?_; rintro e w' ⟨rfl, rfl⟩)
  exact bodyPost_ret (v := .tuple #[winV 0 0 0, .iface 118 (.int .i64 3)]) (by simp [results, Tryz.results99, go_sem]) rfl ⟨rfl, rfl⟩
theorem wback_no (s l y n : Int) (h : ¬ PacOk s l y n) (w : World) :
    Calls Tryz.prog 99 #[.agg #[.int .i64 s, .int .i64 l, .int .i64 y], .int .i64 n] w fun e w' => e = .returned (.tuple #[winV 0 0 0, .iface 118 (.int .i64 1)]) ∧ (((w.alloc (winCells s l y)).alloc (winCells 0 0 0)).alloc (winCells s l y)).alloc (winCells s l y) = w' := by
  go_enter Tryz.func99, Tryz.ntmps99
  go_wp2_with (go_at_call 96; refine (wpacket_no s l y n h _).mono ?_; rintro e w' ⟨rfl, rfl⟩)
  exact bodyPost_ret (v := .tuple #[winV 0 0 0, .iface 118 (.int .i64 1)]) (by simp [results, Tryz.results99, go_sem]) rfl ⟨rfl, rfl⟩
/-- the fault of what is sent -/
def sendWE (s l y n : Int) : Int := if 400 ≤ s ∧ s ≤ 100000 ∧ 400 ≤ l ∧ l ≤ 100000 ∧ 0 ≤ y ∧ y ≤ 100000 ∧ 1 ≤ n ∧ n ≤ 200 then (if s < y + n then 8 else 0) else 1
theorem wsend_bad (s l y n : Int) (h : ¬ (PacOk s l y n ∧ y + n ≤ s)) (w : World) :
    Calls Tryz.prog 43 #[.agg #[.int .i64 s, .int .i64 l, .int .i64 y], .int .i64 n] w fun e w' => e = .returned (.tuple #[winV 0 0 0, .iface 118 (.int .i64 (sendWE s l y n))]) ∧ Below w.heap.size w w' := by
  by_cases hp : PacOk s l y n
  · have hlt : s < y + n := by
      rcases Int.lt_or_le s (y + n) with h3 | h3
      · exact h3
      · exact absurd ⟨hp, h3⟩ h
    have he : sendWE s l y n = 8 := by
      obtain ⟨⟨a, b, c, d, e, f⟩, g, i⟩ := hp
      unfold sendWE
      rw [if_pos ⟨a, b, c, d, e, f, g, i⟩, if_pos hlt]
    rw [he]
    exact wsend_full s l y n hp hlt w
  · have he : sendWE s l y n = 1 := by
      unfold sendWE
      rw [if_neg]
      rintro ⟨a, b, c, d, e, f, g, i⟩
      exact hp ⟨⟨a, b, c, d, e, f⟩, g, i⟩
    rw [he]
    exact wsend_no s l y n hp w
/-- whatever Send gives -/
def SendGives (w : World) (e : Ending) (w' : World) : Prop := ∃ a b c er, e = .returned (.tuple #[winV a b c, er]) ∧ Below w.heap.size w w'
theorem wsend_any (s l y n : Int) (w : World) :
    Calls Tryz.prog 43 #[.agg #[.int .i64 s, .int .i64 l, .int .i64 y], .int .i64 n] w (SendGives w) := by
  by_cases h : PacOk s l y n ∧ y + n ≤ s
  · exact (wsend_yes s l y n h.1 h.2 w).mono fun e w' ⟨h1, h2⟩ => ⟨_, _, _, _, h1, h2⟩
  · exact (wsend_bad s l y n h w).mono fun e w' ⟨h1, h2⟩ => ⟨_, _, _, _, h1, h2⟩

/-- the fault of what comes back -/
def backE (s l y n : Int) : Int := if 400 ≤ s ∧ s ≤ 100000 ∧ 400 ≤ l ∧ l ≤ 100000 ∧ 0 ≤ y ∧ y ≤ 100000 ∧ 1 ≤ n ∧ n ≤ 200 then (if y < n then 3 else 0) else 1
theorem backE_no {s l y n : Int} (h : ¬ PacOk s l y n) : backE s l y n = 1 := by
  unfold backE
  rw [if_neg]
  rintro ⟨a, b, c, d, e, f, g, i⟩
  exact h ⟨⟨a, b, c, d, e, f⟩, g, i⟩
theorem backE_ok {s l y n : Int} (h : PacOk s l y n) : backE s l y n = if y < n then 3 else 0 := by
  unfold backE
  obtain ⟨⟨a, b, c, d, e, f⟩, g, i⟩ := h
  rw [if_pos ⟨a, b, c, d, e, f, g, i⟩]
theorem wback_bad (s l y n : Int) (h : ¬ (PacOk s l y n ∧ n ≤ y)) (w : World) :
    Calls Tryz.prog 99 #[.agg #[.int .i64 s, .int .i64 l, .int .i64 y], .int .i64 n] w fun e w' => e = .returned (.tuple #[winV 0 0 0, .iface 118 (.int .i64 (backE s l y n))]) ∧ (((w.alloc (winCells s l y)).alloc (winCells 0 0 0)).alloc (winCells s l y)).alloc (winCells s l y) = w' := by
  by_cases hp : PacOk s l y n
  · have hlt : y < n := by
      rcases Int.lt_or_le y n with h3 | h3
      · exact h3
      · exact absurd ⟨hp, h3⟩ h
    rw [backE_ok hp, if_pos hlt]
    exact wback_shape s l y n hp hlt w
  · rw [backE_no hp]
    exact wback_no s l y n hp w

/-- the size behind what came -/
def cameS (s l n : Int) : Int := if s + (if l ≤ s then n * 200 / s else n) < 100000 then s + (if l ≤ s then n * 200 / s else n) else 100000
theorem moreN (s n : Int) (s1 : 400 ≤ s) (n1 : 1 ≤ n) (n2 : n ≤ 200) : 0 ≤ n * 200 / s ∧ n * 200 / s ≤ 40000 :=
  ⟨Int.ediv_nonneg (by omega) (by omega), Int.le_trans (Int.ediv_le_self _ (by omega)) (by omega)⟩
theorem cameS_bounds (s l n : Int) (s1 : 400 ≤ s) (s2 : s ≤ 100000) (n1 : 1 ≤ n) (n2 : n ≤ 200) : s ≤ cameS s l n ∧ cameS s l n ≤ 100000 := by
  have := moreN s n s1 n1 n2
  unfold cameS
  generalize n * 200 / s = q at *
  omega
theorem wcame_yes (s l y n : Int) (h : PacOk s l y n) (hf : n ≤ y) (w : World) :
    Calls Tryz.prog 46 #[.agg #[.int .i64 s, .int .i64 l, .int .i64 y], .int .i64 n] w fun e w' => e = .returned (.tuple #[winV (cameS s l n) l (y - n), .nilIface]) ∧ Below w.heap.size w w' := by
  have hh := h
  obtain ⟨⟨s1, s2, l1, l2, y1, y2⟩, n1, n2⟩ := hh
  obtain ⟨q1, q2⟩ := moreN s n s1 n1 n2
  go_enter Tryz.func46, Tryz.ntmps46
  go_wp2_with (go_at_call 99; refine (wback_yes s l y n h hf _).mono ?_; rintro e w' ⟨rfl, rfl⟩)
  all_goals
    refine bodyPost_ret (v := .tuple #[winV (cameS s l n) l (y - n), .nilIface]) (by simp [results, Tryz.results46, go_sem]; unfold cameS; generalize n * 200 / s = q at *; omega) rfl ⟨rfl, ?_⟩
    repeat (first | exact Below.refl _ _ | refine Below.alloc ?_ (by simp; omega) _ | refine Below.alloc ?_ (by simp) _)
theorem wcame_no (s l y n : Int) (h : ¬ (PacOk s l y n ∧ n ≤ y)) (w : World) :
    Calls Tryz.prog 46 #[.agg #[.int .i64 s, .int .i64 l, .int .i64 y], .int .i64 n] w fun e w' => e = .returned (.tuple #[winV 0 0 0, .iface 118 (.int .i64 (backE s l y n))]) ∧ Below w.heap.size w w' := by
  go_enter Tryz.func46, Tryz.ntmps46
  go_wp2_with (go_at_call 99; refine (wback_bad s l y n h _).mono ?_; rintro e w' ⟨rfl, rfl⟩)
  refine bodyPost_ret (v := .tuple #[winV 0 0 0, .iface 118 (.int .i64 (backE s l y n))]) (by simp [results, Tryz.results46, go_sem]) rfl ⟨rfl, ?_⟩
  repeat (first | exact Below.refl _ _ | refine Below.alloc ?_ (by simp; omega) _ | refine Below.alloc ?_ (by simp) _)

/-- the size behind what was lost -/
def lostS (s : Int) : Int := if 400 < s / 2 then s / 2 else 400
theorem wlost_yes (s l y n : Int) (h : PacOk s l y n) (hf : n ≤ y) (w : World) :
    Calls Tryz.prog 47 #[.agg #[.int .i64 s, .int .i64 l, .int .i64 y], .int .i64 n] w fun e w' => e = .returned (.tuple #[winV (lostS s) (lostS s) (y - n), .nilIface]) ∧ Below w.heap.size w w' := by
  have hh := h
  obtain ⟨⟨s1, s2, l1, l2, y1, y2⟩, n1, n2⟩ := hh
  go_enter Tryz.func47, Tryz.ntmps47
  go_wp2_with (go_at_call 99; refine (wback_yes s l y n h hf _).mono ?_; rintro e w' ⟨rfl, rfl⟩)
  all_goals
    refine bodyPost_ret (v := .tuple #[winV (lostS s) (lostS s) (y - n), .nilIface]) (by simp [results, Tryz.results47, go_sem]; unfold lostS; try omega) rfl ⟨rfl, ?_⟩
    repeat (first | exact Below.refl _ _ | refine Below.alloc ?_ (by simp; omega) _ | refine Below.alloc ?_ (by simp) _)
theorem wlost_no (s l y n : Int) (h : ¬ (PacOk s l y n ∧ n ≤ y)) (w : World) :
    Calls Tryz.prog 47 #[.agg #[.int .i64 s, .int .i64 l, .int .i64 y], .int .i64 n] w fun e w' => e = .returned (.tuple #[winV 0 0 0, .iface 118 (.int .i64 (backE s l y n))]) ∧ Below w.heap.size w w' := by
  go_enter Tryz.func47, Tryz.ntmps47
  go_wp2_with (go_at_call 99; refine (wback_bad s l y n h _).mono ?_; rintro e w' ⟨rfl, rfl⟩)
  refine bodyPost_ret (v := .tuple #[winV 0 0 0, .iface 118 (.int .i64 (backE s l y n))]) (by simp [results, Tryz.results47, go_sem]) rfl ⟨rfl, ?_⟩
  repeat (first | exact Below.refl _ _ | refine Below.alloc ?_ (by simp; omega) _ | refine Below.alloc ?_ (by simp) _)

theorem lostS_bounds (s : Int) (s1 : 400 ≤ s) (s2 : s ≤ 100000) : 400 ≤ lostS s ∧ lostS s ≤ s := by unfold lostS; omega
end Go.Proofs.YtaindcicloapfaaGreatDoor

/-! Contracts of package window and of the reference's Window in one piece each: what each answers, for every window and number. No condition. -/
namespace Go.Proofs.YtaindcicloapfaaGreatDoor
open Go.ChangeShapes Go.WideShapes Go.ChangeAt Go.RowKit
set_option linter.unusedVariables false

/-- a value where nothing is wrong, 0 with an error -/
def sel (e x : Int) : Int := if e = 0 then x else 0
theorem sel_ok (x : Int) : sel 0 x = x := by unfold sel; rw [if_pos rfl]
theorem sel_bad {e : Int} (h : e ≠ 0) (x : Int) : sel e x = 0 := by unfold sel; rw [if_neg h]
instance (s l y : Int) : Decidable (WinOk s l y) := decidable_of_iff (400 ≤ s ∧ s ≤ 100000 ∧ 400 ≤ l ∧ l ≤ 100000 ∧ 0 ≤ y ∧ y ≤ 100000) ⟨fun ⟨a, b, c, d, e, f⟩ => ⟨a, b, c, d, e, f⟩, fun ⟨a, b, c, d, e, f⟩ => ⟨a, b, c, d, e, f⟩⟩
instance (s l y n : Int) : Decidable (PacOk s l y n) := by unfold PacOk; infer_instance
/-- the fault of a window, and a packet -/
def wE (s l y n : Int) : Int := if PacOk s l y n then 0 else 1
theorem wE_one (s l y : Int) : wE s l y 1 = if WinOk s l y then 0 else 1 := by
  unfold wE
  by_cases h : WinOk s l y
  · rw [if_pos (show PacOk s l y 1 from ⟨h, by omega, by omega⟩), if_pos h]
  · rw [if_neg (fun k : PacOk s l y 1 => h k.1), if_neg h]
theorem sendWE_eq (s l y n : Int) : sendWE s l y n = if PacOk s l y n then (if s < y + n then 8 else 0) else 1 := by
  unfold sendWE
  by_cases h : PacOk s l y n
  · rw [if_pos h]
    obtain ⟨⟨a, b, c, d, e, f⟩, g, i⟩ := h
    rw [if_pos ⟨a, b, c, d, e, f, g, i⟩]
  · rw [if_neg h, if_neg (fun ⟨a, b, c, d, e, f, g, i⟩ => h ⟨⟨a, b, c, d, e, f⟩, g, i⟩)]
theorem backE_eq (s l y n : Int) : backE s l y n = if PacOk s l y n then (if y < n then 3 else 0) else 1 := by
  by_cases h : PacOk s l y n
  · rw [if_pos h, backE_ok h]
  · rw [if_neg h, backE_no h]

theorem wcheck_all (s l y : Int) (w : World) :
    Calls Tryz.prog 134 #[.agg #[.int .i64 s, .int .i64 l, .int .i64 y]] w fun e w' => e = .returned (errV (wE s l y 1)) ∧ w.alloc (winCells s l y) = w' := by
  rw [wE_one]
  by_cases h : WinOk s l y
  · rw [if_pos h]; exact wcheck_yes s l y h w
  · rw [if_neg h]; exact wcheck_no s l y h w
theorem wsend_all (s l y n : Int) (w : World) :
    Calls Tryz.prog 43 #[.agg #[.int .i64 s, .int .i64 l, .int .i64 y], .int .i64 n] w fun e w' => e = .returned (.tuple #[winV (sel (sendWE s l y n) s) (sel (sendWE s l y n) l) (sel (sendWE s l y n) (y + n)), errV (sendWE s l y n)]) ∧ Below w.heap.size w w' := by
  by_cases h : PacOk s l y n ∧ y + n ≤ s
  · have e : sendWE s l y n = 0 := by rw [sendWE_eq, if_pos h.1, if_neg (by omega)]
    rw [e, sel_ok, sel_ok, sel_ok]
    exact wsend_yes s l y n h.1 h.2 w
  · have e : sendWE s l y n ≠ 0 := by
      rw [sendWE_eq]
      by_cases hp : PacOk s l y n
      · rw [if_pos hp, if_pos (by rcases Int.lt_or_le s (y + n) with h1 | h1; exact h1; exact absurd ⟨hp, h1⟩ h)]
        decide
      · rw [if_neg hp]
        decide
    rw [sel_bad e, sel_bad e, sel_bad e, errV_pos e]
    exact wsend_bad s l y n h w
theorem backE_zero {s l y n : Int} (h : PacOk s l y n ∧ n ≤ y) : backE s l y n = 0 := by rw [backE_eq, if_pos h.1, if_neg (by omega)]
theorem backE_bad {s l y n : Int} (h : ¬ (PacOk s l y n ∧ n ≤ y)) : backE s l y n ≠ 0 := by
  rw [backE_eq]
  by_cases hp : PacOk s l y n
  · rw [if_pos hp, if_pos (by rcases Int.lt_or_le y n with h1 | h1; exact h1; exact absurd ⟨hp, h1⟩ h)]
    decide
  · rw [if_neg hp]
    decide
theorem wcame_all (s l y n : Int) (w : World) :
    Calls Tryz.prog 46 #[.agg #[.int .i64 s, .int .i64 l, .int .i64 y], .int .i64 n] w fun e w' => e = .returned (.tuple #[winV (sel (backE s l y n) (cameS s l n)) (sel (backE s l y n) l) (sel (backE s l y n) (y - n)), errV (backE s l y n)]) ∧ Below w.heap.size w w' := by
  by_cases h : PacOk s l y n ∧ n ≤ y
  · rw [backE_zero h, sel_ok, sel_ok, sel_ok]
    exact wcame_yes s l y n h.1 h.2 w
  · have e := backE_bad h
    rw [sel_bad e, sel_bad e, sel_bad e, errV_pos e]
    exact wcame_no s l y n h w
theorem wlost_all (s l y n : Int) (w : World) :
    Calls Tryz.prog 47 #[.agg #[.int .i64 s, .int .i64 l, .int .i64 y], .int .i64 n] w fun e w' => e = .returned (.tuple #[winV (sel (backE s l y n) (lostS s)) (sel (backE s l y n) (lostS s)) (sel (backE s l y n) (y - n)), errV (backE s l y n)]) ∧ Below w.heap.size w w' := by
  by_cases h : PacOk s l y n ∧ n ≤ y
  · rw [backE_zero h, sel_ok, sel_ok]
    exact wlost_yes s l y n h.1 h.2 w
  · have e := backE_bad h
    rw [sel_bad e, sel_bad e, errV_pos e]
    exact wlost_no s l y n h w
end Go.Proofs.YtaindcicloapfaaGreatDoor

/-! What is under way, in plain words: of packets that were sent what came and what was lost comes off the window; what is left stays. And wireref1.In0 by a contract. Condition: the slices can be read. -/
namespace Go.Proofs.YtaindcicloapfaaGreatDoor
open Go.ChangeShapes Go.WideShapes Go.ChangeAt Go.RowKit
set_option linter.unusedVariables false

/-- how many bytes these are -/
def zs : List Snt → Int
  | [] => 0
  | s :: r => s.z + zs r
theorem zs_app (K L : List Snt) : zs (K ++ L) = zs K + zs L := by
  induction K with
  | nil => show zs L = 0 + zs L; omega
  | cons s K ih => show s.z + zs (K ++ L) = s.z + zs K + zs L; rw [ih]; omega
theorem zs_zsum (L : List Snt) : ∀ n, n ≤ L.length → zsum L n = zs (L.take n)
  | 0, _ => rfl
  | n + 1, h => by
    rw [zsum, zs_zsum L n (by omega), List.take_succ_eq_append_getElem (by omega), zs_app, sat_get (by omega)]
    show zs (L.take n) + L[n].z = zs (L.take n) + (L[n].z + 0)
    omega
theorem wayN_zs {L : List Snt} (h : sntE L = 0) : wayN L = zs L := by
  unfold wayN
  rw [if_pos h, zs_zsum L _ (Nat.le_refl _), List.take_length]
theorem zs_bound : ∀ {L : List Snt}, (∀ s ∈ L, 1 ≤ s.z ∧ s.z ≤ 200) → 0 ≤ zs L ∧ zs L ≤ 200 * L.length
  | [], _ => by simp [zs]
  | s :: r, h => by
    have := h s (by simp)
    have ih := zs_bound (L := r) (fun x hx => h x (by simp [hx]))
    show 0 ≤ s.z + zs r ∧ s.z + zs r ≤ 200 * ((r.length + 1 : Nat) : Int)
    omega
theorem zs_filter {p : Snt → Bool} : ∀ {L : List Snt}, (∀ s ∈ L, 1 ≤ s.z ∧ s.z ≤ 200) → zs (L.filter p) ≤ zs L
  | [], _ => by simp
  | s :: r, h => by
    have := h s (by simp)
    have ih := zs_filter (p := p) (L := r) (fun x hx => h x (by simp [hx]))
    rw [List.filter_cons]
    split
    · show s.z + zs _ ≤ s.z + zs r; omega
    · show zs _ ≤ s.z + zs r; omega
theorem leftL_sub {L : List Snt} {M : List Rng} : ∀ s ∈ leftL L M, s ∈ L := fun s hs => (List.mem_filter.1 hs).1
theorem sntE_left {L : List Snt} {M : List Rng} (h : sntE L = 0) : sntE (leftL L M) = 0 := by
  have hl := snt_len h
  have hle : (leftL L M).length ≤ L.length := List.length_filter_le _ _
  have hal : ∀ r ∈ leftL L M, 0 ≤ r.n ∧ r.n ≤ 1073741823 ∧ 0 ≤ r.t ∧ r.t ≤ 100000 ∧ 1 ≤ r.z ∧ r.z ≤ 200 := fun r hr => snt_all h r (leftL_sub r hr)
  have hso : (leftL L M).Pairwise (fun a b => a.n < b.n) := (snt_sorted h).filter _
  have htm : (leftL L M).Pairwise (fun a b => a.t ≤ b.t) := by
    have : L.Pairwise (fun a b => a.t ≤ b.t) := by
      rw [List.pairwise_iff_getElem]
      intro i j hi hj hij
      obtain ⟨k, rfl⟩ : ∃ k, j = i + 1 + k := ⟨j - (i + 1), by omega⟩
      induction k with
      | zero => exact (snt_step h hj).2
      | succ k ih =>
        have h1 := ih (by omega) (by omega)
        have h2 := (snt_step h (i := i + 1 + k) hj).2
        have h3 : L[i + 1 + (k + 1)].t = L[i + 1 + k + 1].t := rfl
        omega
    exact this.filter _
  generalize leftL L M = K at *
  unfold sntE
  rw [if_neg (by omega)]
  have hup : ∀ n, n ≤ K.length → sntUp K n = 0 := by
    intro n
    induction n with
    | zero => intro _; rfl
    | succ n ih =>
      intro hn
      refine sntUp_ok (ih (by omega)) ?_
      unfold sntOne
      rw [sat_get (show n < K.length by omega)]
      have ha := hal K[n] (List.getElem_mem _)
      rw [if_pos ⟨mayB_iff.2 ⟨ha.1, ha.2.1⟩, ha.2.2⟩]
      by_cases h0 : 0 < n
      · rw [if_neg]
        rintro ⟨_, hc⟩
        rw [sat_get (show n - 1 < K.length by omega)] at hc
        have h1 := (List.pairwise_iff_getElem.1 hso) (n - 1) n (by omega) (by omega) (by omega)
        have h2 := (List.pairwise_iff_getElem.1 htm) (n - 1) n (by omega) (by omega) (by omega)
        omega
      · rw [if_neg (fun hc => h0 hc.1)]
  exact hup _ (Nat.le_refl _)
/-- under way behind i steps; what is left of them -/
def flB (M : List Rng) (X : List Int) (s : Snt) : Bool := !inB M s.n && !decide (s.n ∈ X)
def flY (L : List Snt) (M : List Rng) (X : List Int) (i : Nat) : Int := zs (L.drop i) + zs ((L.take i).filter (flB M X))
def flR (L : List Snt) (M : List Rng) (X : List Int) (i : Nat) : Int := zs ((L.drop i).filter fun s => !inB M s.n) + zs ((L.take i).filter (flB M X))
theorem flY_zero (L : List Snt) (M : List Rng) (X : List Int) : flY L M X 0 = zs L := by
  unfold flY; rw [List.drop_zero, List.take_zero]; show zs L + 0 = _; omega
theorem flR_zero (L : List Snt) (M : List Rng) (X : List Int) : flR L M X 0 = zs (leftL L M) := by
  unfold flR leftL; rw [List.drop_zero, List.take_zero]; show _ + 0 = _; omega
theorem fl_end (L : List Snt) (M : List Rng) (X : List Int) : flY L M X L.length = flR L M X L.length := by
  unfold flY flR; rw [List.drop_length]; rfl
theorem fl_step {L : List Snt} {M : List Rng} {X : List Int} {i : Nat} (hi : i < L.length) (hx : inB M (sat L i).n = true → ¬ (sat L i).n ∈ X) :
    flY L M X (i + 1) = (if inB M (sat L i).n = true ∨ (sat L i).n ∈ X then flY L M X i - (sat L i).z else flY L M X i) ∧
    flR L M X (i + 1) = (if (sat L i).n ∈ X then flR L M X i - (sat L i).z else flR L M X i) := by
  rw [sat_get hi] at hx ⊢
  have e1 : L.drop i = L[i] :: L.drop (i + 1) := List.drop_eq_getElem_cons hi
  have e2 : L.take (i + 1) = L.take i ++ [L[i]] := List.take_succ_eq_append_getElem hi
  have k1 : flY L M X (i + 1) = zs (L.drop (i + 1)) + (zs ((L.take i).filter (flB M X)) + zs ([L[i]].filter (flB M X))) := by unfold flY; rw [e2, List.filter_append, zs_app]
  have k2 : flR L M X (i + 1) = zs ((L.drop (i + 1)).filter fun s => !inB M s.n) + (zs ((L.take i).filter (flB M X)) + zs ([L[i]].filter (flB M X))) := by unfold flR; rw [e2, List.filter_append, zs_app]
  have k3 : flY L M X i = L[i].z + zs (L.drop (i + 1)) + zs ((L.take i).filter (flB M X)) := by unfold flY; rw [e1]; rfl
  have k4 : flR L M X i = (if inB M L[i].n = true then 0 else L[i].z) + zs ((L.drop (i + 1)).filter fun s => !inB M s.n) + zs ((L.take i).filter (flB M X)) := by
    unfold flR
    rw [e1, List.filter_cons]
    cases hb : inB M L[i].n with
    | true => simp
    | false => simp; rfl
  have k5 : zs ([L[i]].filter (flB M X)) = if flB M X L[i] = true then L[i].z else 0 := by
    rw [List.filter_cons]
    split
    · show L[i].z + 0 = _; omega
    · rfl
  rw [k1, k2, k3, k4, k5]
  cases hb : inB M L[i].n with
  | true =>
    have hx' := hx hb
    have hf : flB M X L[i] = false := by unfold flB; rw [hb]; rfl
    rw [hf, if_pos (Or.inl rfl), if_neg hx', if_neg (by decide), if_pos rfl]
    omega
  | false =>
    by_cases hm : L[i].n ∈ X
    · have hf : flB M X L[i] = false := by unfold flB; rw [decide_eq_true hm]; simp
      rw [hf, if_pos (Or.inr hm), if_pos hm, if_neg (by decide), if_neg (by decide)]
      omega
    · have hf : flB M X L[i] = true := by unfold flB; rw [hb, decide_eq_false hm]; rfl
      rw [hf, if_neg (show ¬ (false = true ∨ L[i].n ∈ X) by simp [hm]), if_neg hm, if_pos rfl, if_neg (by decide)]
      omega
theorem fl_bound {L : List Snt} {M : List Rng} {X : List Int} {i : Nat} (h : sntE L = 0) (hi : i ≤ L.length) : 0 ≤ flY L M X i ∧ flY L M X i ≤ 6000 ∧ 0 ≤ flR L M X i ∧ flR L M X i ≤ 6000 ∧ (i < L.length → (sat L i).z ≤ flY L M X i) := by
  have hal : ∀ r ∈ L, 1 ≤ r.z ∧ r.z ≤ 200 := fun r hr => (snt_all h r hr).2.2.2.2
  have hl := snt_len h
  have a1 := zs_bound (L := L.drop i) (fun s hs => hal s (List.mem_of_mem_drop hs))
  have a2 := zs_bound (L := (L.take i).filter (flB M X)) (fun s hs => hal s (List.mem_of_mem_take ((List.mem_filter.1 hs).1)))
  have a3 := zs_bound (L := (L.drop i).filter fun s => !inB M s.n) (fun s hs => hal s (List.mem_of_mem_drop ((List.mem_filter.1 hs).1)))
  have b1 : (L.drop i).length = L.length - i := List.length_drop
  have b2 : ((L.take i).filter (flB M X)).length ≤ i := Nat.le_trans (List.length_filter_le _ _) (by rw [List.length_take]; omega)
  have b3 : ((L.drop i).filter fun s => !inB M s.n).length ≤ L.length - i := Nat.le_trans (List.length_filter_le _ _) (by omega)
  unfold flY flR
  refine ⟨by omega, by omega, by omega, by omega, fun hlt => ?_⟩
  have e1 : L.drop i = L[i] :: L.drop (i + 1) := List.drop_eq_getElem_cons hlt
  have a4 := zs_bound (L := L.drop (i + 1)) (fun s hs => hal s (List.mem_of_mem_drop hs))
  rw [e1, sat_get hlt]
  show L[i].z ≤ L[i].z + zs (L.drop (i + 1)) + _
  omega
/-- what is lost did not come, and is old, or far behind -/
theorem lost_why {L : List Snt} {M : List Rng} {now wait : Int} (h : lostE L M now wait = 0) {i : Nat} (hi : i < L.length) (hx : (sat L i).n ∈ lostL L M now wait) :
    inB M (sat L i).n = false ∧ M.length ≠ 0 ∧ ¬ (now - (sat L i).t < wait ∧ (rat M 0).hi < (sat L i).n + 3) := by
  have hm : M.length ≠ 0 := fun h0 => by rw [lostL_nil h0] at hx; cases hx
  rw [lostL_eq h hm] at hx
  obtain ⟨s, hs, hn, hb⟩ := lost_mem hx
  have hse := (both_zero (lostE_both h).1).1
  have hsL := leftL_sub s hs
  obtain ⟨j, hj, rfl⟩ := List.getElem_of_mem hsL
  rw [sat_get hi] at hn ⊢
  have hij : j = i := by
    rcases Nat.lt_trichotomy j i with h1 | h1 | h1
    · have := (List.pairwise_iff_getElem.1 (snt_sorted hse)) j i hj hi h1; omega
    · exact h1
    · have := (List.pairwise_iff_getElem.1 (snt_sorted hse)) i j hi hj h1; omega
  subst hij
  refine ⟨left_not hs, hm, ?_⟩
  unfold lostB at hb
  simp at hb
  omega
set_option maxHeartbeats 1600000 in
theorem rin0 (A : Option Addr) (n cap : Nat) (X : List Int) (x : Int) (w : World) (hn : X.length = n) (h : Lst w 3 1 (.slice A n cap) (X.map intRow)) :
    Calls Tryz.prog 45 #[.slice A n cap, .int .i64 x] w fun e w' => e = .returned (.bool (decide (x ∈ X))) ∧ Below w.heap.size w w' := by
  have H := Lib.hid h
  have HN := Lib.hid hn
  have hcm : n ≤ 9223372036854775807 := by
    obtain ⟨A', cap', hv, h1, h2, _⟩ := h.shape
    rw [List.length_map, hn] at h1
    unfold maxLen at h2
    omega
  clear h hn
  go_enter Tryz.func45, Tryz.ntmps45
  go_wp2_with fail
  go_loopw [5] (fun s5 wr => ∃ i : Nat, s5 = .int .i64 i ∧ i ≤ n ∧ Hid (∀ j, j < i → ith X j ≠ x) ∧ Since w wr) (fun s5 _ => n - (intOf s5).toNat)
  case atStart => exact ⟨0, rfl, Nat.zero_le _, Lib.hid (fun j hj => by omega), Since.refl _⟩
  case round =>
    obtain ⟨i, rfl, hi, HU, hs⟩ := hrel
    by_cases hlt : i < n
    case neg =>
      obtain rfl : i = n := by omega
      have hf : decide ((i : Int) < (i : Int)) = false := by simp
      have E : Hid (decide (x ∈ X) = false) := Lib.hid (decide_eq_false (fun hm => by
        obtain ⟨j, hj, he⟩ := List.getElem_of_mem hm
        exact HU.out j (by rw [← HN.out]; exact hj) (by rw [ith_get hj]; exact he)))
      go_wp2_with fail
      go_ret
      exact ⟨by rw [E.out]; rfl, (by refine Since.out ?_; repeat (first | with_reducible assumption | with_reducible exact Since.refl _ | with_reducible refine Since.later ?_ (by with_reducible assumption) | with_reducible refine Since.only ?_ (by with_reducible assumption) (by first | assumption | omega | (simp; done) | (simp; omega)) | with_reducible refine Since.alloc ?_ _ | with_reducible refine Since.drewN ?_ _ | with_reducible refine Since.drew ?_ | with_reducible refine Since.set ?_ (by first | assumption | omega | (simp; done) | (simp; omega)) _))⟩
    have hlt' : (i : Int) < (n : Int) := by omega
    obtain ⟨A', cap', hve, hz1, hz2, hA⟩ := H.out.shape
    rw [List.length_map, HN.out] at hve
    simp only [Value.slice.injEq] at hve
    obtain ⟨rfl, -, rfl⟩ := hve
    rcases hA with ⟨_, h0, _⟩ | ⟨q, rfl⟩
    · have h1 : X = [] := by simpa using h0
      have := HN.out
      rw [h1] at this
      simp at this
      omega
    have c0 : wr.cell? ⟨q, i, none⟩ = some (.int .i64 (ith X i)) := intLst.at_ (H.out.later hs) (by rw [HN.out]; exact hlt)
    have lq : q < wr.heap.size := World.block_lt_of_cell? wr _ c0
    have HX : Hid (ith X i = x → x ∈ X) := Lib.hid (fun he => by rw [← he, ith_get (by rw [HN.out]; exact hlt)]; exact List.getElem_mem _)
    have HW : Hid (ith X i ≠ x → ∀ j, j < i + 1 → ith X j ≠ x) := Lib.hid (fun he j hj => by
      rcases Nat.lt_succ_iff_lt_or_eq.1 hj with h1 | h1
      · exact HU.out j h1
      · rw [h1]; exact he)
    generalize ith X i = xi at *
    by_cases he : xi = x
    · have he' : (xi == x) = true := by simpa using he
      have E := Lib.hid (HX.out he)
      clear he
      go_wp2_with fail
      go_ret
      exact ⟨by rw [decide_eq_true E.out]; rfl, (by refine Since.out ?_; repeat (first | with_reducible assumption | with_reducible exact Since.refl _ | with_reducible refine Since.later ?_ (by with_reducible assumption) | with_reducible refine Since.only ?_ (by with_reducible assumption) (by first | assumption | omega | (simp; done) | (simp; omega)) | with_reducible refine Since.alloc ?_ _ | with_reducible refine Since.drewN ?_ _ | with_reducible refine Since.drew ?_ | with_reducible refine Since.set ?_ (by first | assumption | omega | (simp; done) | (simp; omega)) _))⟩
    · have he' : (xi == x) = false := by simpa using he
      have E := Lib.hid (HW.out he)
      clear he
      go_wp2_with fail
      go_roundw
      case rel => exact ⟨i + 1, by go_num, by omega, E, hs⟩
      case measure => simp [intOf]; omega
end Go.Proofs.YtaindcicloapfaaGreatDoor

/-! Contracts of trip.Time, trip.right, trip.First, trip.Next, trip.Wait: what each returns, for every argument; the world has at most new blocks. No condition but that the arguments are ints. -/
namespace Go.Proofs.YtaindcicloapfaaGreatDoor
open Go.ChangeShapes Go.WideShapes Go.ChangeAt Go.RowKit
set_option linter.unusedVariables false

theorem time_yes (t : Int) (h1 : 1 ≤ t) (h2 : t ≤ 100000) (w : World) :
    Calls Tryz.prog 91 #[.int .i64 t] w fun e w' => e = .returned (.bool true) ∧ w = w' := by
  go_enter Tryz.func91, Tryz.ntmps91
  go_wp2
  go_ret
  exact ⟨rfl, rfl⟩
theorem time_no (t : Int) (h : ¬ (1 ≤ t ∧ t ≤ 100000)) (w : World) :
    Calls Tryz.prog 91 #[.int .i64 t] w fun e w' => e = .returned (.bool false) ∧ w = w' := by
  by_cases h1 : 1 ≤ t
  · have h2 : decide (t ≤ 100000) = false := by simp; omega
    clear h
    go_enter Tryz.func91, Tryz.ntmps91
    go_wp2
    go_ret
    exact ⟨rfl, rfl⟩
  · clear h
    go_enter Tryz.func91, Tryz.ntmps91
    go_wp2
    go_ret
    exact ⟨rfl, rfl⟩

/-- the three cells of a Trip -/
abbrev tripCells (s v l : Int) : Obj := .cells #[.int .i64 s, .int .i64 v, .int .i64 l] 76
/-- a Trip by value -/
abbrev tripV (s v l : Int) : Value := .agg #[.int .i64 s, .int .i64 v, .int .i64 l]

theorem first_yes (t : Int) (h1 : 1 ≤ t) (h2 : t ≤ 100000) (w : World) :
    Calls Tryz.prog 38 #[.int .i64 t] w fun e w' => e = .returned (.tuple #[.agg #[.int .i64 (8 * t), .int .i64 (4 * t), .int .i64 t], .nilIface]) ∧ w.alloc (tripCells (8 * t) (4 * t) t) = w' := by
  go_enter Tryz.func38, Tryz.ntmps38
  go_wp2_with (go_at_call 91; refine (time_yes t h1 h2 _).mono ?_; rintro e w' ⟨rfl, rfl⟩)
  exact bodyPost_ret (v := .tuple #[.agg #[.int .i64 (8 * t), .int .i64 (4 * t), .int .i64 t], .nilIface]) (by simp [results, Tryz.results38, go_sem]) rfl ⟨rfl, rfl⟩
theorem first_no (t : Int) (h : ¬ (1 ≤ t ∧ t ≤ 100000)) (w : World) :
    Calls Tryz.prog 38 #[.int .i64 t] w fun e w' => e = .returned (.tuple #[.agg #[.int .i64 0, .int .i64 0, .int .i64 0], .iface 118 (.int .i64 1)]) ∧ w.alloc (tripCells 0 0 0) = w' := by
  go_enter Tryz.func38, Tryz.ntmps38
  go_wp2_with (go_at_call 91; refine (time_no t h _).mono ?_; rintro e w' ⟨rfl, rfl⟩)
  exact bodyPost_ret (v := .tuple #[.agg #[.int .i64 0, .int .i64 0, .int .i64 0], .iface 118 (.int .i64 1)]) (by simp [results, Tryz.results38, go_sem]) rfl ⟨rfl, rfl⟩

/-- what the times must be -/
structure TRight (s v l : Int) : Prop where
  s1 : 8 ≤ s
  s2 : s ≤ 800000
  v1 : 0 ≤ v
  v2 : v ≤ 800000
  l1 : 1 ≤ l
  l2 : l ≤ 100000

theorem right_yes (s v l : Int) (h : TRight s v l) (w : World) :
    Calls Tryz.prog 92 #[.agg #[.int .i64 s, .int .i64 v, .int .i64 l]] w fun e w' => e = .returned (.bool true) ∧ w.alloc (tripCells s v l) = w' := by
  obtain ⟨s1, s2, v1, v2, l1, l2⟩ := h
  go_enter Tryz.func92, Tryz.ntmps92
  go_wp2_with (go_at_call 91; refine (time_yes _ l1 l2 _).mono ?_; rintro e w' ⟨rfl, rfl⟩)
  go_ret
  exact ⟨rfl, rfl⟩

theorem right_no (s v l : Int) (h : ¬ TRight s v l) (w : World) :
    Calls Tryz.prog 92 #[.agg #[.int .i64 s, .int .i64 v, .int .i64 l]] w fun e w' => e = .returned (.bool false) ∧ w.alloc (tripCells s v l) = w' := by
  by_cases s1 : 8 ≤ s
  case neg =>
    clear h
    go_enter Tryz.func92, Tryz.ntmps92
    go_wp2_with fail
    go_ret
    exact ⟨rfl, rfl⟩
  by_cases s2 : s ≤ 800000
  case neg =>
    clear h
    go_enter Tryz.func92, Tryz.ntmps92
    go_wp2_with fail
    go_ret
    exact ⟨rfl, rfl⟩
  by_cases v1 : 0 ≤ v
  case neg =>
    clear h
    go_enter Tryz.func92, Tryz.ntmps92
    go_wp2_with fail
    go_ret
    exact ⟨rfl, rfl⟩
  by_cases v2 : v ≤ 800000
  case neg =>
    have v3 : decide (v ≤ 800000) = false := by simpa using v2
    clear h v2
    go_enter Tryz.func92, Tryz.ntmps92
    go_wp2_with fail
    go_ret
    exact ⟨rfl, rfl⟩
  have hl : ¬ (1 ≤ l ∧ l ≤ 100000) := fun hl => h ⟨s1, s2, v1, v2, hl.1, hl.2⟩
  clear h
  go_enter Tryz.func92, Tryz.ntmps92
  go_wp2_with (go_at_call 91; refine (time_no _ hl _).mono ?_; rintro e w' ⟨rfl, rfl⟩)
  go_ret
  exact ⟨rfl, rfl⟩

/-! what Next gives -/
def nextL (l t : Int) : Int := if t < l then t else l
def nextT (l t d : Int) : Int := if nextL l t ≤ t - d then t - d else t
def nextF (s l t d : Int) : Int := nextT l t d - s / 8
def nextS (s l t d : Int) : Int := s + nextF s l t d
def nextV (s v l t d : Int) : Int := v - v / 4 + 2 * (if nextF s l t d < -nextF s l t d then -nextF s l t d else nextF s l t d)

theorem trip3_eq {w : World} {a b c a' b' c' s v l : Int} (h1 : a = a') (h2 : b = b') (h3 : c = c') :
    ((w.alloc (tripCells a b c)).alloc (tripCells a b c)).alloc (tripCells s v l) = ((w.alloc (tripCells a' b' c')).alloc (tripCells a' b' c')).alloc (tripCells s v l) := by rw [h1, h2, h3]
theorem nextT_le (l t d : Int) (hl : 1 ≤ l) (h1 : 1 ≤ t) (h2 : t ≤ 100000) (hd : 0 ≤ d) : nextL l t ≤ nextT l t d ∧ nextT l t d ≤ t := by
  unfold nextT nextL
  omega

theorem next_right (s v l t d : Int) (h : TRight s v l) (h1 : 1 ≤ t) (h2 : t ≤ 100000) (hd1 : 0 ≤ d) : TRight (nextS s l t d) (nextV s v l t d) (nextL l t) := by
  obtain ⟨s1, s2, v1, v2, l1, l2⟩ := h
  obtain ⟨a, b⟩ := nextT_le l t d l1 h1 h2 hd1
  have c : 1 ≤ nextL l t := by unfold nextL; omega
  have c2 : nextL l t ≤ 100000 := by unfold nextL; omega
  exact ⟨by unfold nextS nextF; omega, by unfold nextS nextF; omega, by unfold nextV nextF; omega, by unfold nextV nextF; omega, c, c2⟩

/-- what Wait gives -/
def waitN (s v : Int) : Int := s / 8 + (if v / 2 < 1 then 1 else v / 2)
theorem wait_yes_x (s v l : Int) (h : TRight s v l) (w : World) :
    Calls Tryz.prog 39 #[.agg #[.int .i64 s, .int .i64 v, .int .i64 l]] w fun e w' => e = .returned (.tuple #[.int .i64 (waitN s v), .nilIface]) ∧ (w.alloc (tripCells s v l)).alloc (tripCells s v l) = w' := by
  have hh := h
  obtain ⟨s1, s2, v1, v2, l1, l2⟩ := hh
  go_enter Tryz.func39, Tryz.ntmps39
  go_wp2_with (go_at_call 92; refine (right_yes s v l h _).mono ?_; rintro e w1 ⟨rfl, rfl⟩)
  all_goals
    go_ret2
    exact ⟨end_int2 (by unfold waitN; omega), rfl⟩
theorem wait_yes (s v l : Int) (h : TRight s v l) (w : World) :
    Calls Tryz.prog 39 #[.agg #[.int .i64 s, .int .i64 v, .int .i64 l]] w fun e w' => e = .returned (.tuple #[.int .i64 (waitN s v), .nilIface]) ∧ Below w.heap.size w w' :=
  (wait_yes_x s v l h w).mono fun _ _ hh => ⟨hh.1, hh.2 ▸ ((Below.refl _ _).alloc (Nat.le_refl _) _).alloc (by simp) _⟩

theorem wait_no_x (s v l : Int) (h : ¬ TRight s v l) (w : World) :
    Calls Tryz.prog 39 #[.agg #[.int .i64 s, .int .i64 v, .int .i64 l]] w fun e w' => e = .returned (.tuple #[.int .i64 0, .iface 118 (.int .i64 1)]) ∧ (w.alloc (tripCells s v l)).alloc (tripCells s v l) = w' := by
  go_enter Tryz.func39, Tryz.ntmps39
  go_wp2_with (go_at_call 92; refine (right_no s v l h _).mono ?_; rintro e w1 ⟨rfl, rfl⟩)
  go_ret2
  exact ⟨rfl, rfl⟩
theorem wait_no (s v l : Int) (h : ¬ TRight s v l) (w : World) :
    Calls Tryz.prog 39 #[.agg #[.int .i64 s, .int .i64 v, .int .i64 l]] w fun e w' => e = .returned (.tuple #[.int .i64 0, .iface 118 (.int .i64 1)]) ∧ Below w.heap.size w w' :=
  (wait_no_x s v l h w).mono fun _ _ hh => ⟨hh.1, hh.2 ▸ ((Below.refl _ _).alloc (Nat.le_refl _) _).alloc (by simp) _⟩

/-- between what it was, and what it is -/
theorem next_between (s l t d hi : Int) (h1 : 8 * l ≤ s) (h2 : s ≤ 8 * hi) (l1 : 1 ≤ l) (t1 : 1 ≤ t) (t2 : t ≤ 100000) (hd : 0 ≤ d) :
    8 * nextL l t ≤ nextS s l t d ∧ nextS s l t d ≤ 8 * (if hi < t then t else hi) := by
  obtain ⟨a, b⟩ := nextT_le l t d l1 t1 t2 hd
  have c : nextL l t ≤ l := by unfold nextL; omega
  have c1 : 1 ≤ nextL l t := by unfold nextL; omega
  unfold nextS nextF
  omega
end Go.Proofs.YtaindcicloapfaaGreatDoor

/-! slices.Grow of no ranges, by the shelf's contract laid in plain words; slices.Concat of two. Condition: the slices can be read. -/
namespace Go.Proofs.YtaindcicloapfaaGreatDoor
open Go.Shelf Go.ChangeShapes Go.WideShapes Go.ChangeAt Go.RowKit
set_option linter.unusedVariables false
end Go.Proofs.YtaindcicloapfaaGreatDoor

/-! slices.Concat of two slices of ranges. Condition: the slices can be read. -/
namespace Go.Proofs.YtaindcicloapfaaGreatDoor
open Go.ChangeShapes Go.WideShapes Go.ChangeAt Go.RowKit
set_option linter.unusedVariables false

end Go.Proofs.YtaindcicloapfaaGreatDoor

/-! ranges.Joined of none; contracts of ranges.Has and ranges.Both. Condition: the slices can be read. -/
namespace Go.Proofs.YtaindcicloapfaaGreatDoor
open Go.ChangeShapes Go.WideShapes Go.ChangeAt Go.RowKit
set_option linter.unusedVariables false

theorem rbits (w : World) : Calls Tryz.prog 191 #[.int .u64 0] w fun e w' => e = .returned (.int .i64 0) ∧ w' = w := by
  have h := Any.bits_Len (SlLaysF0.n15.bits (P := Tryz.prog) (ρ := laysSort_ren) { laysSort with }) 0 w (by omega) (by omega)
  exact h
theorem rins_nil (c : Nat) (w : World) : Calls Tryz.prog 207 #[.slice none 0 c, .int .i64 0, .int .i64 0, .func (Fn.func 165) #[] #[]] w fun e w' => e = .returned (.tuple #[]) ∧ w = w' := by
  go_enter Tryz.func207, Tryz.ntmps207
  go_wp2_with fail
  refine wp_loop_rounds 1 ?_
  rw [rounds_succ]
  go_wp2_with fail
  go_end0
  exact ⟨rfl, rfl⟩
set_option maxHeartbeats 1600000 in
theorem rpdq_nil (c : Nat) (w : World) : Calls Tryz.prog 190 #[.slice none 0 c, .int .i64 0, .int .i64 0, .int .i64 0, .func (Fn.func 165) #[] #[]] w fun e w' => e = .returned (.tuple #[]) ∧ Below w.heap.size w w' := by
  go_enter Tryz.func190, Tryz.ntmps190
  go_wp2_with fail
  refine wp_loop_rounds 1 ?_
  rw [rounds_succ]
  go_wp2_with (go_at_call 207; refine (rins_nil c _).mono ?_; rintro e w1 ⟨rfl, rfl⟩)
  (try simp only [Exit.inBlock, Exit.then]); refine bodyPost_ret (results_none rfl _ _ _) rfl ?_
  exact ⟨rfl, (by refine Since.out ?_; repeat (first | with_reducible assumption | with_reducible exact Since.refl _ | with_reducible refine Since.later ?_ (by with_reducible assumption) | with_reducible refine Since.only ?_ (by with_reducible assumption) (by first | assumption | omega | (simp; done) | (simp; omega)) | with_reducible refine Since.alloc ?_ _ | with_reducible refine Since.drewN ?_ _ | with_reducible refine Since.drew ?_ | with_reducible refine Since.set ?_ (by first | assumption | omega | (simp; done) | (simp; omega)) _))⟩
theorem rsort_nil (c : Nat) (w : World) : Calls Tryz.prog 164 #[.slice none 0 c, .func (Fn.func 165) #[] #[]] w fun e w' => e = .returned (.tuple #[]) ∧ Below w.heap.size w w' := by
  go_enter Tryz.func164, Tryz.ntmps164
  go_wp2_with (first | (go_at_call 191; refine (rbits _).mono ?_; rintro e w1 ⟨rfl, rfl⟩) | (go_at_call 190; refine (rpdq_nil c _).mono ?_; rintro e w2 ⟨rfl, hb2⟩))
  go_end0
  exact ⟨rfl, (by refine Since.out ?_; repeat (first | with_reducible assumption | with_reducible exact Since.refl _ | with_reducible refine Since.later ?_ (by with_reducible assumption) | with_reducible refine Since.only ?_ (by with_reducible assumption) (by first | assumption | omega | (simp; done) | (simp; omega)) | with_reducible refine Since.alloc ?_ _ | with_reducible refine Since.drewN ?_ _ | with_reducible refine Since.drew ?_ | with_reducible refine Since.set ?_ (by first | assumption | omega | (simp; done) | (simp; omega)) _))⟩

set_option maxHeartbeats 3200000 in
set_option maxRecDepth 100000 in
theorem rjoined0 (A : Option Addr) (cap : Nat) (w : World) (h : Rd w 2 (.slice A 0 cap) []) :
    Calls Tryz.prog 126 #[.slice A 0 cap] w fun e w' => e = .returned (.slice none 0 0) ∧ Below w.heap.size w w' := by
  have H : Hid (Rd w 2 (.slice A 0 cap) (([] : List Rng).map rngRow)) := Lib.hid h
  clear h
  have hz : decide ((0 : Int) < 0) = false := by simp
  go_enter Tryz.func126, Tryz.ntmps126
  go_wp2_with (go_at_call 82; refine (rclone A 0 cap [] _ rfl (by omega) H.out).mono ?_; rintro e w1 ⟨A1, c1, rfl, hl1, hb1, hk1⟩)
  obtain ⟨w2, hs2, hcall⟩ : ∃ _ : Unit, True ∧ Calls Tryz.prog 164 #[.slice A1 0 c1, .func (Fn.func 165) #[] #[]] w1 fun e w' => e = .returned (.tuple #[]) ∧ Below w.heap.size w w' := by
    refine ⟨(), trivial, ?_⟩
    cases A1 with
    | none => exact (rsort_nil c1 w1).mono fun e w' ⟨he, hb⟩ => ⟨he, (show Since w w1 from hb1).later hb⟩
    | some ad =>
      obtain ⟨A2, c2, hv, _, _, hA⟩ := hl1.shape
      simp only [Value.slice.injEq] at hv
      rcases hA with ⟨h3, _, _⟩ | ⟨g, hg⟩
      · rw [← hv.1] at h3; cases h3
      · rw [hg] at hv
        obtain ⟨hv1, _, _⟩ := hv
        rw [hv1] at hl1 hk1 ⊢
        refine (rsort g 0 c1 [] w1 rfl (by simp) hl1 (by omega)).mono ?_
        rintro e w' ⟨he, _, _, _, _, ho⟩
        exact ⟨he, ho.below hb1 hb1.size (fun k hk => by rw [List.mem_singleton.1 hk]; exact hk1 g (by simp [Value.ownBlock]))⟩
  refine hcall.mono ?_
  rintro e w3 ⟨rfl, hb3⟩
  have HB3 := Lib.hid hb3
  clear hs2 hcall hl1 hb1 hk1 hb3
  go_wp2_with fail
  refine wp_loop_rounds 1 ?_
  rw [rounds_succ]
  go_wp2_with fail
  go_ret
  exact ⟨rfl, HB3.out⟩

def hasE (L : List Rng) (x : Int) : Int := if mayB x = true then rngE L else 1
set_option maxHeartbeats 3200000 in
set_option maxRecDepth 100000 in
theorem rhas (A : Option Addr) (n cap : Nat) (L : List Rng) (x : Int) (w : World) (hn : L.length = n) (hb : ∀ r ∈ L, okI r.lo ∧ okI r.hi) (h : Rd w 2 (.slice A n cap) (L.map rngRow)) :
    Calls Tryz.prog 44 #[.slice A n cap, .int .i64 x] w fun e w' => e = .returned (.tuple #[.bool (decide (hasE L x = 0) && inB L x), errV (hasE L x)]) ∧ Below w.heap.size w w' := by
  have H := Lib.hid h
  have HN := Lib.hid hn
  have HB := Lib.hid hb
  clear h hn hb
  cases hx : mayB x with
  | false =>
    have e1 : hasE L x = 1 := by unfold hasE; rw [hx]; rfl
    rw [e1]
    have HX := Lib.hid hx
    clear hx e1
    go_enter Tryz.func44, Tryz.ntmps44
    go_wp2_with (go_at_call 97; refine (may_any x _).mono ?_; rintro e w2 ⟨rfl, rfl⟩; rw [HX.out])
    go_ret2
    exact ⟨rfl, (by refine Since.out ?_; repeat (first | with_reducible assumption | with_reducible exact Since.refl _ | with_reducible refine Since.later ?_ (by with_reducible assumption) | with_reducible refine Since.only ?_ (by with_reducible assumption) (by first | assumption | omega | (simp; done) | (simp; omega)) | with_reducible refine Since.alloc ?_ _ | with_reducible refine Since.drewN ?_ _ | with_reducible refine Since.drew ?_ | with_reducible refine Since.set ?_ (by first | assumption | omega | (simp; done) | (simp; omega)) _))⟩
  | true =>
    have e1 : hasE L x = rngE L := by unfold hasE; rw [hx]; rfl
    rw [e1]
    have HX := Lib.hid hx
    clear hx e1
    by_cases hE : rngE L = 0
    · rw [hE, errV_zero]
      have HE := Lib.hid hE
      clear hE
      go_enter Tryz.func44, Tryz.ntmps44
      go_wp2_with (first | (go_at_call 97; refine (may_any x _).mono ?_; rintro e w2 ⟨rfl, rfl⟩; rw [HX.out]) | (go_at_call 98; refine (rcheck A n cap L _ HN.out HB.out H.out).mono ?_; rintro e w1 ⟨rfl, hb1⟩; rw [HE.out, errV_zero]) | (go_at_call 71; refine (rin_any A n cap L x _ HN.out (H.out.later hb1)).mono ?_; rintro e w7 ⟨rfl, hb7⟩))
      go_ret2
      exact ⟨by simp, (show Since w w1 from hb1).later hb7⟩
    · rw [errV_pos hE]
      have HE := Lib.hid hE
      have hd : decide (rngE L = 0) = false := by simpa using hE
      rw [hd]
      clear hE hd
      go_enter Tryz.func44, Tryz.ntmps44
      go_wp2_with (first | (go_at_call 97; refine (may_any x _).mono ?_; rintro e w2 ⟨rfl, rfl⟩; rw [HX.out]) | (go_at_call 98; refine (rcheck A n cap L _ HN.out HB.out H.out).mono ?_; rintro e w1 ⟨rfl, hb1⟩; rw [errV_pos HE.out]))
      go_ret2
      exact ⟨rfl, hb1⟩
end Go.Proofs.YtaindcicloapfaaGreatDoor
