/- Ranges: what is wrong with some, and whether a number is in some: plain words, and contracts of ranges.Check, ranges.In, and of the reference's Ranges and In. Condition: the slice can be read. -/
import Derived.Test.YtjjmoaaongnjiaaGreatDoorRd
import Derived.Test.YtjjmoaaongnjiaaGreatDoorErrV
import Derived.Test.YtjjmoaaongnjiaaGreatDoorMayB
namespace Go.Proofs.YtjjmoaaongnjiaaGreatDoor
open Go.ChangeShapes Go.WideShapes Go.ChangeAt Go.RowKit
set_option linter.unusedVariables false

def rat (L : List Rng) (i : Nat) : Rng := L.getD i ⟨0, 0⟩
theorem rat_get {L : List Rng} {i : Nat} (h : i < L.length) : rat L i = L[i] := by unfold rat; simp [List.getD, List.getElem?_eq_getElem h]
/-- what is wrong with the i-th -/
def rngOne (L : List Rng) (i : Nat) : Int :=
  if mayB (rat L i).lo = true ∧ mayB (rat L i).hi = true then (if (rat L i).hi < (rat L i).lo ∨ (0 < i ∧ (rat L (i - 1)).lo ≤ (rat L i).hi + 1) then 3 else 0) else 1
/-- what is wrong with the first n -/
def rngUp (L : List Rng) : Nat → Int
  | 0 => 0
  | n + 1 => if rngUp L n = 0 then rngOne L n else rngUp L n
def rngE (L : List Rng) : Int := if 12 < L.length then 4 else rngUp L L.length
theorem rngUp_bad {L : List Rng} {i : Nat} {x : Int} (h0 : rngUp L i = 0) (h : rngOne L i = x) (hx : x ≠ 0) : ∀ n, i < n → rngUp L n = x := by
  intro n
  induction n with
  | zero => intro h; omega
  | succ n ih =>
    intro hn
    unfold rngUp
    by_cases he : i = n
    · subst he; rw [if_pos h0]; exact h
    · rw [ih (by omega), if_neg hx]
theorem rngUp_ok {L : List Rng} {i : Nat} (h0 : rngUp L i = 0) (h : rngOne L i = 0) : rngUp L (i + 1) = 0 := by
  rw [rngUp, if_pos h0]; exact h
/-- is a number in one -/
def rin (r : Rng) (n : Int) : Bool := decide (r.lo ≤ n) && decide (n ≤ r.hi)
def inB (L : List Rng) (n : Int) : Bool := L.any fun r => rin r n
theorem inB_take {L : List Rng} {i : Nat} {n : Int} (h : i < L.length) (h0 : ∀ j, j < i → rin (rat L j) n = false) (h1 : rin (rat L i) n = true) : inB L n = true := by
  rw [rat_get h] at h1
  exact List.any_eq_true.2 ⟨L[i], List.getElem_mem h, h1⟩
theorem inB_none {L : List Rng} {n : Int} (h0 : ∀ j, j < L.length → rin (rat L j) n = false) : inB L n = false := by
  cases hb : inB L n with
  | false => rfl
  | true =>
    obtain ⟨r, hr, hx⟩ := List.any_eq_true.1 hb
    obtain ⟨i, hi, rfl⟩ := List.getElem_of_mem hr
    have := h0 i hi
    rw [rat_get hi, hx] at this
    cases this
theorem Rd.rng {w : World} {A : Option Addr} {n cap : Nat} {L : List Rng} (h : Rd w 2 (.slice A n cap) (L.map rngRow)) {i : Nat} (hi : i < L.length) : ∃ b off, A = some ⟨b, off, none⟩ ∧ b < w.heap.size ∧ ∀ w', Since w w' → ∀ j, j < L.length → w'.cell? ⟨b, off + j * 2, none⟩ = some (.int .i64 (rat L j).lo) ∧ w'.cell? ⟨b, off + j * 2 + 1, none⟩ = some (.int .i64 (rat L j).hi) := by
  obtain ⟨A', cap', hv, _, _, hc⟩ := h.shape
  obtain ⟨b, off, hA, hlt, _⟩ := hc (by intro he; have := congrArg List.length he; simp at this; subst this; simp at hi)
  simp only [Value.slice.injEq] at hv
  obtain ⟨rfl, _, _⟩ := hv
  subst hA
  refine ⟨b, off, rfl, hlt, fun w' hs j hj => ?_⟩
  have hh := h.later hs
  rw [rat_get hj]
  exact ⟨hh.at_ (elem_of_rng hj) (j := 0) rfl, by rw [Nat.add_assoc]; exact hh.at_ (elem_of_rng hj) (j := 1) rfl⟩

set_option maxHeartbeats 3200000 in
set_option maxRecDepth 100000 in
theorem rcheck (A : Option Addr) (n cap : Nat) (L : List Rng) (w : World) (hn : L.length = n) (hb : ∀ r ∈ L, okI r.lo ∧ okI r.hi) (h : Rd w 2 (.slice A n cap) (L.map rngRow)) :
    Calls Tryz.prog 27 #[.slice A n cap] w fun e w' => e = .returned (errV (rngE L)) ∧ Below w.heap.size w w' := by
  have H := Lib.hid h
  have HN := Lib.hid hn
  have hcm : n ≤ 9223372036854775807 := by
    obtain ⟨A', cap', hv, h1, h2, _⟩ := h.shape
    rw [List.length_map, hn] at h1
    unfold maxLen at h2
    omega
  have hbb : ∀ i, i < n → okI (rat L i).lo ∧ okI (rat L i).hi := fun i hi => by rw [rat_get (by omega)]; exact hb _ (List.getElem_mem _)
  have HB := Lib.hid hbb
  clear h hn hb hbb
  by_cases h12 : 12 < n
  · have E : Hid (rngE L = 4) := Lib.hid (by unfold rngE; rw [HN.out, if_pos h12])
    have h12' : (12 : Int) < (n : Int) := by omega
    go_enter Tryz.func27, Tryz.ntmps27
    go_wp2
    go_ret
    exact ⟨by rw [E.out]; rfl, (by refine Since.out ?_; repeat (first | with_reducible assumption | with_reducible exact Since.refl _ | with_reducible refine Since.later ?_ (by with_reducible assumption) | with_reducible refine Since.only ?_ (by with_reducible assumption) (by first | assumption | omega | (simp; done) | (simp; omega)) | with_reducible refine Since.alloc ?_ _ | with_reducible refine Since.drewN ?_ _ | with_reducible refine Since.drew ?_ | with_reducible refine Since.set ?_ (by first | assumption | omega | (simp; done) | (simp; omega)) _))⟩
  have EU : Hid (rngE L = rngUp L n) := Lib.hid (by unfold rngE; rw [HN.out, if_neg h12])
  have h12' : decide ((12 : Int) < (n : Int)) = false := by simp; omega
  go_enter Tryz.func27, Tryz.ntmps27
  go_wp2_with fail
  go_loopw [3, 4, 11] (fun s3 s4 s11 wr => ∃ i : Nat, s11 = .int .i64 i ∧ i ≤ n ∧ Hid (rngUp L i = 0) ∧ Since w wr) (fun _ _ s11 _ => n - (intOf s11).toNat)
  case atStart => exact ⟨0, rfl, Nat.zero_le _, Lib.hid rfl, Since.refl _⟩
  case round =>
    obtain ⟨i, rfl, hi, HU, hs⟩ := hrel
    by_cases hlt : i < n
    case neg =>
      obtain rfl : i = n := by omega
      have hf : decide ((i : Int) < (i : Int)) = false := by simp
      go_wp2_with fail
      go_ret
      exact ⟨by rw [EU.out, HU.out]; rfl, (by refine Since.out ?_; repeat (first | with_reducible assumption | with_reducible exact Since.refl _ | with_reducible refine Since.later ?_ (by with_reducible assumption) | with_reducible refine Since.only ?_ (by with_reducible assumption) (by first | assumption | omega | (simp; done) | (simp; omega)) | with_reducible refine Since.alloc ?_ _ | with_reducible refine Since.drewN ?_ _ | with_reducible refine Since.drew ?_ | with_reducible refine Since.set ?_ (by first | assumption | omega | (simp; done) | (simp; omega)) _))⟩
    have hlt' : (i : Int) < (n : Int) := by omega
    obtain ⟨b, off, rfl, hbl, hc⟩ := H.out.rng (i := i) (by rw [HN.out]; exact hlt)
    obtain ⟨c0, c1⟩ := hc wr hs i (by rw [HN.out]; exact hlt)
    have hpc : 0 < i → wr.cell? ⟨b, off + (i - 1) * 2, none⟩ = some (.int .i64 (rat L (i - 1)).lo) := fun h => (hc wr hs (i - 1) (by rw [HN.out]; omega)).1
    obtain ⟨b0, b1⟩ := HB.out i hlt
    have HO : Hid (∀ x, rngOne L i = x → x ≠ 0 → rngE L = x) := Lib.hid (fun x h hx => by rw [EU.out]; exact rngUp_bad HU.out h hx n hlt)
    have HK : Hid (rngOne L i = 0 → rngUp L (i + 1) = 0) := Lib.hid (rngUp_ok HU.out)
    have HD : Hid (rngOne L i = if mayB (rat L i).lo = true ∧ mayB (rat L i).hi = true then (if (rat L i).hi < (rat L i).lo ∨ (0 < i ∧ (rat L (i - 1)).lo ≤ (rat L i).hi + 1) then 3 else 0) else 1) := Lib.hid rfl
    generalize (rat L i).lo = lo at *
    generalize (rat L i).hi = hi2 at *
    generalize (rat L (i - 1)).lo = plo at *
    have lb : b < wr.heap.size := Nat.lt_of_lt_of_le hbl hs.le
    clear hc
    cases hm1 : mayB lo with
    | false =>
      have E := Lib.hid (HO.out 1 (by rw [HD.out, hm1]; simp) (by decide))
      have HM := Lib.hid hm1
      clear hm1 hpc
      go_wp2_with (go_at_call 28; refine (may_any lo _).mono ?_; rintro e w' ⟨rfl, rfl⟩; rw [HM.out])
      go_ret
      exact ⟨by rw [E.out]; rfl, (by refine Since.out ?_; repeat (first | with_reducible assumption | with_reducible exact Since.refl _ | with_reducible refine Since.later ?_ (by with_reducible assumption) | with_reducible refine Since.only ?_ (by with_reducible assumption) (by first | assumption | omega | (simp; done) | (simp; omega)) | with_reducible refine Since.alloc ?_ _ | with_reducible refine Since.drewN ?_ _ | with_reducible refine Since.drew ?_ | with_reducible refine Since.set ?_ (by first | assumption | omega | (simp; done) | (simp; omega)) _))⟩
    | true =>
      cases hm2 : mayB hi2 with
      | false =>
        have E := Lib.hid (HO.out 1 (by rw [HD.out, hm1, hm2]; simp) (by decide))
        have HM1 := Lib.hid hm1
        have HM2 := Lib.hid hm2
        clear hm1 hm2 hpc
        go_wp2_with (go_at_call 28; refine (may_any _ _).mono ?_; rintro e w' ⟨rfl, rfl⟩; first | rw [HM1.out] | rw [HM2.out])
        go_ret
        exact ⟨by rw [E.out]; rfl, (by refine Since.out ?_; repeat (first | with_reducible assumption | with_reducible exact Since.refl _ | with_reducible refine Since.later ?_ (by with_reducible assumption) | with_reducible refine Since.only ?_ (by with_reducible assumption) (by first | assumption | omega | (simp; done) | (simp; omega)) | with_reducible refine Since.alloc ?_ _ | with_reducible refine Since.drewN ?_ _ | with_reducible refine Since.drew ?_ | with_reducible refine Since.set ?_ (by first | assumption | omega | (simp; done) | (simp; omega)) _))⟩
      | true =>
        have hmm := (mayB_iff.1 hm2)
        have hm0 := (mayB_iff.1 hm1)
        have HM1 := Lib.hid hm1
        have HM2 := Lib.hid hm2
        have HD2 : Hid (rngOne L i = if hi2 < lo ∨ (0 < i ∧ plo ≤ hi2 + 1) then 3 else 0) := Lib.hid (by rw [HD.out, hm1, hm2]; simp)
        clear hm1 hm2 HD b0 b1
        unfold MayBe at hmm hm0
        obtain ⟨m1, m2⟩ := hmm
        obtain ⟨m3, m4⟩ := hm0
        by_cases hlh : hi2 < lo
        · have E := Lib.hid (HO.out 3 (by rw [HD2.out, if_pos (Or.inl hlh)]) (by decide))
          clear hpc
          go_wp2_with (go_at_call 28; refine (may_any _ _).mono ?_; rintro e w' ⟨rfl, rfl⟩; first | rw [HM1.out] | rw [HM2.out])
          go_quiet (fail)
          go_wp2_with fail
          go_ret
          exact ⟨by rw [E.out]; rfl, (by refine Since.out ?_; repeat (first | with_reducible assumption | with_reducible exact Since.refl _ | with_reducible refine Since.later ?_ (by with_reducible assumption) | with_reducible refine Since.only ?_ (by with_reducible assumption) (by first | assumption | omega | (simp; done) | (simp; omega)) | with_reducible refine Since.alloc ?_ _ | with_reducible refine Since.drewN ?_ _ | with_reducible refine Since.drew ?_ | with_reducible refine Since.set ?_ (by first | assumption | omega | (simp; done) | (simp; omega)) _))⟩
        have hlh' : decide (hi2 < lo) = false := by simpa using hlh
        by_cases hi0 : i = 0
        · subst hi0
          have K := Lib.hid (HK.out (by rw [HD2.out, if_neg (by omega)]))
          have c0' : wr.cell? ⟨b, off, none⟩ = some (.int .i64 lo) := by simpa using c0
          have c1' : wr.cell? ⟨b, off + 1, none⟩ = some (.int .i64 hi2) := by simpa using c1
          clear hpc c0 c1
          go_wp2_with (go_at_call 28; refine (may_any _ _).mono ?_; rintro e w' ⟨rfl, rfl⟩; first | rw [HM1.out] | rw [HM2.out])
          go_quiet (fail)
          go_wp2_with fail
          go_roundw
          case rel => exact ⟨0 + 1, by go_num, by omega, K, (by refine Since.out ?_; repeat (first | with_reducible assumption | with_reducible exact Since.refl _ | with_reducible refine Since.later ?_ (by with_reducible assumption) | with_reducible refine Since.only ?_ (by with_reducible assumption) (by first | assumption | omega | (simp; done) | (simp; omega)) | with_reducible refine Since.alloc ?_ _ | with_reducible refine Since.drewN ?_ _ | with_reducible refine Since.drew ?_ | with_reducible refine Since.set ?_ (by first | assumption | omega | (simp; done) | (simp; omega)) _))⟩
          case measure => simp [intOf]; omega
        have hip : 0 < i := by omega
        have c2 := hpc hip
        have hi1 : (0 : Int) < (i : Int) := by omega
        have hi2' : (i : Int) - 1 = ((i - 1 : Nat) : Int) := by omega
        have hi3 : ((i - 1 : Nat) : Int) < (n : Int) := by omega
        by_cases hp : plo ≤ hi2 + 1
        · have E := Lib.hid (HO.out 3 (by rw [HD2.out, if_pos (Or.inr ⟨hip, hp⟩)]) (by decide))
          clear hpc
          go_wp2_with (go_at_call 28; refine (may_any _ _).mono ?_; rintro e w' ⟨rfl, rfl⟩; first | rw [HM1.out] | rw [HM2.out])
          go_quiet (fail)
          go_wp2_with fail
          go_ret
          exact ⟨by rw [E.out]; rfl, (by refine Since.out ?_; repeat (first | with_reducible assumption | with_reducible exact Since.refl _ | with_reducible refine Since.later ?_ (by with_reducible assumption) | with_reducible refine Since.only ?_ (by with_reducible assumption) (by first | assumption | omega | (simp; done) | (simp; omega)) | with_reducible refine Since.alloc ?_ _ | with_reducible refine Since.drewN ?_ _ | with_reducible refine Since.drew ?_ | with_reducible refine Since.set ?_ (by first | assumption | omega | (simp; done) | (simp; omega)) _))⟩
        · have hp' : decide (plo ≤ hi2 + 1) = false := by simpa using hp
          have K := Lib.hid (HK.out (by rw [HD2.out, if_neg (by omega)]))
          clear hpc
          go_wp2_with (go_at_call 28; refine (may_any _ _).mono ?_; rintro e w' ⟨rfl, rfl⟩; first | rw [HM1.out] | rw [HM2.out])
          go_quiet (fail)
          go_wp2_with fail
          go_roundw
          case rel => exact ⟨i + 1, by go_num, by omega, K, (by refine Since.out ?_; repeat (first | with_reducible assumption | with_reducible exact Since.refl _ | with_reducible refine Since.later ?_ (by with_reducible assumption) | with_reducible refine Since.only ?_ (by with_reducible assumption) (by first | assumption | omega | (simp; done) | (simp; omega)) | with_reducible refine Since.alloc ?_ _ | with_reducible refine Since.drewN ?_ _ | with_reducible refine Since.drew ?_ | with_reducible refine Since.set ?_ (by first | assumption | omega | (simp; done) | (simp; omega)) _))⟩
          case measure => simp [intOf]; omega
set_option maxHeartbeats 1600000 in
set_option maxRecDepth 100000 in
theorem rinR (A : Option Addr) (n cap : Nat) (L : List Rng) (x : Int) (w : World) (hn : L.length = n) (h : Rd w 2 (.slice A n cap) (L.map rngRow)) :
    Calls Tryz.prog 15 #[.slice A n cap, .int .i64 x] w fun e w' => e = .returned (.bool (inB L x)) ∧ Below w.heap.size w w' := by
  have H := Lib.hid h
  have HN := Lib.hid hn
  have hcm : n ≤ 9223372036854775807 := by
    obtain ⟨A', cap', hv, h1, h2, _⟩ := h.shape
    rw [List.length_map, hn] at h1
    unfold maxLen at h2
    omega
  clear h hn
  go_enter Tryz.func15, Tryz.ntmps15
  go_wp2_with fail
  go_loopw [5] (fun s5 wr => ∃ i : Nat, s5 = .int .i64 i ∧ i ≤ n ∧ Hid (∀ j, j < i → rin (rat L j) x = false) ∧ Since w wr) (fun s5 _ => n - (intOf s5).toNat)
  case atStart => exact ⟨0, rfl, Nat.zero_le _, Lib.hid (fun j hj => by omega), Since.refl _⟩
  case round =>
    obtain ⟨i, rfl, hi, HU, hs⟩ := hrel
    by_cases hlt : i < n
    case neg =>
      obtain rfl : i = n := by omega
      have hf : decide ((i : Int) < (i : Int)) = false := by simp
      have E := Lib.hid (inB_none (L := L) (n := x) (fun j hj => HU.out j (by rw [HN.out] at hj; exact hj)))
      go_wp2_with fail
      go_ret
      exact ⟨by rw [E.out]; rfl, (by refine Since.out ?_; repeat (first | with_reducible assumption | with_reducible exact Since.refl _ | with_reducible refine Since.later ?_ (by with_reducible assumption) | with_reducible refine Since.only ?_ (by with_reducible assumption) (by first | assumption | omega | (simp; done) | (simp; omega)) | with_reducible refine Since.alloc ?_ _ | with_reducible refine Since.drewN ?_ _ | with_reducible refine Since.drew ?_ | with_reducible refine Since.set ?_ (by first | assumption | omega | (simp; done) | (simp; omega)) _))⟩
    have hlt' : (i : Int) < (n : Int) := by omega
    obtain ⟨b, off, rfl, hbl, hc⟩ := H.out.rng (i := i) (by rw [HN.out]; exact hlt)
    obtain ⟨c0, c1⟩ := hc wr hs i (by rw [HN.out]; exact hlt)
    have lb : b < wr.heap.size := Nat.lt_of_lt_of_le hbl hs.le
    have HY : Hid (rin (rat L i) x = true → inB L x = true) := Lib.hid (fun h => inB_take (by rw [HN.out]; exact hlt) HU.out h)
    have HW : Hid (rin (rat L i) x = false → ∀ j, j < i + 1 → rin (rat L j) x = false) := Lib.hid (fun h j hj => by
      rcases Nat.lt_succ_iff_lt_or_eq.1 hj with h1 | h1
      · exact HU.out j h1
      · rw [h1]; exact h)
    have HD : Hid (rin (rat L i) x = (decide ((rat L i).lo ≤ x) && decide (x ≤ (rat L i).hi))) := Lib.hid rfl
    generalize (rat L i).lo = lo at *
    generalize (rat L i).hi = hi2 at *
    clear hc
    by_cases h1 : lo ≤ x
    · by_cases h2 : x ≤ hi2
      · have E := Lib.hid (HY.out (by rw [HD.out]; simp; exact ⟨h1, h2⟩))
        go_wp2_with fail
        go_ret
        exact ⟨by rw [E.out]; rfl, (by refine Since.out ?_; repeat (first | with_reducible assumption | with_reducible exact Since.refl _ | with_reducible refine Since.later ?_ (by with_reducible assumption) | with_reducible refine Since.only ?_ (by with_reducible assumption) (by first | assumption | omega | (simp; done) | (simp; omega)) | with_reducible refine Since.alloc ?_ _ | with_reducible refine Since.drewN ?_ _ | with_reducible refine Since.drew ?_ | with_reducible refine Since.set ?_ (by first | assumption | omega | (simp; done) | (simp; omega)) _))⟩
      · have h2' : decide (x ≤ hi2) = false := by simpa using h2
        have K := Lib.hid (HW.out (by rw [HD.out, h2']; simp))
        clear h2
        go_wp2_with fail
        go_roundw
        case rel => exact ⟨i + 1, by go_num, by omega, K, (by refine Since.out ?_; repeat (first | with_reducible assumption | with_reducible exact Since.refl _ | with_reducible refine Since.later ?_ (by with_reducible assumption) | with_reducible refine Since.only ?_ (by with_reducible assumption) (by first | assumption | omega | (simp; done) | (simp; omega)) | with_reducible refine Since.alloc ?_ _ | with_reducible refine Since.drewN ?_ _ | with_reducible refine Since.drew ?_ | with_reducible refine Since.set ?_ (by first | assumption | omega | (simp; done) | (simp; omega)) _))⟩
        case measure => simp [intOf]; omega
    · have h1' : decide (lo ≤ x) = false := by simpa using h1
      have K := Lib.hid (HW.out (by rw [HD.out, h1']; simp))
      clear h1
      go_wp2_with fail
      go_roundw
      case rel => exact ⟨i + 1, by go_num, by omega, K, (by refine Since.out ?_; repeat (first | with_reducible assumption | with_reducible exact Since.refl _ | with_reducible refine Since.later ?_ (by with_reducible assumption) | with_reducible refine Since.only ?_ (by with_reducible assumption) (by first | assumption | omega | (simp; done) | (simp; omega)) | with_reducible refine Since.alloc ?_ _ | with_reducible refine Since.drewN ?_ _ | with_reducible refine Since.drew ?_ | with_reducible refine Since.set ?_ (by first | assumption | omega | (simp; done) | (simp; omega)) _))⟩
      case measure => simp [intOf]; omega
theorem rinOne (r : Rng) (x : Int) (h : Nat) (w : World) (hc : w.cell? ⟨h, 0, none⟩ = some (.int .i64 x)) :
    Calls Tryz.prog 42 #[.agg #[.int .i64 r.lo, .int .i64 r.hi], .pointer (some ⟨h, 0, none⟩)] w fun e w' => e = .returned (.bool (rin r x)) ∧ Below w.heap.size w w' := by
  have hl := World.block_lt_of_cell? w _ hc
  simp only at hl
  unfold rin
  by_cases h1 : r.lo ≤ x
  · have h1' : decide (r.lo ≤ x) = true := by simpa using h1
    rw [h1', Bool.true_and]
    go_enter Tryz.func42, Tryz.ntmps42
    go_wp2
    go_ret
    exact ⟨rfl, (by refine Since.out ?_; repeat (first | with_reducible assumption | with_reducible exact Since.refl _ | with_reducible refine Since.later ?_ (by with_reducible assumption) | with_reducible refine Since.only ?_ (by with_reducible assumption) (by first | assumption | omega | (simp; done) | (simp; omega)) | with_reducible refine Since.alloc ?_ _ | with_reducible refine Since.drewN ?_ _ | with_reducible refine Since.drew ?_ | with_reducible refine Since.set ?_ (by first | assumption | omega | (simp; done) | (simp; omega)) _))⟩
  · have h1' : decide (r.lo ≤ x) = false := by simpa using h1
    rw [h1', Bool.false_and]
    go_enter Tryz.func42, Tryz.ntmps42
    go_wp2
    go_ret
    exact ⟨rfl, (by refine Since.out ?_; repeat (first | with_reducible assumption | with_reducible exact Since.refl _ | with_reducible refine Since.later ?_ (by with_reducible assumption) | with_reducible refine Since.only ?_ (by with_reducible assumption) (by first | assumption | omega | (simp; done) | (simp; omega)) | with_reducible refine Since.alloc ?_ _ | with_reducible refine Since.drewN ?_ _ | with_reducible refine Since.drew ?_ | with_reducible refine Since.set ?_ (by first | assumption | omega | (simp; done) | (simp; omega)) _))⟩
/-- the first place at which a range holds a number; below 0: there is none -/
def rplace (L : List Rng) (x : Int) : Int := if inB L x = true then ((L.findIdx fun r => rin r x : Nat) : Int) else -1
theorem rplace_sign (L : List Rng) (x : Int) : decide (0 ≤ rplace L x) = inB L x := by
  unfold rplace
  cases inB L x with
  | true => simp
  | false => simp
theorem rplace_at {L : List Rng} {i : Nat} {x : Int} (h : i < L.length) (h0 : ∀ j, j < i → rin (rat L j) x = false) (h1 : rin (rat L i) x = true) : rplace L x = i := by
  unfold rplace
  rw [if_pos (inB_take h h0 h1)]
  congr 1
  refine (List.findIdx_eq h).2 ⟨?_, fun j hj => ?_⟩
  · rw [← rat_get h]; exact h1
  · have := h0 j hj
    rw [rat_get (by omega)] at this
    exact this
theorem rplace_none {L : List Rng} {x : Int} (h : ∀ j, j < L.length → rin (rat L j) x = false) : rplace L x = -1 := by
  unfold rplace
  rw [inB_none h]
  rfl
set_option maxHeartbeats 1600000 in
set_option maxRecDepth 100000 in
theorem rindex (A : Option Addr) (n cap : Nat) (L : List Rng) (x : Int) (g : Nat) (w : World) (hn : L.length = n) (h : Rd w 2 (.slice A n cap) (L.map rngRow)) (hx : w.cell? ⟨g, 0, none⟩ = some (.int .i64 x)) :
    Calls Tryz.prog 56 #[.slice A n cap, .func (Fn.func 42) #[] #[.pointer (some ⟨g, 0, none⟩)]] w fun e w' => e = .returned (.int .i64 (rplace L x)) ∧ Below w.heap.size w w' := by
  have hgl : g < w.heap.size := World.block_lt_of_cell? w _ hx
  have H := Lib.hid h
  have HN := Lib.hid hn
  have HX := Lib.hid hx
  have hcm : n ≤ 9223372036854775807 := by
    obtain ⟨A', cap', hv, h1, h2, _⟩ := h.shape
    rw [List.length_map, hn] at h1
    unfold maxLen at h2
    omega
  clear h hn hx
  go_enter Tryz.func56, Tryz.ntmps56
  go_wp2_with fail
  go_loopw [8] (fun s8 wr => ∃ i : Nat, s8 = .int .i64 i ∧ i ≤ n ∧ Hid (∀ j, j < i → rin (rat L j) x = false) ∧ Since w wr) (fun s8 _ => n - (intOf s8).toNat)
  case atStart => exact ⟨0, rfl, Nat.zero_le _, Lib.hid (fun j hj => by omega), Since.refl _⟩
  case round =>
    obtain ⟨i, rfl, hi, HU, hs⟩ := hrel
    by_cases hlt : i < n
    case neg =>
      obtain rfl : i = n := by omega
      have hf : decide ((i : Int) < (i : Int)) = false := by simp
      have E := Lib.hid (rplace_none (L := L) (x := x) (fun j hj => HU.out j (by rw [HN.out] at hj; exact hj)))
      go_wp2_with fail
      go_ret
      exact ⟨by rw [E.out]; rfl, (by refine Since.out ?_; repeat (first | with_reducible assumption | with_reducible exact Since.refl _ | with_reducible refine Since.later ?_ (by with_reducible assumption) | with_reducible refine Since.only ?_ (by with_reducible assumption) (by first | assumption | omega | (simp; done) | (simp; omega)) | with_reducible refine Since.alloc ?_ _ | with_reducible refine Since.drewN ?_ _ | with_reducible refine Since.drew ?_ | with_reducible refine Since.set ?_ (by first | assumption | omega | (simp; done) | (simp; omega)) _))⟩
    have hlt' : (i : Int) < (n : Int) := by omega
    obtain ⟨b, off, rfl, hbl, hc⟩ := H.out.rng (i := i) (by rw [HN.out]; exact hlt)
    obtain ⟨c0, c1⟩ := hc wr hs i (by rw [HN.out]; exact hlt)
    have lb : b < wr.heap.size := Nat.lt_of_lt_of_le hbl hs.le
    have HY : Hid (rin (rat L i) x = true → rplace L x = i) := Lib.hid (fun h => rplace_at (by rw [HN.out]; exact hlt) HU.out h)
    have HW : Hid (rin (rat L i) x = false → ∀ j, j < i + 1 → rin (rat L j) x = false) := Lib.hid (fun h j hj => by
      rcases Nat.lt_succ_iff_lt_or_eq.1 hj with h1 | h1
      · exact HU.out j h1
      · rw [h1]; exact h)
    clear hc
    generalize rat L i = r at *
    obtain ⟨lo, hi2⟩ := r
    simp only at c0 c1
    cases hr : rin ⟨lo, hi2⟩ x with
    | true =>
      have E := Lib.hid (HY.out hr)
      have HR := Lib.hid hr
      clear hr
      go_wp2_with (go_at_call 42; refine (rinOne ⟨lo, hi2⟩ x g _ (hs.cell hgl HX.out)).mono ?_; rintro e w1 ⟨rfl, hb1⟩; rw [HR.out])
      go_ret
      exact ⟨by rw [E.out]; rfl, (by refine Since.out ?_; repeat (first | with_reducible assumption | with_reducible exact Since.refl _ | with_reducible refine Since.later ?_ (by with_reducible assumption) | with_reducible refine Since.only ?_ (by with_reducible assumption) (by first | assumption | omega | (simp; done) | (simp; omega)) | with_reducible refine Since.alloc ?_ _ | with_reducible refine Since.drewN ?_ _ | with_reducible refine Since.drew ?_ | with_reducible refine Since.set ?_ (by first | assumption | omega | (simp; done) | (simp; omega)) _))⟩
    | false =>
      have K := Lib.hid (HW.out hr)
      have HR := Lib.hid hr
      clear hr
      go_wp2_with (go_at_call 42; refine (rinOne ⟨lo, hi2⟩ x g _ (hs.cell hgl HX.out)).mono ?_; rintro e w1 ⟨rfl, hb1⟩; rw [HR.out])
      go_roundw
      case rel => exact ⟨i + 1, by go_num, by omega, K, (by refine Since.out ?_; repeat (first | with_reducible assumption | with_reducible exact Since.refl _ | with_reducible refine Since.later ?_ (by with_reducible assumption) | with_reducible refine Since.only ?_ (by with_reducible assumption) (by first | assumption | omega | (simp; done) | (simp; omega)) | with_reducible refine Since.alloc ?_ _ | with_reducible refine Since.drewN ?_ _ | with_reducible refine Since.drew ?_ | with_reducible refine Since.set ?_ (by first | assumption | omega | (simp; done) | (simp; omega)) _))⟩
      case measure => simp [intOf]; omega
theorem rcontains (A : Option Addr) (n cap : Nat) (L : List Rng) (x : Int) (g : Nat) (w : World) (hn : L.length = n) (h : Rd w 2 (.slice A n cap) (L.map rngRow)) (hx : w.cell? ⟨g, 0, none⟩ = some (.int .i64 x)) :
    Calls Tryz.prog 41 #[.slice A n cap, .func (Fn.func 42) #[] #[.pointer (some ⟨g, 0, none⟩)]] w fun e w' => e = .returned (.bool (inB L x)) ∧ Below w.heap.size w w' := by
  have hs := Lib.hid (rplace_sign L x)
  have H := Lib.hid h
  have HX := Lib.hid hx
  clear h hx
  go_enter Tryz.func41, Tryz.ntmps41
  go_wp2_with fail
  refine (rindex A n cap L x g _ hn H.out HX.out).mono ?_
  rintro e w1 ⟨rfl, hb1⟩
  go_wp2_with fail
  go_ret
  exact ⟨by rw [← hs.out]; rfl, hb1⟩
theorem rin_any (A : Option Addr) (n cap : Nat) (L : List Rng) (x : Int) (w : World) (hn : L.length = n) (h : Rd w 2 (.slice A n cap) (L.map rngRow)) :
    Calls Tryz.prog 31 #[.slice A n cap, .int .i64 x] w fun e w' => e = .returned (.bool (inB L x)) ∧ Below w.heap.size w w' := by
  have H := Lib.hid h
  clear h
  go_enter Tryz.func31, Tryz.ntmps31
  go_wp2_with fail
  refine (rcontains A n cap L x w.heap.size _ hn (H.out.later (by refine Since.out ?_; repeat (first | with_reducible assumption | with_reducible exact Since.refl _ | with_reducible refine Since.later ?_ (by with_reducible assumption) | with_reducible refine Since.only ?_ (by with_reducible assumption) (by first | assumption | omega | (simp; done) | (simp; omega)) | with_reducible refine Since.alloc ?_ _ | with_reducible refine Since.drewN ?_ _ | with_reducible refine Since.drew ?_ | with_reducible refine Since.set ?_ (by first | assumption | omega | (simp; done) | (simp; omega)) _))) ((BlockIs.fresh w _ _).cell 0)).mono ?_
  rintro e w1 ⟨rfl, hb1⟩
  go_wp2_with fail
  go_ret
  exact ⟨rfl, (by refine Since.out ?_; repeat (first | with_reducible assumption | with_reducible exact Since.refl _ | with_reducible refine Since.later ?_ (by with_reducible assumption) | with_reducible refine Since.only ?_ (by with_reducible assumption) (by first | assumption | omega | (simp; done) | (simp; omega)) | with_reducible refine Since.alloc ?_ _ | with_reducible refine Since.drewN ?_ _ | with_reducible refine Since.drew ?_ | with_reducible refine Since.set ?_ (by first | assumption | omega | (simp; done) | (simp; omega)) _))⟩
end Go.Proofs.YtjjmoaaongnjiaaGreatDoor
