/- Contracts of frame.shape, frame.Check's closure, slices.ContainsFunc over ints. Condition: the numbers can be read; the table of counts holds what the program's text lays. -/
import Derived.Test.YthnolkbolmbkdaaDoorFrm
import Derived.Test.YthnolkbolmbkdaaDoorLaid2
import Derived.Test.YthnolkbolmbkdaaDoorMayB
namespace Go.Proofs.YthnolkbolmbkdaaDoor
open Go.ChangeShapes Go.WideShapes Go.ChangeAt Go.RowKit
set_option linter.unusedVariables false

/-! frame.shape -/
theorem shapeB_data {f : Frm} (h : f.kind ≠ 3) (h2 : f.data.size ≠ 0) : shapeB f = false := by
  unfold shapeB
  have : (f.kind == 3) = false := by simpa using h
  have h3 : (f.data.size == 0) = false := by simpa using h2
  rw [this, h3]; rfl
theorem shapeB_ack {f : Frm} (h : f.kind = 2) (h2 : f.data.size = 0) : shapeB f = decide (0 < f.nums.length ∧ f.nums.length % 2 = 0 ∧ f.nums.length ≤ 24) := by
  unfold shapeB
  rw [if_pos h, h2]; simp
theorem shapeB_other {f : Frm} (h : f.kind ≠ 2) (h2 : f.kind = 3 ∨ f.data.size = 0) : shapeB f = decide ((f.nums.length : Int) = manyK f.kind) := by
  unfold shapeB
  rw [if_neg h]
  have : (f.kind == 3 || f.data.size == 0) = true := by rcases h2 with h2 | h2 <;> simp [h2]
  rw [this, Bool.true_and]
theorem str_empty {s : ByteArray} (h : s.size = 0) : s.toList.isEmpty = true ∧ s.toList = [] := by
  have hl : s.data.toList.length = 0 := h
  have : s.toList = [] := by rw [ByteArray.toList_eq]; exact List.length_eq_zero_iff.1 hl
  rw [this]; exact ⟨rfl, rfl⟩
theorem str_full {s : ByteArray} (h : s.size ≠ 0) : s.toList.isEmpty = false ∧ ¬ s.toList = [] := by
  have hl : s.data.toList.length ≠ 0 := h
  have : ¬ s.toList = [] := by rw [ByteArray.toList_eq]; exact fun h2 => hl (by rw [h2]; rfl)
  exact ⟨by cases hh : s.toList with | nil => exact absurd hh this | cons a l => rfl, this⟩
theorem cntK_many {k : Nat} (h1 : 1 ≤ k) (h8 : k ≤ 8) (h2 : k ≠ 2) : cntK k = manyK k := by
  match k, h1, h8, h2 with
  | 1, _, _, _ => rfl
  | 3, _, _, _ => rfl
  | 4, _, _, _ => rfl
  | 5, _, _, _ => rfl
  | 6, _, _, _ => rfl
  | 7, _, _, _ => rfl
  | 8, _, _, _ => rfl

set_option maxHeartbeats 1600000 in
theorem fshape (p : FrmV) (w : World) (hk1 : 1 ≤ p.f.kind) (hk8 : p.f.kind ≤ 8) (hn : p.f.nums.length ≤ 9223372036854775807) (hC : CTab w) :
    Calls Tryd.prog 81 #[p.agg] w fun e w' => e = .returned (.bool (shapeB p.f)) ∧ Below w.heap.size w w' := by
  obtain ⟨⟨kind, nums, data⟩, A, cap⟩ := p
  simp only at hk1 hk8 hn
  obtain ⟨k, rfl⟩ : ∃ k : Nat, kind = k := ⟨kind.toNat, by omega⟩
  have HC := Lib.hid hC
  clear hC
  unfold FrmV.agg
  simp only
  by_cases h3 : (k : Int) ≠ 3 ∧ data.size ≠ 0
  · have HS := Lib.hid (shapeB_data (f := ⟨k, nums, data⟩) h3.1 h3.2)
    obtain ⟨e1, e2⟩ := str_full h3.2
    have h3' : ((k : Int) != 3) = true := by simpa using h3.1
    clear h3
    rw [HS.out]
    go_enter Tryd.func81, Tryd.ntmps81
    trace "A"; go_wp2_with fail
    go_ret
    exact ⟨rfl, (by refine Since.out ?_; repeat (first | with_reducible assumption | with_reducible exact Since.refl _ | with_reducible refine Since.later ?_ (by with_reducible assumption) | with_reducible refine Since.only ?_ (by with_reducible assumption) (by first | assumption | omega | (simp; done) | (simp; omega)) | with_reducible refine Since.alloc ?_ _ | with_reducible refine Since.drewN ?_ _ | with_reducible refine Since.drew ?_ | with_reducible refine Since.set ?_ (by first | assumption | omega | (simp; done) | (simp; omega)) _))⟩
  have hd : (k : Int) = 3 ∨ data.size = 0 := by
    by_cases h : (k : Int) = 3
    · exact Or.inl h
    · exact Or.inr (Decidable.byContradiction fun h2 => h3 ⟨h, h2⟩)
  have hpass : ((k : Int) != 3) = false ∨ (((k : Int) != 3) = true ∧ data.toList.isEmpty = true ∧ data.toList = []) := by
    by_cases h : (k : Int) = 3
    · exact Or.inl (by simp [h])
    · rcases hd with hd | hd
      · exact absurd hd h
      · exact Or.inr ⟨by simpa using h, str_empty hd⟩
  by_cases h2 : (k : Int) = 2
  · obtain rfl : k = 2 := by omega
    have h0 : data.size = 0 := by rcases hd with hd | hd; omega; exact hd
    have HS := Lib.hid (shapeB_ack (f := ⟨(2 : Nat), nums, data⟩) rfl h0)
    obtain ⟨e1, e2⟩ := str_empty h0
    obtain ⟨n, hn2⟩ : ∃ n, nums.length = n := ⟨_, rfl⟩
    simp only [hn2] at HS hn ⊢
    clear hn2 h3 hd hpass h2 hk1 hk8
    by_cases q1 : 0 < n
    case neg =>
      have Q := Lib.hid (show shapeB ⟨(2 : Nat), nums, data⟩ = false by rw [HS.out]; simp; omega)
      obtain rfl : n = 0 := by omega
      rw [Q.out]
      clear q1
      go_enter Tryd.func81, Tryd.ntmps81
      go_wp2_with fail
      go_ret
      exact ⟨rfl, (by refine Since.out ?_; repeat (first | with_reducible assumption | with_reducible exact Since.refl _ | with_reducible refine Since.later ?_ (by with_reducible assumption) | with_reducible refine Since.only ?_ (by with_reducible assumption) (by first | assumption | omega | (simp; done) | (simp; omega)) | with_reducible refine Since.alloc ?_ _ | with_reducible refine Since.drewN ?_ _ | with_reducible refine Since.drew ?_ | with_reducible refine Since.set ?_ (by first | assumption | omega | (simp; done) | (simp; omega)) _))⟩
    by_cases q2 : n % 2 = 0
    case neg =>
      have Q := Lib.hid (show shapeB ⟨(2 : Nat), nums, data⟩ = false by rw [HS.out]; simp; omega)
      have q2' : (((n : Int) % 2) == 0) = false := by simp; omega
      rw [Q.out]
      clear q2
      go_enter Tryd.func81, Tryd.ntmps81
      go_wp2_with fail
      go_ret
      exact ⟨rfl, (by refine Since.out ?_; repeat (first | with_reducible assumption | with_reducible exact Since.refl _ | with_reducible refine Since.later ?_ (by with_reducible assumption) | with_reducible refine Since.only ?_ (by with_reducible assumption) (by first | assumption | omega | (simp; done) | (simp; omega)) | with_reducible refine Since.alloc ?_ _ | with_reducible refine Since.drewN ?_ _ | with_reducible refine Since.drew ?_ | with_reducible refine Since.set ?_ (by first | assumption | omega | (simp; done) | (simp; omega)) _))⟩
    have q2' : (((n : Int) % 2) == 0) = true := by simp; omega
    by_cases q3 : n ≤ 24
    · have Q := Lib.hid (show shapeB ⟨(2 : Nat), nums, data⟩ = true by rw [HS.out]; simp; omega)
      have q3' : (n : Int) ≤ 24 := by omega
      rw [Q.out]
      clear q2
      go_enter Tryd.func81, Tryd.ntmps81
      go_wp2_with fail
      go_ret
      exact ⟨rfl, (by refine Since.out ?_; repeat (first | with_reducible assumption | with_reducible exact Since.refl _ | with_reducible refine Since.later ?_ (by with_reducible assumption) | with_reducible refine Since.only ?_ (by with_reducible assumption) (by first | assumption | omega | (simp; done) | (simp; omega)) | with_reducible refine Since.alloc ?_ _ | with_reducible refine Since.drewN ?_ _ | with_reducible refine Since.drew ?_ | with_reducible refine Since.set ?_ (by first | assumption | omega | (simp; done) | (simp; omega)) _))⟩
    · have Q := Lib.hid (show shapeB ⟨(2 : Nat), nums, data⟩ = false by rw [HS.out]; simp; omega)
      have q3' : decide ((n : Int) ≤ 24) = false := by simp; omega
      rw [Q.out]
      clear q2 q3
      go_enter Tryd.func81, Tryd.ntmps81
      go_wp2_with fail
      go_ret
      exact ⟨rfl, (by refine Since.out ?_; repeat (first | with_reducible assumption | with_reducible exact Since.refl _ | with_reducible refine Since.later ?_ (by with_reducible assumption) | with_reducible refine Since.only ?_ (by with_reducible assumption) (by first | assumption | omega | (simp; done) | (simp; omega)) | with_reducible refine Since.alloc ?_ _ | with_reducible refine Since.drewN ?_ _ | with_reducible refine Since.drew ?_ | with_reducible refine Since.set ?_ (by first | assumption | omega | (simp; done) | (simp; omega)) _))⟩
  have HS := Lib.hid (shapeB_other (f := ⟨k, nums, data⟩) h2 hd)
  have HM := Lib.hid (cntK_many (k := k) (by omega) (by omega) (by omega))
  obtain ⟨n, hn2⟩ : ∃ n, nums.length = n := ⟨_, rfl⟩
  simp only [hn2] at HS hn ⊢
  have h2' : ((k : Int) == 2) = false := by simpa using h2
  have HCC := Lib.hid (HC.out k (by omega))
  rw [HM.out] at HCC
  have hgl := HC.out.lt
  have HQ : Hid (shapeB ⟨k, nums, data⟩ = ((n : Int) == manyK k)) := Lib.hid (by rw [HS.out]; rw [Bool.eq_iff_iff]; simp)
  rw [HQ.out]
  clear hn2 h3 hd h2
  rcases hpass with h3' | ⟨h3', e1, e2⟩
  all_goals
    have hcc := HCC.out
    go_enter Tryd.func81, Tryd.ntmps81
    trace "B"; go_wp2_with fail
    go_quiet (fail)
    go_wp2_with fail
    go_ret
    exact ⟨rfl, (by refine Since.out ?_; repeat (first | with_reducible assumption | with_reducible exact Since.refl _ | with_reducible refine Since.later ?_ (by with_reducible assumption) | with_reducible refine Since.only ?_ (by with_reducible assumption) (by first | assumption | omega | (simp; done) | (simp; omega)) | with_reducible refine Since.alloc ?_ _ | with_reducible refine Since.drewN ?_ _ | with_reducible refine Since.drew ?_ | with_reducible refine Since.set ?_ (by first | assumption | omega | (simp; done) | (simp; omega)) _))⟩

/-! may all numbers be -/
theorem mayNot (z : Int) (w : World) :
    Calls Tryd.prog 83 #[.int .i64 z] w fun e w' => e = .returned (.bool (!mayB z)) ∧ w = w' := by
  go_enter Tryd.func83, Tryd.ntmps83
  go_wp2_with fail
  refine (may_any z _).mono ?_
  rintro e w' ⟨rfl, rfl⟩
  go_wp2_with fail
  go_ret
  exact ⟨rfl, rfl⟩
def mplace (L : List Int) : Int := if maysB L = true then -1 else ((L.findIdx fun z => !mayB z : Nat) : Int)
theorem mplace_sign (L : List Int) : decide (0 ≤ mplace L) = !maysB L := by
  unfold mplace
  cases maysB L <;> simp
theorem maysB_iff {L : List Int} : maysB L = true ↔ ∀ i, i < L.length → mayB (ith L i) = true := by
  unfold maysB
  rw [List.all_eq_true]
  constructor
  · exact fun h i hi => h _ (ith_mem hi)
  · intro h z hz
    obtain ⟨i, hi, rfl⟩ := List.getElem_of_mem hz
    have := h i hi
    unfold ith at this
    simpa [List.getD, hi] using this
theorem mplace_at {L : List Int} {i : Nat} (h : i < L.length) (h0 : ∀ j, j < i → mayB (ith L j) = true) (h1 : mayB (ith L i) = false) : mplace L = i := by
  have hm : ¬ maysB L = true := fun hh => by rw [maysB_iff.1 hh i h] at h1; cases h1
  unfold mplace
  rw [if_neg hm]
  congr 1
  have hg : ∀ j, (hj : j < L.length) → ith L j = L[j] := fun j hj => by unfold ith; simp [List.getD, hj]
  refine (List.findIdx_eq h).2 ⟨?_, fun j hj => ?_⟩
  · rw [← hg i h, h1]; rfl
  · rw [← hg j (by omega), h0 j hj]; rfl
theorem mplace_none {L : List Int} (h : ∀ j, j < L.length → mayB (ith L j) = true) : mplace L = -1 := by
  unfold mplace
  rw [if_pos (maysB_iff.2 h)]
set_option maxHeartbeats 1600000 in
set_option maxRecDepth 100000 in
theorem fmindex (v : Value) (L : List Int) (w : World) (h : IntsIn w v L) :
    Calls Tryd.prog 107 #[v, .func (Fn.func 83) #[] #[]] w fun e w' => e = .returned (.int .i64 (mplace L)) ∧ Below w.heap.size w w' := by
  obtain ⟨_, A, cap, rfl, q1, q2, hA⟩ := h
  obtain ⟨n, hn⟩ : ∃ n, L.length = n := ⟨_, rfl⟩
  rw [hn] at q1 hA ⊢
  unfold maxLen at q2
  have hcm : n ≤ 9223372036854775807 := by omega
  have HA := Lib.hid hA
  have HN := Lib.hid hn
  clear hA hn q1 q2
  go_enter Tryd.func107, Tryd.ntmps107
  go_wp2_with fail
  go_loopw [8] (fun s8 wr => ∃ i : Nat, s8 = .int .i64 i ∧ i ≤ n ∧ Hid (∀ j, j < i → mayB (ith L j) = true) ∧ Since w wr) (fun s8 _ => n - (intOf s8).toNat)
  case atStart => exact ⟨0, rfl, Nat.zero_le _, Lib.hid (fun j hj => by omega), Since.refl _⟩
  case round =>
    obtain ⟨i, rfl, hi, HU, hs⟩ := hrel
    by_cases hlt : i < n
    case neg =>
      obtain rfl : i = n := by omega
      have hf : decide ((i : Int) < (i : Int)) = false := by simp
      have E := Lib.hid (mplace_none (L := L) (fun j hj => HU.out j (by rw [HN.out] at hj; exact hj)))
      go_wp2_with fail
      go_ret
      exact ⟨by rw [E.out]; rfl, (by refine Since.out ?_; repeat (first | with_reducible assumption | with_reducible exact Since.refl _ | with_reducible refine Since.later ?_ (by with_reducible assumption) | with_reducible refine Since.only ?_ (by with_reducible assumption) (by first | assumption | omega | (simp; done) | (simp; omega)) | with_reducible refine Since.alloc ?_ _ | with_reducible refine Since.drewN ?_ _ | with_reducible refine Since.drew ?_ | with_reducible refine Since.set ?_ (by first | assumption | omega | (simp; done) | (simp; omega)) _))⟩
    have hlt' : (i : Int) < (n : Int) := by omega
    obtain ⟨b, off, rfl, hbl, hc⟩ := HA.out (by intro h0; have := HN.out; rw [h0] at this; simp at this; omega)
    have c0 := hs.cell hbl (hc i hlt)
    have lb : b < wr.heap.size := Nat.lt_of_lt_of_le hbl hs.le
    have HY : Hid (mayB (ith L i) = false → mplace L = i) := Lib.hid (fun h => mplace_at (by rw [HN.out]; exact hlt) HU.out h)
    have HW : Hid (mayB (ith L i) = true → ∀ j, j < i + 1 → mayB (ith L j) = true) := Lib.hid (fun h j hj => by
      rcases Nat.lt_succ_iff_lt_or_eq.1 hj with h1 | h1
      · exact HU.out j h1
      · rw [h1]; exact h)
    clear hc
    generalize ith L i = z at *
    cases hr : mayB z with
    | false =>
      have E := Lib.hid (HY.out hr)
      have HR := Lib.hid hr
      clear hr
      go_wp2_with (go_at_call 83; refine (mayNot z _).mono ?_; rintro e w1 ⟨rfl, rfl⟩; rw [HR.out])
      go_ret
      exact ⟨by rw [E.out]; rfl, (by refine Since.out ?_; repeat (first | with_reducible assumption | with_reducible exact Since.refl _ | with_reducible refine Since.later ?_ (by with_reducible assumption) | with_reducible refine Since.only ?_ (by with_reducible assumption) (by first | assumption | omega | (simp; done) | (simp; omega)) | with_reducible refine Since.alloc ?_ _ | with_reducible refine Since.drewN ?_ _ | with_reducible refine Since.drew ?_ | with_reducible refine Since.set ?_ (by first | assumption | omega | (simp; done) | (simp; omega)) _))⟩
    | true =>
      have K := Lib.hid (HW.out hr)
      have HR := Lib.hid hr
      clear hr
      go_wp2_with (go_at_call 83; refine (mayNot z _).mono ?_; rintro e w1 ⟨rfl, rfl⟩; rw [HR.out])
      go_roundw
      case rel => exact ⟨i + 1, by go_num, by omega, K, (by refine Since.out ?_; repeat (first | with_reducible assumption | with_reducible exact Since.refl _ | with_reducible refine Since.later ?_ (by with_reducible assumption) | with_reducible refine Since.only ?_ (by with_reducible assumption) (by first | assumption | omega | (simp; done) | (simp; omega)) | with_reducible refine Since.alloc ?_ _ | with_reducible refine Since.drewN ?_ _ | with_reducible refine Since.drew ?_ | with_reducible refine Since.set ?_ (by first | assumption | omega | (simp; done) | (simp; omega)) _))⟩
      case measure => simp [intOf]; omega
theorem fmcontains (v : Value) (L : List Int) (w : World) (h : IntsIn w v L) :
    Calls Tryd.prog 82 #[v, .func (Fn.func 83) #[] #[]] w fun e w' => e = .returned (.bool (!maysB L)) ∧ Below w.heap.size w w' := by
  have hs := Lib.hid (mplace_sign L)
  have H := Lib.hid h
  clear h
  go_enter Tryd.func82, Tryd.ntmps82
  go_wp2_with fail
  refine (fmindex v L _ H.out).mono ?_
  rintro e w1 ⟨rfl, hb1⟩
  go_wp2_with fail
  go_ret
  exact ⟨by rw [← hs.out]; rfl, hb1⟩
end Go.Proofs.YthnolkbolmbkdaaDoor
