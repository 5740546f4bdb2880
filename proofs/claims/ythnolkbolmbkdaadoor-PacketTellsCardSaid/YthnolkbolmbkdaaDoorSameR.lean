/- wiresame.Ranges and wiresame.Ints on two slices that hold one list, each readable. Condition: the slices can be read. -/
import Derived.Test.YthnolkbolmbkdaaDoorRngs
namespace Go.Proofs.YthnolkbolmbkdaaDoor
open Go.ChangeShapes Go.WideShapes Go.ChangeAt Go.RowKit
set_option linter.unusedVariables false

theorem rd_cap {w : World} {k n cap : Nat} {A : Option Addr} {es : List (List Value)} (h : Rd w k (.slice A n cap) es) : es.length = n ∧ n ≤ 9223372036854775807 := by
  obtain ⟨A', cap', hv, h1, h2, _⟩ := h.shape
  simp only [Value.slice.injEq] at hv
  obtain ⟨_, rfl, _⟩ := hv
  unfold maxLen at h2
  exact ⟨rfl, by omega⟩
theorem rd_of_block {w : World} {g k n cap : Nat} {t : TypeId} {es : List (List Value)} (h : BlockIs w g t (flat es).toArray) (hr : ∀ e ∈ es, e.length = k ∧ ∀ u ∈ e, u.oneCell' = true) (hn : es.length = n) (hc : n ≤ cap) (hm : cap ≤ 1000000) : Rd w k (.slice (some ⟨g, 0, none⟩) n cap) es := by
  subst hn
  refine ⟨⟨_, cap, rfl, hc, by unfold maxLen; omega, fun _ => ⟨g, 0, rfl, h.lt, fun j u hu => ?_⟩⟩, hr⟩
  rw [Nat.zero_add, h.cell]
  simpa using hu
set_option maxHeartbeats 1600000 in
theorem rngeqR (A B : Option Addr) (ca cb n : Nat) (L : List Rng) (w : World) (hn : L.length = n) (h : Rd w 2 (.slice A n ca) (L.map rngRow)) (h' : Rd w 2 (.slice B n cb) (L.map rngRow)) :
    Calls Tryd.prog 33 #[.slice A n ca, .slice B n cb] w fun e w' => e = .returned (.bool true) ∧ Below w.heap.size w w' := by
  have hcm := (rd_cap h).2
  have H := Lib.hid h
  have H' := Lib.hid h'
  have HN := Lib.hid hn
  have hq : ((n : Int) != (n : Int)) = false := by simp
  clear h h' hn
  go_enter Tryd.func33, Tryd.ntmps33
  go_wp2_with fail
  go_loopw [5] (fun s5 wr => ∃ i : Nat, s5 = .int .i64 i ∧ i ≤ n ∧ Since w wr) (fun s5 _ => n - (intOf s5).toNat)
  case atStart => exact ⟨0, rfl, Nat.zero_le _, Since.refl _⟩
  case round =>
    obtain ⟨i, rfl, hi, hs⟩ := hrel
    by_cases hlt : i < n
    case neg =>
      obtain rfl : i = n := by omega
      have hf : decide ((i : Int) < (i : Int)) = false := by simp
      go_wp2_with fail
      go_ret
      exact ⟨rfl, (by refine Since.out ?_; repeat (first | with_reducible assumption | with_reducible exact Since.refl _ | with_reducible refine Since.later ?_ (by with_reducible assumption) | with_reducible refine Since.only ?_ (by with_reducible assumption) (by first | assumption | omega | (simp; done) | (simp; omega)) | with_reducible refine Since.alloc ?_ _ | with_reducible refine Since.drewN ?_ _ | with_reducible refine Since.drew ?_ | with_reducible refine Since.set ?_ (by first | assumption | omega | (simp; done) | (simp; omega)) _))⟩
    have hlt' : (i : Int) < (n : Int) := by omega
    obtain ⟨ba, oa, rfl, hla, hca⟩ := H.out.rng (i := i) (by rw [HN.out]; exact hlt)
    obtain ⟨bb, ob, rfl, hlb, hcb⟩ := H'.out.rng (i := i) (by rw [HN.out]; exact hlt)
    obtain ⟨a0, a1⟩ := hca wr hs i (by rw [HN.out]; exact hlt)
    obtain ⟨b0, b1⟩ := hcb wr hs i (by rw [HN.out]; exact hlt)
    have la : ba < wr.heap.size := Nat.lt_of_lt_of_le hla hs.le
    have lb : bb < wr.heap.size := Nat.lt_of_lt_of_le hlb hs.le
    clear hca hcb
    generalize (rat L i).lo = ds at *
    generalize (rat L i).hi = dn at *
    go_wp2_with fail
    go_quiet (fail)
    go_wp2_with fail
    go_roundw
    case rel => exact ⟨i + 1, by go_num, by omega, (by refine Since.out ?_; repeat (first | with_reducible assumption | with_reducible exact Since.refl _ | with_reducible refine Since.later ?_ (by with_reducible assumption) | with_reducible refine Since.only ?_ (by with_reducible assumption) (by first | assumption | omega | (simp; done) | (simp; omega)) | with_reducible refine Since.alloc ?_ _ | with_reducible refine Since.drewN ?_ _ | with_reducible refine Since.drew ?_ | with_reducible refine Since.set ?_ (by first | assumption | omega | (simp; done) | (simp; omega)) _))⟩
    case measure => simp [intOf]; omega
set_option maxHeartbeats 1600000 in
theorem inteqR (v v' : Value) (L : List Int) (w : World) (h : IntsIn w v L) (h' : IntsIn w v' L) :
    Calls Tryd.prog 78 #[v, v'] w fun e w' => e = .returned (.bool true) ∧ Below w.heap.size w w' := by
  obtain ⟨_, A, ca, rfl, q1, q2, hA⟩ := h
  obtain ⟨_, B, cb, rfl, q3, q4, hB⟩ := h'
  obtain ⟨n, hn⟩ : ∃ n, L.length = n := ⟨_, rfl⟩
  rw [hn] at q1 q3 hA hB ⊢
  unfold maxLen at q2 q4
  have hcm : n ≤ 9223372036854775807 := by omega
  have HA := Lib.hid hA
  have HB := Lib.hid hB
  have HN := Lib.hid hn
  have hq : ((n : Int) != (n : Int)) = false := by simp
  clear hA hB hn q1 q2 q3 q4
  go_enter Tryd.func78, Tryd.ntmps78
  go_wp2_with fail
  go_loopw [5] (fun s5 wr => ∃ i : Nat, s5 = .int .i64 i ∧ i ≤ n ∧ Since w wr) (fun s5 _ => n - (intOf s5).toNat)
  case atStart => exact ⟨0, rfl, Nat.zero_le _, Since.refl _⟩
  case round =>
    obtain ⟨i, rfl, hi, hs⟩ := hrel
    by_cases hlt : i < n
    case neg =>
      obtain rfl : i = n := by omega
      have hf : decide ((i : Int) < (i : Int)) = false := by simp
      go_wp2_with fail
      go_ret
      exact ⟨rfl, (by refine Since.out ?_; repeat (first | with_reducible assumption | with_reducible exact Since.refl _ | with_reducible refine Since.later ?_ (by with_reducible assumption) | with_reducible refine Since.only ?_ (by with_reducible assumption) (by first | assumption | omega | (simp; done) | (simp; omega)) | with_reducible refine Since.alloc ?_ _ | with_reducible refine Since.drewN ?_ _ | with_reducible refine Since.drew ?_ | with_reducible refine Since.set ?_ (by first | assumption | omega | (simp; done) | (simp; omega)) _))⟩
    have hlt' : (i : Int) < (n : Int) := by omega
    have hne : L ≠ [] := by intro h0; have := HN.out; rw [h0] at this; simp at this; omega
    obtain ⟨ba, oa, rfl, hla, hca⟩ := HA.out hne
    obtain ⟨bb, ob, rfl, hlb, hcb⟩ := HB.out hne
    have a0 := hs.cell hla (hca i hlt)
    have b0 := hs.cell hlb (hcb i hlt)
    have la : ba < wr.heap.size := Nat.lt_of_lt_of_le hla hs.le
    have lb : bb < wr.heap.size := Nat.lt_of_lt_of_le hlb hs.le
    clear hca hcb hne
    generalize ith L i = ds at *
    go_wp2_with fail
    go_quiet (fail)
    go_wp2_with fail
    go_roundw
    case rel => exact ⟨i + 1, by go_num, by omega, (by refine Since.out ?_; repeat (first | with_reducible assumption | with_reducible exact Since.refl _ | with_reducible refine Since.later ?_ (by with_reducible assumption) | with_reducible refine Since.only ?_ (by with_reducible assumption) (by first | assumption | omega | (simp; done) | (simp; omega)) | with_reducible refine Since.alloc ?_ _ | with_reducible refine Since.drewN ?_ _ | with_reducible refine Since.drew ?_ | with_reducible refine Since.set ?_ (by first | assumption | omega | (simp; done) | (simp; omega)) _))⟩
    case measure => simp [intOf]; omega
end Go.Proofs.YthnolkbolmbkdaaDoor
