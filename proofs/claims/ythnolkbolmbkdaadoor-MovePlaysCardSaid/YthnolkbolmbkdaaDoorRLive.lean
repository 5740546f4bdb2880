/- Contracts of the reference's IDs.Live, and of wiresame.IDs. Condition: the blocks hold IDs as the calls leave them. -/
import Derived.Test.YthnolkbolmbkdaaDoorRIds
namespace Go.Proofs.YthnolkbolmbkdaaDoor
open Go.ChangeShapes Go.WideShapes Go.ChangeAt Go.RowKit
set_option linter.unusedVariables false

theorem liveFrom_snoc : ∀ (N : List Int) (Gn : List Bool) (k : Nat) (x : Int) (g : Bool), Gn.length = N.length → liveFrom (N ++ [x]) (Gn ++ [g]) k = liveFrom N Gn k ++ (if g then [] else [⟨((k + N.length : Nat) : Int), x⟩])
  | [], [], k, x, g, _ => by cases g <;> simp [liveFrom]
  | y :: r, b :: s, k, x, g, h => by
    have h' : s.length = r.length := by simpa using h
    have ih := liveFrom_snoc r s (k + 1) x g h'
    have e : k + 1 + r.length = k + (y :: r).length := by simp; omega
    rw [e] at ih
    cases b with
    | true => simp only [List.cons_append, liveFrom, if_true]; exact ih
    | false => simp only [List.cons_append, liveFrom, Bool.false_eq_true, if_false]; rw [ih]
  | [], _ :: _, _, _, _, h => by simp at h
  | _ :: _, [], _, _, _, h => by simp at h
theorem liveOf_snoc {N : List Int} {Gn : List Bool} (h : Gn.length = N.length) (x : Int) (g : Bool) : liveOf (N ++ [x]) (Gn ++ [g]) = liveOf N Gn ++ (if g then [] else [⟨(N.length : Int), x⟩]) := by
  unfold liveOf
  rw [liveFrom_snoc N Gn 0 x g h, Nat.zero_add]
theorem liveOf_step {N : List Int} {Gn : List Bool} (h : Gn.length = N.length) {i : Nat} (hi : i < N.length) : liveOf (N.take (i + 1)) (Gn.take (i + 1)) = liveOf (N.take i) (Gn.take i) ++ (if Gn[i]'(by omega) then [] else [⟨(i : Int), N[i]⟩]) := by
  rw [List.take_succ_eq_append_getElem hi, List.take_succ_eq_append_getElem (by omega : i < Gn.length), liveOf_snoc (by rw [List.length_take, List.length_take, h])]
  rw [List.length_take, Nat.min_eq_left (Nat.le_of_lt hi)]
theorem liveOf_le {N : List Int} {Gn : List Bool} (h : Gn.length = N.length) (i : Nat) : (liveOf (N.take i) (Gn.take i)).length ≤ i := by
  induction i with
  | zero => simp [liveOf, liveFrom]
  | succ i ih =>
    by_cases hi : i < N.length
    · rw [liveOf_step h hi, List.length_append]
      split <;> simp <;> omega
    · rw [List.take_of_length_le (by omega), List.take_of_length_le (by omega)]
      rw [List.take_of_length_le (by omega), List.take_of_length_le (by omega)] at ih
      omega

set_option maxHeartbeats 1600000 in
theorem rlive (g : Nat) (va vg : Value) (lim : Int) (N : List Int) (Gn : List Bool) (w : World) (h : Rz w g va vg lim N Gn) :
    Calls Tryd.prog 28 #[.pointer (some ⟨g, 0, none⟩)] w fun e w' => ∃ A cap, e = .returned (.slice A (liveOf N Gn).length cap) ∧ Lst w' 52 2 (.slice A (liveOf N Gn).length cap) ((liveOf N Gn).map idRow) ∧ Below w.heap.size w w' ∧ ∀ k, k ∈ blocks (.slice A 0 0) → w.heap.size ≤ k := by
  obtain ⟨A, cap, hve, hcap, hmx, hA⟩ := h.la.shape
  rw [List.length_map, issued_length] at hve hcap
  obtain ⟨B, cap2, hvg, hcap2, hmx2, hB⟩ := h.lg.shape
  rw [List.length_map, h.len] at hvg hcap2
  subst hve hvg
  have hlen := h.len
  have hmost := h.most
  have H := Lib.hid h
  have HA := Lib.hid hA
  have HB := Lib.hid hB
  have HLEN := Lib.hid hlen
  clear h hA hB hlen
  go_enter Tryd.func28, Tryd.ntmps28
  go_wp2_with fail
  go_loopw [3, 4] (fun s3 s4 wr => ∃ (i n : Nat) (Ao : Option Addr) (co : Nat), s4 = .int .i64 i ∧ i ≤ N.length ∧ s3 = .slice Ao n co ∧ Hid (n = (liveOf (N.take i) (Gn.take i)).length) ∧ Lst wr 52 2 (.slice Ao n co) ((liveOf (N.take i) (Gn.take i)).map idRow) ∧ (∀ k, k ∈ blocks (.slice Ao 0 0) → w.heap.size ≤ k) ∧ Since w wr) (fun _ s4 _ => N.length - (intOf s4).toNat)
  case atStart => exact ⟨0, 0, none, 0, rfl, Nat.zero_le _, rfl, Lib.hid (by simp [liveOf, liveFrom]), by simpa [liveOf, liveFrom] using Lst.nil w _ 2, by simp [Value.ownBlock], Since.refl _⟩
  case round =>
    obtain ⟨i, n, Ao, co, rfl, hi, rfl, hn, hlo, hfar, hs⟩ := hrel
    have HLO := Lib.hid hlo
    have HFAR := Lib.hid hfar
    have c1 : wr.cell? ⟨g, 1, none⟩ = some (.slice A N.length cap) := (H.out.bl.later hs).cell 1
    have c2 : wr.cell? ⟨g, 2, none⟩ = some (.slice B N.length cap2) := (H.out.bl.later hs).cell 2
    clear hlo hfar
    by_cases hlt : i < N.length
    case neg =>
      obtain rfl : i = N.length := by omega
      have hf : decide ((N.length : Int) < (N.length : Int)) = false := by simp
      go_wp2_with fail
      go_ret
      have e1 : N.take N.length = N := List.take_length
      have e2 : Gn.take N.length = Gn := by rw [← HLEN.out]; exact List.take_length
      have h1 := HLO.out
      have h2 := hn.out
      rw [e1, e2] at h1 h2
      rw [← h2]
      exact ⟨Ao, co, rfl, h1, (by refine Since.out ?_; repeat (first | with_reducible assumption | with_reducible exact Since.refl _ | with_reducible refine Since.later ?_ (by with_reducible assumption) | with_reducible refine Since.only ?_ (by with_reducible assumption) (by first | assumption | omega | (simp; done) | (simp; omega)) | with_reducible refine Since.alloc ?_ _ | with_reducible refine Since.drewN ?_ _ | with_reducible refine Since.drew ?_ | with_reducible refine Since.set ?_ (by first | assumption | omega | (simp; done) | (simp; omega)) _)), HFAR.out⟩
    have hlt' : (i : Int) < (N.length : Int) := by omega
    rcases HB.out with ⟨_, h0, _⟩ | ⟨qb, rfl⟩
    · have : Gn = [] := by simpa using h0
      have := HLEN.out
      simp_all
    rcases HA.out with ⟨_, h0, _⟩ | ⟨qa, rfl⟩
    · have : issued N = [] := by simpa using h0
      have : (issued N).length = 0 := by rw [this]; rfl
      rw [issued_length] at this
      omega
    have hig : i < Gn.length := by rw [HLEN.out]; exact hlt
    have hget : (Gn.map boolRow)[i]? = some (boolRow Gn[i]) := by simp [hig]
    have qg : wr.cell? ⟨qb, i, none⟩ = some (.bool Gn[i]) := by
      have := (H.out.lg.later hs).cell rfl hget (j := 0) rfl
      simpa using this
    have hst := liveOf_step HLEN.out hlt
    obtain ⟨gb, hgb⟩ : ∃ b, Gn[i] = b := ⟨_, rfl⟩
    rw [hgb] at qg hst
    have HST := Lib.hid hst
    clear hst hget hgb
    cases gb with
    | true =>
      have HST2 : Hid (liveOf (N.take (i + 1)) (Gn.take (i + 1)) = liveOf (N.take i) (Gn.take i)) := Lib.hid (by rw [HST.out]; simp)
      go_wp2_with fail
      go_roundw
      case rel => exact ⟨i + 1, n, Ao, co, by go_num, by omega, rfl, by rw [HST2.out]; exact hn, by rw [HST2.out]; exact HLO.out, HFAR.out, hs⟩
      case measure => simp [intOf]; omega
    | false =>
      have HST2 : Hid (liveOf (N.take (i + 1)) (Gn.take (i + 1)) = liveOf (N.take i) (Gn.take i) ++ [⟨(i : Int), N[i]⟩]) := Lib.hid (by rw [HST.out]; simp)
      have hji : i < (issued N).length := by rw [issued_length]; exact hlt
      have q0 : wr.cell? ⟨qa, i * 2, none⟩ = some (.int .i64 (i : Int)) := by
        have := (H.out.la.later hs).cell rfl (elem_of_row hji) (j := 0) rfl
        rw [issued_at hji] at this
        exact this
      have q1 : wr.cell? ⟨qa, i * 2 + 1, none⟩ = some (.int .i64 N[i]) := by
        have := (H.out.la.later hs).cell rfl (elem_of_row hji) (j := 1) rfl
        rw [issued_at hji] at this
        exact this
      obtain ⟨ni, hni⟩ : ∃ x, N[i] = x := ⟨_, rfl⟩
      rw [hni] at q1 HST2
      have hml : ((liveOf (N.take i) (Gn.take i)).map idRow).length = n := by rw [List.length_map]; exact hn.out.symm
      have hsm : n ≤ 100 := by have := liveOf_le HLEN.out i; have := hn.out; omega
      have HML := Lib.hid hml
      clear hni hml hji
      go_wp2_with (at_builtin; refine wpList_push rfl _ _ 38 rfl 52 2 16 Tryd.elID (.slice Ao n co) ((liveOf (N.take i) (Gn.take i)).map idRow) rfl (HLO.out.alloc _) wr.heap.size 1 [.int .i64 i, .int .i64 ni] rfl rfl (idRow_one ⟨i, ni⟩).2 (BlockIs.fresh _ _ _) (by rw [HML.out]; omega) ?_; intro qn cn w1 hl1 ho1 hq1 hlt1)
      rw [HML.out] at hl1
      have hsn : Since w w1 := (hs.alloc _).out' ho1 (fun k hk => HFAR.out k (blocks_any Ao _ _ _ _ ▸ hk))
      have hfar1 : ∀ k, k ∈ blocks (.slice (some ⟨qn, 0, none⟩) 0 0) → w.heap.size ≤ k := by
        intro k hk
        have hkq : qn = k := by simpa [Value.ownBlock] using hk
        rw [← hkq]
        rcases hq1 with h1 | h1
        · exact HFAR.out _ (blocks_any Ao _ _ _ _ ▸ h1)
        · have := hs.le; simp at h1; omega
      have HF1 := Lib.hid hfar1
      have HL1 := Lib.hid hl1
      clear hfar1 hl1 ho1 hq1 hlt1 q0 q1 qg c1 c2
      go_roundw
      case rel => exact ⟨i + 1, n + 1, some ⟨qn, 0, none⟩, cn, by go_num, by omega, by rw [← hn.out], Lib.hid (by rw [HST2.out, List.length_append, hn.out]; rfl), by rw [HST2.out, List.map_append]; exact HL1.out, HF1.out, hsn⟩
      case measure => simp [intOf]; omega
end Go.Proofs.YthnolkbolmbkdaaDoor
