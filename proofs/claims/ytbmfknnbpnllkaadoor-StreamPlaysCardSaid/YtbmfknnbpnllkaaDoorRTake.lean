/- Contracts of the reference's stream: Take from 0 on, Gaps. Condition: the block holds a stream as NewStream and the calls leave it. -/
import Derived.Test.YtbmfknnbpnllkaaDoorRStrm
import Derived.Deep.DeepCutAuto
namespace Go.Proofs.YtbmfknnbpnllkaaDoor
open Go.ChangeShapes Go.WideShapes Go.ChangeAt Go.RowKit
set_option linter.unusedVariables false

def byRow (b : UInt8) : List Value := [.int .u8 (b.toNat : Int)]
theorem byRow_one (b : UInt8) : (byRow b).length = 1 ∧ ∀ u ∈ byRow b, u.oneCell' = true := ⟨rfl, by intro u hu; simp [byRow] at hu; rw [hu]; rfl⟩
theorem Tryd.elByte : Elem Tryd.prog 99 5 1 1 := ⟨Tryd.underlying99, ⟨.int .u8 0, rfl, by kernel_rfl⟩, by decide, by decide⟩
theorem conv_lst {W : World} {n : Nat} {bs : List UInt8} (hn : bs.length = n) {A : Option Addr} {c : Nat} (h : Lst W 5 1 (.slice A n c) (bs.map byRow)) :
    (convert 99 9 (.slice A n c)).run Tryd.prog W = .ok (.string ⟨bs.toArray⟩) W := by
  obtain ⟨A', cap, hv, _, _, hA⟩ := h.shape
  simp only [List.length_map, Value.slice.injEq] at hv
  obtain ⟨rfl, _, rfl⟩ := hv
  rcases hA with ⟨rfl, h0, _⟩ | ⟨q, rfl⟩
  · have hb : bs = [] := by simpa using h0
    subst hb
    subst hn
    exact conv_none
  · refine conv_at hn (fun j b hb => ?_)
    have := h.cell rfl (i := j) (j := 0) (e := byRow b) (u := .int .u8 (b.toNat : Int)) (by rw [List.getElem?_map, hb]; rfl) rfl
    rw [Nat.zero_add]
    simpa using this

set_option maxHeartbeats 3200000 in
set_option maxRecDepth 100000 in
theorem qtake (g : Nat) (M : Plc) (t : Nat) (x : Int) (hx : 0 ≤ x) (w : World) (h : Qz w g M t) (S : ByteArray) (hS : S = ⟨(cutL M t (takeK M t x)).toArray⟩) :
    Calls Tryd.prog 17 #[.pointer (some ⟨g, 0, none⟩), .int .i64 x] w fun e w' => e = .returned (.string S) ∧ Qz w' g M (t + takeK M t x) ∧ Out w w' [g] := by
  have H := Lib.hid h
  have ht := h.most
  have lg := h.bl.lt
  have hr := readyN_le M t ht
  obtain ⟨k, hk⟩ : ∃ k, takeK M t x = k := ⟨_, rfl⟩
  have hkr : k ≤ readyN M t := by rw [← hk]; unfold takeK; omega
  have htk : t + k ≤ 60 := by omega
  have hmin : (x < (readyN M t : Int) ∧ x = (k : Int)) ∨ ((readyN M t : Int) ≤ x ∧ k = readyN M t) := by rw [← hk]; unfold takeK; omega
  have HK := Lib.hid hk
  have HS := Lib.hid hS
  clear h hk hS
  go_enter Tryd.func17, Tryd.ntmps17
  repeat ((fail_if_success (with_reducible refine stop_at 2 ?_)); first | (go_at_call 19; refine (qready g M t _ H.out).mono ?_; rintro e w1 ⟨rfl, hb1⟩) | go_values | go_skip | go_guarded | go_step | go_upon | go_back | go_simp)
  go_cut [5] (fun s5 wx => s5 = .int .i64 k ∧ Qz wx g M t ∧ Since w wx)
  case first =>
    have HB := Lib.hid (H.out.later hb1)
    have hs1 : Since w w1 := hb1
    rcases hmin with ⟨h1, rfl⟩ | ⟨h1, rfl⟩
    · go_wp2_with fail
      go_meet
      case rel => exact ⟨rfl, HB.out, hs1⟩
    · go_wp2_with fail
      go_meet
      case rel => exact ⟨rfl, HB.out, hs1⟩
  case rest =>
    obtain ⟨wo, rfl⟩ : ∃ wo : World, wo = wc := ⟨_, rfl⟩
    obtain ⟨rfl, hz, hs⟩ := hcut
    have HZ := Lib.hid hz
    clear hz
    go_wp2_with fail
    go_loopw [6, 7] (fun s6 s7 wr => ∃ (i : Nat) (A : Option Addr) (c : Nat), s7 = .int .i64 i ∧ i ≤ k ∧ s6 = .slice A i c ∧ Lst wr 5 1 (.slice A i c) ((cutL M t i).map byRow) ∧ (∀ q, q ∈ blocks (.slice A 0 0) → wo.heap.size ≤ q) ∧ Since wo wr) (fun _ s7 _ => k - (intOf s7).toNat)
    case atStart => exact ⟨0, none, 0, rfl, Nat.zero_le _, rfl, by simpa [cutL] using Lst.nil wo _ 1, by simp [Value.ownBlock], Since.refl _⟩
    case round =>
      obtain ⟨i, A, c, rfl, hi, rfl, hl, hfar, hs2⟩ := hrel
      have HL := Lib.hid hl
      have HFAR := Lib.hid hfar
      have hq := HZ.out.later hs2
      have c6 : wr.cell? ⟨g, 60, none⟩ = some (.int .i64 (t : Int)) := hq.taken
      have lgr := hq.bl.lt
      have f0 := hq.bl.free
      clear hl hfar
      by_cases hlt : i < k
      case neg =>
        obtain rfl : i = k := by omega
        have hf : decide ((i : Int) < (i : Int)) = false := by simp
        have hw : IntKind.i64.wrap ((t : Int) + (i : Int)) = ((t + i : Nat) : Int) := by rw [IntWalk.i64_in _ (by omega)]; rfl
        have HQ := Lib.hid (hq.take (t' := t + i) htk)
        have hO : Out wr (wr.setCell ⟨g, 60, none⟩ (.int .i64 ((t + i : Nat) : Int))) [g] := (Out.refl wr [g]).put (p := ⟨g, 60, none⟩) (Or.inl (by simp)) _
        have HL2 := Lib.hid (HL.out.kept hO (fun q hq hm => by rw [List.mem_singleton.1 hm] at hq; have := HFAR.out _ (blocks_any A _ _ _ _ ▸ hq); have := HZ.out.bl.lt; omega))
        have HO := Lib.hid hO
        have hcv : (convert 99 9 (.slice A i c)).run Tryd.prog (wr.setCell ⟨g, 60, none⟩ (.int .i64 ((t : Int) + (i : Int)))) = .ok (.string S) (wr.setCell ⟨g, 60, none⟩ (.int .i64 ((t : Int) + (i : Int)))) := by
          have h1 := conv_lst (cutL_len M t i) HL2.out
          rw [HS.out, HK.out]
          exact h1
        clear hq hO
        go_wp2_with fail
        go_ret
        exact ⟨rfl, by rw [HK.out]; exact HQ.out, (Out.of_below (hs.later hs2) [g]).trans HO.out⟩
      have hlt' : (i : Int) < (k : Int) := by omega
      have hti : t + i < 60 := by omega
      have hti' : (t : Int) + (i : Int) < 60 := by omega
      have hsome := readyN_some (M := M) (t := t) (j := i) (by omega)
      obtain ⟨y, hy⟩ := Option.isSome_iff_exists.1 hsome
      have cb : wr.cell? ⟨g, t + i, none⟩ = some (.int .i64 (y.toNat : Int)) := by rw [hq.at_ hti, hy]; rfl
      have hst : cutL M t (i + 1) = cutL M t i ++ [y] := by show cutL M t i ++ _ = _; rw [hy]; rfl
      have HST := Lib.hid hst
      have hw : IntKind.i64.wrap ((t : Int) + (i : Int)) = ((t + i : Nat) : Int) := by rw [IntWalk.i64_in _ (by omega)]; rfl
      have hyb := y.toNat_lt
      have hti0 : (0 : Int) ≤ (t : Int) + (i : Int) := by omega
      have htn : ((t : Int) + (i : Int)).toNat = t + i := by omega
      have hw8 : IntKind.u8.wrap (y.toNat : Int) = (y.toNat : Int) := by simp only [IntKind.wrap, IntKind.bits, IntKind.signed]; simp; omega
      have hml : ((cutL M t i).map byRow).length = i := by rw [List.length_map, cutL_len]
      have HML := Lib.hid hml
      clear hy hst hsome hq hml
      go_wp2_with fail
      go_region_law (refine step_push rfl _ _ 99 rfl 5 1 1 Tryd.elByte (.slice A i c) ((cutL M t i).map byRow) rfl ?_ wr.heap.size 1 [.int .u8 (y.toNat : Int)] rfl rfl (byRow_one y).2 ?_ ?_ ?_; (first | exact (HL.out.alloc _).drew | exact HL.out.alloc _); (exact BlockIs.fresh wr _ _); (rw [HML.out]; omega); intro q cap' w3 hl3 ho3 hq3 hlt3)
      all_goals
        simp only [cutL_len]
        rw [HML.out] at hl3
        have hsn : Since wo w3 := by
          first
            | exact (hs2.alloc _).out' ho3 (fun k hk => HFAR.out k (blocks_any A _ _ _ _ ▸ hk))
            | exact ((hs2.alloc _).drew).out' ho3 (fun k hk => HFAR.out k (blocks_any A _ _ _ _ ▸ hk))
        have hfar1 : ∀ k, k ∈ blocks (.slice (some ⟨q, 0, none⟩) 0 0) → wo.heap.size ≤ k := by
          intro k hk
          have hkq : q = k := by simpa [Value.ownBlock] using hk
          rw [← hkq]
          rcases hq3 with h1 | h1
          · exact HFAR.out _ (blocks_any A _ _ _ _ ▸ h1)
          · have := hs2.le; simp at h1; omega
        have HF1 := Lib.hid hfar1
        have HL1 := Lib.hid hl3
        clear hfar1 hl3 ho3 hq3 hlt3 cb c6
        go_wp2_with fail
        go_roundw
        case rel => exact ⟨i + 1, some ⟨q, 0, none⟩, cap', by go_num, by omega, rfl, by rw [HST.out, List.map_append]; exact HL1.out, HF1.out, hsn⟩
        case measure => simp [intOf]; omega

set_option maxHeartbeats 1600000 in
set_option maxRecDepth 100000 in
theorem qgaps (g : Nat) (M : Plc) (t : Nat) (w : World) (h : Qz w g M t) :
    Calls Tryd.prog 21 #[.pointer (some ⟨g, 0, none⟩)] w fun e w' => ∃ A cap, e = .returned (.slice A (gapsOf M).length cap) ∧ Lst w' 74 2 (.slice A (gapsOf M).length cap) ((gapsOf M).map rngRow) ∧ Below w.heap.size w w' ∧ ∀ k, k ∈ blocks (.slice A 0 0) → w.heap.size ≤ k := by
  have H := Lib.hid h
  have lg := h.bl.lt
  clear h
  go_enter Tryd.func21, Tryd.ntmps21
  go_wp2_with fail
  go_loopw [3, 4, 5] (fun s3 s4 s5 wr => ∃ (i n : Nat) (Ao : Option Addr) (co : Nat), s5 = .int .i64 i ∧ i ≤ 60 ∧ s4 = .int .i64 ((gapL M i).2 : Int) ∧ s3 = .slice Ao n co ∧ Hid (n = (gapL M i).1.length) ∧ Lst wr 74 2 (.slice Ao n co) ((gapL M i).1.map rngRow) ∧ (∀ k, k ∈ blocks (.slice Ao 0 0) → w.heap.size ≤ k) ∧ Since w wr) (fun _ _ s5 _ => 60 - (intOf s5).toNat)
  case atStart => exact ⟨0, 0, none, 0, rfl, Nat.zero_le _, rfl, rfl, Lib.hid rfl, Lst.nil _ _ 2, by simp [Value.ownBlock], (by refine Since.out ?_; repeat (first | with_reducible assumption | with_reducible exact Since.refl _ | with_reducible refine Since.later ?_ (by with_reducible assumption) | with_reducible refine Since.only ?_ (by with_reducible assumption) (by first | assumption | omega | (simp; done) | (simp; omega)) | with_reducible refine Since.alloc ?_ _ | with_reducible refine Since.drewN ?_ _ | with_reducible refine Since.drew ?_ | with_reducible refine Since.set ?_ (by first | assumption | omega | (simp; done) | (simp; omega)) _))⟩
  case round =>
    obtain ⟨i, n, Ao, co, rfl, hi, rfl, rfl, hn, hlo, hfar, hs⟩ := hrel
    have HLO := Lib.hid hlo
    have HFAR := Lib.hid hfar
    clear hlo hfar
    have hfl := (gapL_le M i).2
    have hll := (gapL_le M i).1
    by_cases hlt : i < 60
    case neg =>
      obtain rfl : i = 60 := by omega
      have e1 : (gapL M 60).1 = gapsOf M := rfl
      clear hfl hll
      go_wp2_with fail
      go_ret
      have h2 := hn.out
      rw [e1] at h2
      rw [← h2]
      exact ⟨Ao, co, rfl, HLO.out, (by refine Since.out ?_; repeat (first | with_reducible assumption | with_reducible exact Since.refl _ | with_reducible refine Since.later ?_ (by with_reducible assumption) | with_reducible refine Since.only ?_ (by with_reducible assumption) (by first | assumption | omega | (simp; done) | (simp; omega)) | with_reducible refine Since.alloc ?_ _ | with_reducible refine Since.drewN ?_ _ | with_reducible refine Since.drew ?_ | with_reducible refine Since.set ?_ (by first | assumption | omega | (simp; done) | (simp; omega)) _)), HFAR.out⟩
    have hlt' : (i : Int) < 60 := by omega
    have ha := (H.out.later hs).at_ hlt
    have lgr := (H.out.later hs).bl.lt
    obtain ⟨o, ho⟩ : ∃ o, M.at i = o := ⟨_, rfl⟩
    rw [ho] at ha
    have HO := Lib.hid ho
    clear ho
    cases o with
    | none =>
      change wr.cell? ⟨g, i, none⟩ = some (.int .i64 (-1)) at ha
      have hst := Lib.hid (gapL_none HO.out)
      go_wp2_with fail
      go_roundw
      case rel => exact ⟨i + 1, n, Ao, co, by go_num, by omega, by rw [hst.out], rfl, by rw [hst.out]; exact hn, by rw [hst.out]; exact HLO.out, HFAR.out, (by refine Since.out ?_; repeat (first | with_reducible assumption | with_reducible exact Since.refl _ | with_reducible refine Since.later ?_ (by with_reducible assumption) | with_reducible refine Since.only ?_ (by with_reducible assumption) (by first | assumption | omega | (simp; done) | (simp; omega)) | with_reducible refine Since.alloc ?_ _ | with_reducible refine Since.drewN ?_ _ | with_reducible refine Since.drew ?_ | with_reducible refine Since.set ?_ (by first | assumption | omega | (simp; done) | (simp; omega)) _))⟩
      case measure => simp [intOf]; omega
    | some y =>
      obtain ⟨y0, hy0⟩ : ∃ y0 : Int, (y.toNat : Int) = y0 := ⟨_, rfl⟩
      have hy1 : decide (y0 < 0) = false := by simp; omega
      change wr.cell? ⟨g, i, none⟩ = some (.int .i64 (y.toNat : Int)) at ha
      rw [hy0] at ha
      clear hy0
      have hst := Lib.hid (gapL_some HO.out)
      have h2 : (gapL M (i + 1)).2 = i + 1 := by rw [hst.out]
      have h1 : (gapL M (i + 1)).1 = if (gapL M i).2 < i then (gapL M i).1 ++ [⟨((gapL M i).2 : Int), (i : Int) - 1⟩] else (gapL M i).1 := by rw [hst.out]
      have H2 := Lib.hid h2
      have H1 := Lib.hid h1
      clear h1 h2
      obtain ⟨f, hf⟩ : ∃ f, (gapL M i).2 = f := ⟨_, rfl⟩
      rw [hf] at hfl ⊢
      have HF := Lib.hid hf
      clear hf
      by_cases hfi : f < i
      · have h1 : (gapL M (i + 1)).1 = (gapL M i).1 ++ [⟨(f : Int), (i : Int) - 1⟩] := by rw [H1.out, HF.out, if_pos hfi]
        have HN1 := Lib.hid h1
        have hfi' : (f : Int) < (i : Int) := by omega
        have hml : ((gapL M i).1.map rngRow).length = n := by rw [List.length_map]; exact hn.out.symm
        have hsm : n ≤ 100 := by have := hn.out; omega
        have HML := Lib.hid hml
        clear h1 hml
        go_wp2_with (at_builtin; refine wpList_push rfl _ _ 35 rfl 74 2 16 Tryd.elRange (.slice Ao n co) ((gapL M i).1.map rngRow) rfl (HLO.out.alloc _) wr.heap.size 1 [.int .i64 f, .int .i64 (i - 1)] rfl rfl (rngRow_one ⟨f, i - 1⟩).2 (BlockIs.fresh _ _ _) (by rw [HML.out]; omega) ?_; intro qn cn w1 hl1 ho1 hq1 hlt1)
        rw [HML.out] at hl1
        have hsn : Since w w1 := (hs.alloc _).out' ho1 (fun k hk => HFAR.out k (blocks_any Ao _ _ _ _ ▸ hk))
        have hfar1 : ∀ k, k ∈ blocks (.slice (some ⟨qn, 0, none⟩) 0 0) → w.heap.size ≤ k := by
          intro k hk
          have hkq : qn = k := by simpa [Value.ownBlock] using hk
          rw [← hkq]
          rcases hq1 with h1 | h1
          · exact HFAR.out _ (blocks_any Ao _ _ _ _ ▸ h1)
          · have := hs.le; simp at h1; omega
        have HF1 := Lib.hid hfar1
        have HL1 := Lib.hid hl1
        clear hfar1 hl1 ho1 hq1 hlt1
        go_roundw
        case rel => exact ⟨i + 1, n + 1, some ⟨qn, 0, none⟩, cn, by go_num, by omega, by rw [H2.out]; rfl, by rw [← hn.out], Lib.hid (by rw [HN1.out, List.length_append, hn.out]; rfl), by rw [HN1.out, List.map_append]; exact HL1.out, HF1.out, hsn⟩
        case measure => simp [intOf]; omega
      · have h1 : (gapL M (i + 1)).1 = (gapL M i).1 := by rw [H1.out, HF.out, if_neg hfi]
        have HN1 := Lib.hid h1
        have hfi' : decide ((f : Int) < (i : Int)) = false := by simp; omega
        clear h1
        go_wp2_with fail
        go_roundw
        case rel => exact ⟨i + 1, n, Ao, co, by go_num, by omega, by rw [H2.out]; rfl, rfl, by rw [HN1.out]; exact hn, by rw [HN1.out]; exact HLO.out, HFAR.out, (by refine Since.out ?_; repeat (first | with_reducible assumption | with_reducible exact Since.refl _ | with_reducible refine Since.later ?_ (by with_reducible assumption) | with_reducible refine Since.only ?_ (by with_reducible assumption) (by first | assumption | omega | (simp; done) | (simp; omega)) | with_reducible refine Since.alloc ?_ _ | with_reducible refine Since.drewN ?_ _ | with_reducible refine Since.drew ?_ | with_reducible refine Since.set ?_ (by first | assumption | omega | (simp; done) | (simp; omega)) _))⟩
        case measure => simp [intOf]; omega
end Go.Proofs.YtbmfknnbpnllkaaDoor
