/- Contract of package stream's Gaps. Condition: the block holds a stream as New and the calls leave it. -/
import Derived.Test.YtbmfknnbpnllkaaStrm
import Derived.Deep.MidRow
namespace Go.Proofs.Ytbmfknnbpnllkaa
open Go.ChangeShapes Go.WideShapes Go.ChangeAt Go.RowKit
set_option linter.unusedVariables false

theorem Try.indexBools (arr : Array Value) (i : Nat) (hi : i < 60) (b : Bool) (h : arr[i]? = some (.bool b)) (w : World) : (Instr.index 63 (.agg arr) (.int .i64 i)).run Try.prog w = .ok (.bool b) w := by
  obtain ⟨i0, hi0, hs⟩ : ∃ i0, Try.prog.info? 4 = some i0 ∧ i0.size = 1 := by
    have h : (Try.prog.info? 4).map (·.size) = some 1 := by kernel_rfl
    cases hq : Try.prog.info? 4 with
    | none => rw [hq] at h; cases h
    | some i0 => rw [hq] at h; exact ⟨i0, rfl, by simpa using h⟩
  have hsz : (sizeOf 4).run Try.prog w = .ok 1 w := by simp [sizeOf, typeInfo, hi0, hs]
  have hag : (isAgg 4).run Try.prog w = .ok false w := by unfold isAgg; rw [Sem.run_bind, run_underlying Try.underlying4 w]; rfl
  have hp : (part 4 arr (i * 1)).run Try.prog w = .ok (.bool b) w := by
    rw [Nat.mul_one]
    unfold part
    simp [hag, h]
  unfold Instr.index
  have h1 : (0 : Int) ≤ (i : Int) ∧ (i : Int) < ((60 : Nat) : Int) := by omega
  simp [asIntOf, run_underlying Try.underlying63 w, h1, hsz]
  rw [if_pos hi]
  simpa using hp

set_option maxHeartbeats 1600000 in
set_option maxRecDepth 100000 in
theorem sgaps (g : Nat) (M : Plc) (t : Nat) (w : World) (h : Sz w g M t) :
    Calls Try.prog 10 #[.pointer (some ⟨g, 0, none⟩)] w fun e w' => ∃ A cap, e = .returned (.slice A (gapsOf M).length cap) ∧ Lst w' 33 2 (.slice A (gapsOf M).length cap) ((gapsOf M).map rngRow) ∧ Below w.heap.size w w' ∧ ∀ k, k ∈ blocks (.slice A 0 0) → w.heap.size ≤ k := by
  have H := Lib.hid h
  have ht := h.most
  have lg := h.bl.lt
  have hrange : w.rangeAt g 0 (M.map isV) := fun j v hv => by
    have hj : j < 60 := by have := (List.getElem?_eq_some_iff.1 hv).1; rw [List.length_map, h.len] at this; exact this
    rw [Nat.zero_add, h.is hj]
    rw [List.getElem?_map, List.getElem?_eq_getElem (by rw [h.len]; exact hj)] at hv
    rw [← hv]
    unfold Plc.at
    simp [List.getD, List.getElem?_eq_getElem (show j < M.length by rw [h.len]; exact hj), isV]
  obtain ⟨cs, hcs⟩ : ∃ cs, cs = M.map isV := ⟨_, rfl⟩
  have hlen : cs.length = 60 := by rw [hcs, List.length_map, h.len]
  rw [← hcs] at hrange
  have HCS := Lib.hid hcs
  have HR := Lib.hid hrange
  have HL := Lib.hid hlen
  clear h hcs hlen hrange
  go_enter Try.func10, Try.ntmps10
  have hi : (Try.prog.info? 63).map (·.size) = some cs.length := by rw [HL.out]; kernel_rfl
  have harr : ∀ i : Nat, i < 60 → cs.toArray[i]? = some (.bool (M.at i).isSome) := fun i h => by
    rw [HCS.out, List.getElem?_toArray, List.getElem?_map, List.getElem?_eq_getElem (by rw [H.out.len]; exact h)]
    unfold Plc.at
    simp [List.getD, List.getElem?_eq_getElem (show i < M.length by rw [H.out.len]; exact h), isV]
  have hsz : cs.toArray.size = 60 := by rw [List.size_toArray]; exact HL.out
  obtain ⟨arr, har⟩ : ∃ arr, cs.toArray = arr := ⟨_, rfl⟩
  rw [har] at harr hsz
  have HARR := Lib.hid harr
  have HAR := Lib.hid har
  clear harr har
  repeat ((fail_if_success (with_reducible refine stop_at 3 ?_)); first | fail | go_values | go_skip | go_guarded | go_step | go_upon | go_back | go_simp)
  go_wp2_with (refine wpList_load_mid rfl 63 (.tmp 9) rfl g 0 (by go_simp) cs (.array 60 4) HR.out Try.underlying63 rfl hi ?_; rw [HAR.out])
  clear hi
  go_loopw [3, 4, 5, 6, 11] (fun s3 s4 s5 s6 s11 wr => ∃ (i n : Nat) (Ao : Option Addr) (co : Nat), s11 = .int .i64 i ∧ i ≤ 60 ∧ s4 = .int .i64 (((gapL M i).2 : Int) - 1) ∧ s3 = .slice Ao n co ∧ Hid (n = (gapL M i).1.length) ∧ Lst wr 33 2 (.slice Ao n co) ((gapL M i).1.map rngRow) ∧ (∀ k, k ∈ blocks (.slice Ao 0 0) → w.heap.size ≤ k) ∧ Since w wr) (fun _ _ _ _ s11 _ => 60 - (intOf s11).toNat)
  case atStart => exact ⟨0, 0, none, 0, rfl, Nat.zero_le _, rfl, rfl, Lib.hid rfl, Lst.nil _ _ 2, by simp [Value.ownBlock], (by refine Since.out ?_; repeat (first | with_reducible assumption | with_reducible exact Since.refl _ | with_reducible refine Since.later ?_ (by with_reducible assumption) | with_reducible refine Since.only ?_ (by with_reducible assumption) (by first | assumption | omega | (simp; done) | (simp; omega)) | with_reducible refine Since.alloc ?_ _ | with_reducible refine Since.drewN ?_ _ | with_reducible refine Since.drew ?_ | with_reducible refine Since.set ?_ (by first | assumption | omega | (simp; done) | (simp; omega)) _))⟩
  case round =>
    obtain ⟨i, n, Ao, co, rfl, hi, rfl, rfl, hn, hlo, hfar, hs⟩ := hrel
    have HLO := Lib.hid hlo
    have HFAR := Lib.hid hfar
    clear hlo hfar
    have hfl := (gapL_le M i).2
    have hll := (gapL_le M i).1
    by_cases hlt : i < 60
    case neg =>
      obtain rfl : i = 60 := by omega
      have e1 : (gapL M 60).1 = gapsOf M := rfl
      clear hfl hll
      go_wp2_with fail
      go_ret
      have h2 := hn.out
      rw [e1] at h2
      rw [← h2]
      exact ⟨Ao, co, rfl, HLO.out, (by refine Since.out ?_; repeat (first | with_reducible assumption | with_reducible exact Since.refl _ | with_reducible refine Since.later ?_ (by with_reducible assumption) | with_reducible refine Since.only ?_ (by with_reducible assumption) (by first | assumption | omega | (simp; done) | (simp; omega)) | with_reducible refine Since.alloc ?_ _ | with_reducible refine Since.drewN ?_ _ | with_reducible refine Since.drew ?_ | with_reducible refine Since.set ?_ (by first | assumption | omega | (simp; done) | (simp; omega)) _)), HFAR.out⟩
    have hlt' : (i : Int) < 60 := by omega
    have ha := HARR.out i hlt
    obtain ⟨o, ho⟩ : ∃ o, M.at i = o := ⟨_, rfl⟩
    rw [ho] at ha
    have HO := Lib.hid ho
    clear ho
    cases o with
    | none =>
      simp only [Option.isSome_none] at ha
      have hix := Try.indexBools arr i hlt _ ha wr
      have hst := Lib.hid (gapL_none HO.out)
      go_wp2_with fail
      go_roundw
      case rel => exact ⟨i + 1, n, Ao, co, by go_num, by omega, by rw [hst.out], rfl, by rw [hst.out]; exact hn, by rw [hst.out]; exact HLO.out, HFAR.out, (by refine Since.out ?_; repeat (first | with_reducible assumption | with_reducible exact Since.refl _ | with_reducible refine Since.later ?_ (by with_reducible assumption) | with_reducible refine Since.only ?_ (by with_reducible assumption) (by first | assumption | omega | (simp; done) | (simp; omega)) | with_reducible refine Since.alloc ?_ _ | with_reducible refine Since.drewN ?_ _ | with_reducible refine Since.drew ?_ | with_reducible refine Since.set ?_ (by first | assumption | omega | (simp; done) | (simp; omega)) _))⟩
      case measure => simp [intOf]; omega
    | some y =>
      simp only [Option.isSome_some] at ha
      have hix := Try.indexBools arr i hlt _ ha wr
      have hst := Lib.hid (gapL_some HO.out)
      have h2 : (gapL M (i + 1)).2 = i + 1 := by rw [hst.out]
      have h1 : (gapL M (i + 1)).1 = if (gapL M i).2 < i then (gapL M i).1 ++ [⟨((gapL M i).2 : Int), (i : Int) - 1⟩] else (gapL M i).1 := by rw [hst.out]
      have H2 := Lib.hid h2
      have H1 := Lib.hid h1
      clear h1 h2
      obtain ⟨f, hf⟩ : ∃ f, (gapL M i).2 = f := ⟨_, rfl⟩
      rw [hf] at hfl ⊢
      have HF := Lib.hid hf
      clear hf
      by_cases hfi : f < i
      · have h1 : (gapL M (i + 1)).1 = (gapL M i).1 ++ [⟨(f : Int), (i : Int) - 1⟩] := by rw [H1.out, HF.out, if_pos hfi]
        have HN1 := Lib.hid h1
        have hfi' : (f : Int) - 1 + 1 < (i : Int) := by omega
        have hml : ((gapL M i).1.map rngRow).length = n := by rw [List.length_map]; exact hn.out.symm
        have hsm : n ≤ 100 := by have := hn.out; omega
        have HML := Lib.hid hml
        clear h1 hml
        go_wp2_with (at_builtin; refine wpList_push rfl _ _ 29 rfl 33 2 16 Try.elRange (.slice Ao n co) ((gapL M i).1.map rngRow) rfl (HLO.out.alloc _) wr.heap.size 1 [.int .i64 f, .int .i64 (i - 1)] rfl rfl (rngRow_one ⟨f, i - 1⟩).2 (BlockIs.fresh _ _ _) (by rw [HML.out]; omega) ?_; intro qn cn w1 hl1 ho1 hq1 hlt1)
        rw [HML.out] at hl1
        have hsn : Since w w1 := (hs.alloc _).out' ho1 (fun k hk => HFAR.out k (blocks_any Ao _ _ _ _ ▸ hk))
        have hfar1 : ∀ k, k ∈ blocks (.slice (some ⟨qn, 0, none⟩) 0 0) → w.heap.size ≤ k := by
          intro k hk
          have hkq : qn = k := by simpa [Value.ownBlock] using hk
          rw [← hkq]
          rcases hq1 with h1 | h1
          · exact HFAR.out _ (blocks_any Ao _ _ _ _ ▸ h1)
          · have := hs.le; simp at h1; omega
        have HF1 := Lib.hid hfar1
        have HL1 := Lib.hid hl1
        clear hfar1 hl1 ho1 hq1 hlt1
        go_roundw
        case rel => exact ⟨i + 1, n + 1, some ⟨qn, 0, none⟩, cn, by go_num, by omega, by rw [H2.out]; congr 1; omega, by rw [← hn.out], Lib.hid (by rw [HN1.out, List.length_append, hn.out]; rfl), by rw [HN1.out, List.map_append]; exact HL1.out, HF1.out, hsn⟩
        case measure => simp [intOf]; omega
      · have h1 : (gapL M (i + 1)).1 = (gapL M i).1 := by rw [H1.out, HF.out, if_neg hfi]
        have HN1 := Lib.hid h1
        have hfi' : decide ((f : Int) - 1 + 1 < (i : Int)) = false := by simp; omega
        clear h1
        go_wp2_with fail
        go_roundw
        case rel => exact ⟨i + 1, n, Ao, co, by go_num, by omega, by rw [H2.out]; congr 1; omega, rfl, by rw [HN1.out]; exact hn, by rw [HN1.out]; exact HLO.out, HFAR.out, (by refine Since.out ?_; repeat (first | with_reducible assumption | with_reducible exact Since.refl _ | with_reducible refine Since.later ?_ (by with_reducible assumption) | with_reducible refine Since.only ?_ (by with_reducible assumption) (by first | assumption | omega | (simp; done) | (simp; omega)) | with_reducible refine Since.alloc ?_ _ | with_reducible refine Since.drewN ?_ _ | with_reducible refine Since.drew ?_ | with_reducible refine Since.set ?_ (by first | assumption | omega | (simp; done) | (simp; omega)) _))⟩
        case measure => simp [intOf]; omega
end Go.Proofs.Ytbmfknnbpnllkaa
