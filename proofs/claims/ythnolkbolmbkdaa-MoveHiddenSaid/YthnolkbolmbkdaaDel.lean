/- Contract of slices.Delete of one element at []api.ID. Condition: the slice is the call's own. -/
import Derived.Test.YthnolkbolmbkdaaIds
import Derived.Test.YthnolkbolmbkdaaDelG
namespace Go.Proofs.Ythnolkbolmbkdaa
open Go.ChangeShapes Go.WideShapes Go.ChangeAt Go.RowKit
set_option linter.unusedVariables false

theorem Try.delIDsZero (w : World) : (zeroValue 51).run Try.prog w = .ok (.agg #[.int .i64 0, .int .i64 0]) w := by kernel_rfl
set_option maxHeartbeats 3200000 in
theorem delIDs (q cap : Nat) (L : List One) (i : Nat) (hi : i < L.length) (hm : L.length ≤ 1000000) (w : World) (h : Lst w 51 2 (.slice (some ⟨q, 0, none⟩) L.length cap) (L.map idRow)) :
    Calls Try.prog 35 #[.slice (some ⟨q, 0, none⟩) L.length cap, .int .i64 i, .int .i64 (i + 1)] w fun e w' => e = .returned (.slice (some ⟨q, 0, none⟩) (L.length - 1) cap) ∧ Lst w' 51 2 (.slice (some ⟨q, 0, none⟩) (L.length - 1) cap) ((L.take i ++ L.drop (i + 1)).map idRow) ∧ Out w w' [q] := by
  have hml : (L.map idRow).length = L.length := List.length_map ..
  obtain ⟨cur, hB, hcs, hcap, hmx, hfin⟩ := del_cells (size := 2) (es := L.map idRow) (by rw [hml]; exact h) (by rw [hml]; exact hi) (by decide) [.int .i64 0, .int .i64 0] rfl
  rw [hml] at hcap hfin
  unfold maxLen at hmx
  obtain ⟨z, hz, hinfo⟩ := (Try.elID).info
  obtain ⟨i0, hi0, hz0, hz1, hz2⟩ := info_parts hinfo
  have t1 := (Try.elID).ht
  obtain ⟨news, hnews⟩ : ∃ news, news = flat ((L.map idRow).drop (i + 1)) := ⟨_, rfl⟩
  have hlen : news.length = (L.length - (i + 1)) * 2 := by
    rw [hnews, flat_length (fun e he => (h.rows e (List.mem_of_mem_drop he)).1), List.length_drop, hml]
  obtain ⟨A, hA, hsrc⟩ : ∃ A : Addr, (if cap = i + 1 then some (⟨q, 0, none⟩ : Addr) else some ⟨q, (i + 1) * 2, none⟩) = some A ∧ Hid (∀ t u, news[t]? = some u → w.drew.cell? (A.add t) = some u) := by
    by_cases hc : cap = i + 1
    · refine ⟨⟨q, 0, none⟩, by simp [hc], Lib.hid (fun t u hu => ?_)⟩
      have h0 : news.length = 0 := by rw [hlen]; have : L.length - (i + 1) = 0 := by omega
                                      rw [this]
      rw [List.length_eq_zero_iff.1 h0] at hu
      simp at hu
    · refine ⟨⟨q, (i + 1) * 2, none⟩, by simp [hc], Lib.hid (fun t u hu => ?_)⟩
      rw [hnews] at hu
      exact h.news rfl (i + 1) t u hu
  have s1 : Hid (news.length = (L.length - (i + 1)) * 2) := Lib.hid hlen
  have s2 : Hid (∀ u ∈ news, u.oneCell' = true) := Lib.hid (by
    intro u hu
    rw [hnews] at hu
    obtain ⟨e, he, hu⟩ := List.mem_flatten.1 hu
    exact (h.rows e (List.mem_of_mem_drop he)).2 u hu)
  have s3 : Hid (∀ t, t < news.length → (w.drew.cell? ⟨q, 0 + i * 2 + t, none⟩).isSome = true ∧ w.drew.frozen? ⟨q, 0 + i * 2 + t, none⟩ = false) := Lib.hid (by
    intro t ht
    rw [hlen] at ht
    refine ⟨?_, hB.free _⟩
    show (w.cell? _).isSome = true
    rw [hB.cell]
    rw [Array.getElem?_eq_getElem (by rw [hcs]; omega)]
    rfl)
  obtain ⟨W1, hW1⟩ : ∃ W1, W1 = w.drew.setCells q (0 + i * 2) news := ⟨_, rfl⟩
  have hB1 : BlockIs W1 q 51 (puts cur (0 + i * 2) news) := by rw [hW1]; exact BlockIs.putAll news (show BlockIs w.drew q _ cur from hB) _
  have hO1 : Out w W1 [q] := by rw [hW1]; exact (Out.refl w [q]).drew.trans (Out.putAll news w.drew q _)
  have hcl : ∀ ty, (Builtin.clear_ #[61] ty #[.slice (some ⟨q, (i + (L.length - (i + 1))) * 2, none⟩) (L.length - (i + (L.length - (i + 1)))) (cap - (i + (L.length - (i + 1))))]).run Try.prog W1 = .ok (.tuple #[]) (W1.setCells q ((i + (L.length - (i + 1))) * 2) [.int .i64 0, .int .i64 0]) := fun ty =>
    run_clear1 W1 _ _ ty (.agg #[.int .i64 0, .int .i64 0]) [.int .i64 0, .int .i64 0] t1 (Try.delIDsZero W1) rfl (by intro u hu; simp at hu; rcases hu with rfl | rfl <;> rfl) q _ _ _ (by omega)
      (fun j hj => by rw [hB1.cell, Array.getElem?_eq_getElem (by rw [puts_size, hcs]; simp at hj; omega)]; rfl) (fun j hj => hB1.free _)
  have hW : Hid (W1 = w.drew.setCells q (0 + i * 2) news) := Lib.hid hW1
  have HFIN := Lib.hid hfin
  have HB1 := Lib.hid hB1
  have HN := Lib.hid hnews
  have HR := Lib.hid h.rows
  have HCS := Lib.hid hcs
  have hic : (i : Int) ≤ (cap : Int) := by omega
  have hjc : (i : Int) + 1 ≤ (cap : Int) := by omega
  have hil : (i : Int) + 1 ≤ (L.length : Int) := by omega
  have hlc : (L.length : Int) ≤ (cap : Int) := by omega
  have hne : ((i : Int) == (i : Int) + 1) = false := by simp; omega
  have hi1 : (0 : Int) ≤ (i : Int) + 1 := by omega
  have HML := Lib.hid hml
  clear hW1 hB1 hlen hnews hfin h hB hml hcs hinfo
  go_enter Try.func35, Try.ntmps35
  go_wp2_with fail
  go_region_law (refine step_append_room rfl (.tmp 22) (.tmp 25) 61 rfl 51 i0 2 t1 hi0 hz1 q 0 i cap (by simp [Act.eval, Act.put]) A (L.length - (i + 1)) (cap - (i + 1)) news (by simp [Act.eval, Act.put]) s1.out hsrc.out s2.out (by omega) s3.out ?_; rw [← hW.out])
  go_wp2
  go_ret
  have hl : ((L.take i ++ L.drop (i + 1)).map idRow).length = L.length - 1 := by simp; omega
  have hB2 := BlockIs.putAll [.int .i64 0, .int .i64 0] HB1.out ((i + (L.length - (i + 1))) * 2)
  have hx : i + (L.length - (i + 1)) = L.length - 1 := by omega
  have hrows : ∀ e ∈ (L.take i ++ L.drop (i + 1)).map idRow, e.length = 2 ∧ ∀ u ∈ e, u.oneCell' = true := by
    intro e he
    rw [List.map_append, List.mem_append] at he
    rcases he with he | he
    · exact HR.out e (by rw [List.map_take] at he; exact List.mem_of_mem_take he)
    · exact HR.out e (by rw [List.map_drop] at he; exact List.mem_of_mem_drop he)
  refine ⟨by rw [show L.length - 1 = i + (L.length - (i + 1)) from by omega]; rfl, ?_, hO1.trans (Out.putAll _ _ q _)⟩
  refine Lst.as (n := ((L.take i ++ L.drop (i + 1)).map idRow).length) ⟨⟨flat_length (fun e he => (hrows e he).1), Or.inr ⟨q, cap, _, rfl, Nat.zero_le _, hB2, by rw [hl]; omega, by unfold maxLen; omega, by rw [puts_size, puts_size, HCS.out], ?_⟩⟩, hrows⟩ hl.symm rfl
  have hf := HFIN.out
  rw [HN.out, hl, hx, Nat.zero_add, hf, List.map_append, List.map_take, List.map_drop]
end Go.Proofs.Ythnolkbolmbkdaa
