/- What the calls on a log keep, in plain words: its bytes are the records of just the numbers that were added. And log.All by a contract. Condition: as named. -/
import Derived.Test.YtjjmoaaongnjiaaGreatDoorCrash
import Derived.Test.YtjjmoaaongnjiaaGreatDoorCount
namespace Go.Proofs.YtjjmoaaongnjiaaGreatDoor
open Go.ChangeShapes Go.WideShapes Go.ChangeAt Go.RowKit
set_option linter.unusedVariables false

theorem LgOk.new : LgOk lg0 [] [] := ⟨rfl, by intro b hb; simp at hb, rfl, by intro k hk; simp at hk, by decide, by decide, fun _ => rfl, by simp, by simp⟩
theorem LgOk.fail {s : LgS} {ns : List Int} {t : List UInt8} (h : LgOk s ns t) (n : Int) : LgOk (s.fail n) ns t := ⟨h.by_, h.nl, h.all, h.fit, h.s0, h.s1, h.nt, h.tl, h.nn⟩
theorem LgOk.size {s : LgS} {ns : List Int} (h : LgOk s ns []) : (s.by_.size : Int) = (rcs ns).length := by
  have h2 : s.by_.data.toList.length = s.by_.size := Array.length_toList
  rw [h.by_, List.append_nil] at h2
  omega
theorem LgOk.sync {s : LgS} {ns : List Int} {t : List UInt8} (h : LgOk s ns t) : LgOk s.sync ns t := by
  unfold LgS.sync
  cases hst : s.st with
  | true => rw [if_pos rfl]; exact h
  | false =>
    rw [if_neg (by decide)]
    have ht := h.nt hst
    subst ht
    split
    · exact ⟨h.by_, h.nl, h.all, h.fit, h.s0, h.s1, fun _ => rfl, h.tl, h.nn⟩
    · exact ⟨h.by_, h.nl, h.all, h.fit, by show (0 : Int) ≤ (s.by_.size : Int); omega, by show (s.by_.size : Int) ≤ _; rw [h.size]; exact Int.le_refl _, fun _ => rfl, h.tl, h.nn⟩
theorem Fits.snoc {ns : List Int} (h : Fits ns) {n : Int} (hn : addB (adds ns) n = true) : Fits (ns ++ [n]) := by
  intro k hk
  rw [List.length_append, List.length_singleton] at hk
  by_cases hlt : k < ns.length
  · have e1 : (ns ++ [n]).take k = ns.take k := List.take_append_of_le_length (by omega)
    have e2 : (ns ++ [n]).getD k 0 = ns.getD k 0 := by simp only [List.getD]; rw [List.getElem?_append_left hlt]
    rw [e1, e2]; exact h k hlt
  · have hk2 : k = ns.length := by omega
    subst hk2
    have e1 : (ns ++ [n]).take ns.length = ns := by rw [List.take_append_of_le_length (Nat.le_refl _), List.take_length]
    have e2 : (ns ++ [n]).getD ns.length 0 = n := by simp [List.getD]
    rw [e1, e2]; exact hn
theorem rec_bytes (n : Int) : (rec_ n).data.toList = rcb n := by
  show ((ita n) ++ ⟨#[10]⟩ : ByteArray).data.toList = _
  rw [ByteArray.data_append, Array.toList_append]
  show (Lib.itoa n).toArray.toList ++ [10] = _
  simp [rcb]
theorem rec_len (n : Int) : (rec_ n).size = (Lib.itoa n).length + 1 := by
  have h : (rec_ n).data.toList.length = (rec_ n).size := Array.length_toList
  rw [rec_bytes, rcb_len] at h
  exact h.symm
theorem half_bytes {n : Int} (h0 : 0 ≤ n) (h1 : n ≤ 1073741823) : (half n).data.toList = (Lib.itoa n).take ((rec_ n).size / 2) := by
  unfold half
  have hz := ita_size h0 h1
  have e : (ita n).size = (Lib.itoa n).length := str_of
  have hl := rec_len n
  rw [cut_list, List.drop_zero, rec_bytes, rcb, List.take_append_of_le_length (by omega)]
/-- behind a number that came -/
theorem LgOk.came {s : LgS} {ns : List Int} {t : List UInt8} (h : LgOk s ns t) (hl : ns.length < 50000) (n : Int) :
    (lgB s n = true ∧ lgE s n = 0 ∧ LgOk (lgN s n) (ns ++ [n]) [] ∧ (lgN s n).st = false ∧ addB (adds ns) n = true ∧ s.st = false ∧ s.left ≠ 0) ∨ (lgB s n = false ∧ ∃ t', LgOk (lgN s n) ns t' ∧ (lgE s n = 6 ∨ (s.st = false ∧ lgN s n = s ∧ lgE s n = addE (adds ns) n ∧ addB (adds ns) n = false))) := by
  have hal := h.all
  unfold lgB lgE lgN
  cases hst : s.st with
  | true => right; exact ⟨rfl, t, h, Or.inl rfl⟩
  | false =>
    have ht := h.nt hst
    subst ht
    rw [hal]
    cases hb : addB (adds ns) n with
    | false =>
      right
      refine ⟨rfl, [], h, Or.inr ⟨rfl, rfl, ?_, rfl⟩⟩
      by_cases he : addE (adds ns) n = 0
      · simp [he]
      · simp [he]
    | true =>
      obtain ⟨a1, a2, a3, a4, a5⟩ := addB_ok hb
      have hmm := mayB_iff.1 a2
      unfold MayBe at hmm
      by_cases h0 : s.left = 0
      · right
        refine ⟨by simp [h0], (Lib.itoa n).take ((rec_ n).size / 2), ?_, Or.inl (by simp [a1, h0])⟩
        simp only [if_neg (show ¬ (false = true) by decide), if_pos h0]
        refine ⟨?_, fun b hb2 => ita_no hmm.1 b (List.mem_of_mem_take hb2), hal, h.fit, h.s0, h.s1, fun hf => ?_, ?_, h.nn⟩
        · show (s.by_ ++ half n).data.toList = _
          rw [ByteArray.data_append, Array.toList_append, h.by_, half_bytes hmm.1 hmm.2, List.append_nil]
        · have : decide (s.left = 0) = false := hf
          rw [decide_eq_true h0] at this; cases this
        · have hz := ita_size hmm.1 hmm.2
          have e : (ita n).size = (Lib.itoa n).length := str_of
          rw [List.length_take]; omega
      · left
        refine ⟨by simp [h0], by simp [a1, h0], ?_, ?_, rfl, rfl, h0⟩
        · simp only [if_neg (show ¬ (false = true) by decide), if_neg h0]
          refine ⟨?_, fun b hb2 => by simp at hb2, ?_, h.fit.snoc hb, h.s0, ?_, fun _ => rfl, by simp, by rw [List.length_append]; simp; omega⟩
          · show (s.by_ ++ rec_ n).data.toList = _
            rw [ByteArray.data_append, Array.toList_append, h.by_, rec_bytes, rcs_app, rcs_cons, rcs_nil]
            simp
          · rw [adds_snoc]; rfl
          · show s.safe ≤ _
            have := h.s1
            rw [rcs_app, List.length_append]; omega
        · simp only [if_neg (show ¬ (false = true) by decide), if_neg h0]
          show decide (s.left = 0) = false
          exact decide_eq_false h0
/-- what is there is not added again -/
theorem add_there {L : List Rng} {n : Int} (h : rngE L = 0) (hn : inB L n = true) (hm : mayB n = true) : addE L n = 0 ∧ addB L n = false := by
  have hc := rngE_canon h
  obtain ⟨w1, w2⟩ := withL_ok hc (x := ⟨n, n⟩) (Int.le_refl n)
  have e : withL L ⟨n, n⟩ = L := canon_eq w1 hc (fun y => by
    rw [w2]
    by_cases hy : rin ⟨n, n⟩ y = true
    · have : y = n := by unfold rin at hy; simp at hy; omega
      subst this
      rw [hn]; rfl
    · rw [Bool.not_eq_true] at hy
      rw [hy, Bool.or_false])
  have h0 : addE L n = 0 := by
    unfold addE
    rw [if_pos h, if_pos hm, e, if_neg (by have := rngE_len h; omega)]
  exact ⟨h0, by unfold addB; rw [hn]; simp⟩
theorem take_snoc {ns : List Int} {k : Nat} (hk : k < ns.length) : ns.take (k + 1) = ns.take k ++ [ns.getD k 0] := by
  rw [List.take_succ_eq_append_getElem hk]
  simp [List.getD, List.getElem?_eq_getElem hk]
theorem Fits.in_take {ns : List Int} (h : Fits ns) (y : Int) : ∀ k, k ≤ ns.length → (inB (adds (ns.take k)) y = true ↔ y ∈ ns.take k)
  | 0, _ => by simp [adds, inB]
  | k + 1, hk => by
    have ih := h.in_take y k (by omega)
    obtain ⟨a1, a2, a3, a4, a5⟩ := addB_ok (h k (by omega))
    have hr := h.rng k (by omega)
    rw [take_snoc (by omega), adds_snoc, a5, (withL_ok (rngE_canon hr) (x := ⟨ns.getD k 0, ns.getD k 0⟩) (Int.le_refl _)).2, Bool.or_eq_true, ih, List.mem_append, List.mem_singleton]
    refine or_congr Iff.rfl ?_
    unfold rin
    simp
    omega
theorem Fits.mem {ns : List Int} (h : Fits ns) (y : Int) : inB (adds ns) y = true ↔ y ∈ ns := by
  have := h.in_take y ns.length (Nat.le_refl _)
  rw [List.take_length] at this
  exact this
theorem Fits.cnt_take {ns : List Int} (h : Fits ns) : ∀ k, k ≤ ns.length → cntL (adds (ns.take k)) = (k : Int)
  | 0, _ => rfl
  | k + 1, hk => by
    have ih := h.cnt_take k (by omega)
    obtain ⟨a1, a2, a3, a4, a5⟩ := addB_ok (h k (by omega))
    have hr := h.rng k (by omega)
    have hm := mayB_iff.1 a2
    unfold MayBe at hm
    have hbd : ∀ {M : List Rng}, rngE M = 0 → ∀ r ∈ M, 0 ≤ r.lo ∧ r.hi < ((1073741824 : Nat) : Int) := fun {M} hM r hr2 => by
      obtain ⟨⟨p1, p2⟩, p3, p4⟩ := rngE_ok hM r hr2
      omega
    have hc := cnt_more (N := 1073741824) (rngE_canon hr) (rngE_canon a4) (hbd hr) (hbd a4) hm.1 (by omega) (fun y => by rw [a5]; exact (withL_ok (rngE_canon hr) (x := ⟨ns.getD k 0, ns.getD k 0⟩) (Int.le_refl _)).2 y)
    rw [take_snoc (by omega), adds_snoc, hc, ih, a3, if_neg (by decide)]
    omega
theorem gall (g : Nat) (s : LgS) (w : World) (S : List Nat) (h : (logT g s).is w S) :
    Calls Tryz.prog 9 #[.pointer (some ⟨g, 0, none⟩)] w fun e w' => ∃ A' cap', e = .returned (.slice A' s.all.length cap') ∧ Lst w' 34 2 (.slice A' s.all.length cap') (s.all.map rngRow) ∧ Below w.heap.size w w' ∧ ∀ k, k ∈ blocks (.slice A' 0 0) → w.heap.size ≤ k := by
  obtain ⟨v, hz, rfl⟩ := h
  have c0 : w.cell? ⟨g, 0, none⟩ = some v := hz.bl.cell 0
  have lg := hz.bl.lt
  obtain ⟨A0, cap0, hve, _, _, _⟩ := hz.ls.shape
  rw [List.length_map] at hve
  have HC := Lib.hid (rclone A0 s.all.length cap0 s.all w rfl (by have := rngE_len hz.ok; omega) (Rd.of_lst (by rw [← hve]; exact hz.ls)))
  rw [hve] at c0
  clear hz hve
  go_enter Tryz.func9, Tryz.ntmps9
  go_wp2_with fail
  refine HC.out.mono ?_
  rintro e w1 ⟨A1, c1, rfl, hl1, hb1, hk1⟩
  have HL := Lib.hid hl1
  have HB := Lib.hid hb1
  have HK := Lib.hid hk1
  clear hl1 hb1 hk1 HC
  go_wp2_with fail
  go_ret
  exact ⟨A1, c1, rfl, HL.out, HB.out, HK.out⟩
end Go.Proofs.YtjjmoaaongnjiaaGreatDoor
