/- Contract of frame.Check. Condition: the frame's parts are right; the table of counts holds what the program's text lays. -/
import Derived.Test.YthnolkbolmbkdaaDoorFrmRng
import Derived.Test.YthnolkbolmbkdaaDoorFrmChk
import Derived.Test.YthnolkbolmbkdaaDoorRngs
namespace Go.Proofs.YthnolkbolmbkdaaDoor
open Go.ChangeShapes Go.WideShapes Go.ChangeAt Go.RowKit
set_option linter.unusedVariables false

theorem nums_le {w : World} {v : Value} {zs : List Int} (h : IntsIn w v zs) : zs.length ≤ 9223372036854775807 := by
  obtain ⟨_, A, cap, _, h1, h2, _⟩ := h
  unfold maxLen at h2
  omega
theorem shapeB_two {f : Frm} (h : shapeB f = true) (hk : f.kind = 2) : f.data.size = 0 ∧ 0 < f.nums.length ∧ f.nums.length % 2 = 0 ∧ f.nums.length ≤ 24 := by
  unfold shapeB at h
  rw [if_pos hk] at h
  simp only [Bool.and_eq_true, Bool.or_eq_true, beq_iff_eq, decide_eq_true_eq] at h
  exact ⟨by rcases h.1 with h1 | h1; omega; exact h1, h.2⟩
theorem pairs_ok {L : List Int} (h : maysB L = true) : ∀ r ∈ pairs L, okI r.lo ∧ okI r.hi := by
  have hm : ∀ z ∈ L, MayBe z := fun z hz => mayB_iff.1 (List.all_eq_true.1 h z hz)
  have hall : ∀ (M : List Int), (∀ z ∈ M, MayBe z) → ∀ r ∈ pairs M, okI r.lo ∧ okI r.hi := by
    intro M
    induction M using pairs.induct with
    | case1 a b r ih =>
      intro hM x hx
      rw [pairs] at hx
      rcases List.mem_cons.1 hx with rfl | hx
      · have h1 := hM a (by simp)
        have h2 := hM b (by simp)
        unfold MayBe at h1 h2
        unfold okI
        simp only
        omega
      · exact ih (fun z hz => hM z (by simp [hz])) x hx
    | case2 t ht =>
      intro _ x hx
      rw [pairs] at hx
      · cases hx
      · exact ht
  exact hall L hm

set_option maxHeartbeats 3200000 in
set_option maxRecDepth 100000 in
theorem fcheck (p : FrmV) (w : World) (hp : FrmIn w p) (hC : CTab w) :
    Calls Tryd.prog 42 #[p.agg] w fun e w' => e = .returned (errV (frmE p.f)) ∧ Below w.heap.size w w' := by
  have HC := Lib.hid hC
  have HP := Lib.hid hp
  have hnl := nums_le hp.nums
  have hdz := hp.data
  unfold maxLen at hdz
  have hW : Since w (w.alloc (.cells #[.int .i64 p.f.kind, .slice p.A p.f.nums.length p.cap, .string p.f.data] 82)) := (Since.refl w).alloc _
  have hq : BlockIs (w.alloc (.cells #[.int .i64 p.f.kind, .slice p.A p.f.nums.length p.cap, .string p.f.data] 82)) w.heap.size 82 #[.int .i64 p.f.kind, .slice p.A p.f.nums.length p.cap, .string p.f.data] := BlockIs.fresh _ _ _
  have HQ := Lib.hid hq
  have FS := Lib.hid (fun h1 h8 W hW => fshape p W h1 h8 hnl hW)
  clear hC hp hq
  by_cases k1 : p.f.kind < 1
  · have E := Lib.hid (frmE_kind (Or.inl k1))
    go_enter Tryd.func42, Tryd.ntmps42
    go_wp2_with fail
    go_ret
    exact ⟨by rw [E.out]; rfl, hW⟩
  have k1' : decide (p.f.kind < 1) = false := by simpa using k1
  by_cases k8 : 8 < p.f.kind
  · have E := Lib.hid (frmE_kind (Or.inr k8))
    clear k1
    go_enter Tryd.func42, Tryd.ntmps42
    go_wp2_with fail
    go_ret
    exact ⟨by rw [E.out]; rfl, hW⟩
  have k8' : decide (8 < p.f.kind) = false := by simpa using k8
  have HK : Hid (¬ (p.f.kind < 1 ∨ 8 < p.f.kind)) := Lib.hid (by omega)
  have FS2 := Lib.hid (FS.out (by omega) (by omega))
  clear k1 k8 FS
  unfold FrmV.agg at FS2 ⊢
  cases hs : shapeB p.f with
  | false =>
    have E := Lib.hid (frmE_shape HK.out hs)
    have HS := Lib.hid hs
    clear hs
    go_enter Tryd.func42, Tryd.ntmps42
    go_wp2_with fail
    refine (FS2.out _ (HC.out.later hW)).mono ?_
    rintro e w1 ⟨rfl, hb1⟩
    rw [HS.out]
    go_wp2_with fail
    go_ret
    exact ⟨by rw [E.out]; rfl, hW.later hb1⟩
  | true =>
    have HS := Lib.hid hs
    clear hs
    go_enter Tryd.func42, Tryd.ntmps42
    go_wp2_with fail
    refine (FS2.out _ (HC.out.later hW)).mono ?_
    rintro e w1 ⟨rfl, hb1⟩
    rw [HS.out]
    have hs1 := hW.later hb1
    have HQ1 := Lib.hid (HQ.out.later hb1)
    have d1 : w1.cell? ⟨w.heap.size, 1, none⟩ = some (.slice p.A p.f.nums.length p.cap) := HQ1.out.cell 1
    have l1 := HQ1.out.lt
    clear hb1 FS2
    go_wp2_with fail
    refine (fmcontains _ p.f.nums _ (HP.out.nums.keep hs1)).mono ?_
    rintro e w2 ⟨rfl, hb2⟩
    have hs2 := hs1.later hb2
    have HQ2 := Lib.hid (HQ1.out.later hb2)
    have f0 : w2.cell? ⟨w.heap.size, 0, none⟩ = some (.int .i64 p.f.kind) := HQ2.out.cell 0
    have f1 : w2.cell? ⟨w.heap.size, 1, none⟩ = some (.slice p.A p.f.nums.length p.cap) := HQ2.out.cell 1
    have f2 : w2.cell? ⟨w.heap.size, 2, none⟩ = some (.string p.f.data) := HQ2.out.cell 2
    have l2 := HQ2.out.lt
    clear hb2 d1 l1
    cases hm : maysB p.f.nums with
    | false =>
      have E := Lib.hid (frmE_may HK.out HS.out hm)
      clear hm
      go_wp2_with fail
      go_ret
      exact ⟨by rw [E.out]; rfl, hs2⟩
    | true =>
      have HM := Lib.hid hm
      clear hm
      by_cases h20 : 20 < p.f.data.size
      · have E := Lib.hid (frmE_full HK.out HS.out HM.out h20)
        have h20' : (20 : Int) < (p.f.data.size : Int) := by omega
        go_wp2_with fail
        go_ret
        exact ⟨by rw [E.out]; rfl, hs2⟩
      have HD := Lib.hid h20
      have h20' : decide ((20 : Int) < (p.f.data.size : Int)) = false := by simp; omega
      clear h20
      by_cases hk : p.f.kind = 2
      · obtain ⟨_, n1, n2, n3⟩ := shapeB_two HS.out hk
        have hl2 := pairs_len p.f.nums n2
        obtain ⟨K, hK⟩ : ∃ K, (pairs p.f.nums).length = K := ⟨_, rfl⟩
        have hk2 : (p.f.kind == 2) = true := by simpa using hk
        have HKK := Lib.hid hK
        have HKD := Lib.hid hk
        have FR := Lib.hid (fun W hW => franges p.A p.cap p.f.nums K W hW (by omega) (by omega) (by omega))
        clear hK hk n1 n2 n3 hl2
        trace "A"; go_wp2_with fail
        refine (FR.out _ (HP.out.nums.keep hs2)).mono ?_
        rintro e w3 ⟨A3, c3, rfl, hl3, hb3, _⟩
        have HL3 := Lib.hid hl3
        have hs3 := hs2.later hb3
        clear hl3 hb3
        trace "B"; go_wp2_with fail
        refine (rcheck A3 K c3 (pairs p.f.nums) _ HKK.out (pairs_ok HM.out) (Rd.of_lst HL3.out)).mono ?_
        rintro e w4 ⟨rfl, hb4⟩
        have hs4 := hs3.later hb4
        by_cases hE : rngE (pairs p.f.nums) = 0
        · have E := Lib.hid (frmE_ok HK.out HS.out HM.out HD.out (fun _ => hE))
          rw [hE, errV_zero]
          clear hE
          go_wp2_with fail
          go_ret
          exact ⟨by rw [E.out]; rfl, hs4⟩
        · have E := Lib.hid (frmE_ack HKD.out HS.out HM.out HD.out hE)
          rw [errV_pos hE]
          clear hE
          go_wp2_with fail
          go_ret
          exact ⟨by rw [E.out]; rfl, hs4⟩
      · have E := Lib.hid (frmE_ok HK.out HS.out HM.out HD.out (fun h => absurd h hk))
        have hk2 : (p.f.kind == 2) = false := by simpa using hk
        clear hk
        go_wp2_with fail
        go_ret
        exact ⟨by rw [E.out]; rfl, hs2⟩
end Go.Proofs.YthnolkbolmbkdaaDoor
