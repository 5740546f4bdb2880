/- Contracts of the reference's talk, as far as letters go: Out, Twice. Condition: the block holds a talk whose letters lie in a slice of the call's own. -/
import Derived.Test.YtbmfknnbpnllkaaDoorLnk
namespace Go.Proofs.YtbmfknnbpnllkaaDoor
open Go.ChangeShapes Go.WideShapes Go.ChangeAt Go.RowKit
set_option linter.unusedVariables false

theorem Tryd.elRLet : Elem Tryd.prog 53 57 2 24 := ⟨Tryd.underlying53, ⟨.agg #[.int .i64 0, .string ⟨#[]⟩], rfl, by kernel_rfl⟩, by decide, by decide⟩
/-- a talk at g: its letters lie in the slice v -/
structure Tz (w : World) (g : Nat) (e0 e1 v : Value) (L : List Let) : Prop where
  bl : BlockIs w g 55 #[e0, e1, v]
  ls : Lst w 57 2 v (L.map letRow)
  few : L.length ≤ 40
theorem Tz.later {w w1 : World} {g : Nat} {e0 e1 v : Value} {L : List Let} (h : Tz w g e0 e1 v L) (hb : Below w.heap.size w w1) : Tz w1 g e0 e1 v L := ⟨h.bl.later hb, h.ls.later hb, h.few⟩
theorem Tz.kept {w w1 : World} {g : Nat} {e0 e1 v : Value} {L : List Let} {S : List Nat} (h : Tz w g e0 e1 v L) (hg : Out w w1 S) (h1 : ∀ k, k ∈ g :: blocks v → k ∉ S) : Tz w1 g e0 e1 v L :=
  ⟨hg.block' h.bl (h1 _ (by simp)), h.ls.kept hg (fun k hk => h1 k (by simp [hk])), h.few⟩
theorem Tz.lt {w : World} {g : Nat} {e0 e1 v : Value} {L : List Let} (h : Tz w g e0 e1 v L) : ∀ k, k ∈ g :: blocks v → k < w.heap.size := by
  intro k hk
  rcases List.mem_cons.1 hk with rfl | hk
  · exact h.bl.lt
  · exact h.ls.lt k hk
def TLeft (w w' : World) (g : Nat) (e0 e1 v : Value) (L : List Let) : Prop := ∃ v', Tz w' g e0 e1 v' L ∧ Out w w' (g :: blocks v) ∧ ∀ k, k ∈ blocks v' → k ∈ blocks v ∨ w.heap.size ≤ k
theorem TLeft.same {w w' : World} {g : Nat} {e0 e1 v : Value} {L : List Let} (h : Tz w g e0 e1 v L) (hb : Below w.heap.size w w') : TLeft w w' g e0 e1 v L := ⟨v, h.later hb, Out.of_below hb _, fun k hk => Or.inl hk⟩
/-- one letter more: the slice was grown, and stored -/
theorem tpush {w w5 : World} {g q cq : Nat} {e0 e1 v : Value} {L : List Let} (d : Let) (hb5 : BlockIs w5 g 55 #[e0, e1, v]) (hl5 : Lst w5 57 2 (.slice (some ⟨q, 0, none⟩) (L.length + 1) cq) (L.map letRow ++ [letRow d]))
    (hO5 : Out w w5 (g :: blocks v)) (hq : q ∈ blocks v ∨ w.heap.size ≤ q) (hlt : L.length < 40) : TLeft w (w5.setCell ⟨g, 2, none⟩ (.slice (some ⟨q, 0, none⟩) (L.length + 1) cq)) g e0 e1 v (L ++ [d]) := by
  have hqg : q ≠ g := fun e => by have := hl5.apart hb5 (by decide); rw [e] at this; simp [Value.ownBlock] at this
  refine ⟨.slice (some ⟨q, 0, none⟩) (L.length + 1) cq, ⟨hb5.put 2 _, ?_, by simp; omega⟩, hO5.put (p := ⟨g, 2, none⟩) (Or.inl (by simp)) _, fun k hk => ?_⟩
  · rw [List.map_append]
    exact hl5.kept (S := [g]) ((Out.refl w5 [g]).put (p := ⟨g, 2, none⟩) (Or.inl (by simp)) _) (fun k hk hm => by
      have hkq : q = k := by simpa [Value.ownBlock] using hk
      rw [List.mem_singleton.1 hm] at hkq
      exact hqg hkq)
  · have hkq : q = k := by simpa [Value.ownBlock] using hk
    rw [← hkq]
    exact hq

set_option maxHeartbeats 1600000 in
theorem ttwice (g : Nat) (e0 e1 v : Value) (L : List Let) (x : Int) (w : World) (h : Tz w g e0 e1 v L) :
    Calls Tryd.prog 29 #[.pointer (some ⟨g, 0, none⟩), .int .i64 x] w fun e w' => e = .returned (.int .i64 (twiceE L x)) ∧ TLeft w w' g e0 e1 v (twiceL L x) := by
  have H := Lib.hid h
  have c0 : w.cell? ⟨g, 2, none⟩ = some v := h.bl.cell 2
  have f0 := h.bl.free
  have lg := h.bl.lt
  obtain ⟨A, cap, hve, _, _, hA⟩ := h.ls.shape
  rw [List.length_map] at hve
  subst hve
  have hfew := h.few
  have HA := Lib.hid hA
  clear h hA
  by_cases hw : isB L x = true
  case neg =>
    have hw' := isB_no.1 (by simpa using hw)
    have E : Hid (twiceE L x = 1) := Lib.hid (by unfold twiceE; rw [if_neg hw])
    have EL : Hid (twiceL L x = L) := Lib.hid (by unfold twiceL; rw [E.out, if_neg (by decide)])
    clear hw
    by_cases h0 : x < 0
    · clear hw'
      go_enter Tryd.func29, Tryd.ntmps29
      go_wp2_with fail
      go_ret
      exact ⟨by rw [E.out]; rfl, by rw [EL.out]; exact TLeft.same H.out (Below.refl _ _)⟩
    · have h0' : decide (x < 0) = false := by simpa using h0
      have h1 : (L.length : Int) ≤ x := by omega
      clear hw' h0
      go_enter Tryd.func29, Tryd.ntmps29
      go_wp2_with fail
      go_ret
      exact ⟨by rw [E.out]; rfl, by rw [EL.out]; exact TLeft.same H.out (Below.refl _ _)⟩
  have HW := Lib.hid hw
  obtain ⟨x0, x1⟩ := isB_iff.1 hw
  obtain ⟨m, rfl⟩ := Int.eq_ofNat_of_zero_le x0
  have hx0 : decide ((m : Int) < 0) = false := by simp
  have hx1 : decide ((L.length : Int) ≤ (m : Int)) = false := by simp; omega
  clear hw
  by_cases hf : L.length = 40
  · have E : Hid (twiceE L m = 4) := Lib.hid (by unfold twiceE; rw [if_pos HW.out, if_pos hf])
    have EL : Hid (twiceL L m = L) := Lib.hid (by unfold twiceL; rw [E.out, if_neg (by decide)])
    have h40 : decide (40 ≤ (L.length : Int)) = true := by simp; omega
    clear hf
    go_enter Tryd.func29, Tryd.ntmps29
    go_wp2_with fail
    go_ret
    exact ⟨by rw [E.out]; rfl, by rw [EL.out]; exact TLeft.same H.out (Below.refl _ _)⟩
  have E : Hid (twiceE L m = 0) := Lib.hid (by unfold twiceE; rw [if_pos HW.out, if_neg hf])
  have hml : m < L.length := by omega
  have EL : Hid (twiceL L m = L ++ [L[m]]) := Lib.hid (by unfold twiceL; rw [E.out, if_pos rfl]; simp [List.getD, List.getElem?_eq_getElem hml])
  have h40 : decide (40 ≤ (L.length : Int)) = false := by simp; omega
  rcases HA.out with ⟨_, h0, _⟩ | ⟨q, rfl⟩
  · have : L = [] := by simpa using h0
    subst this
    simp at hml
  have q0 : w.cell? ⟨q, m * 2, none⟩ = some (.int .i64 L[m].to) := H.out.ls.cell rfl (elem_of_let hml) (j := 0) rfl
  have q1 : w.cell? ⟨q, m * 2 + 1, none⟩ = some (.string L[m].b) := H.out.ls.cell rfl (elem_of_let hml) (j := 1) rfl
  have lq := H.out.ls.lt q (by simp [Value.ownBlock])
  generalize L[m] = d at *
  obtain ⟨dt, db⟩ := d
  have hmm : (L.map letRow).length = L.length := List.length_map ..
  have hga := H.out.ls.apart H.out.bl (by decide)
  have HML := Lib.hid hmm
  have HGA := Lib.hid hga
  have hlt : L.length < 40 := by omega
  have hmi : (m : Int) < (L.length : Int) := by omega
  clear hf hmm hga
  go_enter Tryd.func29, Tryd.ntmps29
  go_wp2_with fail
  go_region_law ((refine step_push rfl _ _ 53 rfl 57 2 24 Tryd.elRLet (.slice (some ⟨q, 0, none⟩) L.length cap) (L.map letRow) rfl ?_ w.heap.size 1 [.int .i64 dt, .string db] rfl rfl (letRow_one ⟨dt, db⟩).2 ?_ ?_ ?_; (first | exact (H.out.ls.alloc _).drew | exact H.out.ls.alloc _); (exact BlockIs.fresh w _ _); (rw [HML.out]; omega); intro q5 cq w5 hl5 ho5 hq5 hlt5; have hb5 := ho5.block' (H.out.bl.alloc _) HGA.out; have f5 := hb5.free; have d5 : w5.cell? ⟨g, 2, none⟩ = some (.slice (some ⟨q, 0, none⟩) L.length cap) := hb5.cell 2; have l5 := hb5.lt))
  all_goals
    rw [HML.out] at hl5
    have hO5 : Out w w5 (g :: blocks (.slice (some ⟨q, 0, none⟩) L.length cap)) := by
      first
        | exact ((Out.refl w _).alloc _).then' ho5 (fun k hk => Or.inl (by simp at hk ⊢; simp [hk]))
        | exact (((Out.refl w _).alloc _).drew).then' ho5 (fun k hk => Or.inl (by simp at hk ⊢; simp [hk]))
    have hKP := tpush ⟨dt, db⟩ hb5 hl5 hO5 (hq5.imp id (fun h => by simp at h; omega)) hlt
    have HKP := Lib.hid hKP
    clear hKP hl5 ho5 hq5 hO5 d5
    go_wp2_with fail
    go_ret
    refine ⟨by rw [E.out]; rfl, ?_⟩
    rw [EL.out]
    first
      | exact HKP.out
      | (obtain ⟨v', hz, ho, hk⟩ := HKP.out; exact ⟨v', ⟨hz.bl, hz.ls.drewN 1, hz.few⟩, ho.drewN 1, hk⟩)

abbrev letV (d : Let) : Value := .agg #[.int .i64 d.to, .string d.b]
set_option maxHeartbeats 3200000 in
theorem tout (g : Nat) (e0 e1 v : Value) (L : List Let) (x : Int) (w : World) (h : Tz w g e0 e1 v L) :
    Calls Tryd.prog 25 #[.pointer (some ⟨g, 0, none⟩), .int .i64 x] w fun e w' => e = .returned (.tuple #[letV (giveD L x), .int .i64 (giveE L x)]) ∧ TLeft w w' g e0 e1 v (giveL L x) := by
  have H := Lib.hid h
  have c0 : w.cell? ⟨g, 2, none⟩ = some v := h.bl.cell 2
  have f0 := h.bl.free
  have lg := h.bl.lt
  obtain ⟨A, cap, hve, hcap, hmx, hA⟩ := h.ls.shape
  rw [List.length_map] at hve hcap
  subst hve
  have hfew := h.few
  have HA := Lib.hid hA
  unfold maxLen at hmx
  clear h hA
  by_cases hw : isB L x = true
  case neg =>
    have hw' := isB_no.1 (by simpa using hw)
    have E : Hid (giveE L x = 1) := Lib.hid (by unfold giveE; rw [if_neg hw])
    have ED : Hid (giveD L x = noLet) := Lib.hid (by unfold giveD; rw [if_neg hw])
    have EL : Hid (giveL L x = L) := Lib.hid (by unfold giveL; rw [if_neg hw])
    clear hw
    by_cases h0 : x < 0
    · clear hw'
      go_enter Tryd.func25, Tryd.ntmps25
      go_wp2_with fail
      refine bodyPost_ret (v := .tuple #[letV noLet, .int .i64 1]) (by simp [results, Tryd.results25, go_sem]; exact ⟨rfl, rfl⟩) rfl ⟨by rw [E.out, ED.out], ?_⟩
      rw [EL.out]
      exact TLeft.same H.out (by refine Since.out ?_; repeat (first | with_reducible assumption | with_reducible exact Since.refl _ | with_reducible refine Since.later ?_ (by with_reducible assumption) | with_reducible refine Since.only ?_ (by with_reducible assumption) (by first | assumption | omega | (simp; done) | (simp; omega)) | with_reducible refine Since.alloc ?_ _ | with_reducible refine Since.drewN ?_ _ | with_reducible refine Since.drew ?_ | with_reducible refine Since.set ?_ (by first | assumption | omega | (simp; done) | (simp; omega)) _))
    · have h0' : decide (x < 0) = false := by simpa using h0
      have h1 : (L.length : Int) ≤ x := by omega
      clear hw' h0
      go_enter Tryd.func25, Tryd.ntmps25
      go_wp2_with fail
      refine bodyPost_ret (v := .tuple #[letV noLet, .int .i64 1]) (by simp [results, Tryd.results25, go_sem]; exact ⟨rfl, rfl⟩) rfl ⟨by rw [E.out, ED.out], ?_⟩
      rw [EL.out]
      exact TLeft.same H.out (by refine Since.out ?_; repeat (first | with_reducible assumption | with_reducible exact Since.refl _ | with_reducible refine Since.later ?_ (by with_reducible assumption) | with_reducible refine Since.only ?_ (by with_reducible assumption) (by first | assumption | omega | (simp; done) | (simp; omega)) | with_reducible refine Since.alloc ?_ _ | with_reducible refine Since.drewN ?_ _ | with_reducible refine Since.drew ?_ | with_reducible refine Since.set ?_ (by first | assumption | omega | (simp; done) | (simp; omega)) _))
  have HW := Lib.hid hw
  obtain ⟨x0, x1⟩ := isB_iff.1 hw
  obtain ⟨m, rfl⟩ := Int.eq_ofNat_of_zero_le x0
  have hx0 : decide ((m : Int) < 0) = false := by simp
  have hx1 : decide ((L.length : Int) ≤ (m : Int)) = false := by simp; omega
  clear hw
  have hml : m < L.length := by omega
  have E : Hid (giveE L m = 0) := Lib.hid (by unfold giveE; rw [if_pos HW.out])
  have ED : Hid (giveD L m = L[m]) := Lib.hid (by unfold giveD; rw [if_pos HW.out]; simp [List.getD, List.getElem?_eq_getElem hml])
  have EL : Hid (giveL L m = L.take m ++ L.drop (m + 1)) := Lib.hid (by unfold giveL; rw [if_pos HW.out]; rfl)
  rcases HA.out with ⟨_, h0, _⟩ | ⟨q, rfl⟩
  · have : L = [] := by simpa using h0
    subst this
    simp at hml
  have q0 : w.cell? ⟨q, m * 2, none⟩ = some (.int .i64 L[m].to) := H.out.ls.cell rfl (elem_of_let hml) (j := 0) rfl
  have q1 : w.cell? ⟨q, m * 2 + 1, none⟩ = some (.string L[m].b) := H.out.ls.cell rfl (elem_of_let hml) (j := 1) rfl
  have lq := H.out.ls.lt q (by simp [Value.ownBlock])
  generalize L[m] = d at *
  obtain ⟨dt, db⟩ := d
  have hmi : (m : Int) < (L.length : Int) := by omega
  have hmc : (m : Int) ≤ (cap : Int) := by omega
  have hmc1 : (m : Int) + 1 ≤ (cap : Int) := by omega
  have hml1 : (m : Int) + 1 ≤ (L.length : Int) := by omega
  have hr : ∀ e ∈ L.map letRow, e.length = 2 ∧ ∀ u ∈ e, u.oneCell' = true := H.out.ls.rows
  have HRT : Hid (∀ e ∈ (L.take m).map letRow, e.length = 2 ∧ ∀ u ∈ e, u.oneCell' = true) := Lib.hid (fun e he => by rw [List.map_take] at he; exact hr e (List.mem_of_mem_take he))
  have HRD : Hid (∀ e ∈ (L.drop (m + 1)).map letRow, e.length = 2 ∧ ∀ u ∈ e, u.oneCell' = true) := Lib.hid (fun e he => by rw [List.map_drop] at he; exact hr e (List.mem_of_mem_drop he))
  have HT1 : Hid (∀ w1 : World, Tz w1 g e0 e1 (.slice (some ⟨q, 0, none⟩) L.length cap) L → ∀ j u, (flat ((L.take m).map letRow))[j]? = some u → w1.cell? ((⟨q, 0, none⟩ : Addr).add j) = some u) := Lib.hid (fun w1 h1 j u hu => by
    rw [List.map_take] at hu
    exact h1.ls.news_take rfl m j u hu)
  have HT2 : Hid (∀ w1 : World, Tz w1 g e0 e1 (.slice (some ⟨q, 0, none⟩) L.length cap) L → ∀ j u, (flat ((L.drop (m + 1)).map letRow))[j]? = some u → w1.cell? ((if cap = m + 1 then (⟨q, 0, none⟩ : Addr) else ⟨q, (m + 1) * 2, none⟩).add j) = some u) := Lib.hid (fun w1 h1 j u hu => by
    rw [List.map_drop] at hu
    by_cases hc : cap = m + 1
    · have h0 : L.length = m + 1 := by omega
      rw [List.drop_eq_nil_of_le (by rw [List.length_map]; omega)] at hu
      simp [flat] at hu
    · rw [if_neg hc]
      exact h1.ls.news rfl (m + 1) j u hu)
  have hl1 : ((L.take m).map letRow).length = m := by simp; omega
  have hl2 : ((L.drop (m + 1)).map letRow).length = L.length - (m + 1) := by simp
  have HL1 := Lib.hid hl1
  have HL2 := Lib.hid hl2
  obtain ⟨ad, hA, HAD⟩ : ∃ ad : Addr, (if cap = m + 1 then some (⟨q, 0, none⟩ : Addr) else some ⟨q, (m + 1) * 2, none⟩) = some ad ∧ Hid (ad = (if cap = m + 1 then (⟨q, 0, none⟩ : Addr) else ⟨q, (m + 1) * 2, none⟩)) := by
    by_cases hc : cap = m + 1
    · exact ⟨⟨q, 0, none⟩, by rw [if_pos hc], Lib.hid (by rw [if_pos hc])⟩
    · exact ⟨⟨q, (m + 1) * 2, none⟩, by rw [if_neg hc], Lib.hid (by rw [if_neg hc])⟩
  have hA2 : ((if cap = m + 1 then (⟨q, 0, none⟩ : Addr) else ⟨q, (m + 1) * 2, none⟩)) = ad := HAD.out.symm
  have hga := H.out.ls.apart H.out.bl (by decide)
  have hfar : ∀ k, k ∈ blocks (.slice (some ⟨q, 0, none⟩) L.length cap) → k < w.heap.size := H.out.ls.lt
  have HGA := Lib.hid hga
  have HFAR := Lib.hid hfar
  clear hr hl1 hl2 hga hfar
  go_enter Tryd.func25, Tryd.ntmps25
  go_wp2_with (at_builtin; first | (refine wpList_cat rfl _ _ 53 rfl 57 2 24 Tryd.elRLet (.slice none 0 0) [] rfl (Lst.nil _ _ _) ⟨q, 0, none⟩ m cap ((L.take m).map letRow) rfl HL1.out HRT.out (HT1.out _ (H.out.later (by refine Since.out ?_; repeat (first | with_reducible assumption | with_reducible exact Since.refl _ | with_reducible refine Since.later ?_ (by with_reducible assumption) | with_reducible refine Since.only ?_ (by with_reducible assumption) (by first | assumption | omega | (simp; done) | (simp; omega)) | with_reducible refine Since.alloc ?_ _ | with_reducible refine Since.drewN ?_ _ | with_reducible refine Since.drew ?_ | with_reducible refine Since.set ?_ (by first | assumption | omega | (simp; done) | (simp; omega)) _)))) (by simp; omega) ?_; intro A1 c1 w3 hl3 ho3 hk3; simp only [List.length_nil, Nat.zero_add] at hl3 hk3 ⊢; have hbel := ho3.none_; have hz3 : Tz w3 g e0 e1 (.slice (some ⟨q, 0, none⟩) L.length cap) L := H.out.later (by refine Since.out ?_; repeat (first | with_reducible assumption | with_reducible exact Since.refl _ | with_reducible refine Since.later ?_ (by with_reducible assumption) | with_reducible refine Since.only ?_ (by with_reducible assumption) (by first | assumption | omega | (simp; done) | (simp; omega)) | with_reducible refine Since.alloc ?_ _ | with_reducible refine Since.drewN ?_ _ | with_reducible refine Since.drew ?_ | with_reducible refine Since.set ?_ (by first | assumption | omega | (simp; done) | (simp; omega)) _)); have d3 : w3.cell? ⟨g, 2, none⟩ = some (.slice (some ⟨q, 0, none⟩) L.length cap) := hz3.bl.cell 2) | (refine wpList_cat rfl _ _ 53 rfl 57 2 24 Tryd.elRLet (.slice A1 m c1) ([] ++ (L.take m).map letRow) rfl hl3 ad (L.length - (m + 1)) (cap - (m + 1)) ((L.drop (m + 1)).map letRow) rfl HL2.out HRD.out (hA2 ▸ HT2.out _ hz3) (by simp; omega) ?_; intro A2 c2 w4 hl4 ho4 hk4; have hk3' : ∀ k, k ∈ blocks (.slice A1 m c1) → w.heap.size + 1 < k := (fun k hk => by rcases hk3 k hk with h1 | h1 <;> simp [Value.ownBlock] at h1; omega); have hb4 := ho4.block' hz3.bl (fun hk => by have := hk3' _ hk; omega); have f4 := hb4.free; have d4 : w4.cell? ⟨g, 2, none⟩ = some (.slice (some ⟨q, 0, none⟩) L.length cap) := hb4.cell 2; have l4 := hb4.lt; have hx4 : BlockIs w4 w.heap.size 57 #[.int .i64 0, .string ⟨#[]⟩] := ho4.block' (((BlockIs.fresh w _ _).alloc _).later hbel) (fun hk => by have := hk3' _ hk; omega); have hy4 : BlockIs w4 (w.heap.size + 1) 57 #[.int .i64 dt, .string db] := ho4.block' (BlockIs.later (BlockIs.fresh_at (by simp)) hbel) (fun hk => by have := hk3' _ hk; omega); have hg1 : w.heap.size ≠ g := (by omega); have hg2 : w.heap.size + 1 ≠ g := (by omega); have i0 : ∀ u, (w4.setCell ⟨g, 2, none⟩ u).cell? ⟨w.heap.size, 0, none⟩ = some (.int .i64 0) := (fun u => (hx4.far (p := ⟨g, 2, none⟩) hg1 u).cell 0); have i1 : ∀ u, (w4.setCell ⟨g, 2, none⟩ u).cell? ⟨w.heap.size, 1, none⟩ = some (.string ⟨#[]⟩) := (fun u => (hx4.far (p := ⟨g, 2, none⟩) hg1 u).cell 1); have j0 : ∀ u, (w4.setCell ⟨g, 2, none⟩ u).cell? ⟨w.heap.size + 1, 0, none⟩ = some (.int .i64 dt) := (fun u => (hy4.far (p := ⟨g, 2, none⟩) hg2 u).cell 0); have j1 : ∀ u, (w4.setCell ⟨g, 2, none⟩ u).cell? ⟨w.heap.size + 1, 1, none⟩ = some (.string db) := (fun u => (hy4.far (p := ⟨g, 2, none⟩) hg2 u).cell 1); have ffx := hx4.free; have lx := hx4.lt; have ly := hy4.lt))
  refine bodyPost_ret (v := .tuple #[letV ⟨dt, db⟩, .int .i64 0]) (by simp [results, Tryd.results25, go_sem, i0, i1]) rfl ⟨by rw [E.out, ED.out], ?_⟩
  rw [EL.out]
  have hmn : min m L.length + (L.length - (m + 1)) = L.length - 1 := by omega
  rw [hmn]
  have hl5 : Lst w4 57 2 (.slice A2 (L.length - 1) c2) ((L.take m ++ L.drop (m + 1)).map letRow) := hl4.as (by simp; omega) (by rw [List.map_append, List.nil_append])
  have hk5 : ∀ k, k ∈ blocks (.slice A2 (L.length - 1) c2) → w.heap.size + 1 < k := fun k hk => by
    rcases hk4 k (blocks_any A2 _ _ _ _ ▸ hk) with h1 | h1
    · exact hk3' k h1
    · have := hbel.size; simp at this; omega
  have hO3 : Out w w3 (g :: blocks (.slice (some ⟨q, 0, none⟩) L.length cap)) := ((((Out.refl w _).alloc _).alloc _)).later hbel
  have hO4 : Out w w4 (g :: blocks (.slice (some ⟨q, 0, none⟩) L.length cap)) := hO3.then' ho4 (fun k hk => Or.inr (by have := hk3' k hk; omega))
  have hOf : ∀ a b c, Out w4 (((w4.setCell ⟨g, 2, none⟩ a).setCell ⟨w.heap.size, 0, none⟩ b).setCell ⟨w.heap.size, 1, none⟩ c) [g, w.heap.size] := fun a b c => (((Out.refl w4 _).put (p := ⟨g, 2, none⟩) (Or.inl (by simp)) a).put (p := ⟨w.heap.size, 0, none⟩) (Or.inl (by simp)) b).put (p := ⟨w.heap.size, 1, none⟩) (Or.inl (by simp)) c
  have hg1' : g ≠ w.heap.size := by omega
  refine ⟨.slice A2 (L.length - 1) c2, ⟨((hb4.put 2 _).far (p := ⟨w.heap.size, 0, none⟩) hg1' _).far (p := ⟨w.heap.size, 1, none⟩) hg1' _, ?_, by simp; omega⟩, hO4.then' (hOf _ _ _) (fun k hk => ?_), fun k hk => Or.inr (by have := hk5 k hk; omega)⟩
  · exact hl5.kept (hOf _ _ _) (fun k hk hm2 => by
      have h1 := hk5 k hk
      simp only [List.mem_cons, List.not_mem_nil, or_false] at hm2
      omega)
  · simp only [List.mem_cons, List.not_mem_nil, or_false] at hk
    rcases hk with rfl | rfl
    · exact Or.inl (by simp)
    · exact Or.inr (Nat.le_refl _)
end Go.Proofs.YtbmfknnbpnllkaaDoor
