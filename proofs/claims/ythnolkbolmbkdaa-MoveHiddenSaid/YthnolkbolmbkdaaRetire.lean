/- Contract of ids.Retire: what it answers, and what becomes of the blocks. Condition: the blocks hold IDs as New and the calls leave them. -/
import Derived.Test.YthnolkbolmbkdaaIssue
import Derived.Test.YthnolkbolmbkdaaDel
namespace Go.Proofs.Ythnolkbolmbkdaa
open Go.ChangeShapes Go.WideShapes Go.ChangeAt Go.RowKit
set_option linter.unusedVariables false

def seqI (L : List One) (x : Int) : Int := place (fun d => d.s == x) L 0
def retE (L : List One) (x : Int) : Int := if seqI L x < 0 then 5 else 0
def retL (L : List One) (x : Int) : List One := if seqI L x < 0 then L else L.take (seqI L x).toNat ++ L.drop ((seqI L x).toNat + 1)

set_option maxHeartbeats 1600000 in
theorem iretire (g b : Nat) (v : Value) (lim : Int) (L : List One) (N : List Int) (x : Int) (w : World) (h : Iz w g b v lim L N) :
    Calls Try.prog 26 #[.pointer (some ⟨g, 0, none⟩), .int .i64 x] w fun e w' => e = .returned (errV (retE L x)) ∧ ILeft w w' g b v lim (retL L x) N := by
  have c1 : w.cell? ⟨g, 1, none⟩ = some v := h.bl.cell 1
  have lg := h.bl.lt
  have hm : L.length ≤ 1000000 := by have := h.few; have := h.l2; omega
  have HLS := Lib.hid h.ls
  have H := Lib.hid h
  obtain ⟨A, cap, hve, hcap, hmx, hA⟩ := h.ls.shape
  rw [List.length_map] at hve hcap
  subst hve
  have HA := Lib.hid hA
  obtain ⟨i, hi⟩ : ∃ i, seqI L x = i := ⟨_, rfl⟩
  have HI := Lib.hid hi
  have HPL : Hid (place (fun d => d.s == x) L 0 = i) := Lib.hid hi
  have hb := place_bound (p := fun d => d.s == x) (L := L) (k := 0)
  rw [HPL.out] at hb
  clear h hA hi hmx
  by_cases hneg : i < 0
  · have HE : Hid (retE L x = 5 ∧ retL L x = L) := Lib.hid (by unfold retE retL; rw [HI.out, if_pos hneg, if_pos hneg]; exact ⟨rfl, rfl⟩)
    clear hb
    go_enter Try.func26, Try.ntmps26
    go_wp2_with (go_at_call 24; refine (findSeq _ L x w.heap.size _ (by simp) (HLS.out.alloc _) hm).mono ?_; rintro e w1 ⟨rfl, hb1⟩; rw [HPL.out])
    go_ret
    exact ⟨by rw [HE.out.1]; rfl, by rw [HE.out.2]; exact ⟨_, H.out.later (by refine Since.out ?_; repeat (first | with_reducible assumption | with_reducible exact Since.refl _ | with_reducible refine Since.later ?_ (by with_reducible assumption) | with_reducible refine Since.only ?_ (by with_reducible assumption) (by first | assumption | omega | (simp; done) | (simp; omega)) | with_reducible refine Since.alloc ?_ _ | with_reducible refine Since.drewN ?_ _ | with_reducible refine Since.drew ?_ | with_reducible refine Since.set ?_ (by first | assumption | omega | (simp; done) | (simp; omega)) _)), Out.of_below (by refine Since.out ?_; repeat (first | with_reducible assumption | with_reducible exact Since.refl _ | with_reducible refine Since.later ?_ (by with_reducible assumption) | with_reducible refine Since.only ?_ (by with_reducible assumption) (by first | assumption | omega | (simp; done) | (simp; omega)) | with_reducible refine Since.alloc ?_ _ | with_reducible refine Since.drewN ?_ _ | with_reducible refine Since.drew ?_ | with_reducible refine Since.set ?_ (by first | assumption | omega | (simp; done) | (simp; omega)) _)) _, fun k hk => Or.inl hk⟩⟩
  · have hi0 : 0 ≤ i := by omega
    obtain ⟨m, rfl⟩ := Int.eq_ofNat_of_zero_le hi0
    have hml : m < L.length := by omega
    rcases HA.out with ⟨_, h0, _⟩ | ⟨q, rfl⟩
    · have : L = [] := by simpa using h0
      subst this
      simp at hml
    have hneg' : decide ((m : Int) < 0) = false := by simp
    have hlt' : (m : Int) < (L.length : Int) := by omega
    have HE : Hid (retE L x = 0 ∧ retL L x = L.take m ++ L.drop (m + 1)) := Lib.hid (by unfold retE retL; rw [HI.out, if_neg hneg, if_neg hneg]; exact ⟨rfl, rfl⟩)
    have hgq : g ∉ [q] := fun hm2 => by have := H.out.apart; rw [List.mem_singleton.1 hm2] at this; simp [Value.ownBlock] at this
    have HGQ := Lib.hid hgq
    clear hb hneg hi0 hgq
    go_enter Try.func26, Try.ntmps26
    go_wp2_with (first | (go_at_call 24; refine (findSeq _ L x w.heap.size _ (by simp) (HLS.out.alloc _) hm).mono ?_; rintro e w1 ⟨rfl, hb1⟩; rw [HPL.out]; have hz1 : Iz w1 g b _ lim L N := H.out.later (by refine Since.out ?_; repeat (first | with_reducible assumption | with_reducible exact Since.refl _ | with_reducible refine Since.later ?_ (by with_reducible assumption) | with_reducible refine Since.only ?_ (by with_reducible assumption) (by first | assumption | omega | (simp; done) | (simp; omega)) | with_reducible refine Since.alloc ?_ _ | with_reducible refine Since.drewN ?_ _ | with_reducible refine Since.drew ?_ | with_reducible refine Since.set ?_ (by first | assumption | omega | (simp; done) | (simp; omega)) _)); have e1 : w1.cell? ⟨g, 1, none⟩ = some _ := hz1.bl.cell 1) | (go_at_call 35; refine (delIDs q cap L m hml hm _ hz1.ls).mono ?_; rintro e w2 ⟨rfl, hl2, ho2⟩; have hb2 := ho2.block' hz1.bl HGQ.out; have e2 : w2.cell? ⟨g, 1, none⟩ = some _ := hb2.cell 1; have f2 := hb2.free))
    go_ret
    refine ⟨by rw [HE.out.1]; rfl, ?_⟩
    rw [HE.out.2]
    have hqg : q ≠ g := fun e => by have := hz1.apart; rw [← e] at this; simp [Value.ownBlock] at this
    have hbq : b ∉ [q] := fun hm2 => by have := hz1.ls.not_map hz1.mp; rw [List.mem_singleton.1 hm2] at this; simp [Value.ownBlock] at this
    have hgb : b ∉ [g] := by have := hz1.mp.not_row hz1.bl; simp; omega
    have hO1 : Out w w1 (g :: b :: blocks (.slice (some ⟨q, 0, none⟩) L.length cap)) := Out.of_below (by refine Since.out ?_; repeat (first | with_reducible assumption | with_reducible exact Since.refl _ | with_reducible refine Since.later ?_ (by with_reducible assumption) | with_reducible refine Since.only ?_ (by with_reducible assumption) (by first | assumption | omega | (simp; done) | (simp; omega)) | with_reducible refine Since.alloc ?_ _ | with_reducible refine Since.drewN ?_ _ | with_reducible refine Since.drew ?_ | with_reducible refine Since.set ?_ (by first | assumption | omega | (simp; done) | (simp; omega)) _)) _
    refine ⟨_, ⟨hb2.put 1 _, ?_, ?_, H.out.l1, H.out.l2, ?_, H.out.most⟩, ?_, fun k hk => Or.inl (by simpa [Value.ownBlock] using hk)⟩
    · exact hl2.kept (S := [g]) ((Out.refl w2 [g]).put (p := ⟨g, 1, none⟩) (Or.inl (by simp)) _) (fun k hk hm2 => by
        have hkq : q = k := by simpa [Value.ownBlock] using hk
        rw [List.mem_singleton.1 hm2] at hkq
        exact hqg hkq)
    · exact (hz1.mp.kept' ho2 hbq).kept' (S := [g]) ((Out.refl w2 [g]).put (p := ⟨g, 1, none⟩) (Or.inl (by simp)) _) hgb
    · have := H.out.few
      simp
      omega
    · exact (hO1.then' ho2 (fun k hk => Or.inl (by simp [Value.ownBlock] at hk ⊢; simp [hk]))).put (p := ⟨g, 1, none⟩) (Or.inl (by simp)) _
end Go.Proofs.Ythnolkbolmbkdaa
