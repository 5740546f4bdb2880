/- Contracts of the reference's proofs: what each answers, and what becomes of their blocks. Condition: the blocks hold proofs as the calls leave them. -/
import Derived.Test.YthnolkbolmbkdaaDoorAsk
import Derived.Test.YthnolkbolmbkdaaDoorLst
import Derived.OwnWalk
namespace Go.Proofs.YthnolkbolmbkdaaDoor
open Go.ChangeShapes Go.WideShapes Go.ChangeAt Go.RowKit
set_option linter.unusedVariables false

def arow (a : Asked) : List Value := [.int .i64 a.p, .int .i64 a.k, .int .i64 a.t]
/-- the reference's proofs at g, their slice: these are open -/
structure Rp (w : World) (g : Nat) (v : Value) (L : List Asked) : Prop where
  bl : BlockIs w g 45 #[v]
  ls : Lst w 124 3 v (L.map arow)
  inv : AInv L
theorem Tryd.elAsked : Elem Tryd.prog 43 124 3 24 := ⟨Tryd.underlying43, ⟨.agg #[.int .i64 0, .int .i64 0, .int .i64 0], rfl, by kernel_rfl⟩, by decide, by decide⟩
theorem arow_one (a : Asked) : (arow a).length = 3 ∧ ∀ u ∈ arow a, u.oneCell' = true := ⟨rfl, by intro u hu; simp [arow] at hu; rcases hu with rfl | rfl | rfl <;> rfl⟩
theorem Rp.later {w w1 : World} {g : Nat} {v : Value} {L : List Asked} (h : Rp w g v L) (hb : Below w.heap.size w w1) : Rp w1 g v L := ⟨h.bl.later hb, h.ls.later hb, h.inv⟩
theorem Rp.drew {w : World} {g : Nat} {v : Value} {L : List Asked} (h : Rp w g v L) : Rp w.drew g v L := ⟨h.bl, h.ls.drew, h.inv⟩
theorem Rp.drewN {w : World} {g : Nat} {v : Value} {L : List Asked} (h : Rp w g v L) (n : Nat) : Rp (w.drewN n) g v L := ⟨h.bl, h.ls.drewN n, h.inv⟩
theorem Rp.kept {w w1 : World} {g : Nat} {v : Value} {L : List Asked} {S : List Nat} (h : Rp w g v L) (hg : Out w w1 S) (h1 : g ∉ S) (h2 : ∀ k, k ∈ blocks v → k ∉ S) : Rp w1 g v L := ⟨hg.block' h.bl h1, h.ls.kept hg h2, h.inv⟩
theorem Rp.apart {w : World} {g : Nat} {v : Value} {L : List Asked} (h : Rp w g v L) : g ∉ blocks v := h.ls.apart h.bl (by decide)
/-- what a call leaves of them -/
def RLeft (w w' : World) (g : Nat) (v : Value) (L : List Asked) : Prop := ∃ v', Rp w' g v' L ∧ Out w w' (g :: blocks v) ∧ ∀ k, k ∈ blocks v' → k ∈ blocks v ∨ w.heap.size ≤ k

theorem fnd_at {L : List Asked} {i : Nat} (h : i < L.length) {k : Int} (hk : L[i].k = k) : (fnd L k).isSome = true := by
  cases hf : fnd L k with
  | some a => rfl
  | none => exact absurd hk (fnd_none hf _ (List.getElem_mem h))
theorem fnd_none_of {L : List Asked} {k : Int} (h : ∀ a ∈ L, a.k ≠ k) : fnd L k = none := by
  unfold fnd
  rw [List.find?_eq_none]
  intro a ha
  simpa using h a ha

set_option maxHeartbeats 1600000 in
theorem rask_any (g : Nat) (v : Value) (L : List Asked) (p k t : Int) (w : World) (h : Rp w g v L) :
    Calls Tryd.prog 26 #[.pointer (some ⟨g, 0, none⟩), .int .i64 p, .int .i64 k, .int .i64 t] w fun e w' => e = .returned (.int .i64 (askE L p k t)) ∧ RLeft w w' g v (askL L p k t) := by
  have c0 : w.cell? ⟨g, 0, none⟩ = some v := h.bl.cell 0
  have lg := h.bl.lt
  by_cases hok : AskOk p k t
  case neg =>
    have E : Hid (askE L p k t = 1) := Lib.hid (by unfold askE; rw [if_neg hok])
    have EL : Hid (askL L p k t = L) := Lib.hid (by unfold askL; rw [E.out, if_neg (by decide)])
    have HR : Hid (RLeft w w g v (askL L p k t)) := Lib.hid (by rw [EL.out]; exact ⟨v, h, Out.refl _ _, fun k hk => Or.inl hk⟩)
    clear h
    by_cases a : p < 0
    · clear hok
      go_enter Tryd.func26, Tryd.ntmps26
      go_wp2_with (go_at_call 65; refine (rmay_any k _).mono ?_; rintro e w' ⟨rfl, rfl⟩)
      go_ret
      exact ⟨by rw [E.out]; rfl, HR.out⟩
    by_cases a2 : 3 < p
    · clear hok
      go_enter Tryd.func26, Tryd.ntmps26
      go_wp2_with (go_at_call 65; refine (rmay_any k _).mono ?_; rintro e w' ⟨rfl, rfl⟩)
      go_ret
      exact ⟨by rw [E.out]; rfl, HR.out⟩
    have a' : decide (p < 0) = false := by simpa using a
    have a2' : decide (3 < p) = false := by simpa using a2
    by_cases c : mayB k = true
    case neg =>
      have c' : mayB k = false := by simpa using c
      clear c hok
      go_enter Tryd.func26, Tryd.ntmps26
      go_wp2_with (go_at_call 65; refine (rmay_any k _).mono ?_; rintro e w' ⟨rfl, rfl⟩)
      go_ret
      exact ⟨by rw [E.out]; rfl, HR.out⟩
    by_cases d : t < 0
    · clear hok
      go_enter Tryd.func26, Tryd.ntmps26
      go_wp2_with (go_at_call 65; refine (rmay_any k _).mono ?_; rintro e w' ⟨rfl, rfl⟩)
      go_ret
      exact ⟨by rw [E.out]; rfl, HR.out⟩
    have d2 : 100000 < t := by
      rcases Int.lt_or_le 100000 t with h1 | h1
      · exact h1
      · exact absurd ⟨⟨by omega, by omega⟩, mayB_iff.1 c, by omega, h1⟩ hok
    clear hok
    go_enter Tryd.func26, Tryd.ntmps26
    go_wp2_with (go_at_call 65; refine (rmay_any k _).mono ?_; rintro e w' ⟨rfl, rfl⟩)
    go_ret
    exact ⟨by rw [E.out]; rfl, HR.out⟩
  have HOK := Lib.hid hok
  obtain ⟨⟨a1, a2⟩, c, d1, d2⟩ := hok
  have c' : mayB k = true := mayB_iff.2 c
  have H := Lib.hid h
  have hfew := h.inv.few
  obtain ⟨A, cap, hv, hcap, hmx, hA⟩ := h.ls.shape
  rw [List.length_map] at hv hcap
  subst hv
  have HA := Lib.hid hA
  clear h hA hmx c
  go_enter Tryd.func26, Tryd.ntmps26
  go_wp2_with (go_at_call 65; refine (rmay_any k _).mono ?_; rintro e w' ⟨rfl, rfl⟩)
  go_loop [10] (fun s10 => ∃ i : Nat, s10 = .int .i64 i ∧ i ≤ L.length ∧ Hid (∀ a ∈ L.take i, a.k ≠ k)) (fun s10 => L.length - (intOf s10).toNat)
  case atStart => exact ⟨0, rfl, Nat.zero_le _, Lib.hid (by simp)⟩
  case round =>
    obtain ⟨i, rfl, hi, HN⟩ := hrel
    by_cases hlt : i < L.length
    · have hlt' : (i : Int) < (L.length : Int) := by omega
      rcases HA.out with ⟨_, h0, _⟩ | ⟨b, rfl⟩
      · have : L = [] := by simpa using h0
        subst this
        simp at hlt
      have hget : (L.map arow)[i]? = some (arow L[i]) := by simp [hlt]
      have ck : w.cell? ⟨b, i * 3 + 1, none⟩ = some (.int .i64 L[i].k) := H.out.ls.cell rfl hget (j := 1) rfl
      obtain ⟨kk, hkk⟩ : ∃ kk, L[i].k = kk := ⟨_, rfl⟩
      have HK := Lib.hid hkk
      rw [hkk] at ck
      clear hget hkk
      by_cases he : kk = k
      · have hq : (kk == k) = true := by simpa using he
        have E : Hid (askE L p k t = 7) := Lib.hid (by unfold askE; rw [if_pos HOK.out, if_pos (fnd_at hlt (HK.out.trans he))])
        have EL : Hid (askL L p k t = L) := Lib.hid (by unfold askL; rw [E.out, if_neg (by decide)])
        clear he
        go_wp2
        go_ret
        exact ⟨by rw [E.out]; rfl, by rw [EL.out]; exact ⟨_, H.out, Out.refl _ _, fun k hk => Or.inl hk⟩⟩
      · have hq : (kk == k) = false := by simpa using he
        have HN2 : Hid (∀ a ∈ L.take (i + 1), a.k ≠ k) := Lib.hid (by
          intro a ha
          rw [List.take_succ_eq_append_getElem hlt] at ha
          rcases List.mem_append.1 ha with h1 | h1
          · exact HN.out a h1
          · rw [List.mem_singleton.1 h1, HK.out]; exact he)
        clear he HN
        go_wp2
        go_round
        case rel => exact ⟨i + 1, by go_num, by omega, HN2⟩
        case measure => simp [intOf]; omega
    · obtain rfl : i = L.length := by omega
      have hfn : fnd L k = none := fnd_none_of (fun a ha => HN.out a (by rw [List.take_length]; exact ha))
      by_cases h8 : 8 ≤ L.length
      · have E : Hid (askE L p k t = 4) := Lib.hid (by unfold askE; rw [if_pos HOK.out, hfn, if_neg (by simp), if_pos (by omega)])
        have EL : Hid (askL L p k t = L) := Lib.hid (by unfold askL; rw [E.out, if_neg (by decide)])
        have h8' : (8 : Int) ≤ (L.length : Int) := by omega
        clear hfn
        go_wp2
        go_ret
        exact ⟨by rw [E.out]; rfl, by rw [EL.out]; exact ⟨_, H.out, Out.refl _ _, fun k hk => Or.inl hk⟩⟩
      · have E : Hid (askE L p k t = 0) := Lib.hid (by unfold askE; rw [if_pos HOK.out, hfn, if_neg (by simp), if_neg (by omega)])
        have EL : Hid (askL L p k t = L ++ [⟨p, k, t⟩]) := Lib.hid (by unfold askL; rw [E.out, if_pos rfl])
        have HI : Hid (AInv (L ++ [⟨p, k, t⟩])) := Lib.hid (by have := H.out.inv.ask p k t; rw [EL.out] at this; exact this)
        have h8' : decide ((8 : Int) ≤ (L.length : Int)) = false := by simp; omega
        have hfree := H.out.bl.free
        have hml : (L.map arow).length = L.length := List.length_map ..
        have HML := Lib.hid hml
        clear hfn h8 hml
        go_wp2_with (at_builtin; refine wpList_push rfl _ _ 43 rfl 124 3 24 Tryd.elAsked _ (L.map arow) rfl (H.out.ls.alloc _) w.heap.size 1 [.int .i64 p, .int .i64 k, .int .i64 t] rfl rfl (arow_one ⟨p, k, t⟩).2 (BlockIs.fresh _ _ _) (by rw [HML.out]; omega) ?_; intro b cap' w1 hl1 ho1 hb1 hlt1; have hc1 : w1.cell? ⟨g, 0, none⟩ = some _ := (ho1.block' (H.out.bl.alloc _) H.out.apart).cell 0; have hf1 : w1.frozen? ⟨g, 0, none⟩ = false := (ho1.block' (H.out.bl.alloc _) H.out.apart).free 0)
        go_ret
        rw [HML.out] at hl1
        have hB1 := ho1.block' (H.out.bl.alloc _) H.out.apart
        have hng := hl1.apart hB1 (by decide)
        have hoo : Out w w1 (g :: blocks (.slice A L.length cap)) := ((Out.refl w _).alloc _).then' ho1 (fun x hx => Or.inl (List.mem_cons_of_mem _ hx))
        refine ⟨by rw [E.out]; rfl, ?_⟩
        rw [EL.out]
        refine ⟨_, ⟨hB1.put 0 _, ?_, HI.out⟩, hoo.put (Or.inl (by simp)) _, fun x hx => ?_⟩
        · have hk := hl1.kept (((Out.refl w1 [g]).put (p := ⟨g, 0, none⟩) (Or.inl (by simp)) (.slice (some ⟨b, 0, none⟩) (L.length + 1) cap'))) (fun x hx hg => hng (by rw [List.mem_singleton.1 hg] at hx; exact hx))
          rw [List.map_append]
          exact hk
        · have hxb : b = x := by simpa [Value.ownBlock] using hx
          rw [← hxb]
          rcases hb1 with h1 | h1
          · exact Or.inl h1
          · exact Or.inr (by rw [h1]; simp)

end Go.Proofs.YthnolkbolmbkdaaDoor
