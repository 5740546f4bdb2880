/- Contract of the reference's Proofs.Answer: what it answers, and what becomes of their blocks. Condition: the blocks hold proofs as the calls leave them. -/
import Derived.Test.YthnolkbolmbkdaaDoorRProof
namespace Go.Proofs.YthnolkbolmbkdaaDoor
open Go.ChangeShapes Go.WideShapes Go.ChangeAt Go.RowKit
set_option linter.unusedVariables false

/-- who hits is found -/
theorem ansB_hit {L : List Asked} (h : AInv L) {p k t l : Int} (he : ansE p k t l = 0) {a : Asked} (ha : a ∈ L) (hh : Hits a p k t l) : ansB L p k t l = true := by
  have hf : fnd L k = some a := by rw [← hh.1]; exact fnd_of_mem h ha
  unfold ansB
  rw [decide_eq_true he, hf]
  simpa using hh
theorem ansB_miss {L : List Asked} {p k t l : Int} (hn : ∀ a ∈ L, ¬ Hits a p k t l) : ansB L p k t l = false := by
  unfold ansB
  cases hf : fnd L k with
  | none => simp
  | some a =>
    have := hn a (fnd_mem hf).1
    simp [this]
theorem cut_at {L : List Asked} (h : AInv L) {i : Nat} (hi : i < L.length) : cut L L[i].k = L.take i ++ L.drop (i + 1) := by
  have h1 := h.once
  clear h
  induction L generalizing i with
  | nil => simp at hi
  | cons x r ih =>
    obtain ⟨hx, hr⟩ := List.pairwise_cons.1 h1
    cases i with
    | zero =>
      have h0 : (x.k == x.k) = true := by simp
      unfold cut
      simp only [List.getElem_cons_zero, List.filter_cons, h0, Bool.not_true, Bool.false_eq_true, if_false, List.take_zero, List.nil_append, List.drop_succ_cons, List.drop_zero]
      rw [List.filter_eq_self]
      intro b hb
      have := hx b hb
      simpa using fun h => this h.symm
    | succ i =>
      have hi' : i < r.length := by simpa using hi
      have hne : (x.k == r[i].k) = false := by simpa using hx _ (List.getElem_mem hi')
      have := ih hi' hr
      unfold cut at this ⊢
      simp only [List.getElem_cons_succ, List.filter_cons, hne, Bool.not_false, if_true, List.take_succ_cons, List.drop_succ_cons, List.cons_append]
      rw [this]

set_option maxHeartbeats 800000 in
theorem ranswer_any (g : Nat) (v : Value) (L : List Asked) (p k t lim : Int) (w : World) (h : Rp w g v L) :
    Calls Tryd.prog 27 #[.pointer (some ⟨g, 0, none⟩), .int .i64 p, .int .i64 k, .int .i64 t, .int .i64 lim] w fun e w' => e = .returned (.tuple #[.bool (ansB L p k t lim), .int .i64 (ansE p k t lim)]) ∧ RLeft w w' g v (ansL L p k t lim) := by
  have c0 : w.cell? ⟨g, 0, none⟩ = some v := h.bl.cell 0
  have lg := h.bl.lt
  by_cases hok : AskOk p k t ∧ 0 ≤ lim ∧ lim ≤ 100000
  case neg =>
    have E : Hid (ansE p k t lim = 1) := Lib.hid (by unfold ansE; rw [if_neg hok])
    have EB : Hid (ansB L p k t lim = false) := Lib.hid (by unfold ansB; rw [E.out]; rfl)
    have EL : Hid (ansL L p k t lim = L) := Lib.hid (by unfold ansL; rw [EB.out, if_neg (by decide)])
    have HR : Hid (RLeft w w g v (ansL L p k t lim)) := Lib.hid (by rw [EL.out]; exact ⟨v, h, Out.refl _ _, fun k hk => Or.inl hk⟩)
    clear h
    by_cases a : p < 0
    · clear hok
      go_enter Tryd.func27, Tryd.ntmps27
      go_wp2_with (go_at_call 65; refine (rmay_any k _).mono ?_; rintro e w' ⟨rfl, rfl⟩)
      go_ret2
      exact ⟨by rw [E.out, EB.out]; rfl, HR.out⟩
    by_cases a2 : 3 < p
    · clear hok
      go_enter Tryd.func27, Tryd.ntmps27
      go_wp2_with (go_at_call 65; refine (rmay_any k _).mono ?_; rintro e w' ⟨rfl, rfl⟩)
      go_ret2
      exact ⟨by rw [E.out, EB.out]; rfl, HR.out⟩
    have a' : decide (p < 0) = false := by simpa using a
    have a2' : decide (3 < p) = false := by simpa using a2
    by_cases c : mayB k = true
    case neg =>
      have c' : mayB k = false := by simpa using c
      clear c hok
      go_enter Tryd.func27, Tryd.ntmps27
      go_wp2_with (go_at_call 65; refine (rmay_any k _).mono ?_; rintro e w' ⟨rfl, rfl⟩)
      go_ret2
      exact ⟨by rw [E.out, EB.out]; rfl, HR.out⟩
    by_cases d : t < 0
    · clear hok
      go_enter Tryd.func27, Tryd.ntmps27
      go_wp2_with (go_at_call 65; refine (rmay_any k _).mono ?_; rintro e w' ⟨rfl, rfl⟩)
      go_ret2
      exact ⟨by rw [E.out, EB.out]; rfl, HR.out⟩
    by_cases d2 : 100000 < t
    · clear hok
      go_enter Tryd.func27, Tryd.ntmps27
      go_wp2_with (go_at_call 65; refine (rmay_any k _).mono ?_; rintro e w' ⟨rfl, rfl⟩)
      go_ret2
      exact ⟨by rw [E.out, EB.out]; rfl, HR.out⟩
    have d' : decide (t < 0) = false := by simpa using d
    have d2' : decide (100000 < t) = false := by simpa using d2
    by_cases e : lim < 0
    · clear hok
      go_enter Tryd.func27, Tryd.ntmps27
      go_wp2_with (go_at_call 65; refine (rmay_any k _).mono ?_; rintro e w' ⟨rfl, rfl⟩)
      go_ret2
      exact ⟨by rw [E.out, EB.out]; rfl, HR.out⟩
    have e2 : 100000 < lim := by
      rcases Int.lt_or_le 100000 lim with h1 | h1
      · exact h1
      · exact absurd ⟨⟨⟨by omega, by omega⟩, mayB_iff.1 c, by omega, by omega⟩, by omega, h1⟩ hok
    clear hok
    go_enter Tryd.func27, Tryd.ntmps27
    go_wp2_with (go_at_call 65; refine (rmay_any k _).mono ?_; rintro e w' ⟨rfl, rfl⟩)
    go_ret2
    exact ⟨by rw [E.out, EB.out]; rfl, HR.out⟩
  have E : Hid (ansE p k t lim = 0) := Lib.hid (by unfold ansE; rw [if_pos hok])
  obtain ⟨⟨⟨a1, a2⟩, c, d1, d2⟩, l1, l2⟩ := hok
  have c' : mayB k = true := mayB_iff.2 c
  have H := Lib.hid h
  have hfew := h.inv.few
  obtain ⟨A, cap, hv, hcap, hmx, hA⟩ := h.ls.shape
  rw [List.length_map] at hv hcap
  subst hv
  unfold maxLen at hmx
  have HA := Lib.hid hA
  clear h hA c
  go_enter Tryd.func27, Tryd.ntmps27
  go_wp2_with (go_at_call 65; refine (rmay_any k _).mono ?_; rintro e w' ⟨rfl, rfl⟩)
  go_loopw [13] (fun s13 wr => ∃ i : Nat, s13 = .int .i64 i ∧ i ≤ L.length ∧ Hid (∀ a ∈ L.take i, ¬ Hits a p k t lim) ∧ Since w wr) (fun s13 _ => L.length - (intOf s13).toNat)
  case atStart => exact ⟨0, rfl, Nat.zero_le _, Lib.hid (by simp), Since.refl _⟩
  case round =>
    obtain ⟨i, rfl, hi, HN, hs⟩ := hrel
    have hls := H.out.ls.later hs
    have hbl := H.out.bl.later hs
    have cg : wr.cell? ⟨g, 0, none⟩ = some (.slice A L.length cap) := hbl.cell 0
    by_cases hlt : i < L.length
    · have hlt' : (i : Int) < (L.length : Int) := by omega
      rcases HA.out with ⟨_, h0, _⟩ | ⟨b, rfl⟩
      · have : L = [] := by simpa using h0
        subst this
        simp at hlt
      have hget : (L.map arow)[i]? = some (arow L[i]) := by simp [hlt]
      have q0 : wr.cell? ⟨b, i * 3, none⟩ = some (.int .i64 L[i].p) := hls.cell rfl hget (j := 0) rfl
      have q1 : wr.cell? ⟨b, i * 3 + 1, none⟩ = some (.int .i64 L[i].k) := hls.cell rfl hget (j := 1) rfl
      have q2 : wr.cell? ⟨b, i * 3 + 2, none⟩ = some (.int .i64 L[i].t) := hls.cell rfl hget (j := 2) rfl
      obtain ⟨ok1, ok2, ok3, ok4⟩ := H.out.inv.ok _ (List.getElem_mem hlt)
      obtain ⟨xp, hxp⟩ : ∃ x, L[i].p = x := ⟨_, rfl⟩
      obtain ⟨xk, hxk⟩ : ∃ x, L[i].k = x := ⟨_, rfl⟩
      obtain ⟨xt, hxt⟩ : ∃ x, L[i].t = x := ⟨_, rfl⟩
      have HIT : Hid (Hits L[i] p k t lim ↔ xk = k ∧ xp = p ∧ xt ≤ t ∧ t - xt ≤ lim) := Lib.hid (by unfold Hits; rw [hxp, hxk, hxt])
      have HXK := Lib.hid hxk
      rw [hxp] at q0
      rw [hxk] at q1
      rw [hxt] at q2 ok3 ok4
      have lb := hls.lt b (by simp [Value.ownBlock])
      have lgr := hbl.lt
      have HLS := Lib.hid hls
      have HBL := Lib.hid hbl
      clear hget hxp hxk hxt ok1 ok2 hls hbl
      by_cases hh : xk = k ∧ xp = p ∧ xt ≤ t ∧ t - xt ≤ lim
      case neg =>
        have HN2 : Hid (∀ a ∈ L.take (i + 1), ¬ Hits a p k t lim) := Lib.hid (by
          intro a ha
          rw [List.take_succ_eq_append_getElem hlt] at ha
          rcases List.mem_append.1 ha with h1 | h1
          · exact HN.out a h1
          · rw [List.mem_singleton.1 h1]; exact fun h => hh (HIT.out.1 h))
        clear HN
        by_cases h1 : xk = k
        case neg =>
          have h1' : (xk == k) = false := by simpa using h1
          clear h1 hh
          go_wp2
          go_roundw
          case rel => exact ⟨i + 1, by go_num, by omega, HN2, (by refine Since.out ?_; repeat (first | with_reducible assumption | with_reducible exact Since.refl _ | with_reducible refine Since.later ?_ (by with_reducible assumption) | with_reducible refine Since.only ?_ (by with_reducible assumption) (by first | assumption | omega | (simp; done) | (simp; omega)) | with_reducible refine Since.alloc ?_ _ | with_reducible refine Since.drewN ?_ _ | with_reducible refine Since.drew ?_ | with_reducible refine Since.set ?_ (by first | assumption | omega | (simp; done) | (simp; omega)) _))⟩
          case measure => simp [intOf]; omega
        have h1' : (xk == k) = true := by simpa using h1
        by_cases h2 : xp = p
        case neg =>
          have h2' : (xp == p) = false := by simpa using h2
          clear h1 h2 hh
          go_wp2
          go_roundw
          case rel => exact ⟨i + 1, by go_num, by omega, HN2, (by refine Since.out ?_; repeat (first | with_reducible assumption | with_reducible exact Since.refl _ | with_reducible refine Since.later ?_ (by with_reducible assumption) | with_reducible refine Since.only ?_ (by with_reducible assumption) (by first | assumption | omega | (simp; done) | (simp; omega)) | with_reducible refine Since.alloc ?_ _ | with_reducible refine Since.drewN ?_ _ | with_reducible refine Since.drew ?_ | with_reducible refine Since.set ?_ (by first | assumption | omega | (simp; done) | (simp; omega)) _))⟩
          case measure => simp [intOf]; omega
        have h2' : (xp == p) = true := by simpa using h2
        by_cases h3 : xt ≤ t
        case neg =>
          have h3' : decide (xt ≤ t) = false := by simpa using h3
          clear h1 h2 hh
          go_wp2
          go_roundw
          case rel => exact ⟨i + 1, by go_num, by omega, HN2, (by refine Since.out ?_; repeat (first | with_reducible assumption | with_reducible exact Since.refl _ | with_reducible refine Since.later ?_ (by with_reducible assumption) | with_reducible refine Since.only ?_ (by with_reducible assumption) (by first | assumption | omega | (simp; done) | (simp; omega)) | with_reducible refine Since.alloc ?_ _ | with_reducible refine Since.drewN ?_ _ | with_reducible refine Since.drew ?_ | with_reducible refine Since.set ?_ (by first | assumption | omega | (simp; done) | (simp; omega)) _))⟩
          case measure => simp [intOf]; omega
        have h4 : decide (t - xt ≤ lim) = false := by simp; exact Int.lt_of_not_ge (fun h => hh ⟨h1, h2, h3, h⟩)
        clear h1 h2 hh
        go_wp2
        go_roundw
        case rel => exact ⟨i + 1, by go_num, by omega, HN2, (by refine Since.out ?_; repeat (first | with_reducible assumption | with_reducible exact Since.refl _ | with_reducible refine Since.later ?_ (by with_reducible assumption) | with_reducible refine Since.only ?_ (by with_reducible assumption) (by first | assumption | omega | (simp; done) | (simp; omega)) | with_reducible refine Since.alloc ?_ _ | with_reducible refine Since.drewN ?_ _ | with_reducible refine Since.drew ?_ | with_reducible refine Since.set ?_ (by first | assumption | omega | (simp; done) | (simp; omega)) _))⟩
        case measure => simp [intOf]; omega
      obtain ⟨h1, h2, h3, h4⟩ := hh
      have EB : Hid (ansB L p k t lim = true) := Lib.hid (ansB_hit H.out.inv E.out (List.getElem_mem hlt) (HIT.out.2 ⟨h1, h2, h3, h4⟩))
      have EL : Hid (ansL L p k t lim = L.take i ++ L.drop (i + 1)) := Lib.hid (by unfold ansL; rw [EB.out, if_pos rfl, ← h1, ← HXK.out]; exact cut_at H.out.inv hlt)
      have HI : Hid (AInv (L.take i ++ L.drop (i + 1))) := Lib.hid (by have := H.out.inv.ans p k t lim; rw [EL.out] at this; exact this)
      have h1' : (xk == k) = true := by simpa using h1
      have h2' : (xp == p) = true := by simpa using h2
      clear h1 h2
      repeat ((fail_if_success (with_reducible refine stop_at 11 ?_)); first | (at_builtin; refine wpList_cat rfl _ _ 43 rfl 124 3 24 Tryd.elAsked (.slice none 0 0) [] rfl (Lst.nil _ _ _) ⟨b, 0, none⟩ i _ ((L.map arow).take i) rfl (by simp; omega) (fun e he => HLS.out.rows e (List.mem_of_mem_take he)) (fun j u hu => (HLS.out.alloc _).news_take rfl i j u hu) (by simp; omega) ?_; intro A1 cap1 w1 hl1 ho1 hk1) | go_values | go_skip | go_guarded | go_step | go_upon | go_back | go_simp)
      simp only [List.length_nil, Nat.zero_add, List.nil_append] at hl1 hk1
      have hB1 := ho1.block' (HBL.out.alloc _) (by simp [Value.ownBlock])
      have hsrc := (HLS.out.alloc _).kept ho1 (by simp [Value.ownBlock])
      have hgn : g ∉ blocks (.slice A1 i cap1) := by
        intro hm
        rcases hk1 g hm with h1 | h1
        · simp [Value.ownBlock] at h1
        · simp at h1; omega
      have hbn : ∀ x, x ∈ blocks (.slice A1 i cap1) → wr.heap.size ≤ x := by
        intro x hm
        rcases hk1 x hm with h1 | h1
        · simp [Value.ownBlock] at h1
        · rw [h1]; simp
      have hw1 : Out wr w1 [] := ((Out.refl wr _).alloc _).then' ho1 (by simp [Value.ownBlock])
      have e1 : w1.cell? ⟨g, 0, none⟩ = some (.slice (some ⟨b, 0, none⟩) L.length cap) := hB1.cell 0
      have lg1 := hB1.lt
      have HB1 := Lib.hid hB1
      have HSRC := Lib.hid hsrc
      have HL1 := Lib.hid hl1
      have HK1 := Lib.hid hk1
      clear hB1 hsrc hl1 hk1 q0 q1 q2 cg h1' h2' h3 h4
      have hx : (i : Int) + 1 ≤ (L.length : Int) := by omega
      have hy : (i : Int) + 1 ≤ (cap : Int) := by omega
      by_cases hci : cap = i + 1
      · subst hci
        trace "P"; go_wp2_with (at_builtin; refine wpList_cat rfl _ _ 43 rfl 124 3 24 Tryd.elAsked (.slice A1 i cap1) ((L.map arow).take i) rfl HL1.out _ _ _ [] (by rfl) (by simp <;> omega) (by simp) (by simp) (by simp; omega) ?_; intro A2 cap2 w2 hl2 ho2 hk2; have e2 : w2.cell? ⟨g, 0, none⟩ = some _ := (ho2.block' HB1.out hgn).cell 0; have f2 : w2.frozen? ⟨g, 0, none⟩ = false := (ho2.block' HB1.out hgn).free 0)
        go_ret2
        refine ⟨by rw [E.out, EB.out]; rfl, ?_⟩
        have hB2 := ho2.block' HB1.out hgn
        have hn2 : ∀ x n c, x ∈ blocks (.slice A2 n c) → wr.heap.size ≤ x := by
          intro x n c hm
          rcases hk2 x (blocks_any A2 n c _ _ ▸ hm) with h1 | h1
          · exact hbn x h1
          · rw [h1]; exact hw1.le
        have hg2 : ∀ n c, g ∉ blocks (.slice A2 n c) := fun n c hm => by have := hn2 g n c hm; omega
        have hoo : Out wr w2 [] := hw1.then' ho2 (fun x hm => Or.inr (hbn x hm))
        have hoo2 : Out w w2 (g :: blocks (.slice (some ⟨b, 0, none⟩) L.length (i + 1))) := (Out.of_below hs _).then' hoo (by simp)
        rw [EL.out]
        refine ⟨_, ⟨hB2.put 0 _, ?_, HI.out⟩, hoo2.put (Or.inl (by simp)) _, fun x hx => Or.inr (Nat.le_trans hs.le (hn2 x _ _ hx))⟩
        exact (hl2.kept (S := [g]) ((Out.refl w2 [g]).put (p := ⟨g, 0, none⟩) (Or.inl (by simp)) _) (fun x hx hg => hg2 _ _ (by rw [List.mem_singleton.1 hg] at hx; exact hx))).as (by simp <;> omega) (by simp; omega)
      · trace "Q"; go_wp2_with (at_builtin; refine wpList_cat rfl _ _ 43 rfl 124 3 24 Tryd.elAsked (.slice A1 i cap1) ((L.map arow).take i) rfl HL1.out ⟨b, (i + 1) * 3, none⟩ (L.length - (i + 1)) _ ((L.map arow).drop (i + 1)) rfl (by simp) (fun e he => HSRC.out.rows e (List.mem_of_mem_drop he)) (HSRC.out.news rfl (i + 1)) (by simp; omega) ?_; intro A2 cap2 w2 hl2 ho2 hk2; have e2 : w2.cell? ⟨g, 0, none⟩ = some _ := (ho2.block' HB1.out hgn).cell 0; have f2 : w2.frozen? ⟨g, 0, none⟩ = false := (ho2.block' HB1.out hgn).free 0)
        go_ret2
        refine ⟨by rw [E.out, EB.out]; rfl, ?_⟩
        have hB2 := ho2.block' HB1.out hgn
        have hn2 : ∀ x n c, x ∈ blocks (.slice A2 n c) → wr.heap.size ≤ x := by
          intro x n c hm
          rcases hk2 x (blocks_any A2 n c _ _ ▸ hm) with h1 | h1
          · exact hbn x h1
          · rw [h1]; exact hw1.le
        have hg2 : ∀ n c, g ∉ blocks (.slice A2 n c) := fun n c hm => by have := hn2 g n c hm; omega
        have hoo : Out wr w2 [] := hw1.then' ho2 (fun x hm => Or.inr (hbn x hm))
        have hoo2 : Out w w2 (g :: blocks (.slice (some ⟨b, 0, none⟩) L.length cap)) := (Out.of_below hs _).then' hoo (by simp)
        rw [EL.out]
        refine ⟨_, ⟨hB2.put 0 _, ?_, HI.out⟩, hoo2.put (Or.inl (by simp)) _, fun x hx => Or.inr (Nat.le_trans hs.le (hn2 x _ _ hx))⟩
        exact (hl2.kept (S := [g]) ((Out.refl w2 [g]).put (p := ⟨g, 0, none⟩) (Or.inl (by simp)) _) (fun x hx hg => hg2 _ _ (by rw [List.mem_singleton.1 hg] at hx; exact hx))).as (by simp <;> omega) (by simp)
    · obtain rfl : i = L.length := by omega
      have EB : Hid (ansB L p k t lim = false) := Lib.hid (ansB_miss (fun a ha => HN.out a (by rw [List.take_length]; exact ha)))
      have EL : Hid (ansL L p k t lim = L) := Lib.hid (by unfold ansL; rw [EB.out, if_neg (by decide)])
      go_wp2
      go_ret2
      exact ⟨by rw [E.out, EB.out]; rfl, by rw [EL.out]; exact ⟨_, H.out.later hs, Out.of_below hs _, fun k hk => Or.inl hk⟩⟩
end Go.Proofs.YthnolkbolmbkdaaDoor
