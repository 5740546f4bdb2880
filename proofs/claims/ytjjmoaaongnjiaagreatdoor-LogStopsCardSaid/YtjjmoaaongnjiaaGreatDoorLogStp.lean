/- When a log stops, in plain words: at the step that was told; then all is refused till it crashes; then all goes on. No program here. -/
import Derived.Test.YtjjmoaaongnjiaaGreatDoorLogLaw
import Derived.Test.YtjjmoaaongnjiaaGreatDoorBoth
namespace Go.Proofs.YtjjmoaaongnjiaaGreatDoor
open Go.ChangeShapes Go.WideShapes Go.ChangeAt Go.RowKit
set_option linter.unusedVariables false

/-- the number behind the greatest makes no new range -/
theorem addL_behind {r : Rng} {L : List Rng} {n : Int} (h : rngE (r :: L) = 0) (hn : n = r.hi + 1) (hm : MayBe n) : addE (r :: L) n = 0 ∧ addL (r :: L) n = ⟨r.lo, n⟩ :: L := by
  have hc := rngE_canon h
  have hw := withL_ok (x := ⟨n, n⟩) hc (Int.le_refl n)
  have hc2 : Canon (⟨r.lo, n⟩ :: L) := by
    refine ⟨fun o ho => ?_, ?_⟩
    · rcases List.mem_cons.1 ho with rfl | ho
      · have := hc.ok r (List.mem_cons_self ..)
        show r.lo ≤ n; omega
      · exact hc.ok o (List.mem_cons_of_mem _ ho)
    · have hg := hc.apart
      rw [List.pairwise_cons] at hg ⊢
      exact hg
  have e : withL (r :: L) ⟨n, n⟩ = ⟨r.lo, n⟩ :: L := by
    refine canon_eq hw.1 hc2 (fun y => ?_)
    rw [hw.2, inB_cons, inB_cons]
    have hr := hc.ok r (List.mem_cons_self ..)
    have : (rin r y || rin ⟨n, n⟩ y) = rin ⟨r.lo, n⟩ y := by
      unfold rin
      rw [Bool.eq_iff_iff]
      simp only [Bool.or_eq_true, Bool.and_eq_true, decide_eq_true_iff]
      omega
    rw [← this]
    cases rin r y <;> cases inB L y <;> cases rin ⟨n, n⟩ y <;> rfl
  have hl := rngE_len h
  have e0 : addE (r :: L) n = 0 := by
    unfold addE
    rw [if_pos h, if_pos (mayB_iff.2 hm), e, if_neg (by simp at hl ⊢; omega)]
  exact ⟨e0, by unfold addL; rw [if_pos e0, e]⟩
theorem addE_few {L : List Rng} {n : Int} (h : rngE L = 0) (hm : MayBe n) (hl : L.length ≤ 11) : addE L n = 0 := by
  unfold addE
  have := withL_len L ⟨n, n⟩
  rw [if_pos h, if_pos (mayB_iff.2 hm), if_neg (by omega)]
def firsts (i : Nat) : List Int := (List.range i).map fun k : Nat => (k : Int)
theorem firsts_succ (i : Nat) : firsts (i + 1) = firsts i ++ [(i : Int)] := by unfold firsts; rw [List.range_succ, List.map_append]; rfl
theorem firsts_len (i : Nat) : (firsts i).length = i := by unfold firsts; rw [List.length_map, List.length_range]
theorem firsts_mem {i : Nat} {x : Int} (h : x ∈ firsts i) : 0 ≤ x ∧ x < i := by
  unfold firsts at h
  obtain ⟨k, hk, rfl⟩ := List.mem_map.1 h
  have := List.mem_range.1 hk
  omega
theorem firsts_take (m j : Nat) : ∃ i, i ≤ m ∧ (firsts m).take j = firsts i := by
  refine ⟨min j m, Nat.min_le_right _ _, ?_⟩
  unfold firsts
  rw [← List.map_take, List.take_range]
theorem firsts_adds : ∀ i, i ≤ 1000 → Fits (firsts i) ∧ adds (firsts i) = (if i = 0 then [] else [⟨0, (i : Int) - 1⟩]) ∧ addB (adds (firsts i)) i = true
  | 0, _ => ⟨by intro k hk; simp [firsts] at hk, rfl, by decide⟩
  | i + 1, h => by
    obtain ⟨h1, h2, h3⟩ := firsts_adds i (by omega)
    have hf : Fits (firsts (i + 1)) := by rw [firsts_succ]; exact h1.snoc h3
    have ha : adds (firsts (i + 1)) = [⟨0, ((i + 1 : Nat) : Int) - 1⟩] := by
      rw [firsts_succ, adds_snoc]
      by_cases h0 : i = 0
      · subst h0; decide
      · have hr := h1.rng _ (Nat.le_refl _)
        rw [List.take_length] at hr
        rw [h2, if_neg h0] at hr ⊢
        rw [(addL_behind hr (n := (i : Int)) (by show (i : Int) = (i : Int) - 1 + 1; omega) ⟨by omega, by omega⟩).2]
        congr 2
        omega
    refine ⟨hf, by rw [ha, if_neg (by omega)], ?_⟩
    have hr := hf.rng _ (Nat.le_refl _)
    rw [List.take_length] at hr
    have he := addE_few hr (n := ((i + 1 : Nat) : Int)) ⟨by omega, by omega⟩ (by rw [ha]; simp)
    have hin : inB (adds (firsts (i + 1))) ((i + 1 : Nat) : Int) = false := by
      cases hb : inB (adds (firsts (i + 1))) ((i + 1 : Nat) : Int) with
      | false => rfl
      | true => have := firsts_mem ((hf.mem _).1 hb); omega
    unfold addB
    rw [he, hin]
    rfl
/-- behind so many steps -/
structure Sq (after i : Nat) (s : LgS) : Prop where
  ok : ∃ m t, m ≤ 20 ∧ LgOk s (firsts m) t ∧ (i ≤ after → m ≤ i)
  now : (i ≤ after ∧ s.st = false ∧ s.left = (after : Int) - i) ∨ (after < i ∧ s.st = true)
/-- while numbers come -/
structure Sp (after i : Nat) (s : LgS) : Prop where
  ok : ∃ t, LgOk s (firsts (min after i)) t
  now : (i ≤ after ∧ s.st = false ∧ s.left = (after : Int) - i) ∨ (after < i ∧ s.st = true)
theorem Sp.start (after : Nat) : Sp after 0 (lg0.fail after) := by
  refine ⟨⟨[], ?_⟩, Or.inl ⟨Nat.zero_le _, rfl, ?_⟩⟩
  · rw [Nat.min_zero]; exact LgOk.new.fail after
  · show max (-1) (after : Int) = _
    omega
theorem Sp.sq {after i : Nat} {s : LgS} (h : Sp after i s) (ha : after ≤ 20) : Sq after i s := by
  obtain ⟨t, ht⟩ := h.ok
  exact ⟨⟨min after i, t, by omega, ht, fun _ => Nat.min_le_right _ _⟩, h.now⟩
theorem Sp.next {after i : Nat} {s : LgS} (h : Sp after i s) (hi : i ≤ 100) (ha : after ≤ 100) :
    lgN s (-1) = s ∧ lgE s (-1) = (if after < i then 6 else 1) ∧ lgE s (i : Int) = (if after ≤ i then 6 else 0) ∧ Sp after (i + 1) (lgN s (i : Int)) := by
  obtain ⟨t, ht⟩ := h.ok
  rcases h.now with ⟨h1, h2, h3⟩ | ⟨h1, h2⟩
  · rw [Nat.min_eq_right h1] at ht
    have hno : addE (adds (firsts i)) (-1) = 1 := by
      have hr := ht.fit.rng _ (Nat.le_refl _)
      rw [List.take_length] at hr
      unfold addE
      rw [if_pos hr, if_neg (by decide)]
    have hnb : addB (adds (firsts i)) (-1) = false := by unfold addB; rw [hno]; rfl
    have hyb := (firsts_adds i (by omega)).2.2
    have hye := (addB_ok hyb).1
    have hN1 : lgN s (-1) = s := by unfold lgN; rw [h2, ht.all, hnb]; rfl
    have hE1 : lgE s (-1) = 1 := by unfold lgE; rw [h2, ht.all, hno]; rfl
    refine ⟨hN1, by rw [if_neg (by omega)]; exact hE1, ?_, ?_⟩
    · unfold lgE
      rw [h2, ht.all, hye, hyb, if_neg (by decide), if_pos rfl]
      by_cases h4 : after ≤ i
      · rw [if_pos ⟨rfl, by omega⟩, if_pos h4]
      · rw [if_neg (by rintro ⟨_, h5⟩; omega), if_neg h4]
    · rcases ht.came (by rw [firsts_len]; omega) (i : Int) with ⟨b1, b2, b3, b4, b5, b6, b7⟩ | ⟨b1, t', b3, b4⟩
      · have hlt : i < after := by omega
        refine ⟨⟨[], by rw [Nat.min_eq_right (by omega), firsts_succ]; exact b3⟩, Or.inl ⟨by omega, b4, ?_⟩⟩
        unfold lgN
        rw [h2, ht.all, hyb, if_neg (by decide), if_pos rfl, if_neg b7]
        show max (-1) (s.left - 1) = _
        omega
      · have h0 : s.left = 0 := by
          rcases b4 with h5 | ⟨_, _, _, h5⟩
          · unfold lgE at h5
            rw [h2, ht.all, hye, hyb, if_neg (by decide), if_pos rfl] at h5
            by_cases h6 : s.left = 0
            · exact h6
            · rw [if_neg (by rintro ⟨_, h7⟩; exact h6 h7)] at h5; cases h5
          · rw [hyb] at h5; cases h5
        have hia : i = after := by omega
        subst hia
        refine ⟨⟨t', by rw [Nat.min_eq_left (by omega)]; exact b3⟩, Or.inr ⟨by omega, ?_⟩⟩
        unfold lgN
        rw [h2, ht.all, hyb, if_neg (by decide), if_pos rfl, if_pos h0]
        show decide (s.left = 0) = true
        exact decide_eq_true h0
  · have hN : ∀ n, lgN s n = s := fun n => by unfold lgN; rw [if_pos h2]
    have hE : ∀ n, lgE s n = 6 := fun n => by unfold lgE; rw [if_pos h2]
    refine ⟨hN _, by rw [if_pos h1]; exact hE _, by rw [if_pos (by omega)]; exact hE _, ?_⟩
    rw [hN]
    exact ⟨⟨t, by rw [Nat.min_eq_left (by omega)] at ht ⊢; exact ht⟩, Or.inr ⟨by omega, h2⟩⟩
theorem Sq.sync {after i : Nat} {s : LgS} (h : Sq after i s) (hi : i ≤ after) : s.syncE = (if i = after then 6 else 0) ∧ Sq after (i + 1) s.sync := by
  obtain ⟨m, t, h1, h2, h3⟩ := h.ok
  rcases h.now with ⟨n1, n2, n3⟩ | ⟨n1, n2⟩
  · by_cases h0 : i = after
    · have hl : s.left = 0 := by omega
      refine ⟨by unfold LgS.syncE; rw [if_pos (Or.inr hl), if_pos h0], ⟨m, t, h1, h2.sync, fun h => by omega⟩, Or.inr ⟨by omega, ?_⟩⟩
      unfold LgS.sync
      rw [n2, if_neg (by decide), if_pos hl]
      show decide (s.left = 0) = true
      exact decide_eq_true hl
    · have hl : s.left ≠ 0 := by omega
      refine ⟨by unfold LgS.syncE; rw [if_neg (by rw [n2]; simp [hl]), if_neg h0], ⟨m, t, h1, h2.sync, fun h => by have := h3 n1; omega⟩, Or.inl ⟨by omega, ?_, ?_⟩⟩
      · unfold LgS.sync
        rw [n2, if_neg (by decide), if_neg hl]
        show decide (s.left = 0) = false
        exact decide_eq_false hl
      · unfold LgS.sync
        rw [n2, if_neg (by decide), if_neg hl]
        show max (-1) (s.left - 1) = _
        omega
  · omega
/-- when it has stopped -/
theorem Sq.end_ {after i : Nat} {s : LgS} (h : Sq after i s) (hi : after < i) : s.syncE = 6 ∧ s.sync = s ∧ lgE s 3 = 6 ∧ lgN s 3 = s := by
  rcases h.now with ⟨n1, _⟩ | ⟨_, n2⟩
  · omega
  · exact ⟨by unfold LgS.syncE; rw [if_pos (Or.inl n2)], by unfold LgS.sync; rw [if_pos n2], by unfold lgE; rw [if_pos n2], by unfold lgN; rw [if_pos n2]⟩
/-- behind the crash all goes on -/
theorem again_ {ns : List Int} {i : Nat} (hi : i ≤ 20) (e : ns = firsts i) : lgB (LgS.left_ ns) 500 = true ∧ lgE (LgS.left_ ns) 500 = 0 ∧ (lgN (LgS.left_ ns) 500).syncE = 0 ∧
    hasE (lgN (LgS.left_ ns) 500).sync.all 500 = 0 ∧ inB (lgN (LgS.left_ ns) 500).sync.all 500 = true ∧ (lgN (LgS.left_ ns) 500).sync.safe = (lgN (LgS.left_ ns) 500).sync.by_.size ∧ (∀ r ∈ (lgN (LgS.left_ ns) 500).sync.all, okI r.lo ∧ okI r.hi) := by
  subst e
  obtain ⟨h1, h2, h3⟩ := firsts_adds i (by omega)
  have hr := h1.rng _ (Nat.le_refl _)
  rw [List.take_length] at hr
  have he := addE_few hr (n := 500) ⟨by omega, by omega⟩ (by rw [h2]; split <;> simp)
  have hin : inB (adds (firsts i)) 500 = false := by
    cases hb : inB (adds (firsts i)) 500 with
    | false => rfl
    | true => have := firsts_mem ((h1.mem _).1 hb); omega
  have hb : addB (adds (firsts i)) 500 = true := by unfold addB; rw [he, hin]; rfl
  obtain ⟨a1, a2, a3, a4, a5⟩ := addB_ok hb
  have hN : lgN (LgS.left_ (firsts i)) 500 = { (LgS.left_ (firsts i)).step with by_ := (LgS.left_ (firsts i)).by_ ++ rec_ 500, all := addL (adds (firsts i)) 500 } := by
    show (if false = true then _ else if addB (adds (firsts i)) 500 = true then (if (-1 : Int) = 0 then _ else _) else _) = _
    rw [if_neg (by decide), if_pos hb, if_neg (by decide)]
    rfl
  have hS : (lgN (LgS.left_ (firsts i)) 500).sync = { (lgN (LgS.left_ (firsts i)) 500).step with safe := ((lgN (LgS.left_ (firsts i)) 500).by_.size : Int) } := by
    rw [hN]
    show (if (decide ((-1 : Int) = 0)) = true then _ else if max (-1) ((-1 : Int) - 1) = 0 then _ else _) = _
    rw [if_neg (by decide), if_neg (by decide)]
  refine ⟨?_, ?_, ?_, ?_, ?_, ?_, ?_⟩
  · show (!false && addB (adds (firsts i)) 500 && decide ((-1 : Int) ≠ 0)) = true
    rw [hb]; rfl
  · show (if false = true then (6 : Int) else if addE (adds (firsts i)) 500 = 0 then (if addB (adds (firsts i)) 500 = true ∧ (-1 : Int) = 0 then 6 else 0) else addE (adds (firsts i)) 500) = 0
    rw [he, hb]; rfl
  · rw [hN]
    show (if (decide ((-1 : Int) = 0)) = true ∨ max (-1) ((-1 : Int) - 1) = 0 then (6 : Int) else 0) = 0
    rw [if_neg (by decide)]
  · rw [hS, hN]
    show hasE (addL (adds (firsts i)) 500) 500 = 0
    unfold hasE
    rw [if_pos (by decide)]; exact a4
  · rw [hS, hN]
    show inB (addL (adds (firsts i)) 500) 500 = true
    rw [a5, (withL_ok (rngE_canon hr) (x := ⟨500, 500⟩) (Int.le_refl _)).2]
    simp [rin]
  · rw [hS]; rfl
  · rw [hS, hN]
    show ∀ r ∈ addL (adds (firsts i)) 500, _
    intro r hr2
    obtain ⟨⟨p1, p2⟩, p3, p4⟩ := rngE_ok a4 r hr2
    unfold okI
    omega
end Go.Proofs.YtjjmoaaongnjiaaGreatDoor
