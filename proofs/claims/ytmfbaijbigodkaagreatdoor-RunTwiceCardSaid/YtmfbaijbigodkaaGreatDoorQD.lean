/- Contracts and plain laws that the claim leans on, part 4 of 8: each part has its own word. No condition beside theirs. -/
import Derived.Test.YtmfbaijbigodkaaGreatDoorBase
import Derived.Test.YtmfbaijbigodkaaGreatDoorOnly
import Derived.Test.YtmfbaijbigodkaaGreatDoorMay
import Derived.Test.YtmfbaijbigodkaaGreatDoorCredit
import Derived.Test.YtmfbaijbigodkaaGreatDoorQC
import Derived.Deep.QuietTactic
import Derived.BigQuiet
import Derived.BigRegion
import Derived.Laws.BytesString
import Derived.Deep.RegionLaw
import Derived.Deep.DeepCutAuto
import Derived.Deep.MidRow
import Derived.Shelf.Spec.SlicesGrow
import Derived.Deep.Upon
/-! Plain law: ranges that stand in order and apart are told by the numbers in them; joining gives such. No condition. -/
namespace Go.Proofs.YtmfbaijbigodkaaGreatDoor
set_option linter.unusedVariables false

/-- in order, and apart -/
structure Canon (L : List Rng) : Prop where
  ok : ∀ r ∈ L, r.lo ≤ r.hi
  apart : L.Pairwise (fun a b => b.hi + 1 < a.lo)
/-- the same, the last first -/
structure CanonR (L : List Rng) : Prop where
  ok : ∀ r ∈ L, r.lo ≤ r.hi
  apart : L.Pairwise (fun a b => a.hi + 1 < b.lo)
def jr (acc : List Rng) (r : Rng) : List Rng :=
  match acc with
  | [] => [r]
  | l :: t => if l.lo ≤ r.hi + 1 then ⟨min l.lo r.lo, l.hi⟩ :: t else r :: l :: t
theorem jstep_jr (acc : List Rng) (r : Rng) : jstep acc.reverse r = (jr acc r).reverse := by
  cases acc with
  | nil => rfl
  | cons l t =>
    have hr : rat (l :: t).reverse ((l :: t).reverse.length - 1) = l := by
      rw [rat_get (by simp)]
      simp
    unfold jstep jinto
    rw [hr]
    simp only [jr]
    by_cases h : l.lo ≤ r.hi + 1
    · rw [if_pos h, if_pos (by simp [h])]
      simp
    · rw [if_neg h, if_neg (by simp [h])]
      simp
theorem joinL_jr (L : List Rng) : ∀ acc, L.foldl jstep acc.reverse = (L.foldl jr acc).reverse := by
  induction L with
  | nil => intro acc; rfl
  | cons r t ih => intro acc; rw [List.foldl_cons, List.foldl_cons, jstep_jr, ih]
theorem inB_cons (r : Rng) (L : List Rng) (x : Int) : inB (r :: L) x = (rin r x || inB L x) := rfl
theorem inB_append (L M : List Rng) (x : Int) : inB (L ++ M) x = (inB L x || inB M x) := List.any_append
theorem inB_reverse (L : List Rng) (x : Int) : inB L.reverse x = inB L x := List.any_reverse
theorem inB_perm {L M : List Rng} (h : L.Perm M) (x : Int) : inB L x = inB M x := h.any_eq
theorem jr_in {acc : List Rng} {r : Rng} (hr : r.lo ≤ r.hi) (ha : ∀ l ∈ acc, l.lo ≤ l.hi ∧ r.hi ≤ l.hi) (x : Int) : inB (jr acc r) x = (inB acc x || rin r x) := by
  cases acc with
  | nil => simp [jr, inB]
  | cons l t =>
    obtain ⟨h1, h2⟩ := ha l (by simp)
    simp only [jr]
    by_cases h : l.lo ≤ r.hi + 1
    · rw [if_pos h, inB_cons, inB_cons]
      have : rin ⟨min l.lo r.lo, l.hi⟩ x = (rin l x || rin r x) := by
        unfold rin
        rw [Bool.eq_iff_iff]
        simp
        omega
      rw [this]
      cases rin l x <;> cases rin r x <;> cases inB t x <;> rfl
    · rw [if_neg h, inB_cons, inB_cons]
      cases rin l x <;> cases rin r x <;> cases inB t x <;> rfl
theorem jr_canon {acc : List Rng} {r : Rng} (hr : r.lo ≤ r.hi) (ha : CanonR acc) : CanonR (jr acc r) := by
  cases acc with
  | nil => exact ⟨by simpa [jr] using hr, by simp [jr]⟩
  | cons l t =>
    have h1 := ha.ok l (by simp)
    have h2 := List.pairwise_cons.1 ha.apart
    simp only [jr]
    by_cases h : l.lo ≤ r.hi + 1
    · rw [if_pos h]
      refine ⟨fun a hm => ?_, List.pairwise_cons.2 ⟨fun b hb => h2.1 b hb, h2.2⟩⟩
      rcases List.mem_cons.1 hm with rfl | hm
      · show min l.lo r.lo ≤ l.hi; omega
      · exact ha.ok a (by simp [hm])
    · rw [if_neg h]
      refine ⟨fun a hm => ?_, List.pairwise_cons.2 ⟨fun b hb => ?_, ha.apart⟩⟩
      · rcases List.mem_cons.1 hm with rfl | hm
        · exact hr
        · exact ha.ok a hm
      · rcases List.mem_cons.1 hb with rfl | hb
        · omega
        · have := h2.1 b hb; omega
theorem jr_top {acc : List Rng} {r : Rng} {m : Int} (hr : m ≤ r.hi) (ha : ∀ l ∈ acc, m ≤ l.hi) : ∀ l ∈ jr acc r, m ≤ l.hi := by
  cases acc with
  | nil => intro l hl; simp [jr] at hl; rw [hl]; exact hr
  | cons a t =>
    intro l hl
    simp only [jr] at hl
    split at hl
    · rcases List.mem_cons.1 hl with rfl | hl
      · exact ha a (by simp)
      · exact ha l (by simp [hl])
    · rcases List.mem_cons.1 hl with rfl | hl
      · exact hr
      · exact ha l hl
theorem fold_jr (L : List Rng) : ∀ acc, (∀ r ∈ L, r.lo ≤ r.hi) → L.Pairwise (fun a b => b.hi ≤ a.hi) → CanonR acc → (∀ r ∈ L, ∀ l ∈ acc, r.hi ≤ l.hi) → CanonR (L.foldl jr acc) ∧ ∀ x, inB (L.foldl jr acc) x = (inB acc x || inB L x) := by
  induction L with
  | nil => intro acc _ _ h _; exact ⟨h, fun x => by simp [inB]⟩
  | cons r t ih =>
    intro acc hok hs hc hm
    have hr := hok r (by simp)
    have hs2 := List.pairwise_cons.1 hs
    rw [List.foldl_cons]
    obtain ⟨h1, h2⟩ := ih (jr acc r) (fun a ha => hok a (by simp [ha])) hs2.2 (jr_canon hr hc) (fun a ha l hl => jr_top (hs2.1 a ha) (fun l hl => hm a (by simp [ha]) l hl) l hl)
    refine ⟨h1, fun x => ?_⟩
    rw [h2, jr_in hr (fun l hl => ⟨hc.ok l hl, hm r (by simp) l hl⟩), inB_cons, Bool.or_assoc]
/-- joined: in order, apart, the same numbers -/
theorem joinL_canon {L : List Rng} (hok : ∀ r ∈ L, r.lo ≤ r.hi) (hs : L.Pairwise (fun a b => b.hi ≤ a.hi)) : Canon (joinL L) ∧ ∀ x, inB (joinL L) x = inB L x := by
  obtain ⟨h1, h2⟩ := fold_jr L [] hok hs ⟨by simp, by simp⟩ (by simp)
  have he : joinL L = (L.foldl jr []).reverse := joinL_jr L []
  rw [he]
  refine ⟨⟨fun r hr => h1.ok r (by simpa using hr), by rw [List.pairwise_reverse]; exact h1.apart⟩, fun x => ?_⟩
  rw [inB_reverse, h2]
  rfl
theorem inB_iff {L : List Rng} {x : Int} : inB L x = true ↔ ∃ r ∈ L, r.lo ≤ x ∧ x ≤ r.hi := by
  unfold inB rin
  simp
/-- in order and apart, the same numbers: the same ranges -/
theorem canon_eq : ∀ {A B : List Rng}, Canon A → Canon B → (∀ x, inB A x = inB B x) → A = B
  | [], [], _, _, _ => rfl
  | [], b :: s, _, hb, h => by
    have := h b.lo
    have hb1 := hb.ok b (by simp)
    have : inB (b :: s) b.lo = true := inB_iff.2 ⟨b, by simp, by omega, hb1⟩
    rw [← h] at this
    simp [inB] at this
  | a :: t, [], ha, _, h => by
    have ha1 := ha.ok a (by simp)
    have : inB (a :: t) a.lo = true := inB_iff.2 ⟨a, by simp, by omega, ha1⟩
    rw [h] at this
    simp [inB] at this
  | a :: t, b :: s, ha, hb, h => by
    have ha1 := ha.ok a (by simp)
    have hb1 := hb.ok b (by simp)
    have ha2 := List.pairwise_cons.1 ha.apart
    have hb2 := List.pairwise_cons.1 hb.apart
    have top : ∀ {c : Rng} {u : List Rng}, Canon (c :: u) → ∀ x, inB (c :: u) x = true → x ≤ c.hi := fun {c u} hc x hx => by
      obtain ⟨r, hr, h1, h2⟩ := inB_iff.1 hx
      rcases List.mem_cons.1 hr with rfl | hr
      · exact h2
      · have := (List.pairwise_cons.1 hc.apart).1 r hr
        have := hc.ok c (by simp)
        omega
    have low : ∀ {c : Rng} {u : List Rng}, Canon (c :: u) → inB (c :: u) (c.lo - 1) = false := fun {c u} hc => by
      cases hx : inB (c :: u) (c.lo - 1) with
      | false => rfl
      | true =>
        obtain ⟨r, hr, h1, h2⟩ := inB_iff.1 hx
        rcases List.mem_cons.1 hr with rfl | hr
        · omega
        · have := (List.pairwise_cons.1 hc.apart).1 r hr
          omega
    have hh : a.hi = b.hi := by
      have h1 := top hb a.hi (by rw [← h]; exact inB_iff.2 ⟨a, by simp, ha1, by omega⟩)
      have h2 := top ha b.hi (by rw [h]; exact inB_iff.2 ⟨b, by simp, hb1, by omega⟩)
      omega
    have hl : a.lo = b.lo := by
      have h1 := low ha
      have h2 := low hb
      rcases Int.lt_trichotomy a.lo b.lo with hlt | he | hlt
      · rw [← h] at h2
        have : inB (a :: t) (b.lo - 1) = true := inB_iff.2 ⟨a, by simp, by omega, by omega⟩
        rw [this] at h2; cases h2
      · exact he
      · rw [h] at h1
        have : inB (b :: s) (a.lo - 1) = true := inB_iff.2 ⟨b, by simp, by omega, by omega⟩
        rw [this] at h1; cases h1
    have hab : a = b := by cases a; cases b; simp_all
    subst hab
    have ht := canon_eq (A := t) (B := s) ⟨fun r hr => ha.ok r (by simp [hr]), ha2.2⟩ ⟨fun r hr => hb.ok r (by simp [hr]), hb2.2⟩ (fun x => by
      have := h x
      rw [inB_cons, inB_cons] at this
      cases hx : rin a x with
      | false => rw [hx] at this; simpa using this
      | true =>
        have hx2 : a.lo ≤ x ∧ x ≤ a.hi := by unfold rin at hx; simpa using hx
        have no : ∀ {u : List Rng}, (∀ r ∈ u, r.hi + 1 < a.lo) → inB u x = false := fun {u} hu => by
          cases hy : inB u x with
          | false => rfl
          | true =>
            obtain ⟨r, hr, h1, h2⟩ := inB_iff.1 hy
            have := hu r hr
            omega
        rw [no ha2.1, no hb2.1])
    rw [ht]
end Go.Proofs.YtmfbaijbigodkaaGreatDoor

/-! Contracts of ranges.Add and ranges.Count. Condition: the slice can be read. -/
namespace Go.Proofs.YtmfbaijbigodkaaGreatDoor
open Go.ChangeShapes Go.WideShapes Go.ChangeAt Go.RowKit
set_option linter.unusedVariables false

theorem rfits (A : Option Addr) (n cap : Nat) (w : World) (hm : n ≤ 1000) :
    Calls Tryz.prog 105 #[.slice A n cap] w fun e w' => e = .returned (if 12 < n then .tuple #[.slice none 0 0, errV 4] else .tuple #[.slice A n cap, errV 0]) ∧ w = w' := by
  by_cases h : 12 < n
  · rw [if_pos h]
    have h1 : (12 : Int) < (n : Int) := by omega
    go_enter Tryz.func105, Tryz.ntmps105
    go_wp2
    go_ret2
    exact ⟨rfl, rfl⟩
  · rw [if_neg h]
    have h1 : decide ((12 : Int) < (n : Int)) = false := by simp; omega
    go_enter Tryz.func105, Tryz.ntmps105
    go_wp2
    go_ret2
    exact ⟨rfl, rfl⟩

set_option maxHeartbeats 3200000 in
set_option maxRecDepth 100000 in
/-- a number that cannot be is not added -/
theorem radd_out (A : Option Addr) (n cap : Nat) (L : List Rng) (x : Int) (w : World) (hn : L.length = n) (hb : ∀ r ∈ L, okI r.lo ∧ okI r.hi) (h : Rd w 2 (.slice A n cap) (L.map rngRow)) (hE : rngE L = 0) (hx : mayB x = false) :
    Calls Tryz.prog 58 #[.slice A n cap, .int .i64 x] w fun e w' => e = .returned (.tuple #[.slice none 0 0, .bool false, errV 1]) ∧ Below w.heap.size w w' := by
  have H := Lib.hid h
  have HN := Lib.hid hn
  have HB := Lib.hid hb
  have HE := Lib.hid hE
  have HX := Lib.hid hx
  clear h hn hb hE hx
  go_enter Tryz.func58, Tryz.ntmps58
  go_wp2_with (first | (go_at_call 104; refine (rcheck A n cap L _ HN.out HB.out H.out).mono ?_; rintro e w1 ⟨rfl, hb1⟩; rw [HE.out, errV_zero]) | (go_at_call 93; refine (may_any x _).mono ?_; rintro e w2 ⟨rfl, rfl⟩; rw [HX.out]))
  go_ret3
  exact ⟨rfl, (by refine Since.out ?_; repeat (first | with_reducible assumption | with_reducible exact Since.refl _ | with_reducible refine Since.later ?_ (by with_reducible assumption) | with_reducible refine Since.only ?_ (by with_reducible assumption) (by first | assumption | omega | (simp; done) | (simp; omega)) | with_reducible refine Since.alloc ?_ _ | with_reducible refine Since.drewN ?_ _ | with_reducible refine Since.drew ?_ | with_reducible refine Since.set ?_ (by first | assumption | omega | (simp; done) | (simp; omega)) _))⟩

set_option maxHeartbeats 3200000 in
set_option maxRecDepth 100000 in
/-- a number is added -/
theorem radd_ok (A : Option Addr) (n cap : Nat) (L : List Rng) (x : Int) (w : World) (hn : L.length = n) (hb : ∀ r ∈ L, okI r.lo ∧ okI r.hi) (h : Rd w 2 (.slice A n cap) (L.map rngRow)) (hE : rngE L = 0) (hx : mayB x = true) :
    Calls Tryz.prog 58 #[.slice A n cap, .int .i64 x] w fun e w' => ∃ L' : List Rng, L'.Perm (L ++ [⟨x, x⟩]) ∧ L'.Pairwise (fun a b => b.hi ≤ a.hi) ∧ Below w.heap.size w w' ∧
      ((12 < (joinL L').length ∧ e = .returned (.tuple #[.slice none 0 0, .bool false, errV 4])) ∨
       ((joinL L').length ≤ 12 ∧ ∃ A' cap', e = .returned (.tuple #[.slice A' (joinL L').length cap', .bool (!inB L x), errV 0]) ∧ Lst w' 101 2 (.slice A' (joinL L').length cap') ((joinL L').map rngRow) ∧ ∀ k, k ∈ blocks (.slice A' 0 0) → w.heap.size ≤ k)) := by
  have H := Lib.hid h
  have HN := Lib.hid hn
  have HB := Lib.hid hb
  have HE := Lib.hid hE
  have HX := Lib.hid hx
  have hl12 : n ≤ 12 := by rw [← hn]; exact rngE_len hE
  have HML : Hid ((L.map rngRow).length = n) := Lib.hid (by rw [List.length_map]; exact hn)
  have HOK : Hid (∀ r ∈ L ++ [(⟨x, x⟩ : Rng)], okN r) := Lib.hid (fun r hr => by
    rcases List.mem_append.1 hr with hr | hr
    · exact rngE_ok hE r hr
    · rw [List.mem_singleton.1 hr]; exact ⟨mayB_iff.1 hx, mayB_iff.1 hx⟩)
  clear h hn hb hE hx
  go_enter Tryz.func58, Tryz.ntmps58
  go_wp2_with (first | (go_at_call 104; refine (rcheck A n cap L _ HN.out HB.out H.out).mono ?_; rintro e w1 ⟨rfl, hb1⟩; rw [HE.out, errV_zero]; have HB1 := Lib.hid hb1; clear hb1) | (go_at_call 93; refine (may_any x _).mono ?_; rintro e w2 ⟨rfl, rfl⟩; rw [HX.out]) | (go_at_call 66; refine (rclone A n cap L _ HN.out (by omega) (H.out.later HB1.out)).mono ?_; rintro e w3 ⟨A3, c3, rfl, hl3, hb3, hk3⟩; have HL3 := Lib.hid hl3; have HK3 := Lib.hid hk3; have HS3 := Lib.hid ((show Since w w1 from HB1.out).later hb3); clear hl3 hk3 hb3) | (at_builtin; refine wpList_push rfl _ _ 44 rfl 101 2 16 Tryz.elRange (.slice A3 n c3) (L.map rngRow) rfl (HL3.out.alloc _) w3.heap.size 1 [.int .i64 x, .int .i64 x] rfl rfl (rngRow_one ⟨x, x⟩).2 (BlockIs.fresh _ _ _) (by rw [HML.out]; omega) ?_; intro q4 c4 w4 hl4 ho4 hq4 hlt4; rw [HML.out] at hl4; (try rw [HML.out]); have HL4 : Hid (Lst w4 101 2 (.slice (some ⟨q4, 0, none⟩) (n + 1) c4) ((L ++ [(⟨x, x⟩ : Rng)]).map rngRow)) := Lib.hid (by rw [List.map_append]; exact hl4); have HS4 := Lib.hid ((HS3.out.alloc _).out' ho4 (fun k hk => Nat.le_trans HB1.out.size (HK3.out k (blocks_any A3 _ _ _ _ ▸ hk)))); clear hl4 ho4 hq4 hlt4) | (go_at_call 106; refine (rjoined (some ⟨q4, 0, none⟩) (n + 1) c4 (L ++ [⟨x, x⟩]) w4 (by rw [List.length_append, HN.out]; rfl) (by omega) (by omega) HOK.out (Rd.of_lst HL4.out)).mono ?_; rintro e w5 ⟨L5, A5, c5, hp5, hs5, rfl, hl5, hb5, hk5⟩; have HP5 := Lib.hid hp5; have HQ5 := Lib.hid hs5; have HL5 := Lib.hid hl5; have HK5 := Lib.hid hk5; have HS5 := Lib.hid (HS4.out.later hb5); have hjl := joinL_len L5 L5.length; rw [List.take_length, hp5.length_eq, List.length_append, HN.out] at hjl; have HJ5 := Lib.hid hjl; clear hp5 hs5 hl5 hb5 hk5 hjl))
  refine (rfits A5 (joinL L5).length c5 _ (by have := HJ5.out; simp only [List.length_cons, List.length_nil] at this; omega)).mono ?_
  rintro e w6 ⟨rfl, rfl⟩
  have hs5 := HS5.out
  by_cases hj : 12 < (joinL L5).length
  · rw [if_pos hj, show errV 4 = .iface 84 (.int .i64 4) from rfl]
    have HJ := Lib.hid hj
    clear hj
    go_wp2_with fail
    go_ret3
    exact ⟨L5, HP5.out, HQ5.out, (by refine Since.out ?_; repeat (first | with_reducible assumption | with_reducible exact Since.refl _ | with_reducible refine Since.later ?_ (by with_reducible assumption) | with_reducible refine Since.only ?_ (by with_reducible assumption) (by first | assumption | omega | (simp; done) | (simp; omega)) | with_reducible refine Since.alloc ?_ _ | with_reducible refine Since.drewN ?_ _ | with_reducible refine Since.drew ?_ | with_reducible refine Since.set ?_ (by first | assumption | omega | (simp; done) | (simp; omega)) _)), Or.inl ⟨HJ.out, rfl⟩⟩
  · rw [if_neg hj, errV_zero]
    have HJ := Lib.hid hj
    clear hj
    go_wp2_with (go_at_call 55; refine (rin_any A n cap L x _ HN.out (H.out.later hs5)).mono ?_; rintro e w7 ⟨rfl, hb7⟩)
    go_ret3
    exact ⟨L5, HP5.out, HQ5.out, (by refine Since.out ?_; repeat (first | with_reducible assumption | with_reducible exact Since.refl _ | with_reducible refine Since.later ?_ (by with_reducible assumption) | with_reducible refine Since.only ?_ (by with_reducible assumption) (by first | assumption | omega | (simp; done) | (simp; omega)) | with_reducible refine Since.alloc ?_ _ | with_reducible refine Since.drewN ?_ _ | with_reducible refine Since.drew ?_ | with_reducible refine Since.set ?_ (by first | assumption | omega | (simp; done) | (simp; omega)) _)), Or.inr ⟨by have := HJ.out; omega, A5, c5, rfl, HL5.out.later hb7, fun k hk => Nat.le_trans HS4.out.le (HK5.out k hk)⟩⟩

end Go.Proofs.YtmfbaijbigodkaaGreatDoor

/-! Plain law: what is right for Check stands in order and apart, and the other way; what is joined. No condition. -/
namespace Go.Proofs.YtmfbaijbigodkaaGreatDoor
set_option linter.unusedVariables false

theorem rngE_canon {L : List Rng} (h : rngE L = 0) : Canon L := by
  have hh : ∀ i, i < L.length → okN (rat L i) ∧ (rat L i).lo ≤ (rat L i).hi ∧ (0 < i → (rat L i).hi + 1 < (rat L (i - 1)).lo) := fun i hi => rngOne_ok (rngE_each h hi)
  refine ⟨fun r hr => ?_, ?_⟩
  · obtain ⟨i, hi, rfl⟩ := List.getElem_of_mem hr
    have := (hh i hi).2.1
    rwa [rat_get hi] at this
  · have key : ∀ j, j < L.length → ∀ i, i < j → (rat L j).hi + 1 < (rat L i).lo := by
      intro j
      induction j with
      | zero => intro _ i hi; omega
      | succ j ih =>
        intro hj i hi
        have h1 := (hh (j + 1) hj).2.2 (by omega)
        rw [Nat.add_sub_cancel] at h1
        by_cases he : i = j
        · rw [he]; exact h1
        · have h2 := ih (by omega) i (by omega)
          have h3 := (hh j (by omega)).2.1
          omega
    rw [List.pairwise_iff_getElem]
    intro i j hi hj hij
    have := key j hj i hij
    rwa [rat_get hi, rat_get hj] at this
theorem canon_rngE {L : List Rng} (h : Canon L) (hl : L.length ≤ 12) (hb : ∀ r ∈ L, okN r) : rngE L = 0 := by
  have hone : ∀ i, i < L.length → rngOne L i = 0 := fun i hi => by
    have ho := hb _ (List.getElem_mem hi)
    have hk := h.ok _ (List.getElem_mem hi)
    unfold rngOne
    rw [rat_get hi, if_pos ⟨mayB_iff.2 ho.1, mayB_iff.2 ho.2⟩, if_neg]
    intro hx
    rcases hx with hx | ⟨h0, hx⟩
    · omega
    · have := (List.pairwise_iff_getElem.1 h.apart) (i - 1) i (by omega) hi (by omega)
      rw [rat_get (by omega)] at hx
      omega
  have hup : ∀ n, n ≤ L.length → rngUp L n = 0 := by
    intro n
    induction n with
    | zero => intro _; rfl
    | succ n ih => intro hn; exact rngUp_ok (ih (by omega)) (hone n (by omega))
  unfold rngE
  rw [if_neg (by omega)]
  exact hup _ (Nat.le_refl _)
/-- what is joined stands in order and apart, and holds the same numbers -/
theorem joined_ok {L' M : List Rng} (hp : L'.Perm M) (hs : L'.Pairwise (fun a b => b.hi ≤ a.hi)) (hok : ∀ r ∈ M, okN r ∧ r.lo ≤ r.hi) : Canon (joinL L') ∧ (∀ y, inB (joinL L') y = inB M y) ∧ ∀ r ∈ joinL L', okN r := by
  obtain ⟨h1, h2⟩ := joinL_canon (fun r hr => (hok r (hp.mem_iff.1 hr)).2) hs
  have h3 : ∀ y, inB (joinL L') y = inB M y := fun y => (h2 y).trans (inB_perm hp y)
  refine ⟨h1, h3, fun r hr => ?_⟩
  have hk := h1.ok r hr
  have e1 : inB M r.lo = true := by rw [← h3]; exact inB_iff.2 ⟨r, hr, by omega, hk⟩
  have e2 : inB M r.hi = true := by rw [← h3]; exact inB_iff.2 ⟨r, hr, hk, by omega⟩
  obtain ⟨a, ha, a1, a2⟩ := inB_iff.1 e1
  obtain ⟨b, hb, b1, b2⟩ := inB_iff.1 e2
  obtain ⟨⟨⟨p1, p2⟩, p3, p4⟩, p5⟩ := hok a ha
  obtain ⟨⟨⟨q1, q2⟩, q3, q4⟩, q5⟩ := hok b hb
  exact ⟨⟨by omega, by omega⟩, by omega, by omega⟩
end Go.Proofs.YtmfbaijbigodkaaGreatDoor

/-! Plain law: what the reference's With makes of ranges that are right, and one more. No condition. -/
namespace Go.Proofs.YtmfbaijbigodkaaGreatDoor
set_option linter.unusedVariables false

/-- what With holds: the list, whether the new one is in, and the new one as it grew -/
structure WSt where
  out : List Rng
  put : Bool
  x : Rng
def wstep (s : WSt) (r : Rng) : WSt :=
  if s.x.hi + 1 < r.lo then ⟨s.out ++ [r], s.put, s.x⟩
  else if r.hi < s.x.lo - 1 then (if s.put = true then ⟨s.out ++ [r], true, s.x⟩ else ⟨s.out ++ [s.x] ++ [r], true, s.x⟩)
  else ⟨s.out, s.put, ⟨if r.lo < s.x.lo then r.lo else s.x.lo, if s.x.hi < r.hi then r.hi else s.x.hi⟩⟩
def wup (L : List Rng) (x : Rng) (i : Nat) : WSt := (L.take i).foldl wstep ⟨[], false, x⟩
def withL (L : List Rng) (x : Rng) : List Rng := if (wup L x L.length).put = true then (wup L x L.length).out else (wup L x L.length).out ++ [(wup L x L.length).x]
theorem wup_zero (L : List Rng) (x : Rng) : wup L x 0 = ⟨[], false, x⟩ := rfl
theorem wup_succ {L : List Rng} {x : Rng} {i : Nat} (h : i < L.length) : wup L x (i + 1) = wstep (wup L x i) (rat L i) := by
  unfold wup
  rw [List.take_add_one, List.foldl_append, rat_get h]
  simp [List.getElem?_eq_getElem h]
theorem wstep_len (s : WSt) (r : Rng) : (wstep s r).out.length + (if (wstep s r).put = true then 0 else 1) ≤ s.out.length + (if s.put = true then 0 else 1) + 1 := by
  unfold wstep
  by_cases h1 : s.x.hi + 1 < r.lo
  · rw [if_pos h1]; simp; omega
  · rw [if_neg h1]
    by_cases h2 : r.hi < s.x.lo - 1
    · rw [if_pos h2]
      cases hp : s.put <;> simp
    · rw [if_neg h2]; simp
theorem wup_len (L : List Rng) (x : Rng) : ∀ i, i ≤ L.length → (wup L x i).out.length + (if (wup L x i).put = true then 0 else 1) ≤ i + 1
  | 0, _ => by simp [wup_zero]
  | i + 1, h => by
    have := wup_len L x i (by omega)
    have h2 := wstep_len (wup L x i) (rat L i)
    rw [wup_succ (by omega)]
    omega
theorem withL_len (L : List Rng) (x : Rng) : (withL L x).length ≤ L.length + 1 := by
  have := wup_len L x L.length (Nat.le_refl _)
  unfold withL
  split
  · rename_i h; rw [if_pos h] at this; omega
  · rename_i h; rw [if_neg h] at this; simp; omega
/-- what holds behind i rounds -/
structure WInv (L : List Rng) (x0 : Rng) (i : Nat) (s : WSt) : Prop where
  canon : Canon s.out
  xok : s.x.lo ≤ s.x.hi
  far : ∀ o ∈ s.out, ∀ j, i ≤ j → j < L.length → (rat L j).hi + 1 < o.lo
  away : s.put = false → ∀ o ∈ s.out, s.x.hi + 1 < o.lo
  low : s.put = true → ∀ j, i ≤ j → j < L.length → (rat L j).hi + 1 < s.x.lo
  same : ∀ y, (inB s.out y || (!s.put && rin s.x y)) = (inB (L.take i) y || rin x0 y)
theorem canon_snoc {L : List Rng} {r : Rng} (h : Canon L) (hr : r.lo ≤ r.hi) (hf : ∀ o ∈ L, r.hi + 1 < o.lo) : Canon (L ++ [r]) := by
  refine ⟨fun a ha => ?_, ?_⟩
  · rcases List.mem_append.1 ha with ha | ha
    · exact h.ok a ha
    · rw [List.mem_singleton.1 ha]; exact hr
  · rw [List.pairwise_append]
    exact ⟨h.apart, by simp, fun a ha b hb => by rw [List.mem_singleton.1 hb]; exact hf a ha⟩
theorem canon_rat {L : List Rng} (h : Canon L) {i j : Nat} (hij : i < j) (hj : j < L.length) : (rat L j).hi + 1 < (rat L i).lo := by
  have := (List.pairwise_iff_getElem.1 h.apart) i j (by omega) hj hij
  rw [rat_get hj, rat_get (by omega)]; exact this
theorem inB_take_succ {L : List Rng} {i : Nat} (h : i < L.length) (y : Int) : inB (L.take (i + 1)) y = (inB (L.take i) y || rin (rat L i) y) := by
  rw [List.take_succ_eq_append_getElem h, inB_append, rat_get h]
  simp [inB]
theorem winv {L : List Rng} {x0 : Rng} (hL : Canon L) (hx : x0.lo ≤ x0.hi) : ∀ i, i ≤ L.length → WInv L x0 i (wup L x0 i)
  | 0, _ => ⟨⟨by simp [wup_zero], by simp [wup_zero]⟩, hx, by simp [wup_zero], by simp [wup_zero], by simp [wup_zero], fun y => by simp [wup_zero, inB]⟩
  | i + 1, hi => by
    obtain ⟨c, xo, fa, aw, lo, sa⟩ := winv hL hx i (by omega)
    have hiL : i < L.length := by omega
    have hr : (rat L i).lo ≤ (rat L i).hi := by rw [rat_get hiL]; exact hL.ok _ (List.getElem_mem _)
    have hlater : ∀ j, i + 1 ≤ j → j < L.length → (rat L j).hi + 1 < (rat L i).lo := fun j h1 h2 => canon_rat hL (by omega) h2
    rw [wup_succ hiL]
    generalize wup L x0 i = s at *
    obtain ⟨out, put, x⟩ := s
    simp only at *
    generalize hrr : rat L i = r at *
    obtain ⟨rl, rh⟩ := r
    obtain ⟨xl, xh⟩ := x
    simp only at *
    have hfo : ∀ o ∈ out, rh + 1 < o.lo := fun o ho => by have := fa o ho i (Nat.le_refl _) hiL; rw [hrr] at this; exact this
    unfold wstep
    simp only
    by_cases h1 : xh + 1 < rl
    · rw [if_pos h1]
      have hpf : put = false := by
        cases hp : put with
        | false => rfl
        | true => have := lo hp i (Nat.le_refl _) hiL; rw [hrr] at this; simp only at this; omega
      subst hpf
      refine ⟨canon_snoc c hr hfo, xo, fun o ho j h2 h3 => ?_, fun _ o ho => ?_, fun h => by simp at h, fun y => ?_⟩
      · rcases List.mem_append.1 ho with ho | ho
        · exact fa o ho j (by omega) h3
        · rw [List.mem_singleton.1 ho]; exact hlater j h2 h3
      · rcases List.mem_append.1 ho with ho | ho
        · exact aw rfl o ho
        · rw [List.mem_singleton.1 ho]; exact h1
      · have := sa y
        rw [inB_take_succ hiL, hrr]
        simp only [inB_append] at this ⊢
        simp only [inB, List.any_cons, List.any_nil, Bool.or_false, Bool.not_false, Bool.true_and] at this ⊢
        rw [Bool.or_assoc, Bool.or_comm (rin ⟨rl, rh⟩ y), ← Bool.or_assoc, this, Bool.or_assoc, Bool.or_comm (rin x0 y), ← Bool.or_assoc]
    · rw [if_neg h1]
      by_cases h2 : rh < xl - 1
      · rw [if_pos h2]
        cases put with
        | true =>
          rw [if_pos rfl]
          refine ⟨canon_snoc c hr hfo, xo, fun o ho j h3 h4 => ?_, fun h => by simp at h, fun _ j h3 h4 => lo rfl j (by omega) h4, fun y => ?_⟩
          · rcases List.mem_append.1 ho with ho | ho
            · exact fa o ho j (by omega) h4
            · rw [List.mem_singleton.1 ho]; exact hlater j h3 h4
          · have := sa y
            rw [inB_take_succ hiL, hrr]
            simp only [inB_append] at this ⊢
            simp only [inB, List.any_cons, List.any_nil, Bool.or_false, Bool.not_true, Bool.false_and] at this ⊢
            rw [this, Bool.or_assoc, Bool.or_comm (rin x0 y), ← Bool.or_assoc]
        | false =>
          rw [if_neg (by simp)]
          refine ⟨canon_snoc (canon_snoc c xo (aw rfl)) hr (fun o ho => ?_), xo, fun o ho j h3 h4 => ?_, fun h => by simp at h, fun _ j h3 h4 => ?_, fun y => ?_⟩
          · rcases List.mem_append.1 ho with ho | ho
            · exact hfo o ho
            · rw [List.mem_singleton.1 ho]; show rh + 1 < xl; omega
          · have hl := hlater j h3 h4
            rcases List.mem_append.1 ho with ho | ho
            · rcases List.mem_append.1 ho with ho | ho
              · exact fa o ho j (by omega) h4
              · rw [List.mem_singleton.1 ho]; show _ < xl; omega
            · rw [List.mem_singleton.1 ho]; exact hl
          · have hl := hlater j h3 h4
            simp only at hl ⊢; omega
          · have := sa y
            rw [inB_take_succ hiL, hrr]
            simp only [inB_append] at this ⊢
            simp only [inB, List.any_cons, List.any_nil, Bool.or_false, Bool.not_true, Bool.not_false, Bool.true_and, Bool.false_and] at this ⊢
            rw [this, Bool.or_assoc, Bool.or_comm (rin x0 y), ← Bool.or_assoc]
      · rw [if_neg h2]
        have hpf : put = false := by
          cases hp : put with
          | false => rfl
          | true => have := lo hp i (Nat.le_refl _) hiL; rw [hrr] at this; simp only at this; omega
        subst hpf
        refine ⟨c, ?_, fun o ho j h3 h4 => fa o ho j (by omega) h4, fun _ o ho => ?_, fun h => by simp at h, fun y => ?_⟩
        · show (if rl < xl then rl else xl) ≤ (if xh < rh then rh else xh)
          split <;> split <;> omega
        · have a1 := hfo o ho
          have a2 := aw rfl o ho
          show (if xh < rh then rh else xh) + 1 < o.lo
          split <;> omega
        · have := sa y
          rw [inB_take_succ hiL, hrr]
          have hun : rin ⟨if rl < xl then rl else xl, if xh < rh then rh else xh⟩ y = (rin ⟨xl, xh⟩ y || rin ⟨rl, rh⟩ y) := by
            unfold rin
            rw [Bool.eq_iff_iff]
            simp
            split <;> split <;> omega
          simp only [Bool.not_false, Bool.true_and] at this ⊢
          rw [hun, ← Bool.or_assoc, this, Bool.or_assoc, Bool.or_comm (rin x0 y), ← Bool.or_assoc]
theorem withL_ok {L : List Rng} {x : Rng} (hL : Canon L) (hx : x.lo ≤ x.hi) : Canon (withL L x) ∧ ∀ y, inB (withL L x) y = (inB L y || rin x y) := by
  obtain ⟨c, xo, fa, aw, lo, sa⟩ := winv hL hx L.length (Nat.le_refl _)
  rw [List.take_length] at sa
  unfold withL
  generalize wup L x L.length = s at *
  cases hp : s.put with
  | true =>
    rw [if_pos rfl]
    refine ⟨c, fun y => ?_⟩
    have := sa y
    rw [hp] at this
    simpa using this
  | false =>
    rw [if_neg (by simp)]
    refine ⟨canon_snoc c xo (aw hp), fun y => ?_⟩
    have := sa y
    rw [hp] at this
    rw [inB_append]
    simpa [inB] using this
/-- one number added: as With says -/
theorem with_joined {L L' : List Rng} {x : Int} (hL : Canon L) (hok : ∀ r ∈ L, okN r ∧ r.lo ≤ r.hi) (hx : 0 ≤ x ∧ x ≤ 1073741823) (hp : L'.Perm (L ++ [⟨x, x⟩])) (hs : L'.Pairwise (fun a b => b.hi ≤ a.hi)) : joinL L' = withL L ⟨x, x⟩ := by
  have h1 := joined_ok hp hs (fun r hr => by
    rcases List.mem_append.1 hr with hr | hr
    · exact hok r hr
    · rw [List.mem_singleton.1 hr]; exact ⟨⟨hx, hx⟩, Int.le_refl x⟩)
  have h2 := withL_ok (L := L) (x := ⟨x, x⟩) hL (Int.le_refl x)
  refine canon_eq h1.1 h2.1 (fun y => ?_)
  rw [h1.2.1, h2.2, inB_append]
  simp [inB]
end Go.Proofs.YtmfbaijbigodkaaGreatDoor

/-! Contracts of ranges.Add and ranges.Count at whatever slice, and of wiresame.Ranges at two that can be read. Condition: the slices can be read. -/
namespace Go.Proofs.YtmfbaijbigodkaaGreatDoor
open Go.ChangeShapes Go.WideShapes Go.ChangeAt Go.RowKit
set_option linter.unusedVariables false

set_option maxHeartbeats 3200000 in
set_option maxRecDepth 100000 in
theorem radd_bad (A : Option Addr) (n cap : Nat) (L : List Rng) (x : Int) (w : World) (hn : L.length = n) (hb : ∀ r ∈ L, okI r.lo ∧ okI r.hi) (h : Rd w 2 (.slice A n cap) (L.map rngRow)) (hE : rngE L ≠ 0) :
    Calls Tryz.prog 58 #[.slice A n cap, .int .i64 x] w fun e w' => e = .returned (.tuple #[.slice none 0 0, .bool false, errV (rngE L)]) ∧ Below w.heap.size w w' := by
  have H := Lib.hid h
  have HN := Lib.hid hn
  have HB := Lib.hid hb
  have HE := Lib.hid hE
  rw [errV_pos hE]
  clear h hn hb hE
  go_enter Tryz.func58, Tryz.ntmps58
  go_wp2_with (go_at_call 104; refine (rcheck A n cap L _ HN.out HB.out H.out).mono ?_; rintro e w1 ⟨rfl, hb1⟩; rw [errV_pos HE.out])
  go_ret3
  exact ⟨rfl, hb1⟩
end Go.Proofs.YtmfbaijbigodkaaGreatDoor

/-! ranges.Add, Both and Count at whatever slices, in the reference's words. Condition: the slices can be read. -/
namespace Go.Proofs.YtmfbaijbigodkaaGreatDoor
open Go.ChangeShapes Go.WideShapes Go.ChangeAt Go.RowKit
set_option linter.unusedVariables false

theorem okRng {L : List Rng} (h : rngE L = 0) : ∀ r ∈ L, okN r ∧ r.lo ≤ r.hi := fun r hr => ⟨rngE_ok h r hr, (rngE_canon h).ok r hr⟩
theorem wstep_bound {s : WSt} {r : Rng} (hs : okN s.x ∧ ∀ o ∈ s.out, okN o) (hr : okN r) : okN (wstep s r).x ∧ ∀ o ∈ (wstep s r).out, okN o := by
  obtain ⟨hx, ho⟩ := hs
  unfold wstep
  split
  · exact ⟨hx, fun o h => by
      rcases List.mem_append.1 h with h | h
      · exact ho o h
      · rw [List.mem_singleton.1 h]; exact hr⟩
  · split
    · split
      · exact ⟨hx, fun o h => by
          rcases List.mem_append.1 h with h | h
          · exact ho o h
          · rw [List.mem_singleton.1 h]; exact hr⟩
      · exact ⟨hx, fun o h => by
          rcases List.mem_append.1 h with h | h
          · rcases List.mem_append.1 h with h | h
            · exact ho o h
            · rw [List.mem_singleton.1 h]; exact hx
          · rw [List.mem_singleton.1 h]; exact hr⟩
    · obtain ⟨⟨a1, a2⟩, a3, a4⟩ := hx
      obtain ⟨⟨b1, b2⟩, b3, b4⟩ := hr
      refine ⟨⟨⟨?_, ?_⟩, ?_, ?_⟩, ho⟩ <;> simp only <;> split <;> omega
theorem wup_bound {L : List Rng} {x : Rng} (hL : ∀ r ∈ L, okN r) (hx : okN x) : ∀ i, i ≤ L.length → okN (wup L x i).x ∧ ∀ o ∈ (wup L x i).out, okN o
  | 0, _ => ⟨hx, by simp [wup_zero]⟩
  | i + 1, h => by
    rw [wup_succ (by omega)]
    exact wstep_bound (wup_bound hL hx i (by omega)) (by rw [rat_get (by omega)]; exact hL _ (List.getElem_mem _))
theorem withL_bound {L : List Rng} {x : Rng} (hL : ∀ r ∈ L, okN r) (hx : okN x) : ∀ r ∈ withL L x, okN r := by
  obtain ⟨h1, h2⟩ := wup_bound hL hx L.length (Nat.le_refl _)
  unfold withL
  split
  · exact h2
  · intro r hr
    rcases List.mem_append.1 hr with hr | hr
    · exact h2 r hr
    · rw [List.mem_singleton.1 hr]; exact h1
/-- what is wrong with a number more -/
def addE (L : List Rng) (x : Int) : Int := if rngE L = 0 then (if mayB x = true then (if 12 < (withL L ⟨x, x⟩).length then 4 else 0) else 1) else rngE L
def addL (L : List Rng) (x : Int) : List Rng := if addE L x = 0 then withL L ⟨x, x⟩ else []
def addB (L : List Rng) (x : Int) : Bool := decide (addE L x = 0) && !inB L x
theorem radd_any (A : Option Addr) (n cap : Nat) (L : List Rng) (x : Int) (w : World) (hn : L.length = n) (hb : ∀ r ∈ L, okI r.lo ∧ okI r.hi) (h : Rd w 2 (.slice A n cap) (L.map rngRow)) :
    Calls Tryz.prog 58 #[.slice A n cap, .int .i64 x] w fun e w' => ∃ A' c', e = .returned (.tuple #[.slice A' (addL L x).length c', .bool (addB L x), errV (addE L x)]) ∧ Below w.heap.size w w' ∧ Lst w' 101 2 (.slice A' (addL L x).length c') ((addL L x).map rngRow) ∧ ∀ k, k ∈ blocks (.slice A' 0 0) → w.heap.size ≤ k := by
  by_cases hE : rngE L = 0
  · cases hx : mayB x with
    | false =>
      have e1 : addE L x = 1 := by unfold addE; rw [if_pos hE, hx]; rfl
      have e2 : addL L x = [] := by unfold addL; rw [e1]; rfl
      have e3 : addB L x = false := by unfold addB; rw [e1]; rfl
      rw [e1, e2, e3]
      refine (radd_out A n cap L x w hn hb h hE hx).mono ?_
      rintro e w' ⟨he, hb'⟩
      exact ⟨none, 0, he, hb', Lst.nil _ _ _, by simp [Value.ownBlock]⟩
    | true =>
      refine (radd_ok A n cap L x w hn hb h hE hx).mono ?_
      rintro e w' ⟨L', hp, hs, hb', hr⟩
      have hj : joinL L' = withL L ⟨x, x⟩ := with_joined (rngE_canon hE) (okRng hE) (mayB_iff.1 hx) hp hs
      rw [hj] at hr
      rcases hr with ⟨h12, he⟩ | ⟨hl, A', c', he, hlst, hk⟩
      · have e1 : addE L x = 4 := by unfold addE; rw [if_pos hE, hx, if_pos rfl, if_pos h12]
        have e2 : addL L x = [] := by unfold addL; rw [e1]; rfl
        have e3 : addB L x = false := by unfold addB; rw [e1]; rfl
        rw [e1, e2, e3]
        exact ⟨none, 0, he, hb', Lst.nil _ _ _, by simp [Value.ownBlock]⟩
      · have e1 : addE L x = 0 := by unfold addE; rw [if_pos hE, hx, if_pos rfl, if_neg (by omega)]
        have e2 : addL L x = withL L ⟨x, x⟩ := by unfold addL; rw [if_pos e1]
        have e3 : addB L x = !inB L x := by unfold addB; rw [e1]; simp
        rw [e1, e2, e3]
        exact ⟨A', c', he, hb', hlst, hk⟩
  · have e1 : addE L x = rngE L := by unfold addE; rw [if_neg hE]
    have e2 : addL L x = [] := by unfold addL; rw [e1, if_neg hE]
    have e3 : addB L x = false := by unfold addB; rw [e1, decide_eq_false hE]; rfl
    rw [e1, e2, e3]
    refine (radd_bad A n cap L x w hn hb h hE).mono ?_
    rintro e w' ⟨he, hb'⟩
    exact ⟨none, 0, he, hb', Lst.nil _ _ _, by simp [Value.ownBlock]⟩
end Go.Proofs.YtmfbaijbigodkaaGreatDoor

/-! Plain words on an end of a connection: what it holds, what each call answers and leaves. No program here. -/
namespace Go.Proofs.YtmfbaijbigodkaaGreatDoor
open Go.ChangeShapes Go.WideShapes Go.ChangeAt Go.RowKit
set_option linter.unusedVariables false

/-- a piece: where it begins, its bytes -/
structure Pc where
  at_ : Nat
  d : ByteArray
/-- what an end holds -/
structure EnS where
  data : ByteArray
  told : List Bool
  may : Int
  made : List (List Pc)
  known : Int
  came : List Rng
  M : Plc
  t : Nat
  W : Int
  L : Int
  C : Int
  R : Int
def EnS.new (n : Int) : EnS := ⟨⟨#[]⟩, List.replicate 60 false, n, [], -1, [], Plc.new, 0, n, n, 0, 0⟩
def tat (T : List Bool) (i : Nat) : Bool := T.getD i false
/-- the first n bytes from a on are there -/
def tellN (T : List Bool) (a : Nat) : Nat → List Bool
  | 0 => T
  | n + 1 => (tellN T a n).set (a + n) true
def tellPc (T : List Bool) (p : Pc) : List Bool := tellN T p.at_ p.d.size
def tellPcs (T : List Bool) (ps : List Pc) : List Bool := ps.foldl tellPc T
/-- the pieces of these packets -/
def pcsOf (made : List (List Pc)) (r : Rng) : List Pc := ((made.take (r.hi.toNat + 1)).drop r.lo.toNat).flatten
def tellRs (made : List (List Pc)) (T : List Bool) (L : List Rng) : List Bool := L.foldl (fun T r => tellPcs T (pcsOf made r)) T
theorem tellN_len (T : List Bool) (a : Nat) : ∀ n, (tellN T a n).length = T.length
  | 0 => rfl
  | n + 1 => by rw [tellN, List.length_set, tellN_len T a n]
theorem tellPcs_len (ps : List Pc) : ∀ T, (tellPcs T ps).length = T.length := by
  induction ps with
  | nil => intro T; rfl
  | cons p ps ih => intro T; show (tellPcs (tellPc T p) ps).length = _; rw [ih]; exact tellN_len _ _ _
theorem tellRs_len (made : List (List Pc)) (L : List Rng) : ∀ T, (tellRs made T L).length = T.length := by
  induction L with
  | nil => intro T; rfl
  | cons r L ih => intro T; show (tellRs made (tellPcs T (pcsOf made r)) L).length = _; rw [ih]; exact tellPcs_len _ _
theorem tat_set {T : List Bool} {i j : Nat} {b : Bool} (h : i < T.length) : tat (T.set i b) j = if i = j then b else tat T j := by
  unfold tat
  simp only [List.getD, List.getElem?_set]
  by_cases hij : i = j
  · subst hij; simp [h]
  · simp [hij]
theorem tellN_at {T : List Bool} {a j : Nat} : ∀ {n : Nat}, a + n ≤ T.length → tat (tellN T a n) j = (decide (a ≤ j ∧ j < a + n) || tat T j)
  | 0, h => by
    have : decide (a ≤ j ∧ j < a + 0) = false := by rw [decide_eq_false_iff_not]; omega
    rw [this, Bool.false_or]; rfl
  | n + 1, h => by
    rw [tellN, tat_set (by rw [tellN_len]; omega), tellN_at (by omega)]
    by_cases h1 : a + n = j
    · rw [if_pos h1]
      have : decide (a ≤ j ∧ j < a + (n + 1)) = true := by simp; omega
      rw [this, Bool.true_or]
    · rw [if_neg h1]
      have : decide (a ≤ j ∧ j < a + (n + 1)) = decide (a ≤ j ∧ j < a + n) := by
        apply decide_eq_decide.2; omega
      rw [this]
/-- does a piece reach a place -/
def Pc.has (p : Pc) (j : Nat) : Bool := decide (p.at_ ≤ j ∧ j < p.at_ + p.d.size)
theorem tellPcs_at {j : Nat} (ps : List Pc) : ∀ {T : List Bool}, T.length = 60 → (∀ p ∈ ps, p.at_ + p.d.size ≤ 60) → tat (tellPcs T ps) j = (ps.any (fun p => p.has j) || tat T j) := by
  induction ps with
  | nil => intro T _ _; rfl
  | cons p ps ih =>
    intro T hT h
    show tat (tellPcs (tellPc T p) ps) j = _
    rw [ih (by unfold tellPc; rw [tellN_len]; exact hT) (fun q hq => h q (List.mem_cons_of_mem _ hq))]
    unfold tellPc
    rw [tellN_at (by rw [hT]; exact h p (List.mem_cons_self ..)), List.any_cons, ← Bool.or_assoc, Bool.or_comm (ps.any _)]
    rfl
theorem tellRs_at {made : List (List Pc)} {j : Nat} (L : List Rng) : ∀ {T : List Bool}, T.length = 60 → (∀ ps ∈ made, ∀ p ∈ ps, p.at_ + p.d.size ≤ 60) → tat (tellRs made T L) j = (L.any (fun r => (pcsOf made r).any (fun p => p.has j)) || tat T j) := by
  induction L with
  | nil => intro T _ _; rfl
  | cons r L ih =>
    intro T hT h
    show tat (tellRs made (tellPcs T (pcsOf made r)) L) j = _
    rw [ih (by rw [tellPcs_len]; exact hT) h, tellPcs_at _ hT (fun p hp => by
      obtain ⟨ps, h1, h2⟩ := List.mem_flatten.1 hp
      exact h ps (List.mem_of_mem_take (List.mem_of_mem_drop h1)) p h2), List.any_cons, ← Bool.or_assoc, Bool.or_comm (L.any _)]
/-- how many are not there one behind the other from a on, below last, no more than f -/
def strN (T : List Bool) (last : Nat) : Nat → Nat → Nat
  | 0, _ => 0
  | f + 1, a => if a < last ∧ tat T a = false then strN T last f (a + 1) + 1 else 0
theorem strN_le (T : List Bool) (last : Nat) : ∀ f a, strN T last f a ≤ f ∧ (a ≤ last → a + strN T last f a ≤ last)
  | 0, a => by simp [strN]
  | f + 1, a => by
    have := strN_le T last f (a + 1)
    rw [strN]
    split
    · rename_i h; omega
    · omega
theorem strN_all {T : List Bool} {last : Nat} : ∀ {f a j : Nat}, j < strN T last f a → a + j < last ∧ tat T (a + j) = false
  | 0, a, j, h => by simp [strN] at h
  | f + 1, a, j, h => by
    rw [strN] at h
    split at h
    · rename_i h0
      cases j with
      | zero => exact h0
      | succ j =>
        have := strN_all (T := T) (last := last) (f := f) (a := a + 1) (j := j) (by omega)
        rw [show a + (j + 1) = a + 1 + j by omega]; exact this
    · omega
/-- so many places from a on are not there, and no more may be counted -/
theorem strN_eq {T : List Bool} {last : Nat} : ∀ {f a n : Nat}, n ≤ f → (∀ j, j < n → a + j < last ∧ tat T (a + j) = false) → (n = f ∨ ¬ (a + n < last ∧ tat T (a + n) = false)) → strN T last f a = n
  | 0, a, n, h, _, _ => by have : n = 0 := by omega
                           subst this; rfl
  | f + 1, a, 0, h, _, he => by
    rw [strN]
    rcases he with he | he
    · omega
    · rw [Nat.add_zero] at he; rw [if_neg he]
  | f + 1, a, n + 1, h, ha, he => by
    have h0 := ha 0 (by omega)
    rw [Nat.add_zero] at h0
    rw [strN, if_pos h0, strN_eq (f := f) (a := a + 1) (n := n) (by omega) (fun j hj => by
      have := ha (j + 1) (by omega)
      rw [show a + 1 + j = a + (j + 1) by omega]; exact this) (by
      rcases he with he | he
      · left; omega
      · right; rw [show a + 1 + n = a + (n + 1) by omega]; exact he)]
/-- the pieces from a on: no more than k, in f steps -/
def pcsF (T : List Bool) (last : Nat) (data : ByteArray) : Nat → Nat → Nat → List Pc
  | 0, _, _ => []
  | f + 1, a, k => if a < last ∧ 0 < k then (if strN T last 20 a = 0 then pcsF T last data f (a + 1) k else ⟨a, data.extract a (a + strN T last 20 a)⟩ :: pcsF T last data f (a + strN T last 20 a) (k - 1)) else []
theorem pcsF_none {T : List Bool} {last : Nat} {data : ByteArray} {f a k : Nat} (h : ¬ (a < last ∧ 0 < k)) : pcsF T last data f a k = [] := by
  cases f with
  | zero => rfl
  | succ f => rw [pcsF, if_neg h]
/-- more steps than there are places are none -/
theorem pcsF_more {T : List Bool} {last : Nat} {data : ByteArray} : ∀ {f f' a k : Nat}, last - a ≤ f → last - a ≤ f' → pcsF T last data f a k = pcsF T last data f' a k
  | 0, f', a, k, h, h' => by rw [pcsF_none (by omega), pcsF_none (by omega)]
  | f + 1, 0, a, k, h, h' => by rw [pcsF_none (by omega), pcsF_none (by omega)]
  | f + 1, f' + 1, a, k, h, h' => by
    rw [pcsF, pcsF]
    by_cases h0 : a < last ∧ 0 < k
    · rw [if_pos h0, if_pos h0]
      by_cases h1 : strN T last 20 a = 0
      · rw [if_pos h1, if_pos h1, pcsF_more (f := f) (f' := f') (by omega) (by omega)]
      · rw [if_neg h1, if_neg h1, pcsF_more (f := f) (f' := f') (by omega) (by omega)]
    · rw [if_neg h0, if_neg h0]
/-- the rest of the pieces -/
def pcsR (T : List Bool) (last : Nat) (data : ByteArray) (a k : Nat) : List Pc := pcsF T last data (last - a) a k
theorem pcsR_none {T : List Bool} {last : Nat} {data : ByteArray} {a k : Nat} (h : ¬ (a < last ∧ 0 < k)) : pcsR T last data a k = [] := pcsF_none h
theorem pcsR_skip {T : List Bool} {last : Nat} {data : ByteArray} {a k : Nat} (h1 : strN T last 20 a = 0) : pcsR T last data a k = pcsR T last data (a + 1) k := by
  by_cases h0 : a < last ∧ 0 < k
  · unfold pcsR
    rw [show last - a = (last - (a + 1)) + 1 by omega, pcsF, if_pos h0, if_pos h1]
  · rw [pcsR_none h0, pcsR_none (by omega)]
theorem pcsR_take {T : List Bool} {last : Nat} {data : ByteArray} {a k : Nat} (h : a < last) (hk : 0 < k) (h1 : strN T last 20 a ≠ 0) : pcsR T last data a k = ⟨a, data.extract a (a + strN T last 20 a)⟩ :: pcsR T last data (a + strN T last 20 a) (k - 1) := by
  unfold pcsR
  rw [show last - a = (last - (a + 1)) + 1 by omega, pcsF, if_pos ⟨h, hk⟩, if_neg h1, pcsF_more (f := last - (a + 1)) (by omega) (Nat.le_refl _)]
theorem pcsF_mem {T : List Bool} {last : Nat} {data : ByteArray} (hl : last ≤ data.size) : ∀ {f a k : Nat} {p : Pc}, p ∈ pcsF T last data f a k → (a ≤ p.at_ ∧ p.at_ + p.d.size ≤ last ∧ 1 ≤ p.d.size ∧ p.d.size ≤ 20) ∧ p.d = data.extract p.at_ (p.at_ + p.d.size) ∧ ∀ j, p.at_ ≤ j → j < p.at_ + p.d.size → tat T j = false
  | 0, a, k, p, h => by simp [pcsF] at h
  | f + 1, a, k, p, h => by
    rw [pcsF] at h
    split at h
    · rename_i h0
      split at h
      · have := pcsF_mem hl h
        exact ⟨⟨by omega, this.1.2⟩, this.2⟩
      · rename_i h1
        have hs := strN_le T last 20 a
        rcases List.mem_cons.1 h with rfl | h
        · have e : (data.extract a (a + strN T last 20 a)).size = strN T last 20 a := by
            rw [ByteArray.size_extract]; omega
          refine ⟨⟨Nat.le_refl _, ?_, ?_, ?_⟩, ?_, ?_⟩
          · show a + (data.extract a (a + strN T last 20 a)).size ≤ last; omega
          · show 1 ≤ (data.extract a (a + strN T last 20 a)).size; omega
          · show (data.extract a (a + strN T last 20 a)).size ≤ 20; omega
          · show data.extract a (a + strN T last 20 a) = data.extract a (a + (data.extract a (a + strN T last 20 a)).size); rw [e]
          · show ∀ j, a ≤ j → j < a + (data.extract a (a + strN T last 20 a)).size → tat T j = false
            intro j h2 h3
            rw [e] at h3
            have := (strN_all (T := T) (last := last) (f := 20) (a := a) (j := j - a) (by omega)).2
            rw [show a + (j - a) = j by omega] at this
            exact this
        · have := pcsF_mem hl h
          exact ⟨⟨by omega, this.1.2⟩, this.2⟩
    · simp at h
theorem pcsF_len {T : List Bool} {last : Nat} {data : ByteArray} : ∀ {f a k : Nat}, (pcsF T last data f a k).length ≤ k
  | 0, a, k => by simp [pcsF]
  | f + 1, a, k => by
    rw [pcsF]
    split
    · split
      · exact pcsF_len
      · rename_i h0 h1
        have := pcsF_len (T := T) (last := last) (data := data) (f := f) (a := a + strN T last 20 a) (k := k - 1)
        rw [List.length_cons]; omega
    · simp
/-- up to where bytes may be told -/
def EnS.last (s : EnS) : Nat := min s.data.size s.may.toNat
def EnS.pieces (s : EnS) : List Pc := pcsR s.told s.last s.data 0 3
/-- the frames of a packet that it makes -/
def pcFrm (p : Pc) : Frm := ⟨3, [(p.at_ : Int)], p.d⟩
def ackFs (came : List Rng) : List Frm := if came = [] then [] else [⟨2, unpairs came, ByteArray.empty⟩]
def EnS.frames (s : EnS) : List Frm := ackFs s.came ++ ⟨4, [s.L], ByteArray.empty⟩ :: s.pieces.map pcFrm
def EnS.packet (s : EnS) : List UInt8 := pktB s.made.length s.known s.frames
def EnS.make (s : EnS) : EnS := { s with made := s.made ++ [s.pieces] }
/-- Write -/
def EnS.writeE (s : EnS) (d : ByteArray) : Int := if 60 < s.data.size + d.size then 4 else 0
def EnS.write (s : EnS) (d : ByteArray) : EnS := if 60 < s.data.size + d.size then s else { s with data := s.data ++ d }
/-- Read -/
def EnS.readE (n : Int) : Int := if n < 0 then 1 else 0
def EnS.readS (s : EnS) (n : Int) : ByteArray := if n < 0 then ⟨#[]⟩ else ⟨(cutL s.M s.t (takeK s.M s.t n)).toArray⟩
def EnS.read (s : EnS) (n : Int) : EnS := if n < 0 then s else { s with t := s.t + takeK s.M s.t n, L := limitN s.W s.L s.R (takeK s.M s.t n), R := s.R + takeK s.M s.t n }
/-- a frame is taken -/
def pcEnd (f : Frm) : Int := ith f.nums 0 + f.data.size
def EnS.take1E (s : EnS) (f : Frm) : Int :=
  if f.kind = 2 then (if (s.made.length : Int) ≤ (rat (pairs f.nums) 0).hi then 6 else 0)
  else if f.kind = 4 then 0
  else if f.kind = 3 then (if takeE s.L (pcEnd f) = 0 then putE s.M (ith f.nums 0) f.data.data.toList else takeE s.L (pcEnd f))
  else 3
def EnS.take1 (s : EnS) (f : Frm) : EnS :=
  if f.kind = 2 then (if (s.made.length : Int) ≤ (rat (pairs f.nums) 0).hi then s else { s with told := tellRs s.made s.told (pairs f.nums), known := max s.known (rat (pairs f.nums) 0).hi })
  else if f.kind = 4 then { s with may := max s.may (ith f.nums 0) }
  else if f.kind = 3 then (if takeE s.L (pcEnd f) = 0 then { s with C := maxN s.C (pcEnd f), M := putM s.M (ith f.nums 0) f.data.data.toList } else s)
  else s
def EnS.takes (s : EnS) : List Frm → Int × EnS
  | [] => (0, s)
  | f :: r => if s.take1E f = 0 then (s.take1 f).takes r else (s.take1E f, s.take1 f)
def nextN (c : List Rng) : Int := if c = [] then 0 else min 1073741823 ((rat c 0).hi + 1)
/-- a packet that was opened is taken -/
def EnS.pktE (s : EnS) (n : Int) (L : List Frm) : Int := if inB s.came n = true then 0 else if (s.takes L).1 = 0 then addE s.came n else (s.takes L).1
def EnS.pkt (s : EnS) (n : Int) (L : List Frm) : EnS := if inB s.came n = true then s else if (s.takes L).1 = 0 then (if addE s.came n = 0 then { (s.takes L).2 with came := addL s.came n } else s) else s
/-- bytes are taken -/
noncomputable def EnS.takeE (s : EnS) (b : List UInt8) : Int := if openE b (nextN s.came) = 0 then s.pktE (openN b (nextN s.came)) (openL b (nextN s.came)) else openE b (nextN s.came)
noncomputable def EnS.take (s : EnS) (b : List UInt8) : EnS := if openE b (nextN s.came) = 0 then s.pkt (openN b (nextN s.came)) (openL b (nextN s.came)) else s

/-- what the calls keep -/
structure EnOk (s : EnS) : Prop where
  dz : s.data.size ≤ 60
  tl : s.told.length = 60
  my : 0 ≤ s.may ∧ s.may ≤ 1073741823
  md : ∀ ps ∈ s.made, ps.length ≤ 3 ∧ ∀ p ∈ ps, p.at_ + p.d.size ≤ 60
  kn : -1 ≤ s.known ∧ s.known < s.made.length
  cm : rngE s.came = 0
  ml : s.M.length = 60
  tt : s.t ≤ 60
  cr : CredOk s.W s.L s.C s.R
  rt : s.R = s.t
  mc : ∀ i, (s.M.at i).isSome = true → (i : Int) < s.C
theorem EnOk.new {n : Int} (h1 : 1 ≤ n) (h2 : n ≤ 1000) : EnOk (EnS.new n) :=
  ⟨by show (⟨#[]⟩ : ByteArray).size ≤ 60; decide, by simp [EnS.new], by simp [EnS.new]; omega, by simp [EnS.new], by simp [EnS.new], rfl, Plc.new_len, by simp [EnS.new],
    ⟨h1, h2, by simp [EnS.new], by simp [EnS.new], by simp [EnS.new]; omega, by simp [EnS.new], by simp [EnS.new]; omega, by simp [EnS.new]; omega, by simp [EnS.new]⟩, by simp [EnS.new], fun i hi => by simp [EnS.new, Plc.new_at] at hi⟩
theorem EnOk.last {s : EnS} (h : EnOk s) : s.last ≤ s.data.size ∧ s.last ≤ 60 ∧ (s.last : Int) ≤ s.may := by
  have := h.dz
  have := h.my
  unfold EnS.last
  omega
theorem EnOk.piece {s : EnS} (h : EnOk s) {p : Pc} (hp : p ∈ s.pieces) : (p.at_ + p.d.size ≤ s.last ∧ 1 ≤ p.d.size ∧ p.d.size ≤ 20) ∧ p.d = s.data.extract p.at_ (p.at_ + p.d.size) ∧ ∀ j, p.at_ ≤ j → j < p.at_ + p.d.size → tat s.told j = false := by
  obtain ⟨⟨_, a⟩, b⟩ := pcsF_mem h.last.1 hp
  exact ⟨a, b⟩
theorem pieces_len (s : EnS) : s.pieces.length ≤ 3 := pcsF_len
theorem EnOk.write {s : EnS} (h : EnOk s) (d : ByteArray) : EnOk (s.write d) := by
  unfold EnS.write
  split
  · exact h
  · rename_i hd
    exact ⟨by show (s.data ++ d).size ≤ 60; rw [ByteArray.size_append]; omega, h.tl, h.my, h.md, h.kn, h.cm, h.ml, h.tt, h.cr, h.rt, h.mc⟩
theorem EnOk.make {s : EnS} (h : EnOk s) : EnOk s.make := by
  refine ⟨h.dz, h.tl, h.my, fun ps hps => ?_, ?_, h.cm, h.ml, h.tt, h.cr, h.rt, h.mc⟩
  · rcases List.mem_append.1 hps with hps | hps
    · exact h.md ps hps
    · rw [List.mem_singleton.1 hps]
      refine ⟨pieces_len s, fun p hp => ?_⟩
      have := (h.piece hp).1
      have := h.last
      omega
  · have := h.kn
    show -1 ≤ s.known ∧ s.known < ((s.made ++ [s.pieces]).length : Nat)
    simp
    omega
theorem EnOk.readOk {s : EnS} (h : EnOk s) (n : Int) : Go.Proofs.YtmfbaijbigodkaaGreatDoor.readE s.W s.L s.C s.R (takeK s.M s.t n) = 0 ∧ s.t + takeK s.M s.t n ≤ 60 := by
  have hk := takeK_le s.M s.t n h.tt
  refine ⟨?_, hk⟩
  obtain ⟨w1, w2, r1, k1, k2, l1, l2, lo, hi⟩ := h.cr
  have hrt := h.rt
  have hle : (takeK s.M s.t n : Int) ≤ s.C - s.R := by
    rcases Nat.eq_zero_or_pos (takeK s.M s.t n) with h0 | h0
    · omega
    · have hr : takeK s.M s.t n ≤ readyN s.M s.t := by unfold takeK; omega
      have := h.mc _ (readyN_some (M := s.M) (t := s.t) (j := takeK s.M s.t n - 1) (by omega))
      omega
  unfold Go.Proofs.YtmfbaijbigodkaaGreatDoor.readE limitN
  have := h.tt
  rw [if_neg (by omega), if_neg (by omega), if_neg (by split <;> omega)]
theorem EnOk.read {s : EnS} (h : EnOk s) (n : Int) : EnOk (s.read n) := by
  unfold EnS.read
  split
  · exact h
  · obtain ⟨h1, h2⟩ := h.readOk n
    obtain ⟨r1, r2, r3⟩ := readE_ok h1
    refine ⟨h.dz, h.tl, h.my, h.md, h.kn, h.cm, h.ml, h2, (limitN_ok s.W s.L s.C s.R _ h.cr r1 r2 r3).1, ?_, h.mc⟩
    show s.R + (takeK s.M s.t n : Int) = ((s.t + takeK s.M s.t n : Nat) : Int)
    have := h.rt
    omega
theorem frm_three {f : Frm} (h : frmE f = 0) (hk : f.kind = 3) : f.nums = [ith f.nums 0] ∧ MayBe (ith f.nums 0) ∧ f.data.size ≤ 20 := by
  obtain ⟨_, h2, h3, h4, _⟩ := frmE_out h
  have hl : f.nums.length = 1 := by
    unfold shapeB at h2
    rw [Bool.and_eq_true, if_neg (by omega)] at h2
    have := of_decide_eq_true h2.2
    rw [hk] at this
    have e : manyK 3 = 1 := rfl
    omega
  match hn : f.nums, hl with
  | [x], _ => exact ⟨rfl, h3 x (by rw [hn]; simp), h4⟩
theorem frm_four {f : Frm} (h : frmE f = 0) (hk : f.kind = 4) : f.nums = [ith f.nums 0] ∧ MayBe (ith f.nums 0) := by
  obtain ⟨_, h2, h3, h4, _⟩ := frmE_out h
  have hl : f.nums.length = 1 := by
    unfold shapeB at h2
    rw [Bool.and_eq_true, if_neg (by omega)] at h2
    have := of_decide_eq_true h2.2
    rw [hk] at this
    have e : manyK 4 = 1 := rfl
    omega
  match hn : f.nums, hl with
  | [x], _ => exact ⟨rfl, h3 x (by rw [hn]; simp)⟩
theorem frm_two {f : Frm} (h : frmE f = 0) (hk : f.kind = 2) : rngE (pairs f.nums) = 0 ∧ 0 < (pairs f.nums).length ∧ f.nums.length = 2 * (pairs f.nums).length ∧ (pairs f.nums).length ≤ 12 := by
  obtain ⟨_, h2, h3, h4, h5⟩ := frmE_out h
  unfold shapeB at h2
  rw [Bool.and_eq_true, if_pos hk] at h2
  have := of_decide_eq_true h2.2
  have e := pairs_len f.nums this.2.1
  exact ⟨h5 hk, by omega, by omega, by omega⟩
theorem EnOk.take1 {s : EnS} (h : EnOk s) {f : Frm} (hf : frmE f = 0) : EnOk (s.take1 f) := by
  unfold EnS.take1
  by_cases h2 : f.kind = 2
  · rw [if_pos h2]
    split
    · exact h
    · rename_i hl
      refine ⟨h.dz, by show (tellRs s.made s.told _).length = 60; rw [tellRs_len]; exact h.tl, h.my, h.md, ?_, h.cm, h.ml, h.tt, h.cr, h.rt, h.mc⟩
      have := h.kn
      show -1 ≤ max s.known _ ∧ max s.known _ < (s.made.length : Int)
      omega
  · rw [if_neg h2]
    by_cases h4 : f.kind = 4
    · rw [if_pos h4]
      have hm := (frm_four hf h4).2
      unfold MayBe at hm
      have := h.my
      exact ⟨h.dz, h.tl, by show 0 ≤ max s.may _ ∧ max s.may _ ≤ _; omega, h.md, h.kn, h.cm, h.ml, h.tt, h.cr, h.rt, h.mc⟩
    · rw [if_neg h4]
      by_cases h3 : f.kind = 3
      · rw [if_pos h3]
        split
        · rename_i ht
          have hm := (frm_three hf h3).2
          unfold MayBe at hm
          have hcr := tC_ok (pcEnd f) h.cr
          unfold tC at hcr
          rw [if_pos ht] at hcr
          refine ⟨h.dz, h.tl, h.my, h.md, h.kn, h.cm, by show (putM s.M _ _).length = 60; rw [putM_len]; exact h.ml, h.tt, hcr, h.rt, fun i hi => ?_⟩
          have hi : ((putM s.M (ith f.nums 0) f.data.data.toList).at i).isSome = true := hi
          show (i : Int) < maxN s.C (pcEnd f)
          have hmx : s.C ≤ maxN s.C (pcEnd f) ∧ pcEnd f ≤ maxN s.C (pcEnd f) := by unfold maxN; split <;> omega
          have hlen : f.data.data.toList.length = f.data.size := Array.length_toList
          unfold putM at hi
          split at hi
          · rename_i hp
            have hp2 : (ith f.nums 0).toNat + f.data.size ≤ 60 := by
              unfold putE at hp
              split at hp
              · cases hp
              · split at hp
                · cases hp
                · rw [hlen] at *; omega
            rw [wrN_at (by rw [h.ml, hlen]; exact hp2)] at hi
            split at hi
            · rename_i hj
              rw [hlen] at hj
              unfold pcEnd at hmx ⊢
              omega
            · have := h.mc i hi; omega
          · have := h.mc i hi; omega
        · exact h
      · rw [if_neg h3]; exact h
theorem EnOk.takes {L : List Frm} : ∀ {s : EnS}, EnOk s → (∀ f ∈ L, frmE f = 0) → EnOk (s.takes L).2 := by
  induction L with
  | nil => intro s h _; exact h
  | cons f r ih =>
    intro s h hL
    have h1 := h.take1 (hL f (List.mem_cons_self ..))
    rw [EnS.takes]
    split
    · exact ih h1 (fun g hg => hL g (List.mem_cons_of_mem _ hg))
    · exact h1
theorem addL_ok {L : List Rng} {n : Int} (h : rngE L = 0) (hn : addE L n = 0) : rngE (addL L n) = 0 ∧ addL L n = withL L ⟨n, n⟩ ∧ MayBe n := by
  have e : addL L n = withL L ⟨n, n⟩ := by unfold addL; rw [if_pos hn]
  unfold addE at hn
  rw [if_pos h] at hn
  split at hn
  · rename_i hm
    split at hn
    · cases hn
    · refine ⟨?_, e, mayB_iff.1 hm⟩
      rw [e]
      exact canon_rngE (withL_ok (rngE_canon h) (Int.le_refl n)).1 (by omega) (withL_bound (rngE_ok h) ⟨mayB_iff.1 hm, mayB_iff.1 hm⟩)
  · cases hn
theorem EnOk.pkt {s : EnS} (h : EnOk s) (n : Int) {L : List Frm} (hL : ∀ f ∈ L, frmE f = 0) : EnOk (s.pkt n L) := by
  unfold EnS.pkt
  split
  · exact h
  · split
    · split
      · rename_i hn
        have h1 := h.takes hL
        exact ⟨h1.dz, h1.tl, h1.my, h1.md, h1.kn, (addL_ok h.cm hn).1, h1.ml, h1.tt, h1.cr, h1.rt, h1.mc⟩
      · exact h
    · exact h
theorem openL_ok (b : List UInt8) (next : Int) : ∀ f ∈ openL b next, frmE f = 0 := by
  intro f hf
  unfold openL at hf
  split at hf
  · unfold openF at hf
    cases hr : rdFs b ((bat b 0).toNat + 1) b.length with
    | none => rw [hr] at hf; simp at hf
    | some p =>
      obtain ⟨L, k⟩ := p
      rw [hr] at hf
      simp only at hf
      split at hf
      · simp at hf
      · rename_i hE hx
        by_cases hk : (bat b 0).toNat + 1 ≤ b.length
        · exact (rdFs_inv hk _ L k hr).2.2.1 f (by simpa using hf)
        · have := rdFs_end (b := b) (k := (bat b 0).toNat + 1) (i := 0) (p := (bat b 0).toNat + 1) (L := []) rfl (by omega) b.length (Nat.zero_le _)
          rw [this] at hr
          cases hr
          simp at hf
  · simp at hf
theorem EnOk.take {s : EnS} (h : EnOk s) (b : List UInt8) : EnOk (s.take b) := by
  unfold EnS.take
  split
  · exact h.pkt _ (openL_ok _ _)
  · exact h
/-- what it makes is right -/
theorem frmE_ackF {came : List Rng} (h : rngE came = 0) (h0 : came ≠ []) : frmE ⟨2, unpairs came, ByteArray.empty⟩ = 0 := by
  have hl := rngE_len h
  have hu := unpairs_len came
  have hp : 0 < came.length := List.length_pos_iff.2 h0
  refine frmE_ok (by simp) ?_ ?_ (by simp) (fun _ => by show rngE (pairs (unpairs came)) = 0; rw [pairs_unpairs]; exact h)
  · unfold shapeB
    rw [if_pos rfl]
    show (((2 : Int) == 3 || ByteArray.empty.size == 0) && decide (0 < (unpairs came).length ∧ (unpairs came).length % 2 = 0 ∧ (unpairs came).length ≤ 24)) = true
    have : decide (0 < (unpairs came).length ∧ (unpairs came).length % 2 = 0 ∧ (unpairs came).length ≤ 24) = true := by simp; omega
    rw [this]; rfl
  · show (unpairs came).all mayB = true
    rw [List.all_eq_true]
    intro z hz
    obtain ⟨r, hr, hz⟩ := List.mem_flatMap.1 hz
    obtain ⟨a, b⟩ := rngE_ok h r hr
    simp at hz
    rcases hz with rfl | rfl
    · exact mayB_iff.2 b
    · exact mayB_iff.2 a
theorem frmE_crF {L : Int} (h : MayBe L) : frmE ⟨4, [L], ByteArray.empty⟩ = 0 := by
  refine frmE_ok (by simp) rfl ?_ (by simp) (fun h => by cases h)
  show ([L] : List Int).all mayB = true
  simp [mayB_iff.2 h]
theorem frmE_pcF {p : Pc} (h : p.at_ + p.d.size ≤ 60) (h2 : p.d.size ≤ 20) : frmE (pcFrm p) = 0 := by
  refine frmE_ok (by simp [pcFrm]) rfl ?_ (by simp [pcFrm]; omega) (fun h => by cases h)
  show ([(p.at_ : Int)] : List Int).all mayB = true
  have : MayBe (p.at_ : Int) := by unfold MayBe; omega
  simp [mayB_iff.2 this]
theorem frmsE_of {L : List Frm} (h : ∀ f ∈ L, frmE f = 0) : frmsE L = 0 := by
  induction L with
  | nil => rfl
  | cons f L ih => rw [frmsE, if_pos (h f (List.mem_cons_self ..)), ih (fun g hg => h g (List.mem_cons_of_mem _ hg))]
theorem EnOk.framesOk {s : EnS} (h : EnOk s) : (∀ f ∈ s.frames, frmE f = 0) ∧ s.frames ≠ [] ∧ s.frames.length ≤ 5 ∧ (frmsB s.frames).length ≤ 172 := by
  have hL : MayBe s.L := by
    obtain ⟨w1, w2, r1, k1, k2, l1, l2, lo, hi⟩ := h.cr
    unfold MayBe; omega
  have hps : ∀ p ∈ s.pieces, frmE (pcFrm p) = 0 ∧ (frmB (pcFrm p)).length ≤ 23 := fun p hp => by
    have h1 := (h.piece hp).1
    have h2 := h.last
    refine ⟨frmE_pcF (by omega) h1.2.2, ?_⟩
    have e : frmB (pcFrm p) = byteOf 3 :: (vbytes p.at_ ++ (vbytes p.d.size ++ p.d.data.toList)) := by
      unfold frmB pcFrm
      rw [if_neg (show ¬ (3 : Int) = 2 by decide), if_pos (show (3 : Int) = 3 from rfl)]
      simp [allL]
    rw [e]
    have l1 := vbytes_len1 (n := (p.at_ : Int)) (by omega)
    have l2 := vbytes_len1 (n := (p.d.size : Int)) (by omega)
    have l3 : p.d.data.toList.length = p.d.size := Array.length_toList
    simp only [List.length_cons, List.length_append]
    omega
  have hsum : ∀ (l : List Pc), (∀ p ∈ l, (frmB (pcFrm p)).length ≤ 23) → (frmsB (l.map pcFrm)).length ≤ 23 * l.length := by
    intro l
    induction l with
    | nil => intro _; simp [frmsB]
    | cons p l ih =>
      intro hl
      have h1 := hl p (List.mem_cons_self ..)
      have h2 := ih (fun q hq => hl q (List.mem_cons_of_mem _ hq))
      simp only [List.map_cons, frmsB, List.flatMap_cons, List.length_append, List.length_cons] at h2 ⊢
      omega
  have hp3 := pieces_len s
  have hsm := hsum s.pieces (fun p hp => (hps p hp).2)
  have hcr : (frmB ⟨4, [s.L], ByteArray.empty⟩).length ≤ 5 := by
    have e : frmB ⟨4, [s.L], ByteArray.empty⟩ = byteOf 4 :: vbytes s.L := by
      unfold frmB
      rw [if_neg (show ¬ (4 : Int) = 2 by decide), if_neg (show ¬ (4 : Int) = 3 by decide)]
      simp [allL]
    rw [e]
    have := vbytes_four s.L
    simp only [List.length_cons]; omega
  have hack : (ackFs s.came).length ≤ 1 ∧ (frmsB (ackFs s.came)).length ≤ 98 ∧ ∀ f ∈ ackFs s.came, frmE f = 0 := by
    unfold ackFs
    split
    · simp [frmsB]
    · rename_i h0
      refine ⟨by simp, ?_, fun f hf => by rw [List.mem_singleton.1 hf]; exact frmE_ackF h.cm h0⟩
      have e : frmsB [(⟨2, unpairs s.came, ByteArray.empty⟩ : Frm)] = byteOf 2 :: ackB s.came := by
        unfold frmsB frmB
        simp [pairs_unpairs]
      rw [e]
      have hl := rngE_len h.cm
      have := ackUp_len s.came hl s.came.length
      unfold ackB
      simp only [List.length_cons]; omega
  refine ⟨fun f hf => ?_, by unfold EnS.frames; simp, ?_, ?_⟩
  · unfold EnS.frames at hf
    rcases List.mem_append.1 hf with hf | hf
    · exact hack.2.2 f hf
    · rcases List.mem_cons.1 hf with rfl | hf
      · exact frmE_crF hL
      · obtain ⟨p, hp, rfl⟩ := List.mem_map.1 hf
        exact (hps p hp).1
  · unfold EnS.frames
    simp only [List.length_append, List.length_cons, List.length_map]
    omega
  · unfold EnS.frames
    rw [frmsB_append]
    have e : frmsB (⟨4, [s.L], ByteArray.empty⟩ :: s.pieces.map pcFrm) = frmB ⟨4, [s.L], ByteArray.empty⟩ ++ frmsB (s.pieces.map pcFrm) := rfl
    rw [e]
    simp only [List.length_append]
    omega
theorem EnOk.packetOk {s : EnS} (h : EnOk s) (hm : s.made.length ≤ 1000000) : pktE s.made.length s.known s.frames = 0 ∧ NeedOk s.made.length s.known ∧ s.packet.length ≤ 177 := by
  obtain ⟨f1, f2, f3, f4⟩ := h.framesOk
  have hk := h.kn
  have hN : NeedOk (s.made.length : Int) s.known := ⟨⟨by omega, by omega⟩, hk.1, hk.2⟩
  obtain ⟨b1, b2⟩ := leastN_bounds ((s.made.length : Int) - s.known)
  have hhd := headB_len (n := (s.made.length : Int)) b1 b2
  have hl : s.packet.length ≤ 177 := by
    unfold EnS.packet pktB
    rw [List.length_append]; omega
  refine ⟨?_, hN, hl⟩
  unfold Go.Proofs.YtmfbaijbigodkaaGreatDoor.pktE
  rw [if_pos hN, if_neg f2, if_neg (by omega), if_pos (frmsE_of f1), if_neg (by unfold EnS.packet at hl; omega)]
end Go.Proofs.YtmfbaijbigodkaaGreatDoor

/-! Several things side by side in memory, each in blocks of its own: what one call does to one of them leaves the others. No condition of its own. -/
namespace Go.Proofs.YtmfbaijbigodkaaGreatDoor
open Go.ChangeShapes Go.WideShapes Go.ChangeAt Go.RowKit
set_option linter.unusedVariables false

/-- a thing that lies in memory: what is there, and in which blocks -/
structure Thing where
  is : World → List Nat → Prop
  lt : ∀ {w : World} {S : List Nat}, is w S → ∀ k, k ∈ S → k < w.heap.size
  kept : ∀ {w w' : World} {S T : List Nat}, is w S → Out w w' T → (∀ k, k ∈ S → k ∉ T) → is w' S
/-- what a call leaves of a thing that lay in the blocks S -/
def Leaves (w w' : World) (S : List Nat) (t : Thing) : Prop := ∃ S', t.is w' S' ∧ Out w w' S ∧ ∀ k, k ∈ S' → k ∈ S ∨ w.heap.size ≤ k
theorem Thing.later (t : Thing) {w w' : World} {S : List Nat} (h : t.is w S) (hb : Below w.heap.size w w') : t.is w' S := t.kept h (Out.of_below hb []) (by simp)
theorem Leaves.same {w w' : World} {S : List Nat} {t : Thing} (h : t.is w S) (hb : Below w.heap.size w w') : Leaves w w' S t := ⟨S, t.later h hb, Out.of_below hb S, fun k hk => Or.inl hk⟩
theorem Leaves.drew {w w' : World} {S : List Nat} {t : Thing} (h : Leaves w.drew w' S t) : Leaves w w' S t := by
  obtain ⟨S', h1, h2, h3⟩ := h
  exact ⟨S', h1, h2.of_drew, h3⟩
theorem Leaves.pre {w w1 w' : World} {S : List Nat} {t : Thing} (hb : Below w.heap.size w w1) (h : Leaves w1 w' S t) : Leaves w w' S t := by
  obtain ⟨S', h1, h2, h3⟩ := h
  refine ⟨S', h1, (Out.of_below hb S).then' h2 (fun k hk => Or.inl hk), fun k hk => ?_⟩
  rcases h3 k hk with h | h
  · exact Or.inl h
  · exact Or.inr (Nat.le_trans hb.size h)
theorem Leaves.out {w w1 w' : World} {S : List Nat} {t : Thing} (ho : Out w w1 S) (h : Leaves w1 w' S t) : Leaves w w' S t := by
  obtain ⟨S', h1, h2, h3⟩ := h
  refine ⟨S', h1, ho.then' h2 (fun k hk => Or.inl hk), fun k hk => ?_⟩
  rcases h3 k hk with h | h
  · exact Or.inl h
  · exact Or.inr (Nat.le_trans ho.size h)
theorem Leaves.post {w w1 w' : World} {S : List Nat} {t : Thing} (h : Leaves w w1 S t) (hb : Below w1.heap.size w1 w') : Leaves w w' S t := by
  obtain ⟨S', h1, h2, h3⟩ := h
  exact ⟨S', t.later h1 hb, h2.later hb, h3⟩
theorem Leaves.size {w w' : World} {S : List Nat} {t : Thing} (h : Leaves w w' S t) : w.heap.size ≤ w'.heap.size := by
  obtain ⟨S', h1, h2, h3⟩ := h
  exact h2.size
/-- these things lie side by side; since w0 only S0 and what is new has changed -/
structure Own (w0 : World) (S0 : List Nat) (w : World) (L : List Thing) : Prop where
  out : Out w0 w S0
  has : ∃ own : Nat → Nat, ∀ (i : Nat) (t : Thing), L[i]? = some t → ∃ S, t.is w S ∧ ∀ k, k ∈ S → own k = i ∧ (k ∈ S0 ∨ w0.heap.size ≤ k)
namespace Own
variable {w0 w w' : World} {S0 : List Nat} {L : List Thing}
theorem start (w : World) : Own w [] w [] := ⟨Out.refl _ _, fun _ => 0, fun i t h => by simp at h⟩
theorem opened {t : Thing} {S : List Nat} (h : t.is w S) : Own w S w [t] := by
  refine ⟨Out.refl _ _, fun _ => 0, fun i t' hi => ?_⟩
  match i, hi with
  | 0, hi =>
    simp only [List.getElem?_cons_zero, Option.some.injEq] at hi
    subst hi
    exact ⟨S, h, fun k hk => ⟨rfl, Or.inl hk⟩⟩
  | i + 1, hi => simp at hi
theorem later (h : Own w0 S0 w L) (hb : Below w.heap.size w w') : Own w0 S0 w' L := by
  obtain ⟨own, ho⟩ := h.has
  refine ⟨h.out.later hb, own, fun i t hi => ?_⟩
  obtain ⟨S, h1, h2⟩ := ho i t hi
  exact ⟨S, t.later h1 hb, h2⟩
theorem drew (h : Own w0 S0 w L) : Own w0 S0 w.drew L := h.later (Since.refl w).drew
theorem drewN (h : Own w0 S0 w L) (n : Nat) : Own w0 S0 (w.drewN n) L := h.later ((Since.refl w).drewN n)
theorem size (h : Own w0 S0 w L) : w0.heap.size ≤ w.heap.size := h.out.size
theorem since (h : Own w0 [] w L) : Since w0 w := h.out.none_
/-- one of them, and what becomes of all when a call leaves something of it -/
theorem at_ (h : Own w0 S0 w L) (i : Nat) {t : Thing} (hi : L[i]? = some t) : ∃ S, t.is w S ∧ ∀ (w' : World) (t' : Thing), Leaves w w' S t' → Own w0 S0 w' (L.set i t') := by
  obtain ⟨own, ho⟩ := h.has
  obtain ⟨S, h1, h2⟩ := ho i t hi
  have hil : i < L.length := (List.getElem?_eq_some_iff.1 hi).1
  refine ⟨S, h1, fun w' t' hl => ?_⟩
  obtain ⟨S', g1, g2, g3⟩ := hl
  refine ⟨h.out.then' g2 (fun k hk => (h2 k hk).2), fun k => if k < w.heap.size then own k else i, fun j u hj => ?_⟩
  by_cases hji : i = j
  · subst hji
    rw [List.getElem?_set_self hil, Option.some.injEq] at hj
    subst hj
    refine ⟨S', g1, fun k hk => ?_⟩
    rcases g3 k hk with hm | hm
    · exact ⟨(if_pos (t.lt h1 k hm)).trans (h2 k hm).1, (h2 k hm).2⟩
    · exact ⟨if_neg (by omega), Or.inr (Nat.le_trans h.out.size hm)⟩
  · rw [List.getElem?_set_ne hji] at hj
    obtain ⟨Sj, j1, j2⟩ := ho j u hj
    refine ⟨Sj, u.kept j1 g2 (fun k hk hm => hji ((h2 k hm).1.symm.trans (j2 k hk).1)), fun k hk => ?_⟩
    exact ⟨(if_pos (u.lt j1 k hk)).trans (j2 k hk).1, (j2 k hk).2⟩
/-- one thing more, in new blocks -/
theorem add (h : Own w0 S0 w L) (hb : Below w.heap.size w w') {t : Thing} {S : List Nat} (ht : t.is w' S) (hn : ∀ k, k ∈ S → w.heap.size ≤ k) : Own w0 S0 w' (L ++ [t]) := by
  obtain ⟨own, ho⟩ := h.has
  refine ⟨h.out.later hb, fun k => if k < w.heap.size then own k else L.length, fun i u hi => ?_⟩
  rcases Nat.lt_trichotomy i L.length with h1 | h1 | h1
  · rw [List.getElem?_append_left h1] at hi
    obtain ⟨Si, j1, j2⟩ := ho i u hi
    exact ⟨Si, u.later j1 hb, fun k hk => ⟨(if_pos (u.lt j1 k hk)).trans (j2 k hk).1, (j2 k hk).2⟩⟩
  · subst h1
    simp only [List.getElem?_append_right (Nat.le_refl _), Nat.sub_self, List.getElem?_cons_zero, Option.some.injEq] at hi
    subst hi
    exact ⟨S, ht, fun k hk => by have := hn k hk; exact ⟨if_neg (by omega), Or.inr (Nat.le_trans h.out.size this)⟩⟩
  · rw [List.getElem?_append_right (by omega)] at hi
    simp only [List.getElem?_singleton] at hi
    split at hi
    · omega
    · cases hi
/-- some of them, in another order -/
theorem pick (h : Own w0 S0 w L) (js : List Nat) {L' : List Thing} (hn : js.Nodup) (hL : ∀ (i : Nat) t, L'[i]? = some t → ∃ j, js[i]? = some j ∧ L[j]? = some t) : Own w0 S0 w L' := by
  obtain ⟨own, ho⟩ := h.has
  refine ⟨h.out, fun k => js.idxOf (own k), fun i t hi => ?_⟩
  obtain ⟨j, hj, hjt⟩ := hL i t hi
  obtain ⟨S, h1, h2⟩ := ho j t hjt
  refine ⟨S, h1, fun k hk => ⟨?_, (h2 k hk).2⟩⟩
  obtain ⟨hil, hje⟩ := List.getElem?_eq_some_iff.1 hj
  show js.idxOf (own k) = i
  rw [(h2 k hk).1, ← hje]
  exact hn.idxOf_getElem i hil
theorem take (h : Own w0 S0 w L) (n : Nat) : Own w0 S0 w (L.take n) := by
  obtain ⟨own, ho⟩ := h.has
  refine ⟨h.out, own, fun i t hi => ho i t ?_⟩
  rw [List.getElem?_take] at hi
  split at hi
  · exact hi
  · cases hi
end Own
/-- a block with these cells -/
def Thing.block (g : Nat) (t : TypeId) (cs : Array Value) : Thing where
  is w S := BlockIs w g t cs ∧ S = [g]
  lt h k hk := by rw [h.2, List.mem_singleton] at hk; subst hk; exact h.1.lt
  kept h ho hd := ⟨ho.block' h.1 (hd _ (by rw [h.2]; simp)), h.2⟩
/-- a slice of the call's own -/
def Thing.lst (E size : Nat) (v : Value) (es : List (List Value)) : Thing where
  is w S := Lst w E size v es ∧ S = blocks v
  lt h k hk := h.1.lt k (by rw [h.2] at hk; exact hk)
  kept h ho hd := ⟨h.1.kept ho (fun k hk => hd k (by rw [h.2]; exact hk)), h.2⟩
/-- one of many -/
def Thing.ex {α : Type} (f : α → Thing) : Thing where
  is w S := ∃ a, (f a).is w S
  lt h k hk := by obtain ⟨a, h⟩ := h; exact (f a).lt h k hk
  kept h ho hd := by obtain ⟨a, h⟩ := h; exact ⟨a, (f a).kept h ho hd⟩
/-- a thing, and a fact -/
def Thing.with_ (p : Prop) (t : Thing) : Thing where
  is w S := p ∧ t.is w S
  lt h k hk := t.lt h.2 k hk
  kept h ho hd := ⟨h.1, t.kept h.2 ho hd⟩
/-- things side by side -/
def Thing.all (L : List Thing) : Thing where
  is w S := (∀ k, k ∈ S → k < w.heap.size) ∧ ∃ own : Nat → Nat, ∀ (i : Nat) (t : Thing), L[i]? = some t → ∃ Si, t.is w Si ∧ ∀ k, k ∈ Si → own k = i ∧ k ∈ S
  lt h k hk := h.1 k hk
  kept h ho hd := by
    obtain ⟨h1, own, h2⟩ := h
    refine ⟨fun k hk => Nat.lt_of_lt_of_le (h1 k hk) ho.size, own, fun i t hi => ?_⟩
    obtain ⟨Si, j1, j2⟩ := h2 i t hi
    exact ⟨Si, t.kept j1 ho (fun k hk => hd k (j2 k hk).2), j2⟩
theorem Own.unfold_ {L : List Thing} {w : World} {S : List Nat} (h : (Thing.all L).is w S) : Own w S w L := by
  obtain ⟨h1, own, h2⟩ := h
  refine ⟨Out.refl _ _, own, fun i t hi => ?_⟩
  obtain ⟨Si, j1, j2⟩ := h2 i t hi
  exact ⟨Si, j1, fun k hk => ⟨(j2 k hk).1, Or.inl (j2 k hk).2⟩⟩
theorem gather {L : List Thing} {w : World} {p : Nat → Nat → Prop} (h : ∀ (i : Nat) (t : Thing), L[i]? = some t → ∃ S, t.is w S ∧ ∀ k, k ∈ S → p i k) : ∃ S' : List Nat, (∀ (i : Nat) (t : Thing), L[i]? = some t → ∃ S, t.is w S ∧ ∀ k, k ∈ S → p i k ∧ k ∈ S') ∧ ∀ k, k ∈ S' → ∃ i, p i k ∧ k < w.heap.size := by
  induction L generalizing p with
  | nil => exact ⟨[], fun i t hi => by simp at hi, by simp⟩
  | cons t L ih =>
    obtain ⟨S', h1, h2⟩ := ih (p := fun i k => p (i + 1) k) (fun i u hi => h (i + 1) u (by simpa using hi))
    obtain ⟨S, hS, hp⟩ := h 0 t rfl
    refine ⟨S ++ S', fun i u hi => ?_, fun k hk => ?_⟩
    · match i, hi with
      | 0, hi =>
        simp only [List.getElem?_cons_zero, Option.some.injEq] at hi
        subst hi
        exact ⟨S, hS, fun k hk => ⟨hp k hk, List.mem_append_left _ hk⟩⟩
      | i + 1, hi =>
        obtain ⟨Si, a, b⟩ := h1 i u (by simpa using hi)
        exact ⟨Si, a, fun k hk => ⟨(b k hk).1, List.mem_append_right _ (b k hk).2⟩⟩
    · rcases List.mem_append.1 hk with hk | hk
      · exact ⟨0, hp k hk, t.lt hS k hk⟩
      · obtain ⟨i, a, b⟩ := h2 k hk
        exact ⟨i + 1, a, b⟩
theorem Own.closed {w0 w : World} {S0 : List Nat} {L : List Thing} (h : Own w0 S0 w L) : Leaves w0 w S0 (Thing.all L) := by
  obtain ⟨own, ho⟩ := h.has
  obtain ⟨S', h1, h2⟩ := gather (p := fun i k => own k = i ∧ (k ∈ S0 ∨ w0.heap.size ≤ k)) ho
  refine ⟨S', ⟨fun k hk => (h2 k hk).choose_spec.2, own, fun i t hi => ?_⟩, h.out, fun k hk => (h2 k hk).choose_spec.1.2⟩
  obtain ⟨S, a, b⟩ := h1 i t hi
  exact ⟨S, a, fun k hk => ⟨(b k hk).1.1, (b k hk).2⟩⟩
theorem Leaves.ex {α : Type} {f : α → Thing} {w w' : World} {S : List Nat} (a : α) (h : Leaves w w' S (f a)) : Leaves w w' S (Thing.ex f) := by
  obtain ⟨S', h1, h2, h3⟩ := h
  exact ⟨S', ⟨a, h1⟩, h2, h3⟩
theorem Leaves.with_ {p : Prop} {t : Thing} {w w' : World} {S : List Nat} (hp : p) (h : Leaves w w' S t) : Leaves w w' S (Thing.with_ p t) := by
  obtain ⟨S', h1, h2, h3⟩ := h
  exact ⟨S', ⟨hp, h1⟩, h2, h3⟩
theorem Leaves.block {w w' : World} {g : Nat} {t : TypeId} {cs : Array Value} (hb : BlockIs w' g t cs) (ho : Out w w' [g]) : Leaves w w' [g] (Thing.block g t cs) := ⟨[g], ⟨hb, rfl⟩, ho, fun k hk => Or.inl hk⟩
namespace Own
variable {w0 w w' : World} {S0 : List Nat} {L : List Thing}
/-- the i-th, a block -/
theorem blk (h : Own w0 S0 w L) (i : Nat) {g : Nat} {t : TypeId} {cs : Array Value} (hi : L[i]? = some (Thing.block g t cs)) : BlockIs w g t cs := by
  obtain ⟨S, h1, _⟩ := h.at_ i hi
  exact h1.1
theorem ls (h : Own w0 S0 w L) (i : Nat) {E size : Nat} {v : Value} {es : List (List Value)} (hi : L[i]? = some (Thing.lst E size v es)) : Lst w E size v es := by
  obtain ⟨S, h1, _⟩ := h.at_ i hi
  exact h1.1
/-- a cell of it is written -/
theorem put (h : Own w0 S0 w L) (i : Nat) {g : Nat} {t : TypeId} {cs : Array Value} (hi : L[i]? = some (Thing.block g t cs)) (j : Nat) (u : Value) : Own w0 S0 (w.setCell ⟨g, j, none⟩ u) (L.set i (Thing.block g t (cs.setIfInBounds j u))) := by
  obtain ⟨S, ⟨h1, rfl⟩, h2⟩ := h.at_ i hi
  exact h2 _ _ (Leaves.block (h1.put j u) ((Out.refl w _).put (p := ⟨g, j, none⟩) (Or.inl (by simp)) u))
/-- a block is laid -/
theorem alloc (h : Own w0 S0 w L) (t : TypeId) (cs : Array Value) : Own w0 S0 (w.alloc (.cells cs t)) (L ++ [Thing.block w.heap.size t cs]) :=
  h.add ((Since.refl w).alloc _) (S := [w.heap.size]) ⟨BlockIs.fresh _ _ _, rfl⟩ (by simp)
end Own
end Go.Proofs.YtmfbaijbigodkaaGreatDoor

/-! Contracts of package stream: what each answers, and what becomes of the stream's block. Condition: the block holds a stream as New and the calls leave it; a piece's bytes are no more than the memory reaches. -/
namespace Go.Proofs.YtmfbaijbigodkaaGreatDoor
open Go.ChangeShapes Go.WideShapes Go.ChangeAt Go.RowKit
set_option linter.unusedVariables false

def isV (o : Option UInt8) : Value := .bool o.isSome
def byV (o : Option UInt8) : Value := .int .u8 ((o.getD 0).toNat : Int)
/-- a stream's cells -/
def strCells (M : Plc) (t : Nat) : Array Value := (M.map isV ++ (M.map byV ++ [Value.int .i64 (t : Int)])).toArray
theorem strCells_is {M : Plc} (hM : M.length = 60) (t : Nat) {i : Nat} (h : i < 60) : (strCells M t)[i]? = some (.bool (M.at i).isSome) := by
  unfold strCells
  rw [List.getElem?_toArray, List.getElem?_append_left (by rw [List.length_map]; omega), List.getElem?_map]
  unfold Plc.at
  rw [List.getElem?_eq_getElem (by omega)]
  simp [List.getD, List.getElem?_eq_getElem (show i < M.length by omega), isV]
theorem strCells_by {M : Plc} (hM : M.length = 60) (t : Nat) {i : Nat} (h : i < 60) : (strCells M t)[60 + i]? = some (.int .u8 (((M.at i).getD 0).toNat : Int)) := by
  unfold strCells
  rw [List.getElem?_toArray, List.getElem?_append_right (by rw [List.length_map]; omega), List.length_map, hM, Nat.add_sub_cancel_left, List.getElem?_append_left (by rw [List.length_map]; omega), List.getElem?_map]
  unfold Plc.at
  rw [List.getElem?_eq_getElem (by omega)]
  simp [List.getD, List.getElem?_eq_getElem (show i < M.length by omega), byV]
theorem strCells_taken {M : Plc} (hM : M.length = 60) (t : Nat) : (strCells M t)[120]? = some (.int .i64 (t : Int)) := by
  unfold strCells
  rw [List.getElem?_toArray, List.getElem?_append_right (by rw [List.length_map]; omega), List.length_map, hM, List.getElem?_append_right (by rw [List.length_map]; omega), List.length_map, hM]
  rfl
theorem strCells_put {M : Plc} (hM : M.length = 60) (t : Nat) {i : Nat} (h : i < 60) (b : UInt8) :
    ((strCells M t).setIfInBounds i (.bool true)).setIfInBounds (60 + i) (.int .u8 (b.toNat : Int)) = strCells (M.set i (some b)) t := by
  unfold strCells
  rw [List.setIfInBounds_toArray, List.setIfInBounds_toArray, List.set_append_left _ _ (by rw [List.length_map]; omega), List.set_append_right _ _ (by simp [hM]), List.length_set, List.length_map, hM, Nat.add_sub_cancel_left, List.set_append_left _ _ (by rw [List.length_map]; omega), List.map_set, List.map_set]
  rfl
theorem strCells_take {M : Plc} (hM : M.length = 60) (t t' : Nat) : (strCells M t).setIfInBounds 120 (.int .i64 (t' : Int)) = strCells M t' := by
  unfold strCells
  rw [List.setIfInBounds_toArray, List.set_append_right _ _ (by rw [List.length_map]; omega), List.length_map, hM, List.set_append_right _ _ (by rw [List.length_map]; omega), List.length_map, hM]
  rfl
/-- a stream at g: what came, and how many were taken -/
structure Sz (w : World) (g : Nat) (M : Plc) (t : Nat) : Prop where
  bl : BlockIs w g 146 (strCells M t)
  len : M.length = 60
  most : t ≤ 60
theorem Sz.later {w w1 : World} {g : Nat} {M : Plc} {t : Nat} (h : Sz w g M t) (hb : Below w.heap.size w w1) : Sz w1 g M t := ⟨h.bl.later hb, h.len, h.most⟩
theorem Sz.kept {w w1 : World} {g : Nat} {M : Plc} {t : Nat} {S : List Nat} (h : Sz w g M t) (hg : Out w w1 S) (h1 : g ∉ S) : Sz w1 g M t := ⟨hg.block' h.bl h1, h.len, h.most⟩
theorem Sz.drewN {w : World} {g : Nat} {M : Plc} {t : Nat} (h : Sz w g M t) (n : Nat) : Sz (w.drewN n) g M t := ⟨h.bl, h.len, h.most⟩
theorem Sz.is {w : World} {g : Nat} {M : Plc} {t : Nat} (h : Sz w g M t) {i : Nat} (hi : i < 60) : w.cell? ⟨g, i, none⟩ = some (.bool (M.at i).isSome) := (h.bl.cell i).trans (strCells_is h.len t hi)
theorem Sz.by_ {w : World} {g : Nat} {M : Plc} {t : Nat} (h : Sz w g M t) {i : Nat} (hi : i < 60) : w.cell? ⟨g, 60 + i, none⟩ = some (.int .u8 (((M.at i).getD 0).toNat : Int)) := (h.bl.cell _).trans (strCells_by h.len t hi)
theorem Sz.taken {w : World} {g : Nat} {M : Plc} {t : Nat} (h : Sz w g M t) : w.cell? ⟨g, 120, none⟩ = some (.int .i64 (t : Int)) := (h.bl.cell _).trans (strCells_taken h.len t)
theorem Sz.put {w : World} {g : Nat} {M : Plc} {t : Nat} (h : Sz w g M t) {i : Nat} (hi : i < 60) (b : UInt8) : Sz ((w.setCell ⟨g, i, none⟩ (.bool true)).setCell ⟨g, 60 + i, none⟩ (.int .u8 (b.toNat : Int))) g (M.set i (some b)) t := by
  refine ⟨?_, by rw [List.length_set]; exact h.len, h.most⟩
  rw [← strCells_put h.len t hi b]
  exact (h.bl.put i _).put (60 + i) _
theorem Sz.take {w : World} {g : Nat} {M : Plc} {t t' : Nat} (h : Sz w g M t) (ht : t' ≤ 60) : Sz (w.setCell ⟨g, 120, none⟩ (.int .i64 (t' : Int))) g M t' := by
  refine ⟨?_, h.len, ht⟩
  rw [← strCells_take h.len t t']
  exact h.bl.put 120 _

theorem snew (w : World) : Calls Tryz.prog 41 #[] w fun e w' => e = .returned (.pointer (some ⟨w.heap.size, 0, none⟩)) ∧ Sz w' w.heap.size Plc.new 0 ∧ Below w.heap.size w w' := by
  go_enter Tryz.func41, Tryz.ntmps41
  go_wp2
  go_ret
  refine ⟨rfl, ⟨?_, Plc.new_len, by decide⟩, (Below.refl _ _).alloc (Nat.le_refl _) _⟩
  exact BlockIs.fresh _ _ _

set_option maxHeartbeats 1600000 in
theorem sready (g : Nat) (M : Plc) (t : Nat) (w : World) (h : Sz w g M t) :
    Calls Tryz.prog 65 #[.pointer (some ⟨g, 0, none⟩)] w fun e w' => e = .returned (.int .i64 (readyN M t)) ∧ Below w.heap.size w w' := by
  have H := Lib.hid h
  have ht := h.most
  clear h
  go_enter Tryz.func65, Tryz.ntmps65
  go_wp2_with fail
  go_loopw [3] (fun s3 wr => ∃ n : Nat, s3 = .int .i64 n ∧ t + n ≤ 60 ∧ Hid (∀ j, j < n → (M.at (t + j)).isSome = true) ∧ Since w wr) (fun s3 _ => 60 - t - (intOf s3).toNat)
  case atStart => exact ⟨0, rfl, by omega, Lib.hid (fun j hj => by omega), Since.refl _⟩
  case round =>
    obtain ⟨n, rfl, hn, HS, hs⟩ := hrel
    have c0 : wr.cell? ⟨g, 120, none⟩ = some (.int .i64 (t : Int)) := (H.out.later hs).taken
    by_cases hlt : t + n < 60
    case neg =>
      have e : readyN M t = n := readyN_eq HS.out hn (Or.inr (by omega))
      have hlt' : decide ((t : Int) + (n : Int) < 60) = false := by simp; omega
      have E := Lib.hid e
      clear e
      go_wp2_with fail
      go_quiet (fail)
      go_wp2_with fail
      go_ret
      exact ⟨by rw [E.out]; rfl, (by refine Since.out ?_; repeat (first | with_reducible assumption | with_reducible exact Since.refl _ | with_reducible refine Since.later ?_ (by with_reducible assumption) | with_reducible refine Since.only ?_ (by with_reducible assumption) (by first | assumption | omega | (simp; done) | (simp; omega)) | with_reducible refine Since.alloc ?_ _ | with_reducible refine Since.drewN ?_ _ | with_reducible refine Since.drew ?_ | with_reducible refine Since.set ?_ (by first | assumption | omega | (simp; done) | (simp; omega)) _))⟩
    have hlt' : decide ((t : Int) + (n : Int) < 60) = true := by simp; omega
    have c1 : wr.cell? ⟨g, t + n, none⟩ = some (.bool (M.at (t + n)).isSome) := (H.out.later hs).is hlt
    have lg := (H.out.later hs).bl.lt
    obtain ⟨b, hb⟩ : ∃ b, (M.at (t + n)).isSome = b := ⟨_, rfl⟩
    rw [hb] at c1
    have HB := Lib.hid hb
    have hlt2 : (t : Int) + (n : Int) < 60 := by omega
    clear hb
    cases b with
    | false =>
      have E : Hid (readyN M t = n) := Lib.hid (readyN_eq HS.out hn (Or.inl HB.out))
      go_wp2_with fail
      go_quiet (fail)
      go_wp2_with fail
      go_ret
      exact ⟨by rw [E.out]; rfl, (by refine Since.out ?_; repeat (first | with_reducible assumption | with_reducible exact Since.refl _ | with_reducible refine Since.later ?_ (by with_reducible assumption) | with_reducible refine Since.only ?_ (by with_reducible assumption) (by first | assumption | omega | (simp; done) | (simp; omega)) | with_reducible refine Since.alloc ?_ _ | with_reducible refine Since.drewN ?_ _ | with_reducible refine Since.drew ?_ | with_reducible refine Since.set ?_ (by first | assumption | omega | (simp; done) | (simp; omega)) _))⟩
    | true =>
      go_wp2_with fail
      go_quiet (fail)
      go_wp2_with fail
      go_roundw
      case rel => exact ⟨n + 1, by go_num, by omega, Lib.hid (fun j hj => by
        rcases Nat.lt_succ_iff_lt_or_eq.1 hj with h1 | h1
        · exact HS.out j h1
        · rw [h1]; exact HB.out), (by refine Since.out ?_; repeat (first | with_reducible assumption | with_reducible exact Since.refl _ | with_reducible refine Since.later ?_ (by with_reducible assumption) | with_reducible refine Since.only ?_ (by with_reducible assumption) (by first | assumption | omega | (simp; done) | (simp; omega)) | with_reducible refine Since.alloc ?_ _ | with_reducible refine Since.drewN ?_ _ | with_reducible refine Since.drew ?_ | with_reducible refine Since.set ?_ (by first | assumption | omega | (simp; done) | (simp; omega)) _))⟩
      case measure => simp [intOf]; omega
set_option maxHeartbeats 3200000 in
theorem sput (g : Nat) (M : Plc) (t : Nat) (x : Int) (d : ByteArray) (w : World) (h : Sz w g M t) (hd : d.size ≤ 140737488351232) :
    Calls Tryz.prog 103 #[.pointer (some ⟨g, 0, none⟩), .agg #[.int .i64 x, .string d]] w fun e w' => e = .returned (errV (putE M x d.data.toList)) ∧ Sz w' g (putM M x d.data.toList) t ∧ Out w w' [g] := by
  have H := Lib.hid h
  have ht := h.most
  have lg := h.bl.lt
  have hlen : d.data.toList.length = d.size := Array.length_toList
  have hB : BlockIs (w.alloc (.cells #[.int .i64 x, .string d] 98)) w.heap.size 98 #[.int .i64 x, .string d] := BlockIs.fresh _ _ _
  clear h
  by_cases hx : 0 ≤ x ∧ x ≤ 60
  case neg =>
    have E : Hid (putE M x d.data.toList = 1) := Lib.hid (by unfold putE; rw [if_pos (by omega)])
    have EM : Hid (putM M x d.data.toList = M) := Lib.hid (by unfold putM; rw [E.out, if_neg (by decide)])
    clear hlen
    by_cases h0 : x < 0
    · clear hx
      go_enter Tryz.func103, Tryz.ntmps103
      go_wp2_with fail
      go_ret
      exact ⟨by rw [E.out]; rfl, by rw [EM.out]; exact H.out.later (by refine Since.out ?_; repeat (first | with_reducible assumption | with_reducible exact Since.refl _ | with_reducible refine Since.later ?_ (by with_reducible assumption) | with_reducible refine Since.only ?_ (by with_reducible assumption) (by first | assumption | omega | (simp; done) | (simp; omega)) | with_reducible refine Since.alloc ?_ _ | with_reducible refine Since.drewN ?_ _ | with_reducible refine Since.drew ?_ | with_reducible refine Since.set ?_ (by first | assumption | omega | (simp; done) | (simp; omega)) _)), Out.of_below (by refine Since.out ?_; repeat (first | with_reducible assumption | with_reducible exact Since.refl _ | with_reducible refine Since.later ?_ (by with_reducible assumption) | with_reducible refine Since.only ?_ (by with_reducible assumption) (by first | assumption | omega | (simp; done) | (simp; omega)) | with_reducible refine Since.alloc ?_ _ | with_reducible refine Since.drewN ?_ _ | with_reducible refine Since.drew ?_ | with_reducible refine Since.set ?_ (by first | assumption | omega | (simp; done) | (simp; omega)) _)) _⟩
    · have h0' : decide (x < 0) = false := by simpa using h0
      have h1 : decide (60 < x) = true := by simp; omega
      clear hx
      go_enter Tryz.func103, Tryz.ntmps103
      go_wp2_with fail
      go_ret
      exact ⟨by rw [E.out]; rfl, by rw [EM.out]; exact H.out.later (by refine Since.out ?_; repeat (first | with_reducible assumption | with_reducible exact Since.refl _ | with_reducible refine Since.later ?_ (by with_reducible assumption) | with_reducible refine Since.only ?_ (by with_reducible assumption) (by first | assumption | omega | (simp; done) | (simp; omega)) | with_reducible refine Since.alloc ?_ _ | with_reducible refine Since.drewN ?_ _ | with_reducible refine Since.drew ?_ | with_reducible refine Since.set ?_ (by first | assumption | omega | (simp; done) | (simp; omega)) _)), Out.of_below (by refine Since.out ?_; repeat (first | with_reducible assumption | with_reducible exact Since.refl _ | with_reducible refine Since.later ?_ (by with_reducible assumption) | with_reducible refine Since.only ?_ (by with_reducible assumption) (by first | assumption | omega | (simp; done) | (simp; omega)) | with_reducible refine Since.alloc ?_ _ | with_reducible refine Since.drewN ?_ _ | with_reducible refine Since.drew ?_ | with_reducible refine Since.set ?_ (by first | assumption | omega | (simp; done) | (simp; omega)) _)) _⟩
  obtain ⟨x0, x1⟩ := hx
  obtain ⟨a, rfl⟩ := Int.eq_ofNat_of_zero_le x0
  have h0' : decide ((a : Int) < 0) = false := by simp
  have h1' : decide (60 < (a : Int)) = false := by simp; omega
  by_cases hf : 60 < a + d.size
  · have E : Hid (putE M a d.data.toList = 4) := Lib.hid (by unfold putE; rw [if_neg (by omega), if_pos (by rw [hlen]; omega)])
    have EM : Hid (putM M a d.data.toList = M) := Lib.hid (by unfold putM; rw [E.out, if_neg (by decide)])
    have h2 : decide (60 < (a : Int) + (d.size : Int)) = true := by simp; omega
    clear hlen
    go_enter Tryz.func103, Tryz.ntmps103
    go_wp2_with fail
    go_ret
    exact ⟨by rw [E.out]; rfl, by rw [EM.out]; exact H.out.later (by refine Since.out ?_; repeat (first | with_reducible assumption | with_reducible exact Since.refl _ | with_reducible refine Since.later ?_ (by with_reducible assumption) | with_reducible refine Since.only ?_ (by with_reducible assumption) (by first | assumption | omega | (simp; done) | (simp; omega)) | with_reducible refine Since.alloc ?_ _ | with_reducible refine Since.drewN ?_ _ | with_reducible refine Since.drew ?_ | with_reducible refine Since.set ?_ (by first | assumption | omega | (simp; done) | (simp; omega)) _)), Out.of_below (by refine Since.out ?_; repeat (first | with_reducible assumption | with_reducible exact Since.refl _ | with_reducible refine Since.later ?_ (by with_reducible assumption) | with_reducible refine Since.only ?_ (by with_reducible assumption) (by first | assumption | omega | (simp; done) | (simp; omega)) | with_reducible refine Since.alloc ?_ _ | with_reducible refine Since.drewN ?_ _ | with_reducible refine Since.drew ?_ | with_reducible refine Since.set ?_ (by first | assumption | omega | (simp; done) | (simp; omega)) _)) _⟩
  have h2 : decide (60 < (a : Int) + (d.size : Int)) = false := by simp; omega
  have E : Hid (putE M a d.data.toList = if clashN M a d.data.toList d.size = true then 7 else 0) := Lib.hid (by unfold putE; rw [if_neg (by omega), if_neg (by rw [hlen]; omega), hlen]; rfl)
  have hn : a + d.size ≤ 60 := by omega
  have HLEN := Lib.hid hlen
  clear hlen hf
  go_enter Tryz.func103, Tryz.ntmps103
  go_wp2_with fail
  go_loopw [5, 6, 30] (fun s5 s6 s30 wr => ∃ i : Nat, s30 = .int .i64 i ∧ i ≤ d.size ∧ clashN M a d.data.toList i = false ∧ BlockIs wr w.heap.size 98 #[.int .i64 a, .string d] ∧ Since w wr) (fun s5 s6 s30 _ => d.size - (intOf s30).toNat)
  case atStart => exact ⟨0, rfl, Nat.zero_le _, rfl, hB, (by refine Since.out ?_; repeat (first | with_reducible assumption | with_reducible exact Since.refl _ | with_reducible refine Since.later ?_ (by with_reducible assumption) | with_reducible refine Since.only ?_ (by with_reducible assumption) (by first | assumption | omega | (simp; done) | (simp; omega)) | with_reducible refine Since.alloc ?_ _ | with_reducible refine Since.drewN ?_ _ | with_reducible refine Since.drew ?_ | with_reducible refine Since.set ?_ (by first | assumption | omega | (simp; done) | (simp; omega)) _))⟩
  case round =>
    obtain ⟨i, rfl, hi, hc, hB, hs⟩ := hrel
    have HC := Lib.hid hc
    have a0 : wr.cell? ⟨w.heap.size, 0, none⟩ = some (.int .i64 a) := hB.cell 0
    have a1 : wr.cell? ⟨w.heap.size, 1, none⟩ = some (.string d) := hB.cell 1
    clear hc
    by_cases hlt : i < d.size
    case neg =>
      have hi2 : i = d.size := by omega
      subst hi2
      have E0 : Hid (putE M a d.data.toList = 0) := Lib.hid (by rw [E.out, HC.out]; rfl)
      have EM : Hid (putM M a d.data.toList = wrN M a d.data.toList d.size) := Lib.hid (by unfold putM; rw [E0.out, if_pos rfl, HLEN.out]; rfl)
      have hlt' : decide ((d.size : Int) < (d.size : Int)) = false := by simp
      go_wp2_with fail
      obtain ⟨wo, rfl⟩ : ∃ wo : World, wo = wr := ⟨_, rfl⟩
      go_loopw [7, 61] (fun s7 s61 wr => ∃ i : Nat, s61 = .int .i64 i ∧ i ≤ d.size ∧ BlockIs wr w.heap.size 98 #[.int .i64 a, .string d] ∧ Sz wr g (wrN M a d.data.toList i) t ∧ Out w wr [g]) (fun s7 s61 _ => d.size - (intOf s61).toNat)
      case atStart => exact ⟨0, rfl, Nat.zero_le _, hB, H.out.later hs, Out.of_below hs _⟩
      case round =>
        obtain ⟨i, rfl, hi, hB, hz, ho⟩ := hrel
        have a0 : wr.cell? ⟨w.heap.size, 0, none⟩ = some (.int .i64 a) := hB.cell 0
        have a1 : wr.cell? ⟨w.heap.size, 1, none⟩ = some (.string d) := hB.cell 1
        have HZ := Lib.hid hz
        have HOO := Lib.hid ho
        have hlb := hB.lt
        have hlg := hz.bl.lt
        clear hz ho
        by_cases hlt : i < d.size
        case neg =>
          obtain rfl : i = d.size := by omega
          go_wp2_with fail
          go_ret
          exact ⟨by rw [E0.out]; rfl, by rw [EM.out]; exact HZ.out, HOO.out⟩
        clear hlt'
        have hlt' : (i : Int) < (d.size : Int) := by omega
        have hai : a + i < 60 := by omega
        have hai' : (a : Int) + (i : Int) < 60 := by omega
        have c0 := HZ.out.is hai
        have c1 := HZ.out.by_ hai
        generalize ((wrN M a d.data.toList i).at (a + i)).isSome = ob at c0
        generalize (((wrN M a d.data.toList i).at (a + i)).getD 0).toNat = oy at c1
        have f0 := HZ.out.bl.free
        have hw : IntKind.i64.wrap ((a : Int) + (i : Int)) = ((a + i : Nat) : Int) := by rw [IntWalk.i64_in _ (by omega)]; rfl
        go_wp2_with fail
        go_region
        all_goals
          go_wp2_with fail
          have hO : Out wr ((wr.setCell ⟨g, a + i, none⟩ (.bool true)).setCell ⟨g, 60 + (a + i), none⟩ (.int .u8 (d[i].toNat : Int))) [g] := (((Out.refl wr [g])).put (p := ⟨g, a + i, none⟩) (Or.inl (by simp)) _).put (p := ⟨g, 60 + (a + i), none⟩) (Or.inl (by simp)) _
          have hP := HZ.out.put hai d[i]
          have hset : wrN M a d.data.toList (i + 1) = (wrN M a d.data.toList i).set (a + i) (some d[i]) := by rw [← bth_get hlt]; rfl
          have hgw : w.heap.size ∉ [g] := by simp; omega
          go_roundw
          case rel => exact ⟨i + 1, by go_num, by omega, hO.block' hB hgw, by rw [hset]; exact ⟨hP.bl, hP.len, hP.most⟩, HOO.out.trans (by first | exact hO | exact hO.drew | exact ⟨hO.os, hO.tape, hO.output, hO.size, hO.block⟩)⟩
          case measure => simp [intOf]; omega
    have hlt' : (i : Int) < (d.size : Int) := by omega
    have hai : a + i < 60 := by omega
    have c0 : wr.cell? ⟨g, a + i, none⟩ = some (.bool (M.at (a + i)).isSome) := (H.out.later hs).is hai
    have c1 : wr.cell? ⟨g, 60 + (a + i), none⟩ = some (.int .u8 (((M.at (a + i)).getD 0).toNat : Int)) := (H.out.later hs).by_ hai
    have hai' : (a : Int) + (i : Int) < 60 := by omega
    have hlb := hB.lt
    have hlg := (H.out.later hs).bl.lt
    obtain ⟨o, ho⟩ : ∃ o, M.at (a + i) = o := ⟨_, rfl⟩
    rw [ho] at c0 c1
    have HO := Lib.hid ho
    clear ho
    cases o with
    | none =>
      simp only [Option.isSome_none] at c0
      have HC1 : Hid (clashN M a d.data.toList (i + 1) = false) := Lib.hid (clashN_miss HC.out (fun y hy => by rw [HO.out] at hy; cases hy))
      go_wp2_with fail
      go_quiet (fail)
      go_wp2_with fail
      go_roundw
      case rel => exact ⟨i + 1, by go_num, by omega, HC1.out, hB, (by refine Since.out ?_; repeat (first | with_reducible assumption | with_reducible exact Since.refl _ | with_reducible refine Since.later ?_ (by with_reducible assumption) | with_reducible refine Since.only ?_ (by with_reducible assumption) (by first | assumption | omega | (simp; done) | (simp; omega)) | with_reducible refine Since.alloc ?_ _ | with_reducible refine Since.drewN ?_ _ | with_reducible refine Since.drew ?_ | with_reducible refine Since.set ?_ (by first | assumption | omega | (simp; done) | (simp; omega)) _))⟩
      case measure => simp [intOf]; omega
    | some y =>
      simp only [Option.isSome_some, Option.getD_some] at c0 c1
      by_cases hy : y = d[i]
      · have HC1 : Hid (clashN M a d.data.toList (i + 1) = false) := Lib.hid (clashN_miss HC.out (fun z hz => by rw [HO.out] at hz; rw [bth_get hlt, ← hy]; exact (Option.some.inj hz).symm))
        have hq : ((y.toNat : Int) != (d[i].toNat : Int)) = false := by rw [hy]; simp
        clear hy
        go_wp2_with fail
        go_quiet (fail)
        go_wp2_with fail
        go_roundw
        case rel => exact ⟨i + 1, by go_num, by omega, HC1.out, hB, (by refine Since.out ?_; repeat (first | with_reducible assumption | with_reducible exact Since.refl _ | with_reducible refine Since.later ?_ (by with_reducible assumption) | with_reducible refine Since.only ?_ (by with_reducible assumption) (by first | assumption | omega | (simp; done) | (simp; omega)) | with_reducible refine Since.alloc ?_ _ | with_reducible refine Since.drewN ?_ _ | with_reducible refine Since.drew ?_ | with_reducible refine Since.set ?_ (by first | assumption | omega | (simp; done) | (simp; omega)) _))⟩
        case measure => simp [intOf]; omega
      · have E7 : Hid (putE M a d.data.toList = 7) := Lib.hid (by rw [E.out, if_pos (clashN_hit hlt HO.out (by rw [bth_get hlt]; exact hy))])
        have EM : Hid (putM M a d.data.toList = M) := Lib.hid (by unfold putM; rw [E7.out, if_neg (by decide)])
        have hq : ((y.toNat : Int) != (d[i].toNat : Int)) = true := by
          simp
          intro he
          exact hy (UInt8.toNat_inj.1 (by omega))
        clear hy
        go_wp2_with fail
        go_quiet (fail)
        go_wp2_with fail
        go_ret
        exact ⟨by rw [E7.out]; rfl, by rw [EM.out]; exact H.out.later (by refine Since.out ?_; repeat (first | with_reducible assumption | with_reducible exact Since.refl _ | with_reducible refine Since.later ?_ (by with_reducible assumption) | with_reducible refine Since.only ?_ (by with_reducible assumption) (by first | assumption | omega | (simp; done) | (simp; omega)) | with_reducible refine Since.alloc ?_ _ | with_reducible refine Since.drewN ?_ _ | with_reducible refine Since.drew ?_ | with_reducible refine Since.set ?_ (by first | assumption | omega | (simp; done) | (simp; omega)) _)), Out.of_below (by refine Since.out ?_; repeat (first | with_reducible assumption | with_reducible exact Since.refl _ | with_reducible refine Since.later ?_ (by with_reducible assumption) | with_reducible refine Since.only ?_ (by with_reducible assumption) (by first | assumption | omega | (simp; done) | (simp; omega)) | with_reducible refine Since.alloc ?_ _ | with_reducible refine Since.drewN ?_ _ | with_reducible refine Since.drew ?_ | with_reducible refine Since.set ?_ (by first | assumption | omega | (simp; done) | (simp; omega)) _)) _⟩
end Go.Proofs.YtmfbaijbigodkaaGreatDoor

/-! A string made of bytes in memory, from any place of a block on. No condition but that the cells hold these bytes. -/
namespace Go.Proofs.YtmfbaijbigodkaaGreatDoor
open Go.ChangeShapes Go.WideShapes Go.ChangeAt Go.RowKit
set_option linter.unusedVariables false

theorem addr_off (g o i : Nat) : (⟨g, o, none⟩ : Addr).add i = ⟨g, o + i, none⟩ := by
  unfold Addr.add
  split
  · rename_i h; rw [h]; rfl
  · rfl
theorem conv_at {W : World} {g o n c : Nat} {bs : List UInt8} (hn : bs.length = n) (h : ∀ (j : Nat) b, bs[j]? = some b → W.cell? ⟨g, o + j, none⟩ = some (.int .u8 (b.toNat : Int))) :
    (convert 131 9 (.slice (some ⟨g, o, none⟩) n c)).run Tryz.prog W = .ok (.string ⟨bs.toArray⟩) W := by
  subst hn
  rw [run_convert_bytes_string W 131 9 5 (some ⟨g, o, none⟩) bs.length c Tryz.underlying131 Tryz.underlying5 Tryz.underlying9]
  have hl := run_loadCells_list (P := Tryz.prog) W ⟨g, o, none⟩ ((bs.map fun b => (b.toNat : Int)).map (Value.int .u8)) (fun j v hj => by
    rw [addr_off]
    simp only [List.getElem?_map, Option.map_map] at hj
    cases hb : bs[j]? with
    | none => rw [hb] at hj; simp at hj
    | some b => rw [hb] at hj; simp at hj; rw [← hj]; exact h j b hb)
  simp only [List.length_map] at hl
  rw [run_bytesToString W ⟨g, o, none⟩ bs.length c (bs.map fun b => (b.toNat : Int)) hl]
  have e : ∀ (l : List UInt8) (r : ByteArray), (l.map fun b => (b.toNat : Int)).foldl (fun r n => r.push (UInt8.ofNat n.toNat)) r = ⟨r.data ++ l.toArray⟩ := by
    intro l
    induction l with
    | nil => intro r; simp
    | cons x l ih => intro r; rw [List.map_cons, List.foldl_cons, ih]; simp [ByteArray.push]
  rw [e bs]
  have he0 : ByteArray.empty.data = #[] := rfl
  rw [he0]
  simp
end Go.Proofs.YtmfbaijbigodkaaGreatDoor

/-! Contract of package stream's Take. Condition: the block holds a stream as New and the calls leave it. -/
namespace Go.Proofs.YtmfbaijbigodkaaGreatDoor
open Go.ChangeShapes Go.WideShapes Go.ChangeAt Go.RowKit
set_option linter.unusedVariables false

def stkE (x : Int) : Int := if x < 0 then 1 else 0
def takeS (M : Plc) (t : Nat) (x : Int) : ByteArray := ⟨(cutL M t (takeK M t x)).toArray⟩
theorem takeK_neg {M : Plc} {t : Nat} {x : Int} (h : x < 0) : takeK M t x = 0 := by unfold takeK; omega
theorem takeS_neg {M : Plc} {t : Nat} {x : Int} (h : x < 0) : takeS M t x = ⟨#[]⟩ := by unfold takeS; rw [takeK_neg h]; rfl

set_option maxHeartbeats 1600000 in
set_option maxRecDepth 100000 in
theorem stake (g : Nat) (M : Plc) (t : Nat) (x : Int) (w : World) (h : Sz w g M t) :
    Calls Tryz.prog 46 #[.pointer (some ⟨g, 0, none⟩), .int .i64 x] w fun e w' => e = .returned (.tuple #[.string (takeS M t x), errV (stkE x)]) ∧ Sz w' g M (t + takeK M t x) ∧ Out w w' [g] := by
  have H := Lib.hid h
  have ht := h.most
  have lg := h.bl.lt
  have c0 := h.taken
  have f0 := h.bl.free
  have hr := readyN_le M t ht
  clear h
  by_cases hx : x < 0
  · have E : Hid (stkE x = 1) := Lib.hid (by unfold stkE; rw [if_pos hx])
    have ES := Lib.hid (takeS_neg (M := M) (t := t) hx)
    have EK := Lib.hid (takeK_neg (M := M) (t := t) hx)
    go_enter Tryz.func46, Tryz.ntmps46
    go_wp2_with fail
    go_ret2
    exact ⟨by rw [E.out, ES.out]; rfl, by rw [EK.out]; exact H.out, Out.refl _ _⟩
  have E : Hid (stkE x = 0) := Lib.hid (by unfold stkE; rw [if_neg hx])
  obtain ⟨k, hk⟩ : ∃ k, takeK M t x = k := ⟨_, rfl⟩
  have hkr : k ≤ readyN M t := by rw [← hk]; unfold takeK; omega
  have hmin : Hid ((if (readyN M t : Int) < x then (readyN M t : Int) else x) = (k : Int)) := Lib.hid (by rw [← hk]; unfold takeK; split <;> omega)
  have HK := Lib.hid hk
  have hx' : decide (x < 0) = false := by simpa using hx
  have htk : t + k ≤ 60 := by omega
  clear hk
  go_enter Tryz.func46, Tryz.ntmps46
  go_wp2_with fail
  have hF : ∀ w1 : World, Sz w1 g M t → w1.cell? ⟨g, 120, none⟩ = some (.int .i64 (t : Int)) ∧ (∀ i, w1.frozen? ⟨g, i, none⟩ = false) ∧ g < w1.heap.size := fun w1 h => ⟨h.taken, h.bl.free, h.bl.lt⟩
  have hm1 := hmin.out
  have hm2 : min x (readyN M t : Int) = (k : Int) := by have := hmin.out; split at this <;> omega
  have hm3 : min (readyN M t : Int) x = (k : Int) := by have := hmin.out; split at this <;> omega
  have hw : IntKind.i64.wrap ((t : Int) + (k : Int)) = ((t + k : Nat) : Int) := by rw [IntWalk.i64_in _ (by omega)]; rfl
  go_region_law (first | (go_simp; go_at_call 65; refine (sready g M t _ ?_).mono ?_; (first | exact H.out | exact H.out.drewN 1); rintro e w1 ⟨rfl, hb1⟩; have hs1 : Since w w1 := (by first | exact (Since.refl w).later hb1 | exact (Since.refl w).drew.later hb1); obtain ⟨d0, fz, ld⟩ := hF w1 (H.out.later hs1)))
  all_goals
    have HZ : Hid (Sz (w1.setCell ⟨g, 120, none⟩ (.int .i64 ((t : Int) + (k : Int)))) g M (t + k)) := Lib.hid ((H.out.later hs1).take htk)
    have HO : Hid (Out w (w1.setCell ⟨g, 120, none⟩ (.int .i64 ((t : Int) + (k : Int)))) [g]) := Lib.hid ((Out.of_below hs1 [g]).put (p := ⟨g, 120, none⟩) (Or.inl (by simp)) _)
    clear d0 fz ld
    generalize w1.setCell ⟨g, 120, none⟩ (.int .i64 ((t : Int) + (k : Int))) = w2 at *
    have d0 : w2.cell? ⟨g, 120, none⟩ = some (.int .i64 ((t : Int) + (k : Int))) := HZ.out.taken
    have ld := HZ.out.bl.lt
    have hcv : ∀ c n, (convert 131 9 (.slice (some ⟨g, 60 + t, none⟩) k c)).run Tryz.prog (w2.drewN n) = .ok (.string (takeS M t x)) (w2.drewN n) := by
      intro c n
      have h1 := conv_at (W := w2.drewN n) (g := g) (o := 60 + t) (n := k) (c := c) (bs := cutL M t k) (cutL_len M t k) (fun j b hj => by
        have hjk : j < k := by
          have := (List.getElem?_eq_some_iff.1 hj).1
          rw [cutL_len] at this
          exact this
        rw [cutL_get hjk] at hj
        have h2 := (HZ.out.drewN n).by_ (i := t + j) (by omega)
        rw [Option.some.inj hj] at h2
        rw [Nat.add_assoc]
        exact h2)
      rw [h1]
      unfold takeS
      rw [HK.out]
    have hE : ∀ n, (convert 131 9 (.slice (some (if 60 = t then (⟨g, 60, none⟩ : Addr) else ⟨g, 60 + t, none⟩)) (t + k - t) (60 - t))).run Tryz.prog (w2.drewN n) = .ok (.string (takeS M t x)) (w2.drewN n) := by
      intro n
      rw [Nat.add_sub_cancel_left]
      by_cases h60 : 60 = t
      · have hk0 : k = 0 := by omega
        have h1 := conv_at (W := w2.drewN n) (g := g) (o := 60) (n := 0) (c := 60 - t) (bs := []) rfl (fun j b hj => by simp at hj)
        have e1 : takeS M t x = ⟨#[]⟩ := by unfold takeS; rw [HK.out, hk0]; rfl
        rw [e1, hk0, if_pos h60]
        exact h1
      · rw [if_neg h60]
        exact hcv _ n
    have hc0 : (convert 131 9 (.slice (some (if 60 = t then (⟨g, 60, none⟩ : Addr) else ⟨g, 60 + t, none⟩)) (t + k - t) (60 - t))).run Tryz.prog w2 = .ok (.string (takeS M t x)) w2 := hE 0
    have hc1 : (convert 131 9 (.slice (some (if 60 = t then (⟨g, 60, none⟩ : Addr) else ⟨g, 60 + t, none⟩)) (t + k - t) (60 - t))).run Tryz.prog w2.drew = .ok (.string (takeS M t x)) w2.drew := hE 1
    have hc2 : (convert 131 9 (.slice (some (if 60 = t then (⟨g, 60, none⟩ : Addr) else ⟨g, 60 + t, none⟩)) (((t : Int) + (k : Int)).toNat - t) (60 - t))).run Tryz.prog w2 = .ok (.string (takeS M t x)) w2 := hE 0
    have hc3 : (convert 131 9 (.slice (some (if 60 = t then (⟨g, 60, none⟩ : Addr) else ⟨g, 60 + t, none⟩)) (((t : Int) + (k : Int)).toNat - t) (60 - t))).run Tryz.prog w2.drew = .ok (.string (takeS M t x)) w2.drew := hE 1
    have hs0 : (0 : Int) ≤ (t : Int) := by omega
    have hs1 : (t : Int) ≤ (t : Int) + (k : Int) := by omega
    have hs2 : (t : Int) + (k : Int) ≤ 60 := by omega
    clear hcv hE
    go_wp2_with fail
    go_region
    all_goals
      go_wp2_with fail
    all_goals
      go_ret2
      exact ⟨by rw [E.out]; rfl, by rw [HK.out]; exact ⟨HZ.out.bl, HZ.out.len, HZ.out.most⟩, by first | exact HO.out | exact HO.out.drew⟩
end Go.Proofs.YtmfbaijbigodkaaGreatDoor

/-! An end of a connection in memory, and several blocks that one call changes. No condition of its own. -/
namespace Go.Proofs.YtmfbaijbigodkaaGreatDoor
open Go.ChangeShapes Go.WideShapes Go.ChangeAt Go.RowKit
set_option linter.unusedVariables false

/-- one call changes several of the blocks -/
theorem Own.chg {w0 w w' : World} {S0 T : List Nat} {L L' : List Thing} (h : Own w0 S0 w L) (ho : Out w w' T) (I : Nat → Prop)
    (hT : ∀ k ∈ T, ∃ i t cs, L[i]? = some (Thing.block k t cs) ∧ I i)
    (hL : ∀ i t, L'[i]? = some t → (¬ I i ∧ L[i]? = some t) ∨ ∃ g ty cs cs', L[i]? = some (Thing.block g ty cs) ∧ t = Thing.block g ty cs' ∧ BlockIs w' g ty cs') : Own w0 S0 w' L' := by
  obtain ⟨own, ho1⟩ := h.has
  have hb : ∀ i g t cs, L[i]? = some (Thing.block g t cs) → own g = i ∧ (g ∈ S0 ∨ w0.heap.size ≤ g) := fun i g t cs hi => by
    obtain ⟨S, ⟨h1, rfl⟩, h2⟩ := ho1 i _ hi
    exact h2 g (by simp)
  refine ⟨h.out.then' ho (fun k hk => ?_), own, fun i t hi => ?_⟩
  · obtain ⟨j, ty, cs, hj, _⟩ := hT k hk
    exact (hb j k ty cs hj).2
  · rcases hL i t hi with ⟨hn, h1⟩ | ⟨g, ty, cs, cs', h1, rfl, h2⟩
    · obtain ⟨S, a, b⟩ := ho1 i t h1
      refine ⟨S, t.kept a ho (fun k hk hm => ?_), b⟩
      obtain ⟨j, ty, cs, hj, hI⟩ := hT k hm
      have e : j = i := ((hb j k ty cs hj).1).symm.trans (b k hk).1
      exact hn (e ▸ hI)
    · exact ⟨[g], ⟨h2, rfl⟩, fun k hk => by rw [List.mem_singleton.1 hk]; exact hb i g ty cs h1⟩
/-- one thing more, that a call has made -/
theorem Own.made {w0 w w' : World} {S0 : List Nat} {L : List Thing} {t : Thing} (h : Own w0 S0 w L) (hl : Leaves w w' [] t) : Own w0 S0 w' (L ++ [t]) := by
  obtain ⟨S', h1, h2, h3⟩ := hl
  exact h.add h2.none_ h1 (fun k hk => (h3 k hk).resolve_left (by simp))
theorem Leaves.below {w w' : World} {t : Thing} (h : Leaves w w' [] t) : Below w.heap.size w w' := by
  obtain ⟨S', h1, h2, h3⟩ := h
  exact h2.none_
theorem Own.nil_ {w0 w : World} {S0 : List Nat} {L : List Thing} (h : Own w0 S0 w L) (E size : Nat) : Own w0 S0 w (L ++ [Thing.lst E size (.slice none 0 0) []]) :=
  h.add (Below.refl _ _) (S := []) ⟨Lst.nil _ _ _, rfl⟩ (by simp)
/-- all cells of a block are written -/
theorem setCells_heap (g : Nat) : ∀ (vs : List Value) (o : Nat) (w : World) (t : TypeId) (cs : Array Value) (fz : Nat × Nat), w.heap[g]? = some (.cells cs t fz) → o + vs.length ≤ cs.size →
    (w.setCells g o vs).heap[g]? = some (.cells (cs.toList.take o ++ vs ++ cs.toList.drop (o + vs.length)).toArray t fz)
  | [], o, w, t, cs, fz, h, hl => by
    show w.heap[g]? = _
    rw [h]
    simp
  | v :: vs, o, w, t, cs, fz, h, hl => by
    rw [World.setCells]
    have h1 : (w.setCell ⟨g, o, none⟩ v).heap[g]? = some (.cells (cs.setIfInBounds o v) t fz) := by
      simp [World.setCell, Array.getElem?_modify, h]
    rw [List.length_cons] at hl
    rw [setCells_heap g vs (o + 1) _ t _ fz h1 (by rw [Array.size_setIfInBounds]; omega)]
    have ho : o < cs.toList.length := by rw [Array.length_toList]; omega
    have e : (cs.setIfInBounds o v).toList.take (o + 1) ++ vs ++ (cs.setIfInBounds o v).toList.drop (o + 1 + vs.length) = cs.toList.take o ++ (v :: vs) ++ cs.toList.drop (o + (v :: vs).length) := by
      rw [Array.toList_setIfInBounds, List.take_succ_eq_append_getElem (by rw [List.length_set]; exact ho), List.getElem_set_self, List.take_set_of_le (Nat.le_refl _), List.drop_set_of_lt (by omega), List.length_cons, show o + 1 + vs.length = o + (vs.length + 1) by omega]
      simp
    rw [e]
theorem BlockIs.puts {w : World} {g : Nat} {t : TypeId} {cs : Array Value} (h : BlockIs w g t cs) {vs : List Value} (hl : vs.length = cs.size) : BlockIs (w.setCells g 0 vs) g t vs.toArray := by
  have := setCells_heap g vs 0 w t cs (0, 0) h (by omega)
  unfold BlockIs
  rw [this]
  have e : cs.toList.drop (0 + vs.length) = [] := List.drop_eq_nil_of_le (by rw [Array.length_toList]; omega)
  rw [e]
  simp
theorem Out.setCells {w w' : World} {S : List Nat} (h : Out w w' S) {g : Nat} (hg : g ∈ S ∨ w.heap.size ≤ g) : ∀ (vs : List Value) (o : Nat), Out w (w'.setCells g o vs) S := by
  intro vs
  induction vs generalizing w' with
  | nil => intro o; exact h
  | cons v vs ih => intro o; rw [World.setCells]; exact ih (h.put (p := ⟨g, o, none⟩) hg v) (o + 1)
theorem BlockIs.range {w : World} {g : Nat} {t : TypeId} {cs : Array Value} (h : BlockIs w g t cs) : w.rangeAt g 0 cs.toList := fun j v hv => by
  rw [Nat.zero_add, h.cell j]
  simpa using hv
theorem BlockIs.there {w : World} {g : Nat} {t : TypeId} {cs : Array Value} (h : BlockIs w g t cs) : w.there g 0 cs.size := fun j hj => by
  rw [Nat.zero_add]
  exact ⟨by rw [h.cell j, Array.getElem?_eq_getElem hj]; rfl, h.free j⟩

/-- a piece's cells -/
def pcRow (p : Pc) : List Value := [.int .i64 p.at_, .string p.d]
theorem pcRow_one (p : Pc) : (pcRow p).length = 2 ∧ ∀ u ∈ pcRow p, u.oneCell' = true := ⟨rfl, by intro u hu; simp [pcRow] at hu; rcases hu with rfl | rfl <;> rfl⟩
theorem Tryz.elPc : Elem Tryz.prog 95 98 2 24 := ⟨Tryz.underlying95, ⟨.agg #[.int .i64 0, .string ByteArray.empty], rfl, by kernel_rfl⟩, by decide, by decide⟩
theorem Tryz.elPcs : Elem Tryz.prog 43 95 1 24 := ⟨Tryz.underlying43, ⟨.slice none 0 0, rfl, by kernel_rfl⟩, by decide, by decide⟩
/-- an end's cells -/
def enCells (s : EnS) (mv cv : Value) (gi gl : Nat) : List Value :=
  .string s.data :: (s.told.map Value.bool ++ [.int .i64 s.may, mv, .int .i64 s.known, cv, .pointer (some ⟨gi, 0, none⟩), .pointer (some ⟨gl, 0, none⟩)])
theorem enCells_data (s : EnS) (mv cv : Value) (gi gl : Nat) : (enCells s mv cv gi gl).toArray[0]? = some (.string s.data) := by simp [enCells]
section
variable {s : EnS} (mv cv : Value) (gi gl : Nat) (h : s.told.length = 60)
include h
theorem enCells_len : (enCells s mv cv gi gl).length = 67 := by unfold enCells; simp [h]
theorem enCells_told {i : Nat} (hi : i < 60) : (enCells s mv cv gi gl).toArray[1 + i]? = some (.bool (tat s.told i)) := by
  unfold enCells tat
  rw [List.getElem?_toArray, Nat.add_comm, List.getElem?_cons_succ, List.getElem?_append_left (by rw [List.length_map]; omega), List.getElem?_map, List.getElem?_eq_getElem (by omega)]
  simp [List.getD, List.getElem?_eq_getElem (show i < s.told.length by omega)]
theorem enCells_tail (k : Nat) : (enCells s mv cv gi gl).toArray[61 + k]? = ([.int .i64 s.may, mv, .int .i64 s.known, cv, .pointer (some ⟨gi, 0, none⟩), .pointer (some ⟨gl, 0, none⟩)] : List Value)[k]? := by
  unfold enCells
  rw [List.getElem?_toArray, show 61 + k = (60 + k) + 1 by omega, List.getElem?_cons_succ, List.getElem?_append_right (by rw [List.length_map]; omega), List.length_map, h, Nat.add_sub_cancel_left]
theorem enCells_setTail (k : Nat) (u : Value) : (enCells s mv cv gi gl).toArray.setIfInBounds (61 + k) u = (.string s.data :: (s.told.map Value.bool ++ ([.int .i64 s.may, mv, .int .i64 s.known, cv, .pointer (some ⟨gi, 0, none⟩), .pointer (some ⟨gl, 0, none⟩)] : List Value).set k u)).toArray := by
  unfold enCells
  rw [List.setIfInBounds_toArray, show 61 + k = (60 + k) + 1 by omega, List.set_cons_succ, List.set_append_right _ _ (by rw [List.length_map]; omega), List.length_map, h, Nat.add_sub_cancel_left]
theorem enCells_setTold {i : Nat} (hi : i < 60) (b : Bool) : (enCells s mv cv gi gl).toArray.setIfInBounds (1 + i) (.bool b) = (enCells { s with told := s.told.set i b } mv cv gi gl).toArray := by
  unfold enCells
  rw [List.setIfInBounds_toArray, Nat.add_comm, List.set_cons_succ, List.set_append_left _ _ (by rw [List.length_map]; omega), ← List.map_set]
end
theorem enCells_one (s : EnS) {mv cv : Value} (hm : mv.oneCell' = true) (hc : cv.oneCell' = true) (gi gl : Nat) : ∀ v ∈ enCells s mv cv gi gl, v.oneCell' = true := by
  intro v hv
  unfold enCells at hv
  rcases List.mem_cons.1 hv with rfl | hv
  · rfl
  · rcases List.mem_append.1 hv with hv | hv
    · obtain ⟨b, _, rfl⟩ := List.mem_map.1 hv; rfl
    · simp at hv
      rcases hv with rfl | rfl | rfl | rfl | rfl | rfl <;> first | rfl | assumption
/-- where an end's parts lie -/
structure EnP where
  gi : Nat
  gl : Nat
  mv : Value
  cv : Value
  vs : List Value
/-- the lists of pieces -/
def inner : List Value → List (List Pc) → List Thing
  | v :: vs, ps :: L => Thing.lst 98 2 v (ps.map pcRow) :: inner vs L
  | _, _ => []
theorem inner_get : ∀ {vs : List Value} {L : List (List Pc)} {i : Nat} {v : Value} {ps : List Pc}, vs[i]? = some v → L[i]? = some ps → (inner vs L)[i]? = some (Thing.lst 98 2 v (ps.map pcRow))
  | v' :: vs, ps' :: L, 0, v, ps, h1, h2 => by simp at h1 h2; subst h1 h2; rfl
  | v' :: vs, ps' :: L, i + 1, v, ps, h1, h2 => inner_get (vs := vs) (L := L) (by simpa using h1) (by simpa using h2)
  | [], _, i, v, ps, h1, _ => by simp at h1
  | _ :: _, [], i, v, ps, _, h2 => by simp at h2
theorem inner_snoc : ∀ {vs : List Value} {L : List (List Pc)} (v : Value) (ps : List Pc), vs.length = L.length → inner (vs ++ [v]) (L ++ [ps]) = inner vs L ++ [Thing.lst 98 2 v (ps.map pcRow)]
  | [], [], v, ps, _ => rfl
  | v' :: vs, ps' :: L, v, ps, h => by
    show _ :: inner (vs ++ [v]) (L ++ [ps]) = _ :: (inner vs L ++ _)
    rw [inner_snoc v ps (by simpa using h)]
  | [], _ :: _, v, ps, h => by simp at h
  | _ :: _, [], v, ps, h => by simp at h
def enParts (g : Nat) (s : EnS) (p : EnP) : List Thing :=
  Thing.block g 83 (enCells s p.mv p.cv p.gi p.gl).toArray :: Thing.block p.gi 146 (strCells s.M s.t) :: Thing.block p.gl 143 (credCells s.W s.L s.C s.R) ::
    Thing.lst 95 1 p.mv (p.vs.map fun v => [v]) :: Thing.lst 101 2 p.cv (s.came.map rngRow) :: inner p.vs s.made
/-- an end at g -/
def endT (g : Nat) (s : EnS) : Thing := Thing.ex fun p : EnP => Thing.with_ (EnOk s ∧ p.vs.length = s.made.length) (Thing.all (enParts g s p))
/-- an end, opened -/
structure EnIn (w : World) (S : List Nat) (g : Nat) (s : EnS) (p : EnP) : Prop where
  ok : EnOk s
  len : p.vs.length = s.made.length
  own : Own w S w (enParts g s p)
theorem endT_open {w : World} {S : List Nat} {g : Nat} {s : EnS} (h : (endT g s).is w S) : ∃ p, EnIn w S g s p := by
  obtain ⟨p, ⟨h1, h2⟩, h3⟩ := h
  exact ⟨p, h1, h2, Own.unfold_ h3⟩
theorem endT_close {w w' : World} {S : List Nat} {g : Nat} {s : EnS} {p : EnP} (h1 : EnOk s) (h2 : p.vs.length = s.made.length) (h : Own w S w' (enParts g s p)) : Leaves w w' S (endT g s) :=
  Leaves.ex p (Leaves.with_ ⟨h1, h2⟩ h.closed)
namespace EnIn
variable {w : World} {S : List Nat} {g : Nat} {s : EnS} {p : EnP} (h : EnIn w S g s p)
include h
theorem bg : BlockIs w g 83 (enCells s p.mv p.cv p.gi p.gl).toArray := h.own.blk 0 rfl
theorem sz : Sz w p.gi s.M s.t := ⟨h.own.blk 1 rfl, h.ok.ml, h.ok.tt⟩
theorem bl : BlockIs w p.gl 143 (credCells s.W s.L s.C s.R) := h.own.blk 2 rfl
theorem lm : Lst w 95 1 p.mv (p.vs.map fun v => [v]) := h.own.ls 3 rfl
theorem lc : Lst w 101 2 p.cv (s.came.map rngRow) := h.own.ls 4 rfl
theorem lp {i : Nat} {v : Value} {ps : List Pc} (h1 : p.vs[i]? = some v) (h2 : s.made[i]? = some ps) : Lst w 98 2 v (ps.map pcRow) := h.own.ls (i + 5) (inner_get h1 h2)
theorem c0 : w.cell? ⟨g, 0, none⟩ = some (.string s.data) := (h.bg.cell 0).trans (enCells_data _ _ _ _ _)
theorem ct {i : Nat} (hi : i < 60) : w.cell? ⟨g, 1 + i, none⟩ = some (.bool (tat s.told i)) := (h.bg.cell _).trans (enCells_told _ _ _ _ h.ok.tl hi)
theorem c61 : w.cell? ⟨g, 61, none⟩ = some (.int .i64 s.may) := (h.bg.cell 61).trans (enCells_tail _ _ _ _ h.ok.tl 0)
theorem c62 : w.cell? ⟨g, 62, none⟩ = some p.mv := (h.bg.cell 62).trans (enCells_tail _ _ _ _ h.ok.tl 1)
theorem c63 : w.cell? ⟨g, 63, none⟩ = some (.int .i64 s.known) := (h.bg.cell 63).trans (enCells_tail _ _ _ _ h.ok.tl 2)
theorem c64 : w.cell? ⟨g, 64, none⟩ = some p.cv := (h.bg.cell 64).trans (enCells_tail _ _ _ _ h.ok.tl 3)
theorem c65 : w.cell? ⟨g, 65, none⟩ = some (.pointer (some ⟨p.gi, 0, none⟩)) := (h.bg.cell 65).trans (enCells_tail _ _ _ _ h.ok.tl 4)
theorem c66 : w.cell? ⟨g, 66, none⟩ = some (.pointer (some ⟨p.gl, 0, none⟩)) := (h.bg.cell 66).trans (enCells_tail _ _ _ _ h.ok.tl 5)
end EnIn
end Go.Proofs.YtmfbaijbigodkaaGreatDoor

/-! Contracts of package end: New, Write, Ready, Acked, next. Condition: the blocks hold an end as New and the calls leave it. -/
namespace Go.Proofs.YtmfbaijbigodkaaGreatDoor
open Go.ChangeShapes Go.WideShapes Go.ChangeAt Go.RowKit
set_option linter.unusedVariables false

set_option maxRecDepth 100000 in
theorem enew (n : Int) (h1 : 1 ≤ n) (h2 : n ≤ 1000) (w : World) :
    Calls Tryz.prog 8 #[.int .i64 n] w fun e w' => ∃ g, e = .returned (.tuple #[.pointer (some ⟨g, 0, none⟩), .nilIface]) ∧ Leaves w w' [] (endT g (EnS.new n)) := by
  have H1 := Lib.hid h1
  have H2 := Lib.hid h2
  go_enter Tryz.func8, Tryz.ntmps8
  go_wp2_with (first | (go_at_call 40; refine (cnew_yes n h1 h2 _).mono ?_; rintro e w1 ⟨rfl, rfl⟩) | (go_at_call 41; refine (snew _).mono ?_; rintro e w1 ⟨rfl, hz, hb⟩))
  go_ret2
  refine ⟨w1.heap.size, rfl, endT_close (p := ⟨w.heap.size + 1, w.heap.size, .slice none 0 0, .slice none 0 0, []⟩) (EnOk.new H1.out H2.out) rfl ?_⟩
  have ec : ((((Tryz.zeroCells83.setIfInBounds 61 (Value.int IntKind.i64 n)).setIfInBounds 63 (Value.int IntKind.i64 (-1))).setIfInBounds 65 (Value.pointer (some { block := w.heap.size + 1, off := 0 }))).setIfInBounds 66 (Value.pointer (some { block := w.heap.size, off := 0 }))) = (enCells (EnS.new n) (.slice none 0 0) (.slice none 0 0) (w.heap.size + 1) w.heap.size).toArray := by kernel_rfl
  rw [World.size_alloc] at hz
  have o1 := (Own.start w).alloc 143 (credCells n n 0 0)
  have o2 := o1.add hb (S := [_]) (t := Thing.block _ 146 (strCells Plc.new 0)) ⟨hz.bl, rfl⟩ (by simp)
  have o3 := ((o2.alloc 83 (enCells (EnS.new n) (.slice none 0 0) (.slice none 0 0) (w.heap.size + 1) w.heap.size).toArray).nil_ 95 1).nil_ 101 2
  show Own w [] (w1.alloc (.cells ((((Tryz.zeroCells83.setIfInBounds 61 (Value.int IntKind.i64 n)).setIfInBounds 63 (Value.int IntKind.i64 (-1))).setIfInBounds 65 (Value.pointer (some { block := w.heap.size + 1, off := 0 }))).setIfInBounds 66 (Value.pointer (some { block := w.heap.size, off := 0 }))) 83)) _
  rw [ec]
  refine Own.pick o3 [2, 1, 0, 3, 4] (by decide) (fun i t hi => ?_)
  match i, hi with
  | 0, hi => exact ⟨2, rfl, hi⟩
  | 1, hi => exact ⟨1, rfl, hi⟩
  | 2, hi => exact ⟨0, rfl, hi⟩
  | 3, hi => exact ⟨3, rfl, hi⟩
  | 4, hi => exact ⟨4, rfl, hi⟩
/-- Write: its own cell alone is written -/
theorem ewrite (g : Nat) (s : EnS) (d : ByteArray) (w : World) (S : List Nat) (h : (endT g s).is w S) (hd : d.size ≤ 9223372036854775000) :
    Calls Tryz.prog 11 #[.pointer (some ⟨g, 0, none⟩), .string d] w fun e w' => e = .returned (errV (s.writeE d)) ∧ Leaves w w' S (endT g (s.write d)) := by
  obtain ⟨p, hp⟩ := endT_open h
  have H := Lib.hid h
  have HP := Lib.hid hp
  have c0 := hp.c0
  have lg := hp.bg.lt
  have fg := hp.bg.free
  have hz := hp.ok.dz
  have hw : IntKind.i64.wrap ((s.data.size : Int) + (d.size : Int)) = (s.data.size : Int) + (d.size : Int) := IntWalk.i64_in _ (by omega)
  clear h hp
  by_cases hf : 60 < s.data.size + d.size
  · have HE : Hid (s.writeE d = 4 ∧ s.write d = s) := Lib.hid ⟨by unfold EnS.writeE; rw [if_pos hf], by unfold EnS.write; rw [if_pos hf]⟩
    rw [HE.out.1, HE.out.2]
    have hb : (60 : Int) < (s.data.size : Int) + (d.size : Int) := by omega
    clear hf
    go_enter Tryz.func11, Tryz.ntmps11
    trace "A"; go_wp2_with fail
    go_ret
    exact ⟨rfl, Leaves.same H.out (Below.refl _ _)⟩
  · have HE : Hid (s.writeE d = 0 ∧ s.write d = { s with data := s.data ++ d }) := Lib.hid ⟨by unfold EnS.writeE; rw [if_neg hf], by unfold EnS.write; rw [if_neg hf]⟩
    have HW := Lib.hid (HP.out.ok.write d)
    rw [HE.out.2] at HW
    rw [HE.out.1, HE.out.2]
    have hb : decide ((60 : Int) < (s.data.size : Int) + (d.size : Int)) = false := by simp; omega
    have hc : (9223372036854775807 < s.data.size + d.size) = False := by simp; omega
    clear hf
    go_enter Tryz.func11, Tryz.ntmps11
    trace "B"; go_wp2_with fail
    go_ret
    refine ⟨rfl, endT_close (p := p) HW.out HP.out.len ?_⟩
    have o := HP.out.own.put 0 rfl 0 (.string (s.data ++ d))
    exact o
theorem enext (g : Nat) (s : EnS) (w : World) (S : List Nat) (h : (endT g s).is w S) :
    Calls Tryz.prog 54 #[.pointer (some ⟨g, 0, none⟩)] w fun e w' => e = .returned (.int .i64 (nextN s.came)) ∧ w = w' := by
  obtain ⟨p, hp⟩ := endT_open h
  have HP := Lib.hid hp
  have c64 := hp.c64
  have lg := hp.bg.lt
  obtain ⟨A, cap, hv, hcl, hcm, hsh⟩ := hp.lc.shape
  rw [List.length_map] at hv hcl
  clear h hp
  by_cases h0 : s.came = []
  · have HE : Hid (nextN s.came = 0) := Lib.hid (by unfold nextN; rw [if_pos h0])
    rw [HE.out]
    rw [hv, h0] at c64
    clear hv h0 hsh hcl hcm
    go_enter Tryz.func54, Tryz.ntmps54
    go_wp2_with fail
    go_ret
    exact ⟨rfl, rfl⟩
  · have hl : 0 < s.came.length := List.length_pos_iff.2 h0
    have hr := rngE_ok HP.out.ok.cm (rat s.came 0) (by rw [rat_get hl]; exact List.getElem_mem _)
    have HE : Hid (nextN s.came = min 1073741823 ((rat s.came 0).hi + 1)) := Lib.hid (by unfold nextN; rw [if_neg h0])
    have hrd := Rd.of_lst HP.out.lc
    rw [hv] at hrd
    obtain ⟨b, off, rfl, hlt, hcc⟩ := hrd.rng hl
    obtain ⟨-, e1⟩ := hcc w (Since.refl w) 0 hl
    rw [hv] at c64
    rw [HE.out]
    have hb1 : (0 : Int) < (s.came.length : Int) := by omega
    have hne : ¬ ((s.came.length : Int) = 0) := by omega
    have hne2 : ((s.came.length : Int) == 0) = false := by simpa using hne
    have hwr : IntKind.i64.wrap ((rat s.came 0).hi + 1) = (rat s.came 0).hi + 1 := IntWalk.i64_in _ (by omega)
    rw [Nat.zero_mul, Nat.add_zero] at e1
    generalize rat s.came 0 = r at *
    clear hv h0 hsh hcm hcc hrd HE hr hne
    trace "C"; go_enter Tryz.func54, Tryz.ntmps54
    trace "D"; go_wp2_with fail
    go_ret
    exact ⟨rfl, rfl⟩
/-- a stream's block was written -/
theorem Own.chg1 {w0 w w' : World} {S0 : List Nat} {L : List Thing} (h : Own w0 S0 w L) (i : Nat) {g : Nat} {t : TypeId} {cs cs' : Array Value} (hi : L[i]? = some (Thing.block g t cs)) (hb : BlockIs w' g t cs') (ho : Out w w' [g]) : Own w0 S0 w' (L.set i (Thing.block g t cs')) := by
  obtain ⟨S, ⟨h1, rfl⟩, h2⟩ := h.at_ i hi
  exact h2 _ _ (Leaves.block hb ho)
theorem eread (g : Nat) (s : EnS) (n : Int) (w : World) (S : List Nat) (h : (endT g s).is w S) :
    Calls Tryz.prog 14 #[.pointer (some ⟨g, 0, none⟩), .int .i64 n] w fun e w' => e = .returned (.tuple #[.string (s.readS n), errV (EnS.readE n)]) ∧ Leaves w w' S (endT g (s.read n)) := by
  obtain ⟨p, hp⟩ := endT_open h
  have H := Lib.hid h
  have HP := Lib.hid hp
  have c65 := hp.c65
  have lg := hp.bg.lt
  clear h hp
  by_cases hn : n < 0
  · have HE : Hid (EnS.readE n = 1 ∧ s.readS n = ⟨#[]⟩ ∧ s.read n = s) := Lib.hid ⟨by unfold EnS.readE; rw [if_pos hn], by unfold EnS.readS; rw [if_pos hn], by unfold EnS.read; rw [if_pos hn]⟩
    rw [HE.out.1, HE.out.2.1, HE.out.2.2]
    go_enter Tryz.func14, Tryz.ntmps14
    go_wp2_with fail
    go_ret2
    exact ⟨rfl, Leaves.same H.out (Below.refl _ _)⟩
  · have hn' : decide (n < 0) = false := by simpa using hn
    obtain ⟨k, hk⟩ : ∃ k, takeK s.M s.t n = k := ⟨_, rfl⟩
    obtain ⟨T, hT⟩ : ∃ T, takeS s.M s.t n = T := ⟨_, rfl⟩
    have hTk : T.size = k := by
      rw [← hT, ← hk]
      show (cutL s.M s.t (takeK s.M s.t n)).toArray.size = _
      rw [List.size_toArray, cutL_len]
    have HE : Hid (EnS.readE n = 0 ∧ s.readS n = T ∧ s.read n = { s with t := s.t + k, L := limitN s.W s.L s.R k, R := s.R + k }) := Lib.hid ⟨by unfold EnS.readE; rw [if_neg hn], by unfold EnS.readS; rw [if_neg hn]; exact hT, by unfold EnS.read; rw [if_neg hn, hk]⟩
    have HW := Lib.hid (HP.out.ok.read n)
    rw [HE.out.2.2] at HW
    have HRD := Lib.hid (HP.out.ok.readOk n).1
    have HS := Lib.hid (stake p.gi s.M s.t n w HP.out.sz)
    have HQ : Hid (stkE n = 0) := Lib.hid (by unfold stkE; rw [if_neg hn])
    rw [hk] at HRD
    rw [hT, hk, HQ.out, errV_zero] at HS
    rw [HE.out.1, HE.out.2.1, HE.out.2.2, errV_zero]
    have HTK := Lib.hid hTk
    clear hn hk hT hTk HE HQ
    go_enter Tryz.func14, Tryz.ntmps14
    go_wp2_with fail
    refine HS.out.mono ?_
    rintro e w1 ⟨rfl, hz, ho⟩
    have HO := Lib.hid (HP.out.own.chg1 1 rfl hz.bl ho)
    have d66 : w1.cell? ⟨g, 66, none⟩ = some (.pointer (some ⟨p.gl, 0, none⟩)) := (HO.out.blk 0 rfl).cell 66 |>.trans (enCells_tail _ _ _ _ HP.out.ok.tl 5)
    have lg1 := (HO.out.blk 0 rfl).lt
    have HC := Lib.hid (cread_any p.gl s.W s.L s.C s.R k HP.out.ok.cr w1 (HO.out.blk 2 rfl))
    unfold rL rR rV at HC
    rw [HRD.out, errV_zero, if_pos rfl, if_pos rfl, if_pos rfl] at HC
    have hsz : (T.size : Int) = (k : Int) := by rw [HTK.out]
    clear hz ho
    trace "A"; go_wp2_with fail
    refine HC.out.mono ?_
    rintro e w2 ⟨rfl, hb2, ho2⟩
    have HO2 := Lib.hid (HO.out.chg1 2 rfl hb2 (Out.of_only ho2))
    clear hb2 ho2
    trace "B"; go_wp2_with fail
    go_ret2
    exact ⟨rfl, endT_close (p := p) HW.out HP.out.len HO2.out⟩
end Go.Proofs.YtmfbaijbigodkaaGreatDoor

/-! Contracts of stream's and credit's Own: a copy in a block of its own. Condition: the blocks hold what New and the calls leave. -/
namespace Go.Proofs.YtmfbaijbigodkaaGreatDoor
open Go.ChangeShapes Go.WideShapes Go.ChangeAt Go.RowKit
set_option linter.unusedVariables false

/-- a block of the call's own, all its cells written -/
theorem fresh_puts {w : World} {t : TypeId} {z : Array Value} {cs : List Value} (hz : z.size = cs.length) : BlockIs ((w.alloc (.cells z t)).setCells w.heap.size 0 cs) w.heap.size t cs.toArray ∧ Below w.heap.size w ((w.alloc (.cells z t)).setCells w.heap.size 0 cs) :=
  ⟨(BlockIs.fresh w t z).puts hz.symm, (((Out.refl w []).alloc _).setCells (Or.inr (Nat.le_refl _)) cs 0).none_⟩
theorem fresh_there {w : World} {t : TypeId} {z : Array Value} {cs : List Value} (hz : z.size = cs.length) : (w.alloc (.cells z t)).there w.heap.size 0 cs.toArray.size := by
  have := (BlockIs.fresh w t z).there
  rw [hz] at this
  rw [List.size_toArray]
  exact this
theorem strCells_len {M : Plc} (hM : M.length = 60) (t : Nat) : (strCells M t).toList.length = 121 := by unfold strCells; simp [hM]
theorem strCells_one (M : Plc) (t : Nat) : ∀ v ∈ (strCells M t).toList, v.oneCell' = true := by
  intro v hv
  unfold strCells at hv
  rcases List.mem_append.1 hv with hv | hv
  · obtain ⟨o, _, rfl⟩ := List.mem_map.1 hv; rfl
  · rcases List.mem_append.1 hv with hv | hv
    · obtain ⟨o, _, rfl⟩ := List.mem_map.1 hv; rfl
    · rw [List.mem_singleton.1 hv]; rfl
set_option maxRecDepth 100000 in
theorem sown (g : Nat) (M : Plc) (t : Nat) (w : World) (h : Sz w g M t) :
    Calls Tryz.prog 98 #[.pointer (some ⟨g, 0, none⟩)] w fun e w' => e = .returned (.pointer (some ⟨w.heap.size, 0, none⟩)) ∧ Sz w' w.heap.size M t ∧ Below w.heap.size w w' := by
  have H := Lib.hid h
  have HR := Lib.hid h.bl.range
  have hlen := strCells_len h.len t
  have HI : Hid ((Tryz.prog.info? 146).map (·.size) = some (strCells M t).toList.length) := Lib.hid (by rw [hlen]; kernel_rfl)
  have HL := Lib.hid hlen
  obtain ⟨cs, hcs⟩ : ∃ cs, (strCells M t).toList = cs := ⟨_, rfl⟩
  have HO : Hid (∀ v ∈ cs, v.oneCell' = true) := Lib.hid (hcs ▸ strCells_one M t)
  rw [hcs] at HR HI HL
  have HCS : Hid (strCells M t = cs.toArray) := Lib.hid (by rw [← hcs])
  have HZ : Hid (Tryz.zeroCells146.size = cs.length) := Lib.hid (by rw [HL.out]; kernel_rfl)
  have HF := Lib.hid (fresh_puts (w := w) (t := 146) HZ.out)
  have HT := Lib.hid (fresh_there (w := w) (t := 146) HZ.out)
  have lg := h.bl.lt
  clear h hlen hcs
  go_enter Tryz.func98, Tryz.ntmps98
  go_wp2_with (first | (refine wpList_load_mid rfl 146 (.tmp 5) rfl g 0 (by go_simp) cs _ HR.out Tryz.underlying146 rfl HI.out ?_) | (refine wpList_store_mid rfl 146 (.tmp 3) (.tmp 6) rfl w.heap.size 0 cs.toArray (by go_simp) (by go_simp) HT.out (by rw [HI.out, List.size_toArray]) (all_oneCell_toArray HO.out) ?_))
  go_ret
  refine ⟨rfl, ⟨?_, H.out.len, H.out.most⟩, HF.out.2⟩
  rw [HCS.out]
  exact HF.out.1
theorem cown (g : Nat) (W L C R : Int) (w : World) (hb : BlockIs w g 143 (credCells W L C R)) :
    Calls Tryz.prog 99 #[.pointer (some ⟨g, 0, none⟩)] w fun e w' => e = .returned (.pointer (some ⟨w.heap.size, 0, none⟩)) ∧ BlockIs w' w.heap.size 143 (credCells W L C R) ∧ Below w.heap.size w w' := by
  have c0 : w.cell? ⟨g, 0, none⟩ = some (.int .i64 W) := hb.cell 0
  have c1 : w.cell? ⟨g, 1, none⟩ = some (.int .i64 L) := hb.cell 1
  have c2 : w.cell? ⟨g, 2, none⟩ = some (.int .i64 C) := hb.cell 2
  have c3 : w.cell? ⟨g, 3, none⟩ = some (.int .i64 R) := hb.cell 3
  have lg := hb.lt
  clear hb
  go_enter Tryz.func99, Tryz.ntmps99
  go_wp2_with fail
  go_ret
  exact ⟨rfl, BlockIs.fresh _ _ _, (by refine Since.out ?_; repeat (first | with_reducible assumption | with_reducible exact Since.refl _ | with_reducible refine Since.later ?_ (by with_reducible assumption) | with_reducible refine Since.only ?_ (by with_reducible assumption) (by first | assumption | omega | (simp; done) | (simp; omega)) | with_reducible refine Since.alloc ?_ _ | with_reducible refine Since.drewN ?_ _ | with_reducible refine Since.drew ?_ | with_reducible refine Since.set ?_ (by first | assumption | omega | (simp; done) | (simp; omega)) _))⟩
end Go.Proofs.YtmfbaijbigodkaaGreatDoor

/-! Contract of an end's own: a copy of it, with a stream and a credit of its own. Condition: the blocks hold an end as New and the calls leave it. -/
namespace Go.Proofs.YtmfbaijbigodkaaGreatDoor
open Go.ChangeShapes Go.WideShapes Go.ChangeAt Go.RowKit
set_option linter.unusedVariables false

section
variable {s : EnS} (mv cv : Value) (gi gl : Nat) (h : s.told.length = 60)
include h
theorem enCells_61 (z : Int) : (enCells s mv cv gi gl).toArray.setIfInBounds 61 (.int .i64 z) = (enCells { s with may := z } mv cv gi gl).toArray := enCells_setTail mv cv gi gl h 0 _
theorem enCells_62 (mv' : Value) : (enCells s mv cv gi gl).toArray.setIfInBounds 62 mv' = (enCells s mv' cv gi gl).toArray := enCells_setTail mv cv gi gl h 1 _
theorem enCells_63 (z : Int) : (enCells s mv cv gi gl).toArray.setIfInBounds 63 (.int .i64 z) = (enCells { s with known := z } mv cv gi gl).toArray := enCells_setTail mv cv gi gl h 2 _
theorem enCells_64 (cv' : Value) : (enCells s mv cv gi gl).toArray.setIfInBounds 64 cv' = (enCells s mv cv' gi gl).toArray := enCells_setTail mv cv gi gl h 3 _
theorem enCells_65 (gi' : Nat) : (enCells s mv cv gi gl).toArray.setIfInBounds 65 (.pointer (some ⟨gi', 0, none⟩)) = (enCells s mv cv gi' gl).toArray := enCells_setTail mv cv gi gl h 4 _
theorem enCells_66 (gl' : Nat) : (enCells s mv cv gi gl).toArray.setIfInBounds 66 (.pointer (some ⟨gl', 0, none⟩)) = (enCells s mv cv gi gl').toArray := enCells_setTail mv cv gi gl h 5 _
end
set_option maxRecDepth 100000 in
set_option maxHeartbeats 1600000 in
theorem eown (g : Nat) (s : EnS) (p : EnP) (w : World) (S : List Nat) (h : EnIn w S g s p) :
    Calls Tryz.prog 56 #[.pointer (some ⟨g, 0, none⟩)] w fun e w' => ∃ gi' gl', e = .returned (.pointer (some ⟨w.heap.size, 0, none⟩)) ∧ BlockIs w' w.heap.size 83 (enCells s p.mv p.cv gi' gl').toArray ∧ BlockIs w' gi' 146 (strCells s.M s.t) ∧ BlockIs w' gl' 143 (credCells s.W s.L s.C s.R) ∧ w.heap.size ≤ gi' ∧ w.heap.size ≤ gl' ∧ Below w.heap.size w w' := by
  have H := Lib.hid h
  have hlen := enCells_len p.mv p.cv p.gi p.gl h.ok.tl
  obtain ⟨cs, hcs⟩ : ∃ cs, enCells s p.mv p.cv p.gi p.gl = cs := ⟨_, rfl⟩
  obtain ⟨Am, cm, hm, -⟩ := h.lm.shape
  obtain ⟨Ac, cc, hc, -⟩ := h.lc.shape
  have HO : Hid (∀ v ∈ cs, v.oneCell' = true) := Lib.hid (hcs ▸ enCells_one s (by rw [hm]; rfl) (by rw [hc]; rfl) p.gi p.gl)
  have hbg := h.bg
  rw [hcs] at hbg hlen
  have HL := Lib.hid hlen
  have HR : Hid (w.rangeAt g 0 cs) := Lib.hid (by have := hbg.range; simpa using this)
  have HI : Hid ((Tryz.prog.info? 83).map (·.size) = some cs.length) := Lib.hid (by rw [HL.out]; kernel_rfl)
  have HZ : Hid (Tryz.zeroCells83.size = cs.length) := Lib.hid (by rw [HL.out]; kernel_rfl)
  have HF := Lib.hid (fresh_puts (w := w) (t := 83) HZ.out)
  have HT := Lib.hid (fresh_there (w := w) (t := 83) HZ.out)
  have HCS := Lib.hid hcs
  have lg := hbg.lt
  have HX : Hid (∀ X, Below w.heap.size w X → X.cell? ⟨g, 65, none⟩ = some (.pointer (some ⟨p.gi, 0, none⟩)) ∧ X.cell? ⟨g, 66, none⟩ = some (.pointer (some ⟨p.gl, 0, none⟩)) ∧ Sz X p.gi s.M s.t ∧ BlockIs X p.gl 143 (credCells s.W s.L s.C s.R) ∧ g < X.heap.size) := Lib.hid (fun X hX =>
    ⟨(hX.cell (p := ⟨g, 65, none⟩) h.bg.lt).trans h.c65, (hX.cell (p := ⟨g, 66, none⟩) h.bg.lt).trans h.c66, h.sz.later hX, h.bl.later hX, (h.bg.later hX).lt⟩)
  clear h hlen hcs hm hc hbg
  go_enter Tryz.func56, Tryz.ntmps56
  trace "A"; go_wp2_with (first | (refine wpList_load_mid rfl 83 (.tmp 5) rfl g 0 (by go_simp) cs _ HR.out Tryz.underlying83 rfl HI.out ?_) | (refine wpList_store_mid rfl 83 (.tmp 3) (.tmp 6) rfl w.heap.size 0 cs.toArray (by go_simp) (by go_simp) HT.out (by rw [HI.out, List.size_toArray]) (all_oneCell_toArray HO.out) ?_))
  generalize hwx : (w.alloc (.cells Tryz.zeroCells83 83)).setCells w.heap.size 0 cs = wx at *
  obtain ⟨hbx, hsx⟩ := HF.out
  have HB := Lib.hid hbx
  have HS := Lib.hid hsx
  obtain ⟨d65, d66, hz, hc, lx⟩ := HX.out wx hsx
  have hgx : w.heap.size < wx.heap.size := hbx.lt
  have HG : Hid (∀ X, Below wx.heap.size wx X → X.cell? ⟨w.heap.size, 65, none⟩ = some (.pointer (some ⟨p.gi, 0, none⟩)) ∧ X.cell? ⟨w.heap.size, 66, none⟩ = some (.pointer (some ⟨p.gl, 0, none⟩)) ∧ (∀ i, X.frozen? ⟨w.heap.size, i, none⟩ = false) ∧ w.heap.size < X.heap.size) := Lib.hid (fun X hX => by
    have hb := hbx.later hX
    rw [← HCS.out] at hb
    exact ⟨(hb.cell 65).trans (enCells_tail _ _ _ _ H.out.ok.tl 4), (hb.cell 66).trans (enCells_tail _ _ _ _ H.out.ok.tl 5), hb.free, hb.lt⟩)
  have hs0 : Since w wx := hsx
  clear hbx hsx hz hc HT HF HR HI HZ HO
  trace "B"; go_region_law (first
    | (go_simp; go_at_call 98; refine (sown p.gi s.M s.t _ ?_).mono ?_; exact (HX.out _ (by refine Since.out ?_; repeat (first | with_reducible assumption | with_reducible exact Since.refl _ | with_reducible refine Since.later ?_ (by with_reducible assumption) | with_reducible refine Since.only ?_ (by with_reducible assumption) (by first | assumption | omega | (simp; done) | (simp; omega)) | with_reducible refine Since.alloc ?_ _ | with_reducible refine Since.drewN ?_ _ | with_reducible refine Since.drew ?_ | with_reducible refine Since.set ?_ (by first | assumption | omega | (simp; done) | (simp; omega)) _))).2.2.1; rintro e wi ⟨rfl, hzi, hbi⟩; obtain ⟨e65, e66, ez, ec, lx1⟩ := HX.out wi (by refine Since.out ?_; repeat (first | with_reducible assumption | with_reducible exact Since.refl _ | with_reducible refine Since.later ?_ (by with_reducible assumption) | with_reducible refine Since.only ?_ (by with_reducible assumption) (by first | assumption | omega | (simp; done) | (simp; omega)) | with_reducible refine Since.alloc ?_ _ | with_reducible refine Since.drewN ?_ _ | with_reducible refine Since.drew ?_ | with_reducible refine Since.set ?_ (by first | assumption | omega | (simp; done) | (simp; omega)) _)); obtain ⟨g65, g66, gf, gk⟩ := HG.out wi (by refine Since.out ?_; repeat (first | with_reducible assumption | with_reducible exact Since.refl _ | with_reducible refine Since.later ?_ (by with_reducible assumption) | with_reducible refine Since.only ?_ (by with_reducible assumption) (by first | assumption | omega | (simp; done) | (simp; omega)) | with_reducible refine Since.alloc ?_ _ | with_reducible refine Since.drewN ?_ _ | with_reducible refine Since.drew ?_ | with_reducible refine Since.set ?_ (by first | assumption | omega | (simp; done) | (simp; omega)) _)); clear ez ec)
    | (go_simp; go_at_call 99; refine (cown p.gl s.W s.L s.C s.R _ ?_).mono ?_; exact (HX.out _ (by refine Since.out ?_; repeat (first | with_reducible assumption | with_reducible exact Since.refl _ | with_reducible refine Since.later ?_ (by with_reducible assumption) | with_reducible refine Since.only ?_ (by with_reducible assumption) (by first | assumption | omega | (simp; done) | (simp; omega)) | with_reducible refine Since.alloc ?_ _ | with_reducible refine Since.drewN ?_ _ | with_reducible refine Since.drew ?_ | with_reducible refine Since.set ?_ (by first | assumption | omega | (simp; done) | (simp; omega)) _))).2.2.2.1; rintro e wl ⟨rfl, hbl, hbbl⟩; obtain ⟨f65, f66, fz, fc, lx2⟩ := HX.out wl (by refine Since.out ?_; repeat (first | with_reducible assumption | with_reducible exact Since.refl _ | with_reducible refine Since.later ?_ (by with_reducible assumption) | with_reducible refine Since.only ?_ (by with_reducible assumption) (by first | assumption | omega | (simp; done) | (simp; omega)) | with_reducible refine Since.alloc ?_ _ | with_reducible refine Since.drewN ?_ _ | with_reducible refine Since.drew ?_ | with_reducible refine Since.set ?_ (by first | assumption | omega | (simp; done) | (simp; omega)) _)); obtain ⟨h65, h66, hf, hk⟩ := HG.out wl (by refine Since.out ?_; repeat (first | with_reducible assumption | with_reducible exact Since.refl _ | with_reducible refine Since.later ?_ (by with_reducible assumption) | with_reducible refine Since.only ?_ (by with_reducible assumption) (by first | assumption | omega | (simp; done) | (simp; omega)) | with_reducible refine Since.alloc ?_ _ | with_reducible refine Since.drewN ?_ _ | with_reducible refine Since.drew ?_ | with_reducible refine Since.set ?_ (by first | assumption | omega | (simp; done) | (simp; omega)) _)); clear fz fc))
  all_goals
    have hbw : BlockIs wx w.heap.size 83 (enCells s p.mv p.cv p.gi p.gl).toArray := by rw [HCS.out]; exact HB.out
    go_wp2_with fail
    go_ret
    first
    | (have h1 := ((hbw.later (show Since wx wl from (by refine Since.out ?_; repeat (first | with_reducible assumption | with_reducible exact Since.refl _ | with_reducible refine Since.later ?_ (by with_reducible assumption) | with_reducible refine Since.only ?_ (by with_reducible assumption) (by first | assumption | omega | (simp; done) | (simp; omega)) | with_reducible refine Since.alloc ?_ _ | with_reducible refine Since.drewN ?_ _ | with_reducible refine Since.drew ?_ | with_reducible refine Since.set ?_ (by first | assumption | omega | (simp; done) | (simp; omega)) _)))).put 65 (.pointer (some ⟨wx.heap.size, 0, none⟩))).put 66 (.pointer (some ⟨wi.heap.size, 0, none⟩))
       rw [enCells_65 _ _ _ _ H.out.ok.tl, enCells_66 _ _ _ _ H.out.ok.tl] at h1
       exact ⟨wx.heap.size, wi.heap.size, rfl, h1, ((hzi.bl.later hbbl).far (by simp; omega) _).far (by simp; omega) _, (hbl.far (by simp; omega) _).far (by simp; omega) _, by omega, by omega, (by refine Since.out ?_; repeat (first | with_reducible assumption | with_reducible exact Since.refl _ | with_reducible refine Since.later ?_ (by with_reducible assumption) | with_reducible refine Since.only ?_ (by with_reducible assumption) (by first | assumption | omega | (simp; done) | (simp; omega)) | with_reducible refine Since.alloc ?_ _ | with_reducible refine Since.drewN ?_ _ | with_reducible refine Since.drew ?_ | with_reducible refine Since.set ?_ (by first | assumption | omega | (simp; done) | (simp; omega)) _))⟩)
    | (have h1 := ((hbw.later (show Since wx wi from (by refine Since.out ?_; repeat (first | with_reducible assumption | with_reducible exact Since.refl _ | with_reducible refine Since.later ?_ (by with_reducible assumption) | with_reducible refine Since.only ?_ (by with_reducible assumption) (by first | assumption | omega | (simp; done) | (simp; omega)) | with_reducible refine Since.alloc ?_ _ | with_reducible refine Since.drewN ?_ _ | with_reducible refine Since.drew ?_ | with_reducible refine Since.set ?_ (by first | assumption | omega | (simp; done) | (simp; omega)) _)))).put 65 (.pointer (some ⟨wl.heap.size, 0, none⟩))).put 66 (.pointer (some ⟨wx.heap.size, 0, none⟩))
       rw [enCells_65 _ _ _ _ H.out.ok.tl, enCells_66 _ _ _ _ H.out.ok.tl] at h1
       exact ⟨wl.heap.size, wx.heap.size, rfl, h1, (hzi.bl.far (by simp; omega) _).far (by simp; omega) _, ((hbl.later hbi).far (by simp; omega) _).far (by simp; omega) _, by omega, by omega, (by refine Since.out ?_; repeat (first | with_reducible assumption | with_reducible exact Since.refl _ | with_reducible refine Since.later ?_ (by with_reducible assumption) | with_reducible refine Since.only ?_ (by with_reducible assumption) (by first | assumption | omega | (simp; done) | (simp; omega)) | with_reducible refine Since.alloc ?_ _ | with_reducible refine Since.drewN ?_ _ | with_reducible refine Since.drew ?_ | with_reducible refine Since.set ?_ (by first | assumption | omega | (simp; done) | (simp; omega)) _))⟩)
end Go.Proofs.YtmfbaijbigodkaaGreatDoor

/-! slices.Grow of no pieces, by the shelf's contract laid in plain words; nothing else. Condition: the slices can be read. -/
namespace Go.Proofs.YtmfbaijbigodkaaGreatDoor
open Go.Shelf Go.ChangeShapes Go.WideShapes Go.ChangeAt Go.RowKit
set_option linter.unusedVariables false
def laysGrowP_ren : Go.Shelf.Ren := ⟨fun | 4 => 154 | n => n, fun | 0 => 0 | 3 => 3 | 4 => 4 | 9 => 9 | 20 => 20 | 22 => 95 | 25 => 98 | n => n, fun | n => n⟩
theorem laysGrowP : Go.Proofs.Lays8.n4 Tryz.prog laysGrowP_ren := {
  mixed := by kernel_rfl
  f4 := ⟨Tryz.f154.name, by decide, Tryz.func154.trans (congrArg some (by kernel_rfl))⟩
  t0 := Tryz.underlying0
  a0 := Tryz.isAgg0
  z0 := Tryz.sizeOf0
  v0 := Tryz.zeroValue0
  t3 := Tryz.underlying3
  a3 := Tryz.isAgg3
  z3 := Tryz.sizeOf3
  v3 := Tryz.zeroValue3
  t4 := Tryz.underlying4
  a4 := Tryz.isAgg4
  z4 := Tryz.sizeOf4
  v4 := Tryz.zeroValue4
  t9 := Tryz.underlying9
  a9 := Tryz.isAgg9
  z9 := Tryz.sizeOf9
  v9 := Tryz.zeroValue9
  t20 := Tryz.underlying20
  a20 := Tryz.isAgg20
  z20 := Tryz.sizeOf20
  v20 := Tryz.zeroValue20
  t22 := Tryz.underlying95
  a22 := Tryz.isAgg95
  z22 := Tryz.sizeOf95
  v22 := Tryz.zeroValue95
}

theorem pgrow (n : Nat) (w : World) (hn : n ≤ 100000) :
    Calls Tryz.prog 154 #[.slice none 0 0, .int .i64 n] w fun e w' => ∃ A cap, e = .returned (.slice A 0 cap) ∧ Lst w' 98 2 (.slice A 0 cap) [] ∧ Below w.heap.size w w' ∧ ∀ k, k ∈ blocks (.slice A 0 0) → w.heap.size ≤ k := by
  rcases Nat.eq_zero_or_pos n with h0 | h0
  · refine Calls.mono (P := Tryz.prog) (Any8.slices_Grow_room laysGrowP none 0 0 n w (Nat.le_refl _) (by omega) (by omega) (by omega)) ?_
    rintro e w' ⟨rfl, rfl⟩
    exact ⟨none, 0, rfl, Lst.nil _ _ _, Below.refl _ _, by simp [Value.ownBlock]⟩
  · obtain ⟨z, hz, hinfo⟩ := (Tryz.elPc).info
    obtain ⟨i, hi, hz0, hz1, hz2⟩ := info_parts hinfo
    refine Calls.mono (P := Tryz.prog) (Any8.slices_Grow_grow laysGrowP i z hi hz0 (by omega) none 0 0 n [] w (Nat.le_refl _) (by omega) (by rw [hz2]; omega) (by omega) (by simp) (fun _ => rfl) (by intro a ha; cases ha)) ?_
    rintro e w' ⟨rfl, rfl⟩
    have hG := grownCap_ge w (0 + n) 0 98
    have hM := grownCap_le_maxLen w (0 + n) 0 98 (by unfold maxLen; omega)
    refine ⟨_, _, rfl, ⟨?_, by simp⟩, ((Below.refl _ _).drew).alloc (Nat.le_refl _) _, fun k hk => ?_⟩
    · refine World.ownsRow_made w.drew _ _ (Nat.zero_le _) hM ?_
      simp only [Array.size_append, Builtin.zeroCells, Array.size_map, Array.size_range, hz]
      show 0 + (0 + n - 0) * 2 + (grownCap w (0 + n) 0 98 - (0 + n)) * 2 = grownCap w (0 + n) 0 98 * 2
      omega
    · have : w.heap.size = k := by simpa [Value.ownBlock] using hk
      omega
end Go.Proofs.YtmfbaijbigodkaaGreatDoor

/-! append of a slice that can be read, nil or not. No condition of its own. -/
namespace Go.Proofs.YtmfbaijbigodkaaGreatDoor
open Go.ChangeShapes Go.WideShapes Go.ChangeAt Go.RowKit
set_option linter.unusedVariables false

section
variable {P : Program} {w : World} {t E size bytes : Nat} {v : Value} {es : List (List Value)}
theorem run_catR (hE : Elem P t E size bytes) (hl : Lst w E size v es) {A2 : Option Addr} {n2 c2 : Nat} {ns : List (List Value)} (hr : Rd w size (.slice A2 n2 c2) ns) (hn : es.length + ns.length ≤ 1000000) (ty : TypeId) :
    ∃ A cap w', (Builtin.append_ #[t, t] ty #[v, .slice A2 n2 c2]).run P w = .ok (.slice A (es.length + n2) cap) w' ∧ Lst w' E size (.slice A (es.length + n2) cap) (es ++ ns) ∧ Out w w' (blocks v) ∧
      (∀ k, k ∈ blocks (.slice A (es.length + n2) cap) → k ∈ blocks v ∨ k = w.heap.size) := by
  obtain ⟨A0, c0, hv0, _, _, hsh⟩ := hr.shape
  simp only [Value.slice.injEq] at hv0
  obtain ⟨rfl, rfl, rfl⟩ := hv0
  cases A2 with
  | none =>
    have hns : ns = [] := by
      cases ns with
      | nil => rfl
      | cons a b => obtain ⟨_, _, h, _⟩ := hsh (by simp); cases h
    subst hns
    obtain ⟨A, cap, rfl, hle, _, _⟩ := hl.shape
    obtain ⟨z, hz, hinfo⟩ := hE.info
    obtain ⟨i, hi, hz0, hz1, hz2⟩ := info_parts hinfo
    refine ⟨A, cap, w, run_append_nothing w t t ty E i hE.ht hi A es.length cap hle _ (Src.ofNil _ hE.ht c2), ?_, Out.refl _ _, fun k hk => Or.inl hk⟩
    rw [List.append_nil]
    exact hl
  | some ad =>
    obtain ⟨A, cap, w', h1, h2, h3, h4⟩ := run_cat hE hl ad c2 hr.rows (fun j u hu => by
      have hne : ns ≠ [] := by intro he; rw [he] at hu; simp [flat] at hu
      obtain ⟨b, off, he, hlt, hcc⟩ := hsh hne
      cases he
      have hadd : (⟨b, off, none⟩ : Addr).add j = ⟨b, off + j, none⟩ := by unfold Addr.add; split <;> simp_all
      rw [hadd]
      exact hcc j u hu) hn ty
    exact ⟨A, cap, w', h1, h2, h3, h4⟩
variable {ops : Array Oper} {rest : List Oper} {o : Oper} {a : Act} {Q : Exit → Act → World → Prop} {K : Act → World → Prop}
theorem wpList_catR (hgd : o.guard = none) (s x : Operand) (t : TypeId) (ho : o.op = .call { callee := .builtin .append, args := #[s, x], argTypes := #[t, t] })
    (E size bytes : Nat) (hE : Elem P t E size bytes) (v : Value) (es : List (List Value)) (hs : a.eval s = v) (hl : Lst w E size v es) (A2 : Option Addr) (n2 c2 : Nat) (ns : List (List Value)) (hx : a.eval x = .slice A2 n2 c2) (hr : Rd w size (.slice A2 n2 c2) ns) (hn : es.length + ns.length ≤ 1000000)
    (h : ∀ A cap w', Lst w' E size (.slice A (es.length + n2) cap) (es ++ ns) → Out w w' (blocks v) → (∀ k, k ∈ blocks (.slice A (es.length + n2) cap) → k ∈ blocks v ∨ k = w.heap.size) → wpList P ops Q rest (a.put o.dst (.slice A (es.length + n2) cap)) w') : wpList P ops Q (o :: rest) a w :=
  wpList_plain hgd fun _ hK => by
    obtain ⟨A, cap, w', h1, h2, h3, h4⟩ := run_catR (P := P) hE hl hr hn o.type
    unfold Oper.wp execOp
    simp only [ho, resolve, invoke, builtin, Sem.run_bind, Sem.run_pure, Result.andThen_ok, List.map_toArray, List.map_cons, List.map_nil, hs, hx, h1]
    exact hK _ _ (h A cap w' h2 h3 h4)
end
end Go.Proofs.YtmfbaijbigodkaaGreatDoor

/-! slices.Concat of any lists of pieces. Condition: the lists can be read, there are no more than 1000 of them, each of no more than three. -/
namespace Go.Proofs.YtmfbaijbigodkaaGreatDoor
open Go.ChangeShapes Go.WideShapes Go.ChangeAt Go.RowKit
set_option linter.unusedVariables false

/-- lists of pieces that can be read, one behind the other -/
structure PcsR (w : World) (b off : Nat) (vs : List Value) (L : List (List Pc)) : Prop where
  len : vs.length = L.length
  lt : b < w.heap.size
  cell : ∀ (i : Nat) v, vs[i]? = some v → w.cell? ⟨b, off + i, none⟩ = some v
  rd : ∀ (i : Nat) v ps, vs[i]? = some v → L[i]? = some ps → Rd w 2 v (ps.map pcRow)
  few : ∀ ps ∈ L, ps.length ≤ 3
theorem PcsR.later {w w' : World} {b off : Nat} {vs : List Value} {L : List (List Pc)} (h : PcsR w b off vs L) (hb : Below w.heap.size w w') : PcsR w' b off vs L :=
  ⟨h.len, Nat.lt_of_lt_of_le h.lt hb.size, fun i v hv => (hb.cell (p := ⟨b, off + i, none⟩) h.lt).trans (h.cell i v hv), fun i v ps h1 h2 => (h.rd i v ps h1 h2).later hb, h.few⟩
theorem flat_few : ∀ {L : List (List Pc)}, (∀ ps ∈ L, ps.length ≤ 3) → L.flatten.length ≤ 3 * L.length
  | [], _ => by simp
  | ps :: L, h => by
    have h1 := h ps (List.mem_cons_self ..)
    have h2 := flat_few (L := L) (fun q hq => h q (List.mem_cons_of_mem _ hq))
    rw [List.flatten_cons, List.length_append, List.length_cons]
    omega
theorem flat_succ {L : List (List Pc)} {i : Nat} (h : i < L.length) : (L.take (i + 1)).flatten = (L.take i).flatten ++ L[i] := by
  rw [List.take_succ_eq_append_getElem h, List.flatten_append]
  congr 1
  exact List.append_nil _
def totN (L : List (List Pc)) (i : Nat) : Nat := (L.take i).flatten.length
theorem totN_succ {L : List (List Pc)} {i : Nat} (h : i < L.length) : totN L (i + 1) = totN L i + L[i].length := by
  unfold totN; rw [flat_succ h, List.length_append]
theorem totN_le {L : List (List Pc)} (h : ∀ ps ∈ L, ps.length ≤ 3) (i : Nat) : totN L i ≤ 3 * i := by
  unfold totN
  have h1 := flat_few (L := L.take i) (fun ps hp => h ps (List.mem_of_mem_take hp))
  rw [List.length_take] at h1
  omega
/-- one of them -/
theorem PcsR.at_ {w : World} {b off : Nat} {vs : List Value} {L : List (List Pc)} (h : PcsR w b off vs L) {i : Nat} (hi : i < L.length) : ∃ (A : Option Addr) (c : Nat), ∀ w', Below w.heap.size w w' → w'.cell? ⟨b, off + i, none⟩ = some (.slice A L[i].length c) ∧ Rd w' 2 (.slice A L[i].length c) (L[i].map pcRow) := by
  have hv : i < vs.length := by rw [h.len]; exact hi
  have h1 := h.cell i _ (List.getElem?_eq_getElem hv)
  have h2 := h.rd i _ _ (List.getElem?_eq_getElem hv) (List.getElem?_eq_getElem hi)
  obtain ⟨A, c, e, _⟩ := h2.shape
  rw [List.length_map] at e
  rw [e] at h1 h2
  exact ⟨A, c, fun w' hb => ⟨(hb.cell (p := ⟨b, off + i, none⟩) h.lt).trans h1, h2.later hb⟩⟩
set_option maxHeartbeats 3200000 in
set_option maxRecDepth 100000 in
theorem pconcat (b off n cap : Nat) (vs : List Value) (L : List (List Pc)) (w : World) (hn : L.length = n) (hm : n ≤ 1000) (h : PcsR w b off vs L) :
    Calls Tryz.prog 133 #[.slice (some ⟨b, off, none⟩) n cap] w fun e w' => ∃ A' cap', e = .returned (.slice A' L.flatten.length cap') ∧ Lst w' 98 2 (.slice A' L.flatten.length cap') (L.flatten.map pcRow) ∧ Below w.heap.size w w' ∧ ∀ k, k ∈ blocks (.slice A' 0 0) → w.heap.size ≤ k := by
  have H := Lib.hid h
  have HN := Lib.hid hn
  clear h hn
  go_enter Tryz.func133, Tryz.ntmps133
  go_wp2_with fail
  have HF := Lib.hid H.out.few
  trace "A"; go_loopw [3, 5, 11] (fun s3 s5 s11 wr => ∃ i : Nat, s11 = .int .i64 i ∧ i ≤ n ∧ s3 = .int .i64 (totN L i : Int) ∧ Since w wr) (fun s3 s5 s11 _ => n - (intOf s11).toNat)
  case atStart => exact ⟨0, rfl, Nat.zero_le _, rfl, (by refine Since.out ?_; repeat (first | with_reducible assumption | with_reducible exact Since.refl _ | with_reducible refine Since.later ?_ (by with_reducible assumption) | with_reducible refine Since.only ?_ (by with_reducible assumption) (by first | assumption | omega | (simp; done) | (simp; omega)) | with_reducible refine Since.alloc ?_ _ | with_reducible refine Since.drewN ?_ _ | with_reducible refine Since.drew ?_ | with_reducible refine Since.set ?_ (by first | assumption | omega | (simp; done) | (simp; omega)) _))⟩
  case round =>
    obtain ⟨i, rfl, hi, rfl, hs⟩ := hrel
    have htot := totN_le HF.out i
    by_cases hlt : i < n
    case neg =>
      obtain rfl : i = n := by omega
      have hlt' : decide ((i : Int) < (i : Int)) = false := by simp
      have HT : Hid (totN L i = L.flatten.length) := Lib.hid (by unfold totN; rw [← HN.out, List.take_length])
      trace "B"; go_wp2_with fail
      refine (pgrow (totN L i) _ (by omega)).mono ?_
      rintro e w1 ⟨A1, k1, rfl, hl1, hb1, hk1⟩
      have HL1 := Lib.hid hl1
      have HK1 := Lib.hid hk1
      have hs1 : Since w w1 := hs.later hb1
      clear hl1 hk1 hb1
      trace "C"; go_wp2_with fail
      trace "D"; go_loopw [6, 8, 27] (fun s6 s8 s27 wr => ∃ (j : Nat) (A : Option Addr) (k : Nat), s27 = .int .i64 j ∧ j ≤ i ∧ s6 = .slice A (totN L j) k ∧ Lst wr 98 2 (.slice A (totN L j) k) ((L.take j).flatten.map pcRow) ∧ Since w wr ∧ ∀ q, q ∈ blocks (.slice A 0 0) → w.heap.size ≤ q) (fun s6 s8 s27 _ => i - (intOf s27).toNat)
      case atStart => exact ⟨0, A1, k1, rfl, Nat.zero_le _, rfl, HL1.out, hs1, fun q hq => Nat.le_trans hs.size (HK1.out q hq)⟩
      case round =>
        obtain ⟨j, A, k, rfl, hj, rfl, hl, hs2, hk2⟩ := hrel
        have HL := Lib.hid hl
        have HK := Lib.hid hk2
        clear hl hk2
        by_cases hlt2 : j < i
        case neg =>
          obtain rfl : j = i := by omega
          have hlt2' : decide ((j : Int) < (j : Int)) = false := by simp
          trace "E"; go_wp2_with fail
          go_ret
          refine ⟨A, k, by rw [← HT.out]; rfl, ?_, hs2, HK.out⟩
          rw [← HT.out]
          have h1 := HL.out
          rw [show L.take j = L by rw [← HN.out, List.take_length]] at h1
          exact h1
        have hjl : j < L.length := by rw [HN.out]; exact hlt2
        obtain ⟨B, c, hB⟩ := H.out.at_ hjl
        obtain ⟨cB, hR⟩ := hB wr hs2
        have HR := Lib.hid hR
        have lb := H.out.lt
        have lb2 : b < wr.heap.size := Nat.lt_of_lt_of_le H.out.lt hs2.size
        have htj := totN_le HF.out j
        have hlj := H.out.few _ (List.getElem_mem hjl)
        have HNX := Lib.hid (totN_succ hjl)
        have HFS := Lib.hid (flat_succ hjl)
        have hlt2' : (j : Int) < (i : Int) := by omega
        obtain ⟨ps, hps⟩ : ∃ ps, L[j] = ps := ⟨_, rfl⟩
        rw [hps] at cB HR HNX hlj HFS
        obtain ⟨m, hm⟩ : ∃ m, ps.length = m := ⟨_, rfl⟩
        rw [hm] at cB HR HNX hlj
        have HM := Lib.hid hm
        obtain ⟨es, hes⟩ : ∃ es, (L.take j).flatten.map pcRow = es := ⟨_, rfl⟩
        have HES : Hid (es.length = totN L j) := Lib.hid (by rw [← hes, List.length_map]; rfl)
        rw [hes] at HL
        have HEQ := Lib.hid hes
        clear hB hm hR hps hes hjl
        trace "F"; go_wp2_with (at_builtin; refine wpList_catR rfl _ _ 95 rfl 98 2 24 Tryz.elPc (.slice A (totN L j) k) es rfl HL.out B m c (ps.map pcRow) rfl HR.out (by rw [List.length_map, HES.out, HM.out]; omega) ?_; intro A3 k3 w3 hl3 ho3 hf3; rw [HES.out] at hl3 hf3; rw [HES.out]; have hs3 : Since w w3 := hs2.out' ho3 (fun q hq => HK.out q (blocks_any A _ _ _ _ ▸ hq)))
        have HL3 := Lib.hid hl3
        have HK3 : Hid (∀ q, q ∈ blocks (.slice A3 0 0) → w.heap.size ≤ q) := Lib.hid (fun q hq => by
          rcases hf3 q (blocks_any A3 _ _ _ _ ▸ hq) with h1 | h1
          · exact HK.out q (blocks_any A _ _ _ _ ▸ h1)
          · rw [h1]; exact hs2.size)
        clear hl3 ho3 hf3
        trace "G"; go_wp2_with fail
        go_roundw
        case rel => exact ⟨j + 1, A3, k3, by go_num, by omega, by rw [HNX.out], by rw [HNX.out, HFS.out, List.map_append, HEQ.out]; exact HL3.out, hs3, HK3.out⟩
        case measure => simp [intOf]; omega
    have hil : i < L.length := by rw [HN.out]; exact hlt
    obtain ⟨B, c, hB⟩ := H.out.at_ hil
    obtain ⟨cB, -⟩ := hB wr hs
    have lb2 : b < wr.heap.size := Nat.lt_of_lt_of_le H.out.lt hs.size
    have hli := H.out.few _ (List.getElem_mem hil)
    have HNX := Lib.hid (totN_succ hil)
    have hlt' : (i : Int) < (n : Int) := by omega
    obtain ⟨m, hm⟩ : ∃ m, L[i].length = m := ⟨_, rfl⟩
    rw [hm] at cB HNX hli
    have hw1 : IntKind.i64.wrap ((totN L i : Int) + (m : Int)) = ((totN L i + m : Nat) : Int) := by rw [IntWalk.i64_in _ (by omega)]; rfl
    have hng : decide (((totN L i + m : Nat) : Int) < 0) = false := by simp only [decide_eq_false_iff_not]; omega
    clear hB hm hil
    trace "H"; go_wp2_with fail
    go_roundw
    case rel => exact ⟨i + 1, by go_num, by omega, by rw [HNX.out, Int.natCast_add], (by refine Since.out ?_; repeat (first | with_reducible assumption | with_reducible exact Since.refl _ | with_reducible refine Since.later ?_ (by with_reducible assumption) | with_reducible refine Since.only ?_ (by with_reducible assumption) (by first | assumption | omega | (simp; done) | (simp; omega)) | with_reducible refine Since.alloc ?_ _ | with_reducible refine Since.drewN ?_ _ | with_reducible refine Since.drew ?_ | with_reducible refine Since.set ?_ (by first | assumption | omega | (simp; done) | (simp; omega)) _))⟩
    case measure => simp [intOf]; omega
end Go.Proofs.YtmfbaijbigodkaaGreatDoor

/-! Pieces of one text, put in any order: what is taken is its beginning, and when all came, all of it. No program here. -/
namespace Go.Proofs.YtmfbaijbigodkaaGreatDoor
set_option linter.unusedVariables false

theorem Of.ready {M : Plc} {d : List UInt8} (h : Of M d) {t : Nat} (ht : t ≤ d.length) : t + readyN M t ≤ d.length := by
  rcases Nat.eq_zero_or_pos (readyN M t) with h0 | h0
  · omega
  · obtain ⟨y, hy⟩ := Option.isSome_iff_exists.1 (readyN_some (M := M) (t := t) (j := readyN M t - 1) (by omega))
    have := (h _ _ hy).1
    omega
theorem cutL_of {M : Plc} {d : List UInt8} (h : Of M d) {t : Nat} : ∀ {n : Nat}, n ≤ readyN M t → cutL M t n = (d.drop t).take n
  | 0, _ => by simp [cutL]
  | n + 1, hn => by
    obtain ⟨y, hy⟩ := Option.isSome_iff_exists.1 (readyN_some (M := M) (t := t) (j := n) (by omega))
    have h1 := h _ _ hy
    have hlt : n < (d.drop t).length := by rw [List.length_drop]; omega
    rw [cutL, cutL_of h (by omega), hy, List.take_succ_eq_append_getElem hlt]
    congr 1
    have h2 : bth d (t + n) = (d.drop t)[n] := by
      unfold bth
      rw [List.getElem_drop]
      simp [List.getD, List.getElem?_eq_getElem h1.1]
    rw [← h2, h1.2]
    rfl
/-- all from a on is there -/
def AllFrom (M : Plc) (d : List UInt8) (a : Nat) : Prop := ∀ i, a ≤ i → i < d.length → (M.at i).isSome = true
theorem AllFrom.start (M : Plc) (d : List UInt8) : AllFrom M d d.length := fun i h1 h2 => by omega
theorem extract_list (s : ByteArray) (a b : Nat) : (s.extract a b).data.toList = (s.data.toList.take b).drop a := by
  rw [ByteArray.data_extract, Array.toList_extract]
  rw [List.extract_eq_take_drop, List.drop_take]
theorem extract_more (s : ByteArray) (t k : Nat) (l : List UInt8) (h : l = (s.data.toList.drop t).take k) : s.extract 0 t ++ ⟨l.toArray⟩ = s.extract 0 (t + k) := by
  apply ByteArray.ext
  apply Array.ext'
  rw [ByteArray.data_append, Array.toList_append, extract_list, extract_list, h, List.drop_zero, List.drop_zero, List.take_add]
/-- a piece of the text is put: no fault, and the text's bytes alone are there -/
theorem of_put {M : Plc} {s : ByteArray} (hM : M.length = 60) (h : Of M s.data.toList) (hd : s.size ≤ 60) {a b : Nat} (hab : a ≤ b) (hb : b ≤ s.size) :
    putE M a (s.extract a b).data.toList = 0 ∧ Of (putM M a (s.extract a b).data.toList) s.data.toList ∧ (∀ i, (putM M a (s.extract a b).data.toList).at i = if a ≤ i ∧ i < b then some (bth s.data.toList i) else M.at i) := by
  have hl : s.data.toList.length = s.size := Array.length_toList
  rw [extract_list]
  exact Of.put hM h (by omega) hab (by omega)
/-- what is taken is the text's next bytes -/
theorem of_take {M : Plc} {s : ByteArray} (h : Of M s.data.toList) {t : Nat} (ht : t ≤ s.size) (x : Int) :
    t + takeK M t x ≤ s.size ∧ s.extract 0 t ++ takeS M t x = s.extract 0 (t + takeK M t x) := by
  have hl : s.data.toList.length = s.size := Array.length_toList
  have h1 := h.ready (t := t) (by omega)
  have hk : takeK M t x ≤ readyN M t := by unfold takeK; omega
  exact ⟨by omega, extract_more s t (takeK M t x) _ (cutL_of h hk)⟩
end Go.Proofs.YtmfbaijbigodkaaGreatDoor
