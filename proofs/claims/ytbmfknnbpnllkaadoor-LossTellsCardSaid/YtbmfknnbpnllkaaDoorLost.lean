/- Package loss: Left and Lost: plain words and contracts; wiresame.Sent and wiresame.Ints on slices that hold one list. Condition: the slices can be read. -/
import Derived.Test.YtbmfknnbpnllkaaDoorDelF
namespace Go.Proofs.YtbmfknnbpnllkaaDoor
open Go.ChangeShapes Go.WideShapes Go.ChangeAt Go.RowKit
set_option linter.unusedVariables false

theorem snt_len {L : List Snt} (h : sntE L = 0) : L.length ≤ 30 := by
  unfold sntE at h
  by_cases h30 : 30 < L.length
  · rw [if_pos h30] at h; cases h
  · omega
theorem snt_up {L : List Snt} (h : sntE L = 0) : sntUp L L.length = 0 := by
  unfold sntE at h
  by_cases h30 : 30 < L.length
  · rw [if_pos h30] at h; cases h
  · rw [if_neg h30] at h; exact h
theorem snt_all {L : List Snt} (h : sntE L = 0) : ∀ r ∈ L, 0 ≤ r.n ∧ r.n ≤ 1073741823 ∧ 0 ≤ r.t ∧ r.t ≤ 100000 ∧ 1 ≤ r.z ∧ r.z ≤ 200 := by
  intro r hr
  obtain ⟨i, hi, rfl⟩ := List.getElem_of_mem hr
  have h1 := sntUp_all (snt_up h) i hi
  unfold sntOne at h1
  rw [sat_get hi] at h1
  by_cases hc : mayB L[i].n = true ∧ 0 ≤ L[i].t ∧ L[i].t ≤ 100000 ∧ 1 ≤ L[i].z ∧ L[i].z ≤ 200
  · have := mayB_iff.1 hc.1
    unfold MayBe at this
    exact ⟨this.1, this.2, hc.2⟩
  · rw [if_neg hc] at h1; cases h1
theorem rng_up {M : List Rng} (h : rngE M = 0) : M.length ≤ 12 ∧ rngUp M M.length = 0 := by
  unfold rngE at h
  by_cases h12 : 12 < M.length
  · rw [if_pos h12] at h; cases h
  · rw [if_neg h12] at h; exact ⟨by omega, h⟩
theorem rngUp_all {L : List Rng} : ∀ {n : Nat}, rngUp L n = 0 → ∀ i, i < n → rngOne L i = 0
  | 0, _, i, hi => by omega
  | n + 1, h, i, hi => by
    unfold rngUp at h
    by_cases h0 : rngUp L n = 0
    · rw [if_pos h0] at h
      rcases Nat.lt_succ_iff_lt_or_eq.1 hi with h1 | h1
      · exact rngUp_all h0 i h1
      · rw [h1]; exact h
    · rw [if_neg h0] at h; exact absurd h h0
theorem rng_all {M : List Rng} (h : rngE M = 0) : ∀ i, i < M.length → 0 ≤ (rat M i).lo ∧ (rat M i).lo ≤ (rat M i).hi ∧ (rat M i).hi ≤ 1073741823 ∧ (0 < i → (rat M i).hi + 1 < (rat M (i - 1)).lo) := by
  intro i hi
  have h1 := rngUp_all (rng_up h).2 i hi
  unfold rngOne at h1
  by_cases hc : mayB (rat M i).lo = true ∧ mayB (rat M i).hi = true
  · rw [if_pos hc] at h1
    have a := mayB_iff.1 hc.1
    have b := mayB_iff.1 hc.2
    unfold MayBe at a b
    by_cases hd : (rat M i).hi < (rat M i).lo ∨ (0 < i ∧ (rat M (i - 1)).lo ≤ (rat M i).hi + 1)
    · rw [if_pos hd] at h1; cases h1
    · exact ⟨a.1, by omega, b.2, fun h0 => by omega⟩
  · rw [if_neg hc] at h1; cases h1
/-- the first range is above all others -/
theorem rng_top {M : List Rng} (h : rngE M = 0) : ∀ i, i < M.length → (rat M i).hi ≤ (rat M 0).hi
  | 0, _ => Int.le_refl _
  | i + 1, hi => by
    have h1 := rng_top h i (by omega)
    have h2 := (rng_all h (i + 1) hi).2.2.2 (by omega)
    rw [Nat.add_sub_cancel] at h2
    have h3 := (rng_all h i (by omega)).2.1
    omega
def lostB (top now wait : Int) (s : Snt) : Bool := decide (s.n + 3 ≤ top) || (decide (s.n < top) && decide (wait ≤ now - s.t))
def lostE (L : List Snt) (M : List Rng) (now wait : Int) : Int := if bothE L M = 0 then (if now < 0 ∨ 100000 < now ∨ wait < 1 ∨ 100000 < wait then 1 else 0) else bothE L M
def lostOf (K : List Snt) (top now wait : Int) : List Int := (K.filter (lostB top now wait)).map Snt.n
def lostL (L : List Snt) (M : List Rng) (now wait : Int) : List Int := if lostE L M now wait = 0 then (if M.length = 0 then [] else lostOf (leftL L M) (rat M 0).hi now wait) else []
def leftR (L : List Snt) (M : List Rng) : List Snt := if bothE L M = 0 then leftL L M else []
theorem both_zero {L : List Snt} {M : List Rng} (h : bothE L M = 0) : sntE L = 0 ∧ rngE M = 0 := by
  unfold bothE at h
  by_cases h0 : sntE L = 0
  · rw [if_pos h0] at h; exact ⟨h0, h⟩
  · rw [if_neg h0] at h; exact absurd h h0
def intRow (n : Int) : List Value := [.int .i64 n]
theorem intRow_one (n : Int) : (intRow n).length = 1 ∧ ∀ u ∈ intRow n, u.oneCell' = true := ⟨rfl, by intro u hu; simp [intRow] at hu; rw [hu]; rfl⟩
theorem Tryd.elInt : Elem Tryd.prog 33 3 1 8 := ⟨Tryd.underlying33, ⟨.int .i64 0, rfl, by kernel_rfl⟩, by decide, by decide⟩
theorem sLeft (A : Option Addr) (n cap : Nat) (L : List Snt) (A2 : Option Addr) (n2 cap2 : Nat) (M : List Rng) (w : World) (hn : L.length = n) (h : Rd w 3 (.slice A n cap) (L.map sntRow)) (hn2 : M.length = n2) (hb : ∀ r ∈ M, okI r.lo ∧ okI r.hi) (h2 : Rd w 2 (.slice A2 n2 cap2) (M.map rngRow)) :
    Calls Tryd.prog 35 #[.slice A n cap, .slice A2 n2 cap2] w fun e w' => ∃ A' cap', e = .returned (.tuple #[.slice A' (leftR L M).length cap', errV (bothE L M)]) ∧ Rd w' 3 (.slice A' (leftR L M).length cap') ((leftR L M).map sntRow) ∧ Below w.heap.size w w' := by
  have H := Lib.hid h
  have H2 := Lib.hid h2
  have HB := Lib.hid hb
  clear h h2 hb
  go_enter Tryd.func35, Tryd.ntmps35
  go_wp2_with fail
  refine (sboth A A2 n cap n2 cap2 L M _ hn H.out hn2 HB.out H2.out).mono ?_
  rintro e w1 ⟨rfl, hb1⟩
  by_cases he : bothE L M = 0
  · have E : Hid (leftR L M = leftL L M) := Lib.hid (by unfold leftR; rw [if_pos he])
    have hl30 := snt_len (both_zero he).1
    rw [he, errV_zero]
    have HE := Lib.hid he
    clear he
    go_wp2_with fail
    refine (sleft A n cap L A2 n2 cap2 M _ hn (by omega) (H.out.later hb1) hn2 (H2.out.later hb1)).mono ?_
    rintro e w2 ⟨A', cap', rfl, hr2, hb2⟩
    have HR := Lib.hid hr2
    clear hr2 hn hn2
    go_wp2_with fail
    go_ret2
    rw [E.out, HE.out]
    exact ⟨A', cap', rfl, HR.out, (by refine Since.out ?_; repeat (first | with_reducible assumption | with_reducible exact Since.refl _ | with_reducible refine Since.later ?_ (by with_reducible assumption) | with_reducible refine Since.only ?_ (by with_reducible assumption) (by first | assumption | omega | (simp; done) | (simp; omega)) | with_reducible refine Since.alloc ?_ _ | with_reducible refine Since.drewN ?_ _ | with_reducible refine Since.drew ?_ | with_reducible refine Since.set ?_ (by first | assumption | omega | (simp; done) | (simp; omega)) _))⟩
  · have E : Hid (leftR L M = []) := Lib.hid (by unfold leftR; rw [if_neg he])
    rw [errV_pos he]
    have HE := Lib.hid (errV_pos he)
    clear he hn hn2
    go_wp2_with fail
    go_ret2
    rw [E.out, HE.out]
    exact ⟨none, 0, rfl, Rd.nil _ 3, (by refine Since.out ?_; repeat (first | with_reducible assumption | with_reducible exact Since.refl _ | with_reducible refine Since.later ?_ (by with_reducible assumption) | with_reducible refine Since.only ?_ (by with_reducible assumption) (by first | assumption | omega | (simp; done) | (simp; omega)) | with_reducible refine Since.alloc ?_ _ | with_reducible refine Since.drewN ?_ _ | with_reducible refine Since.drew ?_ | with_reducible refine Since.set ?_ (by first | assumption | omega | (simp; done) | (simp; omega)) _))⟩

set_option maxHeartbeats 3200000 in
set_option maxRecDepth 100000 in
theorem sLost (A : Option Addr) (n cap : Nat) (L : List Snt) (A2 : Option Addr) (n2 cap2 : Nat) (M : List Rng) (now wait : Int) (w : World) (hn : L.length = n) (h : Rd w 3 (.slice A n cap) (L.map sntRow)) (hn2 : M.length = n2) (hb : ∀ r ∈ M, okI r.lo ∧ okI r.hi) (h2 : Rd w 2 (.slice A2 n2 cap2) (M.map rngRow)) :
    Calls Tryd.prog 37 #[.slice A n cap, .slice A2 n2 cap2, .int .i64 now, .int .i64 wait] w fun e w' => ∃ A' cap', e = .returned (.tuple #[.slice A' (lostL L M now wait).length cap', errV (lostE L M now wait)]) ∧ Lst w' 3 1 (.slice A' (lostL L M now wait).length cap') ((lostL L M now wait).map intRow) ∧ Below w.heap.size w w' := by
  have H := Lib.hid h
  have H2 := Lib.hid h2
  have HB := Lib.hid hb
  have HN := Lib.hid hn
  have HN2 := Lib.hid hn2
  clear h h2 hb hn hn2
  go_enter Tryd.func37, Tryd.ntmps37
  go_wp2_with fail
  refine (sboth A A2 n cap n2 cap2 L M _ HN.out H.out HN2.out HB.out H2.out).mono ?_
  rintro e w1 ⟨rfl, hb1⟩
  by_cases he : bothE L M = 0
  case neg =>
    have E : Hid (lostE L M now wait = bothE L M) := Lib.hid (by unfold lostE; rw [if_neg he])
    have EL : Hid (lostL L M now wait = []) := Lib.hid (by unfold lostL; rw [E.out, if_neg he])
    rw [errV_pos he]
    have HE := Lib.hid (errV_pos he)
    clear he
    go_wp2_with fail
    go_ret2
    rw [EL.out, E.out, HE.out]
    exact ⟨none, 0, rfl, Lst.nil _ _ _, (by refine Since.out ?_; repeat (first | with_reducible assumption | with_reducible exact Since.refl _ | with_reducible refine Since.later ?_ (by with_reducible assumption) | with_reducible refine Since.only ?_ (by with_reducible assumption) (by first | assumption | omega | (simp; done) | (simp; omega)) | with_reducible refine Since.alloc ?_ _ | with_reducible refine Since.drewN ?_ _ | with_reducible refine Since.drew ?_ | with_reducible refine Since.set ?_ (by first | assumption | omega | (simp; done) | (simp; omega)) _))⟩
  have hl30 := snt_len (both_zero he).1
  have HSA := Lib.hid (snt_all (both_zero he).1)
  have HRA := Lib.hid (rng_all (both_zero he).2)
  have HE0 : Hid (lostE L M now wait = if now < 0 ∨ 100000 < now ∨ wait < 1 ∨ 100000 < wait then 1 else 0) := Lib.hid (by unfold lostE; rw [if_pos he])
  rw [he, errV_zero]
  clear he
  by_cases t1 : now < 0
  · have E : Hid (lostE L M now wait = 1) := Lib.hid (by rw [HE0.out, if_pos (Or.inl t1)])
    have EL : Hid (lostL L M now wait = []) := Lib.hid (by unfold lostL; rw [E.out, if_neg (by decide)])
    go_wp2_with fail
    go_ret2
    rw [EL.out, E.out]
    exact ⟨none, 0, rfl, Lst.nil _ _ _, (by refine Since.out ?_; repeat (first | with_reducible assumption | with_reducible exact Since.refl _ | with_reducible refine Since.later ?_ (by with_reducible assumption) | with_reducible refine Since.only ?_ (by with_reducible assumption) (by first | assumption | omega | (simp; done) | (simp; omega)) | with_reducible refine Since.alloc ?_ _ | with_reducible refine Since.drewN ?_ _ | with_reducible refine Since.drew ?_ | with_reducible refine Since.set ?_ (by first | assumption | omega | (simp; done) | (simp; omega)) _))⟩
  have t1' : decide (now < 0) = false := by simpa using t1
  by_cases t2 : 100000 < now
  · have E : Hid (lostE L M now wait = 1) := Lib.hid (by rw [HE0.out, if_pos (Or.inr (Or.inl t2))])
    have EL : Hid (lostL L M now wait = []) := Lib.hid (by unfold lostL; rw [E.out, if_neg (by decide)])
    clear t1
    go_wp2_with fail
    go_ret2
    rw [EL.out, E.out]
    exact ⟨none, 0, rfl, Lst.nil _ _ _, (by refine Since.out ?_; repeat (first | with_reducible assumption | with_reducible exact Since.refl _ | with_reducible refine Since.later ?_ (by with_reducible assumption) | with_reducible refine Since.only ?_ (by with_reducible assumption) (by first | assumption | omega | (simp; done) | (simp; omega)) | with_reducible refine Since.alloc ?_ _ | with_reducible refine Since.drewN ?_ _ | with_reducible refine Since.drew ?_ | with_reducible refine Since.set ?_ (by first | assumption | omega | (simp; done) | (simp; omega)) _))⟩
  have t2' : decide (100000 < now) = false := by simpa using t2
  by_cases t3 : 1 ≤ wait ∧ wait ≤ 100000
  case neg =>
    have E : Hid (lostE L M now wait = 1) := Lib.hid (by rw [HE0.out, if_pos (by omega)])
    have EL : Hid (lostL L M now wait = []) := Lib.hid (by unfold lostL; rw [E.out, if_neg (by decide)])
    have HT : Hid ((decide (1 ≤ wait) && decide (wait ≤ 100000)) = false) := Lib.hid (by simpa using t3)
    clear t1 t2 t3
    go_wp2_with (go_at_call 54; refine (time_b wait _).mono ?_; rintro e w' ⟨rfl, rfl⟩; rw [HT.out])
    go_ret2
    rw [EL.out, E.out]
    exact ⟨none, 0, rfl, Lst.nil _ _ _, (by refine Since.out ?_; repeat (first | with_reducible assumption | with_reducible exact Since.refl _ | with_reducible refine Since.later ?_ (by with_reducible assumption) | with_reducible refine Since.only ?_ (by with_reducible assumption) (by first | assumption | omega | (simp; done) | (simp; omega)) | with_reducible refine Since.alloc ?_ _ | with_reducible refine Since.drewN ?_ _ | with_reducible refine Since.drew ?_ | with_reducible refine Since.set ?_ (by first | assumption | omega | (simp; done) | (simp; omega)) _))⟩
  have E : Hid (lostE L M now wait = 0) := Lib.hid (by rw [HE0.out, if_neg (by omega)])
  have EL : Hid (lostL L M now wait = if M.length = 0 then [] else lostOf (leftL L M) (rat M 0).hi now wait) := Lib.hid (by unfold lostL; rw [E.out, if_pos rfl])
  have HT : Hid ((decide (1 ≤ wait) && decide (wait ≤ 100000)) = true) := Lib.hid (by simpa using t3)
  have n0 : 0 ≤ now := by omega
  have n1 : now ≤ 100000 := by omega
  clear t1 t2 t3
  by_cases hm0 : n2 = 0
  · have EL0 : Hid (lostL L M now wait = []) := Lib.hid (by rw [EL.out, HN2.out, if_pos hm0])
    subst hm0
    go_wp2_with (go_at_call 54; refine (time_b wait _).mono ?_; rintro e w' ⟨rfl, rfl⟩; rw [HT.out])
    go_ret2
    rw [EL0.out, E.out]
    exact ⟨none, 0, rfl, Lst.nil _ _ _, (by refine Since.out ?_; repeat (first | with_reducible assumption | with_reducible exact Since.refl _ | with_reducible refine Since.later ?_ (by with_reducible assumption) | with_reducible refine Since.only ?_ (by with_reducible assumption) (by first | assumption | omega | (simp; done) | (simp; omega)) | with_reducible refine Since.alloc ?_ _ | with_reducible refine Since.drewN ?_ _ | with_reducible refine Since.drew ?_ | with_reducible refine Since.set ?_ (by first | assumption | omega | (simp; done) | (simp; omega)) _))⟩
  have hm0' : ((n2 : Int) == 0) = false := by simp; omega
  have hm0i : (0 : Int) < (n2 : Int) := by omega
  have EL1 : Hid (lostL L M now wait = lostOf (leftL L M) (rat M 0).hi now wait) := Lib.hid (by rw [EL.out, HN2.out, if_neg hm0])
  obtain ⟨b, off, rfl, hbl, hc⟩ := H2.out.rng (i := 0) (by rw [HN2.out]; omega)
  have hs1 : Since w w1 := hb1
  have c1 : w1.cell? ⟨b, off + 1, none⟩ = some (.int .i64 (rat M 0).hi) := by
    have := (hc w1 hs1 0 (by rw [HN2.out]; omega)).2
    simpa using this
  have hr0 := HRA.out 0 (by rw [HN2.out]; omega)
  have ht0 : 0 ≤ (rat M 0).hi ∧ (rat M 0).hi ≤ 1073741823 := ⟨by omega, hr0.2.2.1⟩
  generalize (rat M 0).hi = top at *
  have lb : b < w1.heap.size := Nat.lt_of_lt_of_le hbl hs1.le
  clear hc hr0 EL hm0
  go_wp2_with (go_at_call 54; refine (time_b wait _).mono ?_; rintro e w' ⟨rfl, rfl⟩; rw [HT.out])
  refine (sleft A n cap L _ n2 cap2 M _ HN.out (by have := HN.out; omega) (H.out.later hs1) HN2.out (H2.out.later hs1)).mono ?_
  rintro e w2 ⟨A3, c3, rfl, hr3, hb2⟩
  have hs2 := hs1.later hb2
  have HK : Hid (∀ r ∈ leftL L M, 0 ≤ r.n ∧ r.n ≤ 1073741823 ∧ 0 ≤ r.t ∧ r.t ≤ 100000) := Lib.hid (fun r hr => by
    have := HSA.out r (List.mem_filter.1 hr).1
    exact ⟨this.1, this.2.1, this.2.2.1, this.2.2.2.1⟩)
  have hk30 : (leftL L M).length ≤ 30 := Nat.le_trans (List.length_filter_le _ _) hl30
  obtain ⟨K, hK⟩ : ∃ K, leftL L M = K := ⟨_, rfl⟩
  rw [hK] at hr3 HK hk30 EL1 ⊢
  have HR3 := Lib.hid hr3
  obtain ⟨m, hm⟩ : ∃ m, K.length = m := ⟨_, rfl⟩
  rw [hm] at HR3 hk30 ⊢
  have HM := Lib.hid hm
  clear hr3 hK hm c1
  go_wp2_with fail
  go_loopw [12, 14, 44] (fun s12 s14 s44 wr => ∃ (i k : Nat) (Ao : Option Addr) (co : Nat), s44 = .int .i64 i ∧ i ≤ m ∧ s12 = .slice Ao k co ∧ Hid (k = (lostOf (K.take i) top now wait).length) ∧ k ≤ i ∧ Lst wr 3 1 (.slice Ao k co) ((lostOf (K.take i) top now wait).map intRow) ∧ (∀ q, q ∈ blocks (.slice Ao 0 0) → w2.heap.size ≤ q) ∧ Since w2 wr) (fun _ _ s44 _ => m - (intOf s44).toNat)
  case atStart => exact ⟨0, 0, none, 0, rfl, Nat.zero_le _, rfl, Lib.hid rfl, Nat.le_refl _, Lst.nil _ _ _, by simp [Value.ownBlock], Since.refl _⟩
  case round =>
    obtain ⟨i, k, Ao, co, rfl, hi, rfl, hk, hki, hl, hfar, hs⟩ := hrel
    have HL := Lib.hid hl
    have HFAR := Lib.hid hfar
    clear hl hfar
    by_cases hlt : i < m
    case neg =>
      obtain rfl : i = m := by omega
      have hf : decide ((i : Int) < (i : Int)) = false := by simp
      go_wp2_with fail
      go_ret2
      have e1 : K.take i = K := List.take_of_length_le (by rw [HM.out]; exact Nat.le_refl _)
      have h1 := HL.out
      have h2 := hk.out
      rw [e1] at h1 h2
      rw [EL1.out, E.out, ← h2]
      exact ⟨Ao, co, rfl, h1, hs2.later hs⟩
    have hlt' : (i : Int) < (m : Int) := by omega
    obtain ⟨b3, off3, rfl, hbl3, hc3⟩ := HR3.out.snt (i := i) (by rw [HM.out]; exact hlt)
    obtain ⟨c0, c1, c2⟩ := hc3 wr hs i (by rw [HM.out]; exact hlt)
    have lb3 : b3 < wr.heap.size := Nat.lt_of_lt_of_le hbl3 hs.le
    have hil : i < K.length := by rw [HM.out]; exact hlt
    have hkb := HK.out (sat K i) (by rw [sat_get hil]; exact List.getElem_mem _)
    have htk : K.take (i + 1) = K.take i ++ [sat K i] := by rw [List.take_succ_eq_append_getElem hil, sat_get hil]
    have HST : Hid (lostOf (K.take (i + 1)) top now wait = lostOf (K.take i) top now wait ++ (if lostB top now wait (sat K i) = true then [(sat K i).n] else [])) := Lib.hid (by
      rw [htk]
      unfold lostOf
      rw [List.filter_append, List.map_append]
      cases hb2 : lostB top now wait (sat K i) with
      | true => simp [hb2]
      | false => simp [hb2])
    have HLB : Hid (lostB top now wait (sat K i) = (decide ((sat K i).n + 3 ≤ top) || (decide ((sat K i).n < top) && decide (wait ≤ now - (sat K i).t)))) := Lib.hid rfl
    obtain ⟨k1, k2, k3, k4⟩ := hkb
    clear hc3 htk
    generalize sat K i = r at *
    obtain ⟨sn, st, sz⟩ := r
    simp only at c0 c1 c2 k1 k2 k3 k4 HLB HST
    obtain ⟨ta, tb⟩ := ht0
    have hkeep : lostB top now wait ⟨sn, st, sz⟩ = false → Hid (lostOf (K.take (i + 1)) top now wait = lostOf (K.take i) top now wait) := fun h => Lib.hid (by rw [HST.out, h]; simp)
    have hpush : lostB top now wait ⟨sn, st, sz⟩ = true → Hid (lostOf (K.take (i + 1)) top now wait = lostOf (K.take i) top now wait ++ [sn]) := fun h => Lib.hid (by rw [HST.out, h]; simp)
    have hml : ((lostOf (K.take i) top now wait).map intRow).length = k := by rw [List.length_map]; exact hk.out.symm
    have HML := Lib.hid hml
    clear hml
    have HKP := Lib.hid hkeep
    have HPS := Lib.hid hpush
    clear hkeep hpush HST
    by_cases a1 : sn + 3 ≤ top
    · have S := HPS.out (by rw [HLB.out]; simp; exact Or.inl a1)
      go_wp2_with (at_builtin; refine wpList_push rfl _ _ 33 rfl 3 1 8 Tryd.elInt (.slice Ao k co) ((lostOf (K.take i) top now wait).map intRow) rfl ((HL.out.alloc _).alloc _) (wr.heap.size + 1) 1 [.int .i64 sn] rfl rfl (intRow_one sn).2 (BlockIs.fresh_at (by simp)) (by rw [HML.out]; omega) ?_; intro q5 cq w5 hl5 ho5 hq5 hlt5)
      rw [HML.out] at hl5
      have hsn : Since w2 w5 := ((hs.alloc _).alloc _).out' ho5 (fun k hk => HFAR.out k (blocks_any Ao _ _ _ _ ▸ hk))
      have hfar1 : ∀ k, k ∈ blocks (.slice (some ⟨q5, 0, none⟩) 0 0) → w2.heap.size ≤ k := by
        intro k hk
        have hkq : q5 = k := by simpa [Value.ownBlock] using hk
        rw [← hkq]
        rcases hq5 with h1 | h1
        · exact HFAR.out _ (blocks_any Ao _ _ _ _ ▸ h1)
        · have := hs.le; simp at h1; omega
      have HF1 := Lib.hid hfar1
      have HL1 := Lib.hid hl5
      clear hfar1 hl5 ho5 hq5 hlt5 c0 c1 c2
      go_roundw
      case rel => exact ⟨i + 1, k + 1, some ⟨q5, 0, none⟩, cq, by go_num, by omega, by first | rfl | rw [← hk.out], Lib.hid (by rw [S.out, List.length_append, hk.out]; rfl), by omega, by rw [S.out, List.map_append]; exact HL1.out, HF1.out, hsn⟩
      case measure => simp [intOf]; omega
    have a1' : decide (sn + 3 ≤ top) = false := by simpa using a1
    by_cases a2 : sn < top
    · by_cases a3 : wait ≤ now - st
      · have S := HPS.out (by rw [HLB.out]; simp; exact Or.inr ⟨a2, a3⟩)
        clear a1
        go_wp2_with (at_builtin; refine wpList_push rfl _ _ 33 rfl 3 1 8 Tryd.elInt (.slice Ao k co) ((lostOf (K.take i) top now wait).map intRow) rfl ((HL.out.alloc _).alloc _) (wr.heap.size + 1) 1 [.int .i64 sn] rfl rfl (intRow_one sn).2 (BlockIs.fresh_at (by simp)) (by rw [HML.out]; omega) ?_; intro q5 cq w5 hl5 ho5 hq5 hlt5)
        rw [HML.out] at hl5
        have hsn : Since w2 w5 := ((hs.alloc _).alloc _).out' ho5 (fun k hk => HFAR.out k (blocks_any Ao _ _ _ _ ▸ hk))
        have hfar1 : ∀ k, k ∈ blocks (.slice (some ⟨q5, 0, none⟩) 0 0) → w2.heap.size ≤ k := by
          intro k hk
          have hkq : q5 = k := by simpa [Value.ownBlock] using hk
          rw [← hkq]
          rcases hq5 with h1 | h1
          · exact HFAR.out _ (blocks_any Ao _ _ _ _ ▸ h1)
          · have := hs.le; simp at h1; omega
        have HF1 := Lib.hid hfar1
        have HL1 := Lib.hid hl5
        clear hfar1 hl5 ho5 hq5 hlt5 c0 c1 c2
        go_roundw
        case rel => exact ⟨i + 1, k + 1, some ⟨q5, 0, none⟩, cq, by go_num, by omega, by first | rfl | rw [← hk.out], Lib.hid (by rw [S.out, List.length_append, hk.out]; rfl), by omega, by rw [S.out, List.map_append]; exact HL1.out, HF1.out, hsn⟩
        case measure => simp [intOf]; omega
      · have a3' : decide (wait ≤ now - st) = false := by simpa using a3
        have S := HKP.out (by rw [HLB.out, a1', a3']; simp)
        clear a1 a3
        go_wp2_with fail
        go_roundw
        case rel => exact ⟨i + 1, k, Ao, co, by go_num, by omega, rfl, by rw [S.out]; exact hk, by omega, by rw [S.out]; exact HL.out.alloc _, HFAR.out, hs.alloc _⟩
        case measure => simp [intOf]; omega
    · have a2' : decide (sn < top) = false := by simpa using a2
      have S := HKP.out (by rw [HLB.out, a1', a2']; simp)
      clear a1 a2
      go_wp2_with fail
      go_roundw
      case rel => exact ⟨i + 1, k, Ao, co, by go_num, by omega, rfl, by rw [S.out]; exact hk, by omega, by rw [S.out]; exact HL.out.alloc _, HFAR.out, hs.alloc _⟩
      case measure => simp [intOf]; omega
set_option maxHeartbeats 1600000 in
theorem sntEq (A B : Option Addr) (ca cb n : Nat) (L : List Snt) (w : World) (hn : L.length = n) (h : Rd w 3 (.slice A n ca) (L.map sntRow)) (h' : Rd w 3 (.slice B n cb) (L.map sntRow)) :
    Calls Tryd.prog 36 #[.slice A n ca, .slice B n cb] w fun e w' => e = .returned (.bool true) ∧ Below w.heap.size w w' := by
  have H := Lib.hid h
  have H' := Lib.hid h'
  have HN := Lib.hid hn
  have hcm := h.cap_le.2
  have hq : ((n : Int) != (n : Int)) = false := by simp
  clear h h' hn
  go_enter Tryd.func36, Tryd.ntmps36
  go_wp2_with fail
  go_loopw [5] (fun s5 wr => ∃ i : Nat, s5 = .int .i64 i ∧ i ≤ n ∧ Since w wr) (fun s5 _ => n - (intOf s5).toNat)
  case atStart => exact ⟨0, rfl, Nat.zero_le _, Since.refl _⟩
  case round =>
    obtain ⟨i, rfl, hi, hs⟩ := hrel
    by_cases hlt : i < n
    case neg =>
      obtain rfl : i = n := by omega
      have hf : decide ((i : Int) < (i : Int)) = false := by simp
      go_wp2_with fail
      go_ret
      exact ⟨rfl, (by refine Since.out ?_; repeat (first | with_reducible assumption | with_reducible exact Since.refl _ | with_reducible refine Since.later ?_ (by with_reducible assumption) | with_reducible refine Since.only ?_ (by with_reducible assumption) (by first | assumption | omega | (simp; done) | (simp; omega)) | with_reducible refine Since.alloc ?_ _ | with_reducible refine Since.drewN ?_ _ | with_reducible refine Since.drew ?_ | with_reducible refine Since.set ?_ (by first | assumption | omega | (simp; done) | (simp; omega)) _))⟩
    have hlt' : (i : Int) < (n : Int) := by omega
    obtain ⟨b, off, rfl, hbl, hc⟩ := H.out.snt (i := i) (by rw [HN.out]; exact hlt)
    obtain ⟨c0, c1, c2⟩ := hc wr hs i (by rw [HN.out]; exact hlt)
    obtain ⟨b', off', rfl, hbl', hc'⟩ := H'.out.snt (i := i) (by rw [HN.out]; exact hlt)
    obtain ⟨d0, d1, d2⟩ := hc' wr hs i (by rw [HN.out]; exact hlt)
    clear hc hc'
    generalize (sat L i).n = sn at *
    generalize (sat L i).t = st at *
    generalize (sat L i).z = sz at *
    go_wp2_with fail
    go_quiet (fail)
    go_wp2_with fail
    go_roundw
    case rel => exact ⟨i + 1, by go_num, by omega, (by refine Since.out ?_; repeat (first | with_reducible assumption | with_reducible exact Since.refl _ | with_reducible refine Since.later ?_ (by with_reducible assumption) | with_reducible refine Since.only ?_ (by with_reducible assumption) (by first | assumption | omega | (simp; done) | (simp; omega)) | with_reducible refine Since.alloc ?_ _ | with_reducible refine Since.drewN ?_ _ | with_reducible refine Since.drew ?_ | with_reducible refine Since.set ?_ (by first | assumption | omega | (simp; done) | (simp; omega)) _))⟩
    case measure => simp [intOf]; omega
set_option maxHeartbeats 1600000 in
theorem intEq (A B : Option Addr) (ca cb n : Nat) (L : List Int) (w : World) (hn : L.length = n) (h : Lst w 3 1 (.slice A n ca) (L.map intRow)) (h' : Lst w 3 1 (.slice B n cb) (L.map intRow)) :
    Calls Tryd.prog 38 #[.slice A n ca, .slice B n cb] w fun e w' => e = .returned (.bool true) ∧ Below w.heap.size w w' := by
  have hcm := (Rd.of_lst h).cap_le.2
  obtain ⟨A', cap, hve, hz1, hz2, hA⟩ := h.shape
  obtain ⟨B', cap2, hvg, hz3, hz4, hB⟩ := h'.shape
  simp only [List.length_map, Value.slice.injEq] at hve hvg
  obtain ⟨rfl, hz5, rfl⟩ := hve
  obtain ⟨rfl, hz6, rfl⟩ := hvg
  have H := Lib.hid h
  have H' := Lib.hid h'
  have HA := Lib.hid hA
  have HB := Lib.hid hB
  have HN := Lib.hid hn
  have hq : ((n : Int) != (n : Int)) = false := by simp
  clear h h' hA hB hn hz1 hz2 hz3 hz4 hz5 hz6
  go_enter Tryd.func38, Tryd.ntmps38
  go_wp2_with fail
  go_loopw [5] (fun s5 wr => ∃ i : Nat, s5 = .int .i64 i ∧ i ≤ n ∧ Since w wr) (fun s5 _ => n - (intOf s5).toNat)
  case atStart => exact ⟨0, rfl, Nat.zero_le _, Since.refl _⟩
  case round =>
    obtain ⟨i, rfl, hi, hs⟩ := hrel
    by_cases hlt : i < n
    case neg =>
      obtain rfl : i = n := by omega
      have hf : decide ((i : Int) < (i : Int)) = false := by simp
      go_wp2_with fail
      go_ret
      exact ⟨rfl, (by refine Since.out ?_; repeat (first | with_reducible assumption | with_reducible exact Since.refl _ | with_reducible refine Since.later ?_ (by with_reducible assumption) | with_reducible refine Since.only ?_ (by with_reducible assumption) (by first | assumption | omega | (simp; done) | (simp; omega)) | with_reducible refine Since.alloc ?_ _ | with_reducible refine Since.drewN ?_ _ | with_reducible refine Since.drew ?_ | with_reducible refine Since.set ?_ (by first | assumption | omega | (simp; done) | (simp; omega)) _))⟩
    have hlt' : (i : Int) < (n : Int) := by omega
    have hil : i < L.length := by rw [HN.out]; exact hlt
    rcases HA.out with ⟨_, h0, _⟩ | ⟨qa, rfl⟩
    · have h1 : L = [] := by simpa using h0
      rw [h1] at hil
      simp at hil
    rcases HB.out with ⟨_, h0, _⟩ | ⟨qb, rfl⟩
    · have h1 : L = [] := by simpa using h0
      rw [h1] at hil
      simp at hil
    have hrow : (L.map intRow)[i]? = some (intRow L[i]) := by simp [hil]
    have a0 : wr.cell? ⟨qa, i, none⟩ = some (.int .i64 L[i]) := by
      have := (H.out.later hs).cell rfl hrow (j := 0) rfl
      simpa using this
    have b0 : wr.cell? ⟨qb, i, none⟩ = some (.int .i64 L[i]) := by
      have := (H'.out.later hs).cell rfl hrow (j := 0) rfl
      simpa using this
    clear hrow
    generalize L[i] = ds at *
    go_wp2_with fail
    go_quiet (fail)
    go_wp2_with fail
    go_roundw
    case rel => exact ⟨i + 1, by go_num, by omega, (by refine Since.out ?_; repeat (first | with_reducible assumption | with_reducible exact Since.refl _ | with_reducible refine Since.later ?_ (by with_reducible assumption) | with_reducible refine Since.only ?_ (by with_reducible assumption) (by first | assumption | omega | (simp; done) | (simp; omega)) | with_reducible refine Since.alloc ?_ _ | with_reducible refine Since.drewN ?_ _ | with_reducible refine Since.drew ?_ | with_reducible refine Since.set ?_ (by first | assumption | omega | (simp; done) | (simp; omega)) _))⟩
    case measure => simp [intOf]; omega
end Go.Proofs.YtbmfknnbpnllkaaDoor
