/- ranges.Joined: plain words, slices.Clone of ranges, and the contract. Condition: the slice can be read, holds one range or more, their ends bounded. -/
import Derived.Test.YtjjmoaaongnjiaaGreatDoorSort
import Derived.Deep.RegionLaw
namespace Go.Proofs.YtjjmoaaongnjiaaGreatDoor
open Go.ChangeShapes Go.WideShapes Go.ChangeAt Go.RowKit
set_option linter.unusedVariables false

/-- does a range run into the last of some -/
def jinto (O : List Rng) (r : Rng) : Bool := decide (0 < O.length) && decide ((rat O (O.length - 1)).lo ≤ r.hi + 1)
/-- some ranges, the next added -/
def jstep (O : List Rng) (r : Rng) : List Rng := if jinto O r = true then O.set (O.length - 1) ⟨min (rat O (O.length - 1)).lo r.lo, (rat O (O.length - 1)).hi⟩ else O ++ [r]
def joinL (L : List Rng) : List Rng := L.foldl jstep []
theorem joinL_succ {L : List Rng} {i : Nat} (h : i < L.length) : joinL (L.take (i + 1)) = jstep (joinL (L.take i)) (rat L i) := by
  unfold joinL
  rw [List.take_add_one, List.foldl_append, rat_get h]
  simp [List.getElem?_eq_getElem h]
theorem jstep_len (O : List Rng) (r : Rng) : (jstep O r).length ≤ O.length + 1 := by
  unfold jstep
  split <;> simp
theorem joinL_len (L : List Rng) : ∀ i, (joinL (L.take i)).length ≤ i
  | 0 => by simp [joinL]
  | i + 1 => by
    by_cases h : i < L.length
    · rw [joinL_succ h]
      have := jstep_len (joinL (L.take i)) (rat L i)
      have := joinL_len L i
      omega
    · have h1 : L.take (i + 1) = L.take i := by rw [List.take_of_length_le (by omega), List.take_of_length_le (by omega)]
      have := joinL_len L i
      rw [h1]; omega

/-- one cell of one element is written -/
theorem Lst.setc {w : World} {E k g n cap : Nat} {es : List (List Value)} (h : Lst w E k (.slice (some ⟨g, 0, none⟩) n cap) es) {i j : Nat} {e : List Value} (hi : es[i]? = some e) (hj : j < k) {u : Value} (h1 : u.oneCell' = true) :
    Lst (w.setCell ⟨g, i * k + j, none⟩ u) E k (.slice (some ⟨g, 0, none⟩) n cap) (es.set i (e.set j u)) := by
  have hr : ∀ e ∈ es, e.length = k := fun e he => (h.rows e he).1
  have hil : i < es.length := (List.getElem?_eq_some_iff.1 hi).1
  have hee : es[i] = e := (List.getElem?_eq_some_iff.1 hi).2
  have hel : e.length = k := by rw [← hee]; exact hr _ (List.getElem_mem _)
  have hr2 : ∀ x ∈ es.set i (e.set j u), x.length = k := fun x hx => by
    rcases List.mem_or_eq_of_mem_set hx with hx | hx
    · exact hr x hx
    · rw [hx, List.length_set]; exact hel
  have hfl : (flat es).set (i * k + j) u = flat (es.set i (e.set j u)) := by
    have hsplit : es = es.take i ++ e :: es.drop (i + 1) := by
      rw [← hee]; simp
    have hset : es.set i (e.set j u) = es.take i ++ (e.set j u) :: es.drop (i + 1) := by
      rw [List.set_eq_take_append_cons_drop, if_pos hil]
    have hlt : (flat (es.take i)).length = i * k := by
      rw [flat_length (fun x hx => hr x (List.mem_of_mem_take hx)), List.length_take]
      congr 1
      omega
    rw [hset]
    conv => lhs; rw [hsplit]
    simp only [flat, List.flatten_append, List.flatten_cons]
    simp only [flat] at hlt
    rw [List.set_append_right _ _ (by rw [hlt]; omega), hlt, List.set_append_left _ _ (by omega), show i * k + j - i * k = j from by omega]
  refine ⟨⟨flat_length hr2, ?_⟩, fun x hx => ?_⟩
  · rcases h.own.2 with ⟨h0, _⟩ | ⟨g', cap', cur, hv, hb, hg, hh1, h2, h3, h4⟩
    · cases h0
    · simp only [Value.slice.injEq, Option.some.injEq, Addr.mk.injEq, and_true] at hv
      obtain ⟨rfl, rfl, rfl⟩ := hv
      refine Or.inr ⟨g, cap, cur.setIfInBounds (i * k + j) u, by rw [List.length_set], hb, BlockIs.put hg _ u, by rw [List.length_set]; exact hh1, h2, by simpa using h3, ?_⟩
      rw [Array.toList_setIfInBounds, List.take_set, List.length_set, h4, hfl]
  · rcases List.mem_or_eq_of_mem_set hx with hx | hx
    · exact h.rows x hx
    · rw [hx, List.length_set]
      refine ⟨hel, fun v hv => ?_⟩
      rcases List.mem_or_eq_of_mem_set hv with hv | hv
      · exact (h.rows e (by rw [← hee]; exact List.getElem_mem _)).2 v hv
      · rw [hv]; exact h1
set_option maxHeartbeats 800000 in
theorem rclone (A : Option Addr) (n cap : Nat) (L : List Rng) (w : World) (hn : L.length = n) (hm : n ≤ 1000000) (h : Rd w 2 (.slice A n cap) (L.map rngRow)) :
    Calls Tryz.prog 24 #[.slice A n cap] w fun e w' => ∃ A' cap', e = .returned (.slice A' n cap') ∧ Lst w' 34 2 (.slice A' n cap') (L.map rngRow) ∧ Below w.heap.size w w' ∧ ∀ k, k ∈ blocks (.slice A' 0 0) → w.heap.size ≤ k := by
  have hml : (L.map rngRow).length = n := by rw [List.length_map]; exact hn
  have HML := Lib.hid hml
  have H := Lib.hid h
  have hnil := @Lib.run_eql_slice_nil
  obtain ⟨A0, cap0, hv, hz1, hz2, hc⟩ := h.shape
  simp only [Value.slice.injEq] at hv
  obtain ⟨rfl, hz0, rfl⟩ := hv
  clear hz0 hz1 hz2
  cases A with
  | none =>
    have hn0 : n = 0 := by
      rcases Nat.eq_zero_or_pos n with h0 | h0
      · exact h0
      · obtain ⟨b, off, he, _⟩ := hc (by intro he; rw [he] at hml; simp at hml; omega)
        cases he
    subst hn0
    have hL : L = [] := List.length_eq_zero_iff.1 hn
    subst hL
    clear h hc hml hn
    go_enter Tryz.func24, Tryz.ntmps24
    go_wp2
    go_ret
    exact ⟨none, 0, rfl, Lst.nil _ _ _, Below.refl _ _, by simp [Value.ownBlock]⟩
  | some ad =>
    have hnews : ∀ j u, (flat (L.map rngRow))[j]? = some u → (w.alloc (.cells #[] 34)).cell? (ad.add j) = some u := fun j u hu => by
      have hne : L.map rngRow ≠ [] := by intro he; rw [he] at hu; simp [flat] at hu
      obtain ⟨b, off, he, hlt, hcc⟩ := hc hne
      cases he
      have hadd : (⟨b, off, none⟩ : Addr).add j = ⟨b, off + j, none⟩ := by unfold Addr.add; split <;> simp_all
      rw [hadd]
      exact ((Since.refl w).alloc _).cell hlt (hcc j u hu)
    have HNW := Lib.hid hnews
    clear h hc hml hnews
    go_enter Tryz.func24, Tryz.ntmps24
    go_wp2_with (at_builtin; refine wpList_cat rfl _ _ 31 rfl 34 2 16 Tryz.elRange (.slice (some ⟨w.heap.size, 0, none⟩) 0 0) [] rfl (Lst.empty w _ 2) ad n cap (L.map rngRow) rfl HML.out H.out.rows HNW.out (by rw [HML.out]; simp; omega) ?_; intro A1 cap1 w1 hl1 ho1 hk1)
    simp only [List.length_nil, Nat.zero_add, List.nil_append] at hl1 ⊢
    go_ret
    refine ⟨A1, cap1, rfl, hl1, ?_, fun k hk => ?_⟩
    · exact ho1.below ((Below.refl _ _).alloc (Nat.le_refl _) _) (by simp) (by simp [Value.ownBlock])
    · rcases hk1 k (blocks_any A1 _ _ _ _ ▸ hk) with h1 | h1
      · have : w.heap.size = k := by simpa [Value.ownBlock] using h1
        omega
      · rw [h1]; simp


set_option maxHeartbeats 3200000 in
set_option maxRecDepth 100000 in
theorem rjoined (A : Option Addr) (n cap : Nat) (L : List Rng) (w : World) (hn : L.length = n) (h0 : 0 < n) (hm : n ≤ 100) (hL : ∀ r ∈ L, okN r) (h : Rd w 2 (.slice A n cap) (L.map rngRow)) :
    Calls Tryz.prog 30 #[.slice A n cap] w fun e w' => ∃ L' A' cap', L'.Perm L ∧ L'.Pairwise (fun a b => b.hi ≤ a.hi) ∧ e = .returned (.slice A' (joinL L').length cap') ∧ Lst w' 34 2 (.slice A' (joinL L').length cap') ((joinL L').map rngRow) ∧ Below w.heap.size w w' ∧ ∀ k, k ∈ blocks (.slice A' 0 0) → w.heap.size ≤ k := by
  have H := Lib.hid h
  have HN := Lib.hid hn
  have HOK := Lib.hid hL
  clear h hn hL
  go_enter Tryz.func30, Tryz.ntmps30
  go_wp2_with (first | (go_at_call 24; refine (rclone A n cap L _ HN.out (by omega) H.out).mono ?_; rintro e w1 ⟨A1, c1, rfl, hl1, hb1, hk1⟩; obtain ⟨g, rfl⟩ : ∃ g, A1 = some ⟨g, 0, none⟩ := (by obtain ⟨A2, c2, hv, _, _, hA⟩ := hl1.shape; simp only [Value.slice.injEq] at hv; obtain ⟨rfl, h2, rfl⟩ := hv; rcases hA with ⟨_, h3, _⟩ | ⟨g, rfl⟩; (rw [h3] at h2; simp at h2; omega); exact ⟨g, rfl⟩); have HL1 := Lib.hid hl1; have HK1 := Lib.hid (hk1 g (by simp [Value.ownBlock])); clear hl1 hk1) | (go_at_call 39; refine (rsort g n c1 L _ HN.out (fun r hr => (HOK.out r hr).2) HL1.out (by omega)).mono ?_; rintro e w2 ⟨rfl, L', hp, hsd, hl2, ho2⟩; have HS2 := Lib.hid (show Since w w2 from ho2.below hb1 hb1.size (by intro k hk; rw [List.mem_singleton.1 hk]; exact HK1.out)); have HL2 := Lib.hid hl2; have HP := Lib.hid hp; have HSD := Lib.hid hsd; clear hl2 ho2 hp hsd))
  have hn' : L'.length = n := by rw [HP.out.length_eq, HN.out]
  have HN' := Lib.hid hn'
  clear hn' hb1
  go_loopw [3, 5, 6, 13] (fun s3 s5 s6 s13 wr => ∃ (i m : Nat) (Ao : Option Addr) (co : Nat), s13 = .int .i64 i ∧ i ≤ n ∧ s3 = .slice Ao m co ∧ Hid (m = (joinL (L'.take i)).length) ∧ Lst wr 34 2 (.slice Ao m co) ((joinL (L'.take i)).map rngRow) ∧ (∀ k, k ∈ blocks (.slice Ao 0 0) → w2.heap.size ≤ k) ∧ Since w2 wr) (fun _ _ _ s13 _ => n - (intOf s13).toNat)
  case atStart => exact ⟨0, 0, none, 0, rfl, Nat.zero_le _, rfl, Lib.hid rfl, Lst.nil _ _ 2, by simp [Value.ownBlock], Since.refl _⟩
  case round =>
    obtain ⟨i, m, Ao, co, rfl, hi, rfl, hmm, hlo, hfar, hs⟩ := hrel
    have HLO := Lib.hid hlo
    have HFAR := Lib.hid hfar
    clear hlo hfar
    have hmi := joinL_len L' i
    by_cases hlt : i < n
    case neg =>
      obtain rfl : i = n := by omega
      have e1 : L'.take i = L' := by rw [List.take_of_length_le (by rw [HN'.out]; exact Nat.le_refl _)]
      have hf : decide ((i : Int) < (i : Int)) = false := by simp
      clear hmi
      go_wp2_with fail
      go_ret
      have h2 := hmm.out
      have h3 := HLO.out
      rw [e1] at h2 h3
      rw [h2] at h3 ⊢
      exact ⟨L', Ao, co, HP.out, HSD.out, rfl, h3, HS2.out.later hs, fun k hk => Nat.le_trans HS2.out.le (HFAR.out k hk)⟩
    have hlt' : (i : Int) < (n : Int) := by omega
    have hiL : i < L'.length := by rw [HN'.out]; exact hlt
    have hl2 := HL2.out.later hs
    have hst := joinL_succ hiL
    have c0 : wr.cell? ⟨g, i * 2, none⟩ = some (.int .i64 (rat L' i).lo) := by rw [rat_get hiL]; exact hl2.cell rfl (elem_of_rng hiL) (j := 0) rfl
    have c1 : wr.cell? ⟨g, i * 2 + 1, none⟩ = some (.int .i64 (rat L' i).hi) := by rw [rat_get hiL]; exact hl2.cell rfl (elem_of_rng hiL) (j := 1) rfl
    have hok : okN (rat L' i) := by rw [rat_get hiL]; exact HOK.out _ (HP.out.mem_iff.1 (List.getElem_mem _))
    have lg : g < wr.heap.size := hl2.lt g (by simp [Value.ownBlock])
    generalize rat L' i = r at *
    obtain ⟨lo, hi2⟩ := r
    obtain ⟨⟨b1, b2⟩, b3, b4⟩ := hok
    simp only at c0 c1 b1 b2 b3 b4
    have HST := Lib.hid hst
    clear hst hl2
    generalize joinL (L'.take i) = O at *
    have hml : (O.map rngRow).length = m := by rw [List.length_map]; exact hmm.out.symm
    have HML := Lib.hid hml
    clear hml
    have hpush : jinto O ⟨lo, hi2⟩ = false → joinL (L'.take (i + 1)) = O ++ [⟨lo, hi2⟩] := fun h => by rw [HST.out, jstep, h]; rfl
    have HPU := Lib.hid hpush
    clear hpush
    have HFR : Hid (∀ X : World, X.heap.size = wr.heap.size + 1 → BlockIs (X.alloc (.cells #[.int .i64 lo, .int .i64 hi2] 34)) (wr.heap.size + 1) 34 #[.int .i64 lo, .int .i64 hi2]) := Lib.hid (fun X h => h ▸ BlockIs.fresh X _ _)
    by_cases hm0 : m = 0
    · subst hm0
      have HN1 := Lib.hid (HPU.out (by unfold jinto; rw [← hmm.out]; rfl))
      go_wp2_with fail
      go_quiet (fail)
      go_wp2_with (at_builtin; refine wpList_push rfl _ _ 31 rfl 34 2 16 Tryz.elRange (.slice Ao 0 co) (O.map rngRow) rfl ?_ (wr.heap.size + 1) 1 [.int .i64 lo, .int .i64 hi2] rfl rfl (rngRow_one ⟨lo, hi2⟩).2 ?_ ?_ ?_; (exact ((HLO.out.alloc _).drewN _).alloc _); (exact HFR.out _ (by simp)); (rw [HML.out]; omega); intro qn cn w3 hl3 ho3 hq3 hlt3)
      have hsn : Since w2 w3 := ((hs.alloc _).drewN _ |>.alloc _).out' ho3 (fun k hk => HFAR.out k (blocks_any Ao _ _ _ _ ▸ hk))
      have hfar1 : ∀ k, k ∈ blocks (.slice (some ⟨qn, 0, none⟩) 0 0) → w2.heap.size ≤ k := by
        intro k hk
        have hkq : qn = k := by simpa [Value.ownBlock] using hk
        rw [← hkq]
        rcases hq3 with h1 | h1
        · exact HFAR.out _ (blocks_any Ao _ _ _ _ ▸ h1)
        · have := hs.le; simp at h1; omega
      have HF1 := Lib.hid hfar1
      rw [List.length_map] at hl3
      have HL3 := Lib.hid hl3
      clear hfar1 hl3 ho3 hq3 hlt3
      go_roundw
      case rel => exact ⟨i + 1, _, some ⟨qn, 0, none⟩, cn, by go_num, by omega, rfl, Lib.hid (by rw [HN1.out, List.length_append]; rfl), by rw [HN1.out, List.map_append]; exact HL3.out, HF1.out, hsn⟩
      case measure => simp [intOf]; omega
    have hmO : 0 < O.length := by have := hmm.out; omega
    have hm1 : O.length - 1 = m - 1 := by have := hmm.out; omega
    have hmp : (0 : Int) < (m : Int) := by omega
    have hmn : 0 < m := by omega
    have hm100 : m ≤ 100 := by have := hmm.out; omega
    have hw1 : IntKind.i64.wrap (hi2 + 1) = hi2 + 1 := by simp [IntKind.wrap, IntKind.bits, IntKind.signed]; omega
    have hw2 : IntKind.i64.wrap ((m - 1 : Nat) : Int) = ((m - 1 : Nat) : Int) := by simp [IntKind.wrap, IntKind.bits, IntKind.signed]; omega
    have hlA : (O.map rngRow)[m - 1]? = some (rngRow (rat O (m - 1))) := by rw [rat_get (by omega)]; exact elem_of_rng (by omega)
    obtain ⟨qo, rfl⟩ : ∃ q, Ao = some ⟨q, 0, none⟩ := by
      obtain ⟨A2, c2, hv, _, _, hA⟩ := HLO.out.shape
      simp only [Value.slice.injEq] at hv
      obtain ⟨rfl, h2, rfl⟩ := hv
      rcases hA with ⟨_, h3, _⟩ | ⟨g, rfl⟩
      · rw [h3] at h2; simp at h2; omega
      · exact ⟨g, rfl⟩
    have hstep : jinto O ⟨lo, hi2⟩ = decide ((rat O (m - 1)).lo ≤ hi2 + 1) := by unfold jinto; rw [hm1, decide_eq_true hmO]; rfl
    have hset : jinto O ⟨lo, hi2⟩ = true → joinL (L'.take (i + 1)) = O.set (m - 1) ⟨min (rat O (m - 1)).lo lo, (rat O (m - 1)).hi⟩ := fun h => by rw [HST.out, jstep, if_pos h, hm1]
    have HSE := Lib.hid hset
    have HSP := Lib.hid hstep
    have HHO := Lib.hid hmO
    have d0 : wr.cell? ⟨qo, (m - 1) * 2, none⟩ = some (.int .i64 (rat O (m - 1)).lo) := HLO.out.cell rfl hlA (j := 0) rfl
    have fz := World.ownsRow.frozenAt (w := wr) (base := 0) (e := 34) (size := 2) (g := qo) (n := m) (cap := co) (xs := flat (O.map rngRow)) (by have := HLO.out.own; rw [HML.out] at this; exact this)
    have lq : qo < wr.heap.size := HLO.out.lt qo (by simp [Value.ownBlock])
    have HLA := Lib.hid hlA
    clear hset hstep hlA hm1 hmO hmi
    have hm2' : (m : Int) - 1 = ((m - 1 : Nat) : Int) := by omega
    have hm3 : ((m - 1 : Nat) : Int) < (m : Int) := by omega
    generalize hrl : rat O (m - 1) = rl at *
    obtain ⟨ll, lh⟩ := rl
    simp only at d0
    have d1 : (wr.alloc (.cells #[.int .i64 lo, .int .i64 hi2] 34)).cell? ⟨qo, (m - 1) * 2, none⟩ = some (.int .i64 ll) := ((Since.refl wr).alloc _).cell lq d0
    by_cases hin : ll ≤ hi2 + 1
    case neg =>
      have hin' : decide (ll ≤ hi2 + 1) = false := by simpa using hin
      have HN1 := Lib.hid (HPU.out (by rw [HSP.out]; exact hin'))
      go_wp2_with fail
      go_quiet (fail)
      go_wp2_with (at_builtin; refine wpList_push rfl _ _ 31 rfl 34 2 16 Tryz.elRange (.slice (some ⟨qo, 0, none⟩) m co) (O.map rngRow) rfl ?_ (wr.heap.size + 1) 1 [.int .i64 lo, .int .i64 hi2] rfl rfl (rngRow_one ⟨lo, hi2⟩).2 ?_ ?_ ?_; (exact ((HLO.out.alloc _).drewN _).alloc _); (exact HFR.out _ (by simp)); (rw [HML.out]; omega); intro qn cn w3 hl3 ho3 hq3 hlt3)
      have hsn : Since w2 w3 := ((hs.alloc _).drewN _ |>.alloc _).out' ho3 (fun k hk => HFAR.out k (blocks_any (some ⟨qo, 0, none⟩) _ _ _ _ ▸ hk))
      have hfar1 : ∀ k, k ∈ blocks (.slice (some ⟨qn, 0, none⟩) 0 0) → w2.heap.size ≤ k := by
        intro k hk
        have hkq : qn = k := by simpa [Value.ownBlock] using hk
        rw [← hkq]
        rcases hq3 with h1 | h1
        · exact HFAR.out _ (blocks_any (some ⟨qo, 0, none⟩) _ _ _ _ ▸ h1)
        · have := hs.le; simp at h1; omega
      have HF1 := Lib.hid hfar1
      rw [List.length_map] at hl3
      have HL3 := Lib.hid hl3
      clear hfar1 hl3 ho3 hq3 hlt3
      go_roundw
      case rel => exact ⟨i + 1, _, some ⟨qn, 0, none⟩, cn, by go_num, by omega, rfl, Lib.hid (by rw [HN1.out, List.length_append]; rfl), by rw [HN1.out, List.map_append]; exact HL3.out, HF1.out, hsn⟩
      case measure => simp [intOf]; omega
    have hin' : decide (ll ≤ hi2 + 1) = true := by simpa using hin
    have HN1 := Lib.hid (HSE.out (by rw [HSP.out]; exact hin'))
    go_wp2_with fail
    go_quiet (fail)
    go_wp2_with fail
    go_region
    have hqo : w2.heap.size ≤ qo := HFAR.out qo (by simp [Value.ownBlock])
    have hl4 := ((HLO.out.alloc (.cells #[.int .i64 lo, .int .i64 hi2] 34)).drewN (nq + 1)).setc (i := m - 1) (j := 0) HLA.out (by decide) (u := .int .i64 (min ll lo)) rfl
    have he4 : (O.map rngRow).set (m - 1) ((rngRow ⟨ll, lh⟩).set 0 (.int .i64 (min ll lo))) = (O.set (m - 1) ⟨min ll lo, lh⟩).map rngRow := by rw [List.map_set]; rfl
    rw [he4] at hl4
    have HL4 := Lib.hid hl4
    have hll : m = (joinL (L'.take (i + 1))).length := by rw [HN1.out, List.length_set]; exact hmm.out
    have HLL := Lib.hid hll
    clear hl4 he4 hll
    go_wp2_with fail
    go_roundw
    case rel => exact ⟨i + 1, m, some ⟨qo, 0, none⟩, co, by go_num, by omega, rfl, HLL, by rw [HN1.out]; exact HL4.out, HFAR.out, (by refine Since.out ?_; repeat (first | with_reducible assumption | with_reducible exact Since.refl _ | with_reducible refine Since.later ?_ (by with_reducible assumption) | with_reducible refine Since.only ?_ (by with_reducible assumption) (by first | assumption | omega | (simp; done) | (simp; omega)) | with_reducible refine Since.alloc ?_ _ | with_reducible refine Since.drewN ?_ _ | with_reducible refine Since.drew ?_ | with_reducible refine Since.set ?_ (by first | assumption | omega | (simp; done) | (simp; omega)) _))⟩
    case measure => simp [intOf]; omega
end Go.Proofs.YtjjmoaaongnjiaaGreatDoor
