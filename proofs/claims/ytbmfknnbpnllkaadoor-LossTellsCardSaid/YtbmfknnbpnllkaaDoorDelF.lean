/- What is left of packets that were sent: slices.Clone, DeleteFunc with loss.left's closure, loss.left, loss.Left. Condition: the slices can be read. -/
import Derived.Test.YtbmfknnbpnllkaaDoorLeft
namespace Go.Proofs.YtbmfknnbpnllkaaDoor
open Go.ChangeShapes Go.WideShapes Go.ChangeAt Go.RowKit
set_option linter.unusedVariables false

theorem Tryd.sntZero (w : World) : (zeroValue 68).run Tryd.prog w = .ok (.agg #[.int .i64 0, .int .i64 0, .int .i64 0]) w := by kernel_rfl
set_option maxHeartbeats 800000 in
theorem sclone (A : Option Addr) (n cap : Nat) (L : List Snt) (w : World) (hn : L.length = n) (hm : n ≤ 1000000) (h : Rd w 3 (.slice A n cap) (L.map sntRow)) :
    Calls Tryd.prog 62 #[.slice A n cap] w fun e w' => ∃ A' cap', e = .returned (.slice A' n cap') ∧ Lst w' 68 3 (.slice A' n cap') (L.map sntRow) ∧ Below w.heap.size w w' ∧ ∀ k, k ∈ blocks (.slice A' 0 0) → w.heap.size ≤ k := by
  have hml : (L.map sntRow).length = n := by rw [List.length_map]; exact hn
  have HML := Lib.hid hml
  have H := Lib.hid h
  have hnil := @Lib.run_eql_slice_nil
  obtain ⟨A0, cap0, hv, hz1, hz2, hc⟩ := h.shape
  simp only [Value.slice.injEq] at hv
  obtain ⟨rfl, hz0, rfl⟩ := hv
  clear hz0 hz1 hz2
  cases A with
  | none =>
    have hn0 : n = 0 := by
      rcases Nat.eq_zero_or_pos n with h0 | h0
      · exact h0
      · obtain ⟨b, off, he, _⟩ := hc (by intro he; rw [he] at hml; simp at hml; omega)
        cases he
    subst hn0
    have hL : L = [] := List.length_eq_zero_iff.1 hn
    subst hL
    clear h hc hml hn
    go_enter Tryd.func62, Tryd.ntmps62
    go_wp2
    go_ret
    exact ⟨none, 0, rfl, Lst.nil _ _ _, Below.refl _ _, by simp [Value.ownBlock]⟩
  | some ad =>
    have hnews : ∀ j u, (flat (L.map sntRow))[j]? = some u → (w.alloc (.cells #[] 68)).cell? (ad.add j) = some u := fun j u hu => by
      have hne : L.map sntRow ≠ [] := by intro he; rw [he] at hu; simp [flat] at hu
      obtain ⟨b, off, he, hlt, hcc⟩ := hc hne
      cases he
      have hadd : (⟨b, off, none⟩ : Addr).add j = ⟨b, off + j, none⟩ := by unfold Addr.add; split <;> simp_all
      rw [hadd]
      exact ((Since.refl w).alloc _).cell hlt (hcc j u hu)
    have HNW := Lib.hid hnews
    clear h hc hml hnews
    go_enter Tryd.func62, Tryd.ntmps62
    go_wp2_with (at_builtin; refine wpList_cat rfl _ _ 64 rfl 68 3 24 Tryd.elSnt (.slice (some ⟨w.heap.size, 0, none⟩) 0 0) [] rfl (Lst.empty w _ 3) ad n cap (L.map sntRow) rfl HML.out H.out.rows HNW.out (by rw [HML.out]; simp; omega) ?_; intro A1 cap1 w1 hl1 ho1 hk1)
    simp only [List.length_nil, Nat.zero_add, List.nil_append] at hl1 ⊢
    go_ret
    refine ⟨A1, cap1, rfl, hl1, ?_, fun k hk => ?_⟩
    · exact ho1.below ((Below.refl _ _).alloc (Nat.le_refl _) _) (by simp) (by simp [Value.ownBlock])
    · rcases hk1 k (blocks_any A1 _ _ _ _ ▸ hk) with h1 | h1
      · have : w.heap.size = k := by simpa [Value.ownBlock] using h1
        omega
      · rw [h1]; simp

set_option maxHeartbeats 3200000 in
set_option maxRecDepth 100000 in
theorem sdelete (q n cap : Nat) (L : List Snt) (gc n2 cap2 : Nat) (A2 : Option Addr) (M : List Rng) (w : World) (hn : L.length = n) (h : Lst w 68 3 (.slice (some ⟨q, 0, none⟩) n cap) (L.map sntRow)) (hx : ∀ w', Out w w' [q] → Acks w' gc A2 n2 cap2 M) :
    Calls Tryd.prog 61 #[.slice (some ⟨q, 0, none⟩) n cap, .func (Fn.func 63) #[] #[.pointer (some ⟨gc, 0, none⟩)]] w fun e w' => e = .returned (.slice (some ⟨q, 0, none⟩) (leftL L M).length cap) ∧ Lst w' 68 3 (.slice (some ⟨q, 0, none⟩) (leftL L M).length cap) ((leftL L M).map sntRow) ∧ Out w w' [q] := by
  have H := Lib.hid h
  have HN := Lib.hid hn
  have HX := Lib.hid hx
  have hcap : n ≤ cap := by
    obtain ⟨A', cap', hv, h1, _, _⟩ := h.shape
    simp only [Value.slice.injEq] at hv
    rw [List.length_map, hn] at h1
    omega
  have hcm := (Rd.of_lst h).cap_le.2
  have hcm2 : cap ≤ 9223372036854775807 := by
    obtain ⟨A', cap', hv, _, h1, _⟩ := h.shape
    simp only [Value.slice.injEq] at hv
    unfold maxLen at h1
    omega
  clear h hn hx
  go_enter Tryd.func61, Tryd.ntmps61
  go_wp2_with fail
  refine (sindex _ n cap L gc n2 cap2 A2 M _ HN.out (Rd.of_lst H.out) (HX.out _ (Out.refl _ _))).mono ?_
  rintro e w1 ⟨rfl, hb1⟩
  rcases splace_cases L M with ⟨hp, hl⟩ | ⟨i0, hp, hi0, hf0⟩
  · rw [hp]
    have HLL := Lib.hid hl
    clear hp hl
    go_wp2_with fail
    go_ret
    rw [HLL.out, HN.out]
    exact ⟨rfl, H.out.later hb1, Out.of_below hb1 _⟩
  rw [hp]
  rw [HN.out] at hi0
  have hne : ((i0 : Int) == -1) = false := by simp
  have HF0 := Lib.hid hf0
  clear hp hf0
  go_wp2_with fail
  go_loopw [5, 6, 7] (fun s5 s6 s7 wr => ∃ (i j : Nat) (C : List Snt), s5 = .int .i64 i ∧ s6 = .int .i64 j ∧ i < j ∧ j ≤ n ∧ C.length = n ∧ Hid (C.take i = (L.take j).filter (fun r => !inB M r.n) ∧ C.drop j = L.drop j) ∧ Lst wr 68 3 (.slice (some ⟨q, 0, none⟩) n cap) (C.map sntRow) ∧ Out w wr [q]) (fun _ s6 _ _ => n - (intOf s6).toNat)
  case atStart => exact ⟨i0, i0 + 1, L, rfl, by go_num, by omega, by omega, HN.out, Lib.hid ⟨HF0.out.symm, rfl⟩, H.out.later hb1, Out.of_below hb1 _⟩
  case round =>
    obtain ⟨i, j, C, rfl, rfl, hij, hj, hC, hI, hl, ho⟩ := hrel
    have HL := Lib.hid hl
    have HO := Lib.hid ho
    have HCL := Lib.hid hC
    have lq := hl.lt q (by simp [Value.ownBlock])
    obtain ⟨cur, hcur, hcs, hfz⟩ : ∃ cur : Array Value, BlockIs wr q 68 cur ∧ cur.size = cap * 3 ∧ True := by
      rcases hl.own.2 with ⟨h0, _⟩ | ⟨g', cap', cur, hve, _, hg, _, _, h3, _⟩
      · cases h0
      · simp only [Value.slice.injEq, Option.some.injEq, Addr.mk.injEq, and_true] at hve
        obtain ⟨rfl, _, rfl⟩ := hve
        exact ⟨cur, hg, h3, trivial⟩
    have f0 := hcur.free
    clear hl ho hC hfz
    by_cases hlt : j < n
    case neg =>
      obtain rfl : j = n := by omega
      have hf : decide ((j : Int) < (j : Int)) = false := by simp
      have e1 : C.take i = leftL L M := by
        rw [hI.out.1]
        unfold leftL
        rw [List.take_of_length_le (by rw [HN.out]; exact Nat.le_refl _)]
      have hil : (leftL L M).length = i := by rw [← e1, List.length_take, HCL.out]; omega
      have hic : (i : Int) ≤ (j : Int) := by omega
      have hicap : (i : Int) ≤ (cap : Int) := by omega
      have hne2 : ¬ cap = i := by omega
      have hmul : (j - i) * 3 + i * 3 = j * 3 := by rw [← Nat.add_mul]; congr 1; omega
      have hmul2 := Nat.mul_le_mul_right 3 hcap
      have hcell : ∀ m, m < (j - i) * 3 → (wr.cell? ⟨q, i * 3 + m, none⟩).isSome = true := fun m hm => by
        rw [hcur.cell, Array.getElem?_eq_getElem (by rw [hcs]; omega)]
        rfl
      have hcl : ∀ ty, (Builtin.clear_ #[64] ty #[.slice (some ⟨q, i * 3, none⟩) (j - i) (cap - i)]).run Tryd.prog wr = .ok (.tuple #[]) (wr.setCells q (i * 3) (Builtin.zeroCells (Value.agg #[.int .i64 0, .int .i64 0, .int .i64 0]).cells (j - i)).toList) := fun ty =>
        run_clearN wr _ _ ty (.agg #[.int .i64 0, .int .i64 0, .int .i64 0]) (Tryd.elSnt).ht (Tryd.sntZero wr) (by intro u hu; simp [Value.cells] at hu; rcases hu with rfl | rfl | rfl <;> rfl) q _ _ _ hcell (fun m _ => f0 _)
      have hzl : (Builtin.zeroCells (Value.agg #[.int .i64 0, .int .i64 0, .int .i64 0]).cells (j - i)).toList.length = (j - i) * 3 := by rw [zeroCells_len]; rfl
      have hCut := HL.out.cut (i := i) (by rw [List.length_map, HCL.out]; omega) (Builtin.zeroCells (Value.agg #[.int .i64 0, .int .i64 0, .int .i64 0]).cells (j - i)).toList (by rw [hzl]; omega)
      have hOc := HO.out.trans (Out.putAll (Builtin.zeroCells (Value.agg #[.int .i64 0, .int .i64 0, .int .i64 0]).cells (j - i)).toList wr q (i * 3))
      rw [← List.map_take, e1] at hCut
      have HCUT := Lib.hid hCut
      have HOC := Lib.hid hOc
      have HIL := Lib.hid hil
      clear hCut hOc hil e1 hzl hcell hcur hcs hmul hmul2
      generalize (Builtin.zeroCells (Value.agg #[.int .i64 0, .int .i64 0, .int .i64 0]).cells (j - i)).toList = zs at *
      go_wp2_with fail
      go_ret
      rw [HIL.out]
      exact ⟨rfl, HCUT.out, HOC.out⟩
    have hlt' : (j : Int) < (n : Int) := by omega
    have hij' : (i : Int) < (n : Int) := by omega
    have hCj : C[j]? = L[j]? := by
      have := congrArg (fun l : List Snt => l[0]?) hI.out.2
      simpa [List.getElem?_drop] using this
    have hjl : j < L.length := by rw [HN.out]; exact hlt
    have hjc : j < C.length := by rw [HCL.out]; exact hlt
    have hCj2 : C[j] = L[j] := by
      rw [List.getElem?_eq_getElem hjl, List.getElem?_eq_getElem hjc] at hCj
      exact Option.some.inj hCj
    have c0 : wr.cell? ⟨q, j * 3, none⟩ = some (.int .i64 L[j].n) := by rw [← hCj2]; exact HL.out.cell rfl (row_of_snt hjc) (j := 0) rfl
    have c1 : wr.cell? ⟨q, j * 3 + 1, none⟩ = some (.int .i64 L[j].t) := by rw [← hCj2]; exact HL.out.cell rfl (row_of_snt hjc) (j := 1) rfl
    have c2 : wr.cell? ⟨q, j * 3 + 2, none⟩ = some (.int .i64 L[j].z) := by rw [← hCj2]; exact HL.out.cell rfl (row_of_snt hjc) (j := 2) rfl
    have htk : L.take (j + 1) = L.take j ++ [L[j]] := List.take_succ_eq_append_getElem hjl
    have HT := Lib.hid htk
    clear hCj hCj2 htk hcur hcs
    generalize L[j] = r at *
    obtain ⟨sn, st, sz⟩ := r
    simp only at c0 c1 c2
    cases hr : inB M sn with
    | true =>
      have HR := Lib.hid hr
      have K : Hid (C.take i = (L.take (j + 1)).filter (fun r => !inB M r.n) ∧ C.drop (j + 1) = L.drop (j + 1)) := Lib.hid ⟨by rw [HT.out, List.filter_append, hI.out.1]; simp [hr], by rw [← List.drop_drop, ← List.drop_drop, hI.out.2]⟩
      clear hr
      go_wp2_with (go_at_call 63; refine (sleft1 ⟨sn, st, sz⟩ gc n2 cap2 A2 M _ (HX.out _ (HO.out.alloc _))).mono ?_; rintro e w2 ⟨rfl, hb2⟩; rw [HR.out])
      go_roundw
      case rel => exact ⟨i, j + 1, C, rfl, by go_num, by omega, by omega, HCL.out, K, (HL.out.alloc _).later hb2, (HO.out.alloc _).later hb2⟩
      case measure => simp [intOf]; omega
    | false =>
      have HR := Lib.hid hr
      have K : Hid ((C.set i ⟨sn, st, sz⟩).take (i + 1) = (L.take (j + 1)).filter (fun r => !inB M r.n) ∧ (C.set i ⟨sn, st, sz⟩).drop (j + 1) = L.drop (j + 1)) := Lib.hid ⟨by
        rw [HT.out, List.filter_append, ← hI.out.1, List.take_succ_eq_append_getElem (by rw [List.length_set]; omega), List.take_set_of_le (Nat.le_refl _)]
        simp [hr], by rw [List.drop_set_of_lt (by omega), ← List.drop_drop, ← List.drop_drop, hI.out.2]⟩
      clear hr
      go_wp2_with (go_at_call 63; refine (sleft1 ⟨sn, st, sz⟩ gc n2 cap2 A2 M _ (HX.out _ (HO.out.alloc _))).mono ?_; rintro e w2 ⟨rfl, hb2⟩; rw [HR.out]; have hl2 := (HL.out.alloc (.cells #[.int .i64 sn, .int .i64 st, .int .i64 sz] 68)).later hb2; have ho2 := (HO.out.alloc (.cells #[.int .i64 sn, .int .i64 st, .int .i64 sz] 68)).later hb2; have hB2 : BlockIs w2 wr.heap.size 68 #[.int .i64 sn, .int .i64 st, .int .i64 sz] := BlockIs.later (w := wr.alloc _) (BlockIs.fresh _ _ _) hb2; have d0 : w2.cell? ⟨wr.heap.size, 0, none⟩ = some (.int .i64 sn) := hB2.cell 0; have d1 : w2.cell? ⟨wr.heap.size, 1, none⟩ = some (.int .i64 st) := hB2.cell 1; have d2 : w2.cell? ⟨wr.heap.size, 2, none⟩ = some (.int .i64 sz) := hB2.cell 2; have hil3 : i < (C.map sntRow).length := (by rw [List.length_map, HCL.out]; omega); obtain ⟨y, hy⟩ : ∃ y, (C.map sntRow)[i]? = some (sntRow y) := ⟨_, row_of_snt (by rw [HCL.out]; omega)⟩; have g0 : w2.cell? ⟨q, i * 3, none⟩ = some (.int .i64 y.n) := hl2.cell rfl hy (j := 0) rfl; have g1 : w2.cell? ⟨q, i * 3 + 1, none⟩ = some (.int .i64 y.t) := hl2.cell rfl hy (j := 1) rfl; have g2 : w2.cell? ⟨q, i * 3 + 2, none⟩ = some (.int .i64 y.z) := hl2.cell rfl hy (j := 2) rfl; have fz : ∀ m, w2.frozen? ⟨q, m, none⟩ = false := (fun m => (hb2.frozen (p := ⟨q, m, none⟩) (by simp; omega)).trans ((((Since.refl wr).alloc _).frozen (p := ⟨q, m, none⟩) lq).trans (f0 m))); have HL2 := Lib.hid hl2; have HO2 := Lib.hid ho2; have HI3 := Lib.hid hil3; clear hl2 ho2 hB2 hy hil3)
      go_roundw
      case rel => exact ⟨i + 1, j + 1, C.set i ⟨sn, st, sz⟩, by go_num, by go_num, by omega, by omega, by rw [List.length_set]; exact HCL.out, K, by rw [List.map_set]; exact HL2.out.set3 HI3.out (by intro u hu; simp at hu; rcases hu with rfl | rfl | rfl <;> rfl), HO2.out.trans (Out.set3 _ _ _ _ _ _)⟩
      case measure => simp [intOf]; omega

theorem snilIdx (gc : Nat) (w : World) : Calls Tryd.prog 73 #[.slice none 0 0, .func (Fn.func 63) #[] #[.pointer (some ⟨gc, 0, none⟩)]] w fun e w' => e = .returned (.int .i64 (-1)) ∧ Below w.heap.size w w' := by
  go_enter Tryd.func73, Tryd.ntmps73
  go_wp2_with fail
  refine wp_loop_rounds 1 ?_
  rw [rounds_succ]
  go_wp2
  go_ret
  exact ⟨rfl, Below.refl _ _⟩
theorem snilDel (gc : Nat) (w : World) : Calls Tryd.prog 61 #[.slice none 0 0, .func (Fn.func 63) #[] #[.pointer (some ⟨gc, 0, none⟩)]] w fun e w' => e = .returned (.slice none 0 0) ∧ Below w.heap.size w w' := by
  go_enter Tryd.func61, Tryd.ntmps61
  go_wp2_with fail
  refine (snilIdx gc _).mono ?_
  rintro e w1 ⟨rfl, hb1⟩
  go_wp2_with fail
  go_ret
  exact ⟨rfl, hb1⟩
/-- what loss.left leaves can be read -/
theorem sleft (A : Option Addr) (n cap : Nat) (L : List Snt) (A2 : Option Addr) (n2 cap2 : Nat) (M : List Rng) (w : World) (hn : L.length = n) (hm : n ≤ 1000000) (h : Rd w 3 (.slice A n cap) (L.map sntRow)) (hn2 : M.length = n2) (h2 : Rd w 2 (.slice A2 n2 cap2) (M.map rngRow)) :
    Calls Tryd.prog 53 #[.slice A n cap, .slice A2 n2 cap2] w fun e w' => ∃ A' cap', e = .returned (.slice A' (leftL L M).length cap') ∧ Rd w' 3 (.slice A' (leftL L M).length cap') ((leftL L M).map sntRow) ∧ Below w.heap.size w w' := by
  have H := Lib.hid h
  have H2 := Lib.hid h2
  clear h h2
  go_enter Tryd.func53, Tryd.ntmps53
  go_wp2_with fail
  have hs0 : Since w (w.alloc (.cells #[.slice A2 n2 cap2] 35)) := (Since.refl w).alloc _
  refine (sclone A n cap L _ hn hm (H.out.later hs0)).mono ?_
  rintro e w1 ⟨A', cap', rfl, hl1, hb1, hk1⟩
  have hs1 := hs0.later hb1
  have hAc : Acks w1 w.heap.size A2 n2 cap2 M := ⟨(BlockIs.later (w := w.alloc _) (BlockIs.fresh w _ _) hb1).cell 0, H2.out.later hs1, hn2⟩
  have hnew : ∀ k, k ∈ blocks (.slice A' 0 0) → w.heap.size + 1 ≤ k := fun k hk => by have := hk1 k hk; simpa using this
  obtain ⟨A1, c1, hv, _, _, hA⟩ := hl1.shape
  rw [List.length_map, hn] at hv
  simp only [Value.slice.injEq, true_and] at hv
  obtain ⟨rfl, rfl⟩ := hv
  have HL1 := Lib.hid hl1
  have HAC := Lib.hid hAc
  rcases hA with ⟨rfl, h0, rfl⟩ | ⟨q, rfl⟩
  · have hL : L = [] := by simpa using h0
    subst hL
    have hn0 : n = 0 := by simpa using hn.symm
    subst hn0
    clear hl1 hAc hk1 hnew hn hm
    go_wp2_with fail
    refine (snilDel w.heap.size _).mono ?_
    rintro e w2 ⟨rfl, hb2⟩
    go_wp2_with fail
    go_ret
    exact ⟨none, 0, rfl, Rd.nil _ 3, hs1.later hb2⟩
  · have hqn : w.heap.size + 1 ≤ q := hnew q (by simp [Value.ownBlock])
    have hX : ∀ w', Out w1 w' [q] → Acks w' w.heap.size A2 n2 cap2 M := fun w' ho => by
      have hgc : w.heap.size < w1.heap.size := hAc.lt
      refine ⟨?_, ?_, hn2⟩
      · have hc := hAc.cell
        have hb := ho.block w.heap.size hgc (by simp; omega)
        unfold World.cell? at hc ⊢
        rw [hb]
        exact hc
      · have hs2 : Since w w' := hs1.out' ho (fun k hk => by rw [List.mem_singleton.1 hk]; omega)
        exact H2.out.later hs2
    have HX := Lib.hid hX
    clear hl1 hAc hk1 hnew hX
    go_wp2_with fail
    refine (sdelete q n cap' L w.heap.size n2 cap2 A2 M _ hn HL1.out HX.out).mono ?_
    rintro e w2 ⟨rfl, hl2, ho2⟩
    have hs2 : Since w w2 := hs1.out' ho2 (fun k hk => by rw [List.mem_singleton.1 hk]; omega)
    go_wp2_with fail
    go_ret
    exact ⟨_, cap', rfl, Rd.of_lst hl2, hs2⟩
end Go.Proofs.YtbmfknnbpnllkaaDoor
