/- Contract of frame.Ranges. Condition: the numbers can be read, an even count of them, not none, no more than 24. -/
import Derived.Test.YthnolkbolmbkdaaDoorChunk
namespace Go.Proofs.YthnolkbolmbkdaaDoor
open Go.ChangeShapes Go.WideShapes Go.ChangeAt Go.RowKit Go.Shelf
set_option linter.unusedVariables false
attribute [local go_sem] Oper.semAt_some

/-- the ranges of these pairs -/
def rgList (L : List Int) {K : Nat} (pre : List (CX K)) : List Rng := pre.map fun x => ⟨ith L (2 * x.1 + 1), ith L (2 * x.1)⟩
theorem rgList_snoc (L : List Int) {K : Nat} (pre : List (CX K)) (x : CX K) : rgList L (pre ++ [x]) = rgList L pre ++ [⟨ith L (2 * x.1 + 1), ith L (2 * x.1)⟩] := by simp [rgList]
/-- frame.Ranges' state: the box of what it makes, and that -/
structure RgSt (w : World) (L : List Int) (K : Nat) (v : Value) (pre : List (CX K)) (W : World) : Prop where
  bs : BlockIs W (w.heap.size + 1) 50 #[v]
  bn : BlockIs W (w.heap.size + 1 + 1) 3 #[.int .i64 2]
  bx : ∃ (A : Option Addr) (cap : Nat), BlockIs W w.heap.size 65 #[.slice A pre.length cap] ∧ Lst W 69 2 (.slice A pre.length cap) ((rgList L pre).map rngRow) ∧ (∀ q, q ∈ blocks (.slice A 0 0) → w.heap.size ≤ q ∧ w.heap.size ≠ q)
theorem block_grown {W W' : World} {g : Nat} {t : TypeId} {cs : Array Value} {row : Option Nat} (h : BlockIs W g t cs) (hg : W.grownBy W' row) (hr : ∀ r, row = some r → ∃ o : Obj, W.heap[r]? = some o ∧ o.isCells = false) : BlockIs W' g t cs :=
  (hg.block g h.lt (fun e => by
    obtain ⟨o, ho, hc⟩ := hr g e.symm
    rw [show W.heap[g]? = _ from h] at ho
    cases ho
    cases hc)).trans h
theorem lst_grown {W W' : World} {E size : Nat} {v : Value} {es : List (List Value)} {row : Option Nat} (h : Lst W E size v es) (hg : W.grownBy W' row) (hr : ∀ r, row = some r → ∃ o : Obj, W.heap[r]? = some o ∧ o.isCells = false) : Lst W' E size v es := by
  refine h.kept (Out.of_grown (S := row.toList) hg (fun k hk => Or.inl (by rw [hk]; simp))) (fun k hk hk2 => ?_)
  have hrow : row = some k := by simpa [Option.mem_toList] using hk2
  obtain ⟨o, ho, hc⟩ := hr k hrow
  rcases h.own.2 with ⟨rfl, _⟩ | ⟨g, cap, cur, rfl, _, hgg, _⟩
  · simp [Value.ownBlock] at hk
  · have : g = k := by simpa [Value.ownBlock] using hk
    subst this
    rw [hgg] at ho
    cases ho
    cases hc
theorem RgSt.own (w : World) (L : List Int) (K : Nat) (v : Value) : Own (fun (pre : List (CX K)) W => RgSt w L K v pre W) := fun _ W W' row hs hg hr => by
  obtain ⟨A, cap, h1, h2, h3⟩ := hs.bx
  exact ⟨block_grown hs.bs hg hr, block_grown hs.bn hg hr, A, cap, block_grown h1 hg hr, lst_grown h2 hg hr, h3⟩
theorem keeps_out {w w' : World} {E size : Nat} {v : Value} {es : List (List Value)} (h : Lst w E size v es) (ho : Out w w' (blocks v)) : KeepsOthers w w' := ⟨ho.size, fun k o hk hc => by
  have hlt : k < w.heap.size := (Array.getElem?_eq_some_iff.1 hk).1
  rw [ho.block k hlt (fun hm => by
    rcases h.own.2 with ⟨rfl, _⟩ | ⟨g, cap, cur, rfl, _, hgg, _⟩
    · simp [Value.ownBlock] at hm
    · have : g = k := by simpa [Value.ownBlock] using hm
      subst this
      rw [hgg] at hk
      cases hk
      cases hc)]
  exact hk⟩

theorem pairs_map {L : List Int} {K : Nat} (h : L.length = 2 * K) {pre : List (CX K)} (hp : pre.map (·.1) = List.range K) : (rgList L pre) = pairs L := by
  have h1 : rgList L pre = (pre.map (·.1)).map fun r => (⟨ith L (2 * r + 1), ith L (2 * r)⟩ : Rng) := by rw [List.map_map]; rfl
  have hl : (pairs L).length = K := by have := pairs_len L (by omega); omega
  rw [h1, hp]
  refine List.ext_getElem (by simp [hl]) (fun i h2 h3 => ?_)
  have := pairs_at L i (by omega) (by omega)
  rw [rat_get h3] at this
  simp [this]

set_option maxRecDepth 100000 in
set_option maxHeartbeats 2000000 in
theorem franges_in (A : Option Addr) (cap : Nat) (L : List Int) (K : Nat) (w : World) (h : IntsIn w (.slice A L.length cap) L) (hl : L.length = 2 * K) (h0 : 0 < K) (h12 : K ≤ 12) :
    CallsIn Fence.wide 6 Tryd.prog 84 #[.slice A L.length cap] w fun e w' => ∃ A' cap', e = .returned (.slice A' K cap') ∧ Lst w' 69 2 (.slice A' K cap') ((pairs L).map rngRow) ∧ Below w.heap.size w w' ∧ (∀ q, q ∈ blocks (.slice A' 0 0) → w.heap.size ≤ q) := by
  obtain ⟨_, A2, cap2, hv, q1, q2, hA⟩ := h
  simp only [Value.slice.injEq, true_and] at hv
  obtain ⟨rfl, rfl⟩ := hv
  obtain ⟨b, off, rfl, hbl, hc⟩ := hA (by intro h0; rw [h0] at hl; simp at hl; omega)
  rw [hl] at q1 hc ⊢
  have HC := Lib.hid hc
  have HL := Lib.hid hl
  have hcm : cap ≤ 9223372036854775807 := by unfold maxLen at q2; omega
  clear hA hc hl q2
  refine callsIn_of_wp_marks Tryd.func84 rfl trivial ?_ rfl
  simp only [Tryd.ntmps84, List.size_toArray, List.length_cons, List.length_nil, Nat.reduceAdd, Nat.reduceSub, Array.replicate_succ, Array.replicate_zero, List.push_toArray, List.append_toArray, List.nil_append, List.cons_append]
  trace "A"; gi_wp2_with (refine ⟨trivial, ?_⟩; gi_at_call 108; refine (chunk_in Fence.wide _ trivial rfl _ _ _ _).mono ?_; rintro e w' ⟨rfl, rfl⟩)
  refine wpIn_rangeFunc_ownF rfl (by omega) (gf := 119) (lb := #[.pointer (some ⟨w.heap.size + 1, 0, none⟩), .pointer (some ⟨w.heap.size + 1 + 1, 0, none⟩)]) rfl trivial (enters_of Tryd.func119 (by kernel_rfl) rfl)
    (chunk_stops Fence.wide _ trivial rfl (by omega) (w.heap.size + 1) (w.heap.size + 1 + 1) b off K cap q1 (by omega) hcm _ (by go_simp) (by go_simp) (by first | (simp; done) | (simp; omega)) (by first | (simp; done) | (simp; omega))) KpC.t KpC.b (Below.refl _ _) (fun _ => rfl)
    (fun pre W => RgSt w L K (.slice (some ⟨b, off, none⟩) (2 * K) cap) pre W ∧ Below w.heap.size w W)
    (fun _ _ _ => False)
    (OwnFrom.and (Own.from (RgSt.own w L K _) _) (ownFrom_below (Nat.le_refl _) (by simp; omega)))
    (fun _ _ _ _ _ hs _ _ => hs)
    ⟨⟨(BlockIs.fresh_at (by simp)).alloc _, BlockIs.fresh_at (by simp), none, 0, ((BlockIs.fresh w _ _).alloc _).alloc _, Lst.nil _ _ _, by simp [Value.ownBlock]⟩, (by refine Since.out ?_; repeat (first | with_reducible assumption | with_reducible exact Since.refl _ | with_reducible refine Since.later ?_ (by with_reducible assumption) | with_reducible refine Since.only ?_ (by with_reducible assumption) (by first | assumption | omega | (simp; done) | (simp; omega)) | with_reducible refine Since.alloc ?_ _ | with_reducible refine Since.drewN ?_ _ | with_reducible refine Since.drew ?_ | with_reducible refine Since.set ?_ (by first | assumption | omega | (simp; done) | (simp; omega)) _))⟩
    (fun x => { tmps := #[.slice (some ⟨b, off, none⟩) (2 * K) cap, undef, .slice none 0 0, .pointer (some ⟨w.heap.size, 0, none⟩), cxV b off x.1, .slice (some ⟨b, off, none⟩) (2 * K) cap, .func (.func 119) #[] #[.pointer (some ⟨w.heap.size + 1, 0, none⟩), .pointer (some ⟨w.heap.size + 1 + 1, 0, none⟩)], cxV b off x.1, undef, undef, undef, undef, undef, undef, undef, undef, undef, undef, undef], defers := [] }) ?assign ?body ?done ?stop
  case assign =>
    trace "B"; intro l x W K hK
    gi_wp2
    exact hK
  case body =>
    trace "C"; rintro l pre x W ⟨hB, hb⟩ hpl
    obtain ⟨A, c, h1, h2, h3⟩ := hB.bx
    have HS := Lib.hid h1
    have HLS := Lib.hid h2
    have HNW := Lib.hid h3
    have HBS := Lib.hid hB.bs
    have HBN := Lib.hid hB.bn
    have HB := Lib.hid hb
    have hcell : ∀ X, Below w.heap.size w X → X.cell? ⟨b, off + 2 * x.1, none⟩ = some (.int .i64 (ith L (2 * x.1))) ∧ X.cell? ⟨b, off + 2 * x.1 + 1, none⟩ = some (.int .i64 (ith L (2 * x.1 + 1))) := fun X hX =>
      ⟨(hX.cell (p := ⟨b, off + 2 * x.1, none⟩) hbl).trans (HC.out _ (by have := x.2; omega)), (hX.cell (p := ⟨b, off + (2 * x.1 + 1), none⟩) hbl).trans (HC.out _ (by have := x.2; omega))⟩
    have HCE := Lib.hid hcell
    have hlw : w.heap.size < W.heap.size := h1.lt
    have HML : Hid (((rgList L pre).map rngRow).length = pre.length) := Lib.hid (by simp [rgList])
    have e0 : W.cell? ⟨b, off + 2 * x.1, none⟩ = some (.int .i64 (ith L (2 * x.1))) := (hb.cell (p := ⟨b, off + 2 * x.1, none⟩) hbl).trans (HC.out _ (by have := x.2; omega))
    have e1 : W.cell? ⟨b, off + 2 * x.1 + 1, none⟩ = some (.int .i64 (ith L (2 * x.1 + 1))) := (hb.cell (p := ⟨b, off + (2 * x.1 + 1), none⟩) hbl).trans (HC.out _ (by have := x.2; omega))
    have eb : W.cell? ⟨w.heap.size, 0, none⟩ = some (.slice A pre.length c) := h1.cell 0
    clear hB h1 h2 h3 hcell
    refine wpIn_block ?_
    have hS0 : W.drew.cell? ⟨b, off + 2 * x.1, none⟩ = some (.int .i64 (ith L (2 * x.1))) ∧ W.drew.cell? ⟨b, off + 2 * x.1 + 1, none⟩ = some (.int .i64 (ith L (2 * x.1 + 1))) := ⟨e0, e1⟩
    refine region_in_held (S := fun w' => w'.cell? ⟨b, off + 2 * x.1, none⟩ = some (.int .i64 (ith L (2 * x.1))) ∧ w'.cell? ⟨b, off + 2 * x.1 + 1, none⟩ = some (.int .i64 (ith L (2 * x.1 + 1)))) (by kernel_rfl) (by kernel_rfl) (fun ⟨_, _, h⟩ => h) ?_
    refine wpAnyH_take (i := 1) (oi := ⟨some 9, .move (.tmp 4), 50, "frame.go:32", #[], none⟩) (v := (cxV b off x.1)) rfl (by kernel_rfl) (by kernel_rfl) (by kernel_rfl) (fun _ _ _ h => h) (Or.inl ⟨by rfl, fun w9 ⟨hS1, hS2⟩ => by go_simp⟩) hS0 ?_
    simp only [Act.put, List.setIfInBounds_toArray, List.set_cons_zero, List.set_cons_succ]
    refine wpAnyH_take (i := 4) (oi := ⟨some 12, .move (.tmp 4), 50, "frame.go:32", #[], none⟩) (v := (cxV b off x.1)) rfl (by kernel_rfl) (by kernel_rfl) (by kernel_rfl) (fun _ _ _ h => h) (Or.inl ⟨by rfl, fun w9 ⟨hS1, hS2⟩ => by go_simp⟩) hS0 ?_
    simp only [Act.put, List.setIfInBounds_toArray, List.set_cons_zero, List.set_cons_succ]
    refine wpAnyH_take (i := 2) (oi := ⟨some 10, .indexAddr 50 (.tmp 9) (.const (.int .i64 1)), 0, "frame.go:32", #[⟨1, .data⟩], none⟩) (v := (.pointer (some ⟨b, off + 2 * x.1 + 1, none⟩))) rfl (by kernel_rfl) (by kernel_rfl) (by kernel_rfl) (fun _ _ _ h => h) (Or.inl ⟨by rfl, fun w9 ⟨hS1, hS2⟩ => by go_simp⟩) hS0 ?_
    simp only [Act.put, List.setIfInBounds_toArray, List.set_cons_zero, List.set_cons_succ]
    refine wpAnyH_take (i := 5) (oi := ⟨some 13, .indexAddr 50 (.tmp 12) (.const (.int .i64 0)), 0, "frame.go:32", #[⟨4, .data⟩], none⟩) (v := (.pointer (some ⟨b, off + 2 * x.1, none⟩))) rfl (by kernel_rfl) (by kernel_rfl) (by kernel_rfl) (fun _ _ _ h => h) (Or.inl ⟨by rfl, fun w9 ⟨hS1, hS2⟩ => by go_simp⟩) hS0 ?_
    simp only [Act.put, List.setIfInBounds_toArray, List.set_cons_zero, List.set_cons_succ]
    refine wpAnyH_take (i := 3) (oi := ⟨some 11, .load 3 (.tmp 10), 3, "frame.go:32", #[⟨2, .data⟩], none⟩) (v := (.int .i64 (ith L (2 * x.1 + 1)))) rfl (by kernel_rfl) (by kernel_rfl) (by kernel_rfl) (fun _ _ _ h => h) (Or.inl ⟨by rfl, fun w9 ⟨hS1, hS2⟩ => by go_simp⟩) hS0 ?_
    simp only [Act.put, List.setIfInBounds_toArray, List.set_cons_zero, List.set_cons_succ]
    refine wpAnyH_take (i := 6) (oi := ⟨some 14, .load 3 (.tmp 13), 3, "frame.go:32", #[⟨5, .data⟩], none⟩) (v := (.int .i64 (ith L (2 * x.1)))) rfl (by kernel_rfl) (by kernel_rfl) (by kernel_rfl) (fun _ _ _ h => h) (Or.inl ⟨by rfl, fun w9 ⟨hS1, hS2⟩ => by go_simp⟩) hS0 ?_
    simp only [Act.put, List.setIfInBounds_toArray, List.set_cons_zero, List.set_cons_succ]
    refine wpAnyH_take (i := 7) (oi := ⟨some 15, .build 69 #[(0, .tmp 11), (1, .tmp 14)], 69, "frame.go:32", #[⟨3, .data⟩, ⟨6, .data⟩], none⟩) (v := (.agg #[.int .i64 (ith L (2 * x.1 + 1)), .int .i64 (ith L (2 * x.1))])) rfl (by kernel_rfl) (by kernel_rfl) (by kernel_rfl) (fun _ _ _ h => h) (Or.inl ⟨by rfl, fun w9 ⟨hS1, hS2⟩ => by go_simp⟩) hS0 ?_
    simp only [Act.put, List.setIfInBounds_toArray, List.set_cons_zero, List.set_cons_succ]
    have hb1 : Below w.heap.size w ((W.alloc (.cells #[.int .i64 (ith L (2 * x.1 + 1)), .int .i64 (ith L (2 * x.1))] 69)).drew) := (show Since w ((W.alloc (.cells #[.int .i64 (ith L (2 * x.1 + 1)), .int .i64 (ith L (2 * x.1))] 69)).drew) from (by refine Since.out ?_; repeat (first | with_reducible assumption | with_reducible exact Since.refl _ | with_reducible refine Since.later ?_ (by with_reducible assumption) | with_reducible refine Since.only ?_ (by with_reducible assumption) (by first | assumption | omega | (simp; done) | (simp; omega)) | with_reducible refine Since.alloc ?_ _ | with_reducible refine Since.drewN ?_ _ | with_reducible refine Since.drew ?_ | with_reducible refine Since.set ?_ (by first | assumption | omega | (simp; done) | (simp; omega)) _)))
    have hb0 : Below w.heap.size w W.drew := (show Since w W.drew from (by refine Since.out ?_; repeat (first | with_reducible assumption | with_reducible exact Since.refl _ | with_reducible refine Since.later ?_ (by with_reducible assumption) | with_reducible refine Since.only ?_ (by with_reducible assumption) (by first | assumption | omega | (simp; done) | (simp; omega)) | with_reducible refine Since.alloc ?_ _ | with_reducible refine Since.drewN ?_ _ | with_reducible refine Since.drew ?_ | with_reducible refine Since.set ?_ (by first | assumption | omega | (simp; done) | (simp; omega)) _)))
    have HL1 : Hid (Lst ((W.alloc (.cells #[.int .i64 (ith L (2 * x.1 + 1)), .int .i64 (ith L (2 * x.1))] 69)).drew) 69 2 (.slice A pre.length c) ((rgList L pre).map rngRow)) := Lib.hid (HLS.out.alloc _).drew
    refine wpAnyH_ready (rs := [0, 8]) (by kernel_rfl) (by simp) (AllReadyH.cons (o := ⟨some 8, .load 65 (.tmp 3), 65, "frame.go:32", #[], none⟩) rfl (fun K hK => ?_) (AllReadyH.cons (o := ⟨some 16, .buildSlice 65 1 #[(0, .tmp 15)], 65, "frame.go:32", #[⟨7, .data⟩], none⟩) rfl (fun K hK => ?_) AllReadyH.nil))
    · skip
      go_simp
      refine hK.out _ _ (HCE.out _ hb0) (fun hHeld => ?_)
      clear hK K
      (try simp only [Act.put, List.setIfInBounds_toArray, List.set_cons_zero, List.set_cons_succ])
      refine wpAnyH_ready (rs := [8]) (by kernel_rfl) (by simp) (AllReadyH.cons (o := ⟨some 16, .buildSlice 65 1 #[(0, .tmp 15)], 65, "frame.go:32", #[⟨7, .data⟩], none⟩) rfl (fun K hK => ?_) AllReadyH.nil)
      go_simp
      refine hK.out _ _ (HCE.out _ hb1) (fun hHeld => ?_)
      clear hK K
      (try simp only [Act.put, List.setIfInBounds_toArray, List.set_cons_zero, List.set_cons_succ])
      refine wpAnyH_ready (rs := [9]) (by kernel_rfl) (by simp) (AllReadyH.cons (o := ⟨some 17, .call { callee := .builtin .append, args := #[.tmp 8, .tmp 16], argTypes := #[65, 65] }, 65, "frame.go:32", #[⟨0, .data⟩, ⟨8, .data⟩], none⟩) rfl (fun K hK => ?_) AllReadyH.nil)
      refine step_push rfl _ _ 65 rfl 69 2 16 Tryd.elRange (.slice A pre.length c) ((rgList L pre).map rngRow) rfl HL1.out W.heap.size 1 [.int .i64 (ith L (2 * x.1 + 1)), .int .i64 (ith L (2 * x.1))] rfl rfl (rngRow_one ⟨ith L (2 * x.1 + 1), ith L (2 * x.1)⟩).2 (BlockIs.fresh _ _ _) (by rw [HML.out]; omega) ?_
      intro q cq w3 hl3 ho3 hq3 hlt3
      rw [HML.out] at hl3
      have hb3 : Below w.heap.size w w3 := ho3.below hb1 (by simp; omega) (fun k hk => (HNW.out k (by rw [blocks_any A 0 0 pre.length c]; exact hk)).1)
      have HB3 := Lib.hid hb3
      have hbx : BlockIs w3 w.heap.size 65 #[.slice A pre.length c] := ho3.block' ((HS.out.alloc _).drew) (fun hk => (HNW.out _ (by rw [blocks_any A 0 0 pre.length c]; exact hk)).2 rfl)
      have hbs3 := ho3.block' ((HBS.out.alloc _).drew) (HL1.out.apart ((HBS.out.alloc _).drew) (by decide))
      have hbn3 := ho3.block' ((HBN.out.alloc _).drew) (HL1.out.apart ((HBN.out.alloc _).drew) (by decide))
      have hk3 := keeps_out HL1.out ho3
      have hqn : w.heap.size ≤ q ∧ w.heap.size ≠ q := by
        rcases hq3 with h | h
        · exact HNW.out q (by rw [blocks_any A 0 0 pre.length c]; exact h)
        · rw [h]; simp; omega
      refine hK.out _ _ (HCE.out _ hb3) (fun hHeld => ?_)
      clear hK K
      (try simp only [Act.put, List.setIfInBounds_toArray, List.set_cons_zero, List.set_cons_succ])
      refine wpAnyH_ready (rs := [10]) (by kernel_rfl) (by simp) (AllReadyH.cons (o := ⟨none, .store 65 (.tmp 3) (.tmp 17), 0, "frame.go:32", #[⟨9, .data⟩, ⟨9, .chain⟩, ⟨0, .phase⟩, ⟨1, .phase⟩, ⟨2, .phase⟩, ⟨3, .phase⟩, ⟨4, .phase⟩, ⟨5, .phase⟩, ⟨6, .phase⟩, ⟨7, .phase⟩, ⟨8, .phase⟩, ⟨9, .phase⟩], none⟩) rfl (fun K hK => ?_) AllReadyH.nil)
      have d3 : w3.cell? ⟨w.heap.size, 0, none⟩ = some (.slice A pre.length c) := hbx.cell 0
      have f3 := hbx.free
      have l3 := hbx.lt
      go_simp
      refine hK.out _ _ (HCE.out _ (hb3.setCell (by simp) _)) (fun hHeld => ?_)
      clear hK K
      refine wpAnyH_done (by kernel_rfl) ?_ _
      have hlr : Lst w3 69 2 (.slice (some ⟨q, 0, none⟩) (pre ++ [x]).length cq) ((rgList L (pre ++ [x])).map rngRow) := by
        rw [rgList_snoc, List.map_append, List.length_append]
        exact hl3
      refine ⟨(KeepsOthers.alloc W _).trans ((KeepsOthers.drew _).trans (hk3.trans (KeepsOthers.setCell _ _ _))), ⟨fun v hv => ?_, fun v hv => ?_⟩, ⟨hbs3.far (by simp) _, hbn3.far (by simp; omega) _, some ⟨q, 0, none⟩, cq, ?_, ?_, ?_⟩, hb3.setCell (by simp) _⟩
      · rw [HBS.out.cell] at hv; exact ((hbs3.far (by simp) _).cell 0).trans hv
      · rw [HBN.out.cell] at hv; exact ((hbn3.far (by simp; omega) _).cell 0).trans hv
      · have hp := hbx.put 0 (.slice (some ⟨q, 0, none⟩) ((rgList L pre).length + 1) cq)
        rw [List.length_append, show pre.length + [x].length = (rgList L pre).length + 1 by simp [rgList]]
        exact hp
      · exact hlr.kept ((Out.refl w3 [w.heap.size]).put (Or.inl (by simp)) _) (fun k hk hk2 => by
          have h1 : q = k := by simpa [Value.ownBlock] using hk
          have h2 : k = w.heap.size := by simpa using hk2
          omega)
      · intro k hk
        have h1 : q = k := by simpa [Value.ownBlock] using hk
        omega
    · skip
      go_simp
      refine hK.out _ _ (HCE.out _ hb1) (fun hHeld => ?_)
      clear hK K
      (try simp only [Act.put, List.setIfInBounds_toArray, List.set_cons_zero, List.set_cons_succ])
      refine wpAnyH_ready (rs := [0]) (by kernel_rfl) (by simp) (AllReadyH.cons (o := ⟨some 8, .load 65 (.tmp 3), 65, "frame.go:32", #[], none⟩) rfl (fun K hK => ?_) AllReadyH.nil)
      go_simp
      refine hK.out _ _ (HCE.out _ hb1) (fun hHeld => ?_)
      clear hK K
      (try simp only [Act.put, List.setIfInBounds_toArray, List.set_cons_zero, List.set_cons_succ])
      refine wpAnyH_ready (rs := [9]) (by kernel_rfl) (by simp) (AllReadyH.cons (o := ⟨some 17, .call { callee := .builtin .append, args := #[.tmp 8, .tmp 16], argTypes := #[65, 65] }, 65, "frame.go:32", #[⟨0, .data⟩, ⟨8, .data⟩], none⟩) rfl (fun K hK => ?_) AllReadyH.nil)
      refine step_push rfl _ _ 65 rfl 69 2 16 Tryd.elRange (.slice A pre.length c) ((rgList L pre).map rngRow) rfl HL1.out W.heap.size 1 [.int .i64 (ith L (2 * x.1 + 1)), .int .i64 (ith L (2 * x.1))] rfl rfl (rngRow_one ⟨ith L (2 * x.1 + 1), ith L (2 * x.1)⟩).2 (BlockIs.fresh _ _ _) (by rw [HML.out]; omega) ?_
      intro q cq w3 hl3 ho3 hq3 hlt3
      rw [HML.out] at hl3
      have hb3 : Below w.heap.size w w3 := ho3.below hb1 (by simp; omega) (fun k hk => (HNW.out k (by rw [blocks_any A 0 0 pre.length c]; exact hk)).1)
      have HB3 := Lib.hid hb3
      have hbx : BlockIs w3 w.heap.size 65 #[.slice A pre.length c] := ho3.block' ((HS.out.alloc _).drew) (fun hk => (HNW.out _ (by rw [blocks_any A 0 0 pre.length c]; exact hk)).2 rfl)
      have hbs3 := ho3.block' ((HBS.out.alloc _).drew) (HL1.out.apart ((HBS.out.alloc _).drew) (by decide))
      have hbn3 := ho3.block' ((HBN.out.alloc _).drew) (HL1.out.apart ((HBN.out.alloc _).drew) (by decide))
      have hk3 := keeps_out HL1.out ho3
      have hqn : w.heap.size ≤ q ∧ w.heap.size ≠ q := by
        rcases hq3 with h | h
        · exact HNW.out q (by rw [blocks_any A 0 0 pre.length c]; exact h)
        · rw [h]; simp; omega
      refine hK.out _ _ (HCE.out _ hb3) (fun hHeld => ?_)
      clear hK K
      (try simp only [Act.put, List.setIfInBounds_toArray, List.set_cons_zero, List.set_cons_succ])
      refine wpAnyH_ready (rs := [10]) (by kernel_rfl) (by simp) (AllReadyH.cons (o := ⟨none, .store 65 (.tmp 3) (.tmp 17), 0, "frame.go:32", #[⟨9, .data⟩, ⟨9, .chain⟩, ⟨0, .phase⟩, ⟨1, .phase⟩, ⟨2, .phase⟩, ⟨3, .phase⟩, ⟨4, .phase⟩, ⟨5, .phase⟩, ⟨6, .phase⟩, ⟨7, .phase⟩, ⟨8, .phase⟩, ⟨9, .phase⟩], none⟩) rfl (fun K hK => ?_) AllReadyH.nil)
      have d3 : w3.cell? ⟨w.heap.size, 0, none⟩ = some (.slice A pre.length c) := hbx.cell 0
      have f3 := hbx.free
      have l3 := hbx.lt
      go_simp
      refine hK.out _ _ (HCE.out _ (hb3.setCell (by simp) _)) (fun hHeld => ?_)
      clear hK K
      refine wpAnyH_done (by kernel_rfl) ?_ _
      have hlr : Lst w3 69 2 (.slice (some ⟨q, 0, none⟩) (pre ++ [x]).length cq) ((rgList L (pre ++ [x])).map rngRow) := by
        rw [rgList_snoc, List.map_append, List.length_append]
        exact hl3
      refine ⟨(KeepsOthers.alloc W _).trans ((KeepsOthers.drew _).trans (hk3.trans (KeepsOthers.setCell _ _ _))), ⟨fun v hv => ?_, fun v hv => ?_⟩, ⟨hbs3.far (by simp) _, hbn3.far (by simp; omega) _, some ⟨q, 0, none⟩, cq, ?_, ?_, ?_⟩, hb3.setCell (by simp) _⟩
      · rw [HBS.out.cell] at hv; exact ((hbs3.far (by simp) _).cell 0).trans hv
      · rw [HBN.out.cell] at hv; exact ((hbn3.far (by simp; omega) _).cell 0).trans hv
      · have hp := hbx.put 0 (.slice (some ⟨q, 0, none⟩) ((rgList L pre).length + 1) cq)
        rw [List.length_append, show pre.length + [x].length = (rgList L pre).length + 1 by simp [rgList]]
        exact hp
      · exact hlr.kept ((Out.refl w3 [w.heap.size]).put (Or.inl (by simp)) _) (fun k hk hk2 => by
          have h1 : q = k := by simpa [Value.ownBlock] using hk
          have h2 : k = w.heap.size := by simpa using hk2
          omega)
      · intro k hk
        have h1 : q = k := by simpa [Value.ownBlock] using hk
        omega
  case done =>
    trace "D"; rintro D ys W hD hys ⟨hB, hb⟩ hK
    obtain ⟨A, c, h1, h2, h3⟩ := hB.bx
    have hpm := pairs_map HL.out hys
    have hyl : ys.length = K := by have := congrArg List.length hys; simpa using this
    rw [show rgList L ys = pairs L from hpm, hyl] at h2
    rw [hyl] at h1
    have e0 : W.cell? ⟨w.heap.size, 0, none⟩ = some (.slice A K c) := h1.cell 0
    have l0 := h1.lt
    have HL2 := Lib.hid h2
    have HN := Lib.hid h3
    have HB := Lib.hid hb
    clear h1 h2 h3 hB hpm
    gi_wp2
    refine ⟨by simp, .inl ⟨_, _, rfl, run_takeDeferred hK, ?_⟩⟩
    exact ⟨_, results_tmp rfl _ _ _, A, c, rfl, lst_grown HL2.out (grownBy_putObj' W D _) (fun r e => by cases e; exact ⟨_, hK, rfl⟩), hb.trans (belowK_b (w := w) (Nat.le_refl _) W D _ _ (by simp at hD; omega) hK rfl rfl), fun q hq => (HN.out q hq).1⟩
  case stop =>
    rintro D c pre W _ _ h _
    exact h.elim
theorem franges (A : Option Addr) (cap : Nat) (L : List Int) (K : Nat) (w : World) (h : IntsIn w (.slice A L.length cap) L) (hl : L.length = 2 * K) (h0 : 0 < K) (h12 : K ≤ 12) :
    Calls Tryd.prog 84 #[.slice A L.length cap] w fun e w' => ∃ A' cap', e = .returned (.slice A' K cap') ∧ Lst w' 69 2 (.slice A' K cap') ((pairs L).map rngRow) ∧ Below w.heap.size w w' ∧ (∀ q, q ∈ blocks (.slice A' 0 0) → w.heap.size ≤ q) :=
  callsIn_wide.1 (franges_in A cap L K w h hl h0 h12)
end Go.Proofs.YthnolkbolmbkdaaDoor
