/- Contracts and plain laws that the claim leans on, part 2 of 10: each part has its own word. No condition beside theirs. -/
import Derived.Test.YtmfbaijbigodkaaGreatDoorBase
import Derived.Test.YtmfbaijbigodkaaGreatDoorOnly
import Derived.Test.YtmfbaijbigodkaaGreatDoorMay
import Derived.Test.YtmfbaijbigodkaaGreatDoorCredit
import Derived.Test.YtmfbaijbigodkaaGreatDoorVA
import Derived.BigQuiet
import Derived.Deep.DeepCutAuto
import Derived.Deep.QuietTactic
import Derived.Shelf.Strings.BuilderK
import Derived.Deep.RegionLaw
set_option maxHeartbeats 40000000
set_option maxRecDepth 100000
namespace Go.Proofs.YtmfbaijbigodkaaGreatDoor
open Go.ChangeShapes Go.WideShapes Go.ChangeAt Go.RowKit Go.Shelf
set_option linter.unusedVariables false
attribute [local go_sem] Oper.semAt_some
def rgList (L : List Int) {K : Nat} (pre : List (CX K)) : List Rng := pre.map fun x => ⟨ith L (2 * x.1 + 1), ith L (2 * x.1)⟩
theorem rgList_snoc (L : List Int) {K : Nat} (pre : List (CX K)) (x : CX K) : rgList L (pre ++ [x]) = rgList L pre ++ [⟨ith L (2 * x.1 + 1), ith L (2 * x.1)⟩] := by simp [rgList]
structure RgSt (w : World) (L : List Int) (K : Nat) (v : Value) (pre : List (CX K)) (W : World) : Prop where
 bs : BlockIs W (w.heap.size + 1) 22 #[v]
 bn : BlockIs W (w.heap.size + 1 + 1) 3 #[.int .i64 2]
 bx : ∃ (A : Option Addr) (cap : Nat), BlockIs W w.heap.size 44 #[.slice A pre.length cap] ∧ Lst W 101 2 (.slice A pre.length cap) ((rgList L pre).map rngRow) ∧ (∀ q, q ∈ blocks (.slice A 0 0) → w.heap.size ≤ q ∧ w.heap.size ≠ q)
theorem block_grown {W W' : World} {g : Nat} {t : TypeId} {cs : Array Value} {row : Option Nat} (h : BlockIs W g t cs) (hg : W.grownBy W' row) (hr : ∀ r, row = some r → ∃ o : Obj, W.heap[r]? = some o ∧ o.isCells = false) : BlockIs W' g t cs :=
 (hg.block g h.lt (fun e => by
   obtain ⟨o, ho, hc⟩ := hr g e.symm
   rw [show W.heap[g]? = _ from h] at ho
   cases ho
   cases hc)).trans h
theorem lst_grown {W W' : World} {E size : Nat} {v : Value} {es : List (List Value)} {row : Option Nat} (h : Lst W E size v es) (hg : W.grownBy W' row) (hr : ∀ r, row = some r → ∃ o : Obj, W.heap[r]? = some o ∧ o.isCells = false) : Lst W' E size v es := by
 refine h.kept (Out.of_grown (S := row.toList) hg (fun k hk => Or.inl (by rw [hk]; simp))) (fun k hk hk2 => ?_)
 have hrow : row = some k := by simpa [Option.mem_toList] using hk2
 obtain ⟨o, ho, hc⟩ := hr k hrow
 rcases h.own.2 with ⟨rfl, _⟩ | ⟨g, cap, cur, rfl, _, hgg, _⟩
 · simp [Value.ownBlock] at hk
 · have : g = k := by simpa [Value.ownBlock] using hk
   subst this
   rw [hgg] at ho
   cases ho
   cases hc
theorem RgSt.own (w : World) (L : List Int) (K : Nat) (v : Value) : Own (fun (pre : List (CX K)) W => RgSt w L K v pre W) := fun _ W W' row hs hg hr => by
 obtain ⟨A, cap, h1, h2, h3⟩ := hs.bx
 exact ⟨block_grown hs.bs hg hr, block_grown hs.bn hg hr, A, cap, block_grown h1 hg hr, lst_grown h2 hg hr, h3⟩
theorem keeps_out {w w' : World} {E size : Nat} {v : Value} {es : List (List Value)} (h : Lst w E size v es) (ho : Out w w' (blocks v)) : KeepsOthers w w' := ⟨ho.size, fun k o hk hc => by
 have hlt : k < w.heap.size := (Array.getElem?_eq_some_iff.1 hk).1
 rw [ho.block k hlt (fun hm => by
  rcases h.own.2 with ⟨rfl, _⟩ | ⟨g, cap, cur, rfl, _, hgg, _⟩
  · simp [Value.ownBlock] at hm
  · have : g = k := by simpa [Value.ownBlock] using hm
    subst this
    rw [hgg] at hk
    cases hk
    cases hc)]
 exact hk⟩
theorem pairs_map {L : List Int} {K : Nat} (h : L.length = 2 * K) {pre : List (CX K)} (hp : pre.map (·.1) = List.range K) : (rgList L pre) = pairs L := by
 have h1 : rgList L pre = (pre.map (·.1)).map fun r => (⟨ith L (2 * r + 1), ith L (2 * r)⟩ : Rng) := by rw [List.map_map]; rfl
 have hl : (pairs L).length = K := by have := pairs_len L (by omega); omega
 rw [h1, hp]
 refine List.ext_getElem (by simp [hl]) (fun i h2 h3 => ?_)
 have := pairs_at L i (by omega) (by omega)
 rw [rat_get h3] at this
 simp [this]
theorem franges_in (A : Option Addr) (cap : Nat) (L : List Int) (K : Nat) (w : World) (h : IntsIn w (.slice A L.length cap) L) (hl : L.length = 2 * K) (h0 : 0 < K) (h12 : K ≤ 12) :
  CallsIn Fence.wide 6 Tryz.prog 101 #[.slice A L.length cap] w fun e w' => ∃ A' cap', e = .returned (.slice A' K cap') ∧ Lst w' 101 2 (.slice A' K cap') ((pairs L).map rngRow) ∧ Below w.heap.size w w' ∧ (∀ q, q ∈ blocks (.slice A' 0 0) → w.heap.size ≤ q) := by
 obtain ⟨_, A2, cap2, hv, q1, q2, hA⟩ := h
 simp only [Value.slice.injEq, true_and] at hv
 obtain ⟨rfl, rfl⟩ := hv
 obtain ⟨b, off, rfl, hbl, hc⟩ := hA (by intro h0; rw [h0] at hl; simp at hl; omega)
 rw [hl] at q1 hc ⊢
 have HC := Lib.hid hc
 have HL := Lib.hid hl
 have hcm : cap ≤ 9223372036854775807 := by unfold maxLen at q2; omega
 clear hA hc hl q2
 refine callsIn_of_wp_marks Tryz.func101 rfl trivial ?_ rfl
 simp only [Tryz.ntmps101, List.size_toArray, List.length_cons, List.length_nil, Nat.reduceAdd, Nat.reduceSub, Array.replicate_succ, Array.replicate_zero, List.push_toArray, List.append_toArray, List.nil_append, List.cons_append]
 gi_wp2_with (refine ⟨trivial, ?_⟩; gi_at_call 134; refine (chunk_in Fence.wide _ trivial rfl _ _ _ _).mono ?_; rintro e w' ⟨rfl, rfl⟩)
 refine wpIn_rangeFunc_ownF rfl (by omega) (gf := 155) (lb := #[.pointer (some ⟨w.heap.size + 1, 0, none⟩), .pointer (some ⟨w.heap.size + 1 + 1, 0, none⟩)]) rfl trivial (enters_of Tryz.func155 (by kernel_rfl) rfl)
  (chunk_stops Fence.wide _ trivial rfl (by omega) (w.heap.size + 1) (w.heap.size + 1 + 1) b off K cap q1 (by omega) hcm _ (by go_simp) (by go_simp) (by first | (simp; done) | (simp; omega)) (by first | (simp; done) | (simp; omega))) KpC.t KpC.b (Below.refl _ _) (fun _ => rfl)
  (fun pre W => RgSt w L K (.slice (some ⟨b, off, none⟩) (2 * K) cap) pre W ∧ Below w.heap.size w W)
  (fun _ _ _ => False)
  (OwnFrom.and (Own.from (RgSt.own w L K _) _) (ownFrom_below (Nat.le_refl _) (by simp; omega)))
  (fun _ _ _ _ _ hs _ _ => hs)
  ⟨⟨(BlockIs.fresh_at (by simp)).alloc _, BlockIs.fresh_at (by simp), none, 0, ((BlockIs.fresh w _ _).alloc _).alloc _, Lst.nil _ _ _, by simp [Value.ownBlock]⟩, (by exact Since.alloc (Since.alloc (Since.alloc (Since.refl _) _) _) _)⟩
  (fun x => { tmps := #[.slice (some ⟨b, off, none⟩) (2 * K) cap, undef, .slice none 0 0, .pointer (some ⟨w.heap.size, 0, none⟩), cxV b off x.1, .slice (some ⟨b, off, none⟩) (2 * K) cap, .func (.func 155) #[] #[.pointer (some ⟨w.heap.size + 1, 0, none⟩), .pointer (some ⟨w.heap.size + 1 + 1, 0, none⟩)], cxV b off x.1, undef, undef, undef, undef, undef, undef, undef, undef, undef, undef, undef], defers := [] }) ?assign ?body ?done ?stop
 case assign =>
  intro l x W K hK
  gi_wp2
  exact hK
 case body =>
  rintro l pre x W ⟨hB, hb⟩ hpl
  obtain ⟨A, c, h1, h2, h3⟩ := hB.bx
  have HS := Lib.hid h1
  have HLS := Lib.hid h2
  have HNW := Lib.hid h3
  have HBS := Lib.hid hB.bs
  have HBN := Lib.hid hB.bn
  have HB := Lib.hid hb
  have hcell : ∀ X, Below w.heap.size w X → X.cell? ⟨b, off + 2 * x.1, none⟩ = some (.int .i64 (ith L (2 * x.1))) ∧ X.cell? ⟨b, off + 2 * x.1 + 1, none⟩ = some (.int .i64 (ith L (2 * x.1 + 1))) := fun X hX =>
   ⟨(hX.cell (p := ⟨b, off + 2 * x.1, none⟩) hbl).trans (HC.out _ (by have := x.2; omega)), (hX.cell (p := ⟨b, off + (2 * x.1 + 1), none⟩) hbl).trans (HC.out _ (by have := x.2; omega))⟩
  have HCE := Lib.hid hcell
  have hlw : w.heap.size < W.heap.size := h1.lt
  have HML : Hid (((rgList L pre).map rngRow).length = pre.length) := Lib.hid (by simp [rgList])
  have e0 : W.cell? ⟨b, off + 2 * x.1, none⟩ = some (.int .i64 (ith L (2 * x.1))) := (hb.cell (p := ⟨b, off + 2 * x.1, none⟩) hbl).trans (HC.out _ (by have := x.2; omega))
  have e1 : W.cell? ⟨b, off + 2 * x.1 + 1, none⟩ = some (.int .i64 (ith L (2 * x.1 + 1))) := (hb.cell (p := ⟨b, off + (2 * x.1 + 1), none⟩) hbl).trans (HC.out _ (by have := x.2; omega))
  have eb : W.cell? ⟨w.heap.size, 0, none⟩ = some (.slice A pre.length c) := h1.cell 0
  clear hB h1 h2 h3 hcell
  refine wpIn_block ?_
  have hS0 : W.drew.cell? ⟨b, off + 2 * x.1, none⟩ = some (.int .i64 (ith L (2 * x.1))) ∧ W.drew.cell? ⟨b, off + 2 * x.1 + 1, none⟩ = some (.int .i64 (ith L (2 * x.1 + 1))) := ⟨e0, e1⟩
  refine region_in_held (S := fun w' => w'.cell? ⟨b, off + 2 * x.1, none⟩ = some (.int .i64 (ith L (2 * x.1))) ∧ w'.cell? ⟨b, off + 2 * x.1 + 1, none⟩ = some (.int .i64 (ith L (2 * x.1 + 1)))) (by kernel_rfl) (by kernel_rfl) (fun ⟨_, _, h⟩ => h) ?_
  refine wpAnyH_take (i := 1) (oi := ⟨some 9, .move (.tmp 4), 22, "frame.go:32", #[], none⟩) (v := (cxV b off x.1)) rfl (by kernel_rfl) (by kernel_rfl) (by kernel_rfl) (fun _ _ _ h => h) (Or.inl ⟨by rfl, fun w9 ⟨hS1, hS2⟩ => by go_simp⟩) hS0 ?_
  simp only [Act.put, List.setIfInBounds_toArray, List.set_cons_zero, List.set_cons_succ]
  refine wpAnyH_take (i := 4) (oi := ⟨some 12, .move (.tmp 4), 22, "frame.go:32", #[], none⟩) (v := (cxV b off x.1)) rfl (by kernel_rfl) (by kernel_rfl) (by kernel_rfl) (fun _ _ _ h => h) (Or.inl ⟨by rfl, fun w9 ⟨hS1, hS2⟩ => by go_simp⟩) hS0 ?_
  simp only [Act.put, List.setIfInBounds_toArray, List.set_cons_zero, List.set_cons_succ]
  refine wpAnyH_take (i := 2) (oi := ⟨some 10, .indexAddr 22 (.tmp 9) (.const (.int .i64 1)), 0, "frame.go:32", #[⟨1, .data⟩], none⟩) (v := (.pointer (some ⟨b, off + 2 * x.1 + 1, none⟩))) rfl (by kernel_rfl) (by kernel_rfl) (by kernel_rfl) (fun _ _ _ h => h) (Or.inl ⟨by rfl, fun w9 ⟨hS1, hS2⟩ => by go_simp⟩) hS0 ?_
  simp only [Act.put, List.setIfInBounds_toArray, List.set_cons_zero, List.set_cons_succ]
  refine wpAnyH_take (i := 5) (oi := ⟨some 13, .indexAddr 22 (.tmp 12) (.const (.int .i64 0)), 0, "frame.go:32", #[⟨4, .data⟩], none⟩) (v := (.pointer (some ⟨b, off + 2 * x.1, none⟩))) rfl (by kernel_rfl) (by kernel_rfl) (by kernel_rfl) (fun _ _ _ h => h) (Or.inl ⟨by rfl, fun w9 ⟨hS1, hS2⟩ => by go_simp⟩) hS0 ?_
  simp only [Act.put, List.setIfInBounds_toArray, List.set_cons_zero, List.set_cons_succ]
  refine wpAnyH_take (i := 3) (oi := ⟨some 11, .load 3 (.tmp 10), 3, "frame.go:32", #[⟨2, .data⟩], none⟩) (v := (.int .i64 (ith L (2 * x.1 + 1)))) rfl (by kernel_rfl) (by kernel_rfl) (by kernel_rfl) (fun _ _ _ h => h) (Or.inl ⟨by rfl, fun w9 ⟨hS1, hS2⟩ => by go_simp⟩) hS0 ?_
  simp only [Act.put, List.setIfInBounds_toArray, List.set_cons_zero, List.set_cons_succ]
  refine wpAnyH_take (i := 6) (oi := ⟨some 14, .load 3 (.tmp 13), 3, "frame.go:32", #[⟨5, .data⟩], none⟩) (v := (.int .i64 (ith L (2 * x.1)))) rfl (by kernel_rfl) (by kernel_rfl) (by kernel_rfl) (fun _ _ _ h => h) (Or.inl ⟨by rfl, fun w9 ⟨hS1, hS2⟩ => by go_simp⟩) hS0 ?_
  simp only [Act.put, List.setIfInBounds_toArray, List.set_cons_zero, List.set_cons_succ]
  refine wpAnyH_take (i := 7) (oi := ⟨some 15, .build 101 #[(0, .tmp 11), (1, .tmp 14)], 101, "frame.go:32", #[⟨3, .data⟩, ⟨6, .data⟩], none⟩) (v := (.agg #[.int .i64 (ith L (2 * x.1 + 1)), .int .i64 (ith L (2 * x.1))])) rfl (by kernel_rfl) (by kernel_rfl) (by kernel_rfl) (fun _ _ _ h => h) (Or.inl ⟨by rfl, fun w9 ⟨hS1, hS2⟩ => by go_simp⟩) hS0 ?_
  simp only [Act.put, List.setIfInBounds_toArray, List.set_cons_zero, List.set_cons_succ]
  have hb1 : Below w.heap.size w ((W.alloc (.cells #[.int .i64 (ith L (2 * x.1 + 1)), .int .i64 (ith L (2 * x.1))] 101)).drew) := (show Since w ((W.alloc (.cells #[.int .i64 (ith L (2 * x.1 + 1)), .int .i64 (ith L (2 * x.1))] 101)).drew) from (by exact Since.drew (Since.alloc (Since.later (Since.refl _) hb) _)))
  have hb0 : Below w.heap.size w W.drew := (show Since w W.drew from (by exact Since.drew (Since.later (Since.refl _) hb)))
  have HL1 : Hid (Lst ((W.alloc (.cells #[.int .i64 (ith L (2 * x.1 + 1)), .int .i64 (ith L (2 * x.1))] 101)).drew) 101 2 (.slice A pre.length c) ((rgList L pre).map rngRow)) := Lib.hid (HLS.out.alloc _).drew
  refine wpAnyH_ready (rs := [0, 8]) (by kernel_rfl) (by simp) (AllReadyH.cons (o := ⟨some 8, .load 44 (.tmp 3), 44, "frame.go:32", #[], none⟩) rfl (fun K hK => ?_) (AllReadyH.cons (o := ⟨some 16, .buildSlice 44 1 #[(0, .tmp 15)], 44, "frame.go:32", #[⟨7, .data⟩], none⟩) rfl (fun K hK => ?_) AllReadyH.nil))
  · skip
    go_simp
    refine hK.out _ _ (HCE.out _ hb0) (fun hHeld => ?_)
    clear hK K
    (try simp only [Act.put, List.setIfInBounds_toArray, List.set_cons_zero, List.set_cons_succ])
    refine wpAnyH_ready (rs := [8]) (by kernel_rfl) (by simp) (AllReadyH.cons (o := ⟨some 16, .buildSlice 44 1 #[(0, .tmp 15)], 44, "frame.go:32", #[⟨7, .data⟩], none⟩) rfl (fun K hK => ?_) AllReadyH.nil)
    go_simp
    refine hK.out _ _ (HCE.out _ hb1) (fun hHeld => ?_)
    clear hK K
    (try simp only [Act.put, List.setIfInBounds_toArray, List.set_cons_zero, List.set_cons_succ])
    refine wpAnyH_ready (rs := [9]) (by kernel_rfl) (by simp) (AllReadyH.cons (o := ⟨some 17, .call { callee := .builtin .append, args := #[.tmp 8, .tmp 16], argTypes := #[44, 44] }, 44, "frame.go:32", #[⟨0, .data⟩, ⟨8, .data⟩], none⟩) rfl (fun K hK => ?_) AllReadyH.nil)
    refine step_push rfl _ _ 44 rfl 101 2 16 Tryz.elRange (.slice A pre.length c) ((rgList L pre).map rngRow) rfl HL1.out W.heap.size 1 [.int .i64 (ith L (2 * x.1 + 1)), .int .i64 (ith L (2 * x.1))] rfl rfl (rngRow_one ⟨ith L (2 * x.1 + 1), ith L (2 * x.1)⟩).2 (BlockIs.fresh _ _ _) (by rw [HML.out]; omega) ?_
    intro q cq w3 hl3 ho3 hq3 hlt3
    rw [HML.out] at hl3
    have hb3 : Below w.heap.size w w3 := ho3.below hb1 (by simp; omega) (fun k hk => (HNW.out k (by rw [blocks_any A 0 0 pre.length c]; exact hk)).1)
    have HB3 := Lib.hid hb3
    have hbx : BlockIs w3 w.heap.size 44 #[.slice A pre.length c] := ho3.block' ((HS.out.alloc _).drew) (fun hk => (HNW.out _ (by rw [blocks_any A 0 0 pre.length c]; exact hk)).2 rfl)
    have hbs3 := ho3.block' ((HBS.out.alloc _).drew) (HL1.out.apart ((HBS.out.alloc _).drew) (by decide))
    have hbn3 := ho3.block' ((HBN.out.alloc _).drew) (HL1.out.apart ((HBN.out.alloc _).drew) (by decide))
    have hk3 := keeps_out HL1.out ho3
    have hqn : w.heap.size ≤ q ∧ w.heap.size ≠ q := by
     rcases hq3 with h | h
     · exact HNW.out q (by rw [blocks_any A 0 0 pre.length c]; exact h)
     · rw [h]; simp; omega
    refine hK.out _ _ (HCE.out _ hb3) (fun hHeld => ?_)
    clear hK K
    (try simp only [Act.put, List.setIfInBounds_toArray, List.set_cons_zero, List.set_cons_succ])
    refine wpAnyH_ready (rs := [10]) (by kernel_rfl) (by simp) (AllReadyH.cons (o := ⟨none, .store 44 (.tmp 3) (.tmp 17), 0, "frame.go:32", #[⟨9, .data⟩, ⟨9, .chain⟩, ⟨0, .phase⟩, ⟨1, .phase⟩, ⟨2, .phase⟩, ⟨3, .phase⟩, ⟨4, .phase⟩, ⟨5, .phase⟩, ⟨6, .phase⟩, ⟨7, .phase⟩, ⟨8, .phase⟩, ⟨9, .phase⟩], none⟩) rfl (fun K hK => ?_) AllReadyH.nil)
    have d3 : w3.cell? ⟨w.heap.size, 0, none⟩ = some (.slice A pre.length c) := hbx.cell 0
    have f3 := hbx.free
    have l3 := hbx.lt
    go_simp
    refine hK.out _ _ (HCE.out _ (hb3.setCell (by simp) _)) (fun hHeld => ?_)
    clear hK K
    refine wpAnyH_done (by kernel_rfl) ?_ _
    have hlr : Lst w3 101 2 (.slice (some ⟨q, 0, none⟩) (pre ++ [x]).length cq) ((rgList L (pre ++ [x])).map rngRow) := by
     rw [rgList_snoc, List.map_append, List.length_append]
     exact hl3
    refine ⟨(KeepsOthers.alloc W _).trans ((KeepsOthers.drew _).trans (hk3.trans (KeepsOthers.setCell _ _ _))), ⟨fun v hv => ?_, fun v hv => ?_⟩, ⟨hbs3.far (by simp) _, hbn3.far (by simp; omega) _, some ⟨q, 0, none⟩, cq, ?_, ?_, ?_⟩, hb3.setCell (by simp) _⟩
    · rw [HBS.out.cell] at hv; exact ((hbs3.far (by simp) _).cell 0).trans hv
    · rw [HBN.out.cell] at hv; exact ((hbn3.far (by simp; omega) _).cell 0).trans hv
    · have hp := hbx.put 0 (.slice (some ⟨q, 0, none⟩) ((rgList L pre).length + 1) cq)
      rw [List.length_append, show pre.length + [x].length = (rgList L pre).length + 1 by simp [rgList]]
      exact hp
    · exact hlr.kept ((Out.refl w3 [w.heap.size]).put (Or.inl (by simp)) _) (fun k hk hk2 => by
       have h1 : q = k := by simpa [Value.ownBlock] using hk
       have h2 : k = w.heap.size := by simpa using hk2
       omega)
    · intro k hk
      have h1 : q = k := by simpa [Value.ownBlock] using hk
      omega
  · skip
    go_simp
    refine hK.out _ _ (HCE.out _ hb1) (fun hHeld => ?_)
    clear hK K
    (try simp only [Act.put, List.setIfInBounds_toArray, List.set_cons_zero, List.set_cons_succ])
    refine wpAnyH_ready (rs := [0]) (by kernel_rfl) (by simp) (AllReadyH.cons (o := ⟨some 8, .load 44 (.tmp 3), 44, "frame.go:32", #[], none⟩) rfl (fun K hK => ?_) AllReadyH.nil)
    go_simp
    refine hK.out _ _ (HCE.out _ hb1) (fun hHeld => ?_)
    clear hK K
    (try simp only [Act.put, List.setIfInBounds_toArray, List.set_cons_zero, List.set_cons_succ])
    refine wpAnyH_ready (rs := [9]) (by kernel_rfl) (by simp) (AllReadyH.cons (o := ⟨some 17, .call { callee := .builtin .append, args := #[.tmp 8, .tmp 16], argTypes := #[44, 44] }, 44, "frame.go:32", #[⟨0, .data⟩, ⟨8, .data⟩], none⟩) rfl (fun K hK => ?_) AllReadyH.nil)
    refine step_push rfl _ _ 44 rfl 101 2 16 Tryz.elRange (.slice A pre.length c) ((rgList L pre).map rngRow) rfl HL1.out W.heap.size 1 [.int .i64 (ith L (2 * x.1 + 1)), .int .i64 (ith L (2 * x.1))] rfl rfl (rngRow_one ⟨ith L (2 * x.1 + 1), ith L (2 * x.1)⟩).2 (BlockIs.fresh _ _ _) (by rw [HML.out]; omega) ?_
    intro q cq w3 hl3 ho3 hq3 hlt3
    rw [HML.out] at hl3
    have hb3 : Below w.heap.size w w3 := ho3.below hb1 (by simp; omega) (fun k hk => (HNW.out k (by rw [blocks_any A 0 0 pre.length c]; exact hk)).1)
    have HB3 := Lib.hid hb3
    have hbx : BlockIs w3 w.heap.size 44 #[.slice A pre.length c] := ho3.block' ((HS.out.alloc _).drew) (fun hk => (HNW.out _ (by rw [blocks_any A 0 0 pre.length c]; exact hk)).2 rfl)
    have hbs3 := ho3.block' ((HBS.out.alloc _).drew) (HL1.out.apart ((HBS.out.alloc _).drew) (by decide))
    have hbn3 := ho3.block' ((HBN.out.alloc _).drew) (HL1.out.apart ((HBN.out.alloc _).drew) (by decide))
    have hk3 := keeps_out HL1.out ho3
    have hqn : w.heap.size ≤ q ∧ w.heap.size ≠ q := by
     rcases hq3 with h | h
     · exact HNW.out q (by rw [blocks_any A 0 0 pre.length c]; exact h)
     · rw [h]; simp; omega
    refine hK.out _ _ (HCE.out _ hb3) (fun hHeld => ?_)
    clear hK K
    (try simp only [Act.put, List.setIfInBounds_toArray, List.set_cons_zero, List.set_cons_succ])
    refine wpAnyH_ready (rs := [10]) (by kernel_rfl) (by simp) (AllReadyH.cons (o := ⟨none, .store 44 (.tmp 3) (.tmp 17), 0, "frame.go:32", #[⟨9, .data⟩, ⟨9, .chain⟩, ⟨0, .phase⟩, ⟨1, .phase⟩, ⟨2, .phase⟩, ⟨3, .phase⟩, ⟨4, .phase⟩, ⟨5, .phase⟩, ⟨6, .phase⟩, ⟨7, .phase⟩, ⟨8, .phase⟩, ⟨9, .phase⟩], none⟩) rfl (fun K hK => ?_) AllReadyH.nil)
    have d3 : w3.cell? ⟨w.heap.size, 0, none⟩ = some (.slice A pre.length c) := hbx.cell 0
    have f3 := hbx.free
    have l3 := hbx.lt
    go_simp
    refine hK.out _ _ (HCE.out _ (hb3.setCell (by simp) _)) (fun hHeld => ?_)
    clear hK K
    refine wpAnyH_done (by kernel_rfl) ?_ _
    have hlr : Lst w3 101 2 (.slice (some ⟨q, 0, none⟩) (pre ++ [x]).length cq) ((rgList L (pre ++ [x])).map rngRow) := by
     rw [rgList_snoc, List.map_append, List.length_append]
     exact hl3
    refine ⟨(KeepsOthers.alloc W _).trans ((KeepsOthers.drew _).trans (hk3.trans (KeepsOthers.setCell _ _ _))), ⟨fun v hv => ?_, fun v hv => ?_⟩, ⟨hbs3.far (by simp) _, hbn3.far (by simp; omega) _, some ⟨q, 0, none⟩, cq, ?_, ?_, ?_⟩, hb3.setCell (by simp) _⟩
    · rw [HBS.out.cell] at hv; exact ((hbs3.far (by simp) _).cell 0).trans hv
    · rw [HBN.out.cell] at hv; exact ((hbn3.far (by simp; omega) _).cell 0).trans hv
    · have hp := hbx.put 0 (.slice (some ⟨q, 0, none⟩) ((rgList L pre).length + 1) cq)
      rw [List.length_append, show pre.length + [x].length = (rgList L pre).length + 1 by simp [rgList]]
      exact hp
    · exact hlr.kept ((Out.refl w3 [w.heap.size]).put (Or.inl (by simp)) _) (fun k hk hk2 => by
       have h1 : q = k := by simpa [Value.ownBlock] using hk
       have h2 : k = w.heap.size := by simpa using hk2
       omega)
    · intro k hk
      have h1 : q = k := by simpa [Value.ownBlock] using hk
      omega
 case done =>
  rintro D ys W hD hys ⟨hB, hb⟩ hK
  obtain ⟨A, c, h1, h2, h3⟩ := hB.bx
  have hpm := pairs_map HL.out hys
  have hyl : ys.length = K := by have := congrArg List.length hys; simpa using this
  rw [show rgList L ys = pairs L from hpm, hyl] at h2
  rw [hyl] at h1
  have e0 : W.cell? ⟨w.heap.size, 0, none⟩ = some (.slice A K c) := h1.cell 0
  have l0 := h1.lt
  have HL2 := Lib.hid h2
  have HN := Lib.hid h3
  have HB := Lib.hid hb
  clear h1 h2 h3 hB hpm
  gi_wp2
  refine ⟨by simp, .inl ⟨_, _, rfl, run_takeDeferred hK, ?_⟩⟩
  exact ⟨_, results_tmp rfl _ _ _, A, c, rfl, lst_grown HL2.out (grownBy_putObj' W D _) (fun r e => by cases e; exact ⟨_, hK, rfl⟩), hb.trans (belowK_b (w := w) (Nat.le_refl _) W D _ _ (by simp at hD; omega) hK rfl rfl), fun q hq => (HN.out q hq).1⟩
 case stop =>
  rintro D c pre W _ _ h _
  exact h.elim
theorem franges (A : Option Addr) (cap : Nat) (L : List Int) (K : Nat) (w : World) (h : IntsIn w (.slice A L.length cap) L) (hl : L.length = 2 * K) (h0 : 0 < K) (h12 : K ≤ 12) :
  Calls Tryz.prog 101 #[.slice A L.length cap] w fun e w' => ∃ A' cap', e = .returned (.slice A' K cap') ∧ Lst w' 101 2 (.slice A' K cap') ((pairs L).map rngRow) ∧ Below w.heap.size w w' ∧ (∀ q, q ∈ blocks (.slice A' 0 0) → w.heap.size ≤ q) :=
 callsIn_wide.1 (franges_in A cap L K w h hl h0 h12)
end Go.Proofs.YtmfbaijbigodkaaGreatDoor
namespace Go.Proofs.YtmfbaijbigodkaaGreatDoor
open Go.ChangeShapes Go.WideShapes Go.ChangeAt Go.RowKit
set_option linter.unusedVariables false
attribute [local go_sem] isU8_some cb_some
theorem rlong_any (n : Int) (w : World) : Calls Tryz.prog 117 #[.int .i64 n] w fun e w' => e = .returned (.int .i64 (longN n)) ∧ w = w' := by
 by_cases a : n < 64
 · have E : Hid (longN n = 1) := Lib.hid (by unfold longN; rw [if_pos a])
   go_enter Tryz.func117, Tryz.ntmps117
   go_wp2
   go_ret
   exact ⟨end_int E.out.symm, rfl⟩
 by_cases b : n < 16384
 · have E : Hid (longN n = 2) := Lib.hid (by unfold longN; rw [if_neg a, if_pos b])
   go_enter Tryz.func117, Tryz.ntmps117
   go_wp2
   go_ret
   exact ⟨end_int E.out.symm, rfl⟩
 · have E : Hid (longN n = 4) := Lib.hid (by unfold longN; rw [if_neg a, if_neg b])
   go_enter Tryz.func117, Tryz.ntmps117
   go_wp2
   go_ret
   exact ⟨end_int E.out.symm, rfl⟩
theorem rbytes_any (n : Int) (n0 : 0 ≤ n) (n1 : n ≤ 1073741823) (w : World) :
  Calls Tryz.prog 83 #[.int .i64 n] w fun e w' => e = .returned (.string ⟨(vbytes n).toArray⟩) ∧ Below w.heap.size w w' := by
 have c1 := conv1
 have c2 := conv2
 have c4 := conv4
 by_cases a : n < 64
 · have E : Hid (longN n = 1) := Lib.hid (by unfold longN; rw [if_pos a])
   have V : Hid (vbytes n = [byteOf n]) := Lib.hid (by unfold vbytes; rw [if_pos a])
   go_enter Tryz.func83, Tryz.ntmps83
   go_wp2_with (go_at_call 117; refine (rlong_any n _).mono ?_; rintro e w' ⟨rfl, rfl⟩; rw [E.out])
   go_ret
   exact ⟨by rw [V.out]; rfl, (by exact Since.alloc (Since.refl _) _)⟩
 by_cases b : n < 16384
 · have E : Hid (longN n = 2) := Lib.hid (by unfold longN; rw [if_neg a, if_pos b])
   have V : Hid (vbytes n = [byteOf (64 + n / 256), byteOf (n % 256)]) := Lib.hid (by unfold vbytes; rw [if_neg a, if_pos b])
   go_enter Tryz.func83, Tryz.ntmps83
   go_wp2_with (go_at_call 117; refine (rlong_any n _).mono ?_; rintro e w' ⟨rfl, rfl⟩; rw [E.out])
   go_ret
   exact ⟨by rw [V.out]; rfl, (by exact Since.alloc (Since.refl _) _)⟩
 · have E : Hid (longN n = 4) := Lib.hid (by unfold longN; rw [if_neg a, if_neg b])
   have V : Hid (vbytes n = [byteOf (128 + n / 16777216), byteOf (n / 65536 % 256), byteOf (n / 256 % 256), byteOf (n % 256)]) := Lib.hid (by unfold vbytes; rw [if_neg a, if_neg b])
   go_enter Tryz.func83, Tryz.ntmps83
   go_wp2_with (go_at_call 117; refine (rlong_any n _).mono ?_; rintro e w' ⟨rfl, rfl⟩; rw [E.out])
   go_ret
   exact ⟨by rw [V.out]; rfl, (by exact Since.alloc (Since.refl _) _)⟩
def rnd (b : Int) : Int := if b = 1 then 256 else if b = 2 then 65536 else if b = 3 then 16777216 else 4294967296
theorem rnd_bounds (b : Int) : 256 ≤ rnd b ∧ rnd b ≤ 4294967296 := by
 unfold rnd
 omega
theorem four {b : Int} (h1 : 1 ≤ b) (h2 : b ≤ 4) : b = 1 ∨ b = 2 ∨ b = 3 ∨ b = 4 := by omega
theorem nbytes_yes (n : Int) (h1 : 1 ≤ n) (h2 : n ≤ 4) (w : World) :
  Calls Tryz.prog 151 #[.int .i64 n] w fun e w' => e = .returned (.bool true) ∧ w = w' := by
 go_enter Tryz.func151, Tryz.ntmps151
 go_wp2
 go_ret
 exact ⟨rfl, rfl⟩
theorem nbytes_no (n : Int) (h : ¬ (1 ≤ n ∧ n ≤ 4)) (w : World) :
  Calls Tryz.prog 151 #[.int .i64 n] w fun e w' => e = .returned (.bool false) ∧ w = w' := by
 by_cases h1 : 1 ≤ n
 · have h2 : decide (n ≤ 4) = false := by simp; omega
   clear h
   go_enter Tryz.func151, Tryz.ntmps151
   go_wp2
   go_ret
   exact ⟨rfl, rfl⟩
 · clear h
   go_enter Tryz.func151, Tryz.ntmps151
   go_wp2
   go_ret
   exact ⟨rfl, rfl⟩
theorem round_any (n : Int) (h1 : 1 ≤ n) (h2 : n ≤ 4) (w : World) :
  Calls Tryz.prog 123 #[.int .i64 n] w fun e w' => e = .returned (.int .i64 (rnd n)) ∧ w = w' := by
 rcases four h1 h2 with rfl | rfl | rfl | rfl
 all_goals
  go_enter Tryz.func123, Tryz.ntmps123
  go_wp2
  go_ret
  exact ⟨rfl, rfl⟩
theorem short_any (x b : Int) (h0 : 0 ≤ x) (h1 : 1 ≤ b) (h2 : b ≤ 4) (w : World) :
  Calls Tryz.prog 122 #[.int .i64 x, .int .i64 b] w fun e w' => e = .returned (.int .i64 (x % rnd b)) ∧ w = w' := by
 obtain ⟨r1, r2⟩ := rnd_bounds b
 go_enter Tryz.func122, Tryz.ntmps122
 go_wp2_with (go_at_call 123; refine (round_any b h1 h2 _).mono ?_; rintro e w' ⟨rfl, rfl⟩)
 go_ret
 exact ⟨rfl, rfl⟩
/-! Whole -/
def wholeUp (cut r next : Int) : Int := if cut < next + r / 2 then cut + (next + r / 2 - cut) / r * r else cut
def wholeN (cut b next : Int) : Int := if 1073741823 < wholeUp cut (rnd b) next then wholeUp cut (rnd b) next - rnd b else wholeUp cut (rnd b) next
def WholeOk (cut b next : Int) : Prop := MayBe next ∧ (1 ≤ b ∧ b ≤ 4) ∧ 0 ≤ cut ∧ cut < rnd b ∧ cut ≤ 1073741823
theorem whole_yes (cut b next : Int) (h : WholeOk cut b next) (w : World) :
  Calls Tryz.prog 130 #[.int .i64 cut, .int .i64 b, .int .i64 next] w fun e w' => e = .returned (.tuple #[.int .i64 (wholeN cut b next), .nilIface]) ∧ w = w' := by
 obtain ⟨⟨n1, n2⟩, ⟨b1, b2⟩, c1, c2, c3⟩ := h
 rcases four b1 b2 with rfl | rfl | rfl | rfl
 all_goals
  simp only [rnd] at c2
  simp at c2
  go_enter Tryz.func130, Tryz.ntmps130
  go_wp2_with (first | (go_at_call 93; refine (may_yes next n1 n2 _).mono ?_; rintro e w' ⟨rfl, rfl⟩) | (go_at_call 151; refine (nbytes_yes _ b1 b2 _).mono ?_; rintro e w' ⟨rfl, rfl⟩) | (go_at_call 123; refine (round_any _ b1 b2 _).mono ?_; rintro e w' ⟨rfl, rfl⟩; simp only [rnd]))
  all_goals
   go_ret2
   exact ⟨end_int2 (by unfold wholeN wholeUp rnd; simp; omega), rfl⟩
theorem whole_no (cut b next : Int) (h : ¬ WholeOk cut b next) (w : World) :
  Calls Tryz.prog 130 #[.int .i64 cut, .int .i64 b, .int .i64 next] w fun e w' => e = .returned (.tuple #[.int .i64 0, .iface 84 (.int .i64 1)]) ∧ w = w' := by
 by_cases hm : MayBe next
 case neg =>
  clear h
  go_enter Tryz.func130, Tryz.ntmps130
  go_wp2_with (go_at_call 93; refine (may_no next hm _).mono ?_; rintro e w' ⟨rfl, rfl⟩)
  go_ret2
  exact ⟨rfl, rfl⟩
 have n1 := hm.1
 have n2 := hm.2
 by_cases hb : 1 ≤ b ∧ b ≤ 4
 case neg =>
  clear h hm
  go_enter Tryz.func130, Tryz.ntmps130
  go_wp2_with (first | (go_at_call 93; refine (may_yes next n1 n2 _).mono ?_; rintro e w' ⟨rfl, rfl⟩) | (go_at_call 151; refine (nbytes_no _ hb _).mono ?_; rintro e w' ⟨rfl, rfl⟩))
  go_ret2
  exact ⟨rfl, rfl⟩
 by_cases h0 : 0 ≤ cut
 case neg =>
  obtain ⟨b1, b2⟩ := hb
  clear h hm
  go_enter Tryz.func130, Tryz.ntmps130
  go_wp2_with (first | (go_at_call 93; refine (may_yes next n1 n2 _).mono ?_; rintro e w' ⟨rfl, rfl⟩) | (go_at_call 151; refine (nbytes_yes _ b1 b2 _).mono ?_; rintro e w' ⟨rfl, rfl⟩))
  go_ret2
  exact ⟨rfl, rfl⟩
 by_cases hr : rnd b ≤ cut
 · obtain ⟨b1, b2⟩ := hb
   clear h hm
   go_enter Tryz.func130, Tryz.ntmps130
   go_wp2_with (first | (go_at_call 93; refine (may_yes next n1 n2 _).mono ?_; rintro e w' ⟨rfl, rfl⟩) | (go_at_call 151; refine (nbytes_yes _ b1 b2 _).mono ?_; rintro e w' ⟨rfl, rfl⟩) | (go_at_call 123; refine (round_any _ b1 b2 _).mono ?_; rintro e w' ⟨rfl, rfl⟩))
   go_ret2
   exact ⟨rfl, rfl⟩
 · have hc : 1073741823 < cut := by
    rcases Int.lt_or_le 1073741823 cut with h1 | h1
    · exact h1
    · exact absurd ⟨hm, hb, h0, by omega, h1⟩ h
   obtain ⟨b1, b2⟩ := hb
   clear h hm
   go_enter Tryz.func130, Tryz.ntmps130
   go_wp2_with (first | (go_at_call 93; refine (may_yes next n1 n2 _).mono ?_; rintro e w' ⟨rfl, rfl⟩) | (go_at_call 151; refine (nbytes_yes _ b1 b2 _).mono ?_; rintro e w' ⟨rfl, rfl⟩) | (go_at_call 123; refine (round_any _ b1 b2 _).mono ?_; rintro e w' ⟨rfl, rfl⟩))
   go_ret2
   exact ⟨rfl, rfl⟩
/-! Need -/
def leastN (d : Int) : Int := if 2 * d ≤ 256 then 1 else if 2 * d ≤ 65536 then 2 else if 2 * d ≤ 16777216 then 3 else 4
theorem leastN_bounds (d : Int) : 1 ≤ leastN d ∧ leastN d ≤ 4 := by unfold leastN; omega
theorem leastN_up (d k : Int) (h1 : 1 ≤ k) (h2 : k ≤ leastN d) (h : rnd k < 2 * d) (hd : d ≤ 1073741824) : k + 1 ≤ leastN d := by
 obtain ⟨_, b⟩ := leastN_bounds d
 rcases four h1 (by omega) with rfl | rfl | rfl | rfl <;> simp [rnd] at h <;> unfold leastN at * <;> omega
theorem leastN_at (d k : Int) (h1 : 1 ≤ k) (h2 : k ≤ leastN d) (h : 2 * d ≤ rnd k) : k = leastN d := by
 obtain ⟨_, b⟩ := leastN_bounds d
 rcases four h1 (by omega) with rfl | rfl | rfl | rfl <;> simp [rnd] at h <;> unfold leastN at * <;> omega
theorem least_any (n known : Int) (h1 : known < n) (h2 : -1 ≤ known) (h3 : n ≤ 1073741823) (w : World) :
  Calls Tryz.prog 88 #[.int .i64 n, .int .i64 known] w fun e w' => e = .returned (.int .i64 (leastN (n - known))) ∧ w = w' := by
 go_enter Tryz.func88, Tryz.ntmps88
 go_wp2
 go_loop [5] (fun b => ∃ k : Int, 1 ≤ k ∧ k ≤ leastN (n - known) ∧ b = .int .i64 k) (fun b => (4 - intOf b).toNat)
 case atStart => exact ⟨1, by omega, (leastN_bounds _).1, rfl⟩
 case round =>
  obtain ⟨k, k1, k2, rfl⟩ := hrel
  obtain ⟨l1, l2⟩ := leastN_bounds (n - known)
  have k4 : k ≤ 4 := by omega
  obtain ⟨r1, r2⟩ := rnd_bounds k
  by_cases hlt : rnd k < 2 * (n - known)
  · have hu := leastN_up (n - known) k k1 k2 hlt (by omega)
    go_wp2_with (go_at_call 123; refine (round_any k k1 k4 _).mono ?_; rintro e w' ⟨rfl, rfl⟩)
    go_round
    case rel => exact ⟨k + 1, by omega, hu, rfl⟩
    case measure => simp [intOf]; omega
  · have hu := leastN_at (n - known) k k1 k2 (by omega)
    have HU := Lib.hid hu
    clear hu
    go_wp2_with (go_at_call 123; refine (round_any k k1 k4 _).mono ?_; rintro e w' ⟨rfl, rfl⟩)
    go_ret
    exact ⟨end_int HU.out, rfl⟩
def NeedOk (n known : Int) : Prop := MayBe n ∧ -1 ≤ known ∧ known < n
theorem need_yes (n known : Int) (h : NeedOk n known) (w : World) :
  Calls Tryz.prog 164 #[.int .i64 n, .int .i64 known] w fun e w' => e = .returned (.tuple #[.int .i64 (leastN (n - known)), .nilIface]) ∧ w = w' := by
 obtain ⟨⟨n1, n2⟩, k1, k2⟩ := h
 go_enter Tryz.func164, Tryz.ntmps164
 go_wp2_with (first | (go_at_call 93; refine (may_yes n n1 n2 _).mono ?_; rintro e w' ⟨rfl, rfl⟩) | (go_at_call 88; refine (least_any n known k2 k1 n2 _).mono ?_; rintro e w' ⟨rfl, rfl⟩))
 go_ret2
 exact ⟨rfl, rfl⟩
theorem need_no (n known : Int) (h : ¬ NeedOk n known) (w : World) :
  Calls Tryz.prog 164 #[.int .i64 n, .int .i64 known] w fun e w' => e = .returned (.tuple #[.int .i64 0, .iface 84 (.int .i64 1)]) ∧ w = w' := by
 by_cases hm : MayBe n
 case neg =>
  clear h
  go_enter Tryz.func164, Tryz.ntmps164
  go_wp2_with (go_at_call 93; refine (may_no n hm _).mono ?_; rintro e w' ⟨rfl, rfl⟩)
  go_ret2
  exact ⟨rfl, rfl⟩
 have n1 := hm.1
 have n2 := hm.2
 by_cases hk : known < -1
 · clear h hm
   go_enter Tryz.func164, Tryz.ntmps164
   go_wp2_with (go_at_call 93; refine (may_yes n n1 n2 _).mono ?_; rintro e w' ⟨rfl, rfl⟩)
   go_ret2
   exact ⟨rfl, rfl⟩
 · have hn : n ≤ known := by
    rcases Int.lt_or_le known n with h1 | h1
    · exact absurd ⟨hm, by omega, h1⟩ h
    · exact h1
   clear h hm
   go_enter Tryz.func164, Tryz.ntmps164
   go_wp2_with (go_at_call 93; refine (may_yes n n1 n2 _).mono ?_; rintro e w' ⟨rfl, rfl⟩)
   go_ret2
   exact ⟨rfl, rfl⟩
/-! plain laws -/
theorem wholeN_cut (cut b next : Int) (h : WholeOk cut b next) : wholeN cut b next % rnd b = cut ∧ 0 ≤ wholeN cut b next ∧ wholeN cut b next ≤ 1073741823 := by
 obtain ⟨⟨n1, n2⟩, ⟨b1, b2⟩, c1, c2, c3⟩ := h
 rcases four b1 b2 with rfl | rfl | rfl | rfl <;> simp [rnd] at c2 <;> simp [wholeN, wholeUp, rnd] <;> omega
theorem rround_any (n : Int) (h1 : 1 ≤ n) (h2 : n ≤ 4) (w : World) :
  Calls Tryz.prog 90 #[.int .i64 n] w fun e w' => e = .returned (.int .i64 (rnd n)) ∧ w = w' := by
 rcases four h1 h2 with rfl | rfl | rfl | rfl
 all_goals
  go_enter Tryz.func90, Tryz.ntmps90
  go_wp2
  refine wp_loop_rounds 5 ?_
  repeat (rw [rounds_succ]; go_wp2)
  go_ret
  exact ⟨rfl, rfl⟩
theorem rneed_any (n known : Int) (h1 : known < n) (h2 : -1 ≤ known) (h3 : n ≤ 1073741823) (w : World) :
  Calls Tryz.prog 84 #[.int .i64 n, .int .i64 known] w fun e w' => e = .returned (.int .i64 (leastN (n - known))) ∧ w = w' := by
 go_enter Tryz.func84, Tryz.ntmps84
 go_wp2
 go_loop [5] (fun b => ∃ k : Int, 1 ≤ k ∧ k ≤ leastN (n - known) ∧ b = .int .i64 k) (fun b => (4 - intOf b).toNat)
 case atStart => exact ⟨1, by omega, (leastN_bounds _).1, rfl⟩
 case round =>
  obtain ⟨k, k1, k2, rfl⟩ := hrel
  obtain ⟨l1, l2⟩ := leastN_bounds (n - known)
  have k4 : k ≤ 4 := by omega
  obtain ⟨r1, r2⟩ := rnd_bounds k
  by_cases hlt : rnd k < 2 * (n - known)
  · have hu := leastN_up (n - known) k k1 k2 hlt (by omega)
    go_wp2_with (go_at_call 90; refine (rround_any k k1 k4 _).mono ?_; rintro e w' ⟨rfl, rfl⟩)
    go_round
    case rel => exact ⟨k + 1, by omega, hu, rfl⟩
    case measure => simp [intOf]; omega
  · have hu := leastN_at (n - known) k k1 k2 (by omega)
    have HU := Lib.hid hu
    clear hu
    go_wp2_with (go_at_call 90; refine (rround_any k k1 k4 _).mono ?_; rintro e w' ⟨rfl, rfl⟩)
    go_ret
    exact ⟨end_int HU.out, rfl⟩
theorem rwhole_yes (cut b next : Int) (h : WholeOk cut b next) (w : World) :
  Calls Tryz.prog 107 #[.int .i64 cut, .int .i64 b, .int .i64 next] w fun e w' => e = .returned (.tuple #[.int .i64 (wholeN cut b next), .bool true]) ∧ w = w' := by
 obtain ⟨⟨n1, n2⟩, ⟨b1, b2⟩, c1, c2, c3⟩ := h
 rcases four b1 b2 with rfl | rfl | rfl | rfl
 all_goals
  simp only [rnd] at c2
  simp at c2
  go_enter Tryz.func107, Tryz.ntmps107
  go_wp2_with (first | (go_at_call 86; refine (rmay_yes next n1 n2 _).mono ?_; rintro e w' ⟨rfl, rfl⟩) | (go_at_call 90; refine (rround_any _ b1 b2 _).mono ?_; rintro e w' ⟨rfl, rfl⟩; simp only [rnd]))
  all_goals
   go_ret2
   exact ⟨end_int2 (by unfold wholeN wholeUp rnd; simp; omega), rfl⟩
theorem rwhole_no (cut b next : Int) (h : ¬ WholeOk cut b next) (w : World) :
  Calls Tryz.prog 107 #[.int .i64 cut, .int .i64 b, .int .i64 next] w fun e w' => e = .returned (.tuple #[.int .i64 0, .bool false]) ∧ w = w' := by
 by_cases hm : MayBe next
 case neg =>
  clear h
  go_enter Tryz.func107, Tryz.ntmps107
  go_wp2_with (go_at_call 86; refine (rmay_no next hm _).mono ?_; rintro e w' ⟨rfl, rfl⟩)
  go_ret2
  exact ⟨rfl, rfl⟩
 have n1 := hm.1
 have n2 := hm.2
 by_cases hb1 : b < 1
 · clear h hm
   go_enter Tryz.func107, Tryz.ntmps107
   go_wp2_with (go_at_call 86; refine (rmay_yes next n1 n2 _).mono ?_; rintro e w' ⟨rfl, rfl⟩)
   go_ret2
   exact ⟨rfl, rfl⟩
 by_cases hb2 : 4 < b
 · clear h hm
   go_enter Tryz.func107, Tryz.ntmps107
   go_wp2_with (go_at_call 86; refine (rmay_yes next n1 n2 _).mono ?_; rintro e w' ⟨rfl, rfl⟩)
   go_ret2
   exact ⟨rfl, rfl⟩
 by_cases h0 : cut < 0
 · clear h hm
   go_enter Tryz.func107, Tryz.ntmps107
   go_wp2_with (go_at_call 86; refine (rmay_yes next n1 n2 _).mono ?_; rintro e w' ⟨rfl, rfl⟩)
   go_ret2
   exact ⟨rfl, rfl⟩
 have b1 : 1 ≤ b := by omega
 have b2 : b ≤ 4 := by omega
 obtain ⟨r1, r2⟩ := rnd_bounds b
 by_cases hr : rnd b ≤ cut
 · clear h hm
   go_enter Tryz.func107, Tryz.ntmps107
   go_wp2_with (first | (go_at_call 86; refine (rmay_yes next n1 n2 _).mono ?_; rintro e w' ⟨rfl, rfl⟩) | (go_at_call 90; refine (rround_any _ b1 b2 _).mono ?_; rintro e w' ⟨rfl, rfl⟩))
   go_ret2
   exact ⟨rfl, rfl⟩
 · have hc : 1073741823 < cut := by
    rcases Int.lt_or_le 1073741823 cut with h1 | h1
    · exact h1
    · exact absurd ⟨hm, ⟨b1, b2⟩, by omega, by omega, h1⟩ h
   clear h hm
   go_enter Tryz.func107, Tryz.ntmps107
   go_wp2_with (first | (go_at_call 86; refine (rmay_yes next n1 n2 _).mono ?_; rintro e w' ⟨rfl, rfl⟩) | (go_at_call 90; refine (rround_any _ b1 b2 _).mono ?_; rintro e w' ⟨rfl, rfl⟩))
   go_ret2
   exact ⟨rfl, rfl⟩
instance (n known : Int) : Decidable (NeedOk n known) := by unfold NeedOk; infer_instance
def needE (n known : Int) : Int := if NeedOk n known then 0 else 1
def needV (n known : Int) : Int := if NeedOk n known then leastN (n - known) else 0
theorem need_any (n known : Int) (w : World) :
  Calls Tryz.prog 164 #[.int .i64 n, .int .i64 known] w fun e w' => e = .returned (.tuple #[.int .i64 (needV n known), errV (needE n known)]) ∧ w = w' := by
 unfold needV needE
 by_cases h : NeedOk n known
 · rw [if_pos h, if_pos h]; exact need_yes n known h w
 · rw [if_neg h, if_neg h]; exact need_no n known h w
instance (cut b next : Int) : Decidable (WholeOk cut b next) := by unfold WholeOk; infer_instance
def wholeE (cut b next : Int) : Int := if WholeOk cut b next then 0 else 1
def wholeV (cut b next : Int) : Int := if WholeOk cut b next then wholeN cut b next else 0
theorem whole_any (cut b next : Int) (w : World) :
  Calls Tryz.prog 130 #[.int .i64 cut, .int .i64 b, .int .i64 next] w fun e w' => e = .returned (.tuple #[.int .i64 (wholeV cut b next), errV (wholeE cut b next)]) ∧ w = w' := by
 unfold wholeV wholeE
 by_cases h : WholeOk cut b next
 · rw [if_pos h, if_pos h]; exact whole_yes cut b next h w
 · rw [if_neg h, if_neg h]; exact whole_no cut b next h w
def vputE (n : Int) : Int := if MayBe n then 0 else 1
def vputL (n : Int) : List UInt8 := if MayBe n then vbytes n else []
theorem vput_any (n : Int) (w : World) (hk : KTab w) :
  Calls Tryz.prog 162 #[.int .i64 n] w fun e w' => e = .returned (.tuple #[.string ⟨(vputL n).toArray⟩, errV (vputE n)]) ∧ Below w.heap.size w w' := by
 have HK := Lib.hid hk
 clear hk
 unfold vputL vputE
 by_cases h : MayBe n
 · rw [if_pos h, if_pos h]
   have n0 := h.1
   have n1 := h.2
   clear h
   go_enter Tryz.func162, Tryz.ntmps162
   go_wp2_with (first | (go_at_call 93; refine (may_yes n n0 n1 _).mono ?_; rintro e w' ⟨rfl, rfl⟩) | (go_at_call 126; refine (bytes_any n n0 n1 _ HK.out).mono ?_; rintro e w1 ⟨rfl, hb⟩))
   go_ret2
   exact ⟨rfl, (by exact Since.later (Since.refl _) hb)⟩
 · rw [if_neg h, if_neg h]
   go_enter Tryz.func162, Tryz.ntmps162
   go_wp2_with (go_at_call 93; refine (may_no n h _).mono ?_; rintro e w' ⟨rfl, rfl⟩)
   go_ret2
   exact ⟨rfl, Below.refl _ _⟩
/-! varint.Get -/
theorem str_ne {s : ByteArray} (h : 0 < s.size) : s.toList.isEmpty = false := by
 rw [ByteArray.toList_eq]
 have : s.data.toList.length = s.size := Array.length_toList
 cases hl : s.data.toList with
 | nil => rw [hl] at this; simp at this; omega
 | cons x l => rfl
theorem str_at (s : ByteArray) (i : Nat) (h : i < s.size) : (s[i].toNat : Int) = bat s.data.toList i := by
 have h2 : i < s.data.toList.length := by rw [show s.data.toList.length = s.size from Array.length_toList]; exact h
 have h3 : s[i] = s.data.toList[i] := rfl
 unfold bat
 rw [h3, List.getD, List.getElem?_eq_getElem h2]
 rfl
theorem i64_or8 (x y : Int) (h0 : 0 ≤ x) (h1 : x % 256 = 0) (h2 : x < 4611686018427387904) (h3 : 0 ≤ y) (h4 : y < 256) : bits .or .i64 x y = x + y :=
 bits_join .i64 62 (by decide) (fun n a b => IntWalk.i64_in n (by omega)) 8 x y h0 (by omega) (by omega) h3 (by omega) (by omega)
theorem kind_long (n : Int) : (kindN n = 0 ↔ longN n = 1) ∧ (kindN n = 1 ↔ longN n = 2) ∧ (kindN n = 2 ↔ longN n = 4) := by
 unfold kindN longN
 split
 · simp
 · split <;> simp
abbrev getR (s : ByteArray) : Value := .tuple #[.int .i64 (getV s.data.toList), .int .i64 (getK s.data.toList), errV (getE s.data.toList)]
theorem get_no {s : ByteArray} (h : ¬ getOk s.data.toList) : Hid (getV s.data.toList = 0 ∧ getK s.data.toList = 0 ∧ getE s.data.toList = 2) := Lib.hid (by
 unfold getV getK getE
 rw [if_neg h, if_neg h, if_neg h]
 exact ⟨rfl, rfl, rfl⟩)
theorem get_yes {s : ByteArray} (h : getOk s.data.toList) : getV s.data.toList = getN s.data.toList ∧ getK s.data.toList = getC s.data.toList ∧ getE s.data.toList = 0 := by
 unfold getV getK getE
 rw [if_pos h, if_pos h, if_pos h]
 exact ⟨rfl, rfl, rfl⟩
theorem vget_empty (s : ByteArray) (h0 : s.size = 0) (w : World) :
  Calls Tryz.prog 168 #[.string s] w fun e w' => e = .returned (getR s) ∧ Below w.heap.size w w' := by
 have hl : s.data.toList = [] := by
  have : s.data.toList.length = s.size := Array.length_toList
  cases hl : s.data.toList with
  | nil => rfl
  | cons x l => rw [hl, h0] at this; cases this
 have N := get_no (s := s) (by rw [hl]; exact fun h => h.1 rfl)
 have ne : s.toList = [] := by rw [ByteArray.toList_eq]; exact hl
 have ne2 : s.toList.isEmpty = true := by rw [ne]; rfl
 clear hl
 go_enter Tryz.func168, Tryz.ntmps168
 go_wp2_with fail
 go_ret3
 exact ⟨by rw [getR, N.out.1, N.out.2.1, N.out.2.2]; rfl, Below.refl _ _⟩
theorem vget_high (s : ByteArray) (h0 : 0 < s.size) (x0 : Int) (e0 : (s[0].toNat : Int) = x0) (b0 : bat s.data.toList 0 = x0) (a1 : x0 < 256) (a : 192 ≤ x0) (w : World) :
  Calls Tryz.prog 168 #[.string s] w fun e w' => e = .returned (getR s) ∧ Below w.heap.size w w' := by
 have N := get_no (s := s) (fun h => by have := h.2.1; omega)
 have ne := str_ne h0
 have ne2 : ¬ s.toList = [] := by intro he; rw [he] at ne; cases ne
 have l1 : x0 / 64 = 3 := by omega
 have B0 := Lib.hid b0
 clear b0
 go_enter Tryz.func168, Tryz.ntmps168
 go_wp2_with fail
 go_ret3
 exact ⟨by rw [getR, N.out.1, N.out.2.1, N.out.2.2]; rfl, Below.refl _ _⟩
theorem vget_k0 (s : ByteArray) (hz : s.size ≤ 9223372036854775807) (h0 : 0 < s.size) (hsz : 0 < s.size) (x0 : Int) (e0 : (s[0].toNat : Int) = x0) (b0 : bat s.data.toList 0 = x0) (a0 : 0 ≤ x0) (a1 : x0 < 64) (w : World) (hk : KTab w) :
  Calls Tryz.prog 168 #[.string s] w fun e w' => e = .returned (getR s) ∧ Below w.heap.size w w' := by
 have hc : getC s.data.toList = 1 := by unfold getC; rw [b0, if_pos (by omega)]
 have hn : getN s.data.toList = x0 := by unfold getN; rw [b0, if_pos (by omega)]
 obtain ⟨n, hnn⟩ : ∃ n : Int, x0 = n := ⟨_, rfl⟩
 have hn2 : getN s.data.toList = n := by rw [hn]; omega
 have hlen : s.data.toList.length = s.size := Array.length_toList
 have hne : s.data.toList ≠ [] := by intro he; rw [he] at hlen; simp at hlen; omega
 have HK := Lib.hid hk
 obtain ⟨k0, k1, k2, k3, k4, k5⟩ := hk
 have ne := str_ne (s := s) (by omega)
 have ne2 : ¬ s.toList = [] := by intro he; rw [he] at ne; cases ne
 have l1 : x0 / 64 = 0 := by omega
 have h3 : decide ((s.size : Int) < 1) = false := by simp; omega
 have o0 : bits BinOp.or IntKind.i64 0 x0 = x0 := by rw [i64_or8 0 x0 (by omega) (by omega) (by omega) (by omega) (by omega)]; omega
 have HNN := Lib.hid hnn
 by_cases hq : kindN n = 0
 · obtain ⟨v1, v2, v3⟩ := get_yes (s := s) ⟨hne, by omega, by omega, by rw [hn2, hc]; exact (kind_long n).1.1 hq⟩
   have V : Hid (getV s.data.toList = n ∧ getK s.data.toList = 1 ∧ getE s.data.toList = 0) := Lib.hid ⟨v1.trans hn2, by rw [v2, hc]; rfl, v3⟩
   have HQ := Lib.hid hq
   clear hq v1 v2 v3 hn hn2 hc hnn hne hlen b0
   go_enter Tryz.func168, Tryz.ntmps168
   go_wp2_with fail
   refine wp_loop_rounds 2 ?_
   rw [rounds_succ]
   go_wp2_with fail
   rw [rounds_succ]
   go_wp2_with (go_at_call 149; rw [HNN.out]; refine (kind_any n _ (HK.out.alloc _)).mono ?_; rintro e w1 ⟨rfl, hb⟩; rw [HQ.out]; (first | (refine keepk (w.heap.size) hb ?_ ?_; (first | assumption | (focus (simp; omega)) | (focus (simp; done))); intro lk ck fk)))
   go_quiet (fail)
   go_wp2_with fail
   go_ret3
   exact ⟨by rw [getR, V.out.1, V.out.2.1, V.out.2.2]; rfl, (by exact Since.drewN (Since.later (Since.alloc (Since.refl _) _) hb) _)⟩
 · have N := get_no (s := s) (fun h => hq ((kind_long n).1.2 (by have := h.2.2.2; rw [hn2, hc] at this; exact this)))
   have HQ : (kindN n == 0) = false := beq_eq_false_iff_ne.2 hq
   clear hq hn hn2 hc hnn hne hlen b0
   go_enter Tryz.func168, Tryz.ntmps168
   go_wp2_with fail
   refine wp_loop_rounds 2 ?_
   rw [rounds_succ]
   go_wp2_with fail
   rw [rounds_succ]
   go_wp2_with (go_at_call 149; rw [HNN.out]; refine (kind_any n _ (HK.out.alloc _)).mono ?_; rintro e w1 ⟨rfl, hb⟩)
   go_ret3
   exact ⟨by rw [getR, N.out.1, N.out.2.1, N.out.2.2]; rfl, (by exact Since.later (Since.alloc (Since.refl _) _) hb)⟩
theorem vget_short1 (s : ByteArray) (h0 : 0 < s.size) (hs : s.size < 2) (x0 : Int) (e0 : (s[0].toNat : Int) = x0) (b0 : bat s.data.toList 0 = x0) (a0 : 64 ≤ x0) (a1 : x0 < 128) (w : World) (hk : KTab w) :
  Calls Tryz.prog 168 #[.string s] w fun e w' => e = .returned (getR s) ∧ Below w.heap.size w w' := by
 have N := get_no (s := s) (fun h => by
  have h3 := h.2.2.1
  rw [show s.data.toList.length = s.size from Array.length_toList] at h3
  have hc : getC s.data.toList = 2 := by unfold getC; rw [b0, if_neg (by omega), if_pos (by omega)]
  omega)
 obtain ⟨k0, k1, k2, k3, k4, k5⟩ := hk
 have ne := str_ne h0
 have ne2 : ¬ s.toList = [] := by intro he; rw [he] at ne; cases ne
 have l1 : x0 / 64 = 1 := by omega
 have h3 : (s.size : Int) < 2 := by omega
 have B0 := Lib.hid b0
 clear b0
 go_enter Tryz.func168, Tryz.ntmps168
 go_wp2_with fail
 go_ret3
 exact ⟨by rw [getR, N.out.1, N.out.2.1, N.out.2.2]; rfl, (by exact Since.alloc (Since.refl _) _)⟩
theorem vget_k1 (s : ByteArray) (hz : s.size ≤ 9223372036854775807) (h0 : 0 < s.size) (h1 : 1 < s.size) (hsz : 1 < s.size) (x0 x1 : Int) (e0 : (s[0].toNat : Int) = x0) (b0 : bat s.data.toList 0 = x0) (e1 : (s[1].toNat : Int) = x1) (b1 : bat s.data.toList 1 = x1) (a0 : 64 ≤ x0) (a1 : x0 < 128) (p1 : 0 ≤ x1) (q1 : x1 < 256) (w : World) (hk : KTab w) :
  Calls Tryz.prog 168 #[.string s] w fun e w' => e = .returned (getR s) ∧ Below w.heap.size w w' := by
 have hc : getC s.data.toList = 2 := by unfold getC; rw [b0, if_neg (by omega), if_pos (by omega)]
 have hn : getN s.data.toList = (x0 - 64) * 256 + x1 := by unfold getN; rw [b0, if_neg (by omega), if_pos (by omega), b1]
 obtain ⟨n, hnn⟩ : ∃ n : Int, x0 * 256 + x1 - 16384 = n := ⟨_, rfl⟩
 have hn2 : getN s.data.toList = n := by rw [hn]; omega
 have hlen : s.data.toList.length = s.size := Array.length_toList
 have hne : s.data.toList ≠ [] := by intro he; rw [he] at hlen; simp at hlen; omega
 have HK := Lib.hid hk
 obtain ⟨k0, k1, k2, k3, k4, k5⟩ := hk
 have ne := str_ne (s := s) (by omega)
 have ne2 : ¬ s.toList = [] := by intro he; rw [he] at ne; cases ne
 have l1 : x0 / 64 = 1 := by omega
 have h3 : decide ((s.size : Int) < 2) = false := by simp; omega
 have o0 : bits BinOp.or IntKind.i64 0 x0 = x0 := by rw [i64_or8 0 x0 (by omega) (by omega) (by omega) (by omega) (by omega)]; omega
 have o1 : bits BinOp.or IntKind.i64 (x0 * 256) x1 = x0 * 256 + x1 := i64_or8 _ _ (by omega) (by omega) (by omega) (by omega) (by omega)
 have HNN := Lib.hid hnn
 by_cases hq : kindN n = 1
 · obtain ⟨v1, v2, v3⟩ := get_yes (s := s) ⟨hne, by omega, by omega, by rw [hn2, hc]; exact (kind_long n).2.1.1 hq⟩
   have V : Hid (getV s.data.toList = n ∧ getK s.data.toList = 2 ∧ getE s.data.toList = 0) := Lib.hid ⟨v1.trans hn2, by rw [v2, hc]; rfl, v3⟩
   have HQ := Lib.hid hq
   clear hq v1 v2 v3 hn hn2 hc hnn hne hlen b0 b1
   go_enter Tryz.func168, Tryz.ntmps168
   go_wp2_with fail
   refine wp_loop_rounds 3 ?_
   rw [rounds_succ]
   go_wp2_with fail
   rw [rounds_succ]
   go_wp2_with fail
   rw [rounds_succ]
   go_wp2_with (go_at_call 149; rw [HNN.out]; refine (kind_any n _ (HK.out.alloc _)).mono ?_; rintro e w1 ⟨rfl, hb⟩; rw [HQ.out]; (first | (refine keepk (w.heap.size) hb ?_ ?_; (first | assumption | (focus (simp; omega)) | (focus (simp; done))); intro lk ck fk)))
   go_quiet (fail)
   go_wp2_with fail
   go_ret3
   exact ⟨by rw [getR, V.out.1, V.out.2.1, V.out.2.2]; rfl, (by exact Since.drewN (Since.later (Since.alloc (Since.refl _) _) hb) _)⟩
 · have N := get_no (s := s) (fun h => hq ((kind_long n).2.1.2 (by have := h.2.2.2; rw [hn2, hc] at this; exact this)))
   have HQ : (kindN n == 1) = false := beq_eq_false_iff_ne.2 hq
   clear hq hn hn2 hc hnn hne hlen b0 b1
   go_enter Tryz.func168, Tryz.ntmps168
   go_wp2_with fail
   refine wp_loop_rounds 3 ?_
   rw [rounds_succ]
   go_wp2_with fail
   rw [rounds_succ]
   go_wp2_with fail
   rw [rounds_succ]
   go_wp2_with (go_at_call 149; rw [HNN.out]; refine (kind_any n _ (HK.out.alloc _)).mono ?_; rintro e w1 ⟨rfl, hb⟩)
   go_ret3
   exact ⟨by rw [getR, N.out.1, N.out.2.1, N.out.2.2]; rfl, (by exact Since.later (Since.alloc (Since.refl _) _) hb)⟩
theorem vget_short2 (s : ByteArray) (h0 : 0 < s.size) (hs : s.size < 4) (x0 : Int) (e0 : (s[0].toNat : Int) = x0) (b0 : bat s.data.toList 0 = x0) (a0 : 128 ≤ x0) (a1 : x0 < 192) (w : World) (hk : KTab w) :
  Calls Tryz.prog 168 #[.string s] w fun e w' => e = .returned (getR s) ∧ Below w.heap.size w w' := by
 have N := get_no (s := s) (fun h => by
  have h3 := h.2.2.1
  rw [show s.data.toList.length = s.size from Array.length_toList] at h3
  have hc : getC s.data.toList = 4 := by unfold getC; rw [b0, if_neg (by omega), if_neg (by omega)]
  omega)
 obtain ⟨k0, k1, k2, k3, k4, k5⟩ := hk
 have ne := str_ne h0
 have ne2 : ¬ s.toList = [] := by intro he; rw [he] at ne; cases ne
 have l1 : x0 / 64 = 2 := by omega
 have h3 : (s.size : Int) < 4 := by omega
 have B0 := Lib.hid b0
 clear b0
 go_enter Tryz.func168, Tryz.ntmps168
 go_wp2_with fail
 go_ret3
 exact ⟨by rw [getR, N.out.1, N.out.2.1, N.out.2.2]; rfl, (by exact Since.alloc (Since.refl _) _)⟩
theorem vget_k2 (s : ByteArray) (hz : s.size ≤ 9223372036854775807) (h0 : 0 < s.size) (h1 : 1 < s.size) (h2 : 2 < s.size) (h3 : 3 < s.size) (hsz : 3 < s.size) (x0 x1 x2 x3 : Int) (e0 : (s[0].toNat : Int) = x0) (b0 : bat s.data.toList 0 = x0) (e1 : (s[1].toNat : Int) = x1) (b1 : bat s.data.toList 1 = x1) (e2 : (s[2].toNat : Int) = x2) (b2 : bat s.data.toList 2 = x2) (e3 : (s[3].toNat : Int) = x3) (b3 : bat s.data.toList 3 = x3) (a0 : 128 ≤ x0) (a1 : x0 < 192) (p1 : 0 ≤ x1) (q1 : x1 < 256) (p2 : 0 ≤ x2) (q2 : x2 < 256) (p3 : 0 ≤ x3) (q3 : x3 < 256) (w : World) (hk : KTab w) :
  Calls Tryz.prog 168 #[.string s] w fun e w' => e = .returned (getR s) ∧ Below w.heap.size w w' := by
 have hc : getC s.data.toList = 4 := by unfold getC; rw [b0, if_neg (by omega), if_neg (by omega)]
 have hn : getN s.data.toList = (((x0 - 128) * 256 + x1) * 256 + x2) * 256 + x3 := by unfold getN; rw [b0, if_neg (by omega), if_neg (by omega), b1, b2, b3]
 obtain ⟨n, hnn⟩ : ∃ n : Int, ((x0 * 256 + x1) * 256 + x2) * 256 + x3 - 2147483648 = n := ⟨_, rfl⟩
 have hn2 : getN s.data.toList = n := by rw [hn]; omega
 have hlen : s.data.toList.length = s.size := Array.length_toList
 have hne : s.data.toList ≠ [] := by intro he; rw [he] at hlen; simp at hlen; omega
 have HK := Lib.hid hk
 obtain ⟨k0, k1, k2, k3, k4, k5⟩ := hk
 have ne := str_ne (s := s) (by omega)
 have ne2 : ¬ s.toList = [] := by intro he; rw [he] at ne; cases ne
 have l1 : x0 / 64 = 2 := by omega
 have h3 : decide ((s.size : Int) < 4) = false := by simp; omega
 have o0 : bits BinOp.or IntKind.i64 0 x0 = x0 := by rw [i64_or8 0 x0 (by omega) (by omega) (by omega) (by omega) (by omega)]; omega
 have o1 : bits BinOp.or IntKind.i64 (x0 * 256) x1 = x0 * 256 + x1 := i64_or8 _ _ (by omega) (by omega) (by omega) (by omega) (by omega)
 have o2 : bits BinOp.or IntKind.i64 ((x0 * 256 + x1) * 256) x2 = (x0 * 256 + x1) * 256 + x2 := i64_or8 _ _ (by omega) (by omega) (by omega) (by omega) (by omega)
 have o3 : bits BinOp.or IntKind.i64 (((x0 * 256 + x1) * 256 + x2) * 256) x3 = ((x0 * 256 + x1) * 256 + x2) * 256 + x3 := i64_or8 _ _ (by omega) (by omega) (by omega) (by omega) (by omega)
 have HNN := Lib.hid hnn
 by_cases hq : kindN n = 2
 · obtain ⟨v1, v2, v3⟩ := get_yes (s := s) ⟨hne, by omega, by omega, by rw [hn2, hc]; exact (kind_long n).2.2.1 hq⟩
   have V : Hid (getV s.data.toList = n ∧ getK s.data.toList = 4 ∧ getE s.data.toList = 0) := Lib.hid ⟨v1.trans hn2, by rw [v2, hc]; rfl, v3⟩
   have HQ := Lib.hid hq
   clear hq v1 v2 v3 hn hn2 hc hnn hne hlen b0 b1 b2 b3
   go_enter Tryz.func168, Tryz.ntmps168
   go_wp2_with fail
   refine wp_loop_rounds 5 ?_
   rw [rounds_succ]
   go_wp2_with fail
   rw [rounds_succ]
   go_wp2_with fail
   rw [rounds_succ]
   go_wp2_with fail
   rw [rounds_succ]
   go_wp2_with fail
   rw [rounds_succ]
   go_wp2_with (go_at_call 149; rw [HNN.out]; refine (kind_any n _ (HK.out.alloc _)).mono ?_; rintro e w1 ⟨rfl, hb⟩; rw [HQ.out]; (first | (refine keepk (w.heap.size) hb ?_ ?_; (first | assumption | (focus (simp; omega)) | (focus (simp; done))); intro lk ck fk)))
   go_quiet (fail)
   go_wp2_with fail
   go_ret3
   exact ⟨by rw [getR, V.out.1, V.out.2.1, V.out.2.2]; rfl, (by exact Since.drewN (Since.later (Since.alloc (Since.refl _) _) hb) _)⟩
 · have N := get_no (s := s) (fun h => hq ((kind_long n).2.2.2 (by have := h.2.2.2; rw [hn2, hc] at this; exact this)))
   have HQ : (kindN n == 2) = false := beq_eq_false_iff_ne.2 hq
   clear hq hn hn2 hc hnn hne hlen b0 b1 b2 b3
   go_enter Tryz.func168, Tryz.ntmps168
   go_wp2_with fail
   refine wp_loop_rounds 5 ?_
   rw [rounds_succ]
   go_wp2_with fail
   rw [rounds_succ]
   go_wp2_with fail
   rw [rounds_succ]
   go_wp2_with fail
   rw [rounds_succ]
   go_wp2_with fail
   rw [rounds_succ]
   go_wp2_with (go_at_call 149; rw [HNN.out]; refine (kind_any n _ (HK.out.alloc _)).mono ?_; rintro e w1 ⟨rfl, hb⟩)
   go_ret3
   exact ⟨by rw [getR, N.out.1, N.out.2.1, N.out.2.2]; rfl, (by exact Since.later (Since.alloc (Since.refl _) _) hb)⟩
theorem vget_any (s : ByteArray) (hz : s.size ≤ 9223372036854775807) (w : World) (hk : KTab w) :
  Calls Tryz.prog 168 #[.string s] w fun e w' => e = .returned (getR s) ∧ Below w.heap.size w w' := by
 rcases Nat.eq_zero_or_pos s.size with h | h
 · exact vget_empty s h w
 have e0 := str_at s 0 h
 obtain ⟨p0, q0⟩ := bat_bounds s.data.toList 0
 by_cases c0 : 192 ≤ bat s.data.toList 0
 · exact vget_high s h _ e0 rfl q0 c0 w
 by_cases c1 : bat s.data.toList 0 < 64
 · exact vget_k0 s hz h h _ e0 rfl p0 c1 w hk
 by_cases c2 : bat s.data.toList 0 < 128
 · by_cases h1 : 1 < s.size
   · obtain ⟨p1, q1⟩ := bat_bounds s.data.toList 1
     exact vget_k1 s hz h h1 h1 _ _ e0 rfl (str_at s 1 h1) rfl (by omega) c2 p1 q1 w hk
   · exact vget_short1 s h (by omega) _ e0 rfl (by omega) c2 w hk
 · by_cases h3 : 3 < s.size
   · obtain ⟨p1, q1⟩ := bat_bounds s.data.toList 1
     obtain ⟨p2, q2⟩ := bat_bounds s.data.toList 2
     obtain ⟨p3, q3⟩ := bat_bounds s.data.toList 3
     exact vget_k2 s hz h (by omega) (by omega) h3 h3 _ _ _ _ e0 rfl (str_at s 1 (by omega)) rfl (str_at s 2 (by omega)) rfl (str_at s 3 h3) rfl (by omega) (by omega) p1 q1 p2 q2 p3 q3 w hk
   · exact vget_short2 s h (by omega) _ e0 rfl (by omega) (by omega) w hk
end Go.Proofs.YtmfbaijbigodkaaGreatDoor
namespace Go.Proofs.YtmfbaijbigodkaaGreatDoor
open Go.Shelf Go.RowKit
set_option linter.unusedVariables false
def lays167_ren : Go.Shelf.Ren := ⟨fun | 167 => 124 | 240 => 113 | 276 => 140 | n => n, fun | 0 => 0 | 3 => 3 | 4 => 4 | 5 => 5 | 9 => 9 | 20 => 20 | 37 => 131 | 70 => 130 | 72 => 133 | 75 => 27 | 164 => 178 | 80 => 40 | 127 => 177 | n => n, fun | n => n⟩
theorem lays167 : Go.Proofs.Lays.n167 Tryz.prog lays167_ren := {
 mixed := by kernel_rfl
 f167 := Tryz.func124.trans (congrArg some (by kernel_rfl))
 f240 := Tryz.func113.trans (congrArg some (by kernel_rfl))
 f276 := Tryz.func140.trans (congrArg some (by kernel_rfl))
 t0 := Tryz.underlying0
 a0 := Tryz.isAgg0
 z0 := Tryz.sizeOf0
 v0 := Tryz.zeroValue0
 t4 := Tryz.underlying4
 a4 := Tryz.isAgg4
 z4 := Tryz.sizeOf4
 v4 := Tryz.zeroValue4
 t5 := Tryz.underlying5
 a5 := Tryz.isAgg5
 z5 := Tryz.sizeOf5
 v5 := Tryz.zeroValue5
 t9 := Tryz.underlying9
 a9 := Tryz.isAgg9
 z9 := Tryz.sizeOf9
 v9 := Tryz.zeroValue9
 t20 := Tryz.underlying20
 a20 := Tryz.isAgg20
 z20 := Tryz.sizeOf20
 v20 := Tryz.zeroValue20
 t37 := Tryz.underlying131
 a37 := Tryz.isAgg131
 z37 := Tryz.sizeOf131
 v37 := Tryz.zeroValue131
 t70 := Tryz.underlying130
 a70 := Tryz.isAgg130
 z70 := Tryz.sizeOf130
 v70 := Tryz.zeroValue130
 t72 := Tryz.underlying133
 a72 := Tryz.isAgg133
 z72 := Tryz.sizeOf133
 v72 := Tryz.zeroValue133
 t75 := Tryz.underlying27
 a75 := Tryz.isAgg27
 z75 := Tryz.sizeOf27
 v75 := Tryz.zeroValue27
 t164 := Tryz.underlying178
 a164 := Tryz.isAgg178
 z164 := Tryz.sizeOf178
 v164 := Tryz.zeroValue178
}
theorem extra167 : Go.Proofs.Builder.Extra Tryz.prog lays167_ren := {
 sizeBuilder := by kernel_rfl
 liesBuilder := by kernel_rfl
 t5 := Tryz.underlying5
 a5 := Tryz.isAgg5
 z5 := Tryz.sizeOf5
 v5 := Tryz.zeroValue5
 infoByte := by kernel_rfl
 cellsByte := by kernel_rfl
 sizeByte := by kernel_rfl
 neB5 := by decide
}
theorem bbyteK (B b : Nat) (bs : List Value) (c : Int) (w : World) (h : Lib.IsBuilderF 133 5 B b bs w) (hlen : bs.length + 1 ≤ 140737488355328) (hBw : B ≤ w.heap.size) :
 Calls Tryz.prog 124 #[.pointer (some ⟨b, 0, none⟩), .int .u8 c] w fun e w' => e = .returned .nilIface ∧ (Lib.BuilderAtF 133 5 B b (.pointer (some ⟨b, 0, none⟩)) (bs ++ [.int .u8 c]) w' ∧ Below B w w' ∧ Lib.OthersKept 5 (some b) w w') := Go.Proofs.Any.Builder_WriteByte_k lays167 extra167 B b bs c w h hlen hBw
theorem bwriteK (B b : Nat) (bs : List Value) (s : ByteArray) (w : World) (h : Lib.IsBuilderF 133 5 B b bs w) (hlen : bs.length + s.size ≤ 140737488355328) (hBw : B ≤ w.heap.size) :
 Calls Tryz.prog 76 #[.pointer (some ⟨b, 0, none⟩), .string s] w fun e w' => e = .returned (.tuple #[.int .i64 s.size, .nilIface]) ∧ (Lib.BuilderAtF 133 5 B b (.pointer (some ⟨b, 0, none⟩)) (bs ++ Lib.strCells s) w' ∧ Below B w w' ∧ Lib.OthersKept 5 (some b) w w') := Go.Proofs.Any.Builder_WriteString_k lays166 extra166 B b bs s w h hlen hBw
theorem bstringK (B b : Nat) (l : List UInt8) (w : World) (h : Lib.IsBuilderF 133 5 B b (Lib.byteCells l) w) (hBw : B ≤ w.heap.size) :
 Calls Tryz.prog 79 #[.pointer (some ⟨b, 0, none⟩)] w fun e w' => e = .returned (.string ⟨l.toArray⟩) ∧ (Lib.IsBuilderF 133 5 B b (Lib.byteCells l) w' ∧ Below B w w' ∧ Lib.OthersKept 5 (some b) w w') := Go.Proofs.Any.Builder_String_any_k lays169 extra169 B b l w h hBw
theorem bfresh (w : World) : Lib.IsBuilderF 133 5 w.heap.size w.heap.size (Lib.byteCells []) (w.alloc (.cells #[.pointer none, .slice none 0 0] 133)) := Lib.IsBuilderF.of (Lib.fresh_isBuilder _ _ w)
theorem builderAtF_later {T e : TypeId} {B b : Nat} {p : Value} {bs : List Value} {w w1 : World} (h : Lib.BuilderAtF T e B b p bs w) (hb : Below w.heap.size w w1) : Lib.BuilderAtF T e B b p bs w1 := by
 have hlt := h.lt
 obtain ⟨h1, v, h2, h3, h4⟩ := h
 refine ⟨h1, v, (hb.block b hlt).trans h2, ?_, h4⟩
 exact h3.kept (row := none) ⟨hb.os, hb.tape, hb.output, hb.size, fun i hi _ => hb.block i hi⟩ (by cases hv : v.ownBlock <;> simp)
theorem builderF_later {T e : TypeId} {B b : Nat} {bs : List Value} {w w1 : World} (h : Lib.IsBuilderF T e B b bs w) (hb : Below w.heap.size w w1) : Lib.IsBuilderF T e B b bs w1 :=
 h.imp (fun h => builderAtF_later h hb) (fun h => builderAtF_later h hb)
theorem BlockIs.others {e : TypeId} {b : Nat} {w w' : World} {g : Nat} {t : TypeId} {cs : Array Value} (h : BlockIs w g t cs) (k : Lib.OthersKept e (some b) w w') (hb : g ≠ b) (ht : t ≠ e) : BlockIs w' g t cs :=
 k g _ h (fun he => hb (Option.some.inj he)) (fun c fz he => ht (by injection he))
end Go.Proofs.YtmfbaijbigodkaaGreatDoor
namespace Go.Proofs.YtmfbaijbigodkaaGreatDoor
open Go.ChangeShapes Go.WideShapes Go.ChangeAt Go.RowKit
set_option linter.unusedVariables false
theorem strCells_bytes (l : List UInt8) : Lib.strCells ⟨l.toArray⟩ = Lib.byteCells l := rfl
theorem bsize (l : List UInt8) : (⟨l.toArray⟩ : ByteArray).size = l.length := by show l.toArray.size = _; simp
theorem bapp (a b : List UInt8) : (⟨a.toArray⟩ : ByteArray) ++ ⟨b.toArray⟩ = ⟨(a ++ b).toArray⟩ := by
 apply ByteArray.ext; simp
theorem ackbytes (A : Option Addr) (n cap : Nat) (L : List Rng) (w : World) (hn : L.length = n) (h : Rd w 2 (.slice A n cap) (L.map rngRow)) (hE : rngE L = 0) (hk : KTab w) :
  Calls Tryz.prog 125 #[.slice A n cap] w fun e w' => e = .returned (.string ⟨(ackB L).toArray⟩) ∧ Below w.heap.size w w' := by
 have H := Lib.hid h
 have HN := Lib.hid hn
 have HK := Lib.hid hk
 have hl12 : n ≤ 12 := by rw [← hn]; exact rngE_len hE
 have HO : Hid (∀ i, i < n → okN (rat L i) ∧ (rat L i).lo ≤ (rat L i).hi ∧ (0 < i → (rat L i).hi + 1 < (rat L (i-1)).lo)) := Lib.hid (fun i hi => rngOne_ok (rngE_each hE (by omega)))
 have HLN : Hid (∀ i, (ackUp L i).length ≤ 8 * i + 1) := Lib.hid (fun i => ackUp_len L (by omega) i)
 have HAB : Hid (ackB L = ackUp L n) := Lib.hid (by unfold ackB; rw [hn])
 clear h hn hE hk
 go_enter Tryz.func125, Tryz.ntmps125
 go_wp2_with fail
 go_loopw [8] (fun s8 wr => ∃ i : Nat, s8 = .int .i64 i ∧ i ≤ n ∧ Hid (Lib.IsBuilderF 133 5 w.heap.size w.heap.size (Lib.byteCells (ackUp L i)) wr) ∧ Since w wr) (fun s8 _ => n - (intOf s8).toNat)
 case atStart => exact ⟨0, rfl, Nat.zero_le _, Lib.hid (bfresh w), (Since.refl w).alloc _⟩
 case round =>
  obtain ⟨i, rfl, hi, HB, hs⟩ := hrel
  have hwr : w.heap.size < wr.heap.size := by
   rcases HB.out with h | h <;> exact h.lt
  by_cases hlt : i < n
  case neg =>
   obtain rfl : i = n := by omega
   have hf : decide ((i : Int) < (i : Int)) = false := by simp
   go_wp2_with fail
   refine (bstringK w.heap.size w.heap.size _ _ HB.out (by omega)).mono ?_
   rintro e w1 ⟨rfl, _, hb1, _⟩
   go_wp2_with fail
   go_ret
   exact ⟨by rw [HAB.out]; rfl, Below.trans hs hb1⟩
  have hlt' : (i : Int) < (n : Int) := by omega
  obtain ⟨b, off, rfl, hbl, hc⟩ := H.out.rng (i := i) (by rw [HN.out]; exact hlt)
  obtain ⟨c0, c1⟩ := hc wr hs i (by rw [HN.out]; exact hlt)
  have hpc : 0 < i → ∀ w', Since w w' → w'.cell? ⟨b, off + (i - 1) * 2, none⟩ = some (.int .i64 (rat L (i - 1)).lo) := fun h w' hw' => (hc w' hw' (i - 1) (by rw [HN.out]; omega)).1
  have hpk : 0 < i → okN (rat L (i - 1)) := fun h => (HO.out (i - 1) (by omega)).1
  obtain ⟨⟨⟨a1, a2⟩, a3, a4⟩, a5, a6⟩ := HO.out i hlt
  have HL := Lib.hid (HLN.out i)
  have HU1 : Hid (i = 0 → ackUp L (i + 1) = vbytes (rat L i).hi ++ vbytes ((n : Int) - 1) ++ vbytes ((rat L i).hi - (rat L i).lo)) := Lib.hid (fun h => by subst h; rw [ackUp_one, HN.out])
  have HU2 : Hid (0 < i → ackUp L (i + 1) = ackUp L i ++ vbytes ((rat L (i - 1)).lo - (rat L i).hi - 2) ++ vbytes ((rat L i).hi - (rat L i).lo)) := Lib.hid (fun h => ackUp_succ L h)
  have HU0 : Hid (i = 0 → ackUp L i = []) := Lib.hid (fun h => by subst h; rfl)
  generalize ackUp L i = U at *
  generalize (rat L i).lo = lo at *
  generalize (rat L i).hi = hi2 at *
  have lb : b < wr.heap.size := Nat.lt_of_lt_of_le hbl hs.le
  have HB1 := Lib.hid (builderF_later HB.out (((Since.refl wr).alloc (.cells #[.int .i64 lo, .int .i64 hi2] 101)) : Below wr.heap.size wr _))
  have hq : BlockIs (wr.alloc (.cells #[.int .i64 lo, .int .i64 hi2] 101)) wr.heap.size 101 #[.int .i64 lo, .int .i64 hi2] := BlockIs.fresh _ _ _
  have HQ := Lib.hid hq
  have hsa : Since w (wr.alloc (.cells #[.int .i64 lo, .int .i64 hi2] 101)) := hs.alloc _
  have HUL : Hid (U.length ≤ 100) := Lib.hid (by have := HL.out; omega)
  clear hc HB hq
  by_cases hi0 : i = 0
  · subst hi0
    obtain rfl : U = [] := HU0.out rfl
    have HU := Lib.hid (HU1.out rfl)
    have c0' : wr.cell? ⟨b, off, none⟩ = some (.int .i64 lo) := by simpa using c0
    have c1' : wr.cell? ⟨b, off + 1, none⟩ = some (.int .i64 hi2) := by simpa using c1
    clear hpc hpk c0 c1
    go_wp2_with fail
    refine (bytes_any hi2 a3 a4 _ (HK.out.later hsa)).mono ?_
    rintro e w1 ⟨rfl, hb1⟩
    go_wp2_with fail
    refine (bytes_any ((n : Int) - 1) (by omega) (by omega) _ (HK.out.later (hsa.later hb1))).mono ?_
    rintro e w2 ⟨rfl, hb2⟩
    have hb12 := below_steps hb1 hb2 hb1.size
    have HQ2 := Lib.hid (HQ.out.later hb12)
    have HB2 := Lib.hid (builderF_later HB1.out hb12)
    have hs2 := hsa.later hb12
    have h4 := vbytes_len4 hi2
    have h5 := vbytes_len4 ((n : Int) - 1)
    have hov : (vbytes hi2).length + (vbytes ((n : Int) - 1)).length ≤ 9223372036854775807 := by omega
    clear hb1 hb2 hb12 hsa
    go_wp2_with fail
    rw [bapp]
    refine (bwriteK w.heap.size w.heap.size _ _ _ HB2.out (by rw [Lib.byteCells_length, bsize]; simp; omega) hs2.le).mono ?_
    rintro e w3 ⟨rfl, hB3, hb3, ho3⟩
    have hq3 := HQ2.out.others ho3 (by omega) (by decide)
    have hs3 : Since w w3 := Below.trans hs2 hb3
    have d0 : w3.cell? ⟨wr.heap.size, 0, none⟩ = some (.int .i64 lo) := hq3.cell 0
    have d1 : w3.cell? ⟨wr.heap.size, 1, none⟩ = some (.int .i64 hi2) := hq3.cell 1
    have l3 := hq3.lt
    have HB3 := Lib.hid hB3
    clear hB3 hb3 ho3 hq3 hs2
    go_wp2_with fail
    refine (bytes_any (hi2 - lo) (by omega) (by omega) _ (HK.out.later hs3)).mono ?_
    rintro e w4 ⟨rfl, hb4⟩
    have HB4 := Lib.hid (builderF_later (Or.inr HB3.out) hb4)
    have hs4 := hs3.later hb4
    have h6 := vbytes_len4 (hi2 - lo)
    have HSZ : Hid ((Lib.byteCells [] ++ Lib.strCells ⟨(vbytes hi2 ++ vbytes ((n : Int) - 1)).toArray⟩).length + (⟨(vbytes (hi2 - lo)).toArray⟩ : ByteArray).size ≤ 140737488355328) := Lib.hid (by rw [strCells_bytes, List.length_append, Lib.byteCells_length, Lib.byteCells_length, bsize]; simp; omega)
    have HE : Hid (Lib.byteCells [] ++ Lib.strCells ⟨(vbytes hi2 ++ vbytes ((n : Int) - 1)).toArray⟩ ++ Lib.strCells ⟨(vbytes (hi2 - lo)).toArray⟩ = Lib.byteCells (ackUp L (0 + 1))) := Lib.hid (by rw [strCells_bytes, strCells_bytes, ← Lib.byteCells_append, ← Lib.byteCells_append, HU.out]; rfl)
    clear hb4 h6 d0 d1 hs3
    go_wp2_with fail
    refine (bwriteK w.heap.size w.heap.size _ _ _ HB4.out HSZ.out hs4.le).mono ?_
    rintro e w5 ⟨rfl, hB5, hb5, _⟩
    rw [HE.out] at hB5
    have HB5 := Lib.hid hB5
    have hs5 : Since w w5 := Below.trans hs4 hb5
    clear hB5 hb5
    go_wp2_with fail
    go_roundw
    case rel => exact ⟨0 + 1, by go_num, by omega, Lib.hid (Or.inr HB5.out), hs5⟩
    case measure => simp [intOf]; omega
  · have hip : 0 < i := by omega
    have hi0' : ((i : Int) == 0) = false := by simp; omega
    have hi1 : (i : Int) - 1 = ((i - 1 : Nat) : Int) := by omega
    have hi2' : ((i - 1 : Nat) : Int) < (n : Int) := by omega
    obtain ⟨⟨p1, p2⟩, p3, p4⟩ := hpk hip
    have HU := Lib.hid (HU2.out hip)
    have hpc' := hpc hip
    have hgp := a6 hip
    generalize (rat L (i - 1)).lo = plo at *
    generalize (rat L (i - 1)).hi = phi at *
    have cp := hpc' wr hs
    obtain ⟨X, hX⟩ : ∃ X, vbytes (plo - hi2 - 2) = X := ⟨_, rfl⟩
    have HXL : Hid (X.length ≤ 4) := Lib.hid (by rw [← hX]; exact (vbytes_len4 _).2)
    have HX := Lib.hid hX
    rw [hX] at HU
    clear hpc hpk a6 hpc' hX hi0
    go_wp2_with fail
    have hw0 : IntKind.i64.wrap ((i - 1 : Nat) : Int) = ((i - 1 : Nat) : Int) := by simp [IntKind.wrap, IntKind.bits, IntKind.signed]; omega
    have hw1 : IntKind.i64.wrap (plo - hi2) = plo - hi2 := by simp [IntKind.wrap, IntKind.bits, IntKind.signed]; omega
    have hw2 : IntKind.i64.wrap (plo - hi2 - 2) = plo - hi2 - 2 := by simp [IntKind.wrap, IntKind.bits, IntKind.signed]; omega
    have hg0 : 0 ≤ plo - hi2 - 2 := by omega
    have hg1 : plo - hi2 - 2 ≤ 1073741823 := by omega
    go_region_law (first | (go_simp; go_at_call 126; refine (bytes_any (plo - hi2 - 2) hg0 hg1 _ (HK.out.later (by first | exact hsa | exact hsa.drew))).mono ?_; rintro e w1 ⟨rfl, hb1⟩; rw [HX.out]; have HS1 := Lib.hid (show Since (wr.alloc (.cells #[.int .i64 lo, .int .i64 hi2] 101)) w1 from (by exact Since.later (Since.drew (Since.refl _)) hb1)); clear hb1) | (go_simp; go_at_call 76; refine (bwriteK w.heap.size w.heap.size _ _ _ (builderF_later HB1.out HS1.out) (by rw [Lib.byteCells_length, bsize]; have := HXL.out; have := HUL.out; omega) (hsa.later HS1.out).le).mono ?_; rintro e w3 ⟨rfl, hB3, hb3, ho3⟩; have HB3 := Lib.hid hB3; have HS3 := Lib.hid (show Since w w3 from Below.trans (hsa.later HS1.out) hb3); have HQ3 := Lib.hid ((HQ.out.later HS1.out).others ho3 (by omega) (by decide)); clear hB3 hb3 ho3))
    all_goals
     have hs3 := HS3.out
     have d0 : w3.cell? ⟨wr.heap.size, 0, none⟩ = some (.int .i64 lo) := HQ3.out.cell 0
     have d1 : w3.cell? ⟨wr.heap.size, 1, none⟩ = some (.int .i64 hi2) := HQ3.out.cell 1
     have l3 := HQ3.out.lt
     clear hw0 hw1 hw2
     go_wp2_with fail
     refine (bytes_any (hi2 - lo) (by omega) (by omega) _ (HK.out.later hs3)).mono ?_
     rintro e w4 ⟨rfl, hb4⟩
     have HB4 := Lib.hid (builderF_later (Or.inr HB3.out) hb4)
     have hs4 := hs3.later hb4
     have h6 := vbytes_len4 (hi2 - lo)
     have HSZ : Hid ((Lib.byteCells U ++ Lib.strCells ⟨X.toArray⟩).length + (⟨(vbytes (hi2 - lo)).toArray⟩ : ByteArray).size ≤ 140737488355328) := Lib.hid (by rw [strCells_bytes, List.length_append, Lib.byteCells_length, Lib.byteCells_length, bsize]; have := HXL.out; have := HUL.out; omega)
     have HE : Hid (Lib.byteCells U ++ Lib.strCells ⟨X.toArray⟩ ++ Lib.strCells ⟨(vbytes (hi2 - lo)).toArray⟩ = Lib.byteCells (ackUp L (i + 1))) := Lib.hid (by rw [strCells_bytes, strCells_bytes, ← Lib.byteCells_append, ← Lib.byteCells_append, HU.out])
     clear hb4 h6 d0 d1 hs3
     go_wp2_with fail
     refine (bwriteK w.heap.size w.heap.size _ _ _ HB4.out HSZ.out hs4.le).mono ?_
     rintro e w5 ⟨rfl, hB5, hb5, _⟩
     rw [HE.out] at hB5
     have HB5 := Lib.hid hB5
     have hs5 : Since w w5 := Below.trans hs4 hb5
     clear hB5 hb5
     go_wp2_with fail
     go_roundw
     case rel => exact ⟨i + 1, by go_num, by omega, Lib.hid (Or.inr HB5.out), hs5⟩
     case measure => simp [intOf]; omega
theorem str_empty {s : ByteArray} (h : s.size = 0) : s.toList.isEmpty = true ∧ s.toList = [] := by
 have hl : s.data.toList.length = 0 := h
 have : s.toList = [] := by rw [ByteArray.toList_eq]; exact List.length_eq_zero_iff.1 hl
 rw [this]; exact ⟨rfl, rfl⟩
theorem str_full {s : ByteArray} (h : s.size ≠ 0) : s.toList.isEmpty = false ∧ ¬ s.toList = [] := by
 have hl : s.data.toList.length ≠ 0 := h
 have : ¬ s.toList = [] := by rw [ByteArray.toList_eq]; exact fun h2 => hl (by rw [h2]; rfl)
 exact ⟨by cases hh : s.toList with | nil => exact absurd hh this | cons a l => rfl, this⟩
theorem nums_le {w : World} {v : Value} {zs : List Int} (h : IntsIn w v zs) : zs.length ≤ 9223372036854775807 := by
 obtain ⟨_, A, cap, _, h1, h2, _⟩ := h
 unfold maxLen at h2
 omega
theorem shapeB_two {f : Frm} (h : shapeB f = true) (hk : f.kind = 2) : f.data.size = 0 ∧ 0 < f.nums.length ∧ f.nums.length % 2 = 0 ∧ f.nums.length ≤ 24 := by
 unfold shapeB at h
 rw [if_pos hk] at h
 simp only [Bool.and_eq_true, Bool.or_eq_true, beq_iff_eq, decide_eq_true_eq] at h
 exact ⟨by rcases h.1 with h1 | h1; omega; exact h1, h.2⟩
theorem pairs_ok {L : List Int} (h : maysB L = true) : ∀ r ∈ pairs L, okI r.lo ∧ okI r.hi := by
 have hm : ∀ z ∈ L, MayBe z := fun z hz => mayB_iff.1 (List.all_eq_true.1 h z hz)
 have hall : ∀ (M : List Int), (∀ z ∈ M, MayBe z) → ∀ r ∈ pairs M, okI r.lo ∧ okI r.hi := by
  intro M
  induction M using pairs.induct with
  | case1 a b r ih =>
    intro hM x hx
    rw [pairs] at hx
    rcases List.mem_cons.1 hx with rfl | hx
    · have h1 := hM a (by simp)
      have h2 := hM b (by simp)
      unfold MayBe at h1 h2
      unfold okI
      simp only
      omega
    · exact ih (fun z hz => hM z (by simp [hz])) x hx
  | case2 t ht =>
    intro _ x hx
    rw [pairs] at hx
    · cases hx
    · exact ht
 exact hall L hm
theorem byte_cell {k : Int} (h1 : 0 ≤ k) (h2 : k < 256) : ([.int .u8 k] : List Value) = Lib.byteCells [byteOf k] := by
 have := byteOf_toNat h1 h2
 show _ = [Value.int .u8 ((byteOf k).toNat : Int)]
 rw [this]
theorem frmB_two {f : Frm} (h : f.kind = 2) : frmB f = byteOf f.kind :: ackB (pairs f.nums) := by unfold frmB; rw [if_pos h]
theorem frmB_three {f : Frm} (h : f.kind = 3) : frmB f = byteOf f.kind :: (allL f.nums ++ (vbytes f.data.size ++ f.data.data.toList)) := by unfold frmB; rw [if_neg (by omega), if_pos h]
theorem frmB_other {f : Frm} (h : f.kind ≠ 2) (h3 : f.kind ≠ 3) : frmB f = byteOf f.kind :: allL f.nums := by unfold frmB; rw [if_neg h, if_neg h3, List.append_nil]
theorem shapeB_len {f : Frm} (h : shapeB f = true) (hk : f.kind ≠ 2) : f.nums.length ≤ 2 := by
 unfold shapeB at h
 rw [if_neg hk] at h
 simp only [Bool.and_eq_true, decide_eq_true_eq] at h
 have h2 := h.2
 unfold manyK at h2
 first | omega | (split at h2 <;> (first | omega | (split at h2 <;> (first | omega | (split at h2 <;> omega)))))
theorem frmB_len (f : Frm) (h : frmE f = 0) : (frmB f).length ≤ 120 := by
 obtain ⟨⟨k1, k8⟩, hs, hm, hd, ha⟩ := frmE_out h
 by_cases h2 : f.kind = 2
 · have hl := ackUp_len (pairs f.nums) (rngE_len (ha h2)) (pairs f.nums).length
   have := rngE_len (ha h2)
   rw [frmB_two h2, List.length_cons]
   unfold ackB
   omega
 · have hn := shapeB_len hs h2
   have h4 := allL_short f.nums
   by_cases h3 : f.kind = 3
   · have h5 := vbytes_len4 (f.data.size : Int)
     have h6 : f.data.data.toList.length = f.data.size := rfl
     rw [frmB_three h3, List.length_cons, List.length_append, List.length_append, h6]
     omega
   · rw [frmB_other h2 h3, List.length_cons]
     omega
theorem fbytes (p : FrmV) (w : World) (hp : FrmIn w p) (hE : frmE p.f = 0) (hk : KTab w) :
  Calls Tryz.prog 89 #[p.agg] w fun e w' => e = .returned (.string ⟨(frmB p.f).toArray⟩) ∧ Below w.heap.size w w' := by
 obtain ⟨⟨k1, k8⟩, hs, hm, hd, ha⟩ := frmE_out hE
 have HK := Lib.hid hk
 have HP := Lib.hid hp
 have HS := Lib.hid hs
 have HM := Lib.hid hm
 have HA := Lib.hid ha
 have HQ : Hid (BlockIs ((w.alloc (.cells #[.int .i64 p.f.kind, .slice p.A p.f.nums.length p.cap, .string p.f.data] 93)).alloc (.cells #[.pointer none, .slice none 0 0] 133)) w.heap.size 93 #[.int .i64 p.f.kind, .slice p.A p.f.nums.length p.cap, .string p.f.data]) := Lib.hid ((BlockIs.fresh _ _ _).alloc _)
 have hb0 := bfresh (w.alloc (.cells #[.int .i64 p.f.kind, .slice p.A p.f.nums.length p.cap, .string p.f.data] 93))
 rw [World.size_alloc] at hb0
 have HB0 := Lib.hid hb0
 have hbc := byte_cell (k := p.f.kind) (by omega) (by omega)
 have HBC := Lib.hid hbc
 have hs1 : Since w ((w.alloc (.cells #[.int .i64 p.f.kind, .slice p.A p.f.nums.length p.cap, .string p.f.data] 93)).alloc (.cells #[.pointer none, .slice none 0 0] 133)) := ((Since.refl w).alloc _).alloc _
 have hwrap : IntKind.u8.wrap p.f.kind = p.f.kind := by simp [IntKind.wrap, IntKind.bits, IntKind.signed]; omega
 clear hk hp hs hm ha hbc hb0
 unfold FrmV.agg
 go_enter Tryz.func89, Tryz.ntmps89
 go_wp2_with fail
 refine (bbyteK (w.heap.size + 1) (w.heap.size + 1) _ p.f.kind _ HB0.out (by simp [Lib.byteCells]) (by simp)).mono ?_
 rintro e w1 ⟨rfl, hB1, hb1, ho1⟩
 rw [HBC.out, ← Lib.byteCells_append, List.nil_append] at hB1
 have HQ1 := Lib.hid (HQ.out.others ho1 (by omega) (by decide))
 have hs2 : Since w w1 := Below.trans hs1 (hb1.mono (by omega))
 have f0 : w1.cell? ⟨w.heap.size, 0, none⟩ = some (.int .i64 p.f.kind) := HQ1.out.cell 0
 have f1 : w1.cell? ⟨w.heap.size, 1, none⟩ = some (.slice p.A p.f.nums.length p.cap) := HQ1.out.cell 1
 have l1 := HQ1.out.lt
 have HB1 := Lib.hid hB1
 have hle1 : (w.heap.size + 1) ≤ w1.heap.size := by have := hB1.lt; omega
 clear hB1 hb1 ho1 hs1
 by_cases h2 : p.f.kind = 2
 · obtain ⟨_, n1, n2, n3⟩ := shapeB_two HS.out h2
   have hl2 := pairs_len p.f.nums n2
   have HE := Lib.hid (HA.out h2)
   have HFB := Lib.hid (frmB_two h2)
   have h12 := rngE_len (HA.out h2)
   have hal := ackUp_len (pairs p.f.nums) h12 (pairs p.f.nums).length
   have HAL : Hid ((ackB (pairs p.f.nums)).length ≤ 97) := Lib.hid (by unfold ackB; omega)
   obtain ⟨K, hK⟩ : ∃ K, (pairs p.f.nums).length = K := ⟨_, rfl⟩
   have h2' : (p.f.kind == 2) = true := by simpa using h2
   have HKK := Lib.hid hK
   have FR := Lib.hid (fun W hW => franges p.A p.cap p.f.nums K W hW (by omega) (by omega) (by omega))
   clear hK h2 n1 n2 n3 hl2 h12 hal hwrap
   go_wp2_with fail
   refine (FR.out _ (HP.out.nums.keep hs2)).mono ?_
   rintro e w3 ⟨A3, c3, rfl, hl3, hb3, _⟩
   have HL3 := Lib.hid hl3
   have hs3 := hs2.later hb3
   have HB3 := Lib.hid (builderAtF_later HB1.out hb3)
   have hle3 : (w.heap.size + 1) ≤ w3.heap.size := Nat.le_trans hle1 hb3.size
   clear hl3 hb3
   go_wp2_with fail
   refine (ackbytes A3 K c3 (pairs p.f.nums) _ HKK.out (Rd.of_lst HL3.out) HE.out (HK.out.later hs3)).mono ?_
   rintro e w4 ⟨rfl, hb4⟩
   have hs4 := hs3.later hb4
   have HB4 := Lib.hid (builderAtF_later HB3.out hb4)
   have hle4 : (w.heap.size + 1) ≤ w4.heap.size := Nat.le_trans hle3 hb4.size
   clear hb4
   go_wp2_with fail
   refine (bwriteK (w.heap.size + 1) (w.heap.size + 1) _ _ _ (Or.inr HB4.out) (by rw [Lib.byteCells_length, bsize]; have := HAL.out; simp; omega) hle4).mono ?_
   rintro e w5 ⟨rfl, hB5, hb5, ho5⟩
   rw [strCells_bytes, ← Lib.byteCells_append] at hB5
   have HB5 := Lib.hid hB5
   have hs5 : Since w w5 := Below.trans hs4 (hb5.mono (by omega))
   have hle5 : (w.heap.size + 1) ≤ w5.heap.size := by have := hB5.lt; omega
   clear hB5 hb5 ho5
   go_wp2_with fail
   refine (bstringK (w.heap.size + 1) (w.heap.size + 1) _ _ (Or.inr HB5.out) hle5).mono ?_
   rintro e w6 ⟨rfl, _, hb6, _⟩
   have hs6 : Since w w6 := Below.trans hs5 (hb6.mono (by omega))
   go_wp2_with fail
   go_ret
   exact ⟨by rw [HFB.out]; rfl, hs6⟩
 have h2' : (p.f.kind == 2) = false := by simpa using h2
 have hn2 := shapeB_len HS.out h2
 have HK2 := Lib.hid h2
 obtain ⟨n, hn⟩ : ∃ n, p.f.nums.length = n := ⟨_, rfl⟩
 have HN := Lib.hid hn
 obtain ⟨_, A2, cap2, hv, _, _, hA⟩ := HP.out.nums
 simp only [FrmV.v, Value.slice.injEq, true_and] at hv
 obtain ⟨hvA, hvc⟩ := hv
 rw [← hvA] at hA
 have HA2 := Lib.hid hA
 rw [hn] at f1 hn2 ⊢
 have HQ1n : Hid (BlockIs w1 w.heap.size 93 #[.int .i64 p.f.kind, .slice p.A n p.cap, .string p.f.data]) := Lib.hid (by rw [← hn]; exact HQ1.out)
 clear hn h2 hvA hvc hA hwrap HQ1 HQ HB0
 go_wp2_with fail
 go_loopw [22] (fun s22 wr => ∃ i : Nat, s22 = .int .i64 i ∧ i ≤ n ∧ Hid (Lib.BuilderAtF 133 5 (w.heap.size + 1) (w.heap.size + 1) (.pointer (some ⟨(w.heap.size + 1), 0, none⟩)) (Lib.byteCells (byteOf p.f.kind :: allL (p.f.nums.take i))) wr) ∧ Since w wr ∧ Hid (BlockIs wr w.heap.size 93 #[.int .i64 p.f.kind, .slice p.A n p.cap, .string p.f.data])) (fun s22 _ => n - (intOf s22).toNat)
 case atStart => exact ⟨0, rfl, Nat.zero_le _, Lib.hid HB1.out, hs2, HQ1n⟩
 case round =>
  obtain ⟨i, rfl, hi, HB, hs, HQ⟩ := hrel
  clear f0 f1 l1 hs2 HB1 hle1
  have hle : (w.heap.size + 1) ≤ wr.heap.size := by have := HB.out.lt; omega
  have HUL : Hid ((allL (p.f.nums.take i)).length ≤ 8) := Lib.hid (by
   have := allL_short (p.f.nums.take i)
   have h3 : (p.f.nums.take i).length ≤ i := List.length_take_le _ _
   omega)
  by_cases hlt : i < n
  case neg =>
   obtain rfl : i = n := by omega
   have hf : decide ((i : Int) < (i : Int)) = false := by simp
   have hz : Hid (allL (p.f.nums.take i) = allL p.f.nums) := Lib.hid (by rw [List.take_of_length_le (by rw [HN.out]; exact Nat.le_refl _)])
   rw [hz.out] at HB HUL
   have f0 : wr.cell? ⟨w.heap.size, 0, none⟩ = some (.int .i64 p.f.kind) := HQ.out.cell 0
   have f2 : wr.cell? ⟨w.heap.size, 2, none⟩ = some (.string p.f.data) := HQ.out.cell 2
   have l1 := HQ.out.lt
   by_cases h3 : p.f.kind = 3
   · have h3' : (p.f.kind == 3) = true := by simpa using h3
     have HFB := Lib.hid (frmB_three h3)
     have h5 := vbytes_len4 (p.f.data.size : Int)
     have hov : (vbytes (p.f.data.size : Int)).length + p.f.data.size ≤ 9223372036854775807 := by omega
     have hdz : p.f.data.size ≤ 9223372036854775807 := by omega
     have hov3 : (9223372036854775807 < (vbytes (p.f.data.size : Int)).length + p.f.data.size) = False := eq_false (by omega)
     have hg0 : (0 : Int) ≤ (p.f.data.size : Int) := by omega
     have hg1 : (p.f.data.size : Int) ≤ 1073741823 := by omega
     have hcat : Hid ((⟨(vbytes (p.f.data.size : Int)).toArray⟩ : ByteArray) ++ p.f.data = ⟨(vbytes (p.f.data.size : Int) ++ p.f.data.data.toList).toArray⟩) := Lib.hid (by apply ByteArray.ext; simp)
     have hdl : p.f.data.data.toList.length = p.f.data.size := rfl
     have HDL := Lib.hid hdl
     clear h3 hdl
     go_wp2_with fail
     go_region_law (first | (go_simp; go_at_call 126; refine (bytes_any (p.f.data.size : Int) hg0 hg1 _ (HK.out.later (by first | exact hs | exact hs.drew))).mono ?_; rintro e w4 ⟨rfl, hb4⟩; have HS4 := Lib.hid (show Since wr w4 from (by exact Since.later (Since.drew (Since.refl _)) hb4)); have g2 : w4.cell? ⟨w.heap.size, 2, none⟩ = some (.string p.f.data) := (HQ.out.later HS4.out).cell 2; have m4 := (HQ.out.later HS4.out).lt; clear hb4) | (go_simp; go_at_call 76; rw [hcat.out]; refine (bwriteK (w.heap.size + 1) (w.heap.size + 1) _ _ _ (Or.inr (builderAtF_later HB.out HS4.out)) (by rw [Lib.byteCells_length, bsize]; have := HUL.out; have := HDL.out; simp; omega) (Nat.le_trans hle HS4.out.le)).mono ?_; rintro e w5 ⟨rfl, hB5, hb5, ho5⟩; rw [strCells_bytes, ← Lib.byteCells_append] at hB5; have HB5 := Lib.hid hB5; have HS5 := Lib.hid (show Since w w5 from Below.trans (hs.later HS4.out) (hb5.mono (by omega))); clear hB5 hb5 ho5))
     all_goals
      have hle5 : (w.heap.size + 1) ≤ w5.heap.size := by have := HB5.out.lt; omega
      have hs5 := HS5.out
      go_wp2_with fail
      refine (bstringK (w.heap.size + 1) (w.heap.size + 1) _ _ (Or.inr HB5.out) hle5).mono ?_
      rintro e w6 ⟨rfl, _, hb6, _⟩
      have hs6 : Since w w6 := Below.trans hs5 (hb6.mono (by omega))
      go_wp2_with fail
      go_ret
      exact ⟨by rw [HFB.out]; simp, hs6⟩
   · have h3' : (p.f.kind == 3) = false := by simpa using h3
     have HFB := Lib.hid (frmB_other HK2.out h3)
     clear h3
     go_wp2_with fail
     refine (bstringK (w.heap.size + 1) (w.heap.size + 1) _ _ (Or.inr HB.out) hle).mono ?_
     rintro e w6 ⟨rfl, _, hb6, _⟩
     have hs6 : Since w w6 := Below.trans hs (hb6.mono (by omega))
     go_wp2_with fail
     go_ret
     exact ⟨by rw [HFB.out]; rfl, hs6⟩
  have hlt' : (i : Int) < (n : Int) := by omega
  have hil : i < p.f.nums.length := by rw [HN.out]; exact hlt
  obtain ⟨b, off, hbA, hbl, hcc⟩ := HA2.out (by intro h0; rw [h0] at hil; simp at hil)
  have c0 := hs.cell hbl (hcc i hil)
  have lb : b < wr.heap.size := Nat.lt_of_lt_of_le hbl hs.le
  obtain ⟨z0, z1⟩ := HM.out _ (ith_mem hil)
  have HT := Lib.hid (take_ith hil)
  rw [hbA]
  have HBA := Lib.hid hbA
  clear hcc hil hbA
  generalize ith p.f.nums i = z at *
  have hv4 := vbytes_len4 z
  go_wp2_with fail
  refine (bytes_any z z0 z1 _ (HK.out.later hs)).mono ?_
  rintro e w3 ⟨rfl, hb3⟩
  have hs3 := hs.later hb3
  have HB3 := Lib.hid (builderAtF_later HB.out hb3)
  have HQ3 := Lib.hid (HQ.out.later hb3)
  have hle3 := Nat.le_trans hle hb3.size
  clear hb3
  go_wp2_with fail
  refine (bwriteK (w.heap.size + 1) (w.heap.size + 1) _ _ _ (Or.inr HB3.out) (by rw [Lib.byteCells_length, bsize]; have := HUL.out; simp; omega) hle3).mono ?_
  rintro e w5 ⟨rfl, hB5, hb5, ho5⟩
  rw [strCells_bytes, ← Lib.byteCells_append, List.cons_append, ← allL_snoc, ← HT.out] at hB5
  have HB5 := Lib.hid hB5
  have hs5 : Since w w5 := Below.trans hs3 (hb5.mono (by omega))
  have HQ5 := Lib.hid (HQ3.out.others ho5 (by omega) (by decide))
  clear hB5 hb5 ho5
  go_wp2_with fail
  go_roundw
  case rel => exact ⟨i + 1, by go_num, by omega, HB5, hs5, by rw [← HBA.out]; exact HQ5⟩
  case measure => simp [intOf]; omega
theorem Only.of_drew {a w : World} {g : Nat} (h : Only a.drew w g) : Only a w g := ⟨h.os, h.tape, h.output, h.size, h.block⟩
theorem str_drop (s : ByteArray) (k : Nat) : (s.extract k s.size).data.toList = s.data.toList.drop k := by
 rw [ByteArray.data_extract]
 have : s.data.toList.length = s.size := rfl
 rw [Array.toList_extract, List.extract_eq_take_drop]
 rw [List.take_of_length_le]
 simp [this]
theorem str_drop_size (s : ByteArray) (k : Nat) : (s.extract k s.size).size ≤ s.size := by
 rw [ByteArray.size_extract]; omega
def gok (l : List UInt8) : Bool := decide (getOk l)
theorem gok_yes {l : List UInt8} (h : getOk l) : gok l = true ∧ getV l = getN l ∧ getK l = getC l ∧ getE l = 0 := by
 unfold gok getV getK getE; simp [h]
theorem gok_no {l : List UInt8} (h : ¬ getOk l) : gok l = false ∧ getV l = 0 ∧ getK l = 0 ∧ getE l = 2 := by
 unfold gok getV getK getE; simp [h]
theorem getR_drop (s : ByteArray) (k : Nat) : getR (s.extract k s.size) = .tuple #[.int .i64 (getV (s.data.toList.drop k)), .int .i64 (getK (s.data.toList.drop k)), errV (getE (s.data.toList.drop k))] := by
 unfold getR; rw [str_drop]
theorem bits_getN (l : List UInt8) : 0 ≤ getV l ∧ getV l ≤ 1073741823 := by
 by_cases h : getOk l
 · rw [(gok_yes h).2.1]; exact getN_bounds h.2.1
 · rw [(gok_no h).2.1]; omega
theorem bits_getK (l : List UInt8) : 0 ≤ getK l ∧ getK l ≤ 4 ∧ getK l ≤ l.length := by
 by_cases h : getOk l
 · rw [(gok_yes h).2.2.1]
   have := (getC_pos l).2
   have := h.2.2.1
   omega
 · rw [(gok_no h).2.2.1]; omega
theorem anext (g : Nat) (s : ByteArray) (k : Nat) (bad : Bool) (w : World) (h : BlockIs w g 246 #[.string s, .int .i64 k, .bool bad]) (hz : s.size ≤ 9223372036854775807) (hk : k ≤ s.size) (hK : KTab w) :
  Calls Tryz.prog 167 #[.pointer (some ⟨g, 0, none⟩)] w fun e w' => e = .returned (.int .i64 (getV (s.data.toList.drop k))) ∧ BlockIs w' g 246 #[.string s, .int .i64 ((k : Int) + getK (s.data.toList.drop k)), .bool (bad || !gok (s.data.toList.drop k))] ∧ Only w w' g := by
 have d0 : w.cell? ⟨g, 0, none⟩ = some (.string s) := h.cell 0
 have d1 : w.cell? ⟨g, 1, none⟩ = some (.int .i64 k) := h.cell 1
 have lt := h.lt
 have HB := Lib.hid h
 have HK := Lib.hid hK
 have HZ := Lib.hid (Nat.le_trans (str_drop_size s k) hz)
 have HR := Lib.hid (getR_drop s k)
 have hk' : (k : Int) ≤ (s.size : Int) := by omega
 obtain ⟨v0, v1⟩ := bits_getN (s.data.toList.drop k)
 obtain ⟨k0, k1, k2⟩ := bits_getK (s.data.toList.drop k)
 have hk3 : (k : Int) + getK (s.data.toList.drop k) ≤ 9223372036854775807 := by
  have : s.data.toList.length = s.size := rfl
  rw [List.length_drop] at k2
  omega
 clear h hK k2
 by_cases hg : getOk (s.data.toList.drop k)
 · obtain ⟨e1, e2, e3, e4⟩ := gok_yes hg
   rw [e4, errV_zero] at HR
   have HG := Lib.hid e1
   clear e1 e2 e3 e4 hg
   generalize getV (s.data.toList.drop k) = V at *
   generalize getK (s.data.toList.drop k) = K at *
   generalize s.data.toList.drop k = D at *
   go_enter Tryz.func167, Tryz.ntmps167
   go_wp2_with fail
   go_region_law (go_simp; go_at_call 168; refine (vget_any _ HZ.out _ (HK.out.later (by exact Since.drew (Since.refl _)))).mono ?_; rintro e w1 ⟨rfl, hb1⟩; rw [HR.out]; have HS1 := Lib.hid (show Since w w1 from (by exact Since.later (Since.drew (Since.refl _)) hb1)); clear hb1)
   all_goals
    have hB1 := HB.out.later HS1.out
    have d11 : w1.cell? ⟨g, 1, none⟩ = some (.int .i64 k) := hB1.cell 1
    have f1 := hB1.free
    have l1 := hB1.lt
    have HB1 := Lib.hid hB1
    clear hB1
    go_wp2_with fail
    go_ret
    exact ⟨rfl, by rw [HG.out, Bool.not_true, Bool.or_false]; exact HB1.out.put 1 _, (Only.of_below HS1.out g).put 1 _⟩
 · obtain ⟨e1, e2, e3, e4⟩ := gok_no hg
   rw [e4, e2, e3, errV_pos (by decide)] at HR
   rw [e1, e2, e3]
   clear e1 e2 e3 e4 hg v0 v1 k0 k1 hk3
   go_enter Tryz.func167, Tryz.ntmps167
   go_wp2_with fail
   go_region_law (go_simp; go_at_call 168; refine (vget_any _ HZ.out _ (HK.out.later (by exact Since.drew (Since.refl _)))).mono ?_; rintro e w1 ⟨rfl, hb1⟩; rw [HR.out]; have HS1 := Lib.hid (show Since w w1 from (by exact Since.later (Since.drew (Since.refl _)) hb1)); clear hb1)
   all_goals
    have hB1 := HB.out.later HS1.out
    have f1 := hB1.free
    have l1 := hB1.lt
    have d12 : w1.cell? ⟨g, 2, none⟩ = some (.bool bad) := hB1.cell 2
    have HB1 := Lib.hid hB1
    clear hB1
    go_wp2_with fail
    go_ret
    exact ⟨rfl, by rw [Int.add_zero, Bool.not_false, Bool.or_true]; exact HB1.out.put 2 _, (Only.of_below HS1.out g).put 2 _⟩
def kN (l : List UInt8) : Nat := if getOk l then getC l else 0
theorem kN_eq (l : List UInt8) : getK l = (kN l : Int) := by unfold getK kN; split <;> simp
theorem kN_le (b : List UInt8) {k : Nat} (hk : k ≤ b.length) : k + kN (b.drop k) ≤ b.length := by
 have h := (bits_getK (b.drop k)).2.2
 rw [kN_eq, List.length_drop] at h
 omega
theorem anextN (g : Nat) (s : ByteArray) (k : Nat) (bad : Bool) (w : World) (h : BlockIs w g 246 #[.string s, .int .i64 k, .bool bad]) (hz : s.size ≤ 9223372036854775807) (hk : k ≤ s.data.toList.length) (hK : KTab w) :
  Calls Tryz.prog 167 #[.pointer (some ⟨g, 0, none⟩)] w fun e w' => e = .returned (.int .i64 (getV (s.data.toList.drop k))) ∧ BlockIs w' g 246 #[.string s, .int .i64 ((k + kN (s.data.toList.drop k) : Nat) : Int), .bool (bad || !gok (s.data.toList.drop k))] ∧ Only w w' g := by
 refine (anext g s k bad w h hz hk hK).mono fun e w' ⟨h1, h2, h3⟩ => ⟨h1, ?_, h3⟩
 rw [kN_eq] at h2
 rw [show ((k + kN (s.data.toList.drop k) : Nat) : Int) = (k : Int) + (kN (s.data.toList.drop k) : Int) by omega]
 exact h2
def nH (b : List UInt8) (hi : Int) (i : Nat) (M : List Rng) (k : Nat) : Int := if i = 0 then hi else (rat M (i - 1)).lo - 2 - getV (b.drop k)
def nK (b : List UInt8) (i k : Nat) : Nat := if i = 0 then k else k + kN (b.drop k)
def nG (b : List UInt8) (i k : Nat) : Bool := if i = 0 then true else gok (b.drop k)
theorem gok_iff {l : List UInt8} : gok l = true ↔ getOk l := by unfold gok; simp
theorem step_ok {b : List UInt8} {hi : Int} {k0 i k : Nat} {M : List Rng} (h : rdUp b hi k0 i = some (M, k)) (hg : nG b i k = true) (hl : gok (b.drop (nK b i k)) = true) (h0 : 0 ≤ nH b hi i M k - getV (b.drop (nK b i k))) :
  rdUp b hi k0 (i + 1) = some (M ++ [⟨nH b hi i M k - getV (b.drop (nK b i k)), nH b hi i M k⟩], nK b i k + kN (b.drop (nK b i k))) := by
 rw [rdUp_step h]
 have hv := gok_yes (gok_iff.1 hl)
 have hkn : kN (b.drop (nK b i k)) = getC (b.drop (nK b i k)) := by unfold kN; rw [if_pos (gok_iff.1 hl)]
 rw [hv.2.1] at h0 ⊢
 rw [hkn]
 refine rdOne_yes ?_ ⟨gok_iff.1 hl, h0⟩
 unfold nH nK nG at *
 by_cases hi0 : i = 0
 · subst hi0; rfl
 · rw [if_neg hi0] at hg
   have hg' := gok_iff.1 hg
   rw [hiAt_yes (by omega) hg', if_neg hi0, if_neg hi0, (gok_yes hg').2.1]
   unfold kN; rw [if_pos hg']
theorem step_no {b : List UInt8} {hi : Int} {k0 i k : Nat} {M : List Rng} (h : rdUp b hi k0 i = some (M, k)) (hn : ¬ (nG b i k = true ∧ gok (b.drop (nK b i k)) = true ∧ 0 ≤ nH b hi i M k - getV (b.drop (nK b i k)))) : rdUp b hi k0 (i + 1) = none := by
 rw [rdUp_step h]
 unfold nH nK nG at hn
 by_cases hi0 : i = 0
 · subst hi0
   simp only [if_pos] at hn
   refine rdOne_no (hiAt_zero _ _ _ _) (fun hh => hn ⟨trivial, gok_iff.2 hh.1, ?_⟩)
   rw [(gok_yes hh.1).2.1]; exact hh.2
 · simp only [if_neg hi0] at hn
   by_cases hg : getOk (b.drop k)
   · have hv := gok_yes hg
     have hkn : kN (b.drop k) = getC (b.drop k) := by unfold kN; rw [if_pos hg]
     rw [hv.2.1, hkn] at hn
     refine rdOne_no (hiAt_yes (by omega) hg) (fun hh => hn ⟨hv.1, gok_iff.2 hh.1, ?_⟩)
     rw [(gok_yes hh.1).2.1]; exact hh.2
   · exact rdOne_gap (hiAt_no (by omega) hg)
def hdOk (b : List UInt8) : Bool := gok b && gok (b.drop (kN b))
def hdM (b : List UInt8) : Int := getV (b.drop (kN b))
def hdK (b : List UInt8) : Nat := kN b + kN (b.drop (kN b))
theorem readA_head (b : List UInt8) : readA b = if hdOk b = true ∧ hdM b < 12 then rdUp b (getV b) (hdK b) ((hdM b).toNat + 1) else none := by
 unfold readA hdOk hdM hdK
 by_cases h1 : getOk b
 · have e1 : kN b = getC b := by unfold kN; rw [if_pos h1]
   rw [e1]
   by_cases h2 : getOk (b.drop (getC b))
   · have e2 : kN (b.drop (getC b)) = getC (b.drop (getC b)) := by unfold kN; rw [if_pos h2]
     rw [e2, (gok_yes h1).1, (gok_yes h2).1, (gok_yes h1).2.1, (gok_yes h2).2.1]
     simp [h1, h2]
   · rw [(gok_no h2).1]; simp [h2]
 · rw [(gok_no h1).1]; simp [h1]
theorem readA_bad {b : List UInt8} (h : hdOk b = false) : readA b = none := by rw [readA_head, if_neg (by simp [h])]
theorem readA_many {b : List UInt8} (h : 12 ≤ hdM b) : readA b = none := by rw [readA_head, if_neg (by omega)]
theorem readA_up {b : List UInt8} {i : Nat} (h : rdUp b (getV b) (hdK b) i = none) (hi : (i : Int) ≤ hdM b + 1) : readA b = none := by
 rw [readA_head]
 split
 · exact rdUp_none h _ (by omega)
 · rfl
theorem readA_end {b : List UInt8} {i : Nat} {M : List Rng} {k : Nat} (h : rdUp b (getV b) (hdK b) i = some (M, k)) (h0 : hdOk b = true) (hi : (i : Int) = hdM b + 1) (h12 : i ≤ 12) : readA b = some (M, k) := by
 have hm : 0 ≤ hdM b := (bits_getN _).1
 rw [readA_head, if_pos ⟨h0, by omega⟩, show (hdM b).toNat + 1 = i by omega, h]
theorem Tryz.elRange2 : Elem Tryz.prog 44 101 2 16 := ⟨Tryz.underlying44, ⟨.agg #[.int .i64 0, .int .i64 0], rfl, by kernel_rfl⟩, by decide, by decide⟩
structure RdSt (w wr : World) (b : List UInt8) (g : Nat) (s : ByteArray) (i k : Nat) (bad : Bool) (h : Int) (A : Option Addr) (cap : Nat) (M : List Rng) : Prop where
 bl : BlockIs wr g 246 #[.string s, .int .i64 k, .bool bad]
 ls : Lst wr 101 2 (.slice A i cap) (M.map rngRow)
 new : ∀ q, q ∈ blocks (.slice A 0 0) → w.heap.size ≤ q
 ap : g ∉ blocks (.slice A i cap)
 since : Since w wr
 len : M.length = i
 le : k ≤ b.length
 was : bad = true → readA b = none
 now : bad = false → hdOk b = true ∧ rdUp b (getV b) (hdK b) i = some (M, k) ∧ i ≤ 12
 hi0 : i = 0 → h = getV b
 hib : -1073741826 ≤ h ∧ h ≤ 1073741823
 each : ∀ r ∈ M, 0 ≤ r.lo ∧ r.lo ≤ 1073741823
 up : (i : Int) ≤ hdM b + 1
 few : i ≤ 13
theorem aread (s : ByteArray) (w : World) (hz : s.size ≤ 9223372036854775807) (hK : KTab w) :
  Calls Tryz.prog 152 #[.string s] w fun e w' => ∃ (A : Option Addr) (cap k : Nat) (ok : Bool) (M : List Rng), e = .returned (.tuple #[.slice A M.length cap, .int .i64 k, .bool ok]) ∧ Lst w' 101 2 (.slice A M.length cap) (M.map rngRow) ∧ M.length ≤ 13 ∧ Below w.heap.size w w' ∧ (∀ q, q ∈ blocks (.slice A 0 0) → w.heap.size ≤ q) ∧ (∀ r ∈ M, 0 ≤ r.lo ∧ r.lo ≤ 1073741823) ∧ readA s.data.toList = if ok = true then some (M, k) else none := by
 have HK := Lib.hid hK
 have HZ := Lib.hid hz
 obtain ⟨b, hb⟩ : ∃ b, s.data.toList = b := ⟨_, rfl⟩
 have HBD := Lib.hid hb
 rw [hb]
 have AN : Hid (∀ (g k : Nat) (bad : Bool) (w : World), BlockIs w g 246 #[.string s, .int .i64 k, .bool bad] → k ≤ b.length → KTab w → Calls Tryz.prog 167 #[.pointer (some ⟨g, 0, none⟩)] w fun e w' => e = .returned (.int .i64 (getV (b.drop k))) ∧ BlockIs w' g 246 #[.string s, .int .i64 ((k + kN (b.drop k) : Nat) : Int), .bool (bad || !gok (b.drop k))] ∧ Only w w' g) := Lib.hid (fun g k bad w h1 h2 h3 => by subst hb; exact anextN g s k bad w h1 hz h2 h3)
 clear hK hz hb
 have HV0 := Lib.hid (bits_getN b)
 go_enter Tryz.func152, Tryz.ntmps152
 go_wp2_with fail
 refine (AN.out w.heap.size 0 false _ (BlockIs.fresh w _ _) (Nat.zero_le _) (HK.out.later ((Since.refl w).alloc _))).mono ?_
 rintro e w1 ⟨rfl, hB1, ho1⟩
 rw [List.drop_zero, Nat.zero_add, Bool.false_or] at *
 have hs1 : Since w w1 := ho1.below ((Since.refl w).alloc _) (by simp) (Nat.le_refl _)
 have HB1 := Lib.hid hB1
 clear ho1 hB1
 go_wp2_with fail
 refine (AN.out w.heap.size (kN b) (!gok b) _ HB1.out (by have := kN_le b (Nat.zero_le _); simpa using this) (HK.out.later hs1)).mono ?_
 rintro e w2 ⟨rfl, hB2, ho2⟩
 have hs2 : Since w w2 := ho2.below hs1 hs1.le (Nat.le_refl _)
 have HST : Hid (RdSt w w2 b w.heap.size s 0 (hdK b) (!gok b || !gok (b.drop (kN b))) (getV b) none 0 []) := Lib.hid
  { bl := hB2, ls := Lst.nil _ _ _, new := by simp [Value.ownBlock], ap := by simp [Value.ownBlock], since := hs2, len := rfl,
    le := kN_le b (by have := kN_le b (Nat.zero_le _); simpa using this)
    was := fun h => readA_bad (by unfold hdOk; cases h1 : gok b <;> simp [h1] at h ⊢; exact h)
    now := fun h => ⟨by unfold hdOk; cases h1 : gok b <;> simp [h1] at h ⊢; exact h, rfl, by omega⟩
    hi0 := fun _ => rfl, hib := by have := HV0.out; omega, each := by simp, up := by have := (bits_getN (b.drop (kN b))).1; unfold hdM; omega, few := by omega }
 have HM : Hid (getV (b.drop (kN b)) = hdM b) := Lib.hid rfl
 obtain ⟨m0, m1⟩ : 0 ≤ hdM b ∧ hdM b ≤ 1073741823 := bits_getN (b.drop (kN b))
 clear ho2 hB2 hs1
 rw [HM.out]
 go_wp2_with fail
 go_loopw [6, 8, 9] (fun s6 s8 s9 wr => ∃ (i k : Nat) (bad : Bool) (h : Int) (A : Option Addr) (cap : Nat) (M : List Rng), s6 = .int .i64 h ∧ s8 = .slice A i cap ∧ s9 = .int .i64 i ∧ RdSt w wr b w.heap.size s i k bad h A cap M) (fun _ _ s9 _ => (hdM b + 1).toNat - (intOf s9).toNat)
 case atStart => exact ⟨0, _, _, _, none, 0, [], rfl, rfl, rfl, HST.out⟩
 case round =>
  obtain ⟨i, k, bad, h, A, cap, M, rfl, rfl, rfl, hS⟩ := hrel
  have HS := Lib.hid hS
  have hs := hS.since
  have hup := hS.up
  have hfew := hS.few
  have HBL := Lib.hid hS.bl
  have e2 : wr.cell? ⟨w.heap.size, 2, none⟩ = some (.bool bad) := hS.bl.cell 2
  have lt := hS.bl.lt
  obtain ⟨h1, h2⟩ := hS.hib
  have HLN := Lib.hid hS.len
  clear hS
  have fin : ∀ ok : Bool, (readA b = if ok = true then some (M, k) else none) → ∀ W, Below wr.heap.size wr W → ∃ (A' : Option Addr) (cap' k' : Nat) (ok' : Bool) (M' : List Rng), Ending.returned (.tuple #[.slice A i cap, .int .i64 k, .bool ok]) = .returned (.tuple #[.slice A' M'.length cap', .int .i64 k', .bool ok']) ∧ Lst W 101 2 (.slice A' M'.length cap') (M'.map rngRow) ∧ M'.length ≤ 13 ∧ Below w.heap.size w W ∧ (∀ q, q ∈ blocks (.slice A' 0 0) → w.heap.size ≤ q) ∧ (∀ r ∈ M', 0 ≤ r.lo ∧ r.lo ≤ 1073741823) ∧ readA b = if ok' = true then some (M', k') else none := by
   intro ok hok W hW
   have hl := HS.out.len
   refine ⟨A, cap, k, ok, M, by rw [hl], by rw [hl]; exact HS.out.ls.later hW, by rw [hl]; exact HS.out.few, HS.out.since.later hW, HS.out.new, HS.out.each, hok⟩
  have FIN := Lib.hid fin
  clear fin
  cases bad with
  | true =>
    have HF := Lib.hid (FIN.out false (by rw [HS.out.was rfl]; rfl))
    have d1 : wr.cell? ⟨w.heap.size, 1, none⟩ = some (.int .i64 k) := HBL.out.cell 1
    by_cases hle : (i : Int) ≤ hdM b
    · go_wp2_with fail
      go_quiet (fail)
      go_wp2_with fail
      go_ret3
      exact HF.out _ (by exact Since.drewN (Since.refl _) _)
    · have hle' : decide ((i : Int) ≤ hdM b) = false := by simpa using hle
      clear hle
      go_wp2_with fail
      go_quiet (fail)
      go_wp2_with fail
      go_ret3
      exact HF.out _ (by exact Since.drewN (Since.refl _) _)
  | false =>
    obtain ⟨n1, n2, n3⟩ := HS.out.now rfl
    have HN1 := Lib.hid n1
    have HN2 := Lib.hid n2
    clear n1 n2
    by_cases hle : (i : Int) ≤ hdM b
    case neg =>
     have HF := Lib.hid (FIN.out true (by rw [readA_end HN2.out HN1.out (by omega) n3]; rfl))
     have d1 : wr.cell? ⟨w.heap.size, 1, none⟩ = some (.int .i64 k) := HBL.out.cell 1
     have hle' : decide ((i : Int) ≤ hdM b) = false := by simpa using hle
     clear hle
     go_wp2_with fail
     go_quiet (fail)
     go_wp2_with fail
     go_ret3
     exact HF.out _ (by exact Since.drewN (Since.refl _) _)
    have HNH0 : Hid (i = 0 → h = nH b (getV b) i M k ∧ k = nK b i k ∧ (!nG b i k) = false) := Lib.hid (fun h0 => ⟨by rw [HS.out.hi0 h0]; unfold nH; rw [if_pos h0], by unfold nK; rw [if_pos h0], by unfold nG; rw [if_pos h0]; rfl⟩)
    have HNH1 : Hid (0 < i → (rat M (i - 1)).lo - 2 - getV (b.drop k) = nH b (getV b) i M k ∧ k + kN (b.drop k) = nK b i k ∧ (false || !gok (b.drop k)) = (!nG b i k)) := Lib.hid (fun h0 => ⟨by unfold nH; rw [if_neg (by omega)], by unfold nK; rw [if_neg (by omega)], by unfold nG; rw [if_neg (by omega)]; rfl⟩)
    have HNB : Hid (0 < i → 0 ≤ (rat M (i - 1)).lo ∧ (rat M (i - 1)).lo ≤ 1073741823) := Lib.hid (fun h0 => by rw [rat_get (by rw [HLN.out]; omega)]; exact HS.out.each _ (List.getElem_mem _))
    have HAI : Hid (0 < i → ∃ q, A = some ⟨q, 0, none⟩) := Lib.hid (fun h0 => by
     obtain ⟨A', cap', hv, _, _, hA⟩ := HS.out.ls.shape
     simp only [Value.slice.injEq] at hv
     obtain ⟨rfl, _⟩ := hv
     rcases hA with ⟨_, h1, _⟩ | hq
     · have := congrArg List.length h1; rw [List.length_map, HLN.out] at this; simp at this; omega
     · exact hq)
    repeat ((fail_if_success (with_reducible refine stop_at 7 ?_)); first | fail | go_values | go_skip | go_guarded | go_step | go_upon | go_back | go_simp)
    obtain ⟨wq, rfl⟩ : ∃ wq : World, wq = wr := ⟨_, rfl⟩
    go_cut [6] (fun s6 wx => s6 = .int .i64 (nH b (getV b) i M k) ∧ BlockIs wx w.heap.size 246 #[.string s, .int .i64 (nK b i k : Nat), .bool (!nG b i k)] ∧ Only wq wx w.heap.size)
    case first =>
     by_cases hi0 : i = 0
     · subst hi0
       obtain ⟨q1, q2, q3⟩ := HNH0.out rfl
       have Q1 := Lib.hid q1
       have Q2 := Lib.hid q2
       have Q3 := Lib.hid q3
       clear q1 q2 q3
       go_wp2_with fail
       go_meet
       case rel => exact ⟨by rw [Q1.out], by rw [← Q2.out, Q3.out]; exact HBL.out, Only.refl _ _⟩
     · have hip : 0 < i := by omega
       have hip' : (0 : Int) < (i : Int) := by omega
       obtain ⟨q1, q2, q3⟩ := HNH1.out hip
       obtain ⟨l0, l1⟩ := HNB.out hip
       obtain ⟨q, rfl⟩ := HAI.out hip
       have hcl : ∀ W, Only wq W w.heap.size → W.cell? ⟨q, (i - 1) * 2, none⟩ = some (.int .i64 (rat M (i - 1)).lo) := fun W hW => by
        have hl := HS.out.ls.kept (Out.of_only hW) (fun k hk hk2 => HS.out.ap (by rw [List.mem_singleton.1 hk2] at hk; exact hk))
        have := hl.cell rfl (elem_of_rng (L := M) (i := i - 1) (by rw [HLN.out]; omega)) (j := 0) rfl
        rw [rat_get (by rw [HLN.out]; omega)]
        simpa using this
       have HCL := Lib.hid hcl
       have dq := hcl wq (Only.refl _ _)
       have hi1 : (i : Int) - 1 = ((i - 1 : Nat) : Int) := by omega
       have hi3 : ((i - 1 : Nat) : Int) < (i : Int) := by omega
       have hw0 : IntKind.i64.wrap ((i - 1 : Nat) : Int) = ((i - 1 : Nat) : Int) := by simp [IntKind.wrap, IntKind.bits, IntKind.signed]; omega
       obtain ⟨v0, v1⟩ := bits_getN (b.drop k)
       have Q1 := Lib.hid q1
       have Q2 := Lib.hid q2
       have Q3 := Lib.hid q3
       clear q1 q2 q3 hcl hi0
       generalize (rat M (i - 1)).lo = pl at *
       obtain ⟨V, hV⟩ : ∃ V, getV (b.drop k) = V := ⟨_, rfl⟩
       have HV := Lib.hid hV
       rw [hV] at v0 v1
       clear hV
       have hw1 : IntKind.i64.wrap (pl - 2) = pl - 2 := by simp [IntKind.wrap, IntKind.bits, IntKind.signed]; omega
       have hw2 : IntKind.i64.wrap (pl - 2 - V) = pl - 2 - V := by simp [IntKind.wrap, IntKind.bits, IntKind.signed]; omega
       have lq : q < wq.heap.size := HS.out.ls.lt q (by simp [Value.ownBlock])
       go_wp2_with fail
       go_region_law (go_simp; go_at_call 167; refine (AN.out w.heap.size k false _ ?_ HS.out.le (HK.out.later (by exact Since.drew hs))).mono ?_; (first | exact HBL.out | exact HBL.out.drew); rintro e w3 ⟨rfl, hB3, ho3⟩; rw [HV.out]; have HO3 := Lib.hid (show Only wq w3 w.heap.size from (by first | exact ho3 | exact Only.of_drew ho3)); have HB3 := Lib.hid hB3; have dq3 := HCL.out w3 HO3.out; have lq3 : q < w3.heap.size := Nat.lt_of_lt_of_le lq HO3.out.size_le; clear ho3 hB3)
       all_goals
        go_wp2_with fail
        go_meet
        case rel => exact ⟨by rw [← Q1.out, ← HV.out], by rw [← Q2.out, ← Q3.out]; exact HB3.out, HO3.out⟩
    case rest =>
     obtain ⟨wo, rfl⟩ : ∃ wo : World, wo = wc := ⟨_, rfl⟩
     obtain ⟨rfl, hB, ho⟩ := hcut
     have hbd : -1073741826 ≤ nH b (getV b) i M k ∧ nH b (getV b) i M k ≤ 1073741823 := by
      rcases Nat.eq_zero_or_pos i with h0 | h0
      · rw [← (HNH0.out h0).1]; exact ⟨h1, h2⟩
      · have a1 := HNB.out h0
        have a2 := bits_getN (b.drop k)
        rw [← (HNH1.out h0).1]
        omega
     obtain ⟨b1, b2⟩ := hbd
     have hkl : nK b i k ≤ b.length := by
      rcases Nat.eq_zero_or_pos i with h0 | h0
      · rw [← (HNH0.out h0).2.1]; exact HS.out.le
      · rw [← (HNH1.out h0).2.1]; exact kN_le b HS.out.le
     have HKL := Lib.hid hkl
     have hso : Since w wo := ho.below hs hs.le (Nat.le_refl _)
     have HO := Lib.hid ho
     have HB := Lib.hid hB
     have HSO := Lib.hid (fun (hn : ¬ (nG b i k = true ∧ gok (b.drop (nK b i k)) = true ∧ 0 ≤ nH b (getV b) i M k - getV (b.drop (nK b i k)))) => readA_up (step_no HN2.out hn) (show ((i + 1 : Nat) : Int) ≤ hdM b + 1 by omega))
     have HSY := Lib.hid (fun h1 h2 h3 => step_ok (M := M) HN2.out h1 h2 h3)
     have HMAX := Lib.hid (fun (h : 12 ≤ i) => readA_many (b := b) (by omega))
     clear HNH0 HNH1 HNB HAI HN2 e2 HBL h1 h2 hkl hB ho FIN
     go_wp2_with fail
     refine (AN.out w.heap.size (nK b i k) (!nG b i k) _ HB.out HKL.out (HK.out.later hso)).mono ?_
     rintro e w4 ⟨rfl, hB4, ho4⟩
     have hs4 : Since w w4 := ho4.below hso hso.le (Nat.le_refl _)
     have HO4 := Lib.hid (HO.out.trans ho4)
     have HB4 := Lib.hid hB4
     obtain ⟨v0, v1⟩ := bits_getN (b.drop (nK b i k))
     have hkn := kN_le b HKL.out
     have HKN := Lib.hid hkn
     generalize nH b (getV b) i M k = hh at *
     generalize getV (b.drop (nK b i k)) = V2 at *
     generalize kN (b.drop (nK b i k)) = K2 at *
     generalize gok (b.drop (nK b i k)) = G2 at *
     generalize nK b i k = k1 at *
     generalize nG b i k = G1 at *
     clear hB4 ho4 hkn
     by_cases hlo : hh - V2 < 0
     · have HR := Lib.hid (HSO.out (fun h => by omega))
       go_wp2_with fail
       go_ret3
       exact ⟨none, 0, 0, false, [], rfl, Lst.nil _ _ _, by simp, hs4, by simp [Value.ownBlock], by simp, by rw [HR.out]; rfl⟩
     have hlo' : decide (hh - V2 < 0) = false := by simpa using hlo
     by_cases h12 : 12 ≤ i
     · have HR := Lib.hid (HMAX.out h12)
       have h12' : (12 : Int) ≤ (i : Int) := by omega
       go_wp2_with fail
       go_ret3
       exact ⟨none, 0, 0, false, [], rfl, Lst.nil _ _ _, by simp, hs4, by simp [Value.ownBlock], by simp, by rw [HR.out]; rfl⟩
     have h12' : decide ((12 : Int) ≤ (i : Int)) = false := by simp; omega
     have HML : Hid ((M.map rngRow).length = i) := Lib.hid (by rw [List.length_map, HLN.out])
     have HL4 := Lib.hid (HS.out.ls.kept (Out.of_only HO4.out) (fun k hk hk2 => HS.out.ap (by rw [List.mem_singleton.1 hk2] at hk; exact hk)))
     go_wp2_with (at_builtin; refine wpList_push rfl _ _ 44 rfl 101 2 16 Tryz.elRange2 (.slice A i cap) (M.map rngRow) rfl (HL4.out.alloc _) w4.heap.size 1 [.int .i64 (hh - V2), .int .i64 hh] rfl rfl (rngRow_one ⟨hh - V2, hh⟩).2 (BlockIs.fresh _ _ _) (by rw [HML.out]; omega) ?_; intro q cq w5 hl5 ho5 hq5 hlt5)
     rw [HML.out] at hl5
     have hB5 := ho5.block' (HB4.out.alloc _) HS.out.ap
     have hs5 : Since w w5 := (hs4.alloc _).out' ho5 (fun k hk => HS.out.new k (by rw [blocks_any A 0 0 i cap]; exact hk))
     have hqn : w.heap.size ≤ q ∧ w.heap.size ≠ q := by
      rcases hq5 with h | h
      · exact ⟨HS.out.new q (by rw [blocks_any A 0 0 i cap]; exact h), fun he => HS.out.ap (by rw [he]; exact h)⟩
      · have := HB4.out.lt
        rw [h]
        simp
        omega
     have HST2 : Hid (RdSt w w5 b w.heap.size s (i + 1) (k1 + K2) (!G1 || !G2) hh (some ⟨q, 0, none⟩) cq (M ++ [⟨hh - V2, hh⟩])) := Lib.hid
      { bl := hB5, ls := by rw [List.map_append]; exact hl5
        new := fun k hk => by have : q = k := by simpa [Value.ownBlock] using hk
                              omega
        ap := fun hk => by have : q = w.heap.size := by simpa [Value.ownBlock] using hk
                           omega
        since := hs5, len := by rw [List.length_append, HLN.out]; rfl
        le := HKN.out
        was := fun h => HSO.out (fun hh => by rw [hh.1, hh.2.1] at h; cases h)
        now := fun h => ⟨HN1.out, HSY.out (by cases G1 <;> simp at h ⊢) (by cases G1 <;> cases G2 <;> simp at h ⊢) (by omega), by omega⟩
        hi0 := fun h => by omega
        hib := ⟨b1, b2⟩
        each := fun r hr => by
         rcases List.mem_append.1 hr with hr | hr
         · exact HS.out.each r hr
         · rw [List.mem_singleton.1 hr]; exact ⟨by show 0 ≤ hh - V2; omega, by show hh - V2 ≤ 1073741823; omega⟩
        up := by omega, few := by omega }
     clear hl5 ho5 hq5 hlt5 hB5 hqn
     go_wp2_with fail
     go_roundw
     case rel => exact ⟨i + 1, _, _, _, some ⟨q, 0, none⟩, cq, _, rfl, by first | rfl | rw [HLN.out], by go_num, HST2.out⟩
     case measure => simp [intOf]; omega
def intRow (n : Int) : List Value := [.int .i64 n]
theorem intRow_one (n : Int) : (intRow n).length = 1 ∧ ∀ u ∈ intRow n, u.oneCell' = true := ⟨rfl, by intro u hu; simp [intRow] at hu; rw [hu]; rfl⟩
theorem Tryz.elInt : Elem Tryz.prog 22 3 1 8 := ⟨Tryz.underlying22, ⟨.int .i64 0, rfl, by kernel_rfl⟩, by decide, by decide⟩
theorem ints_of_lst {w : World} {A : Option Addr} {n cap : Nat} {zs : List Int} (h : Lst w 3 1 (.slice A n cap) (zs.map intRow)) (hb : ∀ z ∈ zs, -9223372036854775808 ≤ z ∧ z ≤ 9223372036854775807) : IntsIn w (.slice A zs.length cap) zs := by
 obtain ⟨A', cap', hv, hc, hm, hA⟩ := h.shape
 rw [List.length_map] at hv hc
 simp only [Value.slice.injEq] at hv
 obtain ⟨rfl, rfl, rfl⟩ := hv
 refine ⟨hb, A, cap, rfl, hc, hm, fun hne => ?_⟩
 rcases hA with ⟨_, h0, _⟩ | ⟨g, rfl⟩
 · simp at h0; exact absurd h0 hne
 · refine ⟨g, 0, rfl, h.lt g (by simp [Value.ownBlock]), fun i hi => ?_⟩
   have := h.cell rfl (i := i) (j := 0) (e := intRow (ith zs i)) (u := .int .i64 (ith zs i)) (by unfold ith; simp [hi, List.getD]) rfl
   simpa using this
theorem take_unpairs {L : List Rng} {i : Nat} (h : i < L.length) : unpairs (L.take (i + 1)) = unpairs (L.take i) ++ [(rat L i).hi, (rat L i).lo] := by
 rw [take_rat h, unpairs_snoc]
structure AkSt (w wr : World) (L : List Rng) (i : Nat) (A : Option Addr) (c : Nat) : Prop where
 bl : BlockIs wr (w.heap.size + 1) 93 #[.int .i64 2, .slice A (2 * i) c, .string ⟨#[]⟩]
 br : BlockIs wr w.heap.size 93 #[.int .i64 0, .slice none 0 0, .string ⟨#[]⟩]
 ls : Lst wr 3 1 (.slice A (2 * i) c) ((unpairs (L.take i)).map intRow)
 new : ∀ q, q ∈ blocks (.slice A 0 0) → w.heap.size ≤ q
 since : Since w wr
theorem AkSt.after {w wr w9 : World} {L : List Rng} {i : Nat} {A : Option Addr} {c : Nat} (h : AkSt w wr L i A c) {o1 o2 : Obj} (ho : Out ((wr.alloc o1).alloc o2) w9 (blocks (.slice A (2 * i) c))) :
  Since w w9 ∧ BlockIs w9 (w.heap.size + 1) 93 #[.int .i64 2, .slice A (2 * i) c, .string ⟨#[]⟩] ∧ BlockIs w9 w.heap.size 93 #[.int .i64 0, .slice none 0 0, .string ⟨#[]⟩] := by
 have hl := (h.ls.alloc o1).alloc o2
 have h1 := (h.bl.alloc o1).alloc o2
 have h2 := (h.br.alloc o1).alloc o2
 refine ⟨((h.since.alloc o1).alloc o2).out' ho (fun k hk => h.new k (by rw [blocks_any A 0 0 (2 * i) c]; exact hk)), ho.block' h1 (hl.apart h1 (by decide)), ho.block' h2 (hl.apart h2 (by decide))⟩
theorem facked (A : Option Addr) (n cap : Nat) (L : List Rng) (w : World) (hn : L.length = n) (hm : n ≤ 100) (h : Rd w 2 (.slice A n cap) (L.map rngRow)) :
  Calls Tryz.prog 48 #[.slice A n cap] w fun e w' => ∃ A' c', e = .returned (.agg #[.int .i64 2, .slice A' (2 * n) c', .string ⟨#[]⟩]) ∧ Lst w' 3 1 (.slice A' (2 * n) c') ((unpairs L).map intRow) ∧ Below w.heap.size w w' ∧ (∀ q, q ∈ blocks (.slice A' 0 0) → w.heap.size ≤ q) := by
 have H := Lib.hid h
 have HN := Lib.hid hn
 have hst : AkSt w ((w.alloc (.cells #[.int .i64 0, .slice none 0 0, .string ⟨#[]⟩] 93)).alloc (.cells #[.int .i64 2, .slice none 0 0, .string ⟨#[]⟩] 93)) L 0 none 0 :=
  ⟨BlockIs.fresh_at (by simp), (BlockIs.fresh _ _ _).alloc _, Lst.nil _ _ _, by simp [Value.ownBlock], (by exact Since.alloc (Since.alloc (Since.refl _) _) _)⟩
 have HST := Lib.hid hst
 clear h hn hst
 go_enter Tryz.func48, Tryz.ntmps48
 go_wp2_with fail
 go_loopw [9] (fun s9 wr => ∃ (i : Nat) (A' : Option Addr) (c' : Nat), s9 = .int .i64 i ∧ i ≤ n ∧ Hid (AkSt w wr L i A' c')) (fun s9 _ => n - (intOf s9).toNat)
 case atStart => exact ⟨0, none, 0, rfl, Nat.zero_le _, HST⟩
 case round =>
  obtain ⟨i, A', c', rfl, hi, HS⟩ := hrel
  have hs := HS.out.since
  have b0 : wr.cell? ⟨w.heap.size + 1, 0, none⟩ = some (.int .i64 2) := HS.out.bl.cell 0
  have b1 : wr.cell? ⟨w.heap.size + 1, 1, none⟩ = some (.slice A' (2 * i) c') := HS.out.bl.cell 1
  have b2 : wr.cell? ⟨w.heap.size + 1, 2, none⟩ = some (.string ⟨#[]⟩) := HS.out.bl.cell 2
  have lb := HS.out.bl.lt
  have fb := HS.out.bl.free
  by_cases hlt : i < n
  case neg =>
   obtain rfl : i = n := by omega
   have hf : decide ((i : Int) < (i : Int)) = false := by simp
   have r0 : wr.cell? ⟨w.heap.size, 0, none⟩ = some (.int .i64 0) := HS.out.br.cell 0
   have r1 : wr.cell? ⟨w.heap.size, 1, none⟩ = some (.slice none 0 0) := HS.out.br.cell 1
   have r2 : wr.cell? ⟨w.heap.size, 2, none⟩ = some (.string ⟨#[]⟩) := HS.out.br.cell 2
   have lr := HS.out.br.lt
   have fr := HS.out.br.free
   have hz : Hid (L.take i = L) := Lib.hid (by rw [List.take_of_length_le (by rw [HN.out]; exact Nat.le_refl _)])
   go_wp2_with fail
   have HB3 := Lib.hid (((HS.out.br.put 0 (.int .i64 2)).put 1 (.slice A' (2 * i) c')).put 2 (.string ⟨#[]⟩))
   have hs3 : Since w (((wr.setCell ⟨w.heap.size, 0, none⟩ (.int .i64 2)).setCell ⟨w.heap.size, 1, none⟩ (.slice A' (2 * i) c')).setCell ⟨w.heap.size, 2, none⟩ (.string ⟨#[]⟩)) := (by exact Since.set (Since.set (Since.set hs (by first | omega | (simp; done) | (simp; omega)) _) (by first | omega | (simp; done) | (simp; omega)) _) (by first | omega | (simp; done) | (simp; omega)) _)
   have ho3 : Out wr (((wr.setCell ⟨w.heap.size, 0, none⟩ (.int .i64 2)).setCell ⟨w.heap.size, 1, none⟩ (.slice A' (2 * i) c')).setCell ⟨w.heap.size, 2, none⟩ (.string ⟨#[]⟩)) [w.heap.size] := (((Out.refl _ _).put (p := ⟨w.heap.size, 0, none⟩) (Or.inl (by simp)) _).put (p := ⟨w.heap.size, 1, none⟩) (Or.inl (by simp)) _).put (p := ⟨w.heap.size, 2, none⟩) (Or.inl (by simp)) _
   generalize (((wr.setCell ⟨w.heap.size, 0, none⟩ (.int .i64 2)).setCell ⟨w.heap.size, 1, none⟩ (.slice A' (2 * i) c')).setCell ⟨w.heap.size, 2, none⟩ (.string ⟨#[]⟩)) = w3 at *
   have k0 : w3.cell? ⟨w.heap.size, 0, none⟩ = some (.int .i64 2) := HB3.out.cell 0
   have k1 : w3.cell? ⟨w.heap.size, 1, none⟩ = some (.slice A' (2 * i) c') := HB3.out.cell 1
   have k2 : w3.cell? ⟨w.heap.size, 2, none⟩ = some (.string ⟨#[]⟩) := HB3.out.cell 2
   refine bodyPost_ret (v := .agg #[.int .i64 2, .slice A' (2 * i) c', .string ⟨#[]⟩]) (by simp [results, Tryz.results48, go_sem, k0, k1, k2]) rfl ⟨A', c', rfl, ?_, hs3, HS.out.new⟩
   · have hl := HS.out.ls
     rw [hz.out] at hl
     exact hl.kept ho3 (fun k hk hk2 => HS.out.ls.apart HS.out.br (by decide) (by rw [List.mem_singleton.1 hk2] at hk; exact hk))
  have hlt' : (i : Int) < (n : Int) := by omega
  have hil : i < L.length := by rw [HN.out]; exact hlt
  obtain ⟨b, off, rfl, hbl, hc⟩ := H.out.rng (i := i) hil
  obtain ⟨c0, c1⟩ := hc wr hs i hil
  have lbb : b < wr.heap.size := Nat.lt_of_lt_of_le hbl hs.le
  have HT := Lib.hid (take_unpairs hil)
  have HUL : Hid (((unpairs (L.take i)).map intRow).length = 2 * i) := Lib.hid (by rw [List.length_map, unpairs_len, List.length_take]; omega)
  clear hc hil
  generalize (rat L i).lo = lo at *
  generalize (rat L i).hi = hi2 at *
  have HNEW : Hid (∀ j u, (flat [intRow hi2, intRow lo])[j]? = some u → ((wr.alloc (.cells #[.int .i64 lo, .int .i64 hi2] 101)).alloc (.cells #[.int .i64 hi2, .int .i64 lo] 3)).cell? ((⟨wr.heap.size + 1, 0, none⟩ : Addr).add j) = some u) := Lib.hid (fun j u hj => by
   rw [addr_at, (BlockIs.fresh_at (w := wr.alloc (.cells #[.int .i64 lo, .int .i64 hi2] 101)) (t := 3) (cs := #[.int .i64 hi2, .int .i64 lo]) (by simp)).cell]
   match j, hj with
   | 0, hj => exact hj
   | 1, hj => exact hj
   | _ + 2, hj => simp [intRow] at hj)
  go_wp2_with (at_builtin; (refine wpList_cat rfl _ _ 22 rfl 3 1 8 Tryz.elInt (.slice A' (2 * i) c') ((unpairs (L.take i)).map intRow) rfl ((HS.out.ls.alloc _).alloc _) ⟨wr.heap.size + 1, 0, none⟩ 2 2 [intRow hi2, intRow lo] rfl rfl (by intro e he; simp at he; rcases he with rfl | rfl <;> exact intRow_one _) HNEW.out (by rw [HUL.out]; simp; omega) ?_); intro A9 c9 w9 hl9 ho9 hb9; rw [HUL.out] at hl9 hb9; (try rw [HUL.out]); have HL9 := Lib.hid hl9; have HO9 := Lib.hid ho9; have HBB9 := Lib.hid hb9; obtain ⟨hs9, hB9, hR9⟩ := HS.out.after ho9; have f9 := hB9.free; have l9 := hB9.lt; have e91 : w9.cell? ⟨w.heap.size + 1, 1, none⟩ = some (.slice A' (2 * i) c') := hB9.cell 1; have HB9 := Lib.hid hB9; have HR9 := Lib.hid hR9; clear hl9 ho9 hb9 hB9 hR9)
  go_roundw
  case rel =>
   refine ⟨i + 1, A9, c9, by go_num, by omega, Lib.hid ⟨HB9.out.put 1 _, HR9.out.far (by simp) _, ?_, ?_, (by exact Since.set hs9 (by first | omega | (simp; done) | (simp; omega)) _)⟩⟩
   · rw [HT.out, List.map_append]
     exact HL9.out.kept ((Out.refl w9 [w.heap.size + 1]).put (p := ⟨w.heap.size + 1, 1, none⟩) (Or.inl (by simp)) _) (fun k hk hk2 => HL9.out.apart HB9.out (by decide) (by rw [List.mem_singleton.1 hk2] at hk; exact hk))
   · intro k hk
     rcases HBB9.out k (by rw [blocks_any A9 0 0 (2 * i + 2) c9] at hk; exact hk) with h | h
     · exact HS.out.new k (by rw [blocks_any A' 0 0 (2 * i) c']; exact h)
     · rw [h]; have := hs.le; simp; omega
  case measure => simp [intOf]; omega
theorem fnumbers (s : ByteArray) (m : Nat) (w : World) (hm : m ≤ 100) (hz : s.size ≤ 9223372036854775807) (hK : KTab w) :
  Calls Tryz.prog 153 #[.string s, .int .i64 m] w fun e w' => ∃ (A : Option Addr) (cap k : Nat) (ok : Bool) (L : List Int), e = .returned (.tuple #[.slice A L.length cap, .int .i64 k, .bool ok]) ∧ Lst w' 3 1 (.slice A L.length cap) (L.map intRow) ∧ Below w.heap.size w w' ∧ (∀ q, q ∈ blocks (.slice A 0 0) → w.heap.size ≤ q) ∧ numUp s.data.toList 0 m = (if ok = true then some (L, k) else none) ∧ (ok = false → L = []) := by
 have HK := Lib.hid hK
 have HZ := Lib.hid hz
 have VG := Lib.hid (fun (k : Nat) (W : World) hW => vget_any (s.extract k s.size) (Nat.le_trans (str_drop_size s k) hz) W hW)
 have GD := Lib.hid (fun k => getR_drop s k)
 have hsz : s.data.toList.length = s.size := rfl
 obtain ⟨b, hb⟩ : ∃ b, s.data.toList = b := ⟨_, rfl⟩
 rw [hb] at hsz ⊢
 have GD2 : Hid (∀ k, getR (s.extract k s.size) = .tuple #[.int .i64 (getV (b.drop k)), .int .i64 (kN (b.drop k) : Nat), errV (getE (b.drop k))]) := Lib.hid (fun k => by rw [GD.out, hb, kN_eq])
 have HBL := Lib.hid hsz
 clear hK hb hsz GD
 go_enter Tryz.func153, Tryz.ntmps153
 go_wp2_with fail
 go_loopw [7, 8, 13] (fun s7 s8 s13 wr => ∃ (i k : Nat) (A : Option Addr) (c : Nat) (L : List Int), s7 = .slice A i c ∧ s8 = .int .i64 k ∧ s13 = .int .i64 i ∧ i ≤ m ∧ Hid (numUp b 0 i = some (L, k)) ∧ Hid (Lst wr 3 1 (.slice A i c) (L.map intRow)) ∧ Hid (∀ q, q ∈ blocks (.slice A 0 0) → w.heap.size ≤ q) ∧ Since w wr) (fun _ _ s13 _ => m - (intOf s13).toNat)
 case atStart => exact ⟨0, 0, none, 0, [], rfl, rfl, rfl, Nat.zero_le _, Lib.hid rfl, Lib.hid (Lst.nil _ _ _), Lib.hid (by simp [Value.ownBlock]), Since.refl _⟩
 case round =>
  obtain ⟨i, k, A, c, L, rfl, rfl, rfl, hi, HU, HL, HN, hs⟩ := hrel
  obtain ⟨u1, u2, u3, u4⟩ := numUp_inv (Nat.zero_le _) i L k HU.out
  have HLEN := Lib.hid u1
  rw [HBL.out] at u2
  have hku : (k : Int) ≤ (s.size : Int) := by omega
  clear u1 u3 u4
  by_cases hlt : i < m
  case neg =>
   obtain rfl : i = m := by omega
   have hf : decide ((i : Int) < (i : Int)) = false := by simp
   go_wp2_with fail
   go_ret3
   exact ⟨A, c, k, true, L, by rw [HLEN.out]; rfl, by rw [HLEN.out]; exact HL.out, hs, HN.out, by rw [HU.out]; rfl, fun h => by cases h⟩
  have hlt' : (i : Int) < (m : Int) := by omega
  have VG2 := Lib.hid (VG.out k _ (HK.out.later hs))
  rw [GD2.out] at VG2
  by_cases hg : getOk (b.drop k)
  · obtain ⟨g1, g2, g3, g4⟩ := gok_yes hg
    rw [g4, errV_zero] at VG2
    have HNX := Lib.hid (numUp_yes HU.out hg)
    have hkn : Hid (kN (b.drop k) = getC (b.drop k)) := Lib.hid (by unfold kN; rw [if_pos hg])
    rw [← g2, ← hkn.out] at HNX
    have hb4 := kN_le b (k := k) (by rw [HBL.out]; exact u2)
    rw [HBL.out] at hb4
    obtain ⟨v0, v1⟩ := bits_getN (b.drop k)
    have hk2 : (k : Int) + (kN (b.drop k) : Int) = ((k + kN (b.drop k) : Nat) : Int) := by omega
    have hk3 : k + kN (b.drop k) ≤ 9223372036854775807 := by omega
    have HML : Hid ((L.map intRow).length = i) := Lib.hid (by rw [List.length_map, HLEN.out])
    clear g1 g2 g3 g4 hg hkn
    generalize getV (b.drop k) = V at *
    generalize kN (b.drop k) = kk at *
    obtain ⟨k4, hk4⟩ : ∃ k4, k + kk = k4 := ⟨_, rfl⟩
    rw [hk4] at hk2 hk3 HNX hb4
    clear hk4
    go_wp2_with fail
    refine VG2.out.mono ?_
    rintro e w1 ⟨rfl, hb1⟩
    have hs1 := hs.later hb1
    have HL1 := Lib.hid (HL.out.later hb1)
    clear hb1
    go_wp2_with (at_builtin; refine wpList_push rfl _ _ 22 rfl 3 1 8 Tryz.elInt (.slice A i c) (L.map intRow) rfl (HL1.out.alloc _) w1.heap.size 1 [.int .i64 V] rfl rfl (intRow_one V).2 (BlockIs.fresh _ _ _) (by rw [HML.out]; omega) ?_; intro q cq w5 hl5 ho5 hq5 hlt5)
    rw [HML.out] at hl5
    have hs5 : Since w w5 := (hs1.alloc _).out' ho5 (fun k hk => HN.out k (by rw [blocks_any A 0 0 i c]; exact hk))
    have HN5 : Hid (∀ j, j ∈ blocks (.slice (some ⟨q, 0, none⟩) 0 0) → w.heap.size ≤ j) := Lib.hid (fun j hj => by
     have hj' : q = j := by simpa [Value.ownBlock] using hj
     rcases hq5 with h | h
     · rw [← hj']; exact HN.out q (by rw [blocks_any A 0 0 i c]; exact h)
     · rw [← hj', h]; have := hs1.le; simp; omega)
    have HL5 : Hid (Lst w5 3 1 (.slice (some ⟨q, 0, none⟩) (i + 1) cq) ((L ++ [V]).map intRow)) := Lib.hid (by rw [List.map_append]; exact hl5)
    clear hl5 ho5 hq5 hlt5
    go_wp2_with fail
    go_roundw
    case rel => exact ⟨i + 1, k4, some ⟨q, 0, none⟩, cq, L ++ [V], by first | rfl | rw [HML.out] | rw [HLEN.out], rfl, by go_num, by omega, HNX, HL5, HN5, hs5⟩
    case measure => simp [intOf]; omega
  · obtain ⟨g1, g2, g3, g4⟩ := gok_no hg
    rw [g4, errV_pos (by decide)] at VG2
    have HR := Lib.hid (numUp_none (numUp_no HU.out hg) m (by omega))
    clear g1 g2 g3 g4 hg
    go_wp2_with fail
    refine VG2.out.mono ?_
    rintro e w1 ⟨rfl, hb1⟩
    have hs1 := hs.later hb1
    go_wp2_with fail
    go_ret3
    exact ⟨none, 0, 0, false, [], rfl, Lst.nil _ _ _, hs1, by simp [Value.ownBlock], by rw [HR.out]; rfl, fun _ => rfl⟩
theorem st3 {W : World} {g : Nat} {t : TypeId} {x y z : Value} (h : BlockIs W g t #[x, y, z]) (a b c : Value) : BlockIs (((W.setCell ⟨g, 0, none⟩ a).setCell ⟨g, 1, none⟩ b).setCell ⟨g, 2, none⟩ c) g t #[a, b, c] := ((h.put 0 a).put 1 b).put 2 c
theorem out3 (W : World) (g : Nat) (a b c : Value) : Out W (((W.setCell ⟨g, 0, none⟩ a).setCell ⟨g, 1, none⟩ b).setCell ⟨g, 2, none⟩ c) [g] := (((Out.refl _ _).put (p := ⟨g, 0, none⟩) (Or.inl (by simp)) _).put (p := ⟨g, 1, none⟩) (Or.inl (by simp)) _).put (p := ⟨g, 2, none⟩) (Or.inl (by simp)) _
theorem Lst.far {w w' : World} {E size g : Nat} {v : Value} {es : List (List Value)} {t : TypeId} {cs : Array Value} (h : Lst w E size v es) (hb : BlockIs w g t cs) (ht : t ≠ E) (ho : Out w w' [g]) : Lst w' E size v es :=
 h.kept ho (fun k hk hk2 => h.apart hb ht (by rw [List.mem_singleton.1 hk2] at hk; exact hk))
def newA (A : Option Addr) (g : Nat) : Prop := ∀ b off, A = some ⟨b, off, none⟩ → g ≤ b
theorem newA_of {w : World} {E k g n c : Nat} {A : Option Addr} {es : List (List Value)} (h : Lst w E k (.slice A n c) es) (hn : ∀ q, q ∈ blocks (.slice A 0 0) → g ≤ q) : newA A g := by
 intro b off hA
 obtain ⟨A', cap', hv, _, _, hs⟩ := h.shape
 simp only [Value.slice.injEq] at hv
 obtain ⟨rfl, _⟩ := hv
 rcases hs with ⟨h0, _⟩ | ⟨q, rfl⟩
 · rw [h0] at hA; cases hA
 · have hq : q = b := by injection hA with h1; injection h1
   exact hq ▸ hn q (by simp [Value.ownBlock])
theorem newA_le {A : Option Addr} {g g' : Nat} (h : newA A g) (hl : g' ≤ g) : newA A g' := fun b off hA => Nat.le_trans hl (h b off hA)
theorem empty_str : (⟨#[]⟩ : ByteArray) = ByteArray.empty := ba_ext rfl
theorem cnt_read {k : Nat} (h1 : 1 ≤ k) (h8 : k ≤ 8) (h2 : k ≠ 2) : cntK k + (if k = 3 then 1 else 0) = (readK k : Nat) := by
 match k, h1, h8, h2 with
 | 1, _, _, _ => rfl
 | 3, _, _, _ => rfl
 | 4, _, _, _ => rfl
 | 5, _, _, _ => rfl
 | 6, _, _, _ => rfl
 | 7, _, _, _ => rfl
 | 8, _, _, _ => rfl
theorem frmIn_of {w : World} {f : Frm} {A : Option Addr} {c n : Nat} (hE : frmE f = 0) (h : Lst w 3 1 (.slice A n c) (f.nums.map intRow)) (hd : f.data.size ≤ 20) : FrmIn w ⟨f, A, c⟩ := by
 obtain ⟨⟨k1, k8⟩, _, hm, _, _⟩ := frmE_out hE
 refine ⟨by unfold okI; simp only; omega, by unfold maxLen; simp only; omega, ints_of_lst h (fun z hz => by have := hm z hz; unfold MayBe at this; omega)⟩
theorem restF_ack (b : List UInt8) : restF 2 b = match readA b with | none => none | some (L, n) => some (⟨2, unpairs L, ByteArray.empty⟩, n) := by unfold restF; rw [if_pos rfl]; cases readA b <;> rfl
theorem restF_num {k : Int} (h : k ≠ 2) {b : List UInt8} (hn : numUp b 0 (readK k) = none) : restF k b = none := by unfold restF; rw [if_neg h, hn]
theorem restF_plain {k : Int} (h : k ≠ 2) (h3 : k ≠ 3) {b : List UInt8} {L : List Int} {n : Nat} (hn : numUp b 0 (readK k) = some (L, n)) : restF k b = some (⟨k, L, ByteArray.empty⟩, n) := by unfold restF; rw [if_neg h, hn]; simp only; rw [if_neg h3]
theorem restF_no {b : List UInt8} {L : List Int} {n : Nat} (hn : numUp b 0 (readK 3) = some (L, n)) (hx : ¬ (ith L 1 ≤ 20 ∧ (n : Int) + ith L 1 ≤ b.length)) : restF 3 b = none := by unfold restF; rw [if_neg (by decide), hn]; simp only; rw [if_pos trivial, if_neg hx]
theorem restF_yes {b : List UInt8} {L : List Int} {n : Nat} (hn : numUp b 0 (readK 3) = some (L, n)) (hx : ith L 1 ≤ 20 ∧ (n : Int) + ith L 1 ≤ b.length) : restF 3 b = some (⟨3, [ith L 0], ⟨((b.drop n).take (ith L 1).toNat).toArray⟩⟩, n + (ith L 1).toNat) := by unfold restF; rw [if_neg (by decide), hn]; simp only; rw [if_pos trivial, if_pos hx]
theorem frest_ack (s : ByteArray) (w : World) (hz : s.size ≤ 9223372036854775807) (hK : KTab w) :
  Calls Tryz.prog 131 #[.int .i64 2, .string s] w fun e w' => ∃ (p : FrmV) (n : Nat) (ok : Bool), e = .returned (.tuple #[p.agg, .int .i64 n, .bool ok]) ∧ Below w.heap.size w w' ∧ (ok = true → FrmIn w' p) ∧ newA p.A w.heap.size ∧ restF 2 s.data.toList = if ok = true then some (p.f, n) else none := by
 have HK := Lib.hid hK
 have HZ := Lib.hid hz
 have HB0 := Lib.hid (BlockIs.fresh w 93 #[.int .i64 0, .slice none 0 0, .string ⟨#[]⟩])
 have HS0 := Lib.hid (show Since w (w.alloc (.cells #[.int .i64 0, .slice none 0 0, .string ⟨#[]⟩] 93)) from (Since.refl w).alloc _)
 have HRA := Lib.hid (restF_ack s.data.toList)
 clear hK
 go_enter Tryz.func131, Tryz.ntmps131
 go_wp2_with fail
 refine (aread s _ HZ.out (HK.out.later HS0.out)).mono ?_
 rintro e w1 ⟨A, cap, k, ok, M, rfl, hl, hM, hb1, hn1, he1, hr1⟩
 have HL1 := Lib.hid hl
 have HR1 := Lib.hid hr1
 have hs1 := HS0.out.later hb1
 have HB1 := Lib.hid (HB0.out.later hb1)
 clear hl hb1 hn1 he1 hr1
 go_wp2_with fail
 refine (facked A M.length cap M _ rfl (by omega) (Rd.of_lst HL1.out)).mono ?_
 rintro e w2 ⟨A2, c2, rfl, hl2, hb2, hn2⟩
 have HL2 := Lib.hid hl2
 have HNW := Lib.hid (newA_le (newA_of hl2 hn2) hs1.le)
 have hs2 := hs1.later hb2
 have HB2 := Lib.hid (HB1.out.later hb2)
 have r0 : w2.cell? ⟨w.heap.size, 0, none⟩ = some (.int .i64 0) := HB2.out.cell 0
 have r1 : w2.cell? ⟨w.heap.size, 1, none⟩ = some (.slice none 0 0) := HB2.out.cell 1
 have r2 : w2.cell? ⟨w.heap.size, 2, none⟩ = some (.string ⟨#[]⟩) := HB2.out.cell 2
 have l2 := HB2.out.lt
 have f2 := HB2.out.free
 clear hl2 hb2 hn2 hs1
 go_wp2_with fail
 have HB3 := Lib.hid (st3 HB2.out (.int .i64 2) (.slice A2 (2 * M.length) c2) (.string ⟨#[]⟩))
 have HO3 := Lib.hid (out3 w2 w.heap.size (.int .i64 2) (.slice A2 (2 * M.length) c2) (.string ⟨#[]⟩))
 have hs3 := hs2.out' HO3.out (fun k hk => by have : k = w.heap.size := by simpa using hk
                                              omega)
 generalize (((w2.setCell ⟨w.heap.size, 0, none⟩ (.int .i64 2)).setCell ⟨w.heap.size, 1, none⟩ (.slice A2 (2 * M.length) c2)).setCell ⟨w.heap.size, 2, none⟩ (.string ⟨#[]⟩)) = w3 at *
 have k0 : w3.cell? ⟨w.heap.size, 0, none⟩ = some (.int .i64 2) := HB3.out.cell 0
 have k1 : w3.cell? ⟨w.heap.size, 1, none⟩ = some (.slice A2 (2 * M.length) c2) := HB3.out.cell 1
 have k2 : w3.cell? ⟨w.heap.size, 2, none⟩ = some (.string ⟨#[]⟩) := HB3.out.cell 2
 refine bodyPost_ret (v := .tuple #[.agg #[.int .i64 2, .slice A2 (2 * M.length) c2, .string ⟨#[]⟩], .int .i64 k, .bool ok]) (by simp [results, Tryz.results131, go_sem, k0, k1, k2]) rfl ⟨⟨⟨2, unpairs M, ByteArray.empty⟩, A2, c2⟩, k, ok, ?_, hs3, ?_, HNW.out, ?_⟩
 · unfold FrmV.agg
   simp only [unpairs_len, empty_str]
 · intro hok
   have hrd : restF 2 s.data.toList = some (⟨2, unpairs M, ByteArray.empty⟩, k) := by rw [HRA.out, HR1.out, if_pos hok]
   exact frmIn_of (restF_inv (by decide) (by decide) hrd).1 (HL2.out.far HB2.out (by decide) HO3.out) (by simp)
 · rw [HRA.out, HR1.out]
   cases ok <;> rfl
theorem frest_num (kk : Nat) (s : ByteArray) (w : World) (g1 : 1 ≤ kk) (g8 : kk ≤ 8) (g2 : kk ≠ 2) (g3 : kk ≠ 3) (hz : s.size ≤ 9223372036854775807) (hK : KTab w) (hC : CTab w) :
  Calls Tryz.prog 131 #[.int .i64 kk, .string s] w fun e w' => ∃ (p : FrmV) (n : Nat) (ok : Bool), e = .returned (.tuple #[p.agg, .int .i64 n, .bool ok]) ∧ Below w.heap.size w w' ∧ (ok = true → FrmIn w' p) ∧ newA p.A w.heap.size ∧ restF kk s.data.toList = if ok = true then some (p.f, n) else none := by
 have HK := Lib.hid hK
 have HB0 := Lib.hid (BlockIs.fresh w 93 #[.int .i64 0, .slice none 0 0, .string ⟨#[]⟩])
 have HS0 := Lib.hid (show Since w (w.alloc (.cells #[.int .i64 0, .slice none 0 0, .string ⟨#[]⟩] 93)) from (Since.refl w).alloc _)
 have hcc := hC kk (by omega)
 have hgl := hC.lt
 have hcr := cnt_read g1 g8 g2
 rw [if_neg g3, Int.add_zero] at hcr
 rw [hcr] at hcc
 have hr2 : readK kk ≤ 2 := by unfold readK; split <;> (try split) <;> (try split) <;> omega
 have FN := Lib.hid (fun W hW => fnumbers s (readK kk) W (by omega) hz hW)
 have HQ2 : Hid ((kk : Int) ≠ 2) := Lib.hid (by omega)
 have HQ3 : Hid ((kk : Int) ≠ 3) := Lib.hid (by omega)
 have q2 : ((kk : Int) == 2) = false := by simp; omega
 have q3 : ((kk : Int) == 3) = false := by simp; omega
 have q3' : ((kk : Int) != 3) = true := by simp; omega
 obtain ⟨m, hm⟩ : ∃ m, readK kk = m := ⟨_, rfl⟩
 have HRM := Lib.hid hm
 rw [hm] at FN hr2 hcc
 clear hK hC hcr g2 g3 hm
 go_enter Tryz.func131, Tryz.ntmps131
 go_wp2_with fail
 refine (FN.out _ (HK.out.later HS0.out)).mono ?_
 rintro e w1 ⟨A, c, k, ok, L, rfl, hl, hb1, hn1, hr1, hbad⟩
 have HL1 := Lib.hid hl
 have HNW := Lib.hid (newA_le (newA_of hl hn1) HS0.out.le)
 have HR1 := Lib.hid hr1
 have HB := Lib.hid hbad
 have hs1 := HS0.out.later hb1
 have HBR1 := Lib.hid (HB0.out.later hb1)
 clear hl hb1 hn1 hr1 hbad
 have r0 : w1.cell? ⟨w.heap.size, 0, none⟩ = some (.int .i64 0) := HBR1.out.cell 0
 have r1 : w1.cell? ⟨w.heap.size, 1, none⟩ = some (.slice none 0 0) := HBR1.out.cell 1
 have r2 : w1.cell? ⟨w.heap.size, 2, none⟩ = some (.string ⟨#[]⟩) := HBR1.out.cell 2
 have l2 := HBR1.out.lt
 have f2 := HBR1.out.free
 cases ok with
 | false =>
   obtain rfl : L = [] := HB.out rfl
   go_wp2_with fail
   have HB3 := Lib.hid ((st3 HBR1.out (.int .i64 kk) (.slice A 0 c) (.string ⟨#[]⟩)).alloc (.cells #[.int .i64 kk, .slice A 0 c, .string ⟨#[]⟩] 93))
   have HO3 := Lib.hid ((out3 w1 w.heap.size (.int .i64 kk) (.slice A 0 c) (.string ⟨#[]⟩)).alloc (.cells #[.int .i64 kk, .slice A 0 c, .string ⟨#[]⟩] 93))
   have hs3 := hs1.out' HO3.out (fun k hk => by have : k = w.heap.size := by simpa using hk
                                                omega)
   generalize ((((w1.setCell ⟨w.heap.size, 0, none⟩ (.int .i64 kk)).setCell ⟨w.heap.size, 1, none⟩ (.slice A 0 c)).setCell ⟨w.heap.size, 2, none⟩ (.string ⟨#[]⟩)).alloc (.cells #[.int .i64 kk, .slice A 0 c, .string ⟨#[]⟩] 93)) = w3 at *
   have k0 : w3.cell? ⟨w.heap.size, 0, none⟩ = some (.int .i64 kk) := HB3.out.cell 0
   have k1 : w3.cell? ⟨w.heap.size, 1, none⟩ = some (.slice A 0 c) := HB3.out.cell 1
   have k2 : w3.cell? ⟨w.heap.size, 2, none⟩ = some (.string ⟨#[]⟩) := HB3.out.cell 2
   refine bodyPost_ret (v := .tuple #[.agg #[.int .i64 kk, (.slice A 0 c), .string ⟨#[]⟩], .int .i64 k, .bool false]) (by simp [results, Tryz.results131, go_sem, k0, k1, k2]) rfl ⟨⟨⟨kk, [], ByteArray.empty⟩, A, c⟩, k, false, ?_, hs3, ?_, HNW.out, ?_⟩
   · unfold FrmV.agg
     simp only [List.length_nil, empty_str]
   · intro h; cases h
   · rw [restF_num HQ2.out (by rw [HRM.out, HR1.out]; rfl)]; rfl
 | true =>
   have hrf := restF_plain HQ2.out HQ3.out (L := L) (n := k) (by rw [HRM.out, HR1.out]; rfl)
   have HRF := Lib.hid hrf
   clear hrf
   go_wp2_with fail
   have HB3 := Lib.hid ((st3 HBR1.out (.int .i64 kk) (.slice A L.length c) (.string ⟨#[]⟩)).alloc (.cells #[.int .i64 kk, .slice A L.length c, .string ⟨#[]⟩] 93))
   have HO3 := Lib.hid ((out3 w1 w.heap.size (.int .i64 kk) (.slice A L.length c) (.string ⟨#[]⟩)).alloc (.cells #[.int .i64 kk, .slice A L.length c, .string ⟨#[]⟩] 93))
   have hs3 := hs1.out' HO3.out (fun k hk => by have : k = w.heap.size := by simpa using hk
                                                omega)
   generalize ((((w1.setCell ⟨w.heap.size, 0, none⟩ (.int .i64 kk)).setCell ⟨w.heap.size, 1, none⟩ (.slice A L.length c)).setCell ⟨w.heap.size, 2, none⟩ (.string ⟨#[]⟩)).alloc (.cells #[.int .i64 kk, .slice A L.length c, .string ⟨#[]⟩] 93)) = w3 at *
   have k0 : w3.cell? ⟨w.heap.size, 0, none⟩ = some (.int .i64 kk) := HB3.out.cell 0
   have k1 : w3.cell? ⟨w.heap.size, 1, none⟩ = some (.slice A L.length c) := HB3.out.cell 1
   have k2 : w3.cell? ⟨w.heap.size, 2, none⟩ = some (.string ⟨#[]⟩) := HB3.out.cell 2
   refine bodyPost_ret (v := .tuple #[.agg #[.int .i64 kk, (.slice A L.length c), .string ⟨#[]⟩], .int .i64 k, .bool true]) (by simp [results, Tryz.results131, go_sem, k0, k1, k2]) rfl ⟨⟨⟨kk, L, ByteArray.empty⟩, A, c⟩, k, true, ?_, hs3, ?_, HNW.out, ?_⟩
   · unfold FrmV.agg
     simp only [empty_str]
   · intro _
     exact frmIn_of (restF_inv (by omega) (by omega) HRF.out).1 (HL1.out.far HBR1.out (by decide) HO3.out) (by simp)
   · rw [HRF.out]; rfl
theorem frest_str (s : ByteArray) (w : World) (hz2 : s.size ≤ 9223372036854775707) (hK : KTab w) (hC : CTab w) :
  Calls Tryz.prog 131 #[.int .i64 3, .string s] w fun e w' => ∃ (p : FrmV) (n : Nat) (ok : Bool), e = .returned (.tuple #[p.agg, .int .i64 n, .bool ok]) ∧ Below w.heap.size w w' ∧ (ok = true → FrmIn w' p) ∧ newA p.A w.heap.size ∧ restF 3 s.data.toList = if ok = true then some (p.f, n) else none := by
 have hz : s.size ≤ 9223372036854775807 := by omega
 have HZ2 := Lib.hid hz2
 have HK := Lib.hid hK
 have HB0 := Lib.hid (BlockIs.fresh w 93 #[.int .i64 0, .slice none 0 0, .string ⟨#[]⟩])
 have HS0 := Lib.hid (show Since w (w.alloc (.cells #[.int .i64 0, .slice none 0 0, .string ⟨#[]⟩] 93)) from (Since.refl w).alloc _)
 have hcc := hC 3 (by omega)
 have hgl := hC.lt
 rw [show cntK 3 = 1 from rfl] at hcc
 have FN : Hid (∀ W : World, KTab W → Calls Tryz.prog 153 #[.string s, .int .i64 2] W fun e w' => ∃ (A : Option Addr) (cap k : Nat) (ok : Bool) (L : List Int), e = .returned (.tuple #[.slice A L.length cap, .int .i64 k, .bool ok]) ∧ Lst w' 3 1 (.slice A L.length cap) (L.map intRow) ∧ Below W.heap.size W w' ∧ (∀ q, q ∈ blocks (.slice A 0 0) → W.heap.size ≤ q) ∧ numUp s.data.toList 0 2 = (if ok = true then some (L, k) else none) ∧ (ok = false → L = [])) := Lib.hid (fun W hW => fnumbers s 2 W (by omega) hz hW)
 have HRM : Hid (readK 3 = 2) := Lib.hid rfl
 have HZ := Lib.hid hz
 clear hK hC hz2
 go_enter Tryz.func131, Tryz.ntmps131
 go_wp2_with fail
 refine (FN.out _ (HK.out.later HS0.out)).mono ?_
 rintro e w1 ⟨A, c, k, ok, L, rfl, hl, hb1, hn1, hr1, hbad⟩
 have HL1 := Lib.hid hl
 have HNW := Lib.hid (newA_le (newA_of hl hn1) HS0.out.le)
 have HR1 := Lib.hid hr1
 have HB := Lib.hid hbad
 have hs1 := HS0.out.later hb1
 have HBR1 := Lib.hid (HB0.out.later hb1)
 clear hl hb1 hn1 hr1 hbad
 have r0 : w1.cell? ⟨w.heap.size, 0, none⟩ = some (.int .i64 0) := HBR1.out.cell 0
 have r1 : w1.cell? ⟨w.heap.size, 1, none⟩ = some (.slice none 0 0) := HBR1.out.cell 1
 have r2 : w1.cell? ⟨w.heap.size, 2, none⟩ = some (.string ⟨#[]⟩) := HBR1.out.cell 2
 have l2 := HBR1.out.lt
 have f2 := HBR1.out.free
 cases ok with
 | false =>
   obtain rfl : L = [] := HB.out rfl
   go_wp2_with fail
   have HB3 := Lib.hid ((st3 HBR1.out (.int .i64 3) (.slice A 0 c) (.string ⟨#[]⟩)).alloc (.cells #[.int .i64 3, .slice A 0 c, .string ⟨#[]⟩] 93))
   have HO3 := Lib.hid ((out3 w1 w.heap.size (.int .i64 3) (.slice A 0 c) (.string ⟨#[]⟩)).alloc (.cells #[.int .i64 3, .slice A 0 c, .string ⟨#[]⟩] 93))
   have hs3 := hs1.out' HO3.out (fun k hk => by have : k = w.heap.size := by simpa using hk
                                                omega)
   generalize ((((w1.setCell ⟨w.heap.size, 0, none⟩ (.int .i64 3)).setCell ⟨w.heap.size, 1, none⟩ (.slice A 0 c)).setCell ⟨w.heap.size, 2, none⟩ (.string ⟨#[]⟩)).alloc (.cells #[.int .i64 3, .slice A 0 c, .string ⟨#[]⟩] 93)) = w3 at *
   have k0 : w3.cell? ⟨w.heap.size, 0, none⟩ = some (.int .i64 3) := HB3.out.cell 0
   have k1 : w3.cell? ⟨w.heap.size, 1, none⟩ = some (.slice A 0 c) := HB3.out.cell 1
   have k2 : w3.cell? ⟨w.heap.size, 2, none⟩ = some (.string ⟨#[]⟩) := HB3.out.cell 2
   refine bodyPost_ret (v := .tuple #[.agg #[.int .i64 3, (.slice A 0 c), .string ⟨#[]⟩], .int .i64 k, .bool false]) (by simp [results, Tryz.results131, go_sem, k0, k1, k2]) rfl ⟨⟨⟨3, [], ByteArray.empty⟩, A, c⟩, k, false, ?_, hs3, ?_, HNW.out, ?_⟩
   · unfold FrmV.agg
     simp only [List.length_nil, empty_str]
   · intro h; cases h
   · rw [restF_num (by decide : (3 : Int) ≠ 2) (by rw [HRM.out, HR1.out]; rfl)]; rfl
 | true =>
   have hsz : s.data.toList.length = s.size := rfl
   have HNU := Lib.hid (show numUp s.data.toList 0 (readK 3) = some (L, k) by rw [HRM.out, HR1.out]; rfl)
   obtain ⟨a1, a2, a3, a4⟩ := numUp_inv (Nat.zero_le _) 2 L k (by rw [HR1.out]; rfl)
   rw [hsz] at a2
   have HNO := Lib.hid (fun h => restF_no HNU.out h)
   have HYES := Lib.hid (fun h => restF_yes HNU.out h)
   match L, a1 with
   | [x, y], _ =>
   obtain ⟨y0, y1⟩ := a4 y (by simp)
   obtain ⟨x0, x1⟩ := a4 x (by simp)
   obtain ⟨l, rfl⟩ : ∃ l : Nat, y = l := ⟨y.toNat, by omega⟩
   simp only [show ith [x, (l : Int)] 1 = (l : Int) from rfl, show ith [x, (l : Int)] 0 = x from rfl, Int.toNat_natCast, hsz] at HNO HYES
   obtain ⟨A', cap', hve, hcap, hmx, hA⟩ := HL1.out.shape
   simp only [List.map_cons, List.map_nil, List.length_cons, List.length_nil, Value.slice.injEq] at hve
   obtain ⟨rfl, _, rfl⟩ := hve
   rcases hA with ⟨_, h0, _⟩ | ⟨q, rfl⟩
   · simp at h0
   have e0 : w1.cell? ⟨q, 0, none⟩ = some (.int .i64 x) := HL1.out.cell rfl (i := 0) (j := 0) rfl rfl
   have e1 : w1.cell? ⟨q, 1, none⟩ = some (.int .i64 l) := HL1.out.cell rfl (i := 1) (j := 0) rfl rfl
   have lq : q < w1.heap.size := HL1.out.lt q (by simp [Value.ownBlock])
   have hc2 : (1 : Int) ≤ (c : Int) := by simp at hcap; omega
   have hc3 : 2 ≤ c := by simpa using hcap
   unfold maxLen at hmx
   have hzz := HZ.out
   have hkk : k ≤ 9223372036854775807 := by omega
   clear a3 a4 hcap
   by_cases h20 : 20 < l
   · have h20' : (20 : Int) < (l : Int) := by omega
     have HR := Lib.hid (HNO.out (by omega))
     go_wp2_with fail
     have HB3 := Lib.hid ((st3 HBR1.out (.int .i64 3) (.slice (some ⟨q, 0, none⟩) 1 c) (.string ⟨#[]⟩)).alloc (.cells #[.int .i64 3, .slice (some ⟨q, 0, none⟩) 1 c, .string ⟨#[]⟩] 93))
     have HO3 := Lib.hid ((out3 w1 w.heap.size (.int .i64 3) (.slice (some ⟨q, 0, none⟩) 1 c) (.string ⟨#[]⟩)).alloc (.cells #[.int .i64 3, .slice (some ⟨q, 0, none⟩) 1 c, .string ⟨#[]⟩] 93))
     have hs3 := hs1.out' HO3.out (fun k hk => by have : k = w.heap.size := by simpa using hk
                                                  omega)
     generalize ((((w1.setCell ⟨w.heap.size, 0, none⟩ (.int .i64 3)).setCell ⟨w.heap.size, 1, none⟩ (.slice (some ⟨q, 0, none⟩) 1 c)).setCell ⟨w.heap.size, 2, none⟩ (.string ⟨#[]⟩)).alloc (.cells #[.int .i64 3, .slice (some ⟨q, 0, none⟩) 1 c, .string ⟨#[]⟩] 93)) = w3 at *
     have k0 : w3.cell? ⟨w.heap.size, 0, none⟩ = some (.int .i64 3) := HB3.out.cell 0
     have k1 : w3.cell? ⟨w.heap.size, 1, none⟩ = some (.slice (some ⟨q, 0, none⟩) 1 c) := HB3.out.cell 1
     have k2 : w3.cell? ⟨w.heap.size, 2, none⟩ = some (.string ⟨#[]⟩) := HB3.out.cell 2
     refine bodyPost_ret (v := .tuple #[.agg #[.int .i64 3, (.slice (some ⟨q, 0, none⟩) 1 c), .string ⟨#[]⟩], .int .i64 0, .bool false]) (by simp [results, Tryz.results131, go_sem, k0, k1, k2]) rfl ⟨⟨⟨3, [x], ByteArray.empty⟩, some ⟨q, 0, none⟩, c⟩, 0, false, ?_, hs3, ?_, HNW.out, ?_⟩
     · unfold FrmV.agg
       simp only [List.length_cons, List.length_nil, empty_str]
       rfl
     · intro h; cases h
     · rw [HR.out]; rfl
   have h20' : decide ((20 : Int) < (l : Int)) = false := by simp; omega
   have hkl : (k : Int) + (l : Int) = ((k + l : Nat) : Int) := by omega
   obtain ⟨k5, hk5⟩ : ∃ k5, k + l = k5 := ⟨_, rfl⟩
   rw [hk5] at hkl
   have HK5 := Lib.hid hk5
   have hl20 : l ≤ 20 := by omega
   have hk6 : k ≤ k5 := by omega
   have hk7 : k5 ≤ 9223372036854775827 := by omega
   clear hk5 h20
   by_cases hfar : s.size < k5
   · have hfar' : (s.size : Int) < (k5 : Int) := by omega
     have HR := Lib.hid (HNO.out (fun h => by omega))
     have hkf : k5 ≤ 9223372036854775807 := by have := HZ2.out; omega
     go_wp2_with fail
     have HB3 := Lib.hid ((st3 HBR1.out (.int .i64 3) (.slice (some ⟨q, 0, none⟩) 1 c) (.string ⟨#[]⟩)).alloc (.cells #[.int .i64 3, .slice (some ⟨q, 0, none⟩) 1 c, .string ⟨#[]⟩] 93))
     have HO3 := Lib.hid ((out3 w1 w.heap.size (.int .i64 3) (.slice (some ⟨q, 0, none⟩) 1 c) (.string ⟨#[]⟩)).alloc (.cells #[.int .i64 3, .slice (some ⟨q, 0, none⟩) 1 c, .string ⟨#[]⟩] 93))
     have hs3 := hs1.out' HO3.out (fun k hk => by have : k = w.heap.size := by simpa using hk
                                                  omega)
     generalize ((((w1.setCell ⟨w.heap.size, 0, none⟩ (.int .i64 3)).setCell ⟨w.heap.size, 1, none⟩ (.slice (some ⟨q, 0, none⟩) 1 c)).setCell ⟨w.heap.size, 2, none⟩ (.string ⟨#[]⟩)).alloc (.cells #[.int .i64 3, .slice (some ⟨q, 0, none⟩) 1 c, .string ⟨#[]⟩] 93)) = w3 at *
     have k0 : w3.cell? ⟨w.heap.size, 0, none⟩ = some (.int .i64 3) := HB3.out.cell 0
     have k1 : w3.cell? ⟨w.heap.size, 1, none⟩ = some (.slice (some ⟨q, 0, none⟩) 1 c) := HB3.out.cell 1
     have k2 : w3.cell? ⟨w.heap.size, 2, none⟩ = some (.string ⟨#[]⟩) := HB3.out.cell 2
     refine bodyPost_ret (v := .tuple #[.agg #[.int .i64 3, (.slice (some ⟨q, 0, none⟩) 1 c), .string ⟨#[]⟩], .int .i64 0, .bool false]) (by simp [results, Tryz.results131, go_sem, k0, k1, k2]) rfl ⟨⟨⟨3, [x], ByteArray.empty⟩, some ⟨q, 0, none⟩, c⟩, 0, false, ?_, hs3, ?_, HNW.out, ?_⟩
     · unfold FrmV.agg
       simp only [List.length_cons, List.length_nil, empty_str]
       rfl
     · intro h; cases h
     · rw [HR.out]; rfl
   have hfar' : decide ((s.size : Int) < (k5 : Int)) = false := by simp; omega
   have hfr2 : (k5 : Int) ≤ (s.size : Int) := by omega
   have hk68 : (k : Int) ≤ (k5 : Int) := by omega
   have HR := Lib.hid (HYES.out (by omega))
   have hkf : k5 ≤ 9223372036854775807 := by omega
   have HDT : Hid ((⟨((s.data.toList.drop k).take l).toArray⟩ : ByteArray) = s.extract k k5) := Lib.hid (ba_ext (by
    rw [ByteArray.data_extract, Array.toList_extract, List.extract_eq_take_drop]
    simp only
    rw [show k5 - k = l by have := HK5.out; omega]))
   have hds : (s.extract k k5).size ≤ 20 := by rw [ByteArray.size_extract]; have := HK5.out; omega
   have HDS := Lib.hid hds
   clear hfar hds
   go_wp2_with fail
   have HB3 := Lib.hid ((st3 HBR1.out (.int .i64 3) (.slice (some ⟨q, 0, none⟩) 1 c) (.string (s.extract k k5))).alloc (.cells #[.int .i64 3, .slice (some ⟨q, 0, none⟩) 1 c, .string (s.extract k k5)] 93))
   have HO3 := Lib.hid ((out3 w1 w.heap.size (.int .i64 3) (.slice (some ⟨q, 0, none⟩) 1 c) (.string (s.extract k k5))).alloc (.cells #[.int .i64 3, .slice (some ⟨q, 0, none⟩) 1 c, .string (s.extract k k5)] 93))
   have hs3 := hs1.out' HO3.out (fun k hk => by have : k = w.heap.size := by simpa using hk
                                                omega)
   generalize ((((w1.setCell ⟨w.heap.size, 0, none⟩ (.int .i64 3)).setCell ⟨w.heap.size, 1, none⟩ (.slice (some ⟨q, 0, none⟩) 1 c)).setCell ⟨w.heap.size, 2, none⟩ (.string (s.extract k k5))).alloc (.cells #[.int .i64 3, .slice (some ⟨q, 0, none⟩) 1 c, .string (s.extract k k5)] 93)) = w3 at *
   have k0 : w3.cell? ⟨w.heap.size, 0, none⟩ = some (.int .i64 3) := HB3.out.cell 0
   have k1 : w3.cell? ⟨w.heap.size, 1, none⟩ = some (.slice (some ⟨q, 0, none⟩) 1 c) := HB3.out.cell 1
   have k2 : w3.cell? ⟨w.heap.size, 2, none⟩ = some (.string (s.extract k k5)) := HB3.out.cell 2
   refine bodyPost_ret (v := .tuple #[.agg #[.int .i64 3, (.slice (some ⟨q, 0, none⟩) 1 c), .string (s.extract k k5)], .int .i64 k5, .bool true]) (by simp [results, Tryz.results131, go_sem, k0, k1, k2]) rfl ⟨⟨⟨3, [x], s.extract k k5⟩, some ⟨q, 0, none⟩, c⟩, k5, true, ?_, hs3, ?_, HNW.out, ?_⟩
   · rfl
   · intro _
     refine ⟨by unfold okI; simp only; omega, by have := HDS.out; unfold maxLen; simp only; omega, ⟨fun z hz => by rw [List.mem_singleton.1 hz]; omega, some ⟨q, 0, none⟩, c, rfl, by simp; omega, by unfold maxLen; omega, fun _ => ⟨q, 0, rfl, by have := HO3.out.size; omega, fun i hi => ?_⟩⟩⟩
     have : i = 0 := by simpa using hi
     subst this
     have hl3 := HL1.out.far HBR1.out (by decide) HO3.out
     have := hl3.cell rfl (i := 0) (j := 0) (e := intRow x) (u := .int .i64 x) rfl rfl
     show _ = some (Value.int .i64 x)
     simpa using this
   · rw [HR.out, HDT.out, HK5.out]; rfl
theorem frest (kind : Int) (s : ByteArray) (w : World) (h1 : 1 ≤ kind) (h8 : kind ≤ 8) (hz : s.size ≤ 9223372036854775707) (hK : KTab w) (hC : CTab w) :
  Calls Tryz.prog 131 #[.int .i64 kind, .string s] w fun e w' => ∃ (p : FrmV) (n : Nat) (ok : Bool), e = .returned (.tuple #[p.agg, .int .i64 n, .bool ok]) ∧ Below w.heap.size w w' ∧ (ok = true → FrmIn w' p) ∧ newA p.A w.heap.size ∧ restF kind s.data.toList = if ok = true then some (p.f, n) else none := by
 by_cases h2 : kind = 2
 · subst h2; exact frest_ack s w (by omega) hK
 by_cases h3 : kind = 3
 · subst h3; exact frest_str s w hz hK hC
 obtain ⟨k, rfl⟩ : ∃ k : Nat, kind = k := ⟨kind.toNat, by omega⟩
 exact frest_num k s w (by omega) (by omega) (by omega) (by omega) (by omega) hK hC
end Go.Proofs.YtmfbaijbigodkaaGreatDoor
