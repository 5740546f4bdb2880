/- A range over a function whose own state is one cell that it writes between the rounds; a round that always goes on. No condition of its own. -/
import Derived.Test.YtjjmoaaongnjiaaGreatDoorCalm
import Derived.RangeFuncBox
import Derived.RangeFuncCalls
namespace Go.Proofs.YtjjmoaaongnjiaaGreatDoor
open Go.RowKit
set_option linter.unusedVariables false

section
variable {F : Fence} {n : Nat} {P : Program} {α : Type}
/-- what may happen to the caller's things between two rounds -/
structure Bears (gb : Nat) (J : List α → World → Prop) : Prop where
  drew : ∀ s A, J s A → J s A.drew
  cell : ∀ s A v, J s A → J s (A.setCell ⟨gb, 0, none⟩ v)
/-- the iterator's word: it hands over the elements one by one, each round goes on and leaves its cell as it was -/
def Hands (F : Fence) (n : Nat) (P : Program) (gf gb : Nat) (lb : Array Value) (encs : α → Array Value) (S : List α → Prop) (G : List α → α → Prop) (w0 : World) : Prop :=
  ∀ (l : Nat) (J : List α → World → Prop) (W : World), Below w0.heap.size w0 W → Bears gb J →
    (∀ pre x X, J pre X → G pre x → YieldAt F (n - 1) P l (encs x) X fun e X' => e = .returned (.bool true) ∧ J (pre ++ [x]) X' ∧ ∀ v, X.cell? ⟨gb, 0, none⟩ = some v → X.frozen? ⟨gb, 0, none⟩ = false → X'.cell? ⟨gb, 0, none⟩ = some v ∧ X'.frozen? ⟨gb, 0, none⟩ = false) →
    J [] W → CallsIn F n P gf (#[.func (.yield l) #[] #[]] ++ lb) W fun e X => (∃ v, e = .returned v) ∧ ∃ xs, S xs ∧ J xs X
theorem heap_far {A : World} {gb k : Nat} {o : Obj} (v : Value) (hk : k ≠ gb) (h : A.heap[k]? = some o) : (A.setCell ⟨gb, 0, none⟩ v).heap[k]? = some o := (Below.heap_setCell A ⟨gb, 0, none⟩ v k hk).trans h
theorem putObj_cell {A : World} {l gb : Nat} {o o' : Obj} (hne : gb ≠ l) : (∀ v, A.cell? ⟨gb, 0, none⟩ = some v → (A.putObj l o').cell? ⟨gb, 0, none⟩ = some v) ∧ (A.frozen? ⟨gb, 0, none⟩ = false → (A.putObj l o').frozen? ⟨gb, 0, none⟩ = false) := by
  have e : (A.putObj l o').heap[gb]? = A.heap[gb]? := World.putObj_heap_other hne
  refine ⟨fun v hv => ?_, fun hv => ?_⟩
  · unfold World.cell? at hv ⊢
    rw [e]; exact hv
  · unfold World.frozen? at hv ⊢
    rw [e]; exact hv
/-- the statement -/
theorem rangeW {g : Operand} {ps : Array Tmp} {assign body : Code} {Q : Exit → Act → World → Prop} {a : Act} {w : World} (hro : F.round = none) (h1 : 1 ≤ n) {gf gb : Nat} {lb : Array Value} (hg : a.eval g = .func (.func gf) #[] lb) (hFg : F.fn gf)
    (eg : ∀ args w, (callFunc gf args).run P w = .ok (.enter gf args) w) {encs : α → Array Value} {S : List α → Prop} {G : List α → α → Prop} (hgb : gb < w.heap.size) (hseq : Hands F (n - 1) P gf gb lb encs S G w) (hps : ∀ x, (encs x).size = ps.size)
    (I : List α → World → Prop) (hI : OwnFrom w.heap.size I) (hIb : Bears gb I) (h0 : I [] w) (a1 : α → Act)
    (hassign : ∀ (l : Nat) (x : α) (W : World) (K : Act → World → Prop), K (a1 x) W → assign.wpIn (F.inRound l) (n - 1 - 1) P (Exit.then K (fun _ _ _ => False)) { tmps := (ps.zip (encs x)).foldl (fun t (p, v) => t.setIfInBounds p v) a.tmps, defers := [] } W)
    (hbody : ∀ (l : Nat) (pre : List α) (x : α) (W : World), I pre W → G pre x → body.wpIn (F.inRound l) (n - 1 - 1) P (fun e _ X => e = .normal ∧ KeepsOthers W X ∧ I (pre ++ [x]) X ∧ ∀ v, W.cell? ⟨gb, 0, none⟩ = some v → W.frozen? ⟨gb, 0, none⟩ = false → X.cell? ⟨gb, 0, none⟩ = some v ∧ X.frozen? ⟨gb, 0, none⟩ = false) (a1 x) W)
    (hdone : ∀ (D : Nat) (xs : List α) (W : World), w.heap.size ≤ D → S xs → I xs W → W.heap[D]? = some (.deferred (some [])) → Q .normal { a with defers := { target := .collected D, args := #[] } :: a.defers } W) :
    (Code.rangeFunc g ps assign body).wpIn F n P Q a w := by
  refine wpIn_rangeFunc fun fn hfn => ?_
  rw [hro]
  obtain ⟨rc, hrc⟩ : ∃ rc : LoopState → Loop, rc = fun st => { state := st, pending := none, fn, tmps := a.tmps, params := ps, assign, body, defers := w.heap.size } := ⟨_, rfl⟩
  obtain ⟨W1, hW1⟩ : ∃ W1, (w.alloc (.deferred (some []))).alloc (.loop (rc .ready)) = W1 := ⟨_, rfl⟩
  have b1 : W1.heap[w.heap.size + 1]? = some (.loop (rc .ready)) := by
    rw [← hW1]
    have := World.alloc_heap_new (w.alloc (.deferred (some []))) (.loop (rc .ready))
    rwa [World.size_alloc] at this
  have b2 : W1.heap[w.heap.size]? = some (.deferred (some [])) := by
    rw [← hW1]
    exact (Below.heap_alloc _ _ _ (by simp)).trans (World.alloc_heap_new w _)
  have i1 : I [] W1 := by rw [← hW1]; exact hI.alloc _ (hI.alloc _ h0)
  have s1 : Below w.heap.size w W1 := by
    rw [← hW1]
    exact ((Below.refl _ w).alloc (Nat.le_refl _) _).alloc (by simp) _
  have key := hseq (w.heap.size + 1) (fun pre X => I pre X ∧ X.heap[w.heap.size + 1]? = some (.loop (rc .ready)) ∧ X.heap[w.heap.size]? = some (.deferred (some []))) W1 s1
    ⟨fun s A h => ⟨hIb.drew s A h.1, h.2.1, h.2.2⟩, fun s A v h => ⟨hIb.cell s A v h.1, heap_far v (by omega) h.2.1, heap_far v (by omega) h.2.2⟩⟩ ?_ ⟨i1, b1, b2⟩
  · refine ⟨w.heap.size + 1, [{ target := .collected w.heap.size, args := #[] }], W1, { target := .fn (.func gf) lb, args := #[.func (.yield (w.heap.size + 1)) #[] #[]] }, W1, gf, _, W1, ?_, ?_, ?_, ?_, fun _ => h1, key.mono ?_⟩
    · rw [← hW1, hrc]; exact run_enterLoop_outer _ _ _ _ _
    · simp only [resolve, hg]
      simp [go_sem]
    · intro f' hf'
      simp [Target.leads] at hf'
      subst hf'
      exact hFg
    · simp [invoke, go_sem, eg]
    · rintro e X ⟨⟨v, rfl⟩, xs, hS, hi, hl, hk⟩
      refine ⟨none, _, by have := run_endLoop (P := P) hl (by rw [hrc]; simp); rw [hrc] at this; exact this, ?_⟩
      exact hdone _ xs _ (Nat.le_refl _) hS (hI.putObj _ hi (by omega) hl rfl) ((World.putObj_heap_other (by omega)).trans hk)
  · rintro pre x X ⟨hi, hl, hk⟩ hlen
    have hlt : w.heap.size + 1 < X.heap.size := (Array.getElem?_eq_some_iff.1 hl).1
    have hy := run_yield (P := P) (args := encs x) hl (by rw [hrc]; exact hps x)
    rw [hrc] at hy
    refine ⟨fn, _, assign, body, hy, roundIn_of_wpIn hfn (hassign _ x X _ ⟨_, run_beginRound hl (by rw [hrc]), ?_⟩)⟩
    obtain ⟨Y, hY⟩ : ∃ Y, X.putObj (w.heap.size + 1) (.loop { rc .ready with state := .busy }) = Y := ⟨_, rfl⟩
    have y1 : Y.heap[w.heap.size + 1]? = some (.loop { rc .ready with state := .busy }) := by rw [← hY]; exact World.putObj_heap_same hlt
    have y2 : Y.heap[w.heap.size]? = some (.deferred (some [])) := by rw [← hY]; exact (World.putObj_heap_other (by omega)).trans hk
    have y3 : I pre Y := by rw [← hY]; exact hI.putObj _ hi (by omega) hl rfl
    have y4 := putObj_cell (A := X) (l := w.heap.size + 1) (gb := gb) (o := .loop (rc .ready)) (o' := .loop { rc .ready with state := .busy }) (by omega)
    rw [hY] at y4
    rw [hY]
    refine wpIn_mono (hbody _ pre x Y y3 hlen) ?_
    rintro e a3 Z ⟨rfl, k1, k2, k3⟩
    have z1 := k1.same _ _ y1 rfl
    have z2 := k1.same _ _ y2 rfl
    have hr := run_endRound (P := P) none z1
    refine ⟨_, _, hr, rfl, ⟨hI.putObj _ k2 (by omega) z1 rfl, ?_, (World.putObj_heap_other (by omega)).trans z2⟩, fun v hv hf => ?_⟩
    · rw [World.putObj_heap_same (Array.getElem?_eq_some_iff.1 z1).1]
      rw [hrc]
      rfl
    · obtain ⟨c1, c2⟩ := k3 v (y4.1 v hv) (y4.2 hf)
      have z4 := putObj_cell (A := Z) (l := w.heap.size + 1) (gb := gb) (o := .loop (rc .ready)) (o' := .loop { rc .ready with state := .ready }) (by omega)
      exact ⟨(putObj_cell (A := Z) (l := w.heap.size + 1) (gb := gb) (o := .loop (rc .ready)) (o' := _) (by omega)).1 v c1, (putObj_cell (A := Z) (l := w.heap.size + 1) (gb := gb) (o := .loop (rc .ready)) (o' := _) (by omega)).2 c2⟩
end
end Go.Proofs.YtjjmoaaongnjiaaGreatDoor
