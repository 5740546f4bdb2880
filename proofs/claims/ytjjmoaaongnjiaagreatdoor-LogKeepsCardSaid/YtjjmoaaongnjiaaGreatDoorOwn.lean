/- Several things side by side in memory, each in blocks of its own: what one call does to one of them leaves the others. No condition of its own. -/
import Derived.Test.YtjjmoaaongnjiaaGreatDoorLst
import Derived.Test.YtjjmoaaongnjiaaGreatDoorSince
namespace Go.Proofs.YtjjmoaaongnjiaaGreatDoor
open Go.ChangeShapes Go.WideShapes Go.ChangeAt Go.RowKit
set_option linter.unusedVariables false

/-- a thing that lies in memory: what is there, and in which blocks -/
structure Thing where
  is : World → List Nat → Prop
  lt : ∀ {w : World} {S : List Nat}, is w S → ∀ k, k ∈ S → k < w.heap.size
  kept : ∀ {w w' : World} {S T : List Nat}, is w S → Out w w' T → (∀ k, k ∈ S → k ∉ T) → is w' S
/-- what a call leaves of a thing that lay in the blocks S -/
def Leaves (w w' : World) (S : List Nat) (t : Thing) : Prop := ∃ S', t.is w' S' ∧ Out w w' S ∧ ∀ k, k ∈ S' → k ∈ S ∨ w.heap.size ≤ k
theorem Thing.later (t : Thing) {w w' : World} {S : List Nat} (h : t.is w S) (hb : Below w.heap.size w w') : t.is w' S := t.kept h (Out.of_below hb []) (by simp)
theorem Leaves.same {w w' : World} {S : List Nat} {t : Thing} (h : t.is w S) (hb : Below w.heap.size w w') : Leaves w w' S t := ⟨S, t.later h hb, Out.of_below hb S, fun k hk => Or.inl hk⟩
theorem Leaves.drew {w w' : World} {S : List Nat} {t : Thing} (h : Leaves w.drew w' S t) : Leaves w w' S t := by
  obtain ⟨S', h1, h2, h3⟩ := h
  exact ⟨S', h1, h2.of_drew, h3⟩
theorem Leaves.pre {w w1 w' : World} {S : List Nat} {t : Thing} (hb : Below w.heap.size w w1) (h : Leaves w1 w' S t) : Leaves w w' S t := by
  obtain ⟨S', h1, h2, h3⟩ := h
  refine ⟨S', h1, (Out.of_below hb S).then' h2 (fun k hk => Or.inl hk), fun k hk => ?_⟩
  rcases h3 k hk with h | h
  · exact Or.inl h
  · exact Or.inr (Nat.le_trans hb.size h)
theorem Leaves.out {w w1 w' : World} {S : List Nat} {t : Thing} (ho : Out w w1 S) (h : Leaves w1 w' S t) : Leaves w w' S t := by
  obtain ⟨S', h1, h2, h3⟩ := h
  refine ⟨S', h1, ho.then' h2 (fun k hk => Or.inl hk), fun k hk => ?_⟩
  rcases h3 k hk with h | h
  · exact Or.inl h
  · exact Or.inr (Nat.le_trans ho.size h)
theorem Leaves.post {w w1 w' : World} {S : List Nat} {t : Thing} (h : Leaves w w1 S t) (hb : Below w1.heap.size w1 w') : Leaves w w' S t := by
  obtain ⟨S', h1, h2, h3⟩ := h
  exact ⟨S', t.later h1 hb, h2.later hb, h3⟩
theorem Leaves.size {w w' : World} {S : List Nat} {t : Thing} (h : Leaves w w' S t) : w.heap.size ≤ w'.heap.size := by
  obtain ⟨S', h1, h2, h3⟩ := h
  exact h2.size
/-- these things lie side by side; since w0 only S0 and what is new has changed -/
structure Own (w0 : World) (S0 : List Nat) (w : World) (L : List Thing) : Prop where
  out : Out w0 w S0
  has : ∃ own : Nat → Nat, ∀ (i : Nat) (t : Thing), L[i]? = some t → ∃ S, t.is w S ∧ ∀ k, k ∈ S → own k = i ∧ (k ∈ S0 ∨ w0.heap.size ≤ k)
namespace Own
variable {w0 w w' : World} {S0 : List Nat} {L : List Thing}
theorem start (w : World) : Own w [] w [] := ⟨Out.refl _ _, fun _ => 0, fun i t h => by simp at h⟩
theorem opened {t : Thing} {S : List Nat} (h : t.is w S) : Own w S w [t] := by
  refine ⟨Out.refl _ _, fun _ => 0, fun i t' hi => ?_⟩
  match i, hi with
  | 0, hi =>
    simp only [List.getElem?_cons_zero, Option.some.injEq] at hi
    subst hi
    exact ⟨S, h, fun k hk => ⟨rfl, Or.inl hk⟩⟩
  | i + 1, hi => simp at hi
theorem later (h : Own w0 S0 w L) (hb : Below w.heap.size w w') : Own w0 S0 w' L := by
  obtain ⟨own, ho⟩ := h.has
  refine ⟨h.out.later hb, own, fun i t hi => ?_⟩
  obtain ⟨S, h1, h2⟩ := ho i t hi
  exact ⟨S, t.later h1 hb, h2⟩
theorem drew (h : Own w0 S0 w L) : Own w0 S0 w.drew L := h.later (Since.refl w).drew
theorem drewN (h : Own w0 S0 w L) (n : Nat) : Own w0 S0 (w.drewN n) L := h.later ((Since.refl w).drewN n)
theorem size (h : Own w0 S0 w L) : w0.heap.size ≤ w.heap.size := h.out.size
theorem since (h : Own w0 [] w L) : Since w0 w := h.out.none_
/-- one of them, and what becomes of all when a call leaves something of it -/
theorem at_ (h : Own w0 S0 w L) (i : Nat) {t : Thing} (hi : L[i]? = some t) : ∃ S, t.is w S ∧ ∀ (w' : World) (t' : Thing), Leaves w w' S t' → Own w0 S0 w' (L.set i t') := by
  obtain ⟨own, ho⟩ := h.has
  obtain ⟨S, h1, h2⟩ := ho i t hi
  have hil : i < L.length := (List.getElem?_eq_some_iff.1 hi).1
  refine ⟨S, h1, fun w' t' hl => ?_⟩
  obtain ⟨S', g1, g2, g3⟩ := hl
  refine ⟨h.out.then' g2 (fun k hk => (h2 k hk).2), fun k => if k < w.heap.size then own k else i, fun j u hj => ?_⟩
  by_cases hji : i = j
  · subst hji
    rw [List.getElem?_set_self hil, Option.some.injEq] at hj
    subst hj
    refine ⟨S', g1, fun k hk => ?_⟩
    rcases g3 k hk with hm | hm
    · exact ⟨(if_pos (t.lt h1 k hm)).trans (h2 k hm).1, (h2 k hm).2⟩
    · exact ⟨if_neg (by omega), Or.inr (Nat.le_trans h.out.size hm)⟩
  · rw [List.getElem?_set_ne hji] at hj
    obtain ⟨Sj, j1, j2⟩ := ho j u hj
    refine ⟨Sj, u.kept j1 g2 (fun k hk hm => hji ((h2 k hm).1.symm.trans (j2 k hk).1)), fun k hk => ?_⟩
    exact ⟨(if_pos (u.lt j1 k hk)).trans (j2 k hk).1, (j2 k hk).2⟩
/-- one thing more, in new blocks -/
theorem add (h : Own w0 S0 w L) (hb : Below w.heap.size w w') {t : Thing} {S : List Nat} (ht : t.is w' S) (hn : ∀ k, k ∈ S → w.heap.size ≤ k) : Own w0 S0 w' (L ++ [t]) := by
  obtain ⟨own, ho⟩ := h.has
  refine ⟨h.out.later hb, fun k => if k < w.heap.size then own k else L.length, fun i u hi => ?_⟩
  rcases Nat.lt_trichotomy i L.length with h1 | h1 | h1
  · rw [List.getElem?_append_left h1] at hi
    obtain ⟨Si, j1, j2⟩ := ho i u hi
    exact ⟨Si, u.later j1 hb, fun k hk => ⟨(if_pos (u.lt j1 k hk)).trans (j2 k hk).1, (j2 k hk).2⟩⟩
  · subst h1
    simp only [List.getElem?_append_right (Nat.le_refl _), Nat.sub_self, List.getElem?_cons_zero, Option.some.injEq] at hi
    subst hi
    exact ⟨S, ht, fun k hk => by have := hn k hk; exact ⟨if_neg (by omega), Or.inr (Nat.le_trans h.out.size this)⟩⟩
  · rw [List.getElem?_append_right (by omega)] at hi
    simp only [List.getElem?_singleton] at hi
    split at hi
    · omega
    · cases hi
/-- some of them, in another order -/
theorem pick (h : Own w0 S0 w L) (js : List Nat) {L' : List Thing} (hn : js.Nodup) (hL : ∀ (i : Nat) t, L'[i]? = some t → ∃ j, js[i]? = some j ∧ L[j]? = some t) : Own w0 S0 w L' := by
  obtain ⟨own, ho⟩ := h.has
  refine ⟨h.out, fun k => js.idxOf (own k), fun i t hi => ?_⟩
  obtain ⟨j, hj, hjt⟩ := hL i t hi
  obtain ⟨S, h1, h2⟩ := ho j t hjt
  refine ⟨S, h1, fun k hk => ⟨?_, (h2 k hk).2⟩⟩
  obtain ⟨hil, hje⟩ := List.getElem?_eq_some_iff.1 hj
  show js.idxOf (own k) = i
  rw [(h2 k hk).1, ← hje]
  exact hn.idxOf_getElem i hil
theorem take (h : Own w0 S0 w L) (n : Nat) : Own w0 S0 w (L.take n) := by
  obtain ⟨own, ho⟩ := h.has
  refine ⟨h.out, own, fun i t hi => ho i t ?_⟩
  rw [List.getElem?_take] at hi
  split at hi
  · exact hi
  · cases hi
end Own
/-- a block with these cells -/
def Thing.block (g : Nat) (t : TypeId) (cs : Array Value) : Thing where
  is w S := BlockIs w g t cs ∧ S = [g]
  lt h k hk := by rw [h.2, List.mem_singleton] at hk; subst hk; exact h.1.lt
  kept h ho hd := ⟨ho.block' h.1 (hd _ (by rw [h.2]; simp)), h.2⟩
/-- a slice of the call's own -/
def Thing.lst (E size : Nat) (v : Value) (es : List (List Value)) : Thing where
  is w S := Lst w E size v es ∧ S = blocks v
  lt h k hk := h.1.lt k (by rw [h.2] at hk; exact hk)
  kept h ho hd := ⟨h.1.kept ho (fun k hk => hd k (by rw [h.2]; exact hk)), h.2⟩
/-- one of many -/
def Thing.ex {α : Type} (f : α → Thing) : Thing where
  is w S := ∃ a, (f a).is w S
  lt h k hk := by obtain ⟨a, h⟩ := h; exact (f a).lt h k hk
  kept h ho hd := by obtain ⟨a, h⟩ := h; exact ⟨a, (f a).kept h ho hd⟩
/-- a thing, and a fact -/
def Thing.with_ (p : Prop) (t : Thing) : Thing where
  is w S := p ∧ t.is w S
  lt h k hk := t.lt h.2 k hk
  kept h ho hd := ⟨h.1, t.kept h.2 ho hd⟩
/-- things side by side -/
def Thing.all (L : List Thing) : Thing where
  is w S := (∀ k, k ∈ S → k < w.heap.size) ∧ ∃ own : Nat → Nat, ∀ (i : Nat) (t : Thing), L[i]? = some t → ∃ Si, t.is w Si ∧ ∀ k, k ∈ Si → own k = i ∧ k ∈ S
  lt h k hk := h.1 k hk
  kept h ho hd := by
    obtain ⟨h1, own, h2⟩ := h
    refine ⟨fun k hk => Nat.lt_of_lt_of_le (h1 k hk) ho.size, own, fun i t hi => ?_⟩
    obtain ⟨Si, j1, j2⟩ := h2 i t hi
    exact ⟨Si, t.kept j1 ho (fun k hk => hd k (j2 k hk).2), j2⟩
theorem Own.unfold_ {L : List Thing} {w : World} {S : List Nat} (h : (Thing.all L).is w S) : Own w S w L := by
  obtain ⟨h1, own, h2⟩ := h
  refine ⟨Out.refl _ _, own, fun i t hi => ?_⟩
  obtain ⟨Si, j1, j2⟩ := h2 i t hi
  exact ⟨Si, j1, fun k hk => ⟨(j2 k hk).1, Or.inl (j2 k hk).2⟩⟩
theorem gather {L : List Thing} {w : World} {p : Nat → Nat → Prop} (h : ∀ (i : Nat) (t : Thing), L[i]? = some t → ∃ S, t.is w S ∧ ∀ k, k ∈ S → p i k) : ∃ S' : List Nat, (∀ (i : Nat) (t : Thing), L[i]? = some t → ∃ S, t.is w S ∧ ∀ k, k ∈ S → p i k ∧ k ∈ S') ∧ ∀ k, k ∈ S' → ∃ i, p i k ∧ k < w.heap.size := by
  induction L generalizing p with
  | nil => exact ⟨[], fun i t hi => by simp at hi, by simp⟩
  | cons t L ih =>
    obtain ⟨S', h1, h2⟩ := ih (p := fun i k => p (i + 1) k) (fun i u hi => h (i + 1) u (by simpa using hi))
    obtain ⟨S, hS, hp⟩ := h 0 t rfl
    refine ⟨S ++ S', fun i u hi => ?_, fun k hk => ?_⟩
    · match i, hi with
      | 0, hi =>
        simp only [List.getElem?_cons_zero, Option.some.injEq] at hi
        subst hi
        exact ⟨S, hS, fun k hk => ⟨hp k hk, List.mem_append_left _ hk⟩⟩
      | i + 1, hi =>
        obtain ⟨Si, a, b⟩ := h1 i u (by simpa using hi)
        exact ⟨Si, a, fun k hk => ⟨(b k hk).1, List.mem_append_right _ (b k hk).2⟩⟩
    · rcases List.mem_append.1 hk with hk | hk
      · exact ⟨0, hp k hk, t.lt hS k hk⟩
      · obtain ⟨i, a, b⟩ := h2 k hk
        exact ⟨i + 1, a, b⟩
theorem Own.closed {w0 w : World} {S0 : List Nat} {L : List Thing} (h : Own w0 S0 w L) : Leaves w0 w S0 (Thing.all L) := by
  obtain ⟨own, ho⟩ := h.has
  obtain ⟨S', h1, h2⟩ := gather (p := fun i k => own k = i ∧ (k ∈ S0 ∨ w0.heap.size ≤ k)) ho
  refine ⟨S', ⟨fun k hk => (h2 k hk).choose_spec.2, own, fun i t hi => ?_⟩, h.out, fun k hk => (h2 k hk).choose_spec.1.2⟩
  obtain ⟨S, a, b⟩ := h1 i t hi
  exact ⟨S, a, fun k hk => ⟨(b k hk).1.1, (b k hk).2⟩⟩
theorem Leaves.ex {α : Type} {f : α → Thing} {w w' : World} {S : List Nat} (a : α) (h : Leaves w w' S (f a)) : Leaves w w' S (Thing.ex f) := by
  obtain ⟨S', h1, h2, h3⟩ := h
  exact ⟨S', ⟨a, h1⟩, h2, h3⟩
theorem Leaves.with_ {p : Prop} {t : Thing} {w w' : World} {S : List Nat} (hp : p) (h : Leaves w w' S t) : Leaves w w' S (Thing.with_ p t) := by
  obtain ⟨S', h1, h2, h3⟩ := h
  exact ⟨S', ⟨hp, h1⟩, h2, h3⟩
theorem Leaves.open_with {p : Prop} {t : Thing} {w w' : World} {S : List Nat} (h : Leaves w w' S (Thing.with_ p t)) : p ∧ Leaves w w' S t := by
  obtain ⟨S', ⟨hp, h1⟩, h2, h3⟩ := h
  exact ⟨hp, S', h1, h2, h3⟩
theorem Leaves.block {w w' : World} {g : Nat} {t : TypeId} {cs : Array Value} (hb : BlockIs w' g t cs) (ho : Out w w' [g]) : Leaves w w' [g] (Thing.block g t cs) := ⟨[g], ⟨hb, rfl⟩, ho, fun k hk => Or.inl hk⟩
namespace Own
variable {w0 w w' : World} {S0 : List Nat} {L : List Thing}
/-- the i-th, a block -/
theorem blk (h : Own w0 S0 w L) (i : Nat) {g : Nat} {t : TypeId} {cs : Array Value} (hi : L[i]? = some (Thing.block g t cs)) : BlockIs w g t cs := by
  obtain ⟨S, h1, _⟩ := h.at_ i hi
  exact h1.1
theorem ls (h : Own w0 S0 w L) (i : Nat) {E size : Nat} {v : Value} {es : List (List Value)} (hi : L[i]? = some (Thing.lst E size v es)) : Lst w E size v es := by
  obtain ⟨S, h1, _⟩ := h.at_ i hi
  exact h1.1
/-- a cell of it is written -/
theorem put (h : Own w0 S0 w L) (i : Nat) {g : Nat} {t : TypeId} {cs : Array Value} (hi : L[i]? = some (Thing.block g t cs)) (j : Nat) (u : Value) : Own w0 S0 (w.setCell ⟨g, j, none⟩ u) (L.set i (Thing.block g t (cs.setIfInBounds j u))) := by
  obtain ⟨S, ⟨h1, rfl⟩, h2⟩ := h.at_ i hi
  exact h2 _ _ (Leaves.block (h1.put j u) ((Out.refl w _).put (p := ⟨g, j, none⟩) (Or.inl (by simp)) u))
/-- a block is laid -/
theorem alloc (h : Own w0 S0 w L) (t : TypeId) (cs : Array Value) : Own w0 S0 (w.alloc (.cells cs t)) (L ++ [Thing.block w.heap.size t cs]) :=
  h.add ((Since.refl w).alloc _) (S := [w.heap.size]) ⟨BlockIs.fresh _ _ _, rfl⟩ (by simp)
/-- the i-th thing reads as another one in the same blocks -/
theorem alike (h : Own w0 S0 w L) (i : Nat) {t t' : Thing} (hi : L[i]? = some t) (f : ∀ S, t.is w S → t'.is w S) : Own w0 S0 w (L.set i t') := by
  obtain ⟨S, h1, h2⟩ := h.at_ i hi
  exact h2 w t' ⟨S, f S h1, Out.refl _ _, fun k hk => Or.inl hk⟩
/-- the i-th, which holds several, is opened: these lie there now (the first in its place) -/
theorem fact (h : Own w0 S0 w L) (i : Nat) {t : Thing} {p : Prop} (hi : L[i]? = some (Thing.with_ p t)) : p := by
  obtain ⟨S, h1, h2⟩ := h.at_ i hi
  exact h1.1
theorem unex (h : Own w0 S0 w L) (i : Nat) {α : Type} {f : α → Thing} (hi : L[i]? = some (Thing.ex f)) : ∃ a, Own w0 S0 w (L.set i (f a)) := by
  obtain ⟨S, ⟨a, h1⟩, h2⟩ := h.at_ i hi
  exact ⟨a, h2 w (f a) ⟨S, h1, Out.refl _ _, fun k hk => Or.inl hk⟩⟩
theorem unwith (h : Own w0 S0 w L) (i : Nat) {p : Prop} {t : Thing} (hi : L[i]? = some (Thing.with_ p t)) : p ∧ Own w0 S0 w (L.set i t) :=
  ⟨h.fact i hi, h.alike i hi (fun S hS => hS.2)⟩
end Own
end Go.Proofs.YtjjmoaaongnjiaaGreatDoor
