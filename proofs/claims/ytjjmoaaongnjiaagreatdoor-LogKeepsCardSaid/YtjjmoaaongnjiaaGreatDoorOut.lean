/- Worlds in which a few blocks alone, and what is new, have changed; slices of the call's own with elements of one or more cells. No condition of its own. -/
import Derived.Test.YtjjmoaaongnjiaaGreatDoorSince
import Derived.Maps.AppendAt
import Derived.Deep.AppendLies
namespace Go.Proofs.YtjjmoaaongnjiaaGreatDoor
open Go.ChangeShapes Go.WideShapes Go.ChangeAt Go.RowKit
set_option linter.unusedVariables false

/-- the blocks S alone, and what is new, have changed -/
structure Out (w w' : World) (S : List Nat) : Prop where
  os : w'.os = w.os
  tape : w'.tape = w.tape
  output : w'.output = w.output
  size : w.heap.size ≤ w'.heap.size
  block : ∀ k, k < w.heap.size → k ∉ S → w'.heap[k]? = w.heap[k]?
namespace Out
variable {a w w' : World} {S T : List Nat}
theorem refl (w : World) (S : List Nat) : Out w w S := ⟨rfl, rfl, rfl, Nat.le_refl _, fun _ _ _ => rfl⟩
theorem drew (h : Out a w S) : Out a w.drew S := ⟨h.os, h.tape, h.output, h.size, h.block⟩
theorem drewN (h : Out a w S) (n : Nat) : Out a (w.drewN n) S := ⟨h.os, h.tape, h.output, h.size, h.block⟩
theorem of_drew (h : Out a.drew w S) : Out a w S := ⟨h.os, h.tape, h.output, h.size, h.block⟩
theorem of_drewN {n : Nat} (h : Out (a.drewN n) w S) : Out a w S := ⟨h.os, h.tape, h.output, h.size, h.block⟩
theorem trans (h : Out a w S) (k : Out w w' S) : Out a w' S :=
  ⟨k.os.trans h.os, k.tape.trans h.tape, k.output.trans h.output, Nat.le_trans h.size k.size, fun i hi hn => (k.block i (Nat.lt_of_lt_of_le hi h.size) hn).trans (h.block i hi hn)⟩
theorem mono (h : Out a w S) (hs : ∀ k, k ∈ S → k ∈ T ∨ a.heap.size ≤ k) : Out a w T :=
  ⟨h.os, h.tape, h.output, h.size, fun i hi hn => h.block i hi (fun hm => by rcases hs i hm with h1 | h1; exact hn h1; omega)⟩
/-- what is done from w on changes of w's blocks those in T alone, and these lie in S or are new -/
theorem then' (h : Out a w S) (k : Out w w' T) (hs : ∀ k, k ∈ T → k ∈ S ∨ a.heap.size ≤ k) : Out a w' S :=
  ⟨k.os.trans h.os, k.tape.trans h.tape, k.output.trans h.output, Nat.le_trans h.size k.size, fun i hi hn =>
    (k.block i (Nat.lt_of_lt_of_le hi h.size) (fun hm => by rcases hs i hm with h1 | h1; exact hn h1; omega)).trans (h.block i hi hn)⟩
theorem alloc (h : Out a w S) (o : Obj) : Out a (w.alloc o) S :=
  ⟨h.os, h.tape, h.output, Nat.le_trans h.size (by simp), fun i hi hn => (Below.heap_alloc w o i (Nat.lt_of_lt_of_le hi h.size)).trans (h.block i hi hn)⟩
theorem put (h : Out a w S) {p : Addr} (hp : p.block ∈ S ∨ a.heap.size ≤ p.block) (u : Value) : Out a (w.setCell p u) S :=
  ⟨h.os, h.tape, h.output, by simpa [World.setCell] using h.size, fun k hk hn => (Below.heap_setCell w p u k (by rintro rfl; rcases hp with h1 | h1; exact hn h1; omega)).trans (h.block k hk hn)⟩
theorem of_below (h : Below a.heap.size a w) (S : List Nat) : Out a w S := ⟨h.os, h.tape, h.output, h.size, fun i hi _ => h.block i hi⟩
theorem later (h : Out a w S) (hb : Below w.heap.size w w') : Out a w' S := h.then' (of_below hb []) (by simp)
theorem of_only {g : Nat} (h : Only a w g) : Out a w [g] := ⟨h.os, h.tape, h.output, h.size, fun i hi hn => h.block i hi (by simpa using hn)⟩
theorem of_grown {row : Option Nat} (h : a.grownBy w row) {S : List Nat} (hs : ∀ k, row = some k → k ∈ S ∨ a.heap.size ≤ k) : Out a w S :=
  ⟨h.os, h.tape, h.output, h.size, fun i hi hn => h.block i hi (fun e => by rcases hs i e.symm with h1 | h1; exact hn h1; omega)⟩
theorem grown (h : Out a w S) {row : Option Nat} (k : w.grownBy w' row) (hs : ∀ k, row = some k → k ∈ S ∨ a.heap.size ≤ k) : Out a w' S :=
  h.then' (T := row.toList) ⟨k.os, k.tape, k.output, k.size, fun i hi hn => k.block i hi (fun e => hn (by rw [← e]; simp))⟩ (fun i hm => hs i (by simpa [Option.mem_toList] using hm))
theorem block' (h : Out a w S) {g : Nat} {t : TypeId} {cs : Array Value} (hb : BlockIs a g t cs) (hn : g ∉ S) : BlockIs w g t cs := (h.block g hb.lt hn).trans hb
theorem le (h : Out a w S) : a.heap.size ≤ w.heap.size := h.size
theorem below {B : Nat} (h : Out w w' S) (hb : Below B a w) (hB : B ≤ w.heap.size) (hs : ∀ k, k ∈ S → B ≤ k) : Below B a w' :=
  ⟨h.os.trans hb.os, h.tape.trans hb.tape, h.output.trans hb.output, Nat.le_trans hb.size h.size, fun i hi => (h.block i (Nat.lt_of_lt_of_le hi hB) (fun hm => by have := hs i hm; omega)).trans (hb.block i hi)⟩
theorem none_ (h : Out a w []) : Below a.heap.size a w := ⟨h.os, h.tape, h.output, h.size, fun i hi => h.block i hi (by simp)⟩
end Out
theorem Since.out' {w W W' : World} {S : List Nat} (h : Since w W) (k : Out W W' S) (hs : ∀ k, k ∈ S → w.heap.size ≤ k) : Since w W' := k.below h h.size hs

/-- the cells of a list of elements, one behind the other -/
abbrev flat (es : List (List Value)) : List Value := es.flatten
/-- v is a slice of the call's own, nil or from a block's head on: these elements, each of so many cells -/
structure Lst (w : World) (E size : Nat) (v : Value) (es : List (List Value)) : Prop where
  own : w.ownsRow 0 E size v es.length (flat es)
  rows : ∀ e ∈ es, e.length = size ∧ ∀ u ∈ e, u.oneCell' = true
/-- the block that a slice lies in, if it does -/
abbrev blocks (v : Value) : List Nat := v.ownBlock.toList
namespace Lst
variable {w w' : World} {E size : Nat} {v : Value} {es : List (List Value)}
theorem nil (w : World) (E size : Nat) : Lst w E size (.slice none 0 0) [] := ⟨World.ownsRow_nil w 0 E size, by simp⟩
theorem shape (h : Lst w E size v es) : ∃ A cap, v = .slice A es.length cap ∧ es.length ≤ cap ∧ cap ≤ maxLen ∧ ((A = none ∧ es = [] ∧ cap = 0) ∨ ∃ g, A = some ⟨g, 0, none⟩) := by
  rcases h.own.2 with ⟨rfl, h0⟩ | ⟨g, cap, cur, rfl, _, _, h1, h2, _⟩
  · have : es = [] := List.length_eq_zero_iff.1 h0
    subst this
    exact ⟨none, 0, rfl, by simp, by simp [maxLen], Or.inl ⟨rfl, rfl, rfl⟩⟩
  · exact ⟨_, cap, rfl, h1, h2, Or.inr ⟨g, rfl⟩⟩
theorem later (h : Lst w E size v es) (hb : Below w.heap.size w w') : Lst w' E size v es :=
  ⟨h.own.kept (row := none) ⟨hb.os, hb.tape, hb.output, hb.size, fun i hi _ => hb.block i hi⟩ (by cases hv : v.ownBlock <;> simp), h.rows⟩
theorem drew (h : Lst w E size v es) : Lst w.drew E size v es := ⟨h.own, h.rows⟩
theorem drewN (h : Lst w E size v es) (n : Nat) : Lst (w.drewN n) E size v es := ⟨h.own, h.rows⟩
theorem alloc (h : Lst w E size v es) (o : Obj) : Lst (w.alloc o) E size v es := ⟨h.own.alloc o, h.rows⟩
theorem lt (h : Lst w E size v es) : ∀ k, k ∈ blocks v → k < w.heap.size := fun k hk => (h.own.lt k (by simpa [Option.mem_toList] using hk)).2
theorem kept {S : List Nat} (h : Lst w E size v es) (hg : Out w w' S) (hn : ∀ k, k ∈ blocks v → k ∉ S) : Lst w' E size v es := by
  refine ⟨⟨h.own.1, ?_⟩, h.rows⟩
  rcases h.own.2 with hn' | ⟨g, cap, cur, rfl, hb, hgg, rest⟩
  · exact .inl hn'
  · refine .inr ⟨g, cap, cur, rfl, hb, ?_, rest⟩
    rw [hg.block g (Array.getElem?_eq_some_iff.1 hgg).1 (hn g (by simp [Value.ownBlock]))]
    exact hgg
/-- a block of another type is not the slice's -/
theorem apart (h : Lst w E size v es) {g : Nat} {t : TypeId} {cs : Array Value} (hb : BlockIs w g t cs) (ht : t ≠ E) : g ∉ blocks v := by
  intro hm
  rcases h.own.2 with ⟨rfl, _⟩ | ⟨g', cap, cur, rfl, _, hgg, _⟩
  · simp [blocks, Value.ownBlock] at hm
  · simp [blocks, Value.ownBlock] at hm
    subst hm
    unfold BlockIs at hb
    rw [hb] at hgg
    simp only [Option.some.injEq, Obj.cells.injEq] at hgg
    exact ht hgg.2.1
theorem flat_get {es : List (List Value)} (hr : ∀ e ∈ es, e.length = size) {i j : Nat} {e : List Value} {u : Value} (hi : es[i]? = some e) (hj : e[j]? = some u) : (flat es)[i * size + j]? = some u := by
  induction es generalizing i with
  | nil => simp at hi
  | cons x r ih =>
    have hx := hr x (by simp)
    rw [flat, List.flatten_cons]
    cases i with
    | zero =>
      simp only [List.getElem?_cons_zero, Option.some.injEq] at hi
      subst hi
      have hlt : j < x.length := (List.getElem?_eq_some_iff.1 hj).1
      rw [Nat.zero_mul, Nat.zero_add, List.getElem?_append_left hlt]
      exact hj
    | succ i =>
      simp only [List.getElem?_cons_succ] at hi
      have := ih (fun e he => hr e (by simp [he])) hi
      rw [List.getElem?_append_right (by rw [hx, Nat.succ_mul]; omega), hx]
      rw [show (i + 1) * size + j - size = i * size + j from by rw [Nat.succ_mul]; omega]
      exact this
/-- the j-th cell of the i-th element -/
theorem cell (h : Lst w E size v es) {g : Nat} {n cap : Nat} (hv : v = .slice (some ⟨g, 0, none⟩) n cap) {i j : Nat} {e : List Value} {u : Value} (hi : es[i]? = some e) (hj : e[j]? = some u) : w.cell? ⟨g, i * size + j, none⟩ = some u := by
  have h1 := h.own.cells (g := g) (by rw [hv]; rfl) (i * size + j) u (flat_get (fun e he => (h.rows e he).1) hi hj)
  have hadd : (⟨g, 0, none⟩ : Addr).add (i * size + j) = ⟨g, i * size + j, none⟩ := by unfold Addr.add; split <;> simp_all
  rw [hadd] at h1
  exact h1
theorem append (h : Lst w E size v es) {e : List Value} (he : e.length = size) (h1 : ∀ u ∈ e, u.oneCell' = true) {v' : Value} (hown : w'.ownsRow 0 E size v' (es.length + 1) (flat es ++ e)) : Lst w' E size v' (es ++ [e]) := by
  refine ⟨?_, fun x hx => ?_⟩
  · rw [List.length_append]
    have : flat (es ++ [e]) = flat es ++ e := by simp [flat]
    rw [this]
    exact hown
  · rcases List.mem_append.1 hx with hx | hx
    · exact h.rows x hx
    · rw [List.mem_singleton.1 hx]; exact ⟨he, h1⟩
theorem appends (h : Lst w E size v es) {ns : List (List Value)} (hns : ∀ e ∈ ns, e.length = size ∧ ∀ u ∈ e, u.oneCell' = true) {v' : Value} (hown : w'.ownsRow 0 E size v' (es.length + ns.length) (flat es ++ flat ns)) : Lst w' E size v' (es ++ ns) := by
  refine ⟨?_, fun x hx => ?_⟩
  · rw [List.length_append]
    have : flat (es ++ ns) = flat es ++ flat ns := by simp [flat]
    rw [this]
    exact hown
  · rcases List.mem_append.1 hx with hx | hx
    · exact h.rows x hx
    · exact hns x hx
end Lst
theorem flat_take {size : Nat} {es : List (List Value)} (hr : ∀ e ∈ es, e.length = size) (i : Nat) : (flat es).take (i * size) = flat (es.take i) := by
  induction es generalizing i with
  | nil => simp [flat]
  | cons x r ih =>
    have hx := hr x (by simp)
    cases i with
    | zero => simp [flat]
    | succ i =>
      have := ih (fun e he => hr e (by simp [he])) i
      rw [flat, List.flatten_cons, List.take_succ_cons, flat, List.flatten_cons, Nat.succ_mul, Nat.add_comm, List.take_append, hx, List.take_of_length_le (by omega), show size + i * size - size = i * size from by omega]
      rw [flat] at this
      rw [this]
theorem flat_drop {size : Nat} {es : List (List Value)} (hr : ∀ e ∈ es, e.length = size) (i : Nat) : (flat es).drop (i * size) = flat (es.drop i) := by
  induction es generalizing i with
  | nil => simp [flat]
  | cons x r ih =>
    have hx := hr x (by simp)
    cases i with
    | zero => simp [flat]
    | succ i =>
      have := ih (fun e he => hr e (by simp [he])) i
      rw [flat, List.flatten_cons, List.drop_succ_cons, Nat.succ_mul, Nat.add_comm, List.drop_append, hx, List.drop_of_length_le (by omega), show size + i * size - size = i * size from by omega]
      rw [flat] at this
      rw [this, List.nil_append]
theorem flat_length {size : Nat} {es : List (List Value)} (hr : ∀ e ∈ es, e.length = size) : (flat es).length = es.length * size := by
  induction es with
  | nil => simp [flat]
  | cons x r ih =>
    have hx := hr x (by simp)
    have := ih (fun e he => hr e (by simp [he]))
    rw [flat, List.flatten_cons, List.length_append, List.length_cons, Nat.succ_mul, hx]
    rw [flat] at this
    omega
/-- a row's elements from the i-th on, k of them, as they are read at their address -/
theorem Lst.news {w : World} {E size : Nat} {v : Value} {es : List (List Value)} (h : Lst w E size v es) {g n cap : Nat} (hv : v = .slice (some ⟨g, 0, none⟩) n cap) (i : Nat) : ∀ j u, (flat (es.drop i))[j]? = some u → w.cell? ((⟨g, i * size, none⟩ : Addr).add j) = some u := by
  intro j u hu
  rw [← flat_drop (fun e he => (h.rows e he).1) i, List.getElem?_drop] at hu
  have h1 := h.own.cells (g := g) (by rw [hv]; rfl) (i * size + j) u hu
  have hadd : (⟨g, 0, none⟩ : Addr).add (i * size + j) = (⟨g, i * size, none⟩ : Addr).add j := by unfold Addr.add; split <;> split <;> simp_all
  rw [← hadd]
  exact h1
end Go.Proofs.YtjjmoaaongnjiaaGreatDoor
