/- append onto a slice of the call's own: one element that was laid, or several that are read: laws at the operation, for a plain region and for a step of one that draws. No condition of its own. -/
import Derived.Test.YtjjmoaaongnjiaaGreatDoorOut
namespace Go.Proofs.YtjjmoaaongnjiaaGreatDoor
open Go.ChangeShapes Go.WideShapes Go.ChangeAt Go.RowKit
set_option linter.unusedVariables false

/-- what the program's tables say of a slice's type and its elements -/
structure Elem (P : Program) (t E size bytes : Nat) : Prop where
  ht : P.underlying t = some (.slice E)
  info : ∃ z : Value, z.cells.size = size ∧ (P.info? E).map (fun i => (i.zero, i.size, i.bytes)) = some (some z, size, bytes)
  pos : 0 < size
  small : bytes ≤ 1000

theorem Lst.news_take {w : World} {E size : Nat} {v : Value} {es : List (List Value)} (h : Lst w E size v es) {g n cap : Nat} (hv : v = .slice (some ⟨g, 0, none⟩) n cap) (i : Nat) : ∀ j u, (flat (es.take i))[j]? = some u → w.cell? ((⟨g, 0, none⟩ : Addr).add j) = some u := by
  intro j u hu
  rw [← flat_take (fun e he => (h.rows e he).1) i, List.getElem?_take] at hu
  split at hu
  · exact h.own.cells (g := g) (by rw [hv]; rfl) j u hu
  · cases hu

theorem Lst.empty (w : World) (E size : Nat) : Lst (w.alloc (.cells #[] E)) E size (.slice (some ⟨w.heap.size, 0, none⟩) 0 0) [] :=
  ⟨World.ownsRow_made w #[] 0 (Nat.zero_le _) (by simp [maxLen]) (by simp), by simp⟩
theorem Lst.as {w : World} {E size : Nat} {A : Option Addr} {n n' c : Nat} {es es' : List (List Value)} (h : Lst w E size (.slice A n c) es) (hn : n' = n) (he : es' = es) : Lst w E size (.slice A n' c) es' := by subst hn he; exact h

variable {P : Program} {w : World} {t E size bytes : Nat} {v : Value} {es : List (List Value)}
theorem blocks_any (A : Option Addr) (n c n' c' : Nat) : blocks (.slice A n c) = blocks (.slice A n' c') := by cases A <;> rfl
theorem blocks_nil : blocks (.slice none 0 0) = [] := rfl
theorem blocks_at (g n c : Nat) : blocks (.slice (some ⟨g, 0, none⟩) n c) = [g] := rfl

theorem run_cat (hE : Elem P t E size bytes) (hl : Lst w E size v es) (ad : Addr) (c : Nat) {ns : List (List Value)} (hns : ∀ e ∈ ns, e.length = size ∧ ∀ u ∈ e, u.oneCell' = true)
    (hnews : ∀ j u, (flat ns)[j]? = some u → w.cell? (ad.add j) = some u) (hn : es.length + ns.length ≤ 1000000) (ty : TypeId) :
    ∃ A cap w', (Builtin.append_ #[t, t] ty #[v, .slice (some ad) ns.length c]).run P w = .ok (.slice A (es.length + ns.length) cap) w' ∧ Lst w' E size (.slice A (es.length + ns.length) cap) (es ++ ns) ∧ Out w w' (blocks v) ∧
      (∀ k, k ∈ blocks (.slice A (es.length + ns.length) cap) → k ∈ blocks v ∨ k = w.heap.size) := by
  obtain ⟨z, hz, hinfo⟩ := hE.info
  obtain ⟨i, hi, hz0, hz1, hz2⟩ := info_parts hinfo
  have hbytes : (es.length + ns.length) * bytes ≤ 140737488355328 := by
    have := Nat.mul_le_mul hn hE.small
    omega
  obtain ⟨v', w', hr, h2, h3, _, h5⟩ := run_append_own_at (P := P) w 0 t ty E i z size bytes hE.ht hi hz0 hz1 hz2 hz hE.pos v es.length (flat es) hl.own ad ns.length c (flat ns) (flat_length fun e he => (hns e he).1) hnews
    (fun u hu => by obtain ⟨e, he, hu⟩ := List.mem_flatten.1 hu; exact (hns e he).2 u hu) (by unfold maxLen; omega) hbytes (Nat.zero_le _)
  have hl' : Lst w' E size v' (es ++ ns) := hl.appends hns h2
  obtain ⟨A, cap, hv', _⟩ := hl'.shape
  rw [List.length_append] at hv'
  subst hv'
  refine ⟨A, cap, w', hr, hl', Out.of_grown h3 (fun k hk => Or.inl (by rw [blocks, hk]; simp)), fun k hk => ?_⟩
  rcases h5 with h5 | h5
  · left; rw [blocks, ← h5]; exact hk
  · right; rw [blocks, h5] at hk; simpa using hk
theorem run_push (hE : Elem P t E size bytes) (hl : Lst w E size v es) (B c : Nat) {e : List Value} (he : e.length = size) (h1 : ∀ u ∈ e, u.oneCell' = true) (hB : BlockIs w B E e.toArray) (hn : es.length + 1 ≤ 1000000) (ty : TypeId) :
    ∃ g cap w', (Builtin.append_ #[t, t] ty #[v, .slice (some ⟨B, 0, none⟩) 1 c]).run P w = .ok (.slice (some ⟨g, 0, none⟩) (es.length + 1) cap) w' ∧ Lst w' E size (.slice (some ⟨g, 0, none⟩) (es.length + 1) cap) (es ++ [e]) ∧ Out w w' (blocks v) ∧
      (g ∈ blocks v ∨ g = w.heap.size) ∧ g < w'.heap.size := by
  obtain ⟨A, cap, w', hr, h2, h3, h4⟩ := run_cat (ns := [e]) hE hl ⟨B, 0, none⟩ c (by intro x hx; rw [List.mem_singleton.1 hx]; exact ⟨he, h1⟩)
    (by intro j u hu; have hu' : e[j]? = some u := by simpa [flat] using hu
        exact World.news_of_block (cs := e.toArray) hB j u hu') hn ty
  obtain ⟨A', cap', hv', _, _, hA⟩ := h2.shape
  simp only [List.length_append, List.length_cons, List.length_nil, Nat.zero_add, Value.slice.injEq] at hv'
  obtain ⟨rfl, _, rfl⟩ := hv'
  rcases hA with ⟨_, h0, _⟩ | ⟨g, rfl⟩
  · simp at h0
  · refine ⟨g, cap, w', hr, h2, h3, h4 g (by simp [Value.ownBlock]), h2.lt g (by simp [Value.ownBlock])⟩

section
variable {ops : Array Oper} {rest : List Oper} {o : Oper} {a : Act} {Q : Exit → Act → World → Prop} {K : Act → World → Prop}
theorem wp_push (s x : Operand) (t : TypeId) (ho : o.op = .call { callee := .builtin .append, args := #[s, x], argTypes := #[t, t] })
    (E size bytes : Nat) (hE : Elem P t E size bytes) (v : Value) (es : List (List Value)) (hs : a.eval s = v) (hl : Lst w E size v es) (B c : Nat) (e : List Value) (hx : a.eval x = .slice (some ⟨B, 0, none⟩) 1 c) (he : e.length = size) (h1 : ∀ u ∈ e, u.oneCell' = true)
    (hB : BlockIs w B E e.toArray) (hn : es.length + 1 ≤ 1000000)
    (h : ∀ g cap w', Lst w' E size (.slice (some ⟨g, 0, none⟩) (es.length + 1) cap) (es ++ [e]) → Out w w' (blocks v) → (g ∈ blocks v ∨ g = w.heap.size) → g < w'.heap.size → K (a.put o.dst (.slice (some ⟨g, 0, none⟩) (es.length + 1) cap)) w') : o.wp P a w K Q := by
  obtain ⟨g, cap, w', hr, h2, h3, h4, h5⟩ := run_push (P := P) hE hl B c he h1 hB hn o.type
  unfold Oper.wp execOp
  simp only [ho, resolve, invoke, builtin, Sem.run_bind, Sem.run_pure, Result.andThen_ok, List.map_toArray, List.map_cons, List.map_nil, hs, hx, hr]
  exact h g cap w' h2 h3 h4 h5
theorem wpList_push (hgd : o.guard = none) (s x : Operand) (t : TypeId) (ho : o.op = .call { callee := .builtin .append, args := #[s, x], argTypes := #[t, t] })
    (E size bytes : Nat) (hE : Elem P t E size bytes) (v : Value) (es : List (List Value)) (hs : a.eval s = v) (hl : Lst w E size v es) (B c : Nat) (e : List Value) (hx : a.eval x = .slice (some ⟨B, 0, none⟩) 1 c) (he : e.length = size) (h1 : ∀ u ∈ e, u.oneCell' = true)
    (hB : BlockIs w B E e.toArray) (hn : es.length + 1 ≤ 1000000)
    (h : ∀ g cap w', Lst w' E size (.slice (some ⟨g, 0, none⟩) (es.length + 1) cap) (es ++ [e]) → Out w w' (blocks v) → (g ∈ blocks v ∨ g = w.heap.size) → g < w'.heap.size → wpList P ops Q rest (a.put o.dst (.slice (some ⟨g, 0, none⟩) (es.length + 1) cap)) w') : wpList P ops Q (o :: rest) a w :=
  wpList_plain hgd fun _ hK => wp_push s x t ho E size bytes hE v es hs hl B c e hx he h1 hB hn fun g cap w' h2 h3 h4 h5 => hK _ _ (h g cap w' h2 h3 h4 h5)
theorem step_push {X : Prop} (hgd : o.guard = none) (s x : Operand) (t : TypeId) (ho : o.op = .call { callee := .builtin .append, args := #[s, x], argTypes := #[t, t] })
    (E size bytes : Nat) (hE : Elem P t E size bytes) (v : Value) (es : List (List Value)) (hs : a.eval s = v) (hl : Lst w E size v es) (B c : Nat) (e : List Value) (hx : a.eval x = .slice (some ⟨B, 0, none⟩) 1 c) (he : e.length = size) (h1 : ∀ u ∈ e, u.oneCell' = true)
    (hB : BlockIs w B E e.toArray) (hn : es.length + 1 ≤ 1000000)
    (h : ∀ g cap w', Lst w' E size (.slice (some ⟨g, 0, none⟩) (es.length + 1) cap) (es ++ [e]) → Out w w' (blocks v) → (g ∈ blocks v ∨ g = w.heap.size) → g < w'.heap.size → K (a.put o.dst (.slice (some ⟨g, 0, none⟩) (es.length + 1) cap)) w') :
    if Region.wanted o (yielded ops a.tmps) = true then Oper.wp P o a w K Q else X := by
  have hw : Region.wanted o (yielded ops a.tmps) = true := by simp [Region.wanted, hgd]
  rw [if_pos hw]
  exact wp_push s x t ho E size bytes hE v es hs hl B c e hx he h1 hB hn h

theorem wp_cat (s x : Operand) (t : TypeId) (ho : o.op = .call { callee := .builtin .append, args := #[s, x], argTypes := #[t, t] })
    (E size bytes : Nat) (hE : Elem P t E size bytes) (v : Value) (es : List (List Value)) (hs : a.eval s = v) (hl : Lst w E size v es) (ad : Addr) (m c : Nat) (ns : List (List Value)) (hx : a.eval x = .slice (some ad) m c) (hm : ns.length = m) (hns : ∀ e ∈ ns, e.length = size ∧ ∀ u ∈ e, u.oneCell' = true)
    (hnews : ∀ j u, (flat ns)[j]? = some u → w.cell? (ad.add j) = some u) (hn : es.length + ns.length ≤ 1000000)
    (h : ∀ A cap w', Lst w' E size (.slice A (es.length + m) cap) (es ++ ns) → Out w w' (blocks v) → (∀ k, k ∈ blocks (.slice A (es.length + m) cap) → k ∈ blocks v ∨ k = w.heap.size) → K (a.put o.dst (.slice A (es.length + m) cap)) w') : o.wp P a w K Q := by
  subst hm
  obtain ⟨A, cap, w', hr, h2, h3, h4⟩ := run_cat (P := P) hE hl ad c hns hnews hn o.type
  unfold Oper.wp execOp
  simp only [ho, resolve, invoke, builtin, Sem.run_bind, Sem.run_pure, Result.andThen_ok, List.map_toArray, List.map_cons, List.map_nil, hs, hx, hr]
  exact h A cap w' h2 h3 h4
theorem wpList_cat (hgd : o.guard = none) (s x : Operand) (t : TypeId) (ho : o.op = .call { callee := .builtin .append, args := #[s, x], argTypes := #[t, t] })
    (E size bytes : Nat) (hE : Elem P t E size bytes) (v : Value) (es : List (List Value)) (hs : a.eval s = v) (hl : Lst w E size v es) (ad : Addr) (m c : Nat) (ns : List (List Value)) (hx : a.eval x = .slice (some ad) m c) (hm : ns.length = m) (hns : ∀ e ∈ ns, e.length = size ∧ ∀ u ∈ e, u.oneCell' = true)
    (hnews : ∀ j u, (flat ns)[j]? = some u → w.cell? (ad.add j) = some u) (hn : es.length + ns.length ≤ 1000000)
    (h : ∀ A cap w', Lst w' E size (.slice A (es.length + m) cap) (es ++ ns) → Out w w' (blocks v) → (∀ k, k ∈ blocks (.slice A (es.length + m) cap) → k ∈ blocks v ∨ k = w.heap.size) → wpList P ops Q rest (a.put o.dst (.slice A (es.length + m) cap)) w') : wpList P ops Q (o :: rest) a w :=
  wpList_plain hgd fun _ hK => wp_cat s x t ho E size bytes hE v es hs hl ad m c ns hx hm hns hnews hn fun A cap w' h2 h3 h4 => hK _ _ (h A cap w' h2 h3 h4)
theorem step_cat {X : Prop} (hgd : o.guard = none) (s x : Operand) (t : TypeId) (ho : o.op = .call { callee := .builtin .append, args := #[s, x], argTypes := #[t, t] })
    (E size bytes : Nat) (hE : Elem P t E size bytes) (v : Value) (es : List (List Value)) (hs : a.eval s = v) (hl : Lst w E size v es) (ad : Addr) (m c : Nat) (ns : List (List Value)) (hx : a.eval x = .slice (some ad) m c) (hm : ns.length = m) (hns : ∀ e ∈ ns, e.length = size ∧ ∀ u ∈ e, u.oneCell' = true)
    (hnews : ∀ j u, (flat ns)[j]? = some u → w.cell? (ad.add j) = some u) (hn : es.length + ns.length ≤ 1000000)
    (h : ∀ A cap w', Lst w' E size (.slice A (es.length + m) cap) (es ++ ns) → Out w w' (blocks v) → (∀ k, k ∈ blocks (.slice A (es.length + m) cap) → k ∈ blocks v ∨ k = w.heap.size) → K (a.put o.dst (.slice A (es.length + m) cap)) w') :
    if Region.wanted o (yielded ops a.tmps) = true then Oper.wp P o a w K Q else X := by
  have hw : Region.wanted o (yielded ops a.tmps) = true := by simp [Region.wanted, hgd]
  rw [if_pos hw]
  exact wp_cat s x t ho E size bytes hE v es hs hl ad m c ns hx hm hns hnews hn h
end
end Go.Proofs.YtjjmoaaongnjiaaGreatDoor
