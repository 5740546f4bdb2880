/- append of a slice that can be read, nil or not. No condition of its own. -/
import Derived.Test.YtjjmoaaongnjiaaGreatDoorRd
import Derived.Test.YtjjmoaaongnjiaaGreatDoorLst
import Derived.Deep.Upon
namespace Go.Proofs.YtjjmoaaongnjiaaGreatDoor
open Go.ChangeShapes Go.WideShapes Go.ChangeAt Go.RowKit
set_option linter.unusedVariables false

section
variable {P : Program} {w : World} {t E size bytes : Nat} {v : Value} {es : List (List Value)}
theorem run_catR (hE : Elem P t E size bytes) (hl : Lst w E size v es) {A2 : Option Addr} {n2 c2 : Nat} {ns : List (List Value)} (hr : Rd w size (.slice A2 n2 c2) ns) (hn : es.length + ns.length ≤ 1000000) (ty : TypeId) :
    ∃ A cap w', (Builtin.append_ #[t, t] ty #[v, .slice A2 n2 c2]).run P w = .ok (.slice A (es.length + n2) cap) w' ∧ Lst w' E size (.slice A (es.length + n2) cap) (es ++ ns) ∧ Out w w' (blocks v) ∧
      (∀ k, k ∈ blocks (.slice A (es.length + n2) cap) → k ∈ blocks v ∨ k = w.heap.size) := by
  obtain ⟨A0, c0, hv0, _, _, hsh⟩ := hr.shape
  simp only [Value.slice.injEq] at hv0
  obtain ⟨rfl, rfl, rfl⟩ := hv0
  cases A2 with
  | none =>
    have hns : ns = [] := by
      cases ns with
      | nil => rfl
      | cons a b => obtain ⟨_, _, h, _⟩ := hsh (by simp); cases h
    subst hns
    obtain ⟨A, cap, rfl, hle, _, _⟩ := hl.shape
    obtain ⟨z, hz, hinfo⟩ := hE.info
    obtain ⟨i, hi, hz0, hz1, hz2⟩ := info_parts hinfo
    refine ⟨A, cap, w, run_append_nothing w t t ty E i hE.ht hi A es.length cap hle _ (Src.ofNil _ hE.ht c2), ?_, Out.refl _ _, fun k hk => Or.inl hk⟩
    rw [List.append_nil]
    exact hl
  | some ad =>
    obtain ⟨A, cap, w', h1, h2, h3, h4⟩ := run_cat hE hl ad c2 hr.rows (fun j u hu => by
      have hne : ns ≠ [] := by intro he; rw [he] at hu; simp [flat] at hu
      obtain ⟨b, off, he, hlt, hcc⟩ := hsh hne
      cases he
      have hadd : (⟨b, off, none⟩ : Addr).add j = ⟨b, off + j, none⟩ := by unfold Addr.add; split <;> simp_all
      rw [hadd]
      exact hcc j u hu) hn ty
    exact ⟨A, cap, w', h1, h2, h3, h4⟩
variable {ops : Array Oper} {rest : List Oper} {o : Oper} {a : Act} {Q : Exit → Act → World → Prop} {K : Act → World → Prop}
theorem wpList_catR (hgd : o.guard = none) (s x : Operand) (t : TypeId) (ho : o.op = .call { callee := .builtin .append, args := #[s, x], argTypes := #[t, t] })
    (E size bytes : Nat) (hE : Elem P t E size bytes) (v : Value) (es : List (List Value)) (hs : a.eval s = v) (hl : Lst w E size v es) (A2 : Option Addr) (n2 c2 : Nat) (ns : List (List Value)) (hx : a.eval x = .slice A2 n2 c2) (hr : Rd w size (.slice A2 n2 c2) ns) (hn : es.length + ns.length ≤ 1000000)
    (h : ∀ A cap w', Lst w' E size (.slice A (es.length + n2) cap) (es ++ ns) → Out w w' (blocks v) → (∀ k, k ∈ blocks (.slice A (es.length + n2) cap) → k ∈ blocks v ∨ k = w.heap.size) → wpList P ops Q rest (a.put o.dst (.slice A (es.length + n2) cap)) w') : wpList P ops Q (o :: rest) a w :=
  wpList_plain hgd fun _ hK => by
    obtain ⟨A, cap, w', h1, h2, h3, h4⟩ := run_catR (P := P) hE hl hr hn o.type
    unfold Oper.wp execOp
    simp only [ho, resolve, invoke, builtin, Sem.run_bind, Sem.run_pure, Result.andThen_ok, List.map_toArray, List.map_cons, List.map_nil, hs, hx, h1]
    exact hK _ _ (h A cap w' h2 h3 h4)
end
end Go.Proofs.YtjjmoaaongnjiaaGreatDoor
