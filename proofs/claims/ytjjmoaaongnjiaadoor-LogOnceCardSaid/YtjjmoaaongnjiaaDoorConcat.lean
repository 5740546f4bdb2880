/- append of a slice that can be read, nil or not; slices.Concat of two slices of ranges. Condition: the slices can be read. -/
import Derived.Test.YtjjmoaaongnjiaaDoorGrow
import Derived.Deep.Upon
namespace Go.Proofs.YtjjmoaaongnjiaaDoor
open Go.ChangeShapes Go.WideShapes Go.ChangeAt Go.RowKit
set_option linter.unusedVariables false

section
variable {P : Program} {w : World} {t E size bytes : Nat} {v : Value} {es : List (List Value)}
theorem run_catR (hE : Elem P t E size bytes) (hl : Lst w E size v es) {A2 : Option Addr} {n2 c2 : Nat} {ns : List (List Value)} (hr : Rd w size (.slice A2 n2 c2) ns) (hn : es.length + ns.length ≤ 1000000) (ty : TypeId) :
    ∃ A cap w', (Builtin.append_ #[t, t] ty #[v, .slice A2 n2 c2]).run P w = .ok (.slice A (es.length + n2) cap) w' ∧ Lst w' E size (.slice A (es.length + n2) cap) (es ++ ns) ∧ Out w w' (blocks v) ∧
      (∀ k, k ∈ blocks (.slice A (es.length + n2) cap) → k ∈ blocks v ∨ k = w.heap.size) := by
  obtain ⟨A0, c0, hv0, _, _, hsh⟩ := hr.shape
  simp only [Value.slice.injEq] at hv0
  obtain ⟨rfl, rfl, rfl⟩ := hv0
  cases A2 with
  | none =>
    have hns : ns = [] := by
      cases ns with
      | nil => rfl
      | cons a b => obtain ⟨_, _, h, _⟩ := hsh (by simp); cases h
    subst hns
    obtain ⟨A, cap, rfl, hle, _, _⟩ := hl.shape
    obtain ⟨z, hz, hinfo⟩ := hE.info
    obtain ⟨i, hi, hz0, hz1, hz2⟩ := info_parts hinfo
    refine ⟨A, cap, w, run_append_nothing w t t ty E i hE.ht hi A es.length cap hle _ (Src.ofNil _ hE.ht c2), ?_, Out.refl _ _, fun k hk => Or.inl hk⟩
    rw [List.append_nil]
    exact hl
  | some ad =>
    obtain ⟨A, cap, w', h1, h2, h3, h4⟩ := run_cat hE hl ad c2 hr.rows (fun j u hu => by
      have hne : ns ≠ [] := by intro he; rw [he] at hu; simp [flat] at hu
      obtain ⟨b, off, he, hlt, hcc⟩ := hsh hne
      cases he
      have hadd : (⟨b, off, none⟩ : Addr).add j = ⟨b, off + j, none⟩ := by unfold Addr.add; split <;> simp_all
      rw [hadd]
      exact hcc j u hu) hn ty
    exact ⟨A, cap, w', h1, h2, h3, h4⟩
variable {ops : Array Oper} {rest : List Oper} {o : Oper} {a : Act} {Q : Exit → Act → World → Prop} {K : Act → World → Prop}
theorem wpList_catR (hgd : o.guard = none) (s x : Operand) (t : TypeId) (ho : o.op = .call { callee := .builtin .append, args := #[s, x], argTypes := #[t, t] })
    (E size bytes : Nat) (hE : Elem P t E size bytes) (v : Value) (es : List (List Value)) (hs : a.eval s = v) (hl : Lst w E size v es) (A2 : Option Addr) (n2 c2 : Nat) (ns : List (List Value)) (hx : a.eval x = .slice A2 n2 c2) (hr : Rd w size (.slice A2 n2 c2) ns) (hn : es.length + ns.length ≤ 1000000)
    (h : ∀ A cap w', Lst w' E size (.slice A (es.length + n2) cap) (es ++ ns) → Out w w' (blocks v) → (∀ k, k ∈ blocks (.slice A (es.length + n2) cap) → k ∈ blocks v ∨ k = w.heap.size) → wpList P ops Q rest (a.put o.dst (.slice A (es.length + n2) cap)) w') : wpList P ops Q (o :: rest) a w :=
  wpList_plain hgd fun _ hK => by
    obtain ⟨A, cap, w', h1, h2, h3, h4⟩ := run_catR (P := P) hE hl hr hn o.type
    unfold Oper.wp execOp
    simp only [ho, resolve, invoke, builtin, Sem.run_bind, Sem.run_pure, Result.andThen_ok, List.map_toArray, List.map_cons, List.map_nil, hs, hx, h1]
    exact hK _ _ (h A cap w' h2 h3 h4)
end

set_option maxHeartbeats 3200000 in
set_option maxRecDepth 100000 in
theorem rconcat (B c : Nat) (A A2 : Option Addr) (n n2 ca ca2 : Nat) (L M : List Rng) (w : World) (hn : L.length = n) (hn2 : M.length = n2) (hm : n ≤ 100) (hm2 : n2 ≤ 100) (h : Rd w 2 (.slice A n ca) (L.map rngRow)) (h2 : Rd w 2 (.slice A2 n2 ca2) (M.map rngRow)) (lB : B < w.heap.size) (c0 : w.cell? ⟨B, 0, none⟩ = some (.slice A n ca)) (c1 : w.cell? ⟨B, 1, none⟩ = some (.slice A2 n2 ca2)) :
    Calls Tryd.prog 25 #[.slice (some ⟨B, 0, none⟩) 2 c] w fun e w' => ∃ A' cap', e = .returned (.slice A' (n + n2) cap') ∧ Lst w' 31 2 (.slice A' (n + n2) cap') ((L ++ M).map rngRow) ∧ Below w.heap.size w w' ∧ ∀ k, k ∈ blocks (.slice A' 0 0) → w.heap.size ≤ k := by
  have H := Lib.hid h
  have H2 := Lib.hid h2
  have HN := Lib.hid hn
  have HN2 := Lib.hid hn2
  clear h h2 hn hn2
  have hw1 : IntKind.i64.wrap ((n : Int) + (n2 : Int)) = ((n + n2 : Nat) : Int) := by simp [IntKind.wrap, IntKind.bits, IntKind.signed]; omega
  have hng1 : decide ((n : Int) < 0) = false := by simp
  have hng2 : decide (((n + n2 : Nat) : Int) < 0) = false := by simp only [decide_eq_false_iff_not]; omega
  go_enter Tryd.func25, Tryd.ntmps25
  go_wp2_with fail
  refine wp_loop_rounds 3 ?_
  rw [rounds_succ]
  trace "A"; go_wp2_with fail
  rw [rounds_succ]
  trace "B"; go_wp2_with fail
  rw [rounds_succ]
  trace "C"; go_wp2_with (go_at_call 33; refine (rgrow (n + n2) _ (by omega)).mono ?_; rintro e w1 ⟨A1, k1, rfl, hl1, hb1, hf1⟩; have hs1 : Since w w1 := hb1; have d0 := hs1.cell lB c0; have d1 := hs1.cell lB c1; have HL1 := Lib.hid hl1; have HF1 := Lib.hid hf1; clear hl1 hf1 hb1)
  refine wp_loop_rounds 3 ?_
  rw [rounds_succ]
  trace "D"; go_wp2_with (at_builtin; refine wpList_catR rfl _ _ 22 rfl 31 2 16 Tryd.elRange (.slice A1 0 k1) [] rfl HL1.out A n ca (L.map rngRow) rfl (H.out.later hs1) (by rw [List.length_map, HN.out]; simp; omega) ?_; intro A3 k3 w3 hl3 ho3 hf3; have hs3 : Since w w3 := hs1.out' ho3 (fun k hk => HF1.out k (blocks_any A1 _ _ _ _ ▸ hk)); have e1 := hs3.cell lB c1; have HL3 : Hid (Lst w3 31 2 (.slice A3 n k3) (L.map rngRow)) := Lib.hid (by simpa using hl3); have HF3 := Lib.hid (show ∀ k, k ∈ blocks (.slice A3 0 0) → w.heap.size ≤ k from fun k hk => by rcases hf3 k (blocks_any A3 _ _ _ _ ▸ hk) with h1 | h1; exact HF1.out k (blocks_any A1 _ _ _ _ ▸ h1); rw [h1]; exact hs1.le); clear hl3 ho3 hf3)
  rw [rounds_succ]
  trace "E"; go_wp2_with (at_builtin; refine wpList_catR rfl _ _ 22 rfl 31 2 16 Tryd.elRange (.slice A3 n k3) (L.map rngRow) (by simp [Act.eval]) HL3.out A2 n2 ca2 (M.map rngRow) rfl (H2.out.later hs3) (by rw [List.length_map, List.length_map, HN.out, HN2.out]; omega) ?_; intro A5 k5 w5 hl5 ho5 hf5; have hs5 : Since w w5 := hs3.out' ho5 (fun k hk => HF3.out k (blocks_any A3 _ _ _ _ ▸ hk)); rw [List.length_map, HN.out] at hl5; have HL5 : Hid (Lst w5 31 2 (.slice A5 (n + n2) k5) ((L ++ M).map rngRow)) := Lib.hid (by rw [List.map_append]; exact hl5); have HF5 := Lib.hid (show ∀ k, k ∈ blocks (.slice A5 0 0) → w.heap.size ≤ k from fun k hk => by rcases hf5 k (blocks_any A5 _ _ _ _ ▸ hk) with h1 | h1; exact HF3.out k (blocks_any A3 _ _ _ _ ▸ h1); rw [h1]; exact hs3.le); clear hl5 ho5 hf5)
  rw [rounds_succ]
  trace "F"; go_wp2_with fail
  go_ret
  exact ⟨A5, k5, by simp [HN.out], HL5.out, (by refine Since.out ?_; repeat (first | with_reducible assumption | with_reducible exact Since.refl _ | with_reducible refine Since.later ?_ (by with_reducible assumption) | with_reducible refine Since.only ?_ (by with_reducible assumption) (by first | assumption | omega | (simp; done) | (simp; omega)) | with_reducible refine Since.alloc ?_ _ | with_reducible refine Since.drewN ?_ _ | with_reducible refine Since.drew ?_ | with_reducible refine Since.set ?_ (by first | assumption | omega | (simp; done) | (simp; omega)) _)), HF5.out⟩
end Go.Proofs.YtjjmoaaongnjiaaDoor
