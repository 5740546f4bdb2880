/- Maps keyed by ints, whatever their elements: what a block of one tells, and the operations on it. No condition of its own. -/
import Derived.Test.YthnolkbolmbkdaaOnly
import Derived.Maps.OwnSet
import Derived.Maps.OwnOps
namespace Go.Proofs.Ythnolkbolmbkdaa
open Go.ChangeShapes Go.WideShapes Go.ChangeAt Go.RowKit
open Go.Maps (Keyed)
set_option linter.unusedVariables false

/-- an element read as it stands -/
def anyElem (v : Value) : Option (DataW Value × List MemPlace) := some (.held v, [])
/-- block b is a map keyed by ints: f tells what is at each, n are there -/
def MapI (w : World) (P : Program) (K : TypeId) (b : Nat) (f : Int → Option Value) (n : Nat) : Prop :=
  ∃ D : DataW Value, w.ownsMap P K anyElem b n D ∧ Maps.size D = n ∧ (∀ k : Int, Maps.has D (.int .i64 k) = (f k).isSome) ∧ ∀ (k : Int) v, f k = some v → ∀ z, D.atKey (.int .i64 k) z = .held v

variable {P : Program} {K : TypeId} {w w1 : World} {b n : Nat} {f : Int → Option Value}
theorem ownsMap_exact {D : DataW Value} (h : w.ownsMap P K anyElem b n D) : w.ownsMap P K anyElem b (Maps.size D) D := by
  obtain ⟨es, clock, hb, F, hs, rfl⟩ := h
  exact ⟨es, clock, hb, F, by simp [Maps.size, length_sorted], rfl⟩
theorem MapI.made (w : World) (P : Program) (K : TypeId) : MapI (w.alloc (.map #[] 0)) P K w.heap.size (fun _ => none) 0 :=
  ⟨.map [], World.ownsMap_made w P K anyElem, rfl, fun _ => rfl, fun _ _ h => by cases h⟩
theorem MapI.made_at {w : World} {g : Nat} (P : Program) (K : TypeId) (h : g = w.heap.size) : MapI (w.alloc (.map #[] 0)) P K g (fun _ => none) 0 := by
  subst h; exact MapI.made w P K
theorem MapI.lt (h : MapI w P K b f n) : b < w.heap.size := by
  obtain ⟨D, h, _⟩ := h
  exact h.lt
theorem MapI.kept {row : Option Nat} (h : MapI w P K b f n) (hg : w.grownBy w1 row) (hne : some b ≠ row) : MapI w1 P K b f n := by
  obtain ⟨D, h, r⟩ := h
  exact ⟨D, h.kept hg hne, r⟩
theorem MapI.alloc (h : MapI w P K b f n) (o : Obj) : MapI (w.alloc o) P K b f n := h.kept (World.grownBy_alloc w o none) (by simp)
theorem MapI.drew (h : MapI w P K b f n) : MapI w.drew P K b f n := h
theorem MapI.drewN (h : MapI w P K b f n) (m : Nat) : MapI (w.drewN m) P K b f n := h
theorem MapI.later (h : MapI w P K b f n) (hb : Below w.heap.size w w1) : MapI w1 P K b f n :=
  h.kept (row := none) ⟨hb.os, hb.tape, hb.output, hb.size, fun i hi _ => hb.block i hi⟩ (by simp)
theorem MapI.only {g : Nat} (h : MapI w P K b f n) (k : Only w w1 g) (hne : b ≠ g) : MapI w1 P K b f n := h.kept k (by simpa using hne)
theorem MapI.set (h : MapI w P K b f n) {p : Addr} (hne : b ≠ p.block) (u : Value) : MapI (w.setCell p u) P K b f n := by
  obtain ⟨D, h, r⟩ := h
  exact ⟨D, h.setCell hne u, r⟩

theorem keyI (hK : P.underlying K = some (.int .i64)) {k : Int} (hw : (Lit.int .i64 k).wf = true) : keyOf P K (.int .i64 k) = some (.int .i64 k) := Maps.keyOf_int_mk hK hw

theorem MapI.look (h : MapI w P K b f n) (hK : P.underlying K = some (.int .i64)) {T E : TypeId} (hT : P.underlying T = some (.map K E)) {z : Value} (hz : (zeroValue E).run P w = .ok z w) {k : Int} (hw : (Lit.int .i64 k).wf = true) {r : Option Value} (hr : f k = r) :
    (Instr.lookup T (.map (some b)) (.int .i64 k) true).run P w = .ok (.tuple #[r.getD z, .bool r.isSome]) w := by
  subst hr
  obtain ⟨D, ho, _, hh, ha⟩ := h
  obtain ⟨v, ps, hrun, hv⟩ := ho.look_ok (Maps.int_keyed hK) hT hz (zd := .held z) (zp := []) rfl (keyI hK hw)
  rw [hrun, hh k]
  have hv' : (DataW.held v : DataW Value) = D.atKey (.int .i64 k) (.held z) := by
    unfold anyElem at hv
    simp only [Option.some.injEq, Prod.mk.injEq] at hv
    exact hv.1
  cases hf : f k with
  | none =>
    have hno : Maps.has D (.int .i64 k) = false := by rw [hh k, hf]; rfl
    rw [Maps.atKey_of_not_has hno] at hv'
    injection hv' with hv'
    rw [hv']
    rfl
  | some u =>
    rw [ha k u hf] at hv'
    injection hv' with hv'
    rw [hv']
    rfl
theorem MapI.look1 (h : MapI w P K b f n) (hK : P.underlying K = some (.int .i64)) {T E : TypeId} (hT : P.underlying T = some (.map K E)) {z : Value} (hz : (zeroValue E).run P w = .ok z w) {k : Int} (hw : (Lit.int .i64 k).wf = true) {r : Option Value} (hr : f k = r) :
    (Instr.lookup T (.map (some b)) (.int .i64 k) false).run P w = .ok (r.getD z) w := by
  subst hr
  obtain ⟨D, ho, _, hh, ha⟩ := h
  obtain ⟨v, ps, hrun, hv⟩ := ho.lookup (Maps.int_keyed hK) hT hz (zd := .held z) (zp := []) rfl (keyI hK hw)
  rw [hrun]
  have hv' : (DataW.held v : DataW Value) = D.atKey (.int .i64 k) (.held z) := by
    unfold anyElem at hv
    simp only [Option.some.injEq, Prod.mk.injEq] at hv
    exact hv.1
  cases hf : f k with
  | none =>
    have hno : Maps.has D (.int .i64 k) = false := by rw [hh k, hf]; rfl
    rw [Maps.atKey_of_not_has hno] at hv'
    injection hv' with hv'
    rw [hv']
    rfl
  | some u =>
    rw [ha k u hf] at hv'
    injection hv' with hv'
    rw [hv']
    rfl
/-- f with v at k -/
def putI (f : Int → Option Value) (k : Int) (v : Value) (j : Int) : Option Value := if j = k then some v else f j
/-- f without k -/
def delI (f : Int → Option Value) (k : Int) (j : Int) : Option Value := if j = k then none else f j
theorem MapI.store (h : MapI w P K b f n) (hK : P.underlying K = some (.int .i64)) {T E : TypeId} (hT : P.underlying T = some (.map K E)) (hn : n < maxLen) {k : Int} (hw : (Lit.int .i64 k).wf = true) (v : Value) :
    ∃ w', (Instr.mapUpdate T (.map (some b)) (.int .i64 k) v).run P w = .ok () w' ∧ MapI w' P K b (putI f k v) (if (f k).isSome then n else n + 1) ∧ w.mapTurned w' b := by
  obtain ⟨D, ho, hs, hh, ha⟩ := h
  obtain ⟨w', hrun, ho', ht⟩ := ho.store (Maps.int_keyed hK) hT hn (keyI hK hw) (show anyElem v = some (.held v, []) from rfl)
  have hm := ho.isMap
  have hsz : Maps.size (D.put (.int .i64 k) (.held v)) = if (f k).isSome then n else n + 1 := by
    rw [Maps.size_put (ho.tidy (Maps.int_keyed hK)), hh k, hs]
  refine ⟨w', hrun, ⟨D.put (.int .i64 k) (.held v), by rw [← hsz]; exact ownsMap_exact ho', hsz, fun j => ?_, fun j u hj z => ?_⟩, ht⟩
  · unfold putI
    split
    · rename_i e
      subst e
      rw [Maps.has_put_same hm (show WideAt.IsKeyLit (.int .i64 j) from trivial)]
      rfl
    · rename_i e
      rw [Maps.has_put_other (by intro h; injection h with _ h; exact e h), hh j]
  · unfold putI at hj
    split at hj
    · rename_i e
      subst e
      injection hj with hj
      rw [Maps.atKey_put_same hm (show WideAt.IsKeyLit (.int .i64 j) from trivial), hj]
    · rename_i e
      rw [Maps.atKey_put_other (by intro h; injection h with _ h; exact e h)]
      exact ha j u hj z
theorem MapI.drop (h : MapI w P K b f n) (hK : P.underlying K = some (.int .i64)) {T E : TypeId} (hT : P.underlying T = some (.map K E)) {k : Int} (hw : (Lit.int .i64 k).wf = true) (ty : TypeId) :
    ∃ w', (Builtin.delete_ #[T, K] ty #[.map (some b), .int .i64 k]).run P w = .ok (.tuple #[]) w' ∧ MapI w' P K b (delI f k) (if (f k).isSome then n - 1 else n) ∧ w.mapTurned w' b := by
  obtain ⟨D, ho, hs, hh, ha⟩ := h
  obtain ⟨w', hrun, ho', ht⟩ := ho.drop (Maps.int_keyed hK) hT (keyI hK hw) ty
  have hsz : Maps.size (D.del (.int .i64 k)) = if (f k).isSome then n - 1 else n := by
    have := Maps.size_del (ho.tidy (Maps.int_keyed hK)) (k := .int .i64 k)
    rw [hh k, hs] at this
    split <;> rename_i e <;> simp only [e] at this <;> simp at this <;> omega
  refine ⟨w', hrun, ⟨D.del (.int .i64 k), by rw [← hsz]; exact ownsMap_exact ho', hsz, fun j => ?_, fun j u hj z => ?_⟩, ht⟩
  · unfold delI
    split
    · rename_i e
      subst e
      rw [Maps.has_del_same]
      rfl
    · rename_i e
      rw [Maps.has_del_other (by intro h; injection h with _ h; exact e h), hh j]
  · unfold delI at hj
    split at hj
    · cases hj
    · rename_i e
      rw [Maps.atKey_del_other (by intro h; injection h with _ h; exact e h)]
      exact ha j u hj z
theorem MapI.len (h : MapI w P K b f n) {T E : TypeId} (hT : P.underlying T = some (.map K E)) (ty : TypeId) : (Builtin.len_ #[T] ty #[.map (some b)]).run P w = .ok (.int .i64 n) w := by
  obtain ⟨D, ho, hs, _⟩ := h
  rw [ho.len hT ty, hs]
theorem turned_only {w w' : World} {b : Nat} (h : w.mapTurned w' b) : Only w w' b := h.grown

/-! at the operation, for the walk -/
section
variable {ops : Array Oper} {rest : List Oper} {o : Oper} {a : Act} {Q : Exit → Act → World → Prop}
theorem wpList_look_I (w : World) (hg : o.guard = none) (m x : Operand) (T : TypeId) (hop : o.op = Op.lookup T m x true)
    (K E : TypeId) (hK : P.underlying K = some (.int .i64)) (hT : P.underlying T = some (.map K E)) {z : Value} (hz : (zeroValue E).run P w = .ok z w) (b n : Nat) (f : Int → Option Value)
    (hm : a.eval m = .map (some b)) (hown : MapI w P K b f n) (k : Int) (hx : a.eval x = .int .i64 k) (hw : (Lit.int .i64 k).wf = true) (r : Option Value) (hr : f k = r)
    (hk : wpList P ops Q rest (a.put o.dst (.tuple #[r.getD z, .bool r.isSome])) w) : wpList P ops Q (o :: rest) a w := by
  refine wpList_plain hg fun K' hK' => ?_
  have hrun := hown.look hK hT hz hw hr
  unfold Oper.wp
  simp [execOp, hop, hm, hx, hrun, Result.andThen]
  exact hK' _ _ hk
theorem wpList_look1_I (w : World) (hg : o.guard = none) (m x : Operand) (T : TypeId) (hop : o.op = Op.lookup T m x false)
    (K E : TypeId) (hK : P.underlying K = some (.int .i64)) (hT : P.underlying T = some (.map K E)) {z : Value} (hz : (zeroValue E).run P w = .ok z w) (b n : Nat) (f : Int → Option Value)
    (hm : a.eval m = .map (some b)) (hown : MapI w P K b f n) (k : Int) (hx : a.eval x = .int .i64 k) (hw : (Lit.int .i64 k).wf = true) (r : Option Value) (hr : f k = r)
    (hk : wpList P ops Q rest (a.put o.dst (r.getD z)) w) : wpList P ops Q (o :: rest) a w := by
  refine wpList_plain hg fun K' hK' => ?_
  have hrun := hown.look1 hK hT hz hw hr
  unfold Oper.wp
  simp [execOp, hop, hm, hx, hrun, Result.andThen]
  exact hK' _ _ hk
theorem wpList_store_I (w : World) (hg : o.guard = none) (m x v : Operand) (T : TypeId) (hop : o.op = Op.mapUpdate T m x v)
    (K E : TypeId) (hK : P.underlying K = some (.int .i64)) (hT : P.underlying T = some (.map K E)) (b n : Nat) (f : Int → Option Value)
    (hm : a.eval m = .map (some b)) (hown : MapI w P K b f n) (hn : n < maxLen) (k : Int) (val : Value) (hx : a.eval x = .int .i64 k) (hv : a.eval v = val) (hw : (Lit.int .i64 k).wf = true)
    (hk : ∀ w', MapI w' P K b (putI f k val) (if (f k).isSome then n else n + 1) → w.mapTurned w' b → wpList P ops Q rest (a.put o.dst undef) w') : wpList P ops Q (o :: rest) a w := by
  refine wpList_plain hg fun K' hK' => ?_
  obtain ⟨w', hrun, r1, r2⟩ := hown.store hK hT hn hw val
  unfold Oper.wp
  simp [execOp, hop, hm, hx, hv, hrun, Result.andThen]
  exact hK' _ _ (hk w' r1 r2)
theorem wpList_drop_I (w : World) (hg : o.guard = none) (m x : Operand) (T K : TypeId) (hop : o.op = Op.call { callee := Callee.builtin Builtin.delete, args := #[m, x], argTypes := #[T, K] })
    (E : TypeId) (hK : P.underlying K = some (.int .i64)) (hT : P.underlying T = some (.map K E)) (b n : Nat) (f : Int → Option Value)
    (hm : a.eval m = .map (some b)) (hown : MapI w P K b f n) (k : Int) (hx : a.eval x = .int .i64 k) (hw : (Lit.int .i64 k).wf = true)
    (hk : ∀ w', MapI w' P K b (delI f k) (if (f k).isSome then n - 1 else n) → w.mapTurned w' b → wpList P ops Q rest (a.put o.dst (.tuple #[])) w') : wpList P ops Q (o :: rest) a w := by
  refine wpList_plain hg fun K' hK' => ?_
  obtain ⟨w', hrun, r1, r2⟩ := hown.drop hK hT hw o.type
  unfold Oper.wp
  simp [execOp, hop, resolve, invoke, builtin, hm, hx, hrun, Result.andThen]
  exact hK' _ _ (hk w' r1 r2)
theorem wpList_len_I (w : World) (hg : o.guard = none) (m : Operand) (T : TypeId) (hop : o.op = Op.call { callee := Callee.builtin Builtin.len, args := #[m], argTypes := #[T] })
    (K E : TypeId) (hT : P.underlying T = some (.map K E)) (b n : Nat) (f : Int → Option Value) (hm : a.eval m = .map (some b)) (hown : MapI w P K b f n)
    (hk : wpList P ops Q rest (a.put o.dst (.int .i64 n)) w) : wpList P ops Q (o :: rest) a w := by
  refine wpList_plain hg fun K' hK' => ?_
  unfold Oper.wp
  simp [execOp, hop, resolve, invoke, builtin, hm, hown.len hT o.type, Result.andThen]
  exact hK' _ _ hk
end
end Go.Proofs.Ythnolkbolmbkdaa
