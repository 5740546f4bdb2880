/- plain.Told and wiresame.Error: errors.As at the target api.Errno, walked through Go's own text, after the guide's worked example over the toy toyas; then what the two functions answer, for every error that is nil or an Errno. Condition: errors.errorType holds its handle. -/
import Derived.Test.YtjjmoaaongnjiaaGreatDoorErrV
import Derived.LaidEql
import Derived.LaidLaws
import Derived.LaidHandle
import Derived.Stop.Asserts
import Derived.RowKitTokens
import Derived.WalkSpells
namespace Go.Proofs.YtjjmoaaongnjiaaGreatDoor
open Go.ChangeShapes Go.WideShapes Go.ChangeAt Go.RowKit Go.Extern.Stop Go.Stop Go.Extern
set_option linter.unusedVariables false

/-- errors.errorType holds the handle of error -/
def ETok (w : World) : Prop := w.cell? ⟨1, 0, none⟩ = some (.iface 109 (.agg #[.pointer (some ⟨7, 26, none⟩)]))
theorem ETok.lt {w : World} (h : ETok w) : 1 < w.heap.size := by
  rcases Nat.lt_or_ge 1 w.heap.size with h1 | h1
  · exact h1
  · unfold ETok at h
    simp [World.cell?, Array.getElem?_eq_none h1] at h
theorem ETok.alloc {w : World} (h : ETok w) (o : Obj) : ETok (w.alloc o) := by
  unfold ETok
  rw [World.cell?_alloc_lt _ _ ⟨1, 0, none⟩ h.lt]
  exact h
theorem ETok.drew {w : World} (h : ETok w) : ETok w.drew := h
theorem ETok.drewN {w : World} (h : ETok w) (n : Nat) : ETok (w.drewN n) := h
theorem ETok.later {w w1 : World} (h : ETok w) (hb : Below w.heap.size w w1) : ETok w1 := cell_later hb h
theorem ETok.set {w : World} (h : ETok w) {p : Addr} (hp : p.block ≠ 1) (u : Value) : ETok (w.setCell p u) := by
  unfold ETok
  rw [World.cell?_setCell_other]
  · exact h
  · rintro rfl
    exact hp rfl

/-! closed facts on the model's entries for internal/reflectlite -/
theorem Tryz.asValueOf (t : Addr) (w : World) : (ReflectliteValue.unpack (.iface 67 (.pointer (some t)))).run Tryz.prog w
    = .ok (.agg #[.pointer (some ⟨7, 67, none⟩), .pointer (some ⟨w.heap.size, 0, none⟩), .int .u64 150]) (w.alloc (.cells #[.pointer (some t)] 67)) := by kernel_rfl
theorem Tryz.asType (a : Addr) (w : World) : (ReflectliteValue.methodAny (ReflectliteValue.valueError "reflectlite.Value.Type" 0) (fun t _ _ _ => ReflectliteType.toType t) #[.agg #[.pointer (some ⟨7, 67, none⟩), .pointer (some a), .int .u64 150]]).run Tryz.prog w
    = .ok (.iface 109 (.agg #[.pointer (some ⟨7, 67, none⟩)])) w := by kernel_rfl
theorem Tryz.asMethodKind (h : Value) (w : World) : (Go.method 283 109 (.agg #[h]) "Kind").run Tryz.prog w = .ok (113, h) w := by kernel_rfl
theorem Tryz.asKindP (w : World) : ((ReflectliteType.abiMethod fun t => (fun a : Nat => Value.int IntKind.u8 (a : Int)) <$> Rtype.kind t) #[.pointer (some ⟨7, 67, none⟩)]).run Tryz.prog w = .ok (.int .u8 22) w := by kernel_rfl
theorem Tryz.asKindE (w : World) : ((ReflectliteType.abiMethod fun t => (fun a : Nat => Value.int IntKind.u8 (a : Int)) <$> Rtype.kind t) #[.pointer (some ⟨7, 46, none⟩)]).run Tryz.prog w = .ok (.int .u8 2) w := by kernel_rfl
theorem as_rlm (z : Sem Value) (f : TypeId → Addr → Nat → Nat → Sem Value) (v : Value) :
    ReflectliteValue.method z f #[v] = (do match ← ReflectliteValue.parts v with | none => z | some (t, a, fl) => f t a fl (fl % 32)) := rfl
theorem Tryz.asPartsP (a : Addr) (w : World) : (ReflectliteValue.parts (.agg #[.pointer (some ⟨7, 67, none⟩), .pointer (some a), .int .u64 150])).run Tryz.prog w = .ok (some (67, a, 150)) w := by kernel_rfl
theorem Tryz.asIsNil (a p : Addr) (W : World) (ha : W.cell? a = some (.pointer (some p))) :
    (ReflectliteValue.method (ReflectliteValue.valueError "reflectlite.Value.IsNil" 0) ReflectliteValue.isNil #[.agg #[.pointer (some ⟨7, 67, none⟩), .pointer (some a), .int .u64 150]]).run Tryz.prog W = .ok (.bool false) W := by
  rw [as_rlm]
  simp only [Sem.run_bind, Tryz.asPartsP, Result.andThen]
  simp [ReflectliteValue.isNil, loadVar, isAgg, underlying, Tryz.underlying67, ha, Result.andThen]
theorem Tryz.asMethodElem (h : Value) (w : World) : (Go.method 283 109 (.agg #[h]) "Elem").run Tryz.prog w = .ok (126, .agg #[h]) w := by kernel_rfl
theorem Tryz.asMethodImplements (h : Value) (w : World) : (Go.method 283 109 (.agg #[h]) "Implements").run Tryz.prog w = .ok (127, .agg #[h]) w := by kernel_rfl
theorem Tryz.asMethodAssignableTo (h : Value) (w : World) : (Go.method 283 109 (.agg #[h]) "AssignableTo").run Tryz.prog w = .ok (124, .agg #[h]) w := by kernel_rfl
theorem Tryz.asElem (w : World) : (ReflectliteType.method ReflectliteType.elem #[.agg #[.pointer (some ⟨7, 67, none⟩)]]).run Tryz.prog w = .ok (.iface 109 (.agg #[.pointer (some ⟨7, 46, none⟩)])) w := by kernel_rfl
theorem Tryz.asImplements (w : World) : (ReflectliteType.relation "Implements" ReflectliteType.implements_ #[.agg #[.pointer (some ⟨7, 46, none⟩)], .iface 109 (.agg #[.pointer (some ⟨7, 26, none⟩)])]).run Tryz.prog w = .ok (.bool true) w := by kernel_rfl
theorem Tryz.asTypeOf (v : Value) (w : World) : (ReflectliteType.typeOf #[.iface 46 v]).run Tryz.prog w = .ok (.iface 109 (.agg #[.pointer (some ⟨7, 46, none⟩)])) w := by kernel_rfl
theorem Tryz.asAssignable (w : World) : (ReflectliteType.relation "AssignableTo" ReflectliteType.assignableTo #[.agg #[.pointer (some ⟨7, 46, none⟩)], .iface 109 (.agg #[.pointer (some ⟨7, 46, none⟩)])]).run Tryz.prog w = .ok (.bool true) w := by kernel_rfl
theorem Tryz.asValueE (n : Int) (w : World) : (ReflectliteValue.unpack (.iface 46 (.int .i64 n))).run Tryz.prog w
    = .ok (.agg #[.pointer (some ⟨7, 46, none⟩), .pointer (some ⟨w.heap.size, 0, none⟩), .int .u64 130]) (w.alloc (.cells #[.int .i64 n] 46)) := by kernel_rfl
theorem Tryz.asElemOf (w : World) : (Rtype.elem? 67).run Tryz.prog w = .ok (some 46) w := by kernel_rfl
theorem Tryz.asMkE (p : Addr) (w : World) : (ReflectliteValue.mk 46 p ReflectliteValue.flagAddr).run Tryz.prog w = .ok (.agg #[.pointer (some ⟨7, 46, none⟩), .pointer (some p), .int .u64 386]) w := by kernel_rfl
theorem Tryz.asElemV (a p : Addr) (W : World) (ha : W.cell? a = some (.pointer (some p))) :
    (ReflectliteValue.method (ReflectliteValue.valueError "reflectlite.Value.Elem" 0) ReflectliteValue.elem #[.agg #[.pointer (some ⟨7, 67, none⟩), .pointer (some a), .int .u64 150]]).run Tryz.prog W
      = .ok (.agg #[.pointer (some ⟨7, 46, none⟩), .pointer (some p), .int .u64 386]) W := by
  rw [as_rlm]
  simp only [Sem.run_bind, Tryz.asPartsP, Result.andThen]
  simp [ReflectliteValue.elem, loadVar, isAgg, underlying, Tryz.underlying67, ha, Result.andThen, Tryz.asElemOf, Tryz.asMkE]
theorem as_rls (v x : Value) : ReflectliteValue.set #[v, x] = (do
    let (some (dst, a, fl), some (src, b, _)) := (← ReflectliteValue.parts v, ← ReflectliteValue.parts x)
      | unsupported (.noEntry "extern/(internal/reflectlite.Value).Set.zeroValue")
    if fl / ReflectliteValue.flagAddr % 2 == 0 then unsupported (.noEntry "extern/(internal/reflectlite.Value).Set.unaddressable")
    let val ← loadVar src b
    if ← Rtype.directlyAssignable dst src then storeVar dst a val
    else if ← Rtype.implements dst src then
      if (← Rtype.kind src) == 20 then
        match val with
        | .nilIface => unsupported (.noEntry "extern/reflectlite: a nil value of one interface type handed on as a value of another")
        | _ => storeVar dst a val
      else storeVar dst a (.iface src val)
    else panicString ("reflectlite.Set: value of type " ++ (← Rtype.spelt src) ++ " is not assignable to type " ++ (← Rtype.spelt dst))
    pure (.tuple #[])) := rfl
theorem Tryz.asPartsEa (a : Addr) (w : World) : (ReflectliteValue.parts (.agg #[.pointer (some ⟨7, 46, none⟩), .pointer (some a), .int .u64 386])).run Tryz.prog w = .ok (some (46, a, 386)) w := by kernel_rfl
theorem Tryz.asPartsE (a : Addr) (w : World) : (ReflectliteValue.parts (.agg #[.pointer (some ⟨7, 46, none⟩), .pointer (some a), .int .u64 130])).run Tryz.prog w = .ok (some (46, a, 130)) w := by kernel_rfl
theorem Tryz.asDirect (w : World) : (Rtype.directlyAssignable 46 46).run Tryz.prog w = .ok true w := by kernel_rfl
theorem Tryz.asSet (ta b : Addr) (n : Int) (old : Value) (W : World) (hb : W.cell? b = some (.int .i64 n)) (ht : W.cell? ta = some old) (hf : W.frozen? ta = false) :
    (ReflectliteValue.set #[.agg #[.pointer (some ⟨7, 46, none⟩), .pointer (some ta), .int .u64 386], .agg #[.pointer (some ⟨7, 46, none⟩), .pointer (some b), .int .u64 130]]).run Tryz.prog W
      = .ok (.tuple #[]) (W.setCell ta (.int .i64 n)) := by
  rw [as_rls]
  simp only [Sem.run_bind, Tryz.asPartsEa, Tryz.asPartsE, Result.andThen]
  simp [ReflectliteValue.flagAddr, loadVar, isAgg, underlying, Tryz.underlying46, hb, Result.andThen, Tryz.asDirect, storeVar, Value.cells, storeCells, Addr.add]
  rw [run_store Tryz.prog W ta _ _ (by rfl)]
  simp [ht, hf]

set_option maxHeartbeats 4000000 in
theorem as_hit (n : Int) (t : Addr) (old : Value) (w : World) (hg : ETok w) (ht0 : w.cell? t = some old) (hf0 : w.frozen? t = false) :
    Calls Tryz.prog 38 #[.iface 46 (.int .i64 n), .iface 67 (.pointer (some t))] w fun ev w' => ev = .returned (.bool true) ∧ w' = ((((w.alloc (.cells #[.pointer (some t)] 67)).alloc (.cells #[.pointer (some ⟨7, 67, none⟩), .pointer (some ⟨w.heap.size, 0, none⟩), .int .u64 150] 81)).alloc (.cells #[.pointer (some ⟨7, 67, none⟩), .pointer (some ⟨w.heap.size, 0, none⟩), .int .u64 150] 81)).alloc (.cells #[.int .i64 n] 46)).setCell t (.int .i64 n) := by
  have h6 := @run_callFunc_extern Tryz.prog 50 _ (fun args => ReflectliteValue.unpack (args.getD 0 (.tuple #[]))) Tryz.func50 (by kernel_rfl) (by kernel_rfl) (by kernel_rfl) (by kernel_rfl)
  have h7 := @run_callFunc_extern Tryz.prog 51 _ (ReflectliteValue.methodAny (ReflectliteValue.valueError "reflectlite.Value.Type" 0) (fun t _ _ _ => ReflectliteType.toType t)) Tryz.func51 (by kernel_rfl) (by kernel_rfl) (by kernel_rfl) (by kernel_rfl)
  have h8 := @run_callFunc_extern Tryz.prog 52 _ (ReflectliteValue.method (ReflectliteValue.valueError "reflectlite.Value.IsNil" 0) ReflectliteValue.isNil) Tryz.func52 (by kernel_rfl) (by kernel_rfl) (by kernel_rfl) (by kernel_rfl)
  have h27 := @run_callFunc_extern Tryz.prog 113 _ (ReflectliteType.abiMethod fun t => do pure (.int .u8 (← Rtype.kind t))) Tryz.func113 (by kernel_rfl) (by kernel_rfl) (by kernel_rfl) (by kernel_rfl)
  have h37 := @run_callFunc_extern Tryz.prog 126 _ (ReflectliteType.method ReflectliteType.elem) Tryz.func126 (by kernel_rfl) (by kernel_rfl) (by kernel_rfl) (by kernel_rfl)
  have h38 := @run_callFunc_extern Tryz.prog 127 _ (ReflectliteType.relation "Implements" ReflectliteType.implements_) Tryz.func127 (by kernel_rfl) (by kernel_rfl) (by kernel_rfl) (by kernel_rfl)
  have h10 := @run_callFunc_extern Tryz.prog 68 _ ReflectliteType.typeOf Tryz.func68 (by kernel_rfl) (by kernel_rfl) (by kernel_rfl) (by kernel_rfl)
  have h35 := @run_callFunc_extern Tryz.prog 124 _ (ReflectliteType.relation "AssignableTo" ReflectliteType.assignableTo) Tryz.func124 (by kernel_rfl) (by kernel_rfl) (by kernel_rfl) (by kernel_rfl)
  have h11 := @run_callFunc_extern Tryz.prog 69 _ (ReflectliteValue.method (ReflectliteValue.valueError "reflectlite.Value.Elem" 0) ReflectliteValue.elem) Tryz.func69 (by kernel_rfl) (by kernel_rfl) (by kernel_rfl) (by kernel_rfl)
  have h12 := @run_callFunc_extern Tryz.prog 70 _ ReflectliteValue.set Tryz.func70 (by kernel_rfl) (by kernel_rfl) (by kernel_rfl) (by kernel_rfl)
  have tO := Tryz.asTypeOf
  have mA := Tryz.asMethodAssignableTo
  have a25 := Tryz.asAssignable
  have v25 := Tryz.asValueE
  have f6 := Tryz.asValueOf
  have f7 := Tryz.asType
  have mK := Tryz.asMethodKind
  have mE := Tryz.asMethodElem
  have mI := Tryz.asMethodImplements
  have k27 := Tryz.asKindP
  have k25 := Tryz.asKindE
  have e27 := Tryz.asElem
  have i25 := Tryz.asImplements
  have n8 := Tryz.asIsNil ⟨w.heap.size, 0, none⟩ t ((w.alloc (.cells #[.pointer (some t)] 67)).alloc (.cells #[.pointer (some ⟨7, 67, none⟩), .pointer (some ⟨w.heap.size, 0, none⟩), .int .u64 150] 81)) (by simp)
  have hg2 : ((w.alloc (.cells #[.pointer (some t)] 67)).alloc (.cells #[.pointer (some ⟨7, 67, none⟩), .pointer (some ⟨w.heap.size, 0, none⟩), .int .u64 150] 81)).cell? ⟨1, 0, none⟩ = some (.iface 109 (.agg #[.pointer (some ⟨7, 26, none⟩)])) :=
    (hg.alloc _).alloc _
  have htl : t.block < w.heap.size := by
    rcases Nat.lt_or_ge t.block w.heap.size with h | h
    · exact h
    · simp [World.cell?, Array.getElem?_eq_none h] at ht0
  have el := Tryz.asElemV ⟨w.heap.size, 0, none⟩ t (((w.alloc (.cells #[.pointer (some t)] 67)).alloc (.cells #[.pointer (some ⟨7, 67, none⟩), .pointer (some ⟨w.heap.size, 0, none⟩), .int .u64 150] 81)).alloc (.cells #[.pointer (some ⟨7, 67, none⟩), .pointer (some ⟨w.heap.size, 0, none⟩), .int .u64 150] 81)) (by rw [World.cell?_alloc_lt _ _ ⟨w.heap.size, 0, none⟩ (by simp; omega)]; simp)
  have st := Tryz.asSet t ⟨w.heap.size + 1 + 1 + 1, 0, none⟩ n old ((((w.alloc (.cells #[.pointer (some t)] 67)).alloc (.cells #[.pointer (some ⟨7, 67, none⟩), .pointer (some ⟨w.heap.size, 0, none⟩), .int .u64 150] 81)).alloc (.cells #[.pointer (some ⟨7, 67, none⟩), .pointer (some ⟨w.heap.size, 0, none⟩), .int .u64 150] 81)).alloc (.cells #[.int .i64 n] 46))
    (by rw [World.cell?_alloc_at _ _ _ _ (by simp)]; rfl)
    (by rw [World.cell?_alloc_lt _ _ t (by simp; omega), World.cell?_alloc_lt _ _ t (by simp; omega), World.cell?_alloc_lt _ _ t (by simp; omega), World.cell?_alloc_lt _ _ t htl]; exact ht0)
    (by rw [World.frozen?_alloc_old _ _ t (by simp; omega), World.frozen?_alloc_old _ _ t (by simp; omega), World.frozen?_alloc_old _ _ t (by simp; omega), World.frozen?_alloc_old _ _ t (Nat.ne_of_lt htl)]; exact hf0)
  clear hg
  go_enter Tryz.func38, Tryz.ntmps38
  go_wp2
  refine wp_loop_rounds 1 ?_
  rw [rounds_succ]
  go_wp2
  go_ret
  exact ⟨rfl, rfl⟩

theorem told_nil (w : World) : Calls Tryz.prog 25 #[.nilIface] w fun e w' => e = .returned (.int .i64 0) ∧ w = w' := by
  go_enter Tryz.func25, Tryz.ntmps25
  go_wp2
  go_ret
  exact ⟨rfl, rfl⟩
/-- the world behind Told of an Errno -/
abbrev toldW (n : Int) (w : World) : World :=
  ((((w.alloc (.cells #[.int .i64 n] 46)).alloc (.cells #[.pointer (some ⟨w.heap.size, 0, none⟩)] 67)).alloc (.cells #[.pointer (some ⟨7, 67, none⟩), .pointer (some ⟨w.heap.size + 1, 0, none⟩), .int .u64 150] 81)).alloc (.cells #[.pointer (some ⟨7, 67, none⟩), .pointer (some ⟨w.heap.size + 1, 0, none⟩), .int .u64 150] 81)).alloc (.cells #[.int .i64 n] 46)
theorem toldW_below (n : Int) (w : World) : Below w.heap.size w (toldW n w) := by
  unfold toldW
  repeat (first | exact Below.refl _ _ | refine Below.alloc ?_ (by simp; omega) _ | refine Below.alloc ?_ (by simp) _)
theorem told_errno_x (n : Int) (w : World) (hg : ETok w) : Calls Tryz.prog 25 #[.iface 46 (.int .i64 n)] w fun e w' => e = .returned (.int .i64 n) ∧ toldW n w = w' := by
  have hg1 := Lib.hid hg
  clear hg
  go_enter Tryz.func25, Tryz.ntmps25
  go_wp2_with fail
  refine (as_hit n _ (.int .i64 0) _ (hg1.out.alloc _) (by simp) (by simp)).mono ?_
  rintro e w' ⟨rfl, rfl⟩
  go_wp2_with fail
  go_ret
  refine ⟨rfl, ?_⟩
  simp [toldW]
theorem told_errno (n : Int) (w : World) (hg : ETok w) : Calls Tryz.prog 25 #[.iface 46 (.int .i64 n)] w fun e w' => e = .returned (.int .i64 n) ∧ Below w.heap.size w w' :=
  (told_errno_x n w hg).mono fun _ _ hh => ⟨hh.1, hh.2 ▸ toldW_below n w⟩

theorem same_nil (e : Int) (w : World) : Calls Tryz.prog 16 #[.nilIface, .int .i64 e] w fun ev w' => ev = .returned (.bool ((0 : Int) == e)) ∧ w = w' := by
  go_enter Tryz.func16, Tryz.ntmps16
  go_wp2_with (go_at_call 25; refine (told_nil _).mono ?_; rintro e w' ⟨rfl, rfl⟩)
  go_ret
  exact ⟨rfl, rfl⟩
theorem same_iface_x (n e : Int) (w : World) (hg : ETok w) : Calls Tryz.prog 16 #[.iface 46 (.int .i64 n), .int .i64 e] w fun ev w' => ev = .returned (.bool (n == e)) ∧ toldW n w = w' := by
  have hg1 := Lib.hid hg
  clear hg
  go_enter Tryz.func16, Tryz.ntmps16
  go_wp2_with (go_at_call 25; refine (told_errno_x n _ hg1.out).mono ?_; rintro e w' ⟨rfl, rfl⟩)
  go_ret
  exact ⟨rfl, rfl⟩
theorem same_iface (n e : Int) (w : World) (hg : ETok w) : Calls Tryz.prog 16 #[.iface 46 (.int .i64 n), .int .i64 e] w fun ev w' => ev = .returned (.bool (n == e)) ∧ Below w.heap.size w w' := by
  have hg1 := Lib.hid hg
  clear hg
  go_enter Tryz.func16, Tryz.ntmps16
  go_wp2_with (go_at_call 25; refine (told_errno n _ hg1.out).mono ?_; rintro e w' ⟨rfl, hb⟩)
  go_ret
  exact ⟨rfl, hb⟩
theorem same_error (n e : Int) (w : World) (hg : ETok w) : Calls Tryz.prog 16 #[errV n, .int .i64 e] w fun ev w' => ev = .returned (.bool (n == e)) ∧ Below w.heap.size w w' := by
  by_cases hn : n = 0
  · subst hn
    rw [errV_zero]
    exact (same_nil e w).mono fun _ _ ⟨h1, h2⟩ => ⟨h1, h2 ▸ Below.refl _ _⟩
  · rw [errV_pos hn]
    exact same_iface n e w hg
/-- the numbers are alike -/
theorem same_yes (n : Int) (w : World) (hg : ETok w) : Calls Tryz.prog 16 #[errV n, .int .i64 n] w fun ev w' => ev = .returned (.bool true) ∧ Below w.heap.size w w' :=
  (same_error n n w hg).mono fun _ _ ⟨h1, h2⟩ => ⟨by rw [h1]; simp, h2⟩
end Go.Proofs.YtjjmoaaongnjiaaGreatDoor
