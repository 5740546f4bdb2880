/- Contracts and plain laws that the claim leans on, part 1 of 10: each part has its own word. No condition beside theirs. -/
import Derived.Test.YtmfbaijbigodkaaGreatDoorBase
import Derived.Test.YtmfbaijbigodkaaGreatDoorOnly
import Derived.Test.YtmfbaijbigodkaaGreatDoorMay
import Derived.Test.YtmfbaijbigodkaaGreatDoorCredit
import Derived.LaidEql
import Derived.LaidLaws
import Derived.LaidHandle
import Derived.Stop.Asserts
import Derived.RowKitTokens
import Derived.WalkSpells
import Derived.Deep.DeepHandedRow
import Derived.Lib.LaidTab
import Derived.ChangeSame
import Derived.StillTail
import Derived.StillTactics
import Derived.OrdersIn
import Derived.TacticsIn
import Derived.Deep.RegionHeld
import Derived.Maps.AppendAt
import Derived.Deep.AppendLies
import Derived.Deep.QuietTactic
import Derived.BigQuiet
import Derived.Deep.Matrix
import Derived.Deep.Strs
import Derived.SliceStrings
import Derived.Deep.SlicePairs
import Derived.Shelf.Strings.Builder1
import Derived.Lib.SmallJoins
import Derived.Laws.BytesString
import Derived.RangeFuncFrom
import Derived.RangeFuncNested
import Derived.RangeFuncBound
import Derived.RangeFuncCalls
import Derived.RangeFuncLeaves
import Derived.Shelf.Abstract
import Derived.Shelf.RegionOpen
import Derived.WalkKit
import Derived.OwnWalkIn
import Derived.TacticsInMore
import Derived.LoopNIn
import Derived.LoopIn
set_option maxHeartbeats 40000000
set_option maxRecDepth 100000
namespace Go.Proofs.YtmfbaijbigodkaaGreatDoor
open Go.ChangeShapes Go.WideShapes Go.ChangeAt Go.RowKit
set_option linter.unusedVariables false
def errV (n : Int) : Value := if n = 0 then .nilIface else .iface 84 (.int .i64 n)
theorem errV_zero : errV 0 = .nilIface := rfl
theorem errV_pos {n : Int} (h : n ≠ 0) : errV n = .iface 84 (.int .i64 n) := by unfold errV; rw [if_neg h]
end Go.Proofs.YtmfbaijbigodkaaGreatDoor
namespace Go.Proofs.YtmfbaijbigodkaaGreatDoor
open Go.ChangeShapes Go.WideShapes Go.ChangeAt Go.RowKit Go.Extern.Stop Go.Stop Go.Extern
set_option linter.unusedVariables false
def ETok (w : World) : Prop := w.cell? ⟨0, 0, none⟩ = some (.iface 216 (.agg #[.pointer (some ⟨12, 27, none⟩)]))
theorem ETok.lt {w : World} (h : ETok w) : 0 < w.heap.size := by
 rcases Nat.lt_or_ge 0 w.heap.size with h1 | h1
 · exact h1
 · unfold ETok at h
   simp [World.cell?, Array.getElem?_eq_none h1] at h
theorem ETok.alloc {w : World} (h : ETok w) (o : Obj) : ETok (w.alloc o) := by
 unfold ETok
 rw [World.cell?_alloc_lt _ _ ⟨0, 0, none⟩ h.lt]
 exact h
theorem ETok.later {w w1 : World} (h : ETok w) (hb : Below w.heap.size w w1) : ETok w1 := cell_later hb h
/-! closed facts on the model's entries for internal/reflectlite -/
theorem Tryz.asValueOf (t : Addr) (w : World) : (ReflectliteValue.unpack (.iface 148 (.pointer (some t)))).run Tryz.prog w
 = .ok (.agg #[.pointer (some ⟨12, 148, none⟩), .pointer (some ⟨w.heap.size, 0, none⟩), .int .u64 150]) (w.alloc (.cells #[.pointer (some t)] 148)) := by kernel_rfl
theorem Tryz.asType (a : Addr) (w : World) : (ReflectliteValue.methodAny (ReflectliteValue.valueError "reflectlite.Value.Type" 0) (fun t _ _ _ => ReflectliteType.toType t) #[.agg #[.pointer (some ⟨12, 148, none⟩), .pointer (some a), .int .u64 150]]).run Tryz.prog w
 = .ok (.iface 216 (.agg #[.pointer (some ⟨12, 148, none⟩)])) w := by kernel_rfl
theorem Tryz.asMethodKind (h : Value) (w : World) : (Go.method 432 216 (.agg #[h]) "Kind").run Tryz.prog w = .ok (240, h) w := by kernel_rfl
theorem Tryz.asKindP (w : World) : ((ReflectliteType.abiMethod fun t => (fun a : Nat => Value.int IntKind.u8 (a : Int)) <$> Rtype.kind t) #[.pointer (some ⟨12, 148, none⟩)]).run Tryz.prog w = .ok (.int .u8 22) w := by kernel_rfl
theorem Tryz.asKindE (w : World) : ((ReflectliteType.abiMethod fun t => (fun a : Nat => Value.int IntKind.u8 (a : Int)) <$> Rtype.kind t) #[.pointer (some ⟨12, 84, none⟩)]).run Tryz.prog w = .ok (.int .u8 2) w := by kernel_rfl
theorem as_rlm (z : Sem Value) (f : TypeId → Addr → Nat → Nat → Sem Value) (v : Value) :
 ReflectliteValue.method z f #[v] = (do match ← ReflectliteValue.parts v with | none => z | some (t, a, fl) => f t a fl (fl % 32)) := rfl
theorem Tryz.asPartsP (a : Addr) (w : World) : (ReflectliteValue.parts (.agg #[.pointer (some ⟨12, 148, none⟩), .pointer (some a), .int .u64 150])).run Tryz.prog w = .ok (some (148, a, 150)) w := by kernel_rfl
theorem Tryz.asIsNil (a p : Addr) (W : World) (ha : W.cell? a = some (.pointer (some p))) :
 (ReflectliteValue.method (ReflectliteValue.valueError "reflectlite.Value.IsNil" 0) ReflectliteValue.isNil #[.agg #[.pointer (some ⟨12, 148, none⟩), .pointer (some a), .int .u64 150]]).run Tryz.prog W = .ok (.bool false) W := by
 rw [as_rlm]
 simp only [Sem.run_bind, Tryz.asPartsP, Result.andThen]
 simp [ReflectliteValue.isNil, loadVar, isAgg, underlying, Tryz.underlying148, ha, Result.andThen]
theorem Tryz.asMethodElem (h : Value) (w : World) : (Go.method 432 216 (.agg #[h]) "Elem").run Tryz.prog w = .ok (251, .agg #[h]) w := by kernel_rfl
theorem Tryz.asMethodImplements (h : Value) (w : World) : (Go.method 432 216 (.agg #[h]) "Implements").run Tryz.prog w = .ok (252, .agg #[h]) w := by kernel_rfl
theorem Tryz.asMethodAssignableTo (h : Value) (w : World) : (Go.method 432 216 (.agg #[h]) "AssignableTo").run Tryz.prog w = .ok (249, .agg #[h]) w := by kernel_rfl
theorem Tryz.asElem (w : World) : (ReflectliteType.method ReflectliteType.elem #[.agg #[.pointer (some ⟨12, 148, none⟩)]]).run Tryz.prog w = .ok (.iface 216 (.agg #[.pointer (some ⟨12, 84, none⟩)])) w := by kernel_rfl
theorem Tryz.asImplements (w : World) : (ReflectliteType.relation "Implements" ReflectliteType.implements_ #[.agg #[.pointer (some ⟨12, 84, none⟩)], .iface 216 (.agg #[.pointer (some ⟨12, 27, none⟩)])]).run Tryz.prog w = .ok (.bool true) w := by kernel_rfl
theorem Tryz.asTypeOf (v : Value) (w : World) : (ReflectliteType.typeOf #[.iface 84 v]).run Tryz.prog w = .ok (.iface 216 (.agg #[.pointer (some ⟨12, 84, none⟩)])) w := by kernel_rfl
theorem Tryz.asAssignable (w : World) : (ReflectliteType.relation "AssignableTo" ReflectliteType.assignableTo #[.agg #[.pointer (some ⟨12, 84, none⟩)], .iface 216 (.agg #[.pointer (some ⟨12, 84, none⟩)])]).run Tryz.prog w = .ok (.bool true) w := by kernel_rfl
theorem Tryz.asValueE (n : Int) (w : World) : (ReflectliteValue.unpack (.iface 84 (.int .i64 n))).run Tryz.prog w
 = .ok (.agg #[.pointer (some ⟨12, 84, none⟩), .pointer (some ⟨w.heap.size, 0, none⟩), .int .u64 130]) (w.alloc (.cells #[.int .i64 n] 84)) := by kernel_rfl
theorem Tryz.asElemOf (w : World) : (Rtype.elem? 148).run Tryz.prog w = .ok (some 84) w := by kernel_rfl
theorem Tryz.asMkE (p : Addr) (w : World) : (ReflectliteValue.mk 84 p ReflectliteValue.flagAddr).run Tryz.prog w = .ok (.agg #[.pointer (some ⟨12, 84, none⟩), .pointer (some p), .int .u64 386]) w := by kernel_rfl
theorem Tryz.asElemV (a p : Addr) (W : World) (ha : W.cell? a = some (.pointer (some p))) :
 (ReflectliteValue.method (ReflectliteValue.valueError "reflectlite.Value.Elem" 0) ReflectliteValue.elem #[.agg #[.pointer (some ⟨12, 148, none⟩), .pointer (some a), .int .u64 150]]).run Tryz.prog W
   = .ok (.agg #[.pointer (some ⟨12, 84, none⟩), .pointer (some p), .int .u64 386]) W := by
 rw [as_rlm]
 simp only [Sem.run_bind, Tryz.asPartsP, Result.andThen]
 simp [ReflectliteValue.elem, loadVar, isAgg, underlying, Tryz.underlying148, ha, Result.andThen, Tryz.asElemOf, Tryz.asMkE]
theorem as_rls (v x : Value) : ReflectliteValue.set #[v, x] = (do
 let (some (dst, a, fl), some (src, b, _)) := (← ReflectliteValue.parts v, ← ReflectliteValue.parts x)
  | unsupported (.noEntry "extern/(internal/reflectlite.Value).Set.zeroValue")
 if fl / ReflectliteValue.flagAddr % 2 == 0 then unsupported (.noEntry "extern/(internal/reflectlite.Value).Set.unaddressable")
 let val ← loadVar src b
 if ← Rtype.directlyAssignable dst src then storeVar dst a val
 else if ← Rtype.implements dst src then
  if (← Rtype.kind src) == 20 then
   match val with
   | .nilIface => unsupported (.noEntry "extern/reflectlite: a nil value of one interface type handed on as a value of another")
   | _ => storeVar dst a val
  else storeVar dst a (.iface src val)
 else panicString ("reflectlite.Set: value of type " ++ (← Rtype.spelt src) ++ " is not assignable to type " ++ (← Rtype.spelt dst))
 pure (.tuple #[])) := rfl
theorem Tryz.asPartsEa (a : Addr) (w : World) : (ReflectliteValue.parts (.agg #[.pointer (some ⟨12, 84, none⟩), .pointer (some a), .int .u64 386])).run Tryz.prog w = .ok (some (84, a, 386)) w := by kernel_rfl
theorem Tryz.asPartsE (a : Addr) (w : World) : (ReflectliteValue.parts (.agg #[.pointer (some ⟨12, 84, none⟩), .pointer (some a), .int .u64 130])).run Tryz.prog w = .ok (some (84, a, 130)) w := by kernel_rfl
theorem Tryz.asDirect (w : World) : (Rtype.directlyAssignable 84 84).run Tryz.prog w = .ok true w := by kernel_rfl
theorem Tryz.asSet (ta b : Addr) (n : Int) (old : Value) (W : World) (hb : W.cell? b = some (.int .i64 n)) (ht : W.cell? ta = some old) (hf : W.frozen? ta = false) :
 (ReflectliteValue.set #[.agg #[.pointer (some ⟨12, 84, none⟩), .pointer (some ta), .int .u64 386], .agg #[.pointer (some ⟨12, 84, none⟩), .pointer (some b), .int .u64 130]]).run Tryz.prog W
   = .ok (.tuple #[]) (W.setCell ta (.int .i64 n)) := by
 rw [as_rls]
 simp only [Sem.run_bind, Tryz.asPartsEa, Tryz.asPartsE, Result.andThen]
 simp [ReflectliteValue.flagAddr, loadVar, isAgg, underlying, Tryz.underlying84, hb, Result.andThen, Tryz.asDirect, storeVar, Value.cells, storeCells, Addr.add]
 rw [run_store Tryz.prog W ta _ _ (by rfl)]
 simp [ht, hf]
theorem as_hit (n : Int) (t : Addr) (old : Value) (w : World) (hg : ETok w) (ht0 : w.cell? t = some old) (hf0 : w.frozen? t = false) :
 Calls Tryz.prog 85 #[.iface 84 (.int .i64 n), .iface 148 (.pointer (some t))] w fun ev w' => ev = .returned (.bool true) ∧ w' = ((((w.alloc (.cells #[.pointer (some t)] 148)).alloc (.cells #[.pointer (some ⟨12, 148, none⟩), .pointer (some ⟨w.heap.size, 0, none⟩), .int .u64 150] 181)).alloc (.cells #[.pointer (some ⟨12, 148, none⟩), .pointer (some ⟨w.heap.size, 0, none⟩), .int .u64 150] 181)).alloc (.cells #[.int .i64 n] 84)).setCell t (.int .i64 n) := by
 have h6 := @run_callFunc_extern Tryz.prog 118 _ (fun args => ReflectliteValue.unpack (args.getD 0 (.tuple #[]))) Tryz.func118 (by kernel_rfl) (by kernel_rfl) (by kernel_rfl) (by kernel_rfl)
 have h7 := @run_callFunc_extern Tryz.prog 119 _ (ReflectliteValue.methodAny (ReflectliteValue.valueError "reflectlite.Value.Type" 0) (fun t _ _ _ => ReflectliteType.toType t)) Tryz.func119 (by kernel_rfl) (by kernel_rfl) (by kernel_rfl) (by kernel_rfl)
 have h8 := @run_callFunc_extern Tryz.prog 120 _ (ReflectliteValue.method (ReflectliteValue.valueError "reflectlite.Value.IsNil" 0) ReflectliteValue.isNil) Tryz.func120 (by kernel_rfl) (by kernel_rfl) (by kernel_rfl) (by kernel_rfl)
 have h27 := @run_callFunc_extern Tryz.prog 240 _ (ReflectliteType.abiMethod fun t => do pure (.int .u8 (← Rtype.kind t))) Tryz.func240 (by kernel_rfl) (by kernel_rfl) (by kernel_rfl) (by kernel_rfl)
 have h37 := @run_callFunc_extern Tryz.prog 251 _ (ReflectliteType.method ReflectliteType.elem) Tryz.func251 (by kernel_rfl) (by kernel_rfl) (by kernel_rfl) (by kernel_rfl)
 have h38 := @run_callFunc_extern Tryz.prog 252 _ (ReflectliteType.relation "Implements" ReflectliteType.implements_) Tryz.func252 (by kernel_rfl) (by kernel_rfl) (by kernel_rfl) (by kernel_rfl)
 have h10 := @run_callFunc_extern Tryz.prog 146 _ ReflectliteType.typeOf Tryz.func146 (by kernel_rfl) (by kernel_rfl) (by kernel_rfl) (by kernel_rfl)
 have h35 := @run_callFunc_extern Tryz.prog 249 _ (ReflectliteType.relation "AssignableTo" ReflectliteType.assignableTo) Tryz.func249 (by kernel_rfl) (by kernel_rfl) (by kernel_rfl) (by kernel_rfl)
 have h11 := @run_callFunc_extern Tryz.prog 147 _ (ReflectliteValue.method (ReflectliteValue.valueError "reflectlite.Value.Elem" 0) ReflectliteValue.elem) Tryz.func147 (by kernel_rfl) (by kernel_rfl) (by kernel_rfl) (by kernel_rfl)
 have h12 := @run_callFunc_extern Tryz.prog 148 _ ReflectliteValue.set Tryz.func148 (by kernel_rfl) (by kernel_rfl) (by kernel_rfl) (by kernel_rfl)
 have tO := Tryz.asTypeOf
 have mA := Tryz.asMethodAssignableTo
 have a25 := Tryz.asAssignable
 have v25 := Tryz.asValueE
 have f6 := Tryz.asValueOf
 have f7 := Tryz.asType
 have mK := Tryz.asMethodKind
 have mE := Tryz.asMethodElem
 have mI := Tryz.asMethodImplements
 have k27 := Tryz.asKindP
 have k25 := Tryz.asKindE
 have e27 := Tryz.asElem
 have i25 := Tryz.asImplements
 have n8 := Tryz.asIsNil ⟨w.heap.size, 0, none⟩ t ((w.alloc (.cells #[.pointer (some t)] 148)).alloc (.cells #[.pointer (some ⟨12, 148, none⟩), .pointer (some ⟨w.heap.size, 0, none⟩), .int .u64 150] 181)) (by simp)
 have hg2 : ((w.alloc (.cells #[.pointer (some t)] 148)).alloc (.cells #[.pointer (some ⟨12, 148, none⟩), .pointer (some ⟨w.heap.size, 0, none⟩), .int .u64 150] 181)).cell? ⟨0, 0, none⟩ = some (.iface 216 (.agg #[.pointer (some ⟨12, 27, none⟩)])) :=
  (hg.alloc _).alloc _
 have htl : t.block < w.heap.size := by
  rcases Nat.lt_or_ge t.block w.heap.size with h | h
  · exact h
  · simp [World.cell?, Array.getElem?_eq_none h] at ht0
 have el := Tryz.asElemV ⟨w.heap.size, 0, none⟩ t (((w.alloc (.cells #[.pointer (some t)] 148)).alloc (.cells #[.pointer (some ⟨12, 148, none⟩), .pointer (some ⟨w.heap.size, 0, none⟩), .int .u64 150] 181)).alloc (.cells #[.pointer (some ⟨12, 148, none⟩), .pointer (some ⟨w.heap.size, 0, none⟩), .int .u64 150] 181)) (by rw [World.cell?_alloc_lt _ _ ⟨w.heap.size, 0, none⟩ (by simp; omega)]; simp)
 have st := Tryz.asSet t ⟨w.heap.size + 1 + 1 + 1, 0, none⟩ n old ((((w.alloc (.cells #[.pointer (some t)] 148)).alloc (.cells #[.pointer (some ⟨12, 148, none⟩), .pointer (some ⟨w.heap.size, 0, none⟩), .int .u64 150] 181)).alloc (.cells #[.pointer (some ⟨12, 148, none⟩), .pointer (some ⟨w.heap.size, 0, none⟩), .int .u64 150] 181)).alloc (.cells #[.int .i64 n] 84))
  (by rw [World.cell?_alloc_at _ _ _ _ (by simp)]; rfl)
  (by rw [World.cell?_alloc_lt _ _ t (by simp; omega), World.cell?_alloc_lt _ _ t (by simp; omega), World.cell?_alloc_lt _ _ t (by simp; omega), World.cell?_alloc_lt _ _ t htl]; exact ht0)
  (by rw [World.frozen?_alloc_old _ _ t (by simp; omega), World.frozen?_alloc_old _ _ t (by simp; omega), World.frozen?_alloc_old _ _ t (by simp; omega), World.frozen?_alloc_old _ _ t (Nat.ne_of_lt htl)]; exact hf0)
 clear hg
 go_enter Tryz.func85, Tryz.ntmps85
 go_wp2
 refine wp_loop_rounds 1 ?_
 rw [rounds_succ]
 go_wp2
 go_ret
 exact ⟨rfl, rfl⟩
end Go.Proofs.YtmfbaijbigodkaaGreatDoor
namespace Go.Proofs.YtmfbaijbigodkaaGreatDoor
open Go.ChangeShapes Go.WideShapes Go.ChangeAt Go.RowKit
set_option linter.unusedVariables false
theorem Tryz.et : Tryz.prog.globalNamed "errors.errorType" = some 0 := by kernel_rfl
theorem Tryz.rt : (Tryz.prog.cutTypes.find? (·.1 == "internal/reflectlite.rtype")).map (·.2) = some 216 := by kernel_rfl
theorem Tryz.oneRow : ((List.range 332).filter fun t => Tryz.prog.rowNamed t [101, 114, 114, 111, 114]) = [27] := by kernel_rfl
theorem Tryz.size : Tryz.prog.types.size = 332 := by kernel_rfl
theorem etok_of_handles {W : World} (h : handlesMet Tryz.prog [("errors.errorType", Rows.laid_errors_errorType)] W) : ETok W := by
 obtain ⟨name, u, ty, e1, e2, e3, e4, e5⟩ := h _ (List.mem_singleton.2 rfl)
 have en : name = [101, 114, 114, 111, 114] := (Option.some.inj e1).symm
 subst en
 obtain rfl := Option.some.inj (Tryz.rt.symm.trans e2)
 have hm : ty ∈ (List.range 332).filter fun t => Tryz.prog.rowNamed t [101, 114, 114, 111, 114] := List.mem_filter.2 ⟨List.mem_range.2 (by rw [← Tryz.size]; exact e3), e4⟩
 rw [Tryz.oneRow] at hm
 obtain rfl := List.mem_singleton.1 hm
 have hh : typeHandle Tryz.prog 27 = .pointer (some ⟨12, 27, none⟩) := by kernel_rfl
 rw [hh] at e5
 unfold ETok
 simpa using World.var?_cell Tryz.et e5 0
structure KTab (w : World) : Prop where
 k0 : w.cell? ⟨2, 0, none⟩ = some (.int .i64 1)
 k1 : w.cell? ⟨2, 1, none⟩ = some (.int .i64 64)
 k2 : w.cell? ⟨2, 2, none⟩ = some (.int .i64 2)
 k3 : w.cell? ⟨2, 3, none⟩ = some (.int .i64 16384)
 k4 : w.cell? ⟨2, 4, none⟩ = some (.int .i64 4)
 k5 : w.cell? ⟨2, 5, none⟩ = some (.int .i64 1073741824)
theorem KTab.later {w w1 : World} (h : KTab w) (hb : Below w.heap.size w w1) : KTab w1 :=
 ⟨cell_later hb h.k0, cell_later hb h.k1, cell_later hb h.k2, cell_later hb h.k3, cell_later hb h.k4, cell_later hb h.k5⟩
theorem KTab.alloc {w : World} (h : KTab w) (o : Obj) : KTab (w.alloc o) := h.later ((Below.refl _ _).alloc (Nat.le_refl _) o)
theorem KTab.drew {w : World} (h : KTab w) : KTab w.drew := ⟨h.k0, h.k1, h.k2, h.k3, h.k4, h.k5⟩
theorem KTab.lt {w : World} (h : KTab w) : 2 < w.heap.size := by
 rcases Nat.lt_or_ge 2 w.heap.size with h1 | h1
 · exact h1
 · have := h.k0
   simp [World.cell?, Array.getElem?_eq_none h1] at this
theorem Tryz.kindsName : Tryz.prog.globalNamed "wanderwire/varint.kinds" = some 2 := by kernel_rfl
theorem Tryz.kindsType : (Tryz.prog.globals[2]?).map (·.type) = some 230 := by kernel_rfl
theorem Tryz.kindsCells : Tryz.prog.cellsOf 229 = 2 := by kernel_rfl
theorem Tryz.kindsCells3 : Tryz.prog.cellsOf 3 = 1 := by kernel_rfl
theorem kind_pair {W : World} {m : Nat} {cs : List Value} {a b : Int} {p : List MemPlace}
 (h : DataW.trod (fun _ => ()) Tryz.prog W 0 (fun _ => true) false m 229 cs = some (.agg [.lit (.int .i64 a), .lit (.int .i64 b)], p)) : cs[0]? = some (.int .i64 a) ∧ cs[1]? = some (.int .i64 b) := by
 obtain ⟨y0, y1, n, hx, hl, h0, h1⟩ := trod_struct2 Tryz.underlying229 h
 simp only [Prod.mk.injEq, DataW.agg.injEq, List.cons.injEq, and_true] at hx
 obtain ⟨⟨hy0, hy1⟩, _⟩ := hx
 obtain ⟨n0, e0, d0, _⟩ := DataW.trod_int (k := .i64) Tryz.underlying3 h0
 obtain ⟨n1, e1, d1, _⟩ := DataW.trod_int (k := .i64) Tryz.underlying3 h1
 have e0' : (cs.drop 0).take (Tryz.prog.cellsOf 3) = [.int .i64 n0] := e0
 have e1' : (cs.drop 1).take (Tryz.prog.cellsOf 3) = [.int .i64 n1] := e1
 rw [Tryz.kindsCells3] at e0' e1'
 rw [d0] at hy0
 rw [d1] at hy1
 simp only [DataW.lit.injEq, Lit.int.injEq, true_and] at hy0 hy1
 subst hy0 hy1
 constructor
 · have := congrArg (fun l : List Value => l[0]?) e0'
   simpa [List.getElem?_take] using this
 · have := congrArg (fun l : List Value => l[0]?) e1'
   simpa [List.getElem?_take, List.getElem?_drop] using this
noncomputable def laidWorld (os : Os) : World :=
 let w0 := World.holding Tryz.prog os ⟨#[], #[], []⟩
 { w0 with heap := w0.heap
  |>.modify 0 (fun
   | .cells _ t frozen => .cells #[.iface 216 (.agg #[.pointer (some ⟨12, 27, none⟩)])] t frozen
   | o => o)
  |>.modify 2 (fun
   | .cells _ t frozen => .cells #[.int .i64 1, .int .i64 64, .int .i64 2, .int .i64 16384, .int .i64 4, .int .i64 1073741824] t frozen
   | o => o)
 }
def cntK : Nat → Int
 | 3 => 1 | 4 => 1 | 5 => 1 | 6 => 1 | 7 => 2 | 8 => 1 | _ => 0
def CTab (w : World) : Prop := ∀ j, j < 9 → w.cell? ⟨3, j, none⟩ = some (.int .i64 (cntK j))
theorem CTab.lt {w : World} (h : CTab w) : 3 < w.heap.size := by
 rcases Nat.lt_or_ge 3 w.heap.size with h1 | h1
 · exact h1
 · have := h 0 (by omega)
   simp [World.cell?, Array.getElem?_eq_none h1] at this
theorem CTab.later {w w1 : World} (h : CTab w) (hb : Below w.heap.size w w1) : CTab w1 := fun j hj => (hb.cell (p := ⟨3, j, none⟩) h.lt).trans (h j hj)
theorem Tryz.countsName : Tryz.prog.globalNamed "wanderwire/frame.counts" = some 3 := by kernel_rfl
theorem Tryz.countsType : (Tryz.prog.globals[3]?).map (·.type) = some 234 := by kernel_rfl
theorem ktab_of_vars {W : World} {r : List (String × DataW Unit)} {ps : List MemPlace} (h : DataW.LaidVars Tryz.prog W (("wanderwire/varint.kinds", Rows.laid_wanderwire_varint_kinds) :: r) ps) : KTab W ∧ ∃ q, DataW.LaidVars Tryz.prog W r q := by
 obtain ⟨g, t, cs, fuel, p, q, hg, ht, hvar, hd, hr, _⟩ := h
 refine ⟨?_, q, hr⟩
 obtain rfl := Option.some.inj (Tryz.kindsName.symm.trans hg)
 obtain rfl := Option.some.inj (Tryz.kindsType.symm.trans ht)
 obtain ⟨xs, m, _, hx, hl, hn, hi⟩ := DataW.trod_array Tryz.underlying230 hd
 match xs, hn with
 | [x0, x1, x2], _ =>
   simp only [Rows.laid_wanderwire_varint_kinds, List.map_cons, List.map_nil, Prod.mk.injEq, DataW.agg.injEq, List.cons.injEq, and_true] at hx
   obtain ⟨⟨hx0, hx1, hx2⟩, _⟩ := hx
   have t0 := hi 0 (by omega)
   have t1 := hi 1 (by omega)
   have t2 := hi 2 (by omega)
   rw [Tryz.kindsCells] at t0 t1 t2
   simp only [List.getElem?_cons_zero, List.getElem?_cons_succ] at t0 t1 t2
   rw [show x0 = (x0.1, x0.2) from rfl, ← hx0] at t0
   rw [show x1 = (x1.1, x1.2) from rfl, ← hx1] at t1
   rw [show x2 = (x2.1, x2.2) from rfl, ← hx2] at t2
   obtain ⟨a0, b0⟩ := kind_pair t0
   obtain ⟨a1, b1⟩ := kind_pair t1
   obtain ⟨a2, b2⟩ := kind_pair t2
   simp [List.getElem?_drop] at a0 b0 a1 b1 a2 b2
   have hc := fun i => World.var?_cell Tryz.kindsName hvar i
   exact ⟨(hc 0).trans a0, (hc 1).trans b0, (hc 2).trans a1, (hc 3).trans b1, (hc 4).trans a2, (hc 5).trans b2⟩
theorem ctab_of_vars {W : World} {r : List (String × DataW Unit)} {ps : List MemPlace} (h : DataW.LaidVars Tryz.prog W (("wanderwire/frame.counts", Rows.laid_wanderwire_frame_counts) :: r) ps) : CTab W := by
 obtain ⟨g, t, cs, fuel, p, q, hg, ht, hvar, hd, hr, _⟩ := h
 obtain rfl := Option.some.inj (Tryz.countsName.symm.trans hg)
 obtain rfl := Option.some.inj (Tryz.countsType.symm.trans ht)
 obtain ⟨xs, m, _, hx, hl, hn, hi⟩ := DataW.trod_array Tryz.underlying234 hd
 have hone : ∀ (j : Nat) (a : Int) (x : DataW Unit × List MemPlace), j < 9 → xs[j]? = some x → x.1 = .lit (.int .i64 a) → cs[j]? = some (.int .i64 a) := by
  intro j a x hj hxj hxa
  have t0 := hi j hj
  rw [Tryz.kindsCells3, hxj] at t0
  obtain ⟨n0, e0, d0, _⟩ := DataW.trod_int (k := .i64) Tryz.underlying3 t0
  have hxe : x.1 = .lit (.int .i64 n0) := congrArg Prod.fst (d0 : x = _)
  rw [hxa] at hxe
  have hna : a = n0 := by injection hxe with h1; injection h1
  subst hna
  have := congrArg (fun l : List Value => l[0]?) e0
  simpa [List.getElem?_take, List.getElem?_drop] using this
 match xs, hn with
 | [x0, x1, x2, x3, x4, x5, x6, x7, x8], _ =>
   simp only [Rows.laid_wanderwire_frame_counts, List.map_cons, List.map_nil, Prod.mk.injEq, DataW.agg.injEq, List.cons.injEq, and_true] at hx
   obtain ⟨⟨h0, h1, h2, h3, h4, h5, h6, h7, h8⟩, _⟩ := hx
   have hc := fun i => World.var?_cell Tryz.countsName hvar i
   intro j hj
   match j, hj with
   | 0, _ => exact (hc 0).trans (hone 0 _ x0 (by omega) rfl h0.symm)
   | 1, _ => exact (hc 1).trans (hone 1 _ x1 (by omega) rfl h1.symm)
   | 2, _ => exact (hc 2).trans (hone 2 _ x2 (by omega) rfl h2.symm)
   | 3, _ => exact (hc 3).trans (hone 3 _ x3 (by omega) rfl h3.symm)
   | 4, _ => exact (hc 4).trans (hone 4 _ x4 (by omega) rfl h4.symm)
   | 5, _ => exact (hc 5).trans (hone 5 _ x5 (by omega) rfl h5.symm)
   | 6, _ => exact (hc 6).trans (hone 6 _ x6 (by omega) rfl h6.symm)
   | 7, _ => exact (hc 7).trans (hone 7 _ x7 (by omega) rfl h7.symm)
   | 8, _ => exact (hc 8).trans (hone 8 _ x8 (by omega) rfl h8.symm)
end Go.Proofs.YtmfbaijbigodkaaGreatDoor
namespace Go.Proofs.YtmfbaijbigodkaaGreatDoor
open Go.RowKit
set_option linter.unusedVariables false
def CalmR : Result Next → Prop
 | .ok (.value _) _ => True
 | .ok .skip _ => True
 | .halt _ _ => True
 | _ => False
section
variable {F : Fence} {n : Nat} {P : Program} {ops : Array Oper} {md : Region.Mode}
theorem calm_upon {o : Oper} {a : Act} {K K' : Act → World → Prop} {Q : Exit → Act → World → Prop} {r : Result Next} (hr : CalmR r) (hk : ∀ a w, K a w → K' a w) (h : o.upon P a K Q r) : o.uponIn F n P a K' Q r := by
 cases r with
 | ok x w' =>
   cases x with
   | value v => exact hk _ _ h
   | skip => exact hk _ _ h
   | _ => exact hr.elim
 | halt e w' => cases e <;> exact h
def calmOp : Op → Bool
 | .move _ => true | .assign _ => true | .load _ _ => true | .store _ _ _ => true | .indexAddr _ _ _ => true | .fieldAddr _ _ _ => true
 | .build _ _ => true | .buildSlice _ _ _ => true
 | .call c => match c.callee with | .builtin .append => true | _ => false
 | _ => false
structure CalmO (P : Program) (o : Oper) : Prop where
 nd : ∀ c, o.op ≠ .defer c
 ab : ∀ (a : Act) w, o.about P w a.eval = none
 ex : ∀ (a : Act) w, CalmR ((execOp a.eval o).run P w)
theorem calm_v (s : Sem Value) (w : World) : CalmR ((do pure (Next.value (← s)) : Sem Next).run P w) := by
 simp only [Sem.run_bind]
 cases h : s.run P w with
 | ok x w' => trivial
 | halt e w' => trivial
theorem calm_u (s : Sem Unit) (w : World) : CalmR ((do s; pure Next.skip : Sem Next).run P w) := by
 simp only [Sem.run_bind]
 cases h : s.run P w with
 | ok x w' => trivial
 | halt e w' => trivial
theorem calm_of {o : Oper} (h : calmOp o.op = true) : CalmO P o := by
 refine ⟨(fun c hc => by rw [hc] at h; cases h), fun a w => ?_, fun a w => ?_⟩
 · unfold Oper.about
   cases ho : o.op with
   | call c =>
     rw [ho] at h
     obtain ⟨callee, args, ats⟩ := c
     cases callee with
     | builtin b =>
       cases b <;> first | cases h | skip
       simp [resolve, Target.leads]
     | _ => cases h
   | _ => rfl
 · unfold execOp
   cases ho : o.op with
   | move x => trivial
   | assign x => trivial
   | load t x => exact calm_v _ w
   | store t x y => exact calm_u _ w
   | indexAddr t x y => exact calm_v _ w
   | fieldAddr t x f => exact calm_v _ w
   | build t ps => exact calm_v _ w
   | buildSlice t l ps => exact calm_v _ w
   | call c =>
     rw [ho] at h
     obtain ⟨callee, args, ats⟩ := c
     cases callee with
     | builtin b =>
       cases b <;> first | cases h | skip
       simp only [resolve, invoke]
       exact calm_v _ w
     | _ => cases h
   | _ => rw [ho] at h; cases h
theorem wpAny_in {Q : Exit → Act → World → Prop} (hno : ¬ LetsOut Q) (hc : ∀ (i : Nat) (o : Oper), ops[i]? = some o → CalmO P o) : ∀ (fuel : Nat) (listed : Array Bool) (a : Act) (w : World), wpAny P md ops Q fuel listed a w → wpAnyIn F n P md ops Q fuel listed a w
 | 0, _, _, _, h => h
 | fuel + 1, listed, a, w, h => ⟨h.1, fun i hi => by
    have := h.2 i hi
    unfold wpOp at this
    unfold wpOpIn
    cases ho : ops[i]? with
    | none => rw [ho] at this; exact wpAny_in hno hc fuel _ _ _ this
    | some o =>
      rw [ho] at this
      simp only at this ⊢
      have hco := hc i o ho
      by_cases hw : Region.wanted o (yielded ops a.tmps) = true
      · rw [if_pos hw] at this ⊢
        refine ⟨(fun f hf => by rw [hco.ab] at hf; cases hf), ?_⟩
        rw [Oper.semAt_eq _ _ _ hco.nd]
        exact calm_upon (hco.ex a w) (fun a w hk => wpAny_in hno hc fuel _ _ _ hk) (this.resolve_right fun h => hno h.2)
      · rw [if_neg hw] at this ⊢
        exact ⟨(fun f hf => by rw [hco.ab] at hf; cases hf), wpAny_in hno hc fuel _ _ _ this⟩⟩
theorem region_in_held {id : Nat} {Q : Exit → Act → World → Prop} {a : Act} {w : World} {S : World → Prop} (hm : P.follows .mixedOrders = true) (hcl : ops.toList.all (fun o => calmOp o.op) = true) (hno : ¬ LetsOut Q)
 (h : wpAnyH P .any ops Q S ops.size (Array.replicate ops.size false) a w.drew) : (Code.region id ops true).wpIn F n P Q a w :=
 wpIn_region_any hm (wpAny_in hno (fun i o ho => calm_of (List.all_eq_true.1 hcl o (List.mem_of_getElem? (i := i) (by simpa using ho)))) _ _ _ _ (wpAny_of_held _ _ _ _ h))
end
end Go.Proofs.YtmfbaijbigodkaaGreatDoor
namespace Go.Proofs.YtmfbaijbigodkaaGreatDoor
open Go.ChangeShapes Go.WideShapes Go.ChangeAt Go.RowKit
set_option linter.unusedVariables false
def Since (w W : World) : Prop := Below w.heap.size w W
namespace Since
variable {w W W' : World}
theorem refl (w : World) : Since w w := Below.refl _ _
theorem alloc (h : Since w W) (o : Obj) : Since w (W.alloc o) := Below.alloc h h.size o
theorem drew (h : Since w W) : Since w W.drew := ⟨h.os, h.tape, h.output, h.size, h.block⟩
theorem drewN (h : Since w W) (n : Nat) : Since w (W.drewN n) := ⟨h.os, h.tape, h.output, h.size, h.block⟩
theorem later (h : Since w W) (hb : Below W.heap.size W W') : Since w W' := below_steps h hb h.size
theorem set (h : Since w W) {p : Addr} (hp : w.heap.size ≤ p.block) (u : Value) : Since w (W.setCell p u) := Below.setCell h hp u
theorem only {g : Nat} (h : Since w W) (k : Only W W' g) (hg : w.heap.size ≤ g) : Since w W' := k.below h h.size hg
theorem out (h : Since w W) : Below w.heap.size w W := h
theorem le (h : Since w W) : w.heap.size ≤ W.heap.size := h.size
theorem cell (h : Since w W) {b o : Nat} {v : Value} (hlt : b < w.heap.size) (hc : w.cell? ⟨b, o, none⟩ = some v) : W.cell? ⟨b, o, none⟩ = some v := (Below.cell (p := ⟨b, o, none⟩) h hlt).trans hc
end Since
structure Out (w w' : World) (S : List Nat) : Prop where
 os : w'.os = w.os
 tape : w'.tape = w.tape
 output : w'.output = w.output
 size : w.heap.size ≤ w'.heap.size
 block : ∀ k, k < w.heap.size → k ∉ S → w'.heap[k]? = w.heap[k]?
namespace Out
variable {a w w' : World} {S T : List Nat}
theorem refl (w : World) (S : List Nat) : Out w w S := ⟨rfl, rfl, rfl, Nat.le_refl _, fun _ _ _ => rfl⟩
theorem drew (h : Out a w S) : Out a w.drew S := ⟨h.os, h.tape, h.output, h.size, h.block⟩
theorem drewN (h : Out a w S) (n : Nat) : Out a (w.drewN n) S := ⟨h.os, h.tape, h.output, h.size, h.block⟩
theorem of_drew (h : Out a.drew w S) : Out a w S := ⟨h.os, h.tape, h.output, h.size, h.block⟩
theorem of_drewN {n : Nat} (h : Out (a.drewN n) w S) : Out a w S := ⟨h.os, h.tape, h.output, h.size, h.block⟩
theorem trans (h : Out a w S) (k : Out w w' S) : Out a w' S :=
 ⟨k.os.trans h.os, k.tape.trans h.tape, k.output.trans h.output, Nat.le_trans h.size k.size, fun i hi hn => (k.block i (Nat.lt_of_lt_of_le hi h.size) hn).trans (h.block i hi hn)⟩
theorem mono (h : Out a w S) (hs : ∀ k, k ∈ S → k ∈ T ∨ a.heap.size ≤ k) : Out a w T :=
 ⟨h.os, h.tape, h.output, h.size, fun i hi hn => h.block i hi (fun hm => by rcases hs i hm with h1 | h1; exact hn h1; omega)⟩
theorem then' (h : Out a w S) (k : Out w w' T) (hs : ∀ k, k ∈ T → k ∈ S ∨ a.heap.size ≤ k) : Out a w' S :=
 ⟨k.os.trans h.os, k.tape.trans h.tape, k.output.trans h.output, Nat.le_trans h.size k.size, fun i hi hn =>
  (k.block i (Nat.lt_of_lt_of_le hi h.size) (fun hm => by rcases hs i hm with h1 | h1; exact hn h1; omega)).trans (h.block i hi hn)⟩
theorem alloc (h : Out a w S) (o : Obj) : Out a (w.alloc o) S :=
 ⟨h.os, h.tape, h.output, Nat.le_trans h.size (by simp), fun i hi hn => (Below.heap_alloc w o i (Nat.lt_of_lt_of_le hi h.size)).trans (h.block i hi hn)⟩
theorem put (h : Out a w S) {p : Addr} (hp : p.block ∈ S ∨ a.heap.size ≤ p.block) (u : Value) : Out a (w.setCell p u) S :=
 ⟨h.os, h.tape, h.output, by simpa [World.setCell] using h.size, fun k hk hn => (Below.heap_setCell w p u k (by rintro rfl; rcases hp with h1 | h1; exact hn h1; omega)).trans (h.block k hk hn)⟩
theorem of_below (h : Below a.heap.size a w) (S : List Nat) : Out a w S := ⟨h.os, h.tape, h.output, h.size, fun i hi _ => h.block i hi⟩
theorem later (h : Out a w S) (hb : Below w.heap.size w w') : Out a w' S := h.then' (of_below hb []) (by simp)
theorem of_only {g : Nat} (h : Only a w g) : Out a w [g] := ⟨h.os, h.tape, h.output, h.size, fun i hi hn => h.block i hi (by simpa using hn)⟩
theorem of_grown {row : Option Nat} (h : a.grownBy w row) {S : List Nat} (hs : ∀ k, row = some k → k ∈ S ∨ a.heap.size ≤ k) : Out a w S :=
 ⟨h.os, h.tape, h.output, h.size, fun i hi hn => h.block i hi (fun e => by rcases hs i e.symm with h1 | h1; exact hn h1; omega)⟩
theorem grown (h : Out a w S) {row : Option Nat} (k : w.grownBy w' row) (hs : ∀ k, row = some k → k ∈ S ∨ a.heap.size ≤ k) : Out a w' S :=
 h.then' (T := row.toList) ⟨k.os, k.tape, k.output, k.size, fun i hi hn => k.block i hi (fun e => hn (by rw [← e]; simp))⟩ (fun i hm => hs i (by simpa [Option.mem_toList] using hm))
theorem block' (h : Out a w S) {g : Nat} {t : TypeId} {cs : Array Value} (hb : BlockIs a g t cs) (hn : g ∉ S) : BlockIs w g t cs := (h.block g hb.lt hn).trans hb
theorem le (h : Out a w S) : a.heap.size ≤ w.heap.size := h.size
theorem below {B : Nat} (h : Out w w' S) (hb : Below B a w) (hB : B ≤ w.heap.size) (hs : ∀ k, k ∈ S → B ≤ k) : Below B a w' :=
 ⟨h.os.trans hb.os, h.tape.trans hb.tape, h.output.trans hb.output, Nat.le_trans hb.size h.size, fun i hi => (h.block i (Nat.lt_of_lt_of_le hi hB) (fun hm => by have := hs i hm; omega)).trans (hb.block i hi)⟩
theorem none_ (h : Out a w []) : Below a.heap.size a w := ⟨h.os, h.tape, h.output, h.size, fun i hi => h.block i hi (by simp)⟩
end Out
theorem Since.out' {w W W' : World} {S : List Nat} (h : Since w W) (k : Out W W' S) (hs : ∀ k, k ∈ S → w.heap.size ≤ k) : Since w W' := k.below h h.size hs
abbrev flat (es : List (List Value)) : List Value := es.flatten
structure Lst (w : World) (E size : Nat) (v : Value) (es : List (List Value)) : Prop where
 own : w.ownsRow 0 E size v es.length (flat es)
 rows : ∀ e ∈ es, e.length = size ∧ ∀ u ∈ e, u.oneCell' = true
abbrev blocks (v : Value) : List Nat := v.ownBlock.toList
namespace Lst
variable {w w' : World} {E size : Nat} {v : Value} {es : List (List Value)}
theorem nil (w : World) (E size : Nat) : Lst w E size (.slice none 0 0) [] := ⟨World.ownsRow_nil w 0 E size, by simp⟩
theorem shape (h : Lst w E size v es) : ∃ A cap, v = .slice A es.length cap ∧ es.length ≤ cap ∧ cap ≤ maxLen ∧ ((A = none ∧ es = [] ∧ cap = 0) ∨ ∃ g, A = some ⟨g, 0, none⟩) := by
 rcases h.own.2 with ⟨rfl, h0⟩ | ⟨g, cap, cur, rfl, _, _, h1, h2, _⟩
 · have : es = [] := List.length_eq_zero_iff.1 h0
   subst this
   exact ⟨none, 0, rfl, by simp, by simp [maxLen], Or.inl ⟨rfl, rfl, rfl⟩⟩
 · exact ⟨_, cap, rfl, h1, h2, Or.inr ⟨g, rfl⟩⟩
theorem later (h : Lst w E size v es) (hb : Below w.heap.size w w') : Lst w' E size v es :=
 ⟨h.own.kept (row := none) ⟨hb.os, hb.tape, hb.output, hb.size, fun i hi _ => hb.block i hi⟩ (by cases hv : v.ownBlock <;> simp), h.rows⟩
theorem drew (h : Lst w E size v es) : Lst w.drew E size v es := ⟨h.own, h.rows⟩
theorem drewN (h : Lst w E size v es) (n : Nat) : Lst (w.drewN n) E size v es := ⟨h.own, h.rows⟩
theorem alloc (h : Lst w E size v es) (o : Obj) : Lst (w.alloc o) E size v es := ⟨h.own.alloc o, h.rows⟩
theorem lt (h : Lst w E size v es) : ∀ k, k ∈ blocks v → k < w.heap.size := fun k hk => (h.own.lt k (by simpa [Option.mem_toList] using hk)).2
theorem kept {S : List Nat} (h : Lst w E size v es) (hg : Out w w' S) (hn : ∀ k, k ∈ blocks v → k ∉ S) : Lst w' E size v es := by
 refine ⟨⟨h.own.1, ?_⟩, h.rows⟩
 rcases h.own.2 with hn' | ⟨g, cap, cur, rfl, hb, hgg, rest⟩
 · exact .inl hn'
 · refine .inr ⟨g, cap, cur, rfl, hb, ?_, rest⟩
   rw [hg.block g (Array.getElem?_eq_some_iff.1 hgg).1 (hn g (by simp [Value.ownBlock]))]
   exact hgg
theorem apart (h : Lst w E size v es) {g : Nat} {t : TypeId} {cs : Array Value} (hb : BlockIs w g t cs) (ht : t ≠ E) : g ∉ blocks v := by
 intro hm
 rcases h.own.2 with ⟨rfl, _⟩ | ⟨g', cap, cur, rfl, _, hgg, _⟩
 · simp [blocks, Value.ownBlock] at hm
 · simp [blocks, Value.ownBlock] at hm
   subst hm
   unfold BlockIs at hb
   rw [hb] at hgg
   simp only [Option.some.injEq, Obj.cells.injEq] at hgg
   exact ht hgg.2.1
theorem flat_get {es : List (List Value)} (hr : ∀ e ∈ es, e.length = size) {i j : Nat} {e : List Value} {u : Value} (hi : es[i]? = some e) (hj : e[j]? = some u) : (flat es)[i * size + j]? = some u := by
 induction es generalizing i with
 | nil => simp at hi
 | cons x r ih =>
   have hx := hr x (by simp)
   rw [flat, List.flatten_cons]
   cases i with
   | zero =>
     simp only [List.getElem?_cons_zero, Option.some.injEq] at hi
     subst hi
     have hlt : j < x.length := (List.getElem?_eq_some_iff.1 hj).1
     rw [Nat.zero_mul, Nat.zero_add, List.getElem?_append_left hlt]
     exact hj
   | succ i =>
     simp only [List.getElem?_cons_succ] at hi
     have := ih (fun e he => hr e (by simp [he])) hi
     rw [List.getElem?_append_right (by rw [hx, Nat.succ_mul]; omega), hx]
     rw [show (i + 1) * size + j - size = i * size + j from by rw [Nat.succ_mul]; omega]
     exact this
theorem cell (h : Lst w E size v es) {g : Nat} {n cap : Nat} (hv : v = .slice (some ⟨g, 0, none⟩) n cap) {i j : Nat} {e : List Value} {u : Value} (hi : es[i]? = some e) (hj : e[j]? = some u) : w.cell? ⟨g, i * size + j, none⟩ = some u := by
 have h1 := h.own.cells (g := g) (by rw [hv]; rfl) (i * size + j) u (flat_get (fun e he => (h.rows e he).1) hi hj)
 have hadd : (⟨g, 0, none⟩ : Addr).add (i * size + j) = ⟨g, i * size + j, none⟩ := by unfold Addr.add; split <;> simp_all
 rw [hadd] at h1
 exact h1
theorem append (h : Lst w E size v es) {e : List Value} (he : e.length = size) (h1 : ∀ u ∈ e, u.oneCell' = true) {v' : Value} (hown : w'.ownsRow 0 E size v' (es.length + 1) (flat es ++ e)) : Lst w' E size v' (es ++ [e]) := by
 refine ⟨?_, fun x hx => ?_⟩
 · rw [List.length_append]
   have : flat (es ++ [e]) = flat es ++ e := by simp [flat]
   rw [this]
   exact hown
 · rcases List.mem_append.1 hx with hx | hx
   · exact h.rows x hx
   · rw [List.mem_singleton.1 hx]; exact ⟨he, h1⟩
theorem appends (h : Lst w E size v es) {ns : List (List Value)} (hns : ∀ e ∈ ns, e.length = size ∧ ∀ u ∈ e, u.oneCell' = true) {v' : Value} (hown : w'.ownsRow 0 E size v' (es.length + ns.length) (flat es ++ flat ns)) : Lst w' E size v' (es ++ ns) := by
 refine ⟨?_, fun x hx => ?_⟩
 · rw [List.length_append]
   have : flat (es ++ ns) = flat es ++ flat ns := by simp [flat]
   rw [this]
   exact hown
 · rcases List.mem_append.1 hx with hx | hx
   · exact h.rows x hx
   · exact hns x hx
end Lst
theorem flat_take {size : Nat} {es : List (List Value)} (hr : ∀ e ∈ es, e.length = size) (i : Nat) : (flat es).take (i * size) = flat (es.take i) := by
 induction es generalizing i with
 | nil => simp [flat]
 | cons x r ih =>
   have hx := hr x (by simp)
   cases i with
   | zero => simp [flat]
   | succ i =>
     have := ih (fun e he => hr e (by simp [he])) i
     rw [flat, List.flatten_cons, List.take_succ_cons, flat, List.flatten_cons, Nat.succ_mul, Nat.add_comm, List.take_append, hx, List.take_of_length_le (by omega), show size + i * size - size = i * size from by omega]
     rw [flat] at this
     rw [this]
theorem flat_drop {size : Nat} {es : List (List Value)} (hr : ∀ e ∈ es, e.length = size) (i : Nat) : (flat es).drop (i * size) = flat (es.drop i) := by
 induction es generalizing i with
 | nil => simp [flat]
 | cons x r ih =>
   have hx := hr x (by simp)
   cases i with
   | zero => simp [flat]
   | succ i =>
     have := ih (fun e he => hr e (by simp [he])) i
     rw [flat, List.flatten_cons, List.drop_succ_cons, Nat.succ_mul, Nat.add_comm, List.drop_append, hx, List.drop_of_length_le (by omega), show size + i * size - size = i * size from by omega]
     rw [flat] at this
     rw [this, List.nil_append]
theorem flat_length {size : Nat} {es : List (List Value)} (hr : ∀ e ∈ es, e.length = size) : (flat es).length = es.length * size := by
 induction es with
 | nil => simp [flat]
 | cons x r ih =>
   have hx := hr x (by simp)
   have := ih (fun e he => hr e (by simp [he]))
   rw [flat, List.flatten_cons, List.length_append, List.length_cons, Nat.succ_mul, hx]
   rw [flat] at this
   omega
theorem Lst.news {w : World} {E size : Nat} {v : Value} {es : List (List Value)} (h : Lst w E size v es) {g n cap : Nat} (hv : v = .slice (some ⟨g, 0, none⟩) n cap) (i : Nat) : ∀ j u, (flat (es.drop i))[j]? = some u → w.cell? ((⟨g, i * size, none⟩ : Addr).add j) = some u := by
 intro j u hu
 rw [← flat_drop (fun e he => (h.rows e he).1) i, List.getElem?_drop] at hu
 have h1 := h.own.cells (g := g) (by rw [hv]; rfl) (i * size + j) u hu
 have hadd : (⟨g, 0, none⟩ : Addr).add (i * size + j) = (⟨g, i * size, none⟩ : Addr).add j := by unfold Addr.add; split <;> split <;> simp_all
 rw [← hadd]
 exact h1
structure Elem (P : Program) (t E size bytes : Nat) : Prop where
 ht : P.underlying t = some (.slice E)
 info : ∃ z : Value, z.cells.size = size ∧ (P.info? E).map (fun i => (i.zero, i.size, i.bytes)) = some (some z, size, bytes)
 pos : 0 < size
 small : bytes ≤ 1000
theorem Lst.news_take {w : World} {E size : Nat} {v : Value} {es : List (List Value)} (h : Lst w E size v es) {g n cap : Nat} (hv : v = .slice (some ⟨g, 0, none⟩) n cap) (i : Nat) : ∀ j u, (flat (es.take i))[j]? = some u → w.cell? ((⟨g, 0, none⟩ : Addr).add j) = some u := by
 intro j u hu
 rw [← flat_take (fun e he => (h.rows e he).1) i, List.getElem?_take] at hu
 split at hu
 · exact h.own.cells (g := g) (by rw [hv]; rfl) j u hu
 · cases hu
theorem Lst.empty (w : World) (E size : Nat) : Lst (w.alloc (.cells #[] E)) E size (.slice (some ⟨w.heap.size, 0, none⟩) 0 0) [] :=
 ⟨World.ownsRow_made w #[] 0 (Nat.zero_le _) (by simp [maxLen]) (by simp), by simp⟩
theorem Lst.as {w : World} {E size : Nat} {A : Option Addr} {n n' c : Nat} {es es' : List (List Value)} (h : Lst w E size (.slice A n c) es) (hn : n' = n) (he : es' = es) : Lst w E size (.slice A n' c) es' := by subst hn he; exact h
variable {P : Program} {w : World} {t E size bytes : Nat} {v : Value} {es : List (List Value)}
theorem blocks_any (A : Option Addr) (n c n' c' : Nat) : blocks (.slice A n c) = blocks (.slice A n' c') := by cases A <;> rfl
theorem blocks_at (g n c : Nat) : blocks (.slice (some ⟨g, 0, none⟩) n c) = [g] := rfl
theorem run_cat (hE : Elem P t E size bytes) (hl : Lst w E size v es) (ad : Addr) (c : Nat) {ns : List (List Value)} (hns : ∀ e ∈ ns, e.length = size ∧ ∀ u ∈ e, u.oneCell' = true)
 (hnews : ∀ j u, (flat ns)[j]? = some u → w.cell? (ad.add j) = some u) (hn : es.length + ns.length ≤ 1000000) (ty : TypeId) :
 ∃ A cap w', (Builtin.append_ #[t, t] ty #[v, .slice (some ad) ns.length c]).run P w = .ok (.slice A (es.length + ns.length) cap) w' ∧ Lst w' E size (.slice A (es.length + ns.length) cap) (es ++ ns) ∧ Out w w' (blocks v) ∧
  (∀ k, k ∈ blocks (.slice A (es.length + ns.length) cap) → k ∈ blocks v ∨ k = w.heap.size) := by
 obtain ⟨z, hz, hinfo⟩ := hE.info
 obtain ⟨i, hi, hz0, hz1, hz2⟩ := info_parts hinfo
 have hbytes : (es.length + ns.length) * bytes ≤ 140737488355328 := by
  have := Nat.mul_le_mul hn hE.small
  omega
 obtain ⟨v', w', hr, h2, h3, _, h5⟩ := run_append_own_at (P := P) w 0 t ty E i z size bytes hE.ht hi hz0 hz1 hz2 hz hE.pos v es.length (flat es) hl.own ad ns.length c (flat ns) (flat_length fun e he => (hns e he).1) hnews
  (fun u hu => by obtain ⟨e, he, hu⟩ := List.mem_flatten.1 hu; exact (hns e he).2 u hu) (by unfold maxLen; omega) hbytes (Nat.zero_le _)
 have hl' : Lst w' E size v' (es ++ ns) := hl.appends hns h2
 obtain ⟨A, cap, hv', _⟩ := hl'.shape
 rw [List.length_append] at hv'
 subst hv'
 refine ⟨A, cap, w', hr, hl', Out.of_grown h3 (fun k hk => Or.inl (by rw [blocks, hk]; simp)), fun k hk => ?_⟩
 rcases h5 with h5 | h5
 · left; rw [blocks, ← h5]; exact hk
 · right; rw [blocks, h5] at hk; simpa using hk
theorem run_push (hE : Elem P t E size bytes) (hl : Lst w E size v es) (B c : Nat) {e : List Value} (he : e.length = size) (h1 : ∀ u ∈ e, u.oneCell' = true) (hB : BlockIs w B E e.toArray) (hn : es.length + 1 ≤ 1000000) (ty : TypeId) :
 ∃ g cap w', (Builtin.append_ #[t, t] ty #[v, .slice (some ⟨B, 0, none⟩) 1 c]).run P w = .ok (.slice (some ⟨g, 0, none⟩) (es.length + 1) cap) w' ∧ Lst w' E size (.slice (some ⟨g, 0, none⟩) (es.length + 1) cap) (es ++ [e]) ∧ Out w w' (blocks v) ∧
  (g ∈ blocks v ∨ g = w.heap.size) ∧ g < w'.heap.size := by
 obtain ⟨A, cap, w', hr, h2, h3, h4⟩ := run_cat (ns := [e]) hE hl ⟨B, 0, none⟩ c (by intro x hx; rw [List.mem_singleton.1 hx]; exact ⟨he, h1⟩)
  (by intro j u hu; have hu' : e[j]? = some u := by simpa [flat] using hu
      exact World.news_of_block (cs := e.toArray) hB j u hu') hn ty
 obtain ⟨A', cap', hv', _, _, hA⟩ := h2.shape
 simp only [List.length_append, List.length_cons, List.length_nil, Nat.zero_add, Value.slice.injEq] at hv'
 obtain ⟨rfl, _, rfl⟩ := hv'
 rcases hA with ⟨_, h0, _⟩ | ⟨g, rfl⟩
 · simp at h0
 · refine ⟨g, cap, w', hr, h2, h3, h4 g (by simp [Value.ownBlock]), h2.lt g (by simp [Value.ownBlock])⟩
section
variable {ops : Array Oper} {rest : List Oper} {o : Oper} {a : Act} {Q : Exit → Act → World → Prop} {K : Act → World → Prop}
theorem wp_push (s x : Operand) (t : TypeId) (ho : o.op = .call { callee := .builtin .append, args := #[s, x], argTypes := #[t, t] })
 (E size bytes : Nat) (hE : Elem P t E size bytes) (v : Value) (es : List (List Value)) (hs : a.eval s = v) (hl : Lst w E size v es) (B c : Nat) (e : List Value) (hx : a.eval x = .slice (some ⟨B, 0, none⟩) 1 c) (he : e.length = size) (h1 : ∀ u ∈ e, u.oneCell' = true)
 (hB : BlockIs w B E e.toArray) (hn : es.length + 1 ≤ 1000000)
 (h : ∀ g cap w', Lst w' E size (.slice (some ⟨g, 0, none⟩) (es.length + 1) cap) (es ++ [e]) → Out w w' (blocks v) → (g ∈ blocks v ∨ g = w.heap.size) → g < w'.heap.size → K (a.put o.dst (.slice (some ⟨g, 0, none⟩) (es.length + 1) cap)) w') : o.wp P a w K Q := by
 obtain ⟨g, cap, w', hr, h2, h3, h4, h5⟩ := run_push (P := P) hE hl B c he h1 hB hn o.type
 unfold Oper.wp execOp
 simp only [ho, resolve, invoke, builtin, Sem.run_bind, Sem.run_pure, Result.andThen_ok, List.map_toArray, List.map_cons, List.map_nil, hs, hx, hr]
 exact h g cap w' h2 h3 h4 h5
theorem wpList_push (hgd : o.guard = none) (s x : Operand) (t : TypeId) (ho : o.op = .call { callee := .builtin .append, args := #[s, x], argTypes := #[t, t] })
 (E size bytes : Nat) (hE : Elem P t E size bytes) (v : Value) (es : List (List Value)) (hs : a.eval s = v) (hl : Lst w E size v es) (B c : Nat) (e : List Value) (hx : a.eval x = .slice (some ⟨B, 0, none⟩) 1 c) (he : e.length = size) (h1 : ∀ u ∈ e, u.oneCell' = true)
 (hB : BlockIs w B E e.toArray) (hn : es.length + 1 ≤ 1000000)
 (h : ∀ g cap w', Lst w' E size (.slice (some ⟨g, 0, none⟩) (es.length + 1) cap) (es ++ [e]) → Out w w' (blocks v) → (g ∈ blocks v ∨ g = w.heap.size) → g < w'.heap.size → wpList P ops Q rest (a.put o.dst (.slice (some ⟨g, 0, none⟩) (es.length + 1) cap)) w') : wpList P ops Q (o :: rest) a w :=
 wpList_plain hgd fun _ hK => wp_push s x t ho E size bytes hE v es hs hl B c e hx he h1 hB hn fun g cap w' h2 h3 h4 h5 => hK _ _ (h g cap w' h2 h3 h4 h5)
theorem step_push {X : Prop} (hgd : o.guard = none) (s x : Operand) (t : TypeId) (ho : o.op = .call { callee := .builtin .append, args := #[s, x], argTypes := #[t, t] })
 (E size bytes : Nat) (hE : Elem P t E size bytes) (v : Value) (es : List (List Value)) (hs : a.eval s = v) (hl : Lst w E size v es) (B c : Nat) (e : List Value) (hx : a.eval x = .slice (some ⟨B, 0, none⟩) 1 c) (he : e.length = size) (h1 : ∀ u ∈ e, u.oneCell' = true)
 (hB : BlockIs w B E e.toArray) (hn : es.length + 1 ≤ 1000000)
 (h : ∀ g cap w', Lst w' E size (.slice (some ⟨g, 0, none⟩) (es.length + 1) cap) (es ++ [e]) → Out w w' (blocks v) → (g ∈ blocks v ∨ g = w.heap.size) → g < w'.heap.size → K (a.put o.dst (.slice (some ⟨g, 0, none⟩) (es.length + 1) cap)) w') :
 if Region.wanted o (yielded ops a.tmps) = true then Oper.wp P o a w K Q else X := by
 have hw : Region.wanted o (yielded ops a.tmps) = true := by simp [Region.wanted, hgd]
 rw [if_pos hw]
 exact wp_push s x t ho E size bytes hE v es hs hl B c e hx he h1 hB hn h
theorem wp_cat (s x : Operand) (t : TypeId) (ho : o.op = .call { callee := .builtin .append, args := #[s, x], argTypes := #[t, t] })
 (E size bytes : Nat) (hE : Elem P t E size bytes) (v : Value) (es : List (List Value)) (hs : a.eval s = v) (hl : Lst w E size v es) (ad : Addr) (m c : Nat) (ns : List (List Value)) (hx : a.eval x = .slice (some ad) m c) (hm : ns.length = m) (hns : ∀ e ∈ ns, e.length = size ∧ ∀ u ∈ e, u.oneCell' = true)
 (hnews : ∀ j u, (flat ns)[j]? = some u → w.cell? (ad.add j) = some u) (hn : es.length + ns.length ≤ 1000000)
 (h : ∀ A cap w', Lst w' E size (.slice A (es.length + m) cap) (es ++ ns) → Out w w' (blocks v) → (∀ k, k ∈ blocks (.slice A (es.length + m) cap) → k ∈ blocks v ∨ k = w.heap.size) → K (a.put o.dst (.slice A (es.length + m) cap)) w') : o.wp P a w K Q := by
 subst hm
 obtain ⟨A, cap, w', hr, h2, h3, h4⟩ := run_cat (P := P) hE hl ad c hns hnews hn o.type
 unfold Oper.wp execOp
 simp only [ho, resolve, invoke, builtin, Sem.run_bind, Sem.run_pure, Result.andThen_ok, List.map_toArray, List.map_cons, List.map_nil, hs, hx, hr]
 exact h A cap w' h2 h3 h4
theorem wpList_cat (hgd : o.guard = none) (s x : Operand) (t : TypeId) (ho : o.op = .call { callee := .builtin .append, args := #[s, x], argTypes := #[t, t] })
 (E size bytes : Nat) (hE : Elem P t E size bytes) (v : Value) (es : List (List Value)) (hs : a.eval s = v) (hl : Lst w E size v es) (ad : Addr) (m c : Nat) (ns : List (List Value)) (hx : a.eval x = .slice (some ad) m c) (hm : ns.length = m) (hns : ∀ e ∈ ns, e.length = size ∧ ∀ u ∈ e, u.oneCell' = true)
 (hnews : ∀ j u, (flat ns)[j]? = some u → w.cell? (ad.add j) = some u) (hn : es.length + ns.length ≤ 1000000)
 (h : ∀ A cap w', Lst w' E size (.slice A (es.length + m) cap) (es ++ ns) → Out w w' (blocks v) → (∀ k, k ∈ blocks (.slice A (es.length + m) cap) → k ∈ blocks v ∨ k = w.heap.size) → wpList P ops Q rest (a.put o.dst (.slice A (es.length + m) cap)) w') : wpList P ops Q (o :: rest) a w :=
 wpList_plain hgd fun _ hK => wp_cat s x t ho E size bytes hE v es hs hl ad m c ns hx hm hns hnews hn fun A cap w' h2 h3 h4 => hK _ _ (h A cap w' h2 h3 h4)
theorem step_cat {X : Prop} (hgd : o.guard = none) (s x : Operand) (t : TypeId) (ho : o.op = .call { callee := .builtin .append, args := #[s, x], argTypes := #[t, t] })
 (E size bytes : Nat) (hE : Elem P t E size bytes) (v : Value) (es : List (List Value)) (hs : a.eval s = v) (hl : Lst w E size v es) (ad : Addr) (m c : Nat) (ns : List (List Value)) (hx : a.eval x = .slice (some ad) m c) (hm : ns.length = m) (hns : ∀ e ∈ ns, e.length = size ∧ ∀ u ∈ e, u.oneCell' = true)
 (hnews : ∀ j u, (flat ns)[j]? = some u → w.cell? (ad.add j) = some u) (hn : es.length + ns.length ≤ 1000000)
 (h : ∀ A cap w', Lst w' E size (.slice A (es.length + m) cap) (es ++ ns) → Out w w' (blocks v) → (∀ k, k ∈ blocks (.slice A (es.length + m) cap) → k ∈ blocks v ∨ k = w.heap.size) → K (a.put o.dst (.slice A (es.length + m) cap)) w') :
 if Region.wanted o (yielded ops a.tmps) = true then Oper.wp P o a w K Q else X := by
 have hw : Region.wanted o (yielded ops a.tmps) = true := by simp [Region.wanted, hgd]
 rw [if_pos hw]
 exact wp_cat s x t ho E size bytes hE v es hs hl ad m c ns hx hm hns hnews hn h
end
@[go_sem] theorem lt_up {n m : Nat} (h : n < m) : (n < m + 1) = True := eq_true (by omega)
@[go_sem] theorem isSome_put (w : World) (a b : Addr) (v : Value) : ((w.setCell a v).cell? b).isSome = (w.cell? b).isSome := by
 by_cases h : a.block = b.block
 · have e : (w.setCell a v).heap[b.block]? = (w.heap[b.block]?).map fun
    | .cells c elem frozen => .cells (if a.spot.isSome then c else c.setIfInBounds a.off v) elem frozen
    | o => o := by
    simp only [World.setCell, Array.getElem?_modify]
    rw [if_pos h]
    cases w.heap[b.block]? <;> rfl
   unfold World.cell?
   rw [e]
   cases hb : w.heap[b.block]? with
   | none => rfl
   | some o =>
     cases o <;> simp only [Option.map_some]
     split
     · rfl
     · split
       · rfl
       · rw [Bool.eq_iff_iff]; simp
 · unfold World.cell?
   have e : (w.setCell a v).heap[b.block]? = w.heap[b.block]? := by
    simp only [World.setCell, Array.getElem?_modify]
    rw [if_neg h]
   rw [e]
theorem keep1 {W w1 : World} {g : Nat} (hb : Below W.heap.size W w1) (hg : g < W.heap.size) : (g < w1.heap.size) ∧ (∀ o, w1.cell? ⟨g, o, none⟩ = W.cell? ⟨g, o, none⟩) ∧ (∀ o, w1.frozen? ⟨g, o, none⟩ = W.frozen? ⟨g, o, none⟩) :=
 ⟨Nat.lt_of_lt_of_le hg hb.size, fun o => hb.cell (p := ⟨g, o, none⟩) hg, fun o => hb.frozen (p := ⟨g, o, none⟩) hg⟩
theorem keepk {W w1 : World} (g : Nat) {R : Prop} (hb : Below W.heap.size W w1) (hg : g < W.heap.size) (h : (g < w1.heap.size) → (∀ o, w1.cell? ⟨g, o, none⟩ = W.cell? ⟨g, o, none⟩) → (∀ o, w1.frozen? ⟨g, o, none⟩ = W.frozen? ⟨g, o, none⟩) → R) : R :=
 h (keep1 hb hg).1 (keep1 hb hg).2.1 (keep1 hb hg).2.2
theorem stop_at (n : Nat) {P : Program} {ops : Array Oper} {d : Bool} {c : Code} {Q : Exit → Act → World → Prop} {a : Act} {w : World}
 (h : Code.wp P ((Code.region n ops d).seq c) Q a w) : Code.wp P ((Code.region n ops d).seq c) Q a w := h
structure Rng where
 lo : Int
 hi : Int
deriving DecidableEq
def rngRow (r : Rng) : List Value := [.int .i64 r.lo, .int .i64 r.hi]
theorem rngRow_one (r : Rng) : (rngRow r).length = 2 ∧ ∀ u ∈ rngRow r, u.oneCell' = true := ⟨rfl, by intro u hu; simp [rngRow] at hu; rcases hu with rfl | rfl <;> rfl⟩
theorem Tryz.elRange : Elem Tryz.prog 44 101 2 16 := ⟨Tryz.underlying44, ⟨.agg #[.int .i64 0, .int .i64 0], rfl, by kernel_rfl⟩, by decide, by decide⟩
theorem elem_of_rng {L : List Rng} {i : Nat} (h : i < L.length) : (L.map rngRow)[i]? = some (rngRow L[i]) := by simp [h]
theorem intsIn_nil (w : World) : IntsIn w (.slice none 0 0) [] := ⟨by simp, none, 0, rfl, by simp, by simp [maxLen], by simp⟩
def sth (ss : List ByteArray) (i : Nat) : ByteArray := ss.getD i ByteArray.empty
/-! quiet calls -/
theorem quiet_a {P : Program} {f : FuncId} {args : Array Value} {w : World} {n : Nat} {v : Value}
 (h : Calls P f args (w.drewN n) fun e w' => e = .returned v ∧ w.drewN n = w') : Calls P f args (w.drewN n) fun e w'' => e = .returned v ∧ ∃ m, w'' = w.drewN m :=
 h.mono fun _ _ hh => ⟨hh.1, n, hh.2.symm⟩
structure Rd (w : World) (k : Nat) (v : Value) (es : List (List Value)) : Prop where
 shape : ∃ A cap, v = .slice A es.length cap ∧ es.length ≤ cap ∧ cap ≤ maxLen ∧ (es ≠ [] → ∃ b off, A = some ⟨b, off, none⟩ ∧ b < w.heap.size ∧ ∀ j u, (flat es)[j]? = some u → w.cell? ⟨b, off + j, none⟩ = some u)
 rows : ∀ e ∈ es, e.length = k ∧ ∀ u ∈ e, u.oneCell' = true
theorem Rd.later {w w' : World} {k : Nat} {v : Value} {es : List (List Value)} (h : Rd w k v es) (hb : Below w.heap.size w w') : Rd w' k v es := by
 obtain ⟨⟨A, cap, h1, h2, h3, h4⟩, h5⟩ := h
 refine ⟨⟨A, cap, h1, h2, h3, fun hne => ?_⟩, h5⟩
 obtain ⟨b, off, e, hlt, hc⟩ := h4 hne
 exact ⟨b, off, e, Nat.lt_of_lt_of_le hlt hb.size, fun j u hu => (hb.cell (p := ⟨b, off + j, none⟩) hlt).trans (hc j u hu)⟩
theorem Rd.of_lst {w : World} {E k : Nat} {v : Value} {es : List (List Value)} (h : Lst w E k v es) : Rd w k v es := by
 obtain ⟨A, cap, hv, hc, hm, hA⟩ := h.shape
 refine ⟨⟨A, cap, hv, hc, hm, fun hne => ?_⟩, h.rows⟩
 rcases hA with ⟨_, h0, _⟩ | ⟨g, rfl⟩
 · exact absurd h0 hne
 · refine ⟨g, 0, rfl, h.lt g (by rw [hv]; simp [Value.ownBlock]), fun j u hu => ?_⟩
   have := h.own.cells (g := g) (by rw [hv]; rfl) j u hu
   have hadd : (⟨g, 0, none⟩ : Addr).add j = ⟨g, 0 + j, none⟩ := by unfold Addr.add; split <;> simp_all
   rw [← hadd]
   exact this
theorem Rd.nil (w : World) (k : Nat) : Rd w k (.slice none 0 0) [] := ⟨⟨none, 0, rfl, by simp, by simp [maxLen], by simp⟩, by simp⟩
theorem Rd.at_ {w : World} {k : Nat} {b off n cap : Nat} {es : List (List Value)} (h : Rd w k (.slice (some ⟨b, off, none⟩) n cap) es) {i j : Nat} {e : List Value} {u : Value} (hi : es[i]? = some e) (hj : e[j]? = some u) : w.cell? ⟨b, off + (i * k + j), none⟩ = some u := by
 obtain ⟨A, cap', hv, _, _, hc⟩ := h.shape
 have hne : es ≠ [] := by rintro rfl; simp at hi
 obtain ⟨b', off', hA, _, hcc⟩ := hc hne
 subst hA
 simp only [Value.slice.injEq, Option.some.injEq, Addr.mk.injEq, and_true] at hv
 obtain ⟨⟨rfl, rfl⟩, _⟩ := hv
 exact hcc _ u (Lst.flat_get (fun e he => (h.rows e he).1) hi hj)
instance : Inhabited Rng := ⟨⟨0, 0⟩⟩
def okI (n : Int) : Prop := -9223372036854775808 ≤ n ∧ n ≤ 9223372036854775807
end Go.Proofs.YtmfbaijbigodkaaGreatDoor
namespace Go.Proofs.YtmfbaijbigodkaaGreatDoor
open Go.ChangeShapes Go.WideShapes Go.ChangeAt Go.RowKit
theorem rmay_yes (n : Int) (h1 : 0 ≤ n) (h2 : n ≤ 1073741823) (w : World) :
 Calls Tryz.prog 86 #[.int .i64 n] w fun e w' => e = .returned (.bool true) ∧ w = w' := by
 go_enter Tryz.func86, Tryz.ntmps86
 go_wp2
 go_ret
 exact ⟨rfl, rfl⟩
theorem rmay_no (n : Int) (h : ¬ MayBe n) (w : World) :
 Calls Tryz.prog 86 #[.int .i64 n] w fun e w' => e = .returned (.bool false) ∧ w = w' := by
 unfold MayBe at h
 by_cases h1 : 0 ≤ n
 · have h2 : decide (n ≤ 1073741823) = false := by simp; omega
   clear h
   go_enter Tryz.func86, Tryz.ntmps86
   go_wp2
   go_ret
   exact ⟨rfl, rfl⟩
 · clear h
   go_enter Tryz.func86, Tryz.ntmps86
   go_wp2
   go_ret
   exact ⟨rfl, rfl⟩
end Go.Proofs.YtmfbaijbigodkaaGreatDoor
namespace Go.Proofs.YtmfbaijbigodkaaGreatDoor
open Go.ChangeShapes Go.WideShapes Go.ChangeAt Go.RowKit
set_option linter.unusedVariables false
instance (n : Int) : Decidable (MayBe n) := by unfold MayBe; infer_instance
def mayB (n : Int) : Bool := decide (0 ≤ n) && decide (n ≤ 1073741823)
theorem mayB_iff {n : Int} : mayB n = true ↔ MayBe n := by unfold mayB MayBe; simp
theorem mayB_not {n : Int} (h : ¬ MayBe n) : mayB n = false := by
 cases hb : mayB n
 · rfl
 · exact absurd (mayB_iff.1 hb) h
theorem rmay_any (n : Int) (w : World) : Calls Tryz.prog 86 #[.int .i64 n] w fun e w' => e = .returned (.bool (mayB n)) ∧ w = w' := by
 by_cases h : MayBe n
 · rw [mayB_iff.2 h]; exact rmay_yes n h.1 h.2 w
 · rw [mayB_not h]; exact rmay_no n h w
theorem may_any (n : Int) (w : World) : Calls Tryz.prog 93 #[.int .i64 n] w fun e w' => e = .returned (.bool (mayB n)) ∧ w = w' := by
 by_cases h : MayBe n
 · rw [mayB_iff.2 h]; exact may_yes n h.1 h.2 w
 · rw [mayB_not h]; exact may_no n h w
def rat (L : List Rng) (i : Nat) : Rng := L.getD i ⟨0, 0⟩
theorem rat_get {L : List Rng} {i : Nat} (h : i < L.length) : rat L i = L[i] := by unfold rat; simp [List.getD, List.getElem?_eq_getElem h]
def rngOne (L : List Rng) (i : Nat) : Int :=
 if mayB (rat L i).lo = true ∧ mayB (rat L i).hi = true then (if (rat L i).hi < (rat L i).lo ∨ (0 < i ∧ (rat L (i - 1)).lo ≤ (rat L i).hi + 1) then 3 else 0) else 1
def rngUp (L : List Rng) : Nat → Int
 | 0 => 0
 | n + 1 => if rngUp L n = 0 then rngOne L n else rngUp L n
def rngE (L : List Rng) : Int := if 12 < L.length then 4 else rngUp L L.length
theorem rngUp_bad {L : List Rng} {i : Nat} {x : Int} (h0 : rngUp L i = 0) (h : rngOne L i = x) (hx : x ≠ 0) : ∀ n, i < n → rngUp L n = x := by
 intro n
 induction n with
 | zero => intro h; omega
 | succ n ih =>
   intro hn
   unfold rngUp
   by_cases he : i = n
   · subst he; rw [if_pos h0]; exact h
   · rw [ih (by omega), if_neg hx]
theorem rngUp_ok {L : List Rng} {i : Nat} (h0 : rngUp L i = 0) (h : rngOne L i = 0) : rngUp L (i + 1) = 0 := by
 rw [rngUp, if_pos h0]; exact h
def rin (r : Rng) (n : Int) : Bool := decide (r.lo ≤ n) && decide (n ≤ r.hi)
def inB (L : List Rng) (n : Int) : Bool := L.any fun r => rin r n
theorem inB_take {L : List Rng} {i : Nat} {n : Int} (h : i < L.length) (h0 : ∀ j, j < i → rin (rat L j) n = false) (h1 : rin (rat L i) n = true) : inB L n = true := by
 rw [rat_get h] at h1
 exact List.any_eq_true.2 ⟨L[i], List.getElem_mem h, h1⟩
theorem inB_none {L : List Rng} {n : Int} (h0 : ∀ j, j < L.length → rin (rat L j) n = false) : inB L n = false := by
 cases hb : inB L n with
 | false => rfl
 | true =>
   obtain ⟨r, hr, hx⟩ := List.any_eq_true.1 hb
   obtain ⟨i, hi, rfl⟩ := List.getElem_of_mem hr
   have := h0 i hi
   rw [rat_get hi, hx] at this
   cases this
theorem Rd.rng {w : World} {A : Option Addr} {n cap : Nat} {L : List Rng} (h : Rd w 2 (.slice A n cap) (L.map rngRow)) {i : Nat} (hi : i < L.length) : ∃ b off, A = some ⟨b, off, none⟩ ∧ b < w.heap.size ∧ ∀ w', Since w w' → ∀ j, j < L.length → w'.cell? ⟨b, off + j * 2, none⟩ = some (.int .i64 (rat L j).lo) ∧ w'.cell? ⟨b, off + j * 2 + 1, none⟩ = some (.int .i64 (rat L j).hi) := by
 obtain ⟨A', cap', hv, _, _, hc⟩ := h.shape
 obtain ⟨b, off, hA, hlt, _⟩ := hc (by intro he; have := congrArg List.length he; simp at this; subst this; simp at hi)
 simp only [Value.slice.injEq] at hv
 obtain ⟨rfl, _, _⟩ := hv
 subst hA
 refine ⟨b, off, rfl, hlt, fun w' hs j hj => ?_⟩
 have hh := h.later hs
 rw [rat_get hj]
 exact ⟨hh.at_ (elem_of_rng hj) (j := 0) rfl, by rw [Nat.add_assoc]; exact hh.at_ (elem_of_rng hj) (j := 1) rfl⟩
theorem rcheck (A : Option Addr) (n cap : Nat) (L : List Rng) (w : World) (hn : L.length = n) (hb : ∀ r ∈ L, okI r.lo ∧ okI r.hi) (h : Rd w 2 (.slice A n cap) (L.map rngRow)) :
 Calls Tryz.prog 104 #[.slice A n cap] w fun e w' => e = .returned (errV (rngE L)) ∧ Below w.heap.size w w' := by
 have H := Lib.hid h
 have HN := Lib.hid hn
 have hcm : n ≤ 9223372036854775807 := by
  obtain ⟨A', cap', hv, h1, h2, _⟩ := h.shape
  rw [List.length_map, hn] at h1
  unfold maxLen at h2
  omega
 have hbb : ∀ i, i < n → okI (rat L i).lo ∧ okI (rat L i).hi := fun i hi => by rw [rat_get (by omega)]; exact hb _ (List.getElem_mem _)
 have HB := Lib.hid hbb
 clear h hn hb hbb
 by_cases h12 : 12 < n
 · have E : Hid (rngE L = 4) := Lib.hid (by unfold rngE; rw [HN.out, if_pos h12])
   have h12' : (12 : Int) < (n : Int) := by omega
   go_enter Tryz.func104, Tryz.ntmps104
   go_wp2
   go_ret
   exact ⟨by rw [E.out]; rfl, (by exact Since.refl _)⟩
 have EU : Hid (rngE L = rngUp L n) := Lib.hid (by unfold rngE; rw [HN.out, if_neg h12])
 have h12' : decide ((12 : Int) < (n : Int)) = false := by simp; omega
 go_enter Tryz.func104, Tryz.ntmps104
 go_wp2_with fail
 go_loopw [3, 4, 11] (fun s3 s4 s11 wr => ∃ i : Nat, s11 = .int .i64 i ∧ i ≤ n ∧ Hid (rngUp L i = 0) ∧ Since w wr) (fun _ _ s11 _ => n - (intOf s11).toNat)
 case atStart => exact ⟨0, rfl, Nat.zero_le _, Lib.hid rfl, Since.refl _⟩
 case round =>
  obtain ⟨i, rfl, hi, HU, hs⟩ := hrel
  by_cases hlt : i < n
  case neg =>
   obtain rfl : i = n := by omega
   have hf : decide ((i : Int) < (i : Int)) = false := by simp
   go_wp2_with fail
   go_ret
   exact ⟨by rw [EU.out, HU.out]; rfl, (by exact hs)⟩
  have hlt' : (i : Int) < (n : Int) := by omega
  obtain ⟨b, off, rfl, hbl, hc⟩ := H.out.rng (i := i) (by rw [HN.out]; exact hlt)
  obtain ⟨c0, c1⟩ := hc wr hs i (by rw [HN.out]; exact hlt)
  have hpc : 0 < i → wr.cell? ⟨b, off + (i - 1) * 2, none⟩ = some (.int .i64 (rat L (i - 1)).lo) := fun h => (hc wr hs (i - 1) (by rw [HN.out]; omega)).1
  obtain ⟨b0, b1⟩ := HB.out i hlt
  have HO : Hid (∀ x, rngOne L i = x → x ≠ 0 → rngE L = x) := Lib.hid (fun x h hx => by rw [EU.out]; exact rngUp_bad HU.out h hx n hlt)
  have HK : Hid (rngOne L i = 0 → rngUp L (i + 1) = 0) := Lib.hid (rngUp_ok HU.out)
  have HD : Hid (rngOne L i = if mayB (rat L i).lo = true ∧ mayB (rat L i).hi = true then (if (rat L i).hi < (rat L i).lo ∨ (0 < i ∧ (rat L (i - 1)).lo ≤ (rat L i).hi + 1) then 3 else 0) else 1) := Lib.hid rfl
  generalize (rat L i).lo = lo at *
  generalize (rat L i).hi = hi2 at *
  generalize (rat L (i - 1)).lo = plo at *
  have lb : b < wr.heap.size := Nat.lt_of_lt_of_le hbl hs.le
  clear hc
  cases hm1 : mayB lo with
  | false =>
    have E := Lib.hid (HO.out 1 (by rw [HD.out, hm1]; simp) (by decide))
    have HM := Lib.hid hm1
    clear hm1 hpc
    go_wp2_with (go_at_call 93; refine (may_any lo _).mono ?_; rintro e w' ⟨rfl, rfl⟩; rw [HM.out])
    go_ret
    exact ⟨by rw [E.out]; rfl, (by exact Since.alloc hs _)⟩
  | true =>
    cases hm2 : mayB hi2 with
    | false =>
      have E := Lib.hid (HO.out 1 (by rw [HD.out, hm1, hm2]; simp) (by decide))
      have HM1 := Lib.hid hm1
      have HM2 := Lib.hid hm2
      clear hm1 hm2 hpc
      go_wp2_with (go_at_call 93; refine (may_any _ _).mono ?_; rintro e w' ⟨rfl, rfl⟩; first | rw [HM1.out] | rw [HM2.out])
      go_ret
      exact ⟨by rw [E.out]; rfl, (by exact Since.alloc hs _)⟩
    | true =>
      have hmm := (mayB_iff.1 hm2)
      have hm0 := (mayB_iff.1 hm1)
      have HM1 := Lib.hid hm1
      have HM2 := Lib.hid hm2
      have HD2 : Hid (rngOne L i = if hi2 < lo ∨ (0 < i ∧ plo ≤ hi2 + 1) then 3 else 0) := Lib.hid (by rw [HD.out, hm1, hm2]; simp)
      clear hm1 hm2 HD b0 b1
      unfold MayBe at hmm hm0
      obtain ⟨m1, m2⟩ := hmm
      obtain ⟨m3, m4⟩ := hm0
      by_cases hlh : hi2 < lo
      · have E := Lib.hid (HO.out 3 (by rw [HD2.out, if_pos (Or.inl hlh)]) (by decide))
        clear hpc
        go_wp2_with (go_at_call 93; refine (may_any _ _).mono ?_; rintro e w' ⟨rfl, rfl⟩; first | rw [HM1.out] | rw [HM2.out])
        go_quiet (fail)
        go_wp2_with fail
        go_ret
        exact ⟨by rw [E.out]; rfl, (by exact Since.drewN (Since.alloc hs _) _)⟩
      have hlh' : decide (hi2 < lo) = false := by simpa using hlh
      by_cases hi0 : i = 0
      · subst hi0
        have K := Lib.hid (HK.out (by rw [HD2.out, if_neg (by omega)]))
        have c0' : wr.cell? ⟨b, off, none⟩ = some (.int .i64 lo) := by simpa using c0
        have c1' : wr.cell? ⟨b, off + 1, none⟩ = some (.int .i64 hi2) := by simpa using c1
        clear hpc c0 c1
        go_wp2_with (go_at_call 93; refine (may_any _ _).mono ?_; rintro e w' ⟨rfl, rfl⟩; first | rw [HM1.out] | rw [HM2.out])
        go_quiet (fail)
        go_wp2_with fail
        go_roundw
        case rel => exact ⟨0 + 1, by go_num, by omega, K, (by exact Since.drewN (Since.alloc hs _) _)⟩
        case measure => simp [intOf]; omega
      have hip : 0 < i := by omega
      have c2 := hpc hip
      have hi1 : (0 : Int) < (i : Int) := by omega
      have hi2' : (i : Int) - 1 = ((i - 1 : Nat) : Int) := by omega
      have hi3 : ((i - 1 : Nat) : Int) < (n : Int) := by omega
      by_cases hp : plo ≤ hi2 + 1
      · have E := Lib.hid (HO.out 3 (by rw [HD2.out, if_pos (Or.inr ⟨hip, hp⟩)]) (by decide))
        clear hpc
        go_wp2_with (go_at_call 93; refine (may_any _ _).mono ?_; rintro e w' ⟨rfl, rfl⟩; first | rw [HM1.out] | rw [HM2.out])
        go_quiet (fail)
        go_wp2_with fail
        go_ret
        exact ⟨by rw [E.out]; rfl, (by exact Since.drewN (Since.alloc hs _) _)⟩
      · have hp' : decide (plo ≤ hi2 + 1) = false := by simpa using hp
        have K := Lib.hid (HK.out (by rw [HD2.out, if_neg (by omega)]))
        clear hpc
        go_wp2_with (go_at_call 93; refine (may_any _ _).mono ?_; rintro e w' ⟨rfl, rfl⟩; first | rw [HM1.out] | rw [HM2.out])
        go_quiet (fail)
        go_wp2_with fail
        go_roundw
        case rel => exact ⟨i + 1, by go_num, by omega, K, (by exact Since.drewN (Since.alloc hs _) _)⟩
        case measure => simp [intOf]; omega
theorem rcheckR (A : Option Addr) (n cap : Nat) (L : List Rng) (w : World) (hn : L.length = n) (hb : ∀ r ∈ L, okI r.lo ∧ okI r.hi) (h : Rd w 2 (.slice A n cap) (L.map rngRow)) :
 Calls Tryz.prog 128 #[.slice A n cap] w fun e w' => e = .returned (.int .i64 (rngE L)) ∧ Below w.heap.size w w' := by
 have H := Lib.hid h
 have HN := Lib.hid hn
 have hcm : n ≤ 9223372036854775807 := by
  obtain ⟨A', cap', hv, h1, h2, _⟩ := h.shape
  rw [List.length_map, hn] at h1
  unfold maxLen at h2
  omega
 have hbb : ∀ i, i < n → okI (rat L i).lo ∧ okI (rat L i).hi := fun i hi => by rw [rat_get (by omega)]; exact hb _ (List.getElem_mem _)
 have HB := Lib.hid hbb
 clear h hn hb hbb
 by_cases h12 : 12 < n
 · have E : Hid (rngE L = 4) := Lib.hid (by unfold rngE; rw [HN.out, if_pos h12])
   have h12' : (12 : Int) < (n : Int) := by omega
   go_enter Tryz.func128, Tryz.ntmps128
   go_wp2
   go_ret
   exact ⟨by rw [E.out]; rfl, (by exact Since.refl _)⟩
 have EU : Hid (rngE L = rngUp L n) := Lib.hid (by unfold rngE; rw [HN.out, if_neg h12])
 have h12' : decide ((12 : Int) < (n : Int)) = false := by simp; omega
 go_enter Tryz.func128, Tryz.ntmps128
 go_wp2_with fail
 go_loopw [3, 4, 5] (fun s3 s4 s5 wr => ∃ i : Nat, s3 = .int .i64 i ∧ i ≤ n ∧ Hid (rngUp L i = 0) ∧ Since w wr) (fun s3 _ _ _ => n - (intOf s3).toNat)
 case atStart => exact ⟨0, rfl, Nat.zero_le _, Lib.hid rfl, Since.refl _⟩
 case round =>
  obtain ⟨i, rfl, hi, HU, hs⟩ := hrel
  by_cases hlt : i < n
  case neg =>
   obtain rfl : i = n := by omega
   have hf : decide ((i : Int) < (i : Int)) = false := by simp
   go_wp2_with fail
   go_ret
   exact ⟨by rw [EU.out, HU.out]; rfl, (by exact hs)⟩
  have hlt' : (i : Int) < (n : Int) := by omega
  obtain ⟨b, off, rfl, hbl, hc⟩ := H.out.rng (i := i) (by rw [HN.out]; exact hlt)
  obtain ⟨c0, c1⟩ := hc wr hs i (by rw [HN.out]; exact hlt)
  have hpc : 0 < i → wr.cell? ⟨b, off + (i - 1) * 2, none⟩ = some (.int .i64 (rat L (i - 1)).lo) := fun h => (hc wr hs (i - 1) (by rw [HN.out]; omega)).1
  obtain ⟨b0, b1⟩ := HB.out i hlt
  have HO : Hid (∀ x, rngOne L i = x → x ≠ 0 → rngE L = x) := Lib.hid (fun x h hx => by rw [EU.out]; exact rngUp_bad HU.out h hx n hlt)
  have HK : Hid (rngOne L i = 0 → rngUp L (i + 1) = 0) := Lib.hid (rngUp_ok HU.out)
  have HD : Hid (rngOne L i = if mayB (rat L i).lo = true ∧ mayB (rat L i).hi = true then (if (rat L i).hi < (rat L i).lo ∨ (0 < i ∧ (rat L (i - 1)).lo ≤ (rat L i).hi + 1) then 3 else 0) else 1) := Lib.hid rfl
  generalize (rat L i).lo = lo at *
  generalize (rat L i).hi = hi2 at *
  generalize (rat L (i - 1)).lo = plo at *
  have lb : b < wr.heap.size := Nat.lt_of_lt_of_le hbl hs.le
  clear hc
  cases hm1 : mayB lo with
  | false =>
    have E := Lib.hid (HO.out 1 (by rw [HD.out, hm1]; simp) (by decide))
    have HM := Lib.hid hm1
    clear hm1 hpc
    go_wp2_with (go_at_call 86; refine (rmay_any _ _).mono ?_; rintro e w' ⟨rfl, rfl⟩; first | rw [HM.out] | skip)
    go_ret
    exact ⟨by rw [E.out]; rfl, (by exact hs)⟩
  | true =>
    cases hm2 : mayB hi2 with
    | false =>
      have E := Lib.hid (HO.out 1 (by rw [HD.out, hm1, hm2]; simp) (by decide))
      have HM1 := Lib.hid hm1
      have HM2 := Lib.hid hm2
      clear hm1 hm2 hpc
      go_wp2_with (go_at_call 86; refine (rmay_any _ _).mono ?_; rintro e w' ⟨rfl, rfl⟩; first | rw [HM1.out] | rw [HM2.out])
      go_ret
      exact ⟨by rw [E.out]; rfl, (by exact hs)⟩
    | true =>
      have hmm := (mayB_iff.1 hm2)
      have hm0 := (mayB_iff.1 hm1)
      have HM1 := Lib.hid hm1
      have HM2 := Lib.hid hm2
      have HD2 : Hid (rngOne L i = if hi2 < lo ∨ (0 < i ∧ plo ≤ hi2 + 1) then 3 else 0) := Lib.hid (by rw [HD.out, hm1, hm2]; simp)
      clear hm1 hm2 HD b0 b1
      unfold MayBe at hmm hm0
      obtain ⟨m1, m2⟩ := hmm
      obtain ⟨m3, m4⟩ := hm0
      by_cases hlh : hi2 < lo
      · have E := Lib.hid (HO.out 3 (by rw [HD2.out, if_pos (Or.inl hlh)]) (by decide))
        clear hpc
        go_wp2_with (go_at_call 86; refine (rmay_any _ _).mono ?_; rintro e w' ⟨rfl, rfl⟩; first | rw [HM1.out] | rw [HM2.out])
        go_quiet (fail)
        go_wp2_with fail
        go_ret
        exact ⟨by rw [E.out]; rfl, (by exact Since.drewN hs _)⟩
      have hlh' : decide (hi2 < lo) = false := by simpa using hlh
      by_cases hi0 : i = 0
      · subst hi0
        have K := Lib.hid (HK.out (by rw [HD2.out, if_neg (by omega)]))
        have c0' : wr.cell? ⟨b, off, none⟩ = some (.int .i64 lo) := by simpa using c0
        have c1' : wr.cell? ⟨b, off + 1, none⟩ = some (.int .i64 hi2) := by simpa using c1
        clear hpc c0 c1
        go_wp2_with (go_at_call 86; refine (rmay_any _ _).mono ?_; rintro e w' ⟨rfl, rfl⟩; first | rw [HM1.out] | rw [HM2.out])
        go_quiet (fail)
        go_wp2_with fail
        go_roundw
        case rel => exact ⟨0 + 1, by go_num, by omega, K, (by exact Since.drewN hs _)⟩
        case measure => simp [intOf]; omega
      have hip : 0 < i := by omega
      have c2 := hpc hip
      have hi1 : (0 : Int) < (i : Int) := by omega
      have hi2' : (i : Int) - 1 = ((i - 1 : Nat) : Int) := by omega
      have hi3 : ((i - 1 : Nat) : Int) < (n : Int) := by omega
      by_cases hp : plo ≤ hi2 + 1
      · have E := Lib.hid (HO.out 3 (by rw [HD2.out, if_pos (Or.inr ⟨hip, hp⟩)]) (by decide))
        clear hpc
        go_wp2_with (go_at_call 86; refine (rmay_any _ _).mono ?_; rintro e w' ⟨rfl, rfl⟩; first | rw [HM1.out] | rw [HM2.out])
        go_quiet (fail)
        go_wp2_with fail
        go_ret
        exact ⟨by rw [E.out]; rfl, (by exact Since.drewN hs _)⟩
      · have hp' : decide (plo ≤ hi2 + 1) = false := by simpa using hp
        have K := Lib.hid (HK.out (by rw [HD2.out, if_neg (by omega)]))
        clear hpc
        go_wp2_with (go_at_call 86; refine (rmay_any _ _).mono ?_; rintro e w' ⟨rfl, rfl⟩; first | rw [HM1.out] | rw [HM2.out])
        go_quiet (fail)
        go_wp2_with fail
        go_roundw
        case rel => exact ⟨i + 1, by go_num, by omega, K, (by exact Since.drewN hs _)⟩
        case measure => simp [intOf]; omega
theorem rinR (A : Option Addr) (n cap : Nat) (L : List Rng) (x : Int) (w : World) (hn : L.length = n) (h : Rd w 2 (.slice A n cap) (L.map rngRow)) :
 Calls Tryz.prog 60 #[.slice A n cap, .int .i64 x] w fun e w' => e = .returned (.bool (inB L x)) ∧ Below w.heap.size w w' := by
 have H := Lib.hid h
 have HN := Lib.hid hn
 have hcm : n ≤ 9223372036854775807 := by
  obtain ⟨A', cap', hv, h1, h2, _⟩ := h.shape
  rw [List.length_map, hn] at h1
  unfold maxLen at h2
  omega
 clear h hn
 go_enter Tryz.func60, Tryz.ntmps60
 go_wp2_with fail
 go_loopw [5] (fun s5 wr => ∃ i : Nat, s5 = .int .i64 i ∧ i ≤ n ∧ Hid (∀ j, j < i → rin (rat L j) x = false) ∧ Since w wr) (fun s5 _ => n - (intOf s5).toNat)
 case atStart => exact ⟨0, rfl, Nat.zero_le _, Lib.hid (fun j hj => by omega), Since.refl _⟩
 case round =>
  obtain ⟨i, rfl, hi, HU, hs⟩ := hrel
  by_cases hlt : i < n
  case neg =>
   obtain rfl : i = n := by omega
   have hf : decide ((i : Int) < (i : Int)) = false := by simp
   have E := Lib.hid (inB_none (L := L) (n := x) (fun j hj => HU.out j (by rw [HN.out] at hj; exact hj)))
   go_wp2_with fail
   go_ret
   exact ⟨by rw [E.out]; rfl, (by exact hs)⟩
  have hlt' : (i : Int) < (n : Int) := by omega
  obtain ⟨b, off, rfl, hbl, hc⟩ := H.out.rng (i := i) (by rw [HN.out]; exact hlt)
  obtain ⟨c0, c1⟩ := hc wr hs i (by rw [HN.out]; exact hlt)
  have lb : b < wr.heap.size := Nat.lt_of_lt_of_le hbl hs.le
  have HY : Hid (rin (rat L i) x = true → inB L x = true) := Lib.hid (fun h => inB_take (by rw [HN.out]; exact hlt) HU.out h)
  have HW : Hid (rin (rat L i) x = false → ∀ j, j < i + 1 → rin (rat L j) x = false) := Lib.hid (fun h j hj => by
   rcases Nat.lt_succ_iff_lt_or_eq.1 hj with h1 | h1
   · exact HU.out j h1
   · rw [h1]; exact h)
  have HD : Hid (rin (rat L i) x = (decide ((rat L i).lo ≤ x) && decide (x ≤ (rat L i).hi))) := Lib.hid rfl
  generalize (rat L i).lo = lo at *
  generalize (rat L i).hi = hi2 at *
  clear hc
  by_cases h1 : lo ≤ x
  · by_cases h2 : x ≤ hi2
    · have E := Lib.hid (HY.out (by rw [HD.out]; simp; exact ⟨h1, h2⟩))
      go_wp2_with fail
      go_ret
      exact ⟨by rw [E.out]; rfl, (by exact hs)⟩
    · have h2' : decide (x ≤ hi2) = false := by simpa using h2
      have K := Lib.hid (HW.out (by rw [HD.out, h2']; simp))
      clear h2
      go_wp2_with fail
      go_roundw
      case rel => exact ⟨i + 1, by go_num, by omega, K, (by exact hs)⟩
      case measure => simp [intOf]; omega
  · have h1' : decide (lo ≤ x) = false := by simpa using h1
    have K := Lib.hid (HW.out (by rw [HD.out, h1']; simp))
    clear h1
    go_wp2_with fail
    go_roundw
    case rel => exact ⟨i + 1, by go_num, by omega, K, (by exact hs)⟩
    case measure => simp [intOf]; omega
theorem rinOne (r : Rng) (x : Int) (h : Nat) (w : World) (hc : w.cell? ⟨h, 0, none⟩ = some (.int .i64 x)) :
 Calls Tryz.prog 97 #[.agg #[.int .i64 r.lo, .int .i64 r.hi], .pointer (some ⟨h, 0, none⟩)] w fun e w' => e = .returned (.bool (rin r x)) ∧ Below w.heap.size w w' := by
 have hl := World.block_lt_of_cell? w _ hc
 simp only at hl
 unfold rin
 by_cases h1 : r.lo ≤ x
 · have h1' : decide (r.lo ≤ x) = true := by simpa using h1
   rw [h1', Bool.true_and]
   go_enter Tryz.func97, Tryz.ntmps97
   go_wp2
   go_ret
   exact ⟨rfl, (by exact Since.alloc (Since.refl _) _)⟩
 · have h1' : decide (r.lo ≤ x) = false := by simpa using h1
   rw [h1', Bool.false_and]
   go_enter Tryz.func97, Tryz.ntmps97
   go_wp2
   go_ret
   exact ⟨rfl, (by exact Since.alloc (Since.refl _) _)⟩
def rplace (L : List Rng) (x : Int) : Int := if inB L x = true then ((L.findIdx fun r => rin r x : Nat) : Int) else -1
theorem rplace_sign (L : List Rng) (x : Int) : decide (0 ≤ rplace L x) = inB L x := by
 unfold rplace
 cases inB L x with
 | true => simp
 | false => simp
theorem rplace_at {L : List Rng} {i : Nat} {x : Int} (h : i < L.length) (h0 : ∀ j, j < i → rin (rat L j) x = false) (h1 : rin (rat L i) x = true) : rplace L x = i := by
 unfold rplace
 rw [if_pos (inB_take h h0 h1)]
 congr 1
 refine (List.findIdx_eq h).2 ⟨?_, fun j hj => ?_⟩
 · rw [← rat_get h]; exact h1
 · have := h0 j hj
   rw [rat_get (by omega)] at this
   exact this
theorem rplace_none {L : List Rng} {x : Int} (h : ∀ j, j < L.length → rin (rat L j) x = false) : rplace L x = -1 := by
 unfold rplace
 rw [inB_none h]
 rfl
theorem rindex (A : Option Addr) (n cap : Nat) (L : List Rng) (x : Int) (g : Nat) (w : World) (hn : L.length = n) (h : Rd w 2 (.slice A n cap) (L.map rngRow)) (hx : w.cell? ⟨g, 0, none⟩ = some (.int .i64 x)) :
 Calls Tryz.prog 132 #[.slice A n cap, .func (Fn.func 97) #[] #[.pointer (some ⟨g, 0, none⟩)]] w fun e w' => e = .returned (.int .i64 (rplace L x)) ∧ Below w.heap.size w w' := by
 have hgl : g < w.heap.size := World.block_lt_of_cell? w _ hx
 have H := Lib.hid h
 have HN := Lib.hid hn
 have HX := Lib.hid hx
 have hcm : n ≤ 9223372036854775807 := by
  obtain ⟨A', cap', hv, h1, h2, _⟩ := h.shape
  rw [List.length_map, hn] at h1
  unfold maxLen at h2
  omega
 clear h hn hx
 go_enter Tryz.func132, Tryz.ntmps132
 go_wp2_with fail
 go_loopw [8] (fun s8 wr => ∃ i : Nat, s8 = .int .i64 i ∧ i ≤ n ∧ Hid (∀ j, j < i → rin (rat L j) x = false) ∧ Since w wr) (fun s8 _ => n - (intOf s8).toNat)
 case atStart => exact ⟨0, rfl, Nat.zero_le _, Lib.hid (fun j hj => by omega), Since.refl _⟩
 case round =>
  obtain ⟨i, rfl, hi, HU, hs⟩ := hrel
  by_cases hlt : i < n
  case neg =>
   obtain rfl : i = n := by omega
   have hf : decide ((i : Int) < (i : Int)) = false := by simp
   have E := Lib.hid (rplace_none (L := L) (x := x) (fun j hj => HU.out j (by rw [HN.out] at hj; exact hj)))
   go_wp2_with fail
   go_ret
   exact ⟨by rw [E.out]; rfl, (by exact hs)⟩
  have hlt' : (i : Int) < (n : Int) := by omega
  obtain ⟨b, off, rfl, hbl, hc⟩ := H.out.rng (i := i) (by rw [HN.out]; exact hlt)
  obtain ⟨c0, c1⟩ := hc wr hs i (by rw [HN.out]; exact hlt)
  have lb : b < wr.heap.size := Nat.lt_of_lt_of_le hbl hs.le
  have HY : Hid (rin (rat L i) x = true → rplace L x = i) := Lib.hid (fun h => rplace_at (by rw [HN.out]; exact hlt) HU.out h)
  have HW : Hid (rin (rat L i) x = false → ∀ j, j < i + 1 → rin (rat L j) x = false) := Lib.hid (fun h j hj => by
   rcases Nat.lt_succ_iff_lt_or_eq.1 hj with h1 | h1
   · exact HU.out j h1
   · rw [h1]; exact h)
  clear hc
  generalize rat L i = r at *
  obtain ⟨lo, hi2⟩ := r
  simp only at c0 c1
  cases hr : rin ⟨lo, hi2⟩ x with
  | true =>
    have E := Lib.hid (HY.out hr)
    have HR := Lib.hid hr
    clear hr
    go_wp2_with (go_at_call 97; refine (rinOne ⟨lo, hi2⟩ x g _ (hs.cell hgl HX.out)).mono ?_; rintro e w1 ⟨rfl, hb1⟩; rw [HR.out])
    go_ret
    exact ⟨by rw [E.out]; rfl, (by exact Since.later hs hb1)⟩
  | false =>
    have K := Lib.hid (HW.out hr)
    have HR := Lib.hid hr
    clear hr
    go_wp2_with (go_at_call 97; refine (rinOne ⟨lo, hi2⟩ x g _ (hs.cell hgl HX.out)).mono ?_; rintro e w1 ⟨rfl, hb1⟩; rw [HR.out])
    go_roundw
    case rel => exact ⟨i + 1, by go_num, by omega, K, (by exact Since.later hs hb1)⟩
    case measure => simp [intOf]; omega
theorem rcontains (A : Option Addr) (n cap : Nat) (L : List Rng) (x : Int) (g : Nat) (w : World) (hn : L.length = n) (h : Rd w 2 (.slice A n cap) (L.map rngRow)) (hx : w.cell? ⟨g, 0, none⟩ = some (.int .i64 x)) :
 Calls Tryz.prog 96 #[.slice A n cap, .func (Fn.func 97) #[] #[.pointer (some ⟨g, 0, none⟩)]] w fun e w' => e = .returned (.bool (inB L x)) ∧ Below w.heap.size w w' := by
 have hs := Lib.hid (rplace_sign L x)
 have H := Lib.hid h
 have HX := Lib.hid hx
 clear h hx
 go_enter Tryz.func96, Tryz.ntmps96
 go_wp2_with fail
 refine (rindex A n cap L x g _ hn H.out HX.out).mono ?_
 rintro e w1 ⟨rfl, hb1⟩
 go_wp2_with fail
 go_ret
 exact ⟨by rw [← hs.out]; rfl, hb1⟩
theorem rin_any (A : Option Addr) (n cap : Nat) (L : List Rng) (x : Int) (w : World) (hn : L.length = n) (h : Rd w 2 (.slice A n cap) (L.map rngRow)) :
 Calls Tryz.prog 55 #[.slice A n cap, .int .i64 x] w fun e w' => e = .returned (.bool (inB L x)) ∧ Below w.heap.size w w' := by
 have H := Lib.hid h
 clear h
 go_enter Tryz.func55, Tryz.ntmps55
 go_wp2_with fail
 refine (rcontains A n cap L x w.heap.size _ hn (H.out.later (by exact Since.alloc (Since.refl _) _)) ((BlockIs.fresh w _ _).cell 0)).mono ?_
 rintro e w1 ⟨rfl, hb1⟩
 go_wp2_with fail
 go_ret
 exact ⟨rfl, (by exact Since.later (Since.alloc (Since.refl _) _) hb1)⟩
abbrev okH (r : Rng) : Prop := 0 ≤ r.hi ∧ r.hi ≤ 1073741823
abbrev okN (r : Rng) : Prop := (0 ≤ r.lo ∧ r.lo ≤ 1073741823) ∧ okH r
theorem rngUp_each {L : List Rng} : ∀ {n : Nat}, rngUp L n = 0 → ∀ i, i < n → rngOne L i = 0
 | 0, _, i, hi => by omega
 | n + 1, h, i, hi => by
   rw [rngUp] at h
   by_cases h0 : rngUp L n = 0
   · rw [if_pos h0] at h
     by_cases he : i = n
     · rw [he]; exact h
     · exact rngUp_each h0 i (by omega)
   · rw [if_neg h0] at h; exact absurd h h0
theorem rngE_len {L : List Rng} (h : rngE L = 0) : L.length ≤ 12 := by
 unfold rngE at h
 by_cases h1 : 12 < L.length
 · rw [if_pos h1] at h; cases h
 · omega
theorem rngE_each {L : List Rng} (h : rngE L = 0) {i : Nat} (hi : i < L.length) : rngOne L i = 0 := by
 have hl := rngE_len h
 unfold rngE at h
 rw [if_neg (by omega)] at h
 exact rngUp_each h i hi
theorem rngE_ok {L : List Rng} (h : rngE L = 0) : ∀ r ∈ L, okN r := fun r hr => by
 obtain ⟨i, hi, rfl⟩ := List.getElem_of_mem hr
 have h1 := rngE_each h hi
 unfold rngOne at h1
 rw [rat_get hi] at h1
 by_cases h2 : mayB L[i].lo = true ∧ mayB L[i].hi = true
 · have a := mayB_iff.1 h2.1
   have b := mayB_iff.1 h2.2
   exact ⟨a, b⟩
 · rw [if_neg h2] at h1; cases h1
theorem rngOne_ok {L : List Rng} {i : Nat} (h : rngOne L i = 0) : okN (rat L i) ∧ (rat L i).lo ≤ (rat L i).hi ∧ (0 < i → (rat L i).hi + 1 < (rat L (i - 1)).lo) := by
 unfold rngOne at h
 by_cases h2 : mayB (rat L i).lo = true ∧ mayB (rat L i).hi = true
 · rw [if_pos h2] at h
   by_cases h3 : (rat L i).hi < (rat L i).lo ∨ (0 < i ∧ (rat L (i - 1)).lo ≤ (rat L i).hi + 1)
   · rw [if_pos h3] at h; cases h
   · refine ⟨⟨mayB_iff.1 h2.1, mayB_iff.1 h2.2⟩, ?_, fun h0 => ?_⟩ <;> omega
 · rw [if_neg h2] at h; cases h
def byteOf (n : Int) : UInt8 := UInt8.ofNat n.toNat
theorem byteOf_toNat {n : Int} (h0 : 0 ≤ n) (h1 : n < 256) : ((byteOf n).toNat : Int) = n := by
 unfold byteOf
 rw [UInt8.toNat_ofNat']
 omega
def kindN (n : Int) : Int := if n < 64 then 0 else if n < 16384 then 1 else 2
def longN (n : Int) : Int := if n < 64 then 1 else if n < 16384 then 2 else 4
def vbytes (n : Int) : List UInt8 :=
 if n < 64 then [byteOf n] else if n < 16384 then [byteOf (64 + n / 256), byteOf (n % 256)]
 else [byteOf (128 + n / 16777216), byteOf (n / 65536 % 256), byteOf (n / 256 % 256), byteOf (n % 256)]
theorem vbytes_length (n : Int) : ((vbytes n).length : Int) = longN n := by
 unfold vbytes longN
 split
 · rfl
 · split <;> rfl
def bat (l : List UInt8) (i : Nat) : Int := ((l.getD i 0).toNat : Int)
theorem bat_bounds (l : List UInt8) (i : Nat) : 0 ≤ bat l i ∧ bat l i < 256 := by
 unfold bat
 have := (l.getD i 0).toNat_lt
 omega
def getC (l : List UInt8) : Nat := if bat l 0 < 64 then 1 else if bat l 0 < 128 then 2 else 4
def getN (l : List UInt8) : Int :=
 if bat l 0 < 64 then bat l 0 else if bat l 0 < 128 then (bat l 0 - 64) * 256 + bat l 1 else (((bat l 0 - 128) * 256 + bat l 1) * 256 + bat l 2) * 256 + bat l 3
def getOk (l : List UInt8) : Prop := l ≠ [] ∧ bat l 0 < 192 ∧ getC l ≤ l.length ∧ longN (getN l) = getC l
instance (l : List UInt8) : Decidable (getOk l) := by unfold getOk; infer_instance
def getE (l : List UInt8) : Int := if getOk l then 0 else 2
def getV (l : List UInt8) : Int := if getOk l then getN l else 0
def getK (l : List UInt8) : Int := if getOk l then getC l else 0
theorem getN_bounds {l : List UInt8} (h : bat l 0 < 192) : 0 ≤ getN l ∧ getN l ≤ 1073741823 := by
 have h0 := bat_bounds l 0
 have h1 := bat_bounds l 1
 have h2 := bat_bounds l 2
 have h3 := bat_bounds l 3
 unfold getN
 split
 · omega
 · split <;> omega
theorem take1 : ∀ (l : List UInt8) (h : 0 < l.length), [l[0]] = l.take 1
 | _ :: _, _ => rfl
theorem take2 : ∀ (l : List UInt8) (h : 1 < l.length), [l[0], l[1]] = l.take 2
 | _ :: _ :: _, _ => rfl
theorem take4 : ∀ (l : List UInt8) (h : 3 < l.length), [l[0], l[1], l[2], l[3]] = l.take 4
 | _ :: _ :: _ :: _ :: _, _ => rfl
theorem bat_byte {l : List UInt8} {i : Nat} (h : i < l.length) : byteOf (bat l i) = l[i] := by
 unfold byteOf bat
 simp [List.getD, h]
theorem get_bytes {l : List UInt8} (h : getOk l) : vbytes (getN l) = l.take (getC l) := by
 obtain ⟨hne, h0, hl, hk⟩ := h
 have q0 := bat_bounds l 0
 have q1 := bat_bounds l 1
 have q2 := bat_bounds l 2
 have q3 := bat_bounds l 3
 by_cases a : bat l 0 < 64
 · have c : getC l = 1 := by unfold getC; rw [if_pos a]
   have g : getN l = bat l 0 := by unfold getN; rw [if_pos a]
   rw [g, c]
   rw [c] at hl
   unfold vbytes
   rw [if_pos a, bat_byte (by omega)]
   exact take1 l (by omega)
 · by_cases b : bat l 0 < 128
   · have c : getC l = 2 := by unfold getC; rw [if_neg a, if_pos b]
     have g : getN l = (bat l 0 - 64) * 256 + bat l 1 := by unfold getN; rw [if_neg a, if_pos b]
     rw [c, g] at hk
     have k1 : ¬ (bat l 0 - 64) * 256 + bat l 1 < 64 := fun hh => by unfold longN at hk; rw [if_pos hh] at hk; cases hk
     rw [g, c]
     rw [c] at hl
     unfold vbytes
     rw [if_neg k1, if_pos (by omega), show 64 + ((bat l 0 - 64) * 256 + bat l 1) / 256 = bat l 0 from by omega, show ((bat l 0 - 64) * 256 + bat l 1) % 256 = bat l 1 from by omega, bat_byte (by omega), bat_byte (by omega)]
     exact take2 l (by omega)
   · have c : getC l = 4 := by unfold getC; rw [if_neg a, if_neg b]
     have g : getN l = (((bat l 0 - 128) * 256 + bat l 1) * 256 + bat l 2) * 256 + bat l 3 := by unfold getN; rw [if_neg a, if_neg b]
     rw [c, g] at hk
     have k1 : ¬ (((bat l 0 - 128) * 256 + bat l 1) * 256 + bat l 2) * 256 + bat l 3 < 64 := fun hh => by unfold longN at hk; rw [if_pos hh] at hk; cases hk
     have k2 : ¬ (((bat l 0 - 128) * 256 + bat l 1) * 256 + bat l 2) * 256 + bat l 3 < 16384 := fun hh => by unfold longN at hk; rw [if_neg k1, if_pos hh] at hk; cases hk
     rw [g, c]
     rw [c] at hl
     unfold vbytes
     rw [if_neg k1, if_neg k2,
      show 128 + ((((bat l 0 - 128) * 256 + bat l 1) * 256 + bat l 2) * 256 + bat l 3) / 16777216 = bat l 0 from by omega,
      show ((((bat l 0 - 128) * 256 + bat l 1) * 256 + bat l 2) * 256 + bat l 3) / 65536 % 256 = bat l 1 from by omega,
      show ((((bat l 0 - 128) * 256 + bat l 1) * 256 + bat l 2) * 256 + bat l 3) / 256 % 256 = bat l 2 from by omega,
      show ((((bat l 0 - 128) * 256 + bat l 1) * 256 + bat l 2) * 256 + bat l 3) % 256 = bat l 3 from by omega,
      bat_byte (by omega), bat_byte (by omega), bat_byte (by omega), bat_byte (by omega)]
     exact take4 l (by omega)
theorem vbytes_len4 (n : Int) : 1 ≤ (vbytes n).length ∧ (vbytes n).length ≤ 4 := by
 have := vbytes_length n
 unfold longN at this
 split at this
 · omega
 · split at this <;> omega
theorem vbytes_len1 {n : Int} (h : n < 64) : (vbytes n).length = 1 := by
 have := vbytes_length n
 unfold longN at this
 rw [if_pos h] at this
 omega
theorem getC_pos (l : List UInt8) : 1 ≤ getC l ∧ getC l ≤ 4 := by
 unfold getC
 split
 · omega
 · split <;> omega
def tlOne (L : List Rng) (i : Nat) : List UInt8 := (if i = 0 then [] else vbytes ((rat L (i - 1)).lo - (rat L i).hi - 2)) ++ vbytes ((rat L i).hi - (rat L i).lo)
def tlUp (L : List Rng) : Nat → List UInt8
 | 0 => []
 | i + 1 => tlUp L i ++ tlOne L i
def ackHead (L : List Rng) : List UInt8 := vbytes (rat L 0).hi ++ vbytes ((L.length : Int) - 1)
def ackUp (L : List Rng) (i : Nat) : List UInt8 := if i = 0 then [] else ackHead L ++ tlUp L i
def ackB (L : List Rng) : List UInt8 := ackUp L L.length
theorem ackUp_pos (L : List Rng) {i : Nat} (h : 0 < i) : ackUp L i = ackHead L ++ tlUp L i := by unfold ackUp; rw [if_neg (by omega)]
theorem ackUp_one (L : List Rng) : ackUp L 1 = vbytes (rat L 0).hi ++ vbytes ((L.length : Int) - 1) ++ vbytes ((rat L 0).hi - (rat L 0).lo) := by
 rw [ackUp_pos L (by omega)]; simp [ackHead, tlUp, tlOne]
theorem ackUp_succ (L : List Rng) {i : Nat} (h : 0 < i) : ackUp L (i + 1) = ackUp L i ++ vbytes ((rat L (i - 1)).lo - (rat L i).hi - 2) ++ vbytes ((rat L i).hi - (rat L i).lo) := by
 rw [ackUp_pos L (by omega), ackUp_pos L h, tlUp, tlOne, if_neg (by omega)]; simp
theorem tlOne_len (L : List Rng) (i : Nat) : (tlOne L i).length ≤ 8 ∧ (tlOne L 0).length ≤ 4 := by
 unfold tlOne
 have h1 := (vbytes_len4 ((rat L (i - 1)).lo - (rat L i).hi - 2)).2
 have h2 := (vbytes_len4 ((rat L i).hi - (rat L i).lo)).2
 have h3 := (vbytes_len4 ((rat L 0).hi - (rat L 0).lo)).2
 constructor
 · split <;> simp <;> omega
 · simp; omega
theorem tlUp_len (L : List Rng) : ∀ i, (tlUp L (i + 1)).length ≤ 8 * i + 4
 | 0 => by have := (tlOne_len L 0).2; simp [tlUp]; omega
 | i + 1 => by
   have := tlUp_len L i
   have h2 := (tlOne_len L (i + 1)).1
   rw [tlUp, List.length_append]
   omega
theorem ackUp_len (L : List Rng) (h : L.length ≤ 12) (i : Nat) : (ackUp L i).length ≤ 8 * i + 1 := by
 cases i with
 | zero => simp [ackUp]
 | succ i =>
   have h1 := tlUp_len L i
   have h2 := (vbytes_len4 (rat L 0).hi).2
   have h3 := vbytes_len1 (n := (L.length : Int) - 1) (by omega)
   rw [ackUp_pos L (by omega), List.length_append, ackHead, List.length_append, h3]
   omega
def hiAt (b : List UInt8) (hi : Int) (i : Nat) (L : List Rng) (k : Nat) : Option (Int × Nat) :=
 if i = 0 then some (hi, k) else if getOk (b.drop k) then some ((rat L (i - 1)).lo - 2 - getN (b.drop k), k + getC (b.drop k)) else none
def rdOne (b : List UInt8) (hi : Int) (i : Nat) (L : List Rng) (k : Nat) : Option (List Rng × Nat) :=
 match hiAt b hi i L k with
 | none => none
 | some (h, k2) => if getOk (b.drop k2) ∧ 0 ≤ h - getN (b.drop k2) then some (L ++ [⟨h - getN (b.drop k2), h⟩], k2 + getC (b.drop k2)) else none
def rdUp (b : List UInt8) (hi : Int) (k : Nat) : Nat → Option (List Rng × Nat)
 | 0 => some ([], k)
 | i + 1 => match rdUp b hi k i with
   | none => none
   | some (L, k2) => rdOne b hi i L k2
def readA (b : List UInt8) : Option (List Rng × Nat) :=
 if getOk b ∧ getOk (b.drop (getC b)) ∧ getN (b.drop (getC b)) < 12 then rdUp b (getN b) (getC b + getC (b.drop (getC b))) ((getN (b.drop (getC b))).toNat + 1) else none
theorem rdUp_none {b : List UInt8} {hi : Int} {k i : Nat} (h : rdUp b hi k i = none) : ∀ j, i ≤ j → rdUp b hi k j = none := by
 intro j hj
 induction j with
 | zero => obtain rfl : i = 0 := by omega
           exact h
 | succ j ih =>
   by_cases he : i = j + 1
   · rw [← he]; exact h
   · rw [rdUp, ih (by omega)]
theorem rdUp_step {b : List UInt8} {hi : Int} {k i k2 : Nat} {L : List Rng} (h : rdUp b hi k i = some (L, k2)) : rdUp b hi k (i + 1) = rdOne b hi i L k2 := by rw [rdUp, h]
theorem hiAt_zero (b : List UInt8) (hi : Int) (L : List Rng) (k : Nat) : hiAt b hi 0 L k = some (hi, k) := rfl
theorem hiAt_no {b : List UInt8} {hi : Int} {i : Nat} {L : List Rng} {k : Nat} (h0 : 0 < i) (h : ¬ getOk (b.drop k)) : hiAt b hi i L k = none := by unfold hiAt; rw [if_neg (by omega), if_neg h]
theorem hiAt_yes {b : List UInt8} {hi : Int} {i : Nat} {L : List Rng} {k : Nat} (h0 : 0 < i) (h : getOk (b.drop k)) : hiAt b hi i L k = some ((rat L (i - 1)).lo - 2 - getN (b.drop k), k + getC (b.drop k)) := by unfold hiAt; rw [if_neg (by omega), if_pos h]
theorem rdOne_gap {b : List UInt8} {hi : Int} {i : Nat} {L : List Rng} {k : Nat} (h : hiAt b hi i L k = none) : rdOne b hi i L k = none := by unfold rdOne; rw [h]
theorem rdOne_no {b : List UInt8} {hi x : Int} {i : Nat} {L : List Rng} {k k2 : Nat} (h : hiAt b hi i L k = some (x, k2)) (h2 : ¬ (getOk (b.drop k2) ∧ 0 ≤ x - getN (b.drop k2))) : rdOne b hi i L k = none := by unfold rdOne; rw [h]; simp only; rw [if_neg h2]
theorem rdOne_yes {b : List UInt8} {hi x : Int} {i : Nat} {L : List Rng} {k k2 : Nat} (h : hiAt b hi i L k = some (x, k2)) (h2 : getOk (b.drop k2) ∧ 0 ≤ x - getN (b.drop k2)) : rdOne b hi i L k = some (L ++ [⟨x - getN (b.drop k2), x⟩], k2 + getC (b.drop k2)) := by unfold rdOne; rw [h]; simp only; rw [if_pos h2]
theorem get_split {b : List UInt8} {k : Nat} (hk : k ≤ b.length) (h : getOk (b.drop k)) : b.take (k + getC (b.drop k)) = b.take k ++ vbytes (getN (b.drop k)) ∧ k + getC (b.drop k) ≤ b.length := by
 have h1 := get_bytes h
 have h2 := h.2.2.1
 rw [List.length_drop] at h2
 exact ⟨by rw [h1, List.take_add], by have := (getC_pos (b.drop k)).1; omega⟩
theorem rat_app_lt {L : List Rng} {r : Rng} {j : Nat} (h : j < L.length) : rat (L ++ [r]) j = rat L j := by
 unfold rat; simp [List.getD, List.getElem?_append_left h]
theorem rat_app_at {L : List Rng} {r : Rng} : rat (L ++ [r]) L.length = r := by
 unfold rat; simp [List.getD]
theorem tlOne_app {L : List Rng} {r : Rng} {j : Nat} (h : j < L.length) : tlOne (L ++ [r]) j = tlOne L j := by
 unfold tlOne
 rw [rat_app_lt h]
 by_cases h0 : j = 0
 · rw [if_pos h0, if_pos h0]
 · rw [if_neg h0, if_neg h0, rat_app_lt (by omega)]
theorem tlUp_app {L : List Rng} {r : Rng} : ∀ {j : Nat}, j ≤ L.length → tlUp (L ++ [r]) j = tlUp L j
 | 0, _ => rfl
 | j + 1, h => by rw [tlUp, tlUp, tlUp_app (by omega), tlOne_app (by omega)]
theorem rngOne_app {L : List Rng} {r : Rng} {j : Nat} (h : j < L.length) : rngOne (L ++ [r]) j = rngOne L j := by
 unfold rngOne
 rw [rat_app_lt h]
 by_cases h0 : 0 < j
 · rw [rat_app_lt (j := j - 1) (by omega)]
 · have : j = 0 := by omega
   subst this
   simp
theorem rngOne_mk {L : List Rng} {i : Nat} (h1 : okN (rat L i)) (h2 : (rat L i).lo ≤ (rat L i).hi) (h3 : 0 < i → (rat L i).hi + 1 < (rat L (i - 1)).lo) : rngOne L i = 0 := by
 unfold rngOne
 rw [if_pos ⟨mayB_iff.2 h1.1, mayB_iff.2 h1.2⟩, if_neg]
 intro h
 rcases h with h | ⟨h0, h⟩
 · omega
 · have := h3 h0; omega
theorem rdUp_inv {b : List UInt8} {hi : Int} {k : Nat} (h0 : 0 ≤ hi) (h1 : hi ≤ 1073741823) (hk : k ≤ b.length) : ∀ (i : Nat) (L : List Rng) (k2 : Nat), rdUp b hi k i = some (L, k2) →
 L.length = i ∧ k2 ≤ b.length ∧ b.take k2 = b.take k ++ tlUp L i ∧ (∀ j, j < i → rngOne L j = 0) ∧ (0 < i → (rat L 0).hi = hi)
 | 0, L, k2, h => by
   simp only [rdUp, Option.some.injEq, Prod.mk.injEq] at h
   obtain ⟨rfl, rfl⟩ := h
   exact ⟨rfl, hk, by simp [tlUp], by omega, by omega⟩
 | i + 1, L, k2, h => by
   cases hc : rdUp b hi k i with
   | none => rw [rdUp, hc] at h; cases h
   | some p =>
     obtain ⟨M, k1⟩ := p
     obtain ⟨ih1, ih2, ih3, ih4, ih5⟩ := rdUp_inv h0 h1 hk i M k1 hc
     rw [rdUp_step hc] at h
     -- the end
     have key : ∀ x k3, hiAt b hi i M k1 = some (x, k3) → k3 ≤ b.length ∧ b.take k3 = b.take k1 ++ (if i = 0 then [] else vbytes ((rat M (i - 1)).lo - x - 2)) ∧ x ≤ 1073741823 ∧ (0 < i → x + 1 < (rat M (i - 1)).lo) ∧ (i = 0 → x = hi) := by
      intro x k3 hx
      by_cases hi0 : i = 0
      · subst hi0
        rw [hiAt_zero] at hx
        simp only [Option.some.injEq, Prod.mk.injEq] at hx
        obtain ⟨rfl, rfl⟩ := hx
        exact ⟨ih2, by simp, h1, by omega, fun _ => rfl⟩
      · by_cases hg : getOk (b.drop k1)
        · rw [hiAt_yes (by omega) hg] at hx
          simp only [Option.some.injEq, Prod.mk.injEq] at hx
          obtain ⟨rfl, rfl⟩ := hx
          obtain ⟨s1, s2⟩ := get_split ih2 hg
          have hb := getN_bounds hg.2.1
          have hr := (rngOne_ok (ih4 (i - 1) (by omega))).1
          refine ⟨s2, ?_, by omega, fun _ => by omega, fun h => absurd h hi0⟩
          rw [s1, if_neg hi0, show (rat M (i - 1)).lo - ((rat M (i - 1)).lo - 2 - getN (b.drop k1)) - 2 = getN (b.drop k1) by omega]
        · rw [hiAt_no (by omega) hg] at hx; cases hx
     cases hh : hiAt b hi i M k1 with
     | none => rw [rdOne_gap hh] at h; cases h
     | some p =>
       obtain ⟨x, k3⟩ := p
       obtain ⟨a1, a2, a3, a4, a5⟩ := key x k3 hh
       by_cases hg : getOk (b.drop k3) ∧ 0 ≤ x - getN (b.drop k3)
       · rw [rdOne_yes hh hg] at h
         simp only [Option.some.injEq, Prod.mk.injEq] at h
         obtain ⟨rfl, rfl⟩ := h
         obtain ⟨s1, s2⟩ := get_split a1 hg.1
         have hb := getN_bounds hg.1.2.1
         have hlast : rat (M ++ [(⟨x - getN (b.drop k3), x⟩ : Rng)]) i = ⟨x - getN (b.drop k3), x⟩ := by rw [← ih1]; exact rat_app_at
         refine ⟨by simp [ih1], s2, ?_, ?_, ?_⟩
         · rw [s1, a2, ih3, tlUp, tlUp_app (by omega)]
           unfold tlOne
           rw [hlast]
           simp only
           rw [show x - (x - getN (b.drop k3)) = getN (b.drop k3) by omega]
           by_cases hi0 : i = 0
           · simp [hi0]
           · rw [if_neg hi0, if_neg hi0, rat_app_lt (by omega)]
             simp only [List.append_assoc]
         · intro j hj
           by_cases he : j < i
           · rw [rngOne_app (by omega)]; exact ih4 j he
           · obtain rfl : j = i := by omega
             refine rngOne_mk ?_ ?_ ?_
             · rw [hlast]; exact ⟨⟨hg.2, by show x - getN (b.drop k3) ≤ 1073741823; omega⟩, by show 0 ≤ x; omega, a3⟩
             · rw [hlast]; show x - getN (b.drop k3) ≤ x; omega
             · intro h0; rw [hlast, rat_app_lt (by omega)]; exact a4 h0
         · intro _
           by_cases hi0 : i = 0
           · subst hi0; rw [hlast]; exact a5 rfl
           · rw [rat_app_lt (by omega)]; exact ih5 (by omega)
       · rw [rdOne_no hh hg] at h; cases h
theorem rngE_mk {L : List Rng} (hl : L.length ≤ 12) (h : ∀ j, j < L.length → rngOne L j = 0) : rngE L = 0 := by
 have hup : ∀ n, n ≤ L.length → rngUp L n = 0 := by
  intro n
  induction n with
  | zero => intro _; rfl
  | succ n ih => intro hn; exact rngUp_ok (ih (by omega)) (h n (by omega))
 unfold rngE
 rw [if_neg (by omega)]
 exact hup _ (Nat.le_refl _)
theorem readA_inv {b : List UInt8} {L : List Rng} {n : Nat} (h : readA b = some (L, n)) : 0 < L.length ∧ rngE L = 0 ∧ n ≤ b.length ∧ b.take n = ackB L ∧ 2 ≤ n := by
 unfold readA at h
 by_cases hc : getOk b ∧ getOk (b.drop (getC b)) ∧ getN (b.drop (getC b)) < 12
 · rw [if_pos hc] at h
   obtain ⟨g1, g2, g3⟩ := hc
   have s1 := get_split (b := b) (k := 0) (by omega) (by simpa using g1)
   simp only [List.drop_zero, Nat.zero_add, List.take_zero, List.nil_append] at s1
   have s2 := get_split s1.2 g2
   have b1 := getN_bounds g1.2.1
   have b2 := getN_bounds g2.2.1
   obtain ⟨i1, i2, i3, i4, i5⟩ := rdUp_inv b1.1 b1.2 s2.2 _ L n h
   have hpos : 0 < L.length := by omega
   refine ⟨hpos, rngE_mk (by omega) (fun j hj => i4 j (by omega)), i2, ?_, ?_⟩
   · have e1 : (L.length : Int) - 1 = getN (b.drop (getC b)) := by omega
     rw [i3, s2.1, s1.1]
     unfold ackB
     rw [ackUp_pos L hpos, ackHead, i5 (by omega), e1, i1]
   · have c1 := (getC_pos b).1
     have c2 := (getC_pos (b.drop (getC b))).1
     have := congrArg List.length i3
     simp only [List.length_take, List.length_append] at this
     omega
 · rw [if_neg hc] at h; cases h
theorem take_rat {L : List Rng} {i : Nat} (h : i < L.length) : L.take (i + 1) = L.take i ++ [rat L i] := by
 rw [rat_get h, List.take_succ_eq_append_getElem h]
end Go.Proofs.YtmfbaijbigodkaaGreatDoor
namespace Go.Proofs.YtmfbaijbigodkaaGreatDoor
open Go.Shelf
def lays166_ren : Go.Shelf.Ren := ⟨fun | 166 => 76 | 240 => 113 | 276 => 140 | n => n, fun | 0 => 0 | 3 => 3 | 4 => 4 | 9 => 9 | 20 => 20 | 37 => 131 | 70 => 130 | 72 => 133 | 75 => 27 | 164 => 178 | 80 => 40 | 5 => 5 | 127 => 177 | n => n, fun | n => n⟩
theorem lays166 : Go.Proofs.Lays.n166 Tryz.prog lays166_ren := {
 mixed := by kernel_rfl
 f166 := Tryz.func76.trans (congrArg some (by kernel_rfl))
 f240 := Tryz.func113.trans (congrArg some (by kernel_rfl))
 f276 := Tryz.func140.trans (congrArg some (by kernel_rfl))
 t0 := Tryz.underlying0
 a0 := Tryz.isAgg0
 z0 := Tryz.sizeOf0
 v0 := Tryz.zeroValue0
 t3 := Tryz.underlying3
 a3 := Tryz.isAgg3
 z3 := Tryz.sizeOf3
 v3 := Tryz.zeroValue3
 t4 := Tryz.underlying4
 a4 := Tryz.isAgg4
 z4 := Tryz.sizeOf4
 v4 := Tryz.zeroValue4
 t9 := Tryz.underlying9
 a9 := Tryz.isAgg9
 z9 := Tryz.sizeOf9
 v9 := Tryz.zeroValue9
 t20 := Tryz.underlying20
 a20 := Tryz.isAgg20
 z20 := Tryz.sizeOf20
 v20 := Tryz.zeroValue20
 t37 := Tryz.underlying131
 a37 := Tryz.isAgg131
 z37 := Tryz.sizeOf131
 v37 := Tryz.zeroValue131
 t70 := Tryz.underlying130
 a70 := Tryz.isAgg130
 z70 := Tryz.sizeOf130
 v70 := Tryz.zeroValue130
 t72 := Tryz.underlying133
 a72 := Tryz.isAgg133
 z72 := Tryz.sizeOf133
 v72 := Tryz.zeroValue133
 t75 := Tryz.underlying27
 a75 := Tryz.isAgg27
 z75 := Tryz.sizeOf27
 v75 := Tryz.zeroValue27
 t164 := Tryz.underlying178
 a164 := Tryz.isAgg178
 z164 := Tryz.sizeOf178
 v164 := Tryz.zeroValue178
}
theorem extra166 : Go.Proofs.Builder.Extra Tryz.prog lays166_ren := {
 sizeBuilder := by kernel_rfl
 liesBuilder := by kernel_rfl
 t5 := Tryz.underlying5
 a5 := Tryz.isAgg5
 z5 := Tryz.sizeOf5
 v5 := Tryz.zeroValue5
 infoByte := by kernel_rfl
 cellsByte := by kernel_rfl
 sizeByte := by kernel_rfl
 neB5 := by decide
}
def lays169_ren : Go.Shelf.Ren := ⟨fun | 169 => 79 | n => n, fun | 0 => 0 | 3 => 3 | 4 => 4 | 9 => 9 | 20 => 20 | 37 => 131 | 70 => 130 | 72 => 133 | 75 => 27 | 164 => 178 | 80 => 40 | 5 => 5 | 127 => 177 | n => n, fun | n => n⟩
theorem lays169 : Go.Proofs.Lays.n169 Tryz.prog lays169_ren := {
 mixed := by kernel_rfl
 f169 := Tryz.func79.trans (congrArg some (by kernel_rfl))
 t0 := Tryz.underlying0
 a0 := Tryz.isAgg0
 z0 := Tryz.sizeOf0
 v0 := Tryz.zeroValue0
 t3 := Tryz.underlying3
 a3 := Tryz.isAgg3
 z3 := Tryz.sizeOf3
 v3 := Tryz.zeroValue3
 t9 := Tryz.underlying9
 a9 := Tryz.isAgg9
 z9 := Tryz.sizeOf9
 v9 := Tryz.zeroValue9
 t37 := Tryz.underlying131
 a37 := Tryz.isAgg131
 z37 := Tryz.sizeOf131
 v37 := Tryz.zeroValue131
 t70 := Tryz.underlying130
 a70 := Tryz.isAgg130
 z70 := Tryz.sizeOf130
 v70 := Tryz.zeroValue130
 t72 := Tryz.underlying133
 a72 := Tryz.isAgg133
 z72 := Tryz.sizeOf133
 v72 := Tryz.zeroValue133
 t127 := Tryz.underlying177
 a127 := Tryz.isAgg177
 z127 := Tryz.sizeOf177
 v127 := Tryz.zeroValue177
}
theorem extra169 : Go.Proofs.Builder.Extra Tryz.prog lays169_ren := {
 sizeBuilder := by kernel_rfl
 liesBuilder := by kernel_rfl
 t5 := Tryz.underlying5
 a5 := Tryz.isAgg5
 z5 := Tryz.sizeOf5
 v5 := Tryz.zeroValue5
 infoByte := by kernel_rfl
 cellsByte := by kernel_rfl
 sizeByte := by kernel_rfl
 neB5 := by decide
}
end Go.Proofs.YtmfbaijbigodkaaGreatDoor
namespace Go.Proofs.YtmfbaijbigodkaaGreatDoor
open Go.ChangeShapes Go.WideShapes Go.ChangeAt Go.RowKit
set_option linter.unusedVariables false
def allL (zs : List Int) : List UInt8 := zs.flatMap vbytes
theorem allL_snoc (zs : List Int) (z : Int) : allL (zs ++ [z]) = allL zs ++ vbytes z := by simp [allL]
theorem vbytes_four (n : Int) : (vbytes n).length ≤ 4 := by
 have := vbytes_length n
 unfold longN at this
 split at this
 · omega
 · split at this <;> omega
theorem allL_short (zs : List Int) : (allL zs).length ≤ 4 * zs.length := by
 induction zs with
 | nil => simp [allL]
 | cons z r ih =>
   have e : allL (z :: r) = vbytes z ++ allL r := by simp [allL]
   have := vbytes_four z
   rw [e, List.length_append, List.length_cons]
   omega
theorem ith_mem {zs : List Int} {k : Nat} (h : k < zs.length) : ith zs k ∈ zs := by
 unfold ith
 simp [List.getD, h]
theorem take_ith {zs : List Int} {k : Nat} (h : k < zs.length) : zs.take (k + 1) = zs.take k ++ [ith zs k] := by
 rw [List.take_succ_eq_append_getElem h]
 unfold ith
 simp [List.getD, h]
structure Frm where
 kind : Int
 nums : List Int
 data : ByteArray
def pairs : List Int → List Rng
 | a :: b :: r => ⟨b, a⟩ :: pairs r
 | _ => []
def unpairs (L : List Rng) : List Int := L.flatMap fun r => [r.hi, r.lo]
theorem unpairs_snoc (L : List Rng) (r : Rng) : unpairs (L ++ [r]) = unpairs L ++ [r.hi, r.lo] := by simp [unpairs]
theorem unpairs_len (L : List Rng) : (unpairs L).length = 2 * L.length := by
 induction L with
 | nil => rfl
 | cons r L ih =>
   have : unpairs (r :: L) = r.hi :: r.lo :: unpairs L := rfl
   rw [this]; simp [ih]; omega
theorem pairs_unpairs (L : List Rng) : pairs (unpairs L) = L := by
 induction L with
 | nil => rfl
 | cons r L ih =>
   have : unpairs (r :: L) = r.hi :: r.lo :: unpairs L := rfl
   rw [this, pairs, ih]
theorem pairs_len : ∀ (l : List Int), l.length % 2 = 0 → 2 * (pairs l).length = l.length
 | [], _ => rfl
 | [a], h => by simp at h
 | a :: b :: r, h => by
   have ih := pairs_len r (by simp at h; omega)
   rw [pairs]; simp at ih ⊢; omega
theorem pairs_at : ∀ (l : List Int) (i : Nat), l.length % 2 = 0 → 2 * i < l.length → rat (pairs l) i = ⟨ith l (2 * i + 1), ith l (2 * i)⟩
 | [], i, _, h => by simp at h
 | [a], i, h, _ => by simp at h
 | a :: b :: r, 0, _, _ => rfl
 | a :: b :: r, i + 1, h, h2 => by
   have ih := pairs_at r i (by simp at h; omega) (by simp at h2; omega)
   have e1 : rat (pairs (a :: b :: r)) (i + 1) = rat (pairs r) i := by simp [pairs, rat]
   have e2 : ∀ j, ith (a :: b :: r) (j + 1 + 1) = ith r j := fun j => by simp [ith]
   rw [e1, ih, show 2 * (i + 1) + 1 = (2 * i + 1) + 1 + 1 by omega, show 2 * (i + 1) = 2 * i + 1 + 1 by omega, e2, e2]
def manyK (k : Int) : Int := if k = 1 then 0 else if k = 2 then -1 else if k = 7 then 2 else 1
def shapeB (f : Frm) : Bool := (f.kind == 3 || f.data.size == 0) && (if f.kind = 2 then decide (0 < f.nums.length ∧ f.nums.length % 2 = 0 ∧ f.nums.length ≤ 24) else decide ((f.nums.length : Int) = manyK f.kind))
def maysB (l : List Int) : Bool := l.all mayB
def frmE (f : Frm) : Int := if f.kind < 1 ∨ 8 < f.kind then 1 else if shapeB f = false then 3 else if maysB f.nums = false then 1 else if 20 < f.data.size then 4 else if f.kind = 2 ∧ rngE (pairs f.nums) ≠ 0 then 3 else 0
theorem frmE_kind {f : Frm} (h : f.kind < 1 ∨ 8 < f.kind) : frmE f = 1 := by unfold frmE; rw [if_pos h]
theorem frmE_shape {f : Frm} (h : ¬ (f.kind < 1 ∨ 8 < f.kind)) (h2 : shapeB f = false) : frmE f = 3 := by unfold frmE; rw [if_neg h, if_pos h2]
theorem frmE_may {f : Frm} (h : ¬ (f.kind < 1 ∨ 8 < f.kind)) (h2 : shapeB f = true) (h3 : maysB f.nums = false) : frmE f = 1 := by unfold frmE; rw [if_neg h, if_neg (by simp [h2]), if_pos h3]
theorem frmE_full {f : Frm} (h : ¬ (f.kind < 1 ∨ 8 < f.kind)) (h2 : shapeB f = true) (h3 : maysB f.nums = true) (h4 : 20 < f.data.size) : frmE f = 4 := by unfold frmE; rw [if_neg h, if_neg (by simp [h2]), if_neg (by simp [h3]), if_pos h4]
theorem frmE_ack {f : Frm} (h : f.kind = 2) (h2 : shapeB f = true) (h3 : maysB f.nums = true) (h4 : ¬ 20 < f.data.size) (h5 : rngE (pairs f.nums) ≠ 0) : frmE f = 3 := by unfold frmE; rw [if_neg (by omega), if_neg (by simp [h2]), if_neg (by simp [h3]), if_neg h4, if_pos ⟨h, h5⟩]
theorem frmE_ok {f : Frm} (h : ¬ (f.kind < 1 ∨ 8 < f.kind)) (h2 : shapeB f = true) (h3 : maysB f.nums = true) (h4 : ¬ 20 < f.data.size) (h5 : f.kind = 2 → rngE (pairs f.nums) = 0) : frmE f = 0 := by unfold frmE; rw [if_neg h, if_neg (by simp [h2]), if_neg (by simp [h3]), if_neg h4, if_neg (fun hh => hh.2 (h5 hh.1))]
theorem frmE_out {f : Frm} (h : frmE f = 0) : (1 ≤ f.kind ∧ f.kind ≤ 8) ∧ shapeB f = true ∧ (∀ z ∈ f.nums, MayBe z) ∧ f.data.size ≤ 20 ∧ (f.kind = 2 → rngE (pairs f.nums) = 0) := by
 by_cases h1 : f.kind < 1 ∨ 8 < f.kind
 · rw [frmE_kind h1] at h; cases h
 cases h2 : shapeB f with
 | false => rw [frmE_shape h1 h2] at h; cases h
 | true =>
   cases h3 : maysB f.nums with
   | false => rw [frmE_may h1 h2 h3] at h; cases h
   | true =>
     by_cases h4 : 20 < f.data.size
     · rw [frmE_full h1 h2 h3 h4] at h; cases h
     by_cases h5 : f.kind = 2 → rngE (pairs f.nums) = 0
     · exact ⟨by omega, rfl, fun z hz => mayB_iff.1 (List.all_eq_true.1 h3 z hz), by omega, h5⟩
     · have h6 : f.kind = 2 ∧ rngE (pairs f.nums) ≠ 0 := by
        refine ⟨Decidable.byContradiction fun hh => h5 (fun hk => absurd hk hh), fun he => h5 (fun _ => he)⟩
       rw [frmE_ack h6.1 h2 h3 h4 h6.2] at h; cases h
def frmB (f : Frm) : List UInt8 := byteOf f.kind :: (if f.kind = 2 then ackB (pairs f.nums) else allL f.nums ++ (if f.kind = 3 then vbytes f.data.size ++ f.data.data.toList else []))
def numUp (b : List UInt8) (k : Nat) : Nat → Option (List Int × Nat)
 | 0 => some ([], k)
 | i + 1 => match numUp b k i with
   | none => none
   | some (L, k2) => if getOk (b.drop k2) then some (L ++ [getN (b.drop k2)], k2 + getC (b.drop k2)) else none
theorem numUp_none {b : List UInt8} {k i : Nat} (h : numUp b k i = none) : ∀ j, i ≤ j → numUp b k j = none := by
 intro j hj
 induction j with
 | zero => obtain rfl : i = 0 := by omega
           exact h
 | succ j ih =>
   by_cases he : i = j + 1
   · rw [← he]; exact h
   · rw [numUp, ih (by omega)]
theorem numUp_yes {b : List UInt8} {k i k2 : Nat} {L : List Int} (h : numUp b k i = some (L, k2)) (h2 : getOk (b.drop k2)) : numUp b k (i + 1) = some (L ++ [getN (b.drop k2)], k2 + getC (b.drop k2)) := by rw [numUp, h]; simp only; rw [if_pos h2]
theorem numUp_no {b : List UInt8} {k i k2 : Nat} {L : List Int} (h : numUp b k i = some (L, k2)) (h2 : ¬ getOk (b.drop k2)) : numUp b k (i + 1) = none := by rw [numUp, h]; simp only; rw [if_neg h2]
theorem numUp_inv {b : List UInt8} {k : Nat} (hk : k ≤ b.length) : ∀ (i : Nat) (L : List Int) (k2 : Nat), numUp b k i = some (L, k2) → L.length = i ∧ k2 ≤ b.length ∧ b.take k2 = b.take k ++ allL L ∧ ∀ z ∈ L, MayBe z
 | 0, L, k2, h => by
   simp only [numUp, Option.some.injEq, Prod.mk.injEq] at h
   obtain ⟨rfl, rfl⟩ := h
   exact ⟨rfl, hk, by simp [allL], by simp⟩
 | i + 1, L, k2, h => by
   cases hc : numUp b k i with
   | none => rw [numUp, hc] at h; cases h
   | some p =>
     obtain ⟨M, k1⟩ := p
     obtain ⟨a1, a2, a3, a4⟩ := numUp_inv hk i M k1 hc
     by_cases hg : getOk (b.drop k1)
     · rw [numUp_yes hc hg] at h
       simp only [Option.some.injEq, Prod.mk.injEq] at h
       obtain ⟨rfl, rfl⟩ := h
       obtain ⟨s1, s2⟩ := get_split a2 hg
       refine ⟨by simp [a1], s2, by rw [s1, a3, allL_snoc]; simp, fun z hz => ?_⟩
       rcases List.mem_append.1 hz with hz | hz
       · exact a4 z hz
       · rw [List.mem_singleton.1 hz]; exact getN_bounds hg.2.1
     · rw [numUp_no hc hg] at h; cases h
def readK (k : Int) : Nat := if k = 1 then 0 else if k = 7 then 2 else if k = 3 then 2 else 1
def restF (kind : Int) (b : List UInt8) : Option (Frm × Nat) :=
 if kind = 2 then (match readA b with | none => none | some (L, n) => some (⟨2, unpairs L, ByteArray.empty⟩, n))
 else match numUp b 0 (readK kind) with
  | none => none
  | some (L, k) => if kind = 3 then (if ith L 1 ≤ 20 ∧ (k : Int) + ith L 1 ≤ b.length then some (⟨3, [ith L 0], ⟨((b.drop k).take (ith L 1).toNat).toArray⟩⟩, k + (ith L 1).toNat) else none) else some (⟨kind, L, ByteArray.empty⟩, k)
def readF (b : List UInt8) : Option (Frm × Nat) :=
 if b = [] ∨ bat b 0 < 1 ∨ 8 < bat b 0 then none else match restF (bat b 0) (b.drop 1) with | none => none | some (f, n) => some (f, n + 1)
theorem ba_ext {a b : ByteArray} (h : a.data.toList = b.data.toList) : a = b := by
 cases a; cases b; congr; exact Array.toList_inj.1 h
theorem restF_inv {kind : Int} {b : List UInt8} {f : Frm} {n : Nat} (h0 : 1 ≤ kind) (h1 : kind ≤ 8) (h : restF kind b = some (f, n)) : frmE f = 0 ∧ f.kind = kind ∧ n ≤ b.length ∧ byteOf kind :: b.take n = frmB f := by
 unfold restF at h
 by_cases hk : kind = 2
 · subst hk
   rw [if_pos rfl] at h
   cases hc : readA b with
   | none => rw [hc] at h; cases h
   | some p =>
     obtain ⟨L, m⟩ := p
     rw [hc] at h
     simp only [Option.some.injEq, Prod.mk.injEq] at h
     obtain ⟨rfl, rfl⟩ := h
     obtain ⟨a1, a2, a3, a4, a5⟩ := readA_inv hc
     have hl := rngE_len a2
     have hE : frmE ⟨2, unpairs L, ByteArray.empty⟩ = 0 := by
      refine frmE_ok (by simp) ?_ ?_ (by simp) (fun _ => by rw [pairs_unpairs]; exact a2)
      · unfold shapeB
        simp only [unpairs_len]
        simp
        omega
      · unfold maysB
        rw [List.all_eq_true]
        intro z hz
        simp only [unpairs, List.mem_flatMap] at hz
        obtain ⟨r, hr, hz⟩ := hz
        have := rngE_ok a2 r hr
        simp at hz
        rcases hz with rfl | rfl
        · exact mayB_iff.2 this.2
        · exact mayB_iff.2 this.1
     refine ⟨hE, rfl, a3, ?_⟩
     rw [a4]
     unfold frmB
     simp [pairs_unpairs]
 · rw [if_neg hk] at h
   cases hc : numUp b 0 (readK kind) with
   | none => rw [hc] at h; cases h
   | some p =>
     obtain ⟨L, k⟩ := p
     rw [hc] at h
     simp only at h
     obtain ⟨a1, a2, a3, a4⟩ := numUp_inv (Nat.zero_le _) _ _ _ hc
     simp only [List.take_zero, List.nil_append] at a3
     by_cases h3 : kind = 3
     · subst h3
       rw [if_pos rfl] at h
       by_cases hx : ith L 1 ≤ 20 ∧ (k : Int) + ith L 1 ≤ b.length
       · rw [if_pos hx] at h
         simp only [Option.some.injEq, Prod.mk.injEq] at h
         obtain ⟨rfl, rfl⟩ := h
         have hL2 : L.length = 2 := a1
         match L, hL2 with
         | [x, y], _ =>
           have hy := a4 y (by simp)
           have hxx := a4 x (by simp)
           unfold MayBe at hy hxx
           have e0 : ith [x, y] 0 = x := rfl
           have e1 : ith [x, y] 1 = y := rfl
           have hx1 : y ≤ 20 := hx.1
           have hx2 : (k : Int) + y ≤ b.length := hx.2
           rw [e0, e1]
           have hsz : ((⟨((b.drop k).take y.toNat).toArray⟩ : ByteArray)).size = y.toNat := by
            show ((b.drop k).take y.toNat).toArray.size = _
            simp; omega
           have hE : frmE ⟨3, [x], ⟨((b.drop k).take y.toNat).toArray⟩⟩ = 0 := by
            refine frmE_ok (by simp) ?_ ?_ ?_ (fun h => by simp at h)
            · unfold shapeB; simp [manyK]
            · unfold maysB; simp; exact mayB_iff.2 hxx
            · show ¬ 20 < ((⟨((b.drop k).take y.toNat).toArray⟩ : ByteArray)).size
              rw [hsz]; omega
           refine ⟨hE, rfl, by omega, ?_⟩
           rw [List.take_add, a3]
           unfold frmB
           simp only [hsz, if_neg (show ¬ (3 : Int) = 2 by decide)]
           rw [show ((y.toNat : Nat) : Int) = y by omega]
           simp [allL]
       · rw [if_neg hx] at h; cases h
     · rw [if_neg h3] at h
       simp only [Option.some.injEq, Prod.mk.injEq] at h
       obtain ⟨rfl, rfl⟩ := h
       have hE : frmE ⟨kind, L, ByteArray.empty⟩ = 0 := by
        refine frmE_ok (by simp; omega) ?_ ?_ (by simp) (fun h => absurd h hk)
        · unfold shapeB
          simp only [if_neg hk, a1]
          unfold readK manyK
          simp [hk, h3]
          split
          · rfl
          · split <;> rfl
        · unfold maysB
          rw [List.all_eq_true]
          exact fun z hz => mayB_iff.2 (a4 z hz)
       refine ⟨hE, rfl, a2, ?_⟩
       rw [a3]
       unfold frmB
       simp [hk, h3]
theorem readF_inv {b : List UInt8} {f : Frm} {n : Nat} (h : readF b = some (f, n)) : frmE f = 0 ∧ 1 ≤ n ∧ n ≤ b.length ∧ b.take n = frmB f := by
 unfold readF at h
 by_cases hc : b = [] ∨ bat b 0 < 1 ∨ 8 < bat b 0
 · rw [if_pos hc] at h; cases h
 · rw [if_neg hc] at h
   cases hr : restF (bat b 0) (b.drop 1) with
   | none => rw [hr] at h; cases h
   | some p =>
     obtain ⟨g, m⟩ := p
     rw [hr] at h
     simp only [Option.some.injEq, Prod.mk.injEq] at h
     obtain ⟨rfl, rfl⟩ := h
     obtain ⟨a1, a2, a3, a4⟩ := restF_inv (by omega) (by omega) hr
     cases b with
     | nil => simp at hc
     | cons c b =>
       simp only [List.drop_succ_cons, List.drop_zero] at a3 a4
       refine ⟨a1, by omega, by simp; omega, ?_⟩
       rw [← a4, List.take_succ_cons]
       congr 1
       have := bat_byte (l := c :: b) (i := 0) (by simp)
       simpa using this.symm
instance : Inhabited Frm := ⟨⟨0, [], ByteArray.empty⟩⟩
structure FrmV where
 f : Frm
 A : Option Addr
 cap : Nat
instance : Inhabited FrmV := ⟨⟨default, none, 0⟩⟩
abbrev FrmV.v (p : FrmV) : Value := .slice p.A p.f.nums.length p.cap
def frmRow (p : FrmV) : List Value := [.int .i64 p.f.kind, .slice p.A p.f.nums.length p.cap, .string p.f.data]
theorem frmRow_one (p : FrmV) : (frmRow p).length = 3 ∧ ∀ u ∈ frmRow p, u.oneCell' = true := ⟨rfl, by intro u hu; simp [frmRow] at hu; rcases hu with rfl | rfl | rfl <;> rfl⟩
abbrev FrmV.agg (p : FrmV) : Value := .agg #[.int .i64 p.f.kind, .slice p.A p.f.nums.length p.cap, .string p.f.data]
structure FrmIn (w : World) (p : FrmV) : Prop where
 kind : okI p.f.kind
 data : p.f.data.size ≤ maxLen
 nums : IntsIn w p.v p.f.nums
theorem FrmIn.later {w w' : World} {p : FrmV} (h : FrmIn w p) (hb : Below w.heap.size w w') : FrmIn w' p := ⟨h.kind, h.data, h.nums.keep hb⟩
structure FrmsIn (w : World) (v : Value) (L : List FrmV) : Prop where
 each : ∀ p ∈ L, FrmIn w p
 rd : Rd w 3 v (L.map frmRow)
theorem FrmsIn.later {w w' : World} {v : Value} {L : List FrmV} (h : FrmsIn w v L) (hb : Below w.heap.size w w') : FrmsIn w' v L :=
 ⟨fun p hp => (h.each p hp).later hb, h.rd.later hb⟩
def isU8 : Option Value → Bool
 | some (.int .u8 _) => true
 | _ => false
def cb : Option Value → UInt8
 | some (.int .u8 x) => byteOf x
 | _ => 0
theorem isU8_some (x : Int) : isU8 (some (.int .u8 x)) = true := rfl
theorem cb_some (x : Int) : cb (some (.int .u8 x)) = byteOf x := rfl
theorem isU8_out {o : Option Value} (h : isU8 o = true) : ∃ x, o = some (.int .u8 x) ∧ cb o = byteOf x := by
 match o, h with
 | some (.int .u8 x), _ => exact ⟨x, rfl, rfl⟩
theorem addr_at (g i : Nat) : (⟨g, 0, none⟩ : Addr).add i = ⟨g, i, none⟩ := by
 unfold Addr.add
 split
 · rename_i h; rw [h]
 · simp
theorem conv_of {W : World} {g c : Nat} {ns : List Int} (h : ∀ (j : Nat) v, (ns.map (Value.int .u8))[j]? = some v → W.cell? ⟨g, j, none⟩ = some v) :
 (convert 131 9 (.slice (some ⟨g, 0, none⟩) ns.length c)).run Tryz.prog W = .ok (.string ⟨(ns.map byteOf).toArray⟩) W := by
 rw [run_convert_bytes_string W 131 9 5 (some ⟨g, 0, none⟩) ns.length c Tryz.underlying131 Tryz.underlying5 Tryz.underlying9]
 have hl := run_loadCells_list (P := Tryz.prog) W ⟨g, 0, none⟩ (ns.map (Value.int .u8)) (fun j v hj => by rw [addr_at]; exact h j v hj)
 simp only [List.length_map] at hl
 rw [run_bytesToString W ⟨g, 0, none⟩ ns.length c ns hl]
 have e : ∀ (l : List Int) (r : ByteArray), l.foldl (fun r n => r.push (UInt8.ofNat n.toNat)) r = ⟨r.data ++ (l.map byteOf).toArray⟩ := by
  intro l
  induction l with
  | nil => intro r; simp
  | cons x l ih => intro r; rw [List.foldl_cons, ih]; simp [ByteArray.push, byteOf]
 rw [e ns]
 have he0 : ByteArray.empty.data = #[] := rfl
 rw [he0]
 simp
theorem conv1 (W : World) (g c : Nat) (h0 : isU8 (W.cell? ⟨g, 0, none⟩) = true) :
 (convert 131 9 (.slice (some ⟨g, 0, none⟩) 1 c)).run Tryz.prog W = .ok (.string ⟨#[cb (W.cell? ⟨g, 0, none⟩)]⟩) W := by
 obtain ⟨x, e0, c0⟩ := isU8_out h0
 rw [c0]
 exact conv_of (ns := [x]) (fun j v hj => by
  match j, hj with
  | 0, hj => simp at hj; rw [← hj]; exact e0
  | _ + 1, hj => simp at hj)
theorem conv2 (W : World) (g c : Nat) (h0 : isU8 (W.cell? ⟨g, 0, none⟩) = true) (h1 : isU8 (W.cell? ⟨g, 1, none⟩) = true) :
 (convert 131 9 (.slice (some ⟨g, 0, none⟩) 2 c)).run Tryz.prog W = .ok (.string ⟨#[cb (W.cell? ⟨g, 0, none⟩), cb (W.cell? ⟨g, 1, none⟩)]⟩) W := by
 obtain ⟨x, e0, c0⟩ := isU8_out h0
 obtain ⟨y, e1, c1⟩ := isU8_out h1
 rw [c0, c1]
 exact conv_of (ns := [x, y]) (fun j v hj => by
  match j, hj with
  | 0, hj => simp at hj; rw [← hj]; exact e0
  | 1, hj => simp at hj; rw [← hj]; exact e1
  | _ + 2, hj => simp at hj)
theorem conv4 (W : World) (g c : Nat) (h0 : isU8 (W.cell? ⟨g, 0, none⟩) = true) (h1 : isU8 (W.cell? ⟨g, 1, none⟩) = true) (h2 : isU8 (W.cell? ⟨g, 2, none⟩) = true) (h3 : isU8 (W.cell? ⟨g, 3, none⟩) = true) :
 (convert 131 9 (.slice (some ⟨g, 0, none⟩) 4 c)).run Tryz.prog W = .ok (.string ⟨#[cb (W.cell? ⟨g, 0, none⟩), cb (W.cell? ⟨g, 1, none⟩), cb (W.cell? ⟨g, 2, none⟩), cb (W.cell? ⟨g, 3, none⟩)]⟩) W := by
 obtain ⟨x, e0, c0⟩ := isU8_out h0
 obtain ⟨y, e1, c1⟩ := isU8_out h1
 obtain ⟨z, e2, c2⟩ := isU8_out h2
 obtain ⟨t, e3, c3⟩ := isU8_out h3
 rw [c0, c1, c2, c3]
 exact conv_of (ns := [x, y, z, t]) (fun j v hj => by
  match j, hj with
  | 0, hj => simp at hj; rw [← hj]; exact e0
  | 1, hj => simp at hj; rw [← hj]; exact e1
  | 2, hj => simp at hj; rw [← hj]; exact e2
  | 3, hj => simp at hj; rw [← hj]; exact e3
  | _ + 4, hj => simp at hj)
end Go.Proofs.YtmfbaijbigodkaaGreatDoor
namespace Go.Proofs.YtmfbaijbigodkaaGreatDoor
open Go.ChangeShapes Go.WideShapes Go.ChangeAt Go.RowKit Go.Shelf
set_option linter.unusedVariables false
attribute [local go_sem] Oper.semAt_some isU8_some cb_some
abbrev kindsV : Value := .agg #[.int .i64 1, .int .i64 64, .int .i64 2, .int .i64 16384, .int .i64 4, .int .i64 1073741824]
theorem kinds_at0 (w : World) : (Instr.index 230 kindsV (.int .i64 0)).run Tryz.prog w = .ok (.agg #[.int .i64 1, .int .i64 64]) w := by kernel_rfl
theorem kinds_at1 (w : World) : (Instr.index 230 kindsV (.int .i64 1)).run Tryz.prog w = .ok (.agg #[.int .i64 2, .int .i64 16384]) w := by kernel_rfl
theorem kinds_at2 (w : World) : (Instr.index 230 kindsV (.int .i64 2)).run Tryz.prog w = .ok (.agg #[.int .i64 4, .int .i64 1073741824]) w := by kernel_rfl
theorem kind_any (n : Int) (w : World) (hk : KTab w) :
 Calls Tryz.prog 149 #[.int .i64 n] w fun e w' => e = .returned (.int .i64 (kindN n)) ∧ Below w.heap.size w w' := by
 obtain ⟨k0, k1, k2, k3, k4, k5⟩ := hk
 have i0 := kinds_at0
 have i1 := kinds_at1
 have i2 := kinds_at2
 by_cases a : n < 64
 · have E : Hid (kindN n = 0) := Lib.hid (by unfold kindN; rw [if_pos a])
   go_enter Tryz.func149, Tryz.ntmps149
   go_wp2
   refine wp_loop_rounds 1 ?_
   rw [rounds_succ]
   go_wp2
   go_ret
   exact ⟨end_int E.out.symm, (by exact Since.alloc (Since.refl _) _)⟩
 by_cases b : n < 16384
 · have E : Hid (kindN n = 1) := Lib.hid (by unfold kindN; rw [if_neg a, if_pos b])
   go_enter Tryz.func149, Tryz.ntmps149
   go_wp2
   refine wp_loop_rounds 2 ?_
   rw [rounds_succ]
   go_wp2
   rw [rounds_succ]
   go_wp2
   go_ret
   exact ⟨end_int E.out.symm, (by exact Since.alloc (Since.alloc (Since.refl _) _) _)⟩
 have E : Hid (kindN n = 2) := Lib.hid (by unfold kindN; rw [if_neg a, if_neg b])
 by_cases c : n < 1073741824
 · go_enter Tryz.func149, Tryz.ntmps149
   go_wp2
   refine wp_loop_rounds 3 ?_
   rw [rounds_succ]
   go_wp2
   rw [rounds_succ]
   go_wp2
   rw [rounds_succ]
   go_wp2
   go_ret
   exact ⟨end_int E.out.symm, (by exact Since.alloc (Since.alloc (Since.alloc (Since.refl _) _) _) _)⟩
 · go_enter Tryz.func149, Tryz.ntmps149
   go_wp2
   refine wp_loop_rounds 4 ?_
   rw [rounds_succ]
   go_wp2
   rw [rounds_succ]
   go_wp2
   rw [rounds_succ]
   go_wp2
   rw [rounds_succ]
   go_wp2
   go_ret
   exact ⟨end_int E.out.symm, (by exact Since.alloc (Since.alloc (Since.alloc (Since.refl _) _) _) _)⟩
/-! slices.Backward over bytes of the call's own, each round free to write them -/
abbrev BX (K : Nat) := { x : Int × Int // 0 ≤ x.1 ∧ x.1 < K }
def RowU8 (K b : Nat) (W : World) : Prop := ∀ j, j < K → ∃ v, W.cell? ⟨b, j, none⟩ = some (.int .u8 v)
def KpB (K b s : Nat) (W W' : World) : Prop := (RowU8 K b W → RowU8 K b W') ∧ ∀ v, W.cell? ⟨s, 0, none⟩ = some v → W'.cell? ⟨s, 0, none⟩ = some v
theorem KpB.t {K b s : Nat} {A B C : World} (h : KpB K b s A B) (k : KpB K b s B C) : KpB K b s A C := ⟨fun x => k.1 (h.1 x), fun v x => k.2 v (h.2 v x)⟩
theorem KpB.b {K b s B : Nat} (W : World) (l : Nat) (o o' : Obj) (_ : B ≤ l) (h : W.heap[l]? = some o) (hc : o.isCells = false) (_ : o.isWalk = false) : KpB K b s W (W.putObj l o') :=
 ⟨fun x j hj => by
  obtain ⟨v, hv⟩ := x j hj
  exact ⟨v, cell_kept hv (grownBy_putObj' W l o') (fun r e => by cases e; exact ⟨o, h, hc⟩)⟩,
  fun v x => cell_kept x (grownBy_putObj' W l o') (fun r e => by cases e; exact ⟨o, h, hc⟩)⟩
def downs (K k : Nat) : List Int := (List.range k).map fun (j : Nat) => (K : Int) - 1 - j
theorem downs_succ (K k : Nat) : downs K (k + 1) = downs K k ++ [(K : Int) - 1 - k] := by simp [downs, List.range_succ]
theorem downs_length (K k : Nat) : (downs K k).length = k := by simp [downs]
theorem back1_in (F : Fence) (n : Nat) (hf : F.fn 166) (hro : F.round = none) (hn : 1 ≤ n) (l s b K : Nat) (hK : K ≤ 8) (J Jx : List (BX K) → World → Prop)
 (hY : ∀ pre x W, J pre W → pre.length < K → YieldAt F (n - 1) Tryz.prog l #[.int .i64 x.1.1, .int .u8 x.1.2] W fun e W' =>
   (e = .returned (.bool true) ∧ J (pre ++ [x]) W' ∧ KpB K b s W W') ∨ (e = .returned (.bool false) ∧ Jx (pre ++ [x]) W'))
 (W : World) (hs : W.cell? ⟨s, 0, none⟩ = some (.slice (some ⟨b, 0, none⟩) K K)) (hc : RowU8 K b W) (h0 : J [] W) :
 CallsIn F n Tryz.prog 166 #[.func (.yield l) #[] #[], .pointer (some ⟨s, 0, none⟩)] W fun e W' => (∃ v, e = .returned v) ∧
  ((∃ ys : List (BX K), ys.map (·.1.1) = downs K K ∧ J ys W') ∨ (∃ pre : List (BX K), True ∧ Jx pre W')) := by
 have HY := Lib.hid hY
 clear hY
 refine callsIn_of_wp Tryz.func166 rfl hf ?_ hro
 simp only [Tryz.ntmps166, List.size_toArray, List.length_cons, List.length_nil, Nat.reduceAdd, Nat.reduceSub, Array.replicate_succ, Array.replicate_zero, List.push_toArray, List.append_toArray, List.nil_append, List.cons_append]
 gi_wp2
 gi_loopw [3] (fun i wr => ∃ (r : Nat) (pre : List (BX K)), r ≤ K ∧ i = .int .i64 ((r : Int) - 1) ∧ pre.map (·.1.1) = downs K (K - r) ∧ J pre wr ∧ RowU8 K b wr ∧ wr.cell? ⟨s, 0, none⟩ = some (.slice (some ⟨b, 0, none⟩) K K))
  (fun i _ => (intOf i + 1).toNat)
 case atStart => exact ⟨K, [], Nat.le_refl _, rfl, by rw [Nat.sub_self]; rfl, h0, hc, hs⟩
 case round =>
  obtain ⟨r, pre, hr, rfl, hp, hJ, hcr, hsr⟩ := hrel
  have HP := Lib.hid hp
  clear hp
  rcases r with _ | r
  · have HJ := Lib.hid hJ
    clear hJ hcr
    gi_wp2
    go_end0
    exact ⟨⟨_, rfl⟩, .inl ⟨pre, HP.out, HJ.out⟩⟩
  · obtain ⟨v, hv⟩ := hcr r (by omega)
    have hlen : pre.length = K - (r + 1) := by have := congrArg List.length HP.out; simpa [downs_length] using this
    have HR := HY.out pre ⟨((r : Int), v), by simp; omega⟩ wr hJ (by omega)
    rw [show (((r + 1 : Nat) : Int) - 1) = (r : Int) from by omega]
    have HCR := Lib.hid hcr
    have hr2 : (r : Int) < (K : Int) := by omega
    clear hJ hcr hlen
    obtain ⟨fn, tmps, assign, body, hy, hR⟩ := HR
    dsimp only at hy
    gi_wp2
    refine hR.mono ?_
    rintro e W3 (⟨rfl, hJ3, hk3⟩ | ⟨rfl, hJx3⟩)
    · have hs3 := hk3.2 _ hsr
      have HC3 := Lib.hid (hk3.1 HCR.out)
      have HJ3 := Lib.hid hJ3
      clear hJ3 hk3
      gi_wp2
      go_roundw
      case rel => exact ⟨r, pre ++ [⟨((r : Int), v), by simp; omega⟩], by omega, rfl, by rw [List.map_append, HP.out, show K - r = K - (r + 1) + 1 from by omega, downs_succ]; simp; omega, HJ3.out, HC3.out, hs3⟩
      case measure => simp [intOf]
    · gi_wp2
      refine bodyPost_ret (results_none rfl _ _ _) rfl ?_
      exact ⟨⟨_, rfl⟩, .inr ⟨_, trivial, hJx3⟩⟩
theorem back_stops (F : Fence) (n : Nat) (hf : F.fn 166) (hro : F.round = none) (hn : 1 ≤ n) (s b K : Nat) (hK : K ≤ 8) (w : World)
 (hs : w.cell? ⟨s, 0, none⟩ = some (.slice (some ⟨b, 0, none⟩) K K)) (hc : RowU8 K b w) (hsl : s < w.heap.size) (hbl : b < w.heap.size) :
 SeqStopsK F n Tryz.prog 166 #[.pointer (some ⟨s, 0, none⟩)] (fun x : BX K => #[Value.int .i64 x.1.1, Value.int .u8 x.1.2]) (KpB K b s) (fun ys => ys.map (·.1.1) = downs K K) (fun _ => True) K w := fun l J Jx W hW _ _ hY h0 =>
 back1_in F n hf hro hn l s b K hK J Jx hY W ((hW.cell (p := ⟨s, 0, none⟩) hsl).trans hs) (fun j hj => by obtain ⟨v, hv⟩ := hc j hj; exact ⟨v, (hW.cell (p := ⟨b, j, none⟩) hbl).trans hv⟩) h0
theorem backward_in (F : Fence) (n : Nat) (hf : F.fn 150) (hro : F.round = none) (a : Option Addr) (len cap : Nat) (w : World) :
 CallsIn F n Tryz.prog 150 #[.slice a len cap] w fun e w' => e = .returned (.func (.func 166) #[] #[.pointer (some ⟨w.heap.size, 0, none⟩)]) ∧ w' = w.alloc (.cells #[.slice a len cap] 131) := by
 refine callsIn_of_wp Tryz.func150 rfl hf ?_ hro
 simp only [Tryz.ntmps150, List.size_toArray, List.length_cons, List.length_nil, Nat.reduceAdd, Nat.reduceSub, Array.replicate_succ, Array.replicate_zero, List.push_toArray, List.append_toArray, List.nil_append, List.cons_append]
 gi_wp2
 go_ret
 exact ⟨rfl, rfl⟩
/-! varint.Bytes -/
def bstep (s : (Nat → Int) × Int) (i : Int) : (Nat → Int) × Int := (fun (j : Nat) => if (j : Int) = i then s.2 % 256 else s.1 j, s.2 / 256)
def bst (m : Int) (is : List Int) : (Nat → Int) × Int := is.foldl bstep (fun _ => 0, m)
theorem bst_snoc (m : Int) (is : List Int) (i : Int) : bst m (is ++ [i]) = bstep (bst m is) i := by simp [bst]
theorem bst_bounds {m : Int} (h0 : 0 ≤ m) (h1 : m ≤ 4294967296) (is : List Int) : 0 ≤ (bst m is).2 ∧ (bst m is).2 ≤ 4294967296 := by
 have h : ∀ (is : List Int) (s : (Nat → Int) × Int), 0 ≤ s.2 → s.2 ≤ 4294967296 → 0 ≤ (is.foldl bstep s).2 ∧ (is.foldl bstep s).2 ≤ 4294967296 := by
  intro is
  induction is with
  | nil => intro s a b; exact ⟨a, b⟩
  | cons i r ih =>
    intro s a b
    rw [List.foldl_cons]
    exact ih _ (by show 0 ≤ s.2 / 256; omega) (by show s.2 / 256 ≤ 4294967296; omega)
 exact h is _ h0 h1
structure BI (w : World) (gn go gs : Nat) (K : Nat) (m : Int) (pre : List (BX K)) (W : World) : Prop where
 n : W.cell? ⟨gn, 0, none⟩ = some (.int .i64 (bst m (pre.map (·.1.1))).2)
 fn : W.frozen? ⟨gn, 0, none⟩ = false
 r : ∀ j, j < K → W.cell? ⟨go, j, none⟩ = some (.int .u8 ((bst m (pre.map (·.1.1))).1 j))
 fr : ∀ j, j < K → W.frozen? ⟨go, j, none⟩ = false
 s : W.cell? ⟨gs, 0, none⟩ = some (.slice (some ⟨go, 0, none⟩) K K)
theorem BI.own (w : World) (gn go gs K : Nat) (m : Int) : Own (fun (pre : List (BX K)) W => BI w gn go gs K m pre W) := fun _ A B row hs hg hr =>
 ⟨cell_kept hs.n hg hr, (frozen_kept hs.n hg hr).trans hs.fn, fun j hj => cell_kept (hs.r j hj) hg hr, fun j hj => (frozen_kept (hs.r j hj) hg hr).trans (hs.fr j hj), cell_kept hs.s hg hr⟩
theorem BI.step {w W : World} {gn go gs K p : Nat} {m : Int} {pre : List (BX K)} {x : BX K} (h : BI w gn go gs K m pre W) (hx : x.1.1 = (p : Int)) (hp : p < K) (n1 : go ≠ gn) (n2 : gs ≠ gn) (n3 : gs ≠ go) :
 BI w gn go gs K m (pre ++ [x]) ((W.setCell ⟨go, p, none⟩ (.int .u8 ((bst m (pre.map (·.1.1))).2 % 256))).setCell ⟨gn, 0, none⟩ (.int .i64 ((bst m (pre.map (·.1.1))).2 / 256))) := by
 have e : (pre ++ [x]).map (·.1.1) = pre.map (·.1.1) ++ [(p : Int)] := by rw [List.map_append]; simp [hx]
 obtain ⟨hn, hfn, hr, hfr, hs⟩ := h
 have far : ∀ {g o g' o' : Nat}, g ≠ g' → (⟨g', o', none⟩ : Addr) ≠ ⟨g, o, none⟩ := fun hne he => hne (congrArg Addr.block he).symm
 refine ⟨?_, ?_, ?_, ?_, ?_⟩
 · rw [e, bst_snoc]
   exact World.cell?_setCell_same' _ _ _ (by rw [World.cell?_setCell_other _ _ _ _ (far n1.symm), hn]; rfl)
 · rw [World.frozen?_setCell, World.frozen?_setCell]; exact hfn
 · intro j hj
   rw [e, bst_snoc, World.cell?_setCell_other _ _ _ _ (far n1)]
   by_cases hjp : j = p
   · subst hjp
     rw [World.cell?_setCell_same' _ _ _ (by rw [hr j hj]; rfl)]
     simp [bstep]
   · rw [World.cell?_setCell_other _ _ _ _ (fun he => hjp (congrArg Addr.off he).symm), hr j hj]
     simp only [bstep]
     rw [if_neg (by omega)]
 · intro j hj
   rw [World.frozen?_setCell, World.frozen?_setCell]; exact hfr j hj
 · rw [World.cell?_setCell_other _ _ _ _ (far n2), World.cell?_setCell_other _ _ _ _ (far n3)]; exact hs
theorem KpB.step {W : World} {K b s g p : Nat} {v : Int} {q : Value} (n1 : b ≠ g) (n2 : s ≠ g) (n3 : s ≠ b) : KpB K b s W ((W.setCell ⟨b, p, none⟩ (.int .u8 v)).setCell ⟨g, 0, none⟩ q) := by
 have far : ∀ {g o g' o' : Nat}, g ≠ g' → (⟨g', o', none⟩ : Addr) ≠ ⟨g, o, none⟩ := fun hne he => hne (congrArg Addr.block he).symm
 constructor
 · intro h j hj
   obtain ⟨u, hu⟩ := h j hj
   rw [World.cell?_setCell_other _ _ _ _ (far n1)]
   by_cases hjp : j = p
   · subst hjp
     exact ⟨v, World.cell?_setCell_same' _ _ _ (by rw [hu]; rfl)⟩
   · exact ⟨u, by rw [World.cell?_setCell_other _ _ _ _ (fun he => hjp (congrArg Addr.off he).symm)]; exact hu⟩
 · intro u hu
   rw [World.cell?_setCell_other _ _ _ _ (far n2), World.cell?_setCell_other _ _ _ _ (far n3)]
   exact hu
theorem bytes_k0 (n : Int) (h0 : 0 ≤ n) (h1 : n < 64) (w : World) (hk : KTab w) :
 CallsIn Fence.wide 6 Tryz.prog 126 #[.int .i64 n] w fun e w' => e = .returned (.string ⟨(vbytes n).toArray⟩) ∧ Below w.heap.size w w' := by
 have E : Hid (kindN n = 0) := Lib.hid (by unfold kindN; rw [if_pos (by omega)])
 have V : Hid (∀ ys : List (BX 1), ys.map (·.1.1) = downs 1 1 → vbytes n = [byteOf ((bst (n) (ys.map (·.1.1))).1 0)]) := Lib.hid (fun ys hys => by
  rw [hys]
  unfold vbytes
  rw [if_pos (by omega)]
  have e0 : (bst (n) (downs 1 1)).1 0 = (n) % 256 := rfl
  have g0 : (n) % 256 = n := by omega
  rw [e0, g0])
 have HK := Lib.hid hk
 have hkl := hk.lt
 clear hk
 have hmk : ∀ w : World, (Instr.makeSlice 131 (.int .i64 1) (.int .i64 1)).run Tryz.prog w = .ok (.slice (some ⟨w.heap.size, 0, none⟩) 1 1) (w.alloc (.cells #[.int .u8 0] 5)) := fun _ => by kernel_rfl
 have cv := conv1
 refine callsIn_of_wp_marks Tryz.func126 rfl trivial ?_ rfl
 simp only [Tryz.ntmps126, List.size_toArray, List.length_cons, List.length_nil, Nat.reduceAdd, Nat.reduceSub, Array.replicate_succ, Array.replicate_zero, List.push_toArray, List.append_toArray, List.nil_append, List.cons_append]
 gi_wp2_with (first | (refine ⟨trivial, ?_⟩; gi_at_call 149; refine (callsIn_wide.2 (kind_any n _ (HK.out.alloc _))).mono ?_; rintro e w1 ⟨rfl, hb1⟩; rw [E.out]; (first | (refine keepk (w.heap.size) hb1 ?_ ?_; (first | assumption | (focus (simp; omega)) | (focus (simp; done))); intro lk ck fk)); obtain ⟨k0, k1, k2, k3, k4, k5⟩ := (HK.out.alloc _).later hb1) | (refine ⟨trivial, ?_⟩; gi_at_call 150; refine (backward_in Fence.wide _ trivial rfl _ _ _ _).mono ?_; rintro e w' ⟨rfl, rfl⟩))
 have u1 : w.heap.size < w1.heap.size + 1 := by omega
 have u2 : w.heap.size < w1.heap.size + 1 + 1 := by omega
 have u3 : w.heap.size < w1.heap.size + 1 + 1 + 1 := by omega
 refine wpIn_rangeFunc_ownF rfl (by omega) (gf := 166) (lb := #[.pointer (some ⟨w1.heap.size + 1 + 1 + 1, 0, none⟩)]) rfl trivial (enters_of Tryz.func166 (by kernel_rfl) rfl)
  (back_stops Fence.wide _ trivial rfl (by omega) (w1.heap.size + 1 + 1 + 1) (w1.heap.size + 1) 1 (by omega) _ (by go_simp) (fun j hj => by
    match j, hj with
    | 0, _ => exact ⟨0, by go_simp⟩) (by first | (simp; done) | (simp; omega)) (by first | (simp; done) | (simp; omega))) KpB.t KpB.b (Below.refl _ _) (fun _ => rfl)
  (fun pre W => BI w w.heap.size (w1.heap.size + 1) (w1.heap.size + 1 + 1) 1 (n) pre W ∧ Below w.heap.size w W)
  (fun _ _ _ => False)
  (OwnFrom.and (Own.from (BI.own _ _ _ _ _ _) _) (ownFrom_below (Nat.le_refl _) (by simp; omega)))
  (fun _ _ _ _ _ hs _ _ => hs)
  ⟨⟨by show _ = some (Value.int .i64 (n)); go_simp, by go_simp, fun j hj => (by
   match j, hj with
   | 0, _ => show _ = some (Value.int .u8 0); go_simp), fun j hj => (by go_simp), by go_simp⟩, (by exact Since.alloc (Since.alloc (Since.alloc (Since.alloc (Since.set (Since.later (Since.alloc (Since.refl _) _) hb1) (by first | omega | (simp; done) | (simp; omega)) _) _) _) _) _)⟩
  (fun x => { tmps := #[.int .i64 n, .pointer (some ⟨w.heap.size, 0, none⟩), .string ⟨#[]⟩, .int .i64 0, .pointer (some ⟨w1.heap.size, 0, none⟩), .pointer (some ⟨w1.heap.size + 1 + 1, 0, none⟩), .int .i64 x.1.1, .int .i64 n, .int .i64 0, .int .i64 0, .pointer (some ⟨2, 0, none⟩), .agg #[.int .i64 1, .int .i64 64], .int .i64 n, .int .i64 0, .pointer (some ⟨w1.heap.size, 1, none⟩), .int .i64 64, .int .i64 0, .int .i64 (n), .pointer (some ⟨w1.heap.size, 0, none⟩), .int .i64 1, .slice (some ⟨w1.heap.size + 1, 0, none⟩) 1 1, .slice (some ⟨w1.heap.size + 1, 0, none⟩) 1 1, .func (.func 166) #[] #[.pointer (some ⟨w1.heap.size + 1 + 1 + 1, 0, none⟩)], .int .i64 x.1.1, .int .u8 x.1.2, undef, undef, undef, undef, undef, undef, undef, undef, undef], defers := [] }) ?assign ?body ?done ?stop
 case assign =>
  intro l x W K hK
  gi_wp2
  exact hK
 case body =>
  rintro l pre x W ⟨hB, hb⟩ _
  have HB := Lib.hid hB
  obtain ⟨hn, hfn, hr, hfr, hs⟩ := hB
  obtain ⟨p, hp⟩ := Int.eq_ofNat_of_zero_le x.2.1
  have HP := Lib.hid hp
  have hpK : p < 1 := by have := x.2.2; omega
  have cp := hr p hpK
  have fp := hfr p hpK
  obtain ⟨q0, q1⟩ := bst_bounds (m := n) (by omega) (by omega) (pre.map (·.1.1))
  have n1 : w1.heap.size + 1 ≠ w.heap.size := by omega
  have n2 : w1.heap.size + 1 + 1 ≠ w.heap.size := by omega
  rw [hp]
  clear hr hfr hp
  obtain ⟨q, hq⟩ : ∃ q, (bst (n) (pre.map (·.1.1))).2 = q := ⟨_, rfl⟩
  have HQ := Lib.hid hq
  rw [hq] at hn q0 q1
  clear hq
  gi_wp2
  refine ⟨(KeepsOthers.setCell _ _ _).trans (KeepsOthers.setCell _ _ _), KpB.step n1 (by omega) (by omega), ?_, (hb.setCell (by simp; omega) _).setCell (by simp) _⟩
  have hst := HB.out.step HP.out hpK n1 n2 (by omega)
  rw [HQ.out] at hst
  exact hst
 case done =>
  rintro D ys W hD hys ⟨hB, hb⟩ hK
  have HY := Lib.hid (V.out ys hys)
  obtain ⟨hn, hfn, hr, hfr, hs⟩ := hB
  have c0 := hr 0 (by omega)
  clear hr hfr hys
  gi_wp2
  refine ⟨by simp, .inl ⟨_, _, rfl, run_takeDeferred hK, ?_⟩⟩
  exact ⟨_, results_tmp rfl _ _ _, by rw [HY.out]; rfl, hb.trans (belowK_b (w := w) (Nat.le_refl _) W D _ _ (by simp at hD; omega) hK rfl rfl)⟩
 case stop =>
  rintro D c pre W _ _ h _
  exact h.elim
theorem bytes_k1 (n : Int) (h0 : 64 ≤ n) (h1 : n < 16384) (w : World) (hk : KTab w) :
 CallsIn Fence.wide 6 Tryz.prog 126 #[.int .i64 n] w fun e w' => e = .returned (.string ⟨(vbytes n).toArray⟩) ∧ Below w.heap.size w w' := by
 have E : Hid (kindN n = 1) := Lib.hid (by unfold kindN; rw [if_neg (by omega), if_pos (by omega)])
 have V : Hid (∀ ys : List (BX 2), ys.map (·.1.1) = downs 2 2 → vbytes n = [byteOf ((bst (n + 16384) (ys.map (·.1.1))).1 0), byteOf ((bst (n + 16384) (ys.map (·.1.1))).1 1)]) := Lib.hid (fun ys hys => by
  rw [hys]
  unfold vbytes
  rw [if_neg (by omega), if_pos (by omega)]
  have e0 : (bst (n + 16384) (downs 2 2)).1 0 = (n + 16384) / 256 % 256 := rfl
  have e1 : (bst (n + 16384) (downs 2 2)).1 1 = (n + 16384) % 256 := rfl
  have g0 : (n + 16384) / 256 % 256 = 64 + n / 256 := by omega
  have g1 : (n + 16384) % 256 = n % 256 := by omega
  rw [e0, g0, e1, g1])
 have HK := Lib.hid hk
 have hkl := hk.lt
 clear hk
 have hmk : ∀ w : World, (Instr.makeSlice 131 (.int .i64 2) (.int .i64 2)).run Tryz.prog w = .ok (.slice (some ⟨w.heap.size, 0, none⟩) 2 2) (w.alloc (.cells #[.int .u8 0, .int .u8 0] 5)) := fun _ => by kernel_rfl
 have cv := conv2
 refine callsIn_of_wp_marks Tryz.func126 rfl trivial ?_ rfl
 simp only [Tryz.ntmps126, List.size_toArray, List.length_cons, List.length_nil, Nat.reduceAdd, Nat.reduceSub, Array.replicate_succ, Array.replicate_zero, List.push_toArray, List.append_toArray, List.nil_append, List.cons_append]
 gi_wp2_with (first | (refine ⟨trivial, ?_⟩; gi_at_call 149; refine (callsIn_wide.2 (kind_any n _ (HK.out.alloc _))).mono ?_; rintro e w1 ⟨rfl, hb1⟩; rw [E.out]; (first | (refine keepk (w.heap.size) hb1 ?_ ?_; (first | assumption | (focus (simp; omega)) | (focus (simp; done))); intro lk ck fk)); obtain ⟨k0, k1, k2, k3, k4, k5⟩ := (HK.out.alloc _).later hb1) | (refine ⟨trivial, ?_⟩; gi_at_call 150; refine (backward_in Fence.wide _ trivial rfl _ _ _ _).mono ?_; rintro e w' ⟨rfl, rfl⟩))
 have u1 : w.heap.size < w1.heap.size + 1 := by omega
 have u2 : w.heap.size < w1.heap.size + 1 + 1 := by omega
 have u3 : w.heap.size < w1.heap.size + 1 + 1 + 1 := by omega
 refine wpIn_rangeFunc_ownF rfl (by omega) (gf := 166) (lb := #[.pointer (some ⟨w1.heap.size + 1 + 1 + 1, 0, none⟩)]) rfl trivial (enters_of Tryz.func166 (by kernel_rfl) rfl)
  (back_stops Fence.wide _ trivial rfl (by omega) (w1.heap.size + 1 + 1 + 1) (w1.heap.size + 1) 2 (by omega) _ (by go_simp) (fun j hj => by
    match j, hj with
    | 0, _ => exact ⟨0, by go_simp⟩
    | 1, _ => exact ⟨0, by go_simp⟩) (by first | (simp; done) | (simp; omega)) (by first | (simp; done) | (simp; omega))) KpB.t KpB.b (Below.refl _ _) (fun _ => rfl)
  (fun pre W => BI w w.heap.size (w1.heap.size + 1) (w1.heap.size + 1 + 1) 2 (n + 16384) pre W ∧ Below w.heap.size w W)
  (fun _ _ _ => False)
  (OwnFrom.and (Own.from (BI.own _ _ _ _ _ _) _) (ownFrom_below (Nat.le_refl _) (by simp; omega)))
  (fun _ _ _ _ _ hs _ _ => hs)
  ⟨⟨by show _ = some (Value.int .i64 (n + 16384)); go_simp, by go_simp, fun j hj => (by
   match j, hj with
   | 0, _ => show _ = some (Value.int .u8 0); go_simp
   | 1, _ => show _ = some (Value.int .u8 0); go_simp), fun j hj => (by go_simp), by go_simp⟩, (by exact Since.alloc (Since.alloc (Since.alloc (Since.alloc (Since.set (Since.later (Since.alloc (Since.refl _) _) hb1) (by first | omega | (simp; done) | (simp; omega)) _) _) _) _) _)⟩
  (fun x => { tmps := #[.int .i64 n, .pointer (some ⟨w.heap.size, 0, none⟩), .string ⟨#[]⟩, .int .i64 1, .pointer (some ⟨w1.heap.size, 0, none⟩), .pointer (some ⟨w1.heap.size + 1 + 1, 0, none⟩), .int .i64 x.1.1, .int .i64 n, .int .i64 1, .int .i64 1, .pointer (some ⟨2, 2, none⟩), .agg #[.int .i64 2, .int .i64 16384], .int .i64 n, .int .i64 1, .pointer (some ⟨w1.heap.size, 1, none⟩), .int .i64 16384, .int .i64 16384, .int .i64 (n + 16384), .pointer (some ⟨w1.heap.size, 0, none⟩), .int .i64 2, .slice (some ⟨w1.heap.size + 1, 0, none⟩) 2 2, .slice (some ⟨w1.heap.size + 1, 0, none⟩) 2 2, .func (.func 166) #[] #[.pointer (some ⟨w1.heap.size + 1 + 1 + 1, 0, none⟩)], .int .i64 x.1.1, .int .u8 x.1.2, undef, undef, undef, undef, undef, undef, undef, undef, undef], defers := [] }) ?assign ?body ?done ?stop
 case assign =>
  intro l x W K hK
  gi_wp2
  exact hK
 case body =>
  rintro l pre x W ⟨hB, hb⟩ _
  have HB := Lib.hid hB
  obtain ⟨hn, hfn, hr, hfr, hs⟩ := hB
  obtain ⟨p, hp⟩ := Int.eq_ofNat_of_zero_le x.2.1
  have HP := Lib.hid hp
  have hpK : p < 2 := by have := x.2.2; omega
  have cp := hr p hpK
  have fp := hfr p hpK
  obtain ⟨q0, q1⟩ := bst_bounds (m := n + 16384) (by omega) (by omega) (pre.map (·.1.1))
  have n1 : w1.heap.size + 1 ≠ w.heap.size := by omega
  have n2 : w1.heap.size + 1 + 1 ≠ w.heap.size := by omega
  rw [hp]
  clear hr hfr hp
  obtain ⟨q, hq⟩ : ∃ q, (bst (n + 16384) (pre.map (·.1.1))).2 = q := ⟨_, rfl⟩
  have HQ := Lib.hid hq
  rw [hq] at hn q0 q1
  clear hq
  gi_wp2
  refine ⟨(KeepsOthers.setCell _ _ _).trans (KeepsOthers.setCell _ _ _), KpB.step n1 (by omega) (by omega), ?_, (hb.setCell (by simp; omega) _).setCell (by simp) _⟩
  have hst := HB.out.step HP.out hpK n1 n2 (by omega)
  rw [HQ.out] at hst
  exact hst
 case done =>
  rintro D ys W hD hys ⟨hB, hb⟩ hK
  have HY := Lib.hid (V.out ys hys)
  obtain ⟨hn, hfn, hr, hfr, hs⟩ := hB
  have c0 := hr 0 (by omega); have c1 := hr 1 (by omega)
  clear hr hfr hys
  gi_wp2
  refine ⟨by simp, .inl ⟨_, _, rfl, run_takeDeferred hK, ?_⟩⟩
  exact ⟨_, results_tmp rfl _ _ _, by rw [HY.out]; rfl, hb.trans (belowK_b (w := w) (Nat.le_refl _) W D _ _ (by simp at hD; omega) hK rfl rfl)⟩
 case stop =>
  rintro D c pre W _ _ h _
  exact h.elim
theorem bytes_k2 (n : Int) (h0 : 16384 ≤ n) (h1 : n < 1073741824) (w : World) (hk : KTab w) :
 CallsIn Fence.wide 6 Tryz.prog 126 #[.int .i64 n] w fun e w' => e = .returned (.string ⟨(vbytes n).toArray⟩) ∧ Below w.heap.size w w' := by
 have E : Hid (kindN n = 2) := Lib.hid (by unfold kindN; rw [if_neg (by omega), if_neg (by omega)])
 have V : Hid (∀ ys : List (BX 4), ys.map (·.1.1) = downs 4 4 → vbytes n = [byteOf ((bst (n + 2147483648) (ys.map (·.1.1))).1 0), byteOf ((bst (n + 2147483648) (ys.map (·.1.1))).1 1), byteOf ((bst (n + 2147483648) (ys.map (·.1.1))).1 2), byteOf ((bst (n + 2147483648) (ys.map (·.1.1))).1 3)]) := Lib.hid (fun ys hys => by
  rw [hys]
  unfold vbytes
  rw [if_neg (by omega), if_neg (by omega)]
  have e0 : (bst (n + 2147483648) (downs 4 4)).1 0 = (n + 2147483648) / 256 / 256 / 256 % 256 := rfl
  have e1 : (bst (n + 2147483648) (downs 4 4)).1 1 = (n + 2147483648) / 256 / 256 % 256 := rfl
  have e2 : (bst (n + 2147483648) (downs 4 4)).1 2 = (n + 2147483648) / 256 % 256 := rfl
  have e3 : (bst (n + 2147483648) (downs 4 4)).1 3 = (n + 2147483648) % 256 := rfl
  have g0 : (n + 2147483648) / 256 / 256 / 256 % 256 = 128 + n / 16777216 := by omega
  have g1 : (n + 2147483648) / 256 / 256 % 256 = n / 65536 % 256 := by omega
  have g2 : (n + 2147483648) / 256 % 256 = n / 256 % 256 := by omega
  have g3 : (n + 2147483648) % 256 = n % 256 := by omega
  rw [e0, g0, e1, g1, e2, g2, e3, g3])
 have HK := Lib.hid hk
 have hkl := hk.lt
 clear hk
 have hmk : ∀ w : World, (Instr.makeSlice 131 (.int .i64 4) (.int .i64 4)).run Tryz.prog w = .ok (.slice (some ⟨w.heap.size, 0, none⟩) 4 4) (w.alloc (.cells #[.int .u8 0, .int .u8 0, .int .u8 0, .int .u8 0] 5)) := fun _ => by kernel_rfl
 have cv := conv4
 refine callsIn_of_wp_marks Tryz.func126 rfl trivial ?_ rfl
 simp only [Tryz.ntmps126, List.size_toArray, List.length_cons, List.length_nil, Nat.reduceAdd, Nat.reduceSub, Array.replicate_succ, Array.replicate_zero, List.push_toArray, List.append_toArray, List.nil_append, List.cons_append]
 gi_wp2_with (first | (refine ⟨trivial, ?_⟩; gi_at_call 149; refine (callsIn_wide.2 (kind_any n _ (HK.out.alloc _))).mono ?_; rintro e w1 ⟨rfl, hb1⟩; rw [E.out]; (first | (refine keepk (w.heap.size) hb1 ?_ ?_; (first | assumption | (focus (simp; omega)) | (focus (simp; done))); intro lk ck fk)); obtain ⟨k0, k1, k2, k3, k4, k5⟩ := (HK.out.alloc _).later hb1) | (refine ⟨trivial, ?_⟩; gi_at_call 150; refine (backward_in Fence.wide _ trivial rfl _ _ _ _).mono ?_; rintro e w' ⟨rfl, rfl⟩))
 have u1 : w.heap.size < w1.heap.size + 1 := by omega
 have u2 : w.heap.size < w1.heap.size + 1 + 1 := by omega
 have u3 : w.heap.size < w1.heap.size + 1 + 1 + 1 := by omega
 refine wpIn_rangeFunc_ownF rfl (by omega) (gf := 166) (lb := #[.pointer (some ⟨w1.heap.size + 1 + 1 + 1, 0, none⟩)]) rfl trivial (enters_of Tryz.func166 (by kernel_rfl) rfl)
  (back_stops Fence.wide _ trivial rfl (by omega) (w1.heap.size + 1 + 1 + 1) (w1.heap.size + 1) 4 (by omega) _ (by go_simp) (fun j hj => by
    match j, hj with
    | 0, _ => exact ⟨0, by go_simp⟩
    | 1, _ => exact ⟨0, by go_simp⟩
    | 2, _ => exact ⟨0, by go_simp⟩
    | 3, _ => exact ⟨0, by go_simp⟩) (by first | (simp; done) | (simp; omega)) (by first | (simp; done) | (simp; omega))) KpB.t KpB.b (Below.refl _ _) (fun _ => rfl)
  (fun pre W => BI w w.heap.size (w1.heap.size + 1) (w1.heap.size + 1 + 1) 4 (n + 2147483648) pre W ∧ Below w.heap.size w W)
  (fun _ _ _ => False)
  (OwnFrom.and (Own.from (BI.own _ _ _ _ _ _) _) (ownFrom_below (Nat.le_refl _) (by simp; omega)))
  (fun _ _ _ _ _ hs _ _ => hs)
  ⟨⟨by show _ = some (Value.int .i64 (n + 2147483648)); go_simp, by go_simp, fun j hj => (by
   match j, hj with
   | 0, _ => show _ = some (Value.int .u8 0); go_simp
   | 1, _ => show _ = some (Value.int .u8 0); go_simp
   | 2, _ => show _ = some (Value.int .u8 0); go_simp
   | 3, _ => show _ = some (Value.int .u8 0); go_simp), fun j hj => (by go_simp), by go_simp⟩, (by exact Since.alloc (Since.alloc (Since.alloc (Since.alloc (Since.set (Since.later (Since.alloc (Since.refl _) _) hb1) (by first | omega | (simp; done) | (simp; omega)) _) _) _) _) _)⟩
  (fun x => { tmps := #[.int .i64 n, .pointer (some ⟨w.heap.size, 0, none⟩), .string ⟨#[]⟩, .int .i64 2, .pointer (some ⟨w1.heap.size, 0, none⟩), .pointer (some ⟨w1.heap.size + 1 + 1, 0, none⟩), .int .i64 x.1.1, .int .i64 n, .int .i64 2, .int .i64 2, .pointer (some ⟨2, 4, none⟩), .agg #[.int .i64 4, .int .i64 1073741824], .int .i64 n, .int .i64 2, .pointer (some ⟨w1.heap.size, 1, none⟩), .int .i64 1073741824, .int .i64 2147483648, .int .i64 (n + 2147483648), .pointer (some ⟨w1.heap.size, 0, none⟩), .int .i64 4, .slice (some ⟨w1.heap.size + 1, 0, none⟩) 4 4, .slice (some ⟨w1.heap.size + 1, 0, none⟩) 4 4, .func (.func 166) #[] #[.pointer (some ⟨w1.heap.size + 1 + 1 + 1, 0, none⟩)], .int .i64 x.1.1, .int .u8 x.1.2, undef, undef, undef, undef, undef, undef, undef, undef, undef], defers := [] }) ?assign ?body ?done ?stop
 case assign =>
  intro l x W K hK
  gi_wp2
  exact hK
 case body =>
  rintro l pre x W ⟨hB, hb⟩ _
  have HB := Lib.hid hB
  obtain ⟨hn, hfn, hr, hfr, hs⟩ := hB
  obtain ⟨p, hp⟩ := Int.eq_ofNat_of_zero_le x.2.1
  have HP := Lib.hid hp
  have hpK : p < 4 := by have := x.2.2; omega
  have cp := hr p hpK
  have fp := hfr p hpK
  obtain ⟨q0, q1⟩ := bst_bounds (m := n + 2147483648) (by omega) (by omega) (pre.map (·.1.1))
  have n1 : w1.heap.size + 1 ≠ w.heap.size := by omega
  have n2 : w1.heap.size + 1 + 1 ≠ w.heap.size := by omega
  rw [hp]
  clear hr hfr hp
  obtain ⟨q, hq⟩ : ∃ q, (bst (n + 2147483648) (pre.map (·.1.1))).2 = q := ⟨_, rfl⟩
  have HQ := Lib.hid hq
  rw [hq] at hn q0 q1
  clear hq
  gi_wp2
  refine ⟨(KeepsOthers.setCell _ _ _).trans (KeepsOthers.setCell _ _ _), KpB.step n1 (by omega) (by omega), ?_, (hb.setCell (by simp; omega) _).setCell (by simp) _⟩
  have hst := HB.out.step HP.out hpK n1 n2 (by omega)
  rw [HQ.out] at hst
  exact hst
 case done =>
  rintro D ys W hD hys ⟨hB, hb⟩ hK
  have HY := Lib.hid (V.out ys hys)
  obtain ⟨hn, hfn, hr, hfr, hs⟩ := hB
  have c0 := hr 0 (by omega); have c1 := hr 1 (by omega); have c2 := hr 2 (by omega); have c3 := hr 3 (by omega)
  clear hr hfr hys
  gi_wp2
  refine ⟨by simp, .inl ⟨_, _, rfl, run_takeDeferred hK, ?_⟩⟩
  exact ⟨_, results_tmp rfl _ _ _, by rw [HY.out]; rfl, hb.trans (belowK_b (w := w) (Nat.le_refl _) W D _ _ (by simp at hD; omega) hK rfl rfl)⟩
 case stop =>
  rintro D c pre W _ _ h _
  exact h.elim
theorem bytes_any (n : Int) (n0 : 0 ≤ n) (n1 : n ≤ 1073741823) (w : World) (hk : KTab w) :
 Calls Tryz.prog 126 #[.int .i64 n] w fun e w' => e = .returned (.string ⟨(vbytes n).toArray⟩) ∧ Below w.heap.size w w' := by
 refine (callsIn_wide (n := 6)).1 ?_
 by_cases a : n < 64
 · exact bytes_k0 n n0 a w hk
 · by_cases b : n < 16384
   · exact bytes_k1 n (by omega) b w hk
   · exact bytes_k2 n (by omega) (by omega) w hk
attribute [local go_sem] Oper.semAt_some
abbrev CX (K : Nat) := { r : Nat // r < K }
abbrev cxV (b off : Nat) (r : Nat) : Value := .slice (some ⟨b, off + 2 * r, none⟩) 2 2
def KpC (gs gn : Nat) (W W' : World) : Prop := (∀ v, W.cell? ⟨gs, 0, none⟩ = some v → W'.cell? ⟨gs, 0, none⟩ = some v) ∧ ∀ v, W.cell? ⟨gn, 0, none⟩ = some v → W'.cell? ⟨gn, 0, none⟩ = some v
theorem KpC.t {gs gn : Nat} {A B C : World} (h : KpC gs gn A B) (k : KpC gs gn B C) : KpC gs gn A C := ⟨fun v x => k.1 v (h.1 v x), fun v x => k.2 v (h.2 v x)⟩
theorem KpC.b {gs gn B : Nat} (W : World) (l : Nat) (o o' : Obj) (_ : B ≤ l) (h : W.heap[l]? = some o) (hc : o.isCells = false) (_ : o.isWalk = false) : KpC gs gn W (W.putObj l o') :=
 ⟨fun v x => cell_kept x (grownBy_putObj' W l o') (fun r e => by cases e; exact ⟨o, h, hc⟩), fun v x => cell_kept x (grownBy_putObj' W l o') (fun r e => by cases e; exact ⟨o, h, hc⟩)⟩
theorem chunk1_in (F : Fence) (n : Nat) (hf : F.fn 155) (hro : F.round = none) (hn : 1 ≤ n) (l gs gn b off K cap : Nat) (hc : 2 * K ≤ cap) (hK : K ≤ 1000) (hm : cap ≤ 9223372036854775807) (J Jx : List (CX K) → World → Prop) (hJd : ∀ pre W, J pre W → J pre W.drew)
 (hY : ∀ pre x W, J pre W → pre.length < K → YieldAt F (n - 1) Tryz.prog l #[cxV b off x.1] W fun e W' =>
   (e = .returned (.bool true) ∧ J (pre ++ [x]) W' ∧ KpC gs gn W W') ∨ (e = .returned (.bool false) ∧ Jx (pre ++ [x]) W'))
 (W : World) (hs : W.cell? ⟨gs, 0, none⟩ = some (.slice (some ⟨b, off, none⟩) (2 * K) cap)) (hg : W.cell? ⟨gn, 0, none⟩ = some (.int .i64 2)) (h0 : J [] W) :
 CallsIn F n Tryz.prog 155 #[.func (.yield l) #[] #[], .pointer (some ⟨gs, 0, none⟩), .pointer (some ⟨gn, 0, none⟩)] W fun e W' => (∃ v, e = .returned v) ∧
  ((∃ ys : List (CX K), ys.map (·.1) = List.range K ∧ J ys W') ∨ (∃ pre : List (CX K), True ∧ Jx pre W')) := by
 have HY := Lib.hid hY
 clear hY
 refine callsIn_of_wp Tryz.func155 rfl hf ?_ hro
 simp only [Tryz.ntmps155, List.size_toArray, List.length_cons, List.length_nil, Nat.reduceAdd, Nat.reduceSub, Array.replicate_succ, Array.replicate_zero, List.push_toArray, List.append_toArray, List.nil_append, List.cons_append]
 gi_wp2
 gi_loopw [4] (fun i wr => ∃ (r : Nat) (pre : List (CX K)), r ≤ K ∧ i = .int .i64 ((2 * r : Nat) : Int) ∧ pre.map (·.1) = List.range r ∧ J pre wr ∧ wr.cell? ⟨gs, 0, none⟩ = some (.slice (some ⟨b, off, none⟩) (2 * K) cap) ∧ wr.cell? ⟨gn, 0, none⟩ = some (.int .i64 2))
  (fun i _ => 2 * K - (intOf i).toNat)
 case atStart => exact ⟨0, [], Nat.zero_le _, rfl, rfl, h0, hs, hg⟩
 case round =>
  obtain ⟨r, pre, hr, rfl, hp, hJ, hsr, hgr⟩ := hrel
  have HP := Lib.hid hp
  clear hp
  by_cases hlt : r < K
  case neg =>
   obtain rfl : r = K := by omega
   have HJ := Lib.hid hJ
   have hf : decide (((2 * r : Nat) : Int) < ((2 * r : Nat) : Int)) = false := by simp
   clear hJ
   gi_wp2
   go_end0
   exact ⟨⟨_, rfl⟩, .inl ⟨pre, HP.out, HJ.out⟩⟩
  have hlen : pre.length = r := by have := congrArg List.length HP.out; simpa using this
  have HR := HY.out pre ⟨r, hlt⟩ wr.drew (hJd _ _ hJ) (by omega)
  have HRR := Lib.hid HR
  clear hJ hlen HR hs hg h0
  obtain ⟨i, hi⟩ : ∃ i, 2 * r = i := ⟨_, rfl⟩
  obtain ⟨N, hN⟩ : ∃ N, 2 * K = N := ⟨_, rfl⟩
  have HI := Lib.hid hi
  have HN := Lib.hid hN
  have h2 : i + 2 ≤ N := by omega
  rw [hN] at hc hsr
  have hlt2 : (i : Int) < (N : Int) := by omega
  have hnc : ¬ cap = i := by omega
  have hle : (i : Int) + 2 ≤ (cap : Int) := by omega
  have hmin : min (2 : Int) ((N - i : Nat) : Int) = 2 := by omega
  have hto : ((i : Int) + 2).toNat = i + 2 := by omega
  have hto2 : i + 2 - i = 2 := by omega
  have hci : i ≤ 1000000000000 := by omega
  rw [hi, hN]
  have HRR' : Hid (YieldAt F (n - 1) Tryz.prog l #[.slice (some ⟨b, off + i, none⟩) 2 2] wr.drew fun e W' =>
   (e = .returned (.bool true) ∧ J (pre ++ [⟨r, hlt⟩]) W' ∧ KpC gs gn wr.drew W') ∨ (e = .returned (.bool false) ∧ Jx (pre ++ [⟨r, hlt⟩]) W')) := Lib.hid (by rw [← hi]; exact HRR.out)
  have HM : Hid (2 * (r + 1) = i + 2) := Lib.hid (by omega)
  clear HRR hi hN hr
  gi_wp2
  gi_region
  all_goals
   obtain ⟨fn, tmps, assign, body, hy, hR⟩ := HRR'.out
   (try dsimp only at hy)
   have HR := Lib.hid hR
   clear hR
   gi_wp2
   refine HR.out.mono ?_
   rintro e W3 (⟨rfl, hJ3, hk3⟩ | ⟨rfl, hJx3⟩)
   · have hs3 := hk3.1 _ hsr
     have hg3 := hk3.2 _ hgr
     have HJ3 := Lib.hid hJ3
     clear hJ3 hk3
     gi_wp2
     go_roundw
     case rel => exact ⟨r + 1, pre ++ [⟨r, hlt⟩], by omega, by rw [HM.out]; go_num, by rw [List.map_append, HP.out, List.range_succ]; rfl, HJ3.out, hs3, hg3⟩
     case measure => have := HN.out; simp [intOf]; omega
   · gi_wp2
     refine bodyPost_ret (results_none rfl _ _ _) rfl ?_
     exact ⟨⟨_, rfl⟩, .inr ⟨_, trivial, hJx3⟩⟩
theorem drew_grown (w : World) : w.grownBy w.drew none := ⟨rfl, rfl, rfl, Nat.le_refl _, fun _ _ _ => rfl⟩
theorem chunk_stops (F : Fence) (n : Nat) (hf : F.fn 155) (hro : F.round = none) (hn : 1 ≤ n) (gs gn b off K cap : Nat) (hc : 2 * K ≤ cap) (hK : K ≤ 1000) (hm : cap ≤ 9223372036854775807) (w : World)
 (hs : w.cell? ⟨gs, 0, none⟩ = some (.slice (some ⟨b, off, none⟩) (2 * K) cap)) (hg : w.cell? ⟨gn, 0, none⟩ = some (.int .i64 2)) (hsl : gs < w.heap.size) (hgl : gn < w.heap.size) :
 SeqStopsK F n Tryz.prog 155 #[.pointer (some ⟨gs, 0, none⟩), .pointer (some ⟨gn, 0, none⟩)] (fun x : CX K => #[cxV b off x.1]) (KpC gs gn) (fun ys => ys.map (·.1) = List.range K) (fun _ => True) K w := fun l J Jx W hW hJ _ hY h0 =>
 chunk1_in F n hf hro hn l gs gn b off K cap hc hK hm J Jx (fun pre W' h => hJ _ _ _ none h (drew_grown W') (fun r e => by cases e)) hY W ((hW.cell (p := ⟨gs, 0, none⟩) hsl).trans hs) ((hW.cell (p := ⟨gn, 0, none⟩) hgl).trans hg) h0
theorem chunk_in (F : Fence) (n : Nat) (hf : F.fn 134) (hro : F.round = none) (a : Option Addr) (len cap : Nat) (w : World) :
 CallsIn F n Tryz.prog 134 #[.slice a len cap, .int .i64 2] w fun e w' => e = .returned (.func (.func 155) #[] #[.pointer (some ⟨w.heap.size, 0, none⟩), .pointer (some ⟨w.heap.size + 1, 0, none⟩)]) ∧ w' = (w.alloc (.cells #[.slice a len cap] 22)).alloc (.cells #[.int .i64 2] 3) := by
 refine callsIn_of_wp Tryz.func134 rfl hf ?_ hro
 simp only [Tryz.ntmps134, List.size_toArray, List.length_cons, List.length_nil, Nat.reduceAdd, Nat.reduceSub, Array.replicate_succ, Array.replicate_zero, List.push_toArray, List.append_toArray, List.nil_append, List.cons_append]
 gi_wp2
 go_ret
 exact ⟨rfl, rfl⟩
end Go.Proofs.YtmfbaijbigodkaaGreatDoor
