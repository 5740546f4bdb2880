/- Contracts and plain laws that the claim leans on, part 9 of 10: each part has its own word. No condition beside theirs. -/
import Derived.Test.YtmfbaijbigodkaaGreatDoorBase
import Derived.Test.YtmfbaijbigodkaaGreatDoorOnly
import Derived.Test.YtmfbaijbigodkaaGreatDoorMay
import Derived.Test.YtmfbaijbigodkaaGreatDoorCredit
import Derived.Test.YtmfbaijbigodkaaGreatDoorVH
import Derived.Maps.OwnSet
import Derived.Maps.OwnOps
import Derived.Deep.RegionHeld3
import Derived.Deep.QuietTactic
import Derived.BigQuiet
import Derived.Deep.RegionLaw
import Derived.RangeFuncOwn
import Derived.RangeFuncBox
import Derived.RangeFuncCalls
import Derived.RangeFuncNested
import Derived.RangeFuncLeaves
import Derived.Shelf.Abstract
import Derived.Shelf.RegionOpen
import Derived.WalkKit
import Derived.OwnWalkIn
import Derived.TacticsInMore
import Derived.LoopNIn
import Derived.LoopIn
import Derived.BigCall
set_option maxHeartbeats 40000000
set_option maxRecDepth 100000
namespace Go.Proofs.YtmfbaijbigodkaaGreatDoor
open Go.ChangeShapes Go.WideShapes Go.ChangeAt Go.RowKit Go.Shelf
set_option linter.unusedVariables false
def wRow (s : ByteArray) : List Value := [.string s]
theorem wRow_one (s : ByteArray) : (wRow s).length = 1 ∧ ∀ u ∈ wRow s, u.oneCell' = true := ⟨rfl, by intro u hu; simp [wRow] at hu; rw [hu]; rfl⟩
theorem Tryz.elWrd : Elem Tryz.prog 24 9 1 16 := ⟨Tryz.underlying24, ⟨.string ⟨#[]⟩, rfl, by kernel_rfl⟩, by decide, by decide⟩
def itas (l : List UInt8) : List ByteArray := l.map fun x => ita (x.toNat : Int)
theorem itas_len (l : List UInt8) : (itas l).length = l.length := by unfold itas; rw [List.length_map]
theorem itas_lists (l : List UInt8) : (itas l).map (·.data.toList) = l.map fun b => Lib.itoa (b.toNat : Int) := by
 unfold itas
 rw [List.map_map]
 apply List.map_congr_left
 intro b _
 show (ita (b.toNat : Int)).data.toList = _
 unfold ita
 simp
theorem lens_few : ∀ (L : List (List UInt8)), (∀ x ∈ L, x.length ≤ 10) → Lib.lens L ≤ 10 * L.length
 | [], _ => Nat.le_refl _
 | x :: r, h => by
   have h1 := h x (by simp)
   have h2 := lens_few r (fun y hy => h y (by simp [hy]))
   unfold Lib.lens at h2 ⊢
   rw [List.map_cons, List.sum_cons, List.length_cons]
   omega
theorem tells_few (l : List UInt8) : (tells l).length ≤ 11 * l.length := by
 unfold tells
 cases l with
 | nil => simp [Lib.join_nil]
 | cons b r =>
   rw [List.map_cons, Lib.join_length]
   have h := lens_few ((b :: r).map fun b => Lib.itoa (b.toNat : Int)) (fun x hx => by
    obtain ⟨c, _, rfl⟩ := List.mem_map.1 hx
    have h1 := ita_size (n := (c.toNat : Int)) (by omega) (by have := c.toNat_lt; omega)
    have h2 : (ita (c.toNat : Int)).size = (Lib.itoa (c.toNat : Int)).length := by show (Lib.itoa (c.toNat : Int)).toArray.size = _; simp
    omega)
   rw [List.map_cons] at h
   simp only [List.length_cons, List.length_map, List.length_nil] at h ⊢
   omega
theorem ptexts (b : ByteArray) (h1 : 1 ≤ b.size) (h2 : b.size ≤ 1000) (w : World) (hP : PTab w) :
  Calls Tryz.prog 163 #[.string b] w fun e w' => e = .returned (.string ⟨(tells b.data.toList).toArray⟩) ∧ Below w.heap.size w w' := by
 have HP := Lib.hid hP
 have hcv := Lib.run_convert_string_bytes (P := Tryz.prog) w 9 131 5 b (u := .string) Tryz.underlying9 Tryz.underlying131 Tryz.underlying5
 have hS1 : Since w (Lib.bytesWorld w 5 b) := Lib.bytesWorld_below _ _ _
 have hB : ∀ j, j < b.size → (Lib.bytesWorld w 5 b).cell? ⟨w.heap.size, j, none⟩ = some (.int .u8 (b.data.toList.getD j 0).toNat) := fun j hj => Lib.bytesWorld_cell w _ _ j hj
 have hlt : w.heap.size < (Lib.bytesWorld w 5 b).heap.size := by rw [Lib.bytesWorld_size]; omega
 obtain ⟨W1, hW1⟩ : ∃ W1, W1 = Lib.bytesWorld w 5 b := ⟨_, rfl⟩
 rw [← hW1] at hcv hS1 hB hlt
 have HB := Lib.hid hB
 have HLN : Hid (b.data.toList.length = b.size) := Lib.hid (by rw [Array.length_toList]; rfl)
 obtain ⟨l, hl⟩ : ∃ l, b.data.toList = l := ⟨_, rfl⟩
 rw [hl] at HB HLN
 rw [hl]
 obtain ⟨n, hn⟩ : ∃ n, b.size = n := ⟨_, rfl⟩
 rw [hn] at HB HLN hcv h1 h2
 clear hW1 hB hP hl hn
 have hnn : (n : Int) ≤ 1000 := by omega
 generalize grownCap w n 0 5 = gc at *
 go_enter Tryz.func163, Tryz.ntmps163
 go_wp2_with fail
 obtain ⟨wo, rfl⟩ : ∃ wo : World, wo = W1 := ⟨_, rfl⟩
 go_loopw [3, 9] (fun s3 s9 wr => ∃ (i : Nat) (A : Option Addr) (c : Nat), s3 = .slice A i c ∧ s9 = .int .i64 i ∧ i ≤ n ∧ Hid (Lst wr 9 1 (.slice A i c) ((itas (l.take i)).map wRow)) ∧ Hid (∀ q, q ∈ blocks (.slice A 0 0) → wo.heap.size ≤ q) ∧ Since wo wr) (fun _ s9 _ => n - (intOf s9).toNat)
 case atStart => exact ⟨0, none, 0, rfl, rfl, Nat.zero_le _, Lib.hid (Lst.nil _ _ _), Lib.hid (by simp [Value.ownBlock]), Since.refl _⟩
 case round =>
  obtain ⟨i, A, c, rfl, rfl, hi, HL, HW, hs⟩ := hrel
  have hsw : Since w wr := hS1.later hs
  by_cases hi2 : i < n
  case neg =>
   obtain rfl : i = n := by omega
   have hf : decide ((i : Int) < (i : Int)) = false := by simp
   have htk : l.take i = l := List.take_of_length_le (by rw [HLN.out]; exact Nat.le_refl _)
   have HL2 : Hid (Lst wr 9 1 (.slice A i c) ((itas l).map wRow)) := Lib.hid (by rw [← htk]; exact HL.out)
   obtain ⟨A2, c2, he, hle, hmx, hA⟩ := HL2.out.shape
   rw [List.length_map, itas_len, HLN.out] at he hle
   injection he with e1 _ e3
   subst e1 e3
   rcases hA with ⟨-, h, -⟩ | ⟨q, rfl⟩
   · exfalso
     have := congrArg List.length h
     rw [List.length_map, itas_len, HLN.out] at this
     simp at this
     omega
   have HJ := Lib.hid (Tryz.strings_Join q 0 c (itas l) ⟨#[32]⟩ wr (fun j x hx => by
    have := HL2.out.cell rfl (i := j) (j := 0) (e := wRow x) (u := .string x) (by rw [List.getElem?_map, hx]; rfl) rfl
    simpa using this) (by
    have := HL2.out.cell rfl (i := 0) (j := 0) (e := wRow ((itas l).getD 0 ByteArray.empty)) (u := .string ((itas l).getD 0 ByteArray.empty)) (by
     rw [List.getElem?_map]
     have : 0 < (itas l).length := by rw [itas_len, HLN.out]; omega
     simp [List.getD, List.getElem?_eq_getElem this]) rfl
    exact World.block_lt_of_cell? wr _ this) (by rw [itas_len, HLN.out]; omega) (by rw [itas_len, HLN.out]; exact hle) (by
    rw [itas_lists]
    have := tells_few l
    rw [HLN.out] at this
    show (tells l).length ≤ _
    omega))
   rw [itas_len, HLN.out] at HJ
   have HT : Hid (Lib.join ((itas l).map (·.data.toList)) (⟨#[32]⟩ : ByteArray).data.toList = tells l) := Lib.hid (by rw [itas_lists]; rfl)
   rw [HT.out] at HJ
   clear htk hle hmx
   go_wp2_with fail
   refine HJ.out.mono ?_
   rintro e w2 ⟨rfl, hb2⟩
   have hs2 : Since w w2 := hsw.later hb2
   go_wp2_with fail
   go_ret
   exact ⟨rfl, hs2⟩
  have hi3 : (i : Int) < (n : Int) := by omega
  have ct : wr.cell? ⟨w.heap.size, i, none⟩ = some (.int .u8 (l.getD i 0).toNat) := hs.cell hlt (HB.out i hi2)
  have hil : i < l.length := by rw [HLN.out]; exact hi2
  have HTK : Hid (itas (l.take (i + 1)) = itas (l.take i) ++ [ita ((l.getD i 0).toNat : Int)]) := Lib.hid (by
   unfold itas
   rw [List.take_succ_eq_append_getElem hil, List.map_append]
   simp [List.getD, List.getElem?_eq_getElem hil])
  have hc0 : (0 : Int) ≤ ((l.getD i 0).toNat : Int) := by omega
  have hc1 : ((l.getD i 0).toNat : Int) ≤ 255 := by have := (l.getD i 0).toNat_lt; omega
  generalize ((l.getD i 0).toNat : Int) = z at *
  have hwr : IntKind.i64.wrap z = z := IntWalk.i64_in (by omega) (by omega)
  have HI := Lib.hid (itoaC z hc0 (by omega) wr (HP.out.later hsw))
  have HML : Hid (((itas (l.take i)).map wRow).length = i) := Lib.hid (by rw [List.length_map, itas_len, List.length_take]; omega)
  clear hil
  generalize ita z = X at *
  go_wp2_with fail
  refine HI.out.mono ?_
  rintro e w1 ⟨rfl, hb1⟩
  have hs1 : Since wo w1 := hs.later hb1
  have HL1 := Lib.hid (HL.out.later hb1)
  clear hb1 HI ct
  go_wp2_with (at_builtin; refine wpList_push rfl _ _ 24 rfl 9 1 16 Tryz.elWrd (.slice A i c) ((itas (l.take i)).map wRow) rfl (HL1.out.alloc _) w1.heap.size 1 [.string X] rfl rfl (wRow_one X).2 (BlockIs.fresh _ _ _) (by rw [HML.out]; omega) ?_; intro q cq w5 hl5 ho5 hq5 hlt5)
  rw [HML.out] at hl5
  have hs5 : Since wo w5 := (hs1.alloc _).out' ho5 (fun k hk => HW.out k (by rw [blocks_any A 0 0 i c]; exact hk))
  have HW5 : Hid (∀ j, j ∈ blocks (.slice (some ⟨q, 0, none⟩) 0 0) → wo.heap.size ≤ j) := Lib.hid (fun j hj => by
   have hj' : q = j := by simpa [Value.ownBlock] using hj
   rcases hq5 with h | h
   · rw [← hj']; exact HW.out q (by rw [blocks_any A 0 0 i c]; exact h)
   · rw [← hj', h]; have := hs1.le; simp; omega)
  have HL5 : Hid (Lst w5 9 1 (.slice (some ⟨q, 0, none⟩) (i + 1) cq) ((itas (l.take (i + 1))).map wRow)) := Lib.hid (by rw [HTK.out, List.map_append]; exact hl5)
  clear hl5 ho5 hq5 hlt5
  go_wp2_with fail
  go_roundw
  case rel => exact ⟨i + 1, some ⟨q, 0, none⟩, cq, by first | rfl | rw [HML.out] | rw [itas_len, List.length_take, Nat.min_eq_left (by rw [HLN.out]; omega)], by go_num, by omega, HL5, HW5, hs5⟩
  case measure => simp [intOf]; omega
theorem Own.leaves {w0 w : World} {S0 : List Nat} {L : List Thing} (h : Own w0 S0 w L) (i : Nat) {t : Thing} (hi : L[i]? = some t) : Leaves w0 w S0 t := by
 obtain ⟨own, ho⟩ := h.has
 obtain ⟨S, h1, h2⟩ := ho i t hi
 exact ⟨S, h1, h.out, fun k hk => (h2 k hk).2⟩
theorem not_empty {X : ByteArray} (h : ¬ X = ⟨#[]⟩) : X.toList.isEmpty = false := by
 rw [Lib.toList_data]
 cases hl : X.data.toList with
 | nil =>
   exfalso
   apply h
   apply ByteArray.ext
   exact Array.toList_inj.1 hl
 | cons _ _ => rfl
theorem pread (g : Nat) (s : TkS) (who n : Int) (w : World) (S : List Nat) (h : (talkT g s).is w S) :
  Calls Tryz.prog 161 #[.agg #[.pointer (some ⟨g, 0, none⟩)], .int .i64 who, .int .i64 n] w fun e w' => e = .returned (.tuple #[.string (if s.readS who n = ⟨#[]⟩ then bDash else s.readS who n), errV (TkS.readE who n)]) ∧ Leaves w w' S (talkT g (s.read who n)) := by
 have HO := Lib.hid ((Own.opened h).alloc 129 #[.pointer (some ⟨g, 0, none⟩)])
 obtain ⟨E, hE⟩ : ∃ E, (if s.readS who n = ⟨#[]⟩ then bDash else s.readS who n) = E := ⟨_, rfl⟩
 rw [hE]
 have HE := Lib.hid hE
 obtain ⟨S1, hS1, up⟩ := HO.out.at_ 0 rfl
 have HR := Lib.hid (tread g s who n _ S1 hS1)
 have HU := Lib.hid up
 clear h hE hS1 up
 generalize s.readS who n = X at *
 generalize TkS.readE who n = e0 at *
 go_enter Tryz.func161, Tryz.ntmps161
 go_wp2_with fail
 refine HR.out.mono ?_
 rintro e w1 ⟨rfl, hl⟩
 have HO1 := Lib.hid (HU.out _ _ hl)
 clear hl
 by_cases hx : X = ⟨#[]⟩
 · have hq : E = ⟨#[45]⟩ := by rw [← HE.out, if_pos hx]; rfl
   subst hx hq
   go_wp2_with fail
   go_ret2
   exact ⟨rfl, HO1.out.leaves 0 rfl⟩
 · have hq : E = X := by rw [← HE.out, if_neg hx]
   have hx2 : X.toList.isEmpty = false := not_empty hx
   subst hq
   clear hx
   go_wp2_with fail
   go_ret2
   exact ⟨rfl, HO1.out.leaves 0 rfl⟩
end Go.Proofs.YtmfbaijbigodkaaGreatDoor
namespace Go.Proofs.YtmfbaijbigodkaaGreatDoor
open Go.ChangeShapes Go.WideShapes Go.ChangeAt Go.RowKit
open Go.Maps (Keyed)
set_option linter.unusedVariables false
def anyElem (v : Value) : Option (DataW Value × List MemPlace) := some (.held v, [])
def MapS (w : World) (P : Program) (K : TypeId) (b : Nat) (f : List UInt8 → Option Value) (n : Nat) : Prop :=
 ∃ D : DataW Value, w.ownsMap P K anyElem b n D ∧ Maps.size D = n ∧ (∀ k : List UInt8, Maps.has D (.string k) = (f k).isSome) ∧ ∀ (k : List UInt8) v, f k = some v → ∀ z, D.atKey (.string k) z = .held v
variable {P : Program} {K : TypeId} {w w1 : World} {b n : Nat} {f : List UInt8 → Option Value}
theorem ownsMap_exact {D : DataW Value} (h : w.ownsMap P K anyElem b n D) : w.ownsMap P K anyElem b (Maps.size D) D := by
 obtain ⟨es, clock, hb, F, hs, rfl⟩ := h
 exact ⟨es, clock, hb, F, by simp [Maps.size, length_sorted], rfl⟩
theorem MapS.made (w : World) (P : Program) (K : TypeId) : MapS (w.alloc (.map #[] 0)) P K w.heap.size (fun _ => none) 0 :=
 ⟨.map [], World.ownsMap_made w P K anyElem, rfl, fun _ => rfl, fun _ _ h => by cases h⟩
theorem keyS (hK : P.underlying K = some .string) {k : List UInt8} (hw : k.length ≤ maxLen) : keyOf P K (.string ⟨k.toArray⟩) = some (.string k) := by
 have e : (⟨k.toArray⟩ : ByteArray).size = k.length := by show k.toArray.size = _; simp
 simp [keyOf, hK, mapKey, e, hw]
theorem MapS.look (h : MapS w P K b f n) (hK : P.underlying K = some .string) {T E : TypeId} (hT : P.underlying T = some (.map K E)) {z : Value} (hz : (zeroValue E).run P w = .ok z w) {k : List UInt8} (hw : k.length ≤ maxLen) {r : Option Value} (hr : f k = r) :
  (Instr.lookup T (.map (some b)) (.string ⟨k.toArray⟩) true).run P w = .ok (.tuple #[r.getD z, .bool r.isSome]) w := by
 subst hr
 obtain ⟨D, ho, _, hh, ha⟩ := h
 obtain ⟨v, ps, hrun, hv⟩ := ho.look_ok (Maps.string_keyed hK) hT hz (zd := .held z) (zp := []) rfl (keyS hK hw)
 rw [hrun, hh k]
 have hv' : (DataW.held v : DataW Value) = D.atKey (.string k) (.held z) := by
  unfold anyElem at hv
  simp only [Option.some.injEq, Prod.mk.injEq] at hv
  exact hv.1
 cases hf : f k with
 | none =>
   have hno : Maps.has D (.string k) = false := by rw [hh k, hf]; rfl
   rw [Maps.atKey_of_not_has hno] at hv'
   injection hv' with hv'
   rw [hv']
   rfl
 | some u =>
   rw [ha k u hf] at hv'
   injection hv' with hv'
   rw [hv']
   rfl
def putS (f : List UInt8 → Option Value) (k : List UInt8) (v : Value) (j : List UInt8) : Option Value := if j = k then some v else f j
theorem MapS.store (h : MapS w P K b f n) (hK : P.underlying K = some .string) {T E : TypeId} (hT : P.underlying T = some (.map K E)) (hn : n < maxLen) {k : List UInt8} (hw : k.length ≤ maxLen) (v : Value) :
  ∃ w', (Instr.mapUpdate T (.map (some b)) (.string ⟨k.toArray⟩) v).run P w = .ok () w' ∧ MapS w' P K b (putS f k v) (if (f k).isSome then n else n + 1) ∧ w.mapTurned w' b := by
 obtain ⟨D, ho, hs, hh, ha⟩ := h
 obtain ⟨w', hrun, ho', ht⟩ := ho.store (Maps.string_keyed hK) hT hn (keyS hK hw) (show anyElem v = some (.held v, []) from rfl)
 have hm := ho.isMap
 have hsz : Maps.size (D.put (.string k) (.held v)) = if (f k).isSome then n else n + 1 := by
  rw [Maps.size_put (ho.tidy (Maps.string_keyed hK)), hh k, hs]
 refine ⟨w', hrun, ⟨D.put (.string k) (.held v), by rw [← hsz]; exact ownsMap_exact ho', hsz, fun j => ?_, fun j u hj z => ?_⟩, ht⟩
 · unfold putS
   split
   · rename_i e
     subst e
     rw [Maps.has_put_same hm (show WideAt.IsKeyLit (.string j) from trivial)]
     rfl
   · rename_i e
     rw [Maps.has_put_other (by intro h; injection h with h; exact e h), hh j]
 · unfold putS at hj
   split at hj
   · rename_i e
     subst e
     injection hj with hj
     rw [Maps.atKey_put_same hm (show WideAt.IsKeyLit (.string j) from trivial), hj]
   · rename_i e
     rw [Maps.atKey_put_other (by intro h; injection h with h; exact e h)]
     exact ha j u hj z
theorem turned_only {w w' : World} {b : Nat} (h : w.mapTurned w' b) : Only w w' b := h.grown
/-! at the operation, for the walk -/
section
variable {ops : Array Oper} {rest : List Oper} {o : Oper} {a : Act} {Q : Exit → Act → World → Prop}
theorem wpList_look_S (w : World) (hg : o.guard = none) (m x : Operand) (T : TypeId) (hop : o.op = Op.lookup T m x true)
  (K E : TypeId) (hK : P.underlying K = some .string) (hT : P.underlying T = some (.map K E)) {z : Value} (hz : (zeroValue E).run P w = .ok z w) (b n : Nat) (f : List UInt8 → Option Value)
  (hm : a.eval m = .map (some b)) (hown : MapS w P K b f n) (k : List UInt8) (hx : a.eval x = .string ⟨k.toArray⟩) (hw : k.length ≤ maxLen) (r : Option Value) (hr : f k = r)
  (hk : wpList P ops Q rest (a.put o.dst (.tuple #[r.getD z, .bool r.isSome])) w) : wpList P ops Q (o :: rest) a w := by
 refine wpList_plain hg fun K' hK' => ?_
 have hrun := hown.look hK hT hz hw hr
 unfold Oper.wp
 simp [execOp, hop, hm, hx, hrun, Result.andThen]
 exact hK' _ _ hk
theorem wpList_insert_S (w : World) (hg : o.guard = none) (m x v : Operand) (T : TypeId) (hop : o.op = Op.insert T m x v)
  (K E : TypeId) (hK : P.underlying K = some .string) (hT : P.underlying T = some (.map K E)) (b n : Nat) (f : List UInt8 → Option Value)
  (hm : a.eval m = .map (some b)) (hown : MapS w P K b f n) (hn : n < maxLen) (k : List UInt8) (val : Value) (hx : a.eval x = .string ⟨k.toArray⟩) (hv : a.eval v = val) (hw : k.length ≤ maxLen)
  (hk : ∀ w', MapS w' P K b (putS f k val) (if (f k).isSome then n else n + 1) → w.mapTurned w' b → wpList P ops Q rest (a.put o.dst undef) w') : wpList P ops Q (o :: rest) a w := by
 refine wpList_plain hg fun K' hK' => ?_
 obtain ⟨w', hrun, r1, r2⟩ := hown.store hK hT hn hw val
 unfold Oper.wp
 simp [execOp, hop, hm, hx, hv, hrun, Result.andThen]
 exact hK' _ _ (hk w' r1 r2)
end
end Go.Proofs.YtmfbaijbigodkaaGreatDoor
namespace Go.Proofs.YtmfbaijbigodkaaGreatDoor
open Go.ChangeShapes Go.WideShapes Go.ChangeAt Go.RowKit
set_option linter.unusedVariables false
theorem Tryz.wantMap : Tryz.prog.underlying 209 = some (.map 9 3) := Tryz.underlying209
def wantF (x : List UInt8) : Option Value := (manyOf x).map fun (m : Nat) => .int .i64 m
theorem nd (x : List UInt8) (v : Option Value) : (if x = wNeed then some (Value.int .i64 2) else if x = wVarint then some (.int .i64 1) else if x = wCount then some (.int .i64 0) else if x = wRead then some (.int .i64 2) else if x = wTwice then some (.int .i64 1) else if x = wLose then some (.int .i64 1) else if x = wCome then some (.int .i64 1) else if x = wSend then some (.int .i64 1) else if x = wWrite then some (.int .i64 1) else none) = wantF x := by
 unfold wantF manyOf
 by_cases h1 : x = wWrite
 · subst h1; rfl
 by_cases h2 : x = wSend
 · subst h2; rfl
 by_cases h3 : x = wCome
 · subst h3; rfl
 by_cases h4 : x = wLose
 · subst h4; rfl
 by_cases h5 : x = wTwice
 · subst h5; rfl
 by_cases h6 : x = wRead
 · subst h6; rfl
 by_cases h7 : x = wCount
 · subst h7; rfl
 by_cases h8 : x = wVarint
 · subst h8; rfl
 by_cases h9 : x = wNeed
 · subst h9; rfl
 simp [h1, h2, h3, h4, h5, h6, h7, h8, h9]
theorem pwants (w : World) : Calls Tryz.prog 142 #[] w fun e w' => ∃ b, e = .returned (.map (some b)) ∧ MapS w' Tryz.prog 9 b wantF 9 ∧ Since w w' := by
 have hmm := @run_makeMap Tryz.prog
 have M0 := Lib.hid (MapS.made w Tryz.prog 9)
 go_enter Tryz.func142, Tryz.ntmps142
 have N0 : 0 < maxLen := by unfold maxLen; omega
 have N1 : 1 < maxLen := by unfold maxLen; omega
 have N2 : 2 < maxLen := by unfold maxLen; omega
 have N3 : 3 < maxLen := by unfold maxLen; omega
 have N4 : 4 < maxLen := by unfold maxLen; omega
 have N5 : 5 < maxLen := by unfold maxLen; omega
 have N6 : 6 < maxLen := by unfold maxLen; omega
 have N7 : 7 < maxLen := by unfold maxLen; omega
 have N8 : 8 < maxLen := by unfold maxLen; omega
 go_wp2_with (first
  | (refine wpList_insert_S _ rfl _ _ _ 209 rfl 9 3 Tryz.underlying9 Tryz.wantMap w.heap.size 0 _ rfl M0.out N0 wWrite (.int .i64 1) rfl rfl (by decide) ?_; intro w1 h1 t1; have M1 : Hid (MapS w1 Tryz.prog 9 w.heap.size (putS (fun _ => none) wWrite (.int .i64 1)) 1) := Lib.hid h1; have O1 := turned_only t1; clear h1 t1)
  | (refine wpList_insert_S _ rfl _ _ _ 209 rfl 9 3 Tryz.underlying9 Tryz.wantMap w.heap.size 1 _ rfl M1.out N1 wSend (.int .i64 1) rfl rfl (by decide) ?_; intro w2 h2 t2; have M2 : Hid (MapS w2 Tryz.prog 9 w.heap.size (putS (putS (fun _ => none) wWrite (.int .i64 1)) wSend (.int .i64 1)) 2) := Lib.hid h2; have O2 := turned_only t2; clear h2 t2)
  | (refine wpList_insert_S _ rfl _ _ _ 209 rfl 9 3 Tryz.underlying9 Tryz.wantMap w.heap.size 2 _ rfl M2.out N2 wCome (.int .i64 1) rfl rfl (by decide) ?_; intro w3 h3 t3; have M3 : Hid (MapS w3 Tryz.prog 9 w.heap.size (putS (putS (putS (fun _ => none) wWrite (.int .i64 1)) wSend (.int .i64 1)) wCome (.int .i64 1)) 3) := Lib.hid h3; have O3 := turned_only t3; clear h3 t3)
  | (refine wpList_insert_S _ rfl _ _ _ 209 rfl 9 3 Tryz.underlying9 Tryz.wantMap w.heap.size 3 _ rfl M3.out N3 wLose (.int .i64 1) rfl rfl (by decide) ?_; intro w4 h4 t4; have M4 : Hid (MapS w4 Tryz.prog 9 w.heap.size (putS (putS (putS (putS (fun _ => none) wWrite (.int .i64 1)) wSend (.int .i64 1)) wCome (.int .i64 1)) wLose (.int .i64 1)) 4) := Lib.hid h4; have O4 := turned_only t4; clear h4 t4)
  | (refine wpList_insert_S _ rfl _ _ _ 209 rfl 9 3 Tryz.underlying9 Tryz.wantMap w.heap.size 4 _ rfl M4.out N4 wTwice (.int .i64 1) rfl rfl (by decide) ?_; intro w5 h5 t5; have M5 : Hid (MapS w5 Tryz.prog 9 w.heap.size (putS (putS (putS (putS (putS (fun _ => none) wWrite (.int .i64 1)) wSend (.int .i64 1)) wCome (.int .i64 1)) wLose (.int .i64 1)) wTwice (.int .i64 1)) 5) := Lib.hid h5; have O5 := turned_only t5; clear h5 t5)
  | (refine wpList_insert_S _ rfl _ _ _ 209 rfl 9 3 Tryz.underlying9 Tryz.wantMap w.heap.size 5 _ rfl M5.out N5 wRead (.int .i64 2) rfl rfl (by decide) ?_; intro w6 h6 t6; have M6 : Hid (MapS w6 Tryz.prog 9 w.heap.size (putS (putS (putS (putS (putS (putS (fun _ => none) wWrite (.int .i64 1)) wSend (.int .i64 1)) wCome (.int .i64 1)) wLose (.int .i64 1)) wTwice (.int .i64 1)) wRead (.int .i64 2)) 6) := Lib.hid h6; have O6 := turned_only t6; clear h6 t6)
  | (refine wpList_insert_S _ rfl _ _ _ 209 rfl 9 3 Tryz.underlying9 Tryz.wantMap w.heap.size 6 _ rfl M6.out N6 wCount (.int .i64 0) rfl rfl (by decide) ?_; intro w7 h7 t7; have M7 : Hid (MapS w7 Tryz.prog 9 w.heap.size (putS (putS (putS (putS (putS (putS (putS (fun _ => none) wWrite (.int .i64 1)) wSend (.int .i64 1)) wCome (.int .i64 1)) wLose (.int .i64 1)) wTwice (.int .i64 1)) wRead (.int .i64 2)) wCount (.int .i64 0)) 7) := Lib.hid h7; have O7 := turned_only t7; clear h7 t7)
  | (refine wpList_insert_S _ rfl _ _ _ 209 rfl 9 3 Tryz.underlying9 Tryz.wantMap w.heap.size 7 _ rfl M7.out N7 wVarint (.int .i64 1) rfl rfl (by decide) ?_; intro w8 h8 t8; have M8 : Hid (MapS w8 Tryz.prog 9 w.heap.size (putS (putS (putS (putS (putS (putS (putS (putS (fun _ => none) wWrite (.int .i64 1)) wSend (.int .i64 1)) wCome (.int .i64 1)) wLose (.int .i64 1)) wTwice (.int .i64 1)) wRead (.int .i64 2)) wCount (.int .i64 0)) wVarint (.int .i64 1)) 8) := Lib.hid h8; have O8 := turned_only t8; clear h8 t8)
  | (refine wpList_insert_S _ rfl _ _ _ 209 rfl 9 3 Tryz.underlying9 Tryz.wantMap w.heap.size 8 _ rfl M8.out N8 wNeed (.int .i64 2) rfl rfl (by decide) ?_; intro w9 h9 t9; have M9 : Hid (MapS w9 Tryz.prog 9 w.heap.size (putS (putS (putS (putS (putS (putS (putS (putS (putS (fun _ => none) wWrite (.int .i64 1)) wSend (.int .i64 1)) wCome (.int .i64 1)) wLose (.int .i64 1)) wTwice (.int .i64 1)) wRead (.int .i64 2)) wCount (.int .i64 0)) wVarint (.int .i64 1)) wNeed (.int .i64 2)) 9) := Lib.hid h9; have O9 := turned_only t9; clear h9 t9))
 go_ret
 refine ⟨w.heap.size, rfl, ?_, (by exact Since.only (Since.only (Since.only (Since.only (Since.only (Since.only (Since.only (Since.only (Since.only (Since.alloc (Since.refl _) _) O1 (by first | omega | (simp; done) | (simp; omega))) O2 (by first | omega | (simp; done) | (simp; omega))) O3 (by first | omega | (simp; done) | (simp; omega))) O4 (by first | omega | (simp; done) | (simp; omega))) O5 (by first | omega | (simp; done) | (simp; omega))) O6 (by first | omega | (simp; done) | (simp; omega))) O7 (by first | omega | (simp; done) | (simp; omega))) O8 (by first | omega | (simp; done) | (simp; omega))) O9 (by first | omega | (simp; done) | (simp; omega)))⟩
 have e : (putS (putS (putS (putS (putS (putS (putS (putS (putS (fun _ => none) wWrite (.int .i64 1)) wSend (.int .i64 1)) wCome (.int .i64 1)) wLose (.int .i64 1)) wTwice (.int .i64 1)) wRead (.int .i64 2)) wCount (.int .i64 0)) wVarint (.int .i64 1)) wNeed (.int .i64 2)) = wantF := funext fun x => nd x none
 rw [← e]
 exact M9.out
end Go.Proofs.YtmfbaijbigodkaaGreatDoor
namespace Go.Proofs.YtmfbaijbigodkaaGreatDoor
open Go.ChangeShapes Go.WideShapes Go.ChangeAt Go.RowKit Go.Extern.Stop Go.Stop Go.Extern
set_option linter.unusedVariables false
theorem Tryz.bdValueOf (t : Addr) (w : World) : (ReflectliteValue.unpack (.iface 176 (.pointer (some t)))).run Tryz.prog w
 = .ok (.agg #[.pointer (some ⟨12, 176, none⟩), .pointer (some ⟨w.heap.size, 0, none⟩), .int .u64 150]) (w.alloc (.cells #[.pointer (some t)] 176)) := by kernel_rfl
theorem Tryz.bdType (a : Addr) (w : World) : (ReflectliteValue.methodAny (ReflectliteValue.valueError "reflectlite.Value.Type" 0) (fun t _ _ _ => ReflectliteType.toType t) #[.agg #[.pointer (some ⟨12, 176, none⟩), .pointer (some a), .int .u64 150]]).run Tryz.prog w
 = .ok (.iface 216 (.agg #[.pointer (some ⟨12, 176, none⟩)])) w := by kernel_rfl
theorem Tryz.bdKindP (w : World) : ((ReflectliteType.abiMethod fun t => (fun a : Nat => Value.int IntKind.u8 (a : Int)) <$> Rtype.kind t) #[.pointer (some ⟨12, 176, none⟩)]).run Tryz.prog w = .ok (.int .u8 22) w := by kernel_rfl
theorem Tryz.bdKindE (w : World) : ((ReflectliteType.abiMethod fun t => (fun a : Nat => Value.int IntKind.u8 (a : Int)) <$> Rtype.kind t) #[.pointer (some ⟨12, 175, none⟩)]).run Tryz.prog w = .ok (.int .u8 25) w := by kernel_rfl
theorem Tryz.bdPartsP (a : Addr) (w : World) : (ReflectliteValue.parts (.agg #[.pointer (some ⟨12, 176, none⟩), .pointer (some a), .int .u64 150])).run Tryz.prog w = .ok (some (176, a, 150)) w := by kernel_rfl
theorem Tryz.bdIsNil (a p : Addr) (W : World) (ha : W.cell? a = some (.pointer (some p))) :
  (ReflectliteValue.method (ReflectliteValue.valueError "reflectlite.Value.IsNil" 0) ReflectliteValue.isNil #[.agg #[.pointer (some ⟨12, 176, none⟩), .pointer (some a), .int .u64 150]]).run Tryz.prog W = .ok (.bool false) W := by
 rw [as_rlm]
 simp only [Sem.run_bind, Tryz.bdPartsP, Result.andThen]
 simp [ReflectliteValue.isNil, loadVar, isAgg, underlying, Tryz.underlying176, ha, Result.andThen]
theorem Tryz.bdElem (w : World) : (ReflectliteType.method ReflectliteType.elem #[.agg #[.pointer (some ⟨12, 176, none⟩)]]).run Tryz.prog w = .ok (.iface 216 (.agg #[.pointer (some ⟨12, 175, none⟩)])) w := by kernel_rfl
theorem Tryz.bdImplements (w : World) : (ReflectliteType.relation "Implements" ReflectliteType.implements_ #[.agg #[.pointer (some ⟨12, 175, none⟩)], .iface 216 (.agg #[.pointer (some ⟨12, 27, none⟩)])]).run Tryz.prog w = .ok (.bool true) w := by kernel_rfl
theorem Tryz.bdTypeOf (v : Value) (w : World) : (ReflectliteType.typeOf #[.iface 175 v]).run Tryz.prog w = .ok (.iface 216 (.agg #[.pointer (some ⟨12, 175, none⟩)])) w := by kernel_rfl
theorem Tryz.bdAssignable (w : World) : (ReflectliteType.relation "AssignableTo" ReflectliteType.assignableTo #[.agg #[.pointer (some ⟨12, 175, none⟩)], .iface 216 (.agg #[.pointer (some ⟨12, 175, none⟩)])]).run Tryz.prog w = .ok (.bool true) w := by kernel_rfl
theorem Tryz.bdNotAssignable (w : World) : (ReflectliteType.relation "AssignableTo" ReflectliteType.assignableTo #[.agg #[.pointer (some ⟨12, 84, none⟩)], .iface 216 (.agg #[.pointer (some ⟨12, 175, none⟩)])]).run Tryz.prog w = .ok (.bool false) w := by kernel_rfl
theorem Tryz.bdValueE (w : World) : (ReflectliteValue.unpack (.iface 175 (.agg #[.iface 84 (.int .i64 2)]))).run Tryz.prog w
 = .ok (.agg #[.pointer (some ⟨12, 175, none⟩), .pointer (some ⟨w.heap.size, 0, none⟩), .int .u64 153]) (w.alloc (.cells #[.iface 84 (.int .i64 2)] 175)) := by kernel_rfl
theorem Tryz.bdElemOf (w : World) : (Rtype.elem? 176).run Tryz.prog w = .ok (some 175) w := by kernel_rfl
theorem Tryz.bdMkE (p : Addr) (w : World) : (ReflectliteValue.mk 175 p ReflectliteValue.flagAddr).run Tryz.prog w = .ok (.agg #[.pointer (some ⟨12, 175, none⟩), .pointer (some p), .int .u64 409]) w := by kernel_rfl
theorem Tryz.bdElemV (a p : Addr) (W : World) (ha : W.cell? a = some (.pointer (some p))) :
  (ReflectliteValue.method (ReflectliteValue.valueError "reflectlite.Value.Elem" 0) ReflectliteValue.elem #[.agg #[.pointer (some ⟨12, 176, none⟩), .pointer (some a), .int .u64 150]]).run Tryz.prog W
    = .ok (.agg #[.pointer (some ⟨12, 175, none⟩), .pointer (some p), .int .u64 409]) W := by
 rw [as_rlm]
 simp only [Sem.run_bind, Tryz.bdPartsP, Result.andThen]
 simp [ReflectliteValue.elem, loadVar, isAgg, underlying, Tryz.underlying176, ha, Result.andThen, Tryz.bdElemOf, Tryz.bdMkE]
theorem Tryz.bdPartsEa (a : Addr) (w : World) : (ReflectliteValue.parts (.agg #[.pointer (some ⟨12, 175, none⟩), .pointer (some a), .int .u64 409])).run Tryz.prog w = .ok (some (175, a, 409)) w := by kernel_rfl
theorem Tryz.bdPartsE (a : Addr) (w : World) : (ReflectliteValue.parts (.agg #[.pointer (some ⟨12, 175, none⟩), .pointer (some a), .int .u64 153])).run Tryz.prog w = .ok (some (175, a, 153)) w := by kernel_rfl
theorem Tryz.bdDirect (w : World) : (Rtype.directlyAssignable 175 175).run Tryz.prog w = .ok true w := by kernel_rfl
theorem Tryz.bdLoad (b : Addr) (W : World) (v : Value) (hb : W.cell? b = some v) : (loadVar 175 b).run Tryz.prog W = .ok (.agg #[v]) W := by
 obtain ⟨g, o, q⟩ := b
 have hs : (sizeOf 175).run Tryz.prog W = .ok 1 W := by kernel_rfl
 have ha : (isAgg 175).run Tryz.prog W = .ok true W := by kernel_rfl
 unfold loadVar
 simp [ha, hs, Result.andThen, loadCells, loadCellsFrom, Addr.add, hb]
theorem Tryz.bdSet (ta b : Addr) (n old : Value) (hn : n = .iface 84 (.int .i64 2)) (W : World) (hb : W.cell? b = some n) (ht : W.cell? ta = some old) (hf : W.frozen? ta = false) :
  (ReflectliteValue.set #[.agg #[.pointer (some ⟨12, 175, none⟩), .pointer (some ta), .int .u64 409], .agg #[.pointer (some ⟨12, 175, none⟩), .pointer (some b), .int .u64 153]]).run Tryz.prog W
    = .ok (.tuple #[]) (W.setCell ta n) := by
 rw [as_rls]
 simp only [Sem.run_bind, Tryz.bdPartsEa, Tryz.bdPartsE, Result.andThen]
 simp [ReflectliteValue.flagAddr, Tryz.bdLoad _ _ _ hb, Result.andThen, Tryz.bdDirect, storeVar, Value.cells, storeCells, Addr.add, hn]
 rw [run_store Tryz.prog W ta _ _ (by rfl)]
 simp [ht, hf]
theorem Tryz.noAs (v : Value) (xT : TypeId) (w : World) : (Instr.typeAssert (.iface 84 v) xT 221 true).run Tryz.prog w = .ok (.tuple #[.nilIface, .bool false]) w := run_typeAssert_lacksB Tryz.underlying221 (by kernel_rfl) (by kernel_rfl) v xT w
theorem Tryz.noUnwrap (v : Value) (xT : TypeId) (w : World) : (Instr.typeAssert (.iface 84 v) xT 224 true).run Tryz.prog w = .ok (.tuple #[.nilIface, .bool false]) w := run_typeAssert_lacksB Tryz.underlying224 (by kernel_rfl) (by kernel_rfl) v xT w
theorem Tryz.noUnwraps (v : Value) (xT : TypeId) (w : World) : (Instr.typeAssert (.iface 84 v) xT 226 true).run Tryz.prog w = .ok (.tuple #[.nilIface, .bool false]) w := run_typeAssert_lacksB Tryz.underlying226 (by kernel_rfl) (by kernel_rfl) v xT w
theorem asb_miss (n : Int) (t : Addr) (w : World) (hg : ETok w) :
  Calls Tryz.prog 85 #[.iface 84 (.int .i64 n), .iface 176 (.pointer (some t))] w fun ev w' => ev = .returned (.bool false) ∧ Below w.heap.size w w' := by
 have h6 := @run_callFunc_extern Tryz.prog 118 _ (fun args => ReflectliteValue.unpack (args.getD 0 (.tuple #[]))) Tryz.func118 (by kernel_rfl) (by kernel_rfl) (by kernel_rfl) (by kernel_rfl)
 have h7 := @run_callFunc_extern Tryz.prog 119 _ (ReflectliteValue.methodAny (ReflectliteValue.valueError "reflectlite.Value.Type" 0) (fun t _ _ _ => ReflectliteType.toType t)) Tryz.func119 (by kernel_rfl) (by kernel_rfl) (by kernel_rfl) (by kernel_rfl)
 have h8 := @run_callFunc_extern Tryz.prog 120 _ (ReflectliteValue.method (ReflectliteValue.valueError "reflectlite.Value.IsNil" 0) ReflectliteValue.isNil) Tryz.func120 (by kernel_rfl) (by kernel_rfl) (by kernel_rfl) (by kernel_rfl)
 have h27 := @run_callFunc_extern Tryz.prog 240 _ (ReflectliteType.abiMethod fun t => do pure (.int .u8 (← Rtype.kind t))) Tryz.func240 (by kernel_rfl) (by kernel_rfl) (by kernel_rfl) (by kernel_rfl)
 have h37 := @run_callFunc_extern Tryz.prog 251 _ (ReflectliteType.method ReflectliteType.elem) Tryz.func251 (by kernel_rfl) (by kernel_rfl) (by kernel_rfl) (by kernel_rfl)
 have h38 := @run_callFunc_extern Tryz.prog 252 _ (ReflectliteType.relation "Implements" ReflectliteType.implements_) Tryz.func252 (by kernel_rfl) (by kernel_rfl) (by kernel_rfl) (by kernel_rfl)
 have h10 := @run_callFunc_extern Tryz.prog 146 _ ReflectliteType.typeOf Tryz.func146 (by kernel_rfl) (by kernel_rfl) (by kernel_rfl) (by kernel_rfl)
 have h35 := @run_callFunc_extern Tryz.prog 249 _ (ReflectliteType.relation "AssignableTo" ReflectliteType.assignableTo) Tryz.func249 (by kernel_rfl) (by kernel_rfl) (by kernel_rfl) (by kernel_rfl)
 have h11 := @run_callFunc_extern Tryz.prog 147 _ (ReflectliteValue.method (ReflectliteValue.valueError "reflectlite.Value.Elem" 0) ReflectliteValue.elem) Tryz.func147 (by kernel_rfl) (by kernel_rfl) (by kernel_rfl) (by kernel_rfl)
 have h12 := @run_callFunc_extern Tryz.prog 148 _ ReflectliteValue.set Tryz.func148 (by kernel_rfl) (by kernel_rfl) (by kernel_rfl) (by kernel_rfl)
 have f6 := Tryz.bdValueOf
 have f7 := Tryz.bdType
 have mK := Tryz.asMethodKind
 have mE := Tryz.asMethodElem
 have mI := Tryz.asMethodImplements
 have mA := Tryz.asMethodAssignableTo
 have k27 := Tryz.bdKindP
 have k25 := Tryz.bdKindE
 have e27 := Tryz.bdElem
 have i25 := Tryz.bdImplements
 have n8 := Tryz.bdIsNil ⟨w.heap.size, 0, none⟩ t ((w.alloc (.cells #[.pointer (some t)] 176)).alloc (.cells #[.pointer (some ⟨12, 176, none⟩), .pointer (some ⟨w.heap.size, 0, none⟩), .int .u64 150] 181)) (by simp)
 have hg2 : ((w.alloc (.cells #[.pointer (some t)] 176)).alloc (.cells #[.pointer (some ⟨12, 176, none⟩), .pointer (some ⟨w.heap.size, 0, none⟩), .int .u64 150] 181)).cell? ⟨0, 0, none⟩ = some (.iface 216 (.agg #[.pointer (some ⟨12, 27, none⟩)])) :=
  (hg.alloc _).alloc _
 have tO := Tryz.asTypeOf
 have a25 := Tryz.bdNotAssignable
 have na := Tryz.noAs
 have nu := Tryz.noUnwrap
 have nv := Tryz.noUnwraps
 clear hg
 go_enter Tryz.func85, Tryz.ntmps85
 go_wp2
 refine wp_loop_rounds 1 ?_
 rw [rounds_succ]
 go_wp2
 go_ret
 refine ⟨rfl, ?_⟩
 repeat (first | exact Below.refl _ _ | refine Below.alloc ?_ (by simp; omega) _ | refine Below.alloc ?_ (by simp) _)
theorem asb_hit (t : Addr) (old : Value) (w : World) (hg : ETok w) (ht0 : w.cell? t = some old) (hf0 : w.frozen? t = false) :
  Calls Tryz.prog 85 #[.iface 175 (.agg #[.iface 84 (.int .i64 2)]), .iface 176 (.pointer (some t))] w fun ev w' => ev = .returned (.bool true) ∧ w' = ((((w.alloc (.cells #[.pointer (some t)] 176)).alloc (.cells #[.pointer (some ⟨12, 176, none⟩), .pointer (some ⟨w.heap.size, 0, none⟩), .int .u64 150] 181)).alloc (.cells #[.pointer (some ⟨12, 176, none⟩), .pointer (some ⟨w.heap.size, 0, none⟩), .int .u64 150] 181)).alloc (.cells #[.iface 84 (.int .i64 2)] 175)).setCell t (.iface 84 (.int .i64 2)) := by
 have h6 := @run_callFunc_extern Tryz.prog 118 _ (fun args => ReflectliteValue.unpack (args.getD 0 (.tuple #[]))) Tryz.func118 (by kernel_rfl) (by kernel_rfl) (by kernel_rfl) (by kernel_rfl)
 have h7 := @run_callFunc_extern Tryz.prog 119 _ (ReflectliteValue.methodAny (ReflectliteValue.valueError "reflectlite.Value.Type" 0) (fun t _ _ _ => ReflectliteType.toType t)) Tryz.func119 (by kernel_rfl) (by kernel_rfl) (by kernel_rfl) (by kernel_rfl)
 have h8 := @run_callFunc_extern Tryz.prog 120 _ (ReflectliteValue.method (ReflectliteValue.valueError "reflectlite.Value.IsNil" 0) ReflectliteValue.isNil) Tryz.func120 (by kernel_rfl) (by kernel_rfl) (by kernel_rfl) (by kernel_rfl)
 have h27 := @run_callFunc_extern Tryz.prog 240 _ (ReflectliteType.abiMethod fun t => do pure (.int .u8 (← Rtype.kind t))) Tryz.func240 (by kernel_rfl) (by kernel_rfl) (by kernel_rfl) (by kernel_rfl)
 have h37 := @run_callFunc_extern Tryz.prog 251 _ (ReflectliteType.method ReflectliteType.elem) Tryz.func251 (by kernel_rfl) (by kernel_rfl) (by kernel_rfl) (by kernel_rfl)
 have h38 := @run_callFunc_extern Tryz.prog 252 _ (ReflectliteType.relation "Implements" ReflectliteType.implements_) Tryz.func252 (by kernel_rfl) (by kernel_rfl) (by kernel_rfl) (by kernel_rfl)
 have h10 := @run_callFunc_extern Tryz.prog 146 _ ReflectliteType.typeOf Tryz.func146 (by kernel_rfl) (by kernel_rfl) (by kernel_rfl) (by kernel_rfl)
 have h35 := @run_callFunc_extern Tryz.prog 249 _ (ReflectliteType.relation "AssignableTo" ReflectliteType.assignableTo) Tryz.func249 (by kernel_rfl) (by kernel_rfl) (by kernel_rfl) (by kernel_rfl)
 have h11 := @run_callFunc_extern Tryz.prog 147 _ (ReflectliteValue.method (ReflectliteValue.valueError "reflectlite.Value.Elem" 0) ReflectliteValue.elem) Tryz.func147 (by kernel_rfl) (by kernel_rfl) (by kernel_rfl) (by kernel_rfl)
 have h12 := @run_callFunc_extern Tryz.prog 148 _ ReflectliteValue.set Tryz.func148 (by kernel_rfl) (by kernel_rfl) (by kernel_rfl) (by kernel_rfl)
 have f6 := Tryz.bdValueOf
 have f7 := Tryz.bdType
 have mK := Tryz.asMethodKind
 have mE := Tryz.asMethodElem
 have mI := Tryz.asMethodImplements
 have mA := Tryz.asMethodAssignableTo
 have k27 := Tryz.bdKindP
 have k25 := Tryz.bdKindE
 have e27 := Tryz.bdElem
 have i25 := Tryz.bdImplements
 have n8 := Tryz.bdIsNil ⟨w.heap.size, 0, none⟩ t ((w.alloc (.cells #[.pointer (some t)] 176)).alloc (.cells #[.pointer (some ⟨12, 176, none⟩), .pointer (some ⟨w.heap.size, 0, none⟩), .int .u64 150] 181)) (by simp)
 have hg2 : ((w.alloc (.cells #[.pointer (some t)] 176)).alloc (.cells #[.pointer (some ⟨12, 176, none⟩), .pointer (some ⟨w.heap.size, 0, none⟩), .int .u64 150] 181)).cell? ⟨0, 0, none⟩ = some (.iface 216 (.agg #[.pointer (some ⟨12, 27, none⟩)])) :=
  (hg.alloc _).alloc _
 have tO := Tryz.bdTypeOf
 have a25 := Tryz.bdAssignable
 have v25 := Tryz.bdValueE
 have htl : t.block < w.heap.size := by
  rcases Nat.lt_or_ge t.block w.heap.size with h | h
  · exact h
  · simp [World.cell?, Array.getElem?_eq_none h] at ht0
 have el := Tryz.bdElemV ⟨w.heap.size, 0, none⟩ t (((w.alloc (.cells #[.pointer (some t)] 176)).alloc (.cells #[.pointer (some ⟨12, 176, none⟩), .pointer (some ⟨w.heap.size, 0, none⟩), .int .u64 150] 181)).alloc (.cells #[.pointer (some ⟨12, 176, none⟩), .pointer (some ⟨w.heap.size, 0, none⟩), .int .u64 150] 181)) (by rw [World.cell?_alloc_lt _ _ ⟨w.heap.size, 0, none⟩ (by simp; omega)]; simp)
 have st := Tryz.bdSet t ⟨w.heap.size + 1 + 1 + 1, 0, none⟩ _ old rfl ((((w.alloc (.cells #[.pointer (some t)] 176)).alloc (.cells #[.pointer (some ⟨12, 176, none⟩), .pointer (some ⟨w.heap.size, 0, none⟩), .int .u64 150] 181)).alloc (.cells #[.pointer (some ⟨12, 176, none⟩), .pointer (some ⟨w.heap.size, 0, none⟩), .int .u64 150] 181)).alloc (.cells #[.iface 84 (.int .i64 2)] 175))
  (by rw [World.cell?_alloc_at _ _ _ _ (by simp)]; rfl)
  (by rw [World.cell?_alloc_lt _ _ t (by simp; omega), World.cell?_alloc_lt _ _ t (by simp; omega), World.cell?_alloc_lt _ _ t (by simp; omega), World.cell?_alloc_lt _ _ t htl]; exact ht0)
  (by rw [World.frozen?_alloc_old _ _ t (by simp; omega), World.frozen?_alloc_old _ _ t (by simp; omega), World.frozen?_alloc_old _ _ t (by simp; omega), World.frozen?_alloc_old _ _ t (Nat.ne_of_lt htl)]; exact hf0)
 clear hg
 go_enter Tryz.func85, Tryz.ntmps85
 go_wp2
 refine wp_loop_rounds 1 ?_
 rw [rounds_succ]
 go_wp2
 go_ret
 exact ⟨rfl, rfl⟩
theorem as_nil (x : Value) (w : World) : Calls Tryz.prog 85 #[.nilIface, x] w fun ev w' => ev = .returned (.bool false) ∧ w = w' := by
 go_enter Tryz.func85, Tryz.ntmps85
 go_wp2
 go_ret
 exact ⟨rfl, rfl⟩
end Go.Proofs.YtmfbaijbigodkaaGreatDoor
namespace Go.Proofs.YtmfbaijbigodkaaGreatDoor
open Go.ChangeShapes Go.WideShapes Go.ChangeAt Go.RowKit Go.Shelf
set_option linter.unusedVariables false
structure RTabs (w : World) : Prop where
 e : ETok w
 k : KTab w
 c : CTab w
 p : PTab w
 s : STab w
 u : w.cell? ⟨1, 0, none⟩ = some (.iface 84 (.int .i64 2))
theorem rtabs {w w1 : World} {L : List Thing} {i : Nat} (hK : KTab w) (hC : CTab w) {S : List Nat} (up : ∀ (X : World) (t : Thing), Leaves w1 X S t → Own w [] X (L.set i t)) :
  ∀ X, Out w1 X S → KTab X ∧ CTab X := fun X hX => by
 have o := up X ⟨fun _ S => S = [], fun h k hk => by rw [h] at hk; simp at hk, fun h _ _ => h⟩ ⟨[], rfl, hX, by simp⟩
 exact ⟨hK.later o.since, hC.later o.since⟩
def Few (s : TkS) (k : Nat) : Prop := s.e0.made.length ≤ k ∧ s.e1.made.length ≤ k
theorem Few.of {s : TkS} {k : Nat} (h : Few s k) (who : Int) : (s.e who).made.length ≤ k := by
 unfold TkS.e
 split
 · exact h.1
 · exact h.2
theorem pdo_write (w0 : World) (T : RTabs w0) (R : Thing) (g : Nat) (s : TkS) (q c : Nat) (n0 : Int) (d : ByteArray) (hd : d.size ≤ 1000000) (w : World) (ho : Own w0 [] w [talkT g s, R, Thing.lst 3 1 (.slice (some ⟨q, 0, none⟩) 1 c) [intRow n0]]) :
  Calls Tryz.prog 144 #[.agg #[.pointer (some ⟨g, 0, none⟩)], .string ⟨#[119, 114, 105, 116, 101]⟩, .slice (some ⟨q, 0, none⟩) 1 c, .string d] w fun e w' => e = .returned (.tuple #[.string ⟨#[111, 107]⟩, errV (s.writeE n0 d)]) ∧ Own w0 [] w' [talkT g (s.write n0 d), R] := by
 have HO := Lib.hid (ho.alloc 129 #[.pointer (some ⟨g, 0, none⟩)])
 obtain ⟨W1, hW1⟩ : ∃ W1, w.alloc (.cells #[.pointer (some ⟨g, 0, none⟩)] 129) = W1 := ⟨_, rfl⟩
 obtain ⟨gx, hgx⟩ : ∃ x, w.heap.size = x := ⟨_, rfl⟩
 rw [hW1, hgx] at HO
 have HT := Lib.hid (fun W (h : Own w0 [] W [talkT g s, R, Thing.lst 3 1 (.slice (some ⟨q, 0, none⟩) 1 c) [intRow n0], Thing.block gx 129 #[.pointer (some ⟨g, 0, none⟩)]]) => show Calls Tryz.prog 25 #[.pointer (some ⟨g, 0, none⟩), .int .i64 n0, .string d] W fun e w' => e = .returned (errV (s.writeE n0 d)) ∧ Own w0 [] w' [talkT g (s.write n0 d), R, Thing.lst 3 1 (.slice (some ⟨q, 0, none⟩) 1 c) [intRow n0], Thing.block gx 129 #[.pointer (some ⟨g, 0, none⟩)]] from by
  obtain ⟨S, hS, up⟩ := h.at_ 0 rfl
  exact ((twrite g s n0 d W S hS (by omega))).mono fun e w' ⟨h1, h2⟩ => ⟨h1, up _ _ h2⟩)
 generalize s.writeE n0 d = E at *
 generalize (s.write n0 d : TkS) = s2 at *
 have c0 : W1.cell? ⟨q, 0, none⟩ = some (.int .i64 n0) := by
  have := (HO.out.ls 2 rfl).cell rfl (i := 0) (j := 0) (e := intRow n0) (u := .int .i64 n0) rfl rfl
  simpa using this
 have cb : W1.cell? ⟨gx, 0, none⟩ = some (.pointer (some ⟨g, 0, none⟩)) := (HO.out.blk 3 rfl).cell 0
 have C1 := Lib.hid (⟨c0, cb⟩ : W1.cell? ⟨q, 0, none⟩ = some (.int .i64 n0) ∧ W1.cell? ⟨gx, 0, none⟩ = some (.pointer (some ⟨g, 0, none⟩)))
 clear ho
 go_enter Tryz.func144, Tryz.ntmps144
 go_wp2_with fail
 (try rw [hW1]); (try rw [hgx])
 clear hW1 hgx
 go_region_held3 (fun w' => w'.cell? ⟨q, 0, none⟩ = some (.int .i64 n0) ∧ w'.cell? ⟨gx, 0, none⟩ = some (.pointer (some ⟨g, 0, none⟩))) (first | exact C1.out | exact cq1.out) ((go_at_call 25; refine (HT.out _ ?_).mono ?_; (first | exact HO.out | exact HO.out.drew); rintro e w7 ⟨rfl, ha⟩; have HW7 := Lib.hid ha; have cq1 : Hid (w7.cell? ⟨q, 0, none⟩ = some (.int .i64 n0) ∧ w7.cell? ⟨gx, 0, none⟩ = some (.pointer (some ⟨g, 0, none⟩))) := Lib.hid ⟨by have := (ha.ls 2 rfl).cell rfl (i := 0) (j := 0) (e := intRow n0) (u := .int .i64 n0) rfl rfl; simpa using this, (ha.blk 3 rfl).cell 0⟩; clear ha))
 all_goals
  go_wp2_with fail
  go_ret2
  exact ⟨rfl, HW7.out.take 2⟩
theorem pdo_send (w0 : World) (T : RTabs w0) (R : Thing) (g : Nat) (s : TkS) (q c : Nat) (n0 : Int) (d : ByteArray) (hf : Few s 1000) (w : World) (ho : Own w0 [] w [talkT g s, R, Thing.lst 3 1 (.slice (some ⟨q, 0, none⟩) 1 c) [intRow n0]]) :
  Calls Tryz.prog 144 #[.agg #[.pointer (some ⟨g, 0, none⟩)], .string ⟨#[115, 101, 110, 100]⟩, .slice (some ⟨q, 0, none⟩) 1 c, .string d] w fun e w' => e = .returned (.tuple #[.string ⟨#[111, 107]⟩, errV (s.sendE n0)]) ∧ Own w0 [] w' [talkT g (s.send n0), R] := by
 have HO := Lib.hid (ho.alloc 129 #[.pointer (some ⟨g, 0, none⟩)])
 obtain ⟨W1, hW1⟩ : ∃ W1, w.alloc (.cells #[.pointer (some ⟨g, 0, none⟩)] 129) = W1 := ⟨_, rfl⟩
 obtain ⟨gx, hgx⟩ : ∃ x, w.heap.size = x := ⟨_, rfl⟩
 rw [hW1, hgx] at HO
 have HT := Lib.hid (fun W (h : Own w0 [] W [talkT g s, R, Thing.lst 3 1 (.slice (some ⟨q, 0, none⟩) 1 c) [intRow n0], Thing.block gx 129 #[.pointer (some ⟨g, 0, none⟩)]]) => show Calls Tryz.prog 27 #[.pointer (some ⟨g, 0, none⟩), .int .i64 n0] W fun e w' => e = .returned (errV (s.sendE n0)) ∧ Own w0 [] w' [talkT g (s.send n0), R, Thing.lst 3 1 (.slice (some ⟨q, 0, none⟩) 1 c) [intRow n0], Thing.block gx 129 #[.pointer (some ⟨g, 0, none⟩)]] from by
  obtain ⟨S, hS, up⟩ := h.at_ 0 rfl
  exact ((tsend g s n0 W S hS (T.k.later h.since) (hf.of n0))).mono fun e w' ⟨h1, h2⟩ => ⟨h1, up _ _ h2⟩)
 generalize s.sendE n0 = E at *
 generalize (s.send n0 : TkS) = s2 at *
 have c0 : W1.cell? ⟨q, 0, none⟩ = some (.int .i64 n0) := by
  have := (HO.out.ls 2 rfl).cell rfl (i := 0) (j := 0) (e := intRow n0) (u := .int .i64 n0) rfl rfl
  simpa using this
 have cb : W1.cell? ⟨gx, 0, none⟩ = some (.pointer (some ⟨g, 0, none⟩)) := (HO.out.blk 3 rfl).cell 0
 have C1 := Lib.hid (⟨c0, cb⟩ : W1.cell? ⟨q, 0, none⟩ = some (.int .i64 n0) ∧ W1.cell? ⟨gx, 0, none⟩ = some (.pointer (some ⟨g, 0, none⟩)))
 clear ho
 go_enter Tryz.func144, Tryz.ntmps144
 go_wp2_with fail
 (try rw [hW1]); (try rw [hgx])
 clear hW1 hgx
 go_region_held3 (fun w' => w'.cell? ⟨q, 0, none⟩ = some (.int .i64 n0) ∧ w'.cell? ⟨gx, 0, none⟩ = some (.pointer (some ⟨g, 0, none⟩))) (first | exact C1.out | exact cq1.out) ((go_at_call 27; refine (HT.out _ ?_).mono ?_; (first | exact HO.out | exact HO.out.drew); rintro e w7 ⟨rfl, ha⟩; have HW7 := Lib.hid ha; have cq1 : Hid (w7.cell? ⟨q, 0, none⟩ = some (.int .i64 n0) ∧ w7.cell? ⟨gx, 0, none⟩ = some (.pointer (some ⟨g, 0, none⟩))) := Lib.hid ⟨by have := (ha.ls 2 rfl).cell rfl (i := 0) (j := 0) (e := intRow n0) (u := .int .i64 n0) rfl rfl; simpa using this, (ha.blk 3 rfl).cell 0⟩; clear ha))
 all_goals
  go_wp2_with fail
  go_ret2
  exact ⟨rfl, HW7.out.take 2⟩
theorem pdo_come (w0 : World) (T : RTabs w0) (R : Thing) (g : Nat) (s : TkS) (q c : Nat) (n0 : Int) (d : ByteArray) (hf : Few s 1000) (w : World) (ho : Own w0 [] w [talkT g s, R, Thing.lst 3 1 (.slice (some ⟨q, 0, none⟩) 1 c) [intRow n0]]) :
  Calls Tryz.prog 144 #[.agg #[.pointer (some ⟨g, 0, none⟩)], .string ⟨#[99, 111, 109, 101]⟩, .slice (some ⟨q, 0, none⟩) 1 c, .string d] w fun e w' => e = .returned (.tuple #[.string ⟨#[111, 107]⟩, errV (s.comeE n0)]) ∧ Own w0 [] w' [talkT g (s.come n0), R] := by
 have HO := Lib.hid (ho.alloc 129 #[.pointer (some ⟨g, 0, none⟩)])
 obtain ⟨W1, hW1⟩ : ∃ W1, w.alloc (.cells #[.pointer (some ⟨g, 0, none⟩)] 129) = W1 := ⟨_, rfl⟩
 obtain ⟨gx, hgx⟩ : ∃ x, w.heap.size = x := ⟨_, rfl⟩
 rw [hW1, hgx] at HO
 have HT := Lib.hid (fun W (h : Own w0 [] W [talkT g s, R, Thing.lst 3 1 (.slice (some ⟨q, 0, none⟩) 1 c) [intRow n0], Thing.block gx 129 #[.pointer (some ⟨g, 0, none⟩)]]) => show Calls Tryz.prog 29 #[.pointer (some ⟨g, 0, none⟩), .int .i64 n0] W fun e w' => e = .returned (errV (s.comeE n0)) ∧ Own w0 [] w' [talkT g (s.come n0), R, Thing.lst 3 1 (.slice (some ⟨q, 0, none⟩) 1 c) [intRow n0], Thing.block gx 129 #[.pointer (some ⟨g, 0, none⟩)]] from by
  obtain ⟨S, hS, up⟩ := h.at_ 0 rfl
  exact ((tcome g s n0 W S hS (rtabs T.k T.c up) hf.1 hf.2)).mono fun e w' ⟨h1, h2⟩ => ⟨h1, up _ _ h2⟩)
 generalize s.comeE n0 = E at *
 generalize (s.come n0 : TkS) = s2 at *
 have c0 : W1.cell? ⟨q, 0, none⟩ = some (.int .i64 n0) := by
  have := (HO.out.ls 2 rfl).cell rfl (i := 0) (j := 0) (e := intRow n0) (u := .int .i64 n0) rfl rfl
  simpa using this
 have cb : W1.cell? ⟨gx, 0, none⟩ = some (.pointer (some ⟨g, 0, none⟩)) := (HO.out.blk 3 rfl).cell 0
 have C1 := Lib.hid (⟨c0, cb⟩ : W1.cell? ⟨q, 0, none⟩ = some (.int .i64 n0) ∧ W1.cell? ⟨gx, 0, none⟩ = some (.pointer (some ⟨g, 0, none⟩)))
 clear ho
 go_enter Tryz.func144, Tryz.ntmps144
 go_wp2_with fail
 (try rw [hW1]); (try rw [hgx])
 clear hW1 hgx
 go_region_held3 (fun w' => w'.cell? ⟨q, 0, none⟩ = some (.int .i64 n0) ∧ w'.cell? ⟨gx, 0, none⟩ = some (.pointer (some ⟨g, 0, none⟩))) (first | exact C1.out | exact cq1.out) ((go_at_call 29; refine (HT.out _ ?_).mono ?_; (first | exact HO.out | exact HO.out.drew); rintro e w7 ⟨rfl, ha⟩; have HW7 := Lib.hid ha; have cq1 : Hid (w7.cell? ⟨q, 0, none⟩ = some (.int .i64 n0) ∧ w7.cell? ⟨gx, 0, none⟩ = some (.pointer (some ⟨g, 0, none⟩))) := Lib.hid ⟨by have := (ha.ls 2 rfl).cell rfl (i := 0) (j := 0) (e := intRow n0) (u := .int .i64 n0) rfl rfl; simpa using this, (ha.blk 3 rfl).cell 0⟩; clear ha))
 all_goals
  go_wp2_with fail
  go_ret2
  exact ⟨rfl, HW7.out.take 2⟩
theorem pdo_lose (w0 : World) (T : RTabs w0) (R : Thing) (g : Nat) (s : TkS) (q c : Nat) (n0 : Int) (d : ByteArray) (w : World) (ho : Own w0 [] w [talkT g s, R, Thing.lst 3 1 (.slice (some ⟨q, 0, none⟩) 1 c) [intRow n0]]) :
  Calls Tryz.prog 144 #[.agg #[.pointer (some ⟨g, 0, none⟩)], .string ⟨#[108, 111, 115, 101]⟩, .slice (some ⟨q, 0, none⟩) 1 c, .string d] w fun e w' => e = .returned (.tuple #[.string ⟨#[111, 107]⟩, errV (giveE s.L n0)]) ∧ Own w0 [] w' [talkT g ({ s with L := giveL s.L n0 }), R] := by
 have HO := Lib.hid (ho.alloc 129 #[.pointer (some ⟨g, 0, none⟩)])
 obtain ⟨W1, hW1⟩ : ∃ W1, w.alloc (.cells #[.pointer (some ⟨g, 0, none⟩)] 129) = W1 := ⟨_, rfl⟩
 obtain ⟨gx, hgx⟩ : ∃ x, w.heap.size = x := ⟨_, rfl⟩
 rw [hW1, hgx] at HO
 have HT := Lib.hid (fun W (h : Own w0 [] W [talkT g s, R, Thing.lst 3 1 (.slice (some ⟨q, 0, none⟩) 1 c) [intRow n0], Thing.block gx 129 #[.pointer (some ⟨g, 0, none⟩)]]) => show Calls Tryz.prog 32 #[.pointer (some ⟨g, 0, none⟩), .int .i64 n0] W fun e w' => e = .returned (errV (giveE s.L n0)) ∧ Own w0 [] w' [talkT g ({ s with L := giveL s.L n0 }), R, Thing.lst 3 1 (.slice (some ⟨q, 0, none⟩) 1 c) [intRow n0], Thing.block gx 129 #[.pointer (some ⟨g, 0, none⟩)]] from by
  obtain ⟨S, hS, up⟩ := h.at_ 0 rfl
  exact ((tklose g s n0 W S hS)).mono fun e w' ⟨h1, h2⟩ => ⟨h1, up _ _ h2⟩)
 generalize giveE s.L n0 = E at *
 generalize ({ s with L := giveL s.L n0 } : TkS) = s2 at *
 have c0 : W1.cell? ⟨q, 0, none⟩ = some (.int .i64 n0) := by
  have := (HO.out.ls 2 rfl).cell rfl (i := 0) (j := 0) (e := intRow n0) (u := .int .i64 n0) rfl rfl
  simpa using this
 have cb : W1.cell? ⟨gx, 0, none⟩ = some (.pointer (some ⟨g, 0, none⟩)) := (HO.out.blk 3 rfl).cell 0
 have C1 := Lib.hid (⟨c0, cb⟩ : W1.cell? ⟨q, 0, none⟩ = some (.int .i64 n0) ∧ W1.cell? ⟨gx, 0, none⟩ = some (.pointer (some ⟨g, 0, none⟩)))
 clear ho
 go_enter Tryz.func144, Tryz.ntmps144
 go_wp2_with fail
 (try rw [hW1]); (try rw [hgx])
 clear hW1 hgx
 go_region_held3 (fun w' => w'.cell? ⟨q, 0, none⟩ = some (.int .i64 n0) ∧ w'.cell? ⟨gx, 0, none⟩ = some (.pointer (some ⟨g, 0, none⟩))) (first | exact C1.out | exact cq1.out) ((go_at_call 32; refine (HT.out _ ?_).mono ?_; (first | exact HO.out | exact HO.out.drew); rintro e w7 ⟨rfl, ha⟩; have HW7 := Lib.hid ha; have cq1 : Hid (w7.cell? ⟨q, 0, none⟩ = some (.int .i64 n0) ∧ w7.cell? ⟨gx, 0, none⟩ = some (.pointer (some ⟨g, 0, none⟩))) := Lib.hid ⟨by have := (ha.ls 2 rfl).cell rfl (i := 0) (j := 0) (e := intRow n0) (u := .int .i64 n0) rfl rfl; simpa using this, (ha.blk 3 rfl).cell 0⟩; clear ha))
 all_goals
  go_wp2_with fail
  go_ret2
  exact ⟨rfl, HW7.out.take 2⟩
theorem pdo_twice (w0 : World) (T : RTabs w0) (R : Thing) (g : Nat) (s : TkS) (q c : Nat) (n0 : Int) (d : ByteArray) (w : World) (ho : Own w0 [] w [talkT g s, R, Thing.lst 3 1 (.slice (some ⟨q, 0, none⟩) 1 c) [intRow n0]]) :
  Calls Tryz.prog 144 #[.agg #[.pointer (some ⟨g, 0, none⟩)], .string ⟨#[116, 119, 105, 99, 101]⟩, .slice (some ⟨q, 0, none⟩) 1 c, .string d] w fun e w' => e = .returned (.tuple #[.string ⟨#[111, 107]⟩, errV (twiceE s.L n0)]) ∧ Own w0 [] w' [talkT g ({ s with L := twiceL s.L n0 }), R] := by
 have HO := Lib.hid (ho.alloc 129 #[.pointer (some ⟨g, 0, none⟩)])
 obtain ⟨W1, hW1⟩ : ∃ W1, w.alloc (.cells #[.pointer (some ⟨g, 0, none⟩)] 129) = W1 := ⟨_, rfl⟩
 obtain ⟨gx, hgx⟩ : ∃ x, w.heap.size = x := ⟨_, rfl⟩
 rw [hW1, hgx] at HO
 have HT := Lib.hid (fun W (h : Own w0 [] W [talkT g s, R, Thing.lst 3 1 (.slice (some ⟨q, 0, none⟩) 1 c) [intRow n0], Thing.block gx 129 #[.pointer (some ⟨g, 0, none⟩)]]) => show Calls Tryz.prog 33 #[.pointer (some ⟨g, 0, none⟩), .int .i64 n0] W fun e w' => e = .returned (errV (twiceE s.L n0)) ∧ Own w0 [] w' [talkT g ({ s with L := twiceL s.L n0 }), R, Thing.lst 3 1 (.slice (some ⟨q, 0, none⟩) 1 c) [intRow n0], Thing.block gx 129 #[.pointer (some ⟨g, 0, none⟩)]] from by
  obtain ⟨S, hS, up⟩ := h.at_ 0 rfl
  exact ((tktwice g s n0 W S hS)).mono fun e w' ⟨h1, h2⟩ => ⟨h1, up _ _ h2⟩)
 generalize twiceE s.L n0 = E at *
 generalize ({ s with L := twiceL s.L n0 } : TkS) = s2 at *
 have c0 : W1.cell? ⟨q, 0, none⟩ = some (.int .i64 n0) := by
  have := (HO.out.ls 2 rfl).cell rfl (i := 0) (j := 0) (e := intRow n0) (u := .int .i64 n0) rfl rfl
  simpa using this
 have cb : W1.cell? ⟨gx, 0, none⟩ = some (.pointer (some ⟨g, 0, none⟩)) := (HO.out.blk 3 rfl).cell 0
 have C1 := Lib.hid (⟨c0, cb⟩ : W1.cell? ⟨q, 0, none⟩ = some (.int .i64 n0) ∧ W1.cell? ⟨gx, 0, none⟩ = some (.pointer (some ⟨g, 0, none⟩)))
 clear ho
 go_enter Tryz.func144, Tryz.ntmps144
 go_wp2_with fail
 (try rw [hW1]); (try rw [hgx])
 clear hW1 hgx
 go_region_held3 (fun w' => w'.cell? ⟨q, 0, none⟩ = some (.int .i64 n0) ∧ w'.cell? ⟨gx, 0, none⟩ = some (.pointer (some ⟨g, 0, none⟩))) (first | exact C1.out | exact cq1.out) ((go_at_call 33; refine (HT.out _ ?_).mono ?_; (first | exact HO.out | exact HO.out.drew); rintro e w7 ⟨rfl, ha⟩; have HW7 := Lib.hid ha; have cq1 : Hid (w7.cell? ⟨q, 0, none⟩ = some (.int .i64 n0) ∧ w7.cell? ⟨gx, 0, none⟩ = some (.pointer (some ⟨g, 0, none⟩))) := Lib.hid ⟨by have := (ha.ls 2 rfl).cell rfl (i := 0) (j := 0) (e := intRow n0) (u := .int .i64 n0) rfl rfl; simpa using this, (ha.blk 3 rfl).cell 0⟩; clear ha))
 all_goals
  go_wp2_with fail
  go_ret2
  exact ⟨rfl, HW7.out.take 2⟩
theorem pdo_read (w0 : World) (T : RTabs w0) (R : Thing) (g : Nat) (s : TkS) (q c : Nat) (n0 n1 : Int) (d : ByteArray) (w : World) (ho : Own w0 [] w [talkT g s, R, Thing.lst 3 1 (.slice (some ⟨q, 0, none⟩) 2 c) [intRow n0, intRow n1]]) :
  Calls Tryz.prog 144 #[.agg #[.pointer (some ⟨g, 0, none⟩)], .string ⟨#[114, 101, 97, 100]⟩, .slice (some ⟨q, 0, none⟩) 2 c, .string d] w fun e w' => e = .returned (.tuple #[.string (if s.readS n0 n1 = ⟨#[]⟩ then bDash else s.readS n0 n1), errV (TkS.readE n0 n1)]) ∧ Own w0 [] w' [talkT g (s.read n0 n1), R] := by
 have HO := Lib.hid (ho.alloc 129 #[.pointer (some ⟨g, 0, none⟩)])
 obtain ⟨W1, hW1⟩ : ∃ W1, w.alloc (.cells #[.pointer (some ⟨g, 0, none⟩)] 129) = W1 := ⟨_, rfl⟩
 obtain ⟨gx, hgx⟩ : ∃ x, w.heap.size = x := ⟨_, rfl⟩
 rw [hW1, hgx] at HO
 have cb : W1.cell? ⟨gx, 0, none⟩ = some (.pointer (some ⟨g, 0, none⟩)) := (HO.out.blk 3 rfl).cell 0
 have HT := Lib.hid (fun W (h : Own w0 [] W [talkT g s, R, Thing.lst 3 1 (.slice (some ⟨q, 0, none⟩) 2 c) [intRow n0, intRow n1], Thing.block gx 129 #[.pointer (some ⟨g, 0, none⟩)]]) => show Calls Tryz.prog 161 #[.agg #[.pointer (some ⟨g, 0, none⟩)], .int .i64 n0, .int .i64 n1] W fun e w' => e = .returned (.tuple #[.string (if s.readS n0 n1 = ⟨#[]⟩ then bDash else s.readS n0 n1), errV (TkS.readE n0 n1)]) ∧ Own w0 [] w' [talkT g (s.read n0 n1), R, Thing.lst 3 1 (.slice (some ⟨q, 0, none⟩) 2 c) [intRow n0, intRow n1], Thing.block gx 129 #[.pointer (some ⟨g, 0, none⟩)]] from by
  obtain ⟨S, hS, up⟩ := h.at_ 0 rfl
  exact (pread g s n0 n1 W S hS).mono fun e w' ⟨h1, h2⟩ => ⟨h1, up _ _ h2⟩)
 obtain ⟨E, hE⟩ : ∃ E, (if s.readS n0 n1 = ⟨#[]⟩ then bDash else s.readS n0 n1) = E := ⟨_, rfl⟩
 rw [hE] at HT
 rw [hE]
 clear hE
 generalize TkS.readE n0 n1 = e0 at *
 generalize s.read n0 n1 = s2 at *
 have c0 : W1.cell? ⟨q, 0, none⟩ = some (.int .i64 n0) := by have := (HO.out.ls 2 rfl).cell rfl (i := 0) (j := 0) (e := intRow n0) (u := .int .i64 n0) rfl rfl; simpa using this
 have c1 : W1.cell? ⟨q, 1, none⟩ = some (.int .i64 n1) := by have := (HO.out.ls 2 rfl).cell rfl (i := 1) (j := 0) (e := intRow n1) (u := .int .i64 n1) rfl rfl; simpa using this
 have C1 := Lib.hid (⟨c0, c1, cb⟩ : W1.cell? ⟨q, 0, none⟩ = some (.int .i64 n0) ∧ W1.cell? ⟨q, 1, none⟩ = some (.int .i64 n1) ∧ W1.cell? ⟨gx, 0, none⟩ = some (.pointer (some ⟨g, 0, none⟩)))
 clear ho
 go_enter Tryz.func144, Tryz.ntmps144
 go_wp2_with fail
 (try rw [hW1]); (try rw [hgx])
 clear hW1 hgx
 go_region_held3 (fun w' => w'.cell? ⟨q, 0, none⟩ = some (.int .i64 n0) ∧ w'.cell? ⟨q, 1, none⟩ = some (.int .i64 n1) ∧ w'.cell? ⟨gx, 0, none⟩ = some (.pointer (some ⟨g, 0, none⟩))) (first | exact C1.out | exact cq1.out) ((go_at_call 161; refine (HT.out _ ?_).mono ?_; (first | exact HO.out | exact HO.out.drew); rintro e w7 ⟨rfl, ha⟩; have HW7 := Lib.hid ha; have cq1 : Hid (w7.cell? ⟨q, 0, none⟩ = some (.int .i64 n0) ∧ w7.cell? ⟨q, 1, none⟩ = some (.int .i64 n1) ∧ w7.cell? ⟨gx, 0, none⟩ = some (.pointer (some ⟨g, 0, none⟩))) := Lib.hid ⟨by have := (ha.ls 2 rfl).cell rfl (i := 0) (j := 0) (e := intRow n0) (u := .int .i64 n0) rfl rfl; simpa using this, by have := (ha.ls 2 rfl).cell rfl (i := 1) (j := 0) (e := intRow n1) (u := .int .i64 n1) rfl rfl; simpa using this, (ha.blk 3 rfl).cell 0⟩; clear ha))
 all_goals
  go_wp2_with fail
  go_ret2
  exact ⟨rfl, HW7.out.take 2⟩
theorem pdo_varint (w0 : World) (T : RTabs w0) (R : Thing) (g : Nat) (s : TkS) (q c : Nat) (n0 : Int) (h0 : 0 ≤ n0) (h9 : n0 ≤ 9999) (d : ByteArray) (w : World) (ho : Own w0 [] w [talkT g s, R, Thing.lst 3 1 (.slice (some ⟨q, 0, none⟩) 1 c) [intRow n0]]) :
  Calls Tryz.prog 144 #[.agg #[.pointer (some ⟨g, 0, none⟩)], .string ⟨#[118, 97, 114, 105, 110, 116]⟩, .slice (some ⟨q, 0, none⟩) 1 c, .string d] w fun e w' => e = .returned (.tuple #[.string ⟨(tells (vbytes n0)).toArray⟩, errV 0]) ∧ Own w0 [] w' [talkT g s, R] := by
 have HO := Lib.hid (ho.alloc 129 #[.pointer (some ⟨g, 0, none⟩)])
 obtain ⟨W1, hW1⟩ : ∃ W1, w.alloc (.cells #[.pointer (some ⟨g, 0, none⟩)] 129) = W1 := ⟨_, rfl⟩
 obtain ⟨gx, hgx⟩ : ∃ x, w.heap.size = x := ⟨_, rfl⟩
 rw [hW1, hgx] at HO
 have cb : W1.cell? ⟨gx, 0, none⟩ = some (.pointer (some ⟨g, 0, none⟩)) := (HO.out.blk 3 rfl).cell 0
 have c0 : W1.cell? ⟨q, 0, none⟩ = some (.int .i64 n0) := by have := (HO.out.ls 2 rfl).cell rfl (i := 0) (j := 0) (e := intRow n0) (u := .int .i64 n0) rfl rfl; simpa using this
 have HS : Hid (Since w0 W1) := Lib.hid HO.out.since
 have HV : Hid (Calls Tryz.prog 162 #[.int .i64 n0] W1 fun e w' => e = .returned (.tuple #[.string ⟨(vbytes n0).toArray⟩, .nilIface]) ∧ Below W1.heap.size W1 w') := Lib.hid (by
  have := vput_any n0 W1 (T.k.later HS.out)
  have e1 : MayBe n0 := ⟨h0, by omega⟩
  unfold vputL vputE at this
  rw [if_pos e1, if_pos e1, errV_zero] at this
  exact this)
 have hsz : (⟨(vbytes n0).toArray⟩ : ByteArray).size = (vbytes n0).length := by show (vbytes n0).toArray.size = _; simp
 have hln := vbytes_length n0
 have hlo : longN n0 = 1 ∨ longN n0 = 2 ∨ longN n0 = 4 := by unfold longN; omega
 have HX := Lib.hid (fun W (hW : Since w0 W) => ptexts ⟨(vbytes n0).toArray⟩ (by omega) (by omega) W (T.p.later hW))
 have HE : Hid ((⟨(vbytes n0).toArray⟩ : ByteArray).data.toList = vbytes n0) := Lib.hid (by simp)
 rw [HE.out] at HX
 generalize vbytes n0 = V at *
 clear ho hsz hln hlo h0 h9
 go_enter Tryz.func144, Tryz.ntmps144
 go_wp2_with fail
 (try rw [hW1]); (try rw [hgx])
 refine HV.out.mono ?_
 rintro e w2 ⟨rfl, hb2⟩
 have HO2 := Lib.hid (HO.out.later hb2)
 clear hb2
 go_wp2_with fail
 refine (HX.out _ HO2.out.since).mono ?_
 rintro e w3 ⟨rfl, hb3⟩
 have HO3 := Lib.hid (HO2.out.later hb3)
 clear hb3
 go_wp2_with fail
 go_ret2
 exact ⟨rfl, HO3.out.take 2⟩
theorem pdo_need (w0 : World) (T : RTabs w0) (R : Thing) (g : Nat) (s : TkS) (q c : Nat) (n0 n1 : Int) (h0 : 0 ≤ n0) (h9 : n0 ≤ 9999) (d : ByteArray) (w : World) (ho : Own w0 [] w [talkT g s, R, Thing.lst 3 1 (.slice (some ⟨q, 0, none⟩) 2 c) [intRow n0, intRow n1]]) :
  Calls Tryz.prog 144 #[.agg #[.pointer (some ⟨g, 0, none⟩)], .string ⟨#[110, 101, 101, 100]⟩, .slice (some ⟨q, 0, none⟩) 2 c, .string d] w fun e w' => e = .returned (.tuple #[.string ⟨(Lib.itoa (needV n0 n1)).toArray⟩, errV (needE n0 n1)]) ∧ Own w0 [] w' [talkT g s, R] := by
 have HO := Lib.hid (ho.alloc 129 #[.pointer (some ⟨g, 0, none⟩)])
 obtain ⟨W1, hW1⟩ : ∃ W1, w.alloc (.cells #[.pointer (some ⟨g, 0, none⟩)] 129) = W1 := ⟨_, rfl⟩
 obtain ⟨gx, hgx⟩ : ∃ x, w.heap.size = x := ⟨_, rfl⟩
 rw [hW1, hgx] at HO
 have cb : W1.cell? ⟨gx, 0, none⟩ = some (.pointer (some ⟨g, 0, none⟩)) := (HO.out.blk 3 rfl).cell 0
 have HN := Lib.hid (fun W => need_any n0 n1 W)
 have hv : 0 ≤ needV n0 n1 ∧ needV n0 n1 ≤ 4 := by
  unfold needV
  split
  · have := leastN_bounds (n0 - n1); omega
  · omega
 have HI := Lib.hid (fun W (hW : Since w0 W) => itoaC (needV n0 n1) hv.1 (by omega) W (T.p.later hW))
 generalize needE n0 n1 = E at *
 generalize needV n0 n1 = V at *
 have c0 : W1.cell? ⟨q, 0, none⟩ = some (.int .i64 n0) := by have := (HO.out.ls 2 rfl).cell rfl (i := 0) (j := 0) (e := intRow n0) (u := .int .i64 n0) rfl rfl; simpa using this
 have c1 : W1.cell? ⟨q, 1, none⟩ = some (.int .i64 n1) := by have := (HO.out.ls 2 rfl).cell rfl (i := 1) (j := 0) (e := intRow n1) (u := .int .i64 n1) rfl rfl; simpa using this
 have C1 := Lib.hid (⟨c0, c1⟩ : W1.cell? ⟨q, 0, none⟩ = some (.int .i64 n0) ∧ W1.cell? ⟨q, 1, none⟩ = some (.int .i64 n1))
 clear ho hv h0 h9
 go_enter Tryz.func144, Tryz.ntmps144
 go_wp2_with fail
 (try rw [hW1]); (try rw [hgx])
 clear hW1 hgx
 go_quiet ((go_at_call 164; exact quiet_a (HN.out _)))
 go_wp2_with fail
 refine (HI.out _ (HO.out.since.drewN _)).mono ?_
 rintro e w3 ⟨rfl, hb3⟩
 have HO3 := Lib.hid ((HO.out.drewN _).later hb3)
 clear hb3
 go_wp2_with fail
 go_ret2
 exact ⟨rfl, HO3.out.take 2⟩
theorem pdo_count (w0 : World) (T : RTabs w0) (R : Thing) (g : Nat) (s : TkS) (v : Value) (d : ByteArray) (w : World) (ho : Own w0 [] w [talkT g s, R]) :
  Calls Tryz.prog 144 #[.agg #[.pointer (some ⟨g, 0, none⟩)], .string ⟨#[99, 111, 117, 110, 116]⟩, v, .string d] w fun e w' => e = .returned (.tuple #[.string ⟨(Lib.itoa (s.L.length : Int)).toArray⟩, errV 0]) ∧ Own w0 [] w' [talkT g s, R] := by
 have HO := Lib.hid (ho.alloc 129 #[.pointer (some ⟨g, 0, none⟩)])
 obtain ⟨W1, hW1⟩ : ∃ W1, w.alloc (.cells #[.pointer (some ⟨g, 0, none⟩)] 129) = W1 := ⟨_, rfl⟩
 obtain ⟨gx, hgx⟩ : ∃ x, w.heap.size = x := ⟨_, rfl⟩
 rw [hW1, hgx] at HO
 have cb : W1.cell? ⟨gx, 0, none⟩ = some (.pointer (some ⟨g, 0, none⟩)) := (HO.out.blk 2 rfl).cell 0
 obtain ⟨S, hS, -⟩ := HO.out.at_ 0 rfl
 have HC := Lib.hid (tcount g s W1 S hS)
 have hok : s.L.length ≤ 40 := by obtain ⟨p, ok, _⟩ := talkT_open hS; exact ok.1
 have HI := Lib.hid (fun W (hW : Since w0 W) => itoaC (s.L.length : Int) (by omega) (by omega) W (T.p.later hW))
 generalize s.L.length = nl at *
 clear ho hS hok
 go_enter Tryz.func144, Tryz.ntmps144
 go_wp2_with fail
 (try rw [hW1]); (try rw [hgx])
 refine HC.out.mono ?_
 rintro e w2 ⟨rfl, rfl⟩
 go_wp2_with fail
 refine (HI.out _ HO.out.since).mono ?_
 rintro e w3 ⟨rfl, hb3⟩
 have HO3 := Lib.hid (HO.out.later hb3)
 clear hb3
 go_wp2_with fail
 go_ret2
 exact ⟨rfl, HO3.out.take 2⟩
theorem nums_max : ∀ {L : List (List UInt8)} {ns : List Nat}, nums L = some ns → ∀ n ∈ ns, n ≤ 9999
 | [], ns, h => by
   cases h
   intro n hn
   simp at hn
 | x :: r, ns, h => by
   rw [nums] at h
   split at h
   · cases h
   · rename_i _ m hm
     split at h
     · cases h
     · rename_i _ ms hr
       cases h
       intro n hn
       rcases List.mem_cons.1 hn with rfl | hn
       · exact (dg_yes hm).2.2.2.2
       · exact nums_max hr n hn
theorem many_cases {x : List UInt8} {m : Nat} (h : manyOf x = some m) : (m = 1 ∧ (x = wWrite ∨ x = wSend ∨ x = wCome ∨ x = wLose ∨ x = wTwice ∨ x = wVarint)) ∨ (m = 2 ∧ (x = wRead ∨ x = wNeed)) ∨ (m = 0 ∧ x = wCount) := by
 unfold manyOf at h
 split at h
 · rename_i h1; exact Or.inl ⟨(Option.some.inj h).symm, h1⟩
 · split at h
   · rename_i h1; exact Or.inr (Or.inl ⟨(Option.some.inj h).symm, h1⟩)
   · split at h
     · rename_i h1; exact Or.inr (Or.inr ⟨(Option.some.inj h).symm, h1⟩)
     · cases h
theorem size_of (d : List UInt8) : (⟨d.toArray⟩ : ByteArray).size = d.length := by show d.toArray.size = _; simp
theorem pdo (w0 : World) (T : RTabs w0) (R : Thing) (g : Nat) (s : TkS) (hf : Few s 1000) (x : List UInt8) (ns : List Nat) (d : List UInt8) (hx : manyOf x = some ns.length) (hn : ∀ n ∈ ns, n ≤ 9999) (hd : d.length ≤ 1000000) (A : Option Addr) (c : Nat) (w : World) (ho : Own w0 [] w [talkT g s, R, Thing.lst 3 1 (.slice A ns.length c) (ns.map fun (n : Nat) => intRow n)]) :
  Calls Tryz.prog 144 #[.agg #[.pointer (some ⟨g, 0, none⟩)], .string ⟨x.toArray⟩, .slice A ns.length c, .string ⟨d.toArray⟩] w fun e w' => e = .returned (.tuple #[.string (doW s x ns d).1, errV (doW s x ns d).2.1]) ∧ Own w0 [] w' [talkT g (doW s x ns d).2.2, R] := by
 have hl := ho.ls 2 rfl
 obtain ⟨A2, c2, he, _, _, hA⟩ := hl.shape
 rw [List.length_map] at he
 injection he with e1 _ e3
 subst e1 e3
 rcases many_cases hx with ⟨hm, h1⟩ | ⟨hm, h1⟩ | ⟨hm, h1⟩
 · obtain ⟨n0, rfl⟩ := List.length_eq_one_iff.1 hm
   rcases hA with ⟨-, h, -⟩ | ⟨q, rfl⟩
   · cases h
   have hn0 := hn n0 (by simp)
   rcases h1 with rfl | rfl | rfl | rfl | rfl | rfl
   · exact pdo_write w0 T R g s q c n0 ⟨d.toArray⟩ (by rw [size_of]; exact hd) w ho
   · exact pdo_send w0 T R g s q c n0 ⟨d.toArray⟩ hf w ho
   · exact pdo_come w0 T R g s q c n0 ⟨d.toArray⟩ hf w ho
   · exact pdo_lose w0 T R g s q c n0 ⟨d.toArray⟩ w ho
   · exact pdo_twice w0 T R g s q c n0 ⟨d.toArray⟩ w ho
   · exact pdo_varint w0 T R g s q c n0 (by omega) (by omega) ⟨d.toArray⟩ w ho
 · obtain ⟨n0, n1, rfl⟩ : ∃ a b, ns = [a, b] := by
    match ns, hm with
    | [a, b], _ => exact ⟨a, b, rfl⟩
   rcases hA with ⟨-, h, -⟩ | ⟨q, rfl⟩
   · cases h
   have hn0 := hn n0 (by simp)
   rcases h1 with rfl | rfl
   · exact pdo_read w0 T R g s q c n0 n1 ⟨d.toArray⟩ w ho
   · exact pdo_need w0 T R g s q c n0 n1 (by omega) (by omega) ⟨d.toArray⟩ w ho
 · obtain rfl := List.length_eq_zero_iff.1 hm
   subst h1
   exact pdo_count w0 T R g s _ ⟨d.toArray⟩ w (ho.take 2)
def badV : Value := .iface 175 (.agg #[.iface 84 (.int .i64 2)])
noncomputable def lineV (s : TkS) (ws : List (List UInt8)) : Value := match parse ws with
 | none => .tuple #[.string ⟨#[]⟩, badV]
 | some (x, n, d) => .tuple #[.string (doW s x n d).1, errV (doW s x n d).2.1]
noncomputable def lineS (s : TkS) (ws : List (List UInt8)) : TkS := match parse ws with
 | none => s
 | some (x, n, d) => (doW s x n d).2.2
theorem line_none {s : TkS} {ws : List (List UInt8)} (h : parse ws = none) : lineV s ws = .tuple #[.string ⟨#[]⟩, .iface 175 (.agg #[.iface 84 (.int .i64 2)])] ∧ lineS s ws = s := by
 unfold lineV lineS
 rw [h]
 exact ⟨rfl, rfl⟩
theorem line_some {s : TkS} {ws : List (List UInt8)} {x : List UInt8} {n : List Nat} {d : List UInt8} (h : parse ws = some (x, n, d)) : lineV s ws = .tuple #[.string (doW s x n d).1, errV (doW s x n d).2.1] ∧ lineS s ws = (doW s x n d).2.2 := by
 unfold lineV lineS
 rw [h]
 exact ⟨rfl, rfl⟩
theorem parse_other {x : List UInt8} {r : List (List UInt8)} (h : x ≠ wWrite) : parse (x :: r) = match manyOf x with
  | none => none
  | some m => match nums r with
    | none => none
    | some ns => if ns.length = m then some (x, ns, []) else none := by
 unfold parse
 exact if_neg h
theorem parse_write {r : List (List UInt8)} : parse (wWrite :: r) = match r with
  | [a, d] => if d = [] then none else match dgN a with
    | none => none
    | some n => some (wWrite, [n], d)
  | _ => none := by
 unfold parse
 exact if_pos rfl
theorem word_mk (X : ByteArray) : ∃ k : List UInt8, X = ⟨k.toArray⟩ := ⟨X.data.toList, by apply ByteArray.ext; simp⟩
theorem parse_snoc_nil {R : List (List UInt8)} : parse (wWrite :: (R ++ [[]])) = none := by
 rw [parse_write]
 match R with
 | [] => rfl
 | [a] => rfl
 | [a, b] => rfl
 | a :: b :: c :: t => rfl
theorem parse_snoc {R : List (List UInt8)} {d : List UInt8} (hd : d ≠ []) : parse (wWrite :: (R ++ [d])) = match nums R with
  | none => none
  | some ns => if ns.length = 1 then some (wWrite, ns, d) else none := by
 rw [parse_write]
 match R with
 | [] => rfl
 | [a] =>
   show (if d = [] then none else _) = _
   rw [if_neg hd, nums, nums]
   cases dgN a <;> rfl
 | a :: b :: t =>
   have e : (match a :: b :: t ++ [d] with
    | [a, d] => if d = [] then none else match dgN a with
      | none => none
      | some n => some (wWrite, [n], d)
    | _ => none) = none := by cases t <;> rfl
   rw [e]
   cases h : nums (a :: b :: t) with
   | none => rfl
   | some ns =>
     have := nums_len h
     simp only [List.length_cons] at this
     show none = if ns.length = 1 then _ else none
     rw [if_neg (by omega)]
theorem snoc_or {α : Type} (l : List α) : l = [] ∨ ∃ r x, l = r ++ [x] := by
 rcases List.eq_nil_or_concat l with h | ⟨a, b, h⟩
 · exact Or.inl h
 · exact Or.inr ⟨a, b, by rw [h, List.concat_eq_append]⟩
theorem words_cell {L : List ByteArray} {i : Nat} (h : i < L.length) : (L.map Value.string).toArray[i]? = some (.string (sth L i)) := by
 unfold sth
 simp [List.getD, List.getElem?_eq_getElem h]
theorem pline (w0 : World) (T : RTabs w0) (R : Thing) (g : Nat) (s : TkS) (hf : Few s 1000) (l : ByteArray) (hl : l.size ≤ 100000) (w : World) (ho : Own w0 [] w [talkT g s, R]) :
  Calls Tryz.prog 114 #[.agg #[.pointer (some ⟨g, 0, none⟩)], .string l] w fun e w' => e = .returned (lineV s (cutAt 32 l.data.toList)) ∧ Own w0 [] w' [talkT g (lineS s (cutAt 32 l.data.toList)), R] := by
 have HF := Lib.hid hf
 have HO := Lib.hid (ho.alloc 129 #[.pointer (some ⟨g, 0, none⟩)])
 obtain ⟨W1, hW1⟩ : ∃ W1, w.alloc (.cells #[.pointer (some ⟨g, 0, none⟩)] 129) = W1 := ⟨_, rfl⟩
 obtain ⟨gx, hgx⟩ : ∃ x, w.heap.size = x := ⟨_, rfl⟩
 rw [hW1, hgx] at HO
 obtain ⟨ws, hws⟩ : ∃ ws, cutAt 32 l.data.toList = ws := ⟨_, rfl⟩
 have HCE := Lib.hid (fun x (hx : x ∈ ws) => cutAt_each (c := 32) (l := l.data.toList) x (by rw [hws]; exact hx))
 have HCN : Hid (ws ≠ []) := Lib.hid (by rw [← hws]; exact cutAt_ne _ _)
 have HCL : Hid (ws.length ≤ l.size + 1) := Lib.hid (by
  rw [← hws]
  have := cutAt_few 32 l.data.toList
  have e : l.data.toList.length = l.size := by rw [Array.length_toList]; rfl
  omega)
 have HLS : Hid (l.data.toList.length = l.size) := Lib.hid (by rw [Array.length_toList]; rfl)
 have HSP := Lib.hid (fun W => split_one l 32 W (by omega))
 rw [hws] at HSP
 rw [hws]
 clear ho hf hws
 go_enter Tryz.func114, Tryz.ntmps114
 go_wp2_with fail
 (try rw [hW1]); (try rw [hgx])
 clear hW1 hgx
 refine (HSP.out _).mono ?_
 rintro e w1 ⟨L, hL, rfl, rfl⟩
 have hne : L ≠ [] := by rintro rfl; exact HCN.out hL.symm
 obtain ⟨x0, r0, rfl⟩ := List.exists_cons_of_ne_nil hne
 clear hne
 obtain ⟨k, rfl⟩ := word_mk x0
 have HLEN : Hid ((r0.map (·.data.toList)).length = r0.length) := Lib.hid (List.length_map _)
 obtain ⟨r, hr⟩ : ∃ r, r0.map (·.data.toList) = r := ⟨_, rfl⟩
 have hws : ws = k :: r := by
  rw [← hL, List.map_cons, hr]
 subst hws
 have HR := Lib.hid hr
 have HB : Hid (BlockIs (W1.alloc (.cells (((⟨k.toArray⟩ : ByteArray) :: r0).map Value.string).toArray 9)) W1.heap.size 9 (((⟨k.toArray⟩ : ByteArray) :: r0).map Value.string).toArray) := Lib.hid (BlockIs.fresh _ _ _)
 have HO1 := Lib.hid (HO.out.later ((Since.refl W1).alloc (.cells (((⟨k.toArray⟩ : ByteArray) :: r0).map Value.string).toArray 9)))
 obtain ⟨W2, hW2⟩ : ∃ W2, W1.alloc (.cells (((⟨k.toArray⟩ : ByteArray) :: r0).map Value.string).toArray 9) = W2 := ⟨_, rfl⟩
 obtain ⟨gw, hgw⟩ : ∃ x, W1.heap.size = x := ⟨_, rfl⟩
 rw [hW2, hgw] at HB
 rw [hW2] at HO1
 have hlen : (((⟨k.toArray⟩ : ByteArray) :: r0)).length = r0.length + 1 := rfl
 rw [hlen, hW2, hgw]
 clear hlen hW2 hgw hL hr
 have HN : Hid (r0.length + 1 ≤ l.size + 1) := Lib.hid (by have := HCL.out; rw [← HLEN.out, HR.out]; exact this)
 have hr9 : r0.length ≤ 100000 := by have := HN.out; omega
 go_wp2_with fail
 refine (pwants _).mono ?_
 rintro e w3 ⟨b, rfl, hM, hs3⟩
 have HM := Lib.hid hM
 have HO3 := Lib.hid (HO1.out.later hs3)
 have HB3 := Lib.hid (HB.out.later hs3)
 have HC3 : Hid (∀ W, Since w3 W → ∀ i, i < r0.length + 1 → W.cell? ⟨gw, i, none⟩ = some (.string (sth ((⟨k.toArray⟩ : ByteArray) :: r0) i))) := Lib.hid (fun W hW i hi => by
  rw [← words_cell (L := (⟨k.toArray⟩ : ByteArray) :: r0) hi]
  exact (HB3.out.later hW).cell i)
 have c0 : w3.cell? ⟨gw, 0, none⟩ = some (.string ⟨k.toArray⟩) := HC3.out _ (Since.refl _) 0 (by omega)
 have hkz : k.length ≤ maxLen := by
  have := (HCE.out k (by simp)).2
  have h2 := HLS.out
  unfold maxLen
  omega
 clear hM hs3
 cases hm : manyOf k with
 | none =>
   have HV := Lib.hid (line_none (s := s) (ws := k :: r) (by
    have hk : k ≠ wWrite := by rintro rfl; exact absurd hm (by decide)
    rw [parse_other hk, hm]))
   have hw : wantF k = none := by unfold wantF; rw [hm]; rfl
   have gu : w3.cell? ⟨1, 0, none⟩ = some (.iface 84 (.int .i64 2)) := HO3.out.since.cell (World.block_lt_of_cell? w0 _ T.u) T.u
   clear hm
   go_wp2_with (refine wpList_look_S _ rfl _ _ 209 rfl 9 3 Tryz.underlying9 Tryz.wantMap (z := .int .i64 0) (by kernel_rfl) b 9 wantF rfl HM.out k rfl hkz none hw ?_)
   go_quiet (fail)
   go_wp2_with fail
   go_ret2
   rw [HV.out.1, HV.out.2]
   exact ⟨rfl, (HO3.out.drewN _).take 2⟩
 | some m =>
   have hw : wantF k = some (.int .i64 m) := by unfold wantF; rw [hm]; rfl
   have HMM := Lib.hid hm
   clear hm
   by_cases hkw : k = wWrite
   case pos =>
    subst hkw
    obtain rfl : m = 1 := by
     have h := HMM.out
     have e : manyOf wWrite = some 1 := rfl
     rw [e] at h
     exact (Option.some.inj h).symm
    have hk2 : (wWrite == [119, 114, 105, 116, 101]) = true := rfl
    have hke : wWrite.isEmpty = false := rfl
    rcases snoc_or r0 with rfl | ⟨r1, t0, rfl⟩
    · have HV := Lib.hid (line_none (s := s) (ws := wWrite :: r) (by rw [← HR.out]; rfl))
      have gu : w3.cell? ⟨1, 0, none⟩ = some (.iface 84 (.int .i64 2)) := HO3.out.since.cell (World.block_lt_of_cell? w0 _ T.u) T.u
      have hz0 : ([] : List ByteArray).length = 0 := rfl
      rw [hz0] at hr9 HC3
      rw [hz0]
      go_wp2_with (refine wpList_look_S _ rfl _ _ 209 rfl 9 3 Tryz.underlying9 Tryz.wantMap (z := .int .i64 0) (by kernel_rfl) b 9 wantF rfl HM.out wWrite rfl hkz _ hw ?_)
      go_quiet (fail)
      go_wp2_with fail
      go_ret2
      rw [HV.out.1, HV.out.2]
      exact ⟨rfl, (HO3.out.drewN _).take 2⟩
    · obtain ⟨tt, rfl⟩ := word_mk t0
      have hla : (r1 ++ [(⟨tt.toArray⟩ : ByteArray)]).length = r1.length + 1 := by rw [List.length_append]; rfl
      have c9 : w3.cell? ⟨gw, r1.length + 1, none⟩ = some (.string ⟨tt.toArray⟩) := by
       have := HC3.out w3 (Since.refl _) (r1.length + 1) (by rw [hla]; omega)
       rw [this]
       unfold sth
       simp
      obtain ⟨RR, hR⟩ : ∃ RR, r1.map (·.data.toList) = RR := ⟨_, rfl⟩
      have hrr : r = RR ++ [tt] := by rw [← HR.out, List.map_append, hR]; rfl
      rw [hla] at hr9 HC3
      rw [hla]
      by_cases htt : tt = []
      · subst htt
        have HV := Lib.hid (line_none (s := s) (ws := wWrite :: r) (by rw [hrr]; exact parse_snoc_nil))
        have gu : w3.cell? ⟨1, 0, none⟩ = some (.iface 84 (.int .i64 2)) := HO3.out.since.cell (World.block_lt_of_cell? w0 _ T.u) T.u
        clear hrr hla hR
        go_wp2_with (refine wpList_look_S _ rfl _ _ 209 rfl 9 3 Tryz.underlying9 Tryz.wantMap (z := .int .i64 0) (by kernel_rfl) b 9 wantF rfl HM.out wWrite rfl hkz _ hw ?_)
        go_quiet (fail)
        go_wp2_with fail
        go_ret2
        rw [HV.out.1, HV.out.2]
        exact ⟨rfl, (HO3.out.drewN _).take 2⟩
      · have hte : tt.isEmpty = false := by
         cases tt with
         | nil => exact absurd rfl htt
         | cons _ _ => rfl
        have HPO := Lib.hid (parse_snoc (R := RR) htt)
        rw [← hrr] at HPO
        have HDZ : Hid (tt.length ≤ 1000000) := Lib.hid (by
         have h1 : tt ∈ wWrite :: r := by rw [hrr]; simp
         have h2 := (HCE.out _ h1).2
         have h3 := HLS.out
         omega)
        have HZ2 : Hid (∀ x ∈ r1, x.size ≤ 1000000) := Lib.hid (fun x hx => by
         have h1 : x.data.toList ∈ wWrite :: r := List.mem_cons_of_mem _ (by rw [hrr]; exact List.mem_append_left _ (by rw [← hR]; exact List.mem_map_of_mem hx))
         have h2 := (HCE.out _ h1).2
         have h3 := HLS.out
         have h4 : x.data.toList.length = x.size := by rw [Array.length_toList]; rfl
         omega)
        have HNM := Lib.hid (pnums (some ⟨gw, 1, none⟩) (r1.length + 1) r1 w3 (T.p.later HO3.out.since) (T.s.later HO3.out.since) (by omega) HZ2.out (fun _ => ⟨gw, 1, rfl, World.block_lt_of_cell? w3 _ c0, fun i hi => by
         have := HC3.out w3 (Since.refl _) (1 + i) (by omega)
         rw [this]
         unfold sth
         rw [Nat.add_comm 1 i]
         simp [List.getD, List.getElem?_append_left hi]⟩))
        rw [hR] at HNM
        have hn1 : (((r1.length : Int) + 1) == 0) = false := by rw [beq_eq_false_iff_ne]; omega
        have hn2 : (((r1.length + 1 : Nat) : Int) == 0) = false := by rw [beq_eq_false_iff_ne]; omega
        clear hrr hla hR htt
        go_wp2_with (refine wpList_look_S _ rfl _ _ 209 rfl 9 3 Tryz.underlying9 Tryz.wantMap (z := .int .i64 0) (by kernel_rfl) b 9 wantF rfl HM.out wWrite rfl hkz _ hw ?_)
        refine HNM.out.mono ?_
        rintro e w4 ⟨hb4, hno⟩
        have HO4 := Lib.hid (HO3.out.later hb4)
        have hs4 : Since w3 w4 := hb4
        cases hns : nums RR with
        | none =>
          rw [hns] at hno
          have hno2 : e = .returned (.tuple #[.slice none 0 0, .bool false]) := hno
          subst hno2
          have HV := Lib.hid (line_none (s := s) (ws := wWrite :: r) (by rw [HPO.out, hns]))
          have gu : w4.cell? ⟨1, 0, none⟩ = some (.iface 84 (.int .i64 2)) := HO4.out.since.cell (World.block_lt_of_cell? w0 _ T.u) T.u
          clear hno hns hb4 hs4
          go_wp2_with fail
          go_quiet (fail)
          go_wp2_with fail
          go_ret2
          rw [HV.out.1, HV.out.2]
          exact ⟨rfl, (HO4.out.drewN _).take 2⟩
        | some ns =>
          rw [hns] at hno
          obtain ⟨A', c', rfl, hl4, hn4⟩ := hno
          have HO5 : Hid (Own w0 [] w4 [talkT g s, R, Thing.block gx 129 #[.pointer (some ⟨g, 0, none⟩)], Thing.lst 3 1 (.slice A' ns.length c') (ns.map fun (n : Nat) => intRow n)]) := Lib.hid (HO3.out.add hb4 (t := Thing.lst 3 1 (.slice A' ns.length c') (ns.map fun (n : Nat) => intRow n)) ⟨hl4, rfl⟩ (fun q hq => hn4 q (by rw [blocks_any A' 0 0 ns.length c']; exact hq)))
          clear hl4 hn4 hb4
          by_cases hmn : ns.length = 1
          case neg =>
           have HV := Lib.hid (line_none (s := s) (ws := wWrite :: r) (by rw [HPO.out, hns]; exact if_neg hmn))
           have hb : (((ns.length : Nat) : Int) != ((1 : Nat) : Int)) = true := by simp; omega
           have gu : w4.cell? ⟨1, 0, none⟩ = some (.iface 84 (.int .i64 2)) := HO5.out.since.cell (World.block_lt_of_cell? w0 _ T.u) T.u
           clear hns hs4
           go_wp2_with fail
           go_quiet (fail)
           go_wp2_with fail
           go_ret2
           rw [HV.out.1, HV.out.2]
           exact ⟨rfl, (HO5.out.drewN _).take 2⟩
          have HV := Lib.hid (line_some (s := s) (ws := wWrite :: r) (x := wWrite) (n := ns) (d := tt) (by rw [HPO.out, hns]; exact if_pos hmn))
          have HDO := Lib.hid (fun W (h : Own w0 [] W [talkT g s, R, Thing.lst 3 1 (.slice A' ns.length c') (ns.map fun (n : Nat) => intRow n)]) => pdo w0 T R g s HF.out wWrite ns (tt) (by rw [HMM.out, hmn]) (nums_max hns) HDZ.out A' c' W h)
          have HP5 := Lib.hid (HO5.out.pick [0, 1, 3] (L' := [talkT g s, R, Thing.lst 3 1 (.slice A' ns.length c') (ns.map fun (n : Nat) => intRow n)]) (by decide) (by
           intro i t hi
           match i, hi with
           | 0, hi => exact ⟨0, rfl, hi⟩
           | 1, hi => exact ⟨1, rfl, hi⟩
           | 2, hi => exact ⟨3, rfl, hi⟩
           | i + 3, hi => simp at hi))
          have d0 : w4.cell? ⟨gw, 0, none⟩ = some (.string ⟨wWrite.toArray⟩) := HC3.out _ hs4 0 (by omega)
          have dx : w4.cell? ⟨gx, 0, none⟩ = some (.pointer (some ⟨g, 0, none⟩)) := (HO5.out.blk 2 rfl).cell 0
          obtain ⟨nn, hnn⟩ : ∃ nn, ns.length = nn := ⟨_, rfl⟩
          rw [hnn] at HDO HP5 HO5 hmn
          rw [hnn]
          clear hnn
          subst hmn
          clear hns hs4
          have hp0 : (0 : Int) < (r1.length : Int) + 1 + 1 := by omega
          have hp1 : 0 < r1.length + 1 + 1 := by omega
          go_wp2_with fail
          go_region_law (go_simp; go_at_call 144; refine (HDO.out _ ?_).mono ?_; (first | exact HP5.out | exact HP5.out.drew); rintro e w5 ⟨rfl, ho5⟩; have HO6 := Lib.hid ho5; clear ho5)
          all_goals
           go_wp2_with fail
           go_ret2
           rw [HV.out.1, HV.out.2]
           exact ⟨rfl, HO6.out⟩
   have hk2 : (k == [119, 114, 105, 116, 101]) = false := by
    rw [beq_eq_false_iff_ne]
    exact hkw
   have HDZ : Hid (([] : List UInt8).length ≤ 1000000) := Lib.hid (by simp)
   have HPO := Lib.hid (parse_other (r := r) hkw)
   rw [HMM.out] at HPO
   cases r0 with
   | nil =>
     have HNM := Lib.hid (pnums (some ⟨gw, 0, none⟩) 0 ([] : List ByteArray) w3 (T.p.later HO3.out.since) (T.s.later HO3.out.since) (by simp) (by simp) (fun h => absurd rfl h))
     rw [HR.out] at HNM
     have hz0 : ([] : List ByteArray).length = 0 := rfl
     rw [hz0] at HNM hr9 HC3
     rw [hz0]
     go_wp2_with (refine wpList_look_S _ rfl _ _ 209 rfl 9 3 Tryz.underlying9 Tryz.wantMap (z := .int .i64 0) (by kernel_rfl) b 9 wantF rfl HM.out k rfl hkz _ hw ?_)
     refine HNM.out.mono ?_
     rintro e w4 ⟨hb4, hno⟩
     have HO4 := Lib.hid (HO3.out.later hb4)
     have hs4 : Since w3 w4 := hb4
     cases hns : nums (r) with
     | none =>
       rw [hns] at hno
       have hno2 : e = .returned (.tuple #[.slice none 0 0, .bool false]) := hno
       subst hno2
       have HV := Lib.hid (line_none (s := s) (ws := k :: r) (by rw [HPO.out, hns]))
       have gu : w4.cell? ⟨1, 0, none⟩ = some (.iface 84 (.int .i64 2)) := HO4.out.since.cell (World.block_lt_of_cell? w0 _ T.u) T.u
       clear hno hns hb4 hs4
       go_wp2_with fail
       go_quiet (fail)
       go_wp2_with fail
       go_ret2
       rw [HV.out.1, HV.out.2]
       exact ⟨rfl, (HO4.out.drewN _).take 2⟩
     | some ns =>
       rw [hns] at hno
       obtain ⟨A', c', rfl, hl4, hn4⟩ := hno
       have HO5 : Hid (Own w0 [] w4 [talkT g s, R, Thing.block gx 129 #[.pointer (some ⟨g, 0, none⟩)], Thing.lst 3 1 (.slice A' ns.length c') (ns.map fun (n : Nat) => intRow n)]) := Lib.hid (HO3.out.add hb4 (t := Thing.lst 3 1 (.slice A' ns.length c') (ns.map fun (n : Nat) => intRow n)) ⟨hl4, rfl⟩ (fun q hq => hn4 q (by rw [blocks_any A' 0 0 ns.length c']; exact hq)))
       clear hl4 hn4 hb4
       by_cases hmn : ns.length = m
       case neg =>
        have HV := Lib.hid (line_none (s := s) (ws := k :: r) (by rw [HPO.out, hns]; exact if_neg hmn))
        have hb : (((ns.length : Nat) : Int) != ((m : Nat) : Int)) = true := by simp; omega
        have gu : w4.cell? ⟨1, 0, none⟩ = some (.iface 84 (.int .i64 2)) := HO5.out.since.cell (World.block_lt_of_cell? w0 _ T.u) T.u
        clear hns hs4
        go_wp2_with fail
        go_quiet (fail)
        go_wp2_with fail
        go_ret2
        rw [HV.out.1, HV.out.2]
        exact ⟨rfl, (HO5.out.drewN _).take 2⟩
       have HV := Lib.hid (line_some (s := s) (ws := k :: r) (x := k) (n := ns) (d := []) (by rw [HPO.out, hns]; exact if_pos hmn))
       have HDO := Lib.hid (fun W (h : Own w0 [] W [talkT g s, R, Thing.lst 3 1 (.slice A' ns.length c') (ns.map fun (n : Nat) => intRow n)]) => pdo w0 T R g s HF.out k ns ([]) (by rw [HMM.out, hmn]) (nums_max hns) HDZ.out A' c' W h)
       have HP5 := Lib.hid (HO5.out.pick [0, 1, 3] (L' := [talkT g s, R, Thing.lst 3 1 (.slice A' ns.length c') (ns.map fun (n : Nat) => intRow n)]) (by decide) (by
        intro i t hi
        match i, hi with
        | 0, hi => exact ⟨0, rfl, hi⟩
        | 1, hi => exact ⟨1, rfl, hi⟩
        | 2, hi => exact ⟨3, rfl, hi⟩
        | i + 3, hi => simp at hi))
       have d0 : w4.cell? ⟨gw, 0, none⟩ = some (.string ⟨k.toArray⟩) := HC3.out _ hs4 0 (by omega)
       have dx : w4.cell? ⟨gx, 0, none⟩ = some (.pointer (some ⟨g, 0, none⟩)) := (HO5.out.blk 2 rfl).cell 0
       subst hmn
       have hb : (((ns.length : Nat) : Int) != ((ns.length : Nat) : Int)) = false := by simp
       clear hns hs4
       go_wp2_with fail
       go_region_law (go_simp; go_at_call 144; refine (HDO.out _ ?_).mono ?_; (first | exact HP5.out | exact HP5.out.drew); rintro e w5 ⟨rfl, ho5⟩; have HO6 := Lib.hid ho5; clear ho5)
       all_goals
        go_wp2_with fail
        go_ret2
        rw [HV.out.1, HV.out.2]
        exact ⟨rfl, HO6.out⟩
   | cons y r1 =>
     have hys : (y :: r1).length = r1.length + 1 := rfl
     rw [hys]
     have HZ2 : Hid (∀ x ∈ y :: r1, x.size ≤ 1000000) := Lib.hid (fun x hx => by
      have h1 : x.data.toList ∈ k :: r := List.mem_cons_of_mem _ (by rw [← HR.out]; exact List.mem_map_of_mem hx)
      have h2 := (HCE.out _ h1).2
      have h3 := HLS.out
      have h4 : x.data.toList.length = x.size := by rw [Array.length_toList]; rfl
      omega)
     have HNM := Lib.hid (pnums (some ⟨gw, 1, none⟩) (r1.length + 1) (y :: r1) w3 (T.p.later HO3.out.since) (T.s.later HO3.out.since) (by have := HN.out; omega) HZ2.out (fun _ => ⟨gw, 1, rfl, World.block_lt_of_cell? w3 _ c0, fun i hi => by
      have := HC3.out w3 (Since.refl _) (1 + i) (by rw [hys] at hi; omega)
      rw [this]
      unfold sth
      rw [Nat.add_comm 1 i]
      rfl⟩))
     rw [HR.out, hys] at HNM
     rw [hys] at hr9
     go_wp2_with (refine wpList_look_S _ rfl _ _ 209 rfl 9 3 Tryz.underlying9 Tryz.wantMap (z := .int .i64 0) (by kernel_rfl) b 9 wantF rfl HM.out k rfl hkz _ hw ?_)
     refine HNM.out.mono ?_
     rintro e w4 ⟨hb4, hno⟩
     have HO4 := Lib.hid (HO3.out.later hb4)
     have hs4 : Since w3 w4 := hb4
     cases hns : nums (r) with
     | none =>
       rw [hns] at hno
       have hno2 : e = .returned (.tuple #[.slice none 0 0, .bool false]) := hno
       subst hno2
       have HV := Lib.hid (line_none (s := s) (ws := k :: r) (by rw [HPO.out, hns]))
       have gu : w4.cell? ⟨1, 0, none⟩ = some (.iface 84 (.int .i64 2)) := HO4.out.since.cell (World.block_lt_of_cell? w0 _ T.u) T.u
       clear hno hns hb4 hs4
       go_wp2_with fail
       go_quiet (fail)
       go_wp2_with fail
       go_ret2
       rw [HV.out.1, HV.out.2]
       exact ⟨rfl, (HO4.out.drewN _).take 2⟩
     | some ns =>
       rw [hns] at hno
       obtain ⟨A', c', rfl, hl4, hn4⟩ := hno
       have HO5 : Hid (Own w0 [] w4 [talkT g s, R, Thing.block gx 129 #[.pointer (some ⟨g, 0, none⟩)], Thing.lst 3 1 (.slice A' ns.length c') (ns.map fun (n : Nat) => intRow n)]) := Lib.hid (HO3.out.add hb4 (t := Thing.lst 3 1 (.slice A' ns.length c') (ns.map fun (n : Nat) => intRow n)) ⟨hl4, rfl⟩ (fun q hq => hn4 q (by rw [blocks_any A' 0 0 ns.length c']; exact hq)))
       clear hl4 hn4 hb4
       by_cases hmn : ns.length = m
       case neg =>
        have HV := Lib.hid (line_none (s := s) (ws := k :: r) (by rw [HPO.out, hns]; exact if_neg hmn))
        have hb : (((ns.length : Nat) : Int) != ((m : Nat) : Int)) = true := by simp; omega
        have gu : w4.cell? ⟨1, 0, none⟩ = some (.iface 84 (.int .i64 2)) := HO5.out.since.cell (World.block_lt_of_cell? w0 _ T.u) T.u
        clear hns hs4
        go_wp2_with fail
        go_quiet (fail)
        go_wp2_with fail
        go_ret2
        rw [HV.out.1, HV.out.2]
        exact ⟨rfl, (HO5.out.drewN _).take 2⟩
       have HV := Lib.hid (line_some (s := s) (ws := k :: r) (x := k) (n := ns) (d := []) (by rw [HPO.out, hns]; exact if_pos hmn))
       have HDO := Lib.hid (fun W (h : Own w0 [] W [talkT g s, R, Thing.lst 3 1 (.slice A' ns.length c') (ns.map fun (n : Nat) => intRow n)]) => pdo w0 T R g s HF.out k ns ([]) (by rw [HMM.out, hmn]) (nums_max hns) HDZ.out A' c' W h)
       have HP5 := Lib.hid (HO5.out.pick [0, 1, 3] (L' := [talkT g s, R, Thing.lst 3 1 (.slice A' ns.length c') (ns.map fun (n : Nat) => intRow n)]) (by decide) (by
        intro i t hi
        match i, hi with
        | 0, hi => exact ⟨0, rfl, hi⟩
        | 1, hi => exact ⟨1, rfl, hi⟩
        | 2, hi => exact ⟨3, rfl, hi⟩
        | i + 3, hi => simp at hi))
       have d0 : w4.cell? ⟨gw, 0, none⟩ = some (.string ⟨k.toArray⟩) := HC3.out _ hs4 0 (by omega)
       have dx : w4.cell? ⟨gx, 0, none⟩ = some (.pointer (some ⟨g, 0, none⟩)) := (HO5.out.blk 2 rfl).cell 0
       subst hmn
       have hb : (((ns.length : Nat) : Int) != ((ns.length : Nat) : Int)) = false := by simp
       clear hns hs4
       have hp0 : (0 : Int) < (r1.length : Int) + 1 + 1 := by omega
       have hp1 : 0 < r1.length + 1 + 1 := by omega
       go_wp2_with fail
       go_region_law (go_simp; go_at_call 144; refine (HDO.out _ ?_).mono ?_; (first | exact HP5.out | exact HP5.out.drew); rintro e w5 ⟨rfl, ho5⟩; have HO6 := Lib.hid ho5; clear ho5)
       all_goals
        go_wp2_with fail
        go_ret2
        rw [HV.out.1, HV.out.2]
        exact ⟨rfl, HO6.out⟩
theorem pname (n : Int) (w : World) : Calls Tryz.prog 115 #[.int .i64 n] w fun e w' => e = .returned (.string (eName n)) ∧ w = w' := by
 obtain ⟨X, hX⟩ : ∃ X, eName n = X := ⟨_, rfl⟩
 rw [hX]
 have HX := Lib.hid hX
 clear hX
 by_cases h0 : n = 0
 · subst h0
   have hx : X = eName 0 := HX.out.symm
   subst hx
   go_enter Tryz.func115, Tryz.ntmps115
   go_wp2_with fail
   go_ret
   exact ⟨rfl, rfl⟩
 have q0 : (n == 0) = false := by simpa using h0
 by_cases h1 : n = 1
 · subst h1
   have hx : X = eName 1 := HX.out.symm
   subst hx
   go_enter Tryz.func115, Tryz.ntmps115
   go_wp2_with fail
   go_ret
   exact ⟨rfl, rfl⟩
 have q1 : (n == 1) = false := by simpa using h1
 by_cases h2 : n = 2
 · subst h2
   have hx : X = eName 2 := HX.out.symm
   subst hx
   go_enter Tryz.func115, Tryz.ntmps115
   go_wp2_with fail
   go_ret
   exact ⟨rfl, rfl⟩
 have q2 : (n == 2) = false := by simpa using h2
 by_cases h3 : n = 3
 · subst h3
   have hx : X = eName 3 := HX.out.symm
   subst hx
   go_enter Tryz.func115, Tryz.ntmps115
   go_wp2_with fail
   go_ret
   exact ⟨rfl, rfl⟩
 have q3 : (n == 3) = false := by simpa using h3
 by_cases h4 : n = 4
 · subst h4
   have hx : X = eName 4 := HX.out.symm
   subst hx
   go_enter Tryz.func115, Tryz.ntmps115
   go_wp2_with fail
   go_ret
   exact ⟨rfl, rfl⟩
 have q4 : (n == 4) = false := by simpa using h4
 by_cases h5 : n = 5
 · subst h5
   have hx : X = eName 5 := HX.out.symm
   subst hx
   go_enter Tryz.func115, Tryz.ntmps115
   go_wp2_with fail
   go_ret
   exact ⟨rfl, rfl⟩
 have q5 : (n == 5) = false := by simpa using h5
 by_cases h6 : n = 6
 · subst h6
   have hx : X = eName 6 := HX.out.symm
   subst hx
   go_enter Tryz.func115, Tryz.ntmps115
   go_wp2_with fail
   go_ret
   exact ⟨rfl, rfl⟩
 have q6 : (n == 6) = false := by simpa using h6
 by_cases h7 : n = 7
 · subst h7
   have hx : X = eName 7 := HX.out.symm
   subst hx
   go_enter Tryz.func115, Tryz.ntmps115
   go_wp2_with fail
   go_ret
   exact ⟨rfl, rfl⟩
 have q7 : (n == 7) = false := by simpa using h7
 by_cases h8 : n = 8
 · subst h8
   have hx : X = eName 8 := HX.out.symm
   subst hx
   go_enter Tryz.func115, Tryz.ntmps115
   go_wp2_with fail
   go_ret
   exact ⟨rfl, rfl⟩
 have q8 : (n == 8) = false := by simpa using h8
 have hx : X = ⟨#[69, 114, 114, 110, 111]⟩ := by
  rw [← HX.out]
  unfold eName
  rw [if_neg h0, if_neg h1, if_neg h2, if_neg h3, if_neg h4, if_neg h5, if_neg h6, if_neg h7, if_neg h8]
 subst hx
 clear h0 h1 h2 h3 h4 h5 h6 h7 h8
 go_enter Tryz.func115, Tryz.ntmps115
 go_wp2_with fail
 go_ret
 exact ⟨rfl, rfl⟩
theorem panswer (w0 : World) (T : RTabs w0) (R : Thing) (g : Nat) (s : TkS) (hf : Few s 1000) (l : ByteArray) (hl : l.size ≤ 100000) (w : World) (ho : Own w0 [] w [talkT g s, R]) :
  Calls Tryz.prog 77 #[.agg #[.pointer (some ⟨g, 0, none⟩)], .string l] w fun e w' => e = .returned (.string (ans s l.data.toList).1) ∧ Own w0 [] w' [talkT g (ans s l.data.toList).2, R] := by
 have HO := Lib.hid (ho.later ((Since.refl w).alloc (.cells #[.pointer (some ⟨g, 0, none⟩)] 129)))
 obtain ⟨ws, hws⟩ : ∃ ws, cutAt 32 l.data.toList = ws := ⟨_, rfl⟩
 have HA : Hid (ans s l.data.toList = ansW s ws) := Lib.hid (by unfold ans; rw [hws])
 have HLI := Lib.hid (pline w0 T R g s hf l hl _ HO.out)
 rw [hws] at HLI
 rw [HA.out]
 clear ho hf hl hws
 cases hp : parse ws with
 | none =>
   have HV := line_none (s := s) hp
   rw [HV.1, HV.2] at HLI
   have HW : Hid (ansW s ws = (bBad, s)) := Lib.hid (by unfold ansW; rw [hp])
   rw [HW.out]
   clear HV hp HA
   go_enter Tryz.func77, Tryz.ntmps77
   go_wp2_with fail
   refine HLI.out.mono ?_
   rintro e w1 ⟨rfl, ho1⟩
   have HO1 := Lib.hid ho1
   clear ho1
   have cb : ((w1.alloc (.cells #[.nilIface] 175)).alloc (.cells #[.int .i64 0] 84)).cell? ⟨w1.heap.size, 0, none⟩ = some .nilIface := ((BlockIs.fresh w1 175 #[.nilIface]).alloc _).cell 0
   have fb : ((w1.alloc (.cells #[.nilIface] 175)).alloc (.cells #[.int .i64 0] 84)).frozen? ⟨w1.heap.size, 0, none⟩ = false := ((BlockIs.fresh w1 175 #[.nilIface]).alloc _).free 0
   have hs2 : Since w1 ((w1.alloc (.cells #[.nilIface] 175)).alloc (.cells #[.int .i64 0] 84)) := (by exact Since.alloc (Since.alloc (Since.refl _) _) _)
   have HH := Lib.hid (asb_hit ⟨w1.heap.size, 0, none⟩ .nilIface _ (T.e.later (HO1.out.since.later hs2)) cb fb)
   clear cb fb
   go_wp2_with fail
   refine HH.out.mono ?_
   rintro e w2 ⟨rfl, rfl⟩
   go_wp2_with fail
   go_ret
   refine ⟨rfl, HO1.out.later ?_⟩
   exact (by exact Since.alloc (Since.alloc (Since.alloc (Since.alloc (Since.alloc (Since.alloc (Since.refl _) _) _) _) _) _) _)
 | some t =>
   obtain ⟨x, ns, d⟩ := t
   have HV := line_some (s := s) hp
   rw [HV.1, HV.2] at HLI
   have HW : Hid (ansW s ws = (if (doW s x ns d).2.1 = 0 then (doW s x ns d).1 else eName (doW s x ns d).2.1, (doW s x ns d).2.2)) := Lib.hid (by unfold ansW; rw [hp])
   rw [HW.out]
   clear HV hp HA HW
   generalize (doW s x ns d).1 = X at *
   generalize (doW s x ns d).2.1 = E at *
   generalize (doW s x ns d).2.2 = s2 at *
   by_cases hE : E = 0
   · subst hE
     rw [errV_zero] at HLI
     rw [if_pos rfl]
     go_enter Tryz.func77, Tryz.ntmps77
     go_wp2_with fail
     refine HLI.out.mono ?_
     rintro e w1 ⟨rfl, ho1⟩
     have HO1 := Lib.hid ho1
     clear ho1
     have HO2 := Lib.hid (HO1.out.later (show Since w1 ((w1.alloc (.cells #[.nilIface] 175)).alloc (.cells #[.int .i64 0] 84)) from ((by exact Since.alloc (Since.alloc (Since.refl _) _) _))))
     go_wp2_with (go_at_call 85; refine (as_nil _ _).mono ?_; rintro e w2 ⟨rfl, rfl⟩)
     go_ret
     exact ⟨rfl, HO2.out⟩
   · rw [errV_pos hE] at HLI
     rw [if_neg hE]
     clear hE
     go_enter Tryz.func77, Tryz.ntmps77
     go_wp2_with fail
     refine HLI.out.mono ?_
     rintro e w1 ⟨rfl, ho1⟩
     have HO1 := Lib.hid ho1
     clear ho1
     have hs2 : Since w1 ((w1.alloc (.cells #[.nilIface] 175)).alloc (.cells #[.int .i64 0] 84)) := (by exact Since.alloc (Since.alloc (Since.refl _) _) _)
     have HB : Hid (BlockIs ((w1.alloc (.cells #[.nilIface] 175)).alloc (.cells #[.int .i64 0] 84)) (w1.heap.size + 1) 84 #[.int .i64 0]) := Lib.hid (BlockIs.fresh_at (by simp))
     have HM := Lib.hid (asb_miss E ⟨w1.heap.size, 0, none⟩ _ (T.e.later (HO1.out.since.later hs2)))
     go_wp2_with fail
     refine HM.out.mono ?_
     rintro e w2 ⟨rfl, hb2⟩
     have hs3 : Since w1 w2 := hs2.later hb2
     have HB2 := Lib.hid (HB.out.later hb2)
     have HH := Lib.hid (as_hit E ⟨w1.heap.size + 1, 0, none⟩ (.int .i64 0) w2 (T.e.later (HO1.out.since.later hs3)) (HB2.out.cell 0) (HB2.out.free 0))
     clear hb2
     go_wp2_with fail
     refine HH.out.mono ?_
     rintro e w3 ⟨rfl, rfl⟩
     have hlt := HB2.out.lt
     have hs5 : Since w1 (((((w2.alloc (.cells #[.pointer (some ⟨w1.heap.size + 1, 0, none⟩)] 148)).alloc (.cells #[.pointer (some ⟨12, 148, none⟩), .pointer (some ⟨w2.heap.size, 0, none⟩), .int .u64 150] 181)).alloc (.cells #[.pointer (some ⟨12, 148, none⟩), .pointer (some ⟨w2.heap.size, 0, none⟩), .int .u64 150] 181)).alloc (.cells #[.int .i64 E] 84)).setCell ⟨w1.heap.size + 1, 0, none⟩ (.int .i64 E)) := (by exact Since.set (Since.alloc (Since.alloc (Since.alloc (Since.alloc hs3 _) _) _) _) (by first | omega | (simp; done) | (simp; omega)) _)
     have HO3 := Lib.hid (HO1.out.later hs5)
     have ce : (((((w2.alloc (.cells #[.pointer (some ⟨w1.heap.size + 1, 0, none⟩)] 148)).alloc (.cells #[.pointer (some ⟨12, 148, none⟩), .pointer (some ⟨w2.heap.size, 0, none⟩), .int .u64 150] 181)).alloc (.cells #[.pointer (some ⟨12, 148, none⟩), .pointer (some ⟨w2.heap.size, 0, none⟩), .int .u64 150] 181)).alloc (.cells #[.int .i64 E] 84)).setCell ⟨w1.heap.size + 1, 0, none⟩ (.int .i64 E)).cell? ⟨w1.heap.size + 1, 0, none⟩ = some (.int .i64 E) := (((((HB2.out.alloc _).alloc _).alloc _).alloc _).put 0 (.int .i64 E)).cell 0
     go_wp2_with (go_at_call 115; refine (pname E _).mono ?_; rintro e w4 ⟨rfl, rfl⟩)
     go_ret
     exact ⟨rfl, HO3.out⟩
def CellsAt (w : World) (k : Nat) : Prop := ∃ o : Obj, w.heap[k]? = some o ∧ o.isCells = true
def Shr (t : Thing) : Prop := ∀ (w : World) (S : List Nat), t.is w S → ∃ S' : List Nat, (∀ k, k ∈ S' → k ∈ S) ∧ t.is w S' ∧ ∀ k, k ∈ S' → CellsAt w k
theorem cells_block {w : World} {g : Nat} {t : TypeId} {cs : Array Value} (h : BlockIs w g t cs) : CellsAt w g := ⟨_, h, rfl⟩
theorem cells_lst {w : World} {E size : Nat} {v : Value} {es : List (List Value)} (h : Lst w E size v es) : ∀ k, k ∈ blocks v → CellsAt w k := by
 intro k hk
 rcases h.own.2 with ⟨rfl, _⟩ | ⟨g, cap, cur, rfl, _, hg, _⟩
 · simp [Value.ownBlock] at hk
 · have : g = k := by simpa [Value.ownBlock] using hk
   subst this
   exact ⟨_, hg, rfl⟩
theorem Shr.block (g : Nat) (t : TypeId) (cs : Array Value) : Shr (Thing.block g t cs) := fun w S h => ⟨S, fun k hk => hk, h, fun k hk => by
 rw [h.2, List.mem_singleton] at hk
 subst hk
 exact cells_block h.1⟩
theorem Shr.lst (E size : Nat) (v : Value) (es : List (List Value)) : Shr (Thing.lst E size v es) := fun w S h => ⟨S, fun k hk => hk, h, fun k hk => cells_lst h.1 k (by rw [← h.2]; exact hk)⟩
theorem Shr.ex {α : Type} {f : α → Thing} (h : ∀ a, Shr (f a)) : Shr (Thing.ex f) := fun w S ⟨a, ha⟩ => by
 obtain ⟨S', h1, h2, h3⟩ := h a w S ha
 exact ⟨S', h1, ⟨a, h2⟩, h3⟩
theorem Shr.with_ {p : Prop} {t : Thing} (h : Shr t) : Shr (Thing.with_ p t) := fun w S ⟨hp, ht⟩ => by
 obtain ⟨S', h1, h2, h3⟩ := h w S ht
 exact ⟨S', h1, ⟨hp, h2⟩, h3⟩
theorem Shr.all {L : List Thing} (h : ∀ t, t ∈ L → Shr t) : Shr (Thing.all L) := fun w S ⟨hlt, own, ho⟩ => by
 obtain ⟨S', h1, h2⟩ := gather (L := L) (w := w) (p := fun i k => own k = i ∧ k ∈ S ∧ CellsAt w k) (fun i t hi => by
  obtain ⟨Si, j1, j2⟩ := ho i t hi
  obtain ⟨Sj, q1, q2, q3⟩ := h t (List.mem_of_getElem? hi) w Si j1
  exact ⟨Sj, q2, fun k hk => ⟨(j2 k (q1 k hk)).1, (j2 k (q1 k hk)).2, q3 k hk⟩⟩)
 refine ⟨S', fun k hk => ?_, ⟨fun k hk => ?_, own, fun i t hi => ?_⟩, fun k hk => ?_⟩
 · obtain ⟨i, hp, _⟩ := h2 k hk
   exact hp.2.1
 · obtain ⟨i, _, hz⟩ := h2 k hk
   exact hz
 · obtain ⟨Si, a, b⟩ := h1 i t hi
   exact ⟨Si, a, fun k hk => ⟨(b k hk).1.1, (b k hk).2⟩⟩
 · obtain ⟨i, hp, _⟩ := h2 k hk
   exact hp.2.2
theorem shr_inner : ∀ (vs : List Value) (L : List (List Pc)), ∀ t, t ∈ inner vs L → Shr t
 | [], _, t, h => by simp [inner] at h
 | _ :: _, [], t, h => by simp [inner] at h
 | v :: vs, ps :: L, t, h => by
   rw [inner] at h
   rcases List.mem_cons.1 h with rfl | h
   · exact Shr.lst _ _ _ _
   · exact shr_inner vs L t h
theorem shr_end (g : Nat) (s : EnS) : Shr (endT g s) := Shr.ex fun p => Shr.with_ (Shr.all fun t ht => by
 unfold enParts at ht
 simp only [List.mem_cons] at ht
 rcases ht with rfl | rfl | rfl | rfl | rfl | ht
 · exact Shr.block _ _ _
 · exact Shr.block _ _ _
 · exact Shr.block _ _ _
 · exact Shr.lst _ _ _ _
 · exact Shr.lst _ _ _ _
 · exact shr_inner _ _ t ht)
theorem shr_link (g : Nat) (L : List Let) : Shr (linkT g L) := fun w S h => by
 obtain ⟨v, hz, rfl⟩ := h
 refine ⟨g :: blocks v, fun k hk => hk, ⟨v, hz, rfl⟩, fun k hk => ?_⟩
 rcases List.mem_cons.1 hk with rfl | hk
 · exact cells_block hz.bl
 · exact cells_lst hz.ls k hk
theorem shr_talk (g : Nat) (s : TkS) : Shr (talkT g s) := Shr.ex fun p => Shr.with_ (Shr.all fun t ht => by
 unfold tkParts at ht
 simp only [List.mem_cons, List.not_mem_nil, or_false] at ht
 rcases ht with rfl | rfl | rfl | rfl
 · exact Shr.block _ _ _
 · exact shr_link _ _
 · exact shr_end _ _
 · exact shr_end _ _)
def stayT (w0 : World) (K : List Nat) : Thing where
 is w S := (∀ k, k ∈ S → k < w.heap.size) ∧ S = K ∧ (∀ k, k ∈ K → w.heap[k]? = w0.heap[k]?) ∧ w0.heap.size ≤ w.heap.size
 lt h k hk := h.1 k hk
 kept h ho hd := ⟨fun k hk => Nat.lt_of_lt_of_le (h.1 k hk) ho.size, h.2.1, fun k hk => (ho.block k (h.1 k (by rw [h.2.1]; exact hk)) (hd k (by rw [h.2.1]; exact hk))).trans (h.2.2.1 k hk), Nat.le_trans h.2.2.2 ho.size⟩
def others (w : World) (S : List Nat) : List Nat := (List.range w.heap.size).filter fun k => !S.contains k
theorem mem_others {w : World} {S : List Nat} {k : Nat} : k ∈ others w S ↔ k < w.heap.size ∧ k ∉ S := by
 unfold others
 simp
theorem leaves_own {P : Program} {f : FuncId} {args : Array Value} {w0 w : World} {S : List Nat} {t t' : Thing} {r : Value} (h0 : Since w0 w) (ht : t.is w S) (hS : ∀ k, k ∈ S → w0.heap.size ≤ k)
  (hc : ∀ R : Thing, Own w0 [] w [t, R] → Calls P f args w fun e w' => e = .returned r ∧ Own w0 [] w' [t', R]) : Calls P f args w fun e w' => e = .returned r ∧ Leaves w w' S t' := by
 have ho : Own w0 [] w [t, stayT w ((others w S).filter fun k => decide (w0.heap.size ≤ k))] := by
  refine ⟨Out.of_below h0 [], fun k => if k ∈ S then 0 else 1, fun i u hi => ?_⟩
  match i, hi with
  | 0, hi =>
    simp only [List.getElem?_cons_zero, Option.some.injEq] at hi
    subst hi
    exact ⟨S, ht, fun k hk => ⟨if_pos hk, Or.inr (hS k hk)⟩⟩
  | 1, hi =>
    simp only [List.getElem?_cons_succ, List.getElem?_cons_zero, Option.some.injEq] at hi
    subst hi
    refine ⟨_, ⟨fun k hk => ?_, rfl, fun k _ => rfl, Nat.le_refl _⟩, fun k hk => ?_⟩
    · exact (mem_others.1 (List.mem_filter.1 hk).1).1
    · obtain ⟨h1, h2⟩ := List.mem_filter.1 hk
      exact ⟨if_neg (mem_others.1 h1).2, Or.inr (by simpa using h2)⟩
  | i + 2, hi => simp at hi
 refine (hc _ ho).mono ?_
 rintro e w' ⟨rfl, hw⟩
 refine ⟨rfl, ?_⟩
 obtain ⟨own, hh⟩ := hw.has
 obtain ⟨S1, a1, b1⟩ := hh 0 _ rfl
 obtain ⟨S2, a2, b2⟩ := hh 1 _ rfl
 have hs := hw.since
 obtain ⟨_, rfl, c1, c2⟩ := a2
 refine ⟨S1, a1, ⟨hs.os.trans h0.os.symm, hs.tape.trans h0.tape.symm, hs.output.trans h0.output.symm, c2, fun k hk hn => ?_⟩, fun k hk => ?_⟩
 · rcases Nat.lt_or_ge k w0.heap.size with h | h
   · exact (hs.block k h).trans (h0.block k h).symm
   · exact c1 k (List.mem_filter.2 ⟨mem_others.2 ⟨hk, hn⟩, by simpa using h⟩)
 · obtain ⟨o1, o2⟩ := b1 k hk
   have hge : w0.heap.size ≤ k := by
    rcases o2 with h | h
    · simp at h
    · exact h
   rcases Nat.lt_or_ge k w.heap.size with h | h
   · left
     rcases Classical.em (k ∈ S) with hm | hm
     · exact hm
     · exfalso
       have := (b2 k (List.mem_filter.2 ⟨mem_others.2 ⟨h, hm⟩, by simpa using hge⟩)).1
       omega
   · exact Or.inr h
theorem answerL (w0 : World) (T : RTabs w0) (g : Nat) (s : TkS) (hf : Few s 1000) (l : ByteArray) (hl : l.size ≤ 100000) (w : World) (S : List Nat) (h0 : Since w0 w) (ht : (talkT g s).is w S) (hS : ∀ k, k ∈ S → w0.heap.size ≤ k) :
  Calls Tryz.prog 77 #[.agg #[.pointer (some ⟨g, 0, none⟩)], .string l] w fun e w' => e = .returned (.string (ans s l.data.toList).1) ∧ Leaves w w' S (talkT g (ans s l.data.toList).2) :=
 leaves_own h0 ht hS (fun R ho => panswer w0 T R g s hf l hl w ho)
def bldT (b : Nat) (l : List UInt8) : Thing where
 is w S := ∃ p v, (p = .pointer none ∨ p = .pointer (some ⟨b, 0, none⟩)) ∧ w.heap[b]? = some (.cells #[p, v] 133 (0, 0)) ∧ w.ownsRowF 0 5 1 v l.length (Lib.byteCells l) ∧ S = b :: blocks v
 lt h k hk := by
  obtain ⟨p, v, _, h2, h3, rfl⟩ := h
  rcases List.mem_cons.1 hk with rfl | hk
  · exact (Array.getElem?_eq_some_iff.1 h2).1
  · exact (h3.lt k (by simpa [Option.mem_toList] using hk)).2
 kept h ho hd := by
  obtain ⟨p, v, h1, h2, h3, rfl⟩ := h
  refine ⟨p, v, h1, (ho.block b (Array.getElem?_eq_some_iff.1 h2).1 (hd b (by simp))).trans h2, ⟨h3.1, ?_⟩, rfl⟩
  rcases h3.2 with hn | ⟨g, cap, cur, fz, rfl, hb, hg, rest⟩
  · exact Or.inl hn
  · exact Or.inr ⟨g, cap, cur, fz, rfl, hb, (ho.block g (Array.getElem?_eq_some_iff.1 hg).1 (hd g (by simp [Value.ownBlock]))).trans hg, rest⟩
theorem shr_bld (b : Nat) (l : List UInt8) : Shr (bldT b l) := fun w S h => by
 obtain ⟨p, v, h1, h2, h3, rfl⟩ := h
 refine ⟨b :: blocks v, fun k hk => hk, ⟨p, v, h1, h2, h3, rfl⟩, fun k hk => ?_⟩
 rcases List.mem_cons.1 hk with rfl | hk
 · exact ⟨_, h2, rfl⟩
 · rcases h3.2 with ⟨rfl, _⟩ | ⟨g, cap, cur, fz, rfl, _, hg, _⟩
   · simp [Value.ownBlock] at hk
   · have : g = k := by simpa [Value.ownBlock] using hk
     subst this
     exact ⟨_, hg, rfl⟩
theorem bld_fresh (w : World) : (bldT w.heap.size []).is (w.alloc (.cells #[.pointer none, .slice none 0 0] 133)) [w.heap.size] :=
 ⟨.pointer none, .slice none 0 0, Or.inl rfl, World.alloc_heap_new w _, ⟨rfl, Or.inl ⟨rfl, rfl⟩⟩, by simp [Value.ownBlock]⟩
theorem bld_text (w0 : World) (b : Nat) (l : List UInt8) (w : World) (S : List Nat) (h0 : Since w0 w) (h : (bldT b l).is w S) (hS : ∀ k, k ∈ S → w0.heap.size ≤ k) :
  Calls Tryz.prog 79 #[.pointer (some ⟨b, 0, none⟩)] w fun e w' => e = .returned (.string ⟨l.toArray⟩) ∧ Since w0 w' ∧ ∀ (k : Nat) (o : Obj), w.heap[k]? = some o → o.isCells = false → w'.heap[k]? = some o := by
 obtain ⟨p, v, h1, h2, h3, rfl⟩ := h
 have hb : w0.heap.size ≤ b := hS b (by simp)
 have ho : w.ownsRowF w0.heap.size 5 1 v (Lib.byteCells l).length (Lib.byteCells l) := by
  rw [Lib.byteCells_length]
  refine ⟨h3.1, ?_⟩
  rcases h3.2 with hn | ⟨g, cap, cur, fz, rfl, _, rest⟩
  · exact Or.inl hn
  · exact Or.inr ⟨g, cap, cur, fz, rfl, hS g (by simp [Value.ownBlock]), rest⟩
 have hne : v.ownBlock ≠ some b := by
  rcases h3.2 with ⟨rfl, _⟩ | ⟨g, cap, cur, fz, rfl, _, hg, _⟩
  · simp [Value.ownBlock]
  · intro e
    have : g = b := by simpa [Value.ownBlock] using e
    subst this
    rw [h2] at hg
    injection hg with hg
    injection hg with _ hg
    exact absurd hg (by decide)
 have hI : Lib.IsBuilderF 133 5 w0.heap.size b (Lib.byteCells l) w := by
  rcases h1 with rfl | rfl
  · exact Or.inl ⟨hb, v, h2, ho, hne⟩
  · exact Or.inr ⟨hb, v, h2, ho, hne⟩
 refine (bstringK w0.heap.size b l w hI h0.size).mono ?_
 rintro e w' ⟨rfl, _, hbw, hok⟩
 refine ⟨rfl, h0.trans hbw, fun k o hk hc => hok k o hk (fun e => ?_) (fun c fz e => ?_)⟩
 · rw [Option.some.inj e] at hk
   rw [h2] at hk
   cases hk
   cases hc
 · subst e
   cases hc
theorem bcheck (b : Nat) (w : World) (p v : Value) (hp : p = .pointer none ∨ p = .pointer (some ⟨b, 0, none⟩)) (h : w.heap[b]? = some (.cells #[p, v] 133 (0, 0))) :
  Calls Tryz.prog 113 #[.pointer (some ⟨b, 0, none⟩)] w fun e w' => e = .returned (.tuple #[]) ∧ w'.heap[b]? = some (.cells #[.pointer (some ⟨b, 0, none⟩), v] 133 (0, 0)) ∧ Out w w' [b] := by
 rcases hp with rfl | rfl
 · refine (Go.Proofs.Any.Builder_copyCheck_fresh (ρ := lays166_ren) { lays166 with } { extra166 with } b w (by simp [World.cell?, h]) (by simp [World.shape?, h]; rfl) (by simp [World.frozen?, h])).mono ?_
   rintro e w' ⟨rfl, rfl⟩
   refine ⟨rfl, ?_, (Out.refl w _).put (Or.inl (by simp)) _⟩
   simp [World.setCell, Array.getElem?_modify, h]
 · refine (Go.Proofs.Any.Builder_copyCheck_used (ρ := lays166_ren) { lays166 with } { extra166 with } b w (by simp [World.cell?, h])).mono ?_
   rintro e w' ⟨rfl, rfl⟩
   exact ⟨rfl, h, Out.refl _ _⟩
theorem byteCells_app (l : List UInt8) (s : ByteArray) : Lib.byteCells l ++ Lib.strCells s = Lib.byteCells (l ++ s.data.toList) := by
 unfold Lib.byteCells Lib.strCells
 simp
section
variable {P : Program} {w : World}
theorem append_where {t u ty e : TypeId} {i : TypeInfo} (ht : P.underlying t = some (.slice e)) (hu : P.underlying u = some .string) (hi : P.info? e = some i) (hz : i.zero = some (.int .u8 0)) (hsize : i.size = 1) (hby : i.bytes = 1)
  {base : Nat} {v : Value} {n : Nat} {xs : List Value} (hown : w.ownsRowF base e 1 v n xs) {s : ByteArray} (h63 : n + s.size ≤ maxLen) (hbytes : n + s.size ≤ 140737488355328) {v' : Value} {w' : World}
  (hr : (Builtin.append_ #[t, u] ty #[v, .string s]).run P w = .ok v' w') : ∀ k, v'.ownBlock = some k → v.ownBlock = some k ∨ w.heap.size ≤ k := by
 intro k hk
 rcases hown.2 with ⟨rfl, rfl⟩ | ⟨g, cap, cur, fz, rfl, _, hg, hfz, hnc, hcm, hcs, _⟩
 · obtain ⟨v1, w1, h1, h2, _, _⟩ := Lib.run_append_own_string (P := P) w w.heap.size t u ty e i ht hu hi hz hsize hby (.slice none 0 0) 0 xs ⟨hown.1, .inl ⟨rfl, rfl⟩⟩ s h63 hbytes (Nat.le_refl _)
   rw [h1] at hr
   cases hr
   exact Or.inr (h2.lt k hk).1
 · by_cases hroom : n + s.size ≤ cap
   · have h1 := Lib.run_append_room_stringF (P := P) w t u ty e i ht hu hi hsize g n cap cur fz hg (by simpa using hfz) s hroom (by omega)
     rw [h1] at hr
     cases hr
     exact Or.inl hk
   · have hsmall : n + s.size ≤ 9223372036854775807 := by simp only [maxLen] at h63; omega
     have hxl : xs.length = n := by simpa using hown.1
     have h1 := Lib.run_append_grow_string (P := P) w t u ty e i (.int .u8 0) ht hu hi hz ⟨g, 0, none⟩ n cap xs (by rw [hsize]; simpa using hxl) (hown.cells (g := g) rfl) s (by omega) (by omega) (by rw [hby]; exact growslice_fits (by omega) (by omega))
     rw [h1] at hr
     cases hr
     have : w.heap.size = k := by simpa [Value.ownBlock] using hk
     omega
theorem wpList_append_text {ops : Array Oper} {rest : List Oper} {o : Oper} {a : Act} {Q : Exit → Act → World → Prop} (hgd : o.guard = none) (sl x : Operand) (t u : TypeId)
  (ho : o.op = .call { callee := .builtin .append, args := #[sl, x], argTypes := #[t, u] })
  (e : TypeId) (i : TypeInfo) (ht : P.underlying t = some (.slice e)) (hu : P.underlying u = some .string) (hi : P.info? e = some i) (hz : i.zero = some (.int .u8 0)) (hsize : i.size = 1) (hby : i.bytes = 1)
  (v : Value) (n : Nat) (xs : List Value) (hs : a.eval sl = v) (hown : w.ownsRowF 0 e 1 v n xs) (s : ByteArray) (hx : a.eval x = .string s) (hlen : n + s.size ≤ 140737488355328)
  (h : ∀ v' w', w'.ownsRowF 0 e 1 v' (n + s.size) (xs ++ Lib.strCells s) → w.grownBy w' v.ownBlock → (∀ k, v'.ownBlock = some k → v.ownBlock = some k ∨ w.heap.size ≤ k) → wpList P ops Q rest (a.put o.dst v') w') : wpList P ops Q (o :: rest) a w := by
 have h63 : n + s.size ≤ maxLen := by unfold maxLen; omega
 obtain ⟨v', w', hr, h2, h3, _⟩ := Lib.run_append_own_stringF (P := P) w 0 t u o.type e i ht hu hi hz hsize hby v n xs hown s h63 hlen (Nat.zero_le _)
 have h4 := append_where ht hu hi hz hsize hby hown h63 hlen hr
 refine wpList_plain hgd fun K hK => ?_
 unfold Oper.wp execOp
 simp only [ho, resolve, invoke, builtin, Sem.run_bind, Sem.run_pure, Result.andThen_ok, List.map_toArray, List.map_cons, List.map_nil, hs, hx, hr]
 exact hK _ _ (h v' w' h2 h3 h4)
end
theorem bwriteT (b : Nat) (l : List UInt8) (s : ByteArray) (w : World) (S : List Nat) (h : (bldT b l).is w S) (hlen : l.length + s.size ≤ 140737488355328) :
  Calls Tryz.prog 76 #[.pointer (some ⟨b, 0, none⟩), .string s] w fun e w' => e = .returned (.tuple #[.int .i64 s.size, .nilIface]) ∧ Leaves w w' S (bldT b (l ++ s.data.toList)) := by
 obtain ⟨p, v, h1, h2, h3, rfl⟩ := h
 have HC := Lib.hid (bcheck b w p v h1 h2)
 have H3 := Lib.hid h3
 have H2 := Lib.hid h2
 clear h1 h2 h3
 go_enter Tryz.func76, Tryz.ntmps76
 go_wp2_with fail
 refine HC.out.mono ?_
 rintro e w1 ⟨rfl, hb1, ho1⟩
 have hblk : ∀ k, k ∈ blocks v → k ≠ b := fun k hk e => by
  subst e
  rcases H3.out.2 with ⟨rfl, _⟩ | ⟨g, cap, cur, fz, rfl, _, hg, _⟩
  · simp [Value.ownBlock] at hk
  · have : g = k := by simpa [Value.ownBlock] using hk
    subst this
    rw [H2.out] at hg
    injection hg with hg
    injection hg with _ hg
    exact absurd hg (by decide)
 have hown : w1.ownsRowF 0 5 1 v l.length (Lib.byteCells l) := by
  refine ⟨H3.out.1, ?_⟩
  rcases H3.out.2 with hn | ⟨g, cap, cur, fz, rfl, hb, hg, rest⟩
  · exact Or.inl hn
  · exact Or.inr ⟨g, cap, cur, fz, rfl, hb, (ho1.block g (Array.getElem?_eq_some_iff.1 hg).1 (by have := hblk g (by simp [Value.ownBlock]); simpa using this)).trans hg, rest⟩
 have c1 : w1.cell? ⟨b, 1, none⟩ = some v := by simp [World.cell?, hb1]
 have lb : b < w1.heap.size := (Array.getElem?_eq_some_iff.1 hb1).1
 obtain ⟨i0, hi, hz0, hz1, hz2⟩ := info_parts extra166.infoByte
 have HOW := Lib.hid hown
 have HB1 := Lib.hid hb1
 have HO1 := Lib.hid ho1
 have HBK := Lib.hid hblk
 clear hown hb1 ho1 hblk H3 H2 HC
 go_wp2_with (at_builtin; refine wpList_append_text rfl _ _ 131 9 rfl 5 i0 Tryz.underlying131 Tryz.underlying9 hi hz0 hz1 hz2 _ _ _ rfl HOW.out s rfl ?c4 ?_)
 case c4 => exact hlen
 intro v' w2 hown' hgrow hwh
 have hne : v.ownBlock ≠ some b := fun e => HBK.out b (by simp [e]) rfl
 have hb2 : w2.heap[b]? = some (.cells #[.pointer (some ⟨b, 0, none⟩), v] 133 (0, 0)) := by
  rw [hgrow.block b lb (fun e => hne e.symm)]
  exact HB1.out
 have d0 : w2.cell? ⟨b, 0, none⟩ = some (.pointer (some ⟨b, 0, none⟩)) := by simp [World.cell?, hb2]
 have d1 : w2.cell? ⟨b, 1, none⟩ = some v := by simp [World.cell?, hb2]
 have f1 : w2.frozen? ⟨b, 1, none⟩ = false := by simp [World.frozen?, hb2]
 have lb2 : b < w2.heap.size := (Array.getElem?_eq_some_iff.1 hb2).1
 obtain ⟨ao, n', cap, rfl⟩ : ∃ ao n' cap, v' = .slice ao n' cap := by
  rcases hown'.2 with ⟨hv, _⟩ | ⟨g, cap, cur, fz, hv, _⟩
  · exact ⟨_, _, _, hv⟩
  · exact ⟨_, _, _, hv⟩
 have HOW2 := Lib.hid hown'
 have HGR := Lib.hid hgrow
 have HB2 := Lib.hid hb2
 have HWH := Lib.hid hwh
 have HNE := Lib.hid hne
 clear hown' hgrow hb2 hne c1 hwh
 go_wp2_with fail
 go_ret2
 refine ⟨rfl, b :: blocks (.slice ao n' cap), ⟨.pointer (some ⟨b, 0, none⟩), .slice ao n' cap, Or.inr rfl, ?_, ?_, rfl⟩, ?_, ?_⟩
 · simp [World.setCell, Array.getElem?_modify, HB2.out]
 · have hh := HOW2.out
   rw [byteCells_app] at hh
   have e1 : (l ++ s.data.toList).length = l.length + s.size := by rw [List.length_append, Array.length_toList]; rfl
   rw [e1]
   refine hh.kept (row := some b) ⟨rfl, rfl, rfl, by simp [World.setCell], fun k _ hk => Below.heap_setCell _ _ _ _ (fun e => hk (by rw [e]))⟩ (Or.inr (fun e => ?_))
   rcases hh.2 with ⟨he, _⟩ | ⟨g, cp, cur, fz, he, _, hg, _⟩
   · rw [he] at e; simp [Value.ownBlock] at e
   · rw [he] at e
     have : g = b := by simpa [Value.ownBlock] using e
     subst this
     rw [HB2.out] at hg
     injection hg with hg
     injection hg with _ hg
     exact absurd hg (by decide)
 · have o1 : Out w w1 (b :: blocks v) := HO1.out.mono (fun k hk => Or.inl (by rw [List.mem_singleton.1 hk]; simp))
   exact (o1.grown HGR.out (fun k hk => Or.inl (List.mem_cons_of_mem _ (by simpa [Option.mem_toList] using hk)))).put (Or.inl (by simp)) _
 · intro k hk
   rcases List.mem_cons.1 hk with rfl | hk
   · exact Or.inl (by simp)
   · rcases HWH.out k (by simpa [Option.mem_toList] using hk) with h | h
     · exact Or.inl (List.mem_cons_of_mem _ (by simpa [Option.mem_toList] using h))
     · exact Or.inr (Nat.le_trans HO1.out.size h)
end Go.Proofs.YtmfbaijbigodkaaGreatDoor
namespace Go.Proofs.YtmfbaijbigodkaaGreatDoor
open Go.RowKit
set_option linter.unusedVariables false
section
variable {F : Fence} {n : Nat} {P : Program} {α : Type}
structure Bears (gb : Nat) (J : List α → World → Prop) : Prop where
 drew : ∀ s A, J s A → J s A.drew
 cell : ∀ s A v, J s A → J s (A.setCell ⟨gb, 0, none⟩ v)
def Hands (F : Fence) (n : Nat) (P : Program) (gf gb : Nat) (lb : Array Value) (encs : α → Array Value) (S : List α → Prop) (G : List α → α → Prop) (w0 : World) : Prop :=
 ∀ (l : Nat) (J : List α → World → Prop) (W : World), Below w0.heap.size w0 W → Bears gb J →
  (∀ pre x X, J pre X → G pre x → YieldAt F (n - 1) P l (encs x) X fun e X' => e = .returned (.bool true) ∧ J (pre ++ [x]) X' ∧ ∀ v, X.cell? ⟨gb, 0, none⟩ = some v → X.frozen? ⟨gb, 0, none⟩ = false → X'.cell? ⟨gb, 0, none⟩ = some v ∧ X'.frozen? ⟨gb, 0, none⟩ = false) →
  J [] W → CallsIn F n P gf (#[.func (.yield l) #[] #[]] ++ lb) W fun e X => (∃ v, e = .returned v) ∧ ∃ xs, S xs ∧ J xs X
theorem heap_far {A : World} {gb k : Nat} {o : Obj} (v : Value) (hk : k ≠ gb) (h : A.heap[k]? = some o) : (A.setCell ⟨gb, 0, none⟩ v).heap[k]? = some o := (Below.heap_setCell A ⟨gb, 0, none⟩ v k hk).trans h
theorem putObj_cell {A : World} {l gb : Nat} {o o' : Obj} (hne : gb ≠ l) : (∀ v, A.cell? ⟨gb, 0, none⟩ = some v → (A.putObj l o').cell? ⟨gb, 0, none⟩ = some v) ∧ (A.frozen? ⟨gb, 0, none⟩ = false → (A.putObj l o').frozen? ⟨gb, 0, none⟩ = false) := by
 have e : (A.putObj l o').heap[gb]? = A.heap[gb]? := World.putObj_heap_other hne
 refine ⟨fun v hv => ?_, fun hv => ?_⟩
 · unfold World.cell? at hv ⊢
   rw [e]; exact hv
 · unfold World.frozen? at hv ⊢
   rw [e]; exact hv
theorem rangeW {g : Operand} {ps : Array Tmp} {assign body : Code} {Q : Exit → Act → World → Prop} {a : Act} {w : World} (hro : F.round = none) (h1 : 1 ≤ n) {gf gb : Nat} {lb : Array Value} (hg : a.eval g = .func (.func gf) #[] lb) (hFg : F.fn gf)
  (eg : ∀ args w, (callFunc gf args).run P w = .ok (.enter gf args) w) {encs : α → Array Value} {S : List α → Prop} {G : List α → α → Prop} (hgb : gb < w.heap.size) (hseq : Hands F (n - 1) P gf gb lb encs S G w) (hps : ∀ x, (encs x).size = ps.size)
  (I : List α → World → Prop) (hI : OwnFrom w.heap.size I) (hIb : Bears gb I) (h0 : I [] w) (a1 : α → Act)
  (hassign : ∀ (l : Nat) (x : α) (W : World) (K : Act → World → Prop), K (a1 x) W → assign.wpIn (F.inRound l) (n - 1 - 1) P (Exit.then K (fun _ _ _ => False)) { tmps := (ps.zip (encs x)).foldl (fun t (p, v) => t.setIfInBounds p v) a.tmps, defers := [] } W)
  (hbody : ∀ (l : Nat) (pre : List α) (x : α) (W : World), I pre W → G pre x → body.wpIn (F.inRound l) (n - 1 - 1) P (fun e _ X => e = .normal ∧ KeepsOthers W X ∧ I (pre ++ [x]) X ∧ ∀ v, W.cell? ⟨gb, 0, none⟩ = some v → W.frozen? ⟨gb, 0, none⟩ = false → X.cell? ⟨gb, 0, none⟩ = some v ∧ X.frozen? ⟨gb, 0, none⟩ = false) (a1 x) W)
  (hdone : ∀ (D : Nat) (xs : List α) (W : World), w.heap.size ≤ D → S xs → I xs W → W.heap[D]? = some (.deferred (some [])) → Q .normal { a with defers := { target := .collected D, args := #[] } :: a.defers } W) :
  (Code.rangeFunc g ps assign body).wpIn F n P Q a w := by
 refine wpIn_rangeFunc fun fn hfn => ?_
 rw [hro]
 obtain ⟨rc, hrc⟩ : ∃ rc : LoopState → Loop, rc = fun st => { state := st, pending := none, fn, tmps := a.tmps, params := ps, assign, body, defers := w.heap.size } := ⟨_, rfl⟩
 obtain ⟨W1, hW1⟩ : ∃ W1, (w.alloc (.deferred (some []))).alloc (.loop (rc .ready)) = W1 := ⟨_, rfl⟩
 have b1 : W1.heap[w.heap.size + 1]? = some (.loop (rc .ready)) := by
  rw [← hW1]
  have := World.alloc_heap_new (w.alloc (.deferred (some []))) (.loop (rc .ready))
  rwa [World.size_alloc] at this
 have b2 : W1.heap[w.heap.size]? = some (.deferred (some [])) := by
  rw [← hW1]
  exact (Below.heap_alloc _ _ _ (by simp)).trans (World.alloc_heap_new w _)
 have i1 : I [] W1 := by rw [← hW1]; exact hI.alloc _ (hI.alloc _ h0)
 have s1 : Below w.heap.size w W1 := by
  rw [← hW1]
  exact ((Below.refl _ w).alloc (Nat.le_refl _) _).alloc (by simp) _
 have key := hseq (w.heap.size + 1) (fun pre X => I pre X ∧ X.heap[w.heap.size + 1]? = some (.loop (rc .ready)) ∧ X.heap[w.heap.size]? = some (.deferred (some []))) W1 s1
  ⟨fun s A h => ⟨hIb.drew s A h.1, h.2.1, h.2.2⟩, fun s A v h => ⟨hIb.cell s A v h.1, heap_far v (by omega) h.2.1, heap_far v (by omega) h.2.2⟩⟩ ?_ ⟨i1, b1, b2⟩
 · refine ⟨w.heap.size + 1, [{ target := .collected w.heap.size, args := #[] }], W1, { target := .fn (.func gf) lb, args := #[.func (.yield (w.heap.size + 1)) #[] #[]] }, W1, gf, _, W1, ?_, ?_, ?_, ?_, fun _ => h1, key.mono ?_⟩
   · rw [← hW1, hrc]; exact run_enterLoop_outer _ _ _ _ _
   · simp only [resolve, hg]
     simp [go_sem]
   · intro f' hf'
     simp [Target.leads] at hf'
     subst hf'
     exact hFg
   · simp [invoke, go_sem, eg]
   · rintro e X ⟨⟨v, rfl⟩, xs, hS, hi, hl, hk⟩
     refine ⟨none, _, by have := run_endLoop (P := P) hl (by rw [hrc]; simp); rw [hrc] at this; exact this, ?_⟩
     exact hdone _ xs _ (Nat.le_refl _) hS (hI.putObj _ hi (by omega) hl rfl) ((World.putObj_heap_other (by omega)).trans hk)
 · rintro pre x X ⟨hi, hl, hk⟩ hlen
   have hlt : w.heap.size + 1 < X.heap.size := (Array.getElem?_eq_some_iff.1 hl).1
   have hy := run_yield (P := P) (args := encs x) hl (by rw [hrc]; exact hps x)
   rw [hrc] at hy
   refine ⟨fn, _, assign, body, hy, roundIn_of_wpIn hfn (hassign _ x X _ ⟨_, run_beginRound hl (by rw [hrc]), ?_⟩)⟩
   obtain ⟨Y, hY⟩ : ∃ Y, X.putObj (w.heap.size + 1) (.loop { rc .ready with state := .busy }) = Y := ⟨_, rfl⟩
   have y1 : Y.heap[w.heap.size + 1]? = some (.loop { rc .ready with state := .busy }) := by rw [← hY]; exact World.putObj_heap_same hlt
   have y2 : Y.heap[w.heap.size]? = some (.deferred (some [])) := by rw [← hY]; exact (World.putObj_heap_other (by omega)).trans hk
   have y3 : I pre Y := by rw [← hY]; exact hI.putObj _ hi (by omega) hl rfl
   have y4 := putObj_cell (A := X) (l := w.heap.size + 1) (gb := gb) (o := .loop (rc .ready)) (o' := .loop { rc .ready with state := .busy }) (by omega)
   rw [hY] at y4
   rw [hY]
   refine wpIn_mono (hbody _ pre x Y y3 hlen) ?_
   rintro e a3 Z ⟨rfl, k1, k2, k3⟩
   have z1 := k1.same _ _ y1 rfl
   have z2 := k1.same _ _ y2 rfl
   have hr := run_endRound (P := P) none z1
   refine ⟨_, _, hr, rfl, ⟨hI.putObj _ k2 (by omega) z1 rfl, ?_, (World.putObj_heap_other (by omega)).trans z2⟩, fun v hv hf => ?_⟩
   · rw [World.putObj_heap_same (Array.getElem?_eq_some_iff.1 z1).1]
     rw [hrc]
     rfl
   · obtain ⟨c1, c2⟩ := k3 v (y4.1 v hv) (y4.2 hf)
     have z4 := putObj_cell (A := Z) (l := w.heap.size + 1) (gb := gb) (o := .loop (rc .ready)) (o' := .loop { rc .ready with state := .ready }) (by omega)
     exact ⟨(putObj_cell (A := Z) (l := w.heap.size + 1) (gb := gb) (o := .loop (rc .ready)) (o' := _) (by omega)).1 v c1, (putObj_cell (A := Z) (l := w.heap.size + 1) (gb := gb) (o := .loop (rc .ready)) (o' := _) (by omega)).2 c2⟩
end
end Go.Proofs.YtmfbaijbigodkaaGreatDoor
namespace Go.Proofs.YtmfbaijbigodkaaGreatDoor
open Go.ChangeShapes Go.WideShapes Go.ChangeAt Go.RowKit Go.Shelf
set_option linter.unusedVariables false
attribute [local go_sem] Oper.semAt_some
theorem cut_list (s : ByteArray) (a b : Nat) : (s.extract a b).data.toList = (s.data.toList.take b).drop a := by
 rw [ByteArray.data_extract, Array.toList_extract]
 rw [List.extract_eq_take_drop, List.drop_take]
def boxLen (gb : Nat) (w : World) : Nat := match w.cell? ⟨gb, 0, none⟩ with | some (.string b) => b.size | _ => 0
theorem cell_box {w : World} {gb : Nat} {v u : Value} (h : w.cell? ⟨gb, 0, none⟩ = some v) : (w.setCell ⟨gb, 0, none⟩ u).drew.cell? ⟨gb, 0, none⟩ = some u := World.cell?_setCell_same' w _ u (by rw [h]; rfl)
theorem frozen_box {w : World} {gb : Nat} {v u : Value} (h : w.cell? ⟨gb, 0, none⟩ = some v) (hf : w.frozen? ⟨gb, 0, none⟩ = false) : (w.setCell ⟨gb, 0, none⟩ u).drew.frozen? ⟨gb, 0, none⟩ = false := by
 show (w.setCell ⟨gb, 0, none⟩ u).frozen? ⟨gb, 0, none⟩ = false
 rw [World.frozen?_setCell]
 exact hf
theorem str_of {l : List UInt8} : (⟨l.toArray⟩ : ByteArray).size = l.length := by show l.toArray.size = _; rw [List.size_toArray]
attribute [local go_sem] Oper.semAt_some
def linesOf : List UInt8 → List (List UInt8)
 | [] => []
 | b :: r => if b = 10 then [10] :: linesOf r else match linesOf r with
   | [] => [[b]]
   | l :: ls => (b :: l) :: ls
def LnOk : List (List UInt8) → Prop
 | [] => True
 | x :: r => ((∃ l, noNl l ∧ x = l ++ [10]) ∨ (noNl x ∧ x ≠ [] ∧ r = [])) ∧ LnOk r
theorem linesOf_flat : ∀ t : List UInt8, (linesOf t).flatten = t
 | [] => rfl
 | b :: r => by
   have ih := linesOf_flat r
   rw [linesOf]
   split
   · rename_i h
     rw [List.flatten_cons, ih, h]; rfl
   · cases hl : linesOf r with
     | nil => rw [hl] at ih; simp at ih; subst ih; rfl
     | cons l ls => rw [hl] at ih; simp only [List.flatten_cons] at ih ⊢; rw [List.cons_append, ih]
theorem linesOf_ok : ∀ t : List UInt8, LnOk (linesOf t)
 | [] => trivial
 | b :: r => by
   have ih := linesOf_ok r
   rw [linesOf]
   split
   · exact ⟨Or.inl ⟨[], by intro c hc; simp at hc, rfl⟩, ih⟩
   · rename_i hb
     cases hl : linesOf r with
     | nil => exact ⟨Or.inr ⟨by intro c hc; rw [List.mem_singleton.1 hc]; exact hb, by simp, rfl⟩, trivial⟩
     | cons l ls =>
       rw [hl] at ih
       refine ⟨?_, ih.2⟩
       rcases ih.1 with ⟨m, h1, h2⟩ | ⟨h1, h2, h3⟩
       · exact Or.inl ⟨b :: m, by
          intro c hc
          rcases List.mem_cons.1 hc with rfl | hc
          · exact hb
          · exact h1 c hc, by rw [h2]; rfl⟩
       · exact Or.inr ⟨by
          intro c hc
          rcases List.mem_cons.1 hc with rfl | hc
          · exact hb
          · exact h1 c hc, by simp, h3⟩
theorem index_none : ∀ (l : List UInt8), noNl l → Lib.indexByte l 10 = -1
 | [], _ => rfl
 | b :: l, h => by
   have hb : (b == 10) = false := by simpa using h b (by simp)
   have ih := index_none l (fun c hc => h c (by simp [hc]))
   rw [Lib.indexByte, hb, ih]
   rfl
def nextLn (L pre : List (List UInt8)) (x : List UInt8) : Prop := ∃ k, k < L.length ∧ pre = L.take k ∧ x = L.getD k []
def lnv (x : List UInt8) : Value := .string ⟨x.toArray⟩
theorem LnOk.drop {L : List (List UInt8)} (h : LnOk L) : ∀ k, LnOk (L.drop k) := by
 induction L with
 | nil => intro k; simp [LnOk]
 | cons x r ih =>
   intro k
   cases k with
   | zero => exact h
   | succ k => exact ih h.2 k
theorem bytes_size {l : List UInt8} {B : ByteArray} (h : B.data.toList = l) : B.size = l.length := by
 show B.data.size = _
 rw [← Array.length_toList, h]
theorem bytes_cut {B : ByteArray} {x r : List UInt8} (h : B.data.toList = x ++ r) : B.extract 0 x.length = ⟨x.toArray⟩ ∧ B.extract x.length B.size = ⟨r.toArray⟩ := by
 have hs := bytes_size h
 rw [List.length_append] at hs
 constructor
 · apply ByteArray.ext
   apply Array.ext'
   rw [cut_list, h, List.drop_zero, List.take_append_of_le_length (Nat.le_refl _), List.take_length]
 · apply ByteArray.ext
   apply Array.ext'
   rw [cut_list, h, hs, List.take_of_length_le (by rw [List.length_append]; exact Nat.le_refl _), List.drop_left]
theorem linesA_in (n : Nat) (hn : 1 ≤ n) (gb : Nat) (L : List (List UInt8)) (h0 : LnOk L) (hb : L.flatten.length ≤ 1000000) (l : Nat) (J : List (List UInt8) → World → Prop) (W : World) (hJ : Bears gb J)
  (hY : ∀ pre x X, J pre X → nextLn L pre x → YieldAt Fence.wide (n - 1) Tryz.prog l #[lnv x] X fun e X' => e = .returned (.bool true) ∧ J (pre ++ [x]) X' ∧ ∀ v, X.cell? ⟨gb, 0, none⟩ = some v → X.frozen? ⟨gb, 0, none⟩ = false → X'.cell? ⟨gb, 0, none⟩ = some v ∧ X'.frozen? ⟨gb, 0, none⟩ = false)
  (hc : W.cell? ⟨gb, 0, none⟩ = some (.string ⟨L.flatten.toArray⟩)) (hf : W.frozen? ⟨gb, 0, none⟩ = false) (hj : J [] W) :
  CallsIn Fence.wide n Tryz.prog 111 #[.func (.yield l) #[] #[], .pointer (some ⟨gb, 0, none⟩)] W fun e X => (∃ v, e = .returned v) ∧ J L X := by
 have HY := Lib.hid hY
 have HJ := Lib.hid hJ
 have HN := Lib.hid h0
 clear hY hJ h0
 refine callsIn_of_wp Tryz.func111 rfl trivial ?_ rfl
 simp only [Tryz.ntmps111, List.size_toArray, List.length_cons, List.length_nil, Nat.reduceAdd, Nat.reduceSub, Array.replicate_succ, Array.replicate_zero, List.push_toArray, List.append_toArray, List.nil_append, List.cons_append]
 gi_wp2
 gi_loopw [3] (fun s3 wr => ∃ k : Nat, k ≤ L.length ∧ J (L.take k) wr ∧ wr.cell? ⟨gb, 0, none⟩ = some (.string ⟨(L.drop k).flatten.toArray⟩) ∧ wr.frozen? ⟨gb, 0, none⟩ = false) (fun _ wr => boxLen gb wr)
 case atStart => exact ⟨0, Nat.zero_le _, hj, hc, hf⟩
 case round =>
  obtain ⟨k, hk, hJk, hck, hfk⟩ := hrel
  have HJK := Lib.hid hJk
  have HCK := Lib.hid hck
  clear hJk hj hc hf
  by_cases hlt : k < L.length
  case neg =>
   have e : L.drop k = [] := List.drop_eq_nil_of_le (by omega)
   rw [e] at hck
   have e2 : (⟨([] : List (List UInt8)).flatten.toArray⟩ : ByteArray) = ⟨#[]⟩ := rfl
   rw [e2] at hck
   have HJ2 : Hid (J L wr) := Lib.hid (by have := HJK.out; rw [List.take_of_length_le (by omega)] at this; exact this)
   clear e e2 HCK HJK
   gi_wp2
   go_end0
   exact ⟨⟨_, rfl⟩, HJ2.out⟩
  obtain ⟨x, hx⟩ : ∃ x, L[k] = x := ⟨_, rfl⟩
  have ed : L.drop k = x :: L.drop (k + 1) := by rw [← hx]; exact List.drop_eq_getElem_cons hlt
  have et : L.take (k + 1) = L.take k ++ [x] := by rw [← hx]; exact List.take_succ_eq_append_getElem hlt
  have hxo := HN.out.drop k
  rw [ed] at hxo
  obtain ⟨hx1, -⟩ := hxo
  obtain ⟨B, hB⟩ : ∃ B : ByteArray, (⟨(L.drop k).flatten.toArray⟩ : ByteArray) = B := ⟨_, rfl⟩
  obtain ⟨D, hD⟩ : ∃ D, L.drop (k + 1) = D := ⟨_, rfl⟩
  rw [hD] at hx1 ed
  have eB : B.data.toList = x ++ D.flatten := by rw [← hB, ed]; simp
  have hsz := bytes_size eB
  rw [List.length_append] at hsz
  have hz2 : B.size ≤ 1000000 := by
   have h1 : L.flatten.length = (L.take k).flatten.length + (L.drop k).flatten.length := by rw [← List.length_append, ← List.flatten_append, List.take_append_drop]
   have h2 : B.size = (L.drop k).flatten.length := by rw [← hB]; exact str_of
   omega
  have hx0 : 0 < x.length := by
   rcases hx1 with ⟨m, _, rfl⟩ | ⟨_, h2, _⟩
   · simp
   · exact List.length_pos_iff.2 h2
  obtain ⟨x1, x2⟩ := bytes_cut eB
  have HX1 := Lib.hid x1
  have HX2 := Lib.hid x2
  have HET := Lib.hid et
  have HDD := Lib.hid hD
  have HXX : Hid (x = L.getD k []) := Lib.hid (by rw [← hx]; simp [List.getD, List.getElem?_eq_getElem hlt])
  rw [hB] at hck HCK
  have hpos : (0 : Int) < (B.size : Int) := by omega
  have HLT := Lib.hid hlt
  have HHZ := Lib.hid hsz
  have hlb : boxLen gb wr = B.size := by unfold boxLen; rw [hck]
  have HLB := Lib.hid hlb
  have HEB := Lib.hid eB
  rcases hx1 with ⟨m, hm, rfl⟩ | ⟨hno, -, hD0⟩
  · have hix : Lib.indexByte B.data.toList ((10 : Int).toNat.toUInt8) = (m.length : Int) := by
     rw [HEB.out, List.append_assoc]
     exact index_at m D.flatten hm
    rw [List.length_append, List.length_singleton] at x1 x2 hsz
    rw [List.length_append, List.length_singleton] at HX1 HX2
    obtain ⟨q, hq⟩ : ∃ q, m.length = q := ⟨_, rfl⟩
    rw [hq] at hix hsz HX1 HX2
    have hm1 : (q : Int) + 1 ≤ (B.size : Int) := by omega
    have hm0 : (0 : Int) ≤ (q : Int) := by omega
    have hto : ((q : Int) + 1).toNat = q + 1 := by omega
    have HIX := Lib.hid hix
    clear hx ed et hB hD eB hix x1 x2 hsz hlt hq hx0 hlb hm
    gi_wp2_with (refine ⟨trivial, ?_⟩; gi_at_call 112; refine (callsIn_wide.2 (Tryz.strings_IndexByte B 10 _)).mono ?_; rintro e w' ⟨rfl, rfl⟩; rw [HIX.out])
    gi_region
    have hlen : nextLn L (L.take k) (m ++ [10]) := ⟨k, HLT.out, rfl, HXX.out⟩
    have hJX : J (L.take k) (w'.setCell ⟨gb, 0, none⟩ (.string (B.extract (q + 1) B.size))).drew := HJ.out.drew _ _ (HJ.out.cell _ _ _ HJK.out)
    have hY := HY.out (L.take k) (m ++ [10]) _ hJX hlen
    have b0 : (w'.setCell ⟨gb, 0, none⟩ (.string (B.extract (q + 1) B.size))).drew.cell? ⟨gb, 0, none⟩ = some (.string (B.extract (q + 1) B.size)) := cell_box hck
    have f0 : (w'.setCell ⟨gb, 0, none⟩ (.string (B.extract (q + 1) B.size))).drew.frozen? ⟨gb, 0, none⟩ = false := frozen_box hck hfk
    have HB0 := Lib.hid b0
    have HF0 := Lib.hid f0
    have hxv : lnv (m ++ [10]) = .string (B.extract 0 (q + 1)) := by rw [HX1.out]; rfl
    rw [hxv] at hY
    obtain ⟨fn, tmps, assign, body, hy, hR⟩ := hY
    have HR := Lib.hid hR
    clear hR hlen hJX b0 f0 hck hfk
    gi_wp2
    refine HR.out.mono ?_
    rintro e W3 ⟨rfl, hJ3, hk3⟩
    obtain ⟨c3, f3⟩ := hk3 _ HB0.out HF0.out
    rw [HX2.out] at c3
    have HJ3 := Lib.hid hJ3
    have HC3 := Lib.hid c3
    have HF3 := Lib.hid f3
    clear hJ3 hk3 c3 f3
    gi_wp2
    go_roundw
    case rel => exact ⟨k + 1, HLT.out, by rw [HET.out]; exact HJ3.out, by rw [HDD.out]; exact HC3.out, HF3.out⟩
    case measure =>
     have h1 : boxLen gb W3 = D.flatten.length := by unfold boxLen; rw [HC3.out]; exact str_of
     rw [h1, HLB.out, HHZ.out, List.length_append]
     simp
  · subst hD0
    have hix : Lib.indexByte B.data.toList ((10 : Int).toNat.toUInt8) = -1 := by
     rw [HEB.out, List.flatten_nil, List.append_nil]
     exact index_none x hno
    have hwh : B = ⟨x.toArray⟩ := by
     apply ByteArray.ext
     apply Array.ext'
     rw [HEB.out, List.flatten_nil, List.append_nil]
    have HWHO := Lib.hid hwh
    have HIX := Lib.hid hix
    clear hx ed et hB hD eB hix x1 x2 hsz hlt hx0 hlb hno hwh HX1 HX2
    gi_wp2_with (refine ⟨trivial, ?_⟩; gi_at_call 112; refine (callsIn_wide.2 (Tryz.strings_IndexByte B 10 _)).mono ?_; rintro e w' ⟨rfl, rfl⟩; rw [HIX.out])
    have hlen : nextLn L (L.take k) x := ⟨k, HLT.out, rfl, HXX.out⟩
    have hJX : J (L.take k) (w'.setCell ⟨gb, 0, none⟩ (.string ⟨#[]⟩)) := HJ.out.cell _ _ _ HJK.out
    have hY := HY.out (L.take k) x _ hJX hlen
    have b0 : (w'.setCell ⟨gb, 0, none⟩ (.string ⟨#[]⟩)).cell? ⟨gb, 0, none⟩ = some (.string ⟨#[]⟩) := cell_box hck
    have f0 : (w'.setCell ⟨gb, 0, none⟩ (.string ⟨#[]⟩)).frozen? ⟨gb, 0, none⟩ = false := frozen_box hck hfk
    have HB0 := Lib.hid b0
    have HF0 := Lib.hid f0
    have hxv : lnv x = .string B := by rw [HWHO.out]; rfl
    rw [hxv] at hY
    obtain ⟨fn, tmps, assign, body, hy, hR⟩ := hY
    have HR := Lib.hid hR
    clear hR hlen hJX b0 f0 hck hfk
    gi_wp2
    rw [hy]
    gi_wp2
    refine HR.out.mono ?_
    rintro e W3 ⟨rfl, hJ3, hk3⟩
    obtain ⟨c3, f3⟩ := hk3 _ HB0.out HF0.out
    have HJ3 := Lib.hid hJ3
    have HC3 := Lib.hid c3
    have HF3 := Lib.hid f3
    clear hJ3 hk3 c3 f3
    gi_wp2
    go_roundw
    case rel => exact ⟨k + 1, HLT.out, by rw [HET.out]; exact HJ3.out, by rw [HDD.out]; exact HC3.out, HF3.out⟩
    case measure =>
     have h1 : boxLen gb W3 = 0 := by unfold boxLen; rw [HC3.out]; rfl
     rw [h1, HLB.out]
     omega
theorem made_write (s : EnS) (d : ByteArray) : (s.write d).made = s.made := by unfold EnS.write; split <;> rfl
theorem made_read (s : EnS) (n : Int) : (s.read n).made = s.made := by unfold EnS.read; split <;> rfl
theorem made_take (s : EnS) (b : List UInt8) : (s.take b).made = s.made := by
 unfold EnS.take
 split
 · unfold EnS.pkt
   split
   · rfl
   · split
     · split
       · exact takes_made _ _
       · rfl
     · rfl
 · rfl
theorem made_make (s : EnS) : s.make.made.length = s.made.length + 1 := by unfold EnS.make; simp
theorem Few.up {s : TkS} {k j : Nat} (h : Few s k) (hj : k ≤ j) : Few s j := ⟨Nat.le_trans h.1 hj, Nat.le_trans h.2 hj⟩
theorem Few.set {s : TkS} {k : Nat} (h : Few s k) (who : Int) {x : EnS} (hx : x.made.length ≤ k) : Few (s.set who x) k := by
 unfold TkS.set
 split
 · exact ⟨hx, h.2⟩
 · exact ⟨h.1, hx⟩
theorem Few.write {s : TkS} {k : Nat} (h : Few s k) (who : Int) (d : ByteArray) : Few (s.write who d) k := by
 unfold TkS.write
 split
 · exact h.set who (by rw [made_write]; exact h.of who)
 · exact h
theorem Few.read {s : TkS} {k : Nat} (h : Few s k) (who n : Int) : Few (s.read who n) k := by
 unfold TkS.read
 split
 · exact h.set who (by rw [made_read]; exact h.of who)
 · exact h
theorem Few.send {s : TkS} {k : Nat} (h : Few s k) (who : Int) : Few (s.send who) (k + 1) := by
 unfold TkS.send
 split
 · have := (h.up (Nat.le_succ k)).set who (x := (s.e who).make) (by rw [made_make]; have := h.of who; omega)
   exact ⟨this.1, this.2⟩
 · exact h.up (Nat.le_succ _)
theorem Few.come {s : TkS} {k : Nat} (h : Few s k) (i : Int) : Few (s.come i) k := by
 unfold TkS.come
 split
 · have := h.set (giveD s.L i).too (x := (s.e (giveD s.L i).too).take (giveD s.L i).b.data.toList) (by rw [made_take]; exact h.of _)
   exact ⟨this.1, this.2⟩
 · exact h
theorem few_do {s : TkS} {k : Nat} (h : Few s k) (x : List UInt8) (ns : List Nat) (d : List UInt8) : Few (doW s x ns d).2.2 (k + (if x = wSend then 1 else 0)) := by
 unfold doW
 by_cases h1 : x = wWrite
 · rw [if_pos h1]; exact (h.write _ _).up (Nat.le_add_right _ _)
 rw [if_neg h1]
 by_cases h2 : x = wSend
 · rw [if_pos h2, if_pos h2]; exact h.send _
 rw [if_neg h2, if_neg h2]
 by_cases h3 : x = wCome
 · rw [if_pos h3]; exact h.come _
 rw [if_neg h3]
 by_cases h4 : x = wLose
 · rw [if_pos h4]; exact ⟨h.1, h.2⟩
 rw [if_neg h4]
 by_cases h5 : x = wTwice
 · rw [if_pos h5]; exact ⟨h.1, h.2⟩
 rw [if_neg h5]
 by_cases h6 : x = wRead
 · rw [if_pos h6]; exact h.read _ _
 rw [if_neg h6]
 by_cases h7 : x = wVarint
 · rw [if_pos h7]; exact h
 rw [if_neg h7]
 by_cases h8 : x = wNeed
 · rw [if_pos h8]; exact h
 rw [if_neg h8]; exact h
theorem parse_word {ws : List (List UInt8)} {x : List UInt8} {ns : List Nat} {d : List UInt8} (h : parse ws = some (x, ns, d)) : x ∈ ws ∧ manyOf x = some ns.length ∧ (∀ n ∈ ns, n ≤ 9999) := by
 cases ws with
 | nil => cases h
 | cons k r =>
   by_cases hk : k = wWrite
   · subst hk
     rw [parse_write] at h
     split at h
     · rename_i a dd
       split at h
       · cases h
       · split at h
         · cases h
         · rename_i n hn
           cases h
           exact ⟨by simp, rfl, fun m hm => by
            rw [List.mem_singleton.1 hm]
            exact (dg_yes hn).2.2.2.2⟩
     · cases h
   · rw [parse_other hk] at h
     split at h
     · cases h
     · rename_i m hm
       split at h
       · cases h
       · rename_i ms hms
         split at h
         · rename_i hl
           cases h
           exact ⟨by simp, by rw [hm, hl], nums_max hms⟩
         · cases h
def fours (L : List (List UInt8)) : Nat := (L.filter fun l => decide (4 ≤ l.length)).length
theorem few_ans {s : TkS} {k : Nat} (h : Few s k) (l : List UInt8) : Few (ans s l).2 (k + (if 4 ≤ l.length then 1 else 0)) := by
 unfold ans ansW
 cases hp : parse (cutAt 32 l) with
 | none => exact h.up (Nat.le_add_right _ _)
 | some t =>
   obtain ⟨x, ns, d⟩ := t
   refine (few_do h x ns d).up ?_
   by_cases hx : x = wSend
   · have hm := (cutAt_each (c := 32) (l := l) x (parse_word hp).1).2
     rw [hx] at hm
     have : wSend.length = 4 := rfl
     rw [if_pos hx, if_pos (by omega)]
     exact Nat.le_refl _
   · rw [if_neg hx]; omega
theorem few_behind : ∀ (L : List (List UInt8)) {s : TkS} {k : Nat}, Few s k → Few (behind s L) (k + fours L)
 | [], s, k, h => h
 | l :: r, s, k, h => by
   have := few_behind r (few_ans h l)
   refine this.up ?_
   unfold fours
   rw [List.filter_cons]
   split
   · rename_i h4
     rw [if_pos (by simpa using h4), List.length_cons]
     omega
   · rename_i h4
     rw [if_neg (by simpa using h4)]
     omega
theorem fours_few : ∀ (L : List (List UInt8)), 4 * fours L ≤ L.flatten.length
 | [] => Nat.le_refl _
 | l :: r => by
   have ih := fours_few r
   unfold fours at ih ⊢
   rw [List.filter_cons, List.flatten_cons, List.length_append]
   split
   · rename_i h4
     have : 4 ≤ l.length := by simpa using h4
     rw [List.length_cons]; omega
   · omega
theorem itoa_few {n : Int} (h0 : 0 ≤ n) (h1 : n ≤ 1073741823) : (Lib.itoa n).length ≤ 10 := by
 have h := ita_size h0 h1
 have e : (ita n).size = (Lib.itoa n).length := by show (Lib.itoa n).toArray.size = _; simp
 omega
theorem name_few (e : Int) : (eName e).size ≤ 10 := by
 unfold eName
 repeat (first | (split; exact (by decide)) | exact (by decide))
theorem read_few {s : EnS} (h : EnOk s) (n : Int) : (s.readS n).size ≤ 60 := by
 unfold EnS.readS
 split
 · exact Nat.zero_le _
 · rw [size_of, cutL_len]
   have := (h.readOk n).2
   omega
theorem ans_few {s : TkS} (h0 : EnOk s.e0) (h1 : EnOk s.e1) (h2 : s.L.length ≤ 40) (l : List UInt8) : (ans s l).1.size ≤ 100 := by
 unfold ans ansW
 cases hp : parse (cutAt 32 l) with
 | none => exact (by decide : bBad.size ≤ 100)
 | some t =>
   obtain ⟨x, ns, d⟩ := t
   obtain ⟨_, hm, hn⟩ := parse_word hp
   show (if (doW s x ns d).2.1 = 0 then (doW s x ns d).1 else eName (doW s x ns d).2.1).size ≤ 100
   split
   · have hr : ∀ a b : Int, (if s.readS a b = ⟨#[]⟩ then bDash else s.readS a b).size ≤ 100 := fun a b => by
      split
      · exact (by decide)
      · unfold TkS.readS
        split
        · unfold TkS.e
          split
          · have := read_few h0 b; omega
          · have := read_few h1 b; omega
        · exact Nat.zero_le _
     have hd : ∀ (i : Nat), (ns.getD i 0) ≤ 9999 := fun i => by
      rcases Nat.lt_or_ge i ns.length with h | h
      · have := hn _ (List.getElem_mem h)
        simpa [List.getD, List.getElem?_eq_getElem h] using this
      · simp [List.getD, List.getElem?_eq_none h]
     rcases many_cases hm with ⟨_, h⟩ | ⟨_, h⟩ | ⟨_, h⟩
     · rcases h with rfl | rfl | rfl | rfl | rfl | rfl
       · exact (by decide : bOk.size ≤ 100)
       · exact (by decide : bOk.size ≤ 100)
       · exact (by decide : bOk.size ≤ 100)
       · exact (by decide : bOk.size ≤ 100)
       · exact (by decide : bOk.size ≤ 100)
       · show (⟨(tells (vbytes (ns.getD 0 0 : Nat))).toArray⟩ : ByteArray).size ≤ 100
         rw [size_of]
         have h1 := tells_few (vbytes (ns.getD 0 0 : Nat))
         have h2 := vbytes_length (ns.getD 0 0 : Nat)
         have h3 : longN ((ns.getD 0 0 : Nat) : Int) ≤ 4 := by unfold longN; omega
         omega
     · rcases h with rfl | rfl
       · exact hr _ _
       · show (⟨(Lib.itoa (needV (ns.getD 0 0 : Nat) (ns.getD 1 0 : Nat))).toArray⟩ : ByteArray).size ≤ 100
         rw [size_of]
         have hv : 0 ≤ needV (ns.getD 0 0 : Nat) (ns.getD 1 0 : Nat) ∧ needV (ns.getD 0 0 : Nat) (ns.getD 1 0 : Nat) ≤ 4 := by
          unfold needV
          split
          · have := leastN_bounds ((ns.getD 0 0 : Nat) - (ns.getD 1 0 : Nat) : Int); omega
          · omega
         have := itoa_few hv.1 (by omega)
         omega
     · subst h
       show (⟨(Lib.itoa (s.L.length : Int)).toArray⟩ : ByteArray).size ≤ 100
       rw [size_of]
       have := itoa_few (n := (s.L.length : Int)) (by omega) (by omega)
       omega
   · have := name_few (doW s x ns d).2.1
     omega
theorem talk_ok {w : World} {S : List Nat} {g : Nat} {s : TkS} (h : (talkT g s).is w S) : s.L.length ≤ 40 ∧ EnOk s.e0 ∧ EnOk s.e1 := by
 obtain ⟨p, ok, ho⟩ := talkT_open h
 obtain ⟨S2, hS2, _⟩ := ho.at_ 2 rfl
 obtain ⟨S3, hS3, _⟩ := ho.at_ 3 rfl
 obtain ⟨q2, h2⟩ := endT_open hS2
 obtain ⟨q3, h3⟩ := endT_open hS3
 exact ⟨ok.1, h2.ok, h3.ok⟩
structure RunI (w0 : World) (gx b gb g : Nat) (s : TkS) (t : List UInt8) (W : World) : Prop where
 since : Since w0 W
 bx : BlockIs W gx 129 #[.pointer (some ⟨g, 0, none⟩)]
 hx : w0.heap.size ≤ gx ∧ w0.heap.size ≤ gb ∧ gb ≠ gx ∧ gb < W.heap.size
 ex : ∃ S SB : List Nat, (talkT g s).is W S ∧ (bldT b t).is W SB ∧ (∀ k, k ∈ S → w0.heap.size ≤ k ∧ k ≠ gx ∧ k ≠ gb ∧ k ∉ SB ∧ CellsAt W k) ∧ ∀ k, k ∈ SB → w0.heap.size ≤ k ∧ k ≠ gx ∧ k ≠ gb ∧ CellsAt W k
theorem CellsAt.out {W W' : World} {Q : List Nat} {k : Nat} (h : CellsAt W k) (ho : Out W W' Q) (hk : k ∉ Q) : CellsAt W' k := by
 obtain ⟨o, h1, h2⟩ := h
 exact ⟨o, (ho.block k (Array.getElem?_eq_some_iff.1 h1).1 hk).trans h1, h2⟩
theorem RunI.out {w0 W W' : World} {gx b gb g : Nat} {s : TkS} {t : List UInt8} {Q : List Nat} (h : RunI w0 gx b gb g s t W) (ho : Out W W' Q) (hQ : ∀ k, k ∈ Q → w0.heap.size ≤ k ∧ (k = gb ∨ ¬ CellsAt W k)) : RunI w0 gx b gb g s t W' := by
 obtain ⟨S, SB, h1, h2, h3, h4⟩ := h.ex
 have hgx : gx ∉ Q := fun hm => by
  rcases (hQ gx hm).2 with e | e
  · exact h.hx.2.2.1 e.symm
  · exact e (cells_block h.bx)
 have hS : ∀ k, k ∈ S → k ∉ Q := fun k hk hm => by
  rcases (hQ k hm).2 with e | e
  · exact (h3 k hk).2.2.1 e
  · exact e (h3 k hk).2.2.2.2
 have hB : ∀ k, k ∈ SB → k ∉ Q := fun k hk hm => by
  rcases (hQ k hm).2 with e | e
  · exact (h4 k hk).2.2.1 e
  · exact e (h4 k hk).2.2.2
 refine ⟨h.since.out' ho (fun k hk => (hQ k hk).1), ho.block' h.bx hgx, ⟨h.hx.1, h.hx.2.1, h.hx.2.2.1, Nat.lt_of_lt_of_le h.hx.2.2.2 ho.size⟩, S, SB, (talkT g s).kept h1 ho hS, (bldT b t).kept h2 ho hB, fun k hk => ?_, fun k hk => ?_⟩
 · obtain ⟨a, b', c, d, e⟩ := h3 k hk
   exact ⟨a, b', c, d, e.out ho (hS k hk)⟩
 · obtain ⟨a, b', c, e⟩ := h4 k hk
   exact ⟨a, b', c, e.out ho (hB k hk)⟩
theorem RunI.from_ (w0 : World) (gx b gb g B : Nat) (hB : w0.heap.size ≤ B) (F : List (List UInt8) → TkS × List UInt8) : OwnFrom B (fun (pre : List (List UInt8)) W => RunI w0 gx b gb g (F pre).1 (F pre).2 W) := fun pre W W' row h hg hr =>
 h.out (Q := row.toList) (Out.of_grown hg (fun k hk => Or.inl (by rw [hk]; simp))) (fun k hk => by
  have e : row = some k := by simpa [Option.mem_toList] using hk
  obtain ⟨h1, o, h2, h3⟩ := hr k e
  exact ⟨Nat.le_trans hB h1, Or.inr (fun ⟨o', h4, h5⟩ => by rw [h2] at h4; cases h4; rw [h3] at h5; cases h5)⟩)
theorem RunI.bears (w0 : World) (gx b gb g : Nat) (F : List (List UInt8) → TkS × List UInt8) : Bears gb (fun (pre : List (List UInt8)) W => RunI w0 gx b gb g (F pre).1 (F pre).2 W) :=
 ⟨fun pre A h => h.out (Out.refl A []).drew (by simp), fun pre A v h => h.out ((Out.refl A [gb]).put (p := ⟨gb, 0, none⟩) (Or.inl (by simp)) v) (fun k hk => by
  rw [List.mem_singleton.1 hk]
  exact ⟨h.hx.2.1, Or.inl rfl⟩)⟩
theorem out_cells {W W' : World} {Q : List Nat} (ho : Out W W' Q) (hQ : ∀ k, k ∈ Q → CellsAt W k) : KeepsOthers W W' := ⟨ho.size, fun k o hk hc => (ho.block k (Array.getElem?_eq_some_iff.1 hk).1 (fun hm => by
 obtain ⟨o', h1, h2⟩ := hQ k hm
 rw [hk] at h1
 cases h1
 rw [hc] at h2
 cases h2)).trans hk⟩
theorem RunI.talk {w0 W W' : World} {gx b gb g : Nat} {s s' : TkS} {t : List UInt8} {S SB : List Nat} (h : RunI w0 gx b gb g s t W) (h1 : (talkT g s).is W S) (h2 : (bldT b t).is W SB) (h3 : ∀ k, k ∈ S → w0.heap.size ≤ k ∧ k ≠ gx ∧ k ≠ gb ∧ k ∉ SB ∧ CellsAt W k) (h4 : ∀ k, k ∈ SB → w0.heap.size ≤ k ∧ k ≠ gx ∧ k ≠ gb ∧ CellsAt W k)
  (hl : Leaves W W' S (talkT g s')) : RunI w0 gx b gb g s' t W' ∧ KeepsOthers W W' ∧ W'.heap[gb]? = W.heap[gb]? := by
 obtain ⟨S', a1, a2, a3⟩ := hl
 have hgx : gx ∉ S := fun hm => (h3 gx hm).2.1 rfl
 have hgb : gb ∉ S := fun hm => (h3 gb hm).2.2.1 rfl
 obtain ⟨S2, c1, c2, c3⟩ := shr_talk g s' W' S' a1
 have hB : ∀ k, k ∈ SB → k ∉ S := fun k hk hm => (h3 k hm).2.2.2.1 hk
 refine ⟨⟨h.since.out' a2 (fun k hk => (h3 k hk).1), a2.block' h.bx hgx, ⟨h.hx.1, h.hx.2.1, h.hx.2.2.1, Nat.lt_of_lt_of_le h.hx.2.2.2 a2.size⟩, S2, SB, c2, (bldT b t).kept h2 a2 hB, fun k hk => ?_, fun k hk => ?_⟩, out_cells a2 (fun k hk => (h3 k hk).2.2.2.2), a2.block gb h.hx.2.2.2 hgb⟩
 · rcases a3 k (c1 k hk) with hm | hm
   · obtain ⟨p1, p2, p3, p4, _⟩ := h3 k hm
     exact ⟨p1, p2, p3, p4, c3 k hk⟩
   · refine ⟨Nat.le_trans h.since.size hm, ?_, ?_, fun hkB => ?_, c3 k hk⟩
     · have := h.bx.lt; omega
     · have := h.hx.2.2.2; omega
     · have := (bldT b t).lt h2 k hkB; omega
 · obtain ⟨p1, p2, p3, p4⟩ := h4 k hk
   exact ⟨p1, p2, p3, p4.out a2 (hB k hk)⟩
theorem RunI.text {w0 W W' : World} {gx b gb g : Nat} {s : TkS} {t t' : List UInt8} {S SB : List Nat} (h : RunI w0 gx b gb g s t W) (h1 : (talkT g s).is W S) (h2 : (bldT b t).is W SB) (h3 : ∀ k, k ∈ S → w0.heap.size ≤ k ∧ k ≠ gx ∧ k ≠ gb ∧ k ∉ SB ∧ CellsAt W k) (h4 : ∀ k, k ∈ SB → w0.heap.size ≤ k ∧ k ≠ gx ∧ k ≠ gb ∧ CellsAt W k)
  (hl : Leaves W W' SB (bldT b t')) : RunI w0 gx b gb g s t' W' ∧ KeepsOthers W W' ∧ W'.heap[gb]? = W.heap[gb]? := by
 obtain ⟨S', a1, a2, a3⟩ := hl
 have hgx : gx ∉ SB := fun hm => (h4 gx hm).2.1 rfl
 have hgb : gb ∉ SB := fun hm => (h4 gb hm).2.2.1 rfl
 obtain ⟨S2, c1, c2, c3⟩ := shr_bld b t' W' S' a1
 have hB : ∀ k, k ∈ S → k ∉ SB := fun k hk => (h3 k hk).2.2.2.1
 refine ⟨⟨h.since.out' a2 (fun k hk => (h4 k hk).1), a2.block' h.bx hgx, ⟨h.hx.1, h.hx.2.1, h.hx.2.2.1, Nat.lt_of_lt_of_le h.hx.2.2.2 a2.size⟩, S, S2, (talkT g s).kept h1 a2 hB, c2, fun k hk => ?_, fun k hk => ?_⟩, out_cells a2 (fun k hk => (h4 k hk).2.2.2), a2.block gb h.hx.2.2.2 hgb⟩
 · obtain ⟨p1, p2, p3, p4, p5⟩ := h3 k hk
   refine ⟨p1, p2, p3, fun hkB => ?_, p5.out a2 (hB k hk)⟩
   rcases a3 k (c1 k hkB) with hm | hm
   · exact p4 hm
   · have := (talkT g s).lt h1 k hk; omega
 · rcases a3 k (c1 k hk) with hm | hm
   · obtain ⟨p1, p2, p3, _⟩ := h4 k hm
     exact ⟨p1, p2, p3, c3 k hk⟩
   · refine ⟨Nat.le_trans h.since.size hm, ?_, ?_, c3 k hk⟩
     · have := h.bx.lt; omega
     · have := h.hx.2.2.2; omega
attribute [local go_sem] Oper.semAt_some
def trim (x : List UInt8) : List UInt8 := Lib.trimSuffix x [10]
theorem trim_len (x : List UInt8) : (trim x).length ≤ x.length := by
 unfold trim Lib.trimSuffix
 split
 · rw [List.length_take]; omega
 · exact Nat.le_refl _
theorem trims_len : ∀ L : List (List UInt8), (L.map trim).flatten.length ≤ L.flatten.length
 | [] => Nat.le_refl _
 | x :: r => by
   have h1 := trim_len x
   have h2 := trims_len r
   rw [List.map_cons, List.flatten_cons, List.flatten_cons, List.length_append, List.length_append]
   omega
theorem take_flat (L : List (List UInt8)) (k : Nat) : (L.take k).flatten.length ≤ L.flatten.length := by
 have h : L.flatten.length = (L.take k).flatten.length + (L.drop k).flatten.length := by rw [← List.length_append, ← List.flatten_append, List.take_append_drop]
 omega
theorem mem_flat {L : List (List UInt8)} {x : List UInt8} (h : x ∈ L) : x.length ≤ L.flatten.length := by
 induction L with
 | nil => simp at h
 | cons y r ih =>
   rw [List.flatten_cons, List.length_append]
   rcases List.mem_cons.1 h with rfl | h
   · omega
   · have := ih h; omega
noncomputable def after (pre : List (List UInt8)) : TkS × List UInt8 := (behind (TkS.new 20) (pre.map trim), anss (TkS.new 20) (pre.map trim))
theorem after_snoc (pre : List (List UInt8)) (x : List UInt8) : after (pre ++ [x]) = ((ans (after pre).1 (trim x)).2, (after pre).2 ++ ((ans (after pre).1 (trim x)).1 ++ ⟨#[10]⟩).data.toList) := by
 unfold after
 rw [List.map_append, behind_app, anss_app]
 simp [behind, anss]
theorem after_few (L : List (List UInt8)) (k : Nat) (h : L.flatten.length ≤ 3000) : Few (after (L.take k)).1 1000 := by
 have h1 := few_behind ((L.take k).map trim) (s := TkS.new 20) (k := 0) ⟨Nat.le_refl _, Nat.le_refl _⟩
 have h2 := fours_few ((L.take k).map trim)
 have h3 := trims_len (L.take k)
 have h4 := take_flat L k
 exact h1.up (by omega)
theorem lines_in (n : Nat) (s : ByteArray) (w : World) : CallsIn Fence.wide n Tryz.prog 75 #[.string s] w fun e w' => e = .returned (.func (.func 111) #[] #[.pointer (some ⟨w.heap.size, 0, none⟩)]) ∧ w' = w.alloc (.cells #[.string s] 9) := by
 refine callsIn_of_wp Tryz.func75 rfl trivial ?_ rfl
 simp only [Tryz.ntmps75, List.size_toArray, List.length_cons, List.length_nil, Nat.reduceAdd, Nat.reduceSub, Array.replicate_succ, Array.replicate_zero, List.push_toArray, List.append_toArray, List.nil_append, List.cons_append]
 gi_wp2
 go_ret
 exact ⟨rfl, rfl⟩
theorem linesA_hands (L : List (List UInt8)) (h0 : LnOk L) (hb : L.flatten.length ≤ 1000000) (n : Nat) (hn : 1 ≤ n) (gb : Nat) (w : World) (hc : BlockIs w gb 9 #[.string ⟨L.flatten.toArray⟩]) :
  Hands Fence.wide n Tryz.prog 111 gb #[.pointer (some ⟨gb, 0, none⟩)] (fun x => #[lnv x]) (fun xs => xs = L) (nextLn L) w := by
 intro l J W hW hJ hY hj
 have hc2 := hc.later hW
 exact (linesA_in n hn gb L h0 hb l J W hJ hY (hc2.cell 0) (hc2.free 0) hj).mono fun e X ⟨h1, h2⟩ => ⟨h1, L, rfl, h2⟩
theorem lines_few : ∀ t : List UInt8, (linesOf t).length ≤ t.length
 | [] => Nat.le_refl _
 | b :: r => by
   have ih := lines_few r
   rw [linesOf]
   split
   · rw [List.length_cons, List.length_cons]; omega
   · split
     · rename_i h; rw [h] at ih; simp
     · rename_i l ls h
       rw [h, List.length_cons] at ih
       rw [List.length_cons, List.length_cons]; omega
theorem keeps_cell {W X : World} {g : Nat} (h : X.heap[g]? = W.heap[g]?) {v : Value} (hv : W.cell? ⟨g, 0, none⟩ = some v) (hf : W.frozen? ⟨g, 0, none⟩ = false) : X.cell? ⟨g, 0, none⟩ = some v ∧ X.frozen? ⟨g, 0, none⟩ = false := by
 unfold World.cell? at hv ⊢
 unfold World.frozen? at hf ⊢
 rw [h]
 exact ⟨hv, hf⟩
theorem RunI.start {w w1 : World} {g : Nat} (hl : Leaves w w1 [] (talkT g (TkS.new 20))) (t : ByteArray) : RunI w w1.heap.size (w1.heap.size + 1) (w1.heap.size + 1 + 1) g (TkS.new 20) [] (((w1.alloc (.cells #[.pointer (some ⟨g, 0, none⟩)] 129)).alloc (.cells #[.pointer none, .slice none 0 0] 133)).alloc (.cells #[.string t] 9)) := by
 obtain ⟨S', a1, a2, a3⟩ := hl
 have hs : Since w w1 := a2.none_
 have hle := hs.size
 obtain ⟨S2, c1, c2, c3⟩ := shr_talk g (TkS.new 20) w1 S' a1
 have hsz : (w1.alloc (.cells #[.pointer (some ⟨g, 0, none⟩)] 129)).heap.size = w1.heap.size + 1 := by simp
 have hb := bld_fresh (w1.alloc (.cells #[.pointer (some ⟨g, 0, none⟩)] 129))
 rw [hsz] at hb
 have s3 : Since w1 (((w1.alloc (.cells #[.pointer (some ⟨g, 0, none⟩)] 129)).alloc (.cells #[.pointer none, .slice none 0 0] 133)).alloc (.cells #[.string t] 9)) := (by exact Since.alloc (Since.alloc (Since.alloc (Since.refl _) _) _) _)
 refine ⟨hs.later s3, ((BlockIs.fresh w1 _ _).alloc _).alloc _, ⟨hle, by omega, by omega, by simp⟩, S2, [w1.heap.size + 1], (talkT g (TkS.new 20)).later c2 s3, (bldT _ []).later hb ((Since.refl _).alloc _), fun k hk => ?_, fun k hk => ?_⟩
 · have hlt := (talkT g (TkS.new 20)).lt c2 k hk
   refine ⟨?_, by omega, by omega, by simp; omega, (c3 k hk).out (Out.of_below s3 []) (by simp)⟩
   rcases a3 k (c1 k hk) with h | h
   · simp at h
   · exact h
 · rw [List.mem_singleton.1 hk]
   have hcb : CellsAt ((w1.alloc (.cells #[.pointer (some ⟨g, 0, none⟩)] 129)).alloc (.cells #[.pointer none, .slice none 0 0] 133)) (w1.heap.size + 1) := by
    obtain ⟨p, v, _, h2, _⟩ := hb
    exact ⟨_, h2, rfl⟩
   exact ⟨by omega, by omega, by omega, hcb.out (Out.of_below ((Since.refl _).alloc _) []) (by simp)⟩
theorem prun_in (t : ByteArray) (ht : t.size ≤ 3000) (w : World) (T : RTabs w) :
  CallsIn Fence.wide 6 Tryz.prog 36 #[.string t] w fun e w' => e = .returned (.string ⟨(after (linesOf t.data.toList)).2.toArray⟩) ∧ Since w w' := by
 have HTN := Lib.hid (fun W => tnew 20 (by decide) (by decide) W)
 have hlt : decide ((3000 : Int) < (t.size : Int)) = false := by simp; omega
 have hlt2 : ¬ 3000 < t.size := by omega
 have hflat : (⟨(linesOf t.data.toList).flatten.toArray⟩ : ByteArray) = t := by
  rw [linesOf_flat]
 have hLb : (linesOf t.data.toList).flatten.length ≤ 3000 := by
  rw [linesOf_flat, Array.length_toList]
  exact ht
 have hLn : (linesOf t.data.toList).length ≤ 3000 := by
  have := lines_few t.data.toList
  rw [Array.length_toList] at this
  exact Nat.le_trans this ht
 have hOK := linesOf_ok t.data.toList
 obtain ⟨L, hL⟩ : ∃ L, linesOf t.data.toList = L := ⟨_, rfl⟩
 rw [hL] at hflat hLb hLn hOK
 rw [hL]
 refine callsIn_of_wp_marks Tryz.func36 rfl trivial ?_ rfl
 simp only [Tryz.ntmps36, List.size_toArray, List.length_cons, List.length_nil, Nat.reduceAdd, Nat.reduceSub, Array.replicate_succ, Array.replicate_zero, List.push_toArray, List.append_toArray, List.nil_append, List.cons_append]
 gi_wp2_with (refine ⟨trivial, ?_⟩; gi_at_call 23; refine (callsIn_wide.2 (HTN.out _)).mono ?_; rintro e w1 ⟨g, rfl, hl⟩)
 gi_wp2_with (refine ⟨trivial, ?_⟩; gi_at_call 75; refine (lines_in _ _ _).mono ?_; rintro e w2 ⟨rfl, rfl⟩)
 have hst := RunI.start hl t
 obtain ⟨W3, hW3⟩ : ∃ W3, (((w1.alloc (.cells #[.pointer (some ⟨g, 0, none⟩)] 129)).alloc (.cells #[.pointer none, .slice none 0 0] 133)).alloc (.cells #[.string t] 9)) = W3 := ⟨_, rfl⟩
 have hcg : BlockIs W3 (w1.heap.size + 1 + 1) 9 #[.string ⟨L.flatten.toArray⟩] := by rw [hflat, ← hW3]; exact BlockIs.fresh_at (by simp)
 have hgl : w1.heap.size + 1 + 1 < W3.heap.size := hcg.lt
 rw [hW3] at hst
 rw [hW3]
 obtain ⟨gx, hgx⟩ : ∃ x, w1.heap.size = x := ⟨_, rfl⟩
 rw [hgx] at hst hcg hgl
 rw [hgx]
 clear hl hW3 hgx hlt hlt2 HTN
 refine rangeW (w := W3) rfl (by omega) (gf := 111) (gb := gx + 1 + 1) (lb := #[.pointer (some ⟨gx + 1 + 1, 0, none⟩)]) rfl trivial (enters_of Tryz.func111 (by kernel_rfl) rfl) hgl
  (linesA_hands L hOK (by omega) _ (by omega) (gx + 1 + 1) _ hcg) (fun _ => rfl)
  (fun pre W => RunI w gx (gx + 1) (gx + 1 + 1) g (after pre).1 (after pre).2 W ∧ (after pre).2.length ≤ 101 * pre.length)
  (OwnFrom.and (RunI.from_ w gx (gx + 1) (gx + 1 + 1) g _ hst.since.size after) (ownFrom_pure _ (fun pre => (after pre).2.length ≤ 101 * pre.length)))
  ⟨fun pre A h => ⟨(RunI.bears w gx (gx + 1) (gx + 1 + 1) g after).drew _ _ h.1, h.2⟩, fun pre A v h => ⟨(RunI.bears w gx (gx + 1) (gx + 1 + 1) g after).cell _ _ _ h.1, h.2⟩⟩
  ⟨hst, Nat.zero_le _⟩
  (fun x => { tmps := #[.string t, undef, .string ⟨#[]⟩, .pointer (some ⟨g, 0, none⟩), .nilIface, .pointer (some ⟨gx, 0, none⟩), .pointer (some ⟨gx + 1, 0, none⟩), lnv x, .string t, .int .i64 t.size, .bool false, .tuple #[.pointer (some ⟨g, 0, none⟩), .nilIface], .tuple #[.pointer (some ⟨g, 0, none⟩), .nilIface], .pointer (some ⟨g, 0, none⟩), .nilIface, .nilIface, .bool false, .pointer (some ⟨g, 0, none⟩), .agg #[.pointer (some ⟨g, 0, none⟩)], .string t, .func (.func 111) #[] #[.pointer (some ⟨gx + 1 + 1, 0, none⟩)], lnv x, undef, undef, undef, undef, undef, undef, undef], defers := [] }) ?assign ?body ?done
 case assign =>
  intro l x W K hK
  gi_wp2
  exact hK
 case body =>
  rintro l pre x W ⟨hR, hz⟩ hlen
  obtain ⟨k, hk, rfl, rfl⟩ := hlen
  have hfew := after_few L k hLb
  have hsn := after_snoc (L.take k) (L.getD k [])
  have hpl : (L.take k ++ [L.getD k []]).length = (L.take k).length + 1 := by rw [List.length_append]; rfl
  have hkl : (L.take k).length ≤ 3000 := by rw [List.length_take]; omega
  have hxl : (L.getD k []).length ≤ 3000 := by
   have h1 : L.getD k [] ∈ L := by simp [List.getD, List.getElem?_eq_getElem hk]
   have h2 := mem_flat h1
   omega
  have HTS : Hid (∀ X, Calls Tryz.prog 78 #[lnv (L.getD k []), .string ⟨#[10]⟩] X fun e X' => e = .returned (.string ⟨(trim (L.getD k [])).toArray⟩) ∧ X' = X) := Lib.hid (fun X => by
   have h := Tryz.strings_TrimSuffix ⟨(L.getD k []).toArray⟩ ⟨#[10]⟩ X (by rw [size_of]; omega)
   have e1 : (⟨(L.getD k []).toArray⟩ : ByteArray).data.toList = L.getD k [] := by simp
   have e2 : (⟨#[10]⟩ : ByteArray).data.toList = [10] := rfl
   rw [e1, e2] at h
   exact h)
  have hRd : RunI w gx (gx + 1) (gx + 1 + 1) g (after (L.take k)).1 (after (L.take k)).2 W.drew := (RunI.bears w gx (gx + 1) (gx + 1 + 1) g after).drew _ _ hR
  have htl := trim_len (L.getD k [])
  rw [hsn, hpl]
  generalize (after (L.take k)).1 = s0 at *
  generalize (after (L.take k)).2 = tx at *
  generalize trim (L.getD k []) = y at *
  generalize L.getD k [] = x at *
  obtain ⟨S, SB, h1, h2, h3, h4⟩ := hRd.ex
  obtain ⟨ok1, ok2, ok3⟩ := talk_ok h1
  have hx1 := ans_few ok2 ok3 ok1 y
  have HAN : Hid (Calls Tryz.prog 77 #[.agg #[.pointer (some ⟨g, 0, none⟩)], .string ⟨y.toArray⟩] W.drew fun e w' => e = .returned (.string (ans s0 y).1) ∧ Leaves W.drew w' S (talkT g (ans s0 y).2)) := Lib.hid (by
   have h := answerL w T g s0 hfew ⟨y.toArray⟩ (by rw [size_of]; omega) W.drew S hRd.since h1 (fun k hk => (h3 k hk).1)
   have e1 : (⟨y.toArray⟩ : ByteArray).data.toList = y := by simp
   rw [e1] at h
   exact h)
  generalize (ans s0 y).1 = X at *
  generalize (ans s0 y).2 = s1 at *
  have hx2 : (X ++ (⟨#[10]⟩ : ByteArray)).size ≤ 101 := by rw [ByteArray.size_append]; have : (⟨#[10]⟩ : ByteArray).size = 1 := rfl; omega
  have hx3 : (tx ++ (X ++ (⟨#[10]⟩ : ByteArray)).data.toList).length ≤ 101 * ((L.take k).length + 1) := by
   have e9 : (X ++ (⟨#[10]⟩ : ByteArray)).data.toList.length = (X ++ (⟨#[10]⟩ : ByteArray)).size := by rw [Array.length_toList]; rfl
   rw [List.length_append, e9]
   omega
  have hmx : Tryz.prog.follows .mixedOrders = true := by kernel_rfl
  have cx : W.cell? ⟨gx, 0, none⟩ = some (.pointer (some ⟨g, 0, none⟩)) := hR.bx.cell 0
  have hX60 : X.size ≤ 100 := hx1
  have H1 := Lib.hid h1
  have H2 := Lib.hid h2
  have H3 := Lib.hid h3
  have H4 := Lib.hid h4
  have HRD := Lib.hid hRd
  clear h1 h2 h3 h4 hRd ok1 ok2 ok3 hsn hfew
  gi_wp2
  gi_region_with_o (first
   | (refine ⟨trivial, ?_⟩; gi_at_call 78; refine (CallsIn.inRound l (callsIn_wide.2 (HTS.out _))).mono ?_; rintro e X1 ⟨rfl, rfl⟩)
   | (refine ⟨trivial, ?_⟩; gi_at_call 77; refine (CallsIn.inRound l (callsIn_wide.2 HAN.out)).mono ?_; rintro e w5 ⟨rfl, hl5⟩; obtain ⟨hR5, hk5, hg5⟩ := RunI.talk HRD.out H1.out H2.out H3.out H4.out hl5; obtain ⟨S5, SB5, i1, i2, i3, i4⟩ := hR5.ex; have HW := Lib.hid (bwriteT (gx + 1) tx (X ++ ⟨#[10]⟩) w5 SB5 i2 (by omega)))
   | (refine ⟨trivial, ?_⟩; gi_at_call 76; refine (CallsIn.inRound l (callsIn_wide.2 HW.out)).mono ?_; rintro e w6 ⟨rfl, hl6⟩; obtain ⟨hR6, hk6, hg6⟩ := RunI.text hR5 i1 i2 i3 i4 hl6))
  all_goals
   gi_wp2
   exact ⟨(show KeepsOthers W w5 from ⟨hk5.size, fun k o a1 a2 => hk5.same k o a1 a2⟩).trans hk6, ⟨hR6, by first | exact hx3 | (have hz9 := hz; rw [List.length_take] at hz9; omega)⟩, fun v hv hf => keeps_cell (hg6.trans hg5) hv hf⟩
 case done =>
  rintro D ys W hD rfl ⟨hR, hz⟩ hK
  obtain ⟨S, SB, h1, h2, h3, h4⟩ := hR.ex
  have HST := Lib.hid (bld_text w (gx + 1) (after ys).2 W SB hR.since h2 (fun k hk => (h4 k hk).1))
  clear h1 h2 h3 h4
  gi_wp2_with fail
  refine ⟨trivial, ?_⟩
  refine (callsIn_wide.2 HST.out).mono ?_
  rintro e w9 ⟨rfl, hs9, hk9⟩
  have hd9 := hk9 D _ hK rfl
  have hDw : w.heap.size ≤ D := Nat.le_trans hst.since.size hD
  gi_wp2_with fail
  refine ⟨by simp, .inl ⟨_, _, rfl, run_takeDeferred hd9, ?_⟩⟩
  exact ⟨.string ⟨(after ys).2.toArray⟩, by simp [results, go_sem], rfl, hs9.trans (belowK_b (w := w) (Nat.le_refl _) w9 D _ _ hDw hd9 rfl rfl)⟩
theorem prun (t : ByteArray) (ht : t.size ≤ 3000) (w : World) (T : RTabs w) :
  Calls Tryz.prog 36 #[.string t] w fun e w' => e = .returned (.string ⟨(after (linesOf t.data.toList)).2.toArray⟩) ∧ Since w w' :=
 callsIn_wide.1 (prun_in t ht w T)
def bLong : ByteArray := ⟨#[116, 111, 111, 32, 108, 111, 110, 103, 10]⟩
theorem prun_long (t : ByteArray) (ht : 3000 < t.size) (w : World) :
  Calls Tryz.prog 36 #[.string t] w fun e w' => e = .returned (.string bLong) ∧ Since w w' := by
 have hl : (3000 : Int) < (t.size : Int) := by omega
 go_enter Tryz.func36, Tryz.ntmps36
 go_wp2_with fail
 go_ret
 exact ⟨rfl, Since.refl _⟩
end Go.Proofs.YtmfbaijbigodkaaGreatDoor
namespace Go.Proofs.YtmfbaijbigodkaaGreatDoor
open Go.ChangeShapes Go.WideShapes Go.ChangeAt Go.RowKit
set_option linter.unusedVariables false
noncomputable def EnS.hear (y x : EnS) : EnS := (y.take x.packet).read 60
end Go.Proofs.YtmfbaijbigodkaaGreatDoor
