/- Contracts and plain laws that the claim leans on, part 8 of 10: each part has its own word. No condition beside theirs. -/
import Derived.Test.YtmfbaijbigodkaaGreatDoorBase
import Derived.Test.YtmfbaijbigodkaaGreatDoorOnly
import Derived.Test.YtmfbaijbigodkaaGreatDoorMay
import Derived.Test.YtmfbaijbigodkaaGreatDoorCredit
import Derived.Test.YtmfbaijbigodkaaGreatDoorVG
import Derived.Laws.IdiomCopy
import Derived.Deep.RegionLaw
import Derived.Lib.SliceRun
import Derived.Deep.QuietTactic
import Derived.BigQuiet
import Derived.BigRegion
import Derived.StillTailTactics
import Derived.Shelf.Strings.Builder1
import Derived.Shelf.Strings.Builder2
import Derived.Shelf.Strings.OnBuilder
import Derived.Shelf.Small.Bits
import Derived.Shelf.Small.Strs
import Derived.Shelf.Strings.BuilderF
import Derived.Shelf.Strings.BuilderK
import Derived.Shelf.Strconv.Atoi
import Derived.Shelf.Strconv.Itoa0
import Derived.Shelf.Strconv.Itoa1
import Derived.Shelf.LaysM
import Derived.Shelf.Strconv.Itoa2
import Derived.Shelf.Strconv.Itoa3
import Derived.Shelf.Strconv.AtoiErrFast
import Derived.Shelf.Strconv.ParseIntEmpty
import Derived.Shelf.Strconv.AtoiFail
import Derived.Shelf.Strconv.Clone
import Derived.Shelf.Strconv.SyntaxError
import Derived.Shelf.LaysC
import Derived.Shelf.Strconv.ToError
import Derived.Shelf.Strconv.Lower
import Derived.Shelf.Strconv.ParseUint10
import Derived.Shelf.Strconv.ParseUint10Empty
import Derived.Shelf.Strconv.ParseUint10Any
import Derived.Shelf.Strconv.ParseInt10
import Derived.Shelf.Strconv.AtoiLong
import Derived.Shelf.Strconv.AtoiInnerAll
import Derived.Shelf.Strconv.RangeError
import Derived.Shelf.Strconv.ToErrorRange
import Derived.Shelf.Strconv.AtoiAll
import Derived.Shelf.Strconv.ErrVarAll
import Derived.Shelf.Strings.Search1
import Derived.Shelf.Strings.Search2
import Derived.Shelf.Strings.Search3
import Derived.Shelf.Strings.Count
import Derived.Shelf.Strings.Shaped
import Derived.Shelf.Strings.Prefix
import Derived.Shelf.Strings.Split
import Derived.Shelf.Strings.SplitShaped
import Derived.Shelf.Unicode.DecodeSlow
import Derived.Test.YtmfbaijbigodkaaGreatDoorProg
import Derived.Lib.LaidTab
import Derived.Lib.ItoaNum
import Derived.Stop.LaidErr
import Derived.Lib.ItoaMem
import Derived.Sort.Grow
import Derived.Lib.Atoi
import Derived.Lib.LastIndexLaws
import Derived.Lib.IndexLaws
import Derived.Lib.Strings
import Derived.Lib.SplitLaws
import Derived.Lib.AtoiTie
import Derived.Lib.Join
set_option maxHeartbeats 40000000
set_option maxRecDepth 100000
namespace Go.Proofs.YtmfbaijbigodkaaGreatDoor
open Go.ChangeShapes Go.WideShapes Go.ChangeAt Go.RowKit
set_option linter.unusedVariables false
def putz (cs : Array Value) : Nat → List Value → Array Value
 | _, [] => cs
 | o, v :: r => putz (cs.setIfInBounds o v) (o + 1) r
theorem putz_size : ∀ (vs : List Value) (cs : Array Value) (o : Nat), (putz cs o vs).size = cs.size
 | [], cs, o => rfl
 | v :: r, cs, o => by unfold putz; rw [putz_size r]; simp
theorem putz_list : ∀ (vs : List Value) (cs : Array Value) (o : Nat), o + vs.length ≤ cs.size → (putz cs o vs).toList = cs.toList.take o ++ vs ++ cs.toList.drop (o + vs.length)
 | [], cs, o, h => by simp [putz]
 | v :: r, cs, o, h => by
   rw [List.length_cons] at h
   unfold putz
   rw [putz_list r (cs.setIfInBounds o v) (o + 1) (by simp; omega)]
   rw [Array.toList_setIfInBounds]
   have ho : o < cs.toList.length := by simp; omega
   rw [List.take_set, List.drop_set_of_lt (by omega)]
   have e1 : (cs.toList.take (o + 1)).set o v = cs.toList.take o ++ [v] := by
    rw [List.take_succ_eq_append_getElem ho, List.set_append_right _ _ (by rw [List.length_take]; omega), List.length_take, show o - min o cs.toList.length = 0 from by omega]
    rfl
   rw [e1, List.length_cons, show o + 1 + r.length = o + (r.length + 1) from by omega]
   simp
theorem BlockIs.putAll : ∀ (vs : List Value) {w : World} {g : Nat} {t : TypeId} {cs : Array Value} (h : BlockIs w g t cs) (o : Nat), BlockIs (w.setCells g o vs) g t (putz cs o vs)
 | [], _, _, _, _, h, _ => h
 | v :: r, w, g, t, cs, h, o => by
   unfold World.setCells putz
   exact BlockIs.putAll r (h.put o v) (o + 1)
theorem Out.putAll : ∀ (vs : List Value) (w : World) (g o : Nat), Out w (w.setCells g o vs) [g]
 | [], w, _, _ => Out.refl w _
 | v :: r, w, g, o => by
   unfold World.setCells
   exact ((Out.refl w [g]).put (p := ⟨g, o, none⟩) (Or.inl (by simp)) v).trans (Out.putAll r _ g (o + 1))
theorem run_clear1 {P : Program} (w : World) (t e ty : TypeId) (z : Value) (zs : List Value) (ht : P.underlying t = some (.slice e)) (hv : (zeroValue e).run P w = .ok z w) (hz : z.cells = zs.toArray) (h1 : ∀ u ∈ zs, u.oneCell' = true) (b o c n : Nat) (hn : n = 1)
  (hc : ∀ j, j < zs.length → (w.cell? ⟨b, o + j, none⟩).isSome = true) (hf : ∀ j, j < zs.length → w.frozen? ⟨b, o + j, none⟩ = false) :
  (Builtin.clear_ #[t] ty #[.slice (some ⟨b, o, none⟩) n c]).run P w = .ok (.tuple #[]) (w.setCells b o zs) := by
 subst hn
 have hzc : (Builtin.zeroCells z.cells 1).toList = zs := by
  rw [hz]
  simp [Builtin.zeroCells]
  apply List.ext_getElem
  · simp
  · intro i h1 h2
    simp at h1
    simp [Nat.mod_eq_of_lt h1, h1]
 have hst := run_storeCells_cells (P := P) b o zs 0 w (by simpa using hc) (by simpa using hf) h1
 simp only [Nat.add_zero] at hst
 simp [Builtin.clear_, run_underlying ht, hv, hzc, hst]
theorem del_cells {E size : Nat} {w : World} {g cap : Nat} {es : List (List Value)} (h : Lst w E size (.slice (some ⟨g, 0, none⟩) es.length cap) es) {i : Nat} (hi : i < es.length) (hs : 0 < size) (zs : List Value) (hz : zs.length = size) :
  ∃ cur, BlockIs w g E cur ∧ cur.size = cap * size ∧ es.length ≤ cap ∧ cap ≤ maxLen ∧
   ((putz (putz cur (i * size) (flat (es.drop (i + 1)))) ((es.length - 1) * size) zs).toList.take ((es.length - 1) * size) = flat (es.take i ++ es.drop (i + 1))) := by
 rcases h.own.2 with ⟨h0, _⟩ | ⟨g', cap', cur, hv, _, hg, h1, h2, h3, h4⟩
 · cases h0
 simp only [Value.slice.injEq, Option.some.injEq, Addr.mk.injEq, and_true, true_and] at hv
 obtain ⟨rfl, rfl⟩ := hv
 refine ⟨cur, hg, h3, h1, h2, ?_⟩
 have hr : ∀ e ∈ es, e.length = size := fun e he => (h.rows e he).1
 have hdl : (flat (es.drop (i + 1))).length = (es.length - (i + 1)) * size := by
  rw [flat_length (fun e he => hr e (List.mem_of_mem_drop he)), List.length_drop]
 have hA : i * size + (es.length - (i + 1)) * size = (es.length - 1) * size := by rw [← Nat.add_mul]; congr 1; omega
 have hB : (es.length - 1) * size + size = es.length * size := by
  obtain ⟨m, hm⟩ : ∃ m, es.length = m + 1 := ⟨es.length - 1, by omega⟩
  rw [hm, Nat.add_sub_cancel, Nat.succ_mul]
 have hC : es.length * size ≤ cap * size := Nat.mul_le_mul_right _ h1
 have hle1 : i * size + (flat (es.drop (i + 1))).length ≤ cur.size := by rw [hdl, h3]; omega
 rw [putz_list zs _ _ (by rw [putz_size, hz, h3]; omega), putz_list _ cur _ hle1]
 have ht : cur.toList.take (i * size) = flat (es.take i) := by
  rw [← flat_take hr i, ← h4, List.take_take, Nat.min_eq_left (Nat.mul_le_mul_right _ (by omega))]
 rw [ht]
 have hl1 : (flat (es.take i) ++ flat (es.drop (i + 1))).length = (es.length - 1) * size := by
  rw [List.length_append, hdl, flat_length (fun e he => hr e (List.mem_of_mem_take he)), List.length_take, Nat.min_eq_left (by omega), hA]
 have hfl : flat (es.take i ++ es.drop (i + 1)) = flat (es.take i) ++ flat (es.drop (i + 1)) := by simp [flat]
 rw [hfl]
 generalize flat (es.take i) ++ flat (es.drop (i + 1)) = X at *
 rw [List.append_assoc, List.take_append_of_le_length (by rw [List.length_take, List.length_append, hl1]; omega), List.take_take, Nat.min_self, List.take_append_of_le_length (by omega), List.take_of_length_le (by omega)]
structure Let where
 too : Int
 b : ByteArray
def letRow (d : Let) : List Value := [.int .i64 d.too, .string d.b]
def noLet : Let := ⟨0, ⟨#[]⟩⟩
theorem letRow_one (d : Let) : (letRow d).length = 2 ∧ ∀ u ∈ letRow d, u.oneCell' = true := ⟨rfl, by intro u hu; simp [letRow] at hu; rcases hu with rfl | rfl <;> rfl⟩
theorem Tryz.elLet : Elem Tryz.prog 166 170 2 24 := ⟨Tryz.underlying166, ⟨.agg #[.int .i64 0, .string ⟨#[]⟩], rfl, by kernel_rfl⟩, by decide, by decide⟩
theorem elem_of_let {L : List Let} {i : Nat} (h : i < L.length) : (L.map letRow)[i]? = some (letRow L[i]) := by simp [h]
def isB (L : List Let) (x : Int) : Bool := decide (0 ≤ x) && decide (x < (L.length : Int))
def whoB (x : Int) : Bool := decide (x = 0) || decide (x = 1)
theorem isB_iff {L : List Let} {x : Int} : isB L x = true ↔ 0 ≤ x ∧ x < L.length := by unfold isB; simp
theorem isB_no {L : List Let} {x : Int} : isB L x = false ↔ ¬ (0 ≤ x ∧ x < L.length) := by rw [← isB_iff]; cases isB L x <;> simp
def sendE (L : List Let) (too : Int) (b : ByteArray) : Int := if whoB too = true then (if L.length = 40 ∨ 200 < b.size then 4 else 0) else 1
def sendL (L : List Let) (too : Int) (b : ByteArray) : List Let := if sendE L too b = 0 then L ++ [⟨too, b⟩] else L
def giveE (L : List Let) (x : Int) : Int := if isB L x = true then 0 else 1
def giveD (L : List Let) (x : Int) : Let := if isB L x = true then L.getD x.toNat noLet else noLet
def giveL (L : List Let) (x : Int) : List Let := if isB L x = true then L.take x.toNat ++ L.drop (x.toNat + 1) else L
def twiceE (L : List Let) (x : Int) : Int := if isB L x = true then (if L.length = 40 then 4 else 0) else 1
def twiceL (L : List Let) (x : Int) : List Let := if twiceE L x = 0 then L ++ [L.getD x.toNat noLet] else L
structure Kz (w : World) (g : Nat) (v : Value) (L : List Let) : Prop where
 bl : BlockIs w g 168 #[v]
 ls : Lst w 170 2 v (L.map letRow)
 few : L.length ≤ 40
theorem Kz.later {w w1 : World} {g : Nat} {v : Value} {L : List Let} (h : Kz w g v L) (hb : Below w.heap.size w w1) : Kz w1 g v L := ⟨h.bl.later hb, h.ls.later hb, h.few⟩
theorem Kz.kept {w w1 : World} {g : Nat} {v : Value} {L : List Let} {S : List Nat} (h : Kz w g v L) (hg : Out w w1 S) (h1 : ∀ k, k ∈ g :: blocks v → k ∉ S) : Kz w1 g v L :=
 ⟨hg.block' h.bl (h1 _ (by simp)), h.ls.kept hg (fun k hk => h1 k (by simp [hk])), h.few⟩
theorem Kz.lt {w : World} {g : Nat} {v : Value} {L : List Let} (h : Kz w g v L) : ∀ k, k ∈ g :: blocks v → k < w.heap.size := by
 intro k hk
 rcases List.mem_cons.1 hk with rfl | hk
 · exact h.bl.lt
 · exact h.ls.lt k hk
def KLeft (w w' : World) (g : Nat) (v : Value) (L : List Let) : Prop := ∃ v', Kz w' g v' L ∧ Out w w' (g :: blocks v) ∧ ∀ k, k ∈ blocks v' → k ∈ blocks v ∨ w.heap.size ≤ k
theorem KLeft.same {w w' : World} {g : Nat} {v : Value} {L : List Let} (h : Kz w g v L) (hb : Below w.heap.size w w') : KLeft w w' g v L := ⟨v, h.later hb, Out.of_below hb _, fun k hk => Or.inl hk⟩
theorem who_any (x : Int) (w : World) : Calls Tryz.prog 68 #[.int .i64 x] w fun e w' => e = .returned (.bool (whoB x)) ∧ w = w' := by
 unfold whoB
 by_cases h0 : x = 0
 · subst h0
   go_enter Tryz.func68, Tryz.ntmps68
   go_wp2
   go_ret
   exact ⟨rfl, rfl⟩
 · have a0 : (x == 0) = false := by simpa using h0
   have b0 : decide (x = 0) = false := by simpa using h0
   rw [b0, Bool.false_or]
   by_cases h1 : x = 1
   · subst h1
     clear h0 a0 b0
     go_enter Tryz.func68, Tryz.ntmps68
     go_wp2
     go_ret
     exact ⟨rfl, rfl⟩
   · have a1 : (x == 1) = false := by simpa using h1
     have b1 : decide (x = 1) = false := by simpa using h1
     rw [b1]
     clear h0 h1 b0 b1
     go_enter Tryz.func68, Tryz.ntmps68
     go_wp2
     go_ret
     exact ⟨rfl, rfl⟩
theorem knew (w : World) : Calls Tryz.prog 67 #[] w fun e w' => e = .returned (.pointer (some ⟨w.heap.size, 0, none⟩)) ∧ Kz w' w.heap.size (.slice none 0 0) [] ∧ Below w.heap.size w w' := by
 go_enter Tryz.func67, Tryz.ntmps67
 go_wp2
 go_ret
 exact ⟨rfl, ⟨BlockIs.fresh _ _ _, Lst.nil _ _ _, by simp⟩, (Below.refl _ _).alloc (Nat.le_refl _) _⟩
theorem kcount (g : Nat) (v : Value) (L : List Let) (w : World) (h : Kz w g v L) : Calls Tryz.prog 74 #[.pointer (some ⟨g, 0, none⟩)] w fun e w' => e = .returned (.int .i64 L.length) ∧ w = w' := by
 have c0 : w.cell? ⟨g, 0, none⟩ = some v := h.bl.cell 0
 obtain ⟨A, cap, hve, _, _, _⟩ := h.ls.shape
 rw [List.length_map] at hve
 subst hve
 clear h
 go_enter Tryz.func74, Tryz.ntmps74
 go_wp2
 go_ret
 exact ⟨rfl, rfl⟩
def fullB (L : List Let) : Bool := decide (L.length = 40)
theorem kfull (g : Nat) (v : Value) (L : List Let) (w : World) (h : Kz w g v L) : Calls Tryz.prog 69 #[.pointer (some ⟨g, 0, none⟩)] w fun e w' => e = .returned (.bool (fullB L)) ∧ w = w' := by
 have c0 : w.cell? ⟨g, 0, none⟩ = some v := h.bl.cell 0
 obtain ⟨A, cap, hve, _, _, _⟩ := h.ls.shape
 rw [List.length_map] at hve
 subst hve
 clear h
 have E : Hid (((L.length : Int) == 40) = fullB L) := Lib.hid (by
  unfold fullB
  by_cases h : L.length = 40
  · simp [h]
  · have h2 : ¬ (L.length : Int) = 40 := by omega
    simp [h, h2])
 go_enter Tryz.func69, Tryz.ntmps69
 go_wp2
 go_ret
 exact ⟨by rw [← E.out]; rfl, rfl⟩
theorem kis (g : Nat) (v : Value) (L : List Let) (x : Int) (w : World) (h : Kz w g v L) : Calls Tryz.prog 109 #[.pointer (some ⟨g, 0, none⟩), .int .i64 x] w fun e w' => e = .returned (.bool (isB L x)) ∧ w = w' := by
 have c0 : w.cell? ⟨g, 0, none⟩ = some v := h.bl.cell 0
 obtain ⟨A, cap, hve, _, _, _⟩ := h.ls.shape
 rw [List.length_map] at hve
 subst hve
 clear h
 unfold isB
 by_cases h0 : 0 ≤ x
 · have b0 : decide (0 ≤ x) = true := by simpa using h0
   rw [b0, Bool.true_and]
   clear b0
   go_enter Tryz.func109, Tryz.ntmps109
   go_wp2
   go_ret
   exact ⟨rfl, rfl⟩
 · have b0 : decide (0 ≤ x) = false := by simpa using h0
   rw [b0, Bool.false_and]
   go_enter Tryz.func109, Tryz.ntmps109
   go_wp2
   go_ret
   exact ⟨rfl, rfl⟩
theorem kpush {w w5 : World} {g q cq : Nat} {v : Value} {L : List Let} (d : Let) (hb5 : BlockIs w5 g 168 #[v]) (hl5 : Lst w5 170 2 (.slice (some ⟨q, 0, none⟩) (L.length + 1) cq) (L.map letRow ++ [letRow d]))
  (hO5 : Out w w5 (g :: blocks v)) (hq : q ∈ blocks v ∨ w.heap.size ≤ q) (hlt : L.length < 40) : KLeft w (w5.setCell ⟨g, 0, none⟩ (.slice (some ⟨q, 0, none⟩) (L.length + 1) cq)) g v (L ++ [d]) := by
 have hqg : q ≠ g := fun e => by have := hl5.apart hb5 (by decide); rw [e] at this; simp [Value.ownBlock] at this
 refine ⟨.slice (some ⟨q, 0, none⟩) (L.length + 1) cq, ⟨hb5.put 0 _, ?_, by simp; omega⟩, hO5.put (p := ⟨g, 0, none⟩) (Or.inl (by simp)) _, fun k hk => ?_⟩
 · rw [List.map_append]
   exact hl5.kept (S := [g]) ((Out.refl w5 [g]).put (p := ⟨g, 0, none⟩) (Or.inl (by simp)) _) (fun k hk hm => by
    have hkq : q = k := by simpa [Value.ownBlock] using hk
    rw [List.mem_singleton.1 hm] at hkq
    exact hqg hkq)
 · have hkq : q = k := by simpa [Value.ownBlock] using hk
   rw [← hkq]
   exact hq
theorem ksend (g : Nat) (v : Value) (L : List Let) (x : Int) (b : ByteArray) (w : World) (h : Kz w g v L) (hb : b.size ≤ 9223372036854775807) :
  Calls Tryz.prog 70 #[.pointer (some ⟨g, 0, none⟩), .int .i64 x, .string b] w fun e w' => e = .returned (errV (sendE L x b)) ∧ KLeft w w' g v (sendL L x b) := by
 have H := Lib.hid h
 have c0 : w.cell? ⟨g, 0, none⟩ = some v := h.bl.cell 0
 have f0 := h.bl.free
 have lg := h.bl.lt
 obtain ⟨A, cap, hve, _, _, _⟩ := h.ls.shape
 rw [List.length_map] at hve
 subst hve
 have hfew := h.few
 clear h
 by_cases hw : whoB x = true
 case neg =>
  have hw' : whoB x = false := by simpa using hw
  have E : Hid (sendE L x b = 1) := Lib.hid (by unfold sendE; rw [if_neg hw])
  have EL : Hid (sendL L x b = L) := Lib.hid (by unfold sendL; rw [E.out, if_neg (by decide)])
  have HW := Lib.hid hw'
  clear hw hw'
  go_enter Tryz.func70, Tryz.ntmps70
  go_wp2_with (go_at_call 68; refine (who_any x _).mono ?_; rintro e w' ⟨rfl, rfl⟩; rw [HW.out])
  go_ret
  exact ⟨by rw [E.out]; rfl, by rw [EL.out]; exact KLeft.same H.out (Below.refl _ _)⟩
 have HW := Lib.hid hw
 clear hw
 by_cases hf : L.length = 40
 · have E : Hid (sendE L x b = 4) := Lib.hid (by unfold sendE; rw [if_pos HW.out, if_pos (Or.inl hf)])
   have EL : Hid (sendL L x b = L) := Lib.hid (by unfold sendL; rw [E.out, if_neg (by decide)])
   have HF : Hid (fullB L = true) := Lib.hid (by unfold fullB; simpa using hf)
   clear hf
   go_enter Tryz.func70, Tryz.ntmps70
   go_wp2_with (first | (go_at_call 68; refine (who_any x _).mono ?_; rintro e w' ⟨rfl, rfl⟩; rw [HW.out]) | (go_at_call 69; refine (kfull g _ L _ H.out).mono ?_; rintro e w' ⟨rfl, rfl⟩; rw [HF.out]))
   go_ret
   exact ⟨by rw [E.out]; rfl, by rw [EL.out]; exact KLeft.same H.out (Below.refl _ _)⟩
 have HF : Hid (fullB L = false) := Lib.hid (by unfold fullB; simpa using hf)
 by_cases h2 : 200 < b.size
 · have E : Hid (sendE L x b = 4) := Lib.hid (by unfold sendE; rw [if_pos HW.out, if_pos (Or.inr h2)])
   have EL : Hid (sendL L x b = L) := Lib.hid (by unfold sendL; rw [E.out, if_neg (by decide)])
   have h2' : (200 : Int) < (b.size : Int) := by omega
   clear hf
   go_enter Tryz.func70, Tryz.ntmps70
   go_wp2_with (first | (go_at_call 68; refine (who_any x _).mono ?_; rintro e w' ⟨rfl, rfl⟩; rw [HW.out]) | (go_at_call 69; refine (kfull g _ L _ H.out).mono ?_; rintro e w' ⟨rfl, rfl⟩; rw [HF.out]))
   go_ret
   exact ⟨by rw [E.out]; rfl, by rw [EL.out]; exact KLeft.same H.out (Below.refl _ _)⟩
 have E : Hid (sendE L x b = 0) := Lib.hid (by unfold sendE; rw [if_pos HW.out, if_neg (by omega)])
 have EL : Hid (sendL L x b = L ++ [⟨x, b⟩]) := Lib.hid (by unfold sendL; rw [E.out, if_pos rfl])
 have h2' : decide ((200 : Int) < (b.size : Int)) = false := by simp; omega
 have hml : (L.map letRow).length = L.length := List.length_map ..
 have hga := H.out.ls.apart H.out.bl (by decide)
 have HML := Lib.hid hml
 have HGA := Lib.hid hga
 have hlt : L.length < 40 := by omega
 clear hf hml hga
 go_enter Tryz.func70, Tryz.ntmps70
 go_wp2_with (first | (go_at_call 68; refine (who_any x _).mono ?_; rintro e w' ⟨rfl, rfl⟩; rw [HW.out]) | (go_at_call 69; refine (kfull g _ L _ H.out).mono ?_; rintro e w' ⟨rfl, rfl⟩; rw [HF.out]) | (at_builtin; refine wpList_push rfl _ _ 166 rfl 170 2 24 Tryz.elLet (.slice A L.length cap) (L.map letRow) rfl (H.out.ls.alloc _) w.heap.size 1 [.int .i64 x, .string b] rfl rfl (letRow_one ⟨x, b⟩).2 (BlockIs.fresh _ _ _) (by rw [HML.out]; omega) ?_; intro q cq w5 hl5 ho5 hq5 hlt5; have hb5 := ho5.block' (H.out.bl.alloc _) HGA.out; have f5 := hb5.free; have d5 : w5.cell? ⟨g, 0, none⟩ = some _ := hb5.cell 0; have l5 := hb5.lt))
 go_ret
 rw [HML.out] at hl5
 have hO5 : Out w w5 (g :: blocks (.slice A L.length cap)) := ((Out.refl w _).alloc _).then' ho5 (fun k hk => Or.inl (by simp [hk]))
 refine ⟨by rw [E.out]; rfl, ?_⟩
 rw [EL.out]
 exact kpush ⟨x, b⟩ hb5 hl5 hO5 (hq5.imp id (fun h => by simp at h; omega)) hlt
theorem ktwice (g : Nat) (v : Value) (L : List Let) (x : Int) (w : World) (h : Kz w g v L) :
  Calls Tryz.prog 73 #[.pointer (some ⟨g, 0, none⟩), .int .i64 x] w fun e w' => e = .returned (errV (twiceE L x)) ∧ KLeft w w' g v (twiceL L x) := by
 have H := Lib.hid h
 have c0 : w.cell? ⟨g, 0, none⟩ = some v := h.bl.cell 0
 have f0 := h.bl.free
 have lg := h.bl.lt
 obtain ⟨A, cap, hve, _, _, hA⟩ := h.ls.shape
 rw [List.length_map] at hve
 subst hve
 have hfew := h.few
 have HA := Lib.hid hA
 clear h hA
 by_cases hw : isB L x = true
 case neg =>
  have hw' : isB L x = false := by simpa using hw
  have E : Hid (twiceE L x = 1) := Lib.hid (by unfold twiceE; rw [if_neg hw])
  have EL : Hid (twiceL L x = L) := Lib.hid (by unfold twiceL; rw [E.out, if_neg (by decide)])
  have HW := Lib.hid hw'
  clear hw hw'
  go_enter Tryz.func73, Tryz.ntmps73
  go_wp2_with (go_at_call 109; refine (kis g _ L x _ H.out).mono ?_; rintro e w' ⟨rfl, rfl⟩; rw [HW.out])
  go_ret
  exact ⟨by rw [E.out]; rfl, by rw [EL.out]; exact KLeft.same H.out (Below.refl _ _)⟩
 have HW := Lib.hid hw
 obtain ⟨x0, x1⟩ := isB_iff.1 hw
 obtain ⟨m, rfl⟩ := Int.eq_ofNat_of_zero_le x0
 clear hw
 by_cases hf : L.length = 40
 · have E : Hid (twiceE L m = 4) := Lib.hid (by unfold twiceE; rw [if_pos HW.out, if_pos hf])
   have EL : Hid (twiceL L m = L) := Lib.hid (by unfold twiceL; rw [E.out, if_neg (by decide)])
   have HF : Hid (fullB L = true) := Lib.hid (by unfold fullB; simpa using hf)
   clear hf
   go_enter Tryz.func73, Tryz.ntmps73
   go_wp2_with (first | (go_at_call 109; refine (kis g _ L m _ H.out).mono ?_; rintro e w' ⟨rfl, rfl⟩; rw [HW.out]) | (go_at_call 69; refine (kfull g _ L _ H.out).mono ?_; rintro e w' ⟨rfl, rfl⟩; rw [HF.out]))
   go_ret
   exact ⟨by rw [E.out]; rfl, by rw [EL.out]; exact KLeft.same H.out (Below.refl _ _)⟩
 have HF : Hid (fullB L = false) := Lib.hid (by unfold fullB; simpa using hf)
 have E : Hid (twiceE L m = 0) := Lib.hid (by unfold twiceE; rw [if_pos HW.out, if_neg hf])
 have hml : m < L.length := by omega
 have EL : Hid (twiceL L m = L ++ [L[m]]) := Lib.hid (by unfold twiceL; rw [E.out, if_pos rfl]; simp [List.getD, List.getElem?_eq_getElem hml])
 rcases HA.out with ⟨_, h0, _⟩ | ⟨q, rfl⟩
 · have : L = [] := by simpa using h0
   subst this
   simp at hml
 have q0 : w.cell? ⟨q, m * 2, none⟩ = some (.int .i64 L[m].too) := H.out.ls.cell rfl (elem_of_let hml) (j := 0) rfl
 have q1 : w.cell? ⟨q, m * 2 + 1, none⟩ = some (.string L[m].b) := H.out.ls.cell rfl (elem_of_let hml) (j := 1) rfl
 have lq := H.out.ls.lt q (by simp [Value.ownBlock])
 have HD : Hid (L[m] = ⟨L[m].too, L[m].b⟩) := Lib.hid rfl
 generalize L[m] = d at *
 obtain ⟨dt, db⟩ := d
 have hmm : (L.map letRow).length = L.length := List.length_map ..
 have hga := H.out.ls.apart H.out.bl (by decide)
 have HML := Lib.hid hmm
 have HGA := Lib.hid hga
 have hlt : L.length < 40 := by omega
 have hmi : (m : Int) < (L.length : Int) := by omega
 clear hf hmm hga HD
 go_enter Tryz.func73, Tryz.ntmps73
 go_wp2_with (first | (go_at_call 109; refine (kis g _ L m _ H.out).mono ?_; rintro e w' ⟨rfl, rfl⟩; rw [HW.out]) | (go_at_call 69; refine (kfull g _ L _ H.out).mono ?_; rintro e w' ⟨rfl, rfl⟩; rw [HF.out]))
 go_region_law ((refine step_push rfl _ _ 166 rfl 170 2 24 Tryz.elLet (.slice (some ⟨q, 0, none⟩) L.length cap) (L.map letRow) rfl ?_ w.heap.size 1 [.int .i64 dt, .string db] rfl rfl (letRow_one ⟨dt, db⟩).2 ?_ ?_ ?_; (first | exact (H.out.ls.alloc _).drew | exact H.out.ls.alloc _); (exact BlockIs.fresh w _ _); (rw [HML.out]; omega); intro q5 cq w5 hl5 ho5 hq5 hlt5; have hb5 := ho5.block' (H.out.bl.alloc _) HGA.out; have f5 := hb5.free; have d5 : w5.cell? ⟨g, 0, none⟩ = some (.slice (some ⟨q, 0, none⟩) L.length cap) := hb5.cell 0; have l5 := hb5.lt))
 all_goals
  rw [HML.out] at hl5
  have hO5 : Out w w5 (g :: blocks (.slice (some ⟨q, 0, none⟩) L.length cap)) := by
   first
    | exact ((Out.refl w _).alloc _).then' ho5 (fun k hk => Or.inl (by simp at hk ⊢; simp [hk]))
    | exact (((Out.refl w _).alloc _).drew).then' ho5 (fun k hk => Or.inl (by simp at hk ⊢; simp [hk]))
  have hKP := kpush ⟨dt, db⟩ hb5 hl5 hO5 (hq5.imp id (fun h => by simp at h; omega)) hlt
  have HKP := Lib.hid hKP
  clear hKP hl5 ho5 hq5 hO5 d5
  go_wp2_with fail
  go_ret
  refine ⟨by rw [E.out]; rfl, ?_⟩
  rw [EL.out]
  first
   | exact HKP.out
   | (obtain ⟨v', hz, ho, hk⟩ := HKP.out; exact ⟨v', ⟨hz.bl, hz.ls.drewN 1, hz.few⟩, ho.drewN 1, hk⟩)
theorem Tryz.elRLet : Elem Tryz.prog 59 67 2 24 := ⟨Tryz.underlying59, ⟨.agg #[.int .i64 0, .string ⟨#[]⟩], rfl, by kernel_rfl⟩, by decide, by decide⟩
structure Tz (w : World) (g : Nat) (e0 e1 v : Value) (L : List Let) : Prop where
 bl : BlockIs w g 61 #[e0, e1, v]
 ls : Lst w 67 2 v (L.map letRow)
 few : L.length ≤ 40
theorem Tz.later {w w1 : World} {g : Nat} {e0 e1 v : Value} {L : List Let} (h : Tz w g e0 e1 v L) (hb : Below w.heap.size w w1) : Tz w1 g e0 e1 v L := ⟨h.bl.later hb, h.ls.later hb, h.few⟩
theorem Tz.kept {w w1 : World} {g : Nat} {e0 e1 v : Value} {L : List Let} {S : List Nat} (h : Tz w g e0 e1 v L) (hg : Out w w1 S) (h1 : ∀ k, k ∈ g :: blocks v → k ∉ S) : Tz w1 g e0 e1 v L :=
 ⟨hg.block' h.bl (h1 _ (by simp)), h.ls.kept hg (fun k hk => h1 k (by simp [hk])), h.few⟩
theorem Tz.lt {w : World} {g : Nat} {e0 e1 v : Value} {L : List Let} (h : Tz w g e0 e1 v L) : ∀ k, k ∈ g :: blocks v → k < w.heap.size := by
 intro k hk
 rcases List.mem_cons.1 hk with rfl | hk
 · exact h.bl.lt
 · exact h.ls.lt k hk
def TLeft (w w' : World) (g : Nat) (e0 e1 v : Value) (L : List Let) : Prop := ∃ v', Tz w' g e0 e1 v' L ∧ Out w w' (g :: blocks v) ∧ ∀ k, k ∈ blocks v' → k ∈ blocks v ∨ w.heap.size ≤ k
theorem TLeft.same {w w' : World} {g : Nat} {e0 e1 v : Value} {L : List Let} (h : Tz w g e0 e1 v L) (hb : Below w.heap.size w w') : TLeft w w' g e0 e1 v L := ⟨v, h.later hb, Out.of_below hb _, fun k hk => Or.inl hk⟩
theorem tpush {w w5 : World} {g q cq : Nat} {e0 e1 v : Value} {L : List Let} (d : Let) (hb5 : BlockIs w5 g 61 #[e0, e1, v]) (hl5 : Lst w5 67 2 (.slice (some ⟨q, 0, none⟩) (L.length + 1) cq) (L.map letRow ++ [letRow d]))
  (hO5 : Out w w5 (g :: blocks v)) (hq : q ∈ blocks v ∨ w.heap.size ≤ q) (hlt : L.length < 40) : TLeft w (w5.setCell ⟨g, 2, none⟩ (.slice (some ⟨q, 0, none⟩) (L.length + 1) cq)) g e0 e1 v (L ++ [d]) := by
 have hqg : q ≠ g := fun e => by have := hl5.apart hb5 (by decide); rw [e] at this; simp [Value.ownBlock] at this
 refine ⟨.slice (some ⟨q, 0, none⟩) (L.length + 1) cq, ⟨hb5.put 2 _, ?_, by simp; omega⟩, hO5.put (p := ⟨g, 2, none⟩) (Or.inl (by simp)) _, fun k hk => ?_⟩
 · rw [List.map_append]
   exact hl5.kept (S := [g]) ((Out.refl w5 [g]).put (p := ⟨g, 2, none⟩) (Or.inl (by simp)) _) (fun k hk hm => by
    have hkq : q = k := by simpa [Value.ownBlock] using hk
    rw [List.mem_singleton.1 hm] at hkq
    exact hqg hkq)
 · have hkq : q = k := by simpa [Value.ownBlock] using hk
   rw [← hkq]
   exact hq
theorem ttwice (g : Nat) (e0 e1 v : Value) (L : List Let) (x : Int) (w : World) (h : Tz w g e0 e1 v L) :
  Calls Tryz.prog 34 #[.pointer (some ⟨g, 0, none⟩), .int .i64 x] w fun e w' => e = .returned (.int .i64 (twiceE L x)) ∧ TLeft w w' g e0 e1 v (twiceL L x) := by
 have H := Lib.hid h
 have c0 : w.cell? ⟨g, 2, none⟩ = some v := h.bl.cell 2
 have f0 := h.bl.free
 have lg := h.bl.lt
 obtain ⟨A, cap, hve, _, _, hA⟩ := h.ls.shape
 rw [List.length_map] at hve
 subst hve
 have hfew := h.few
 have HA := Lib.hid hA
 clear h hA
 by_cases hw : isB L x = true
 case neg =>
  have hw' := isB_no.1 (by simpa using hw)
  have E : Hid (twiceE L x = 1) := Lib.hid (by unfold twiceE; rw [if_neg hw])
  have EL : Hid (twiceL L x = L) := Lib.hid (by unfold twiceL; rw [E.out, if_neg (by decide)])
  clear hw
  by_cases h0 : x < 0
  · clear hw'
    go_enter Tryz.func34, Tryz.ntmps34
    go_wp2_with fail
    go_ret
    exact ⟨by rw [E.out]; rfl, by rw [EL.out]; exact TLeft.same H.out (Below.refl _ _)⟩
  · have h0' : decide (x < 0) = false := by simpa using h0
    have h1 : (L.length : Int) ≤ x := by omega
    clear hw' h0
    go_enter Tryz.func34, Tryz.ntmps34
    go_wp2_with fail
    go_ret
    exact ⟨by rw [E.out]; rfl, by rw [EL.out]; exact TLeft.same H.out (Below.refl _ _)⟩
 have HW := Lib.hid hw
 obtain ⟨x0, x1⟩ := isB_iff.1 hw
 obtain ⟨m, rfl⟩ := Int.eq_ofNat_of_zero_le x0
 have hx0 : decide ((m : Int) < 0) = false := by simp
 have hx1 : decide ((L.length : Int) ≤ (m : Int)) = false := by simp; omega
 clear hw
 by_cases hf : L.length = 40
 · have E : Hid (twiceE L m = 4) := Lib.hid (by unfold twiceE; rw [if_pos HW.out, if_pos hf])
   have EL : Hid (twiceL L m = L) := Lib.hid (by unfold twiceL; rw [E.out, if_neg (by decide)])
   have h40 : decide (40 ≤ (L.length : Int)) = true := by simp; omega
   clear hf
   go_enter Tryz.func34, Tryz.ntmps34
   go_wp2_with fail
   go_ret
   exact ⟨by rw [E.out]; rfl, by rw [EL.out]; exact TLeft.same H.out (Below.refl _ _)⟩
 have E : Hid (twiceE L m = 0) := Lib.hid (by unfold twiceE; rw [if_pos HW.out, if_neg hf])
 have hml : m < L.length := by omega
 have EL : Hid (twiceL L m = L ++ [L[m]]) := Lib.hid (by unfold twiceL; rw [E.out, if_pos rfl]; simp [List.getD, List.getElem?_eq_getElem hml])
 have h40 : decide (40 ≤ (L.length : Int)) = false := by simp; omega
 rcases HA.out with ⟨_, h0, _⟩ | ⟨q, rfl⟩
 · have : L = [] := by simpa using h0
   subst this
   simp at hml
 have q0 : w.cell? ⟨q, m * 2, none⟩ = some (.int .i64 L[m].too) := H.out.ls.cell rfl (elem_of_let hml) (j := 0) rfl
 have q1 : w.cell? ⟨q, m * 2 + 1, none⟩ = some (.string L[m].b) := H.out.ls.cell rfl (elem_of_let hml) (j := 1) rfl
 have lq := H.out.ls.lt q (by simp [Value.ownBlock])
 generalize L[m] = d at *
 obtain ⟨dt, db⟩ := d
 have hmm : (L.map letRow).length = L.length := List.length_map ..
 have hga := H.out.ls.apart H.out.bl (by decide)
 have HML := Lib.hid hmm
 have HGA := Lib.hid hga
 have hlt : L.length < 40 := by omega
 have hmi : (m : Int) < (L.length : Int) := by omega
 clear hf hmm hga
 go_enter Tryz.func34, Tryz.ntmps34
 go_wp2_with fail
 go_region_law ((refine step_push rfl _ _ 59 rfl 67 2 24 Tryz.elRLet (.slice (some ⟨q, 0, none⟩) L.length cap) (L.map letRow) rfl ?_ w.heap.size 1 [.int .i64 dt, .string db] rfl rfl (letRow_one ⟨dt, db⟩).2 ?_ ?_ ?_; (first | exact (H.out.ls.alloc _).drew | exact H.out.ls.alloc _); (exact BlockIs.fresh w _ _); (rw [HML.out]; omega); intro q5 cq w5 hl5 ho5 hq5 hlt5; have hb5 := ho5.block' (H.out.bl.alloc _) HGA.out; have f5 := hb5.free; have d5 : w5.cell? ⟨g, 2, none⟩ = some (.slice (some ⟨q, 0, none⟩) L.length cap) := hb5.cell 2; have l5 := hb5.lt))
 all_goals
  rw [HML.out] at hl5
  have hO5 : Out w w5 (g :: blocks (.slice (some ⟨q, 0, none⟩) L.length cap)) := by
   first
    | exact ((Out.refl w _).alloc _).then' ho5 (fun k hk => Or.inl (by simp at hk ⊢; simp [hk]))
    | exact (((Out.refl w _).alloc _).drew).then' ho5 (fun k hk => Or.inl (by simp at hk ⊢; simp [hk]))
  have hKP := tpush ⟨dt, db⟩ hb5 hl5 hO5 (hq5.imp id (fun h => by simp at h; omega)) hlt
  have HKP := Lib.hid hKP
  clear hKP hl5 ho5 hq5 hO5 d5
  go_wp2_with fail
  go_ret
  refine ⟨by rw [E.out]; rfl, ?_⟩
  rw [EL.out]
  first
   | exact HKP.out
   | (obtain ⟨v', hz, ho, hk⟩ := HKP.out; exact ⟨v', ⟨hz.bl, hz.ls.drewN 1, hz.few⟩, ho.drewN 1, hk⟩)
abbrev letV (d : Let) : Value := .agg #[.int .i64 d.too, .string d.b]
theorem tout (g : Nat) (e0 e1 v : Value) (L : List Let) (x : Int) (w : World) (h : Tz w g e0 e1 v L) :
  Calls Tryz.prog 31 #[.pointer (some ⟨g, 0, none⟩), .int .i64 x] w fun e w' => e = .returned (.tuple #[letV (giveD L x), .int .i64 (giveE L x)]) ∧ TLeft w w' g e0 e1 v (giveL L x) := by
 have H := Lib.hid h
 have c0 : w.cell? ⟨g, 2, none⟩ = some v := h.bl.cell 2
 have f0 := h.bl.free
 have lg := h.bl.lt
 obtain ⟨A, cap, hve, hcap, hmx, hA⟩ := h.ls.shape
 rw [List.length_map] at hve hcap
 subst hve
 have hfew := h.few
 have HA := Lib.hid hA
 unfold maxLen at hmx
 clear h hA
 by_cases hw : isB L x = true
 case neg =>
  have hw' := isB_no.1 (by simpa using hw)
  have E : Hid (giveE L x = 1) := Lib.hid (by unfold giveE; rw [if_neg hw])
  have ED : Hid (giveD L x = noLet) := Lib.hid (by unfold giveD; rw [if_neg hw])
  have EL : Hid (giveL L x = L) := Lib.hid (by unfold giveL; rw [if_neg hw])
  clear hw
  by_cases h0 : x < 0
  · clear hw'
    go_enter Tryz.func31, Tryz.ntmps31
    go_wp2_with fail
    refine bodyPost_ret (v := .tuple #[letV noLet, .int .i64 1]) (by simp [results, Tryz.results31, go_sem]; exact ⟨rfl, rfl⟩) rfl ⟨by rw [E.out, ED.out], ?_⟩
    rw [EL.out]
    exact TLeft.same H.out (by exact Since.alloc (Since.refl _) _)
  · have h0' : decide (x < 0) = false := by simpa using h0
    have h1 : (L.length : Int) ≤ x := by omega
    clear hw' h0
    go_enter Tryz.func31, Tryz.ntmps31
    go_wp2_with fail
    refine bodyPost_ret (v := .tuple #[letV noLet, .int .i64 1]) (by simp [results, Tryz.results31, go_sem]; exact ⟨rfl, rfl⟩) rfl ⟨by rw [E.out, ED.out], ?_⟩
    rw [EL.out]
    exact TLeft.same H.out (by exact Since.alloc (Since.refl _) _)
 have HW := Lib.hid hw
 obtain ⟨x0, x1⟩ := isB_iff.1 hw
 obtain ⟨m, rfl⟩ := Int.eq_ofNat_of_zero_le x0
 have hx0 : decide ((m : Int) < 0) = false := by simp
 have hx1 : decide ((L.length : Int) ≤ (m : Int)) = false := by simp; omega
 clear hw
 have hml : m < L.length := by omega
 have E : Hid (giveE L m = 0) := Lib.hid (by unfold giveE; rw [if_pos HW.out])
 have ED : Hid (giveD L m = L[m]) := Lib.hid (by unfold giveD; rw [if_pos HW.out]; simp [List.getD, List.getElem?_eq_getElem hml])
 have EL : Hid (giveL L m = L.take m ++ L.drop (m + 1)) := Lib.hid (by unfold giveL; rw [if_pos HW.out]; rfl)
 rcases HA.out with ⟨_, h0, _⟩ | ⟨q, rfl⟩
 · have : L = [] := by simpa using h0
   subst this
   simp at hml
 have q0 : w.cell? ⟨q, m * 2, none⟩ = some (.int .i64 L[m].too) := H.out.ls.cell rfl (elem_of_let hml) (j := 0) rfl
 have q1 : w.cell? ⟨q, m * 2 + 1, none⟩ = some (.string L[m].b) := H.out.ls.cell rfl (elem_of_let hml) (j := 1) rfl
 have lq := H.out.ls.lt q (by simp [Value.ownBlock])
 generalize L[m] = d at *
 obtain ⟨dt, db⟩ := d
 have hmi : (m : Int) < (L.length : Int) := by omega
 have hmc : (m : Int) ≤ (cap : Int) := by omega
 have hmc1 : (m : Int) + 1 ≤ (cap : Int) := by omega
 have hml1 : (m : Int) + 1 ≤ (L.length : Int) := by omega
 have hr : ∀ e ∈ L.map letRow, e.length = 2 ∧ ∀ u ∈ e, u.oneCell' = true := H.out.ls.rows
 have HRT : Hid (∀ e ∈ (L.take m).map letRow, e.length = 2 ∧ ∀ u ∈ e, u.oneCell' = true) := Lib.hid (fun e he => by rw [List.map_take] at he; exact hr e (List.mem_of_mem_take he))
 have HRD : Hid (∀ e ∈ (L.drop (m + 1)).map letRow, e.length = 2 ∧ ∀ u ∈ e, u.oneCell' = true) := Lib.hid (fun e he => by rw [List.map_drop] at he; exact hr e (List.mem_of_mem_drop he))
 have HT1 : Hid (∀ w1 : World, Tz w1 g e0 e1 (.slice (some ⟨q, 0, none⟩) L.length cap) L → ∀ j u, (flat ((L.take m).map letRow))[j]? = some u → w1.cell? ((⟨q, 0, none⟩ : Addr).add j) = some u) := Lib.hid (fun w1 h1 j u hu => by
  rw [List.map_take] at hu
  exact h1.ls.news_take rfl m j u hu)
 have HT2 : Hid (∀ w1 : World, Tz w1 g e0 e1 (.slice (some ⟨q, 0, none⟩) L.length cap) L → ∀ j u, (flat ((L.drop (m + 1)).map letRow))[j]? = some u → w1.cell? ((if cap = m + 1 then (⟨q, 0, none⟩ : Addr) else ⟨q, (m + 1) * 2, none⟩).add j) = some u) := Lib.hid (fun w1 h1 j u hu => by
  rw [List.map_drop] at hu
  by_cases hc : cap = m + 1
  · have h0 : L.length = m + 1 := by omega
    rw [List.drop_eq_nil_of_le (by rw [List.length_map]; omega)] at hu
    simp [flat] at hu
  · rw [if_neg hc]
    exact h1.ls.news rfl (m + 1) j u hu)
 have hl1 : ((L.take m).map letRow).length = m := by simp; omega
 have hl2 : ((L.drop (m + 1)).map letRow).length = L.length - (m + 1) := by simp
 have HL1 := Lib.hid hl1
 have HL2 := Lib.hid hl2
 obtain ⟨ad, hA, HAD⟩ : ∃ ad : Addr, (if cap = m + 1 then some (⟨q, 0, none⟩ : Addr) else some ⟨q, (m + 1) * 2, none⟩) = some ad ∧ Hid (ad = (if cap = m + 1 then (⟨q, 0, none⟩ : Addr) else ⟨q, (m + 1) * 2, none⟩)) := by
  by_cases hc : cap = m + 1
  · exact ⟨⟨q, 0, none⟩, by rw [if_pos hc], Lib.hid (by rw [if_pos hc])⟩
  · exact ⟨⟨q, (m + 1) * 2, none⟩, by rw [if_neg hc], Lib.hid (by rw [if_neg hc])⟩
 have hA2 : ((if cap = m + 1 then (⟨q, 0, none⟩ : Addr) else ⟨q, (m + 1) * 2, none⟩)) = ad := HAD.out.symm
 have hga := H.out.ls.apart H.out.bl (by decide)
 have hfar : ∀ k, k ∈ blocks (.slice (some ⟨q, 0, none⟩) L.length cap) → k < w.heap.size := H.out.ls.lt
 have HGA := Lib.hid hga
 have HFAR := Lib.hid hfar
 clear hr hl1 hl2 hga hfar
 go_enter Tryz.func31, Tryz.ntmps31
 go_wp2_with (at_builtin; first | (refine wpList_cat rfl _ _ 59 rfl 67 2 24 Tryz.elRLet (.slice none 0 0) [] rfl (Lst.nil _ _ _) ⟨q, 0, none⟩ m cap ((L.take m).map letRow) rfl HL1.out HRT.out (HT1.out _ (H.out.later (by first | exact Since.alloc (Since.alloc (Since.refl _) _) _ | exact Since.later (Since.alloc (Since.alloc (Since.refl _) _) _) hbel))) (by simp; omega) ?_; intro A1 c1 w3 hl3 ho3 hk3; simp only [List.length_nil, Nat.zero_add] at hl3 hk3 ⊢; have hbel := ho3.none_; have hz3 : Tz w3 g e0 e1 (.slice (some ⟨q, 0, none⟩) L.length cap) L := H.out.later (by exact Since.later (Since.alloc (Since.alloc (Since.refl _) _) _) hbel); have d3 : w3.cell? ⟨g, 2, none⟩ = some (.slice (some ⟨q, 0, none⟩) L.length cap) := hz3.bl.cell 2) | (refine wpList_cat rfl _ _ 59 rfl 67 2 24 Tryz.elRLet (.slice A1 m c1) ([] ++ (L.take m).map letRow) rfl hl3 ad (L.length - (m + 1)) (cap - (m + 1)) ((L.drop (m + 1)).map letRow) rfl HL2.out HRD.out (hA2 ▸ HT2.out _ hz3) (by simp; omega) ?_; intro A2 c2 w4 hl4 ho4 hk4; have hk3' : ∀ k, k ∈ blocks (.slice A1 m c1) → w.heap.size + 1 < k := (fun k hk => by rcases hk3 k hk with h1 | h1 <;> simp [Value.ownBlock] at h1; omega); have hb4 := ho4.block' hz3.bl (fun hk => by have := hk3' _ hk; omega); have f4 := hb4.free; have d4 : w4.cell? ⟨g, 2, none⟩ = some (.slice (some ⟨q, 0, none⟩) L.length cap) := hb4.cell 2; have l4 := hb4.lt; have hx4 : BlockIs w4 w.heap.size 67 #[.int .i64 0, .string ⟨#[]⟩] := ho4.block' (((BlockIs.fresh w _ _).alloc _).later hbel) (fun hk => by have := hk3' _ hk; omega); have hy4 : BlockIs w4 (w.heap.size + 1) 67 #[.int .i64 dt, .string db] := ho4.block' (BlockIs.later (BlockIs.fresh_at (by simp)) hbel) (fun hk => by have := hk3' _ hk; omega); have hg1 : w.heap.size ≠ g := (by omega); have hg2 : w.heap.size + 1 ≠ g := (by omega); have i0 : ∀ u, (w4.setCell ⟨g, 2, none⟩ u).cell? ⟨w.heap.size, 0, none⟩ = some (.int .i64 0) := (fun u => (hx4.far (p := ⟨g, 2, none⟩) hg1 u).cell 0); have i1 : ∀ u, (w4.setCell ⟨g, 2, none⟩ u).cell? ⟨w.heap.size, 1, none⟩ = some (.string ⟨#[]⟩) := (fun u => (hx4.far (p := ⟨g, 2, none⟩) hg1 u).cell 1); have j0 : ∀ u, (w4.setCell ⟨g, 2, none⟩ u).cell? ⟨w.heap.size + 1, 0, none⟩ = some (.int .i64 dt) := (fun u => (hy4.far (p := ⟨g, 2, none⟩) hg2 u).cell 0); have j1 : ∀ u, (w4.setCell ⟨g, 2, none⟩ u).cell? ⟨w.heap.size + 1, 1, none⟩ = some (.string db) := (fun u => (hy4.far (p := ⟨g, 2, none⟩) hg2 u).cell 1); have ffx := hx4.free; have lx := hx4.lt; have ly := hy4.lt))
 refine bodyPost_ret (v := .tuple #[letV ⟨dt, db⟩, .int .i64 0]) (by simp [results, Tryz.results31, go_sem, i0, i1]) rfl ⟨by rw [E.out, ED.out], ?_⟩
 rw [EL.out]
 have hmn : min m L.length + (L.length - (m + 1)) = L.length - 1 := by omega
 rw [hmn]
 have hl5 : Lst w4 67 2 (.slice A2 (L.length - 1) c2) ((L.take m ++ L.drop (m + 1)).map letRow) := hl4.as (by simp; omega) (by rw [List.map_append, List.nil_append])
 have hk5 : ∀ k, k ∈ blocks (.slice A2 (L.length - 1) c2) → w.heap.size + 1 < k := fun k hk => by
  rcases hk4 k (blocks_any A2 _ _ _ _ ▸ hk) with h1 | h1
  · exact hk3' k h1
  · have := hbel.size; simp at this; omega
 have hO3 : Out w w3 (g :: blocks (.slice (some ⟨q, 0, none⟩) L.length cap)) := ((((Out.refl w _).alloc _).alloc _)).later hbel
 have hO4 : Out w w4 (g :: blocks (.slice (some ⟨q, 0, none⟩) L.length cap)) := hO3.then' ho4 (fun k hk => Or.inr (by have := hk3' k hk; omega))
 have hOf : ∀ a b c, Out w4 (((w4.setCell ⟨g, 2, none⟩ a).setCell ⟨w.heap.size, 0, none⟩ b).setCell ⟨w.heap.size, 1, none⟩ c) [g, w.heap.size] := fun a b c => (((Out.refl w4 _).put (p := ⟨g, 2, none⟩) (Or.inl (by simp)) a).put (p := ⟨w.heap.size, 0, none⟩) (Or.inl (by simp)) b).put (p := ⟨w.heap.size, 1, none⟩) (Or.inl (by simp)) c
 have hg1' : g ≠ w.heap.size := by omega
 refine ⟨.slice A2 (L.length - 1) c2, ⟨((hb4.put 2 _).far (p := ⟨w.heap.size, 0, none⟩) hg1' _).far (p := ⟨w.heap.size, 1, none⟩) hg1' _, ?_, by simp; omega⟩, hO4.then' (hOf _ _ _) (fun k hk => ?_), fun k hk => Or.inr (by have := hk5 k hk; omega)⟩
 · exact hl5.kept (hOf _ _ _) (fun k hk hm2 => by
    have h1 := hk5 k hk
    simp only [List.mem_cons, List.not_mem_nil, or_false] at hm2
    omega)
 · simp only [List.mem_cons, List.not_mem_nil, or_false] at hk
   rcases hk with rfl | rfl
   · exact Or.inl (by simp)
   · exact Or.inr (Nat.le_refl _)
theorem Tryz.delLetsZero (w : World) : (zeroValue 170).run Tryz.prog w = .ok (.agg #[.int .i64 0, .string ⟨#[]⟩]) w := by kernel_rfl
theorem delLets (q cap : Nat) (L : List Let) (i : Nat) (hi : i < L.length) (hm : L.length ≤ 1000000) (w : World) (h : Lst w 170 2 (.slice (some ⟨q, 0, none⟩) L.length cap) (L.map letRow)) :
  Calls Tryz.prog 110 #[.slice (some ⟨q, 0, none⟩) L.length cap, .int .i64 i, .int .i64 (i + 1)] w fun e w' => e = .returned (.slice (some ⟨q, 0, none⟩) (L.length - 1) cap) ∧ Lst w' 170 2 (.slice (some ⟨q, 0, none⟩) (L.length - 1) cap) ((L.take i ++ L.drop (i + 1)).map letRow) ∧ Out w w' [q] := by
 have hml : (L.map letRow).length = L.length := List.length_map ..
 obtain ⟨cur, hB, hcs, hcap, hmx, hfin⟩ := del_cells (size := 2) (es := L.map letRow) (by rw [hml]; exact h) (by rw [hml]; exact hi) (by decide) [.int .i64 0, .string ⟨#[]⟩] rfl
 rw [hml] at hcap hfin
 unfold maxLen at hmx
 obtain ⟨z, hz, hinfo⟩ := (Tryz.elLet).info
 obtain ⟨i0, hi0, hz0, hz1, hz2⟩ := info_parts hinfo
 have t1 := (Tryz.elLet).ht
 obtain ⟨news, hnews⟩ : ∃ news, news = flat ((L.map letRow).drop (i + 1)) := ⟨_, rfl⟩
 have hlen : news.length = (L.length - (i + 1)) * 2 := by
  rw [hnews, flat_length (fun e he => (h.rows e (List.mem_of_mem_drop he)).1), List.length_drop, hml]
 obtain ⟨A, hA, hsrc⟩ : ∃ A : Addr, (if cap = i + 1 then some (⟨q, 0, none⟩ : Addr) else some ⟨q, (i + 1) * 2, none⟩) = some A ∧ Hid (∀ t u, news[t]? = some u → w.drew.cell? (A.add t) = some u) := by
  by_cases hc : cap = i + 1
  · refine ⟨⟨q, 0, none⟩, by simp [hc], Lib.hid (fun t u hu => ?_)⟩
    have h0 : news.length = 0 := by rw [hlen]; have : L.length - (i + 1) = 0 := by omega
                                    rw [this]
    rw [List.length_eq_zero_iff.1 h0] at hu
    simp at hu
  · refine ⟨⟨q, (i + 1) * 2, none⟩, by simp [hc], Lib.hid (fun t u hu => ?_)⟩
    rw [hnews] at hu
    exact h.news rfl (i + 1) t u hu
 have s1 : Hid (news.length = (L.length - (i + 1)) * 2) := Lib.hid hlen
 have s2 : Hid (∀ u ∈ news, u.oneCell' = true) := Lib.hid (by
  intro u hu
  rw [hnews] at hu
  obtain ⟨e, he, hu⟩ := List.mem_flatten.1 hu
  exact (h.rows e (List.mem_of_mem_drop he)).2 u hu)
 have s3 : Hid (∀ t, t < news.length → (w.drew.cell? ⟨q, 0 + i * 2 + t, none⟩).isSome = true ∧ w.drew.frozen? ⟨q, 0 + i * 2 + t, none⟩ = false) := Lib.hid (by
  intro t ht
  rw [hlen] at ht
  refine ⟨?_, hB.free _⟩
  show (w.cell? _).isSome = true
  rw [hB.cell]
  rw [Array.getElem?_eq_getElem (by rw [hcs]; omega)]
  rfl)
 obtain ⟨W1, hW1⟩ : ∃ W1, W1 = w.drew.setCells q (0 + i * 2) news := ⟨_, rfl⟩
 have hB1 : BlockIs W1 q 170 (putz cur (0 + i * 2) news) := by rw [hW1]; exact BlockIs.putAll news (show BlockIs w.drew q _ cur from hB) _
 have hO1 : Out w W1 [q] := by rw [hW1]; exact (Out.refl w [q]).drew.trans (Out.putAll news w.drew q _)
 have hcl : ∀ ty, (Builtin.clear_ #[166] ty #[.slice (some ⟨q, (i + (L.length - (i + 1))) * 2, none⟩) (L.length - (i + (L.length - (i + 1)))) (cap - (i + (L.length - (i + 1))))]).run Tryz.prog W1 = .ok (.tuple #[]) (W1.setCells q ((i + (L.length - (i + 1))) * 2) [.int .i64 0, .string ⟨#[]⟩]) := fun ty =>
  run_clear1 W1 _ _ ty (.agg #[.int .i64 0, .string ⟨#[]⟩]) [.int .i64 0, .string ⟨#[]⟩] t1 (Tryz.delLetsZero W1) rfl (by intro u hu; simp at hu; rcases hu with rfl | rfl <;> rfl) q _ _ _ (by omega)
   (fun j hj => by rw [hB1.cell, Array.getElem?_eq_getElem (by rw [putz_size, hcs]; simp at hj; omega)]; rfl) (fun j hj => hB1.free _)
 have hW : Hid (W1 = w.drew.setCells q (0 + i * 2) news) := Lib.hid hW1
 have HFIN := Lib.hid hfin
 have HB1 := Lib.hid hB1
 have HN := Lib.hid hnews
 have HR := Lib.hid h.rows
 have HCS := Lib.hid hcs
 have hic : (i : Int) ≤ (cap : Int) := by omega
 have hjc : (i : Int) + 1 ≤ (cap : Int) := by omega
 have hil : (i : Int) + 1 ≤ (L.length : Int) := by omega
 have hlc : (L.length : Int) ≤ (cap : Int) := by omega
 have hne : ((i : Int) == (i : Int) + 1) = false := by simp; omega
 have hi1 : (0 : Int) ≤ (i : Int) + 1 := by omega
 have HML := Lib.hid hml
 clear hW1 hB1 hlen hnews hfin h hB hml hcs hinfo
 go_enter Tryz.func110, Tryz.ntmps110
 go_wp2_with fail
 go_region_law (refine step_append_room rfl (.tmp 22) (.tmp 25) 166 rfl 170 i0 2 t1 hi0 hz1 q 0 i cap (by simp [Act.eval, Act.put]) A (L.length - (i + 1)) (cap - (i + 1)) news (by simp [Act.eval, Act.put]) s1.out hsrc.out s2.out (by omega) s3.out ?_; rw [← hW.out])
 go_wp2
 go_ret
 have hl : ((L.take i ++ L.drop (i + 1)).map letRow).length = L.length - 1 := by simp; omega
 have hB2 := BlockIs.putAll [.int .i64 0, .string ⟨#[]⟩] HB1.out ((i + (L.length - (i + 1))) * 2)
 have hx : i + (L.length - (i + 1)) = L.length - 1 := by omega
 have hrows : ∀ e ∈ (L.take i ++ L.drop (i + 1)).map letRow, e.length = 2 ∧ ∀ u ∈ e, u.oneCell' = true := by
  intro e he
  rw [List.map_append, List.mem_append] at he
  rcases he with he | he
  · exact HR.out e (by rw [List.map_take] at he; exact List.mem_of_mem_take he)
  · exact HR.out e (by rw [List.map_drop] at he; exact List.mem_of_mem_drop he)
 refine ⟨by rw [show L.length - 1 = i + (L.length - (i + 1)) from by omega]; rfl, ?_, hO1.trans (Out.putAll _ _ q _)⟩
 refine Lst.as (n := ((L.take i ++ L.drop (i + 1)).map letRow).length) ⟨⟨flat_length (fun e he => (hrows e he).1), Or.inr ⟨q, cap, _, rfl, Nat.zero_le _, hB2, by rw [hl]; omega, by unfold maxLen; omega, by rw [putz_size, putz_size, HCS.out], ?_⟩⟩, hrows⟩ hl.symm rfl
 have hf := HFIN.out
 rw [HN.out, hl, hx, Nat.zero_add, hf, List.map_append, List.map_take, List.map_drop]
theorem kgive (g : Nat) (v : Value) (L : List Let) (x : Int) (w : World) (h : Kz w g v L) :
  Calls Tryz.prog 71 #[.pointer (some ⟨g, 0, none⟩), .int .i64 x] w fun e w' => e = .returned (.tuple #[.int .i64 (giveD L x).too, .string (giveD L x).b, errV (giveE L x)]) ∧ KLeft w w' g v (giveL L x) := by
 have H := Lib.hid h
 have c0 : w.cell? ⟨g, 0, none⟩ = some v := h.bl.cell 0
 have f0 := h.bl.free
 have lg := h.bl.lt
 obtain ⟨A, cap, hve, _, _, hA⟩ := h.ls.shape
 rw [List.length_map] at hve
 subst hve
 have hfew := h.few
 have HA := Lib.hid hA
 clear h hA
 by_cases hw : isB L x = true
 case neg =>
  have hw' : isB L x = false := by simpa using hw
  have E : Hid (giveE L x = 1) := Lib.hid (by unfold giveE; rw [if_neg hw])
  have ED : Hid (giveD L x = noLet) := Lib.hid (by unfold giveD; rw [if_neg hw])
  have EL : Hid (giveL L x = L) := Lib.hid (by unfold giveL; rw [if_neg hw])
  have HW := Lib.hid hw'
  clear hw hw'
  go_enter Tryz.func71, Tryz.ntmps71
  go_wp2_with (go_at_call 109; refine (kis g _ L x _ H.out).mono ?_; rintro e w' ⟨rfl, rfl⟩; rw [HW.out])
  go_ret3
  exact ⟨by rw [E.out, ED.out]; rfl, by rw [EL.out]; exact KLeft.same H.out (Below.refl _ _)⟩
 have HW := Lib.hid hw
 obtain ⟨x0, x1⟩ := isB_iff.1 hw
 obtain ⟨m, rfl⟩ := Int.eq_ofNat_of_zero_le x0
 clear hw
 have hml : m < L.length := by omega
 have E : Hid (giveE L m = 0) := Lib.hid (by unfold giveE; rw [if_pos HW.out])
 have ED : Hid (giveD L m = L[m]) := Lib.hid (by unfold giveD; rw [if_pos HW.out]; simp [List.getD, List.getElem?_eq_getElem hml])
 have EL : Hid (giveL L m = L.take m ++ L.drop (m + 1)) := Lib.hid (by unfold giveL; rw [if_pos HW.out]; rfl)
 rcases HA.out with ⟨_, h0, _⟩ | ⟨q, rfl⟩
 · have : L = [] := by simpa using h0
   subst this
   simp at hml
 have q0 : w.cell? ⟨q, m * 2, none⟩ = some (.int .i64 L[m].too) := H.out.ls.cell rfl (elem_of_let hml) (j := 0) rfl
 have q1 : w.cell? ⟨q, m * 2 + 1, none⟩ = some (.string L[m].b) := H.out.ls.cell rfl (elem_of_let hml) (j := 1) rfl
 have lq := H.out.ls.lt q (by simp [Value.ownBlock])
 generalize L[m] = d at *
 obtain ⟨dt, db⟩ := d
 have hgq : g ∉ [q] := fun hm2 => by have := H.out.ls.apart H.out.bl (by decide); rw [List.mem_singleton.1 hm2] at this; simp [Value.ownBlock] at this
 have HGQ := Lib.hid hgq
 have hmi : (m : Int) < (L.length : Int) := by omega
 have hm6 : L.length ≤ 1000000 := by omega
 clear hgq
 go_enter Tryz.func71, Tryz.ntmps71
 go_wp2_with (first | (go_at_call 109; refine (kis g _ L m _ H.out).mono ?_; rintro e w' ⟨rfl, rfl⟩; rw [HW.out]) | fail)
 refine (delLets q cap L m hml hm6 _ (H.out.ls.alloc _)).mono ?_
 rintro e w2 ⟨rfl, hl2, ho2⟩
 have hb2 : BlockIs w2 g 168 #[.slice (some ⟨q, 0, none⟩) L.length cap] := ho2.block' (H.out.bl.alloc _) HGQ.out
 have h42 : BlockIs w2 w.heap.size 170 #[.int .i64 dt, .string db] := ho2.block' (BlockIs.fresh _ _ _) (by simp; omega)
 have e2 : w2.cell? ⟨g, 0, none⟩ = some (.slice (some ⟨q, 0, none⟩) L.length cap) := hb2.cell 0
 have f2 := hb2.free
 have lg2 := hb2.lt
 have hg4 : w.heap.size ≠ g := by omega
 have h43 : ∀ u, BlockIs (w2.setCell ⟨g, 0, none⟩ u) w.heap.size 170 #[.int .i64 dt, .string db] := fun u => h42.far (p := ⟨g, 0, none⟩) hg4 u
 have k0 : ∀ u, (w2.setCell ⟨g, 0, none⟩ u).cell? ⟨w.heap.size, 0, none⟩ = some (.int .i64 dt) := fun u => (h43 u).cell 0
 have k1 : ∀ u, (w2.setCell ⟨g, 0, none⟩ u).cell? ⟨w.heap.size, 1, none⟩ = some (.string db) := fun u => (h43 u).cell 1
 have l42 := h42.lt
 have hO2 : Out w w2 (g :: blocks (.slice (some ⟨q, 0, none⟩) L.length cap)) := ((Out.refl w _).alloc _).then' ho2 (fun k hk => Or.inl (by simp [Value.ownBlock] at hk ⊢; simp [hk]))
 have hlen : (L.take m ++ L.drop (m + 1)).length = L.length - 1 := by simp; omega
 have hqg : q ≠ g := fun e => HGQ.out (by simp [e])
 have hKP : KLeft w (w2.setCell ⟨g, 0, none⟩ (.slice (some ⟨q, 0, none⟩) (L.length - 1) cap)) g (.slice (some ⟨q, 0, none⟩) L.length cap) (L.take m ++ L.drop (m + 1)) := by
  refine ⟨.slice (some ⟨q, 0, none⟩) (L.length - 1) cap, ⟨hb2.put 0 _, ?_, by omega⟩, hO2.put (p := ⟨g, 0, none⟩) (Or.inl (by simp)) _, fun k hk => Or.inl (by simpa [Value.ownBlock] using hk)⟩
  exact hl2.kept (S := [g]) ((Out.refl w2 [g]).put (p := ⟨g, 0, none⟩) (Or.inl (by simp)) _) (fun k hk hm2 => by
   have hkq : q = k := by simpa [Value.ownBlock] using hk
   rw [List.mem_singleton.1 hm2] at hkq
   exact hqg hkq)
 have HKP := Lib.hid hKP
 clear hKP hl2 ho2 hO2 hb2 h42 h43 hlen hmi hm6 q0 q1
 go_wp2_with fail
 go_quiet (fail)
 go_wp2_with fail
 go_ret3
 refine ⟨by rw [E.out, ED.out]; rfl, ?_⟩
 rw [EL.out]
 obtain ⟨v', hz, ho, hk⟩ := HKP.out
 exact ⟨v', ⟨hz.bl, hz.ls.drewN _, hz.few⟩, ho.drewN _, hk⟩
theorem klose (g : Nat) (v : Value) (L : List Let) (x : Int) (w : World) (h : Kz w g v L) :
  Calls Tryz.prog 72 #[.pointer (some ⟨g, 0, none⟩), .int .i64 x] w fun e w' => e = .returned (errV (giveE L x)) ∧ KLeft w w' g v (giveL L x) := by
 have H := Lib.hid h
 clear h
 go_enter Tryz.func72, Tryz.ntmps72
 go_wp2_with fail
 refine (kgive g v L x _ H.out).mono ?_
 rintro e w2 ⟨rfl, hk⟩
 go_wp2_with fail
 go_ret
 exact ⟨rfl, hk⟩
def linkT (g : Nat) (L : List Let) : Thing where
 is w S := ∃ v, Kz w g v L ∧ S = g :: blocks v
 lt h k hk := by
  obtain ⟨v, hz, rfl⟩ := h
  exact hz.lt k hk
 kept h ho hd := by
  obtain ⟨v, hz, rfl⟩ := h
  exact ⟨v, hz.kept ho hd, rfl⟩
theorem linkT_left {w w' : World} {g : Nat} {v : Value} {L : List Let} (h : KLeft w w' g v L) : Leaves w w' (g :: blocks v) (linkT g L) := by
 obtain ⟨v', h1, h2, h3⟩ := h
 refine ⟨g :: blocks v', ⟨v', h1, rfl⟩, h2, fun k hk => ?_⟩
 rcases List.mem_cons.1 hk with rfl | hk
 · exact Or.inl (by simp)
 · rcases h3 k hk with h | h
   · exact Or.inl (List.mem_cons_of_mem _ h)
   · exact Or.inr h
structure TkS where
 L : List Let
 e0 : EnS
 e1 : EnS
def TkS.e (s : TkS) (who : Int) : EnS := if who = 0 then s.e0 else s.e1
def TkS.set (s : TkS) (who : Int) (x : EnS) : TkS := if who = 0 then { s with e0 := x } else { s with e1 := x }
def TkS.new (n : Int) : TkS := ⟨[], EnS.new n, EnS.new n⟩
structure TkP where
 gw : Nat
 g0 : Nat
 g1 : Nat
def tkParts (g : Nat) (s : TkS) (p : TkP) : List Thing :=
 [Thing.block g 123 #[.pointer (some ⟨p.gw, 0, none⟩), .pointer (some ⟨p.g0, 0, none⟩), .pointer (some ⟨p.g1, 0, none⟩)], linkT p.gw s.L, endT p.g0 s.e0, endT p.g1 s.e1]
def TkOk (s : TkS) : Prop := s.L.length ≤ 40 ∧ ∀ l ∈ s.L, whoB l.too = true ∧ l.b.size ≤ 200
def talkT (g : Nat) (s : TkS) : Thing := Thing.ex fun p : TkP => Thing.with_ (TkOk s) (Thing.all (tkParts g s p))
theorem talkT_open {w : World} {S : List Nat} {g : Nat} {s : TkS} (h : (talkT g s).is w S) : ∃ p, TkOk s ∧ Own w S w (tkParts g s p) := by
 obtain ⟨p, h1, h3⟩ := h
 exact ⟨p, h1, Own.unfold_ h3⟩
theorem talkT_close {w w' : World} {S : List Nat} {g : Nat} {s : TkS} {p : TkP} (h1 : TkOk s) (h : Own w S w' (tkParts g s p)) : Leaves w w' S (talkT g s) :=
 Leaves.ex p (Leaves.with_ h1 h.closed)
theorem tnew (n : Int) (h1 : 1 ≤ n) (h2 : n ≤ 1000) (w : World) :
  Calls Tryz.prog 23 #[.int .i64 n] w fun e w' => ∃ g, e = .returned (.tuple #[.pointer (some ⟨g, 0, none⟩), .nilIface]) ∧ Leaves w w' [] (talkT g (TkS.new n)) := by
 have hN := Lib.hid (fun W => enew n h1 h2 W)
 go_enter Tryz.func23, Tryz.ntmps23
 go_wp2_with (go_at_call 67; refine (knew _).mono ?_; rintro e w1 ⟨rfl, hz, hb1⟩)
 have HW1 : Hid (Own w [] (w1.alloc (.cells #[.pointer (some ⟨w.heap.size, 0, none⟩), .pointer none, .pointer none] 123)) [linkT w.heap.size [], Thing.block w1.heap.size 123 #[.pointer (some ⟨w.heap.size, 0, none⟩), .pointer none, .pointer none]]) := Lib.hid (((Own.start w).add hb1 (S := [w.heap.size]) (t := linkT w.heap.size []) ⟨_, hz, rfl⟩ (by simp)).alloc _ _)
 clear hz hb1
 obtain ⟨gt, hgt⟩ : ∃ g, w1.heap.size = g := ⟨_, rfl⟩
 obtain ⟨gw, hgw⟩ : ∃ g, w.heap.size = g := ⟨_, rfl⟩
 rw [hgt, hgw] at HW1
 obtain ⟨wa, hwa⟩ : ∃ x, w1.alloc (.cells #[.pointer (some ⟨gw, 0, none⟩), .pointer none, .pointer none] 123) = x := ⟨_, rfl⟩
 rw [hwa] at HW1
 rw [hgt, hgw, hwa]
 clear hgt hgw hwa
 refine wp_loop_rounds 3 ?_
 rw [rounds_succ]
 go_wp2_with fail
 refine (hN.out _).mono ?_
 rintro e w2 ⟨g0, rfl, hl⟩
 have HW2 := Lib.hid (HW1.out.made hl)
 have c1 : w2.cell? ⟨gt, 1, none⟩ = some (.pointer none) := (HW2.out.blk 1 rfl).cell 1
 have fr := (HW2.out.blk 1 rfl).free
 have lt := (HW2.out.blk 1 rfl).lt
 clear hl HW1
 go_wp2_with fail
 have HW3 := Lib.hid (HW2.out.put 1 rfl 1 (.pointer (some ⟨g0, 0, none⟩)))
 clear HW2 c1 fr lt
 obtain ⟨wb, hwb⟩ : ∃ x, w2.setCell ⟨gt, 1, none⟩ (.pointer (some ⟨g0, 0, none⟩)) = x := ⟨_, rfl⟩
 rw [hwb] at HW3
 rw [hwb]
 clear hwb
 rw [rounds_succ]
 go_wp2_with fail
 refine (hN.out _).mono ?_
 rintro e w4 ⟨g1, rfl, hl⟩
 have HW4 := Lib.hid (HW3.out.made hl)
 have c2 : w4.cell? ⟨gt, 2, none⟩ = some (.pointer none) := (HW4.out.blk 1 rfl).cell 2
 have fr := (HW4.out.blk 1 rfl).free
 have lt := (HW4.out.blk 1 rfl).lt
 clear hl HW3
 go_wp2_with fail
 rw [rounds_succ]
 go_wp2_with fail
 go_ret2
 have HW5 := HW4.out.put 1 rfl 2 (.pointer (some ⟨g1, 0, none⟩))
 refine ⟨gt, rfl, talkT_close (p := ⟨gw, g0, g1⟩) ⟨by simp [TkS.new], by simp [TkS.new]⟩ ?_⟩
 refine Own.pick HW5 [1, 0, 2, 3] (by decide) (fun i t hi => ?_)
 match i, hi with
 | 0, hi => exact ⟨1, rfl, hi⟩
 | 1, hi => exact ⟨0, rfl, hi⟩
 | 2, hi => exact ⟨2, rfl, hi⟩
 | 3, hi => exact ⟨3, rfl, hi⟩
theorem tcount (g : Nat) (s : TkS) (w : World) (S : List Nat) (h : (talkT g s).is w S) :
  Calls Tryz.prog 35 #[.pointer (some ⟨g, 0, none⟩)] w fun e w' => e = .returned (.int .i64 s.L.length) ∧ w = w' := by
 obtain ⟨p, ok, ho⟩ := talkT_open h
 have HO := Lib.hid ho
 have c0 : w.cell? ⟨g, 0, none⟩ = some (.pointer (some ⟨p.gw, 0, none⟩)) := (ho.blk 0 rfl).cell 0
 have lg := (ho.blk 0 rfl).lt
 obtain ⟨S1, ⟨v, hz, -⟩, -⟩ := ho.at_ 1 rfl
 have HZ := Lib.hid hz
 clear h ho hz
 go_enter Tryz.func35, Tryz.ntmps35
 go_wp2_with (go_at_call 74; refine (kcount p.gw v s.L _ HZ.out).mono ?_; rintro e w1 ⟨rfl, rfl⟩)
 go_ret
 exact ⟨rfl, rfl⟩
def TkS.sendE (s : TkS) (who : Int) : Int := if whoB who = true then (if s.L.length = 40 then 4 else 0) else 1
def TkS.send (s : TkS) (who : Int) : TkS := if s.sendE who = 0 then { s.set who (s.e who).make with L := s.L ++ [⟨1 - who, ⟨(s.e who).packet.toArray⟩⟩] } else s
noncomputable def TkS.comeE (s : TkS) (i : Int) : Int := if isB s.L i = true then (s.e (giveD s.L i).too).takeE (giveD s.L i).b.data.toList else 1
noncomputable def TkS.come (s : TkS) (i : Int) : TkS := if isB s.L i = true then { s.set (giveD s.L i).too ((s.e (giveD s.L i).too).take (giveD s.L i).b.data.toList) with L := giveL s.L i } else s
def TkS.readE (who n : Int) : Int := if whoB who = true then EnS.readE n else 1
def TkS.readS (s : TkS) (who n : Int) : ByteArray := if whoB who = true then (s.e who).readS n else ⟨#[]⟩
def TkS.read (s : TkS) (who n : Int) : TkS := if whoB who = true then s.set who ((s.e who).read n) else s
theorem whoB_iff {x : Int} : whoB x = true ↔ x = 0 ∨ x = 1 := by unfold whoB; simp
theorem tread (g : Nat) (s : TkS) (who n : Int) (w : World) (S : List Nat) (h : (talkT g s).is w S) :
  Calls Tryz.prog 26 #[.pointer (some ⟨g, 0, none⟩), .int .i64 who, .int .i64 n] w fun e w' => e = .returned (.tuple #[.string (s.readS who n), errV (TkS.readE who n)]) ∧ Leaves w w' S (talkT g (s.read who n)) := by
 have H := Lib.hid h
 obtain ⟨p, ok, ho⟩ := talkT_open h
 have HOK := Lib.hid ok
 have HO := Lib.hid ho
 have c1 : w.cell? ⟨g, 1, none⟩ = some (.pointer (some ⟨p.g0, 0, none⟩)) := (ho.blk 0 rfl).cell 1
 have c2 : w.cell? ⟨g, 2, none⟩ = some (.pointer (some ⟨p.g1, 0, none⟩)) := (ho.blk 0 rfl).cell 2
 have lg := (ho.blk 0 rfl).lt
 clear h ho ok
 cases hw : whoB who with
 | false =>
   have HE : Hid (TkS.readE who n = 1 ∧ s.readS who n = ⟨#[]⟩ ∧ s.read who n = s) := Lib.hid ⟨by unfold TkS.readE; rw [hw]; rfl, by unfold TkS.readS; rw [hw]; rfl, by unfold TkS.read; rw [hw]; rfl⟩
   rw [HE.out.1, HE.out.2.1, HE.out.2.2]
   go_enter Tryz.func26, Tryz.ntmps26
   go_wp2_with (go_at_call 68; refine (who_any who _).mono ?_; rintro e w1 ⟨rfl, rfl⟩; rw [hw])
   go_ret2
   exact ⟨rfl, Leaves.same H.out (Below.refl _ _)⟩
 | true =>
   rcases whoB_iff.1 hw with rfl | rfl
   · have HE : Hid (TkS.readE 0 n = EnS.readE n ∧ s.readS 0 n = s.e0.readS n ∧ s.read 0 n = { s with e0 := s.e0.read n }) := Lib.hid ⟨rfl, rfl, rfl⟩
     rw [HE.out.1, HE.out.2.1, HE.out.2.2]
     obtain ⟨S2, hS2, up⟩ := HO.out.at_ 2 rfl
     clear hw
     go_enter Tryz.func26, Tryz.ntmps26
     go_wp2_with (first | (go_at_call 68; refine (who_any 0 _).mono ?_; rintro e w1 ⟨rfl, rfl⟩) | (go_at_call 14; refine (eread p.g0 s.e0 n _ S2 hS2).mono ?_; rintro e w1 ⟨rfl, hl⟩))
     go_ret2
     exact ⟨rfl, talkT_close (p := p) HOK.out (up _ _ hl)⟩
   · have HE : Hid (TkS.readE 1 n = EnS.readE n ∧ s.readS 1 n = s.e1.readS n ∧ s.read 1 n = { s with e1 := s.e1.read n }) := Lib.hid ⟨rfl, rfl, rfl⟩
     rw [HE.out.1, HE.out.2.1, HE.out.2.2]
     obtain ⟨S3, hS3, up⟩ := HO.out.at_ 3 rfl
     clear hw
     go_enter Tryz.func26, Tryz.ntmps26
     go_wp2_with (first | (go_at_call 68; refine (who_any 1 _).mono ?_; rintro e w1 ⟨rfl, rfl⟩) | (go_at_call 14; refine (eread p.g1 s.e1 n _ S3 hS3).mono ?_; rintro e w1 ⟨rfl, hl⟩))
     go_ret2
     exact ⟨rfl, talkT_close (p := p) HOK.out (up _ _ hl)⟩
theorem giveD_mem {L : List Let} {i : Int} (h : isB L i = true) : giveD L i ∈ L := by
 unfold giveD
 rw [if_pos h]
 obtain ⟨h0, h1⟩ := isB_iff.1 h
 have hl : i.toNat < L.length := by omega
 rw [show L.getD i.toNat noLet = L[i.toNat] by simp [List.getD, List.getElem?_eq_getElem hl]]
 exact List.getElem_mem _
theorem giveL_sub {L : List Let} {i : Int} : (giveL L i).length ≤ L.length ∧ ∀ l ∈ giveL L i, l ∈ L := by
 unfold giveL
 split
 · refine ⟨by rw [List.length_append, List.length_take, List.length_drop]; omega, fun l hl => ?_⟩
   rcases List.mem_append.1 hl with h | h
   · exact List.mem_of_mem_take h
   · exact List.mem_of_mem_drop h
 · exact ⟨Nat.le_refl _, fun l hl => hl⟩
theorem tsend (g : Nat) (s : TkS) (who : Int) (w : World) (S : List Nat) (h : (talkT g s).is w S) (hK : KTab w) (hm : (s.e who).made.length ≤ 1000) :
  Calls Tryz.prog 27 #[.pointer (some ⟨g, 0, none⟩), .int .i64 who] w fun e w' => e = .returned (errV (s.sendE who)) ∧ Leaves w w' S (talkT g (s.send who)) := by
 have H := Lib.hid h
 have HK := Lib.hid hK
 obtain ⟨p, ok, ho⟩ := talkT_open h
 have HOK := Lib.hid ok
 have HO := Lib.hid ho
 have c0 : w.cell? ⟨g, 0, none⟩ = some (.pointer (some ⟨p.gw, 0, none⟩)) := (ho.blk 0 rfl).cell 0
 have c1 : w.cell? ⟨g, 1, none⟩ = some (.pointer (some ⟨p.g0, 0, none⟩)) := (ho.blk 0 rfl).cell 1
 have c2 : w.cell? ⟨g, 2, none⟩ = some (.pointer (some ⟨p.g1, 0, none⟩)) := (ho.blk 0 rfl).cell 2
 have lg := (ho.blk 0 rfl).lt
 clear h ho ok hK
 cases hw : whoB who with
 | false =>
   have HE : Hid (s.sendE who = 1 ∧ s.send who = s) := Lib.hid (by
    have e1 : s.sendE who = 1 := by unfold TkS.sendE; rw [hw]; rfl
    exact ⟨e1, by unfold TkS.send; rw [e1, if_neg (by decide)]⟩)
   rw [HE.out.1, HE.out.2]
   go_enter Tryz.func27, Tryz.ntmps27
   go_wp2_with (go_at_call 68; refine (who_any who _).mono ?_; rintro e w1 ⟨rfl, rfl⟩; rw [hw])
   go_ret
   exact ⟨rfl, Leaves.same H.out (Below.refl _ _)⟩
 | true =>
   rcases whoB_iff.1 hw with rfl | rfl
   · have HE : Hid (s.sendE 0 = (if s.L.length = 40 then 4 else 0) ∧ s.e 0 = s.e0) := Lib.hid ⟨rfl, rfl⟩
     have HS : Hid (¬ s.L.length = 40 → s.send 0 = { s with e0 := s.e0.make, L := s.L ++ [⟨1, ⟨s.e0.packet.toArray⟩⟩] }) := Lib.hid (fun h0 => by unfold TkS.send; rw [HE.out.1, if_neg h0, if_pos rfl]; rfl)
     have HS1 : Hid (s.L.length = 40 → s.send 0 = s) := Lib.hid (fun h0 => by unfold TkS.send; rw [HE.out.1, if_pos h0, if_neg (by decide)])
     obtain ⟨S1, ⟨v0, hz0, -⟩, -⟩ := HO.out.at_ 1 rfl
     have HZ0 := Lib.hid hz0
     clear hw hz0
     by_cases hf : s.L.length = 40
     · rw [HE.out.1, if_pos hf, HS1.out hf]
       have hfb : fullB s.L = true := by unfold fullB; simpa using hf
       clear hf
       go_enter Tryz.func27, Tryz.ntmps27
       go_wp2_with (first | (go_at_call 68; refine (who_any 0 _).mono ?_; rintro e w1 ⟨rfl, rfl⟩) | (go_at_call 69; refine (kfull p.gw v0 s.L _ HZ0.out).mono ?_; rintro e w1 ⟨rfl, rfl⟩; rw [hfb]))
       go_ret
       exact ⟨rfl, Leaves.same H.out (Below.refl _ _)⟩
     · rw [HE.out.1, if_neg hf, HS.out hf, errV_zero]
       have hfb : fullB s.L = false := by unfold fullB; simpa using hf
       obtain ⟨S2, hS2, up⟩ := HO.out.at_ 2 rfl
       have hme : (s.e0).made.length ≤ 1000 := hm
       have hokE : EnOk s.e0 := by obtain ⟨q, hq⟩ := endT_open hS2; exact hq.ok
       have hpk : s.e0.packet.length ≤ 177 := (hokE.packetOk (by omega)).2.2
       have HSE : Hid (Go.Proofs.YtmfbaijbigodkaaGreatDoor.sendE s.L 1 ⟨s.e0.packet.toArray⟩ = 0 ∧ sendL s.L 1 ⟨s.e0.packet.toArray⟩ = s.L ++ [⟨1, ⟨s.e0.packet.toArray⟩⟩]) := Lib.hid (by
        have e0 : Go.Proofs.YtmfbaijbigodkaaGreatDoor.sendE s.L 1 ⟨s.e0.packet.toArray⟩ = 0 := by
         unfold Go.Proofs.YtmfbaijbigodkaaGreatDoor.sendE
         rw [if_pos (by decide), if_neg]
         rintro (h1 | h1)
         · exact hf h1
         · have : (200 : Nat) < s.e0.packet.toArray.size := h1
           rw [List.size_toArray] at this
           omega
        exact ⟨e0, by unfold sendL; rw [if_pos e0]⟩)
       have HOK2 : Hid (TkOk { s with e0 := s.e0.make, L := s.L ++ [⟨1, ⟨s.e0.packet.toArray⟩⟩] }) := Lib.hid (by
        refine ⟨by show (s.L ++ [_]).length ≤ 40; rw [List.length_append]; have := HOK.out.1; simp; omega, fun l hl => ?_⟩
        rcases List.mem_append.1 hl with h | h
        · exact HOK.out.2 l h
        · rw [List.mem_singleton.1 h]
          refine ⟨rfl, ?_⟩
          show s.e0.packet.toArray.size ≤ 200
          rw [List.size_toArray]; omega)
       have HSZ : Hid ((ByteArray.mk s.e0.packet.toArray).size ≤ 9223372036854775807) := Lib.hid (by show s.e0.packet.toArray.size ≤ _; rw [List.size_toArray]; omega)
       clear hf hokE hpk
       go_enter Tryz.func27, Tryz.ntmps27
       go_wp2_with (first | (go_at_call 68; refine (who_any 0 _).mono ?_; rintro e w1 ⟨rfl, rfl⟩) | (go_at_call 69; refine (kfull p.gw v0 s.L _ HZ0.out).mono ?_; rintro e w1 ⟨rfl, rfl⟩; rw [hfb]))
       go_region_law (first
        | (go_simp; go_at_call 15; refine (emake p.g0 s.e0 _ S2 ((endT p.g0 s.e0).later hS2 (show Since w _ from (by exact Since.drew (Since.refl _)))) (HK.out.later (show Since w _ from (by exact Since.drew (Since.refl _)))) hme).mono ?_; rintro e w1 ⟨rfl, hl⟩; have HW1 := Lib.hid (up _ _ (Leaves.drew hl)); obtain ⟨S1', ⟨v1, hz1, hS1'⟩, up1⟩ := HW1.out.at_ 1 rfl; have d0 : w1.cell? ⟨g, 0, none⟩ = some (.pointer (some ⟨p.gw, 0, none⟩)) := (HW1.out.blk 0 rfl).cell 0; have ld := (HW1.out.blk 0 rfl).lt)
        | (go_simp; go_at_call 70; refine (ksend p.gw v1 s.L 1 ⟨s.e0.packet.toArray⟩ _ hz1 HSZ.out).mono ?_; rintro e w2 ⟨rfl, hk⟩; rw [HSE.out.1, errV_zero]; rw [HSE.out.2] at hk))
       all_goals
        go_wp2_with fail
        go_ret
        refine ⟨rfl, talkT_close (p := p) HOK2.out ?_⟩
        have h9 := up1 _ _ (by rw [hS1']; exact linkT_left hk)
        exact h9
   · have HE : Hid (s.sendE 1 = (if s.L.length = 40 then 4 else 0) ∧ s.e 1 = s.e1) := Lib.hid ⟨rfl, rfl⟩
     have HS : Hid (¬ s.L.length = 40 → s.send 1 = { s with e1 := s.e1.make, L := s.L ++ [⟨0, ⟨s.e1.packet.toArray⟩⟩] }) := Lib.hid (fun h0 => by unfold TkS.send; rw [HE.out.1, if_neg h0, if_pos rfl]; rfl)
     have HS1 : Hid (s.L.length = 40 → s.send 1 = s) := Lib.hid (fun h0 => by unfold TkS.send; rw [HE.out.1, if_pos h0, if_neg (by decide)])
     obtain ⟨S1, ⟨v0, hz0, -⟩, -⟩ := HO.out.at_ 1 rfl
     have HZ0 := Lib.hid hz0
     clear hw hz0
     by_cases hf : s.L.length = 40
     · rw [HE.out.1, if_pos hf, HS1.out hf]
       have hfb : fullB s.L = true := by unfold fullB; simpa using hf
       clear hf
       go_enter Tryz.func27, Tryz.ntmps27
       go_wp2_with (first | (go_at_call 68; refine (who_any 1 _).mono ?_; rintro e w1 ⟨rfl, rfl⟩) | (go_at_call 69; refine (kfull p.gw v0 s.L _ HZ0.out).mono ?_; rintro e w1 ⟨rfl, rfl⟩; rw [hfb]))
       go_ret
       exact ⟨rfl, Leaves.same H.out (Below.refl _ _)⟩
     · rw [HE.out.1, if_neg hf, HS.out hf, errV_zero]
       have hfb : fullB s.L = false := by unfold fullB; simpa using hf
       obtain ⟨S2, hS2, up⟩ := HO.out.at_ 3 rfl
       have hme : (s.e1).made.length ≤ 1000 := hm
       have hokE : EnOk s.e1 := by obtain ⟨q, hq⟩ := endT_open hS2; exact hq.ok
       have hpk : s.e1.packet.length ≤ 177 := (hokE.packetOk (by omega)).2.2
       have HSE : Hid (Go.Proofs.YtmfbaijbigodkaaGreatDoor.sendE s.L 0 ⟨s.e1.packet.toArray⟩ = 0 ∧ sendL s.L 0 ⟨s.e1.packet.toArray⟩ = s.L ++ [⟨0, ⟨s.e1.packet.toArray⟩⟩]) := Lib.hid (by
        have e0 : Go.Proofs.YtmfbaijbigodkaaGreatDoor.sendE s.L 0 ⟨s.e1.packet.toArray⟩ = 0 := by
         unfold Go.Proofs.YtmfbaijbigodkaaGreatDoor.sendE
         rw [if_pos (by decide), if_neg]
         rintro (h1 | h1)
         · exact hf h1
         · have : (200 : Nat) < s.e1.packet.toArray.size := h1
           rw [List.size_toArray] at this
           omega
        exact ⟨e0, by unfold sendL; rw [if_pos e0]⟩)
       have HOK2 : Hid (TkOk { s with e1 := s.e1.make, L := s.L ++ [⟨0, ⟨s.e1.packet.toArray⟩⟩] }) := Lib.hid (by
        refine ⟨by show (s.L ++ [_]).length ≤ 40; rw [List.length_append]; have := HOK.out.1; simp; omega, fun l hl => ?_⟩
        rcases List.mem_append.1 hl with h | h
        · exact HOK.out.2 l h
        · rw [List.mem_singleton.1 h]
          refine ⟨rfl, ?_⟩
          show s.e1.packet.toArray.size ≤ 200
          rw [List.size_toArray]; omega)
       have HSZ : Hid ((ByteArray.mk s.e1.packet.toArray).size ≤ 9223372036854775807) := Lib.hid (by show s.e1.packet.toArray.size ≤ _; rw [List.size_toArray]; omega)
       clear hf hokE hpk
       go_enter Tryz.func27, Tryz.ntmps27
       go_wp2_with (first | (go_at_call 68; refine (who_any 1 _).mono ?_; rintro e w1 ⟨rfl, rfl⟩) | (go_at_call 69; refine (kfull p.gw v0 s.L _ HZ0.out).mono ?_; rintro e w1 ⟨rfl, rfl⟩; rw [hfb]))
       go_region_law (first
        | (go_simp; go_at_call 15; refine (emake p.g1 s.e1 _ S2 ((endT p.g1 s.e1).later hS2 (show Since w _ from (by exact Since.drew (Since.refl _)))) (HK.out.later (show Since w _ from (by exact Since.drew (Since.refl _)))) hme).mono ?_; rintro e w1 ⟨rfl, hl⟩; have HW1 := Lib.hid (up _ _ (Leaves.drew hl)); obtain ⟨S1', ⟨v1, hz1, hS1'⟩, up1⟩ := HW1.out.at_ 1 rfl; have d0 : w1.cell? ⟨g, 0, none⟩ = some (.pointer (some ⟨p.gw, 0, none⟩)) := (HW1.out.blk 0 rfl).cell 0; have ld := (HW1.out.blk 0 rfl).lt)
        | (go_simp; go_at_call 70; refine (ksend p.gw v1 s.L 0 ⟨s.e1.packet.toArray⟩ _ hz1 HSZ.out).mono ?_; rintro e w2 ⟨rfl, hk⟩; rw [HSE.out.1, errV_zero]; rw [HSE.out.2] at hk))
       all_goals
        go_wp2_with fail
        go_ret
        refine ⟨rfl, talkT_close (p := p) HOK2.out ?_⟩
        have h9 := up1 _ _ (by rw [hS1']; exact linkT_left hk)
        exact h9
theorem tcome (g : Nat) (s : TkS) (i : Int) (w : World) (S : List Nat) (h : (talkT g s).is w S) (hT : ∀ X, Out w X S → KTab X ∧ CTab X) (hm0 : s.e0.made.length ≤ 1000) (hm1 : s.e1.made.length ≤ 1000) :
  Calls Tryz.prog 29 #[.pointer (some ⟨g, 0, none⟩), .int .i64 i] w fun e w' => e = .returned (errV (s.comeE i)) ∧ Leaves w w' S (talkT g (s.come i)) := by
 have H := Lib.hid h
 have HTT := Lib.hid hT
 obtain ⟨p, ok, ho⟩ := talkT_open h
 have HOK := Lib.hid ok
 have HO := Lib.hid ho
 have c0 : w.cell? ⟨g, 0, none⟩ = some (.pointer (some ⟨p.gw, 0, none⟩)) := (ho.blk 0 rfl).cell 0
 have lg := (ho.blk 0 rfl).lt
 obtain ⟨S1, ⟨v1, hz1, hS1⟩, up1⟩ := HO.out.at_ 1 rfl
 have HGV := Lib.hid (kgive p.gw v1 s.L i w hz1)
 clear h ho ok hT hz1
 cases hb : isB s.L i with
 | false =>
   have HE : Hid (s.comeE i = 1 ∧ s.come i = s ∧ giveE s.L i = 1) := Lib.hid ⟨by unfold TkS.comeE; rw [hb]; rfl, by unfold TkS.come; rw [hb]; rfl, by unfold giveE; rw [hb]; rfl⟩
   have HGL : Hid (giveL s.L i = s.L) := Lib.hid (by unfold giveL; rw [hb]; rfl)
   rw [HE.out.1, HE.out.2.1]
   rw [HE.out.2.2, HGL.out] at HGV
   go_enter Tryz.func29, Tryz.ntmps29
   go_wp2_with fail
   refine HGV.out.mono ?_
   rintro e w1 ⟨rfl, hk⟩
   rw [errV_pos (by decide)]
   have HL := Lib.hid (talkT_close (p := p) HOK.out (up1 _ _ (by rw [hS1]; exact linkT_left hk)))
   go_wp2_with fail
   go_ret
   exact ⟨rfl, HL.out⟩
 | true =>
   have hmem := giveD_mem hb
   obtain ⟨hto, hsz⟩ := HOK.out.2 _ hmem
   have HE : Hid (s.comeE i = (s.e (giveD s.L i).too).takeE (giveD s.L i).b.data.toList ∧ s.come i = { s.set (giveD s.L i).too ((s.e (giveD s.L i).too).take (giveD s.L i).b.data.toList) with L := giveL s.L i } ∧ giveE s.L i = 0) := Lib.hid ⟨by unfold TkS.comeE; rw [if_pos hb], by unfold TkS.come; rw [if_pos hb], by unfold giveE; rw [if_pos hb]⟩
   rw [HE.out.2.2, errV_zero] at HGV
   rw [HE.out.1, HE.out.2.1]
   obtain ⟨⟨tz, b⟩, hd⟩ : ∃ d, giveD s.L i = d := ⟨_, rfl⟩
   rw [hd] at hto hsz HGV
   rw [hd]
   dsimp only at hto hsz HGV ⊢
   have HGL := Lib.hid (giveL_sub (L := s.L) (i := i))
   have hbz : b.size ≤ 9223372036854775000 := by omega
   clear hmem hd HE hb hsz
   rcases whoB_iff.1 hto with rfl | rfl
   · clear hto
     go_enter Tryz.func29, Tryz.ntmps29
     go_wp2_with fail
     refine HGV.out.mono ?_
     rintro e w1 ⟨rfl, hk⟩
     have HW1 := Lib.hid (up1 _ (linkT p.gw (giveL s.L i)) (by rw [hS1]; exact linkT_left hk))
     have d1 : w1.cell? ⟨g, 1, none⟩ = some (.pointer (some ⟨p.g0, 0, none⟩)) := (HW1.out.blk 0 rfl).cell 1
     have ld := (HW1.out.blk 0 rfl).lt
     obtain ⟨S2, hS2, up2⟩ := HW1.out.at_ 2 rfl
     have hK1 : KTab w1 ∧ CTab w1 := HTT.out w1 HW1.out.out
     have HT := Lib.hid (etake p.g0 s.e0 b w1 S2 hS2 hK1.1 hK1.2 hm0 hbz)
     clear hk hS2 hK1
     go_wp2_with (go_at_call 17; refine HT.out.mono ?_; rintro e w2 ⟨rfl, hl⟩)
     go_ret
     exact ⟨rfl, talkT_close (p := p) ⟨Nat.le_trans HGL.out.1 HOK.out.1, fun l hl => HOK.out.2 l (HGL.out.2 l hl)⟩ (up2 _ _ hl)⟩
   · clear hto
     go_enter Tryz.func29, Tryz.ntmps29
     go_wp2_with fail
     refine HGV.out.mono ?_
     rintro e w1 ⟨rfl, hk⟩
     have HW1 := Lib.hid (up1 _ (linkT p.gw (giveL s.L i)) (by rw [hS1]; exact linkT_left hk))
     have d1 : w1.cell? ⟨g, 2, none⟩ = some (.pointer (some ⟨p.g1, 0, none⟩)) := (HW1.out.blk 0 rfl).cell 2
     have ld := (HW1.out.blk 0 rfl).lt
     obtain ⟨S2, hS2, up2⟩ := HW1.out.at_ 3 rfl
     have hK1 : KTab w1 ∧ CTab w1 := HTT.out w1 HW1.out.out
     have HT := Lib.hid (etake p.g1 s.e1 b w1 S2 hS2 hK1.1 hK1.2 hm1 hbz)
     clear hk hS2 hK1
     go_wp2_with (go_at_call 17; refine HT.out.mono ?_; rintro e w2 ⟨rfl, hl⟩)
     go_ret
     exact ⟨rfl, talkT_close (p := p) ⟨Nat.le_trans HGL.out.1 HOK.out.1, fun l hl => HOK.out.2 l (HGL.out.2 l hl)⟩ (up2 _ _ hl)⟩
def TkS.writeE (s : TkS) (who : Int) (d : ByteArray) : Int := if whoB who = true then (s.e who).writeE d else 1
def TkS.write (s : TkS) (who : Int) (d : ByteArray) : TkS := if whoB who = true then s.set who ((s.e who).write d) else s
theorem twrite (g : Nat) (s : TkS) (who : Int) (d : ByteArray) (w : World) (S : List Nat) (h : (talkT g s).is w S) (hd : d.size ≤ 9223372036854775000) :
  Calls Tryz.prog 25 #[.pointer (some ⟨g, 0, none⟩), .int .i64 who, .string d] w fun e w' => e = .returned (errV (s.writeE who d)) ∧ Leaves w w' S (talkT g (s.write who d)) := by
 have H := Lib.hid h
 obtain ⟨p, ok, ho⟩ := talkT_open h
 have HOK := Lib.hid ok
 have HO := Lib.hid ho
 have c1 : w.cell? ⟨g, 1, none⟩ = some (.pointer (some ⟨p.g0, 0, none⟩)) := (ho.blk 0 rfl).cell 1
 have c2 : w.cell? ⟨g, 2, none⟩ = some (.pointer (some ⟨p.g1, 0, none⟩)) := (ho.blk 0 rfl).cell 2
 have lg := (ho.blk 0 rfl).lt
 clear h ho ok
 cases hw : whoB who with
 | false =>
   have HE : Hid (s.writeE who d = 1 ∧ s.write who d = s) := Lib.hid ⟨by unfold TkS.writeE; rw [hw]; rfl, by unfold TkS.write; rw [hw]; rfl⟩
   rw [HE.out.1, HE.out.2]
   go_enter Tryz.func25, Tryz.ntmps25
   go_wp2_with (go_at_call 68; refine (who_any who _).mono ?_; rintro e w1 ⟨rfl, rfl⟩; rw [hw])
   go_ret
   exact ⟨rfl, Leaves.same H.out (Below.refl _ _)⟩
 | true =>
   rcases whoB_iff.1 hw with rfl | rfl
   · have HE : Hid (s.writeE 0 d = s.e0.writeE d ∧ s.write 0 d = { s with e0 := s.e0.write d }) := Lib.hid ⟨rfl, rfl⟩
     rw [HE.out.1, HE.out.2]
     obtain ⟨S2, hS2, up⟩ := HO.out.at_ 2 rfl
     clear hw
     go_enter Tryz.func25, Tryz.ntmps25
     go_wp2_with (first | (go_at_call 68; refine (who_any 0 _).mono ?_; rintro e w1 ⟨rfl, rfl⟩) | (go_at_call 11; refine (ewrite p.g0 s.e0 d _ S2 hS2 hd).mono ?_; rintro e w1 ⟨rfl, hl⟩))
     go_ret
     exact ⟨rfl, talkT_close (p := p) HOK.out (up _ _ hl)⟩
   · have HE : Hid (s.writeE 1 d = s.e1.writeE d ∧ s.write 1 d = { s with e1 := s.e1.write d }) := Lib.hid ⟨rfl, rfl⟩
     rw [HE.out.1, HE.out.2]
     obtain ⟨S3, hS3, up⟩ := HO.out.at_ 3 rfl
     clear hw
     go_enter Tryz.func25, Tryz.ntmps25
     go_wp2_with (first | (go_at_call 68; refine (who_any 1 _).mono ?_; rintro e w1 ⟨rfl, rfl⟩) | (go_at_call 11; refine (ewrite p.g1 s.e1 d _ S3 hS3 hd).mono ?_; rintro e w1 ⟨rfl, hl⟩))
     go_ret
     exact ⟨rfl, talkT_close (p := p) HOK.out (up _ _ hl)⟩
theorem tklose (g : Nat) (s : TkS) (i : Int) (w : World) (S : List Nat) (h : (talkT g s).is w S) :
  Calls Tryz.prog 32 #[.pointer (some ⟨g, 0, none⟩), .int .i64 i] w fun e w' => e = .returned (errV (giveE s.L i)) ∧ Leaves w w' S (talkT g { s with L := giveL s.L i }) := by
 obtain ⟨p, ok, ho⟩ := talkT_open h
 have HOK := Lib.hid ok
 have HO := Lib.hid ho
 have c0 : w.cell? ⟨g, 0, none⟩ = some (.pointer (some ⟨p.gw, 0, none⟩)) := (ho.blk 0 rfl).cell 0
 have lg := (ho.blk 0 rfl).lt
 obtain ⟨S1, ⟨v, hz, hS1⟩, up⟩ := HO.out.at_ 1 rfl
 have HZ := Lib.hid hz
 have HGL := Lib.hid (giveL_sub (L := s.L) (i := i))
 clear h ho hz ok
 go_enter Tryz.func32, Tryz.ntmps32
 go_wp2_with (go_at_call 72; refine (klose p.gw v s.L i _ HZ.out).mono ?_; rintro e w1 ⟨rfl, hk⟩)
 go_ret
 exact ⟨rfl, talkT_close (p := p) ⟨Nat.le_trans HGL.out.1 HOK.out.1, fun l hl => HOK.out.2 l (HGL.out.2 l hl)⟩ (up _ _ (by rw [hS1]; exact linkT_left hk))⟩
theorem twice_ok {L : List Let} {i : Int} (h : L.length ≤ 40 ∧ ∀ l ∈ L, whoB l.too = true ∧ l.b.size ≤ 200) : (twiceL L i).length ≤ 40 ∧ ∀ l ∈ twiceL L i, whoB l.too = true ∧ l.b.size ≤ 200 := by
 unfold twiceL twiceE
 cases hb : isB L i with
 | false => exact h
 | true =>
   obtain ⟨h0, h1⟩ := isB_iff.1 hb
   by_cases h40 : L.length = 40
   · rw [if_pos rfl, if_pos h40, if_neg (by decide)]; exact h
   · rw [if_pos rfl, if_neg h40, if_pos rfl]
     refine ⟨by rw [List.length_append]; have := h.1; simp; omega, fun l hl => ?_⟩
     rcases List.mem_append.1 hl with hm | hm
     · exact h.2 l hm
     · rw [List.mem_singleton.1 hm]
       have hl : i.toNat < L.length := by omega
       rw [show L.getD i.toNat noLet = L[i.toNat] by simp [List.getD, List.getElem?_eq_getElem hl]]
       exact h.2 _ (List.getElem_mem _)
theorem tktwice (g : Nat) (s : TkS) (i : Int) (w : World) (S : List Nat) (h : (talkT g s).is w S) :
  Calls Tryz.prog 33 #[.pointer (some ⟨g, 0, none⟩), .int .i64 i] w fun e w' => e = .returned (errV (twiceE s.L i)) ∧ Leaves w w' S (talkT g { s with L := twiceL s.L i }) := by
 obtain ⟨p, ok, ho⟩ := talkT_open h
 have HOK := Lib.hid ok
 have HO := Lib.hid ho
 have c0 : w.cell? ⟨g, 0, none⟩ = some (.pointer (some ⟨p.gw, 0, none⟩)) := (ho.blk 0 rfl).cell 0
 have lg := (ho.blk 0 rfl).lt
 obtain ⟨S1, ⟨v, hz, hS1⟩, up⟩ := HO.out.at_ 1 rfl
 have HZ := Lib.hid hz
 clear h ho hz ok
 go_enter Tryz.func33, Tryz.ntmps33
 go_wp2_with (go_at_call 73; refine (ktwice p.gw v s.L i _ HZ.out).mono ?_; rintro e w1 ⟨rfl, hk⟩)
 go_ret
 exact ⟨rfl, talkT_close (p := p) (twice_ok HOK.out) (up _ _ (by rw [hS1]; exact linkT_left hk))⟩
def rlinkT (g : Nat) (e0 e1 : Value) (L : List Let) : Thing where
 is w S := ∃ v, Tz w g e0 e1 v L ∧ S = g :: blocks v
 lt h k hk := by
  obtain ⟨v, hz, rfl⟩ := h
  exact hz.lt k hk
 kept h ho hd := by
  obtain ⟨v, hz, rfl⟩ := h
  exact ⟨v, hz.kept ho hd, rfl⟩
theorem rlinkT_left {w w' : World} {g : Nat} {e0 e1 v : Value} {L : List Let} (h : TLeft w w' g e0 e1 v L) : Leaves w w' (g :: blocks v) (rlinkT g e0 e1 L) := by
 obtain ⟨v', h1, h2, h3⟩ := h
 refine ⟨g :: blocks v', ⟨v', h1, rfl⟩, h2, fun k hk => ?_⟩
 rcases List.mem_cons.1 hk with rfl | hk
 · exact Or.inl (by simp)
 · rcases h3 k hk with h | h
   · exact Or.inl (List.mem_cons_of_mem _ h)
   · exact Or.inr h
def rtParts (g : Nat) (s : TkS) (g0 g1 : Nat) : List Thing := [rlinkT g (.pointer (some ⟨g0, 0, none⟩)) (.pointer (some ⟨g1, 0, none⟩)) s.L, rnT g0 s.e0, rnT g1 s.e1]
def rtT (g : Nat) (s : TkS) : Thing := Thing.ex fun p : Nat × Nat => Thing.with_ (TkOk s) (Thing.all (rtParts g s p.1 p.2))
theorem rtT_open {w : World} {S : List Nat} {g : Nat} {s : TkS} (h : (rtT g s).is w S) : ∃ g0 g1, TkOk s ∧ Own w S w (rtParts g s g0 g1) := by
 obtain ⟨⟨g0, g1⟩, h1, h3⟩ := h
 exact ⟨g0, g1, h1, Own.unfold_ h3⟩
theorem rtT_close {w w' : World} {S : List Nat} {g : Nat} {s : TkS} {g0 g1 : Nat} (h1 : TkOk s) (h : Own w S w' (rtParts g s g0 g1)) : Leaves w w' S (rtT g s) :=
 Leaves.ex (g0, g1) (Leaves.with_ h1 h.closed)
theorem rtwice (g : Nat) (s : TkS) (i : Int) (w : World) (S : List Nat) (h : (rtT g s).is w S) (hok : TkOk { s with L := twiceL s.L i }) :
  Calls Tryz.prog 34 #[.pointer (some ⟨g, 0, none⟩), .int .i64 i] w fun e w' => e = .returned (.int .i64 (twiceE s.L i)) ∧ Leaves w w' S (rtT g { s with L := twiceL s.L i }) := by
 obtain ⟨g0, g1, ok, ho⟩ := rtT_open h
 obtain ⟨S1, ⟨v, hz, rfl⟩, up⟩ := ho.at_ 0 rfl
 refine (ttwice g _ _ v s.L i w hz).mono ?_
 rintro e w' ⟨rfl, hl⟩
 exact ⟨rfl, rtT_close hok (up _ _ (rlinkT_left hl))⟩
theorem rsend (g : Nat) (s : TkS) (who : Int) (w : World) (S : List Nat) (h : (rtT g s).is w S) (hm : (s.e who).made.length ≤ 1000) :
  Calls Tryz.prog 28 #[.pointer (some ⟨g, 0, none⟩), .int .i64 who] w fun e w' => e = .returned (.int .i64 (s.sendE who)) ∧ Leaves w w' S (rtT g (s.send who)) := by
 have H := Lib.hid h
 obtain ⟨g0, g1, ok, ho⟩ := rtT_open h
 have HO := Lib.hid ho
 obtain ⟨S1, ⟨v, hz, -⟩, -⟩ := ho.at_ 0 rfl
 have c0 : w.cell? ⟨g, 0, none⟩ = some (.pointer (some ⟨g0, 0, none⟩)) := hz.bl.cell 0
 have c1 : w.cell? ⟨g, 1, none⟩ = some (.pointer (some ⟨g1, 0, none⟩)) := hz.bl.cell 1
 have c2 : w.cell? ⟨g, 2, none⟩ = some v := hz.bl.cell 2
 have lg := hz.bl.lt
 obtain ⟨A, cap, hve, _, _, hA⟩ := hz.ls.shape
 rw [List.length_map] at hve
 clear h ho hz
 cases hw : whoB who with
 | false =>
   have HE : Hid (s.sendE who = 1 ∧ s.send who = s) := Lib.hid (by
    have e1 : s.sendE who = 1 := by unfold TkS.sendE; rw [hw]; rfl
    exact ⟨e1, by unfold TkS.send; rw [e1, if_neg (by decide)]⟩)
   rw [HE.out.1, HE.out.2]
   have hn0 : ¬ who = 0 := fun e => by rw [whoB_iff.2 (Or.inl e)] at hw; cases hw
   have hn1 : ¬ who = 1 := fun e => by rw [whoB_iff.2 (Or.inr e)] at hw; cases hw
   have hb0 : (who != 0) = true := by simpa using hn0
   have hb1 : (who != 1) = true := by simpa using hn1
   clear hw hve hA
   go_enter Tryz.func28, Tryz.ntmps28
   go_wp2_with fail
   go_ret
   exact ⟨rfl, Leaves.same H.out (Below.refl _ _)⟩
 | true =>
   rcases whoB_iff.1 hw with rfl | rfl
   · have HE : Hid (s.sendE 0 = (if s.L.length = 40 then 4 else 0) ∧ s.e 0 = s.e0) := Lib.hid ⟨rfl, rfl⟩
     have HS : Hid (¬ s.L.length = 40 → s.send 0 = { s with e0 := s.e0.make, L := s.L ++ [⟨1, ⟨s.e0.packet.toArray⟩⟩] }) := Lib.hid (fun h0 => by unfold TkS.send; rw [HE.out.1, if_neg h0, if_pos rfl]; rfl)
     have HS1 : Hid (s.L.length = 40 → s.send 0 = s) := Lib.hid (fun h0 => by unfold TkS.send; rw [HE.out.1, if_pos h0, if_neg (by decide)])
     by_cases hf : s.L.length = 40
     · rw [HE.out.1, if_pos hf, HS1.out hf]
       have hl40 : (40 : Int) ≤ (s.L.length : Int) := by omega
       rw [hf] at hve
       subst hve
       clear hw hl40 hf hA
       go_enter Tryz.func28, Tryz.ntmps28
       go_wp2_with fail
       go_ret
       exact ⟨rfl, Leaves.same H.out (Below.refl _ _)⟩
     · rw [HE.out.1, if_neg hf, HS.out hf]
       have hl40 : decide ((40 : Int) ≤ (s.L.length : Int)) = false := by have := ok.1; simp; omega
       have hl41 : (s.L.length : Int) < 40 := by have := ok.1; omega
       have hl42 : ¬ 40 ≤ s.L.length := by have := ok.1; omega
       obtain ⟨S2, hS2, up2⟩ := HO.out.at_ 1 rfl
       have hme : (s.e0).made.length ≤ 1000 := hm
       have hokE : EnOk s.e0 := by obtain ⟨q, hq⟩ := rnT_open hS2; exact hq.ok
       have hpk : s.e0.packet.length ≤ 177 := (hokE.packetOk (by omega)).2.2
       have HOK2 : Hid (TkOk { s with e0 := s.e0.make, L := s.L ++ [⟨1, ⟨s.e0.packet.toArray⟩⟩] }) := Lib.hid (by
        refine ⟨by show (s.L ++ [_]).length ≤ 40; rw [List.length_append]; have := ok.1; simp; omega, fun l hl => ?_⟩
        rcases List.mem_append.1 hl with h | h
        · exact ok.2 l h
        · rw [List.mem_singleton.1 h]
          refine ⟨rfl, ?_⟩
          show s.e0.packet.toArray.size ≤ 200
          rw [List.size_toArray]; omega)
       have HMK := Lib.hid (nmake g0 s.e0 w S2 hS2 hme)
       have HUP := Lib.hid up2
       have HL40 : Hid (s.L.length < 40) := Lib.hid (by have := ok.1; omega)
       subst hve
       clear hw hS2 up2 hokE hpk hf hme hA
       go_enter Tryz.func28, Tryz.ntmps28
       go_wp2_with fail
       refine HMK.out.mono ?_
       rintro e w7 ⟨rfl, hl⟩
       have HO7 := Lib.hid (HUP.out _ _ hl)
       obtain ⟨S9, ⟨v9, hz9, hS9⟩, up9⟩ := HO7.out.at_ 0 rfl
       obtain ⟨A9, cap9, hv9, _, _, _⟩ := hz9.ls.shape
       rw [List.length_map] at hv9
       subst hv9
       have HZ9 := Lib.hid hz9
       have d2 : w7.cell? ⟨g, 2, none⟩ = some (.slice A9 s.L.length cap9) := hz9.bl.cell 2
       have l7 := hz9.bl.lt
       have HUP9 := Lib.hid up9
       have HS9 := Lib.hid hS9
       obtain ⟨es, hes⟩ : ∃ es, s.L.map letRow = es := ⟨_, rfl⟩
       have HES : Hid (es.length = s.L.length) := Lib.hid (by rw [← hes, List.length_map])
       have HEQ := Lib.hid hes
       have HLS : Hid (Lst w7 67 2 (.slice A9 s.L.length cap9) es) := Lib.hid (by rw [← hes]; exact hz9.ls)
       obtain ⟨pk, hpk⟩ : ∃ x : ByteArray, (⟨s.e0.packet.toArray⟩ : ByteArray) = x := ⟨_, rfl⟩
       have HPK := Lib.hid hpk
       rw [hpk]
       clear hl hz9 up9 hS9 hes hpk
       go_wp2_with (at_builtin; refine wpList_push rfl _ _ 59 rfl 67 2 24 Tryz.elRLet (.slice A9 s.L.length cap9) es rfl (HLS.out.alloc _) w7.heap.size 1 [.int .i64 1, .string pk] rfl rfl (letRow_one ⟨1, pk⟩).2 (BlockIs.fresh _ _ _) (by rw [HES.out]; have := HL40.out; omega) ?_; intro q8 c8 w8 hl8 ho8 hq8 hlt8; rw [HES.out] at hl8; rw [HES.out]; have hb8 := ho8.block' (HZ9.out.bl.alloc _) (HLS.out.apart HZ9.out.bl (by decide)); have x2 : w8.cell? ⟨g, 2, none⟩ = some (.slice A9 s.L.length cap9) := hb8.cell 2; have f8 := hb8.free; have l8 := hb8.lt)
       go_ret
       have hO : Out w7 w8 (g :: blocks (.slice A9 s.L.length cap9)) := ((Out.refl w7 _).alloc _).trans (ho8.mono (fun k hk => Or.inl (List.mem_cons_of_mem _ hk)))
       have hQ : q8 ∈ blocks (.slice A9 s.L.length cap9) ∨ w7.heap.size ≤ q8 := by
        rcases hq8 with h9 | h9
        · exact Or.inl h9
        · right; rw [h9]; simp
       have ht := tpush (w := w7) ⟨1, pk⟩ hb8 (by rw [HEQ.out]; exact hl8) hO hQ HL40.out
       refine ⟨rfl, rtT_close (g0 := g0) (g1 := g1) HOK2.out ?_⟩
       have hu := HUP9.out _ _ (by rw [HS9.out]; exact rlinkT_left ht)
       rw [HPK.out]
       exact hu
   · have HE : Hid (s.sendE 1 = (if s.L.length = 40 then 4 else 0) ∧ s.e 1 = s.e1) := Lib.hid ⟨rfl, rfl⟩
     have HS : Hid (¬ s.L.length = 40 → s.send 1 = { s with e1 := s.e1.make, L := s.L ++ [⟨0, ⟨s.e1.packet.toArray⟩⟩] }) := Lib.hid (fun h0 => by unfold TkS.send; rw [HE.out.1, if_neg h0, if_pos rfl]; rfl)
     have HS1 : Hid (s.L.length = 40 → s.send 1 = s) := Lib.hid (fun h0 => by unfold TkS.send; rw [HE.out.1, if_pos h0, if_neg (by decide)])
     by_cases hf : s.L.length = 40
     · rw [HE.out.1, if_pos hf, HS1.out hf]
       have hl40 : (40 : Int) ≤ (s.L.length : Int) := by omega
       rw [hf] at hve
       subst hve
       clear hw hl40 hf hA
       go_enter Tryz.func28, Tryz.ntmps28
       go_wp2_with fail
       go_ret
       exact ⟨rfl, Leaves.same H.out (Below.refl _ _)⟩
     · rw [HE.out.1, if_neg hf, HS.out hf]
       have hl40 : decide ((40 : Int) ≤ (s.L.length : Int)) = false := by have := ok.1; simp; omega
       have hl41 : (s.L.length : Int) < 40 := by have := ok.1; omega
       have hl42 : ¬ 40 ≤ s.L.length := by have := ok.1; omega
       obtain ⟨S2, hS2, up2⟩ := HO.out.at_ 2 rfl
       have hme : (s.e1).made.length ≤ 1000 := hm
       have hokE : EnOk s.e1 := by obtain ⟨q, hq⟩ := rnT_open hS2; exact hq.ok
       have hpk : s.e1.packet.length ≤ 177 := (hokE.packetOk (by omega)).2.2
       have HOK2 : Hid (TkOk { s with e1 := s.e1.make, L := s.L ++ [⟨0, ⟨s.e1.packet.toArray⟩⟩] }) := Lib.hid (by
        refine ⟨by show (s.L ++ [_]).length ≤ 40; rw [List.length_append]; have := ok.1; simp; omega, fun l hl => ?_⟩
        rcases List.mem_append.1 hl with h | h
        · exact ok.2 l h
        · rw [List.mem_singleton.1 h]
          refine ⟨rfl, ?_⟩
          show s.e1.packet.toArray.size ≤ 200
          rw [List.size_toArray]; omega)
       have HMK := Lib.hid (nmake g1 s.e1 w S2 hS2 hme)
       have HUP := Lib.hid up2
       have HL40 : Hid (s.L.length < 40) := Lib.hid (by have := ok.1; omega)
       subst hve
       clear hw hS2 up2 hokE hpk hf hme hA
       go_enter Tryz.func28, Tryz.ntmps28
       go_wp2_with fail
       refine HMK.out.mono ?_
       rintro e w7 ⟨rfl, hl⟩
       have HO7 := Lib.hid (HUP.out _ _ hl)
       obtain ⟨S9, ⟨v9, hz9, hS9⟩, up9⟩ := HO7.out.at_ 0 rfl
       obtain ⟨A9, cap9, hv9, _, _, _⟩ := hz9.ls.shape
       rw [List.length_map] at hv9
       subst hv9
       have HZ9 := Lib.hid hz9
       have d2 : w7.cell? ⟨g, 2, none⟩ = some (.slice A9 s.L.length cap9) := hz9.bl.cell 2
       have l7 := hz9.bl.lt
       have HUP9 := Lib.hid up9
       have HS9 := Lib.hid hS9
       obtain ⟨es, hes⟩ : ∃ es, s.L.map letRow = es := ⟨_, rfl⟩
       have HES : Hid (es.length = s.L.length) := Lib.hid (by rw [← hes, List.length_map])
       have HEQ := Lib.hid hes
       have HLS : Hid (Lst w7 67 2 (.slice A9 s.L.length cap9) es) := Lib.hid (by rw [← hes]; exact hz9.ls)
       obtain ⟨pk, hpk⟩ : ∃ x : ByteArray, (⟨s.e1.packet.toArray⟩ : ByteArray) = x := ⟨_, rfl⟩
       have HPK := Lib.hid hpk
       rw [hpk]
       clear hl hz9 up9 hS9 hes hpk
       go_wp2_with (at_builtin; refine wpList_push rfl _ _ 59 rfl 67 2 24 Tryz.elRLet (.slice A9 s.L.length cap9) es rfl (HLS.out.alloc _) w7.heap.size 1 [.int .i64 0, .string pk] rfl rfl (letRow_one ⟨0, pk⟩).2 (BlockIs.fresh _ _ _) (by rw [HES.out]; have := HL40.out; omega) ?_; intro q8 c8 w8 hl8 ho8 hq8 hlt8; rw [HES.out] at hl8; rw [HES.out]; have hb8 := ho8.block' (HZ9.out.bl.alloc _) (HLS.out.apart HZ9.out.bl (by decide)); have x2 : w8.cell? ⟨g, 2, none⟩ = some (.slice A9 s.L.length cap9) := hb8.cell 2; have f8 := hb8.free; have l8 := hb8.lt)
       go_ret
       have hO : Out w7 w8 (g :: blocks (.slice A9 s.L.length cap9)) := ((Out.refl w7 _).alloc _).trans (ho8.mono (fun k hk => Or.inl (List.mem_cons_of_mem _ hk)))
       have hQ : q8 ∈ blocks (.slice A9 s.L.length cap9) ∨ w7.heap.size ≤ q8 := by
        rcases hq8 with h9 | h9
        · exact Or.inl h9
        · right; rw [h9]; simp
       have ht := tpush (w := w7) ⟨0, pk⟩ hb8 (by rw [HEQ.out]; exact hl8) hO hQ HL40.out
       refine ⟨rfl, rtT_close (g0 := g0) (g1 := g1) HOK2.out ?_⟩
       have hu := HUP9.out _ _ (by rw [HS9.out]; exact rlinkT_left ht)
       rw [HPK.out]
       exact hu
theorem giveL_ok {s : TkS} (ok : TkOk s) (i : Int) : (giveL s.L i).length ≤ 40 ∧ ∀ l ∈ giveL s.L i, whoB l.too = true ∧ l.b.size ≤ 200 := by
 unfold giveL
 split
 · refine ⟨?_, fun l hl => ok.2 l ?_⟩
   · have := ok.1
     rw [List.length_append, List.length_take, List.length_drop]; omega
   · rcases List.mem_append.1 hl with h | h
     · exact List.mem_of_mem_take h
     · exact List.mem_of_mem_drop h
 · exact ok
theorem giveD_ok {s : TkS} (ok : TkOk s) {i : Int} (h : isB s.L i = true) : whoB (giveD s.L i).too = true ∧ (giveD s.L i).b.size ≤ 200 := by
 have hb := isB_iff.1 h
 have hi : i.toNat < s.L.length := by omega
 have e : giveD s.L i = s.L[i.toNat] := by unfold giveD; rw [if_pos h]; simp [List.getD, List.getElem?_eq_getElem hi]
 rw [e]
 exact ok.2 _ (List.getElem_mem hi)
theorem rcome (g : Nat) (s : TkS) (i : Int) (w : World) (S : List Nat) (h : (rtT g s).is w S) (hm0 : s.e0.made.length ≤ 1000) (hm1 : s.e1.made.length ≤ 1000) :
  Calls Tryz.prog 30 #[.pointer (some ⟨g, 0, none⟩), .int .i64 i] w fun e w' => e = .returned (.int .i64 (s.comeE i)) ∧ Leaves w w' S (rtT g (s.come i)) := by
 have H := Lib.hid h
 obtain ⟨g0, g1, ok, ho⟩ := rtT_open h
 have HO := Lib.hid ho
 obtain ⟨S1, ⟨v, hz, hS1⟩, up⟩ := ho.at_ 0 rfl
 have HTO := Lib.hid (tout g _ _ v s.L i w hz)
 have HUP : Hid (∀ w' t', Leaves w w' (g :: blocks v) t' → Own w S w' ((rtParts g s g0 g1).set 0 t')) := Lib.hid (by rw [← hS1]; exact up)
 have lg := hz.bl.lt
 have HOK2 := Lib.hid (giveL_ok ok i)
 clear h ho hz up hS1
 by_cases hb : isB s.L i = true
 case neg =>
  have hE : Hid (s.comeE i = 1 ∧ s.come i = s ∧ giveE s.L i = 1 ∧ giveL s.L i = s.L ∧ giveD s.L i = noLet) := Lib.hid ⟨by unfold TkS.comeE; rw [if_neg hb], by unfold TkS.come; rw [if_neg hb], by unfold giveE; rw [if_neg hb], by unfold giveL; rw [if_neg hb], by unfold giveD; rw [if_neg hb]⟩
  rw [hE.out.2.2.1, hE.out.2.2.2.1, hE.out.2.2.2.2] at HTO
  rw [hE.out.1, hE.out.2.1]
  unfold noLet letV at HTO
  go_enter Tryz.func30, Tryz.ntmps30
  go_wp2_with fail
  refine HTO.out.mono ?_
  rintro e w5 ⟨rfl, hl⟩
  have HO5 := Lib.hid ((HUP.out _ _ (rlinkT_left hl)).later ((Since.refl w5).alloc (.cells #[.int .i64 0, .string ⟨#[]⟩] 67)))
  clear hl
  go_wp2_with fail
  go_ret
  exact ⟨rfl, rtT_close (g0 := g0) (g1 := g1) ok HO5.out⟩
 have HDO := giveD_ok ok hb
 have HGE : Hid (giveE s.L i = 0) := Lib.hid (by unfold giveE; rw [if_pos hb])
 rw [HGE.out] at HTO
 unfold letV at HTO
 obtain ⟨d, hd⟩ : ∃ d, giveD s.L i = d := ⟨_, rfl⟩
 rw [hd] at HTO HDO
 have HD := Lib.hid hd
 obtain ⟨hw, hdb⟩ := HDO
 have HDB := Lib.hid hdb
 clear hd hdb
 rcases whoB_iff.1 hw with h0 | h0
 · have hE : Hid (s.comeE i = s.e0.takeE d.b.data.toList ∧ s.come i = { s with e0 := s.e0.take d.b.data.toList, L := giveL s.L i }) := Lib.hid (by
    refine ⟨?_, ?_⟩
    · unfold TkS.comeE
      rw [if_pos hb, HD.out, h0]; rfl
    · unfold TkS.come
      rw [if_pos hb, HD.out, h0]; rfl)
   rw [hE.out.1, hE.out.2]
   have HOK3 : Hid (TkOk { s with e0 := s.e0.take d.b.data.toList, L := giveL s.L i }) := Lib.hid HOK2.out
   obtain ⟨dt, db⟩ := d
   dsimp only at h0
   subst h0
   have hsz : db.size ≤ 9223372036854775000 := by have := HDB.out; dsimp only at this; omega
   clear hw hb
   go_enter Tryz.func30, Tryz.ntmps30
   go_wp2_with fail
   refine HTO.out.mono ?_
   rintro e w5 ⟨rfl, hl⟩
   have HO5 := Lib.hid (HUP.out _ _ (rlinkT_left hl))
   obtain ⟨S9, ⟨v9, hz9, -⟩, -⟩ := HO5.out.at_ 0 rfl
   have d0 : w5.cell? ⟨g, 0, none⟩ = some (.pointer (some ⟨g0, 0, none⟩)) := hz9.bl.cell 0
   have l5 := hz9.bl.lt
   obtain ⟨S2, hS2, up2⟩ := (HO5.out.later ((Since.refl w5).alloc (.cells #[.int .i64 0, .string db] 67)).drew).at_ 1 rfl
   have HNT := Lib.hid (NTk.ntake g0 s.e0 db _ S2 hS2 hm0 hsz)
   have HUP2 := Lib.hid up2
   clear hl hz9 hS2 up2
   go_wp2_with fail
   have p0 : (w5.alloc (.cells #[.int .i64 0, .string db] 67)).cell? ⟨w5.heap.size, 0, none⟩ = some (.int .i64 0) := (BlockIs.fresh w5 _ _).cell 0
   have p1 : (w5.alloc (.cells #[.int .i64 0, .string db] 67)).cell? ⟨w5.heap.size, 1, none⟩ = some (.string db) := (BlockIs.fresh w5 _ _).cell 1
   have d6 : (w5.alloc (.cells #[.int .i64 0, .string db] 67)).cell? ⟨g, 0, none⟩ = some (.pointer (some ⟨g0, 0, none⟩)) := (show Since w5 _ from (Since.refl w5).alloc _).cell l5 d0
   have l6 : g < (w5.alloc (.cells #[.int .i64 0, .string db] 67)).heap.size := Nat.lt_of_lt_of_le l5 (show Since w5 _ from (Since.refl w5).alloc _).size
   obtain ⟨w6, hw6⟩ : ∃ x, w5.alloc (.cells #[.int .i64 0, .string db] 67) = x := ⟨_, rfl⟩
   obtain ⟨gx, hgx⟩ : ∃ x, w5.heap.size = x := ⟨_, rfl⟩
   rw [hw6, hgx] at p0 p1
   rw [hw6] at d6 l6 HNT HUP2
   rw [hw6, hgx]
   clear hw6 hgx d0 l5
   go_still_tail 9, (by kernel_rfl)
   change wpList _ _ _ _ _ w6.drew
   go_wp2_with fail
   refine HNT.out.mono ?_
   rintro e w7 ⟨rfl, hl7⟩
   go_wp2_with fail
   go_ret
   exact ⟨rfl, rtT_close (g0 := g0) (g1 := g1) HOK3.out (HUP2.out _ _ hl7)⟩
 · have hE : Hid (s.comeE i = s.e1.takeE d.b.data.toList ∧ s.come i = { s with e1 := s.e1.take d.b.data.toList, L := giveL s.L i }) := Lib.hid (by
    refine ⟨?_, ?_⟩
    · unfold TkS.comeE
      rw [if_pos hb, HD.out, h0]; rfl
    · unfold TkS.come
      rw [if_pos hb, HD.out, h0]; rfl)
   rw [hE.out.1, hE.out.2]
   have HOK3 : Hid (TkOk { s with e1 := s.e1.take d.b.data.toList, L := giveL s.L i }) := Lib.hid HOK2.out
   obtain ⟨dt, db⟩ := d
   dsimp only at h0
   subst h0
   have hsz : db.size ≤ 9223372036854775000 := by have := HDB.out; dsimp only at this; omega
   clear hw hb
   go_enter Tryz.func30, Tryz.ntmps30
   go_wp2_with fail
   refine HTO.out.mono ?_
   rintro e w5 ⟨rfl, hl⟩
   have HO5 := Lib.hid (HUP.out _ _ (rlinkT_left hl))
   obtain ⟨S9, ⟨v9, hz9, -⟩, -⟩ := HO5.out.at_ 0 rfl
   have d1 : w5.cell? ⟨g, 1, none⟩ = some (.pointer (some ⟨g1, 0, none⟩)) := hz9.bl.cell 1
   have l5 := hz9.bl.lt
   obtain ⟨S2, hS2, up2⟩ := (HO5.out.later ((Since.refl w5).alloc (.cells #[.int .i64 1, .string db] 67)).drew).at_ 2 rfl
   have HNT := Lib.hid (NTk.ntake g1 s.e1 db _ S2 hS2 hm1 hsz)
   have HUP2 := Lib.hid up2
   clear hl hz9 hS2 up2
   go_wp2_with fail
   have p0 : (w5.alloc (.cells #[.int .i64 1, .string db] 67)).cell? ⟨w5.heap.size, 0, none⟩ = some (.int .i64 1) := (BlockIs.fresh w5 _ _).cell 0
   have p1 : (w5.alloc (.cells #[.int .i64 1, .string db] 67)).cell? ⟨w5.heap.size, 1, none⟩ = some (.string db) := (BlockIs.fresh w5 _ _).cell 1
   have d6 : (w5.alloc (.cells #[.int .i64 1, .string db] 67)).cell? ⟨g, 1, none⟩ = some (.pointer (some ⟨g1, 0, none⟩)) := (show Since w5 _ from (Since.refl w5).alloc _).cell l5 d1
   have l6 : g < (w5.alloc (.cells #[.int .i64 1, .string db] 67)).heap.size := Nat.lt_of_lt_of_le l5 (show Since w5 _ from (Since.refl w5).alloc _).size
   obtain ⟨w6, hw6⟩ : ∃ x, w5.alloc (.cells #[.int .i64 1, .string db] 67) = x := ⟨_, rfl⟩
   obtain ⟨gx, hgx⟩ : ∃ x, w5.heap.size = x := ⟨_, rfl⟩
   rw [hw6, hgx] at p0 p1
   rw [hw6] at d6 l6 HNT HUP2
   rw [hw6, hgx]
   clear hw6 hgx d1 l5
   go_still_tail 9, (by kernel_rfl)
   change wpList _ _ _ _ _ w6.drew
   go_wp2_with fail
   refine HNT.out.mono ?_
   rintro e w7 ⟨rfl, hl7⟩
   go_wp2_with fail
   go_ret
   exact ⟨rfl, rtT_close (g0 := g0) (g1 := g1) HOK3.out (HUP2.out _ _ hl7)⟩
theorem rlose (g : Nat) (s : TkS) (i : Int) (w : World) (S : List Nat) (h : (rtT g s).is w S) :
  Calls Tryz.prog 31 #[.pointer (some ⟨g, 0, none⟩), .int .i64 i] w fun e w' => e = .returned (.tuple #[letV (giveD s.L i), .int .i64 (giveE s.L i)]) ∧ Leaves w w' S (rtT g { s with L := giveL s.L i }) := by
 obtain ⟨g0, g1, ok, ho⟩ := rtT_open h
 obtain ⟨S1, ⟨v, hz, rfl⟩, up⟩ := ho.at_ 0 rfl
 refine (tout g _ _ v s.L i w hz).mono ?_
 rintro e w' ⟨rfl, hl⟩
 exact ⟨rfl, rtT_close (g0 := g0) (g1 := g1) (giveL_ok ok i) (up _ _ (rlinkT_left hl))⟩
theorem rtnew (n : Int) (h1 : 1 ≤ n) (h2 : n ≤ 1000) (w : World) :
  Calls Tryz.prog 24 #[.int .i64 n] w fun e w' => ∃ g, e = .returned (.pointer (some ⟨g, 0, none⟩)) ∧ Leaves w w' [] (rtT g (TkS.new n)) := by
 have HN := Lib.hid (fun W => nnew n h1 h2 W)
 have O1 := Lib.hid ((Own.start w).alloc 61 #[.pointer none, .pointer none, .slice none 0 0])
 go_enter Tryz.func24, Tryz.ntmps24
 go_upto_region 2 with fail
 obtain ⟨w1, hw1⟩ : ∃ x, w.alloc (.cells #[.pointer none, .pointer none, .slice none 0 0] 61) = x := ⟨_, rfl⟩
 obtain ⟨g, hg⟩ : ∃ x, w.heap.size = x := ⟨_, rfl⟩
 rw [hw1, hg] at O1
 rw [hw1, hg]
 clear hw1 hg
 go_region_law (go_simp; go_at_call 10; refine (HN.out _).mono ?_; rintro e w2 ⟨ga, rfl, hl2⟩; have O2 := Lib.hid (O1.out.drew.made hl2); have b2 := O2.out.blk 0 rfl; have c20 := b2.cell 0; have f2 := b2.free; have l2 := b2.lt; clear b2 hl2)
 all_goals
  have O3 := Lib.hid (O2.out.put 0 rfl 0 (.pointer (some ⟨ga, 0, none⟩)))
  clear c20 f2 l2 O2
  go_upto_region 3 with fail
  obtain ⟨w3, hw3⟩ : ∃ x, w2.setCell ⟨g, 0, none⟩ (.pointer (some ⟨ga, 0, none⟩)) = x := ⟨_, rfl⟩
  rw [hw3] at O3
  rw [hw3]
  clear hw3
  go_region_law (go_simp; go_at_call 10; refine (HN.out _).mono ?_; rintro e w4 ⟨gb, rfl, hl4⟩; have O4 := Lib.hid (O3.out.drew.made hl4); have b4 := O4.out.blk 0 rfl; have c41 := b4.cell 1; have f4 := b4.free; have l4 := b4.lt; clear b4 hl4)
  all_goals
   have O5 := Lib.hid (O4.out.put 0 rfl 1 (.pointer (some ⟨gb, 0, none⟩)))
   clear c41 f4 l4 O4
   go_wp2_with fail
   go_ret
   have o6 := O5.out.alike 0 (t' := rlinkT g (.pointer (some ⟨ga, 0, none⟩)) (.pointer (some ⟨gb, 0, none⟩)) []) rfl (fun S hS => ⟨.slice none 0 0, ⟨hS.1, Lst.nil _ _ _, by simp⟩, hS.2⟩)
   exact ⟨g, rfl, rtT_close (g0 := ga) (g1 := gb) ⟨by simp [TkS.new], by simp [TkS.new]⟩ o6⟩
theorem rt_end0 {w : World} {S : List Nat} {g : Nat} {s : TkS} (h : (rtT g s).is w S) : ∃ ge, w.cell? ⟨g, 0, none⟩ = some (.pointer (some ⟨ge, 0, none⟩)) ∧ g < w.heap.size ∧ ∃ S0, (rnT ge s.e0).is w S0 ∧ ∀ (w' : World) (x : EnS), Leaves w w' S0 (rnT ge x) → Leaves w w' S (rtT g { s with e0 := x }) := by
 obtain ⟨g0, g1, ok, ho⟩ := rtT_open h
 obtain ⟨S1, ⟨v, hz, -⟩, -⟩ := ho.at_ 0 rfl
 obtain ⟨S2, hS2, up2⟩ := ho.at_ 1 rfl
 exact ⟨g0, hz.bl.cell 0, hz.bl.lt, S2, hS2, fun w' x hl => rtT_close (g0 := g0) (g1 := g1) ok (up2 _ _ hl)⟩
theorem rt_end1 {w : World} {S : List Nat} {g : Nat} {s : TkS} (h : (rtT g s).is w S) : ∃ ge, w.cell? ⟨g, 1, none⟩ = some (.pointer (some ⟨ge, 0, none⟩)) ∧ g < w.heap.size ∧ ∃ S0, (rnT ge s.e1).is w S0 ∧ ∀ (w' : World) (x : EnS), Leaves w w' S0 (rnT ge x) → Leaves w w' S (rtT g { s with e1 := x }) := by
 obtain ⟨g0, g1, ok, ho⟩ := rtT_open h
 obtain ⟨S1, ⟨v, hz, -⟩, -⟩ := ho.at_ 0 rfl
 obtain ⟨S2, hS2, up2⟩ := ho.at_ 2 rfl
 exact ⟨g1, hz.bl.cell 1, hz.bl.lt, S2, hS2, fun w' x hl => rtT_close (g0 := g0) (g1 := g1) ok (up2 _ _ hl)⟩
end Go.Proofs.YtmfbaijbigodkaaGreatDoor
namespace Go.Proofs
open Go.Shelf
def Tryz.lays156_ren : Go.Shelf.Ren := ⟨fun | 156 => 183 | 165 => 196 | 166 => 76 | 169 => 79 | 240 => 113 | 241 => 208 | 276 => 140 | 277 => 217 | n => n, fun | 31 => 24 | 9 => 9 | 3 => 3 | 4 => 4 | 0 => 0 | 20 => 20 | 72 => 133 | 76 => 89 | 70 => 130 | 37 => 131 | 75 => 27 | 127 => 177 | 164 => 178 | 5 => 5 | 80 => 40 | n => n, fun | n => n⟩
theorem Tryz.lays156 : Go.Proofs.Lays.n156 Tryz.prog Tryz.lays156_ren := {
 mixed := by kernel_rfl
 f156 := Tryz.func183.trans (congrArg some (by kernel_rfl))
 f165 := Tryz.func196.trans (congrArg some (by kernel_rfl))
 f166 := Tryz.func76.trans (congrArg some (by kernel_rfl))
 f169 := Tryz.func79.trans (congrArg some (by kernel_rfl))
 f240 := Tryz.func113.trans (congrArg some (by kernel_rfl))
 f241 := Tryz.func208.trans (congrArg some (by kernel_rfl))
 f276 := Tryz.func140.trans (congrArg some (by kernel_rfl))
 f277 := Tryz.func217.trans (congrArg some (by kernel_rfl))
 t0 := Tryz.underlying0
 a0 := Tryz.isAgg0
 z0 := Tryz.sizeOf0
 v0 := Tryz.zeroValue0
 t3 := Tryz.underlying3
 a3 := Tryz.isAgg3
 z3 := Tryz.sizeOf3
 v3 := Tryz.zeroValue3
 t4 := Tryz.underlying4
 a4 := Tryz.isAgg4
 z4 := Tryz.sizeOf4
 v4 := Tryz.zeroValue4
 t9 := Tryz.underlying9
 a9 := Tryz.isAgg9
 z9 := Tryz.sizeOf9
 v9 := Tryz.zeroValue9
 t20 := Tryz.underlying20
 a20 := Tryz.isAgg20
 z20 := Tryz.sizeOf20
 v20 := Tryz.zeroValue20
 t31 := Tryz.underlying24
 a31 := Tryz.isAgg24
 z31 := Tryz.sizeOf24
 v31 := Tryz.zeroValue24
 t37 := Tryz.underlying131
 a37 := Tryz.isAgg131
 z37 := Tryz.sizeOf131
 v37 := Tryz.zeroValue131
 t70 := Tryz.underlying130
 a70 := Tryz.isAgg130
 z70 := Tryz.sizeOf130
 v70 := Tryz.zeroValue130
 t72 := Tryz.underlying133
 a72 := Tryz.isAgg133
 z72 := Tryz.sizeOf133
 v72 := Tryz.zeroValue133
 t75 := Tryz.underlying27
 a75 := Tryz.isAgg27
 z75 := Tryz.sizeOf27
 v75 := Tryz.zeroValue27
 t76 := Tryz.underlying89
 a76 := Tryz.isAgg89
 z76 := Tryz.sizeOf89
 v76 := Tryz.zeroValue89
 t127 := Tryz.underlying177
 a127 := Tryz.isAgg177
 z127 := Tryz.sizeOf177
 v127 := Tryz.zeroValue177
 t164 := Tryz.underlying178
 a164 := Tryz.isAgg178
 z164 := Tryz.sizeOf178
 v164 := Tryz.zeroValue178 }
theorem Tryz.Builder_Extra_156 : Builder.Extra Tryz.prog Tryz.lays156_ren := {
 sizeBuilder := by kernel_rfl
 liesBuilder := by kernel_rfl
 t5 := Tryz.underlying5
 a5 := Tryz.isAgg5
 z5 := Tryz.sizeOf5
 v5 := Tryz.zeroValue5
 infoByte := by kernel_rfl
 cellsByte := by kernel_rfl
 sizeByte := by kernel_rfl
 neB5 := by decide }
open Go.RowKit in
theorem Tryz.strings_Join (bk o c : Nat) (xs : List ByteArray) (sep : ByteArray) (w : World) (hcells : ∀ (j : Nat) x, xs[j]? = some x → w.cell? ⟨bk, o + j, none⟩ = some (.string x)) (hbk : bk < w.heap.size) (hN : xs.length ≤ 140737488355328) (hcap : xs.length ≤ c) (hlen : (Lib.join (xs.map (·.data.toList)) sep.data.toList).length ≤ 140737488355328) :
 Calls Tryz.prog 183 #[.slice (some ⟨bk, o, none⟩) xs.length c, .string sep] w fun e w' => e = .returned (.string ⟨(Lib.join (xs.map (·.data.toList)) sep.data.toList).toArray⟩) ∧ Below w.heap.size w w' := Any.strings_Join Tryz.lays156 Tryz.Builder_Extra_156 bk o c xs sep w hcells hbk hN hcap hlen
def Tryz.lays137_ren : Go.Shelf.Ren := ⟨fun | 137 => 112 | 217 => 139 | 266 => 158 | n => n, fun | 9 => 9 | 5 => 5 | 3 => 3 | n => n, fun | n => n⟩
theorem Tryz.lays137 : Go.Proofs.Lays.n137 Tryz.prog Tryz.lays137_ren := {
 mixed := by kernel_rfl
 f137 := Tryz.func112.trans (congrArg some (by kernel_rfl))
 f217 := Tryz.func139.trans (congrArg some (by kernel_rfl))
 f266 := Tryz.func158.trans (congrArg some (by kernel_rfl))
 t3 := Tryz.underlying3
 a3 := Tryz.isAgg3
 z3 := Tryz.sizeOf3
 v3 := Tryz.zeroValue3
 t5 := Tryz.underlying5
 a5 := Tryz.isAgg5
 z5 := Tryz.sizeOf5
 v5 := Tryz.zeroValue5
 t9 := Tryz.underlying9
 a9 := Tryz.isAgg9
 z9 := Tryz.sizeOf9
 v9 := Tryz.zeroValue9 }
open Go.RowKit in
theorem Tryz.strings_IndexByte (s : ByteArray) (c : Int) (w : World) :
 Calls Tryz.prog 112 #[.string s, .int .u8 c] w fun e w' => e = .returned (.int .i64 (Lib.indexByte s.data.toList c.toNat.toUInt8)) ∧ w' = w := Any.strings_IndexByte Tryz.lays137 s c w
def Tryz.laysM171_ren : Go.Shelf.Ren := ⟨fun | 171 => 165 | 243 => 184 | 246 => 197 | 283 => 209 | 284 => 210 | 285 => 211 | 286 => 212 | 129 => 178 | 317 => 218 | 318 => 219 | 319 => 220 | 320 => 221 | 337 => 224 | 338 => 225 | n => n, fun | 3 => 3 | 9 => 9 | 2 => 2 | 4 => 4 | 171 => 282 | 0 => 0 | 53 => 258 | 37 => 131 | 5 => 5 | 173 => 284 | 212 => 298 | 51 => 256 | 20 => 20 | 213 => 299 | 46 => 193 | 232 => 304 | 233 => 305 | n => n, fun | 17 => 9 | 18 => 10 | 19 => 11 | n => n⟩
theorem Tryz.laysM171 : Go.Proofs.LaysM.n171 Tryz.prog Tryz.laysM171_ren := {
 mixed := by kernel_rfl
 f129 := Tryz.func178.trans (congrArg some (by kernel_rfl))
 f171 := Tryz.func165.trans (congrArg some (by kernel_rfl))
 f243 := Tryz.func184.trans (congrArg some (by kernel_rfl))
 f246 := Tryz.func197.trans (congrArg some (by kernel_rfl))
 f283 := Tryz.func209.trans (congrArg some (by kernel_rfl))
 f284 := Tryz.func210.trans (congrArg some (by kernel_rfl))
 f285 := Tryz.func211.trans (congrArg some (by kernel_rfl))
 f286 := Tryz.func212.trans (congrArg some (by kernel_rfl))
 f317 := Tryz.func218.trans (congrArg some (by kernel_rfl))
 f318 := Tryz.func219.trans (congrArg some (by kernel_rfl))
 f319 := Tryz.func220.trans (congrArg some (by kernel_rfl))
 f320 := Tryz.func221.trans (congrArg some (by kernel_rfl))
 f337 := Tryz.func224.trans (congrArg some (by kernel_rfl))
 f338 := Tryz.func225.trans (congrArg some (by kernel_rfl))
 t0 := Tryz.underlying0
 a0 := Tryz.isAgg0
 z0 := Tryz.sizeOf0
 v0 := Tryz.zeroValue0
 t2 := Tryz.underlying2
 a2 := Tryz.isAgg2
 z2 := Tryz.sizeOf2
 v2 := Tryz.zeroValue2
 t3 := Tryz.underlying3
 a3 := Tryz.isAgg3
 z3 := Tryz.sizeOf3
 v3 := Tryz.zeroValue3
 t4 := Tryz.underlying4
 a4 := Tryz.isAgg4
 z4 := Tryz.sizeOf4
 v4 := Tryz.zeroValue4
 t5 := Tryz.underlying5
 a5 := Tryz.isAgg5
 z5 := Tryz.sizeOf5
 v5 := Tryz.zeroValue5
 t9 := Tryz.underlying9
 a9 := Tryz.isAgg9
 z9 := Tryz.sizeOf9
 v9 := Tryz.zeroValue9
 t20 := Tryz.underlying20
 a20 := Tryz.isAgg20
 z20 := Tryz.sizeOf20
 v20 := Tryz.zeroValue20
 t37 := Tryz.underlying131
 a37 := Tryz.isAgg131
 z37 := Tryz.sizeOf131
 v37 := Tryz.zeroValue131
 t46 := Tryz.underlying193
 a46 := Tryz.isAgg193
 z46 := Tryz.sizeOf193
 v46 := Tryz.zeroValue193
 t51 := Tryz.underlying256
 a51 := Tryz.isAgg256
 z51 := Tryz.sizeOf256
 v51 := Tryz.zeroValue256
 t53 := Tryz.underlying258
 a53 := Tryz.isAgg258
 z53 := Tryz.sizeOf258
 v53 := Tryz.zeroValue258
 t171 := Tryz.underlying282
 a171 := Tryz.isAgg282
 z171 := Tryz.sizeOf282
 v171 := Tryz.zeroValue282
 t173 := Tryz.underlying284
 a173 := Tryz.isAgg284
 z173 := Tryz.sizeOf284
 v173 := Tryz.zeroValue284
 t212 := Tryz.underlying298
 a212 := Tryz.isAgg298
 z212 := Tryz.sizeOf298
 v212 := Tryz.zeroValue298
 t213 := Tryz.underlying299
 a213 := Tryz.isAgg299
 z213 := Tryz.sizeOf299
 t232 := Tryz.underlying304
 a232 := Tryz.isAgg304
 z232 := Tryz.sizeOf304
 v232 := Tryz.zeroValue304
 t233 := Tryz.underlying305
 a233 := Tryz.isAgg305
 z233 := Tryz.sizeOf305
 v233 := Tryz.zeroValue305
 g17 := by kernel_rfl
 g18 := by kernel_rfl
 g19 := by kernel_rfl
 i0 := by kernel_rfl
 i2 := by kernel_rfl
 i3 := by kernel_rfl
 i4 := by kernel_rfl
 i5 := by kernel_rfl
 i9 := by kernel_rfl
 i20 := by kernel_rfl
 i37 := by kernel_rfl
 i46 := by kernel_rfl
 i51 := by kernel_rfl
 i53 := by kernel_rfl
 i171 := by kernel_rfl
 i173 := by kernel_rfl
 i212 := by kernel_rfl
 i232 := by kernel_rfl
 i233 := by kernel_rfl
 m17 := by kernel_rfl
 m18 := by kernel_rfl
 m19 := by kernel_rfl }
open Go.RowKit Go.Sort Go.Lib in
theorem Tryz.strconv_Itoa (n : Int) (h0 : -9223372036854775808 ≤ n) (h1 : n ≤ 9223372036854775807) (w : World) (htab : Lib.TabIs Tryz.prog w "internal/strconv.uint64pow10" .u64 Lib.pow10Tab) :
 Calls Tryz.prog 165 #[.int .i64 n] w fun e w' => e = .returned (.string ⟨(Lib.itoa n).toArray⟩) ∧ ∃ k os, w' = grow (w.drewN k) os := Any.strconv_Itoa Tryz.laysM171 n h0 h1 w htab
def Tryz.laysC172_ren : Go.Shelf.Ren := ⟨fun | 172 => 182 | 244 => 194 | 245 => 195 | 247 => 203 | 279 => 204 | 280 => 205 | 281 => 206 | 282 => 207 | 287 => 214 | 316 => 215 | 171 => 165 | 205 => 216 | 321 => 222 | 322 => 223 | 243 => 184 | 246 => 197 | 283 => 209 | 284 => 210 | 285 => 211 | 286 => 212 | 129 => 178 | 317 => 218 | 318 => 219 | 319 => 220 | 320 => 221 | 337 => 224 | 338 => 225 | n => n, fun | 9 => 9 | 3 => 3 | 75 => 27 | 76 => 89 | 4 => 4 | 5 => 5 | 167 => 276 | 37 => 131 | 0 => 0 | 85 => 277 | 2 => 2 | 168 => 279 | 53 => 258 | 175 => 292 | 46 => 193 | 210 => 295 | 127 => 177 | 145 => 303 | 143 => 301 | 21 => 21 | 171 => 282 | 173 => 284 | 212 => 298 | 51 => 256 | 20 => 20 | 213 => 299 | 232 => 304 | 233 => 305 | 80 => 40 | n => n, fun | 15 => 7 | 16 => 8 | 17 => 9 | 18 => 10 | 19 => 11 | n => n⟩
theorem Tryz.laysC172 : Go.Proofs.LaysC.n172 Tryz.prog Tryz.laysC172_ren := {
 mixed := by kernel_rfl
 f129 := Tryz.func178.trans (congrArg some (by kernel_rfl))
 f171 := Tryz.func165.trans (congrArg some (by kernel_rfl))
 f172 := Tryz.func182.trans (congrArg some (by kernel_rfl))
 f205 := Tryz.func216.trans (congrArg some (by kernel_rfl))
 f243 := Tryz.func184.trans (congrArg some (by kernel_rfl))
 f244 := Tryz.func194.trans (congrArg some (by kernel_rfl))
 f245 := Tryz.func195.trans (congrArg some (by kernel_rfl))
 f246 := Tryz.func197.trans (congrArg some (by kernel_rfl))
 f247 := Tryz.func203.trans (congrArg some (by kernel_rfl))
 f279 := Tryz.func204.trans (congrArg some (by kernel_rfl))
 f280 := Tryz.func205.trans (congrArg some (by kernel_rfl))
 f281 := Tryz.func206.trans (congrArg some (by kernel_rfl))
 f282 := Tryz.func207.trans (congrArg some (by kernel_rfl))
 f283 := Tryz.func209.trans (congrArg some (by kernel_rfl))
 f284 := Tryz.func210.trans (congrArg some (by kernel_rfl))
 f285 := Tryz.func211.trans (congrArg some (by kernel_rfl))
 f286 := Tryz.func212.trans (congrArg some (by kernel_rfl))
 f287 := Tryz.func214.trans (congrArg some (by kernel_rfl))
 f316 := Tryz.func215.trans (congrArg some (by kernel_rfl))
 f317 := Tryz.func218.trans (congrArg some (by kernel_rfl))
 f318 := Tryz.func219.trans (congrArg some (by kernel_rfl))
 f319 := Tryz.func220.trans (congrArg some (by kernel_rfl))
 f320 := Tryz.func221.trans (congrArg some (by kernel_rfl))
 f321 := Tryz.func222.trans (congrArg some (by kernel_rfl))
 f322 := Tryz.func223.trans (congrArg some (by kernel_rfl))
 f337 := Tryz.func224.trans (congrArg some (by kernel_rfl))
 f338 := Tryz.func225.trans (congrArg some (by kernel_rfl))
 t0 := Tryz.underlying0
 a0 := Tryz.isAgg0
 z0 := Tryz.sizeOf0
 v0 := Tryz.zeroValue0
 t2 := Tryz.underlying2
 a2 := Tryz.isAgg2
 z2 := Tryz.sizeOf2
 v2 := Tryz.zeroValue2
 t3 := Tryz.underlying3
 a3 := Tryz.isAgg3
 z3 := Tryz.sizeOf3
 v3 := Tryz.zeroValue3
 t4 := Tryz.underlying4
 a4 := Tryz.isAgg4
 z4 := Tryz.sizeOf4
 v4 := Tryz.zeroValue4
 t5 := Tryz.underlying5
 a5 := Tryz.isAgg5
 z5 := Tryz.sizeOf5
 v5 := Tryz.zeroValue5
 t9 := Tryz.underlying9
 a9 := Tryz.isAgg9
 z9 := Tryz.sizeOf9
 v9 := Tryz.zeroValue9
 t20 := Tryz.underlying20
 a20 := Tryz.isAgg20
 z20 := Tryz.sizeOf20
 v20 := Tryz.zeroValue20
 t21 := Tryz.underlying21
 a21 := Tryz.isAgg21
 z21 := Tryz.sizeOf21
 v21 := Tryz.zeroValue21
 t37 := Tryz.underlying131
 a37 := Tryz.isAgg131
 z37 := Tryz.sizeOf131
 v37 := Tryz.zeroValue131
 t46 := Tryz.underlying193
 a46 := Tryz.isAgg193
 z46 := Tryz.sizeOf193
 v46 := Tryz.zeroValue193
 t51 := Tryz.underlying256
 a51 := Tryz.isAgg256
 z51 := Tryz.sizeOf256
 v51 := Tryz.zeroValue256
 t53 := Tryz.underlying258
 a53 := Tryz.isAgg258
 z53 := Tryz.sizeOf258
 v53 := Tryz.zeroValue258
 t75 := Tryz.underlying27
 a75 := Tryz.isAgg27
 z75 := Tryz.sizeOf27
 v75 := Tryz.zeroValue27
 t76 := Tryz.underlying89
 a76 := Tryz.isAgg89
 z76 := Tryz.sizeOf89
 v76 := Tryz.zeroValue89
 t85 := Tryz.underlying277
 a85 := Tryz.isAgg277
 z85 := Tryz.sizeOf277
 v85 := Tryz.zeroValue277
 t127 := Tryz.underlying177
 a127 := Tryz.isAgg177
 z127 := Tryz.sizeOf177
 v127 := Tryz.zeroValue177
 t143 := Tryz.underlying301
 a143 := Tryz.isAgg301
 z143 := Tryz.sizeOf301
 v143 := Tryz.zeroValue301
 t145 := Tryz.underlying303
 a145 := Tryz.isAgg303
 z145 := Tryz.sizeOf303
 v145 := Tryz.zeroValue303
 t167 := Tryz.underlying276
 a167 := Tryz.isAgg276
 z167 := Tryz.sizeOf276
 v167 := Tryz.zeroValue276
 t168 := Tryz.underlying279
 a168 := Tryz.isAgg279
 z168 := Tryz.sizeOf279
 v168 := Tryz.zeroValue279
 t171 := Tryz.underlying282
 a171 := Tryz.isAgg282
 z171 := Tryz.sizeOf282
 v171 := Tryz.zeroValue282
 t173 := Tryz.underlying284
 a173 := Tryz.isAgg284
 z173 := Tryz.sizeOf284
 v173 := Tryz.zeroValue284
 t175 := Tryz.underlying292
 a175 := Tryz.isAgg292
 z175 := Tryz.sizeOf292
 v175 := Tryz.zeroValue292
 t210 := Tryz.underlying295
 a210 := Tryz.isAgg295
 z210 := Tryz.sizeOf295
 v210 := Tryz.zeroValue295
 t212 := Tryz.underlying298
 a212 := Tryz.isAgg298
 z212 := Tryz.sizeOf298
 v212 := Tryz.zeroValue298
 t213 := Tryz.underlying299
 a213 := Tryz.isAgg299
 z213 := Tryz.sizeOf299
 t232 := Tryz.underlying304
 a232 := Tryz.isAgg304
 z232 := Tryz.sizeOf304
 v232 := Tryz.zeroValue304
 t233 := Tryz.underlying305
 a233 := Tryz.isAgg305
 z233 := Tryz.sizeOf305
 v233 := Tryz.zeroValue305
 g15 := by kernel_rfl
 g16 := by kernel_rfl
 g17 := by kernel_rfl
 g18 := by kernel_rfl
 g19 := by kernel_rfl
 t80 := Tryz.underlying40
 a80 := Tryz.isAgg40
 z80 := Tryz.sizeOf40
 v80 := Tryz.zeroValue40
 i0 := by kernel_rfl
 i2 := by kernel_rfl
 i3 := by kernel_rfl
 i4 := by kernel_rfl
 i5 := by kernel_rfl
 i9 := by kernel_rfl
 i20 := by kernel_rfl
 i21 := by kernel_rfl
 i37 := by kernel_rfl
 i46 := by kernel_rfl
 i51 := by kernel_rfl
 i53 := by kernel_rfl
 i75 := by kernel_rfl
 i76 := by kernel_rfl
 i80 := by kernel_rfl
 i85 := by kernel_rfl
 i127 := by kernel_rfl
 i143 := by kernel_rfl
 i145 := by kernel_rfl
 i167 := by kernel_rfl
 i168 := by kernel_rfl
 i171 := by kernel_rfl
 i173 := by kernel_rfl
 i175 := by kernel_rfl
 i210 := by kernel_rfl
 i212 := by kernel_rfl
 i232 := by kernel_rfl
 i233 := by kernel_rfl
 m15 := by kernel_rfl
 m16 := by kernel_rfl
 m17 := by kernel_rfl
 m18 := by kernel_rfl
 m19 := by kernel_rfl
 c0 := by kernel_rfl
 c2 := by kernel_rfl
 c3 := by kernel_rfl
 c4 := by kernel_rfl
 c5 := by kernel_rfl
 c9 := by kernel_rfl
 c20 := by kernel_rfl
 c21 := by kernel_rfl
 c37 := by kernel_rfl
 c46 := by kernel_rfl
 c51 := by kernel_rfl
 c53 := by kernel_rfl
 c75 := by kernel_rfl
 c76 := by kernel_rfl
 c80 := by kernel_rfl
 c85 := by kernel_rfl
 c127 := by kernel_rfl
 c143 := by kernel_rfl
 c145 := by kernel_rfl
 c167 := by kernel_rfl
 c168 := by kernel_rfl
 c171 := by kernel_rfl
 c173 := by kernel_rfl
 c175 := by kernel_rfl
 c210 := by kernel_rfl
 c212 := by kernel_rfl
 c213 := by kernel_rfl
 c232 := by kernel_rfl
 c233 := by kernel_rfl }
open Go.RowKit in
theorem Tryz.strconv_Atoi_ok (s : ByteArray) (hmax : s.size ≤ 9223372036854775806) (v : Int) (h : Lib.atoiAll s.data.toList = .ok v) (w : World) :
 Calls Tryz.prog 182 #[.string s] w fun e w' => e = .returned (.tuple #[.int .i64 v, .nilIface]) ∧ (w' = w ∨ ∃ t, w' = Lib.bytesWorld w 5 t) := Any.strconv_Atoi_ok Tryz.laysC172 s hmax v h w
open Go.RowKit in
theorem Tryz.strconv_Atoi_range (s : ByteArray) (hlim : s.size ≤ 281474976710656) (h : Lib.atoiAll s.data.toList = .range) (ev : Value) (w : World) (hv : w.cell? ⟨8, 0, none⟩ = some ev) (hev : ev = .nilIface ∨ ∃ te pe, ev = .iface te pe) :
 Calls Tryz.prog 182 #[.string s] w fun e w' => ∃ N, e = .returned (.tuple #[.int .i64 (Lib.atoiSat s.data.toList), .iface 279 (.pointer (some ⟨N, 0, none⟩))]) ∧ w.heap.size ≤ N ∧ w'.heap[N]? = some (.cells #[.string ⟨#[65, 116, 111, 105]⟩, .string s, ev] 295 (0, 0)) ∧ Below w.heap.size w w' := Any.strconv_Atoi_range Tryz.laysC172 s hlim h ev w hv hev
def Tryz.lays143_ren : Go.Shelf.Ren := ⟨fun | 143 => 181 | 219 => 193 | 217 => 139 | 225 => 200 | 224 => 201 | 267 => 202 | 266 => 158 | 314 => 213 | n => n, fun | 9 => 9 | 3 => 3 | 4 => 4 | 5 => 5 | 46 => 193 | 146 => 290 | 51 => 256 | n => n, fun | 1 => 4 | n => n⟩
theorem Tryz.lays143 : Go.Proofs.Lays.n143 Tryz.prog Tryz.lays143_ren := {
 mixed := by kernel_rfl
 f143 := Tryz.func181.trans (congrArg some (by kernel_rfl))
 f217 := Tryz.func139.trans (congrArg some (by kernel_rfl))
 f219 := Tryz.func193.trans (congrArg some (by kernel_rfl))
 f224 := Tryz.func201.trans (congrArg some (by kernel_rfl))
 f225 := Tryz.func200.trans (congrArg some (by kernel_rfl))
 f266 := Tryz.func158.trans (congrArg some (by kernel_rfl))
 f267 := Tryz.func202.trans (congrArg some (by kernel_rfl))
 f314 := Tryz.func213.trans (congrArg some (by kernel_rfl))
 t3 := Tryz.underlying3
 a3 := Tryz.isAgg3
 z3 := Tryz.sizeOf3
 v3 := Tryz.zeroValue3
 t4 := Tryz.underlying4
 a4 := Tryz.isAgg4
 z4 := Tryz.sizeOf4
 v4 := Tryz.zeroValue4
 t5 := Tryz.underlying5
 a5 := Tryz.isAgg5
 z5 := Tryz.sizeOf5
 v5 := Tryz.zeroValue5
 t9 := Tryz.underlying9
 a9 := Tryz.isAgg9
 z9 := Tryz.sizeOf9
 v9 := Tryz.zeroValue9
 t46 := Tryz.underlying193
 a46 := Tryz.isAgg193
 z46 := Tryz.sizeOf193
 v46 := Tryz.zeroValue193
 t51 := Tryz.underlying256
 a51 := Tryz.isAgg256
 z51 := Tryz.sizeOf256
 v51 := Tryz.zeroValue256
 t146 := Tryz.underlying290
 a146 := Tryz.isAgg290
 z146 := Tryz.sizeOf290
 v146 := Tryz.zeroValue290
 g1 := by kernel_rfl }
open Go.RowKit Go.Lib in
theorem Tryz.strings_Index_one (s : ByteArray) (c : UInt8) (w : World) :
 Calls Tryz.prog 181 #[.string s, .string ⟨#[c]⟩] w fun e w' => e = .returned (.int .i64 (Lib.indexByte s.data.toList c)) ∧ w' = w := Any.strings_Index_one Tryz.lays143 s c w
def Tryz.lays138_ren : Go.Shelf.Ren := ⟨fun | 138 => 180 | 195 => 190 | 218 => 192 | 143 => 181 | 219 => 193 | 217 => 139 | 225 => 200 | 224 => 201 | 267 => 202 | 266 => 158 | 314 => 213 | n => n, fun | 9 => 9 | 3 => 3 | 4 => 4 | 5 => 5 | 0 => 0 | 46 => 193 | 146 => 290 | 51 => 256 | n => n, fun | 1 => 4 | n => n⟩
theorem Tryz.lays138 : Go.Proofs.Lays.n138 Tryz.prog Tryz.lays138_ren := {
 mixed := by kernel_rfl
 f138 := Tryz.func180.trans (congrArg some (by kernel_rfl))
 f143 := Tryz.func181.trans (congrArg some (by kernel_rfl))
 f195 := Tryz.func190.trans (congrArg some (by kernel_rfl))
 f217 := Tryz.func139.trans (congrArg some (by kernel_rfl))
 f218 := Tryz.func192.trans (congrArg some (by kernel_rfl))
 f219 := Tryz.func193.trans (congrArg some (by kernel_rfl))
 f224 := Tryz.func201.trans (congrArg some (by kernel_rfl))
 f225 := Tryz.func200.trans (congrArg some (by kernel_rfl))
 f266 := Tryz.func158.trans (congrArg some (by kernel_rfl))
 f267 := Tryz.func202.trans (congrArg some (by kernel_rfl))
 f314 := Tryz.func213.trans (congrArg some (by kernel_rfl))
 t0 := Tryz.underlying0
 a0 := Tryz.isAgg0
 z0 := Tryz.sizeOf0
 v0 := Tryz.zeroValue0
 t3 := Tryz.underlying3
 a3 := Tryz.isAgg3
 z3 := Tryz.sizeOf3
 v3 := Tryz.zeroValue3
 t4 := Tryz.underlying4
 a4 := Tryz.isAgg4
 z4 := Tryz.sizeOf4
 v4 := Tryz.zeroValue4
 t5 := Tryz.underlying5
 a5 := Tryz.isAgg5
 z5 := Tryz.sizeOf5
 v5 := Tryz.zeroValue5
 t9 := Tryz.underlying9
 a9 := Tryz.isAgg9
 z9 := Tryz.sizeOf9
 v9 := Tryz.zeroValue9
 t46 := Tryz.underlying193
 a46 := Tryz.isAgg193
 z46 := Tryz.sizeOf193
 v46 := Tryz.zeroValue193
 t51 := Tryz.underlying256
 a51 := Tryz.isAgg256
 z51 := Tryz.sizeOf256
 v51 := Tryz.zeroValue256
 t146 := Tryz.underlying290
 a146 := Tryz.isAgg290
 z146 := Tryz.sizeOf290
 v146 := Tryz.zeroValue290
 g1 := by kernel_rfl }
open Go.RowKit Go.Lib in
theorem Tryz.strings_Count_one (s : ByteArray) (c : UInt8) (w : World) :
 Calls Tryz.prog 180 #[.string s, .string ⟨#[c]⟩] w fun e w' => e = .returned (.int .i64 (Lib.countByte s.data.toList c)) ∧ w' = w := Any.strings_Count_one Tryz.lays138 s c w
def Tryz.lays102_ren : Go.Shelf.Ren := ⟨fun | 102 => 78 | 209 => 116 | 207 => 145 | n => n, fun | 9 => 9 | 4 => 4 | 3 => 3 | n => n, fun | n => n⟩
theorem Tryz.lays102 : Go.Proofs.Lays.n102 Tryz.prog Tryz.lays102_ren := {
 mixed := by kernel_rfl
 f102 := Tryz.func78.trans (congrArg some (by kernel_rfl))
 f207 := Tryz.func145.trans (congrArg some (by kernel_rfl))
 f209 := Tryz.func116.trans (congrArg some (by kernel_rfl))
 t3 := Tryz.underlying3
 a3 := Tryz.isAgg3
 z3 := Tryz.sizeOf3
 v3 := Tryz.zeroValue3
 t4 := Tryz.underlying4
 a4 := Tryz.isAgg4
 z4 := Tryz.sizeOf4
 v4 := Tryz.zeroValue4
 t9 := Tryz.underlying9
 a9 := Tryz.isAgg9
 z9 := Tryz.sizeOf9
 v9 := Tryz.zeroValue9 }
open Go.RowKit Go.Lib in
theorem Tryz.strings_TrimSuffix (s p : ByteArray) (w : World) (hs : s.size ≤ 9223372036854775807) :
 Calls Tryz.prog 78 #[.string s, .string p] w fun e w' => e = .returned (.string ⟨(Lib.trimSuffix s.data.toList p.data.toList).toArray⟩) ∧ w' = w := Any.strings_TrimSuffix Tryz.lays102 s p w hs
def Tryz.lays221_ren : Go.Shelf.Ren := ⟨fun | 221 => 159 | 268 => 179 | 138 => 180 | 143 => 181 | 195 => 190 | 197 => 191 | 218 => 192 | 219 => 193 | 260 => 199 | 217 => 139 | 225 => 200 | 224 => 201 | 267 => 202 | 266 => 158 | 314 => 213 | n => n, fun | 9 => 9 | 3 => 3 | 31 => 24 | 4 => 4 | 0 => 0 | 105 => 268 | 21 => 21 | 5 => 5 | 46 => 193 | 119 => 286 | 139 => 289 | 138 => 288 | 146 => 290 | 51 => 256 | n => n, fun | 1 => 4 | 3 => 5 | 4 => 6 | n => n⟩
theorem Tryz.lays221 : Go.Proofs.Lays.n221 Tryz.prog Tryz.lays221_ren := {
 mixed := by kernel_rfl
 f138 := Tryz.func180.trans (congrArg some (by kernel_rfl))
 f143 := Tryz.func181.trans (congrArg some (by kernel_rfl))
 f195 := Tryz.func190.trans (congrArg some (by kernel_rfl))
 f197 := Tryz.func191.trans (congrArg some (by kernel_rfl))
 f217 := Tryz.func139.trans (congrArg some (by kernel_rfl))
 f218 := Tryz.func192.trans (congrArg some (by kernel_rfl))
 f219 := Tryz.func193.trans (congrArg some (by kernel_rfl))
 f221 := Tryz.func159.trans (congrArg some (by kernel_rfl))
 f224 := Tryz.func201.trans (congrArg some (by kernel_rfl))
 f225 := Tryz.func200.trans (congrArg some (by kernel_rfl))
 f260 := Tryz.func199.trans (congrArg some (by kernel_rfl))
 f266 := Tryz.func158.trans (congrArg some (by kernel_rfl))
 f267 := Tryz.func202.trans (congrArg some (by kernel_rfl))
 f268 := Tryz.func179.trans (congrArg some (by kernel_rfl))
 f314 := Tryz.func213.trans (congrArg some (by kernel_rfl))
 t0 := Tryz.underlying0
 a0 := Tryz.isAgg0
 z0 := Tryz.sizeOf0
 v0 := Tryz.zeroValue0
 t3 := Tryz.underlying3
 a3 := Tryz.isAgg3
 z3 := Tryz.sizeOf3
 v3 := Tryz.zeroValue3
 t4 := Tryz.underlying4
 a4 := Tryz.isAgg4
 z4 := Tryz.sizeOf4
 v4 := Tryz.zeroValue4
 t5 := Tryz.underlying5
 a5 := Tryz.isAgg5
 z5 := Tryz.sizeOf5
 v5 := Tryz.zeroValue5
 t9 := Tryz.underlying9
 a9 := Tryz.isAgg9
 z9 := Tryz.sizeOf9
 v9 := Tryz.zeroValue9
 t21 := Tryz.underlying21
 a21 := Tryz.isAgg21
 z21 := Tryz.sizeOf21
 v21 := Tryz.zeroValue21
 t31 := Tryz.underlying24
 a31 := Tryz.isAgg24
 z31 := Tryz.sizeOf24
 v31 := Tryz.zeroValue24
 t46 := Tryz.underlying193
 a46 := Tryz.isAgg193
 z46 := Tryz.sizeOf193
 v46 := Tryz.zeroValue193
 t51 := Tryz.underlying256
 a51 := Tryz.isAgg256
 z51 := Tryz.sizeOf256
 v51 := Tryz.zeroValue256
 t105 := Tryz.underlying268
 a105 := Tryz.isAgg268
 z105 := Tryz.sizeOf268
 v105 := Tryz.zeroValue268
 t119 := Tryz.underlying286
 a119 := Tryz.isAgg286
 z119 := Tryz.sizeOf286
 t138 := Tryz.underlying288
 a138 := Tryz.isAgg288
 z138 := Tryz.sizeOf288
 v138 := Tryz.zeroValue288
 t139 := Tryz.underlying289
 a139 := Tryz.isAgg289
 z139 := Tryz.sizeOf289
 v139 := Tryz.zeroValue289
 t146 := Tryz.underlying290
 a146 := Tryz.isAgg290
 z146 := Tryz.sizeOf290
 v146 := Tryz.zeroValue290
 g1 := by kernel_rfl
 g3 := by kernel_rfl
 g4 := by kernel_rfl }
end Go.Proofs
namespace Go.Proofs.YtmfbaijbigodkaaGreatDoor
open Go.ChangeShapes Go.WideShapes Go.ChangeAt Go.RowKit
set_option linter.unusedVariables false
def PTab (w : World) : Prop := Lib.TabIs Tryz.prog w "internal/strconv.uint64pow10" .u64 Lib.pow10Tab
theorem Tryz.powName : Tryz.prog.globalNamed "internal/strconv.uint64pow10" = some 9 := by kernel_rfl
theorem PTab.lt {w : World} (h : PTab w) : 9 < w.heap.size := by
 have h0 := Lib.TabIs.cell h Tryz.powName 0 (by decide)
 rcases Nat.lt_or_ge 9 w.heap.size with h1 | h1
 · exact h1
 · simp [World.cell?, Array.getElem?_eq_none h1] at h0
theorem PTab.later {w w1 : World} (h : PTab w) (hb : Below w.heap.size w w1) : PTab w1 := by
 have e := hb.block _ h.lt
 unfold PTab Lib.TabIs World.var? at h ⊢
 rw [Tryz.powName] at h ⊢
 simp only [Option.bind_some] at h ⊢
 rw [e]
 exact h
theorem ptab_of_head {W : World} {rest : List (String × DataW Unit)} (h : laidMet Tryz.prog (("internal/strconv.uint64pow10", Rows.laid_internal_strconv_uint64pow10) :: rest) W) : PTab W :=
 Lib.tabIs_of_head (zs := Lib.pow10Tab) Tryz.powName (t := 298) (by kernel_rfl) (e := 258) (n := 20) (by kernel_rfl) (by kernel_rfl) (by kernel_rfl) (by kernel_rfl) h
def litCells : List (DataW Unit) → List Value
 | .lit (.int k n) :: r => .int k n :: litCells r
 | _ => []
def tabCells : DataW Unit → Array Value
 | .agg l => (litCells l).toArray
 | _ => #[]
def ita (n : Int) : ByteArray := ⟨(Lib.itoa n).toArray⟩
theorem nDig : ∀ (k u : Nat), u < 10 ^ k → 1 ≤ Lib.nDigits u ∧ Lib.nDigits u ≤ k + (if k = 0 then 1 else 0)
 | 0, u, h => by
   have : u = 0 := by simpa using h
   subst this
   unfold Lib.nDigits
   simp
 | k + 1, u, h => by
   unfold Lib.nDigits
   by_cases h10 : u < 10
   · rw [dif_pos h10]; simp
   · rw [dif_neg h10]
     have ih := nDig k (u / 10) (by rw [Nat.pow_succ] at h; omega)
     cases k with
     | zero => simp at h; omega
     | succ k => simp only [Nat.add_eq_zero_iff, Nat.one_ne_zero, and_false, if_false] at ih ⊢; omega
theorem ita_size {n : Int} (h0 : 0 ≤ n) (h1 : n ≤ 1073741823) : 1 ≤ (ita n).size ∧ (ita n).size ≤ 10 := by
 obtain ⟨u, rfl⟩ : ∃ u : Nat, n = u := ⟨n.toNat, by omega⟩
 have e : (ita (u : Int)).size = Lib.nDigits u := by
  show (Lib.itoa (u : Int)).toArray.size = _
  rw [Lib.itoa_nonneg, List.size_toArray, Lib.decDigits_length]
 rw [e]
 have := nDig 10 u (by omega)
 simpa using this
theorem below_grow (w : World) (k : Nat) (os : Array Obj) : Below w.heap.size w (Go.Sort.grow (w.drewN k) os) :=
 ⟨rfl, rfl, rfl, by show w.heap.size ≤ (w.heap ++ os).size; simp, fun i hi => by
  show (w.heap ++ os)[i]? = w.heap[i]?
  rw [Array.getElem?_append_left hi]⟩
theorem itoaC (n : Int) (h0 : 0 ≤ n) (h1 : n ≤ 1073741823) (w : World) (hp : PTab w) :
  Calls Tryz.prog 165 #[.int .i64 n] w fun e w' => e = .returned (.string (ita n)) ∧ Below w.heap.size w w' := by
 refine (Tryz.strconv_Itoa n (by omega) (by omega) w hp).mono ?_
 rintro e w' ⟨rfl, k, os, rfl⟩
 exact ⟨rfl, below_grow w k os⟩
end Go.Proofs.YtmfbaijbigodkaaGreatDoor
namespace Go.Proofs.YtmfbaijbigodkaaGreatDoor
open Go.RowKit
set_option linter.unusedVariables false
theorem dig_app (l : List UInt8) (d : Nat) (hd : d < 10) : ∀ (acc n : Nat), Lib.decFrom acc l = some n → Lib.decFrom acc (l ++ [UInt8.ofNat (48 + d)]) = some (n * 10 + d) := by
 induction l with
 | nil =>
   intro acc n h
   have h1 : acc = n := by simpa [Lib.decFrom] using h
   subst h1
   have hv : Lib.digitVal (UInt8.ofNat (48 + d)) = some d := by
    unfold Lib.digitVal
    rw [UInt8.toNat_ofNat', if_pos (by omega)]
    congr 1
    omega
   show Lib.decFrom acc [UInt8.ofNat (48 + d)] = _
   rw [Lib.decFrom, hv]
   rfl
 | cons b r ih =>
   intro acc n h
   rw [List.cons_append]
   rw [Lib.decFrom] at h ⊢
   cases hv : Lib.digitVal b with
   | none => rw [hv] at h; cases h
   | some x => rw [hv] at h; exact ih _ _ h
theorem dig_read (u : Nat) : Lib.decFrom 0 (Lib.decDigits u) = some u := by
 induction u using Nat.strongRecOn with
 | _ u ih =>
   rw [Lib.decDigits]
   split
   · rename_i h
     have := dig_app [] u h 0 0 rfl
     simpa using this
   · rename_i h
     have := dig_app (Lib.decDigits (u / 10)) (u % 10) (by omega) 0 (u / 10) (ih (u / 10) (by omega))
     rw [this]
     congr 1
     omega
theorem index_at : ∀ (l r : List UInt8), (∀ b ∈ l, b ≠ 10) → Lib.indexByte (l ++ 10 :: r) 10 = (l.length : Int)
 | [], r, _ => by simp [Lib.indexByte]
 | b :: l, r, h => by
   have hb : (b == 10) = false := by simpa using h b (by simp)
   have ih := index_at l r (fun c hc => h c (by simp [hc]))
   have hne : ((l.length : Int) == -1) = false := by rw [beq_eq_false_iff_ne]; omega
   rw [List.cons_append, Lib.indexByte, hb, ih, hne, List.length_cons]
   simp
def noNl (l : List UInt8) : Prop := ∀ b ∈ l, b ≠ 10
def cutAt (c : UInt8) : List UInt8 → List (List UInt8)
 | [] => [[]]
 | b :: r => if b = c then [] :: cutAt c r else match cutAt c r with
   | [] => [[b]]
   | x :: xs => (b :: x) :: xs
theorem cutAt_ne (c : UInt8) (l : List UInt8) : cutAt c l ≠ [] := by
 cases l with
 | nil => simp [cutAt]
 | cons b r =>
   rw [cutAt]
   split
   · simp
   · split <;> simp
def free (c : UInt8) (l : List UInt8) : Prop := ∀ b ∈ l, b ≠ c
theorem cutAt_free {c : UInt8} : ∀ {l : List UInt8}, free c l → cutAt c l = [l]
 | [], _ => rfl
 | b :: r, h => by
   have hb : b ≠ c := h b (by simp)
   have ih := cutAt_free (l := r) (fun x hx => h x (by simp [hx]))
   rw [cutAt, if_neg hb, ih]
theorem cutAt_app {c : UInt8} : ∀ {l : List UInt8} (r : List UInt8), free c l → cutAt c (l ++ c :: r) = l :: cutAt c r
 | [], r, _ => by rw [List.nil_append, cutAt, if_pos rfl]
 | b :: l, r, h => by
   have hb : b ≠ c := h b (by simp)
   have ih := cutAt_app (l := l) r (fun x hx => h x (by simp [hx]))
   rw [List.cons_append, cutAt, if_neg hb, ih]
theorem cutAt_each {c : UInt8} : ∀ {l : List UInt8}, ∀ x ∈ cutAt c l, free c x ∧ x.length ≤ l.length
 | [], x, hx => by
   rw [cutAt, List.mem_singleton] at hx
   subst hx
   exact ⟨fun b hb => by simp at hb, Nat.le_refl _⟩
 | b :: r, x, hx => by
   rw [cutAt] at hx
   split at hx
   · rcases List.mem_cons.1 hx with rfl | hx
     · exact ⟨fun b hb => by simp at hb, by simp⟩
     · obtain ⟨h1, h2⟩ := cutAt_each x hx
       exact ⟨h1, by rw [List.length_cons]; omega⟩
   · rename_i hb
     cases hc : cutAt c r with
     | nil => exact absurd hc (cutAt_ne c r)
     | cons y ys =>
       rw [hc] at hx
       rcases List.mem_cons.1 hx with rfl | hx
       · obtain ⟨h1, h2⟩ := cutAt_each (l := r) y (by rw [hc]; simp)
         refine ⟨fun a ha => ?_, by rw [List.length_cons, List.length_cons]; omega⟩
         rcases List.mem_cons.1 ha with rfl | ha
         · exact hb
         · exact h1 a ha
       · obtain ⟨h1, h2⟩ := cutAt_each (l := r) x (by rw [hc]; simp [hx])
         exact ⟨h1, by rw [List.length_cons]; omega⟩
theorem cutAt_few (c : UInt8) : ∀ l : List UInt8, (cutAt c l).length ≤ l.length + 1
 | [] => Nat.le_refl _
 | b :: r => by
   have ih := cutAt_few c r
   rw [cutAt, List.length_cons]
   split
   · rw [List.length_cons]; omega
   · cases hc : cutAt c r with
     | nil => simp
     | cons x xs =>
       rw [hc, List.length_cons] at ih
       rw [List.length_cons]; omega
theorem index_skip {b c : UInt8} {l : List UInt8} (h : b ≠ c) : Lib.index (b :: l) [c] = if Lib.index l [c] == -1 then -1 else Lib.index l [c] + 1 := by
 have hp : ([c] : List UInt8).isPrefixOf (b :: l) = false := by simp [List.isPrefixOf, Ne.symm h]
 rw [Lib.index, hp]; simp
theorem index_here {c : UInt8} {l : List UInt8} : Lib.index (c :: l) [c] = 0 := by rw [Lib.index]; simp [List.isPrefixOf]
theorem splitK_cut (c : UInt8) : ∀ (l : List UInt8) (k : Nat), l.count c ≤ k → Lib.splitK [c] 0 k l = cutAt c l
 | [], k, _ => by
   cases k with
   | zero => rfl
   | succ k =>
     have : Lib.index ([] : List UInt8) [c] = -1 := by simp [Lib.index]
     rw [Lib.splitK, this]; rfl
 | b :: r, k, hk => by
   by_cases hb : b = c
   · subst hb
     rw [List.count_cons_self] at hk
     cases k with
     | zero => omega
     | succ k =>
       rw [Lib.splitK, index_here, cutAt, if_pos rfl]
       have ih := splitK_cut b r k (by omega)
       rw [if_neg (by decide)]
       show ([] : List UInt8) :: Lib.splitK [b] 0 k r = _
       rw [ih]
   · rw [List.count_cons_of_ne hb] at hk
     have ih := splitK_cut c r k hk
     rw [cutAt, if_neg hb]
     cases k with
     | zero =>
       rw [Lib.splitK] at ih ⊢
       rw [← ih]
     | succ k =>
       rw [Lib.splitK] at ih ⊢
       rw [index_skip hb]
       by_cases hm : Lib.index r [c] = -1
       · rw [hm] at ih ⊢
         rw [← ih]
         rfl
       · have hge := Lib.index_ge r [c]
         obtain ⟨j, hj⟩ : ∃ j : Nat, Lib.index r [c] = j := ⟨(Lib.index r [c]).toNat, by omega⟩
         have e1 : ((j : Int) == -1) = false := by rw [beq_eq_false_iff_ne]; omega
         have e2 : (((j : Int) + 1) == -1) = false := by rw [beq_eq_false_iff_ne]; omega
         rw [hj, e1] at ih ⊢
         simp only [Bool.false_eq_true, if_false] at ih ⊢
         rw [e2, ← ih]
         simp only [Bool.false_eq_true, if_false]
         have e3 : ((j : Int) + 1).toNat = j + 1 := by omega
         have e4 : (j : Int).toNat = j := by omega
         rw [e3, e4]
         rfl
def dgN (l : List UInt8) : Option Nat := if l = [] ∨ 4 < l.length ∨ (l.head? = some 48 ∧ 1 < l.length) then none else Lib.decFrom 0 l
theorem dd_small {u : Nat} (h : u < 10) : Lib.decDigits u = [UInt8.ofNat (48 + u)] := by rw [Lib.decDigits, dif_pos h]
theorem dd_big {u : Nat} (h : ¬ u < 10) : Lib.decDigits u = Lib.decDigits (u / 10) ++ [UInt8.ofNat (48 + u % 10)] := by rw [Lib.decDigits, dif_neg h]
theorem dd_len (u : Nat) : 1 ≤ (Lib.decDigits u).length := by rw [Lib.decDigits_length]; exact Lib.nDigits_pos u
theorem dd_head : ∀ (u : Nat), 1 ≤ u → (Lib.decDigits u).head? ≠ some 48 := by
 intro u
 induction u using Nat.strongRecOn with
 | _ u ih =>
   intro h1
   by_cases h : u < 10
   · rw [dd_small h]
     intro e
     have e2 : UInt8.ofNat (48 + u) = 48 := by simpa using e
     have e3 := congrArg UInt8.toNat e2
     rw [UInt8.toNat_ofNat'] at e3
     have : (48 : UInt8).toNat = 48 := rfl
     omega
   · rw [dd_big h]
     have := ih (u / 10) (by omega) (by omega)
     have hl := dd_len (u / 10)
     cases hd : Lib.decDigits (u / 10) with
     | nil => rw [hd] at hl; simp at hl
     | cons a r =>
       rw [hd] at this
       simpa using this
theorem dec_snoc : ∀ (l : List UInt8) (b : UInt8) (acc : Nat), Lib.decFrom acc (l ++ [b]) = match Lib.decFrom acc l with
  | none => none
  | some m => match Lib.digitVal b with
    | none => none
    | some d => some (m * 10 + d)
 | [], b, acc => by
   rw [List.nil_append, Lib.decFrom, Lib.decFrom]
   cases Lib.digitVal b <;> rfl
 | a :: r, b, acc => by
   rw [List.cons_append, Lib.decFrom, Lib.decFrom]
   cases Lib.digitVal a with
   | none => rfl
   | some d => exact dec_snoc r b _
theorem byte_of {b : UInt8} {d : Nat} (h : Lib.digitVal b = some d) : b = UInt8.ofNat (48 + d) ∧ d < 10 := by
 obtain ⟨h1, h2, h3⟩ := Lib.digitVal_eq h
 refine ⟨?_, by omega⟩
 apply UInt8.toNat_inj.1
 rw [UInt8.toNat_ofNat']
 have := b.toNat_lt
 omega
theorem dd_back : ∀ (k : Nat) (l : List UInt8) (n : Nat), l.length = k + 1 → (l.head? = some 48 → l.length = 1) → Lib.decFrom 0 l = some n → Lib.decDigits n = l
 | 0, l, n, hl, _, h => by
   obtain ⟨b, rfl⟩ := List.length_eq_one_iff.1 hl
   rw [Lib.decFrom] at h
   cases hd : Lib.digitVal b with
   | none => rw [hd] at h; cases h
   | some d =>
     rw [hd] at h
     obtain ⟨h1, h2⟩ := byte_of hd
     have e : n = d := by simpa [Lib.decFrom] using h.symm
     subst e
     rw [dd_small h2, ← h1]
 | k + 1, l, n, hl, h0, h => by
   obtain ⟨r, b, rfl⟩ : ∃ r b, l = r ++ [b] := ⟨l.dropLast, l.getLast (by intro e; rw [e] at hl; simp at hl), (List.dropLast_concat_getLast _).symm⟩
   rw [List.length_append, List.length_singleton] at hl
   have hr : r.length = k + 1 := by omega
   cases r with
   | nil => simp at hr
   | cons a t =>
     have hh : a ≠ 48 := by
      intro e
      have := h0 (by rw [e]; rfl)
      rw [List.length_append, List.length_singleton] at this
      omega
     rw [dec_snoc] at h
     cases hm : Lib.decFrom 0 (a :: t) with
     | none => rw [hm] at h; cases h
     | some m =>
       rw [hm] at h
       cases hd : Lib.digitVal b with
       | none => rw [hd] at h; cases h
       | some d =>
         rw [hd] at h
         obtain ⟨h1, h2⟩ := byte_of hd
         have ih := dd_back k (a :: t) m hr (fun e => absurd (by simpa using e) hh) hm
         have hm1 : 1 ≤ m := by
          rcases Nat.eq_zero_or_pos m with rfl | h
          · rw [dd_small (by decide)] at ih
            have e2 : (48 : UInt8) = a := by have := congrArg List.head? ih; simpa using this
            exact absurd e2.symm hh
          · exact h
         have e : n = m * 10 + d := by simpa using h.symm
         subst e
         rw [dd_big (by omega), show (m * 10 + d) / 10 = m by omega, show (m * 10 + d) % 10 = d by omega, ih, ← h1]
theorem dg_yes {l : List UInt8} {n : Nat} (h : dgN l = some n) : Lib.atoiAll l = .ok (n : Int) ∧ 1 ≤ l.length ∧ l.length ≤ 4 ∧ Lib.itoa (n : Int) = l ∧ n ≤ 9999 := by
 unfold dgN at h
 split at h
 · cases h
 · rename_i hn
   have h0 : l ≠ [] := fun e => hn (Or.inl e)
   have h4 : l.length ≤ 4 := by
    rcases Nat.lt_or_ge 4 l.length with h | h
    · exact absurd (Or.inr (Or.inl h)) hn
    · exact h
   have h1 : 1 ≤ l.length := List.length_pos_iff.2 h0
   have hz : l.head? = some 48 → l.length = 1 := fun e => by
    rcases Nat.lt_or_ge 1 l.length with h | h
    · exact absurd (Or.inr (Or.inr ⟨e, h⟩)) hn
    · omega
   have hlt : n ≤ 9999 := by
    have := Lib.decFrom_lt l 0 n h
    have hp : 10 ^ l.length ≤ 10 ^ 4 := Nat.pow_le_pow_right (by decide) h4
    omega
   refine ⟨?_, h1, h4, ?_, hlt⟩
   · rw [Lib.atoiAll_short l (by omega)]
     cases l with
     | nil => exact absurd rfl h0
     | cons b r =>
       have hb : ∃ d, Lib.digitVal b = some d := Lib.digit_of_decFrom (b :: r) 0 n h 0 b rfl
       obtain ⟨d, hd⟩ := hb
       obtain ⟨b1, b2, b3⟩ := Lib.digitVal_eq hd
       have n1 : (b == 45) = false := by
        rw [beq_eq_false_iff_ne]
        rintro rfl
        simp at b1
       have n2 : (b == 43) = false := by
        rw [beq_eq_false_iff_ne]
        rintro rfl
        simp at b1
       rw [Lib.atoi, n1, n2]
       simp only [Bool.false_eq_true, if_false]
       unfold Lib.decNat
       rw [h]
       rfl
   · rw [Lib.itoa_nonneg]
     exact dd_back (l.length - 1) l n (by omega) hz h
theorem dg_itoa (u : Nat) (h4 : (Lib.decDigits u).length ≤ 4) : dgN (Lib.decDigits u) = some u := by
 have hl := dd_len u
 unfold dgN
 rw [if_neg, dig_read]
 rintro (h | h | ⟨h1, h2⟩)
 · rw [h] at hl; simp at hl
 · omega
 · rcases Nat.eq_zero_or_pos u with rfl | h
   · rw [dd_small (by decide)] at h2
     simp at h2
   · exact dd_head u h h1
theorem dg_no {l : List UInt8} (h : dgN l = none) {v : Int} (hv : 0 ≤ v) (h4 : l.length ≤ 4) : Lib.itoa v ≠ l := by
 intro e
 obtain ⟨u, rfl⟩ : ∃ u : Nat, v = u := ⟨v.toNat, by omega⟩
 rw [Lib.itoa_nonneg] at e
 subst e
 rw [dg_itoa u h4] at h
 cases h
def nums : List (List UInt8) → Option (List Nat)
 | [] => some []
 | x :: r => match dgN x with
   | none => none
   | some n => match nums r with
     | none => none
     | some ns => some (n :: ns)
theorem nums_len : ∀ {L : List (List UInt8)} {ns : List Nat}, nums L = some ns → ns.length = L.length
 | [], ns, h => by cases h; rfl
 | x :: r, ns, h => by
   rw [nums] at h
   split at h
   · cases h
   · split at h
     · cases h
     · rename_i _ n _ _ ms hm
       cases h
       rw [List.length_cons, List.length_cons, nums_len hm]
theorem nums_snoc (L : List (List UInt8)) (x : List UInt8) : nums (L ++ [x]) = match nums L with
  | none => none
  | some ns => match dgN x with
    | none => none
    | some n => some (ns ++ [n]) := by
 induction L with
 | nil =>
   rw [List.nil_append, nums, nums]
   cases dgN x <;> rfl
 | cons y r ih =>
   rw [List.cons_append, nums, nums, ih]
   cases dgN y with
   | none => rfl
   | some m =>
     cases nums r with
     | none => rfl
     | some ns => cases dgN x <;> rfl
theorem nums_bad {L R : List (List UInt8)} (h : nums L = none) : nums (L ++ R) = none := by
 induction L with
 | nil => cases h
 | cons y r ih =>
   rw [List.cons_append, nums]
   rw [nums] at h
   cases hd : dgN y with
   | none => rfl
   | some m =>
     rw [hd] at h
     cases hr : nums r with
     | none => rw [ih hr]
     | some ns => rw [hr] at h; cases h
def wWrite : List UInt8 := [119, 114, 105, 116, 101]
def wSend : List UInt8 := [115, 101, 110, 100]
def wCome : List UInt8 := [99, 111, 109, 101]
def wLose : List UInt8 := [108, 111, 115, 101]
def wTwice : List UInt8 := [116, 119, 105, 99, 101]
def wRead : List UInt8 := [114, 101, 97, 100]
def wCount : List UInt8 := [99, 111, 117, 110, 116]
def wVarint : List UInt8 := [118, 97, 114, 105, 110, 116]
def wNeed : List UInt8 := [110, 101, 101, 100]
def manyOf (x : List UInt8) : Option Nat :=
 if x = wWrite ∨ x = wSend ∨ x = wCome ∨ x = wLose ∨ x = wTwice ∨ x = wVarint then some 1
 else if x = wRead ∨ x = wNeed then some 2
 else if x = wCount then some 0 else none
def parse (ws : List (List UInt8)) : Option (List UInt8 × List Nat × List UInt8) :=
 match ws with
 | [] => none
 | x :: r =>
   if x = wWrite then match r with
    | [a, d] => if d = [] then none else match dgN a with
      | none => none
      | some n => some (x, [n], d)
    | _ => none
   else match manyOf x with
    | none => none
    | some m => match nums r with
      | none => none
      | some ns => if ns.length = m then some (x, ns, []) else none
def bOk : ByteArray := ⟨#[111, 107]⟩
def bBad : ByteArray := ⟨#[98, 97, 100]⟩
def bDash : ByteArray := ⟨#[45]⟩
def eName (e : Int) : ByteArray :=
 if e = 0 then ⟨#[79, 75]⟩
 else if e = 1 then ⟨#[69, 114, 114, 82, 97, 110, 103, 101]⟩
 else if e = 2 then ⟨#[69, 114, 114, 83, 121, 110, 116, 97, 120]⟩
 else if e = 3 then ⟨#[69, 114, 114, 83, 104, 97, 112, 101]⟩
 else if e = 4 then ⟨#[69, 114, 114, 70, 117, 108, 108]⟩
 else if e = 5 then ⟨#[69, 114, 114, 78, 111, 110, 101]⟩
 else if e = 6 then ⟨#[69, 114, 114, 83, 116, 97, 116, 101]⟩
 else if e = 7 then ⟨#[69, 114, 114, 67, 108, 97, 115, 104]⟩
 else if e = 8 then ⟨#[69, 114, 114, 70, 108, 111, 119]⟩
 else ⟨#[69, 114, 114, 110, 111]⟩
def tells (l : List UInt8) : List UInt8 := Lib.join (l.map fun b => Lib.itoa (b.toNat : Int)) [32]
noncomputable def doW (s : TkS) (x : List UInt8) (n : List Nat) (d : List UInt8) : ByteArray × Int × TkS :=
 if x = wWrite then (bOk, s.writeE (n.getD 0 0 : Nat) ⟨d.toArray⟩, s.write (n.getD 0 0 : Nat) ⟨d.toArray⟩)
 else if x = wSend then (bOk, s.sendE (n.getD 0 0 : Nat), s.send (n.getD 0 0 : Nat))
 else if x = wCome then (bOk, s.comeE (n.getD 0 0 : Nat), s.come (n.getD 0 0 : Nat))
 else if x = wLose then (bOk, giveE s.L (n.getD 0 0 : Nat), { s with L := giveL s.L (n.getD 0 0 : Nat) })
 else if x = wTwice then (bOk, twiceE s.L (n.getD 0 0 : Nat), { s with L := twiceL s.L (n.getD 0 0 : Nat) })
 else if x = wRead then (if s.readS (n.getD 0 0 : Nat) (n.getD 1 0 : Nat) = ⟨#[]⟩ then bDash else s.readS (n.getD 0 0 : Nat) (n.getD 1 0 : Nat), TkS.readE (n.getD 0 0 : Nat) (n.getD 1 0 : Nat), s.read (n.getD 0 0 : Nat) (n.getD 1 0 : Nat))
 else if x = wVarint then (⟨(tells (vbytes (n.getD 0 0 : Nat))).toArray⟩, 0, s)
 else if x = wNeed then (⟨(Lib.itoa (needV (n.getD 0 0 : Nat) (n.getD 1 0 : Nat))).toArray⟩, needE (n.getD 0 0 : Nat) (n.getD 1 0 : Nat), s)
 else (⟨(Lib.itoa (s.L.length : Int)).toArray⟩, 0, s)
noncomputable def ansW (s : TkS) (ws : List (List UInt8)) : ByteArray × TkS :=
 match parse ws with
 | none => (bBad, s)
 | some (x, n, d) => (if (doW s x n d).2.1 = 0 then (doW s x n d).1 else eName (doW s x n d).2.1, (doW s x n d).2.2)
noncomputable def ans (s : TkS) (l : List UInt8) : ByteArray × TkS := ansW s (cutAt 32 l)
noncomputable def anss (s : TkS) : List (List UInt8) → List UInt8
 | [] => []
 | l :: r => (ans s l).1.data.toList ++ 10 :: anss (ans s l).2 r
noncomputable def behind (s : TkS) : List (List UInt8) → TkS
 | [] => s
 | l :: r => behind (ans s l).2 r
theorem behind_app (s : TkS) (L R : List (List UInt8)) : behind s (L ++ R) = behind (behind s L) R := by
 induction L generalizing s with
 | nil => rfl
 | cons l r ih => exact ih _
theorem anss_app (s : TkS) (L R : List (List UInt8)) : anss s (L ++ R) = anss s L ++ anss (behind s L) R := by
 induction L generalizing s with
 | nil => rfl
 | cons l r ih =>
   rw [List.cons_append, anss, anss, ih, List.append_assoc]
   rfl
end Go.Proofs.YtmfbaijbigodkaaGreatDoor
namespace Go.Proofs.YtmfbaijbigodkaaGreatDoor
open Go.ChangeShapes Go.WideShapes Go.ChangeAt Go.RowKit Go.Shelf
set_option linter.unusedVariables false
def STab (w : World) : Prop := (∃ te pe, w.cell? ⟨7, 0, none⟩ = some (.iface te pe)) ∧ ∃ te pe, w.cell? ⟨8, 0, none⟩ = some (.iface te pe)
theorem STab.later {w w1 : World} (h : STab w) (hb : Below w.heap.size w w1) : STab w1 := by
 obtain ⟨⟨a, b, h1⟩, ⟨c, d, h2⟩⟩ := h
 exact ⟨⟨a, b, cell_later hb h1⟩, ⟨c, d, cell_later hb h2⟩⟩
theorem split_one (s : ByteArray) (c : UInt8) (w : World) (hs : s.size ≤ 1000000) :
  Calls Tryz.prog 141 #[.string s, .string ⟨#[c]⟩] w fun e w' => ∃ L : List ByteArray, L.map (·.data.toList) = cutAt c s.data.toList ∧ e = .returned (.slice (some ⟨w.heap.size, 0, none⟩) L.length L.length) ∧ w' = w.alloc (.cells (L.map Value.string).toArray 9) := by
 have h1 : 1 ≤ (⟨#[c]⟩ : ByteArray).size := Nat.le_refl _
 have hle := Lib.countB_le ⟨#[c]⟩ h1 s.size s (Nat.le_refl _)
 have hlen := Lib.splitB_all ⟨#[c]⟩ h1 0 _ s rfl
 have hcn : Lib.countB s ⟨#[c]⟩ = s.data.toList.count c := by
  show Lib.count s.data.toList [c] = _
  exact Lib.count_one c _
 have hC : Calls Tryz.prog 180 #[.string s, .string ⟨#[c]⟩] w fun e w' => e = .returned (.int .i64 (Lib.countB s ⟨#[c]⟩)) ∧ w' = w := by
  refine (Tryz.strings_Count_one s c w).mono fun e w' ⟨he, hw⟩ => ⟨?_, hw⟩
  rw [he, hcn]
  rfl
 have hg := Any.strings_genSplit_core Tryz.lays221 (by kernel_rfl) s ⟨#[c]⟩ 0 (-1) (Lib.countB s ⟨#[c]⟩ + 1) w (by omega) h1 (Nat.zero_le _) (fun x cs hx => by
  refine (Tryz.strings_Index_one x c _).mono fun e w' ⟨he, hw⟩ => ⟨?_, hw⟩
  rw [he, ← Lib.index_one]) hC (by decide) (by decide) (by rw [if_pos (by decide)]; omega)
 rw [Nat.add_sub_cancel, hlen] at hg
 have e2 : Lib.cellsOf (Lib.splitB ⟨#[c]⟩ 0 (Lib.countB s ⟨#[c]⟩) s) (Lib.countB s ⟨#[c]⟩ + 1) = ((Lib.splitB ⟨#[c]⟩ 0 (Lib.countB s ⟨#[c]⟩) s).map Value.string).toArray := by rw [← hlen]; exact Lib.cellsOf_full _
 rw [e2, ← hlen] at hg
 have hcut : (Lib.splitB ⟨#[c]⟩ 0 (Lib.countB s ⟨#[c]⟩) s).map (·.data.toList) = cutAt c s.data.toList := by
  rw [Lib.splitB_data]
  exact splitK_cut c _ _ (by rw [hcn]; exact Nat.le_refl _)
 generalize Lib.splitB ⟨#[c]⟩ 0 (Lib.countB s ⟨#[c]⟩) s = L at *
 have HG : Hid (Calls Tryz.prog 159 #[.string s, .string ⟨#[c]⟩, .int .i64 0, .int .i64 (-1)] w fun e w' => e = .returned (.slice (some ⟨w.heap.size, 0, none⟩) L.length L.length) ∧ w' = w.alloc (.cells (L.map Value.string).toArray 9)) := Lib.hid hg
 have HCUT := Lib.hid hcut
 clear hg hcut e2 hC hcn hle hlen
 go_enter Tryz.func141, Tryz.ntmps141
 go_wp2_with (go_at_call 159; refine HG.out.mono ?_; rintro e w' ⟨rfl, rfl⟩)
 go_ret
 exact ⟨L, HCUT.out, rfl, rfl⟩
theorem pdigit_yes (s : ByteArray) (n : Nat) (h : dgN s.data.toList = some n) (w : World) (hP : PTab w) :
  Calls Tryz.prog 160 #[.string s] w fun e w' => e = .returned (.tuple #[.int .i64 n, .bool true]) ∧ Below w.heap.size w w' := by
 obtain ⟨h1, h2, h3, h4, h5⟩ := dg_yes h
 have hsz : s.data.toList.length = s.size := by rw [Array.length_toList]; rfl
 have HA : Hid (Calls Tryz.prog 182 #[.string s] w fun e w' => e = .returned (.tuple #[.int .i64 n, .nilIface]) ∧ Below w.heap.size w w') := Lib.hid (by
  refine (Tryz.strconv_Atoi_ok s (by omega) n h1 w).mono ?_
  rintro e w' ⟨rfl, rfl | ⟨t, rfl⟩⟩
  · exact ⟨rfl, Below.refl _ _⟩
  · exact ⟨rfl, Lib.bytesWorld_below _ _ _⟩)
 have HI : Hid (∀ W, Since w W → Calls Tryz.prog 165 #[.int .i64 n] W fun e w' => e = .returned (.string s) ∧ Below W.heap.size W w') := Lib.hid (fun W hW => by
  refine (itoaC n (by omega) (by omega) W (hP.later hW)).mono ?_
  rintro e w' ⟨rfl, hb⟩
  refine ⟨?_, hb⟩
  unfold ita
  rw [h4])
 have hq : ((n : Int) ≥ 0) := by omega
 have hq2 : (0 : Int) ≤ (n : Int) := by omega
 have hq3 : (s.size : Int) ≤ 4 := by omega
 have hq4 : s.size ≤ 4 := by omega
 clear h h1 h2 h3 h4 h5 hsz hP
 go_enter Tryz.func160, Tryz.ntmps160
 go_wp2_with fail
 refine HA.out.mono ?_
 rintro e w1 ⟨rfl, hb1⟩
 have hs1 : Since w w1 := hb1
 go_wp2_with fail
 refine (HI.out _ hs1).mono ?_
 rintro e w2 ⟨rfl, hb2⟩
 have hs2 : Since w w2 := hs1.later hb2
 go_wp2_with fail
 go_ret2
 exact ⟨by simp, hs2⟩
theorem pdigit_no (s : ByteArray) (h : dgN s.data.toList = none) (hs : s.size ≤ 1000000) (w : World) (hP : PTab w) (hS : STab w) :
  Calls Tryz.prog 160 #[.string s] w fun e w' => ∃ n : Int, e = .returned (.tuple #[.int .i64 n, .bool false]) ∧ Below w.heap.size w w' := by
 have hsz : s.data.toList.length = s.size := by rw [Array.length_toList]; rfl
 cases ha : Lib.atoiAll s.data.toList
 case ok v =>
  obtain ⟨vb0, vb1⟩ := Lib.atoiAll_bounds ha
  have HA : Hid (Calls Tryz.prog 182 #[.string s] w fun e w' => e = .returned (.tuple #[.int .i64 v, .nilIface]) ∧ Below w.heap.size w w') := Lib.hid (by
   refine (Tryz.strconv_Atoi_ok s (by omega) v ha w).mono ?_
   rintro e w' ⟨rfl, rfl | ⟨t, rfl⟩⟩
   · exact ⟨rfl, Below.refl _ _⟩
   · exact ⟨rfl, Lib.bytesWorld_below _ _ _⟩)
  by_cases hv0 : 0 ≤ v
  case neg =>
   have hq : decide (0 ≤ v) = false := by simpa using hv0
   clear h ha hsz hP hS hv0
   go_enter Tryz.func160, Tryz.ntmps160
   go_wp2_with fail
   refine HA.out.mono ?_
   rintro e w1 ⟨rfl, hb1⟩
   have hs1 : Since w w1 := hb1
   clear hb1
   go_wp2_with fail
   go_ret2
   exact ⟨_, rfl, hs1⟩
  by_cases h4 : s.size ≤ 4
  case neg =>
   have hq : decide ((s.size : Int) ≤ 4) = false := by simp; omega
   clear h ha hsz hP hS
   go_enter Tryz.func160, Tryz.ntmps160
   go_wp2_with fail
   refine HA.out.mono ?_
   rintro e w1 ⟨rfl, hb1⟩
   have hs1 : Since w w1 := hb1
   clear hb1
   go_wp2_with fail
   go_ret2
   exact ⟨_, rfl, hs1⟩
  have hne : Lib.itoa v ≠ s.data.toList := dg_no h hv0 (by omega)
  have HI : Hid (∀ W, Since w W → Calls Tryz.prog 165 #[.int .i64 v] W fun e w' => ∃ X : ByteArray, e = .returned (.string X) ∧ (X.toList == s.toList) = false ∧ Below W.heap.size W w') := Lib.hid (fun W hW => by
   refine (Tryz.strconv_Itoa v vb0 vb1 W (hP.later hW)).mono ?_
   rintro e w' ⟨rfl, k, os, rfl⟩
   refine ⟨_, rfl, ?_, below_grow _ _ _⟩
   rw [beq_eq_false_iff_ne]
   intro e
   apply hne
   rw [Lib.toList_data, Lib.toList_data] at e
   exact e)
  have hq3 : (s.size : Int) ≤ 4 := by omega
  clear h ha hsz hP hS hne
  go_enter Tryz.func160, Tryz.ntmps160
  go_wp2_with fail
  refine HA.out.mono ?_
  rintro e w1 ⟨rfl, hb1⟩
  have hs1 : Since w w1 := hb1
  go_wp2_with fail
  refine (HI.out _ hs1).mono ?_
  rintro e w2 ⟨X, rfl, hX, hb2⟩
  have hs2 : Since w w2 := hs1.later hb2
  clear hb2
  go_wp2_with fail
  go_ret2
  exact ⟨v, by simp, hs2⟩
 case range =>
  obtain ⟨te, pe, hv⟩ := hS.2
  have HA := Lib.hid (Tryz.strconv_Atoi_range s (by omega) ha _ w hv (Or.inr ⟨te, pe, rfl⟩))
  generalize Lib.atoiSat s.data.toList = sat at *
  clear h ha hsz hP hS hv
  go_enter Tryz.func160, Tryz.ntmps160
  go_wp2_with fail
  refine HA.out.mono ?_
  rintro e w1 ⟨N, rfl, -, -, hb1⟩
  have hs1 : Since w w1 := hb1
  clear hb1
  go_wp2_with fail
  go_ret2
  exact ⟨_, rfl, hs1⟩
 next =>
  obtain ⟨te, pe, hv⟩ := hS.1
  have HA := Lib.hid (Any.strconv_Atoi_syntax Tryz.laysC172 s (by omega) ha _ w hv (Or.inr ⟨te, pe, rfl⟩))
  clear h ha hsz hP hS hv
  go_enter Tryz.func160, Tryz.ntmps160
  go_wp2_with fail
  refine HA.out.mono ?_
  rintro e w1 ⟨N, rfl, -, -, hb1⟩
  have hs1 : Since w w1 := hb1
  clear hb1
  go_wp2_with fail
  go_ret2
  exact ⟨_, rfl, hs1⟩
def NumsOut (o : Option (List Nat)) (w w' : World) (e : Ending) : Prop := match o with
 | none => e = .returned (.tuple #[.slice none 0 0, .bool false])
 | some ns => ∃ A' c', e = .returned (.tuple #[.slice A' ns.length c', .bool true]) ∧ Lst w' 3 1 (.slice A' ns.length c') (ns.map fun (n : Nat) => intRow n) ∧ ∀ q, q ∈ blocks (.slice A' 0 0) → w.heap.size ≤ q
theorem pnums (A : Option Addr) (cap : Nat) (L : List ByteArray) (w : World) (hP : PTab w) (hS : STab w) (hlen : L.length ≤ 100000) (hsz : ∀ x ∈ L, x.size ≤ 1000000) (hc : L ≠ [] → ∃ b off, A = some ⟨b, off, none⟩ ∧ b < w.heap.size ∧ ∀ i, i < L.length → w.cell? ⟨b, off + i, none⟩ = some (.string (sth L i))) :
  Calls Tryz.prog 143 #[.slice A L.length cap] w fun e w' => Below w.heap.size w w' ∧ NumsOut (nums (L.map (·.data.toList))) w w' e := by
 have HP := Lib.hid hP
 have HS := Lib.hid hS
 have HZ := Lib.hid hsz
 have HC := Lib.hid hc
 obtain ⟨m, hm⟩ : ∃ m, L.length = m := ⟨_, rfl⟩
 have HM := Lib.hid hm
 have hm2 : m ≤ 100000 := by omega
 rw [hm]
 clear hP hS hsz hc hm hlen
 go_enter Tryz.func143, Tryz.ntmps143
 go_wp2_with fail
 go_loopw [4, 11] (fun s4 s11 wr => ∃ (i : Nat) (A' : Option Addr) (c : Nat) (ns : List Nat), s4 = .slice A' i c ∧ s11 = .int .i64 i ∧ i ≤ m ∧ Hid (nums ((L.take i).map (·.data.toList)) = some ns) ∧ Hid (Lst wr 3 1 (.slice A' i c) (ns.map fun (n : Nat) => intRow n)) ∧ Hid (∀ q, q ∈ blocks (.slice A' 0 0) → w.heap.size ≤ q) ∧ Since w wr) (fun _ s11 _ => m - (intOf s11).toNat)
 case atStart => exact ⟨0, none, 0, [], rfl, rfl, Nat.zero_le _, Lib.hid rfl, Lib.hid (Lst.nil _ _ _), Lib.hid (by simp [Value.ownBlock]), Since.refl _⟩
 case round =>
  obtain ⟨i, A', c, ns, rfl, rfl, hi, HN, HL, HW, hs⟩ := hrel
  have HLEN : Hid (ns.length = i) := Lib.hid (by have := nums_len HN.out; rw [List.length_map, List.length_take, HM.out] at this; omega)
  by_cases hlt : i < m
  case neg =>
   obtain rfl : i = m := by omega
   have hf : decide ((i : Int) < (i : Int)) = false := by simp
   have HT : Hid (nums (L.map (·.data.toList)) = some ns) := Lib.hid (by have := HN.out; rw [List.take_of_length_le (by rw [HM.out]; exact Nat.le_refl _)] at this; exact this)
   go_wp2_with fail
   go_ret2
   refine ⟨hs, ?_⟩
   rw [HT.out]
   unfold NumsOut
   exact ⟨A', c, by rw [HLEN.out]; rfl, by rw [HLEN.out]; exact HL.out, HW.out⟩
  have hlt' : (i : Int) < (m : Int) := by omega
  obtain ⟨b, off, rfl, hbl, hcc⟩ := HC.out (by rintro rfl; have := HM.out; simp at this; omega)
  have ct : wr.cell? ⟨b, off + i, none⟩ = some (.string (sth L i)) := hs.cell hbl (hcc i (by rw [HM.out]; exact hlt))
  have hil : i < L.length := by rw [HM.out]; exact hlt
  have hmem : sth L i ∈ L := by
   unfold sth
   rw [show L.getD i ByteArray.empty = L[i] by simp [List.getD, List.getElem?_eq_getElem hil]]
   exact List.getElem_mem hil
  have htk : Hid ((L.take (i + 1)).map (·.data.toList) = (L.take i).map (·.data.toList) ++ [(sth L i).data.toList]) := Lib.hid (by
   rw [List.take_succ_eq_append_getElem hil, List.map_append]
   unfold sth
   simp [List.getD, List.getElem?_eq_getElem hil])
  have htl : Hid (L.map (·.data.toList) = (L.take (i + 1)).map (·.data.toList) ++ (L.drop (i + 1)).map (·.data.toList)) := Lib.hid (by rw [← List.map_append, List.take_append_drop])
  have hxz := HZ.out _ hmem
  generalize sth L i = x at *
  clear hcc hil hmem
  cases hd : dgN x.data.toList with
  | none =>
    have HD := Lib.hid (pdigit_no x hd hxz wr (HP.out.later hs) (HS.out.later hs))
    have HT : Hid (nums (L.map (·.data.toList)) = none) := Lib.hid (by
     rw [htl.out]
     apply nums_bad
     rw [htk.out, nums_snoc, HN.out, hd])
    clear hd hxz
    go_wp2_with fail
    refine HD.out.mono ?_
    rintro e w1 ⟨k, rfl, hb1⟩
    have hs1 := hs.later hb1
    clear hb1
    go_wp2_with fail
    go_ret2
    refine ⟨hs1, ?_⟩
    rw [HT.out]
    rfl
  | some n =>
    have HD := Lib.hid (pdigit_yes x n hd wr (HP.out.later hs))
    have HN2 : Hid (nums ((L.take (i + 1)).map (·.data.toList)) = some (ns ++ [n])) := Lib.hid (by rw [htk.out, nums_snoc, HN.out, hd])
    have HML : Hid ((ns.map fun (n : Nat) => intRow n).length = i) := Lib.hid (by rw [List.length_map, HLEN.out])
    clear hd hxz
    go_wp2_with fail
    refine HD.out.mono ?_
    rintro e w1 ⟨rfl, hb1⟩
    have hs1 := hs.later hb1
    have HL1 := Lib.hid (HL.out.later hb1)
    clear hb1 HD
    go_wp2_with (at_builtin; refine wpList_push rfl _ _ 22 rfl 3 1 8 Tryz.elInt (.slice A' i c) (ns.map fun (n : Nat) => intRow n) rfl (HL1.out.alloc _) w1.heap.size 1 [.int .i64 n] rfl rfl (intRow_one n).2 (BlockIs.fresh _ _ _) (by rw [HML.out]; omega) ?_; intro q cq w5 hl5 ho5 hq5 hlt5)
    rw [HML.out] at hl5
    have hs5 : Since w w5 := (hs1.alloc _).out' ho5 (fun k hk => HW.out k (by rw [blocks_any A' 0 0 i c]; exact hk))
    have HW5 : Hid (∀ j, j ∈ blocks (.slice (some ⟨q, 0, none⟩) 0 0) → w.heap.size ≤ j) := Lib.hid (fun j hj => by
     have hj' : q = j := by simpa [Value.ownBlock] using hj
     rcases hq5 with h | h
     · rw [← hj']; exact HW.out q (by rw [blocks_any A' 0 0 i c]; exact h)
     · rw [← hj', h]; have := hs1.le; simp; omega)
    have HL5 : Hid (Lst w5 3 1 (.slice (some ⟨q, 0, none⟩) (i + 1) cq) ((ns ++ [n]).map fun (n : Nat) => intRow n)) := Lib.hid (by rw [List.map_append]; exact hl5)
    clear hl5 ho5 hq5 hlt5
    go_wp2_with fail
    go_roundw
    case rel => exact ⟨i + 1, some ⟨q, 0, none⟩, cq, ns ++ [n], by first | rfl | rw [HML.out] | rw [HLEN.out], by go_num, by omega, HN2, HL5, HW5, hs5⟩
    case measure => simp [intOf]; omega
end Go.Proofs.YtmfbaijbigodkaaGreatDoor
