/- Contracts and plain laws that the claim leans on, part 1 of 1: each part has its own word. No condition beside theirs. -/
import Derived.Test.YtmfbaijbigodkaaGreatDoorZJ
import Derived.Laws.IdiomCopy
import Derived.Deep.RegionLaw
import Derived.Lib.SliceRun
import Derived.Deep.QuietTactic
import Derived.BigQuiet
import Derived.BigRegion
import Derived.StillTailTactics
/-! slices.Delete of one element, over a slice of the call's own: laws on the cells. Condition: the slice is the call's own. -/
namespace Go.Proofs.YtmfbaijbigodkaaGreatDoor
open Go.ChangeShapes Go.WideShapes Go.ChangeAt Go.RowKit
set_option linter.unusedVariables false

/-- cells laid one behind the other -/
def putz (cs : Array Value) : Nat → List Value → Array Value
  | _, [] => cs
  | o, v :: r => putz (cs.setIfInBounds o v) (o + 1) r
theorem putz_size : ∀ (vs : List Value) (cs : Array Value) (o : Nat), (putz cs o vs).size = cs.size
  | [], cs, o => rfl
  | v :: r, cs, o => by unfold putz; rw [putz_size r]; simp
theorem putz_list : ∀ (vs : List Value) (cs : Array Value) (o : Nat), o + vs.length ≤ cs.size → (putz cs o vs).toList = cs.toList.take o ++ vs ++ cs.toList.drop (o + vs.length)
  | [], cs, o, h => by simp [putz]
  | v :: r, cs, o, h => by
    rw [List.length_cons] at h
    unfold putz
    rw [putz_list r (cs.setIfInBounds o v) (o + 1) (by simp; omega)]
    rw [Array.toList_setIfInBounds]
    have ho : o < cs.toList.length := by simp; omega
    rw [List.take_set, List.drop_set_of_lt (by omega)]
    have e1 : (cs.toList.take (o + 1)).set o v = cs.toList.take o ++ [v] := by
      rw [List.take_succ_eq_append_getElem ho, List.set_append_right _ _ (by rw [List.length_take]; omega), List.length_take, show o - min o cs.toList.length = 0 from by omega]
      rfl
    rw [e1, List.length_cons, show o + 1 + r.length = o + (r.length + 1) from by omega]
    simp
theorem BlockIs.putAll : ∀ (vs : List Value) {w : World} {g : Nat} {t : TypeId} {cs : Array Value} (h : BlockIs w g t cs) (o : Nat), BlockIs (w.setCells g o vs) g t (putz cs o vs)
  | [], _, _, _, _, h, _ => h
  | v :: r, w, g, t, cs, h, o => by
    unfold World.setCells putz
    exact BlockIs.putAll r (h.put o v) (o + 1)
theorem Out.putAll : ∀ (vs : List Value) (w : World) (g o : Nat), Out w (w.setCells g o vs) [g]
  | [], w, _, _ => Out.refl w _
  | v :: r, w, g, o => by
    unfold World.setCells
    exact ((Out.refl w [g]).put (p := ⟨g, o, none⟩) (Or.inl (by simp)) v).trans (Out.putAll r _ g (o + 1))
theorem run_clear1 {P : Program} (w : World) (t e ty : TypeId) (z : Value) (zs : List Value) (ht : P.underlying t = some (.slice e)) (hv : (zeroValue e).run P w = .ok z w) (hz : z.cells = zs.toArray) (h1 : ∀ u ∈ zs, u.oneCell' = true) (b o c n : Nat) (hn : n = 1)
    (hc : ∀ j, j < zs.length → (w.cell? ⟨b, o + j, none⟩).isSome = true) (hf : ∀ j, j < zs.length → w.frozen? ⟨b, o + j, none⟩ = false) :
    (Builtin.clear_ #[t] ty #[.slice (some ⟨b, o, none⟩) n c]).run P w = .ok (.tuple #[]) (w.setCells b o zs) := by
  subst hn
  have hzc : (Builtin.zeroCells z.cells 1).toList = zs := by
    rw [hz]
    simp [Builtin.zeroCells]
    apply List.ext_getElem
    · simp
    · intro i h1 h2
      simp at h1
      simp [Nat.mod_eq_of_lt h1, h1]
  have hst := run_storeCells_cells (P := P) b o zs 0 w (by simpa using hc) (by simpa using hf) h1
  simp only [Nat.add_zero] at hst
  simp [Builtin.clear_, run_underlying ht, hv, hzc, hst]

/-- what is left behind a deletion -/
theorem del_cells {E size : Nat} {w : World} {g cap : Nat} {es : List (List Value)} (h : Lst w E size (.slice (some ⟨g, 0, none⟩) es.length cap) es) {i : Nat} (hi : i < es.length) (hs : 0 < size) (zs : List Value) (hz : zs.length = size) :
    ∃ cur, BlockIs w g E cur ∧ cur.size = cap * size ∧ es.length ≤ cap ∧ cap ≤ maxLen ∧
      ((putz (putz cur (i * size) (flat (es.drop (i + 1)))) ((es.length - 1) * size) zs).toList.take ((es.length - 1) * size) = flat (es.take i ++ es.drop (i + 1))) := by
  rcases h.own.2 with ⟨h0, _⟩ | ⟨g', cap', cur, hv, _, hg, h1, h2, h3, h4⟩
  · cases h0
  simp only [Value.slice.injEq, Option.some.injEq, Addr.mk.injEq, and_true, true_and] at hv
  obtain ⟨rfl, rfl⟩ := hv
  refine ⟨cur, hg, h3, h1, h2, ?_⟩
  have hr : ∀ e ∈ es, e.length = size := fun e he => (h.rows e he).1
  have hdl : (flat (es.drop (i + 1))).length = (es.length - (i + 1)) * size := by
    rw [flat_length (fun e he => hr e (List.mem_of_mem_drop he)), List.length_drop]
  have hA : i * size + (es.length - (i + 1)) * size = (es.length - 1) * size := by rw [← Nat.add_mul]; congr 1; omega
  have hB : (es.length - 1) * size + size = es.length * size := by
    obtain ⟨m, hm⟩ : ∃ m, es.length = m + 1 := ⟨es.length - 1, by omega⟩
    rw [hm, Nat.add_sub_cancel, Nat.succ_mul]
  have hC : es.length * size ≤ cap * size := Nat.mul_le_mul_right _ h1
  have hle1 : i * size + (flat (es.drop (i + 1))).length ≤ cur.size := by rw [hdl, h3]; omega
  rw [putz_list zs _ _ (by rw [putz_size, hz, h3]; omega), putz_list _ cur _ hle1]
  have ht : cur.toList.take (i * size) = flat (es.take i) := by
    rw [← flat_take hr i, ← h4, List.take_take, Nat.min_eq_left (Nat.mul_le_mul_right _ (by omega))]
  rw [ht]
  have hl1 : (flat (es.take i) ++ flat (es.drop (i + 1))).length = (es.length - 1) * size := by
    rw [List.length_append, hdl, flat_length (fun e he => hr e (List.mem_of_mem_take he)), List.length_take, Nat.min_eq_left (by omega), hA]
  have hfl : flat (es.take i ++ es.drop (i + 1)) = flat (es.take i) ++ flat (es.drop (i + 1)) := by simp [flat]
  rw [hfl]
  generalize flat (es.take i) ++ flat (es.drop (i + 1)) = X at *
  rw [List.append_assoc, List.take_append_of_le_length (by rw [List.length_take, List.length_append, hl1]; omega), List.take_take, Nat.min_self, List.take_append_of_le_length (by omega), List.take_of_length_le (by omega)]
end Go.Proofs.YtmfbaijbigodkaaGreatDoor

/-! Package link: in plain words, and contracts of New, Count, Full, Who, is, Send, Twice. Condition: the block holds a link as New and the calls leave it. -/
namespace Go.Proofs.YtmfbaijbigodkaaGreatDoor
open Go.ChangeShapes Go.WideShapes Go.ChangeAt Go.RowKit
set_option linter.unusedVariables false

/-- a letter: to whom, and its bytes -/
structure Let where
  too : Int
  b : ByteArray
def letRow (d : Let) : List Value := [.int .i64 d.too, .string d.b]
def noLet : Let := ⟨0, ⟨#[]⟩⟩
theorem letRow_one (d : Let) : (letRow d).length = 2 ∧ ∀ u ∈ letRow d, u.oneCell' = true := ⟨rfl, by intro u hu; simp [letRow] at hu; rcases hu with rfl | rfl <;> rfl⟩
theorem Tryz.elLet : Elem Tryz.prog 166 170 2 24 := ⟨Tryz.underlying166, ⟨.agg #[.int .i64 0, .string ⟨#[]⟩], rfl, by kernel_rfl⟩, by decide, by decide⟩
theorem elem_of_let {L : List Let} {i : Nat} (h : i < L.length) : (L.map letRow)[i]? = some (letRow L[i]) := by simp [h]
/-- is there such a letter -/
def isB (L : List Let) (x : Int) : Bool := decide (0 ≤ x) && decide (x < (L.length : Int))
def whoB (x : Int) : Bool := decide (x = 0) || decide (x = 1)
theorem isB_iff {L : List Let} {x : Int} : isB L x = true ↔ 0 ≤ x ∧ x < L.length := by unfold isB; simp
theorem isB_no {L : List Let} {x : Int} : isB L x = false ↔ ¬ (0 ≤ x ∧ x < L.length) := by rw [← isB_iff]; cases isB L x <;> simp
def sendE (L : List Let) (too : Int) (b : ByteArray) : Int := if whoB too = true then (if L.length = 40 ∨ 200 < b.size then 4 else 0) else 1
def sendL (L : List Let) (too : Int) (b : ByteArray) : List Let := if sendE L too b = 0 then L ++ [⟨too, b⟩] else L
def giveE (L : List Let) (x : Int) : Int := if isB L x = true then 0 else 1
def giveD (L : List Let) (x : Int) : Let := if isB L x = true then L.getD x.toNat noLet else noLet
def giveL (L : List Let) (x : Int) : List Let := if isB L x = true then L.take x.toNat ++ L.drop (x.toNat + 1) else L
def twiceE (L : List Let) (x : Int) : Int := if isB L x = true then (if L.length = 40 then 4 else 0) else 1
def twiceL (L : List Let) (x : Int) : List Let := if twiceE L x = 0 then L ++ [L.getD x.toNat noLet] else L

/-- a link at g: its letters lie in the slice v -/
structure Kz (w : World) (g : Nat) (v : Value) (L : List Let) : Prop where
  bl : BlockIs w g 168 #[v]
  ls : Lst w 170 2 v (L.map letRow)
  few : L.length ≤ 40
theorem Kz.later {w w1 : World} {g : Nat} {v : Value} {L : List Let} (h : Kz w g v L) (hb : Below w.heap.size w w1) : Kz w1 g v L := ⟨h.bl.later hb, h.ls.later hb, h.few⟩
theorem Kz.kept {w w1 : World} {g : Nat} {v : Value} {L : List Let} {S : List Nat} (h : Kz w g v L) (hg : Out w w1 S) (h1 : ∀ k, k ∈ g :: blocks v → k ∉ S) : Kz w1 g v L :=
  ⟨hg.block' h.bl (h1 _ (by simp)), h.ls.kept hg (fun k hk => h1 k (by simp [hk])), h.few⟩
theorem Kz.lt {w : World} {g : Nat} {v : Value} {L : List Let} (h : Kz w g v L) : ∀ k, k ∈ g :: blocks v → k < w.heap.size := by
  intro k hk
  rcases List.mem_cons.1 hk with rfl | hk
  · exact h.bl.lt
  · exact h.ls.lt k hk
/-- what a call leaves: its blocks and what is new alone have changed -/
def KLeft (w w' : World) (g : Nat) (v : Value) (L : List Let) : Prop := ∃ v', Kz w' g v' L ∧ Out w w' (g :: blocks v) ∧ ∀ k, k ∈ blocks v' → k ∈ blocks v ∨ w.heap.size ≤ k
theorem KLeft.same {w w' : World} {g : Nat} {v : Value} {L : List Let} (h : Kz w g v L) (hb : Below w.heap.size w w') : KLeft w w' g v L := ⟨v, h.later hb, Out.of_below hb _, fun k hk => Or.inl hk⟩

theorem who_any (x : Int) (w : World) : Calls Tryz.prog 68 #[.int .i64 x] w fun e w' => e = .returned (.bool (whoB x)) ∧ w = w' := by
  unfold whoB
  by_cases h0 : x = 0
  · subst h0
    go_enter Tryz.func68, Tryz.ntmps68
    go_wp2
    go_ret
    exact ⟨rfl, rfl⟩
  · have a0 : (x == 0) = false := by simpa using h0
    have b0 : decide (x = 0) = false := by simpa using h0
    rw [b0, Bool.false_or]
    by_cases h1 : x = 1
    · subst h1
      clear h0 a0 b0
      go_enter Tryz.func68, Tryz.ntmps68
      go_wp2
      go_ret
      exact ⟨rfl, rfl⟩
    · have a1 : (x == 1) = false := by simpa using h1
      have b1 : decide (x = 1) = false := by simpa using h1
      rw [b1]
      clear h0 h1 b0 b1
      go_enter Tryz.func68, Tryz.ntmps68
      go_wp2
      go_ret
      exact ⟨rfl, rfl⟩
theorem knew (w : World) : Calls Tryz.prog 67 #[] w fun e w' => e = .returned (.pointer (some ⟨w.heap.size, 0, none⟩)) ∧ Kz w' w.heap.size (.slice none 0 0) [] ∧ Below w.heap.size w w' := by
  go_enter Tryz.func67, Tryz.ntmps67
  go_wp2
  go_ret
  exact ⟨rfl, ⟨BlockIs.fresh _ _ _, Lst.nil _ _ _, by simp⟩, (Below.refl _ _).alloc (Nat.le_refl _) _⟩
theorem kcount (g : Nat) (v : Value) (L : List Let) (w : World) (h : Kz w g v L) : Calls Tryz.prog 74 #[.pointer (some ⟨g, 0, none⟩)] w fun e w' => e = .returned (.int .i64 L.length) ∧ w = w' := by
  have c0 : w.cell? ⟨g, 0, none⟩ = some v := h.bl.cell 0
  obtain ⟨A, cap, hve, _, _, _⟩ := h.ls.shape
  rw [List.length_map] at hve
  subst hve
  clear h
  go_enter Tryz.func74, Tryz.ntmps74
  go_wp2
  go_ret
  exact ⟨rfl, rfl⟩
def fullB (L : List Let) : Bool := decide (L.length = 40)
theorem kfull (g : Nat) (v : Value) (L : List Let) (w : World) (h : Kz w g v L) : Calls Tryz.prog 69 #[.pointer (some ⟨g, 0, none⟩)] w fun e w' => e = .returned (.bool (fullB L)) ∧ w = w' := by
  have c0 : w.cell? ⟨g, 0, none⟩ = some v := h.bl.cell 0
  obtain ⟨A, cap, hve, _, _, _⟩ := h.ls.shape
  rw [List.length_map] at hve
  subst hve
  clear h
  have E : Hid (((L.length : Int) == 40) = fullB L) := Lib.hid (by
    unfold fullB
    by_cases h : L.length = 40
    · simp [h]
    · have h2 : ¬ (L.length : Int) = 40 := by omega
      simp [h, h2])
  go_enter Tryz.func69, Tryz.ntmps69
  go_wp2
  go_ret
  exact ⟨by rw [← E.out]; rfl, rfl⟩
theorem kis (g : Nat) (v : Value) (L : List Let) (x : Int) (w : World) (h : Kz w g v L) : Calls Tryz.prog 109 #[.pointer (some ⟨g, 0, none⟩), .int .i64 x] w fun e w' => e = .returned (.bool (isB L x)) ∧ w = w' := by
  have c0 : w.cell? ⟨g, 0, none⟩ = some v := h.bl.cell 0
  obtain ⟨A, cap, hve, _, _, _⟩ := h.ls.shape
  rw [List.length_map] at hve
  subst hve
  clear h
  unfold isB
  by_cases h0 : 0 ≤ x
  · have b0 : decide (0 ≤ x) = true := by simpa using h0
    rw [b0, Bool.true_and]
    clear b0
    go_enter Tryz.func109, Tryz.ntmps109
    go_wp2
    go_ret
    exact ⟨rfl, rfl⟩
  · have b0 : decide (0 ≤ x) = false := by simpa using h0
    rw [b0, Bool.false_and]
    go_enter Tryz.func109, Tryz.ntmps109
    go_wp2
    go_ret
    exact ⟨rfl, rfl⟩

/-- one letter more: the slice was grown, and stored -/
theorem kpush {w w5 : World} {g q cq : Nat} {v : Value} {L : List Let} (d : Let) (hb5 : BlockIs w5 g 168 #[v]) (hl5 : Lst w5 170 2 (.slice (some ⟨q, 0, none⟩) (L.length + 1) cq) (L.map letRow ++ [letRow d]))
    (hO5 : Out w w5 (g :: blocks v)) (hq : q ∈ blocks v ∨ w.heap.size ≤ q) (hlt : L.length < 40) : KLeft w (w5.setCell ⟨g, 0, none⟩ (.slice (some ⟨q, 0, none⟩) (L.length + 1) cq)) g v (L ++ [d]) := by
  have hqg : q ≠ g := fun e => by have := hl5.apart hb5 (by decide); rw [e] at this; simp [Value.ownBlock] at this
  refine ⟨.slice (some ⟨q, 0, none⟩) (L.length + 1) cq, ⟨hb5.put 0 _, ?_, by simp; omega⟩, hO5.put (p := ⟨g, 0, none⟩) (Or.inl (by simp)) _, fun k hk => ?_⟩
  · rw [List.map_append]
    exact hl5.kept (S := [g]) ((Out.refl w5 [g]).put (p := ⟨g, 0, none⟩) (Or.inl (by simp)) _) (fun k hk hm => by
      have hkq : q = k := by simpa [Value.ownBlock] using hk
      rw [List.mem_singleton.1 hm] at hkq
      exact hqg hkq)
  · have hkq : q = k := by simpa [Value.ownBlock] using hk
    rw [← hkq]
    exact hq

set_option maxHeartbeats 1600000 in
theorem ksend (g : Nat) (v : Value) (L : List Let) (x : Int) (b : ByteArray) (w : World) (h : Kz w g v L) (hb : b.size ≤ 9223372036854775807) :
    Calls Tryz.prog 70 #[.pointer (some ⟨g, 0, none⟩), .int .i64 x, .string b] w fun e w' => e = .returned (errV (sendE L x b)) ∧ KLeft w w' g v (sendL L x b) := by
  have H := Lib.hid h
  have c0 : w.cell? ⟨g, 0, none⟩ = some v := h.bl.cell 0
  have f0 := h.bl.free
  have lg := h.bl.lt
  obtain ⟨A, cap, hve, _, _, _⟩ := h.ls.shape
  rw [List.length_map] at hve
  subst hve
  have hfew := h.few
  clear h
  by_cases hw : whoB x = true
  case neg =>
    have hw' : whoB x = false := by simpa using hw
    have E : Hid (sendE L x b = 1) := Lib.hid (by unfold sendE; rw [if_neg hw])
    have EL : Hid (sendL L x b = L) := Lib.hid (by unfold sendL; rw [E.out, if_neg (by decide)])
    have HW := Lib.hid hw'
    clear hw hw'
    go_enter Tryz.func70, Tryz.ntmps70
    go_wp2_with (go_at_call 68; refine (who_any x _).mono ?_; rintro e w' ⟨rfl, rfl⟩; rw [HW.out])
    go_ret
    exact ⟨by rw [E.out]; rfl, by rw [EL.out]; exact KLeft.same H.out (Below.refl _ _)⟩
  have HW := Lib.hid hw
  clear hw
  by_cases hf : L.length = 40
  · have E : Hid (sendE L x b = 4) := Lib.hid (by unfold sendE; rw [if_pos HW.out, if_pos (Or.inl hf)])
    have EL : Hid (sendL L x b = L) := Lib.hid (by unfold sendL; rw [E.out, if_neg (by decide)])
    have HF : Hid (fullB L = true) := Lib.hid (by unfold fullB; simpa using hf)
    clear hf
    go_enter Tryz.func70, Tryz.ntmps70
    go_wp2_with (first | (go_at_call 68; refine (who_any x _).mono ?_; rintro e w' ⟨rfl, rfl⟩; rw [HW.out]) | (go_at_call 69; refine (kfull g _ L _ H.out).mono ?_; rintro e w' ⟨rfl, rfl⟩; rw [HF.out]))
    go_ret
    exact ⟨by rw [E.out]; rfl, by rw [EL.out]; exact KLeft.same H.out (Below.refl _ _)⟩
  have HF : Hid (fullB L = false) := Lib.hid (by unfold fullB; simpa using hf)
  by_cases h2 : 200 < b.size
  · have E : Hid (sendE L x b = 4) := Lib.hid (by unfold sendE; rw [if_pos HW.out, if_pos (Or.inr h2)])
    have EL : Hid (sendL L x b = L) := Lib.hid (by unfold sendL; rw [E.out, if_neg (by decide)])
    have h2' : (200 : Int) < (b.size : Int) := by omega
    clear hf
    go_enter Tryz.func70, Tryz.ntmps70
    go_wp2_with (first | (go_at_call 68; refine (who_any x _).mono ?_; rintro e w' ⟨rfl, rfl⟩; rw [HW.out]) | (go_at_call 69; refine (kfull g _ L _ H.out).mono ?_; rintro e w' ⟨rfl, rfl⟩; rw [HF.out]))
    go_ret
    exact ⟨by rw [E.out]; rfl, by rw [EL.out]; exact KLeft.same H.out (Below.refl _ _)⟩
  have E : Hid (sendE L x b = 0) := Lib.hid (by unfold sendE; rw [if_pos HW.out, if_neg (by omega)])
  have EL : Hid (sendL L x b = L ++ [⟨x, b⟩]) := Lib.hid (by unfold sendL; rw [E.out, if_pos rfl])
  have h2' : decide ((200 : Int) < (b.size : Int)) = false := by simp; omega
  have hml : (L.map letRow).length = L.length := List.length_map ..
  have hga := H.out.ls.apart H.out.bl (by decide)
  have HML := Lib.hid hml
  have HGA := Lib.hid hga
  have hlt : L.length < 40 := by omega
  clear hf hml hga
  go_enter Tryz.func70, Tryz.ntmps70
  go_wp2_with (first | (go_at_call 68; refine (who_any x _).mono ?_; rintro e w' ⟨rfl, rfl⟩; rw [HW.out]) | (go_at_call 69; refine (kfull g _ L _ H.out).mono ?_; rintro e w' ⟨rfl, rfl⟩; rw [HF.out]) | (at_builtin; refine wpList_push rfl _ _ 166 rfl 170 2 24 Tryz.elLet (.slice A L.length cap) (L.map letRow) rfl (H.out.ls.alloc _) w.heap.size 1 [.int .i64 x, .string b] rfl rfl (letRow_one ⟨x, b⟩).2 (BlockIs.fresh _ _ _) (by rw [HML.out]; omega) ?_; intro q cq w5 hl5 ho5 hq5 hlt5; have hb5 := ho5.block' (H.out.bl.alloc _) HGA.out; have f5 := hb5.free; have d5 : w5.cell? ⟨g, 0, none⟩ = some _ := hb5.cell 0; have l5 := hb5.lt))
  go_ret
  rw [HML.out] at hl5
  have hO5 : Out w w5 (g :: blocks (.slice A L.length cap)) := ((Out.refl w _).alloc _).then' ho5 (fun k hk => Or.inl (by simp [hk]))
  refine ⟨by rw [E.out]; rfl, ?_⟩
  rw [EL.out]
  exact kpush ⟨x, b⟩ hb5 hl5 hO5 (hq5.imp id (fun h => by simp at h; omega)) hlt

set_option maxHeartbeats 1600000 in
theorem ktwice (g : Nat) (v : Value) (L : List Let) (x : Int) (w : World) (h : Kz w g v L) :
    Calls Tryz.prog 73 #[.pointer (some ⟨g, 0, none⟩), .int .i64 x] w fun e w' => e = .returned (errV (twiceE L x)) ∧ KLeft w w' g v (twiceL L x) := by
  have H := Lib.hid h
  have c0 : w.cell? ⟨g, 0, none⟩ = some v := h.bl.cell 0
  have f0 := h.bl.free
  have lg := h.bl.lt
  obtain ⟨A, cap, hve, _, _, hA⟩ := h.ls.shape
  rw [List.length_map] at hve
  subst hve
  have hfew := h.few
  have HA := Lib.hid hA
  clear h hA
  by_cases hw : isB L x = true
  case neg =>
    have hw' : isB L x = false := by simpa using hw
    have E : Hid (twiceE L x = 1) := Lib.hid (by unfold twiceE; rw [if_neg hw])
    have EL : Hid (twiceL L x = L) := Lib.hid (by unfold twiceL; rw [E.out, if_neg (by decide)])
    have HW := Lib.hid hw'
    clear hw hw'
    go_enter Tryz.func73, Tryz.ntmps73
    go_wp2_with (go_at_call 109; refine (kis g _ L x _ H.out).mono ?_; rintro e w' ⟨rfl, rfl⟩; rw [HW.out])
    go_ret
    exact ⟨by rw [E.out]; rfl, by rw [EL.out]; exact KLeft.same H.out (Below.refl _ _)⟩
  have HW := Lib.hid hw
  obtain ⟨x0, x1⟩ := isB_iff.1 hw
  obtain ⟨m, rfl⟩ := Int.eq_ofNat_of_zero_le x0
  clear hw
  by_cases hf : L.length = 40
  · have E : Hid (twiceE L m = 4) := Lib.hid (by unfold twiceE; rw [if_pos HW.out, if_pos hf])
    have EL : Hid (twiceL L m = L) := Lib.hid (by unfold twiceL; rw [E.out, if_neg (by decide)])
    have HF : Hid (fullB L = true) := Lib.hid (by unfold fullB; simpa using hf)
    clear hf
    go_enter Tryz.func73, Tryz.ntmps73
    go_wp2_with (first | (go_at_call 109; refine (kis g _ L m _ H.out).mono ?_; rintro e w' ⟨rfl, rfl⟩; rw [HW.out]) | (go_at_call 69; refine (kfull g _ L _ H.out).mono ?_; rintro e w' ⟨rfl, rfl⟩; rw [HF.out]))
    go_ret
    exact ⟨by rw [E.out]; rfl, by rw [EL.out]; exact KLeft.same H.out (Below.refl _ _)⟩
  have HF : Hid (fullB L = false) := Lib.hid (by unfold fullB; simpa using hf)
  have E : Hid (twiceE L m = 0) := Lib.hid (by unfold twiceE; rw [if_pos HW.out, if_neg hf])
  have hml : m < L.length := by omega
  have EL : Hid (twiceL L m = L ++ [L[m]]) := Lib.hid (by unfold twiceL; rw [E.out, if_pos rfl]; simp [List.getD, List.getElem?_eq_getElem hml])
  rcases HA.out with ⟨_, h0, _⟩ | ⟨q, rfl⟩
  · have : L = [] := by simpa using h0
    subst this
    simp at hml
  have q0 : w.cell? ⟨q, m * 2, none⟩ = some (.int .i64 L[m].too) := H.out.ls.cell rfl (elem_of_let hml) (j := 0) rfl
  have q1 : w.cell? ⟨q, m * 2 + 1, none⟩ = some (.string L[m].b) := H.out.ls.cell rfl (elem_of_let hml) (j := 1) rfl
  have lq := H.out.ls.lt q (by simp [Value.ownBlock])
  have HD : Hid (L[m] = ⟨L[m].too, L[m].b⟩) := Lib.hid rfl
  generalize L[m] = d at *
  obtain ⟨dt, db⟩ := d
  have hmm : (L.map letRow).length = L.length := List.length_map ..
  have hga := H.out.ls.apart H.out.bl (by decide)
  have HML := Lib.hid hmm
  have HGA := Lib.hid hga
  have hlt : L.length < 40 := by omega
  have hmi : (m : Int) < (L.length : Int) := by omega
  clear hf hmm hga HD
  go_enter Tryz.func73, Tryz.ntmps73
  go_wp2_with (first | (go_at_call 109; refine (kis g _ L m _ H.out).mono ?_; rintro e w' ⟨rfl, rfl⟩; rw [HW.out]) | (go_at_call 69; refine (kfull g _ L _ H.out).mono ?_; rintro e w' ⟨rfl, rfl⟩; rw [HF.out]))
  go_region_law ((refine step_push rfl _ _ 166 rfl 170 2 24 Tryz.elLet (.slice (some ⟨q, 0, none⟩) L.length cap) (L.map letRow) rfl ?_ w.heap.size 1 [.int .i64 dt, .string db] rfl rfl (letRow_one ⟨dt, db⟩).2 ?_ ?_ ?_; (first | exact (H.out.ls.alloc _).drew | exact H.out.ls.alloc _); (exact BlockIs.fresh w _ _); (rw [HML.out]; omega); intro q5 cq w5 hl5 ho5 hq5 hlt5; have hb5 := ho5.block' (H.out.bl.alloc _) HGA.out; have f5 := hb5.free; have d5 : w5.cell? ⟨g, 0, none⟩ = some (.slice (some ⟨q, 0, none⟩) L.length cap) := hb5.cell 0; have l5 := hb5.lt))
  all_goals
    rw [HML.out] at hl5
    have hO5 : Out w w5 (g :: blocks (.slice (some ⟨q, 0, none⟩) L.length cap)) := by
      first
        | exact ((Out.refl w _).alloc _).then' ho5 (fun k hk => Or.inl (by simp at hk ⊢; simp [hk]))
        | exact (((Out.refl w _).alloc _).drew).then' ho5 (fun k hk => Or.inl (by simp at hk ⊢; simp [hk]))
    have hKP := kpush ⟨dt, db⟩ hb5 hl5 hO5 (hq5.imp id (fun h => by simp at h; omega)) hlt
    have HKP := Lib.hid hKP
    clear hKP hl5 ho5 hq5 hO5 d5
    go_wp2_with fail
    go_ret
    refine ⟨by rw [E.out]; rfl, ?_⟩
    rw [EL.out]
    first
      | exact HKP.out
      | (obtain ⟨v', hz, ho, hk⟩ := HKP.out; exact ⟨v', ⟨hz.bl, hz.ls.drewN 1, hz.few⟩, ho.drewN 1, hk⟩)
end Go.Proofs.YtmfbaijbigodkaaGreatDoor

/-! Contracts of the reference's talk, as far as letters go: Out, Twice. Condition: the block holds a talk whose letters lie in a slice of the call's own. -/
namespace Go.Proofs.YtmfbaijbigodkaaGreatDoor
open Go.ChangeShapes Go.WideShapes Go.ChangeAt Go.RowKit
set_option linter.unusedVariables false

theorem Tryz.elRLet : Elem Tryz.prog 59 67 2 24 := ⟨Tryz.underlying59, ⟨.agg #[.int .i64 0, .string ⟨#[]⟩], rfl, by kernel_rfl⟩, by decide, by decide⟩
/-- a talk at g: its letters lie in the slice v -/
structure Tz (w : World) (g : Nat) (e0 e1 v : Value) (L : List Let) : Prop where
  bl : BlockIs w g 61 #[e0, e1, v]
  ls : Lst w 67 2 v (L.map letRow)
  few : L.length ≤ 40
theorem Tz.later {w w1 : World} {g : Nat} {e0 e1 v : Value} {L : List Let} (h : Tz w g e0 e1 v L) (hb : Below w.heap.size w w1) : Tz w1 g e0 e1 v L := ⟨h.bl.later hb, h.ls.later hb, h.few⟩
theorem Tz.kept {w w1 : World} {g : Nat} {e0 e1 v : Value} {L : List Let} {S : List Nat} (h : Tz w g e0 e1 v L) (hg : Out w w1 S) (h1 : ∀ k, k ∈ g :: blocks v → k ∉ S) : Tz w1 g e0 e1 v L :=
  ⟨hg.block' h.bl (h1 _ (by simp)), h.ls.kept hg (fun k hk => h1 k (by simp [hk])), h.few⟩
theorem Tz.lt {w : World} {g : Nat} {e0 e1 v : Value} {L : List Let} (h : Tz w g e0 e1 v L) : ∀ k, k ∈ g :: blocks v → k < w.heap.size := by
  intro k hk
  rcases List.mem_cons.1 hk with rfl | hk
  · exact h.bl.lt
  · exact h.ls.lt k hk
def TLeft (w w' : World) (g : Nat) (e0 e1 v : Value) (L : List Let) : Prop := ∃ v', Tz w' g e0 e1 v' L ∧ Out w w' (g :: blocks v) ∧ ∀ k, k ∈ blocks v' → k ∈ blocks v ∨ w.heap.size ≤ k
theorem TLeft.same {w w' : World} {g : Nat} {e0 e1 v : Value} {L : List Let} (h : Tz w g e0 e1 v L) (hb : Below w.heap.size w w') : TLeft w w' g e0 e1 v L := ⟨v, h.later hb, Out.of_below hb _, fun k hk => Or.inl hk⟩
/-- one letter more: the slice was grown, and stored -/
theorem tpush {w w5 : World} {g q cq : Nat} {e0 e1 v : Value} {L : List Let} (d : Let) (hb5 : BlockIs w5 g 61 #[e0, e1, v]) (hl5 : Lst w5 67 2 (.slice (some ⟨q, 0, none⟩) (L.length + 1) cq) (L.map letRow ++ [letRow d]))
    (hO5 : Out w w5 (g :: blocks v)) (hq : q ∈ blocks v ∨ w.heap.size ≤ q) (hlt : L.length < 40) : TLeft w (w5.setCell ⟨g, 2, none⟩ (.slice (some ⟨q, 0, none⟩) (L.length + 1) cq)) g e0 e1 v (L ++ [d]) := by
  have hqg : q ≠ g := fun e => by have := hl5.apart hb5 (by decide); rw [e] at this; simp [Value.ownBlock] at this
  refine ⟨.slice (some ⟨q, 0, none⟩) (L.length + 1) cq, ⟨hb5.put 2 _, ?_, by simp; omega⟩, hO5.put (p := ⟨g, 2, none⟩) (Or.inl (by simp)) _, fun k hk => ?_⟩
  · rw [List.map_append]
    exact hl5.kept (S := [g]) ((Out.refl w5 [g]).put (p := ⟨g, 2, none⟩) (Or.inl (by simp)) _) (fun k hk hm => by
      have hkq : q = k := by simpa [Value.ownBlock] using hk
      rw [List.mem_singleton.1 hm] at hkq
      exact hqg hkq)
  · have hkq : q = k := by simpa [Value.ownBlock] using hk
    rw [← hkq]
    exact hq

set_option maxHeartbeats 1600000 in
theorem ttwice (g : Nat) (e0 e1 v : Value) (L : List Let) (x : Int) (w : World) (h : Tz w g e0 e1 v L) :
    Calls Tryz.prog 34 #[.pointer (some ⟨g, 0, none⟩), .int .i64 x] w fun e w' => e = .returned (.int .i64 (twiceE L x)) ∧ TLeft w w' g e0 e1 v (twiceL L x) := by
  have H := Lib.hid h
  have c0 : w.cell? ⟨g, 2, none⟩ = some v := h.bl.cell 2
  have f0 := h.bl.free
  have lg := h.bl.lt
  obtain ⟨A, cap, hve, _, _, hA⟩ := h.ls.shape
  rw [List.length_map] at hve
  subst hve
  have hfew := h.few
  have HA := Lib.hid hA
  clear h hA
  by_cases hw : isB L x = true
  case neg =>
    have hw' := isB_no.1 (by simpa using hw)
    have E : Hid (twiceE L x = 1) := Lib.hid (by unfold twiceE; rw [if_neg hw])
    have EL : Hid (twiceL L x = L) := Lib.hid (by unfold twiceL; rw [E.out, if_neg (by decide)])
    clear hw
    by_cases h0 : x < 0
    · clear hw'
      go_enter Tryz.func34, Tryz.ntmps34
      go_wp2_with fail
      go_ret
      exact ⟨by rw [E.out]; rfl, by rw [EL.out]; exact TLeft.same H.out (Below.refl _ _)⟩
    · have h0' : decide (x < 0) = false := by simpa using h0
      have h1 : (L.length : Int) ≤ x := by omega
      clear hw' h0
      go_enter Tryz.func34, Tryz.ntmps34
      go_wp2_with fail
      go_ret
      exact ⟨by rw [E.out]; rfl, by rw [EL.out]; exact TLeft.same H.out (Below.refl _ _)⟩
  have HW := Lib.hid hw
  obtain ⟨x0, x1⟩ := isB_iff.1 hw
  obtain ⟨m, rfl⟩ := Int.eq_ofNat_of_zero_le x0
  have hx0 : decide ((m : Int) < 0) = false := by simp
  have hx1 : decide ((L.length : Int) ≤ (m : Int)) = false := by simp; omega
  clear hw
  by_cases hf : L.length = 40
  · have E : Hid (twiceE L m = 4) := Lib.hid (by unfold twiceE; rw [if_pos HW.out, if_pos hf])
    have EL : Hid (twiceL L m = L) := Lib.hid (by unfold twiceL; rw [E.out, if_neg (by decide)])
    have h40 : decide (40 ≤ (L.length : Int)) = true := by simp; omega
    clear hf
    go_enter Tryz.func34, Tryz.ntmps34
    go_wp2_with fail
    go_ret
    exact ⟨by rw [E.out]; rfl, by rw [EL.out]; exact TLeft.same H.out (Below.refl _ _)⟩
  have E : Hid (twiceE L m = 0) := Lib.hid (by unfold twiceE; rw [if_pos HW.out, if_neg hf])
  have hml : m < L.length := by omega
  have EL : Hid (twiceL L m = L ++ [L[m]]) := Lib.hid (by unfold twiceL; rw [E.out, if_pos rfl]; simp [List.getD, List.getElem?_eq_getElem hml])
  have h40 : decide (40 ≤ (L.length : Int)) = false := by simp; omega
  rcases HA.out with ⟨_, h0, _⟩ | ⟨q, rfl⟩
  · have : L = [] := by simpa using h0
    subst this
    simp at hml
  have q0 : w.cell? ⟨q, m * 2, none⟩ = some (.int .i64 L[m].too) := H.out.ls.cell rfl (elem_of_let hml) (j := 0) rfl
  have q1 : w.cell? ⟨q, m * 2 + 1, none⟩ = some (.string L[m].b) := H.out.ls.cell rfl (elem_of_let hml) (j := 1) rfl
  have lq := H.out.ls.lt q (by simp [Value.ownBlock])
  generalize L[m] = d at *
  obtain ⟨dt, db⟩ := d
  have hmm : (L.map letRow).length = L.length := List.length_map ..
  have hga := H.out.ls.apart H.out.bl (by decide)
  have HML := Lib.hid hmm
  have HGA := Lib.hid hga
  have hlt : L.length < 40 := by omega
  have hmi : (m : Int) < (L.length : Int) := by omega
  clear hf hmm hga
  go_enter Tryz.func34, Tryz.ntmps34
  go_wp2_with fail
  go_region_law ((refine step_push rfl _ _ 59 rfl 67 2 24 Tryz.elRLet (.slice (some ⟨q, 0, none⟩) L.length cap) (L.map letRow) rfl ?_ w.heap.size 1 [.int .i64 dt, .string db] rfl rfl (letRow_one ⟨dt, db⟩).2 ?_ ?_ ?_; (first | exact (H.out.ls.alloc _).drew | exact H.out.ls.alloc _); (exact BlockIs.fresh w _ _); (rw [HML.out]; omega); intro q5 cq w5 hl5 ho5 hq5 hlt5; have hb5 := ho5.block' (H.out.bl.alloc _) HGA.out; have f5 := hb5.free; have d5 : w5.cell? ⟨g, 2, none⟩ = some (.slice (some ⟨q, 0, none⟩) L.length cap) := hb5.cell 2; have l5 := hb5.lt))
  all_goals
    rw [HML.out] at hl5
    have hO5 : Out w w5 (g :: blocks (.slice (some ⟨q, 0, none⟩) L.length cap)) := by
      first
        | exact ((Out.refl w _).alloc _).then' ho5 (fun k hk => Or.inl (by simp at hk ⊢; simp [hk]))
        | exact (((Out.refl w _).alloc _).drew).then' ho5 (fun k hk => Or.inl (by simp at hk ⊢; simp [hk]))
    have hKP := tpush ⟨dt, db⟩ hb5 hl5 hO5 (hq5.imp id (fun h => by simp at h; omega)) hlt
    have HKP := Lib.hid hKP
    clear hKP hl5 ho5 hq5 hO5 d5
    go_wp2_with fail
    go_ret
    refine ⟨by rw [E.out]; rfl, ?_⟩
    rw [EL.out]
    first
      | exact HKP.out
      | (obtain ⟨v', hz, ho, hk⟩ := HKP.out; exact ⟨v', ⟨hz.bl, hz.ls.drewN 1, hz.few⟩, ho.drewN 1, hk⟩)

abbrev letV (d : Let) : Value := .agg #[.int .i64 d.too, .string d.b]
set_option maxHeartbeats 3200000 in
theorem tout (g : Nat) (e0 e1 v : Value) (L : List Let) (x : Int) (w : World) (h : Tz w g e0 e1 v L) :
    Calls Tryz.prog 31 #[.pointer (some ⟨g, 0, none⟩), .int .i64 x] w fun e w' => e = .returned (.tuple #[letV (giveD L x), .int .i64 (giveE L x)]) ∧ TLeft w w' g e0 e1 v (giveL L x) := by
  have H := Lib.hid h
  have c0 : w.cell? ⟨g, 2, none⟩ = some v := h.bl.cell 2
  have f0 := h.bl.free
  have lg := h.bl.lt
  obtain ⟨A, cap, hve, hcap, hmx, hA⟩ := h.ls.shape
  rw [List.length_map] at hve hcap
  subst hve
  have hfew := h.few
  have HA := Lib.hid hA
  unfold maxLen at hmx
  clear h hA
  by_cases hw : isB L x = true
  case neg =>
    have hw' := isB_no.1 (by simpa using hw)
    have E : Hid (giveE L x = 1) := Lib.hid (by unfold giveE; rw [if_neg hw])
    have ED : Hid (giveD L x = noLet) := Lib.hid (by unfold giveD; rw [if_neg hw])
    have EL : Hid (giveL L x = L) := Lib.hid (by unfold giveL; rw [if_neg hw])
    clear hw
    by_cases h0 : x < 0
    · clear hw'
      go_enter Tryz.func31, Tryz.ntmps31
      go_wp2_with fail
      refine bodyPost_ret (v := .tuple #[letV noLet, .int .i64 1]) (by simp [results, Tryz.results31, go_sem]; exact ⟨rfl, rfl⟩) rfl ⟨by rw [E.out, ED.out], ?_⟩
      rw [EL.out]
      exact TLeft.same H.out (by refine Since.out ?_; repeat (first | with_reducible assumption | with_reducible exact Since.refl _ | with_reducible refine Since.later ?_ (by with_reducible assumption) | with_reducible refine Since.only ?_ (by with_reducible assumption) (by first | assumption | omega | (simp; done) | (simp; omega)) | with_reducible refine Since.alloc ?_ _ | with_reducible refine Since.drewN ?_ _ | with_reducible refine Since.drew ?_ | with_reducible refine Since.set ?_ (by first | assumption | omega | (simp; done) | (simp; omega)) _))
    · have h0' : decide (x < 0) = false := by simpa using h0
      have h1 : (L.length : Int) ≤ x := by omega
      clear hw' h0
      go_enter Tryz.func31, Tryz.ntmps31
      go_wp2_with fail
      refine bodyPost_ret (v := .tuple #[letV noLet, .int .i64 1]) (by simp [results, Tryz.results31, go_sem]; exact ⟨rfl, rfl⟩) rfl ⟨by rw [E.out, ED.out], ?_⟩
      rw [EL.out]
      exact TLeft.same H.out (by refine Since.out ?_; repeat (first | with_reducible assumption | with_reducible exact Since.refl _ | with_reducible refine Since.later ?_ (by with_reducible assumption) | with_reducible refine Since.only ?_ (by with_reducible assumption) (by first | assumption | omega | (simp; done) | (simp; omega)) | with_reducible refine Since.alloc ?_ _ | with_reducible refine Since.drewN ?_ _ | with_reducible refine Since.drew ?_ | with_reducible refine Since.set ?_ (by first | assumption | omega | (simp; done) | (simp; omega)) _))
  have HW := Lib.hid hw
  obtain ⟨x0, x1⟩ := isB_iff.1 hw
  obtain ⟨m, rfl⟩ := Int.eq_ofNat_of_zero_le x0
  have hx0 : decide ((m : Int) < 0) = false := by simp
  have hx1 : decide ((L.length : Int) ≤ (m : Int)) = false := by simp; omega
  clear hw
  have hml : m < L.length := by omega
  have E : Hid (giveE L m = 0) := Lib.hid (by unfold giveE; rw [if_pos HW.out])
  have ED : Hid (giveD L m = L[m]) := Lib.hid (by unfold giveD; rw [if_pos HW.out]; simp [List.getD, List.getElem?_eq_getElem hml])
  have EL : Hid (giveL L m = L.take m ++ L.drop (m + 1)) := Lib.hid (by unfold giveL; rw [if_pos HW.out]; rfl)
  rcases HA.out with ⟨_, h0, _⟩ | ⟨q, rfl⟩
  · have : L = [] := by simpa using h0
    subst this
    simp at hml
  have q0 : w.cell? ⟨q, m * 2, none⟩ = some (.int .i64 L[m].too) := H.out.ls.cell rfl (elem_of_let hml) (j := 0) rfl
  have q1 : w.cell? ⟨q, m * 2 + 1, none⟩ = some (.string L[m].b) := H.out.ls.cell rfl (elem_of_let hml) (j := 1) rfl
  have lq := H.out.ls.lt q (by simp [Value.ownBlock])
  generalize L[m] = d at *
  obtain ⟨dt, db⟩ := d
  have hmi : (m : Int) < (L.length : Int) := by omega
  have hmc : (m : Int) ≤ (cap : Int) := by omega
  have hmc1 : (m : Int) + 1 ≤ (cap : Int) := by omega
  have hml1 : (m : Int) + 1 ≤ (L.length : Int) := by omega
  have hr : ∀ e ∈ L.map letRow, e.length = 2 ∧ ∀ u ∈ e, u.oneCell' = true := H.out.ls.rows
  have HRT : Hid (∀ e ∈ (L.take m).map letRow, e.length = 2 ∧ ∀ u ∈ e, u.oneCell' = true) := Lib.hid (fun e he => by rw [List.map_take] at he; exact hr e (List.mem_of_mem_take he))
  have HRD : Hid (∀ e ∈ (L.drop (m + 1)).map letRow, e.length = 2 ∧ ∀ u ∈ e, u.oneCell' = true) := Lib.hid (fun e he => by rw [List.map_drop] at he; exact hr e (List.mem_of_mem_drop he))
  have HT1 : Hid (∀ w1 : World, Tz w1 g e0 e1 (.slice (some ⟨q, 0, none⟩) L.length cap) L → ∀ j u, (flat ((L.take m).map letRow))[j]? = some u → w1.cell? ((⟨q, 0, none⟩ : Addr).add j) = some u) := Lib.hid (fun w1 h1 j u hu => by
    rw [List.map_take] at hu
    exact h1.ls.news_take rfl m j u hu)
  have HT2 : Hid (∀ w1 : World, Tz w1 g e0 e1 (.slice (some ⟨q, 0, none⟩) L.length cap) L → ∀ j u, (flat ((L.drop (m + 1)).map letRow))[j]? = some u → w1.cell? ((if cap = m + 1 then (⟨q, 0, none⟩ : Addr) else ⟨q, (m + 1) * 2, none⟩).add j) = some u) := Lib.hid (fun w1 h1 j u hu => by
    rw [List.map_drop] at hu
    by_cases hc : cap = m + 1
    · have h0 : L.length = m + 1 := by omega
      rw [List.drop_eq_nil_of_le (by rw [List.length_map]; omega)] at hu
      simp [flat] at hu
    · rw [if_neg hc]
      exact h1.ls.news rfl (m + 1) j u hu)
  have hl1 : ((L.take m).map letRow).length = m := by simp; omega
  have hl2 : ((L.drop (m + 1)).map letRow).length = L.length - (m + 1) := by simp
  have HL1 := Lib.hid hl1
  have HL2 := Lib.hid hl2
  obtain ⟨ad, hA, HAD⟩ : ∃ ad : Addr, (if cap = m + 1 then some (⟨q, 0, none⟩ : Addr) else some ⟨q, (m + 1) * 2, none⟩) = some ad ∧ Hid (ad = (if cap = m + 1 then (⟨q, 0, none⟩ : Addr) else ⟨q, (m + 1) * 2, none⟩)) := by
    by_cases hc : cap = m + 1
    · exact ⟨⟨q, 0, none⟩, by rw [if_pos hc], Lib.hid (by rw [if_pos hc])⟩
    · exact ⟨⟨q, (m + 1) * 2, none⟩, by rw [if_neg hc], Lib.hid (by rw [if_neg hc])⟩
  have hA2 : ((if cap = m + 1 then (⟨q, 0, none⟩ : Addr) else ⟨q, (m + 1) * 2, none⟩)) = ad := HAD.out.symm
  have hga := H.out.ls.apart H.out.bl (by decide)
  have hfar : ∀ k, k ∈ blocks (.slice (some ⟨q, 0, none⟩) L.length cap) → k < w.heap.size := H.out.ls.lt
  have HGA := Lib.hid hga
  have HFAR := Lib.hid hfar
  clear hr hl1 hl2 hga hfar
  go_enter Tryz.func31, Tryz.ntmps31
  go_wp2_with (at_builtin; first | (refine wpList_cat rfl _ _ 59 rfl 67 2 24 Tryz.elRLet (.slice none 0 0) [] rfl (Lst.nil _ _ _) ⟨q, 0, none⟩ m cap ((L.take m).map letRow) rfl HL1.out HRT.out (HT1.out _ (H.out.later (by refine Since.out ?_; repeat (first | with_reducible assumption | with_reducible exact Since.refl _ | with_reducible refine Since.later ?_ (by with_reducible assumption) | with_reducible refine Since.only ?_ (by with_reducible assumption) (by first | assumption | omega | (simp; done) | (simp; omega)) | with_reducible refine Since.alloc ?_ _ | with_reducible refine Since.drewN ?_ _ | with_reducible refine Since.drew ?_ | with_reducible refine Since.set ?_ (by first | assumption | omega | (simp; done) | (simp; omega)) _)))) (by simp; omega) ?_; intro A1 c1 w3 hl3 ho3 hk3; simp only [List.length_nil, Nat.zero_add] at hl3 hk3 ⊢; have hbel := ho3.none_; have hz3 : Tz w3 g e0 e1 (.slice (some ⟨q, 0, none⟩) L.length cap) L := H.out.later (by refine Since.out ?_; repeat (first | with_reducible assumption | with_reducible exact Since.refl _ | with_reducible refine Since.later ?_ (by with_reducible assumption) | with_reducible refine Since.only ?_ (by with_reducible assumption) (by first | assumption | omega | (simp; done) | (simp; omega)) | with_reducible refine Since.alloc ?_ _ | with_reducible refine Since.drewN ?_ _ | with_reducible refine Since.drew ?_ | with_reducible refine Since.set ?_ (by first | assumption | omega | (simp; done) | (simp; omega)) _)); have d3 : w3.cell? ⟨g, 2, none⟩ = some (.slice (some ⟨q, 0, none⟩) L.length cap) := hz3.bl.cell 2) | (refine wpList_cat rfl _ _ 59 rfl 67 2 24 Tryz.elRLet (.slice A1 m c1) ([] ++ (L.take m).map letRow) rfl hl3 ad (L.length - (m + 1)) (cap - (m + 1)) ((L.drop (m + 1)).map letRow) rfl HL2.out HRD.out (hA2 ▸ HT2.out _ hz3) (by simp; omega) ?_; intro A2 c2 w4 hl4 ho4 hk4; have hk3' : ∀ k, k ∈ blocks (.slice A1 m c1) → w.heap.size + 1 < k := (fun k hk => by rcases hk3 k hk with h1 | h1 <;> simp [Value.ownBlock] at h1; omega); have hb4 := ho4.block' hz3.bl (fun hk => by have := hk3' _ hk; omega); have f4 := hb4.free; have d4 : w4.cell? ⟨g, 2, none⟩ = some (.slice (some ⟨q, 0, none⟩) L.length cap) := hb4.cell 2; have l4 := hb4.lt; have hx4 : BlockIs w4 w.heap.size 67 #[.int .i64 0, .string ⟨#[]⟩] := ho4.block' (((BlockIs.fresh w _ _).alloc _).later hbel) (fun hk => by have := hk3' _ hk; omega); have hy4 : BlockIs w4 (w.heap.size + 1) 67 #[.int .i64 dt, .string db] := ho4.block' (BlockIs.later (BlockIs.fresh_at (by simp)) hbel) (fun hk => by have := hk3' _ hk; omega); have hg1 : w.heap.size ≠ g := (by omega); have hg2 : w.heap.size + 1 ≠ g := (by omega); have i0 : ∀ u, (w4.setCell ⟨g, 2, none⟩ u).cell? ⟨w.heap.size, 0, none⟩ = some (.int .i64 0) := (fun u => (hx4.far (p := ⟨g, 2, none⟩) hg1 u).cell 0); have i1 : ∀ u, (w4.setCell ⟨g, 2, none⟩ u).cell? ⟨w.heap.size, 1, none⟩ = some (.string ⟨#[]⟩) := (fun u => (hx4.far (p := ⟨g, 2, none⟩) hg1 u).cell 1); have j0 : ∀ u, (w4.setCell ⟨g, 2, none⟩ u).cell? ⟨w.heap.size + 1, 0, none⟩ = some (.int .i64 dt) := (fun u => (hy4.far (p := ⟨g, 2, none⟩) hg2 u).cell 0); have j1 : ∀ u, (w4.setCell ⟨g, 2, none⟩ u).cell? ⟨w.heap.size + 1, 1, none⟩ = some (.string db) := (fun u => (hy4.far (p := ⟨g, 2, none⟩) hg2 u).cell 1); have ffx := hx4.free; have lx := hx4.lt; have ly := hy4.lt))
  refine bodyPost_ret (v := .tuple #[letV ⟨dt, db⟩, .int .i64 0]) (by simp [results, Tryz.results31, go_sem, i0, i1]) rfl ⟨by rw [E.out, ED.out], ?_⟩
  rw [EL.out]
  have hmn : min m L.length + (L.length - (m + 1)) = L.length - 1 := by omega
  rw [hmn]
  have hl5 : Lst w4 67 2 (.slice A2 (L.length - 1) c2) ((L.take m ++ L.drop (m + 1)).map letRow) := hl4.as (by simp; omega) (by rw [List.map_append, List.nil_append])
  have hk5 : ∀ k, k ∈ blocks (.slice A2 (L.length - 1) c2) → w.heap.size + 1 < k := fun k hk => by
    rcases hk4 k (blocks_any A2 _ _ _ _ ▸ hk) with h1 | h1
    · exact hk3' k h1
    · have := hbel.size; simp at this; omega
  have hO3 : Out w w3 (g :: blocks (.slice (some ⟨q, 0, none⟩) L.length cap)) := ((((Out.refl w _).alloc _).alloc _)).later hbel
  have hO4 : Out w w4 (g :: blocks (.slice (some ⟨q, 0, none⟩) L.length cap)) := hO3.then' ho4 (fun k hk => Or.inr (by have := hk3' k hk; omega))
  have hOf : ∀ a b c, Out w4 (((w4.setCell ⟨g, 2, none⟩ a).setCell ⟨w.heap.size, 0, none⟩ b).setCell ⟨w.heap.size, 1, none⟩ c) [g, w.heap.size] := fun a b c => (((Out.refl w4 _).put (p := ⟨g, 2, none⟩) (Or.inl (by simp)) a).put (p := ⟨w.heap.size, 0, none⟩) (Or.inl (by simp)) b).put (p := ⟨w.heap.size, 1, none⟩) (Or.inl (by simp)) c
  have hg1' : g ≠ w.heap.size := by omega
  refine ⟨.slice A2 (L.length - 1) c2, ⟨((hb4.put 2 _).far (p := ⟨w.heap.size, 0, none⟩) hg1' _).far (p := ⟨w.heap.size, 1, none⟩) hg1' _, ?_, by simp; omega⟩, hO4.then' (hOf _ _ _) (fun k hk => ?_), fun k hk => Or.inr (by have := hk5 k hk; omega)⟩
  · exact hl5.kept (hOf _ _ _) (fun k hk hm2 => by
      have h1 := hk5 k hk
      simp only [List.mem_cons, List.not_mem_nil, or_false] at hm2
      omega)
  · simp only [List.mem_cons, List.not_mem_nil, or_false] at hk
    rcases hk with rfl | rfl
    · exact Or.inl (by simp)
    · exact Or.inr (Nat.le_refl _)
end Go.Proofs.YtmfbaijbigodkaaGreatDoor

/-! Package link: Give, Lose; slices.Delete of one letter. Condition: the block holds a link as New and the calls leave it. -/
namespace Go.Proofs.YtmfbaijbigodkaaGreatDoor
open Go.ChangeShapes Go.WideShapes Go.ChangeAt Go.RowKit
set_option linter.unusedVariables false

theorem Tryz.delLetsZero (w : World) : (zeroValue 170).run Tryz.prog w = .ok (.agg #[.int .i64 0, .string ⟨#[]⟩]) w := by kernel_rfl
set_option maxHeartbeats 3200000 in
theorem delLets (q cap : Nat) (L : List Let) (i : Nat) (hi : i < L.length) (hm : L.length ≤ 1000000) (w : World) (h : Lst w 170 2 (.slice (some ⟨q, 0, none⟩) L.length cap) (L.map letRow)) :
    Calls Tryz.prog 110 #[.slice (some ⟨q, 0, none⟩) L.length cap, .int .i64 i, .int .i64 (i + 1)] w fun e w' => e = .returned (.slice (some ⟨q, 0, none⟩) (L.length - 1) cap) ∧ Lst w' 170 2 (.slice (some ⟨q, 0, none⟩) (L.length - 1) cap) ((L.take i ++ L.drop (i + 1)).map letRow) ∧ Out w w' [q] := by
  have hml : (L.map letRow).length = L.length := List.length_map ..
  obtain ⟨cur, hB, hcs, hcap, hmx, hfin⟩ := del_cells (size := 2) (es := L.map letRow) (by rw [hml]; exact h) (by rw [hml]; exact hi) (by decide) [.int .i64 0, .string ⟨#[]⟩] rfl
  rw [hml] at hcap hfin
  unfold maxLen at hmx
  obtain ⟨z, hz, hinfo⟩ := (Tryz.elLet).info
  obtain ⟨i0, hi0, hz0, hz1, hz2⟩ := info_parts hinfo
  have t1 := (Tryz.elLet).ht
  obtain ⟨news, hnews⟩ : ∃ news, news = flat ((L.map letRow).drop (i + 1)) := ⟨_, rfl⟩
  have hlen : news.length = (L.length - (i + 1)) * 2 := by
    rw [hnews, flat_length (fun e he => (h.rows e (List.mem_of_mem_drop he)).1), List.length_drop, hml]
  obtain ⟨A, hA, hsrc⟩ : ∃ A : Addr, (if cap = i + 1 then some (⟨q, 0, none⟩ : Addr) else some ⟨q, (i + 1) * 2, none⟩) = some A ∧ Hid (∀ t u, news[t]? = some u → w.drew.cell? (A.add t) = some u) := by
    by_cases hc : cap = i + 1
    · refine ⟨⟨q, 0, none⟩, by simp [hc], Lib.hid (fun t u hu => ?_)⟩
      have h0 : news.length = 0 := by rw [hlen]; have : L.length - (i + 1) = 0 := by omega
                                      rw [this]
      rw [List.length_eq_zero_iff.1 h0] at hu
      simp at hu
    · refine ⟨⟨q, (i + 1) * 2, none⟩, by simp [hc], Lib.hid (fun t u hu => ?_)⟩
      rw [hnews] at hu
      exact h.news rfl (i + 1) t u hu
  have s1 : Hid (news.length = (L.length - (i + 1)) * 2) := Lib.hid hlen
  have s2 : Hid (∀ u ∈ news, u.oneCell' = true) := Lib.hid (by
    intro u hu
    rw [hnews] at hu
    obtain ⟨e, he, hu⟩ := List.mem_flatten.1 hu
    exact (h.rows e (List.mem_of_mem_drop he)).2 u hu)
  have s3 : Hid (∀ t, t < news.length → (w.drew.cell? ⟨q, 0 + i * 2 + t, none⟩).isSome = true ∧ w.drew.frozen? ⟨q, 0 + i * 2 + t, none⟩ = false) := Lib.hid (by
    intro t ht
    rw [hlen] at ht
    refine ⟨?_, hB.free _⟩
    show (w.cell? _).isSome = true
    rw [hB.cell]
    rw [Array.getElem?_eq_getElem (by rw [hcs]; omega)]
    rfl)
  obtain ⟨W1, hW1⟩ : ∃ W1, W1 = w.drew.setCells q (0 + i * 2) news := ⟨_, rfl⟩
  have hB1 : BlockIs W1 q 170 (putz cur (0 + i * 2) news) := by rw [hW1]; exact BlockIs.putAll news (show BlockIs w.drew q _ cur from hB) _
  have hO1 : Out w W1 [q] := by rw [hW1]; exact (Out.refl w [q]).drew.trans (Out.putAll news w.drew q _)
  have hcl : ∀ ty, (Builtin.clear_ #[166] ty #[.slice (some ⟨q, (i + (L.length - (i + 1))) * 2, none⟩) (L.length - (i + (L.length - (i + 1)))) (cap - (i + (L.length - (i + 1))))]).run Tryz.prog W1 = .ok (.tuple #[]) (W1.setCells q ((i + (L.length - (i + 1))) * 2) [.int .i64 0, .string ⟨#[]⟩]) := fun ty =>
    run_clear1 W1 _ _ ty (.agg #[.int .i64 0, .string ⟨#[]⟩]) [.int .i64 0, .string ⟨#[]⟩] t1 (Tryz.delLetsZero W1) rfl (by intro u hu; simp at hu; rcases hu with rfl | rfl <;> rfl) q _ _ _ (by omega)
      (fun j hj => by rw [hB1.cell, Array.getElem?_eq_getElem (by rw [putz_size, hcs]; simp at hj; omega)]; rfl) (fun j hj => hB1.free _)
  have hW : Hid (W1 = w.drew.setCells q (0 + i * 2) news) := Lib.hid hW1
  have HFIN := Lib.hid hfin
  have HB1 := Lib.hid hB1
  have HN := Lib.hid hnews
  have HR := Lib.hid h.rows
  have HCS := Lib.hid hcs
  have hic : (i : Int) ≤ (cap : Int) := by omega
  have hjc : (i : Int) + 1 ≤ (cap : Int) := by omega
  have hil : (i : Int) + 1 ≤ (L.length : Int) := by omega
  have hlc : (L.length : Int) ≤ (cap : Int) := by omega
  have hne : ((i : Int) == (i : Int) + 1) = false := by simp; omega
  have hi1 : (0 : Int) ≤ (i : Int) + 1 := by omega
  have HML := Lib.hid hml
  clear hW1 hB1 hlen hnews hfin h hB hml hcs hinfo
  go_enter Tryz.func110, Tryz.ntmps110
  go_wp2_with fail
  go_region_law (refine step_append_room rfl (.tmp 22) (.tmp 25) 166 rfl 170 i0 2 t1 hi0 hz1 q 0 i cap (by simp [Act.eval, Act.put]) A (L.length - (i + 1)) (cap - (i + 1)) news (by simp [Act.eval, Act.put]) s1.out hsrc.out s2.out (by omega) s3.out ?_; rw [← hW.out])
  go_wp2
  go_ret
  have hl : ((L.take i ++ L.drop (i + 1)).map letRow).length = L.length - 1 := by simp; omega
  have hB2 := BlockIs.putAll [.int .i64 0, .string ⟨#[]⟩] HB1.out ((i + (L.length - (i + 1))) * 2)
  have hx : i + (L.length - (i + 1)) = L.length - 1 := by omega
  have hrows : ∀ e ∈ (L.take i ++ L.drop (i + 1)).map letRow, e.length = 2 ∧ ∀ u ∈ e, u.oneCell' = true := by
    intro e he
    rw [List.map_append, List.mem_append] at he
    rcases he with he | he
    · exact HR.out e (by rw [List.map_take] at he; exact List.mem_of_mem_take he)
    · exact HR.out e (by rw [List.map_drop] at he; exact List.mem_of_mem_drop he)
  refine ⟨by rw [show L.length - 1 = i + (L.length - (i + 1)) from by omega]; rfl, ?_, hO1.trans (Out.putAll _ _ q _)⟩
  refine Lst.as (n := ((L.take i ++ L.drop (i + 1)).map letRow).length) ⟨⟨flat_length (fun e he => (hrows e he).1), Or.inr ⟨q, cap, _, rfl, Nat.zero_le _, hB2, by rw [hl]; omega, by unfold maxLen; omega, by rw [putz_size, putz_size, HCS.out], ?_⟩⟩, hrows⟩ hl.symm rfl
  have hf := HFIN.out
  rw [HN.out, hl, hx, Nat.zero_add, hf, List.map_append, List.map_take, List.map_drop]

set_option maxHeartbeats 1600000 in
theorem kgive (g : Nat) (v : Value) (L : List Let) (x : Int) (w : World) (h : Kz w g v L) :
    Calls Tryz.prog 71 #[.pointer (some ⟨g, 0, none⟩), .int .i64 x] w fun e w' => e = .returned (.tuple #[.int .i64 (giveD L x).too, .string (giveD L x).b, errV (giveE L x)]) ∧ KLeft w w' g v (giveL L x) := by
  have H := Lib.hid h
  have c0 : w.cell? ⟨g, 0, none⟩ = some v := h.bl.cell 0
  have f0 := h.bl.free
  have lg := h.bl.lt
  obtain ⟨A, cap, hve, _, _, hA⟩ := h.ls.shape
  rw [List.length_map] at hve
  subst hve
  have hfew := h.few
  have HA := Lib.hid hA
  clear h hA
  by_cases hw : isB L x = true
  case neg =>
    have hw' : isB L x = false := by simpa using hw
    have E : Hid (giveE L x = 1) := Lib.hid (by unfold giveE; rw [if_neg hw])
    have ED : Hid (giveD L x = noLet) := Lib.hid (by unfold giveD; rw [if_neg hw])
    have EL : Hid (giveL L x = L) := Lib.hid (by unfold giveL; rw [if_neg hw])
    have HW := Lib.hid hw'
    clear hw hw'
    go_enter Tryz.func71, Tryz.ntmps71
    go_wp2_with (go_at_call 109; refine (kis g _ L x _ H.out).mono ?_; rintro e w' ⟨rfl, rfl⟩; rw [HW.out])
    go_ret3
    exact ⟨by rw [E.out, ED.out]; rfl, by rw [EL.out]; exact KLeft.same H.out (Below.refl _ _)⟩
  have HW := Lib.hid hw
  obtain ⟨x0, x1⟩ := isB_iff.1 hw
  obtain ⟨m, rfl⟩ := Int.eq_ofNat_of_zero_le x0
  clear hw
  have hml : m < L.length := by omega
  have E : Hid (giveE L m = 0) := Lib.hid (by unfold giveE; rw [if_pos HW.out])
  have ED : Hid (giveD L m = L[m]) := Lib.hid (by unfold giveD; rw [if_pos HW.out]; simp [List.getD, List.getElem?_eq_getElem hml])
  have EL : Hid (giveL L m = L.take m ++ L.drop (m + 1)) := Lib.hid (by unfold giveL; rw [if_pos HW.out]; rfl)
  rcases HA.out with ⟨_, h0, _⟩ | ⟨q, rfl⟩
  · have : L = [] := by simpa using h0
    subst this
    simp at hml
  have q0 : w.cell? ⟨q, m * 2, none⟩ = some (.int .i64 L[m].too) := H.out.ls.cell rfl (elem_of_let hml) (j := 0) rfl
  have q1 : w.cell? ⟨q, m * 2 + 1, none⟩ = some (.string L[m].b) := H.out.ls.cell rfl (elem_of_let hml) (j := 1) rfl
  have lq := H.out.ls.lt q (by simp [Value.ownBlock])
  generalize L[m] = d at *
  obtain ⟨dt, db⟩ := d
  have hgq : g ∉ [q] := fun hm2 => by have := H.out.ls.apart H.out.bl (by decide); rw [List.mem_singleton.1 hm2] at this; simp [Value.ownBlock] at this
  have HGQ := Lib.hid hgq
  have hmi : (m : Int) < (L.length : Int) := by omega
  have hm6 : L.length ≤ 1000000 := by omega
  clear hgq
  go_enter Tryz.func71, Tryz.ntmps71
  go_wp2_with (first | (go_at_call 109; refine (kis g _ L m _ H.out).mono ?_; rintro e w' ⟨rfl, rfl⟩; rw [HW.out]) | fail)
  refine (delLets q cap L m hml hm6 _ (H.out.ls.alloc _)).mono ?_
  rintro e w2 ⟨rfl, hl2, ho2⟩
  have hb2 : BlockIs w2 g 168 #[.slice (some ⟨q, 0, none⟩) L.length cap] := ho2.block' (H.out.bl.alloc _) HGQ.out
  have h42 : BlockIs w2 w.heap.size 170 #[.int .i64 dt, .string db] := ho2.block' (BlockIs.fresh _ _ _) (by simp; omega)
  have e2 : w2.cell? ⟨g, 0, none⟩ = some (.slice (some ⟨q, 0, none⟩) L.length cap) := hb2.cell 0
  have f2 := hb2.free
  have lg2 := hb2.lt
  have hg4 : w.heap.size ≠ g := by omega
  have h43 : ∀ u, BlockIs (w2.setCell ⟨g, 0, none⟩ u) w.heap.size 170 #[.int .i64 dt, .string db] := fun u => h42.far (p := ⟨g, 0, none⟩) hg4 u
  have k0 : ∀ u, (w2.setCell ⟨g, 0, none⟩ u).cell? ⟨w.heap.size, 0, none⟩ = some (.int .i64 dt) := fun u => (h43 u).cell 0
  have k1 : ∀ u, (w2.setCell ⟨g, 0, none⟩ u).cell? ⟨w.heap.size, 1, none⟩ = some (.string db) := fun u => (h43 u).cell 1
  have l42 := h42.lt
  have hO2 : Out w w2 (g :: blocks (.slice (some ⟨q, 0, none⟩) L.length cap)) := ((Out.refl w _).alloc _).then' ho2 (fun k hk => Or.inl (by simp [Value.ownBlock] at hk ⊢; simp [hk]))
  have hlen : (L.take m ++ L.drop (m + 1)).length = L.length - 1 := by simp; omega
  have hqg : q ≠ g := fun e => HGQ.out (by simp [e])
  have hKP : KLeft w (w2.setCell ⟨g, 0, none⟩ (.slice (some ⟨q, 0, none⟩) (L.length - 1) cap)) g (.slice (some ⟨q, 0, none⟩) L.length cap) (L.take m ++ L.drop (m + 1)) := by
    refine ⟨.slice (some ⟨q, 0, none⟩) (L.length - 1) cap, ⟨hb2.put 0 _, ?_, by omega⟩, hO2.put (p := ⟨g, 0, none⟩) (Or.inl (by simp)) _, fun k hk => Or.inl (by simpa [Value.ownBlock] using hk)⟩
    exact hl2.kept (S := [g]) ((Out.refl w2 [g]).put (p := ⟨g, 0, none⟩) (Or.inl (by simp)) _) (fun k hk hm2 => by
      have hkq : q = k := by simpa [Value.ownBlock] using hk
      rw [List.mem_singleton.1 hm2] at hkq
      exact hqg hkq)
  have HKP := Lib.hid hKP
  clear hKP hl2 ho2 hO2 hb2 h42 h43 hlen hmi hm6 q0 q1
  go_wp2_with fail
  go_quiet (fail)
  go_wp2_with fail
  go_ret3
  refine ⟨by rw [E.out, ED.out]; rfl, ?_⟩
  rw [EL.out]
  obtain ⟨v', hz, ho, hk⟩ := HKP.out
  exact ⟨v', ⟨hz.bl, hz.ls.drewN _, hz.few⟩, ho.drewN _, hk⟩

theorem klose (g : Nat) (v : Value) (L : List Let) (x : Int) (w : World) (h : Kz w g v L) :
    Calls Tryz.prog 72 #[.pointer (some ⟨g, 0, none⟩), .int .i64 x] w fun e w' => e = .returned (errV (giveE L x)) ∧ KLeft w w' g v (giveL L x) := by
  have H := Lib.hid h
  clear h
  go_enter Tryz.func72, Tryz.ntmps72
  go_wp2_with fail
  refine (kgive g v L x _ H.out).mono ?_
  rintro e w2 ⟨rfl, hk⟩
  go_wp2_with fail
  go_ret
  exact ⟨rfl, hk⟩
end Go.Proofs.YtmfbaijbigodkaaGreatDoor

/-! Contracts of package talk. Condition: the blocks hold a talk as New and the calls leave it, each end made no more than 1000 packets, the tables lie there. -/
namespace Go.Proofs.YtmfbaijbigodkaaGreatDoor
open Go.ChangeShapes Go.WideShapes Go.ChangeAt Go.RowKit
set_option linter.unusedVariables false

/-- a link at g -/
def linkT (g : Nat) (L : List Let) : Thing where
  is w S := ∃ v, Kz w g v L ∧ S = g :: blocks v
  lt h k hk := by
    obtain ⟨v, hz, rfl⟩ := h
    exact hz.lt k hk
  kept h ho hd := by
    obtain ⟨v, hz, rfl⟩ := h
    exact ⟨v, hz.kept ho hd, rfl⟩
theorem linkT_left {w w' : World} {g : Nat} {v : Value} {L : List Let} (h : KLeft w w' g v L) : Leaves w w' (g :: blocks v) (linkT g L) := by
  obtain ⟨v', h1, h2, h3⟩ := h
  refine ⟨g :: blocks v', ⟨v', h1, rfl⟩, h2, fun k hk => ?_⟩
  rcases List.mem_cons.1 hk with rfl | hk
  · exact Or.inl (by simp)
  · rcases h3 k hk with h | h
    · exact Or.inl (List.mem_cons_of_mem _ h)
    · exact Or.inr h
/-- a talk: letters on their way, two ends -/
structure TkS where
  L : List Let
  e0 : EnS
  e1 : EnS
def TkS.e (s : TkS) (who : Int) : EnS := if who = 0 then s.e0 else s.e1
def TkS.set (s : TkS) (who : Int) (x : EnS) : TkS := if who = 0 then { s with e0 := x } else { s with e1 := x }
def TkS.new (n : Int) : TkS := ⟨[], EnS.new n, EnS.new n⟩
/-- where it lies -/
structure TkP where
  gw : Nat
  g0 : Nat
  g1 : Nat
def tkParts (g : Nat) (s : TkS) (p : TkP) : List Thing :=
  [Thing.block g 123 #[.pointer (some ⟨p.gw, 0, none⟩), .pointer (some ⟨p.g0, 0, none⟩), .pointer (some ⟨p.g1, 0, none⟩)], linkT p.gw s.L, endT p.g0 s.e0, endT p.g1 s.e1]
def TkOk (s : TkS) : Prop := s.L.length ≤ 40 ∧ ∀ l ∈ s.L, whoB l.too = true ∧ l.b.size ≤ 200
def talkT (g : Nat) (s : TkS) : Thing := Thing.ex fun p : TkP => Thing.with_ (TkOk s) (Thing.all (tkParts g s p))
theorem talkT_open {w : World} {S : List Nat} {g : Nat} {s : TkS} (h : (talkT g s).is w S) : ∃ p, TkOk s ∧ Own w S w (tkParts g s p) := by
  obtain ⟨p, h1, h3⟩ := h
  exact ⟨p, h1, Own.unfold_ h3⟩
theorem talkT_close {w w' : World} {S : List Nat} {g : Nat} {s : TkS} {p : TkP} (h1 : TkOk s) (h : Own w S w' (tkParts g s p)) : Leaves w w' S (talkT g s) :=
  Leaves.ex p (Leaves.with_ h1 h.closed)
set_option maxHeartbeats 1600000 in
theorem tnew_no (n : Int) (h : ¬ (1 ≤ n ∧ n ≤ 1000)) (w : World) :
    Calls Tryz.prog 23 #[.int .i64 n] w fun e w' => e = .returned (.tuple #[.pointer none, errV 1]) ∧ Below w.heap.size w w' := by
  have hN := Lib.hid (fun W => enew_no n h W)
  go_enter Tryz.func23, Tryz.ntmps23
  go_wp2_with (go_at_call 67; refine (knew _).mono ?_; rintro e w1 ⟨rfl, hz, hb1⟩)
  have hs1 : Since w w1 := hb1
  refine wp_loop_rounds 3 ?_
  rw [rounds_succ]
  go_wp2_with (go_at_call 8; refine (hN.out _).mono ?_; rintro e w2 ⟨rfl, hb2⟩; rw [errV_pos (by decide)])
  go_ret2
  exact ⟨by rw [errV_pos (by decide)]; rfl, (by refine Since.out ?_; repeat (first | with_reducible assumption | with_reducible exact Since.refl _ | with_reducible refine Since.later ?_ (by with_reducible assumption) | with_reducible refine Since.only ?_ (by with_reducible assumption) (by first | assumption | omega | (simp; done) | (simp; omega)) | with_reducible refine Since.alloc ?_ _ | with_reducible refine Since.drewN ?_ _ | with_reducible refine Since.drew ?_ | with_reducible refine Since.set ?_ (by first | assumption | omega | (simp; done) | (simp; omega)) _))⟩
set_option maxHeartbeats 3200000 in
theorem tnew (n : Int) (h1 : 1 ≤ n) (h2 : n ≤ 1000) (w : World) :
    Calls Tryz.prog 23 #[.int .i64 n] w fun e w' => ∃ g, e = .returned (.tuple #[.pointer (some ⟨g, 0, none⟩), .nilIface]) ∧ Leaves w w' [] (talkT g (TkS.new n)) := by
  have hN := Lib.hid (fun W => enew n h1 h2 W)
  go_enter Tryz.func23, Tryz.ntmps23
  go_wp2_with (go_at_call 67; refine (knew _).mono ?_; rintro e w1 ⟨rfl, hz, hb1⟩)
  have HW1 : Hid (Own w [] (w1.alloc (.cells #[.pointer (some ⟨w.heap.size, 0, none⟩), .pointer none, .pointer none] 123)) [linkT w.heap.size [], Thing.block w1.heap.size 123 #[.pointer (some ⟨w.heap.size, 0, none⟩), .pointer none, .pointer none]]) := Lib.hid (((Own.start w).add hb1 (S := [w.heap.size]) (t := linkT w.heap.size []) ⟨_, hz, rfl⟩ (by simp)).alloc _ _)
  clear hz hb1
  obtain ⟨gt, hgt⟩ : ∃ g, w1.heap.size = g := ⟨_, rfl⟩
  obtain ⟨gw, hgw⟩ : ∃ g, w.heap.size = g := ⟨_, rfl⟩
  rw [hgt, hgw] at HW1
  obtain ⟨wa, hwa⟩ : ∃ x, w1.alloc (.cells #[.pointer (some ⟨gw, 0, none⟩), .pointer none, .pointer none] 123) = x := ⟨_, rfl⟩
  rw [hwa] at HW1
  rw [hgt, hgw, hwa]
  clear hgt hgw hwa
  refine wp_loop_rounds 3 ?_
  rw [rounds_succ]
  trace "A"; go_wp2_with fail
  refine (hN.out _).mono ?_
  rintro e w2 ⟨g0, rfl, hl⟩
  have HW2 := Lib.hid (HW1.out.made hl)
  have c1 : w2.cell? ⟨gt, 1, none⟩ = some (.pointer none) := (HW2.out.blk 1 rfl).cell 1
  have fr := (HW2.out.blk 1 rfl).free
  have lt := (HW2.out.blk 1 rfl).lt
  clear hl HW1
  trace "B"; go_wp2_with fail
  have HW3 := Lib.hid (HW2.out.put 1 rfl 1 (.pointer (some ⟨g0, 0, none⟩)))
  clear HW2 c1 fr lt
  obtain ⟨wb, hwb⟩ : ∃ x, w2.setCell ⟨gt, 1, none⟩ (.pointer (some ⟨g0, 0, none⟩)) = x := ⟨_, rfl⟩
  rw [hwb] at HW3
  rw [hwb]
  clear hwb
  rw [rounds_succ]
  trace "C"; go_wp2_with fail
  refine (hN.out _).mono ?_
  rintro e w4 ⟨g1, rfl, hl⟩
  have HW4 := Lib.hid (HW3.out.made hl)
  have c2 : w4.cell? ⟨gt, 2, none⟩ = some (.pointer none) := (HW4.out.blk 1 rfl).cell 2
  have fr := (HW4.out.blk 1 rfl).free
  have lt := (HW4.out.blk 1 rfl).lt
  clear hl HW3
  trace "D"; go_wp2_with fail
  rw [rounds_succ]
  trace "E"; go_wp2_with fail
  go_ret2
  have HW5 := HW4.out.put 1 rfl 2 (.pointer (some ⟨g1, 0, none⟩))
  refine ⟨gt, rfl, talkT_close (p := ⟨gw, g0, g1⟩) ⟨by simp [TkS.new], by simp [TkS.new]⟩ ?_⟩
  refine Own.pick HW5 [1, 0, 2, 3] (by decide) (fun i t hi => ?_)
  match i, hi with
  | 0, hi => exact ⟨1, rfl, hi⟩
  | 1, hi => exact ⟨0, rfl, hi⟩
  | 2, hi => exact ⟨2, rfl, hi⟩
  | 3, hi => exact ⟨3, rfl, hi⟩
theorem tcount (g : Nat) (s : TkS) (w : World) (S : List Nat) (h : (talkT g s).is w S) :
    Calls Tryz.prog 35 #[.pointer (some ⟨g, 0, none⟩)] w fun e w' => e = .returned (.int .i64 s.L.length) ∧ w = w' := by
  obtain ⟨p, ok, ho⟩ := talkT_open h
  have HO := Lib.hid ho
  have c0 : w.cell? ⟨g, 0, none⟩ = some (.pointer (some ⟨p.gw, 0, none⟩)) := (ho.blk 0 rfl).cell 0
  have lg := (ho.blk 0 rfl).lt
  obtain ⟨S1, ⟨v, hz, -⟩, -⟩ := ho.at_ 1 rfl
  have HZ := Lib.hid hz
  clear h ho hz
  go_enter Tryz.func35, Tryz.ntmps35
  go_wp2_with (go_at_call 74; refine (kcount p.gw v s.L _ HZ.out).mono ?_; rintro e w1 ⟨rfl, rfl⟩)
  go_ret
  exact ⟨rfl, rfl⟩
/-- Send -/
def TkS.sendE (s : TkS) (who : Int) : Int := if whoB who = true then (if s.L.length = 40 then 4 else 0) else 1
def TkS.send (s : TkS) (who : Int) : TkS := if s.sendE who = 0 then { s.set who (s.e who).make with L := s.L ++ [⟨1 - who, ⟨(s.e who).packet.toArray⟩⟩] } else s
/-- Come -/
noncomputable def TkS.comeE (s : TkS) (i : Int) : Int := if isB s.L i = true then (s.e (giveD s.L i).too).takeE (giveD s.L i).b.data.toList else 1
noncomputable def TkS.come (s : TkS) (i : Int) : TkS := if isB s.L i = true then { s.set (giveD s.L i).too ((s.e (giveD s.L i).too).take (giveD s.L i).b.data.toList) with L := giveL s.L i } else s
/-- Read -/
def TkS.readE (who n : Int) : Int := if whoB who = true then EnS.readE n else 1
def TkS.readS (s : TkS) (who n : Int) : ByteArray := if whoB who = true then (s.e who).readS n else ⟨#[]⟩
def TkS.read (s : TkS) (who n : Int) : TkS := if whoB who = true then s.set who ((s.e who).read n) else s
theorem whoB_iff {x : Int} : whoB x = true ↔ x = 0 ∨ x = 1 := by unfold whoB; simp
set_option maxHeartbeats 1600000 in
theorem tread (g : Nat) (s : TkS) (who n : Int) (w : World) (S : List Nat) (h : (talkT g s).is w S) :
    Calls Tryz.prog 26 #[.pointer (some ⟨g, 0, none⟩), .int .i64 who, .int .i64 n] w fun e w' => e = .returned (.tuple #[.string (s.readS who n), errV (TkS.readE who n)]) ∧ Leaves w w' S (talkT g (s.read who n)) := by
  have H := Lib.hid h
  obtain ⟨p, ok, ho⟩ := talkT_open h
  have HOK := Lib.hid ok
  have HO := Lib.hid ho
  have c1 : w.cell? ⟨g, 1, none⟩ = some (.pointer (some ⟨p.g0, 0, none⟩)) := (ho.blk 0 rfl).cell 1
  have c2 : w.cell? ⟨g, 2, none⟩ = some (.pointer (some ⟨p.g1, 0, none⟩)) := (ho.blk 0 rfl).cell 2
  have lg := (ho.blk 0 rfl).lt
  clear h ho ok
  cases hw : whoB who with
  | false =>
    have HE : Hid (TkS.readE who n = 1 ∧ s.readS who n = ⟨#[]⟩ ∧ s.read who n = s) := Lib.hid ⟨by unfold TkS.readE; rw [hw]; rfl, by unfold TkS.readS; rw [hw]; rfl, by unfold TkS.read; rw [hw]; rfl⟩
    rw [HE.out.1, HE.out.2.1, HE.out.2.2]
    go_enter Tryz.func26, Tryz.ntmps26
    go_wp2_with (go_at_call 68; refine (who_any who _).mono ?_; rintro e w1 ⟨rfl, rfl⟩; rw [hw])
    go_ret2
    exact ⟨rfl, Leaves.same H.out (Below.refl _ _)⟩
  | true =>
    rcases whoB_iff.1 hw with rfl | rfl
    · have HE : Hid (TkS.readE 0 n = EnS.readE n ∧ s.readS 0 n = s.e0.readS n ∧ s.read 0 n = { s with e0 := s.e0.read n }) := Lib.hid ⟨rfl, rfl, rfl⟩
      rw [HE.out.1, HE.out.2.1, HE.out.2.2]
      obtain ⟨S2, hS2, up⟩ := HO.out.at_ 2 rfl
      clear hw
      go_enter Tryz.func26, Tryz.ntmps26
      go_wp2_with (first | (go_at_call 68; refine (who_any 0 _).mono ?_; rintro e w1 ⟨rfl, rfl⟩) | (go_at_call 14; refine (eread p.g0 s.e0 n _ S2 hS2).mono ?_; rintro e w1 ⟨rfl, hl⟩))
      go_ret2
      exact ⟨rfl, talkT_close (p := p) HOK.out (up _ _ hl)⟩
    · have HE : Hid (TkS.readE 1 n = EnS.readE n ∧ s.readS 1 n = s.e1.readS n ∧ s.read 1 n = { s with e1 := s.e1.read n }) := Lib.hid ⟨rfl, rfl, rfl⟩
      rw [HE.out.1, HE.out.2.1, HE.out.2.2]
      obtain ⟨S3, hS3, up⟩ := HO.out.at_ 3 rfl
      clear hw
      go_enter Tryz.func26, Tryz.ntmps26
      go_wp2_with (first | (go_at_call 68; refine (who_any 1 _).mono ?_; rintro e w1 ⟨rfl, rfl⟩) | (go_at_call 14; refine (eread p.g1 s.e1 n _ S3 hS3).mono ?_; rintro e w1 ⟨rfl, hl⟩))
      go_ret2
      exact ⟨rfl, talkT_close (p := p) HOK.out (up _ _ hl)⟩
theorem giveD_mem {L : List Let} {i : Int} (h : isB L i = true) : giveD L i ∈ L := by
  unfold giveD
  rw [if_pos h]
  obtain ⟨h0, h1⟩ := isB_iff.1 h
  have hl : i.toNat < L.length := by omega
  rw [show L.getD i.toNat noLet = L[i.toNat] by simp [List.getD, List.getElem?_eq_getElem hl]]
  exact List.getElem_mem _
theorem giveL_sub {L : List Let} {i : Int} : (giveL L i).length ≤ L.length ∧ ∀ l ∈ giveL L i, l ∈ L := by
  unfold giveL
  split
  · refine ⟨by rw [List.length_append, List.length_take, List.length_drop]; omega, fun l hl => ?_⟩
    rcases List.mem_append.1 hl with h | h
    · exact List.mem_of_mem_take h
    · exact List.mem_of_mem_drop h
  · exact ⟨Nat.le_refl _, fun l hl => hl⟩
set_option maxHeartbeats 3200000 in
theorem tsend (g : Nat) (s : TkS) (who : Int) (w : World) (S : List Nat) (h : (talkT g s).is w S) (hK : KTab w) (hm : (s.e who).made.length ≤ 1000) :
    Calls Tryz.prog 27 #[.pointer (some ⟨g, 0, none⟩), .int .i64 who] w fun e w' => e = .returned (errV (s.sendE who)) ∧ Leaves w w' S (talkT g (s.send who)) := by
  have H := Lib.hid h
  have HK := Lib.hid hK
  obtain ⟨p, ok, ho⟩ := talkT_open h
  have HOK := Lib.hid ok
  have HO := Lib.hid ho
  have c0 : w.cell? ⟨g, 0, none⟩ = some (.pointer (some ⟨p.gw, 0, none⟩)) := (ho.blk 0 rfl).cell 0
  have c1 : w.cell? ⟨g, 1, none⟩ = some (.pointer (some ⟨p.g0, 0, none⟩)) := (ho.blk 0 rfl).cell 1
  have c2 : w.cell? ⟨g, 2, none⟩ = some (.pointer (some ⟨p.g1, 0, none⟩)) := (ho.blk 0 rfl).cell 2
  have lg := (ho.blk 0 rfl).lt
  clear h ho ok hK
  cases hw : whoB who with
  | false =>
    have HE : Hid (s.sendE who = 1 ∧ s.send who = s) := Lib.hid (by
      have e1 : s.sendE who = 1 := by unfold TkS.sendE; rw [hw]; rfl
      exact ⟨e1, by unfold TkS.send; rw [e1, if_neg (by decide)]⟩)
    rw [HE.out.1, HE.out.2]
    go_enter Tryz.func27, Tryz.ntmps27
    go_wp2_with (go_at_call 68; refine (who_any who _).mono ?_; rintro e w1 ⟨rfl, rfl⟩; rw [hw])
    go_ret
    exact ⟨rfl, Leaves.same H.out (Below.refl _ _)⟩
  | true =>
    rcases whoB_iff.1 hw with rfl | rfl
    · have HE : Hid (s.sendE 0 = (if s.L.length = 40 then 4 else 0) ∧ s.e 0 = s.e0) := Lib.hid ⟨rfl, rfl⟩
      have HS : Hid (¬ s.L.length = 40 → s.send 0 = { s with e0 := s.e0.make, L := s.L ++ [⟨1, ⟨s.e0.packet.toArray⟩⟩] }) := Lib.hid (fun h0 => by unfold TkS.send; rw [HE.out.1, if_neg h0, if_pos rfl]; rfl)
      have HS1 : Hid (s.L.length = 40 → s.send 0 = s) := Lib.hid (fun h0 => by unfold TkS.send; rw [HE.out.1, if_pos h0, if_neg (by decide)])
      obtain ⟨S1, ⟨v0, hz0, -⟩, -⟩ := HO.out.at_ 1 rfl
      have HZ0 := Lib.hid hz0
      clear hw hz0
      by_cases hf : s.L.length = 40
      · rw [HE.out.1, if_pos hf, HS1.out hf]
        have hfb : fullB s.L = true := by unfold fullB; simpa using hf
        clear hf
        go_enter Tryz.func27, Tryz.ntmps27
        go_wp2_with (first | (go_at_call 68; refine (who_any 0 _).mono ?_; rintro e w1 ⟨rfl, rfl⟩) | (go_at_call 69; refine (kfull p.gw v0 s.L _ HZ0.out).mono ?_; rintro e w1 ⟨rfl, rfl⟩; rw [hfb]))
        go_ret
        exact ⟨rfl, Leaves.same H.out (Below.refl _ _)⟩
      · rw [HE.out.1, if_neg hf, HS.out hf, errV_zero]
        have hfb : fullB s.L = false := by unfold fullB; simpa using hf
        obtain ⟨S2, hS2, up⟩ := HO.out.at_ 2 rfl
        have hme : (s.e0).made.length ≤ 1000 := hm
        have hokE : EnOk s.e0 := by obtain ⟨q, hq⟩ := endT_open hS2; exact hq.ok
        have hpk : s.e0.packet.length ≤ 177 := (hokE.packetOk (by omega)).2.2
        have HSE : Hid (Go.Proofs.YtmfbaijbigodkaaGreatDoor.sendE s.L 1 ⟨s.e0.packet.toArray⟩ = 0 ∧ sendL s.L 1 ⟨s.e0.packet.toArray⟩ = s.L ++ [⟨1, ⟨s.e0.packet.toArray⟩⟩]) := Lib.hid (by
          have e0 : Go.Proofs.YtmfbaijbigodkaaGreatDoor.sendE s.L 1 ⟨s.e0.packet.toArray⟩ = 0 := by
            unfold Go.Proofs.YtmfbaijbigodkaaGreatDoor.sendE
            rw [if_pos (by decide), if_neg]
            rintro (h1 | h1)
            · exact hf h1
            · have : (200 : Nat) < s.e0.packet.toArray.size := h1
              rw [List.size_toArray] at this
              omega
          exact ⟨e0, by unfold sendL; rw [if_pos e0]⟩)
        have HOK2 : Hid (TkOk { s with e0 := s.e0.make, L := s.L ++ [⟨1, ⟨s.e0.packet.toArray⟩⟩] }) := Lib.hid (by
          refine ⟨by show (s.L ++ [_]).length ≤ 40; rw [List.length_append]; have := HOK.out.1; simp; omega, fun l hl => ?_⟩
          rcases List.mem_append.1 hl with h | h
          · exact HOK.out.2 l h
          · rw [List.mem_singleton.1 h]
            refine ⟨rfl, ?_⟩
            show s.e0.packet.toArray.size ≤ 200
            rw [List.size_toArray]; omega)
        have HSZ : Hid ((ByteArray.mk s.e0.packet.toArray).size ≤ 9223372036854775807) := Lib.hid (by show s.e0.packet.toArray.size ≤ _; rw [List.size_toArray]; omega)
        clear hf hokE hpk
        go_enter Tryz.func27, Tryz.ntmps27
        go_wp2_with (first | (go_at_call 68; refine (who_any 0 _).mono ?_; rintro e w1 ⟨rfl, rfl⟩) | (go_at_call 69; refine (kfull p.gw v0 s.L _ HZ0.out).mono ?_; rintro e w1 ⟨rfl, rfl⟩; rw [hfb]))
        go_region_law (first
          | (go_simp; go_at_call 15; refine (emake p.g0 s.e0 _ S2 ((endT p.g0 s.e0).later hS2 (show Since w _ from (by refine Since.out ?_; repeat (first | with_reducible assumption | with_reducible exact Since.refl _ | with_reducible refine Since.later ?_ (by with_reducible assumption) | with_reducible refine Since.only ?_ (by with_reducible assumption) (by first | assumption | omega | (simp; done) | (simp; omega)) | with_reducible refine Since.alloc ?_ _ | with_reducible refine Since.drewN ?_ _ | with_reducible refine Since.drew ?_ | with_reducible refine Since.set ?_ (by first | assumption | omega | (simp; done) | (simp; omega)) _)))) (HK.out.later (show Since w _ from (by refine Since.out ?_; repeat (first | with_reducible assumption | with_reducible exact Since.refl _ | with_reducible refine Since.later ?_ (by with_reducible assumption) | with_reducible refine Since.only ?_ (by with_reducible assumption) (by first | assumption | omega | (simp; done) | (simp; omega)) | with_reducible refine Since.alloc ?_ _ | with_reducible refine Since.drewN ?_ _ | with_reducible refine Since.drew ?_ | with_reducible refine Since.set ?_ (by first | assumption | omega | (simp; done) | (simp; omega)) _)))) hme).mono ?_; rintro e w1 ⟨rfl, hl⟩; have HW1 := Lib.hid (up _ _ (Leaves.drew hl)); obtain ⟨S1', ⟨v1, hz1, hS1'⟩, up1⟩ := HW1.out.at_ 1 rfl; have d0 : w1.cell? ⟨g, 0, none⟩ = some (.pointer (some ⟨p.gw, 0, none⟩)) := (HW1.out.blk 0 rfl).cell 0; have ld := (HW1.out.blk 0 rfl).lt)
          | (go_simp; go_at_call 70; refine (ksend p.gw v1 s.L 1 ⟨s.e0.packet.toArray⟩ _ hz1 HSZ.out).mono ?_; rintro e w2 ⟨rfl, hk⟩; rw [HSE.out.1, errV_zero]; rw [HSE.out.2] at hk))
        all_goals
          go_wp2_with fail
          go_ret
          refine ⟨rfl, talkT_close (p := p) HOK2.out ?_⟩
          have h9 := up1 _ _ (by rw [hS1']; exact linkT_left hk)
          exact h9
    · have HE : Hid (s.sendE 1 = (if s.L.length = 40 then 4 else 0) ∧ s.e 1 = s.e1) := Lib.hid ⟨rfl, rfl⟩
      have HS : Hid (¬ s.L.length = 40 → s.send 1 = { s with e1 := s.e1.make, L := s.L ++ [⟨0, ⟨s.e1.packet.toArray⟩⟩] }) := Lib.hid (fun h0 => by unfold TkS.send; rw [HE.out.1, if_neg h0, if_pos rfl]; rfl)
      have HS1 : Hid (s.L.length = 40 → s.send 1 = s) := Lib.hid (fun h0 => by unfold TkS.send; rw [HE.out.1, if_pos h0, if_neg (by decide)])
      obtain ⟨S1, ⟨v0, hz0, -⟩, -⟩ := HO.out.at_ 1 rfl
      have HZ0 := Lib.hid hz0
      clear hw hz0
      by_cases hf : s.L.length = 40
      · rw [HE.out.1, if_pos hf, HS1.out hf]
        have hfb : fullB s.L = true := by unfold fullB; simpa using hf
        clear hf
        go_enter Tryz.func27, Tryz.ntmps27
        go_wp2_with (first | (go_at_call 68; refine (who_any 1 _).mono ?_; rintro e w1 ⟨rfl, rfl⟩) | (go_at_call 69; refine (kfull p.gw v0 s.L _ HZ0.out).mono ?_; rintro e w1 ⟨rfl, rfl⟩; rw [hfb]))
        go_ret
        exact ⟨rfl, Leaves.same H.out (Below.refl _ _)⟩
      · rw [HE.out.1, if_neg hf, HS.out hf, errV_zero]
        have hfb : fullB s.L = false := by unfold fullB; simpa using hf
        obtain ⟨S2, hS2, up⟩ := HO.out.at_ 3 rfl
        have hme : (s.e1).made.length ≤ 1000 := hm
        have hokE : EnOk s.e1 := by obtain ⟨q, hq⟩ := endT_open hS2; exact hq.ok
        have hpk : s.e1.packet.length ≤ 177 := (hokE.packetOk (by omega)).2.2
        have HSE : Hid (Go.Proofs.YtmfbaijbigodkaaGreatDoor.sendE s.L 0 ⟨s.e1.packet.toArray⟩ = 0 ∧ sendL s.L 0 ⟨s.e1.packet.toArray⟩ = s.L ++ [⟨0, ⟨s.e1.packet.toArray⟩⟩]) := Lib.hid (by
          have e0 : Go.Proofs.YtmfbaijbigodkaaGreatDoor.sendE s.L 0 ⟨s.e1.packet.toArray⟩ = 0 := by
            unfold Go.Proofs.YtmfbaijbigodkaaGreatDoor.sendE
            rw [if_pos (by decide), if_neg]
            rintro (h1 | h1)
            · exact hf h1
            · have : (200 : Nat) < s.e1.packet.toArray.size := h1
              rw [List.size_toArray] at this
              omega
          exact ⟨e0, by unfold sendL; rw [if_pos e0]⟩)
        have HOK2 : Hid (TkOk { s with e1 := s.e1.make, L := s.L ++ [⟨0, ⟨s.e1.packet.toArray⟩⟩] }) := Lib.hid (by
          refine ⟨by show (s.L ++ [_]).length ≤ 40; rw [List.length_append]; have := HOK.out.1; simp; omega, fun l hl => ?_⟩
          rcases List.mem_append.1 hl with h | h
          · exact HOK.out.2 l h
          · rw [List.mem_singleton.1 h]
            refine ⟨rfl, ?_⟩
            show s.e1.packet.toArray.size ≤ 200
            rw [List.size_toArray]; omega)
        have HSZ : Hid ((ByteArray.mk s.e1.packet.toArray).size ≤ 9223372036854775807) := Lib.hid (by show s.e1.packet.toArray.size ≤ _; rw [List.size_toArray]; omega)
        clear hf hokE hpk
        go_enter Tryz.func27, Tryz.ntmps27
        go_wp2_with (first | (go_at_call 68; refine (who_any 1 _).mono ?_; rintro e w1 ⟨rfl, rfl⟩) | (go_at_call 69; refine (kfull p.gw v0 s.L _ HZ0.out).mono ?_; rintro e w1 ⟨rfl, rfl⟩; rw [hfb]))
        go_region_law (first
          | (go_simp; go_at_call 15; refine (emake p.g1 s.e1 _ S2 ((endT p.g1 s.e1).later hS2 (show Since w _ from (by refine Since.out ?_; repeat (first | with_reducible assumption | with_reducible exact Since.refl _ | with_reducible refine Since.later ?_ (by with_reducible assumption) | with_reducible refine Since.only ?_ (by with_reducible assumption) (by first | assumption | omega | (simp; done) | (simp; omega)) | with_reducible refine Since.alloc ?_ _ | with_reducible refine Since.drewN ?_ _ | with_reducible refine Since.drew ?_ | with_reducible refine Since.set ?_ (by first | assumption | omega | (simp; done) | (simp; omega)) _)))) (HK.out.later (show Since w _ from (by refine Since.out ?_; repeat (first | with_reducible assumption | with_reducible exact Since.refl _ | with_reducible refine Since.later ?_ (by with_reducible assumption) | with_reducible refine Since.only ?_ (by with_reducible assumption) (by first | assumption | omega | (simp; done) | (simp; omega)) | with_reducible refine Since.alloc ?_ _ | with_reducible refine Since.drewN ?_ _ | with_reducible refine Since.drew ?_ | with_reducible refine Since.set ?_ (by first | assumption | omega | (simp; done) | (simp; omega)) _)))) hme).mono ?_; rintro e w1 ⟨rfl, hl⟩; have HW1 := Lib.hid (up _ _ (Leaves.drew hl)); obtain ⟨S1', ⟨v1, hz1, hS1'⟩, up1⟩ := HW1.out.at_ 1 rfl; have d0 : w1.cell? ⟨g, 0, none⟩ = some (.pointer (some ⟨p.gw, 0, none⟩)) := (HW1.out.blk 0 rfl).cell 0; have ld := (HW1.out.blk 0 rfl).lt)
          | (go_simp; go_at_call 70; refine (ksend p.gw v1 s.L 0 ⟨s.e1.packet.toArray⟩ _ hz1 HSZ.out).mono ?_; rintro e w2 ⟨rfl, hk⟩; rw [HSE.out.1, errV_zero]; rw [HSE.out.2] at hk))
        all_goals
          go_wp2_with fail
          go_ret
          refine ⟨rfl, talkT_close (p := p) HOK2.out ?_⟩
          have h9 := up1 _ _ (by rw [hS1']; exact linkT_left hk)
          exact h9
set_option maxHeartbeats 3200000 in
theorem tcome (g : Nat) (s : TkS) (i : Int) (w : World) (S : List Nat) (h : (talkT g s).is w S) (hT : ∀ X, Out w X S → KTab X ∧ CTab X) (hm0 : s.e0.made.length ≤ 1000) (hm1 : s.e1.made.length ≤ 1000) :
    Calls Tryz.prog 29 #[.pointer (some ⟨g, 0, none⟩), .int .i64 i] w fun e w' => e = .returned (errV (s.comeE i)) ∧ Leaves w w' S (talkT g (s.come i)) := by
  have H := Lib.hid h
  have HTT := Lib.hid hT
  obtain ⟨p, ok, ho⟩ := talkT_open h
  have HOK := Lib.hid ok
  have HO := Lib.hid ho
  have c0 : w.cell? ⟨g, 0, none⟩ = some (.pointer (some ⟨p.gw, 0, none⟩)) := (ho.blk 0 rfl).cell 0
  have lg := (ho.blk 0 rfl).lt
  obtain ⟨S1, ⟨v1, hz1, hS1⟩, up1⟩ := HO.out.at_ 1 rfl
  have HGV := Lib.hid (kgive p.gw v1 s.L i w hz1)
  clear h ho ok hT hz1
  cases hb : isB s.L i with
  | false =>
    have HE : Hid (s.comeE i = 1 ∧ s.come i = s ∧ giveE s.L i = 1) := Lib.hid ⟨by unfold TkS.comeE; rw [hb]; rfl, by unfold TkS.come; rw [hb]; rfl, by unfold giveE; rw [hb]; rfl⟩
    have HGL : Hid (giveL s.L i = s.L) := Lib.hid (by unfold giveL; rw [hb]; rfl)
    rw [HE.out.1, HE.out.2.1]
    rw [HE.out.2.2, HGL.out] at HGV
    go_enter Tryz.func29, Tryz.ntmps29
    go_wp2_with fail
    refine HGV.out.mono ?_
    rintro e w1 ⟨rfl, hk⟩
    rw [errV_pos (by decide)]
    have HL := Lib.hid (talkT_close (p := p) HOK.out (up1 _ _ (by rw [hS1]; exact linkT_left hk)))
    go_wp2_with fail
    go_ret
    exact ⟨rfl, HL.out⟩
  | true =>
    have hmem := giveD_mem hb
    obtain ⟨hto, hsz⟩ := HOK.out.2 _ hmem
    have HE : Hid (s.comeE i = (s.e (giveD s.L i).too).takeE (giveD s.L i).b.data.toList ∧ s.come i = { s.set (giveD s.L i).too ((s.e (giveD s.L i).too).take (giveD s.L i).b.data.toList) with L := giveL s.L i } ∧ giveE s.L i = 0) := Lib.hid ⟨by unfold TkS.comeE; rw [if_pos hb], by unfold TkS.come; rw [if_pos hb], by unfold giveE; rw [if_pos hb]⟩
    rw [HE.out.2.2, errV_zero] at HGV
    rw [HE.out.1, HE.out.2.1]
    obtain ⟨⟨tz, b⟩, hd⟩ : ∃ d, giveD s.L i = d := ⟨_, rfl⟩
    rw [hd] at hto hsz HGV
    rw [hd]
    dsimp only at hto hsz HGV ⊢
    have HGL := Lib.hid (giveL_sub (L := s.L) (i := i))
    have hbz : b.size ≤ 9223372036854775000 := by omega
    clear hmem hd HE hb hsz
    rcases whoB_iff.1 hto with rfl | rfl
    · clear hto
      go_enter Tryz.func29, Tryz.ntmps29
      go_wp2_with fail
      refine HGV.out.mono ?_
      rintro e w1 ⟨rfl, hk⟩
      have HW1 := Lib.hid (up1 _ (linkT p.gw (giveL s.L i)) (by rw [hS1]; exact linkT_left hk))
      have d1 : w1.cell? ⟨g, 1, none⟩ = some (.pointer (some ⟨p.g0, 0, none⟩)) := (HW1.out.blk 0 rfl).cell 1
      have ld := (HW1.out.blk 0 rfl).lt
      obtain ⟨S2, hS2, up2⟩ := HW1.out.at_ 2 rfl
      have hK1 : KTab w1 ∧ CTab w1 := HTT.out w1 HW1.out.out
      have HT := Lib.hid (etake p.g0 s.e0 b w1 S2 hS2 hK1.1 hK1.2 hm0 hbz)
      clear hk hS2 hK1
      go_wp2_with (go_at_call 17; refine HT.out.mono ?_; rintro e w2 ⟨rfl, hl⟩)
      go_ret
      exact ⟨rfl, talkT_close (p := p) ⟨Nat.le_trans HGL.out.1 HOK.out.1, fun l hl => HOK.out.2 l (HGL.out.2 l hl)⟩ (up2 _ _ hl)⟩
    · clear hto
      go_enter Tryz.func29, Tryz.ntmps29
      go_wp2_with fail
      refine HGV.out.mono ?_
      rintro e w1 ⟨rfl, hk⟩
      have HW1 := Lib.hid (up1 _ (linkT p.gw (giveL s.L i)) (by rw [hS1]; exact linkT_left hk))
      have d1 : w1.cell? ⟨g, 2, none⟩ = some (.pointer (some ⟨p.g1, 0, none⟩)) := (HW1.out.blk 0 rfl).cell 2
      have ld := (HW1.out.blk 0 rfl).lt
      obtain ⟨S2, hS2, up2⟩ := HW1.out.at_ 3 rfl
      have hK1 : KTab w1 ∧ CTab w1 := HTT.out w1 HW1.out.out
      have HT := Lib.hid (etake p.g1 s.e1 b w1 S2 hS2 hK1.1 hK1.2 hm1 hbz)
      clear hk hS2 hK1
      go_wp2_with (go_at_call 17; refine HT.out.mono ?_; rintro e w2 ⟨rfl, hl⟩)
      go_ret
      exact ⟨rfl, talkT_close (p := p) ⟨Nat.le_trans HGL.out.1 HOK.out.1, fun l hl => HOK.out.2 l (HGL.out.2 l hl)⟩ (up2 _ _ hl)⟩
end Go.Proofs.YtmfbaijbigodkaaGreatDoor

/-! More contracts of package talk: Write, Lose, Twice. Condition: the blocks hold a talk as New and the calls leave it. -/
namespace Go.Proofs.YtmfbaijbigodkaaGreatDoor
open Go.ChangeShapes Go.WideShapes Go.ChangeAt Go.RowKit
set_option linter.unusedVariables false

/-- Write -/
def TkS.writeE (s : TkS) (who : Int) (d : ByteArray) : Int := if whoB who = true then (s.e who).writeE d else 1
def TkS.write (s : TkS) (who : Int) (d : ByteArray) : TkS := if whoB who = true then s.set who ((s.e who).write d) else s
set_option maxHeartbeats 1600000 in
theorem twrite (g : Nat) (s : TkS) (who : Int) (d : ByteArray) (w : World) (S : List Nat) (h : (talkT g s).is w S) (hd : d.size ≤ 9223372036854775000) :
    Calls Tryz.prog 25 #[.pointer (some ⟨g, 0, none⟩), .int .i64 who, .string d] w fun e w' => e = .returned (errV (s.writeE who d)) ∧ Leaves w w' S (talkT g (s.write who d)) := by
  have H := Lib.hid h
  obtain ⟨p, ok, ho⟩ := talkT_open h
  have HOK := Lib.hid ok
  have HO := Lib.hid ho
  have c1 : w.cell? ⟨g, 1, none⟩ = some (.pointer (some ⟨p.g0, 0, none⟩)) := (ho.blk 0 rfl).cell 1
  have c2 : w.cell? ⟨g, 2, none⟩ = some (.pointer (some ⟨p.g1, 0, none⟩)) := (ho.blk 0 rfl).cell 2
  have lg := (ho.blk 0 rfl).lt
  clear h ho ok
  cases hw : whoB who with
  | false =>
    have HE : Hid (s.writeE who d = 1 ∧ s.write who d = s) := Lib.hid ⟨by unfold TkS.writeE; rw [hw]; rfl, by unfold TkS.write; rw [hw]; rfl⟩
    rw [HE.out.1, HE.out.2]
    go_enter Tryz.func25, Tryz.ntmps25
    go_wp2_with (go_at_call 68; refine (who_any who _).mono ?_; rintro e w1 ⟨rfl, rfl⟩; rw [hw])
    go_ret
    exact ⟨rfl, Leaves.same H.out (Below.refl _ _)⟩
  | true =>
    rcases whoB_iff.1 hw with rfl | rfl
    · have HE : Hid (s.writeE 0 d = s.e0.writeE d ∧ s.write 0 d = { s with e0 := s.e0.write d }) := Lib.hid ⟨rfl, rfl⟩
      rw [HE.out.1, HE.out.2]
      obtain ⟨S2, hS2, up⟩ := HO.out.at_ 2 rfl
      clear hw
      go_enter Tryz.func25, Tryz.ntmps25
      go_wp2_with (first | (go_at_call 68; refine (who_any 0 _).mono ?_; rintro e w1 ⟨rfl, rfl⟩) | (go_at_call 11; refine (ewrite p.g0 s.e0 d _ S2 hS2 hd).mono ?_; rintro e w1 ⟨rfl, hl⟩))
      go_ret
      exact ⟨rfl, talkT_close (p := p) HOK.out (up _ _ hl)⟩
    · have HE : Hid (s.writeE 1 d = s.e1.writeE d ∧ s.write 1 d = { s with e1 := s.e1.write d }) := Lib.hid ⟨rfl, rfl⟩
      rw [HE.out.1, HE.out.2]
      obtain ⟨S3, hS3, up⟩ := HO.out.at_ 3 rfl
      clear hw
      go_enter Tryz.func25, Tryz.ntmps25
      go_wp2_with (first | (go_at_call 68; refine (who_any 1 _).mono ?_; rintro e w1 ⟨rfl, rfl⟩) | (go_at_call 11; refine (ewrite p.g1 s.e1 d _ S3 hS3 hd).mono ?_; rintro e w1 ⟨rfl, hl⟩))
      go_ret
      exact ⟨rfl, talkT_close (p := p) HOK.out (up _ _ hl)⟩
set_option maxHeartbeats 1600000 in
theorem tklose (g : Nat) (s : TkS) (i : Int) (w : World) (S : List Nat) (h : (talkT g s).is w S) :
    Calls Tryz.prog 32 #[.pointer (some ⟨g, 0, none⟩), .int .i64 i] w fun e w' => e = .returned (errV (giveE s.L i)) ∧ Leaves w w' S (talkT g { s with L := giveL s.L i }) := by
  obtain ⟨p, ok, ho⟩ := talkT_open h
  have HOK := Lib.hid ok
  have HO := Lib.hid ho
  have c0 : w.cell? ⟨g, 0, none⟩ = some (.pointer (some ⟨p.gw, 0, none⟩)) := (ho.blk 0 rfl).cell 0
  have lg := (ho.blk 0 rfl).lt
  obtain ⟨S1, ⟨v, hz, hS1⟩, up⟩ := HO.out.at_ 1 rfl
  have HZ := Lib.hid hz
  have HGL := Lib.hid (giveL_sub (L := s.L) (i := i))
  clear h ho hz ok
  go_enter Tryz.func32, Tryz.ntmps32
  go_wp2_with (go_at_call 72; refine (klose p.gw v s.L i _ HZ.out).mono ?_; rintro e w1 ⟨rfl, hk⟩)
  go_ret
  exact ⟨rfl, talkT_close (p := p) ⟨Nat.le_trans HGL.out.1 HOK.out.1, fun l hl => HOK.out.2 l (HGL.out.2 l hl)⟩ (up _ _ (by rw [hS1]; exact linkT_left hk))⟩
theorem twice_ok {L : List Let} {i : Int} (h : L.length ≤ 40 ∧ ∀ l ∈ L, whoB l.too = true ∧ l.b.size ≤ 200) : (twiceL L i).length ≤ 40 ∧ ∀ l ∈ twiceL L i, whoB l.too = true ∧ l.b.size ≤ 200 := by
  unfold twiceL twiceE
  cases hb : isB L i with
  | false => exact h
  | true =>
    obtain ⟨h0, h1⟩ := isB_iff.1 hb
    by_cases h40 : L.length = 40
    · rw [if_pos rfl, if_pos h40, if_neg (by decide)]; exact h
    · rw [if_pos rfl, if_neg h40, if_pos rfl]
      refine ⟨by rw [List.length_append]; have := h.1; simp; omega, fun l hl => ?_⟩
      rcases List.mem_append.1 hl with hm | hm
      · exact h.2 l hm
      · rw [List.mem_singleton.1 hm]
        have hl : i.toNat < L.length := by omega
        rw [show L.getD i.toNat noLet = L[i.toNat] by simp [List.getD, List.getElem?_eq_getElem hl]]
        exact h.2 _ (List.getElem_mem _)
set_option maxHeartbeats 1600000 in
theorem tktwice (g : Nat) (s : TkS) (i : Int) (w : World) (S : List Nat) (h : (talkT g s).is w S) :
    Calls Tryz.prog 33 #[.pointer (some ⟨g, 0, none⟩), .int .i64 i] w fun e w' => e = .returned (errV (twiceE s.L i)) ∧ Leaves w w' S (talkT g { s with L := twiceL s.L i }) := by
  obtain ⟨p, ok, ho⟩ := talkT_open h
  have HOK := Lib.hid ok
  have HO := Lib.hid ho
  have c0 : w.cell? ⟨g, 0, none⟩ = some (.pointer (some ⟨p.gw, 0, none⟩)) := (ho.blk 0 rfl).cell 0
  have lg := (ho.blk 0 rfl).lt
  obtain ⟨S1, ⟨v, hz, hS1⟩, up⟩ := HO.out.at_ 1 rfl
  have HZ := Lib.hid hz
  clear h ho hz ok
  go_enter Tryz.func33, Tryz.ntmps33
  go_wp2_with (go_at_call 73; refine (ktwice p.gw v s.L i _ HZ.out).mono ?_; rintro e w1 ⟨rfl, hk⟩)
  go_ret
  exact ⟨rfl, talkT_close (p := p) (twice_ok HOK.out) (up _ _ (by rw [hS1]; exact linkT_left hk))⟩
end Go.Proofs.YtmfbaijbigodkaaGreatDoor

/-! The reference's talk of two in memory; its New, Send, Out, Come and Twice. Condition: the blocks hold a talk as NewTalk and the calls leave it, each end made no more than 1000 packets. -/
namespace Go.Proofs.YtmfbaijbigodkaaGreatDoor
open Go.ChangeShapes Go.WideShapes Go.ChangeAt Go.RowKit
set_option linter.unusedVariables false

/-- a talk's own block and its letters -/
def rlinkT (g : Nat) (e0 e1 : Value) (L : List Let) : Thing where
  is w S := ∃ v, Tz w g e0 e1 v L ∧ S = g :: blocks v
  lt h k hk := by
    obtain ⟨v, hz, rfl⟩ := h
    exact hz.lt k hk
  kept h ho hd := by
    obtain ⟨v, hz, rfl⟩ := h
    exact ⟨v, hz.kept ho hd, rfl⟩
theorem rlinkT_left {w w' : World} {g : Nat} {e0 e1 v : Value} {L : List Let} (h : TLeft w w' g e0 e1 v L) : Leaves w w' (g :: blocks v) (rlinkT g e0 e1 L) := by
  obtain ⟨v', h1, h2, h3⟩ := h
  refine ⟨g :: blocks v', ⟨v', h1, rfl⟩, h2, fun k hk => ?_⟩
  rcases List.mem_cons.1 hk with rfl | hk
  · exact Or.inl (by simp)
  · rcases h3 k hk with h | h
    · exact Or.inl (List.mem_cons_of_mem _ h)
    · exact Or.inr h
def rtParts (g : Nat) (s : TkS) (g0 g1 : Nat) : List Thing := [rlinkT g (.pointer (some ⟨g0, 0, none⟩)) (.pointer (some ⟨g1, 0, none⟩)) s.L, rnT g0 s.e0, rnT g1 s.e1]
/-- the reference's talk at g -/
def rtT (g : Nat) (s : TkS) : Thing := Thing.ex fun p : Nat × Nat => Thing.with_ (TkOk s) (Thing.all (rtParts g s p.1 p.2))
theorem rtT_open {w : World} {S : List Nat} {g : Nat} {s : TkS} (h : (rtT g s).is w S) : ∃ g0 g1, TkOk s ∧ Own w S w (rtParts g s g0 g1) := by
  obtain ⟨⟨g0, g1⟩, h1, h3⟩ := h
  exact ⟨g0, g1, h1, Own.unfold_ h3⟩
theorem rtT_close {w w' : World} {S : List Nat} {g : Nat} {s : TkS} {g0 g1 : Nat} (h1 : TkOk s) (h : Own w S w' (rtParts g s g0 g1)) : Leaves w w' S (rtT g s) :=
  Leaves.ex (g0, g1) (Leaves.with_ h1 h.closed)
theorem rtwice (g : Nat) (s : TkS) (i : Int) (w : World) (S : List Nat) (h : (rtT g s).is w S) (hok : TkOk { s with L := twiceL s.L i }) :
    Calls Tryz.prog 34 #[.pointer (some ⟨g, 0, none⟩), .int .i64 i] w fun e w' => e = .returned (.int .i64 (twiceE s.L i)) ∧ Leaves w w' S (rtT g { s with L := twiceL s.L i }) := by
  obtain ⟨g0, g1, ok, ho⟩ := rtT_open h
  obtain ⟨S1, ⟨v, hz, rfl⟩, up⟩ := ho.at_ 0 rfl
  refine (ttwice g _ _ v s.L i w hz).mono ?_
  rintro e w' ⟨rfl, hl⟩
  exact ⟨rfl, rtT_close hok (up _ _ (rlinkT_left hl))⟩
set_option maxHeartbeats 3200000 in
theorem rsend (g : Nat) (s : TkS) (who : Int) (w : World) (S : List Nat) (h : (rtT g s).is w S) (hm : (s.e who).made.length ≤ 1000) :
    Calls Tryz.prog 28 #[.pointer (some ⟨g, 0, none⟩), .int .i64 who] w fun e w' => e = .returned (.int .i64 (s.sendE who)) ∧ Leaves w w' S (rtT g (s.send who)) := by
  have H := Lib.hid h
  obtain ⟨g0, g1, ok, ho⟩ := rtT_open h
  have HO := Lib.hid ho
  obtain ⟨S1, ⟨v, hz, -⟩, -⟩ := ho.at_ 0 rfl
  have c0 : w.cell? ⟨g, 0, none⟩ = some (.pointer (some ⟨g0, 0, none⟩)) := hz.bl.cell 0
  have c1 : w.cell? ⟨g, 1, none⟩ = some (.pointer (some ⟨g1, 0, none⟩)) := hz.bl.cell 1
  have c2 : w.cell? ⟨g, 2, none⟩ = some v := hz.bl.cell 2
  have lg := hz.bl.lt
  obtain ⟨A, cap, hve, _, _, hA⟩ := hz.ls.shape
  rw [List.length_map] at hve
  clear h ho hz
  cases hw : whoB who with
  | false =>
    have HE : Hid (s.sendE who = 1 ∧ s.send who = s) := Lib.hid (by
      have e1 : s.sendE who = 1 := by unfold TkS.sendE; rw [hw]; rfl
      exact ⟨e1, by unfold TkS.send; rw [e1, if_neg (by decide)]⟩)
    rw [HE.out.1, HE.out.2]
    have hn0 : ¬ who = 0 := fun e => by rw [whoB_iff.2 (Or.inl e)] at hw; cases hw
    have hn1 : ¬ who = 1 := fun e => by rw [whoB_iff.2 (Or.inr e)] at hw; cases hw
    have hb0 : (who != 0) = true := by simpa using hn0
    have hb1 : (who != 1) = true := by simpa using hn1
    clear hw hve hA
    go_enter Tryz.func28, Tryz.ntmps28
    trace "N"; go_wp2_with fail
    go_ret
    exact ⟨rfl, Leaves.same H.out (Below.refl _ _)⟩
  | true =>
    rcases whoB_iff.1 hw with rfl | rfl
    · have HE : Hid (s.sendE 0 = (if s.L.length = 40 then 4 else 0) ∧ s.e 0 = s.e0) := Lib.hid ⟨rfl, rfl⟩
      have HS : Hid (¬ s.L.length = 40 → s.send 0 = { s with e0 := s.e0.make, L := s.L ++ [⟨1, ⟨s.e0.packet.toArray⟩⟩] }) := Lib.hid (fun h0 => by unfold TkS.send; rw [HE.out.1, if_neg h0, if_pos rfl]; rfl)
      have HS1 : Hid (s.L.length = 40 → s.send 0 = s) := Lib.hid (fun h0 => by unfold TkS.send; rw [HE.out.1, if_pos h0, if_neg (by decide)])
      by_cases hf : s.L.length = 40
      · rw [HE.out.1, if_pos hf, HS1.out hf]
        have hl40 : (40 : Int) ≤ (s.L.length : Int) := by omega
        rw [hf] at hve
        subst hve
        clear hw hl40 hf hA
        go_enter Tryz.func28, Tryz.ntmps28
        trace "A0"; go_wp2_with fail
        go_ret
        exact ⟨rfl, Leaves.same H.out (Below.refl _ _)⟩
      · rw [HE.out.1, if_neg hf, HS.out hf]
        have hl40 : decide ((40 : Int) ≤ (s.L.length : Int)) = false := by have := ok.1; simp; omega
        have hl41 : (s.L.length : Int) < 40 := by have := ok.1; omega
        have hl42 : ¬ 40 ≤ s.L.length := by have := ok.1; omega
        obtain ⟨S2, hS2, up2⟩ := HO.out.at_ 1 rfl
        have hme : (s.e0).made.length ≤ 1000 := hm
        have hokE : EnOk s.e0 := by obtain ⟨q, hq⟩ := rnT_open hS2; exact hq.ok
        have hpk : s.e0.packet.length ≤ 177 := (hokE.packetOk (by omega)).2.2
        have HOK2 : Hid (TkOk { s with e0 := s.e0.make, L := s.L ++ [⟨1, ⟨s.e0.packet.toArray⟩⟩] }) := Lib.hid (by
          refine ⟨by show (s.L ++ [_]).length ≤ 40; rw [List.length_append]; have := ok.1; simp; omega, fun l hl => ?_⟩
          rcases List.mem_append.1 hl with h | h
          · exact ok.2 l h
          · rw [List.mem_singleton.1 h]
            refine ⟨rfl, ?_⟩
            show s.e0.packet.toArray.size ≤ 200
            rw [List.size_toArray]; omega)
        have HMK := Lib.hid (nmake g0 s.e0 w S2 hS2 hme)
        have HUP := Lib.hid up2
        have HL40 : Hid (s.L.length < 40) := Lib.hid (by have := ok.1; omega)
        subst hve
        clear hw hS2 up2 hokE hpk hf hme hA
        go_enter Tryz.func28, Tryz.ntmps28
        trace "B0"; go_wp2_with fail
        refine HMK.out.mono ?_
        rintro e w7 ⟨rfl, hl⟩
        have HO7 := Lib.hid (HUP.out _ _ hl)
        obtain ⟨S9, ⟨v9, hz9, hS9⟩, up9⟩ := HO7.out.at_ 0 rfl
        obtain ⟨A9, cap9, hv9, _, _, _⟩ := hz9.ls.shape
        rw [List.length_map] at hv9
        subst hv9
        have HZ9 := Lib.hid hz9
        have d2 : w7.cell? ⟨g, 2, none⟩ = some (.slice A9 s.L.length cap9) := hz9.bl.cell 2
        have l7 := hz9.bl.lt
        have HUP9 := Lib.hid up9
        have HS9 := Lib.hid hS9
        obtain ⟨es, hes⟩ : ∃ es, s.L.map letRow = es := ⟨_, rfl⟩
        have HES : Hid (es.length = s.L.length) := Lib.hid (by rw [← hes, List.length_map])
        have HEQ := Lib.hid hes
        have HLS : Hid (Lst w7 67 2 (.slice A9 s.L.length cap9) es) := Lib.hid (by rw [← hes]; exact hz9.ls)
        obtain ⟨pk, hpk⟩ : ∃ x : ByteArray, (⟨s.e0.packet.toArray⟩ : ByteArray) = x := ⟨_, rfl⟩
        have HPK := Lib.hid hpk
        rw [hpk]
        clear hl hz9 up9 hS9 hes hpk
        trace "C0"; go_wp2_with (at_builtin; refine wpList_push rfl _ _ 59 rfl 67 2 24 Tryz.elRLet (.slice A9 s.L.length cap9) es rfl (HLS.out.alloc _) w7.heap.size 1 [.int .i64 1, .string pk] rfl rfl (letRow_one ⟨1, pk⟩).2 (BlockIs.fresh _ _ _) (by rw [HES.out]; have := HL40.out; omega) ?_; intro q8 c8 w8 hl8 ho8 hq8 hlt8; rw [HES.out] at hl8; rw [HES.out]; have hb8 := ho8.block' (HZ9.out.bl.alloc _) (HLS.out.apart HZ9.out.bl (by decide)); have x2 : w8.cell? ⟨g, 2, none⟩ = some (.slice A9 s.L.length cap9) := hb8.cell 2; have f8 := hb8.free; have l8 := hb8.lt)
        go_ret
        have hO : Out w7 w8 (g :: blocks (.slice A9 s.L.length cap9)) := ((Out.refl w7 _).alloc _).trans (ho8.mono (fun k hk => Or.inl (List.mem_cons_of_mem _ hk)))
        have hQ : q8 ∈ blocks (.slice A9 s.L.length cap9) ∨ w7.heap.size ≤ q8 := by
          rcases hq8 with h9 | h9
          · exact Or.inl h9
          · right; rw [h9]; simp
        have ht := tpush (w := w7) ⟨1, pk⟩ hb8 (by rw [HEQ.out]; exact hl8) hO hQ HL40.out
        refine ⟨rfl, rtT_close (g0 := g0) (g1 := g1) HOK2.out ?_⟩
        have hu := HUP9.out _ _ (by rw [HS9.out]; exact rlinkT_left ht)
        rw [HPK.out]
        exact hu
    · have HE : Hid (s.sendE 1 = (if s.L.length = 40 then 4 else 0) ∧ s.e 1 = s.e1) := Lib.hid ⟨rfl, rfl⟩
      have HS : Hid (¬ s.L.length = 40 → s.send 1 = { s with e1 := s.e1.make, L := s.L ++ [⟨0, ⟨s.e1.packet.toArray⟩⟩] }) := Lib.hid (fun h0 => by unfold TkS.send; rw [HE.out.1, if_neg h0, if_pos rfl]; rfl)
      have HS1 : Hid (s.L.length = 40 → s.send 1 = s) := Lib.hid (fun h0 => by unfold TkS.send; rw [HE.out.1, if_pos h0, if_neg (by decide)])
      by_cases hf : s.L.length = 40
      · rw [HE.out.1, if_pos hf, HS1.out hf]
        have hl40 : (40 : Int) ≤ (s.L.length : Int) := by omega
        rw [hf] at hve
        subst hve
        clear hw hl40 hf hA
        go_enter Tryz.func28, Tryz.ntmps28
        trace "A1"; go_wp2_with fail
        go_ret
        exact ⟨rfl, Leaves.same H.out (Below.refl _ _)⟩
      · rw [HE.out.1, if_neg hf, HS.out hf]
        have hl40 : decide ((40 : Int) ≤ (s.L.length : Int)) = false := by have := ok.1; simp; omega
        have hl41 : (s.L.length : Int) < 40 := by have := ok.1; omega
        have hl42 : ¬ 40 ≤ s.L.length := by have := ok.1; omega
        obtain ⟨S2, hS2, up2⟩ := HO.out.at_ 2 rfl
        have hme : (s.e1).made.length ≤ 1000 := hm
        have hokE : EnOk s.e1 := by obtain ⟨q, hq⟩ := rnT_open hS2; exact hq.ok
        have hpk : s.e1.packet.length ≤ 177 := (hokE.packetOk (by omega)).2.2
        have HOK2 : Hid (TkOk { s with e1 := s.e1.make, L := s.L ++ [⟨0, ⟨s.e1.packet.toArray⟩⟩] }) := Lib.hid (by
          refine ⟨by show (s.L ++ [_]).length ≤ 40; rw [List.length_append]; have := ok.1; simp; omega, fun l hl => ?_⟩
          rcases List.mem_append.1 hl with h | h
          · exact ok.2 l h
          · rw [List.mem_singleton.1 h]
            refine ⟨rfl, ?_⟩
            show s.e1.packet.toArray.size ≤ 200
            rw [List.size_toArray]; omega)
        have HMK := Lib.hid (nmake g1 s.e1 w S2 hS2 hme)
        have HUP := Lib.hid up2
        have HL40 : Hid (s.L.length < 40) := Lib.hid (by have := ok.1; omega)
        subst hve
        clear hw hS2 up2 hokE hpk hf hme hA
        go_enter Tryz.func28, Tryz.ntmps28
        trace "B1"; go_wp2_with fail
        refine HMK.out.mono ?_
        rintro e w7 ⟨rfl, hl⟩
        have HO7 := Lib.hid (HUP.out _ _ hl)
        obtain ⟨S9, ⟨v9, hz9, hS9⟩, up9⟩ := HO7.out.at_ 0 rfl
        obtain ⟨A9, cap9, hv9, _, _, _⟩ := hz9.ls.shape
        rw [List.length_map] at hv9
        subst hv9
        have HZ9 := Lib.hid hz9
        have d2 : w7.cell? ⟨g, 2, none⟩ = some (.slice A9 s.L.length cap9) := hz9.bl.cell 2
        have l7 := hz9.bl.lt
        have HUP9 := Lib.hid up9
        have HS9 := Lib.hid hS9
        obtain ⟨es, hes⟩ : ∃ es, s.L.map letRow = es := ⟨_, rfl⟩
        have HES : Hid (es.length = s.L.length) := Lib.hid (by rw [← hes, List.length_map])
        have HEQ := Lib.hid hes
        have HLS : Hid (Lst w7 67 2 (.slice A9 s.L.length cap9) es) := Lib.hid (by rw [← hes]; exact hz9.ls)
        obtain ⟨pk, hpk⟩ : ∃ x : ByteArray, (⟨s.e1.packet.toArray⟩ : ByteArray) = x := ⟨_, rfl⟩
        have HPK := Lib.hid hpk
        rw [hpk]
        clear hl hz9 up9 hS9 hes hpk
        trace "C1"; go_wp2_with (at_builtin; refine wpList_push rfl _ _ 59 rfl 67 2 24 Tryz.elRLet (.slice A9 s.L.length cap9) es rfl (HLS.out.alloc _) w7.heap.size 1 [.int .i64 0, .string pk] rfl rfl (letRow_one ⟨0, pk⟩).2 (BlockIs.fresh _ _ _) (by rw [HES.out]; have := HL40.out; omega) ?_; intro q8 c8 w8 hl8 ho8 hq8 hlt8; rw [HES.out] at hl8; rw [HES.out]; have hb8 := ho8.block' (HZ9.out.bl.alloc _) (HLS.out.apart HZ9.out.bl (by decide)); have x2 : w8.cell? ⟨g, 2, none⟩ = some (.slice A9 s.L.length cap9) := hb8.cell 2; have f8 := hb8.free; have l8 := hb8.lt)
        go_ret
        have hO : Out w7 w8 (g :: blocks (.slice A9 s.L.length cap9)) := ((Out.refl w7 _).alloc _).trans (ho8.mono (fun k hk => Or.inl (List.mem_cons_of_mem _ hk)))
        have hQ : q8 ∈ blocks (.slice A9 s.L.length cap9) ∨ w7.heap.size ≤ q8 := by
          rcases hq8 with h9 | h9
          · exact Or.inl h9
          · right; rw [h9]; simp
        have ht := tpush (w := w7) ⟨0, pk⟩ hb8 (by rw [HEQ.out]; exact hl8) hO hQ HL40.out
        refine ⟨rfl, rtT_close (g0 := g0) (g1 := g1) HOK2.out ?_⟩
        have hu := HUP9.out _ _ (by rw [HS9.out]; exact rlinkT_left ht)
        rw [HPK.out]
        exact hu
theorem giveL_ok {s : TkS} (ok : TkOk s) (i : Int) : (giveL s.L i).length ≤ 40 ∧ ∀ l ∈ giveL s.L i, whoB l.too = true ∧ l.b.size ≤ 200 := by
  unfold giveL
  split
  · refine ⟨?_, fun l hl => ok.2 l ?_⟩
    · have := ok.1
      rw [List.length_append, List.length_take, List.length_drop]; omega
    · rcases List.mem_append.1 hl with h | h
      · exact List.mem_of_mem_take h
      · exact List.mem_of_mem_drop h
  · exact ok
theorem giveD_ok {s : TkS} (ok : TkOk s) {i : Int} (h : isB s.L i = true) : whoB (giveD s.L i).too = true ∧ (giveD s.L i).b.size ≤ 200 := by
  have hb := isB_iff.1 h
  have hi : i.toNat < s.L.length := by omega
  have e : giveD s.L i = s.L[i.toNat] := by unfold giveD; rw [if_pos h]; simp [List.getD, List.getElem?_eq_getElem hi]
  rw [e]
  exact ok.2 _ (List.getElem_mem hi)
set_option maxRecDepth 100000 in
set_option maxHeartbeats 3200000 in
theorem rcome (g : Nat) (s : TkS) (i : Int) (w : World) (S : List Nat) (h : (rtT g s).is w S) (hm0 : s.e0.made.length ≤ 1000) (hm1 : s.e1.made.length ≤ 1000) :
    Calls Tryz.prog 30 #[.pointer (some ⟨g, 0, none⟩), .int .i64 i] w fun e w' => e = .returned (.int .i64 (s.comeE i)) ∧ Leaves w w' S (rtT g (s.come i)) := by
  have H := Lib.hid h
  obtain ⟨g0, g1, ok, ho⟩ := rtT_open h
  have HO := Lib.hid ho
  obtain ⟨S1, ⟨v, hz, hS1⟩, up⟩ := ho.at_ 0 rfl
  have HTO := Lib.hid (tout g _ _ v s.L i w hz)
  have HUP : Hid (∀ w' t', Leaves w w' (g :: blocks v) t' → Own w S w' ((rtParts g s g0 g1).set 0 t')) := Lib.hid (by rw [← hS1]; exact up)
  have lg := hz.bl.lt
  have HOK2 := Lib.hid (giveL_ok ok i)
  clear h ho hz up hS1
  by_cases hb : isB s.L i = true
  case neg =>
    have hE : Hid (s.comeE i = 1 ∧ s.come i = s ∧ giveE s.L i = 1 ∧ giveL s.L i = s.L ∧ giveD s.L i = noLet) := Lib.hid ⟨by unfold TkS.comeE; rw [if_neg hb], by unfold TkS.come; rw [if_neg hb], by unfold giveE; rw [if_neg hb], by unfold giveL; rw [if_neg hb], by unfold giveD; rw [if_neg hb]⟩
    rw [hE.out.2.2.1, hE.out.2.2.2.1, hE.out.2.2.2.2] at HTO
    rw [hE.out.1, hE.out.2.1]
    unfold noLet letV at HTO
    go_enter Tryz.func30, Tryz.ntmps30
    trace "A"; go_wp2_with fail
    refine HTO.out.mono ?_
    rintro e w5 ⟨rfl, hl⟩
    have HO5 := Lib.hid ((HUP.out _ _ (rlinkT_left hl)).later ((Since.refl w5).alloc (.cells #[.int .i64 0, .string ⟨#[]⟩] 67)))
    clear hl
    trace "B"; go_wp2_with fail
    go_ret
    exact ⟨rfl, rtT_close (g0 := g0) (g1 := g1) ok HO5.out⟩
  have HDO := giveD_ok ok hb
  have HGE : Hid (giveE s.L i = 0) := Lib.hid (by unfold giveE; rw [if_pos hb])
  rw [HGE.out] at HTO
  unfold letV at HTO
  obtain ⟨d, hd⟩ : ∃ d, giveD s.L i = d := ⟨_, rfl⟩
  rw [hd] at HTO HDO
  have HD := Lib.hid hd
  obtain ⟨hw, hdb⟩ := HDO
  have HDB := Lib.hid hdb
  clear hd hdb
  rcases whoB_iff.1 hw with h0 | h0
  · have hE : Hid (s.comeE i = s.e0.takeE d.b.data.toList ∧ s.come i = { s with e0 := s.e0.take d.b.data.toList, L := giveL s.L i }) := Lib.hid (by
      refine ⟨?_, ?_⟩
      · unfold TkS.comeE
        rw [if_pos hb, HD.out, h0]; rfl
      · unfold TkS.come
        rw [if_pos hb, HD.out, h0]; rfl)
    rw [hE.out.1, hE.out.2]
    have HOK3 : Hid (TkOk { s with e0 := s.e0.take d.b.data.toList, L := giveL s.L i }) := Lib.hid HOK2.out
    obtain ⟨dt, db⟩ := d
    dsimp only at h0
    subst h0
    have hsz : db.size ≤ 9223372036854775000 := by have := HDB.out; dsimp only at this; omega
    clear hw hb
    go_enter Tryz.func30, Tryz.ntmps30
    trace "D0"; go_wp2_with fail
    refine HTO.out.mono ?_
    rintro e w5 ⟨rfl, hl⟩
    have HO5 := Lib.hid (HUP.out _ _ (rlinkT_left hl))
    obtain ⟨S9, ⟨v9, hz9, -⟩, -⟩ := HO5.out.at_ 0 rfl
    have d0 : w5.cell? ⟨g, 0, none⟩ = some (.pointer (some ⟨g0, 0, none⟩)) := hz9.bl.cell 0
    have l5 := hz9.bl.lt
    obtain ⟨S2, hS2, up2⟩ := (HO5.out.later ((Since.refl w5).alloc (.cells #[.int .i64 0, .string db] 67)).drew).at_ 1 rfl
    have HNT := Lib.hid (NTk.ntake g0 s.e0 db _ S2 hS2 hm0 hsz)
    have HUP2 := Lib.hid up2
    clear hl hz9 hS2 up2
    trace "E0"; go_wp2_with fail
    have p0 : (w5.alloc (.cells #[.int .i64 0, .string db] 67)).cell? ⟨w5.heap.size, 0, none⟩ = some (.int .i64 0) := (BlockIs.fresh w5 _ _).cell 0
    have p1 : (w5.alloc (.cells #[.int .i64 0, .string db] 67)).cell? ⟨w5.heap.size, 1, none⟩ = some (.string db) := (BlockIs.fresh w5 _ _).cell 1
    have d6 : (w5.alloc (.cells #[.int .i64 0, .string db] 67)).cell? ⟨g, 0, none⟩ = some (.pointer (some ⟨g0, 0, none⟩)) := (show Since w5 _ from (Since.refl w5).alloc _).cell l5 d0
    have l6 : g < (w5.alloc (.cells #[.int .i64 0, .string db] 67)).heap.size := Nat.lt_of_lt_of_le l5 (show Since w5 _ from (Since.refl w5).alloc _).size
    obtain ⟨w6, hw6⟩ : ∃ x, w5.alloc (.cells #[.int .i64 0, .string db] 67) = x := ⟨_, rfl⟩
    obtain ⟨gx, hgx⟩ : ∃ x, w5.heap.size = x := ⟨_, rfl⟩
    rw [hw6, hgx] at p0 p1
    rw [hw6] at d6 l6 HNT HUP2
    rw [hw6, hgx]
    clear hw6 hgx d0 l5
    trace "F0"; go_still_tail 9, (by kernel_rfl)
    change wpList _ _ _ _ _ w6.drew
    trace "G0"; go_wp2_with fail
    refine HNT.out.mono ?_
    rintro e w7 ⟨rfl, hl7⟩
    trace "H0"; go_wp2_with fail
    go_ret
    exact ⟨rfl, rtT_close (g0 := g0) (g1 := g1) HOK3.out (HUP2.out _ _ hl7)⟩
  · have hE : Hid (s.comeE i = s.e1.takeE d.b.data.toList ∧ s.come i = { s with e1 := s.e1.take d.b.data.toList, L := giveL s.L i }) := Lib.hid (by
      refine ⟨?_, ?_⟩
      · unfold TkS.comeE
        rw [if_pos hb, HD.out, h0]; rfl
      · unfold TkS.come
        rw [if_pos hb, HD.out, h0]; rfl)
    rw [hE.out.1, hE.out.2]
    have HOK3 : Hid (TkOk { s with e1 := s.e1.take d.b.data.toList, L := giveL s.L i }) := Lib.hid HOK2.out
    obtain ⟨dt, db⟩ := d
    dsimp only at h0
    subst h0
    have hsz : db.size ≤ 9223372036854775000 := by have := HDB.out; dsimp only at this; omega
    clear hw hb
    go_enter Tryz.func30, Tryz.ntmps30
    trace "D1"; go_wp2_with fail
    refine HTO.out.mono ?_
    rintro e w5 ⟨rfl, hl⟩
    have HO5 := Lib.hid (HUP.out _ _ (rlinkT_left hl))
    obtain ⟨S9, ⟨v9, hz9, -⟩, -⟩ := HO5.out.at_ 0 rfl
    have d1 : w5.cell? ⟨g, 1, none⟩ = some (.pointer (some ⟨g1, 0, none⟩)) := hz9.bl.cell 1
    have l5 := hz9.bl.lt
    obtain ⟨S2, hS2, up2⟩ := (HO5.out.later ((Since.refl w5).alloc (.cells #[.int .i64 1, .string db] 67)).drew).at_ 2 rfl
    have HNT := Lib.hid (NTk.ntake g1 s.e1 db _ S2 hS2 hm1 hsz)
    have HUP2 := Lib.hid up2
    clear hl hz9 hS2 up2
    trace "E1"; go_wp2_with fail
    have p0 : (w5.alloc (.cells #[.int .i64 1, .string db] 67)).cell? ⟨w5.heap.size, 0, none⟩ = some (.int .i64 1) := (BlockIs.fresh w5 _ _).cell 0
    have p1 : (w5.alloc (.cells #[.int .i64 1, .string db] 67)).cell? ⟨w5.heap.size, 1, none⟩ = some (.string db) := (BlockIs.fresh w5 _ _).cell 1
    have d6 : (w5.alloc (.cells #[.int .i64 1, .string db] 67)).cell? ⟨g, 1, none⟩ = some (.pointer (some ⟨g1, 0, none⟩)) := (show Since w5 _ from (Since.refl w5).alloc _).cell l5 d1
    have l6 : g < (w5.alloc (.cells #[.int .i64 1, .string db] 67)).heap.size := Nat.lt_of_lt_of_le l5 (show Since w5 _ from (Since.refl w5).alloc _).size
    obtain ⟨w6, hw6⟩ : ∃ x, w5.alloc (.cells #[.int .i64 1, .string db] 67) = x := ⟨_, rfl⟩
    obtain ⟨gx, hgx⟩ : ∃ x, w5.heap.size = x := ⟨_, rfl⟩
    rw [hw6, hgx] at p0 p1
    rw [hw6] at d6 l6 HNT HUP2
    rw [hw6, hgx]
    clear hw6 hgx d1 l5
    trace "F1"; go_still_tail 9, (by kernel_rfl)
    change wpList _ _ _ _ _ w6.drew
    trace "G1"; go_wp2_with fail
    refine HNT.out.mono ?_
    rintro e w7 ⟨rfl, hl7⟩
    trace "H1"; go_wp2_with fail
    go_ret
    exact ⟨rfl, rtT_close (g0 := g0) (g1 := g1) HOK3.out (HUP2.out _ _ hl7)⟩
theorem rlose (g : Nat) (s : TkS) (i : Int) (w : World) (S : List Nat) (h : (rtT g s).is w S) :
    Calls Tryz.prog 31 #[.pointer (some ⟨g, 0, none⟩), .int .i64 i] w fun e w' => e = .returned (.tuple #[letV (giveD s.L i), .int .i64 (giveE s.L i)]) ∧ Leaves w w' S (rtT g { s with L := giveL s.L i }) := by
  obtain ⟨g0, g1, ok, ho⟩ := rtT_open h
  obtain ⟨S1, ⟨v, hz, rfl⟩, up⟩ := ho.at_ 0 rfl
  refine (tout g _ _ v s.L i w hz).mono ?_
  rintro e w' ⟨rfl, hl⟩
  exact ⟨rfl, rtT_close (g0 := g0) (g1 := g1) (giveL_ok ok i) (up _ _ (rlinkT_left hl))⟩
set_option maxRecDepth 100000 in
set_option maxHeartbeats 3200000 in
theorem rtnew (n : Int) (h1 : 1 ≤ n) (h2 : n ≤ 1000) (w : World) :
    Calls Tryz.prog 24 #[.int .i64 n] w fun e w' => ∃ g, e = .returned (.pointer (some ⟨g, 0, none⟩)) ∧ Leaves w w' [] (rtT g (TkS.new n)) := by
  have HN := Lib.hid (fun W => nnew n h1 h2 W)
  have O1 := Lib.hid ((Own.start w).alloc 61 #[.pointer none, .pointer none, .slice none 0 0])
  go_enter Tryz.func24, Tryz.ntmps24
  trace "A"; go_upto_region 2 with fail
  obtain ⟨w1, hw1⟩ : ∃ x, w.alloc (.cells #[.pointer none, .pointer none, .slice none 0 0] 61) = x := ⟨_, rfl⟩
  obtain ⟨g, hg⟩ : ∃ x, w.heap.size = x := ⟨_, rfl⟩
  rw [hw1, hg] at O1
  rw [hw1, hg]
  clear hw1 hg
  trace "B"; go_region_law (go_simp; go_at_call 10; refine (HN.out _).mono ?_; rintro e w2 ⟨ga, rfl, hl2⟩; have O2 := Lib.hid (O1.out.drew.made hl2); have b2 := O2.out.blk 0 rfl; have c20 := b2.cell 0; have f2 := b2.free; have l2 := b2.lt; clear b2 hl2)
  all_goals
    have O3 := Lib.hid (O2.out.put 0 rfl 0 (.pointer (some ⟨ga, 0, none⟩)))
    clear c20 f2 l2 O2
    trace "C"; go_upto_region 3 with fail
    obtain ⟨w3, hw3⟩ : ∃ x, w2.setCell ⟨g, 0, none⟩ (.pointer (some ⟨ga, 0, none⟩)) = x := ⟨_, rfl⟩
    rw [hw3] at O3
    rw [hw3]
    clear hw3
    trace "D"; go_region_law (go_simp; go_at_call 10; refine (HN.out _).mono ?_; rintro e w4 ⟨gb, rfl, hl4⟩; have O4 := Lib.hid (O3.out.drew.made hl4); have b4 := O4.out.blk 0 rfl; have c41 := b4.cell 1; have f4 := b4.free; have l4 := b4.lt; clear b4 hl4)
    all_goals
      have O5 := Lib.hid (O4.out.put 0 rfl 1 (.pointer (some ⟨gb, 0, none⟩)))
      clear c41 f4 l4 O4
      trace "E"; go_wp2_with fail
      go_ret
      have o6 := O5.out.alike 0 (t' := rlinkT g (.pointer (some ⟨ga, 0, none⟩)) (.pointer (some ⟨gb, 0, none⟩)) []) rfl (fun S hS => ⟨.slice none 0 0, ⟨hS.1, Lst.nil _ _ _, by simp⟩, hS.2⟩)
      exact ⟨g, rfl, rtT_close (g0 := ga) (g1 := gb) ⟨by simp [TkS.new], by simp [TkS.new]⟩ o6⟩
/-- one end of the reference's talk: where it lies, and what becomes of the talk when a call leaves something of it -/
theorem rt_end0 {w : World} {S : List Nat} {g : Nat} {s : TkS} (h : (rtT g s).is w S) : ∃ ge, w.cell? ⟨g, 0, none⟩ = some (.pointer (some ⟨ge, 0, none⟩)) ∧ g < w.heap.size ∧ ∃ S0, (rnT ge s.e0).is w S0 ∧ ∀ (w' : World) (x : EnS), Leaves w w' S0 (rnT ge x) → Leaves w w' S (rtT g { s with e0 := x }) := by
  obtain ⟨g0, g1, ok, ho⟩ := rtT_open h
  obtain ⟨S1, ⟨v, hz, -⟩, -⟩ := ho.at_ 0 rfl
  obtain ⟨S2, hS2, up2⟩ := ho.at_ 1 rfl
  exact ⟨g0, hz.bl.cell 0, hz.bl.lt, S2, hS2, fun w' x hl => rtT_close (g0 := g0) (g1 := g1) ok (up2 _ _ hl)⟩
/-- one end of the reference's talk: where it lies, and what becomes of the talk when a call leaves something of it -/
theorem rt_end1 {w : World} {S : List Nat} {g : Nat} {s : TkS} (h : (rtT g s).is w S) : ∃ ge, w.cell? ⟨g, 1, none⟩ = some (.pointer (some ⟨ge, 0, none⟩)) ∧ g < w.heap.size ∧ ∃ S0, (rnT ge s.e1).is w S0 ∧ ∀ (w' : World) (x : EnS), Leaves w w' S0 (rnT ge x) → Leaves w w' S (rtT g { s with e1 := x }) := by
  obtain ⟨g0, g1, ok, ho⟩ := rtT_open h
  obtain ⟨S1, ⟨v, hz, -⟩, -⟩ := ho.at_ 0 rfl
  obtain ⟨S2, hS2, up2⟩ := ho.at_ 2 rfl
  exact ⟨g1, hz.bl.cell 1, hz.bl.lt, S2, hS2, fun w' x hl => rtT_close (g0 := g0) (g1 := g1) ok (up2 _ _ hl)⟩
end Go.Proofs.YtmfbaijbigodkaaGreatDoor
