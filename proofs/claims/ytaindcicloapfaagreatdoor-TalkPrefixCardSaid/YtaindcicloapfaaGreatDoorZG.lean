/- Contracts and plain laws that the claim leans on, part 1 of 1: each part has its own word. No condition beside theirs. -/
import Derived.Test.YtaindcicloapfaaGreatDoorZF
import Derived.Laws.IdiomCopy
import Derived.Deep.RegionLaw
import Derived.Lib.SliceRun
import Derived.Deep.QuietTactic
import Derived.BigQuiet
import Derived.BigRegion
import Derived.SizedLaws
/-! slices.Delete of one element, over a slice of the call's own: laws on the cells. Condition: the slice is the call's own. -/
namespace Go.Proofs.YtaindcicloapfaaGreatDoor
open Go.ChangeShapes Go.WideShapes Go.ChangeAt Go.RowKit
set_option linter.unusedVariables false

/-- cells laid one behind the other -/
def putz (cs : Array Value) : Nat → List Value → Array Value
  | _, [] => cs
  | o, v :: r => putz (cs.setIfInBounds o v) (o + 1) r
theorem putz_size : ∀ (vs : List Value) (cs : Array Value) (o : Nat), (putz cs o vs).size = cs.size
  | [], cs, o => rfl
  | v :: r, cs, o => by unfold putz; rw [putz_size r]; simp
theorem putz_list : ∀ (vs : List Value) (cs : Array Value) (o : Nat), o + vs.length ≤ cs.size → (putz cs o vs).toList = cs.toList.take o ++ vs ++ cs.toList.drop (o + vs.length)
  | [], cs, o, h => by simp [putz]
  | v :: r, cs, o, h => by
    rw [List.length_cons] at h
    unfold putz
    rw [putz_list r (cs.setIfInBounds o v) (o + 1) (by simp; omega)]
    rw [Array.toList_setIfInBounds]
    have ho : o < cs.toList.length := by simp; omega
    rw [List.take_set, List.drop_set_of_lt (by omega)]
    have e1 : (cs.toList.take (o + 1)).set o v = cs.toList.take o ++ [v] := by
      rw [List.take_succ_eq_append_getElem ho, List.set_append_right _ _ (by rw [List.length_take]; omega), List.length_take, show o - min o cs.toList.length = 0 from by omega]
      rfl
    rw [e1, List.length_cons, show o + 1 + r.length = o + (r.length + 1) from by omega]
    simp
theorem BlockIs.putAll : ∀ (vs : List Value) {w : World} {g : Nat} {t : TypeId} {cs : Array Value} (h : BlockIs w g t cs) (o : Nat), BlockIs (w.setCells g o vs) g t (putz cs o vs)
  | [], _, _, _, _, h, _ => h
  | v :: r, w, g, t, cs, h, o => by
    unfold World.setCells putz
    exact BlockIs.putAll r (h.put o v) (o + 1)
theorem Out.putAll : ∀ (vs : List Value) (w : World) (g o : Nat), Out w (w.setCells g o vs) [g]
  | [], w, _, _ => Out.refl w _
  | v :: r, w, g, o => by
    unfold World.setCells
    exact ((Out.refl w [g]).put (p := ⟨g, o, none⟩) (Or.inl (by simp)) v).trans (Out.putAll r _ g (o + 1))
theorem run_clear1 {P : Program} (w : World) (t e ty : TypeId) (z : Value) (zs : List Value) (ht : P.underlying t = some (.slice e)) (hv : (zeroValue e).run P w = .ok z w) (hz : z.cells = zs.toArray) (h1 : ∀ u ∈ zs, u.oneCell' = true) (b o c n : Nat) (hn : n = 1)
    (hc : ∀ j, j < zs.length → (w.cell? ⟨b, o + j, none⟩).isSome = true) (hf : ∀ j, j < zs.length → w.frozen? ⟨b, o + j, none⟩ = false) :
    (Builtin.clear_ #[t] ty #[.slice (some ⟨b, o, none⟩) n c]).run P w = .ok (.tuple #[]) (w.setCells b o zs) := by
  subst hn
  have hzc : (Builtin.zeroCells z.cells 1).toList = zs := by
    rw [hz]
    simp [Builtin.zeroCells]
    apply List.ext_getElem
    · simp
    · intro i h1 h2
      simp at h1
      simp [Nat.mod_eq_of_lt h1, h1]
  have hst := run_storeCells_cells (P := P) b o zs 0 w (by simpa using hc) (by simpa using hf) h1
  simp only [Nat.add_zero] at hst
  simp [Builtin.clear_, run_underlying ht, hv, hzc, hst]

/-- what is left behind a deletion -/
theorem del_cells {E size : Nat} {w : World} {g cap : Nat} {es : List (List Value)} (h : Lst w E size (.slice (some ⟨g, 0, none⟩) es.length cap) es) {i : Nat} (hi : i < es.length) (hs : 0 < size) (zs : List Value) (hz : zs.length = size) :
    ∃ cur, BlockIs w g E cur ∧ cur.size = cap * size ∧ es.length ≤ cap ∧ cap ≤ maxLen ∧
      ((putz (putz cur (i * size) (flat (es.drop (i + 1)))) ((es.length - 1) * size) zs).toList.take ((es.length - 1) * size) = flat (es.take i ++ es.drop (i + 1))) := by
  rcases h.own.2 with ⟨h0, _⟩ | ⟨g', cap', cur, hv, _, hg, h1, h2, h3, h4⟩
  · cases h0
  simp only [Value.slice.injEq, Option.some.injEq, Addr.mk.injEq, and_true, true_and] at hv
  obtain ⟨rfl, rfl⟩ := hv
  refine ⟨cur, hg, h3, h1, h2, ?_⟩
  have hr : ∀ e ∈ es, e.length = size := fun e he => (h.rows e he).1
  have hdl : (flat (es.drop (i + 1))).length = (es.length - (i + 1)) * size := by
    rw [flat_length (fun e he => hr e (List.mem_of_mem_drop he)), List.length_drop]
  have hA : i * size + (es.length - (i + 1)) * size = (es.length - 1) * size := by rw [← Nat.add_mul]; congr 1; omega
  have hB : (es.length - 1) * size + size = es.length * size := by
    obtain ⟨m, hm⟩ : ∃ m, es.length = m + 1 := ⟨es.length - 1, by omega⟩
    rw [hm, Nat.add_sub_cancel, Nat.succ_mul]
  have hC : es.length * size ≤ cap * size := Nat.mul_le_mul_right _ h1
  have hle1 : i * size + (flat (es.drop (i + 1))).length ≤ cur.size := by rw [hdl, h3]; omega
  rw [putz_list zs _ _ (by rw [putz_size, hz, h3]; omega), putz_list _ cur _ hle1]
  have ht : cur.toList.take (i * size) = flat (es.take i) := by
    rw [← flat_take hr i, ← h4, List.take_take, Nat.min_eq_left (Nat.mul_le_mul_right _ (by omega))]
  rw [ht]
  have hl1 : (flat (es.take i) ++ flat (es.drop (i + 1))).length = (es.length - 1) * size := by
    rw [List.length_append, hdl, flat_length (fun e he => hr e (List.mem_of_mem_take he)), List.length_take, Nat.min_eq_left (by omega), hA]
  have hfl : flat (es.take i ++ es.drop (i + 1)) = flat (es.take i) ++ flat (es.drop (i + 1)) := by simp [flat]
  rw [hfl]
  generalize flat (es.take i) ++ flat (es.drop (i + 1)) = X at *
  rw [List.append_assoc, List.take_append_of_le_length (by rw [List.length_take, List.length_append, hl1]; omega), List.take_take, Nat.min_self, List.take_append_of_le_length (by omega), List.take_of_length_le (by omega)]
end Go.Proofs.YtaindcicloapfaaGreatDoor

/-! Package link: in plain words, and contracts of New, Count, Full, Who, is, Send, Twice. Condition: the block holds a link as New and the calls leave it. -/
namespace Go.Proofs.YtaindcicloapfaaGreatDoor
open Go.ChangeShapes Go.WideShapes Go.ChangeAt Go.RowKit
set_option linter.unusedVariables false

/-- a letter: to whom, and its bytes -/
structure Let where
  too : Int
  b : ByteArray
def letRow (d : Let) : List Value := [.int .i64 d.too, .string d.b]
def noLet : Let := ⟨0, ⟨#[]⟩⟩
theorem letRow_one (d : Let) : (letRow d).length = 2 ∧ ∀ u ∈ letRow d, u.oneCell' = true := ⟨rfl, by intro u hu; simp [letRow] at hu; rcases hu with rfl | rfl <;> rfl⟩
theorem Tryz.elLet : Elem Tryz.prog 191 195 2 24 := ⟨Tryz.underlying191, ⟨.agg #[.int .i64 0, .string ⟨#[]⟩], rfl, by kernel_rfl⟩, by decide, by decide⟩
theorem elem_of_let {L : List Let} {i : Nat} (h : i < L.length) : (L.map letRow)[i]? = some (letRow L[i]) := by simp [h]
/-- is there such a letter -/
def isB (L : List Let) (x : Int) : Bool := decide (0 ≤ x) && decide (x < (L.length : Int))
def whoB (x : Int) : Bool := decide (x = 0) || decide (x = 1)
theorem isB_iff {L : List Let} {x : Int} : isB L x = true ↔ 0 ≤ x ∧ x < L.length := by unfold isB; simp
theorem isB_no {L : List Let} {x : Int} : isB L x = false ↔ ¬ (0 ≤ x ∧ x < L.length) := by rw [← isB_iff]; cases isB L x <;> simp
def sendE (L : List Let) (too : Int) (b : ByteArray) : Int := if whoB too = true then (if L.length = 40 ∨ 200 < b.size then 4 else 0) else 1
def sendL (L : List Let) (too : Int) (b : ByteArray) : List Let := if sendE L too b = 0 then L ++ [⟨too, b⟩] else L
def giveE (L : List Let) (x : Int) : Int := if isB L x = true then 0 else 1
def giveD (L : List Let) (x : Int) : Let := if isB L x = true then L.getD x.toNat noLet else noLet
def giveL (L : List Let) (x : Int) : List Let := if isB L x = true then L.take x.toNat ++ L.drop (x.toNat + 1) else L
def twiceE (L : List Let) (x : Int) : Int := if isB L x = true then (if L.length = 40 then 4 else 0) else 1
def twiceL (L : List Let) (x : Int) : List Let := if twiceE L x = 0 then L ++ [L.getD x.toNat noLet] else L

/-- a link at g: its letters lie in the slice v -/
structure Kz (w : World) (g : Nat) (v : Value) (L : List Let) : Prop where
  bl : BlockIs w g 193 #[v]
  ls : Lst w 195 2 v (L.map letRow)
  few : L.length ≤ 40
theorem Kz.later {w w1 : World} {g : Nat} {v : Value} {L : List Let} (h : Kz w g v L) (hb : Below w.heap.size w w1) : Kz w1 g v L := ⟨h.bl.later hb, h.ls.later hb, h.few⟩
theorem Kz.kept {w w1 : World} {g : Nat} {v : Value} {L : List Let} {S : List Nat} (h : Kz w g v L) (hg : Out w w1 S) (h1 : ∀ k, k ∈ g :: blocks v → k ∉ S) : Kz w1 g v L :=
  ⟨hg.block' h.bl (h1 _ (by simp)), h.ls.kept hg (fun k hk => h1 k (by simp [hk])), h.few⟩
theorem Kz.lt {w : World} {g : Nat} {v : Value} {L : List Let} (h : Kz w g v L) : ∀ k, k ∈ g :: blocks v → k < w.heap.size := by
  intro k hk
  rcases List.mem_cons.1 hk with rfl | hk
  · exact h.bl.lt
  · exact h.ls.lt k hk
/-- what a call leaves: its blocks and what is new alone have changed -/
def KLeft (w w' : World) (g : Nat) (v : Value) (L : List Let) : Prop := ∃ v', Kz w' g v' L ∧ Out w w' (g :: blocks v) ∧ ∀ k, k ∈ blocks v' → k ∈ blocks v ∨ w.heap.size ≤ k
theorem KLeft.same {w w' : World} {g : Nat} {v : Value} {L : List Let} (h : Kz w g v L) (hb : Below w.heap.size w w') : KLeft w w' g v L := ⟨v, h.later hb, Out.of_below hb _, fun k hk => Or.inl hk⟩

theorem who_any (x : Int) (w : World) : Calls Tryz.prog 84 #[.int .i64 x] w fun e w' => e = .returned (.bool (whoB x)) ∧ w = w' := by
  unfold whoB
  by_cases h0 : x = 0
  · subst h0
    go_enter Tryz.func84, Tryz.ntmps84
    go_wp2
    go_ret
    exact ⟨rfl, rfl⟩
  · have a0 : (x == 0) = false := by simpa using h0
    have b0 : decide (x = 0) = false := by simpa using h0
    rw [b0, Bool.false_or]
    by_cases h1 : x = 1
    · subst h1
      clear h0 a0 b0
      go_enter Tryz.func84, Tryz.ntmps84
      go_wp2
      go_ret
      exact ⟨rfl, rfl⟩
    · have a1 : (x == 1) = false := by simpa using h1
      have b1 : decide (x = 1) = false := by simpa using h1
      rw [b1]
      clear h0 h1 b0 b1
      go_enter Tryz.func84, Tryz.ntmps84
      go_wp2
      go_ret
      exact ⟨rfl, rfl⟩
theorem knew (w : World) : Calls Tryz.prog 83 #[] w fun e w' => e = .returned (.pointer (some ⟨w.heap.size, 0, none⟩)) ∧ Kz w' w.heap.size (.slice none 0 0) [] ∧ Below w.heap.size w w' := by
  go_enter Tryz.func83, Tryz.ntmps83
  go_wp2
  go_ret
  exact ⟨rfl, ⟨BlockIs.fresh _ _ _, Lst.nil _ _ _, by simp⟩, (Below.refl _ _).alloc (Nat.le_refl _) _⟩
theorem kcount (g : Nat) (v : Value) (L : List Let) (w : World) (h : Kz w g v L) : Calls Tryz.prog 90 #[.pointer (some ⟨g, 0, none⟩)] w fun e w' => e = .returned (.int .i64 L.length) ∧ w = w' := by
  have c0 : w.cell? ⟨g, 0, none⟩ = some v := h.bl.cell 0
  obtain ⟨A, cap, hve, _, _, _⟩ := h.ls.shape
  rw [List.length_map] at hve
  subst hve
  clear h
  go_enter Tryz.func90, Tryz.ntmps90
  go_wp2
  go_ret
  exact ⟨rfl, rfl⟩
def fullB (L : List Let) : Bool := decide (L.length = 40)
theorem kfull (g : Nat) (v : Value) (L : List Let) (w : World) (h : Kz w g v L) : Calls Tryz.prog 85 #[.pointer (some ⟨g, 0, none⟩)] w fun e w' => e = .returned (.bool (fullB L)) ∧ w = w' := by
  have c0 : w.cell? ⟨g, 0, none⟩ = some v := h.bl.cell 0
  obtain ⟨A, cap, hve, _, _, _⟩ := h.ls.shape
  rw [List.length_map] at hve
  subst hve
  clear h
  have E : Hid (((L.length : Int) == 40) = fullB L) := Lib.hid (by
    unfold fullB
    by_cases h : L.length = 40
    · simp [h]
    · have h2 : ¬ (L.length : Int) = 40 := by omega
      simp [h, h2])
  go_enter Tryz.func85, Tryz.ntmps85
  go_wp2
  go_ret
  exact ⟨by rw [← E.out]; rfl, rfl⟩
theorem kis (g : Nat) (v : Value) (L : List Let) (x : Int) (w : World) (h : Kz w g v L) : Calls Tryz.prog 129 #[.pointer (some ⟨g, 0, none⟩), .int .i64 x] w fun e w' => e = .returned (.bool (isB L x)) ∧ w = w' := by
  have c0 : w.cell? ⟨g, 0, none⟩ = some v := h.bl.cell 0
  obtain ⟨A, cap, hve, _, _, _⟩ := h.ls.shape
  rw [List.length_map] at hve
  subst hve
  clear h
  unfold isB
  by_cases h0 : 0 ≤ x
  · have b0 : decide (0 ≤ x) = true := by simpa using h0
    rw [b0, Bool.true_and]
    clear b0
    go_enter Tryz.func129, Tryz.ntmps129
    go_wp2
    go_ret
    exact ⟨rfl, rfl⟩
  · have b0 : decide (0 ≤ x) = false := by simpa using h0
    rw [b0, Bool.false_and]
    go_enter Tryz.func129, Tryz.ntmps129
    go_wp2
    go_ret
    exact ⟨rfl, rfl⟩

/-- one letter more: the slice was grown, and stored -/
theorem kpush {w w5 : World} {g q cq : Nat} {v : Value} {L : List Let} (d : Let) (hb5 : BlockIs w5 g 193 #[v]) (hl5 : Lst w5 195 2 (.slice (some ⟨q, 0, none⟩) (L.length + 1) cq) (L.map letRow ++ [letRow d]))
    (hO5 : Out w w5 (g :: blocks v)) (hq : q ∈ blocks v ∨ w.heap.size ≤ q) (hlt : L.length < 40) : KLeft w (w5.setCell ⟨g, 0, none⟩ (.slice (some ⟨q, 0, none⟩) (L.length + 1) cq)) g v (L ++ [d]) := by
  have hqg : q ≠ g := fun e => by have := hl5.apart hb5 (by decide); rw [e] at this; simp [Value.ownBlock] at this
  refine ⟨.slice (some ⟨q, 0, none⟩) (L.length + 1) cq, ⟨hb5.put 0 _, ?_, by simp; omega⟩, hO5.put (p := ⟨g, 0, none⟩) (Or.inl (by simp)) _, fun k hk => ?_⟩
  · rw [List.map_append]
    exact hl5.kept (S := [g]) ((Out.refl w5 [g]).put (p := ⟨g, 0, none⟩) (Or.inl (by simp)) _) (fun k hk hm => by
      have hkq : q = k := by simpa [Value.ownBlock] using hk
      rw [List.mem_singleton.1 hm] at hkq
      exact hqg hkq)
  · have hkq : q = k := by simpa [Value.ownBlock] using hk
    rw [← hkq]
    exact hq

set_option maxHeartbeats 1600000 in
theorem ksend (g : Nat) (v : Value) (L : List Let) (x : Int) (b : ByteArray) (w : World) (h : Kz w g v L) (hb : b.size ≤ 9223372036854775807) :
    Calls Tryz.prog 86 #[.pointer (some ⟨g, 0, none⟩), .int .i64 x, .string b] w fun e w' => e = .returned (errV (sendE L x b)) ∧ KLeft w w' g v (sendL L x b) := by
  have H := Lib.hid h
  have c0 : w.cell? ⟨g, 0, none⟩ = some v := h.bl.cell 0
  have f0 := h.bl.free
  have lg := h.bl.lt
  obtain ⟨A, cap, hve, _, _, _⟩ := h.ls.shape
  rw [List.length_map] at hve
  subst hve
  have hfew := h.few
  clear h
  by_cases hw : whoB x = true
  case neg =>
    have hw' : whoB x = false := by simpa using hw
    have E : Hid (sendE L x b = 1) := Lib.hid (by unfold sendE; rw [if_neg hw])
    have EL : Hid (sendL L x b = L) := Lib.hid (by unfold sendL; rw [E.out, if_neg (by decide)])
    have HW := Lib.hid hw'
    clear hw hw'
    go_enter Tryz.func86, Tryz.ntmps86
    go_wp2_with (go_at_call 84; refine (who_any x _).mono ?_; rintro e w' ⟨rfl, rfl⟩; rw [HW.out])
    go_ret
    exact ⟨by rw [E.out]; rfl, by rw [EL.out]; exact KLeft.same H.out (Below.refl _ _)⟩
  have HW := Lib.hid hw
  clear hw
  by_cases hf : L.length = 40
  · have E : Hid (sendE L x b = 4) := Lib.hid (by unfold sendE; rw [if_pos HW.out, if_pos (Or.inl hf)])
    have EL : Hid (sendL L x b = L) := Lib.hid (by unfold sendL; rw [E.out, if_neg (by decide)])
    have HF : Hid (fullB L = true) := Lib.hid (by unfold fullB; simpa using hf)
    clear hf
    go_enter Tryz.func86, Tryz.ntmps86
    go_wp2_with (first | (go_at_call 84; refine (who_any x _).mono ?_; rintro e w' ⟨rfl, rfl⟩; rw [HW.out]) | (go_at_call 85; refine (kfull g _ L _ H.out).mono ?_; rintro e w' ⟨rfl, rfl⟩; rw [HF.out]))
    go_ret
    exact ⟨by rw [E.out]; rfl, by rw [EL.out]; exact KLeft.same H.out (Below.refl _ _)⟩
  have HF : Hid (fullB L = false) := Lib.hid (by unfold fullB; simpa using hf)
  by_cases h2 : 200 < b.size
  · have E : Hid (sendE L x b = 4) := Lib.hid (by unfold sendE; rw [if_pos HW.out, if_pos (Or.inr h2)])
    have EL : Hid (sendL L x b = L) := Lib.hid (by unfold sendL; rw [E.out, if_neg (by decide)])
    have h2' : (200 : Int) < (b.size : Int) := by omega
    clear hf
    go_enter Tryz.func86, Tryz.ntmps86
    go_wp2_with (first | (go_at_call 84; refine (who_any x _).mono ?_; rintro e w' ⟨rfl, rfl⟩; rw [HW.out]) | (go_at_call 85; refine (kfull g _ L _ H.out).mono ?_; rintro e w' ⟨rfl, rfl⟩; rw [HF.out]))
    go_ret
    exact ⟨by rw [E.out]; rfl, by rw [EL.out]; exact KLeft.same H.out (Below.refl _ _)⟩
  have E : Hid (sendE L x b = 0) := Lib.hid (by unfold sendE; rw [if_pos HW.out, if_neg (by omega)])
  have EL : Hid (sendL L x b = L ++ [⟨x, b⟩]) := Lib.hid (by unfold sendL; rw [E.out, if_pos rfl])
  have h2' : decide ((200 : Int) < (b.size : Int)) = false := by simp; omega
  have hml : (L.map letRow).length = L.length := List.length_map ..
  have hga := H.out.ls.apart H.out.bl (by decide)
  have HML := Lib.hid hml
  have HGA := Lib.hid hga
  have hlt : L.length < 40 := by omega
  clear hf hml hga
  go_enter Tryz.func86, Tryz.ntmps86
  go_wp2_with (first | (go_at_call 84; refine (who_any x _).mono ?_; rintro e w' ⟨rfl, rfl⟩; rw [HW.out]) | (go_at_call 85; refine (kfull g _ L _ H.out).mono ?_; rintro e w' ⟨rfl, rfl⟩; rw [HF.out]) | (at_builtin; refine wpList_push rfl _ _ 191 rfl 195 2 24 Tryz.elLet (.slice A L.length cap) (L.map letRow) rfl (H.out.ls.alloc _) w.heap.size 1 [.int .i64 x, .string b] rfl rfl (letRow_one ⟨x, b⟩).2 (BlockIs.fresh _ _ _) (by rw [HML.out]; omega) ?_; intro q cq w5 hl5 ho5 hq5 hlt5; have hb5 := ho5.block' (H.out.bl.alloc _) HGA.out; have f5 := hb5.free; have d5 : w5.cell? ⟨g, 0, none⟩ = some _ := hb5.cell 0; have l5 := hb5.lt))
  go_ret
  rw [HML.out] at hl5
  have hO5 : Out w w5 (g :: blocks (.slice A L.length cap)) := ((Out.refl w _).alloc _).then' ho5 (fun k hk => Or.inl (by simp [hk]))
  refine ⟨by rw [E.out]; rfl, ?_⟩
  rw [EL.out]
  exact kpush ⟨x, b⟩ hb5 hl5 hO5 (hq5.imp id (fun h => by simp at h; omega)) hlt

set_option maxHeartbeats 1600000 in
theorem ktwice (g : Nat) (v : Value) (L : List Let) (x : Int) (w : World) (h : Kz w g v L) :
    Calls Tryz.prog 89 #[.pointer (some ⟨g, 0, none⟩), .int .i64 x] w fun e w' => e = .returned (errV (twiceE L x)) ∧ KLeft w w' g v (twiceL L x) := by
  have H := Lib.hid h
  have c0 : w.cell? ⟨g, 0, none⟩ = some v := h.bl.cell 0
  have f0 := h.bl.free
  have lg := h.bl.lt
  obtain ⟨A, cap, hve, _, _, hA⟩ := h.ls.shape
  rw [List.length_map] at hve
  subst hve
  have hfew := h.few
  have HA := Lib.hid hA
  clear h hA
  by_cases hw : isB L x = true
  case neg =>
    have hw' : isB L x = false := by simpa using hw
    have E : Hid (twiceE L x = 1) := Lib.hid (by unfold twiceE; rw [if_neg hw])
    have EL : Hid (twiceL L x = L) := Lib.hid (by unfold twiceL; rw [E.out, if_neg (by decide)])
    have HW := Lib.hid hw'
    clear hw hw'
    go_enter Tryz.func89, Tryz.ntmps89
    go_wp2_with (go_at_call 129; refine (kis g _ L x _ H.out).mono ?_; rintro e w' ⟨rfl, rfl⟩; rw [HW.out])
    go_ret
    exact ⟨by rw [E.out]; rfl, by rw [EL.out]; exact KLeft.same H.out (Below.refl _ _)⟩
  have HW := Lib.hid hw
  obtain ⟨x0, x1⟩ := isB_iff.1 hw
  obtain ⟨m, rfl⟩ := Int.eq_ofNat_of_zero_le x0
  clear hw
  by_cases hf : L.length = 40
  · have E : Hid (twiceE L m = 4) := Lib.hid (by unfold twiceE; rw [if_pos HW.out, if_pos hf])
    have EL : Hid (twiceL L m = L) := Lib.hid (by unfold twiceL; rw [E.out, if_neg (by decide)])
    have HF : Hid (fullB L = true) := Lib.hid (by unfold fullB; simpa using hf)
    clear hf
    go_enter Tryz.func89, Tryz.ntmps89
    go_wp2_with (first | (go_at_call 129; refine (kis g _ L m _ H.out).mono ?_; rintro e w' ⟨rfl, rfl⟩; rw [HW.out]) | (go_at_call 85; refine (kfull g _ L _ H.out).mono ?_; rintro e w' ⟨rfl, rfl⟩; rw [HF.out]))
    go_ret
    exact ⟨by rw [E.out]; rfl, by rw [EL.out]; exact KLeft.same H.out (Below.refl _ _)⟩
  have HF : Hid (fullB L = false) := Lib.hid (by unfold fullB; simpa using hf)
  have E : Hid (twiceE L m = 0) := Lib.hid (by unfold twiceE; rw [if_pos HW.out, if_neg hf])
  have hml : m < L.length := by omega
  have EL : Hid (twiceL L m = L ++ [L[m]]) := Lib.hid (by unfold twiceL; rw [E.out, if_pos rfl]; simp [List.getD, List.getElem?_eq_getElem hml])
  rcases HA.out with ⟨_, h0, _⟩ | ⟨q, rfl⟩
  · have : L = [] := by simpa using h0
    subst this
    simp at hml
  have q0 : w.cell? ⟨q, m * 2, none⟩ = some (.int .i64 L[m].too) := H.out.ls.cell rfl (elem_of_let hml) (j := 0) rfl
  have q1 : w.cell? ⟨q, m * 2 + 1, none⟩ = some (.string L[m].b) := H.out.ls.cell rfl (elem_of_let hml) (j := 1) rfl
  have lq := H.out.ls.lt q (by simp [Value.ownBlock])
  have HD : Hid (L[m] = ⟨L[m].too, L[m].b⟩) := Lib.hid rfl
  generalize L[m] = d at *
  obtain ⟨dt, db⟩ := d
  have hmm : (L.map letRow).length = L.length := List.length_map ..
  have hga := H.out.ls.apart H.out.bl (by decide)
  have HML := Lib.hid hmm
  have HGA := Lib.hid hga
  have hlt : L.length < 40 := by omega
  have hmi : (m : Int) < (L.length : Int) := by omega
  clear hf hmm hga HD
  go_enter Tryz.func89, Tryz.ntmps89
  go_wp2_with (first | (go_at_call 129; refine (kis g _ L m _ H.out).mono ?_; rintro e w' ⟨rfl, rfl⟩; rw [HW.out]) | (go_at_call 85; refine (kfull g _ L _ H.out).mono ?_; rintro e w' ⟨rfl, rfl⟩; rw [HF.out]))
  go_region_law ((refine step_push rfl _ _ 191 rfl 195 2 24 Tryz.elLet (.slice (some ⟨q, 0, none⟩) L.length cap) (L.map letRow) rfl ?_ w.heap.size 1 [.int .i64 dt, .string db] rfl rfl (letRow_one ⟨dt, db⟩).2 ?_ ?_ ?_; (first | exact (H.out.ls.alloc _).drew | exact H.out.ls.alloc _); (exact BlockIs.fresh w _ _); (rw [HML.out]; omega); intro q5 cq w5 hl5 ho5 hq5 hlt5; have hb5 := ho5.block' (H.out.bl.alloc _) HGA.out; have f5 := hb5.free; have d5 : w5.cell? ⟨g, 0, none⟩ = some (.slice (some ⟨q, 0, none⟩) L.length cap) := hb5.cell 0; have l5 := hb5.lt))
  all_goals
    rw [HML.out] at hl5
    have hO5 : Out w w5 (g :: blocks (.slice (some ⟨q, 0, none⟩) L.length cap)) := by
      first
        | exact ((Out.refl w _).alloc _).then' ho5 (fun k hk => Or.inl (by simp at hk ⊢; simp [hk]))
        | exact (((Out.refl w _).alloc _).drew).then' ho5 (fun k hk => Or.inl (by simp at hk ⊢; simp [hk]))
    have hKP := kpush ⟨dt, db⟩ hb5 hl5 hO5 (hq5.imp id (fun h => by simp at h; omega)) hlt
    have HKP := Lib.hid hKP
    clear hKP hl5 ho5 hq5 hO5 d5
    go_wp2_with fail
    go_ret
    refine ⟨by rw [E.out]; rfl, ?_⟩
    rw [EL.out]
    first
      | exact HKP.out
      | (obtain ⟨v', hz, ho, hk⟩ := HKP.out; exact ⟨v', ⟨hz.bl, hz.ls.drewN 1, hz.few⟩, ho.drewN 1, hk⟩)
end Go.Proofs.YtaindcicloapfaaGreatDoor

/-! Package link: Give, Lose; slices.Delete of one letter. Condition: the block holds a link as New and the calls leave it. -/
namespace Go.Proofs.YtaindcicloapfaaGreatDoor
open Go.ChangeShapes Go.WideShapes Go.ChangeAt Go.RowKit
set_option linter.unusedVariables false

theorem Tryz.delLetsZero (w : World) : (zeroValue 195).run Tryz.prog w = .ok (.agg #[.int .i64 0, .string ⟨#[]⟩]) w := by kernel_rfl
set_option maxHeartbeats 3200000 in
theorem delLets (q cap : Nat) (L : List Let) (i : Nat) (hi : i < L.length) (hm : L.length ≤ 1000000) (w : World) (h : Lst w 195 2 (.slice (some ⟨q, 0, none⟩) L.length cap) (L.map letRow)) :
    Calls Tryz.prog 130 #[.slice (some ⟨q, 0, none⟩) L.length cap, .int .i64 i, .int .i64 (i + 1)] w fun e w' => e = .returned (.slice (some ⟨q, 0, none⟩) (L.length - 1) cap) ∧ Lst w' 195 2 (.slice (some ⟨q, 0, none⟩) (L.length - 1) cap) ((L.take i ++ L.drop (i + 1)).map letRow) ∧ Out w w' [q] := by
  have hml : (L.map letRow).length = L.length := List.length_map ..
  obtain ⟨cur, hB, hcs, hcap, hmx, hfin⟩ := del_cells (size := 2) (es := L.map letRow) (by rw [hml]; exact h) (by rw [hml]; exact hi) (by decide) [.int .i64 0, .string ⟨#[]⟩] rfl
  rw [hml] at hcap hfin
  unfold maxLen at hmx
  obtain ⟨z, hz, hinfo⟩ := (Tryz.elLet).info
  obtain ⟨i0, hi0, hz0, hz1, hz2⟩ := info_parts hinfo
  have t1 := (Tryz.elLet).ht
  obtain ⟨news, hnews⟩ : ∃ news, news = flat ((L.map letRow).drop (i + 1)) := ⟨_, rfl⟩
  have hlen : news.length = (L.length - (i + 1)) * 2 := by
    rw [hnews, flat_length (fun e he => (h.rows e (List.mem_of_mem_drop he)).1), List.length_drop, hml]
  obtain ⟨A, hA, hsrc⟩ : ∃ A : Addr, (if cap = i + 1 then some (⟨q, 0, none⟩ : Addr) else some ⟨q, (i + 1) * 2, none⟩) = some A ∧ Hid (∀ t u, news[t]? = some u → w.drew.cell? (A.add t) = some u) := by
    by_cases hc : cap = i + 1
    · refine ⟨⟨q, 0, none⟩, by simp [hc], Lib.hid (fun t u hu => ?_)⟩
      have h0 : news.length = 0 := by rw [hlen]; have : L.length - (i + 1) = 0 := by omega
                                      rw [this]
      rw [List.length_eq_zero_iff.1 h0] at hu
      simp at hu
    · refine ⟨⟨q, (i + 1) * 2, none⟩, by simp [hc], Lib.hid (fun t u hu => ?_)⟩
      rw [hnews] at hu
      exact h.news rfl (i + 1) t u hu
  have s1 : Hid (news.length = (L.length - (i + 1)) * 2) := Lib.hid hlen
  have s2 : Hid (∀ u ∈ news, u.oneCell' = true) := Lib.hid (by
    intro u hu
    rw [hnews] at hu
    obtain ⟨e, he, hu⟩ := List.mem_flatten.1 hu
    exact (h.rows e (List.mem_of_mem_drop he)).2 u hu)
  have s3 : Hid (∀ t, t < news.length → (w.drew.cell? ⟨q, 0 + i * 2 + t, none⟩).isSome = true ∧ w.drew.frozen? ⟨q, 0 + i * 2 + t, none⟩ = false) := Lib.hid (by
    intro t ht
    rw [hlen] at ht
    refine ⟨?_, hB.free _⟩
    show (w.cell? _).isSome = true
    rw [hB.cell]
    rw [Array.getElem?_eq_getElem (by rw [hcs]; omega)]
    rfl)
  obtain ⟨W1, hW1⟩ : ∃ W1, W1 = w.drew.setCells q (0 + i * 2) news := ⟨_, rfl⟩
  have hB1 : BlockIs W1 q 195 (putz cur (0 + i * 2) news) := by rw [hW1]; exact BlockIs.putAll news (show BlockIs w.drew q _ cur from hB) _
  have hO1 : Out w W1 [q] := by rw [hW1]; exact (Out.refl w [q]).drew.trans (Out.putAll news w.drew q _)
  have hcl : ∀ ty, (Builtin.clear_ #[191] ty #[.slice (some ⟨q, (i + (L.length - (i + 1))) * 2, none⟩) (L.length - (i + (L.length - (i + 1)))) (cap - (i + (L.length - (i + 1))))]).run Tryz.prog W1 = .ok (.tuple #[]) (W1.setCells q ((i + (L.length - (i + 1))) * 2) [.int .i64 0, .string ⟨#[]⟩]) := fun ty =>
    run_clear1 W1 _ _ ty (.agg #[.int .i64 0, .string ⟨#[]⟩]) [.int .i64 0, .string ⟨#[]⟩] t1 (Tryz.delLetsZero W1) rfl (by intro u hu; simp at hu; rcases hu with rfl | rfl <;> rfl) q _ _ _ (by omega)
      (fun j hj => by rw [hB1.cell, Array.getElem?_eq_getElem (by rw [putz_size, hcs]; simp at hj; omega)]; rfl) (fun j hj => hB1.free _)
  have hW : Hid (W1 = w.drew.setCells q (0 + i * 2) news) := Lib.hid hW1
  have HFIN := Lib.hid hfin
  have HB1 := Lib.hid hB1
  have HN := Lib.hid hnews
  have HR := Lib.hid h.rows
  have HCS := Lib.hid hcs
  have hic : (i : Int) ≤ (cap : Int) := by omega
  have hjc : (i : Int) + 1 ≤ (cap : Int) := by omega
  have hil : (i : Int) + 1 ≤ (L.length : Int) := by omega
  have hlc : (L.length : Int) ≤ (cap : Int) := by omega
  have hne : ((i : Int) == (i : Int) + 1) = false := by simp; omega
  have hi1 : (0 : Int) ≤ (i : Int) + 1 := by omega
  have HML := Lib.hid hml
  clear hW1 hB1 hlen hnews hfin h hB hml hcs hinfo
  go_enter Tryz.func130, Tryz.ntmps130
  go_wp2_with fail
  go_region_law (refine step_append_room rfl (.tmp 22) (.tmp 25) 191 rfl 195 i0 2 t1 hi0 hz1 q 0 i cap (by simp [Act.eval, Act.put]) A (L.length - (i + 1)) (cap - (i + 1)) news (by simp [Act.eval, Act.put]) s1.out hsrc.out s2.out (by omega) s3.out ?_; rw [← hW.out])
  go_wp2
  go_ret
  have hl : ((L.take i ++ L.drop (i + 1)).map letRow).length = L.length - 1 := by simp; omega
  have hB2 := BlockIs.putAll [.int .i64 0, .string ⟨#[]⟩] HB1.out ((i + (L.length - (i + 1))) * 2)
  have hx : i + (L.length - (i + 1)) = L.length - 1 := by omega
  have hrows : ∀ e ∈ (L.take i ++ L.drop (i + 1)).map letRow, e.length = 2 ∧ ∀ u ∈ e, u.oneCell' = true := by
    intro e he
    rw [List.map_append, List.mem_append] at he
    rcases he with he | he
    · exact HR.out e (by rw [List.map_take] at he; exact List.mem_of_mem_take he)
    · exact HR.out e (by rw [List.map_drop] at he; exact List.mem_of_mem_drop he)
  refine ⟨by rw [show L.length - 1 = i + (L.length - (i + 1)) from by omega]; rfl, ?_, hO1.trans (Out.putAll _ _ q _)⟩
  refine Lst.as (n := ((L.take i ++ L.drop (i + 1)).map letRow).length) ⟨⟨flat_length (fun e he => (hrows e he).1), Or.inr ⟨q, cap, _, rfl, Nat.zero_le _, hB2, by rw [hl]; omega, by unfold maxLen; omega, by rw [putz_size, putz_size, HCS.out], ?_⟩⟩, hrows⟩ hl.symm rfl
  have hf := HFIN.out
  rw [HN.out, hl, hx, Nat.zero_add, hf, List.map_append, List.map_take, List.map_drop]

set_option maxHeartbeats 1600000 in
theorem kgive (g : Nat) (v : Value) (L : List Let) (x : Int) (w : World) (h : Kz w g v L) :
    Calls Tryz.prog 87 #[.pointer (some ⟨g, 0, none⟩), .int .i64 x] w fun e w' => e = .returned (.tuple #[.int .i64 (giveD L x).too, .string (giveD L x).b, errV (giveE L x)]) ∧ KLeft w w' g v (giveL L x) := by
  have H := Lib.hid h
  have c0 : w.cell? ⟨g, 0, none⟩ = some v := h.bl.cell 0
  have f0 := h.bl.free
  have lg := h.bl.lt
  obtain ⟨A, cap, hve, _, _, hA⟩ := h.ls.shape
  rw [List.length_map] at hve
  subst hve
  have hfew := h.few
  have HA := Lib.hid hA
  clear h hA
  by_cases hw : isB L x = true
  case neg =>
    have hw' : isB L x = false := by simpa using hw
    have E : Hid (giveE L x = 1) := Lib.hid (by unfold giveE; rw [if_neg hw])
    have ED : Hid (giveD L x = noLet) := Lib.hid (by unfold giveD; rw [if_neg hw])
    have EL : Hid (giveL L x = L) := Lib.hid (by unfold giveL; rw [if_neg hw])
    have HW := Lib.hid hw'
    clear hw hw'
    go_enter Tryz.func87, Tryz.ntmps87
    go_wp2_with (go_at_call 129; refine (kis g _ L x _ H.out).mono ?_; rintro e w' ⟨rfl, rfl⟩; rw [HW.out])
    go_ret3
    exact ⟨by rw [E.out, ED.out]; rfl, by rw [EL.out]; exact KLeft.same H.out (Below.refl _ _)⟩
  have HW := Lib.hid hw
  obtain ⟨x0, x1⟩ := isB_iff.1 hw
  obtain ⟨m, rfl⟩ := Int.eq_ofNat_of_zero_le x0
  clear hw
  have hml : m < L.length := by omega
  have E : Hid (giveE L m = 0) := Lib.hid (by unfold giveE; rw [if_pos HW.out])
  have ED : Hid (giveD L m = L[m]) := Lib.hid (by unfold giveD; rw [if_pos HW.out]; simp [List.getD, List.getElem?_eq_getElem hml])
  have EL : Hid (giveL L m = L.take m ++ L.drop (m + 1)) := Lib.hid (by unfold giveL; rw [if_pos HW.out]; rfl)
  rcases HA.out with ⟨_, h0, _⟩ | ⟨q, rfl⟩
  · have : L = [] := by simpa using h0
    subst this
    simp at hml
  have q0 : w.cell? ⟨q, m * 2, none⟩ = some (.int .i64 L[m].too) := H.out.ls.cell rfl (elem_of_let hml) (j := 0) rfl
  have q1 : w.cell? ⟨q, m * 2 + 1, none⟩ = some (.string L[m].b) := H.out.ls.cell rfl (elem_of_let hml) (j := 1) rfl
  have lq := H.out.ls.lt q (by simp [Value.ownBlock])
  generalize L[m] = d at *
  obtain ⟨dt, db⟩ := d
  have hgq : g ∉ [q] := fun hm2 => by have := H.out.ls.apart H.out.bl (by decide); rw [List.mem_singleton.1 hm2] at this; simp [Value.ownBlock] at this
  have HGQ := Lib.hid hgq
  have hmi : (m : Int) < (L.length : Int) := by omega
  have hm6 : L.length ≤ 1000000 := by omega
  clear hgq
  go_enter Tryz.func87, Tryz.ntmps87
  go_wp2_with (first | (go_at_call 129; refine (kis g _ L m _ H.out).mono ?_; rintro e w' ⟨rfl, rfl⟩; rw [HW.out]) | fail)
  refine (delLets q cap L m hml hm6 _ (H.out.ls.alloc _)).mono ?_
  rintro e w2 ⟨rfl, hl2, ho2⟩
  have hb2 : BlockIs w2 g 193 #[.slice (some ⟨q, 0, none⟩) L.length cap] := ho2.block' (H.out.bl.alloc _) HGQ.out
  have h42 : BlockIs w2 w.heap.size 195 #[.int .i64 dt, .string db] := ho2.block' (BlockIs.fresh _ _ _) (by simp; omega)
  have e2 : w2.cell? ⟨g, 0, none⟩ = some (.slice (some ⟨q, 0, none⟩) L.length cap) := hb2.cell 0
  have f2 := hb2.free
  have lg2 := hb2.lt
  have hg4 : w.heap.size ≠ g := by omega
  have h43 : ∀ u, BlockIs (w2.setCell ⟨g, 0, none⟩ u) w.heap.size 195 #[.int .i64 dt, .string db] := fun u => h42.far (p := ⟨g, 0, none⟩) hg4 u
  have k0 : ∀ u, (w2.setCell ⟨g, 0, none⟩ u).cell? ⟨w.heap.size, 0, none⟩ = some (.int .i64 dt) := fun u => (h43 u).cell 0
  have k1 : ∀ u, (w2.setCell ⟨g, 0, none⟩ u).cell? ⟨w.heap.size, 1, none⟩ = some (.string db) := fun u => (h43 u).cell 1
  have l42 := h42.lt
  have hO2 : Out w w2 (g :: blocks (.slice (some ⟨q, 0, none⟩) L.length cap)) := ((Out.refl w _).alloc _).then' ho2 (fun k hk => Or.inl (by simp [Value.ownBlock] at hk ⊢; simp [hk]))
  have hlen : (L.take m ++ L.drop (m + 1)).length = L.length - 1 := by simp; omega
  have hqg : q ≠ g := fun e => HGQ.out (by simp [e])
  have hKP : KLeft w (w2.setCell ⟨g, 0, none⟩ (.slice (some ⟨q, 0, none⟩) (L.length - 1) cap)) g (.slice (some ⟨q, 0, none⟩) L.length cap) (L.take m ++ L.drop (m + 1)) := by
    refine ⟨.slice (some ⟨q, 0, none⟩) (L.length - 1) cap, ⟨hb2.put 0 _, ?_, by omega⟩, hO2.put (p := ⟨g, 0, none⟩) (Or.inl (by simp)) _, fun k hk => Or.inl (by simpa [Value.ownBlock] using hk)⟩
    exact hl2.kept (S := [g]) ((Out.refl w2 [g]).put (p := ⟨g, 0, none⟩) (Or.inl (by simp)) _) (fun k hk hm2 => by
      have hkq : q = k := by simpa [Value.ownBlock] using hk
      rw [List.mem_singleton.1 hm2] at hkq
      exact hqg hkq)
  have HKP := Lib.hid hKP
  clear hKP hl2 ho2 hO2 hb2 h42 h43 hlen hmi hm6 q0 q1
  go_wp2_with fail
  go_quiet (fail)
  go_wp2_with fail
  go_ret3
  refine ⟨by rw [E.out, ED.out]; rfl, ?_⟩
  rw [EL.out]
  obtain ⟨v', hz, ho, hk⟩ := HKP.out
  exact ⟨v', ⟨hz.bl, hz.ls.drewN _, hz.few⟩, ho.drewN _, hk⟩

theorem klose (g : Nat) (v : Value) (L : List Let) (x : Int) (w : World) (h : Kz w g v L) :
    Calls Tryz.prog 88 #[.pointer (some ⟨g, 0, none⟩), .int .i64 x] w fun e w' => e = .returned (errV (giveE L x)) ∧ KLeft w w' g v (giveL L x) := by
  have H := Lib.hid h
  clear h
  go_enter Tryz.func88, Tryz.ntmps88
  go_wp2_with fail
  refine (kgive g v L x _ H.out).mono ?_
  rintro e w2 ⟨rfl, hk⟩
  go_wp2_with fail
  go_ret
  exact ⟨rfl, hk⟩
end Go.Proofs.YtaindcicloapfaaGreatDoor

/-! Contracts of package talk. Condition: the blocks hold a talk as New and the calls leave it, each end made no more than 1000 packets, the tables lie there. -/
namespace Go.Proofs.YtaindcicloapfaaGreatDoor
open Go.ChangeShapes Go.WideShapes Go.ChangeAt Go.RowKit
set_option linter.unusedVariables false

/-- a link at g -/
def linkT (g : Nat) (L : List Let) : Thing where
  is w S := ∃ v, Kz w g v L ∧ S = g :: blocks v
  lt h k hk := by
    obtain ⟨v, hz, rfl⟩ := h
    exact hz.lt k hk
  kept h ho hd := by
    obtain ⟨v, hz, rfl⟩ := h
    exact ⟨v, hz.kept ho hd, rfl⟩
theorem linkT_left {w w' : World} {g : Nat} {v : Value} {L : List Let} (h : KLeft w w' g v L) : Leaves w w' (g :: blocks v) (linkT g L) := by
  obtain ⟨v', h1, h2, h3⟩ := h
  refine ⟨g :: blocks v', ⟨v', h1, rfl⟩, h2, fun k hk => ?_⟩
  rcases List.mem_cons.1 hk with rfl | hk
  · exact Or.inl (by simp)
  · rcases h3 k hk with h | h
    · exact Or.inl (List.mem_cons_of_mem _ h)
    · exact Or.inr h
/-- a talk: letters on their way, two ends -/
structure TkS where
  L : List Let
  e0 : EnS
  e1 : EnS
def TkS.e (s : TkS) (who : Int) : EnS := if who = 0 then s.e0 else s.e1
def TkS.set (s : TkS) (who : Int) (x : EnS) : TkS := if who = 0 then { s with e0 := x } else { s with e1 := x }
def TkS.new (n : Int) : TkS := ⟨[], EnS.new n, EnS.new n⟩
/-- where it lies -/
structure TkP where
  gw : Nat
  g0 : Nat
  g1 : Nat
def tkParts (g : Nat) (s : TkS) (p : TkP) : List Thing :=
  [Thing.block g 150 #[.pointer (some ⟨p.gw, 0, none⟩), .pointer (some ⟨p.g0, 0, none⟩), .pointer (some ⟨p.g1, 0, none⟩)], linkT p.gw s.L, endT p.g0 s.e0, endT p.g1 s.e1]
def TkOk (s : TkS) : Prop := s.L.length ≤ 40 ∧ ∀ l ∈ s.L, whoB l.too = true ∧ l.b.size ≤ 200
def talkT (g : Nat) (s : TkS) : Thing := Thing.ex fun p : TkP => Thing.with_ (TkOk s) (Thing.all (tkParts g s p))
theorem talkT_open {w : World} {S : List Nat} {g : Nat} {s : TkS} (h : (talkT g s).is w S) : ∃ p, TkOk s ∧ Own w S w (tkParts g s p) := by
  obtain ⟨p, h1, h3⟩ := h
  exact ⟨p, h1, Own.unfold_ h3⟩
theorem talkT_close {w w' : World} {S : List Nat} {g : Nat} {s : TkS} {p : TkP} (h1 : TkOk s) (h : Own w S w' (tkParts g s p)) : Leaves w w' S (talkT g s) :=
  Leaves.ex p (Leaves.with_ h1 h.closed)
set_option maxHeartbeats 1600000 in
theorem tnew_no (n : Int) (h : ¬ (1 ≤ n ∧ n ≤ 1000)) (w : World) :
    Calls Tryz.prog 24 #[.int .i64 n] w fun e w' => e = .returned (.tuple #[.pointer none, errV 1]) ∧ Below w.heap.size w w' := by
  have hN := Lib.hid (fun W => enew_no n h W)
  go_enter Tryz.func24, Tryz.ntmps24
  go_wp2_with (go_at_call 83; refine (knew _).mono ?_; rintro e w1 ⟨rfl, hz, hb1⟩)
  have hs1 : Since w w1 := hb1
  refine wp_loop_rounds 3 ?_
  rw [rounds_succ]
  go_wp2_with (go_at_call 9; refine (hN.out _).mono ?_; rintro e w2 ⟨rfl, hb2⟩; rw [errV_pos (by decide)])
  go_ret2
  exact ⟨by rw [errV_pos (by decide)]; rfl, (by refine Since.out ?_; repeat (first | with_reducible assumption | with_reducible exact Since.refl _ | with_reducible refine Since.later ?_ (by with_reducible assumption) | with_reducible refine Since.only ?_ (by with_reducible assumption) (by first | assumption | omega | (simp; done) | (simp; omega)) | with_reducible refine Since.alloc ?_ _ | with_reducible refine Since.drewN ?_ _ | with_reducible refine Since.drew ?_ | with_reducible refine Since.set ?_ (by first | assumption | omega | (simp; done) | (simp; omega)) _))⟩
set_option maxHeartbeats 3200000 in
theorem tnew (n : Int) (h1 : 1 ≤ n) (h2 : n ≤ 1000) (w : World) :
    Calls Tryz.prog 24 #[.int .i64 n] w fun e w' => ∃ g, e = .returned (.tuple #[.pointer (some ⟨g, 0, none⟩), .nilIface]) ∧ Leaves w w' [] (talkT g (TkS.new n)) := by
  have hN := Lib.hid (fun W => enew n h1 h2 W)
  go_enter Tryz.func24, Tryz.ntmps24
  go_wp2_with (go_at_call 83; refine (knew _).mono ?_; rintro e w1 ⟨rfl, hz, hb1⟩)
  have HW1 : Hid (Own w [] (w1.alloc (.cells #[.pointer (some ⟨w.heap.size, 0, none⟩), .pointer none, .pointer none] 150)) [linkT w.heap.size [], Thing.block w1.heap.size 150 #[.pointer (some ⟨w.heap.size, 0, none⟩), .pointer none, .pointer none]]) := Lib.hid (((Own.start w).add hb1 (S := [w.heap.size]) (t := linkT w.heap.size []) ⟨_, hz, rfl⟩ (by simp)).alloc _ _)
  clear hz hb1
  obtain ⟨gt, hgt⟩ : ∃ g, w1.heap.size = g := ⟨_, rfl⟩
  obtain ⟨gw, hgw⟩ : ∃ g, w.heap.size = g := ⟨_, rfl⟩
  rw [hgt, hgw] at HW1
  obtain ⟨wa, hwa⟩ : ∃ x, w1.alloc (.cells #[.pointer (some ⟨gw, 0, none⟩), .pointer none, .pointer none] 150) = x := ⟨_, rfl⟩
  rw [hwa] at HW1
  rw [hgt, hgw, hwa]
  clear hgt hgw hwa
  refine wp_loop_rounds 3 ?_
  rw [rounds_succ]
  trace "A"; go_wp2_with fail
  refine (hN.out _).mono ?_
  rintro e w2 ⟨g0, rfl, hl⟩
  have HW2 := Lib.hid (HW1.out.made hl)
  have c1 : w2.cell? ⟨gt, 1, none⟩ = some (.pointer none) := (HW2.out.blk 1 rfl).cell 1
  have fr := (HW2.out.blk 1 rfl).free
  have lt := (HW2.out.blk 1 rfl).lt
  clear hl HW1
  trace "B"; go_wp2_with fail
  have HW3 := Lib.hid (HW2.out.put 1 rfl 1 (.pointer (some ⟨g0, 0, none⟩)))
  clear HW2 c1 fr lt
  obtain ⟨wb, hwb⟩ : ∃ x, w2.setCell ⟨gt, 1, none⟩ (.pointer (some ⟨g0, 0, none⟩)) = x := ⟨_, rfl⟩
  rw [hwb] at HW3
  rw [hwb]
  clear hwb
  rw [rounds_succ]
  trace "C"; go_wp2_with fail
  refine (hN.out _).mono ?_
  rintro e w4 ⟨g1, rfl, hl⟩
  have HW4 := Lib.hid (HW3.out.made hl)
  have c2 : w4.cell? ⟨gt, 2, none⟩ = some (.pointer none) := (HW4.out.blk 1 rfl).cell 2
  have fr := (HW4.out.blk 1 rfl).free
  have lt := (HW4.out.blk 1 rfl).lt
  clear hl HW3
  trace "D"; go_wp2_with fail
  rw [rounds_succ]
  trace "E"; go_wp2_with fail
  go_ret2
  have HW5 := HW4.out.put 1 rfl 2 (.pointer (some ⟨g1, 0, none⟩))
  refine ⟨gt, rfl, talkT_close (p := ⟨gw, g0, g1⟩) ⟨by simp [TkS.new], by simp [TkS.new]⟩ ?_⟩
  refine Own.pick HW5 [1, 0, 2, 3] (by decide) (fun i t hi => ?_)
  match i, hi with
  | 0, hi => exact ⟨1, rfl, hi⟩
  | 1, hi => exact ⟨0, rfl, hi⟩
  | 2, hi => exact ⟨2, rfl, hi⟩
  | 3, hi => exact ⟨3, rfl, hi⟩
theorem tcount (g : Nat) (s : TkS) (w : World) (S : List Nat) (h : (talkT g s).is w S) :
    Calls Tryz.prog 31 #[.pointer (some ⟨g, 0, none⟩)] w fun e w' => e = .returned (.int .i64 s.L.length) ∧ w = w' := by
  obtain ⟨p, ok, ho⟩ := talkT_open h
  have HO := Lib.hid ho
  have c0 : w.cell? ⟨g, 0, none⟩ = some (.pointer (some ⟨p.gw, 0, none⟩)) := (ho.blk 0 rfl).cell 0
  have lg := (ho.blk 0 rfl).lt
  obtain ⟨S1, ⟨v, hz, -⟩, -⟩ := ho.at_ 1 rfl
  have HZ := Lib.hid hz
  clear h ho hz
  go_enter Tryz.func31, Tryz.ntmps31
  go_wp2_with (go_at_call 90; refine (kcount p.gw v s.L _ HZ.out).mono ?_; rintro e w1 ⟨rfl, rfl⟩)
  go_ret
  exact ⟨rfl, rfl⟩
/-- Send -/
def TkS.sendE (s : TkS) (who : Int) : Int := if whoB who = true then (if s.L.length = 40 then 4 else 0) else 1
def TkS.send (s : TkS) (who : Int) : TkS := if s.sendE who = 0 then { s.set who (s.e who).make with L := s.L ++ [⟨1 - who, ⟨(s.e who).packet.toArray⟩⟩] } else s
/-- Come -/
noncomputable def TkS.comeE (s : TkS) (i : Int) : Int := if isB s.L i = true then (s.e (giveD s.L i).too).takeE (giveD s.L i).b.data.toList else 1
noncomputable def TkS.come (s : TkS) (i : Int) : TkS := if isB s.L i = true then { s.set (giveD s.L i).too ((s.e (giveD s.L i).too).take (giveD s.L i).b.data.toList) with L := giveL s.L i } else s
/-- Read -/
def TkS.readE (who n : Int) : Int := if whoB who = true then EnS.readE n else 1
def TkS.readS (s : TkS) (who n : Int) : ByteArray := if whoB who = true then (s.e who).readS n else ⟨#[]⟩
def TkS.read (s : TkS) (who n : Int) : TkS := if whoB who = true then s.set who ((s.e who).read n) else s
theorem whoB_iff {x : Int} : whoB x = true ↔ x = 0 ∨ x = 1 := by unfold whoB; simp
set_option maxHeartbeats 1600000 in
theorem tread (g : Nat) (s : TkS) (who n : Int) (w : World) (S : List Nat) (h : (talkT g s).is w S) :
    Calls Tryz.prog 28 #[.pointer (some ⟨g, 0, none⟩), .int .i64 who, .int .i64 n] w fun e w' => e = .returned (.tuple #[.string (s.readS who n), errV (TkS.readE who n)]) ∧ Leaves w w' S (talkT g (s.read who n)) := by
  have H := Lib.hid h
  obtain ⟨p, ok, ho⟩ := talkT_open h
  have HOK := Lib.hid ok
  have HO := Lib.hid ho
  have c1 : w.cell? ⟨g, 1, none⟩ = some (.pointer (some ⟨p.g0, 0, none⟩)) := (ho.blk 0 rfl).cell 1
  have c2 : w.cell? ⟨g, 2, none⟩ = some (.pointer (some ⟨p.g1, 0, none⟩)) := (ho.blk 0 rfl).cell 2
  have lg := (ho.blk 0 rfl).lt
  clear h ho ok
  cases hw : whoB who with
  | false =>
    have HE : Hid (TkS.readE who n = 1 ∧ s.readS who n = ⟨#[]⟩ ∧ s.read who n = s) := Lib.hid ⟨by unfold TkS.readE; rw [hw]; rfl, by unfold TkS.readS; rw [hw]; rfl, by unfold TkS.read; rw [hw]; rfl⟩
    rw [HE.out.1, HE.out.2.1, HE.out.2.2]
    go_enter Tryz.func28, Tryz.ntmps28
    go_wp2_with (go_at_call 84; refine (who_any who _).mono ?_; rintro e w1 ⟨rfl, rfl⟩; rw [hw])
    go_ret2
    exact ⟨rfl, Leaves.same H.out (Below.refl _ _)⟩
  | true =>
    rcases whoB_iff.1 hw with rfl | rfl
    · have HE : Hid (TkS.readE 0 n = EnS.readE n ∧ s.readS 0 n = s.e0.readS n ∧ s.read 0 n = { s with e0 := s.e0.read n }) := Lib.hid ⟨rfl, rfl, rfl⟩
      rw [HE.out.1, HE.out.2.1, HE.out.2.2]
      obtain ⟨S2, hS2, up⟩ := HO.out.at_ 2 rfl
      clear hw
      go_enter Tryz.func28, Tryz.ntmps28
      go_wp2_with (first | (go_at_call 84; refine (who_any 0 _).mono ?_; rintro e w1 ⟨rfl, rfl⟩) | (go_at_call 15; refine (eread p.g0 s.e0 n _ S2 hS2).mono ?_; rintro e w1 ⟨rfl, hl⟩))
      go_ret2
      exact ⟨rfl, talkT_close (p := p) HOK.out (up _ _ hl)⟩
    · have HE : Hid (TkS.readE 1 n = EnS.readE n ∧ s.readS 1 n = s.e1.readS n ∧ s.read 1 n = { s with e1 := s.e1.read n }) := Lib.hid ⟨rfl, rfl, rfl⟩
      rw [HE.out.1, HE.out.2.1, HE.out.2.2]
      obtain ⟨S3, hS3, up⟩ := HO.out.at_ 3 rfl
      clear hw
      go_enter Tryz.func28, Tryz.ntmps28
      go_wp2_with (first | (go_at_call 84; refine (who_any 1 _).mono ?_; rintro e w1 ⟨rfl, rfl⟩) | (go_at_call 15; refine (eread p.g1 s.e1 n _ S3 hS3).mono ?_; rintro e w1 ⟨rfl, hl⟩))
      go_ret2
      exact ⟨rfl, talkT_close (p := p) HOK.out (up _ _ hl)⟩
theorem giveD_mem {L : List Let} {i : Int} (h : isB L i = true) : giveD L i ∈ L := by
  unfold giveD
  rw [if_pos h]
  obtain ⟨h0, h1⟩ := isB_iff.1 h
  have hl : i.toNat < L.length := by omega
  rw [show L.getD i.toNat noLet = L[i.toNat] by simp [List.getD, List.getElem?_eq_getElem hl]]
  exact List.getElem_mem _
theorem giveL_sub {L : List Let} {i : Int} : (giveL L i).length ≤ L.length ∧ ∀ l ∈ giveL L i, l ∈ L := by
  unfold giveL
  split
  · refine ⟨by rw [List.length_append, List.length_take, List.length_drop]; omega, fun l hl => ?_⟩
    rcases List.mem_append.1 hl with h | h
    · exact List.mem_of_mem_take h
    · exact List.mem_of_mem_drop h
  · exact ⟨Nat.le_refl _, fun l hl => hl⟩
set_option maxHeartbeats 3200000 in
theorem tsend (g : Nat) (s : TkS) (who : Int) (w : World) (S : List Nat) (h : (talkT g s).is w S) (hK : KTab w) (hm : (s.e who).made.length ≤ 1000) :
    Calls Tryz.prog 26 #[.pointer (some ⟨g, 0, none⟩), .int .i64 who] w fun e w' => e = .returned (errV (s.sendE who)) ∧ Leaves w w' S (talkT g (s.send who)) := by
  have H := Lib.hid h
  have HK := Lib.hid hK
  obtain ⟨p, ok, ho⟩ := talkT_open h
  have HOK := Lib.hid ok
  have HO := Lib.hid ho
  have c0 : w.cell? ⟨g, 0, none⟩ = some (.pointer (some ⟨p.gw, 0, none⟩)) := (ho.blk 0 rfl).cell 0
  have c1 : w.cell? ⟨g, 1, none⟩ = some (.pointer (some ⟨p.g0, 0, none⟩)) := (ho.blk 0 rfl).cell 1
  have c2 : w.cell? ⟨g, 2, none⟩ = some (.pointer (some ⟨p.g1, 0, none⟩)) := (ho.blk 0 rfl).cell 2
  have lg := (ho.blk 0 rfl).lt
  clear h ho ok hK
  cases hw : whoB who with
  | false =>
    have HE : Hid (s.sendE who = 1 ∧ s.send who = s) := Lib.hid (by
      have e1 : s.sendE who = 1 := by unfold TkS.sendE; rw [hw]; rfl
      exact ⟨e1, by unfold TkS.send; rw [e1, if_neg (by decide)]⟩)
    rw [HE.out.1, HE.out.2]
    go_enter Tryz.func26, Tryz.ntmps26
    go_wp2_with (go_at_call 84; refine (who_any who _).mono ?_; rintro e w1 ⟨rfl, rfl⟩; rw [hw])
    go_ret
    exact ⟨rfl, Leaves.same H.out (Below.refl _ _)⟩
  | true =>
    rcases whoB_iff.1 hw with rfl | rfl
    · have HE : Hid (s.sendE 0 = (if s.L.length = 40 then 4 else 0) ∧ s.e 0 = s.e0) := Lib.hid ⟨rfl, rfl⟩
      have HS : Hid (¬ s.L.length = 40 → s.send 0 = { s with e0 := s.e0.make, L := s.L ++ [⟨1, ⟨s.e0.packet.toArray⟩⟩] }) := Lib.hid (fun h0 => by unfold TkS.send; rw [HE.out.1, if_neg h0, if_pos rfl]; rfl)
      have HS1 : Hid (s.L.length = 40 → s.send 0 = s) := Lib.hid (fun h0 => by unfold TkS.send; rw [HE.out.1, if_pos h0, if_neg (by decide)])
      obtain ⟨S1, ⟨v0, hz0, -⟩, -⟩ := HO.out.at_ 1 rfl
      have HZ0 := Lib.hid hz0
      clear hw hz0
      by_cases hf : s.L.length = 40
      · rw [HE.out.1, if_pos hf, HS1.out hf]
        have hfb : fullB s.L = true := by unfold fullB; simpa using hf
        clear hf
        go_enter Tryz.func26, Tryz.ntmps26
        go_wp2_with (first | (go_at_call 84; refine (who_any 0 _).mono ?_; rintro e w1 ⟨rfl, rfl⟩) | (go_at_call 85; refine (kfull p.gw v0 s.L _ HZ0.out).mono ?_; rintro e w1 ⟨rfl, rfl⟩; rw [hfb]))
        go_ret
        exact ⟨rfl, Leaves.same H.out (Below.refl _ _)⟩
      · rw [HE.out.1, if_neg hf, HS.out hf, errV_zero]
        have hfb : fullB s.L = false := by unfold fullB; simpa using hf
        obtain ⟨S2, hS2, up⟩ := HO.out.at_ 2 rfl
        have hme : (s.e0).made.length ≤ 1000 := hm
        have hokE : EnOk s.e0 := by obtain ⟨q, hq⟩ := endT_open hS2; exact hq.ok
        have hpk : s.e0.packet.length ≤ 177 := (hokE.packetOk (by omega)).2.2
        have HSE : Hid (Go.Proofs.YtaindcicloapfaaGreatDoor.sendE s.L 1 ⟨s.e0.packet.toArray⟩ = 0 ∧ sendL s.L 1 ⟨s.e0.packet.toArray⟩ = s.L ++ [⟨1, ⟨s.e0.packet.toArray⟩⟩]) := Lib.hid (by
          have e0 : Go.Proofs.YtaindcicloapfaaGreatDoor.sendE s.L 1 ⟨s.e0.packet.toArray⟩ = 0 := by
            unfold Go.Proofs.YtaindcicloapfaaGreatDoor.sendE
            rw [if_pos (by decide), if_neg]
            rintro (h1 | h1)
            · exact hf h1
            · have : (200 : Nat) < s.e0.packet.toArray.size := h1
              rw [List.size_toArray] at this
              omega
          exact ⟨e0, by unfold sendL; rw [if_pos e0]⟩)
        have HOK2 : Hid (TkOk { s with e0 := s.e0.make, L := s.L ++ [⟨1, ⟨s.e0.packet.toArray⟩⟩] }) := Lib.hid (by
          refine ⟨by show (s.L ++ [_]).length ≤ 40; rw [List.length_append]; have := HOK.out.1; simp; omega, fun l hl => ?_⟩
          rcases List.mem_append.1 hl with h | h
          · exact HOK.out.2 l h
          · rw [List.mem_singleton.1 h]
            refine ⟨rfl, ?_⟩
            show s.e0.packet.toArray.size ≤ 200
            rw [List.size_toArray]; omega)
        have HSZ : Hid ((ByteArray.mk s.e0.packet.toArray).size ≤ 9223372036854775807) := Lib.hid (by show s.e0.packet.toArray.size ≤ _; rw [List.size_toArray]; omega)
        clear hf hokE hpk
        go_enter Tryz.func26, Tryz.ntmps26
        go_wp2_with (first | (go_at_call 84; refine (who_any 0 _).mono ?_; rintro e w1 ⟨rfl, rfl⟩) | (go_at_call 85; refine (kfull p.gw v0 s.L _ HZ0.out).mono ?_; rintro e w1 ⟨rfl, rfl⟩; rw [hfb]))
        go_region_law (first
          | (go_simp; go_at_call 16; refine (emake p.g0 s.e0 _ S2 ((endT p.g0 s.e0).later hS2 (show Since w _ from (by refine Since.out ?_; repeat (first | with_reducible assumption | with_reducible exact Since.refl _ | with_reducible refine Since.later ?_ (by with_reducible assumption) | with_reducible refine Since.only ?_ (by with_reducible assumption) (by first | assumption | omega | (simp; done) | (simp; omega)) | with_reducible refine Since.alloc ?_ _ | with_reducible refine Since.drewN ?_ _ | with_reducible refine Since.drew ?_ | with_reducible refine Since.set ?_ (by first | assumption | omega | (simp; done) | (simp; omega)) _)))) (HK.out.later (show Since w _ from (by refine Since.out ?_; repeat (first | with_reducible assumption | with_reducible exact Since.refl _ | with_reducible refine Since.later ?_ (by with_reducible assumption) | with_reducible refine Since.only ?_ (by with_reducible assumption) (by first | assumption | omega | (simp; done) | (simp; omega)) | with_reducible refine Since.alloc ?_ _ | with_reducible refine Since.drewN ?_ _ | with_reducible refine Since.drew ?_ | with_reducible refine Since.set ?_ (by first | assumption | omega | (simp; done) | (simp; omega)) _)))) hme).mono ?_; rintro e w1 ⟨rfl, hl⟩; have HW1 := Lib.hid (up _ _ (Leaves.drew hl)); obtain ⟨S1', ⟨v1, hz1, hS1'⟩, up1⟩ := HW1.out.at_ 1 rfl; have d0 : w1.cell? ⟨g, 0, none⟩ = some (.pointer (some ⟨p.gw, 0, none⟩)) := (HW1.out.blk 0 rfl).cell 0; have ld := (HW1.out.blk 0 rfl).lt)
          | (go_simp; go_at_call 86; refine (ksend p.gw v1 s.L 1 ⟨s.e0.packet.toArray⟩ _ hz1 HSZ.out).mono ?_; rintro e w2 ⟨rfl, hk⟩; rw [HSE.out.1, errV_zero]; rw [HSE.out.2] at hk))
        all_goals
          go_wp2_with fail
          go_ret
          refine ⟨rfl, talkT_close (p := p) HOK2.out ?_⟩
          have h9 := up1 _ _ (by rw [hS1']; exact linkT_left hk)
          exact h9
    · have HE : Hid (s.sendE 1 = (if s.L.length = 40 then 4 else 0) ∧ s.e 1 = s.e1) := Lib.hid ⟨rfl, rfl⟩
      have HS : Hid (¬ s.L.length = 40 → s.send 1 = { s with e1 := s.e1.make, L := s.L ++ [⟨0, ⟨s.e1.packet.toArray⟩⟩] }) := Lib.hid (fun h0 => by unfold TkS.send; rw [HE.out.1, if_neg h0, if_pos rfl]; rfl)
      have HS1 : Hid (s.L.length = 40 → s.send 1 = s) := Lib.hid (fun h0 => by unfold TkS.send; rw [HE.out.1, if_pos h0, if_neg (by decide)])
      obtain ⟨S1, ⟨v0, hz0, -⟩, -⟩ := HO.out.at_ 1 rfl
      have HZ0 := Lib.hid hz0
      clear hw hz0
      by_cases hf : s.L.length = 40
      · rw [HE.out.1, if_pos hf, HS1.out hf]
        have hfb : fullB s.L = true := by unfold fullB; simpa using hf
        clear hf
        go_enter Tryz.func26, Tryz.ntmps26
        go_wp2_with (first | (go_at_call 84; refine (who_any 1 _).mono ?_; rintro e w1 ⟨rfl, rfl⟩) | (go_at_call 85; refine (kfull p.gw v0 s.L _ HZ0.out).mono ?_; rintro e w1 ⟨rfl, rfl⟩; rw [hfb]))
        go_ret
        exact ⟨rfl, Leaves.same H.out (Below.refl _ _)⟩
      · rw [HE.out.1, if_neg hf, HS.out hf, errV_zero]
        have hfb : fullB s.L = false := by unfold fullB; simpa using hf
        obtain ⟨S2, hS2, up⟩ := HO.out.at_ 3 rfl
        have hme : (s.e1).made.length ≤ 1000 := hm
        have hokE : EnOk s.e1 := by obtain ⟨q, hq⟩ := endT_open hS2; exact hq.ok
        have hpk : s.e1.packet.length ≤ 177 := (hokE.packetOk (by omega)).2.2
        have HSE : Hid (Go.Proofs.YtaindcicloapfaaGreatDoor.sendE s.L 0 ⟨s.e1.packet.toArray⟩ = 0 ∧ sendL s.L 0 ⟨s.e1.packet.toArray⟩ = s.L ++ [⟨0, ⟨s.e1.packet.toArray⟩⟩]) := Lib.hid (by
          have e0 : Go.Proofs.YtaindcicloapfaaGreatDoor.sendE s.L 0 ⟨s.e1.packet.toArray⟩ = 0 := by
            unfold Go.Proofs.YtaindcicloapfaaGreatDoor.sendE
            rw [if_pos (by decide), if_neg]
            rintro (h1 | h1)
            · exact hf h1
            · have : (200 : Nat) < s.e1.packet.toArray.size := h1
              rw [List.size_toArray] at this
              omega
          exact ⟨e0, by unfold sendL; rw [if_pos e0]⟩)
        have HOK2 : Hid (TkOk { s with e1 := s.e1.make, L := s.L ++ [⟨0, ⟨s.e1.packet.toArray⟩⟩] }) := Lib.hid (by
          refine ⟨by show (s.L ++ [_]).length ≤ 40; rw [List.length_append]; have := HOK.out.1; simp; omega, fun l hl => ?_⟩
          rcases List.mem_append.1 hl with h | h
          · exact HOK.out.2 l h
          · rw [List.mem_singleton.1 h]
            refine ⟨rfl, ?_⟩
            show s.e1.packet.toArray.size ≤ 200
            rw [List.size_toArray]; omega)
        have HSZ : Hid ((ByteArray.mk s.e1.packet.toArray).size ≤ 9223372036854775807) := Lib.hid (by show s.e1.packet.toArray.size ≤ _; rw [List.size_toArray]; omega)
        clear hf hokE hpk
        go_enter Tryz.func26, Tryz.ntmps26
        go_wp2_with (first | (go_at_call 84; refine (who_any 1 _).mono ?_; rintro e w1 ⟨rfl, rfl⟩) | (go_at_call 85; refine (kfull p.gw v0 s.L _ HZ0.out).mono ?_; rintro e w1 ⟨rfl, rfl⟩; rw [hfb]))
        go_region_law (first
          | (go_simp; go_at_call 16; refine (emake p.g1 s.e1 _ S2 ((endT p.g1 s.e1).later hS2 (show Since w _ from (by refine Since.out ?_; repeat (first | with_reducible assumption | with_reducible exact Since.refl _ | with_reducible refine Since.later ?_ (by with_reducible assumption) | with_reducible refine Since.only ?_ (by with_reducible assumption) (by first | assumption | omega | (simp; done) | (simp; omega)) | with_reducible refine Since.alloc ?_ _ | with_reducible refine Since.drewN ?_ _ | with_reducible refine Since.drew ?_ | with_reducible refine Since.set ?_ (by first | assumption | omega | (simp; done) | (simp; omega)) _)))) (HK.out.later (show Since w _ from (by refine Since.out ?_; repeat (first | with_reducible assumption | with_reducible exact Since.refl _ | with_reducible refine Since.later ?_ (by with_reducible assumption) | with_reducible refine Since.only ?_ (by with_reducible assumption) (by first | assumption | omega | (simp; done) | (simp; omega)) | with_reducible refine Since.alloc ?_ _ | with_reducible refine Since.drewN ?_ _ | with_reducible refine Since.drew ?_ | with_reducible refine Since.set ?_ (by first | assumption | omega | (simp; done) | (simp; omega)) _)))) hme).mono ?_; rintro e w1 ⟨rfl, hl⟩; have HW1 := Lib.hid (up _ _ (Leaves.drew hl)); obtain ⟨S1', ⟨v1, hz1, hS1'⟩, up1⟩ := HW1.out.at_ 1 rfl; have d0 : w1.cell? ⟨g, 0, none⟩ = some (.pointer (some ⟨p.gw, 0, none⟩)) := (HW1.out.blk 0 rfl).cell 0; have ld := (HW1.out.blk 0 rfl).lt)
          | (go_simp; go_at_call 86; refine (ksend p.gw v1 s.L 0 ⟨s.e1.packet.toArray⟩ _ hz1 HSZ.out).mono ?_; rintro e w2 ⟨rfl, hk⟩; rw [HSE.out.1, errV_zero]; rw [HSE.out.2] at hk))
        all_goals
          go_wp2_with fail
          go_ret
          refine ⟨rfl, talkT_close (p := p) HOK2.out ?_⟩
          have h9 := up1 _ _ (by rw [hS1']; exact linkT_left hk)
          exact h9
set_option maxHeartbeats 3200000 in
theorem tcome (g : Nat) (s : TkS) (i : Int) (w : World) (S : List Nat) (h : (talkT g s).is w S) (hT : ∀ X, Out w X S → KTab X ∧ CTab X) (hm0 : s.e0.made.length ≤ 1000) (hm1 : s.e1.made.length ≤ 1000) :
    Calls Tryz.prog 27 #[.pointer (some ⟨g, 0, none⟩), .int .i64 i] w fun e w' => e = .returned (errV (s.comeE i)) ∧ Leaves w w' S (talkT g (s.come i)) := by
  have H := Lib.hid h
  have HTT := Lib.hid hT
  obtain ⟨p, ok, ho⟩ := talkT_open h
  have HOK := Lib.hid ok
  have HO := Lib.hid ho
  have c0 : w.cell? ⟨g, 0, none⟩ = some (.pointer (some ⟨p.gw, 0, none⟩)) := (ho.blk 0 rfl).cell 0
  have lg := (ho.blk 0 rfl).lt
  obtain ⟨S1, ⟨v1, hz1, hS1⟩, up1⟩ := HO.out.at_ 1 rfl
  have HGV := Lib.hid (kgive p.gw v1 s.L i w hz1)
  clear h ho ok hT hz1
  cases hb : isB s.L i with
  | false =>
    have HE : Hid (s.comeE i = 1 ∧ s.come i = s ∧ giveE s.L i = 1) := Lib.hid ⟨by unfold TkS.comeE; rw [hb]; rfl, by unfold TkS.come; rw [hb]; rfl, by unfold giveE; rw [hb]; rfl⟩
    have HGL : Hid (giveL s.L i = s.L) := Lib.hid (by unfold giveL; rw [hb]; rfl)
    rw [HE.out.1, HE.out.2.1]
    rw [HE.out.2.2, HGL.out] at HGV
    go_enter Tryz.func27, Tryz.ntmps27
    go_wp2_with fail
    refine HGV.out.mono ?_
    rintro e w1 ⟨rfl, hk⟩
    rw [errV_pos (by decide)]
    have HL := Lib.hid (talkT_close (p := p) HOK.out (up1 _ _ (by rw [hS1]; exact linkT_left hk)))
    go_wp2_with fail
    go_ret
    exact ⟨rfl, HL.out⟩
  | true =>
    have hmem := giveD_mem hb
    obtain ⟨hto, hsz⟩ := HOK.out.2 _ hmem
    have HE : Hid (s.comeE i = (s.e (giveD s.L i).too).takeE (giveD s.L i).b.data.toList ∧ s.come i = { s.set (giveD s.L i).too ((s.e (giveD s.L i).too).take (giveD s.L i).b.data.toList) with L := giveL s.L i } ∧ giveE s.L i = 0) := Lib.hid ⟨by unfold TkS.comeE; rw [if_pos hb], by unfold TkS.come; rw [if_pos hb], by unfold giveE; rw [if_pos hb]⟩
    rw [HE.out.2.2, errV_zero] at HGV
    rw [HE.out.1, HE.out.2.1]
    obtain ⟨⟨tz, b⟩, hd⟩ : ∃ d, giveD s.L i = d := ⟨_, rfl⟩
    rw [hd] at hto hsz HGV
    rw [hd]
    dsimp only at hto hsz HGV ⊢
    have HGL := Lib.hid (giveL_sub (L := s.L) (i := i))
    have hbz : b.size ≤ 9223372036854775000 := by omega
    clear hmem hd HE hb hsz
    rcases whoB_iff.1 hto with rfl | rfl
    · clear hto
      go_enter Tryz.func27, Tryz.ntmps27
      go_wp2_with fail
      refine HGV.out.mono ?_
      rintro e w1 ⟨rfl, hk⟩
      have HW1 := Lib.hid (up1 _ (linkT p.gw (giveL s.L i)) (by rw [hS1]; exact linkT_left hk))
      have d1 : w1.cell? ⟨g, 1, none⟩ = some (.pointer (some ⟨p.g0, 0, none⟩)) := (HW1.out.blk 0 rfl).cell 1
      have ld := (HW1.out.blk 0 rfl).lt
      obtain ⟨S2, hS2, up2⟩ := HW1.out.at_ 2 rfl
      have hK1 : KTab w1 ∧ CTab w1 := HTT.out w1 HW1.out.out
      have HT := Lib.hid (etake p.g0 s.e0 b w1 S2 hS2 hK1.1 hK1.2 hm0 hbz)
      clear hk hS2 hK1
      go_wp2_with (go_at_call 18; refine HT.out.mono ?_; rintro e w2 ⟨rfl, hl⟩)
      go_ret
      exact ⟨rfl, talkT_close (p := p) ⟨Nat.le_trans HGL.out.1 HOK.out.1, fun l hl => HOK.out.2 l (HGL.out.2 l hl)⟩ (up2 _ _ hl)⟩
    · clear hto
      go_enter Tryz.func27, Tryz.ntmps27
      go_wp2_with fail
      refine HGV.out.mono ?_
      rintro e w1 ⟨rfl, hk⟩
      have HW1 := Lib.hid (up1 _ (linkT p.gw (giveL s.L i)) (by rw [hS1]; exact linkT_left hk))
      have d1 : w1.cell? ⟨g, 2, none⟩ = some (.pointer (some ⟨p.g1, 0, none⟩)) := (HW1.out.blk 0 rfl).cell 2
      have ld := (HW1.out.blk 0 rfl).lt
      obtain ⟨S2, hS2, up2⟩ := HW1.out.at_ 3 rfl
      have hK1 : KTab w1 ∧ CTab w1 := HTT.out w1 HW1.out.out
      have HT := Lib.hid (etake p.g1 s.e1 b w1 S2 hS2 hK1.1 hK1.2 hm1 hbz)
      clear hk hS2 hK1
      go_wp2_with (go_at_call 18; refine HT.out.mono ?_; rintro e w2 ⟨rfl, hl⟩)
      go_ret
      exact ⟨rfl, talkT_close (p := p) ⟨Nat.le_trans HGL.out.1 HOK.out.1, fun l hl => HOK.out.2 l (HGL.out.2 l hl)⟩ (up2 _ _ hl)⟩
end Go.Proofs.YtaindcicloapfaaGreatDoor

/-! More contracts of package talk: Write, Lose, Twice. Condition: the blocks hold a talk as New and the calls leave it. -/
namespace Go.Proofs.YtaindcicloapfaaGreatDoor
open Go.ChangeShapes Go.WideShapes Go.ChangeAt Go.RowKit
set_option linter.unusedVariables false

/-- Write -/
def TkS.writeE (s : TkS) (who : Int) (d : ByteArray) : Int := if whoB who = true then (s.e who).writeE d else 1
def TkS.write (s : TkS) (who : Int) (d : ByteArray) : TkS := if whoB who = true then s.set who ((s.e who).write d) else s
set_option maxHeartbeats 1600000 in
theorem twrite (g : Nat) (s : TkS) (who : Int) (d : ByteArray) (w : World) (S : List Nat) (h : (talkT g s).is w S) (hd : d.size ≤ 9223372036854775000) :
    Calls Tryz.prog 25 #[.pointer (some ⟨g, 0, none⟩), .int .i64 who, .string d] w fun e w' => e = .returned (errV (s.writeE who d)) ∧ Leaves w w' S (talkT g (s.write who d)) := by
  have H := Lib.hid h
  obtain ⟨p, ok, ho⟩ := talkT_open h
  have HOK := Lib.hid ok
  have HO := Lib.hid ho
  have c1 : w.cell? ⟨g, 1, none⟩ = some (.pointer (some ⟨p.g0, 0, none⟩)) := (ho.blk 0 rfl).cell 1
  have c2 : w.cell? ⟨g, 2, none⟩ = some (.pointer (some ⟨p.g1, 0, none⟩)) := (ho.blk 0 rfl).cell 2
  have lg := (ho.blk 0 rfl).lt
  clear h ho ok
  cases hw : whoB who with
  | false =>
    have HE : Hid (s.writeE who d = 1 ∧ s.write who d = s) := Lib.hid ⟨by unfold TkS.writeE; rw [hw]; rfl, by unfold TkS.write; rw [hw]; rfl⟩
    rw [HE.out.1, HE.out.2]
    go_enter Tryz.func25, Tryz.ntmps25
    go_wp2_with (go_at_call 84; refine (who_any who _).mono ?_; rintro e w1 ⟨rfl, rfl⟩; rw [hw])
    go_ret
    exact ⟨rfl, Leaves.same H.out (Below.refl _ _)⟩
  | true =>
    rcases whoB_iff.1 hw with rfl | rfl
    · have HE : Hid (s.writeE 0 d = s.e0.writeE d ∧ s.write 0 d = { s with e0 := s.e0.write d }) := Lib.hid ⟨rfl, rfl⟩
      rw [HE.out.1, HE.out.2]
      obtain ⟨S2, hS2, up⟩ := HO.out.at_ 2 rfl
      clear hw
      go_enter Tryz.func25, Tryz.ntmps25
      go_wp2_with (first | (go_at_call 84; refine (who_any 0 _).mono ?_; rintro e w1 ⟨rfl, rfl⟩) | (go_at_call 12; refine (ewrite p.g0 s.e0 d _ S2 hS2 hd).mono ?_; rintro e w1 ⟨rfl, hl⟩))
      go_ret
      exact ⟨rfl, talkT_close (p := p) HOK.out (up _ _ hl)⟩
    · have HE : Hid (s.writeE 1 d = s.e1.writeE d ∧ s.write 1 d = { s with e1 := s.e1.write d }) := Lib.hid ⟨rfl, rfl⟩
      rw [HE.out.1, HE.out.2]
      obtain ⟨S3, hS3, up⟩ := HO.out.at_ 3 rfl
      clear hw
      go_enter Tryz.func25, Tryz.ntmps25
      go_wp2_with (first | (go_at_call 84; refine (who_any 1 _).mono ?_; rintro e w1 ⟨rfl, rfl⟩) | (go_at_call 12; refine (ewrite p.g1 s.e1 d _ S3 hS3 hd).mono ?_; rintro e w1 ⟨rfl, hl⟩))
      go_ret
      exact ⟨rfl, talkT_close (p := p) HOK.out (up _ _ hl)⟩
set_option maxHeartbeats 1600000 in
theorem tklose (g : Nat) (s : TkS) (i : Int) (w : World) (S : List Nat) (h : (talkT g s).is w S) :
    Calls Tryz.prog 29 #[.pointer (some ⟨g, 0, none⟩), .int .i64 i] w fun e w' => e = .returned (errV (giveE s.L i)) ∧ Leaves w w' S (talkT g { s with L := giveL s.L i }) := by
  obtain ⟨p, ok, ho⟩ := talkT_open h
  have HOK := Lib.hid ok
  have HO := Lib.hid ho
  have c0 : w.cell? ⟨g, 0, none⟩ = some (.pointer (some ⟨p.gw, 0, none⟩)) := (ho.blk 0 rfl).cell 0
  have lg := (ho.blk 0 rfl).lt
  obtain ⟨S1, ⟨v, hz, hS1⟩, up⟩ := HO.out.at_ 1 rfl
  have HZ := Lib.hid hz
  have HGL := Lib.hid (giveL_sub (L := s.L) (i := i))
  clear h ho hz ok
  go_enter Tryz.func29, Tryz.ntmps29
  go_wp2_with (go_at_call 88; refine (klose p.gw v s.L i _ HZ.out).mono ?_; rintro e w1 ⟨rfl, hk⟩)
  go_ret
  exact ⟨rfl, talkT_close (p := p) ⟨Nat.le_trans HGL.out.1 HOK.out.1, fun l hl => HOK.out.2 l (HGL.out.2 l hl)⟩ (up _ _ (by rw [hS1]; exact linkT_left hk))⟩
theorem twice_ok {L : List Let} {i : Int} (h : L.length ≤ 40 ∧ ∀ l ∈ L, whoB l.too = true ∧ l.b.size ≤ 200) : (twiceL L i).length ≤ 40 ∧ ∀ l ∈ twiceL L i, whoB l.too = true ∧ l.b.size ≤ 200 := by
  unfold twiceL twiceE
  cases hb : isB L i with
  | false => exact h
  | true =>
    obtain ⟨h0, h1⟩ := isB_iff.1 hb
    by_cases h40 : L.length = 40
    · rw [if_pos rfl, if_pos h40, if_neg (by decide)]; exact h
    · rw [if_pos rfl, if_neg h40, if_pos rfl]
      refine ⟨by rw [List.length_append]; have := h.1; simp; omega, fun l hl => ?_⟩
      rcases List.mem_append.1 hl with hm | hm
      · exact h.2 l hm
      · rw [List.mem_singleton.1 hm]
        have hl : i.toNat < L.length := by omega
        rw [show L.getD i.toNat noLet = L[i.toNat] by simp [List.getD, List.getElem?_eq_getElem hl]]
        exact h.2 _ (List.getElem_mem _)
set_option maxHeartbeats 1600000 in
theorem tktwice (g : Nat) (s : TkS) (i : Int) (w : World) (S : List Nat) (h : (talkT g s).is w S) :
    Calls Tryz.prog 30 #[.pointer (some ⟨g, 0, none⟩), .int .i64 i] w fun e w' => e = .returned (errV (twiceE s.L i)) ∧ Leaves w w' S (talkT g { s with L := twiceL s.L i }) := by
  obtain ⟨p, ok, ho⟩ := talkT_open h
  have HOK := Lib.hid ok
  have HO := Lib.hid ho
  have c0 : w.cell? ⟨g, 0, none⟩ = some (.pointer (some ⟨p.gw, 0, none⟩)) := (ho.blk 0 rfl).cell 0
  have lg := (ho.blk 0 rfl).lt
  obtain ⟨S1, ⟨v, hz, hS1⟩, up⟩ := HO.out.at_ 1 rfl
  have HZ := Lib.hid hz
  clear h ho hz ok
  go_enter Tryz.func30, Tryz.ntmps30
  go_wp2_with (go_at_call 89; refine (ktwice p.gw v s.L i _ HZ.out).mono ?_; rintro e w1 ⟨rfl, hk⟩)
  go_ret
  exact ⟨rfl, talkT_close (p := p) (twice_ok HOK.out) (up _ _ (by rw [hS1]; exact linkT_left hk))⟩
end Go.Proofs.YtaindcicloapfaaGreatDoor

/-! Plain law for two ends that talk over a link that loses, doubles and turns round: each letter is a packet of its sender; what is read is a beginning of what was written. No program here. -/
namespace Go.Proofs.YtaindcicloapfaaGreatDoor
open Go.ChangeShapes Go.WideShapes Go.ChangeAt Go.RowKit
set_option linter.unusedVariables false

/-- these bytes are a packet of x -/
def Of1 (x : EnS) (b : List UInt8) : Prop := ∃ n k A Lc ps, Fly x b n k A Lc ps
theorem Of1.grows {x x' : EnS} {b : List UInt8} (h : Of1 x b) (g : Grows x x') : Of1 x' b := by
  obtain ⟨n, k, A, Lc, ps, f⟩ := h
  exact ⟨n, k, A, Lc, ps, f.grows g⟩
/-- two that talk, behind i steps -/
structure Tkg (s : TkS) (i : Nat) : Prop where
  pr : Pair s.e0 s.e1
  m0 : s.e0.made.length ≤ i
  m1 : s.e1.made.length ≤ i
  f1 : ∀ l ∈ s.L, l.too = 1 → Of1 s.e0 l.b.data.toList
  f0 : ∀ l ∈ s.L, l.too = 0 → Of1 s.e1 l.b.data.toList
  wh : ∀ l ∈ s.L, whoB l.too = true
/-- what who read -/
def TkS.got (s : TkS) (who : Int) : ByteArray := (s.e (1 - who)).data.extract 0 (s.e who).t
theorem Tkg.start {n : Int} (h1 : 1 ≤ n) (h2 : n ≤ 1000) : Tkg (TkS.new n) 0 := ⟨Pair.new h1 h2, Nat.le_refl _, Nat.le_refl _, fun l hl => by simp [TkS.new] at hl, fun l hl => by simp [TkS.new] at hl, fun l hl => by simp [TkS.new] at hl⟩
theorem Tkg.more {s : TkS} {i j : Nat} (h : Tkg s i) (hj : i ≤ j) : Tkg s j := ⟨h.pr, Nat.le_trans h.m0 hj, Nat.le_trans h.m1 hj, h.f1, h.f0, h.wh⟩
theorem Tkg.up0 {s : TkS} {i j : Nat} (h : Tkg s i) (hj : i ≤ j) {x : EnS} {L : List Let} (hp : Pair x s.e1) (hg : Grows s.e0 x) (hm : x.made.length ≤ j) (hL : ∀ l ∈ L, l ∈ s.L ∨ (l.too = 1 ∧ Of1 x l.b.data.toList)) : Tkg ⟨L, x, s.e1⟩ j := by
  refine ⟨hp, hm, Nat.le_trans h.m1 hj, fun l hl ht => ?_, fun l hl ht => ?_, fun l hl => ?_⟩
  · rcases hL l hl with h1 | ⟨_, h1⟩
    · exact (h.f1 l h1 ht).grows hg
    · exact h1
  · rcases hL l hl with h1 | ⟨h1, _⟩
    · exact h.f0 l h1 ht
    · omega
  · rcases hL l hl with h1 | ⟨h1, _⟩
    · exact h.wh l h1
    · exact whoB_iff.2 (Or.inr h1)
theorem Tkg.up1 {s : TkS} {i j : Nat} (h : Tkg s i) (hj : i ≤ j) {x : EnS} {L : List Let} (hp : Pair s.e0 x) (hg : Grows s.e1 x) (hm : x.made.length ≤ j) (hL : ∀ l ∈ L, l ∈ s.L ∨ (l.too = 0 ∧ Of1 x l.b.data.toList)) : Tkg ⟨L, s.e0, x⟩ j := by
  refine ⟨hp, Nat.le_trans h.m0 hj, hm, fun l hl ht => ?_, fun l hl ht => ?_, fun l hl => ?_⟩
  · rcases hL l hl with h1 | ⟨h1, _⟩
    · exact h.f1 l h1 ht
    · omega
  · rcases hL l hl with h1 | ⟨_, h1⟩
    · exact (h.f0 l h1 ht).grows hg
    · exact h1
  · rcases hL l hl with h1 | ⟨h1, _⟩
    · exact h.wh l h1
    · exact whoB_iff.2 (Or.inl h1)
/-- what was read is a beginning -/
theorem Tkg.begin0 {s : TkS} {i : Nat} (h : Tkg s i) : s.e0.t ≤ s.e1.data.size := (read_text h.pr.symm 0).1
theorem Tkg.begin1 {s : TkS} {i : Nat} (h : Tkg s i) : s.e1.t ≤ s.e0.data.size := (read_text h.pr 0).1
theorem write_same (x : EnS) (d : ByteArray) : (x.write d).made = x.made ∧ (x.write d).t = x.t := by unfold EnS.write; split <;> simp
theorem write_data (x : EnS) (d : ByteArray) : (x.write d).data = if x.writeE d = 0 then x.data ++ d else x.data := by
  unfold EnS.write EnS.writeE
  split
  · rfl
  · rfl
theorem write_begin {x : EnS} {t : Nat} (h : t ≤ x.data.size) (d : ByteArray) : (x.write d).data.extract 0 t = x.data.extract 0 t := by
  rw [write_data]
  split
  · exact extract_app h
  · rfl
/-- behind Write -/
theorem Tkg.write {s : TkS} {i : Nat} (h : Tkg s i) (who : Int) (d : ByteArray) : Tkg (s.write who d) (i + 1) ∧ (s.write who d).got 0 = s.got 0 ∧ (s.write who d).got 1 = s.got 1 ∧
    (s.write who d).e0.data = (if who = 0 ∧ s.writeE who d = 0 then s.e0.data ++ d else s.e0.data) ∧ (s.write who d).e1.data = (if who = 1 ∧ s.writeE who d = 0 then s.e1.data ++ d else s.e1.data) := by
  cases hw : whoB who with
  | false =>
    have e : s.write who d = s := by unfold TkS.write; rw [hw]; rfl
    have hn : ¬ (who = 0 ∨ who = 1) := fun h0 => by rw [whoB_iff.2 h0] at hw; cases hw
    rw [e]
    exact ⟨h.more (by omega), rfl, rfl, by rw [if_neg (fun h0 => hn (Or.inl h0.1))], by rw [if_neg (fun h0 => hn (Or.inr h0.1))]⟩
  | true =>
    rcases whoB_iff.1 hw with rfl | rfl
    · have e : s.write 0 d = ⟨s.L, s.e0.write d, s.e1⟩ := rfl
      have e2 : s.writeE 0 d = s.e0.writeE d := rfl
      rw [e, e2]
      refine ⟨h.up0 (by omega) (h.pr.write d) (Grows.write _ d) (by rw [(write_same s.e0 d).1]; have := h.m0; omega) (fun l hl => Or.inl hl), ?_, ?_, ?_, ?_⟩
      · show s.e1.data.extract 0 (s.e0.write d).t = s.e1.data.extract 0 s.e0.t
        rw [(write_same s.e0 d).2]
      · exact write_begin h.begin1 d
      · show (s.e0.write d).data = _
        rw [write_data]
        simp
      · rw [if_neg (by rintro ⟨h0, _⟩; cases h0)]
    · have e : s.write 1 d = ⟨s.L, s.e0, s.e1.write d⟩ := rfl
      have e2 : s.writeE 1 d = s.e1.writeE d := rfl
      rw [e, e2]
      refine ⟨h.up1 (by omega) (h.pr.symm.write d).symm (Grows.write _ d) (by rw [(write_same s.e1 d).1]; have := h.m1; omega) (fun l hl => Or.inl hl), ?_, ?_, ?_, ?_⟩
      · exact write_begin h.begin0 d
      · show s.e0.data.extract 0 (s.e1.write d).t = s.e0.data.extract 0 s.e1.t
        rw [(write_same s.e1 d).2]
      · rw [if_neg (by rintro ⟨h0, _⟩; cases h0)]
      · show (s.e1.write d).data = _
        rw [write_data]
        simp
/-- behind Read -/
theorem Tkg.read {s : TkS} {i : Nat} (h : Tkg s i) (who n : Int) : Tkg (s.read who n) (i + 1) ∧ (s.read who n).e0.data = s.e0.data ∧ (s.read who n).e1.data = s.e1.data ∧
    (s.read who n).got 0 = (if who = 0 then s.got 0 ++ s.readS who n else s.got 0) ∧ (s.read who n).got 1 = (if who = 1 then s.got 1 ++ s.readS who n else s.got 1) := by
  cases hw : whoB who with
  | false =>
    have e : s.read who n = s := by unfold TkS.read; rw [hw]; rfl
    have hn : ¬ (who = 0 ∨ who = 1) := fun h0 => by rw [whoB_iff.2 h0] at hw; cases hw
    rw [e]
    exact ⟨h.more (by omega), rfl, rfl, by rw [if_neg (fun h0 => hn (Or.inl h0))], by rw [if_neg (fun h0 => hn (Or.inr h0))]⟩
  | true =>
    rcases whoB_iff.1 hw with rfl | rfl
    · have e : s.read 0 n = ⟨s.L, s.e0.read n, s.e1⟩ := rfl
      obtain ⟨r1, r2, r3, r4, r5, r6⟩ := read_rest (y := s.e0) n
      rw [e]
      refine ⟨h.up0 (by omega) (h.pr.read n) (Grows.read h.pr.ox n) (by rw [r5]; have := h.m0; omega) (fun l hl => Or.inl hl), r4, rfl, ?_, ?_⟩
      · rw [if_pos rfl]
        exact (read_text h.pr.symm n).2.symm
      · rw [if_neg (by decide)]
        show (s.e0.read n).data.extract 0 s.e1.t = s.e0.data.extract 0 s.e1.t
        rw [r4]
    · have e : s.read 1 n = ⟨s.L, s.e0, s.e1.read n⟩ := rfl
      obtain ⟨r1, r2, r3, r4, r5, r6⟩ := read_rest (y := s.e1) n
      rw [e]
      refine ⟨h.up1 (by omega) (h.pr.symm.read n).symm (Grows.read h.pr.oy n) (by rw [r5]; have := h.m1; omega) (fun l hl => Or.inl hl), rfl, r4, ?_, ?_⟩
      · rw [if_neg (by decide)]
        show (s.e1.read n).data.extract 0 s.e0.t = s.e1.data.extract 0 s.e0.t
        rw [r4]
      · rw [if_pos rfl]
        exact (read_text h.pr n).2.symm
/-- nothing is read, nothing written -/
structure Calm_ (s s' : TkS) : Prop where
  d0 : s'.e0.data = s.e0.data
  d1 : s'.e1.data = s.e1.data
  t0 : s'.e0.t = s.e0.t
  t1 : s'.e1.t = s.e1.t
theorem Calm_.got {s s' : TkS} (h : Calm_ s s') : s'.got 0 = s.got 0 ∧ s'.got 1 = s.got 1 := by
  refine ⟨?_, ?_⟩
  · show s'.e1.data.extract 0 s'.e0.t = s.e1.data.extract 0 s.e0.t
    rw [h.d1, h.t0]
  · show s'.e0.data.extract 0 s'.e1.t = s.e0.data.extract 0 s.e1.t
    rw [h.d0, h.t1]
theorem Calm_.refl (s : TkS) : Calm_ s s := ⟨rfl, rfl, rfl, rfl⟩
theorem bytes_of (l : List UInt8) : (⟨l.toArray⟩ : ByteArray).data.toList = l := by simp
theorem Tkg.send {s : TkS} {i : Nat} (h : Tkg s i) (hi : i ≤ 1000) (who : Int) : Tkg (s.send who) (i + 1) ∧ Calm_ s (s.send who) := by
  by_cases he : s.sendE who = 0
  · have hw : whoB who = true := by
      cases hw : whoB who with
      | true => rfl
      | false => unfold TkS.sendE at he; rw [hw] at he; cases he
    have e : s.send who = { s.set who (s.e who).make with L := s.L ++ [⟨1 - who, ⟨(s.e who).packet.toArray⟩⟩] } := by unfold TkS.send; rw [if_pos he]
    rw [e]
    rcases whoB_iff.1 hw with rfl | rfl
    · refine ⟨h.up0 (x := s.e0.make) (L := s.L ++ [⟨1, ⟨s.e0.packet.toArray⟩⟩]) (by omega) h.pr.make (Grows.make _) ?_ (fun l hl => ?_), ⟨rfl, rfl, rfl, rfl⟩⟩
      · show (s.e0.made ++ [s.e0.pieces]).length ≤ _
        rw [List.length_append]; have := h.m0; simp; omega
      · rcases List.mem_append.1 hl with h1 | h1
        · exact Or.inl h1
        · rw [List.mem_singleton.1 h1]
          refine Or.inr ⟨rfl, ?_⟩
          show Of1 s.e0.make (⟨s.e0.packet.toArray⟩ : ByteArray).data.toList
          rw [bytes_of]
          exact ⟨_, _, _, _, _, Fly.made h.pr.ox (by have := h.m0; omega)⟩
    · refine ⟨h.up1 (x := s.e1.make) (L := s.L ++ [⟨0, ⟨s.e1.packet.toArray⟩⟩]) (by omega) h.pr.symm.make.symm (Grows.make _) ?_ (fun l hl => ?_), ⟨rfl, rfl, rfl, rfl⟩⟩
      · show (s.e1.made ++ [s.e1.pieces]).length ≤ _
        rw [List.length_append]; have := h.m1; simp; omega
      · rcases List.mem_append.1 hl with h1 | h1
        · exact Or.inl h1
        · rw [List.mem_singleton.1 h1]
          refine Or.inr ⟨rfl, ?_⟩
          show Of1 s.e1.make (⟨s.e1.packet.toArray⟩ : ByteArray).data.toList
          rw [bytes_of]
          exact ⟨_, _, _, _, _, Fly.made h.pr.oy (by have := h.m1; omega)⟩
  · have e : s.send who = s := by unfold TkS.send; rw [if_neg he]
    rw [e]
    exact ⟨h.more (by omega), Calm_.refl _⟩
theorem take_same {x y : EnS} (h : Pair x y) {b : List UInt8} {n : Nat} {k : Int} {A : List Rng} {Lc : Int} {ps : List Pc} (f : Fly x b n k A Lc ps) (hn : x.made.length ≤ n + 100) (hm : n ≤ 1000000) :
    (y.take b).data = y.data ∧ (y.take b).made = y.made ∧ (y.take b).t = y.t := by
  rcases take_fly h.ox h.oy h.xy h.yx f hn hm with ⟨_, a, c⟩ | ⟨_, _, a, c⟩ | ⟨_, ha, a, C', M', c, r2, r3⟩
  · rw [c]; exact ⟨rfl, rfl, rfl⟩
  · rw [c]; exact ⟨rfl, rfl, rfl⟩
  · obtain ⟨e1, e2, e3, e4, e5, e6, e7, e8, e9⟩ := got_fields y n A Lc C' M'
    rw [c]; exact ⟨e1, e2, e4⟩
theorem Fly.few {x : EnS} {b : List UInt8} {n : Nat} {k : Int} {A : List Rng} {Lc : Int} {ps : List Pc} (f : Fly x b n k A Lc ps) : n < x.made.length := (List.getElem?_eq_some_iff.1 f.at_).1
theorem Tkg.give {s : TkS} {i : Nat} (h : Tkg s i) (j : Int) : Tkg { s with L := giveL s.L j } (i + 1) ∧ Calm_ s { s with L := giveL s.L j } :=
  ⟨h.up0 (by omega) h.pr (Grows.refl _) (by have := h.m0; omega) (fun l hl => Or.inl (giveL_sub.2 l hl)), ⟨rfl, rfl, rfl, rfl⟩⟩
theorem twice_mem {L : List Let} {j : Int} : ∀ l ∈ twiceL L j, l ∈ L := by
  unfold twiceL twiceE
  intro l hl
  cases hb : isB L j with
  | false => rw [hb] at hl; exact hl
  | true =>
    rw [hb] at hl
    obtain ⟨h0, h1⟩ := isB_iff.1 hb
    by_cases h40 : L.length = 40
    · rw [if_pos rfl, if_pos h40, if_neg (by decide)] at hl; exact hl
    · rw [if_pos rfl, if_neg h40, if_pos rfl] at hl
      rcases List.mem_append.1 hl with hm | hm
      · exact hm
      · rw [List.mem_singleton.1 hm]
        have hl : j.toNat < L.length := by omega
        rw [show L.getD j.toNat noLet = L[j.toNat] by simp [List.getD, List.getElem?_eq_getElem hl]]
        exact List.getElem_mem _
theorem Tkg.twice {s : TkS} {i : Nat} (h : Tkg s i) (j : Int) : Tkg { s with L := twiceL s.L j } (i + 1) ∧ Calm_ s { s with L := twiceL s.L j } :=
  ⟨h.up0 (by omega) h.pr (Grows.refl _) (by have := h.m0; omega) (fun l hl => Or.inl (twice_mem l hl)), ⟨rfl, rfl, rfl, rfl⟩⟩
/-- behind Come -/
theorem Tkg.come {s : TkS} {i : Nat} (h : Tkg s i) (hi : i ≤ 100) (j : Int) : Tkg (s.come j) (i + 1) ∧ Calm_ s (s.come j) := by
  cases hb : isB s.L j with
  | false =>
    have e : s.come j = s := by unfold TkS.come; rw [hb]; rfl
    rw [e]
    exact ⟨h.more (by omega), Calm_.refl _⟩
  | true =>
    have e : s.come j = { s.set (giveD s.L j).too ((s.e (giveD s.L j).too).take (giveD s.L j).b.data.toList) with L := giveL s.L j } := by unfold TkS.come; rw [if_pos hb]
    have hmem := giveD_mem hb
    rw [e]
    obtain ⟨⟨tz, b⟩, hd⟩ : ∃ d, giveD s.L j = d := ⟨_, rfl⟩
    rw [hd] at hmem
    rw [hd]
    rcases whoB_iff.1 (h.wh _ hmem) with h0 | h0
    · dsimp only at h0 ⊢
      subst h0
      obtain ⟨n, k, A, Lc, ps, f⟩ := h.f0 _ hmem rfl
      have hf := f.few
      have hm1 := h.m1
      obtain ⟨a, g, _⟩ := h.pr.symm.take f (by omega) (by omega)
      obtain ⟨d1, d2, d3⟩ := take_same h.pr.symm f (by omega) (by omega)
      exact ⟨h.up0 (x := s.e0.take b.data.toList) (L := giveL s.L j) (by omega) a.symm g (by rw [d2]; have := h.m0; omega) (fun l hl => Or.inl (giveL_sub.2 l hl)), ⟨d1, rfl, d3, rfl⟩⟩
    · dsimp only at h0 ⊢
      subst h0
      obtain ⟨n, k, A, Lc, ps, f⟩ := h.f1 _ hmem rfl
      have hf := f.few
      have hm0 := h.m0
      obtain ⟨a, g, _⟩ := h.pr.take f (by omega) (by omega)
      obtain ⟨d1, d2, d3⟩ := take_same h.pr f (by omega) (by omega)
      exact ⟨h.up1 (x := s.e1.take b.data.toList) (L := giveL s.L j) (by omega) a g (by rw [d2]; have := h.m1; omega) (fun l hl => Or.inl (giveL_sub.2 l hl)), ⟨rfl, d1, rfl, d3⟩⟩
/-- the link is good again: behind i exchanges -/
structure Good_ (s : TkS) (i : Nat) : Prop where
  no : s.L = []
  ex : ∃ ka kb, (if i % 2 = 0 then Going i s.e0 s.e1 ka kb else Going i s.e1 s.e0 ka kb) ∧ kb ≤ ka ∧ ka ≤ kb + 1 ∧ i ≤ ka + kb + 2 ∧ (i ≤ 1 → ka = kb)
  m0 : s.e0.made.length ≤ 100 + i
  m1 : s.e1.made.length ≤ 100 + i
theorem Good_.start {s : TkS} {i : Nat} (h : Tkg s i) (hi : i ≤ 100) (hL : s.L = []) : Good_ s 0 :=
  ⟨hL, ⟨0, 0, by rw [if_pos (by rfl)]; exact Going.start h.pr, by omega, by omega, by omega, by omega⟩, by have := h.m0; omega, by have := h.m1; omega⟩
theorem one_way {a b : EnS} {i ka kb : Nat} (h : Going i a b ka kb) (hm : a.made.length ≤ 1000000) (he : b.takeE a.packet ≠ 4) :
    b.takeE a.packet = 0 ∧ Going (i + 1) ((b.take a.packet).read 60) a.make (if 2 ≤ i then kb + 1 else kb) ka ∧ ((b.take a.packet).read 60).data = b.data ∧ ((b.take a.packet).read 60).made = b.made ∧
    a.data.extract 0 b.t ++ (b.take a.packet).readS 60 = a.data.extract 0 ((b.take a.packet).read 60).t := by
  have hn := h.next hm he
  obtain ⟨e0, C', M', c, hp, hf, hM⟩ := send_take h.pr hm he
  obtain ⟨f1, f2, f3, f4, f5, f6, f7, f8, f9⟩ := got_fields b a.made.length a.came a.L C' M'
  obtain ⟨r1, r2, r3, r4, r5, r6⟩ := read_rest (y := b.take a.packet) 60
  have ht := (read_text hp 60).2
  rw [c, f4, ← c] at ht
  exact ⟨e0, hn, by rw [r4, c, f1], by rw [r5, c, f2], ht⟩
theorem Good_.next {s : TkS} {i : Nat} (h : Good_ s i) (hi : i ≤ 500) : (s.e ((i : Int) % 2)).made.length ≤ 1000 ∧ s.sendE ((i : Int) % 2) = 0 ∧ (s.send ((i : Int) % 2)).e0.made.length ≤ 1000 ∧ (s.send ((i : Int) % 2)).e1.made.length ≤ 1000 ∧
    (((s.send ((i : Int) % 2)).comeE 0 = 4) ∨ ((s.send ((i : Int) % 2)).comeE 0 = 0 ∧ TkS.readE (1 - (i : Int) % 2) 60 = 0 ∧ Good_ (((s.send ((i : Int) % 2)).come 0).read (1 - (i : Int) % 2) 60) (i + 1) ∧
      (((s.send ((i : Int) % 2)).come 0).read (1 - (i : Int) % 2) 60).e0.data = s.e0.data ∧ (((s.send ((i : Int) % 2)).come 0).read (1 - (i : Int) % 2) 60).e1.data = s.e1.data ∧
      (((s.send ((i : Int) % 2)).come 0).read (1 - (i : Int) % 2) 60).got (1 - (i : Int) % 2) = s.got (1 - (i : Int) % 2) ++ ((s.send ((i : Int) % 2)).come 0).readS (1 - (i : Int) % 2) 60 ∧
      (((s.send ((i : Int) % 2)).come 0).read (1 - (i : Int) % 2) 60).got ((i : Int) % 2) = s.got ((i : Int) % 2))) := by
  obtain ⟨L, a, b⟩ := s
  obtain ⟨hno, ⟨ka, kb, hg, hk1, hk2, hk3, hk4⟩, hm0, hm1⟩ := h
  dsimp only at hno hm0 hm1 hg
  subst hno
  rcases Nat.mod_two_eq_zero_or_one i with h2 | h2
  · have e2 : (i : Int) % 2 = 0 := by omega
    have e3 : (i + 1) % 2 ≠ 0 := by omega
    rw [e2]
    rw [if_pos h2] at hg
    have hs : TkS.send ⟨[], a, b⟩ 0 = ⟨[⟨1, ⟨a.packet.toArray⟩⟩], a.make, b⟩ := rfl
    have hc : TkS.come ⟨[⟨1, ⟨a.packet.toArray⟩⟩], a.make, b⟩ 0 = ⟨[], a.make, b.take a.packet⟩ := by
      show TkS.mk [] a.make (b.take (ByteArray.mk a.packet.toArray).data.toList) = _
      rw [bytes_of]
    have hce : TkS.comeE ⟨[⟨1, ⟨a.packet.toArray⟩⟩], a.make, b⟩ 0 = b.takeE a.packet := by
      show b.takeE (ByteArray.mk a.packet.toArray).data.toList = _
      rw [bytes_of]
    have hla : a.make.made.length = a.made.length + 1 := by show (a.made ++ [a.pieces]).length = _; rw [List.length_append]; rfl
    rw [hs, hc, hce]
    refine ⟨by show a.made.length ≤ 1000; omega, rfl, by show a.make.made.length ≤ 1000; omega, by show b.made.length ≤ 1000; omega, ?_⟩
    by_cases h4 : b.takeE a.packet = 4
    · exact Or.inl h4
    · obtain ⟨o1, o2, o3, o4, o5⟩ := one_way hg (by omega) h4
      refine Or.inr ⟨o1, rfl, ⟨rfl, ⟨_, _, by rw [if_neg e3]; exact o2, ?_, ?_, ?_, ?_⟩, by show a.make.made.length ≤ _; omega, by show ((b.take a.packet).read 60).made.length ≤ _; rw [o4]; omega⟩, rfl, o3, o5.symm, ?_⟩
      · split <;> omega
      · split <;> omega
      · split <;> omega
      · intro hh; split <;> omega
      · show ((b.take a.packet).read 60).data.extract 0 a.t = b.data.extract 0 a.t
        rw [o3]
  · have e2 : (i : Int) % 2 = 1 := by omega
    have e3 : (i + 1) % 2 = 0 := by omega
    rw [e2]
    rw [if_neg (by omega)] at hg
    have hs : TkS.send ⟨[], a, b⟩ 1 = ⟨[⟨0, ⟨b.packet.toArray⟩⟩], a, b.make⟩ := rfl
    have hc : TkS.come ⟨[⟨0, ⟨b.packet.toArray⟩⟩], a, b.make⟩ 0 = ⟨[], a.take b.packet, b.make⟩ := by
      show TkS.mk [] (a.take (ByteArray.mk b.packet.toArray).data.toList) b.make = _
      rw [bytes_of]
    have hce : TkS.comeE ⟨[⟨0, ⟨b.packet.toArray⟩⟩], a, b.make⟩ 0 = a.takeE b.packet := by
      show a.takeE (ByteArray.mk b.packet.toArray).data.toList = _
      rw [bytes_of]
    have hla : b.make.made.length = b.made.length + 1 := by show (b.made ++ [b.pieces]).length = _; rw [List.length_append]; rfl
    rw [hs, hc, hce]
    refine ⟨by show b.made.length ≤ 1000; omega, rfl, by show a.made.length ≤ 1000; omega, by show b.make.made.length ≤ 1000; omega, ?_⟩
    by_cases h4 : a.takeE b.packet = 4
    · exact Or.inl h4
    · obtain ⟨o1, o2, o3, o4, o5⟩ := one_way hg (by omega) h4
      refine Or.inr ⟨o1, rfl, ⟨rfl, ⟨_, _, by rw [if_pos e3]; exact o2, ?_, ?_, ?_, ?_⟩, by show ((a.take b.packet).read 60).made.length ≤ _; rw [o4]; omega, by show b.make.made.length ≤ _; omega⟩, o3, rfl, o5.symm, ?_⟩
      · split <;> omega
      · split <;> omega
      · split <;> omega
      · intro hh; split <;> omega
      · show ((a.take b.packet).read 60).data.extract 0 b.t = a.data.extract 0 b.t
        rw [o3]
/-- behind many all was read -/
theorem Good_.all {s : TkS} {i : Nat} (h : Good_ s i) (hi : 260 ≤ i) (he : i % 2 = 0) : s.got 0 = s.e1.data ∧ s.got 1 = s.e0.data := by
  obtain ⟨hno, ⟨ka, kb, hg, hk1, hk2, hk3, hk4⟩, hm0, hm1⟩ := h
  rw [if_pos he] at hg
  have d0 := hg.pr.ox.dz
  have d1 := hg.pr.oy.dz
  have ta := hg.ta
  have tb := hg.tb
  have t0 : s.e0.t ≤ s.e1.data.size := (read_text hg.pr.symm 0).1
  have t1 : s.e1.t ≤ s.e0.data.size := (read_text hg.pr 0).1
  have e0 : s.e0.t = s.e1.data.size := by omega
  have e1 : s.e1.t = s.e0.data.size := by omega
  refine ⟨?_, ?_⟩
  · show s.e1.data.extract 0 s.e0.t = _
    rw [e0]; exact ByteArray.extract_zero_size
  · show s.e0.data.extract 0 s.e1.t = _
    rw [e1]; exact ByteArray.extract_zero_size
end Go.Proofs.YtaindcicloapfaaGreatDoor

/-! A row of ints copied into a short array: what lies there behind so many rounds. No program here. -/
namespace Go.Proofs.YtaindcicloapfaaGreatDoor
open Go.ChangeShapes Go.WideShapes Go.ChangeAt Go.RowKit
set_option linter.unusedVariables false

/-- what of the first j of a row lies at i -/
def vv (r : List Int) (j i : Nat) : Int := if i < j then ith r i else 0
theorem vv_zero (r : List Int) (i : Nat) : vv r 0 i = 0 := rfl
theorem vv_far {r : List Int} {i : Nat} (h : r.length ≤ i) : ith r i = 0 := by unfold ith; simp [List.getD, List.getElem?_eq_none h]
theorem vv_end {K : Nat} {r : List Int} {j i : Nat} (hi : i < K) (h : r.length ≤ j ∨ K ≤ j) : vv r j i = ith r i := by
  unfold vv
  split
  · rfl
  · rw [vv_far (by omega)]
theorem vv_end2 {r : List Int} {j : Nat} (h : r.length ≤ j ∨ 2 ≤ j) : (#[.int .i64 (vv r j 0), .int .i64 (vv r j 1)] : Array Value) = #[.int .i64 (ith r 0), .int .i64 (ith r 1)] := by
  rw [vv_end (by omega) h, vv_end (by omega) h]
theorem vv_end3 {r : List Int} {j : Nat} (h : r.length ≤ j ∨ 3 ≤ j) : (#[.int .i64 (vv r j 0), .int .i64 (vv r j 1), .int .i64 (vv r j 2)] : Array Value) = #[.int .i64 (ith r 0), .int .i64 (ith r 1), .int .i64 (ith r 2)] := by
  rw [vv_end (by omega) h, vv_end (by omega) h, vv_end (by omega) h]
theorem vv_end5 {r : List Int} {j : Nat} (h : r.length ≤ j ∨ 5 ≤ j) : (#[.int .i64 (vv r j 0), .int .i64 (vv r j 1), .int .i64 (vv r j 2), .int .i64 (vv r j 3), .int .i64 (vv r j 4)] : Array Value) = #[.int .i64 (ith r 0), .int .i64 (ith r 1), .int .i64 (ith r 2), .int .i64 (ith r 3), .int .i64 (ith r 4)] := by
  rw [vv_end (by omega) h, vv_end (by omega) h, vv_end (by omega) h, vv_end (by omega) h, vv_end (by omega) h]
theorem vv_next2 (r : List Int) {j : Nat} (h : j < 2) : (#[.int .i64 (vv r j 0), .int .i64 (vv r j 1)] : Array Value)[j]? = some (.int .i64 0) ∧ (#[.int .i64 (vv r j 0), .int .i64 (vv r j 1)] : Array Value).setIfInBounds j (.int .i64 (ith r j)) = #[.int .i64 (vv r (j + 1) 0), .int .i64 (vv r (j + 1) 1)] := by
  rcases j with _ | _ | j
  · simp [vv]
  · simp [vv]
  · omega
theorem vv_next3 (r : List Int) {j : Nat} (h : j < 3) : (#[.int .i64 (vv r j 0), .int .i64 (vv r j 1), .int .i64 (vv r j 2)] : Array Value)[j]? = some (.int .i64 0) ∧ (#[.int .i64 (vv r j 0), .int .i64 (vv r j 1), .int .i64 (vv r j 2)] : Array Value).setIfInBounds j (.int .i64 (ith r j)) = #[.int .i64 (vv r (j + 1) 0), .int .i64 (vv r (j + 1) 1), .int .i64 (vv r (j + 1) 2)] := by
  rcases j with _ | _ | _ | j
  · simp [vv]
  · simp [vv]
  · simp [vv]
  · omega
theorem vv_next5 (r : List Int) {j : Nat} (h : j < 5) : (#[.int .i64 (vv r j 0), .int .i64 (vv r j 1), .int .i64 (vv r j 2), .int .i64 (vv r j 3), .int .i64 (vv r j 4)] : Array Value)[j]? = some (.int .i64 0) ∧ (#[.int .i64 (vv r j 0), .int .i64 (vv r j 1), .int .i64 (vv r j 2), .int .i64 (vv r j 3), .int .i64 (vv r j 4)] : Array Value).setIfInBounds j (.int .i64 (ith r j)) = #[.int .i64 (vv r (j + 1) 0), .int .i64 (vv r (j + 1) 1), .int .i64 (vv r (j + 1) 2), .int .i64 (vv r (j + 1) 3), .int .i64 (vv r (j + 1) 4)] := by
  rcases j with _ | _ | _ | _ | _ | j
  · simp [vv]
  · simp [vv]
  · simp [vv]
  · simp [vv]
  · simp [vv]
  · omega
end Go.Proofs.YtaindcicloapfaaGreatDoor

/-! Strings that came in in a slice, within the form's reach. No condition of its own. -/
namespace Go.Proofs.YtaindcicloapfaaGreatDoor
open Go.ChangeShapes Go.WideShapes Go.ChangeAt Go.RowKit
set_option linter.unusedVariables false

/-- a slice of strings that came in, each within the form's reach -/
def StrsInS (w : World) (v : Value) (ss : List ByteArray) : Prop := StrsIn w v ss ∧ ∀ i, (sth ss i).size ≤ 140737488351232
theorem weightsAll_strs {H : Type} {P : Program} {e : TypeId} : ∀ {l : List ByteArray} {s : ByteArray}, s ∈ l → s.data.toList.length ∈ DataW.weightsAll (H := H) P e (strs l)
  | x :: r, s, hd => by
    unfold strs
    simp only [List.map_cons, DataW.weightsAll, List.mem_append]
    rcases List.mem_cons.1 hd with rfl | h
    · exact Or.inl (by simp [DataW.weights])
    · exact Or.inr (weightsAll_strs h)
theorem strsIn_open_sized {H : Type} {enc : TypeId × Value → H} {P : Program} {w : World} {t e fuel : Nat} {A : Option Addr} {len cap : Nat} {d : DataW H} {ps : List MemPlace}
    (ht : P.underlying t = some (.slice e)) (he : P.underlying e = some .string) (hc : P.cellsOf e = 1)
    (h : DataW.trod enc P w 0 (fun _ => true) true fuel t (Value.slice A len cap).cells.toList = some (d, ps)) (_hlt : ∀ x ∈ ps, x.block < w.heap.size) (hw : ∀ n ∈ d.weights P t, n ≤ reachBytes) :
    ∃ ss, StrsInS w (.slice A len cap) ss := by
  rcases open_strings ht he hc h with ⟨hcs, _⟩ | ⟨x, l, c, ss, hcs, _, hl, hm, hz, hx, hcell, hws⟩
  · simp [Value.cells] at hcs
    obtain ⟨rfl, rfl, rfl⟩ := hcs
    exact ⟨[], ⟨by intro i; simp [sth], none, 0, rfl, by simp, by simp [maxLen], by simp⟩, by intro i; simp [sth]⟩
  · simp [Value.cells] at hcs
    obtain ⟨rfl, rfl, rfl⟩ := hcs
    have hz' : ss.length = cap := by simpa using hz
    have hmem : ∀ i (h1 : i < (ss.take len).length), sth (ss.take len) i = (ss.take len)[i] := fun i h1 => by unfold sth; simp only [List.getD, List.getElem?_eq_getElem h1, Option.getD_some]
    have hfar : ∀ i, (ss.take len).length ≤ i → sth (ss.take len) i = ByteArray.empty := fun i h1 => by unfold sth; simp only [List.getD, List.getElem?_eq_none h1, Option.getD_none]
    refine ⟨ss.take len, ⟨fun i => ?_, some x, cap, ?_, ?_, hm, fun hne => ?_⟩, fun i => ?_⟩
    · rcases Nat.lt_or_ge i (ss.take len).length with h1 | h1
      · rw [hmem i h1]
        exact hws _ (List.mem_of_mem_take (List.getElem_mem h1))
      · rw [hfar i h1]
        simp
    · rw [List.length_take, hz', Nat.min_eq_left hl]
    · rw [List.length_take]; omega
    · have h0 : 0 < ss.length := by
        rcases ss with _ | ⟨a, r⟩
        · simp at hne
        · simp
      obtain ⟨b, off, spot⟩ := x
      have hspot : spot = none := by simpa [Addr.add] using World.cell?_spot (hcell 0 h0)
      subst hspot
      refine ⟨b, off, rfl, ?_, fun i hi => ?_⟩
      · have := hcell 0 h0
        rcases Nat.lt_or_ge b w.heap.size with h1 | h1
        · exact h1
        · simp [World.cell?, Addr.add, Array.getElem?_eq_none h1] at this
      · rw [List.length_take] at hi
        have := hcell i (by omega)
        have e : sth (ss.take len) i = ss.getD i ByteArray.empty := by
          unfold sth
          simp only [List.getD, List.getElem?_take]
          rw [if_pos (by omega)]
        rw [e]
        by_cases hi0 : i = 0
        · subst hi0
          simpa [Addr.add] using this
        · simpa [Addr.add, hi0] using this
    · rcases Nat.lt_or_ge i (ss.take len).length with h1 | h1
      · have h2 : (ss.take len)[i].data.toList.length ∈ d.weights P t := by
          have hd : d = .slice (strs (ss.take len)) (strs (ss.drop len)) := congrArg Prod.fst hx
          rw [hd]
          simp only [DataW.weights, ht, List.mem_cons, List.mem_append]
          exact Or.inr (Or.inl (weightsAll_strs (List.getElem_mem h1)))
        have h3 := hw _ h2
        rw [hmem i h1]
        have h4 : (ss.take len)[i].data.toList.length = (ss.take len)[i].size := Array.length_toList
        rw [h4] at h3
        simpa [reachBytes] using h3
      · rw [hfar i h1]
        simp
end Go.Proofs.YtaindcicloapfaaGreatDoor
