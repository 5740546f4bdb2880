/- Package link: in plain words, and contracts of New, Count, Full, Who, is, Send, Twice. Condition: the block holds a link as New and the calls leave it. -/
import Derived.Test.YtbmfknnbpnllkaaDoorErrV
import Derived.Test.YtbmfknnbpnllkaaDoorLst
import Derived.Test.YtbmfknnbpnllkaaDoorRules
import Derived.Test.YtbmfknnbpnllkaaDoorDelG
import Derived.Deep.QuietTactic
import Derived.BigQuiet
import Derived.BigRegion
namespace Go.Proofs.YtbmfknnbpnllkaaDoor
open Go.ChangeShapes Go.WideShapes Go.ChangeAt Go.RowKit
set_option linter.unusedVariables false

/-- a letter: to whom, and its bytes -/
structure Let where
  to : Int
  b : ByteArray
def letRow (d : Let) : List Value := [.int .i64 d.to, .string d.b]
def noLet : Let := ⟨0, ⟨#[]⟩⟩
theorem letRow_one (d : Let) : (letRow d).length = 2 ∧ ∀ u ∈ letRow d, u.oneCell' = true := ⟨rfl, by intro u hu; simp [letRow] at hu; rcases hu with rfl | rfl <;> rfl⟩
theorem Tryd.elLet : Elem Tryd.prog 104 109 2 24 := ⟨Tryd.underlying104, ⟨.agg #[.int .i64 0, .string ⟨#[]⟩], rfl, by kernel_rfl⟩, by decide, by decide⟩
theorem elem_of_let {L : List Let} {i : Nat} (h : i < L.length) : (L.map letRow)[i]? = some (letRow L[i]) := by simp [h]
/-- is there such a letter -/
def isB (L : List Let) (x : Int) : Bool := decide (0 ≤ x) && decide (x < (L.length : Int))
def whoB (x : Int) : Bool := decide (x = 0) || decide (x = 1)
theorem isB_iff {L : List Let} {x : Int} : isB L x = true ↔ 0 ≤ x ∧ x < L.length := by unfold isB; simp
theorem isB_no {L : List Let} {x : Int} : isB L x = false ↔ ¬ (0 ≤ x ∧ x < L.length) := by rw [← isB_iff]; cases isB L x <;> simp
def sendE (L : List Let) (to : Int) (b : ByteArray) : Int := if whoB to = true then (if L.length = 40 ∨ 200 < b.size then 4 else 0) else 1
def sendL (L : List Let) (to : Int) (b : ByteArray) : List Let := if sendE L to b = 0 then L ++ [⟨to, b⟩] else L
def giveE (L : List Let) (x : Int) : Int := if isB L x = true then 0 else 1
def giveD (L : List Let) (x : Int) : Let := if isB L x = true then L.getD x.toNat noLet else noLet
def giveL (L : List Let) (x : Int) : List Let := if isB L x = true then L.take x.toNat ++ L.drop (x.toNat + 1) else L
def twiceE (L : List Let) (x : Int) : Int := if isB L x = true then (if L.length = 40 then 4 else 0) else 1
def twiceL (L : List Let) (x : Int) : List Let := if twiceE L x = 0 then L ++ [L.getD x.toNat noLet] else L

/-- a link at g: its letters lie in the slice v -/
structure Kz (w : World) (g : Nat) (v : Value) (L : List Let) : Prop where
  bl : BlockIs w g 106 #[v]
  ls : Lst w 109 2 v (L.map letRow)
  few : L.length ≤ 40
theorem Kz.later {w w1 : World} {g : Nat} {v : Value} {L : List Let} (h : Kz w g v L) (hb : Below w.heap.size w w1) : Kz w1 g v L := ⟨h.bl.later hb, h.ls.later hb, h.few⟩
theorem Kz.kept {w w1 : World} {g : Nat} {v : Value} {L : List Let} {S : List Nat} (h : Kz w g v L) (hg : Out w w1 S) (h1 : ∀ k, k ∈ g :: blocks v → k ∉ S) : Kz w1 g v L :=
  ⟨hg.block' h.bl (h1 _ (by simp)), h.ls.kept hg (fun k hk => h1 k (by simp [hk])), h.few⟩
theorem Kz.lt {w : World} {g : Nat} {v : Value} {L : List Let} (h : Kz w g v L) : ∀ k, k ∈ g :: blocks v → k < w.heap.size := by
  intro k hk
  rcases List.mem_cons.1 hk with rfl | hk
  · exact h.bl.lt
  · exact h.ls.lt k hk
/-- what a call leaves: its blocks and what is new alone have changed -/
def KLeft (w w' : World) (g : Nat) (v : Value) (L : List Let) : Prop := ∃ v', Kz w' g v' L ∧ Out w w' (g :: blocks v) ∧ ∀ k, k ∈ blocks v' → k ∈ blocks v ∨ w.heap.size ≤ k
theorem KLeft.same {w w' : World} {g : Nat} {v : Value} {L : List Let} (h : Kz w g v L) (hb : Below w.heap.size w w') : KLeft w w' g v L := ⟨v, h.later hb, Out.of_below hb _, fun k hk => Or.inl hk⟩

theorem who_any (x : Int) (w : World) : Calls Tryd.prog 47 #[.int .i64 x] w fun e w' => e = .returned (.bool (whoB x)) ∧ w = w' := by
  unfold whoB
  by_cases h0 : x = 0
  · subst h0
    go_enter Tryd.func47, Tryd.ntmps47
    go_wp2
    go_ret
    exact ⟨rfl, rfl⟩
  · have a0 : (x == 0) = false := by simpa using h0
    have b0 : decide (x = 0) = false := by simpa using h0
    rw [b0, Bool.false_or]
    by_cases h1 : x = 1
    · subst h1
      clear h0 a0 b0
      go_enter Tryd.func47, Tryd.ntmps47
      go_wp2
      go_ret
      exact ⟨rfl, rfl⟩
    · have a1 : (x == 1) = false := by simpa using h1
      have b1 : decide (x = 1) = false := by simpa using h1
      rw [b1]
      clear h0 h1 b0 b1
      go_enter Tryd.func47, Tryd.ntmps47
      go_wp2
      go_ret
      exact ⟨rfl, rfl⟩
theorem knew (w : World) : Calls Tryd.prog 22 #[] w fun e w' => e = .returned (.pointer (some ⟨w.heap.size, 0, none⟩)) ∧ Kz w' w.heap.size (.slice none 0 0) [] ∧ Below w.heap.size w w' := by
  go_enter Tryd.func22, Tryd.ntmps22
  go_wp2
  go_ret
  exact ⟨rfl, ⟨BlockIs.fresh _ _ _, Lst.nil _ _ _, by simp⟩, (Below.refl _ _).alloc (Nat.le_refl _) _⟩
theorem kcount (g : Nat) (v : Value) (L : List Let) (w : World) (h : Kz w g v L) : Calls Tryd.prog 23 #[.pointer (some ⟨g, 0, none⟩)] w fun e w' => e = .returned (.int .i64 L.length) ∧ w = w' := by
  have c0 : w.cell? ⟨g, 0, none⟩ = some v := h.bl.cell 0
  obtain ⟨A, cap, hve, _, _, _⟩ := h.ls.shape
  rw [List.length_map] at hve
  subst hve
  clear h
  go_enter Tryd.func23, Tryd.ntmps23
  go_wp2
  go_ret
  exact ⟨rfl, rfl⟩
def fullB (L : List Let) : Bool := decide (L.length = 40)
theorem kfull (g : Nat) (v : Value) (L : List Let) (w : World) (h : Kz w g v L) : Calls Tryd.prog 48 #[.pointer (some ⟨g, 0, none⟩)] w fun e w' => e = .returned (.bool (fullB L)) ∧ w = w' := by
  have c0 : w.cell? ⟨g, 0, none⟩ = some v := h.bl.cell 0
  obtain ⟨A, cap, hve, _, _, _⟩ := h.ls.shape
  rw [List.length_map] at hve
  subst hve
  clear h
  have E : Hid (((L.length : Int) == 40) = fullB L) := Lib.hid (by
    unfold fullB
    by_cases h : L.length = 40
    · simp [h]
    · have h2 : ¬ (L.length : Int) = 40 := by omega
      simp [h, h2])
  go_enter Tryd.func48, Tryd.ntmps48
  go_wp2
  go_ret
  exact ⟨by rw [← E.out]; rfl, rfl⟩
theorem kis (g : Nat) (v : Value) (L : List Let) (x : Int) (w : World) (h : Kz w g v L) : Calls Tryd.prog 49 #[.pointer (some ⟨g, 0, none⟩), .int .i64 x] w fun e w' => e = .returned (.bool (isB L x)) ∧ w = w' := by
  have c0 : w.cell? ⟨g, 0, none⟩ = some v := h.bl.cell 0
  obtain ⟨A, cap, hve, _, _, _⟩ := h.ls.shape
  rw [List.length_map] at hve
  subst hve
  clear h
  unfold isB
  by_cases h0 : 0 ≤ x
  · have b0 : decide (0 ≤ x) = true := by simpa using h0
    rw [b0, Bool.true_and]
    clear b0
    go_enter Tryd.func49, Tryd.ntmps49
    go_wp2
    go_ret
    exact ⟨rfl, rfl⟩
  · have b0 : decide (0 ≤ x) = false := by simpa using h0
    rw [b0, Bool.false_and]
    go_enter Tryd.func49, Tryd.ntmps49
    go_wp2
    go_ret
    exact ⟨rfl, rfl⟩

/-- one letter more: the slice was grown, and stored -/
theorem kpush {w w5 : World} {g q cq : Nat} {v : Value} {L : List Let} (d : Let) (hb5 : BlockIs w5 g 106 #[v]) (hl5 : Lst w5 109 2 (.slice (some ⟨q, 0, none⟩) (L.length + 1) cq) (L.map letRow ++ [letRow d]))
    (hO5 : Out w w5 (g :: blocks v)) (hq : q ∈ blocks v ∨ w.heap.size ≤ q) (hlt : L.length < 40) : KLeft w (w5.setCell ⟨g, 0, none⟩ (.slice (some ⟨q, 0, none⟩) (L.length + 1) cq)) g v (L ++ [d]) := by
  have hqg : q ≠ g := fun e => by have := hl5.apart hb5 (by decide); rw [e] at this; simp [Value.ownBlock] at this
  refine ⟨.slice (some ⟨q, 0, none⟩) (L.length + 1) cq, ⟨hb5.put 0 _, ?_, by simp; omega⟩, hO5.put (p := ⟨g, 0, none⟩) (Or.inl (by simp)) _, fun k hk => ?_⟩
  · rw [List.map_append]
    exact hl5.kept (S := [g]) ((Out.refl w5 [g]).put (p := ⟨g, 0, none⟩) (Or.inl (by simp)) _) (fun k hk hm => by
      have hkq : q = k := by simpa [Value.ownBlock] using hk
      rw [List.mem_singleton.1 hm] at hkq
      exact hqg hkq)
  · have hkq : q = k := by simpa [Value.ownBlock] using hk
    rw [← hkq]
    exact hq

set_option maxHeartbeats 1600000 in
theorem ksend (g : Nat) (v : Value) (L : List Let) (x : Int) (b : ByteArray) (w : World) (h : Kz w g v L) (hb : b.size ≤ 9223372036854775807) :
    Calls Tryd.prog 24 #[.pointer (some ⟨g, 0, none⟩), .int .i64 x, .string b] w fun e w' => e = .returned (errV (sendE L x b)) ∧ KLeft w w' g v (sendL L x b) := by
  have H := Lib.hid h
  have c0 : w.cell? ⟨g, 0, none⟩ = some v := h.bl.cell 0
  have f0 := h.bl.free
  have lg := h.bl.lt
  obtain ⟨A, cap, hve, _, _, _⟩ := h.ls.shape
  rw [List.length_map] at hve
  subst hve
  have hfew := h.few
  clear h
  by_cases hw : whoB x = true
  case neg =>
    have hw' : whoB x = false := by simpa using hw
    have E : Hid (sendE L x b = 1) := Lib.hid (by unfold sendE; rw [if_neg hw])
    have EL : Hid (sendL L x b = L) := Lib.hid (by unfold sendL; rw [E.out, if_neg (by decide)])
    have HW := Lib.hid hw'
    clear hw hw'
    go_enter Tryd.func24, Tryd.ntmps24
    go_wp2_with (go_at_call 47; refine (who_any x _).mono ?_; rintro e w' ⟨rfl, rfl⟩; rw [HW.out])
    go_ret
    exact ⟨by rw [E.out]; rfl, by rw [EL.out]; exact KLeft.same H.out (Below.refl _ _)⟩
  have HW := Lib.hid hw
  clear hw
  by_cases hf : L.length = 40
  · have E : Hid (sendE L x b = 4) := Lib.hid (by unfold sendE; rw [if_pos HW.out, if_pos (Or.inl hf)])
    have EL : Hid (sendL L x b = L) := Lib.hid (by unfold sendL; rw [E.out, if_neg (by decide)])
    have HF : Hid (fullB L = true) := Lib.hid (by unfold fullB; simpa using hf)
    clear hf
    go_enter Tryd.func24, Tryd.ntmps24
    go_wp2_with (first | (go_at_call 47; refine (who_any x _).mono ?_; rintro e w' ⟨rfl, rfl⟩; rw [HW.out]) | (go_at_call 48; refine (kfull g _ L _ H.out).mono ?_; rintro e w' ⟨rfl, rfl⟩; rw [HF.out]))
    go_ret
    exact ⟨by rw [E.out]; rfl, by rw [EL.out]; exact KLeft.same H.out (Below.refl _ _)⟩
  have HF : Hid (fullB L = false) := Lib.hid (by unfold fullB; simpa using hf)
  by_cases h2 : 200 < b.size
  · have E : Hid (sendE L x b = 4) := Lib.hid (by unfold sendE; rw [if_pos HW.out, if_pos (Or.inr h2)])
    have EL : Hid (sendL L x b = L) := Lib.hid (by unfold sendL; rw [E.out, if_neg (by decide)])
    have h2' : (200 : Int) < (b.size : Int) := by omega
    clear hf
    go_enter Tryd.func24, Tryd.ntmps24
    go_wp2_with (first | (go_at_call 47; refine (who_any x _).mono ?_; rintro e w' ⟨rfl, rfl⟩; rw [HW.out]) | (go_at_call 48; refine (kfull g _ L _ H.out).mono ?_; rintro e w' ⟨rfl, rfl⟩; rw [HF.out]))
    go_ret
    exact ⟨by rw [E.out]; rfl, by rw [EL.out]; exact KLeft.same H.out (Below.refl _ _)⟩
  have E : Hid (sendE L x b = 0) := Lib.hid (by unfold sendE; rw [if_pos HW.out, if_neg (by omega)])
  have EL : Hid (sendL L x b = L ++ [⟨x, b⟩]) := Lib.hid (by unfold sendL; rw [E.out, if_pos rfl])
  have h2' : decide ((200 : Int) < (b.size : Int)) = false := by simp; omega
  have hml : (L.map letRow).length = L.length := List.length_map ..
  have hga := H.out.ls.apart H.out.bl (by decide)
  have HML := Lib.hid hml
  have HGA := Lib.hid hga
  have hlt : L.length < 40 := by omega
  clear hf hml hga
  go_enter Tryd.func24, Tryd.ntmps24
  go_wp2_with (first | (go_at_call 47; refine (who_any x _).mono ?_; rintro e w' ⟨rfl, rfl⟩; rw [HW.out]) | (go_at_call 48; refine (kfull g _ L _ H.out).mono ?_; rintro e w' ⟨rfl, rfl⟩; rw [HF.out]) | (at_builtin; refine wpList_push rfl _ _ 104 rfl 109 2 24 Tryd.elLet (.slice A L.length cap) (L.map letRow) rfl (H.out.ls.alloc _) w.heap.size 1 [.int .i64 x, .string b] rfl rfl (letRow_one ⟨x, b⟩).2 (BlockIs.fresh _ _ _) (by rw [HML.out]; omega) ?_; intro q cq w5 hl5 ho5 hq5 hlt5; have hb5 := ho5.block' (H.out.bl.alloc _) HGA.out; have f5 := hb5.free; have d5 : w5.cell? ⟨g, 0, none⟩ = some _ := hb5.cell 0; have l5 := hb5.lt))
  go_ret
  rw [HML.out] at hl5
  have hO5 : Out w w5 (g :: blocks (.slice A L.length cap)) := ((Out.refl w _).alloc _).then' ho5 (fun k hk => Or.inl (by simp [hk]))
  refine ⟨by rw [E.out]; rfl, ?_⟩
  rw [EL.out]
  exact kpush ⟨x, b⟩ hb5 hl5 hO5 (hq5.imp id (fun h => by simp at h; omega)) hlt

set_option maxHeartbeats 1600000 in
theorem ktwice (g : Nat) (v : Value) (L : List Let) (x : Int) (w : World) (h : Kz w g v L) :
    Calls Tryd.prog 28 #[.pointer (some ⟨g, 0, none⟩), .int .i64 x] w fun e w' => e = .returned (errV (twiceE L x)) ∧ KLeft w w' g v (twiceL L x) := by
  have H := Lib.hid h
  have c0 : w.cell? ⟨g, 0, none⟩ = some v := h.bl.cell 0
  have f0 := h.bl.free
  have lg := h.bl.lt
  obtain ⟨A, cap, hve, _, _, hA⟩ := h.ls.shape
  rw [List.length_map] at hve
  subst hve
  have hfew := h.few
  have HA := Lib.hid hA
  clear h hA
  by_cases hw : isB L x = true
  case neg =>
    have hw' : isB L x = false := by simpa using hw
    have E : Hid (twiceE L x = 1) := Lib.hid (by unfold twiceE; rw [if_neg hw])
    have EL : Hid (twiceL L x = L) := Lib.hid (by unfold twiceL; rw [E.out, if_neg (by decide)])
    have HW := Lib.hid hw'
    clear hw hw'
    go_enter Tryd.func28, Tryd.ntmps28
    go_wp2_with (go_at_call 49; refine (kis g _ L x _ H.out).mono ?_; rintro e w' ⟨rfl, rfl⟩; rw [HW.out])
    go_ret
    exact ⟨by rw [E.out]; rfl, by rw [EL.out]; exact KLeft.same H.out (Below.refl _ _)⟩
  have HW := Lib.hid hw
  obtain ⟨x0, x1⟩ := isB_iff.1 hw
  obtain ⟨m, rfl⟩ := Int.eq_ofNat_of_zero_le x0
  clear hw
  by_cases hf : L.length = 40
  · have E : Hid (twiceE L m = 4) := Lib.hid (by unfold twiceE; rw [if_pos HW.out, if_pos hf])
    have EL : Hid (twiceL L m = L) := Lib.hid (by unfold twiceL; rw [E.out, if_neg (by decide)])
    have HF : Hid (fullB L = true) := Lib.hid (by unfold fullB; simpa using hf)
    clear hf
    go_enter Tryd.func28, Tryd.ntmps28
    go_wp2_with (first | (go_at_call 49; refine (kis g _ L m _ H.out).mono ?_; rintro e w' ⟨rfl, rfl⟩; rw [HW.out]) | (go_at_call 48; refine (kfull g _ L _ H.out).mono ?_; rintro e w' ⟨rfl, rfl⟩; rw [HF.out]))
    go_ret
    exact ⟨by rw [E.out]; rfl, by rw [EL.out]; exact KLeft.same H.out (Below.refl _ _)⟩
  have HF : Hid (fullB L = false) := Lib.hid (by unfold fullB; simpa using hf)
  have E : Hid (twiceE L m = 0) := Lib.hid (by unfold twiceE; rw [if_pos HW.out, if_neg hf])
  have hml : m < L.length := by omega
  have EL : Hid (twiceL L m = L ++ [L[m]]) := Lib.hid (by unfold twiceL; rw [E.out, if_pos rfl]; simp [List.getD, List.getElem?_eq_getElem hml])
  rcases HA.out with ⟨_, h0, _⟩ | ⟨q, rfl⟩
  · have : L = [] := by simpa using h0
    subst this
    simp at hml
  have q0 : w.cell? ⟨q, m * 2, none⟩ = some (.int .i64 L[m].to) := H.out.ls.cell rfl (elem_of_let hml) (j := 0) rfl
  have q1 : w.cell? ⟨q, m * 2 + 1, none⟩ = some (.string L[m].b) := H.out.ls.cell rfl (elem_of_let hml) (j := 1) rfl
  have lq := H.out.ls.lt q (by simp [Value.ownBlock])
  have HD : Hid (L[m] = ⟨L[m].to, L[m].b⟩) := Lib.hid rfl
  generalize L[m] = d at *
  obtain ⟨dt, db⟩ := d
  have hmm : (L.map letRow).length = L.length := List.length_map ..
  have hga := H.out.ls.apart H.out.bl (by decide)
  have HML := Lib.hid hmm
  have HGA := Lib.hid hga
  have hlt : L.length < 40 := by omega
  have hmi : (m : Int) < (L.length : Int) := by omega
  clear hf hmm hga HD
  go_enter Tryd.func28, Tryd.ntmps28
  go_wp2_with (first | (go_at_call 49; refine (kis g _ L m _ H.out).mono ?_; rintro e w' ⟨rfl, rfl⟩; rw [HW.out]) | (go_at_call 48; refine (kfull g _ L _ H.out).mono ?_; rintro e w' ⟨rfl, rfl⟩; rw [HF.out]))
  go_region_law ((refine step_push rfl _ _ 104 rfl 109 2 24 Tryd.elLet (.slice (some ⟨q, 0, none⟩) L.length cap) (L.map letRow) rfl ?_ w.heap.size 1 [.int .i64 dt, .string db] rfl rfl (letRow_one ⟨dt, db⟩).2 ?_ ?_ ?_; (first | exact (H.out.ls.alloc _).drew | exact H.out.ls.alloc _); (exact BlockIs.fresh w _ _); (rw [HML.out]; omega); intro q5 cq w5 hl5 ho5 hq5 hlt5; have hb5 := ho5.block' (H.out.bl.alloc _) HGA.out; have f5 := hb5.free; have d5 : w5.cell? ⟨g, 0, none⟩ = some (.slice (some ⟨q, 0, none⟩) L.length cap) := hb5.cell 0; have l5 := hb5.lt))
  all_goals
    rw [HML.out] at hl5
    have hO5 : Out w w5 (g :: blocks (.slice (some ⟨q, 0, none⟩) L.length cap)) := by
      first
        | exact ((Out.refl w _).alloc _).then' ho5 (fun k hk => Or.inl (by simp at hk ⊢; simp [hk]))
        | exact (((Out.refl w _).alloc _).drew).then' ho5 (fun k hk => Or.inl (by simp at hk ⊢; simp [hk]))
    have hKP := kpush ⟨dt, db⟩ hb5 hl5 hO5 (hq5.imp id (fun h => by simp at h; omega)) hlt
    have HKP := Lib.hid hKP
    clear hKP hl5 ho5 hq5 hO5 d5
    go_wp2_with fail
    go_ret
    refine ⟨by rw [E.out]; rfl, ?_⟩
    rw [EL.out]
    first
      | exact HKP.out
      | (obtain ⟨v', hz, ho, hk⟩ := HKP.out; exact ⟨v', ⟨hz.bl, hz.ls.drewN 1, hz.few⟩, ho.drewN 1, hk⟩)
end Go.Proofs.YtbmfknnbpnllkaaDoor
