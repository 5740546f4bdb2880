/- Package ids in plain words, and contracts of what it calls of the library: slices.IndexFunc with its two closures, slices.Clone. Condition: the slices are the call's own. -/
import Derived.Test.YthnolkbolmbkdaaLst
import Derived.Test.YthnolkbolmbkdaaMaps
import Derived.Test.YthnolkbolmbkdaaMayB
import Derived.Test.YthnolkbolmbkdaaTold
import Derived.OwnWalk
import Derived.WalkSpells
import Derived.Deep.QuietTactic
import Derived.BigQuiet
namespace Go.Proofs.Ythnolkbolmbkdaa
open Go.ChangeShapes Go.WideShapes Go.ChangeAt Go.RowKit
set_option linter.unusedVariables false

/-- an ID: which it is, and by what it is known -/
structure One where
  s : Int
  n : Int
def idRow (d : One) : List Value := [.int .i64 d.s, .int .i64 d.n]
theorem idRow_one (d : One) : (idRow d).length = 2 ∧ ∀ u ∈ idRow d, u.oneCell' = true := ⟨rfl, by intro u hu; simp [idRow] at hu; rcases hu with rfl | rfl <;> rfl⟩
theorem Try.elID : Elem Try.prog 61 51 2 16 := ⟨Try.underlying61, ⟨.agg #[.int .i64 0, .int .i64 0], rfl, by kernel_rfl⟩, by decide, by decide⟩
theorem elem_of_row {L : List One} {i : Nat} (h : i < L.length) : (L.map idRow)[i]? = some (idRow L[i]) := by simp [h]
/-- the first place from i on at which p holds; below 0: there is none -/
def place (p : One → Bool) : List One → Nat → Int
  | [], _ => -1
  | d :: r, i => if p d then (i : Int) else place p r (i + 1)
theorem place_take {p : One → Bool} : ∀ {L : List One} {i k : Nat} (h : i < L.length), (∀ j (hj : j < i), p (L[j]'(by omega)) = false) → p L[i] = true → place p L k = ((k + i : Nat) : Int)
  | d :: r, 0, k, h, hn, hp => by unfold place; simp only [List.getElem_cons_zero] at hp; rw [if_pos hp]; rfl
  | d :: r, i + 1, k, h, hn, hp => by
    have h0 := hn 0 (by omega)
    simp only [List.getElem_cons_zero] at h0
    unfold place
    rw [h0, if_neg (by decide), place_take (L := r) (i := i) (k := k + 1) (by simpa using h) (fun j hj => by have := hn (j + 1) (by omega); simpa using this) (by simpa using hp)]
    congr 1
    omega
theorem place_none {p : One → Bool} : ∀ {L : List One} {k : Nat}, (∀ j (hj : j < L.length), p L[j] = false) → place p L k = -1
  | [], k, _ => rfl
  | d :: r, k, hn => by
    have h0 := hn 0 (by simp)
    simp only [List.getElem_cons_zero] at h0
    unfold place
    rw [h0, if_neg (by decide), place_none (L := r) (fun j hj => by have := hn (j + 1) (by simpa using hj); simpa using this)]

theorem bySeq (s n x : Int) (h : Nat) (w : World) (hc : w.cell? ⟨h, 0, none⟩ = some (.int .i64 x)) :
    Calls Try.prog 34 #[.agg #[.int .i64 s, .int .i64 n], .pointer (some ⟨h, 0, none⟩)] w fun e w' => e = .returned (.bool (s == x)) ∧ Below w.heap.size w w' := by
  have hl := World.block_lt_of_cell? w _ hc
  simp only at hl
  go_enter Try.func34, Try.ntmps34
  go_wp2
  go_ret
  exact ⟨rfl, (by refine Since.out ?_; repeat (first | with_reducible assumption | with_reducible exact Since.refl _ | with_reducible refine Since.later ?_ (by with_reducible assumption) | with_reducible refine Since.only ?_ (by with_reducible assumption) (by first | assumption | omega | (simp; done) | (simp; omega)) | with_reducible refine Since.alloc ?_ _ | with_reducible refine Since.drewN ?_ _ | with_reducible refine Since.drew ?_ | with_reducible refine Since.set ?_ (by first | assumption | omega | (simp; done) | (simp; omega)) _))⟩
theorem byNot (s n x : Int) (h : Nat) (w : World) (hc : w.cell? ⟨h, 0, none⟩ = some (.int .i64 x)) :
    Calls Try.prog 25 #[.agg #[.int .i64 s, .int .i64 n], .pointer (some ⟨h, 0, none⟩)] w fun e w' => e = .returned (.bool (s != x)) ∧ Below w.heap.size w w' := by
  have hl := World.block_lt_of_cell? w _ hc
  simp only at hl
  go_enter Try.func25, Try.ntmps25
  go_wp2
  go_ret
  exact ⟨rfl, (by refine Since.out ?_; repeat (first | with_reducible assumption | with_reducible exact Since.refl _ | with_reducible refine Since.later ?_ (by with_reducible assumption) | with_reducible refine Since.only ?_ (by with_reducible assumption) (by first | assumption | omega | (simp; done) | (simp; omega)) | with_reducible refine Since.alloc ?_ _ | with_reducible refine Since.drewN ?_ _ | with_reducible refine Since.drew ?_ | with_reducible refine Since.set ?_ (by first | assumption | omega | (simp; done) | (simp; omega)) _))⟩
set_option maxHeartbeats 1600000 in
theorem findSeq (v : Value) (L : List One) (x : Int) (h : Nat) (w : World) (hc : w.cell? ⟨h, 0, none⟩ = some (.int .i64 x)) (hv : Lst w 51 2 v (L.map idRow)) (hm : L.length ≤ 1000000) :
    Calls Try.prog 24 #[v, .func (Fn.func 34) #[] #[.pointer (some ⟨h, 0, none⟩)]] w fun e w' => e = .returned (.int .i64 (place (fun d => d.s == x) L 0)) ∧ Below w.heap.size w w' := by
  have hl : h < w.heap.size := World.block_lt_of_cell? w _ hc
  obtain ⟨A, cap, hve, hcap, hmx, hA⟩ := hv.shape
  rw [List.length_map] at hve hcap
  subst hve
  have HV := Lib.hid hv
  have HA := Lib.hid hA
  have HC := Lib.hid hc
  clear hv hA hmx hc
  go_enter Try.func24, Try.ntmps24
  go_wp2_with fail
  go_loopw [8] (fun s8 wr => ∃ i : Nat, s8 = .int .i64 i ∧ i ≤ L.length ∧ Hid (∀ j (hj : j < i) (hl : j < L.length), (fun d => d.s == x) L[j] = false) ∧ Since w wr) (fun s8 _ => L.length - (intOf s8).toNat)
  case atStart => exact ⟨0, rfl, Nat.zero_le _, Lib.hid (fun j hj => by omega), Since.refl _⟩
  case round =>
    obtain ⟨i, rfl, hi, HN, hs⟩ := hrel
    by_cases hlt : i < L.length
    · have hlt' : (i : Int) < (L.length : Int) := by omega
      rcases HA.out with ⟨_, h0, _⟩ | ⟨b, rfl⟩
      · have : L = [] := by simpa using h0
        subst this
        simp at hlt
      have hls := HV.out.later hs
      have q0 : wr.cell? ⟨b, i * 2, none⟩ = some (.int .i64 L[i].s) := hls.cell rfl (elem_of_row hlt) (j := 0) rfl
      have q1 : wr.cell? ⟨b, i * 2 + 1, none⟩ = some (.int .i64 L[i].n) := hls.cell rfl (elem_of_row hlt) (j := 1) rfl
      obtain ⟨es, hes⟩ : ∃ e, L[i].s = e := ⟨_, rfl⟩
      obtain ⟨en, hen⟩ : ∃ e, L[i].n = e := ⟨_, rfl⟩
      have HEL : Hid (L[i] = ⟨es, en⟩) := Lib.hid (by rw [← hes, ← hen])
      rw [hes] at q0
      rw [hen] at q1
      clear hes hen hls
      by_cases hp : (fun d => d.s == x) (⟨es, en⟩ : One) = true
      · have HP : Hid (place (fun d => d.s == x) L 0 = (i : Int)) := Lib.hid (by rw [place_take hlt (fun j hj => HN.out j hj (by omega)) (by rw [HEL.out]; exact hp)]; simp)
        simp only at hp
        go_wp2_with (go_at_call 34; refine (bySeq es en x h _ (hs.cell hl HC.out)).mono ?_; rintro e w1 ⟨rfl, hb1⟩; rw [hp])
        go_ret
        exact ⟨by rw [HP.out]; rfl, (by refine Since.out ?_; repeat (first | with_reducible assumption | with_reducible exact Since.refl _ | with_reducible refine Since.later ?_ (by with_reducible assumption) | with_reducible refine Since.only ?_ (by with_reducible assumption) (by first | assumption | omega | (simp; done) | (simp; omega)) | with_reducible refine Since.alloc ?_ _ | with_reducible refine Since.drewN ?_ _ | with_reducible refine Since.drew ?_ | with_reducible refine Since.set ?_ (by first | assumption | omega | (simp; done) | (simp; omega)) _))⟩
      · have hp' : (fun d => d.s == x) (⟨es, en⟩ : One) = false := by simpa using hp
        have HN2 : Hid (∀ j (hj : j < i + 1) (hl : j < L.length), (fun d => d.s == x) L[j] = false) := Lib.hid (fun j hj hl2 => by
          rcases Nat.lt_or_ge j i with h1 | h1
          · exact HN.out j h1 hl2
          · obtain rfl : j = i := by omega
            rw [HEL.out]; exact hp')
        simp only at hp'
        clear hp HN
        go_wp2_with (go_at_call 34; refine (bySeq es en x h _ (hs.cell hl HC.out)).mono ?_; rintro e w1 ⟨rfl, hb1⟩; rw [hp'])
        go_roundw
        case rel => exact ⟨i + 1, by go_num, by omega, HN2, (by refine Since.out ?_; repeat (first | with_reducible assumption | with_reducible exact Since.refl _ | with_reducible refine Since.later ?_ (by with_reducible assumption) | with_reducible refine Since.only ?_ (by with_reducible assumption) (by first | assumption | omega | (simp; done) | (simp; omega)) | with_reducible refine Since.alloc ?_ _ | with_reducible refine Since.drewN ?_ _ | with_reducible refine Since.drew ?_ | with_reducible refine Since.set ?_ (by first | assumption | omega | (simp; done) | (simp; omega)) _))⟩
        case measure => simp [intOf]; omega
    · obtain rfl : i = L.length := by omega
      have HP : Hid (place (fun d => d.s == x) L 0 = -1) := Lib.hid (place_none (fun j hj => HN.out j hj hj))
      go_wp2_with fail
      go_ret
      exact ⟨by rw [HP.out]; rfl, (by refine Since.out ?_; repeat (first | with_reducible assumption | with_reducible exact Since.refl _ | with_reducible refine Since.later ?_ (by with_reducible assumption) | with_reducible refine Since.only ?_ (by with_reducible assumption) (by first | assumption | omega | (simp; done) | (simp; omega)) | with_reducible refine Since.alloc ?_ _ | with_reducible refine Since.drewN ?_ _ | with_reducible refine Since.drew ?_ | with_reducible refine Since.set ?_ (by first | assumption | omega | (simp; done) | (simp; omega)) _))⟩
set_option maxHeartbeats 1600000 in
theorem findNot (v : Value) (L : List One) (x : Int) (h : Nat) (w : World) (hc : w.cell? ⟨h, 0, none⟩ = some (.int .i64 x)) (hv : Lst w 51 2 v (L.map idRow)) (hm : L.length ≤ 1000000) :
    Calls Try.prog 24 #[v, .func (Fn.func 25) #[] #[.pointer (some ⟨h, 0, none⟩)]] w fun e w' => e = .returned (.int .i64 (place (fun d => d.s != x) L 0)) ∧ Below w.heap.size w w' := by
  have hl : h < w.heap.size := World.block_lt_of_cell? w _ hc
  obtain ⟨A, cap, hve, hcap, hmx, hA⟩ := hv.shape
  rw [List.length_map] at hve hcap
  subst hve
  have HV := Lib.hid hv
  have HA := Lib.hid hA
  have HC := Lib.hid hc
  clear hv hA hmx hc
  go_enter Try.func24, Try.ntmps24
  go_wp2_with fail
  go_loopw [8] (fun s8 wr => ∃ i : Nat, s8 = .int .i64 i ∧ i ≤ L.length ∧ Hid (∀ j (hj : j < i) (hl : j < L.length), (fun d => d.s != x) L[j] = false) ∧ Since w wr) (fun s8 _ => L.length - (intOf s8).toNat)
  case atStart => exact ⟨0, rfl, Nat.zero_le _, Lib.hid (fun j hj => by omega), Since.refl _⟩
  case round =>
    obtain ⟨i, rfl, hi, HN, hs⟩ := hrel
    by_cases hlt : i < L.length
    · have hlt' : (i : Int) < (L.length : Int) := by omega
      rcases HA.out with ⟨_, h0, _⟩ | ⟨b, rfl⟩
      · have : L = [] := by simpa using h0
        subst this
        simp at hlt
      have hls := HV.out.later hs
      have q0 : wr.cell? ⟨b, i * 2, none⟩ = some (.int .i64 L[i].s) := hls.cell rfl (elem_of_row hlt) (j := 0) rfl
      have q1 : wr.cell? ⟨b, i * 2 + 1, none⟩ = some (.int .i64 L[i].n) := hls.cell rfl (elem_of_row hlt) (j := 1) rfl
      obtain ⟨es, hes⟩ : ∃ e, L[i].s = e := ⟨_, rfl⟩
      obtain ⟨en, hen⟩ : ∃ e, L[i].n = e := ⟨_, rfl⟩
      have HEL : Hid (L[i] = ⟨es, en⟩) := Lib.hid (by rw [← hes, ← hen])
      rw [hes] at q0
      rw [hen] at q1
      clear hes hen hls
      by_cases hp : (fun d => d.s != x) (⟨es, en⟩ : One) = true
      · have HP : Hid (place (fun d => d.s != x) L 0 = (i : Int)) := Lib.hid (by rw [place_take hlt (fun j hj => HN.out j hj (by omega)) (by rw [HEL.out]; exact hp)]; simp)
        simp only at hp
        go_wp2_with (go_at_call 25; refine (byNot es en x h _ (hs.cell hl HC.out)).mono ?_; rintro e w1 ⟨rfl, hb1⟩; rw [hp])
        go_ret
        exact ⟨by rw [HP.out]; rfl, (by refine Since.out ?_; repeat (first | with_reducible assumption | with_reducible exact Since.refl _ | with_reducible refine Since.later ?_ (by with_reducible assumption) | with_reducible refine Since.only ?_ (by with_reducible assumption) (by first | assumption | omega | (simp; done) | (simp; omega)) | with_reducible refine Since.alloc ?_ _ | with_reducible refine Since.drewN ?_ _ | with_reducible refine Since.drew ?_ | with_reducible refine Since.set ?_ (by first | assumption | omega | (simp; done) | (simp; omega)) _))⟩
      · have hp' : (fun d => d.s != x) (⟨es, en⟩ : One) = false := by simpa using hp
        have HN2 : Hid (∀ j (hj : j < i + 1) (hl : j < L.length), (fun d => d.s != x) L[j] = false) := Lib.hid (fun j hj hl2 => by
          rcases Nat.lt_or_ge j i with h1 | h1
          · exact HN.out j h1 hl2
          · obtain rfl : j = i := by omega
            rw [HEL.out]; exact hp')
        simp only at hp'
        clear hp HN
        go_wp2_with (go_at_call 25; refine (byNot es en x h _ (hs.cell hl HC.out)).mono ?_; rintro e w1 ⟨rfl, hb1⟩; rw [hp'])
        go_roundw
        case rel => exact ⟨i + 1, by go_num, by omega, HN2, (by refine Since.out ?_; repeat (first | with_reducible assumption | with_reducible exact Since.refl _ | with_reducible refine Since.later ?_ (by with_reducible assumption) | with_reducible refine Since.only ?_ (by with_reducible assumption) (by first | assumption | omega | (simp; done) | (simp; omega)) | with_reducible refine Since.alloc ?_ _ | with_reducible refine Since.drewN ?_ _ | with_reducible refine Since.drew ?_ | with_reducible refine Since.set ?_ (by first | assumption | omega | (simp; done) | (simp; omega)) _))⟩
        case measure => simp [intOf]; omega
    · obtain rfl : i = L.length := by omega
      have HP : Hid (place (fun d => d.s != x) L 0 = -1) := Lib.hid (place_none (fun j hj => HN.out j hj hj))
      go_wp2_with fail
      go_ret
      exact ⟨by rw [HP.out]; rfl, (by refine Since.out ?_; repeat (first | with_reducible assumption | with_reducible exact Since.refl _ | with_reducible refine Since.later ?_ (by with_reducible assumption) | with_reducible refine Since.only ?_ (by with_reducible assumption) (by first | assumption | omega | (simp; done) | (simp; omega)) | with_reducible refine Since.alloc ?_ _ | with_reducible refine Since.drewN ?_ _ | with_reducible refine Since.drew ?_ | with_reducible refine Since.set ?_ (by first | assumption | omega | (simp; done) | (simp; omega)) _))⟩

set_option maxHeartbeats 800000 in
theorem cloneIDs (v : Value) (L : List One) (w : World) (hv : Lst w 51 2 v (L.map idRow)) (hm : L.length ≤ 1000000) :
    Calls Try.prog 33 #[v] w fun e w' => ∃ A cap, e = .returned (.slice A L.length cap) ∧ Lst w' 51 2 (.slice A L.length cap) (L.map idRow) ∧ Below w.heap.size w w' ∧ ∀ k, k ∈ blocks (.slice A 0 0) → w.heap.size ≤ k := by
  obtain ⟨A, cap, hve, hcap, hmx, hA⟩ := hv.shape
  rw [List.length_map] at hve hcap
  subst hve
  have hml : (L.map idRow).length = L.length := List.length_map ..
  have HML := Lib.hid hml
  have HV := Lib.hid hv
  rcases hA with ⟨rfl, h0, rfl⟩ | ⟨g, rfl⟩
  · have hL : L = [] := by simpa using h0
    subst hL
    clear hv hmx hml
    have hnil := @Lib.run_eql_slice_nil
    go_enter Try.func33, Try.ntmps33
    go_wp2
    go_ret
    exact ⟨none, 0, rfl, HV.out, Below.refl _ _, by simp [Value.ownBlock]⟩
  · clear hv hmx hml
    have hnil := @Lib.run_eql_slice_nil
    go_enter Try.func33, Try.ntmps33
    go_wp2_with (at_builtin; refine wpList_cat rfl _ _ 61 rfl 51 2 16 Try.elID (.slice (some ⟨w.heap.size, 0, none⟩) 0 0) [] rfl (Lst.empty w _ 2) ⟨g, 0, none⟩ L.length _ (L.map idRow) rfl HML.out HV.out.rows (fun j u hu => (HV.out.alloc _).news_take rfl L.length j u (by rw [← HML.out, List.take_length]; exact hu)) (by rw [HML.out]; simp; omega) ?_; intro A1 cap1 w1 hl1 ho1 hk1)
    simp only [List.length_nil, Nat.zero_add, List.nil_append] at hl1
    go_ret
    refine ⟨A1, cap1, rfl, hl1, ?_, fun k hk => ?_⟩
    · exact ho1.below ((Below.refl _ _).alloc (Nat.le_refl _) _) (by simp) (by simp [Value.ownBlock])
    · rcases hk1 k (blocks_any A1 _ _ _ _ ▸ hk) with h1 | h1
      · have : w.heap.size = k := by simpa [Value.ownBlock] using h1
        omega
      · rw [h1]; simp
end Go.Proofs.Ythnolkbolmbkdaa
