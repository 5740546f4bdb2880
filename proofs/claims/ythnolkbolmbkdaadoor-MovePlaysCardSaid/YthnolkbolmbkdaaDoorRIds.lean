/- Contracts of the reference's IDs: Retire, Live; and wiresame.IDs. Condition: the blocks hold IDs as the calls leave them. -/
import Derived.Test.YthnolkbolmbkdaaDoorIdsLaw
import Derived.RangeFuncNested
namespace Go.Proofs.YthnolkbolmbkdaaDoor
open Go.ChangeShapes Go.WideShapes Go.ChangeAt Go.RowKit
set_option linter.unusedVariables false

theorem Lst.apart2 {w : World} {E E' s s' : Nat} {v v' : Value} {es es' : List (List Value)} (h : Lst w E s v es) (h' : Lst w E' s' v' es') (hne : E ≠ E') : ∀ k, k ∈ blocks v → k ∉ blocks v' := by
  intro k hk hk'
  rcases h.own.2 with ⟨rfl, _⟩ | ⟨g, cap, cur, rfl, _, hg, _⟩
  · simp [Value.ownBlock] at hk
  · rcases h'.own.2 with ⟨rfl, _⟩ | ⟨g', cap', cur', rfl, _, hg', _⟩
    · simp [Value.ownBlock] at hk'
    · have e1 : g = k := by simpa [Value.ownBlock] using hk
      have e2 : g' = k := by simpa [Value.ownBlock] using hk'
      subst e1 e2
      rw [hg] at hg'
      simp only [Option.some.injEq, Obj.cells.injEq] at hg'
      exact hne hg'.2.1
theorem flat_set1 : ∀ {es : List (List Value)} (hr : ∀ e ∈ es, e.length = 1) (i : Nat) (u : Value), (flat es).set i u = flat (es.set i [u])
  | [], _, _, _ => by simp [flat]
  | e :: r, hr, i, u => by
    obtain ⟨a, rfl⟩ := List.length_eq_one_iff.1 (hr e (by simp))
    cases i with
    | zero => simp [flat]
    | succ i =>
      have := flat_set1 (es := r) (fun e he => hr e (by simp [he])) i u
      simp only [flat] at this
      simp [flat, this]
/-- one cell of a slice with elements of one cell is written -/
theorem Lst.set1 {w : World} {E g n cap : Nat} {es : List (List Value)} (h : Lst w E 1 (.slice (some ⟨g, 0, none⟩) n cap) es) {i : Nat} {u : Value} (hu : u.oneCell' = true) : Lst (w.setCell ⟨g, i, none⟩ u) E 1 (.slice (some ⟨g, 0, none⟩) n cap) (es.set i [u]) := by
  have hr : ∀ e ∈ es, e.length = 1 := fun e he => (h.rows e he).1
  refine ⟨⟨?_, ?_⟩, fun e he => ?_⟩
  · rw [← flat_set1 hr, List.length_set, List.length_set]
    exact h.own.1
  · rcases h.own.2 with ⟨h0, _⟩ | ⟨g', cap', cur, hv, hb, hg, h1, h2, h3, h4⟩
    · cases h0
    · simp only [Value.slice.injEq, Option.some.injEq, Addr.mk.injEq, and_true] at hv
      obtain ⟨rfl, rfl, rfl⟩ := hv
      refine Or.inr ⟨g, cap, cur.setIfInBounds i u, by rw [List.length_set], hb, BlockIs.put hg i u, by rw [List.length_set]; exact h1, h2, by simpa using h3, ?_⟩
      rw [Array.toList_setIfInBounds, List.take_set, List.length_set, h4, flat_set1 hr]
  · rcases List.mem_or_eq_of_mem_set he with he | he
    · exact h.rows e he
    · rw [he]
      exact ⟨rfl, by intro x hx; rw [List.mem_singleton.1 hx]; exact hu⟩
def boolRow (b : Bool) : List Value := [.bool b]
theorem boolRow_one (b : Bool) : (boolRow b).length = 1 ∧ ∀ u ∈ boolRow b, u.oneCell' = true := ⟨rfl, by intro u hu; simp [boolRow] at hu; rw [hu]; rfl⟩
theorem Tryd.elBool : Elem Tryd.prog 39 4 1 1 := ⟨Tryd.underlying39, ⟨.bool false, rfl, by kernel_rfl⟩, by decide, by decide⟩
/-- those that were issued, and are not gone -/
def liveFrom : List Int → List Bool → Nat → List One
  | x :: r, g :: s, i => if g then liveFrom r s (i + 1) else ⟨(i : Int), x⟩ :: liveFrom r s (i + 1)
  | _, _, _ => []
def liveOf (N : List Int) (Gn : List Bool) : List One := liveFrom N Gn 0
/-- the reference's IDs at g, their two slices: these names were used, these are gone -/
structure Rz (w : World) (g : Nat) (va vg : Value) (lim : Int) (N : List Int) (Gn : List Bool) : Prop where
  bl : BlockIs w g 41 #[.int .i64 lim, va, vg]
  la : Lst w 52 2 va ((issued N).map idRow)
  lg : Lst w 4 1 vg (Gn.map boolRow)
  len : Gn.length = N.length
  most : N.length ≤ 100
theorem Rz.later {w w1 : World} {g : Nat} {va vg : Value} {lim : Int} {N : List Int} {Gn : List Bool} (h : Rz w g va vg lim N Gn) (hb : Below w.heap.size w w1) : Rz w1 g va vg lim N Gn := ⟨h.bl.later hb, h.la.later hb, h.lg.later hb, h.len, h.most⟩
theorem Rz.kept {w w1 : World} {g : Nat} {va vg : Value} {lim : Int} {N : List Int} {Gn : List Bool} {S : List Nat} (h : Rz w g va vg lim N Gn) (hg : Out w w1 S) (h1 : ∀ k, k ∈ g :: (blocks va ++ blocks vg) → k ∉ S) : Rz w1 g va vg lim N Gn :=
  ⟨hg.block' h.bl (h1 _ (by simp)), h.la.kept hg (fun k hk => h1 k (by simp [hk])), h.lg.kept hg (fun k hk => h1 k (by simp [hk])), h.len, h.most⟩

/-- what the reference's Retire answers -/
def rretE (Gn : List Bool) (x : Int) : Int := if x < 0 ∨ (Gn.length : Int) ≤ x then 5 else if Gn.getD x.toNat false = true then 5 else 0
def rretG (Gn : List Bool) (x : Int) : List Bool := if rretE Gn x = 0 then Gn.set x.toNat true else Gn

set_option maxHeartbeats 1600000 in
theorem rretire (g : Nat) (va vg : Value) (lim : Int) (N : List Int) (Gn : List Bool) (x : Int) (w : World) (h : Rz w g va vg lim N Gn) :
    Calls Tryd.prog 29 #[.pointer (some ⟨g, 0, none⟩), .int .i64 x] w fun e w' => e = .returned (.int .i64 (rretE Gn x)) ∧ Rz w' g va vg lim N (rretG Gn x) ∧ Out w w' (blocks vg) := by
  have c1 : w.cell? ⟨g, 1, none⟩ = some va := h.bl.cell 1
  have c2 : w.cell? ⟨g, 2, none⟩ = some vg := h.bl.cell 2
  obtain ⟨A, cap, hve, hcap, hmx, hA⟩ := h.la.shape
  rw [List.length_map, issued_length] at hve hcap
  obtain ⟨B, cap2, hvg, hcap2, hmx2, hB⟩ := h.lg.shape
  rw [List.length_map, h.len] at hvg hcap2
  subst hve hvg
  have hlen := h.len
  have hmost := h.most
  have H := Lib.hid h
  have HB := Lib.hid hB
  have HLEN := Lib.hid hlen
  clear h hA hB hlen
  by_cases hx : x < 0
  · have E : Hid (rretE Gn x = 5) := Lib.hid (by unfold rretE; rw [if_pos (Or.inl hx)])
    have EL : Hid (rretG Gn x = Gn) := Lib.hid (by unfold rretG; rw [E.out, if_neg (by decide)])
    go_enter Tryd.func29, Tryd.ntmps29
    go_wp2
    go_ret
    exact ⟨by rw [E.out]; rfl, by rw [EL.out]; exact H.out, Out.refl _ _⟩
  obtain ⟨m, rfl⟩ := Int.eq_ofNat_of_zero_le (show 0 ≤ x by omega)
  have hx' : decide ((m : Int) < 0) = false := by simp
  by_cases hm : m < N.length
  case neg =>
    have E : Hid (rretE Gn m = 5) := Lib.hid (by unfold rretE; rw [if_pos (Or.inr (by rw [HLEN.out]; omega))])
    have EL : Hid (rretG Gn m = Gn) := Lib.hid (by unfold rretG; rw [E.out, if_neg (by decide)])
    have hm' : (N.length : Int) ≤ (m : Int) := by omega
    clear hx
    go_enter Tryd.func29, Tryd.ntmps29
    go_wp2
    go_ret
    exact ⟨by rw [E.out]; rfl, by rw [EL.out]; exact H.out, Out.refl _ _⟩
  have hm' : decide ((N.length : Int) ≤ (m : Int)) = false := by simp; omega
  have hm2 : (m : Int) < (N.length : Int) := by omega
  rcases HB.out with ⟨_, h0, _⟩ | ⟨q, rfl⟩
  · have : Gn = [] := by simpa using h0
    have := HLEN.out
    simp_all
  have hmg : m < Gn.length := by rw [HLEN.out]; exact hm
  have hget : (Gn.map boolRow)[m]? = some (boolRow Gn[m]) := by simp [hmg]
  have q0 : w.cell? ⟨q, m, none⟩ = some (.bool Gn[m]) := by
    have := H.out.lg.cell rfl hget (j := 0) rfl
    simpa using this
  have hgd : Gn.getD m false = Gn[m] := by simp [List.getD, hmg]
  have E0 : Hid (rretE Gn m = if Gn[m] = true then 5 else 0) := Lib.hid (by unfold rretE; rw [if_neg (by rw [HLEN.out]; omega)]; simp only [Int.toNat_natCast, hgd])
  obtain ⟨gm, hgm⟩ : ∃ b, Gn[m] = b := ⟨_, rfl⟩
  rw [hgm] at q0 E0
  clear hget hgd hx
  cases gm with
  | true =>
    have E : Hid (rretE Gn m = 5) := Lib.hid (by rw [E0.out, if_pos rfl])
    have EL : Hid (rretG Gn m = Gn) := Lib.hid (by unfold rretG; rw [E.out, if_neg (by decide)])
    clear hgm
    go_enter Tryd.func29, Tryd.ntmps29
    go_wp2
    go_ret
    exact ⟨by rw [E.out]; rfl, by rw [EL.out]; exact H.out, Out.refl _ _⟩
  | false =>
    have E : Hid (rretE Gn m = 0) := Lib.hid (by rw [E0.out, if_neg (by decide)])
    have EL : Hid (rretG Gn m = Gn.set m true) := Lib.hid (by unfold rretG; rw [E.out, if_pos rfl]; rfl)
    have lq := H.out.lg.lt q (by simp [Value.ownBlock])
    have hfr : w.frozen? ⟨q, m, none⟩ = false := by
      rcases H.out.lg.own.2 with ⟨h0, _⟩ | ⟨g', cap', cur, hv, _, hgg, _⟩
      · cases h0
      · simp only [Value.slice.injEq, Option.some.injEq, Addr.mk.injEq, and_true] at hv
        rw [hv.1]
        exact BlockIs.free hgg m
    clear hgm
    go_enter Tryd.func29, Tryd.ntmps29
    go_wp2
    go_ret
    have hO : Out w (w.setCell ⟨q, m, none⟩ (.bool true)) [q] := (Out.refl w [q]).put (p := ⟨q, m, none⟩) (Or.inl (by simp)) _
    refine ⟨by rw [E.out]; rfl, ?_, hO⟩
    rw [EL.out]
    have hqg : g ∉ [q] := fun hm2 => by have := H.out.lg.apart H.out.bl (by decide); rw [List.mem_singleton.1 hm2] at this; simp [Value.ownBlock] at this
    have hset := (H.out.lg.set1 (i := m) (u := .bool true) rfl)
    have hmap : (Gn.map boolRow).set m [.bool true] = (Gn.set m true).map boolRow := by rw [List.map_set]; rfl
    rw [hmap] at hset
    exact ⟨hO.block' H.out.bl hqg, H.out.la.kept hO (fun k hk hm2 => (H.out.la.apart2 H.out.lg (by decide)) k hk (by simpa [Value.ownBlock] using (List.mem_singleton.1 hm2).symm)), hset, by rw [List.length_set]; exact H.out.len, H.out.most⟩
end Go.Proofs.YthnolkbolmbkdaaDoor
