/- Contracts of package ids (but Retire): what each answers, and what becomes of the blocks. Condition: the blocks hold IDs as New and the calls leave them. -/
import Derived.Test.YthnolkbolmbkdaaIds
import Derived.Deep.RegionHeld3
namespace Go.Proofs.Ythnolkbolmbkdaa
open Go.ChangeShapes Go.WideShapes Go.ChangeAt Go.RowKit
set_option linter.unusedVariables false

/-- which names were used -/
def nameF (N : List Int) (k : Int) : Option Value := if k ∈ N then some (.bool true) else none
/-- IDs at g, their names' map at b, their slice: so many may be live, these are, these names were used -/
structure Iz (w : World) (g b : Nat) (v : Value) (lim : Int) (L : List One) (N : List Int) : Prop where
  bl : BlockIs w g 67 #[.int .i64 lim, v, .map (some b)]
  ls : Lst w 51 2 v (L.map idRow)
  mp : MapI w Try.prog 3 b (nameF N) N.length
  l1 : 1 ≤ lim
  l2 : lim ≤ 8
  few : (L.length : Int) ≤ lim
  most : N.length ≤ 100
theorem Iz.later {w w1 : World} {g b : Nat} {v : Value} {lim : Int} {L : List One} {N : List Int} (h : Iz w g b v lim L N) (hb : Below w.heap.size w w1) : Iz w1 g b v lim L N := ⟨h.bl.later hb, h.ls.later hb, h.mp.later hb, h.l1, h.l2, h.few, h.most⟩
theorem Iz.drew {w : World} {g b : Nat} {v : Value} {lim : Int} {L : List One} {N : List Int} (h : Iz w g b v lim L N) : Iz w.drew g b v lim L N := ⟨h.bl, h.ls.drew, h.mp, h.l1, h.l2, h.few, h.most⟩
theorem Iz.apart {w : World} {g b : Nat} {v : Value} {lim : Int} {L : List One} {N : List Int} (h : Iz w g b v lim L N) : g ∉ blocks v := h.ls.apart h.bl (by decide)
/-- a map's block is no slice's, and no struct's -/
theorem MapI.not_row {w : World} {P : Program} {K b n : Nat} {f : Int → Option Value} (h : MapI w P K b f n) {g : Nat} {t : TypeId} {cs : Array Value} (hb : BlockIs w g t cs) : g ≠ b := by
  rintro rfl
  obtain ⟨D, ⟨es, clock, h1, _⟩, _⟩ := h
  unfold BlockIs at hb
  rw [hb] at h1
  cases h1
theorem Lst.not_map {w : World} {E size : Nat} {v : Value} {es : List (List Value)} (h : Lst w E size v es) {P : Program} {K b n : Nat} {f : Int → Option Value} (hm : MapI w P K b f n) : b ∉ blocks v := by
  intro hb
  obtain ⟨D, ⟨es', clock, h1, _⟩, _⟩ := hm
  rcases h.own.2 with ⟨rfl, _⟩ | ⟨g', cap, cur, rfl, _, hgg, _⟩
  · simp [blocks, Value.ownBlock] at hb
  · simp [blocks, Value.ownBlock] at hb
    subst hb
    rw [h1] at hgg
    cases hgg
theorem MapI.kept' {w w1 : World} {P : Program} {K b n : Nat} {f : Int → Option Value} {S : List Nat} (h : MapI w P K b f n) (hg : Out w w1 S) (hn : b ∉ S) : MapI w1 P K b f n := by
  have hl := h.lt
  obtain ⟨D, ⟨es, clock, hb, F, hs, hD⟩, r⟩ := h
  exact ⟨D, ⟨es, clock, (hg.block b hl hn).trans hb, F, hs, hD⟩, r⟩
theorem Iz.kept {w w1 : World} {g b : Nat} {v : Value} {lim : Int} {L : List One} {N : List Int} {S : List Nat} (h : Iz w g b v lim L N) (hg : Out w w1 S) (h1 : ∀ k, k ∈ g :: b :: blocks v → k ∉ S) : Iz w1 g b v lim L N :=
  ⟨hg.block' h.bl (h1 _ (by simp)), h.ls.kept hg (fun k hk => h1 k (by simp [hk])), h.mp.kept' hg (h1 _ (by simp)), h.l1, h.l2, h.few, h.most⟩
/-- what a call leaves of them -/
def ILeft (w w' : World) (g b : Nat) (v : Value) (lim : Int) (L : List One) (N : List Int) : Prop := ∃ v', Iz w' g b v' lim L N ∧ Out w w' (g :: b :: blocks v) ∧ ∀ k, k ∈ blocks v' → k ∈ blocks v ∨ w.heap.size ≤ k
theorem Try.nameMap : Try.prog.underlying 65 = some (.map 3 4) := by kernel_rfl
theorem Try.nameZero (w : World) : (zeroValue 4).run Try.prog w = .ok (.bool false) w := by kernel_rfl

theorem inew_no (n : Int) (h : ¬ (1 ≤ n ∧ n ≤ 8)) (w : World) : Calls Try.prog 13 #[.int .i64 n] w fun e w' => e = .returned (.tuple #[.pointer none, .iface 58 (.int .i64 1)]) ∧ w = w' := by
  by_cases h1 : n < 1
  · clear h
    go_enter Try.func13, Try.ntmps13
    go_wp2
    go_ret2
    exact ⟨rfl, rfl⟩
  · have h2 : 8 < n := by omega
    clear h
    go_enter Try.func13, Try.ntmps13
    go_wp2
    go_ret2
    exact ⟨rfl, rfl⟩
theorem inew_yes (n : Int) (h1 : 1 ≤ n) (h2 : n ≤ 8) (w : World) : Calls Try.prog 13 #[.int .i64 n] w fun e w' => e = .returned (.tuple #[.pointer (some ⟨w.heap.size + 1, 0, none⟩), .nilIface]) ∧ Iz w' (w.heap.size + 1) w.heap.size (.slice none 0 0) n [] [] ∧ Below w.heap.size w w' := by
  have hmm := @run_makeMap Try.prog
  have a1 := h1
  have a2 := h2
  go_enter Try.func13, Try.ntmps13
  go_wp2
  go_ret2
  refine ⟨rfl, ⟨BlockIs.fresh_at (by simp), Lst.nil _ _ _, ?_, a1, a2, by simp; omega, by simp⟩, ((Below.refl _ _).alloc (Nat.le_refl _) _).alloc (by simp) _⟩
  exact (MapI.made w Try.prog 3).alloc _

/-- what Find answers -/
def findI (L : List One) (x : Int) : Int := place (fun d => d.n == x) L 0
def findE (L : List One) (x : Int) : Int := if findI L x < 0 then 5 else 0
def findD (L : List One) (x : Int) : One := if findI L x < 0 then ⟨0, 0⟩ else L.getD (findI L x).toNat ⟨0, 0⟩
theorem place_bound {p : One → Bool} : ∀ {L : List One} {k : Nat}, place p L k = -1 ∨ ((k : Int) ≤ place p L k ∧ place p L k < k + L.length)
  | [], k => Or.inl rfl
  | d :: r, k => by
    unfold place
    split
    · right; simp; omega
    · rcases place_bound (p := p) (L := r) (k := k + 1) with h | h
      · exact Or.inl h
      · right; rw [List.length_cons]; omega
abbrev oneV (d : One) : Value := .agg #[.int .i64 d.s, .int .i64 d.n]
end Go.Proofs.Ythnolkbolmbkdaa
