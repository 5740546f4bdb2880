/- The law's own records of what a log keeps, in memory: a slice of slices of ranges and the rows beside it, a slice of ints. No condition of its own. -/
import Derived.Test.YtjjmoaaongnjiaaGreatDoorLogKp
import Derived.Test.YtjjmoaaongnjiaaGreatDoorLogB
import Derived.Test.YtjjmoaaongnjiaaGreatDoorIntRow
import Derived.Test.YtjjmoaaongnjiaaGreatDoorRngAll
import Derived.Test.YtjjmoaaongnjiaaGreatDoorWith
namespace Go.Proofs.YtjjmoaaongnjiaaGreatDoor
open Go.ChangeShapes Go.WideShapes Go.ChangeAt Go.RowKit
set_option linter.unusedVariables false

theorem Tryz.elRngs : Elem Tryz.prog 36 31 1 24 := ⟨Tryz.underlying36, ⟨.slice none 0 0, rfl, by kernel_rfl⟩, by decide, by decide⟩
def vRow (v : Value) : List Value := [v]
/-- the first of them -/
theorem Lst.cut {w : World} {E size n c : Nat} {A : Option Addr} {es : List (List Value)} (h : Lst w E size (.slice A n c) es) {k : Nat} (hk : k ≤ es.length) : Lst w E size (.slice A k c) (es.take k) := by
  refine ⟨?_, fun e he => h.rows e (List.mem_of_mem_take he)⟩
  have hl : (es.take k).length = k := by rw [List.length_take]; omega
  have hf := flat_take (fun e he => (h.rows e he).1) k
  refine ⟨by rw [hl, flat_length (fun e he => (h.rows e (List.mem_of_mem_take he)).1), hl], ?_⟩
  rw [hl]
  rcases h.own.2 with ⟨hv, h0⟩ | ⟨g, cap, cur, hv, h1, h2, h3, h4, h5, h6⟩
  · simp only [Value.slice.injEq] at hv
    obtain ⟨rfl, rfl, rfl⟩ := hv
    left
    have : k = 0 := by omega
    subst this
    exact ⟨rfl, rfl⟩
  · simp only [Value.slice.injEq] at hv
    obtain ⟨rfl, rfl, rfl⟩ := hv
    right
    refine ⟨g, c, cur, rfl, h1, h2, by omega, h4, h5, ?_⟩
    rw [← hf, ← h6, List.take_take, Nat.min_eq_left (Nat.mul_le_mul_right _ hk)]
/-- one element in a new block -/
theorem Lst.one (w : World) (E : Nat) (u : Value) (h : u.oneCell' = true) : Lst (w.alloc (.cells #[u] E)) E 1 (.slice (some ⟨w.heap.size, 0, none⟩) 1 1) [[u]] :=
  ⟨⟨rfl, Or.inr ⟨w.heap.size, 1, #[u], rfl, Nat.zero_le _, BlockIs.fresh w _ _, Nat.le_refl _, by simp [maxLen], rfl, rfl⟩⟩, by intro e he; rw [List.mem_singleton.1 he]; exact ⟨rfl, by intro x hx; rw [List.mem_singleton.1 hx]; exact h⟩⟩
/-- the ranges behind each record, each in a row of its own -/
def rowsT (vs : List Value) (ns : List Int) : Thing where
  is w S := (∀ k, k ∈ S → k < w.heap.size) ∧ vs.length = ns.length + 1 ∧ ∀ i, i ≤ ns.length → ∃ A cap, vs[i]? = some (.slice A (adds (ns.take i)).length cap) ∧ Lst w 34 2 (.slice A (adds (ns.take i)).length cap) ((adds (ns.take i)).map rngRow) ∧ ∀ k, k ∈ blocks (.slice A (adds (ns.take i)).length cap) → k ∈ S
  lt h k hk := h.1 k hk
  kept h ho hd := ⟨fun k hk => Nat.lt_of_lt_of_le (h.1 k hk) ho.size, h.2.1, fun i hi => by
    obtain ⟨A, cap, h1, h2, h3⟩ := h.2.2 i hi
    exact ⟨A, cap, h1, h2.kept ho (fun k hk => hd k (h3 k hk)), h3⟩⟩
theorem rowsT_one (w : World) : (rowsT [.slice none 0 0] []).is w [] := ⟨by simp, rfl, fun i hi => by
  have : i = 0 := by simpa using hi
  subst this
  exact ⟨none, 0, rfl, Lst.nil _ _ _, by simp [Value.ownBlock]⟩⟩
theorem rowsT_snoc {w : World} {vs : List Value} {ns : List Int} {n : Int} {S : List Nat} (h : (rowsT vs ns).is w S) {A : Option Addr} {cap : Nat} (hl : Lst w 34 2 (.slice A (adds (ns ++ [n])).length cap) ((adds (ns ++ [n])).map rngRow)) :
    (rowsT (vs ++ [.slice A (adds (ns ++ [n])).length cap]) (ns ++ [n])).is w (S ++ blocks (.slice A (adds (ns ++ [n])).length cap)) := by
  obtain ⟨h1, h2, h3⟩ := h
  refine ⟨fun k hk => ?_, by rw [List.length_append, List.length_append, h2]; rfl, fun i hi => ?_⟩
  · rcases List.mem_append.1 hk with hk | hk
    · exact h1 k hk
    · exact hl.lt k hk
  · rw [List.length_append, List.length_singleton] at hi
    by_cases hil : i ≤ ns.length
    · obtain ⟨B, c, g1, g2, g3⟩ := h3 i hil
      have e : (ns ++ [n]).take i = ns.take i := List.take_append_of_le_length hil
      rw [e]
      exact ⟨B, c, by rw [List.getElem?_append_left (by omega)]; exact g1, g2, fun k hk => List.mem_append_left _ (g3 k hk)⟩
    · have : i = ns.length + 1 := by omega
      subst this
      have e : (ns ++ [n]).take (ns.length + 1) = ns ++ [n] := List.take_of_length_le (by simp)
      rw [e]
      exact ⟨A, cap, by rw [← h2, List.getElem?_append_right (Nat.le_refl _), Nat.sub_self]; rfl, hl, fun k hk => List.mem_append_right _ hk⟩
theorem rowsT_take {w : World} {vs : List Value} {ns : List Int} {S : List Nat} (h : (rowsT vs ns).is w S) {j : Nat} (hj : j ≤ ns.length) : (rowsT (vs.take (j + 1)) (ns.take j)).is w S := by
  obtain ⟨h1, h2, h3⟩ := h
  refine ⟨h1, by rw [List.length_take, List.length_take]; omega, fun i hi => ?_⟩
  rw [List.length_take] at hi
  obtain ⟨B, c, g1, g2, g3⟩ := h3 i (by omega)
  have e : (ns.take j).take i = ns.take i := by rw [List.take_take, Nat.min_eq_left (by omega)]
  rw [e]
  exact ⟨B, c, by rw [List.getElem?_take_of_lt (by omega)]; exact g1, g2, g3⟩
namespace Own
variable {w0 w w' : World} {S0 : List Nat} {L : List Thing}
theorem row (h : Own w0 S0 w L) (i : Nat) {vs : List Value} {ns : List Int} (hi : L[i]? = some (rowsT vs ns)) {j : Nat} (hj : j ≤ ns.length) : ∃ A cap, vs[j]? = some (.slice A (adds (ns.take j)).length cap) ∧ Lst w 34 2 (.slice A (adds (ns.take j)).length cap) ((adds (ns.take j)).map rngRow) := by
  obtain ⟨S, h1, _⟩ := h.at_ i hi
  obtain ⟨A, cap, g1, g2, _⟩ := h1.2.2 j hj
  exact ⟨A, cap, g1, g2⟩
theorem row_at (h : Own w0 S0 w L) (i : Nat) {vs : List Value} {ns : List Int} (hi : L[i]? = some (rowsT vs ns)) {j : Nat} (hj : j ≤ ns.length) {A : Option Addr} {n c : Nat} (hv : vs[j]? = some (.slice A n c)) : Lst w 34 2 (.slice A n c) ((adds (ns.take j)).map rngRow) := by
  obtain ⟨A', cap, g1, g2⟩ := h.row i hi hj
  rw [hv] at g1
  simp only [Option.some.injEq, Value.slice.injEq] at g1
  obtain ⟨rfl, rfl, rfl⟩ := g1
  exact g2
theorem rows_len (h : Own w0 S0 w L) (i : Nat) {vs : List Value} {ns : List Int} (hi : L[i]? = some (rowsT vs ns)) : vs.length = ns.length + 1 := by
  obtain ⟨S, h1, _⟩ := h.at_ i hi
  exact h1.2.1
/-- a slice grew, or was written again -/
theorem grow (h : Own w0 S0 w L) (i : Nat) {E size : Nat} {v v' : Value} {es es' : List (List Value)} (hi : L[i]? = some (Thing.lst E size v es)) (hl : Lst w' E size v' es') (ho : Out w w' (blocks v)) (hb : ∀ k, k ∈ blocks v' → k ∈ blocks v ∨ w.heap.size ≤ k) : Own w0 S0 w' (L.set i (Thing.lst E size v' es')) := by
  obtain ⟨S, ⟨h1, rfl⟩, up⟩ := h.at_ i hi
  exact up _ _ ⟨blocks v', ⟨hl, rfl⟩, ho, hb⟩
/-- the last two are one -/
theorem join {t1 t2 t' : Thing} (h : Own w0 S0 w (L ++ [t1, t2])) (f : ∀ S1 S2, t1.is w S1 → t2.is w S2 → t'.is w (S1 ++ S2)) : Own w0 S0 w (L ++ [t']) := by
  obtain ⟨own, ho⟩ := h.has
  refine ⟨h.out, fun k => if own k = L.length + 1 then L.length else own k, fun i t hi => ?_⟩
  rcases Nat.lt_trichotomy i L.length with h1 | h1 | h1
  · rw [List.getElem?_append_left h1] at hi
    obtain ⟨S, j1, j2⟩ := ho i t (by rw [List.getElem?_append_left h1]; exact hi)
    exact ⟨S, j1, fun k hk => ⟨by show (if _ then _ else _) = _; rw [(j2 k hk).1]; exact if_neg (by omega), (j2 k hk).2⟩⟩
  · subst h1
    simp only [List.getElem?_append_right (Nat.le_refl _), Nat.sub_self, List.getElem?_cons_zero, Option.some.injEq] at hi
    subst hi
    obtain ⟨S1, a1, a2⟩ := ho L.length t1 (by simp)
    obtain ⟨S2, b1, b2⟩ := ho (L.length + 1) t2 (by rw [List.getElem?_append_right (by omega)]; simp)
    refine ⟨S1 ++ S2, f _ _ a1 b1, fun k hk => ?_⟩
    rcases List.mem_append.1 hk with hk | hk
    · exact ⟨by show (if _ then _ else _) = _; rw [(a2 k hk).1]; exact if_neg (by omega), (a2 k hk).2⟩
    · exact ⟨by show (if _ then _ else _) = _; rw [(b2 k hk).1]; exact if_pos rfl, (b2 k hk).2⟩
  · rw [List.getElem?_append_right (by omega)] at hi
    simp only [List.getElem?_singleton] at hi
    split at hi
    · omega
    · cases hi
/-- fewer -/
theorem cut (h : Own w0 S0 w L) (i : Nat) {E size n c : Nat} {A : Option Addr} {es : List (List Value)} (hi : L[i]? = some (Thing.lst E size (.slice A n c) es)) {k : Nat} (hk : k ≤ es.length) : Own w0 S0 w (L.set i (Thing.lst E size (.slice A k c) (es.take k))) :=
  h.alike i hi (fun S hS => ⟨hS.1.cut hk, hS.2.trans (blocks_any A n c k c)⟩)
end Own
/-- a log, what the law keeps of it, and the rows -/
def kbox (g : Nat) (s : LgS) (ns : List Int) (D : Option Addr) (m cd : Nat) (M : Option Addr) (cm : Nat) (vs : List Value) : List Thing :=
  [logT g s, Thing.lst 31 1 (.slice D m cd) (vs.map vRow), Thing.lst 3 1 (.slice M m cm) ((marks ns).map intRow), rowsT vs ns]
theorem kbox_row {w0 w : World} {L : List Thing} {ns : List Int} {D : Option Addr} {m cd : Nat} {vs : List Value} (h : Own w0 [] w L) (h1 : L[1]? = some (Thing.lst 31 1 (.slice D m cd) (vs.map vRow))) (h3 : L[3]? = some (rowsT vs ns)) {j : Nat} (hj : j ≤ ns.length) :
    ∃ gd A cap, D = some ⟨gd, 0, none⟩ ∧ gd < w.heap.size ∧ w.cell? ⟨gd, j, none⟩ = some (.slice A (adds (ns.take j)).length cap) ∧ vs[j]? = some (.slice A (adds (ns.take j)).length cap) ∧ Lst w 34 2 (.slice A (adds (ns.take j)).length cap) ((adds (ns.take j)).map rngRow) := by
  obtain ⟨A, cap, hv, hl⟩ := h.row 3 h3 hj
  have hd := h.ls 1 h1
  obtain ⟨D', cd', e, _, _, hD⟩ := hd.shape
  simp only [Value.slice.injEq] at e
  obtain ⟨rfl, _, rfl⟩ := e
  rcases hD with ⟨_, h0, _⟩ | ⟨gd, rfl⟩
  · have : vs = [] := by simpa using h0
    subst this
    simp at hv
  · refine ⟨gd, A, cap, rfl, hd.lt gd (by simp [Value.ownBlock]), ?_, hv, hl⟩
    have := hd.cell rfl (i := j) (j := 0) (e := vRow (.slice A (adds (ns.take j)).length cap)) (u := .slice A (adds (ns.take j)).length cap) (by rw [List.getElem?_map, hv]; rfl) rfl
    simpa using this
theorem kbox_mark {w0 w : World} {L : List Thing} {ns : List Int} {M : Option Addr} {m cm : Nat} (h : Own w0 [] w L) (h2 : L[2]? = some (Thing.lst 3 1 (.slice M m cm) ((marks ns).map intRow))) {j : Nat} (hj : j ≤ ns.length) :
    ∃ gm, M = some ⟨gm, 0, none⟩ ∧ gm < w.heap.size ∧ w.cell? ⟨gm, j, none⟩ = some (.int .i64 ((rcs (ns.take j)).length : Int)) := by
  have hd := h.ls 2 h2
  have hv := marks_at hj
  obtain ⟨D', cd', e, _, _, hD⟩ := hd.shape
  simp only [Value.slice.injEq] at e
  obtain ⟨rfl, _, rfl⟩ := e
  rcases hD with ⟨_, h0, _⟩ | ⟨gd, rfl⟩
  · have : marks ns = [] := by simpa using h0
    rw [this] at hv
    simp at hv
  · refine ⟨gd, rfl, hd.lt gd (by simp [Value.ownBlock]), ?_⟩
    have := hd.cell rfl (i := j) (j := 0) (e := intRow ((rcs (ns.take j)).length : Int)) (u := .int .i64 ((rcs (ns.take j)).length : Int)) (by rw [List.getElem?_map, hv]; rfl) rfl
    simpa using this
theorem kbox_cap {w0 w : World} {L : List Thing} {i E m cd : Nat} {D : Option Addr} {es : List (List Value)} (h : Own w0 [] w L) (h1 : L[i]? = some (Thing.lst E 1 (.slice D m cd) es)) : m = es.length ∧ m ≤ cd ∧ cd ≤ 9223372036854775807 := by
  obtain ⟨D', cd', e, h2, h3, _⟩ := (h.ls i h1).shape
  simp only [Value.slice.injEq] at e
  obtain ⟨_, rfl, rfl⟩ := e
  unfold maxLen at h3
  exact ⟨rfl, h2, by omega⟩
/-- what is known of a log, the numbers in it, and how many -/
structure Kp (s : LgS) (ns : List Int) (m p : Nat) : Prop where
  ok : ∃ t, LgOk s ns t
  hm : m = ns.length + 1
  le : ns.length ≤ p
theorem Kp.few {s : LgS} {ns : List Int} {m p : Nat} (h : Kp s ns m p) : s.by_.size ≤ 1000000 ∧ 0 ≤ s.safe ∧ s.safe ≤ (s.by_.size : Int) := by
  obtain ⟨t, ht⟩ := h.ok
  exact ⟨ht.few, ht.s0, ht.safe_le⟩
theorem Kp.fail {s : LgS} {ns : List Int} {m p : Nat} (h : Kp s ns m p) (n : Int) : Kp (s.fail n) ns m p := by
  obtain ⟨t, ht⟩ := h.ok
  exact ⟨⟨t, ht.fail n⟩, h.hm, h.le⟩
theorem sync_two (s : LgS) : s.syncE = 6 ∨ (s.syncE = 0 ∧ s.sync.safe = (s.sync.by_.size : Int)) := by
  unfold LgS.syncE LgS.sync
  by_cases h1 : s.st = true
  · left; rw [if_pos (Or.inl h1)]
  · by_cases h2 : s.left = 0
    · left; rw [if_pos (Or.inr h2)]
    · right
      rw [if_neg (by rintro (h | h) <;> contradiction), if_neg h1, if_neg h2]
      exact ⟨rfl, rfl⟩
theorem Kp.sync {s : LgS} {ns : List Int} {m p : Nat} (h : Kp s ns m p) : Kp s.sync ns m p := by
  obtain ⟨t, ht⟩ := h.ok
  exact ⟨⟨t, ht.sync⟩, h.hm, h.le⟩
theorem marks_few {s : LgS} {ns : List Int} {m p : Nat} (h : Kp s ns m p) (hp : p ≤ 60) : ∀ z ∈ marks ns, 0 ≤ z ∧ z ≤ 1000000 := by
  obtain ⟨t, ht⟩ := h.ok
  intro z hz
  unfold marks at hz
  obtain ⟨i, hi, rfl⟩ := List.mem_map.1 hz
  have h1 := rcs_few (ht.fit.take i)
  have h2 := h.le
  rw [List.length_take] at h1
  omega
theorem kbox_start {w0 w : World} {g : Nat} (h : Own w0 [] w [logT g lg0]) : Own w0 [] ((w.alloc (.cells #[.slice none 0 0] 31)).alloc (.cells #[.int .i64 0] 3)) (kbox g lg0 [] (some ⟨w.heap.size, 0, none⟩) 1 1 (some ⟨w.heap.size + 1, 0, none⟩) 1 [.slice none 0 0]) := by
  have h1 := h.add ((Since.refl w).alloc (.cells #[.slice none 0 0] 31)) (t := Thing.lst 31 1 (.slice (some ⟨w.heap.size, 0, none⟩) 1 1) [[.slice none 0 0]]) (S := [w.heap.size]) ⟨Lst.one _ _ _ rfl, rfl⟩ (by simp)
  have h2 := h1.add ((Since.refl (w.alloc (.cells #[.slice none 0 0] 31))).alloc (.cells #[.int .i64 0] 3)) (t := Thing.lst 3 1 (.slice (some ⟨w.heap.size + 1, 0, none⟩) 1 1) [[.int .i64 0]]) (S := [w.heap.size + 1]) ⟨by
    have := Lst.one (w.alloc (.cells #[.slice none 0 0] 31)) 3 (.int .i64 0) rfl
    simpa using this, rfl⟩ (by simp)
  exact h2.add (Since.refl _) (S := []) (rowsT_one _) (by simp)
theorem kbox_marks {w0 w : World} {L : List Thing} {ns : List Int} {M : Option Addr} {m cm : Nat} (h : Own w0 [] w L) (h2 : L[2]? = some (Thing.lst 3 1 (.slice M m cm) ((marks ns).map intRow))) :
    ∃ gm, M = some ⟨gm, 0, none⟩ ∧ gm < w.heap.size ∧ ∀ j, j ≤ ns.length → w.cell? ⟨gm, j, none⟩ = some (.int .i64 ((rcs (ns.take j)).length : Int)) := by
  obtain ⟨gm, rfl, hlt, _⟩ := kbox_mark h h2 (Nat.zero_le _)
  refine ⟨gm, rfl, hlt, fun j hj => ?_⟩
  obtain ⟨g2, e, _, hc⟩ := kbox_mark h h2 hj
  simp only [Option.some.injEq, Addr.mk.injEq, and_true] at e
  rw [e]; exact hc
/-- a slice of the things grew by one -/
theorem Own.push {w0 w w' : World} {S0 : List Nat} {L : List Thing} (h : Own w0 S0 w L) (i : Nat) {E size n c q : Nat} {v : Value} {es es' : List (List Value)} (hi : L[i]? = some (Thing.lst E size v es)) (hl : Lst w' E size (.slice (some ⟨q, 0, none⟩) n c) es') (ho : Out w w' (blocks v)) (hq : q ∈ blocks v ∨ q = w.heap.size) : Own w0 S0 w' (L.set i (Thing.lst E size (.slice (some ⟨q, 0, none⟩) n c) es')) :=
  h.grow i hi hl ho (fun k hk => by
    rw [blocks_at, List.mem_singleton] at hk
    subst hk
    rcases hq with hq | hq
    · exact Or.inl hq
    · exact Or.inr (Nat.le_of_eq hq.symm))
/-- the law's records have one more -/
theorem kbox_more {w0 w : World} {g b cB m m' cd cm : Nat} {s : LgS} {ns : List Int} {x : Int} {D M B : Option Addr} {vs : List Value} {z : Int} (hb : b = (adds (ns ++ [x])).length) (hz : z = ((rcs (ns ++ [x])).length : Int))
    (h : Own w0 [] w [logT g s, Thing.lst 31 1 (.slice D m cd) (vs.map vRow ++ [[.slice B b cB]]), Thing.lst 3 1 (.slice M m' cm) ((marks ns).map intRow ++ [intRow z]), rowsT vs ns, Thing.lst 34 2 (.slice B b cB) ((adds (ns ++ [x])).map rngRow)]) (hm : m' = m) :
    Own w0 [] w (kbox g s (ns ++ [x]) D m cd M cm (vs ++ [.slice B b cB])) := by
  subst hm hb hz
  have h1 := Own.join (L := [logT g s, Thing.lst 31 1 (.slice D m' cd) (vs.map vRow ++ [[.slice B _ cB]]), Thing.lst 3 1 (.slice M m' cm) ((marks ns).map intRow ++ [intRow _])]) (t' := rowsT (vs ++ [.slice B (adds (ns ++ [x])).length cB]) (ns ++ [x])) h (fun S1 S2 a b => by
    have := rowsT_snoc a b.1
    rw [b.2]; exact this)
  unfold kbox
  rw [marks_snoc, List.map_append, List.map_append]
  exact h1
/-- what is behind the crash -/
theorem kbox_cut {w0 w : World} {g m cd cm : Nat} {s : LgS} {ns : List Int} {D M : Option Addr} {vs : List Value} (h : Own w0 [] w (kbox g s ns D m cd M cm vs)) {j : Nat} (hj : j ≤ ns.length) :
    Own w0 [] w (kbox g s (ns.take j) D (j + 1) cd M cm (vs.take (j + 1))) := by
  have hv := h.rows_len 3 rfl
  have h1 := h.cut 1 (k := j + 1) rfl (by rw [List.length_map]; omega)
  have h2 := h1.cut 2 (k := j + 1) rfl (by rw [List.length_map, marks_len]; omega)
  have h3 := h2.alike 3 (t' := rowsT (vs.take (j + 1)) (ns.take j)) rfl (fun S hS => rowsT_take hS hj)
  unfold kbox
  rw [← marks_take _ hj, List.map_take, List.map_take]
  exact h3
theorem Kp.step {s : LgS} {ns : List Int} {m p : Nat} (h : Kp s ns m p) (hp : p ≤ 60) (x : Int) :
    (lgE s x = 0 ∧ lgB s x = true ∧ addE (adds ns) x = 0 ∧ addB (adds ns) x = true ∧ (s.by_.size + 2 ≤ (lgN s x).by_.size ∧ (lgN s x).by_.size ≤ 1000000 ∧ ((lgN s x).by_.size : Int) = ((rcs (ns ++ [x])).length : Int)) ∧ Kp (lgN s x) (ns ++ [x]) (m + 1) (p + 1)) ∨
    (lgE s x = 6 ∧ lgB s x = false ∧ Kp (lgN s x) ns m (p + 1)) ∨
    (lgE s x = addE (adds ns) x ∧ lgB s x = false ∧ addB (adds ns) x = false ∧ (addE (adds ns) x = 0 ∨ addE (adds ns) x = 1 ∨ addE (adds ns) x = 4) ∧ lgN s x = s ∧ Kp (lgN s x) ns m (p + 1)) := by
  obtain ⟨t, ht⟩ := h.ok
  have h1 := h.hm
  have h2 := h.le
  rcases ht.step (by omega) x with ⟨a1, a2, a3, a4, a5, a6⟩ | ⟨a1, a2, t', a3⟩ | ⟨a1, a2, a3, a4⟩
  · exact Or.inl ⟨a1, a2, a3, a4, ⟨by omega, a6.few, a6.size⟩, ⟨⟨[], a6⟩, by rw [List.length_append, List.length_singleton, h1], by rw [List.length_append, List.length_singleton]; omega⟩⟩
  · exact Or.inr (Or.inl ⟨a1, a2, ⟨⟨t', a3⟩, h1, by omega⟩⟩)
  · refine Or.inr (Or.inr ⟨a1, a2, a3, ?_, a4, by rw [a4]; exact ⟨⟨t, ht⟩, h1, by omega⟩⟩)
    rw [(step_words ht.fit x).1]
    split
    · split <;> simp
    · simp
theorem Kp.all {s : LgS} {ns : List Int} {m p : Nat} (h : Kp s ns m p) : s.all = adds ns ∧ (adds ns).length ≤ 12 := by
  obtain ⟨t, ht⟩ := h.ok
  have := ht.fit.rng _ (Nat.le_refl _)
  rw [List.take_length] at this
  exact ⟨ht.all, rngE_len this⟩
theorem Kp.left_ {s : LgS} {ns : List Int} {m p j : Nat} (h : Kp s ns m p) (hj : j ≤ ns.length) : Kp (LgS.left_ (ns.take j)) (ns.take j) (j + 1) p := by
  obtain ⟨t, ht⟩ := h.ok
  have h2 := h.le
  refine ⟨⟨[], LgS.left_ok (ht.fit.take j) ?_⟩, ?_, ?_⟩
  · have := ht.nn
    rw [List.length_take]; omega
  · rw [List.length_take]; omega
  · rw [List.length_take]; omega
theorem kall {w0 wr : World} {g n : Nat} {s : LgS} {J : List Rng} {L : List Thing} (h : Own w0 [] wr L) (h0 : L[0]? = some (logT g s)) (ha : s.all = J) (hn : J.length = n) (W : World) (hW : Since wr W) :
    Calls Tryz.prog 9 #[.pointer (some ⟨g, 0, none⟩)] W fun e w' => ∃ A' cap', e = .returned (.slice A' n cap') ∧ Lst w' 34 2 (.slice A' n cap') (J.map rngRow) ∧ Below W.heap.size W w' := by
  obtain ⟨S, hS, _⟩ := (h.later hW).at_ 0 h0
  refine (gall g s W S hS).mono ?_
  rintro e w' ⟨A', c', rfl, h1, h2, _⟩
  subst ha hn
  exact ⟨A', c', rfl, h1, h2⟩
/-- the first log -/
theorem len7 : (rcs [7]).length = 2 := by kernel_rfl
theorem len79 : (rcs [7, 9]).length = 4 := by kernel_rfl
def k1 : LgS := lgN lg0 7
def k2 : LgS := k1.sync
def k3 : LgS := lgN k2 9
theorem one_fact : lgB lg0 7 = true ∧ lgE lg0 7 = 0 ∧ k1.syncE = 0 ∧ lgB k2 7 = false ∧ lgE k2 7 = 0 ∧ lgN k2 7 = k2 ∧ lgE k2 9 = 0 ∧ k1.by_.size ≤ 1000000 ∧ k2.by_.size ≤ 1000000 ∧ LgOk k3 [7, 9] [] ∧ (∀ j, Whole [7, 9] (k3.high 0) j → j = 1) ∧ adds [7] = [⟨7, 7⟩] := by
  have b0 : addB [] 7 = true := by decide
  have a1 : lgB lg0 7 = true := by unfold lgB; rw [show lg0.all = [] from rfl, b0]; rfl
  have a2 : lgE lg0 7 = 0 := by
    rcases LgOk.new.came (by decide) 7 with ⟨_, h, _⟩ | ⟨h, _⟩
    · exact h
    · rw [a1] at h; cases h
  have o1 : LgOk k1 [7] [] ∧ k1.st = false := by
    rcases LgOk.new.came (by decide) 7 with ⟨_, _, h, h2, _⟩ | ⟨h, _⟩
    · exact ⟨h, h2⟩
    · rw [a1] at h; cases h
  have l1 : k1.left = -1 := by
    unfold k1 lgN
    rw [if_neg (by decide), show lg0.all = [] from rfl, if_pos b0, if_neg (by decide)]
    rfl
  have e1 : k1.syncE = 0 := by
    unfold LgS.syncE
    rw [o1.2, l1]
    rfl
  have k2e : k2 = { k1.step with safe := k1.by_.size } := by
    unfold k2 LgS.sync
    rw [o1.2, if_neg (by decide), l1, if_neg (by decide)]
  have k2s : k2.st = false := by rw [k2e]; show decide (k1.left = 0) = false; rw [l1]; rfl
  have k2l : k2.left = -1 := by rw [k2e]; show max (-1) (k1.left - 1) = -1; rw [l1]; rfl
  have o2 : LgOk k2 [7] [] := o1.1.sync
  have ad7 : adds [7] = [⟨7, 7⟩] := by decide
  have b7 : addB (adds [7]) 7 = false := by rw [ad7]; decide
  have e7 : addE (adds [7]) 7 = 0 := by rw [ad7]; decide
  have b9 : addB (adds [7]) 9 = true := by rw [ad7]; decide
  have c1 : lgB k2 7 = false := by unfold lgB; rw [o2.all, b7]; simp
  have c2 : lgE k2 7 = 0 := by unfold lgE; rw [k2s, if_neg (by decide), o2.all, if_pos e7, b7, if_neg (by simp)]
  have c3 : lgN k2 7 = k2 := by unfold lgN; rw [k2s, if_neg (by decide), o2.all, b7, if_neg (by decide)]
  have d1 : lgB k2 9 = true := by unfold lgB; rw [o2.all, b9, k2s, k2l]; rfl
  have o3 : LgOk k3 [7, 9] [] ∧ lgE k2 9 = 0 := by
    rcases o2.came (by decide) 9 with ⟨_, h, h2, _⟩ | ⟨h, _⟩
    · exact ⟨h2, h⟩
    · rw [d1] at h; cases h
  refine ⟨a1, a2, e1, c1, c2, c3, o3.2, o1.1.few, o2.few, o3.1, fun j hj => ?_, ad7⟩
  have s3 : k3.safe = 2 := by
    have : k3.safe = k2.safe := by
      unfold k3 lgN
      rw [k2s, if_neg (by decide), o2.all, if_pos b9, k2l, if_neg (by decide)]
      rfl
    rw [this, k2e]
    show (k1.by_.size : Int) = 2
    rw [o1.1.size, len7]
    rfl
  have hh : k3.high 0 = 2 := by
    unfold LgS.high
    have := o3.1.safe_le
    rw [s3] at *
    omega
  rw [hh] at hj
  have m1 := hj.most 1 (by decide) (by show ((rcs [7]).length : Int) ≤ 2; rw [len7]; decide)
  have hle := hj.le
  have hin := hj.in_
  have : j ≤ 2 := hle
  rcases (by omega : j = 1 ∨ j = 2) with h | h
  · exact h
  · subst h
    have h4 : ((rcs [7, 9]).length : Int) ≤ 2 := hin
    rw [len79] at h4
    omega
end Go.Proofs.YtjjmoaaongnjiaaGreatDoor
