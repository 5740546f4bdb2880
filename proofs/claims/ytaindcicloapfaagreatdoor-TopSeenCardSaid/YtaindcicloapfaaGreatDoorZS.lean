/- Contracts and plain laws that the claim leans on, part 1 of 1: each part has its own word. No condition beside theirs. -/
import Derived.Test.YtaindcicloapfaaGreatDoorZF
import Derived.RangeFuncBox
import Derived.RangeFuncCalls
import Derived.Lib.LaidTab
import Derived.Lib.ItoaNum
import Derived.Stop.LaidErr
import Derived.Test.YtaindcicloapfaaGreatDoorShelf
import Derived.Lib.ItoaMem
import Derived.Sort.Grow
import Derived.Lib.Atoi
import Derived.Lib.LastIndexLaws
import Derived.Lib.IndexLaws
import Derived.Lib.Strings
import Derived.RangeFuncNested
import Derived.RangeFuncLeaves
import Derived.Shelf.Abstract
import Derived.Shelf.RegionOpen
import Derived.WalkKit
import Derived.OwnWalkIn
import Derived.TacticsInMore
import Derived.LoopNIn
import Derived.LoopIn
import Derived.Lib.AtoiErrMem
import Derived.BigRegion
import Derived.Deep.QuietTactic
import Derived.BigQuiet
import Derived.Deep.DeepCutAuto
/-! A range over a function whose own state is one cell that it writes between the rounds; a round that always goes on. No condition of its own. -/
namespace Go.Proofs.YtaindcicloapfaaGreatDoor
open Go.RowKit
set_option linter.unusedVariables false

section
variable {F : Fence} {n : Nat} {P : Program} {α : Type}
/-- what may happen to the caller's things between two rounds -/
structure Bears (gb : Nat) (J : List α → World → Prop) : Prop where
  drew : ∀ s A, J s A → J s A.drew
  cell : ∀ s A v, J s A → J s (A.setCell ⟨gb, 0, none⟩ v)
/-- the iterator's word: it hands over the elements one by one, each round goes on and leaves its cell as it was -/
def Hands (F : Fence) (n : Nat) (P : Program) (gf gb : Nat) (lb : Array Value) (encs : α → Array Value) (S : List α → Prop) (G : List α → α → Prop) (w0 : World) : Prop :=
  ∀ (l : Nat) (J : List α → World → Prop) (W : World), Below w0.heap.size w0 W → Bears gb J →
    (∀ pre x X, J pre X → G pre x → YieldAt F (n - 1) P l (encs x) X fun e X' => e = .returned (.bool true) ∧ J (pre ++ [x]) X' ∧ ∀ v, X.cell? ⟨gb, 0, none⟩ = some v → X.frozen? ⟨gb, 0, none⟩ = false → X'.cell? ⟨gb, 0, none⟩ = some v ∧ X'.frozen? ⟨gb, 0, none⟩ = false) →
    J [] W → CallsIn F n P gf (#[.func (.yield l) #[] #[]] ++ lb) W fun e X => (∃ v, e = .returned v) ∧ ∃ xs, S xs ∧ J xs X
theorem heap_far {A : World} {gb k : Nat} {o : Obj} (v : Value) (hk : k ≠ gb) (h : A.heap[k]? = some o) : (A.setCell ⟨gb, 0, none⟩ v).heap[k]? = some o := (Below.heap_setCell A ⟨gb, 0, none⟩ v k hk).trans h
theorem putObj_cell {A : World} {l gb : Nat} {o o' : Obj} (hne : gb ≠ l) : (∀ v, A.cell? ⟨gb, 0, none⟩ = some v → (A.putObj l o').cell? ⟨gb, 0, none⟩ = some v) ∧ (A.frozen? ⟨gb, 0, none⟩ = false → (A.putObj l o').frozen? ⟨gb, 0, none⟩ = false) := by
  have e : (A.putObj l o').heap[gb]? = A.heap[gb]? := World.putObj_heap_other hne
  refine ⟨fun v hv => ?_, fun hv => ?_⟩
  · unfold World.cell? at hv ⊢
    rw [e]; exact hv
  · unfold World.frozen? at hv ⊢
    rw [e]; exact hv
/-- the statement -/
theorem rangeW {g : Operand} {ps : Array Tmp} {assign body : Code} {Q : Exit → Act → World → Prop} {a : Act} {w : World} (hro : F.round = none) (h1 : 1 ≤ n) {gf gb : Nat} {lb : Array Value} (hg : a.eval g = .func (.func gf) #[] lb) (hFg : F.fn gf)
    (eg : ∀ args w, (callFunc gf args).run P w = .ok (.enter gf args) w) {encs : α → Array Value} {S : List α → Prop} {G : List α → α → Prop} (hgb : gb < w.heap.size) (hseq : Hands F (n - 1) P gf gb lb encs S G w) (hps : ∀ x, (encs x).size = ps.size)
    (I : List α → World → Prop) (hI : OwnFrom w.heap.size I) (hIb : Bears gb I) (h0 : I [] w) (a1 : α → Act)
    (hassign : ∀ (l : Nat) (x : α) (W : World) (K : Act → World → Prop), K (a1 x) W → assign.wpIn (F.inRound l) (n - 1 - 1) P (Exit.then K (fun _ _ _ => False)) { tmps := (ps.zip (encs x)).foldl (fun t (p, v) => t.setIfInBounds p v) a.tmps, defers := [] } W)
    (hbody : ∀ (l : Nat) (pre : List α) (x : α) (W : World), I pre W → G pre x → body.wpIn (F.inRound l) (n - 1 - 1) P (fun e _ X => e = .normal ∧ KeepsOthers W X ∧ I (pre ++ [x]) X ∧ ∀ v, W.cell? ⟨gb, 0, none⟩ = some v → W.frozen? ⟨gb, 0, none⟩ = false → X.cell? ⟨gb, 0, none⟩ = some v ∧ X.frozen? ⟨gb, 0, none⟩ = false) (a1 x) W)
    (hdone : ∀ (D : Nat) (xs : List α) (W : World), w.heap.size ≤ D → S xs → I xs W → W.heap[D]? = some (.deferred (some [])) → Q .normal { a with defers := { target := .collected D, args := #[] } :: a.defers } W) :
    (Code.rangeFunc g ps assign body).wpIn F n P Q a w := by
  refine wpIn_rangeFunc fun fn hfn => ?_
  rw [hro]
  obtain ⟨rc, hrc⟩ : ∃ rc : LoopState → Loop, rc = fun st => { state := st, pending := none, fn, tmps := a.tmps, params := ps, assign, body, defers := w.heap.size } := ⟨_, rfl⟩
  obtain ⟨W1, hW1⟩ : ∃ W1, (w.alloc (.deferred (some []))).alloc (.loop (rc .ready)) = W1 := ⟨_, rfl⟩
  have b1 : W1.heap[w.heap.size + 1]? = some (.loop (rc .ready)) := by
    rw [← hW1]
    have := World.alloc_heap_new (w.alloc (.deferred (some []))) (.loop (rc .ready))
    rwa [World.size_alloc] at this
  have b2 : W1.heap[w.heap.size]? = some (.deferred (some [])) := by
    rw [← hW1]
    exact (Below.heap_alloc _ _ _ (by simp)).trans (World.alloc_heap_new w _)
  have i1 : I [] W1 := by rw [← hW1]; exact hI.alloc _ (hI.alloc _ h0)
  have s1 : Below w.heap.size w W1 := by
    rw [← hW1]
    exact ((Below.refl _ w).alloc (Nat.le_refl _) _).alloc (by simp) _
  have key := hseq (w.heap.size + 1) (fun pre X => I pre X ∧ X.heap[w.heap.size + 1]? = some (.loop (rc .ready)) ∧ X.heap[w.heap.size]? = some (.deferred (some []))) W1 s1
    ⟨fun s A h => ⟨hIb.drew s A h.1, h.2.1, h.2.2⟩, fun s A v h => ⟨hIb.cell s A v h.1, heap_far v (by omega) h.2.1, heap_far v (by omega) h.2.2⟩⟩ ?_ ⟨i1, b1, b2⟩
  · refine ⟨w.heap.size + 1, [{ target := .collected w.heap.size, args := #[] }], W1, { target := .fn (.func gf) lb, args := #[.func (.yield (w.heap.size + 1)) #[] #[]] }, W1, gf, _, W1, ?_, ?_, ?_, ?_, fun _ => h1, key.mono ?_⟩
    · rw [← hW1, hrc]; exact run_enterLoop_outer _ _ _ _ _
    · simp only [resolve, hg]
      simp [go_sem]
    · intro f' hf'
      simp [Target.leads] at hf'
      subst hf'
      exact hFg
    · simp [invoke, go_sem, eg]
    · rintro e X ⟨⟨v, rfl⟩, xs, hS, hi, hl, hk⟩
      refine ⟨none, _, by have := run_endLoop (P := P) hl (by rw [hrc]; simp); rw [hrc] at this; exact this, ?_⟩
      exact hdone _ xs _ (Nat.le_refl _) hS (hI.putObj _ hi (by omega) hl rfl) ((World.putObj_heap_other (by omega)).trans hk)
  · rintro pre x X ⟨hi, hl, hk⟩ hlen
    have hlt : w.heap.size + 1 < X.heap.size := (Array.getElem?_eq_some_iff.1 hl).1
    have hy := run_yield (P := P) (args := encs x) hl (by rw [hrc]; exact hps x)
    rw [hrc] at hy
    refine ⟨fn, _, assign, body, hy, roundIn_of_wpIn hfn (hassign _ x X _ ⟨_, run_beginRound hl (by rw [hrc]), ?_⟩)⟩
    obtain ⟨Y, hY⟩ : ∃ Y, X.putObj (w.heap.size + 1) (.loop { rc .ready with state := .busy }) = Y := ⟨_, rfl⟩
    have y1 : Y.heap[w.heap.size + 1]? = some (.loop { rc .ready with state := .busy }) := by rw [← hY]; exact World.putObj_heap_same hlt
    have y2 : Y.heap[w.heap.size]? = some (.deferred (some [])) := by rw [← hY]; exact (World.putObj_heap_other (by omega)).trans hk
    have y3 : I pre Y := by rw [← hY]; exact hI.putObj _ hi (by omega) hl rfl
    have y4 := putObj_cell (A := X) (l := w.heap.size + 1) (gb := gb) (o := .loop (rc .ready)) (o' := .loop { rc .ready with state := .busy }) (by omega)
    rw [hY] at y4
    rw [hY]
    refine wpIn_mono (hbody _ pre x Y y3 hlen) ?_
    rintro e a3 Z ⟨rfl, k1, k2, k3⟩
    have z1 := k1.same _ _ y1 rfl
    have z2 := k1.same _ _ y2 rfl
    have hr := run_endRound (P := P) none z1
    refine ⟨_, _, hr, rfl, ⟨hI.putObj _ k2 (by omega) z1 rfl, ?_, (World.putObj_heap_other (by omega)).trans z2⟩, fun v hv hf => ?_⟩
    · rw [World.putObj_heap_same (Array.getElem?_eq_some_iff.1 z1).1]
      rw [hrc]
      rfl
    · obtain ⟨c1, c2⟩ := k3 v (y4.1 v hv) (y4.2 hf)
      have z4 := putObj_cell (A := Z) (l := w.heap.size + 1) (gb := gb) (o := .loop (rc .ready)) (o' := .loop { rc .ready with state := .ready }) (by omega)
      exact ⟨(putObj_cell (A := Z) (l := w.heap.size + 1) (gb := gb) (o := .loop (rc .ready)) (o' := _) (by omega)).1 v c1, (putObj_cell (A := Z) (l := w.heap.size + 1) (gb := gb) (o := .loop (rc .ready)) (o' := _) (by omega)).2 c2⟩
end
end Go.Proofs.YtaindcicloapfaaGreatDoor

/-! What the rows' lists give a walk where strconv's table of powers is among them, and a world that meets them. -/
namespace Go.Proofs.YtaindcicloapfaaGreatDoor
open Go.ChangeShapes Go.WideShapes Go.ChangeAt Go.RowKit
set_option linter.unusedVariables false

/-- the table of powers -/
def PTab (w : World) : Prop := Lib.TabIs Tryz.prog w "internal/strconv.uint64pow10" .u64 Lib.pow10Tab
theorem Tryz.powName : Tryz.prog.globalNamed "internal/strconv.uint64pow10" = some 4 := by kernel_rfl
theorem PTab.lt {w : World} (h : PTab w) : 4 < w.heap.size := by
  have h0 := Lib.TabIs.cell h Tryz.powName 0 (by decide)
  rcases Nat.lt_or_ge 4 w.heap.size with h1 | h1
  · exact h1
  · simp [World.cell?, Array.getElem?_eq_none h1] at h0
theorem PTab.later {w w1 : World} (h : PTab w) (hb : Below w.heap.size w w1) : PTab w1 := by
  have e := hb.block _ h.lt
  unfold PTab Lib.TabIs World.var? at h ⊢
  rw [Tryz.powName] at h ⊢
  simp only [Option.bind_some] at h ⊢
  rw [e]
  exact h
theorem ptab_of_head {W : World} {rest : List (String × DataW Unit)} (h : laidMet Tryz.prog (("internal/strconv.uint64pow10", Rows.laid_internal_strconv_uint64pow10) :: rest) W) : PTab W :=
  Lib.tabIs_of_head (zs := Lib.pow10Tab) Tryz.powName (t := 303) (by kernel_rfl) (e := 280) (n := 20) (by kernel_rfl) (by kernel_rfl) (by kernel_rfl) (by kernel_rfl) h
theorem laid_p {W : World} (h : laidMetH Tryz.prog [("math/bits.deBruijn32tab", Rows.laid_math_bits_deBruijn32tab), ("math/bits.deBruijn64tab", Rows.laid_math_bits_deBruijn64tab), ("internal/strconv.uint64pow10", Rows.laid_internal_strconv_uint64pow10)] W) : PTab W := by
  have h' : laidMet Tryz.prog [("math/bits.deBruijn32tab", Rows.laid_math_bits_deBruijn32tab), ("math/bits.deBruijn64tab", Rows.laid_math_bits_deBruijn64tab), ("internal/strconv.uint64pow10", Rows.laid_internal_strconv_uint64pow10)] W := h
  exact ptab_of_head h'.tail.tail
def litCells : List (DataW Unit) → List Value
  | .lit (.int k n) :: r => .int k n :: litCells r
  | _ => []
def tabCells : DataW Unit → Array Value
  | .agg l => (litCells l).toArray
  | _ => #[]
/-- A world that meets the lists: the settled one, the listed variables' cells laid. -/
noncomputable def laidWorld3 (os : Os) : World :=
  let w0 := World.holding Tryz.prog os ⟨#[], #[], []⟩
  { w0 with heap := w0.heap
    |>.modify 0 (fun
      | .cells _ t frozen => .cells #[.iface 253 (.agg #[.pointer (some ⟨9, 27, none⟩)])] t frozen
      | o => o)
    |>.modify 7 (fun
      | .cells _ t frozen => .cells (tabCells Rows.laid_math_bits_deBruijn32tab) t frozen
      | o => o)
    |>.modify 8 (fun
      | .cells _ t frozen => .cells (tabCells Rows.laid_math_bits_deBruijn64tab) t frozen
      | o => o)
    |>.modify 4 (fun
      | .cells _ t frozen => .cells (tabCells Rows.laid_internal_strconv_uint64pow10) t frozen
      | o => o)
  }
set_option maxRecDepth 100000 in
theorem laidMet_p (os : Os) (args : Array Value) : laidMetH Tryz.prog [("math/bits.deBruijn32tab", Rows.laid_math_bits_deBruijn32tab), ("math/bits.deBruijn64tab", Rows.laid_math_bits_deBruijn64tab), ("internal/strconv.uint64pow10", Rows.laid_internal_strconv_uint64pow10)] ((laidWorld3 os).forCall (fun _ _ => 0) ⟨#[], args, []⟩).memory :=
  laidMet_of_run' 8 (by kernel_rfl) (by kernel_rfl)
end Go.Proofs.YtaindcicloapfaaGreatDoor

/-! strconv.Itoa at a number that may be one. Condition: the table of powers lies there. -/
namespace Go.Proofs.YtaindcicloapfaaGreatDoor
open Go.ChangeShapes Go.WideShapes Go.ChangeAt Go.RowKit
set_option linter.unusedVariables false

/-- the decimal numeral -/
def ita (n : Int) : ByteArray := ⟨(Lib.itoa n).toArray⟩
theorem nDig : ∀ (k u : Nat), u < 10 ^ k → 1 ≤ Lib.nDigits u ∧ Lib.nDigits u ≤ k + (if k = 0 then 1 else 0)
  | 0, u, h => by
    have : u = 0 := by simpa using h
    subst this
    unfold Lib.nDigits
    simp
  | k + 1, u, h => by
    unfold Lib.nDigits
    by_cases h10 : u < 10
    · rw [dif_pos h10]; simp
    · rw [dif_neg h10]
      have ih := nDig k (u / 10) (by rw [Nat.pow_succ] at h; omega)
      cases k with
      | zero => simp at h; omega
      | succ k => simp only [Nat.add_eq_zero_iff, Nat.one_ne_zero, and_false, if_false] at ih ⊢; omega
theorem ita_size {n : Int} (h0 : 0 ≤ n) (h1 : n ≤ 1073741823) : 1 ≤ (ita n).size ∧ (ita n).size ≤ 10 := by
  obtain ⟨u, rfl⟩ : ∃ u : Nat, n = u := ⟨n.toNat, by omega⟩
  have e : (ita (u : Int)).size = Lib.nDigits u := by
    show (Lib.itoa (u : Int)).toArray.size = _
    rw [Lib.itoa_nonneg, List.size_toArray, Lib.decDigits_length]
  rw [e]
  have := nDig 10 u (by omega)
  simpa using this
theorem below_grow (w : World) (k : Nat) (os : Array Obj) : Below w.heap.size w (Go.Sort.grow (w.drewN k) os) :=
  ⟨rfl, rfl, rfl, by show w.heap.size ≤ (w.heap ++ os).size; simp, fun i hi => by
    show (w.heap ++ os)[i]? = w.heap[i]?
    rw [Array.getElem?_append_left hi]⟩
theorem itoaC (n : Int) (h0 : 0 ≤ n) (h1 : n ≤ 1073741823) (w : World) (hp : PTab w) :
    Calls Tryz.prog 104 #[.int .i64 n] w fun e w' => e = .returned (.string (ita n)) ∧ Below w.heap.size w w' := by
  refine (Tryz.strconv_Itoa n (by omega) (by omega) w hp).mono ?_
  rintro e w' ⟨rfl, k, os, rfl⟩
  exact ⟨rfl, below_grow w k os⟩
end Go.Proofs.YtaindcicloapfaaGreatDoor

/-! The bytes of a log, in plain words: records one behind the other, each a decimal numeral and a newline; what cutting, searching and reading them gives. No program here. -/
namespace Go.Proofs.YtaindcicloapfaaGreatDoor
open Go.RowKit
set_option linter.unusedVariables false

/-- a record's bytes -/
def rcb (n : Int) : List UInt8 := Lib.itoa n ++ [10]
def rcs (ns : List Int) : List UInt8 := (ns.map rcb).flatten
theorem rcs_nil : rcs [] = [] := rfl
theorem rcs_cons (n : Int) (ns : List Int) : rcs (n :: ns) = rcb n ++ rcs ns := rfl
theorem rcs_app (ns ms : List Int) : rcs (ns ++ ms) = rcs ns ++ rcs ms := by unfold rcs; rw [List.map_append, List.flatten_append]
theorem dig_all (u : Nat) : ∀ b ∈ Lib.decDigits u, 48 ≤ b.toNat ∧ b.toNat ≤ 57 := by
  induction u using Nat.strongRecOn with
  | _ u ih =>
    intro b hb
    rw [Lib.decDigits] at hb
    split at hb
    · rename_i h
      rw [List.mem_singleton.1 hb, UInt8.toNat_ofNat']
      omega
    · rename_i h
      rcases List.mem_append.1 hb with hb | hb
      · exact ih (u / 10) (by omega) b hb
      · rw [List.mem_singleton.1 hb, UInt8.toNat_ofNat']
        omega
theorem dig_app (l : List UInt8) (d : Nat) (hd : d < 10) : ∀ (acc n : Nat), Lib.decFrom acc l = some n → Lib.decFrom acc (l ++ [UInt8.ofNat (48 + d)]) = some (n * 10 + d) := by
  induction l with
  | nil =>
    intro acc n h
    have h1 : acc = n := by simpa [Lib.decFrom] using h
    subst h1
    have hv : Lib.digitVal (UInt8.ofNat (48 + d)) = some d := by
      unfold Lib.digitVal
      rw [UInt8.toNat_ofNat', if_pos (by omega)]
      congr 1
      omega
    show Lib.decFrom acc [UInt8.ofNat (48 + d)] = _
    rw [Lib.decFrom, hv]
    rfl
  | cons b r ih =>
    intro acc n h
    rw [List.cons_append]
    rw [Lib.decFrom] at h ⊢
    cases hv : Lib.digitVal b with
    | none => rw [hv] at h; cases h
    | some x => rw [hv] at h; exact ih _ _ h
theorem dig_read (u : Nat) : Lib.decFrom 0 (Lib.decDigits u) = some u := by
  induction u using Nat.strongRecOn with
  | _ u ih =>
    rw [Lib.decDigits]
    split
    · rename_i h
      have := dig_app [] u h 0 0 rfl
      simpa using this
    · rename_i h
      have := dig_app (Lib.decDigits (u / 10)) (u % 10) (by omega) 0 (u / 10) (ih (u / 10) (by omega))
      rw [this]
      congr 1
      omega
theorem ita_read {n : Int} (h0 : 0 ≤ n) : Lib.atoi (Lib.itoa n) = some n := by
  obtain ⟨u, rfl⟩ : ∃ u : Nat, n = u := ⟨n.toNat, by omega⟩
  rw [Lib.itoa_nonneg]
  have hr := dig_read u
  have ha := dig_all u
  have hl : 1 ≤ (Lib.decDigits u).length := by rw [Lib.decDigits_length]; unfold Lib.nDigits; split <;> omega
  generalize Lib.decDigits u = l at *
  cases l with
  | nil => simp at hl
  | cons b r =>
    have hb := ha b (by simp)
    have n1 : (b == 45) = false := by
      rw [beq_eq_false_iff_ne]
      rintro rfl
      simp at hb
    have n2 : (b == 43) = false := by
      rw [beq_eq_false_iff_ne]
      rintro rfl
      simp at hb
    rw [Lib.atoi, n1, n2]
    show (Lib.decNat (b :: r)).map _ = _
    unfold Lib.decNat
    rw [hr]
    rfl
theorem ita_no {n : Int} (h0 : 0 ≤ n) : ∀ b ∈ Lib.itoa n, b ≠ 10 := by
  obtain ⟨u, rfl⟩ : ∃ u : Nat, n = u := ⟨n.toNat, by omega⟩
  rw [Lib.itoa_nonneg]
  intro b hb h
  have := dig_all u b hb
  rw [h] at this
  simp at this
theorem index_at : ∀ (l r : List UInt8), (∀ b ∈ l, b ≠ 10) → Lib.indexByte (l ++ 10 :: r) 10 = (l.length : Int)
  | [], r, _ => by simp [Lib.indexByte]
  | b :: l, r, h => by
    have hb : (b == 10) = false := by simpa using h b (by simp)
    have ih := index_at l r (fun c hc => h c (by simp [hc]))
    have hne : ((l.length : Int) == -1) = false := by rw [beq_eq_false_iff_ne]; omega
    rw [List.cons_append, Lib.indexByte, hb, ih, hne, List.length_cons]
    simp
/-- where the first line ends -/
theorem rec_index {n : Int} (h0 : 0 ≤ n) (r : List UInt8) : Lib.indexByte (rcb n ++ r) 10 = ((Lib.itoa n).length : Int) := by
  unfold rcb
  rw [List.append_assoc]
  exact index_at _ _ (ita_no h0)
theorem rec_trim (n : Int) : Lib.trimSuffix (rcb n) [10] = Lib.itoa n := by
  unfold Lib.trimSuffix Lib.hasSuffix rcb
  have : ([10] : List UInt8).isSuffixOf (Lib.itoa n ++ [10]) = true := by
    rw [List.isSuffixOf_iff_suffix]
    exact List.suffix_append _ _
  rw [if_pos this, List.length_append]
  simp
theorem rcb_len (n : Int) : (rcb n).length = (Lib.itoa n).length + 1 := by unfold rcb; rw [List.length_append]; rfl
/-- no newline in these -/
def noNl (l : List UInt8) : Prop := ∀ b ∈ l, b ≠ 10
theorem occ_one (s : List UInt8) (k : Nat) : Lib.occAt s [10] k = decide (s[k]? = some 10) := by
  unfold Lib.occAt
  have e : s[k]? = (s.drop k).head? := by rw [List.head?_drop]
  rw [e]
  cases s.drop k with
  | nil => rfl
  | cons b r =>
    show ((10 == b) && true) = decide (some b = some 10)
    rw [Bool.and_true]
    by_cases h : b = 10
    · subst h; rfl
    · have h1 : ((10 : UInt8) == b) = false := by rw [beq_eq_false_iff_ne]; exact fun h2 => h h2.symm
      rw [h1, decide_eq_false (by simpa using h)]
theorem last_app (l t : List UInt8) (ht : noNl t) : Lib.lastIndex (l ++ 10 :: t) [10] = (l.length : Int) := by
  have hlen : (l ++ 10 :: t).length = l.length + t.length + 1 := by rw [List.length_append, List.length_cons]; omega
  unfold Lib.lastIndex
  rw [if_pos (by rw [hlen]; show 1 ≤ _; omega)]
  have hat : Lib.occAt (l ++ 10 :: t) [10] l.length = true := by
    rw [occ_one, decide_eq_true_iff, List.getElem?_append_right (Nat.le_refl _), Nat.sub_self]
    rfl
  have hno : ∀ j, l.length < j → Lib.occAt (l ++ 10 :: t) [10] j = false := by
    intro j hj
    rw [occ_one, decide_eq_false_iff_not, List.getElem?_append_right (by omega)]
    obtain ⟨m, hm⟩ : ∃ m, j - l.length = m + 1 := ⟨j - l.length - 1, by omega⟩
    rw [hm, List.getElem?_cons_succ]
    intro h
    exact ht 10 (List.mem_of_getElem? h) rfl
  have hk : l.length < (l ++ 10 :: t).length - [(10 : UInt8)].length + 1 := by rw [hlen]; show l.length < l.length + t.length + 1 - 1 + 1; omega
  rcases Lib.lastOcc_spec (l ++ 10 :: t) [10] ((l ++ 10 :: t).length - [(10 : UInt8)].length + 1) with ⟨_, h⟩ | ⟨i, hi, he, ho, h⟩
  · rw [h _ hk] at hat; cases hat
  · rw [he]
    rcases Nat.lt_trichotomy i l.length with h1 | h1 | h1
    · rw [h _ h1 hk] at hat; cases hat
    · rw [h1]
    · rw [hno _ h1] at ho; cases ho
theorem last_none (t : List UInt8) (ht : noNl t) : Lib.lastIndex t [10] = -1 := by
  unfold Lib.lastIndex
  split
  · rcases Lib.lastOcc_spec t [10] (t.length - [(10 : UInt8)].length + 1) with ⟨h, _⟩ | ⟨i, hi, he, ho, h⟩
    · exact h
    · rw [occ_one, decide_eq_true_iff] at ho
      exact absurd rfl (ht 10 (List.mem_of_getElem? ho))
  · rfl
/-- records, then bytes without a newline: where the last record ends -/
theorem rcs_last (ns : List Int) (t : List UInt8) (ht : noNl t) : Lib.lastIndex (rcs ns ++ t) [10] + 1 = ((rcs ns).length : Int) := by
  rcases List.eq_nil_or_concat ns with rfl | ⟨ms, n, rfl⟩
  · rw [rcs_nil, List.nil_append, last_none t ht]; rfl
  · rw [List.concat_eq_append, rcs_app]
    have e : rcs ms ++ rcs [n] ++ t = (rcs ms ++ Lib.itoa n) ++ 10 :: t := by
      have : rcs [n] = Lib.itoa n ++ [10] := by rw [rcs_cons, rcs_nil, List.append_nil]; rfl
      rw [this]; simp
    rw [e, last_app _ t ht]
    have : rcs [n] = Lib.itoa n ++ [10] := by rw [rcs_cons, rcs_nil, List.append_nil]; rfl
    rw [this, List.length_append, List.length_append, List.length_append]
    simp
    omega
/-- a beginning of the records: whole ones, and a part of one without its newline -/
theorem rcs_take (ns : List Int) (h : ∀ n ∈ ns, 0 ≤ n) : ∀ k, k ≤ (rcs ns).length → ∃ j t, j ≤ ns.length ∧ (rcs ns).take k = rcs (ns.take j) ++ t ∧ noNl t ∧ (j < ns.length → t.length < (rcb (ns.getD j 0)).length) := by
  induction ns with
  | nil => intro k hk; exact ⟨0, [], Nat.le_refl _, by simp [rcs], by intro b hb; simp at hb, by intro hh; simp at hh⟩
  | cons n ns ih =>
    intro k hk
    rw [rcs_cons, List.length_append] at hk
    by_cases hlt : k < (rcb n).length
    · refine ⟨0, (rcb n).take k, Nat.zero_le _, ?_, ?_, fun _ => ?_⟩
      · rw [rcs_cons, List.take_append_of_le_length (by omega)]; simp [rcs]
      · intro b hb
        rw [rcb_len] at hlt
        have e : (rcb n).take k = (Lib.itoa n).take k := by unfold rcb; rw [List.take_append_of_le_length (by omega)]
        rw [e] at hb
        exact ita_no (h n (by simp)) b (List.mem_of_mem_take hb)
      · rw [List.length_take]; show min k _ < _; simp; omega
    · obtain ⟨j, t, h1, h2, h3, h4⟩ := ih (fun m hm => h m (by simp [hm])) (k - (rcb n).length) (by omega)
      refine ⟨j + 1, t, by simp; omega, ?_, h3, fun hj => ?_⟩
      · rw [rcs_cons, List.take_append, List.take_of_length_le (by omega), h2, List.take_succ_cons, rcs_cons, List.append_assoc]
      · have := h4 (by simp at hj; omega)
        simpa using this
end Go.Proofs.YtaindcicloapfaaGreatDoor

/-! strings.Lines over whole records, as an iterator. Condition: the text is records one behind the other. -/
namespace Go.Proofs.YtaindcicloapfaaGreatDoor
open Go.ChangeShapes Go.WideShapes Go.ChangeAt Go.RowKit Go.Shelf
set_option linter.unusedVariables false
attribute [local go_sem] Oper.semAt_some

theorem cut_list (s : ByteArray) (a b : Nat) : (s.extract a b).data.toList = (s.data.toList.take b).drop a := by
  rw [ByteArray.data_extract, Array.toList_extract]
  rw [List.extract_eq_take_drop, List.drop_take]
def boxLen (gb : Nat) (w : World) : Nat := match w.cell? ⟨gb, 0, none⟩ with | some (.string b) => b.size | _ => 0
/-- what comes behind these -/
def nextOf (ns pre : List Int) (x : Int) : Prop := ∃ k, k < ns.length ∧ pre = ns.take k ∧ x = ns.getD k 0
def rcv (n : Int) : Value := .string ⟨(rcb n).toArray⟩
theorem cell_box {w : World} {gb : Nat} {v u : Value} (h : w.cell? ⟨gb, 0, none⟩ = some v) : (w.setCell ⟨gb, 0, none⟩ u).drew.cell? ⟨gb, 0, none⟩ = some u := World.cell?_setCell_same' w _ u (by rw [h]; rfl)
theorem frozen_box {w : World} {gb : Nat} {v u : Value} (h : w.cell? ⟨gb, 0, none⟩ = some v) (hf : w.frozen? ⟨gb, 0, none⟩ = false) : (w.setCell ⟨gb, 0, none⟩ u).drew.frozen? ⟨gb, 0, none⟩ = false := by
  show (w.setCell ⟨gb, 0, none⟩ u).frozen? ⟨gb, 0, none⟩ = false
  rw [World.frozen?_setCell]
  exact hf
theorem str_of {l : List UInt8} : (⟨l.toArray⟩ : ByteArray).size = l.length := by show l.toArray.size = _; rw [List.size_toArray]
set_option maxRecDepth 100000 in
set_option maxHeartbeats 2000000 in
theorem lines1_in (n : Nat) (hn : 1 ≤ n) (gb : Nat) (ns : List Int) (h0 : ∀ m ∈ ns, 0 ≤ m) (hb : (rcs ns).length ≤ 1000000) (l : Nat) (J : List Int → World → Prop) (W : World) (hJ : Bears gb J)
    (hY : ∀ pre x X, J pre X → nextOf ns pre x → YieldAt Fence.wide (n - 1) Tryz.prog l #[rcv x] X fun e X' => e = .returned (.bool true) ∧ J (pre ++ [x]) X' ∧ ∀ v, X.cell? ⟨gb, 0, none⟩ = some v → X.frozen? ⟨gb, 0, none⟩ = false → X'.cell? ⟨gb, 0, none⟩ = some v ∧ X'.frozen? ⟨gb, 0, none⟩ = false)
    (hc : W.cell? ⟨gb, 0, none⟩ = some (.string ⟨(rcs ns).toArray⟩)) (hf : W.frozen? ⟨gb, 0, none⟩ = false) (hj : J [] W) :
    CallsIn Fence.wide n Tryz.prog 176 #[.func (.yield l) #[] #[], .pointer (some ⟨gb, 0, none⟩)] W fun e X => (∃ v, e = .returned v) ∧ J ns X := by
  have HY := Lib.hid hY
  have HJ := Lib.hid hJ
  have HN := Lib.hid h0
  clear hY hJ h0
  refine callsIn_of_wp Tryz.func176 rfl trivial ?_ rfl
  simp only [Tryz.ntmps176, List.size_toArray, List.length_cons, List.length_nil, Nat.reduceAdd, Nat.reduceSub, Array.replicate_succ, Array.replicate_zero, List.push_toArray, List.append_toArray, List.nil_append, List.cons_append]
  gi_wp2
  gi_loopw [3] (fun s3 wr => ∃ k : Nat, k ≤ ns.length ∧ J (ns.take k) wr ∧ wr.cell? ⟨gb, 0, none⟩ = some (.string ⟨(rcs (ns.drop k)).toArray⟩) ∧ wr.frozen? ⟨gb, 0, none⟩ = false) (fun _ wr => boxLen gb wr)
  case atStart => exact ⟨0, Nat.zero_le _, hj, hc, hf⟩
  case round =>
    obtain ⟨k, hk, hJk, hck, hfk⟩ := hrel
    have HJK := Lib.hid hJk
    have HCK := Lib.hid hck
    clear hJk hj hc hf
    by_cases hlt : k < ns.length
    case neg =>
      have e : ns.drop k = [] := List.drop_eq_nil_of_le (by omega)
      rw [e] at hck
      have e2 : (⟨(rcs []).toArray⟩ : ByteArray) = ⟨#[]⟩ := rfl
      rw [e2] at hck
      have HJ2 : Hid (J ns wr) := Lib.hid (by have := HJK.out; rw [List.take_of_length_le (by omega)] at this; exact this)
      clear e e2 HCK HJK
      trace "A"; gi_wp2
      go_end0
      exact ⟨⟨_, rfl⟩, HJ2.out⟩
    obtain ⟨x, hx⟩ : ∃ x, ns[k] = x := ⟨_, rfl⟩
    have ed : ns.drop k = x :: ns.drop (k + 1) := by rw [← hx]; exact List.drop_eq_getElem_cons hlt
    have et : ns.take (k + 1) = ns.take k ++ [x] := by rw [← hx]; exact List.take_succ_eq_append_getElem hlt
    have hx0 : 0 ≤ x := HN.out x (by rw [← hx]; exact List.getElem_mem _)
    obtain ⟨B, hB⟩ : ∃ B : ByteArray, (⟨(rcs (ns.drop k)).toArray⟩ : ByteArray) = B := ⟨_, rfl⟩
    obtain ⟨R, hR⟩ : ∃ R, rcs (ns.drop (k + 1)) = R := ⟨_, rfl⟩
    have eB : B.data.toList = rcb x ++ R := by rw [← hB, ed, rcs_cons, hR]
    obtain ⟨m, hm⟩ : ∃ m, (Lib.itoa x).length = m := ⟨_, rfl⟩
    have hix : Lib.indexByte B.data.toList ((10 : Int).toNat.toUInt8) = (m : Int) := by rw [eB, ← hm]; exact rec_index hx0 R
    have hsz : B.size = m + 1 + R.length := by
      show B.data.size = _
      rw [← Array.length_toList, eB, List.length_append, rcb_len, hm]
    have hz2 : B.size ≤ 1000000 := by
      have h1 : (rcs ns).length = (rcs (ns.take k)).length + (rcs (ns.drop k)).length := by rw [← List.length_append, ← rcs_app, List.take_append_drop]
      have h2 : B.size = (rcs (ns.drop k)).length := by rw [← hB]; exact str_of
      omega
    have x1 : B.extract 0 (m + 1) = ⟨(rcb x).toArray⟩ := by
      apply ByteArray.ext
      apply Array.ext'
      rw [cut_list, eB, List.drop_zero]
      rw [List.take_append_of_le_length (by rw [rcb_len]; omega), List.take_of_length_le (by rw [rcb_len]; omega)]
    have x2 : B.extract (m + 1) B.size = ⟨R.toArray⟩ := by
      apply ByteArray.ext
      apply Array.ext'
      rw [cut_list, eB, hsz, List.take_of_length_le (by rw [List.length_append, rcb_len, hm]; omega)]
      rw [show m + 1 = (rcb x).length by rw [rcb_len, hm], List.drop_left]
    have HX1 := Lib.hid x1
    have HX2 := Lib.hid x2
    have HIX := Lib.hid hix
    have HET := Lib.hid et
    have HRR := Lib.hid hR
    have HXX : Hid (x = ns.getD k 0) := Lib.hid (by rw [← hx]; simp [List.getD, List.getElem?_eq_getElem hlt])
    rw [hB] at hck HCK
    have hpos : (0 : Int) < (B.size : Int) := by omega
    have hm1 : (m : Int) + 1 ≤ (B.size : Int) := by omega
    have hm0 : (0 : Int) ≤ (m : Int) := by omega
    have hto : ((m : Int) + 1).toNat = m + 1 := by omega
    have HLT := Lib.hid hlt
    have HHZ := Lib.hid hsz
    clear hx ed et hB hR eB hm hix x1 x2 hsz hlt
    trace "B"; gi_wp2_with (refine ⟨trivial, ?_⟩; gi_at_call 177; refine (callsIn_wide.2 (Tryz.strings_IndexByte B 10 _)).mono ?_; rintro e w' ⟨rfl, rfl⟩; rw [HIX.out])
    trace "C"; gi_region
    have hlen : nextOf ns (ns.take k) x := ⟨k, HLT.out, rfl, HXX.out⟩
    have hJX : J (ns.take k) (w'.setCell ⟨gb, 0, none⟩ (.string (B.extract (m + 1) B.size))).drew := HJ.out.drew _ _ (HJ.out.cell _ _ _ HJK.out)
    have hY := HY.out (ns.take k) x _ hJX hlen
    have b0 : (w'.setCell ⟨gb, 0, none⟩ (.string (B.extract (m + 1) B.size))).drew.cell? ⟨gb, 0, none⟩ = some (.string (B.extract (m + 1) B.size)) := cell_box hck
    have f0 : (w'.setCell ⟨gb, 0, none⟩ (.string (B.extract (m + 1) B.size))).drew.frozen? ⟨gb, 0, none⟩ = false := frozen_box hck hfk
    have HB0 := Lib.hid b0
    have HF0 := Lib.hid f0
    have hxv : rcv x = .string (B.extract 0 (m + 1)) := by rw [HX1.out]; rfl
    rw [hxv] at hY
    obtain ⟨fn, tmps, assign, body, hy, hR⟩ := hY
    have HR := Lib.hid hR
    have hlb : boxLen gb w' = B.size := by unfold boxLen; rw [hck]
    have HLB := Lib.hid hlb
    clear hR hlen hJX b0 f0 hlb hck hfk
    trace "D"; gi_wp2
    trace "E"; refine HR.out.mono ?_
    rintro e W3 ⟨rfl, hJ3, hk3⟩
    obtain ⟨c3, f3⟩ := hk3 _ HB0.out HF0.out
    rw [HX2.out] at c3
    have HJ3 := Lib.hid hJ3
    have HC3 := Lib.hid c3
    have HF3 := Lib.hid f3
    clear hJ3 hk3 c3 f3
    trace "F"; gi_wp2
    go_roundw
    case rel => exact ⟨k + 1, HLT.out, by rw [HET.out]; exact HJ3.out, by rw [HRR.out]; exact HC3.out, HF3.out⟩
    case measure =>
      have h1 : boxLen gb W3 = R.length := by unfold boxLen; rw [HC3.out]; exact str_of
      rw [h1, HLB.out, HHZ.out]
      omega
end Go.Proofs.YtaindcicloapfaaGreatDoor

/-! Contracts of package log: New, step, Came, Bytes. Condition: the block holds a Log as New and the calls leave it; its bytes are few; the table of powers lies there. -/
namespace Go.Proofs.YtaindcicloapfaaGreatDoor
open Go.ChangeShapes Go.WideShapes Go.ChangeAt Go.RowKit
set_option linter.unusedVariables false

/-- what a Log holds -/
structure LgS where
  all : List Rng
  by_ : ByteArray
  safe : Int
  left : Int
  st : Bool
structure Lz (w : World) (g : Nat) (v : Value) (s : LgS) : Prop where
  bl : BlockIs w g 161 #[v, .string s.by_, .int .i64 s.safe, .int .i64 s.left, .bool s.st]
  ls : Lst w 96 2 v (s.all.map rngRow)
  ok : rngE s.all = 0
  l1 : -1 ≤ s.left
  l2 : s.left ≤ 9223372036854775807
theorem Lz.later {w w' : World} {g : Nat} {v : Value} {s : LgS} (h : Lz w g v s) (hb : Below w.heap.size w w') : Lz w' g v s := ⟨h.bl.later hb, h.ls.later hb, h.ok, h.l1, h.l2⟩
theorem Lz.apart {w : World} {g : Nat} {v : Value} {s : LgS} (h : Lz w g v s) : g ∉ blocks v := h.ls.apart h.bl (by decide)
/-- a Log at g -/
def logT (g : Nat) (s : LgS) : Thing where
  is w S := ∃ v, Lz w g v s ∧ S = g :: blocks v
  lt h k hk := by
    obtain ⟨v, hz, rfl⟩ := h
    rcases List.mem_cons.1 hk with rfl | hk
    · exact hz.bl.lt
    · exact hz.ls.lt k hk
  kept h ho hd := by
    obtain ⟨v, hz, rfl⟩ := h
    exact ⟨v, ⟨ho.block' hz.bl (hd _ (by simp)), hz.ls.kept ho (fun k hk => hd k (List.mem_cons_of_mem _ hk)), hz.ok, hz.l1, hz.l2⟩, rfl⟩
/-- its own block alone was written -/
theorem Lz.leaves {w w' : World} {g : Nat} {v : Value} {s s' : LgS} (h : Lz w g v s) (hb : BlockIs w' g 161 #[v, .string s'.by_, .int .i64 s'.safe, .int .i64 s'.left, .bool s'.st]) (ho : Out w w' [g]) (e : s'.all = s.all) (l1 : -1 ≤ s'.left) (l2 : s'.left ≤ 9223372036854775807) : Leaves w w' (g :: blocks v) (logT g s') :=
  ⟨g :: blocks v, ⟨v, ⟨hb, by rw [e]; exact h.ls.kept ho (fun k hk hm => h.apart ((List.mem_singleton.1 hm) ▸ hk)), by rw [e]; exact h.ok, l1, l2⟩, rfl⟩, ho.mono (fun k hk => Or.inl (by rw [List.mem_singleton.1 hk]; simp)), fun k hk => Or.inl hk⟩
def lg0 : LgS := ⟨[], ⟨#[]⟩, 0, -1, false⟩
theorem gnew (w : World) : Calls Tryz.prog 48 #[] w fun e w' => e = .returned (.pointer (some ⟨w.heap.size, 0, none⟩)) ∧ (logT w.heap.size lg0).is w' [w.heap.size] ∧ Below w.heap.size w w' := by
  go_enter Tryz.func48, Tryz.ntmps48
  go_wp2_with fail
  go_ret
  exact ⟨rfl, ⟨.slice none 0 0, ⟨BlockIs.fresh _ _ _, Lst.nil _ _ _, rfl, by decide, by decide⟩, rfl⟩, (by refine Since.out ?_; repeat (first | with_reducible assumption | with_reducible exact Since.refl _ | with_reducible refine Since.later ?_ (by with_reducible assumption) | with_reducible refine Since.only ?_ (by with_reducible assumption) (by first | assumption | omega | (simp; done) | (simp; omega)) | with_reducible refine Since.alloc ?_ _ | with_reducible refine Since.drewN ?_ _ | with_reducible refine Since.drew ?_ | with_reducible refine Since.set ?_ (by first | assumption | omega | (simp; done) | (simp; omega)) _))⟩
/-- one step more -/
def LgS.step (s : LgS) : LgS := { s with st := decide (s.left = 0), left := max (-1) (s.left - 1) }
theorem gstep (g : Nat) (v : Value) (s : LgS) (w : World) (h : Lz w g v s) : Calls Tryz.prog 105 #[.pointer (some ⟨g, 0, none⟩)] w fun e w' => e = .returned (.bool (decide (s.left = 0))) ∧ Lz w' g v s.step ∧ Out w w' [g] := by
  have H := Lib.hid h
  have c3 : w.cell? ⟨g, 3, none⟩ = some (.int .i64 s.left) := h.bl.cell 3
  have c4 : w.cell? ⟨g, 4, none⟩ = some (.bool s.st) := h.bl.cell 4
  have l1 := h.l1
  have l2 := h.l2
  have lg := h.bl.lt
  have fg := h.bl.free
  have HM : Hid (∀ b m, b = decide (s.left = 0) → m = max (-1) (s.left - 1) → Lz (((w.setCell ⟨g, 4, none⟩ (.bool b))).setCell ⟨g, 3, none⟩ (.int .i64 m)) g v s.step ∧ Out w (((w.setCell ⟨g, 4, none⟩ (.bool b))).setCell ⟨g, 3, none⟩ (.int .i64 m)) [g]) := Lib.hid (fun b m hb hm => by
    subst hb hm
    have ho : Out w (((w.setCell ⟨g, 4, none⟩ (.bool (decide (s.left = 0))))).setCell ⟨g, 3, none⟩ (.int .i64 (max (-1) (s.left - 1)))) [g] := ((Out.refl w [g]).put (p := ⟨g, 4, none⟩) (Or.inl (by simp)) _).put (p := ⟨g, 3, none⟩) (Or.inl (by simp)) _
    exact ⟨⟨(h.bl.put 4 _).put 3 _, h.ls.kept ho (fun k hk hm => h.apart ((List.mem_singleton.1 hm) ▸ hk)), h.ok, by show -1 ≤ max (-1) (s.left - 1); omega, by show max (-1) (s.left - 1) ≤ _; omega⟩, ho⟩)
  generalize s.left = x at *
  generalize s.st = b at *
  clear h
  by_cases h0 : x = 0
  · subst h0
    go_enter Tryz.func105, Tryz.ntmps105
    trace "A"; go_wp2_with fail
    go_ret
    exact ⟨rfl, HM.out _ _ rfl rfl⟩
  · have h0' : (x == 0) = false := by simpa using h0
    have hd : decide (x = 0) = false := by simpa using h0
    rw [hd] at HM ⊢
    by_cases hx : x = -1
    · subst hx
      clear h0 hd
      go_enter Tryz.func105, Tryz.ntmps105
      trace "B"; go_wp2_with fail
      go_ret
      exact ⟨rfl, HM.out _ _ rfl rfl⟩
    · have hp : 0 ≤ x - 1 := by omega
      clear h0 hd hx
      go_enter Tryz.func105, Tryz.ntmps105
      trace "C"; go_wp2_with fail
      go_ret
      exact ⟨rfl, HM.out _ _ rfl rfl⟩
theorem blocks_zero' {A : Option Addr} {n c k : Nat} (h : k ∈ blocks (.slice A n c)) : k ∈ blocks (.slice A 0 0) := by cases A <;> exact h
theorem Leaves.drew' {w w' : World} {S : List Nat} {t : Thing} (h : Leaves w w' S t) : Leaves w w'.drew S t := h.post (Since.refl w').drew
/-- a record -/
def rec_ (n : Int) : ByteArray := ita n ++ ⟨#[10]⟩
def half (n : Int) : ByteArray := (rec_ n).extract 0 ((rec_ n).size / 2)
theorem rec_size {n : Int} (h0 : 0 ≤ n) (h1 : n ≤ 1073741823) : 2 ≤ (rec_ n).size ∧ (rec_ n).size ≤ 11 := by
  have := ita_size h0 h1
  have e : (rec_ n).size = (ita n).size + 1 := by unfold rec_; rw [ByteArray.size_append]; rfl
  omega
/-- what is wrong with a number that came -/
def lgE (s : LgS) (n : Int) : Int := if s.st = true then 6 else if addE s.all n = 0 then (if addB s.all n = true ∧ s.left = 0 then 6 else 0) else addE s.all n
def lgB (s : LgS) (n : Int) : Bool := !s.st && addB s.all n && decide (s.left ≠ 0)
def lgN (s : LgS) (n : Int) : LgS := if s.st = true then s else if addB s.all n = true then (if s.left = 0 then { s.step with by_ := s.by_ ++ half n } else { s.step with by_ := s.by_ ++ rec_ n, all := addL s.all n }) else s
theorem addB_ok {L : List Rng} {n : Int} (h : addB L n = true) : addE L n = 0 ∧ mayB n = true ∧ inB L n = false ∧ rngE (addL L n) = 0 ∧ addL L n = withL L ⟨n, n⟩ := by
  unfold addB at h
  simp only [Bool.and_eq_true, decide_eq_true_eq, Bool.not_eq_true'] at h
  obtain ⟨h1, h2⟩ := h
  have h0 := h1
  unfold addE at h1
  split at h1
  · rename_i hE
    split at h1
    · rename_i hm
      split at h1
      · cases h1
      · rename_i h12
        have e : addL L n = withL L ⟨n, n⟩ := by unfold addL; rw [if_pos h0]
        refine ⟨h0, hm, h2, ?_, e⟩
        rw [e]
        exact canon_rngE (withL_ok (rngE_canon hE) (Int.le_refl n)).1 (by omega) (withL_bound (rngE_ok hE) ⟨mayB_iff.1 hm, mayB_iff.1 hm⟩)
    · cases h1
  · rename_i hE; exact absurd h1 hE
set_option maxHeartbeats 3200000 in
set_option maxRecDepth 100000 in
theorem gcame (g : Nat) (s : LgS) (n : Int) (w : World) (S : List Nat) (h : (logT g s).is w S) (hw : (Lit.int .i64 n).wf = true) (hp : PTab w) (hb : s.by_.size ≤ 1000000) :
    Calls Tryz.prog 52 #[.pointer (some ⟨g, 0, none⟩), .int .i64 n] w fun e w' => e = .returned (.tuple #[.bool (lgB s n), errV (lgE s n)]) ∧ Leaves w w' S (logT g (lgN s n)) := by
  have HS0 := Lib.hid h
  obtain ⟨v, hz, rfl⟩ := h
  have HZ := Lib.hid hz
  have HP := Lib.hid hp
  have c0 : w.cell? ⟨g, 0, none⟩ = some v := hz.bl.cell 0
  have c4 : w.cell? ⟨g, 4, none⟩ = some (.bool s.st) := hz.bl.cell 4
  have lg := hz.bl.lt
  clear hp
  cases hst : s.st with
  | true =>
    have HE : Hid (lgB s n = false ∧ lgE s n = 6 ∧ lgN s n = s) := Lib.hid ⟨by unfold lgB; rw [hst]; rfl, by unfold lgE; rw [if_pos hst], by unfold lgN; rw [if_pos hst]⟩
    rw [hst] at c4
    rw [HE.out.1, HE.out.2.1, HE.out.2.2]
    clear hz hb hst
    go_enter Tryz.func52, Tryz.ntmps52
    trace "A"; go_wp2_with fail
    go_ret2
    exact ⟨rfl, Leaves.same HS0.out (Below.refl _ _)⟩
  | false =>
    obtain ⟨A0, cap0, hve, _, _, _⟩ := hz.ls.shape
    rw [List.length_map] at hve
    have RA := Lib.hid (radd_any A0 s.all.length cap0 s.all n w rfl (fun r hr => by
      obtain ⟨⟨p1, p2⟩, p3, p4⟩ := rngE_ok hz.ok r hr
      unfold okI
      omega) (Rd.of_lst (by rw [← hve]; exact hz.ls)))
    rw [hst] at c4
    rw [hve] at c0
    have HV := Lib.hid hve
    have HST := Lib.hid hst
    clear hz hve hst
    by_cases hE : addE s.all n = 0
    case neg =>
      have hB : addB s.all n = false := by unfold addB; rw [decide_eq_false hE]; rfl
      have HE : Hid (lgB s n = false ∧ lgE s n = addE s.all n ∧ lgN s n = s) := Lib.hid ⟨by unfold lgB; rw [hB]; simp, by unfold lgE; rw [if_neg (by rw [HST.out]; decide), if_neg hE], by unfold lgN; rw [if_neg (by rw [HST.out]; decide), if_neg (by rw [hB]; decide)]⟩
      rw [HE.out.1, HE.out.2.1, HE.out.2.2]
      rw [hB, errV_pos hE] at RA
      rw [errV_pos hE]
      clear hE hB hb
      go_enter Tryz.func52, Tryz.ntmps52
      trace "D"; go_wp2_with fail
      refine RA.out.mono ?_
      rintro e w1 ⟨A1, c1, rfl, hb1, hl1, _⟩
      have HB1 := Lib.hid hb1
      clear hb1 hl1
      trace "E"; go_wp2_with fail
      go_ret2
      exact ⟨rfl, Leaves.same HS0.out HB1.out⟩
    case pos =>
      cases hB : addB s.all n with
      | false =>
        have HE : Hid (lgB s n = false ∧ lgE s n = 0 ∧ lgN s n = s) := Lib.hid ⟨by unfold lgB; rw [hB]; simp, by unfold lgE; rw [if_neg (by rw [HST.out]; decide), if_pos hE, if_neg (by rw [hB]; simp)], by unfold lgN; rw [if_neg (by rw [HST.out]; decide), if_neg (by rw [hB]; decide)]⟩
        rw [HE.out.1, HE.out.2.1, HE.out.2.2]
        rw [hB, hE, errV_zero] at RA
        rw [errV_zero]
        clear hE hB hb
        go_enter Tryz.func52, Tryz.ntmps52
        trace "F"; go_wp2_with fail
        refine RA.out.mono ?_
        rintro e w1 ⟨A1, c1, rfl, hb1, hl1, _⟩
        have HB1 := Lib.hid hb1
        clear hb1 hl1
        trace "G"; go_wp2_with fail
        go_ret2
        exact ⟨rfl, Leaves.same HS0.out HB1.out⟩
      | true =>
        obtain ⟨-, hm, -, hok, -⟩ := addB_ok hB
        have hmm := mayB_iff.1 hm
        unfold MayBe at hmm
        obtain ⟨m0, m1⟩ := hmm
        have hrs := rec_size m0 m1
        rw [hB, hE, errV_zero] at RA
        have HOK := Lib.hid hok
        have HE : Hid (lgB s n = decide (s.left ≠ 0) ∧ lgE s n = (if s.left = 0 then 6 else 0) ∧ lgN s n = if s.left = 0 then { s.step with by_ := s.by_ ++ half n } else { s.step with by_ := s.by_ ++ rec_ n, all := addL s.all n }) := Lib.hid ⟨by unfold lgB; rw [hB, HST.out]; simp, by unfold lgE; rw [if_neg (by rw [HST.out]; decide), if_pos hE]; simp [hB], by unfold lgN; rw [if_neg (by rw [HST.out]; decide), if_pos hB]⟩
        rw [HE.out.1, HE.out.2.1, HE.out.2.2]
        have hit := ita_size m0 m1
        have HRE : Hid (ita n ++ ⟨#[10]⟩ = rec_ n) := Lib.hid rfl
        clear hE hB hm hok HE
        obtain ⟨bo, hbo⟩ : ∃ b, decide (s.left ≠ 0) = b := ⟨_, rfl⟩
        obtain ⟨Ex, hEx⟩ : ∃ E, (if s.left = 0 then (6 : Int) else 0) = E := ⟨_, rfl⟩
        obtain ⟨Sx, hSx⟩ : ∃ S, (if s.left = 0 then { s.step with by_ := s.by_ ++ half n } else { s.step with by_ := s.by_ ++ rec_ n, all := addL s.all n }) = S := ⟨_, rfl⟩
        rw [hbo, hEx, hSx]
        have HX0 : Hid (s.left = 0 → bo = false ∧ Ex = 6 ∧ { s.step with by_ := s.by_ ++ half n } = Sx) := Lib.hid (fun h => ⟨by rw [← hbo]; simpa using h, by rw [← hEx, if_pos h], by rw [← hSx, if_pos h]⟩)
        have HX1 : Hid (s.left ≠ 0 → bo = true ∧ Ex = 0 ∧ { s.step with by_ := s.by_ ++ rec_ n, all := addL s.all n } = Sx) := Lib.hid (fun h => ⟨by rw [← hbo]; simpa using h, by rw [← hEx, if_neg h], by rw [← hSx, if_neg h]⟩)
        clear hbo hEx hSx
        go_enter Tryz.func52, Tryz.ntmps52
        trace "H"; go_wp2_with fail
        refine RA.out.mono ?_
        rintro e w1 ⟨A1, c1, rfl, hb1, hl1, hk1⟩
        have HB1 := Lib.hid hb1
        have HL1 := Lib.hid hl1
        have HK1 := Lib.hid hk1
        clear hb1 hl1 hk1 RA
        trace "I"; go_wp2_with fail
        refine (itoaC n m0 m1 _ (HP.out.later HB1.out)).mono ?_
        rintro e w2 ⟨rfl, hb2⟩
        have hs2 : Since w w2 := (show Since w w1 from HB1.out).later hb2
        have HL2 := Lib.hid (HL1.out.later hb2)
        have HZ2 := Lib.hid (HZ.out.later hs2)
        have HB2 := Lib.hid hb2
        clear hb2 HL1
        trace "J"; go_wp2_with fail
        rw [HRE.out]
        refine (gstep g v s _ HZ2.out).mono ?_
        rintro e w3 ⟨rfl, hz3, ho3⟩
        have d1 : w3.cell? ⟨g, 1, none⟩ = some (.string s.by_) := hz3.bl.cell 1
        have d0 : w3.cell? ⟨g, 0, none⟩ = some v := hz3.bl.cell 0
        have lg3 := hz3.bl.lt
        have fg3 := hz3.bl.free
        have HZ3 := Lib.hid hz3
        have HO3 := Lib.hid ho3
        have HHA : Hid (half n = (rec_ n).extract 0 ((rec_ n).size / 2)) := Lib.hid rfl
        have HO13 : Hid (Out w w3 (g :: blocks v)) := Lib.hid ((Out.of_below hs2 _).then' ho3 (fun k hk => Or.inl (by rw [List.mem_singleton.1 hk]; simp)))
        have HF1 : Hid (∀ b : ByteArray, Leaves w (w3.setCell ⟨g, 1, none⟩ (.string b)) (g :: blocks v) (logT g { s.step with by_ := b })) := Lib.hid (fun b =>
          Leaves.out HO13.out (hz3.leaves (s' := { s.step with by_ := b }) (hz3.bl.put 1 (.string b)) ((Out.refl w3 [g]).put (p := ⟨g, 1, none⟩) (Or.inl (by simp)) _) rfl hz3.l1 hz3.l2))
        have HF2 : Hid (∀ b : ByteArray, Leaves w ((w3.setCell ⟨g, 1, none⟩ (.string b)).setCell ⟨g, 0, none⟩ (.slice A1 (addL s.all n).length c1)) (g :: blocks v) (logT g { s.step with by_ := b, all := addL s.all n })) := Lib.hid (fun b => by
          have hap : g ∉ blocks (.slice A1 (addL s.all n).length c1) := HL2.out.apart HZ2.out.bl (by decide)
          have hl3 := HL2.out.kept ho3 (fun k hk hm => hap ((List.mem_singleton.1 hm) ▸ hk))
          have ho4 : Out w3 ((w3.setCell ⟨g, 1, none⟩ (.string b)).setCell ⟨g, 0, none⟩ (.slice A1 (addL s.all n).length c1)) [g] := ((Out.refl w3 [g]).put (p := ⟨g, 1, none⟩) (Or.inl (by simp)) _).put (p := ⟨g, 0, none⟩) (Or.inl (by simp)) _
          refine ⟨g :: blocks (.slice A1 (addL s.all n).length c1), ⟨.slice A1 (addL s.all n).length c1, ⟨(hz3.bl.put 1 (.string b)).put 0 _, hl3.kept ho4 (fun k hk hm => hap ((List.mem_singleton.1 hm) ▸ hk)), HOK.out, hz3.l1, hz3.l2⟩, rfl⟩, HO13.out.then' ho4 (fun k hk => Or.inl (by rw [List.mem_singleton.1 hk]; simp)), fun k hk => ?_⟩
          rcases List.mem_cons.1 hk with rfl | hk
          · exact Or.inl (by simp)
          · exact Or.inr (HK1.out k (blocks_zero' hk)))
        have HEX : Hid (((rec_ n).extract 0 ((rec_ n).size / 2)).size ≤ 11) := Lib.hid (by rw [ByteArray.size_extract]; omega)
        have hxs : ((rec_ n).extract 0 ((rec_ n).size / 2)).size ≤ 11 := HEX.out
        generalize rec_ n = rc at *
        generalize s.by_ = bs at *
        clear hz3 ho3 hit HRE
        by_cases h0 : s.left = 0
        · obtain ⟨rfl, rfl, hsx⟩ := HX0.out h0
          have HSX := Lib.hid hsx
          have hd : decide (s.left = 0) = true := by simpa using h0
          rw [hd]
          clear h0 HF2 hd hsx HX0 HX1
          have hq0 : (0 : Int) ≤ (rc.size : Int) / 2 := by omega
          have hq1 : (rc.size : Int) / 2 ≤ (rc.size : Int) := by omega
          have hq2 : ((rc.size : Int) / 2).toNat = rc.size / 2 := by omega
          trace "K"; go_wp2_with fail
          go_region
          trace "L"; go_wp2_with fail
          go_ret2
          refine ⟨rfl, ?_⟩
          rw [← HSX.out, HHA.out]
          first | exact HF1.out _ | exact Leaves.drew' (HF1.out _)
        · obtain ⟨rfl, rfl, hsx⟩ := HX1.out h0
          have HSX := Lib.hid hsx
          have hd : decide (s.left = 0) = false := by simpa using h0
          rw [hd]
          clear h0 HF1 hd hsx HX0 HX1
          trace "M"; go_wp2_with fail
          go_ret2
          refine ⟨rfl, ?_⟩
          rw [← HSX.out]
          exact HF2.out _
end Go.Proofs.YtaindcicloapfaaGreatDoor

/-! log.redo over whole records by a contract. Condition: the bytes are records one behind the other, of numbers each of which may be added. -/
namespace Go.Proofs.YtaindcicloapfaaGreatDoor
open Go.ChangeShapes Go.WideShapes Go.ChangeAt Go.RowKit Go.Shelf
set_option linter.unusedVariables false
attribute [local go_sem] Oper.semAt_some

/-- the ranges of these numbers -/
def adds (ns : List Int) : List Rng := ns.foldl addL []
theorem adds_snoc (pre : List Int) (x : Int) : adds (pre ++ [x]) = addL (adds pre) x := by unfold adds; rw [List.foldl_append]; rfl
/-- each was new, and there was room -/
def Fits (ns : List Int) : Prop := ∀ k, k < ns.length → addB (adds (ns.take k)) (ns.getD k 0) = true
theorem Fits.rng {ns : List Int} (h : Fits ns) : ∀ k, k ≤ ns.length → rngE (adds (ns.take k)) = 0
  | 0, _ => rfl
  | k + 1, hk => by
    have h1 := h k (by omega)
    have e : ns.take (k + 1) = ns.take k ++ [ns.getD k 0] := by
      rw [List.take_succ_eq_append_getElem (by omega)]
      simp [List.getD, List.getElem?_eq_getElem (show k < ns.length by omega)]
    rw [e, adds_snoc]
    exact (addB_ok h1).2.2.2.1
theorem Fits.pos {ns : List Int} (h : Fits ns) : ∀ m ∈ ns, 0 ≤ m ∧ m ≤ 1073741823 := by
  intro m hm
  obtain ⟨k, hk, rfl⟩ := List.getElem_of_mem hm
  have h1 := (addB_ok (h k hk)).2.1
  have h2 := mayB_iff.1 h1
  have e : ns.getD k 0 = ns[k] := by simp [List.getD, List.getElem?_eq_getElem hk]
  rw [e] at h2
  exact h2
theorem lines_in (n : Nat) (s : ByteArray) (w : World) : CallsIn Fence.wide n Tryz.prog 143 #[.string s] w fun e w' => e = .returned (.func (.func 176) #[] #[.pointer (some ⟨w.heap.size, 0, none⟩)]) ∧ w' = w.alloc (.cells #[.string s] 9) := by
  refine callsIn_of_wp Tryz.func143 rfl trivial ?_ rfl
  simp only [Tryz.ntmps143, List.size_toArray, List.length_cons, List.length_nil, Nat.reduceAdd, Nat.reduceSub, Array.replicate_succ, Array.replicate_zero, List.push_toArray, List.append_toArray, List.nil_append, List.cons_append]
  gi_wp2
  go_ret
  exact ⟨rfl, rfl⟩
theorem lines_hands (ns : List Int) (hp : ∀ m ∈ ns, 0 ≤ m) (hb : (rcs ns).length ≤ 1000000) (n : Nat) (hn : 1 ≤ n) (gb : Nat) (w : World) (hc : BlockIs w gb 9 #[.string ⟨(rcs ns).toArray⟩]) :
    Hands Fence.wide n Tryz.prog 176 gb #[.pointer (some ⟨gb, 0, none⟩)] (fun x => #[rcv x]) (fun xs => xs = ns) (nextOf ns) w := by
  intro l J W hW hJ hY hj
  have hc2 := hc.later hW
  exact (lines1_in n hn gb ns hp hb l J W hJ hY (hc2.cell 0) (hc2.free 0) hj).mono fun e X ⟨h1, h2⟩ => ⟨h1, ns, rfl, h2⟩
theorem keeps_below {W X : World} (h : Below W.heap.size W X) : KeepsOthers W X := ⟨h.size, fun k o hk _ => (h.block k (Array.getElem?_eq_some_iff.1 hk).1).trans hk⟩
theorem cell_below {W X : World} {g : Nat} (h : Below W.heap.size W X) {v : Value} (hv : W.cell? ⟨g, 0, none⟩ = some v) (hf : W.frozen? ⟨g, 0, none⟩ = false) : X.cell? ⟨g, 0, none⟩ = some v ∧ X.frozen? ⟨g, 0, none⟩ = false := by
  have hlt : g < W.heap.size := World.block_lt_of_cell? W _ hv
  have e := h.block g hlt
  refine ⟨(h.cell (p := ⟨g, 0, none⟩) hlt).trans hv, ?_⟩
  unfold World.frozen? at hf ⊢
  rw [e]
  exact hf
theorem results_two {fn : Func} {p q : Tmp} {t u : TypeId} (h : fn.results = #[.cell p t, .cell q u]) (tmps : Array Value) (P : Program) (w : World) :
    (results fn tmps).run P w =
      ((asAddr (tmps.getD p undef)).run P w).andThen fun a w₁ => ((loadVar t a).run P w₁).andThen fun v w₂ => ((asAddr (tmps.getD q undef)).run P w₂).andThen fun b w₃ => ((loadVar u b).run P w₃).andThen fun v' w₄ => .ok (.tuple #[v, v']) w₄ := by
  simp only [results, h]
  simp [Sem.run_bind, Result.andThen]
theorem below_bytes (w : World) (e : TypeId) (s : ByteArray) : Below w.heap.size w (Lib.bytesWorld w e s) := Lib.bytesWorld_below w e s
/-- redo's state -/
structure Rdo (w : World) (pre : List Int) (W : World) : Prop where
  sz : w.heap.size + 4 ≤ W.heap.size
  r1 : BlockIs W w.heap.size 44 #[.slice none 0 0]
  r2 : BlockIs W (w.heap.size + 1) 27 #[.nilIface]
  bx : ∃ (A : Option Addr) (cap : Nat), BlockIs W (w.heap.size + 2) 44 #[.slice A (adds pre).length cap] ∧ Lst W 96 2 (.slice A (adds pre).length cap) ((adds pre).map rngRow) ∧ (∀ q, q ∈ blocks (.slice A 0 0) → w.heap.size + 4 ≤ q)
theorem boxes_grown {W W' : World} {g : Nat} {t : TypeId} {cs : Array Value} {row : Option Nat} (h : BlockIs W g t cs) (hg : W.grownBy W' row) (hr : ∀ r, row = some r → ∃ o : Obj, W.heap[r]? = some o ∧ o.isCells = false) : BlockIs W' g t cs :=
  (hg.block g h.lt (fun e => by
    obtain ⟨o, ho, hc⟩ := hr g e.symm
    rw [show W.heap[g]? = _ from h] at ho
    cases ho
    cases hc)).trans h
theorem rows_grown {W W' : World} {E size : Nat} {v : Value} {es : List (List Value)} {row : Option Nat} (h : Lst W E size v es) (hg : W.grownBy W' row) (hr : ∀ r, row = some r → ∃ o : Obj, W.heap[r]? = some o ∧ o.isCells = false) : Lst W' E size v es := by
  refine h.kept (Out.of_grown (S := row.toList) hg (fun k hk => Or.inl (by rw [hk]; simp))) (fun k hk hk2 => ?_)
  have hrow : row = some k := by simpa [Option.mem_toList] using hk2
  obtain ⟨o, ho, hc⟩ := hr k hrow
  rcases h.own.2 with ⟨rfl, _⟩ | ⟨g, cap, cur, rfl, _, hgg, _⟩
  · simp [Value.ownBlock] at hk
  · have : g = k := by simpa [Value.ownBlock] using hk
    subst this
    rw [hgg] at ho
    cases ho
    cases hc
theorem Rdo.own (w : World) : _root_.Go.Own (fun (pre : List Int) W => Rdo w pre W) := fun _ W W' row hs hg hr => by
  obtain ⟨A, cap, h1, h2, h3⟩ := hs.bx
  exact ⟨Nat.le_trans hs.sz hg.size, boxes_grown hs.r1 hg hr, boxes_grown hs.r2 hg hr, A, cap, boxes_grown h1 hg hr, rows_grown h2 hg hr, h3⟩
theorem Rdo.bears (w : World) : Bears (w.heap.size + 3) (fun (pre : List Int) W => Rdo w pre W ∧ Below w.heap.size w W) := by
  refine ⟨fun pre A h => ⟨⟨h.1.sz, h.1.r1, h.1.r2, ?_⟩, (show Since w A from h.2).drew⟩, fun pre A v h => ⟨⟨by simp; exact h.1.sz, h.1.r1.far (by simp) _, h.1.r2.far (by simp) _, ?_⟩, h.2.setCell (by simp) _⟩⟩
  · obtain ⟨B, cap, h1, h2, h3⟩ := h.1.bx
    exact ⟨B, cap, h1, h2.drew, h3⟩
  · obtain ⟨B, cap, h1, h2, h3⟩ := h.1.bx
    exact ⟨B, cap, h1.far (by simp) _, h2.kept ((Out.refl A [w.heap.size + 3]).put (Or.inl (by simp)) _) (fun k hk hm => by
      have := h3 k (by rw [blocks_any B 0 0 (adds pre).length cap]; exact hk)
      rw [List.mem_singleton.1 hm] at this
      omega), h3⟩

set_option maxRecDepth 100000 in
set_option maxHeartbeats 2000000 in
theorem redo_in (ns : List Int) (hfit : Fits ns) (hb : (rcs ns).length ≤ 1000000) (w : World) :
    CallsIn Fence.wide 6 Tryz.prog 107 #[.string ⟨(rcs ns).toArray⟩] w fun e w' => ∃ A cap, e = .returned (.tuple #[.slice A (adds ns).length cap, .nilIface]) ∧ Lst w' 96 2 (.slice A (adds ns).length cap) ((adds ns).map rngRow) ∧ Below w.heap.size w w' ∧ (∀ q, q ∈ blocks (.slice A 0 0) → w.heap.size ≤ q) := by
  have HF := Lib.hid hfit
  have HB := Lib.hid hb
  have HP := Lib.hid (fun m hm => (hfit.pos m hm).1)
  clear hfit hb
  obtain ⟨b, hbe⟩ : ∃ b : ByteArray, (⟨(rcs ns).toArray⟩ : ByteArray) = b := ⟨_, rfl⟩
  have HBE := Lib.hid hbe
  rw [hbe]
  clear hbe
  refine callsIn_of_wp_marks Tryz.func107 rfl trivial ?_ rfl
  simp only [Tryz.ntmps107, List.size_toArray, List.length_cons, List.length_nil, Nat.reduceAdd, Nat.reduceSub, Array.replicate_succ, Array.replicate_zero, List.push_toArray, List.append_toArray, List.nil_append, List.cons_append]
  trace "A"; gi_wp2_with (refine ⟨trivial, ?_⟩; gi_at_call 143; refine (lines_in _ _ _).mono ?_; rintro e w' ⟨rfl, rfl⟩)
  trace "B"; refine rangeW (w := (((w.alloc (.cells #[.slice none 0 0] 44)).alloc (.cells #[.nilIface] 27)).alloc (.cells #[.slice none 0 0] 44)).alloc (.cells #[.string b] 9)) rfl (by omega) (gf := 176) (gb := w.heap.size + 3) (lb := #[.pointer (some ⟨w.heap.size + 3, 0, none⟩)]) rfl trivial (enters_of Tryz.func176 (by kernel_rfl) rfl) (by simp)
    (lines_hands ns HP.out HB.out _ (by omega) (w.heap.size + 3) _ (by rw [HBE.out]; exact BlockIs.fresh_at (by simp))) (fun _ => rfl)
    (fun pre W => Rdo w pre W ∧ Below w.heap.size w W)
    (OwnFrom.and (_root_.Go.Own.from (Rdo.own w) _) (ownFrom_below (Nat.le_refl _) (by simp; omega)))
    (Rdo.bears w)
    ⟨⟨by simp, (((BlockIs.fresh w _ _).alloc _).alloc _).alloc _, ((BlockIs.fresh_at (by simp)).alloc _).alloc _, none, 0, (BlockIs.fresh_at (by simp)).alloc _, Lst.nil _ _ _, by simp [Value.ownBlock]⟩, (by refine Since.out ?_; repeat (first | with_reducible assumption | with_reducible exact Since.refl _ | with_reducible refine Since.later ?_ (by with_reducible assumption) | with_reducible refine Since.only ?_ (by with_reducible assumption) (by first | assumption | omega | (simp; done) | (simp; omega)) | with_reducible refine Since.alloc ?_ _ | with_reducible refine Since.drewN ?_ _ | with_reducible refine Since.drew ?_ | with_reducible refine Since.set ?_ (by first | assumption | omega | (simp; done) | (simp; omega)) _))⟩
    (fun x => { tmps := #[.string b, undef, .pointer (some ⟨w.heap.size, 0, none⟩), .pointer (some ⟨w.heap.size + 1, 0, none⟩), .pointer (some ⟨w.heap.size + 1 + 1, 0, none⟩), rcv x, undef, undef, undef, undef, .string b, .func (.func 176) #[] #[.pointer (some ⟨w.heap.size + 1 + 1 + 1, 0, none⟩)], rcv x, undef, undef, undef, undef, undef, undef, undef, undef, undef, undef, undef, undef, undef, undef, undef, undef, undef, undef, undef, undef, undef], defers := [] }) ?assign ?body ?done
  case assign =>
    trace "C"; intro l x W K hK
    gi_wp2
    exact hK
  case body =>
    trace "D"; rintro l pre x W ⟨hR, hbw⟩ hlen
    obtain ⟨k, hk, rfl, rfl⟩ := hlen
    have hfk := HF.out k hk
    obtain ⟨f1, f2, f3, f4, f5⟩ := addB_ok hfk
    have hps := HP.out (ns.getD k 0) (by simp [List.getD, List.getElem?_eq_getElem hk])
    have hrg := HF.out.rng k (by omega)
    have hsn : adds (ns.take k ++ [ns.getD k 0]) = addL (adds (ns.take k)) (ns.getD k 0) := adds_snoc _ _
    have hmx := (HF.out.pos (ns.getD k 0) (by simp [List.getD, List.getElem?_eq_getElem hk])).2
    obtain ⟨A, c, h1, h2, h3⟩ := hR.bx
    have HSN := Lib.hid hsn
    generalize ns.getD k 0 = x at *
    generalize ns.take k = pre at *
    have htr := rec_trim x
    have hat := ita_read hps
    have hil : (Lib.itoa x).length ≤ 18 := by
      have := ita_size hps hmx
      have e : (ita x).size = (Lib.itoa x).length := str_of
      omega
    have HTS : Hid (∀ X, Calls Tryz.prog 145 #[rcv x, .string ⟨#[10]⟩] X fun e X' => e = .returned (.string ⟨(Lib.itoa x).toArray⟩) ∧ X' = X) := Lib.hid (fun X => by
      have h := Tryz.strings_TrimSuffix ⟨(rcb x).toArray⟩ ⟨#[10]⟩ X (by rw [str_of, rcb_len]; omega)
      have e1 : (⟨(rcb x).toArray⟩ : ByteArray).data.toList = rcb x := by simp
      have e2 : (⟨#[10]⟩ : ByteArray).data.toList = [10] := rfl
      rw [e1, e2, htr] at h
      exact h)
    have HAT : Hid (∀ X, Calls Tryz.prog 144 #[.string ⟨(Lib.itoa x).toArray⟩] X fun e X' => e = .returned (.tuple #[.int .i64 x, .nilIface]) ∧ Below X.heap.size X X') := Lib.hid (fun X => by
      have e1 : (⟨(Lib.itoa x).toArray⟩ : ByteArray).data.toList = Lib.itoa x := by simp
      refine (Tryz.strconv_Atoi ⟨(Lib.itoa x).toArray⟩ x (by rw [str_of]; exact hil) (by rw [e1]; exact hat) X).mono ?_
      rintro e X' ⟨rfl, t, rfl⟩
      exact ⟨rfl, below_bytes _ _ _⟩)
    have HAD : Hid (∀ X, Lst X 96 2 (.slice A (adds pre).length c) ((adds pre).map rngRow) → Calls Tryz.prog 74 #[.slice A (adds pre).length c, .int .i64 x] X fun e X' => ∃ A' c', e = .returned (.tuple #[.slice A' (addL (adds pre) x).length c', .bool true, .nilIface]) ∧ Below X.heap.size X X' ∧ Lst X' 96 2 (.slice A' (addL (adds pre) x).length c') ((addL (adds pre) x).map rngRow) ∧ ∀ k, k ∈ blocks (.slice A' 0 0) → X.heap.size ≤ k) := Lib.hid (fun X hX => by
      have h := radd_any A (adds pre).length c (adds pre) x X rfl (fun r hr => by
        obtain ⟨⟨p1, p2⟩, p3, p4⟩ := rngE_ok hrg r hr
        unfold okI
        omega) (Rd.of_lst hX)
      rw [hfk, f1, errV_zero] at h
      exact h)
    have HR := Lib.hid hR
    have HBW := Lib.hid hbw
    have H1 := Lib.hid h1
    have H2 := Lib.hid h2
    have H3 := Lib.hid h3
    generalize (Lib.itoa x).toArray = sx at *
    generalize addL (adds pre) x = L2 at *
    clear hfk f1 f2 f3 f4 f5 hps hrg hsn hmx hR hbw h1 h2 h3 htr hat hil hk
    trace "F"; gi_wp2_with (refine ⟨trivial, ?_⟩; gi_at_call 145; refine (CallsIn.inRound l (callsIn_wide.2 (HTS.out _))).mono ?_; rintro e X1 ⟨rfl, rfl⟩)
    refine ⟨trivial, ?_⟩
    refine (CallsIn.inRound l (callsIn_wide.2 (HAT.out _))).mono ?_
    rintro e X2 ⟨rfl, hb2⟩
    have hs2 : Below w.heap.size w X2 := (show Since w X1 from HBW.out).later hb2
    have k1 := H1.out.later hb2
    have k2 := H2.out.later hb2
    have e0 : X2.cell? ⟨w.heap.size + 1 + 1, 0, none⟩ = some (.slice A (adds pre).length c) := k1.cell 0
    have HK1 := Lib.hid k1
    have HK2 := Lib.hid k2
    have HB2 := Lib.hid hb2
    have HS2 := Lib.hid hs2
    clear k1 k2 hb2 hs2
    trace "G"; gi_wp2
    refine ⟨trivial, ?_⟩
    refine (CallsIn.inRound l (callsIn_wide.2 (HAD.out _ HK2.out))).mono ?_
    rintro e X3 ⟨A3, c3, rfl, hb3, hl3, hk3⟩
    have k1 := HK1.out.later hb3
    have e1 : X3.cell? ⟨w.heap.size + 1 + 1, 0, none⟩ = some (.slice A (adds pre).length c) := k1.cell 0
    have lf := k1.lt
    have fr := k1.free
    have HK3 := Lib.hid k1
    have HB3 := Lib.hid hb3
    have HL3 := Lib.hid hl3
    have HKK := Lib.hid hk3
    clear k1 hb3 hl3 hk3 e0
    trace "H"; gi_wp2
    have hs3 : Below w.heap.size w X3 := (show Since w X2 from HS2.out).later HB3.out
    have hsz : w.heap.size + 4 ≤ X2.heap.size := Nat.le_trans HR.out.sz HB2.out.size
    have hnw : ∀ k, k ∈ blocks (.slice A3 0 0) → w.heap.size + 4 ≤ k := fun k hk => Nat.le_trans hsz (HKK.out k hk)
    refine ⟨((keeps_below HB2.out).trans (keeps_below HB3.out)).trans (KeepsOthers.setCell _ _ _), ⟨⟨?_, ?_, ?_, A3, c3, ?_, ?_, hnw⟩, hs3.setCell (by simp; omega) _⟩, fun v hv hf => ?_⟩
    · simp
      exact Nat.le_trans hsz HB3.out.size
    · exact ((HR.out.r1.later HB2.out).later HB3.out).far (by simp <;> omega) _
    · exact ((HR.out.r2.later HB2.out).later HB3.out).far (by simp) _
    · rw [HSN.out]
      exact HK3.out.put 0 (.slice A3 L2.length c3)
    · rw [HSN.out]
      exact HL3.out.kept ((Out.refl X3 [w.heap.size + 1 + 1]).put (Or.inl (by simp)) _) (fun k hk hm => by
        have := hnw k (by rw [blocks_any A3 0 0 L2.length c3]; exact hk)
        rw [List.mem_singleton.1 hm] at this
        omega)
    · obtain ⟨c1, d1⟩ := cell_below HB2.out hv hf
      obtain ⟨c2, d2⟩ := cell_below HB3.out c1 d1
      exact ⟨c2, d2⟩
  case done =>
    trace "E"; rintro D ys W hD rfl ⟨hR, hbw⟩ hK
    obtain ⟨A, c, h1, h2, h3⟩ := hR.bx
    have e0 : W.cell? ⟨w.heap.size + 1 + 1, 0, none⟩ = some (.slice A (adds ys).length c) := h1.cell 0
    have l0 := h1.lt
    have q0 : W.cell? ⟨w.heap.size, 0, none⟩ = some (.slice none 0 0) := hR.r1.cell 0
    have q1 : W.cell? ⟨w.heap.size + 1, 0, none⟩ = some .nilIface := hR.r2.cell 0
    have f0 := hR.r1.free
    have f1 := hR.r2.free
    have l1 := hR.r1.lt
    have l2 := hR.r2.lt
    have HR := Lib.hid hR
    have H1 := Lib.hid h1
    have H2 := Lib.hid h2
    have H3 := Lib.hid h3
    have HBW := Lib.hid hbw
    have HKD := Lib.hid hK
    have HDD := Lib.hid hD
    clear h1 h2 h3 hR hbw hK hD
    trace "I"; gi_wp2
    obtain ⟨X, hX⟩ : ∃ X, (W.setCell ⟨w.heap.size, 0, none⟩ (.slice A (adds ys).length c)).setCell ⟨w.heap.size + 1, 0, none⟩ .nilIface = X := ⟨_, rfl⟩
    rw [hX]
    have x0 : BlockIs X w.heap.size 44 #[.slice A (adds ys).length c] := by rw [← hX]; exact (HR.out.r1.put 0 (.slice A (adds ys).length c)).far (by simp) _
    have x1 : BlockIs X (w.heap.size + 1) 27 #[.nilIface] := by rw [← hX]; exact (HR.out.r2.far (by simp) _).put 0 .nilIface
    have xo : Out W X [w.heap.size, w.heap.size + 1] := by rw [← hX]; exact ((Out.refl W _).put (p := ⟨w.heap.size, 0, none⟩) (Or.inl (by simp)) _).put (p := ⟨w.heap.size + 1, 0, none⟩) (Or.inl (by simp)) _
    have xl : Lst X 96 2 (.slice A (adds ys).length c) ((adds ys).map rngRow) := H2.out.kept xo (fun k hk hm => by
      have := H3.out k (by rw [blocks_any A 0 0 (adds ys).length c]; exact hk)
      simp at hm
      omega)
    have xb : Below w.heap.size w X := by rw [← hX]; exact ((HBW.out).setCell (by simp) _).setCell (by simp) _
    have xd : X.heap[D]? = some (.deferred (some [])) := by
      rw [← hX]
      have hd := HDD.out
      simp at hd
      exact (Below.heap_setCell _ _ _ D (by show D ≠ w.heap.size + 1; omega)).trans ((Below.heap_setCell _ _ _ D (by show D ≠ w.heap.size; omega)).trans HKD.out)
    refine ⟨by simp, .inl ⟨_, _, rfl, run_takeDeferred xd, ?_⟩⟩
    have y0 := boxes_grown x0 (grownBy_putObj' X D (.deferred none)) (fun r e => by cases e; exact ⟨_, xd, rfl⟩)
    have y1 := boxes_grown x1 (grownBy_putObj' X D (.deferred none)) (fun r e => by cases e; exact ⟨_, xd, rfl⟩)
    refine ⟨.tuple #[.slice A (adds ys).length c, .nilIface], ?_, A, c, rfl, rows_grown xl (grownBy_putObj' X D _) (fun r e => by cases e; exact ⟨_, xd, rfl⟩), xb.trans (belowK_b (w := w) (Nat.le_refl _) X D _ _ (by have hd := HDD.out; simp at hd; omega) xd rfl rfl), fun q hq => by have := H3.out q hq; omega⟩
    trace "J"; rw [results_two rfl]
    have c0 : (X.putObj D (.deferred none)).cell? ⟨w.heap.size, 0, none⟩ = some (.slice A (adds ys).length c) := y0.cell 0
    have c1 : (X.putObj D (.deferred none)).cell? ⟨w.heap.size + 1, 0, none⟩ = some .nilIface := y1.cell 0
    go_simp
end Go.Proofs.YtaindcicloapfaaGreatDoor

/-! log.Crash, Fail, Sync and All by contracts; what a log holds in plain words. Condition: the block holds a Log whose bytes are records and a part of one. -/
namespace Go.Proofs.YtaindcicloapfaaGreatDoor
open Go.ChangeShapes Go.WideShapes Go.ChangeAt Go.RowKit
set_option linter.unusedVariables false

/-- a log's bytes: whole records, then a part of one -/
structure LgOk (s : LgS) (ns : List Int) (t : List UInt8) : Prop where
  by_ : s.by_.data.toList = rcs ns ++ t
  nl : noNl t
  all : s.all = adds ns
  fit : Fits ns
  s0 : 0 ≤ s.safe
  s1 : s.safe ≤ (rcs ns).length
  nt : s.st = false → t = []
  tl : t.length ≤ 11
  nn : ns.length ≤ 50000
theorem rcs_few {ns : List Int} (h : Fits ns) : (rcs ns).length ≤ 11 * ns.length := by
  have hp := h.pos
  clear h
  induction ns with
  | nil => simp [rcs]
  | cons n ns ih =>
    have h1 := ih (fun m hm => hp m (by simp [hm]))
    have h2 := hp n (by simp)
    have h3 := ita_size h2.1 h2.2
    have e : (ita n).size = (Lib.itoa n).length := str_of
    rw [rcs_cons, List.length_append, rcb_len, List.length_cons]
    omega
theorem LgOk.few {s : LgS} {ns : List Int} {t : List UInt8} (h : LgOk s ns t) : s.by_.size ≤ 1000000 := by
  have h1 := rcs_few h.fit
  have h2 : s.by_.data.toList.length = s.by_.size := Array.length_toList
  have h3 := h.tl
  have h4 := h.nn
  rw [h.by_, List.length_append] at h2
  omega
/-- how far the bytes go on when it crashes -/
def LgS.high (s : LgS) (keep : Int) : Int := s.safe + max 0 (min keep (s.by_.size - s.safe))
/-- the records that are whole among so many bytes -/
structure Whole (ns : List Int) (h : Int) (j : Nat) : Prop where
  le : j ≤ ns.length
  in_ : ((rcs (ns.take j)).length : Int) ≤ h
  most : ∀ i, i ≤ ns.length → ((rcs (ns.take i)).length : Int) ≤ h → i ≤ j
theorem rcs_mono (ns : List Int) {i j : Nat} (h : i < j) (hj : j ≤ ns.length) : (rcs (ns.take i)).length < (rcs (ns.take j)).length := by
  obtain ⟨d, rfl⟩ : ∃ d, j = i + 1 + d := ⟨j - (i + 1), by omega⟩
  have e : ns.take (i + 1 + d) = ns.take i ++ (ns.getD i 0 :: (ns.drop (i + 1)).take d) := by
    rw [List.take_add, List.take_succ_eq_append_getElem (by omega), List.append_assoc]
    simp [List.getD, List.getElem?_eq_getElem (show i < ns.length by omega)]
  rw [e, rcs_app, rcs_cons, List.length_append, List.length_append, rcb_len]
  omega
theorem Fits.take {ns : List Int} (h : Fits ns) (j : Nat) : Fits (ns.take j) := by
  intro k hk
  rw [List.length_take] at hk
  have h1 := h k (by omega)
  have e1 : (ns.take j).take k = ns.take k := by rw [List.take_take]; congr 1; omega
  have e2 : (ns.take j).getD k 0 = ns.getD k 0 := by
    simp only [List.getD]
    rw [List.getElem?_take_of_lt (by omega)]
  rw [e1, e2]
  exact h1
/-- what is left of the bytes -/
theorem cut_bytes {s : LgS} {ns : List Int} {t : List UInt8} (h : LgOk s ns t) {m : Nat} (hm : m ≤ s.by_.size) : ∃ j t', Whole ns m j ∧ s.by_.data.toList.take m = rcs (ns.take j) ++ t' ∧ noNl t' := by
  have hpos : ∀ n ∈ ns, 0 ≤ n := fun n hn => (h.fit.pos n hn).1
  by_cases hle : m ≤ (rcs ns).length
  · obtain ⟨j, t', h1, h2, h3, h4⟩ := rcs_take ns hpos m hle
    have hlen : m = (rcs (ns.take j)).length + t'.length := by
      have := congrArg List.length h2
      rw [List.length_take, List.length_append] at this
      omega
    refine ⟨j, t', ⟨h1, by omega, fun i hi hc => ?_⟩, by rw [h.by_, List.take_append_of_le_length hle]; exact h2, h3⟩
    rcases Nat.lt_or_ge j i with hlt | hge
    · exfalso
      have hj : j < ns.length := by omega
      have h5 := h4 hj
      have h6 : (rcs (ns.take (j + 1))).length = (rcs (ns.take j)).length + (rcb (ns.getD j 0)).length := by
        rw [List.take_succ_eq_append_getElem hj, rcs_app, rcs_cons, rcs_nil, List.append_nil, List.length_append]
        simp [List.getD, List.getElem?_eq_getElem hj]
      have h7 : (rcs (ns.take (j + 1))).length ≤ (rcs (ns.take i)).length := by
        rcases Nat.lt_or_ge (j + 1) i with h8 | h8
        · exact Nat.le_of_lt (rcs_mono ns h8 hi)
        · have : i = j + 1 := by omega
          subst this; exact Nat.le_refl _
      omega
    · exact hge
  · refine ⟨ns.length, t.take (m - (rcs ns).length), ⟨Nat.le_refl _, by rw [List.take_length]; omega, fun i hi _ => hi⟩, ?_, fun b hb => h.nl b (List.mem_of_mem_take hb)⟩
    rw [h.by_, List.take_append, List.take_of_length_le (by omega), List.take_length]
theorem redoC (ns : List Int) (hfit : Fits ns) (hb : (rcs ns).length ≤ 1000000) (w : World) :
    Calls Tryz.prog 107 #[.string ⟨(rcs ns).toArray⟩] w fun e w' => ∃ A cap, e = .returned (.tuple #[.slice A (adds ns).length cap, .nilIface]) ∧ Lst w' 96 2 (.slice A (adds ns).length cap) ((adds ns).map rngRow) ∧ Below w.heap.size w w' ∧ (∀ q, q ∈ blocks (.slice A 0 0) → w.heap.size ≤ q) :=
  callsIn_wide.1 (redo_in ns hfit hb w)
/-- behind a crash -/
def LgS.left_ (ns : List Int) : LgS := ⟨adds ns, ⟨(rcs ns).toArray⟩, ((rcs ns).length : Int), -1, false⟩
set_option maxHeartbeats 3200000 in
set_option maxRecDepth 100000 in
theorem gcrash (g : Nat) (s : LgS) (ns : List Int) (t : List UInt8) (keep : Int) (w : World) (S : List Nat) (h : (logT g s).is w S) (ok : LgOk s ns t) :
    Calls Tryz.prog 54 #[.pointer (some ⟨g, 0, none⟩), .int .i64 keep] w fun e w' => e = .returned (.tuple #[]) ∧ ∃ j, Whole ns (s.high keep) j ∧ Leaves w w' S (logT g (LgS.left_ (ns.take j))) := by
  obtain ⟨v, hz, rfl⟩ := h
  have HZ := Lib.hid hz
  have c1 : w.cell? ⟨g, 1, none⟩ = some (.string s.by_) := hz.bl.cell 1
  have c2 : w.cell? ⟨g, 2, none⟩ = some (.int .i64 s.safe) := hz.bl.cell 2
  have lg := hz.bl.lt
  have hs1 : s.safe ≤ (s.by_.size : Int) := by
    have h1 := ok.s1
    have h2 : s.by_.data.toList.length = s.by_.size := Array.length_toList
    rw [ok.by_, List.length_append] at h2
    omega
  have hs0 := ok.s0
  have hfw := ok.few
  obtain ⟨m, hm⟩ : ∃ m : Nat, s.high keep = m := ⟨(s.high keep).toNat, by unfold LgS.high; omega⟩
  have hmle : m ≤ s.by_.size := by unfold LgS.high at hm; omega
  obtain ⟨j, t', w1, w2, w3⟩ := cut_bytes ok hmle
  have HW : Hid (Whole ns (s.high keep) j) := Lib.hid (by rw [hm]; exact w1)
  obtain ⟨B, hB⟩ : ∃ B, s.by_.extract 0 m = B := ⟨_, rfl⟩
  have eB : B.data.toList = rcs (ns.take j) ++ t' := by rw [← hB, cut_list, List.drop_zero]; exact w2
  have HI : Hid (Lib.lastIndex B.data.toList (⟨#[10]⟩ : ByteArray).data.toList = ((rcs (ns.take j)).length : Int) - 1) := Lib.hid (by
    have := rcs_last (ns.take j) t' w3
    rw [← eB] at this
    have e2 : (⟨#[10]⟩ : ByteArray).data.toList = [10] := rfl
    rw [e2]; omega)
  have hBz : B.size = m := by rw [← hB, ByteArray.size_extract]; omega
  have hnz : (rcs (ns.take j)).length ≤ B.size := by
    have h2 : B.data.toList.length = B.size := Array.length_toList
    rw [eB, List.length_append] at h2
    omega
  have HX : Hid (B.extract 0 (rcs (ns.take j)).length = ⟨(rcs (ns.take j)).toArray⟩) := Lib.hid (by
    apply ByteArray.ext
    apply Array.ext'
    rw [cut_list, eB, List.drop_zero, List.take_append_of_le_length (Nat.le_refl _), List.take_of_length_le (Nat.le_refl _)])
  have HRD := Lib.hid (fun X => redoC (ns.take j) (ok.fit.take j) (by omega) X)
  have HRG : Hid (rngE (adds (ns.take j)) = 0) := Lib.hid (ok.fit.rng j w1.le)
  have HBX := Lib.hid hB
  have HMM : Hid (s.safe + max 0 (min keep ((s.by_.size : Int) - s.safe)) = (m : Int)) := Lib.hid hm
  have HLS := Lib.hid (fun X => Tryz.strings_LastIndex B ⟨#[10]⟩ (by omega) X)
  rw [HI.out] at HLS
  suffices hmain : Calls Tryz.prog 54 #[.pointer (some ⟨g, 0, none⟩), .int .i64 keep] w fun e w' => e = .returned (.tuple #[]) ∧ Leaves w w' (g :: blocks v) (logT g (LgS.left_ (ns.take j))) from hmain.mono fun e w' hh => ⟨hh.1, j, HW.out, hh.2⟩
  unfold LgS.left_
  generalize ns.take j = ns2 at *
  obtain ⟨q, hq⟩ : ∃ q, (rcs ns2).length = q := ⟨_, rfl⟩
  rw [hq] at hnz HX HLS
  rw [hq]
  have HQ := Lib.hid hq
  have hbz : s.by_.size ≤ 1000000 := hfw
  generalize s.by_ = by_ at *
  generalize s.safe = sf at *
  clear hz w1 w2 w3 hm eB hB HI hfw ok hq
  go_enter Tryz.func54, Tryz.ntmps54
  trace "A"; go_upto_region 0 with fail
  go_cut [4] (fun s4 wx => s4 = .string B ∧ ∃ n, wx = w.drewN n)
  case first =>
    have hd0 : (0 : Int) ≤ (by_.size : Int) - sf := by omega
    have hd1 : (by_.size : Int) - sf ≤ 1000000 := by omega
    trace "B"; go_quiet (fail)
    trace "C"; go_wp2_with fail
    go_meet
    case rel => exact ⟨by rw [HMM.out, Int.toNat_natCast, HBX.out], nq, rfl⟩
  case rest =>
    obtain ⟨rfl, n, rfl⟩ := hcut
    have hq0 : (0 : Int) ≤ (q : Int) := by omega
    have hq1 : (q : Int) ≤ (B.size : Int) := by omega
    have hq2 : (B.size : Int) ≤ 1000000 := by omega
    have HZ2 := Lib.hid (HZ.out.later (show Since w (w.drewN n) from (by refine Since.out ?_; repeat (first | with_reducible assumption | with_reducible exact Since.refl _ | with_reducible refine Since.later ?_ (by with_reducible assumption) | with_reducible refine Since.only ?_ (by with_reducible assumption) (by first | assumption | omega | (simp; done) | (simp; omega)) | with_reducible refine Since.alloc ?_ _ | with_reducible refine Since.drewN ?_ _ | with_reducible refine Since.drew ?_ | with_reducible refine Since.set ?_ (by first | assumption | omega | (simp; done) | (simp; omega)) _))))
    have HSN : Hid (Since w (w.drewN n)) := Lib.hid (by refine Since.out ?_; repeat (first | with_reducible assumption | with_reducible exact Since.refl _ | with_reducible refine Since.later ?_ (by with_reducible assumption) | with_reducible refine Since.only ?_ (by with_reducible assumption) (by first | assumption | omega | (simp; done) | (simp; omega)) | with_reducible refine Since.alloc ?_ _ | with_reducible refine Since.drewN ?_ _ | with_reducible refine Since.drew ?_ | with_reducible refine Since.set ?_ (by first | assumption | omega | (simp; done) | (simp; omega)) _))
    have lg2 := HZ2.out.bl.lt
    generalize w.drewN n = w2 at *
    clear c1 c2 HMM HBX
    trace "D"; go_wp2_with fail
    refine (HLS.out _).mono ?_
    rintro e w3 ⟨rfl, rfl⟩
    trace "E"; go_wp2_with fail
    rw [HX.out]
    refine (HRD.out _).mono ?_
    rintro e w4 ⟨A, cap, rfl, hl4, hb4, hk4⟩
    have hz4 := HZ2.out.later hb4
    have d0 : w4.cell? ⟨g, 0, none⟩ = some v := hz4.bl.cell 0
    have d1 := hz4.bl.cell 1
    have d2 := hz4.bl.cell 2
    have d3 := hz4.bl.cell 3
    have d4 := hz4.bl.cell 4
    have lg4 := hz4.bl.lt
    have fg4 := hz4.bl.free
    have HZ4 := Lib.hid hz4
    have HL4 := Lib.hid hl4
    have HB4 := Lib.hid hb4
    have HK4 := Lib.hid hk4
    clear hz4 hl4 hb4 hk4 HLS HRD
    trace "F"; go_wp2_with fail
    rw [HQ.out]
    go_end0
    refine ⟨rfl, ?_⟩
    have hap : g ∉ blocks (.slice A (adds ns2).length cap) := HL4.out.apart HZ4.out.bl (by decide)
    obtain ⟨X, hX⟩ : ∃ X, ((((w4.setCell ⟨g, 0, none⟩ (.slice A (adds ns2).length cap)).setCell ⟨g, 1, none⟩ (.string ⟨(rcs ns2).toArray⟩)).setCell ⟨g, 2, none⟩ (.int .i64 (q : Int))).setCell ⟨g, 3, none⟩ (.int .i64 (-1))).setCell ⟨g, 4, none⟩ (.bool false) = X := ⟨_, rfl⟩
    rw [hX]
    have xo : Out w4 X [g] := by
      rw [← hX]
      exact (((((Out.refl w4 [g]).put (p := ⟨g, 0, none⟩) (Or.inl (by simp)) _).put (p := ⟨g, 1, none⟩) (Or.inl (by simp)) _).put (p := ⟨g, 2, none⟩) (Or.inl (by simp)) _).put (p := ⟨g, 3, none⟩) (Or.inl (by simp)) _).put (p := ⟨g, 4, none⟩) (Or.inl (by simp)) _
    have xb : BlockIs X g 161 #[.slice A (adds ns2).length cap, .string ⟨(rcs ns2).toArray⟩, .int .i64 (q : Int), .int .i64 (-1), .bool false] := by
      rw [← hX]
      exact ((((HZ4.out.bl.put 0 _).put 1 _).put 2 _).put 3 _).put 4 _
    have xl := HL4.out.kept xo (fun k hk hm => hap ((List.mem_singleton.1 hm) ▸ hk))
    have hw4 : Below w.heap.size w w4 := Since.later HSN.out HB4.out
    refine ⟨g :: blocks (.slice A (adds ns2).length cap), ⟨.slice A (adds ns2).length cap, ⟨xb, xl, HRG.out, by show (-1 : Int) ≤ -1; decide, by show (-1 : Int) ≤ 9223372036854775807; decide⟩, rfl⟩, (Out.of_below hw4 _).then' xo (fun k hk => Or.inl (by rw [List.mem_singleton.1 hk]; simp)), fun k hk => ?_⟩
    rcases List.mem_cons.1 hk with rfl | hk
    · exact Or.inl (by simp)
    · exact Or.inr (Nat.le_trans (Since.le HSN.out) (HK4.out k (blocks_zero' hk)))
theorem LgS.left_ok {ns : List Int} (hf : Fits ns) (hb : ns.length ≤ 50000) : LgOk (LgS.left_ ns) ns [] :=
  ⟨by show (⟨(rcs ns).toArray⟩ : ByteArray).data.toList = _; simp, by intro b hb; simp at hb, rfl, hf, by show (0 : Int) ≤ ((rcs ns).length : Int); omega, Int.le_refl _, fun _ => rfl, by simp, hb⟩
/-- Fail -/
def LgS.fail (s : LgS) (n : Int) : LgS := { s with left := max (-1) n }
theorem gfail (g : Nat) (s : LgS) (n : Int) (hn : n ≤ 9223372036854775807) (w : World) (S : List Nat) (h : (logT g s).is w S) :
    Calls Tryz.prog 49 #[.pointer (some ⟨g, 0, none⟩), .int .i64 n] w fun e w' => e = .returned (.tuple #[]) ∧ Leaves w w' S (logT g (s.fail n)) := by
  obtain ⟨v, hz, rfl⟩ := h
  have HZ := Lib.hid hz
  have c3 := hz.bl.cell 3
  have lg := hz.bl.lt
  have fg := hz.bl.free
  have HM : Hid (∀ m, m = max (-1) n → Leaves w (w.setCell ⟨g, 3, none⟩ (.int .i64 m)) (g :: blocks v) (logT g (s.fail n))) := Lib.hid (fun m hm => by
    subst hm
    exact hz.leaves (s' := s.fail n) (hz.bl.put 3 _) ((Out.refl w [g]).put (p := ⟨g, 3, none⟩) (Or.inl (by simp)) _) rfl (by show -1 ≤ max (-1) n; omega) (by show max (-1) n ≤ _; omega))
  clear hz
  go_enter Tryz.func49, Tryz.ntmps49
  go_wp2_with fail
  go_end0
  exact ⟨rfl, HM.out _ rfl⟩
/-- Sync -/
def LgS.syncE (s : LgS) : Int := if s.st = true ∨ s.left = 0 then 6 else 0
def LgS.sync (s : LgS) : LgS := if s.st = true then s else if s.left = 0 then s.step else { s.step with safe := s.by_.size }
set_option maxHeartbeats 1600000 in
theorem gsync (g : Nat) (s : LgS) (w : World) (S : List Nat) (h : (logT g s).is w S) :
    Calls Tryz.prog 53 #[.pointer (some ⟨g, 0, none⟩)] w fun e w' => e = .returned (errV s.syncE) ∧ Leaves w w' S (logT g s.sync) := by
  have HS0 := Lib.hid h
  obtain ⟨v, hz, rfl⟩ := h
  have HZ := Lib.hid hz
  have c4 : w.cell? ⟨g, 4, none⟩ = some (.bool s.st) := hz.bl.cell 4
  have lg := hz.bl.lt
  clear hz
  cases hst : s.st with
  | true =>
    have HE : Hid (s.syncE = 6 ∧ s.sync = s) := Lib.hid ⟨by unfold LgS.syncE; rw [if_pos (Or.inl hst)], by unfold LgS.sync; rw [if_pos hst]⟩
    rw [hst] at c4
    rw [HE.out.1, HE.out.2]
    clear hst
    go_enter Tryz.func53, Tryz.ntmps53
    go_wp2_with fail
    go_ret
    exact ⟨rfl, Leaves.same HS0.out (Below.refl _ _)⟩
  | false =>
    rw [hst] at c4
    have HST := Lib.hid hst
    clear hst
    by_cases h0 : s.left = 0
    · have HE : Hid (s.syncE = 6 ∧ s.sync = s.step) := Lib.hid ⟨by unfold LgS.syncE; rw [if_pos (Or.inr h0)], by unfold LgS.sync; rw [if_neg (by rw [HST.out]; decide), if_pos h0]⟩
      have hd : decide (s.left = 0) = true := by simpa using h0
      rw [HE.out.1, HE.out.2]
      clear h0
      go_enter Tryz.func53, Tryz.ntmps53
      go_wp2_with fail
      refine (gstep g v s _ HZ.out).mono ?_
      rintro e w3 ⟨rfl, hz3, ho3⟩
      rw [hd]
      have HL : Hid (Leaves w w3 (g :: blocks v) (logT g s.step)) := Lib.hid ⟨g :: blocks v, ⟨v, hz3, rfl⟩, ho3.mono (fun k hk => Or.inl (by rw [List.mem_singleton.1 hk]; simp)), fun k hk => Or.inl hk⟩
      clear hz3 ho3 hd
      go_wp2_with fail
      go_ret
      exact ⟨rfl, HL.out⟩
    · have HE : Hid (s.syncE = 0 ∧ s.sync = { s.step with safe := s.by_.size }) := Lib.hid ⟨by unfold LgS.syncE; rw [if_neg (by rw [HST.out]; simp [h0])], by unfold LgS.sync; rw [if_neg (by rw [HST.out]; decide), if_neg h0]⟩
      have hd : decide (s.left = 0) = false := by simpa using h0
      rw [HE.out.1, HE.out.2, errV_zero]
      obtain ⟨sy, hsy⟩ : ∃ sy, ({ s.step with safe := (s.by_.size : Int) } : LgS) = sy := ⟨_, rfl⟩
      have HSY := Lib.hid hsy
      rw [hsy]
      clear h0 hsy HE
      go_enter Tryz.func53, Tryz.ntmps53
      go_wp2_with fail
      refine (gstep g v s _ HZ.out).mono ?_
      rintro e w3 ⟨rfl, hz3, ho3⟩
      rw [hd]
      have d1 : w3.cell? ⟨g, 1, none⟩ = some (.string s.by_) := hz3.bl.cell 1
      have d2 := hz3.bl.cell 2
      have lg3 := hz3.bl.lt
      have fg3 := hz3.bl.free
      have HL : Hid (Leaves w (w3.setCell ⟨g, 2, none⟩ (.int .i64 (s.by_.size : Int))) (g :: blocks v) (logT g { s.step with safe := s.by_.size })) := Lib.hid (Leaves.out (ho3.mono (fun k hk => Or.inl (by rw [List.mem_singleton.1 hk]; simp))) (hz3.leaves (s' := { s.step with safe := s.by_.size }) (hz3.bl.put 2 _) ((Out.refl w3 [g]).put (p := ⟨g, 2, none⟩) (Or.inl (by simp)) _) rfl hz3.l1 hz3.l2))
      rw [HSY.out] at HL
      clear HSY
      generalize s.by_ = by_ at *
      clear hz3 ho3 hd
      go_wp2_with fail
      go_ret
      exact ⟨rfl, HL.out⟩
end Go.Proofs.YtaindcicloapfaaGreatDoor

/-! What the calls on a log keep, in plain words: its bytes are the records of just the numbers that were added. And log.All by a contract. Condition: as named. -/
namespace Go.Proofs.YtaindcicloapfaaGreatDoor
open Go.ChangeShapes Go.WideShapes Go.ChangeAt Go.RowKit
set_option linter.unusedVariables false

theorem LgOk.new : LgOk lg0 [] [] := ⟨rfl, by intro b hb; simp at hb, rfl, by intro k hk; simp at hk, by decide, by decide, fun _ => rfl, by simp, by simp⟩
theorem LgOk.fail {s : LgS} {ns : List Int} {t : List UInt8} (h : LgOk s ns t) (n : Int) : LgOk (s.fail n) ns t := ⟨h.by_, h.nl, h.all, h.fit, h.s0, h.s1, h.nt, h.tl, h.nn⟩
theorem LgOk.size {s : LgS} {ns : List Int} (h : LgOk s ns []) : (s.by_.size : Int) = (rcs ns).length := by
  have h2 : s.by_.data.toList.length = s.by_.size := Array.length_toList
  rw [h.by_, List.append_nil] at h2
  omega
theorem LgOk.sync {s : LgS} {ns : List Int} {t : List UInt8} (h : LgOk s ns t) : LgOk s.sync ns t := by
  unfold LgS.sync
  cases hst : s.st with
  | true => rw [if_pos rfl]; exact h
  | false =>
    rw [if_neg (by decide)]
    have ht := h.nt hst
    subst ht
    split
    · exact ⟨h.by_, h.nl, h.all, h.fit, h.s0, h.s1, fun _ => rfl, h.tl, h.nn⟩
    · exact ⟨h.by_, h.nl, h.all, h.fit, by show (0 : Int) ≤ (s.by_.size : Int); omega, by show (s.by_.size : Int) ≤ _; rw [h.size]; exact Int.le_refl _, fun _ => rfl, h.tl, h.nn⟩
theorem Fits.snoc {ns : List Int} (h : Fits ns) {n : Int} (hn : addB (adds ns) n = true) : Fits (ns ++ [n]) := by
  intro k hk
  rw [List.length_append, List.length_singleton] at hk
  by_cases hlt : k < ns.length
  · have e1 : (ns ++ [n]).take k = ns.take k := List.take_append_of_le_length (by omega)
    have e2 : (ns ++ [n]).getD k 0 = ns.getD k 0 := by simp only [List.getD]; rw [List.getElem?_append_left hlt]
    rw [e1, e2]; exact h k hlt
  · have hk2 : k = ns.length := by omega
    subst hk2
    have e1 : (ns ++ [n]).take ns.length = ns := by rw [List.take_append_of_le_length (Nat.le_refl _), List.take_length]
    have e2 : (ns ++ [n]).getD ns.length 0 = n := by simp [List.getD]
    rw [e1, e2]; exact hn
theorem rec_bytes (n : Int) : (rec_ n).data.toList = rcb n := by
  show ((ita n) ++ ⟨#[10]⟩ : ByteArray).data.toList = _
  rw [ByteArray.data_append, Array.toList_append]
  show (Lib.itoa n).toArray.toList ++ [10] = _
  simp [rcb]
theorem rec_len (n : Int) : (rec_ n).size = (Lib.itoa n).length + 1 := by
  have h : (rec_ n).data.toList.length = (rec_ n).size := Array.length_toList
  rw [rec_bytes, rcb_len] at h
  exact h.symm
theorem half_bytes {n : Int} (h0 : 0 ≤ n) (h1 : n ≤ 1073741823) : (half n).data.toList = (Lib.itoa n).take ((rec_ n).size / 2) := by
  unfold half
  have hz := ita_size h0 h1
  have e : (ita n).size = (Lib.itoa n).length := str_of
  have hl := rec_len n
  rw [cut_list, List.drop_zero, rec_bytes, rcb, List.take_append_of_le_length (by omega)]
/-- behind a number that came -/
theorem LgOk.came {s : LgS} {ns : List Int} {t : List UInt8} (h : LgOk s ns t) (hl : ns.length < 50000) (n : Int) :
    (lgB s n = true ∧ lgE s n = 0 ∧ LgOk (lgN s n) (ns ++ [n]) [] ∧ (lgN s n).st = false ∧ addB (adds ns) n = true ∧ s.st = false ∧ s.left ≠ 0) ∨ (lgB s n = false ∧ ∃ t', LgOk (lgN s n) ns t' ∧ (lgE s n = 6 ∨ (s.st = false ∧ lgN s n = s ∧ lgE s n = addE (adds ns) n ∧ addB (adds ns) n = false))) := by
  have hal := h.all
  unfold lgB lgE lgN
  cases hst : s.st with
  | true => right; exact ⟨rfl, t, h, Or.inl rfl⟩
  | false =>
    have ht := h.nt hst
    subst ht
    rw [hal]
    cases hb : addB (adds ns) n with
    | false =>
      right
      refine ⟨rfl, [], h, Or.inr ⟨rfl, rfl, ?_, rfl⟩⟩
      by_cases he : addE (adds ns) n = 0
      · simp [he]
      · simp [he]
    | true =>
      obtain ⟨a1, a2, a3, a4, a5⟩ := addB_ok hb
      have hmm := mayB_iff.1 a2
      unfold MayBe at hmm
      by_cases h0 : s.left = 0
      · right
        refine ⟨by simp [h0], (Lib.itoa n).take ((rec_ n).size / 2), ?_, Or.inl (by simp [a1, h0])⟩
        simp only [if_neg (show ¬ (false = true) by decide), if_pos h0]
        refine ⟨?_, fun b hb2 => ita_no hmm.1 b (List.mem_of_mem_take hb2), hal, h.fit, h.s0, h.s1, fun hf => ?_, ?_, h.nn⟩
        · show (s.by_ ++ half n).data.toList = _
          rw [ByteArray.data_append, Array.toList_append, h.by_, half_bytes hmm.1 hmm.2, List.append_nil]
        · have : decide (s.left = 0) = false := hf
          rw [decide_eq_true h0] at this; cases this
        · have hz := ita_size hmm.1 hmm.2
          have e : (ita n).size = (Lib.itoa n).length := str_of
          rw [List.length_take]; omega
      · left
        refine ⟨by simp [h0], by simp [a1, h0], ?_, ?_, rfl, rfl, h0⟩
        · simp only [if_neg (show ¬ (false = true) by decide), if_neg h0]
          refine ⟨?_, fun b hb2 => by simp at hb2, ?_, h.fit.snoc hb, h.s0, ?_, fun _ => rfl, by simp, by rw [List.length_append]; simp; omega⟩
          · show (s.by_ ++ rec_ n).data.toList = _
            rw [ByteArray.data_append, Array.toList_append, h.by_, rec_bytes, rcs_app, rcs_cons, rcs_nil]
            simp
          · rw [adds_snoc]; rfl
          · show s.safe ≤ _
            have := h.s1
            rw [rcs_app, List.length_append]; omega
        · simp only [if_neg (show ¬ (false = true) by decide), if_neg h0]
          show decide (s.left = 0) = false
          exact decide_eq_false h0
/-- what is there is not added again -/
theorem add_there {L : List Rng} {n : Int} (h : rngE L = 0) (hn : inB L n = true) (hm : mayB n = true) : addE L n = 0 ∧ addB L n = false := by
  have hc := rngE_canon h
  obtain ⟨w1, w2⟩ := withL_ok hc (x := ⟨n, n⟩) (Int.le_refl n)
  have e : withL L ⟨n, n⟩ = L := canon_eq w1 hc (fun y => by
    rw [w2]
    by_cases hy : rin ⟨n, n⟩ y = true
    · have : y = n := by unfold rin at hy; simp at hy; omega
      subst this
      rw [hn]; rfl
    · rw [Bool.not_eq_true] at hy
      rw [hy, Bool.or_false])
  have h0 : addE L n = 0 := by
    unfold addE
    rw [if_pos h, if_pos hm, e, if_neg (by have := rngE_len h; omega)]
  exact ⟨h0, by unfold addB; rw [hn]; simp⟩
theorem take_snoc {ns : List Int} {k : Nat} (hk : k < ns.length) : ns.take (k + 1) = ns.take k ++ [ns.getD k 0] := by
  rw [List.take_succ_eq_append_getElem hk]
  simp [List.getD, List.getElem?_eq_getElem hk]
theorem Fits.in_take {ns : List Int} (h : Fits ns) (y : Int) : ∀ k, k ≤ ns.length → (inB (adds (ns.take k)) y = true ↔ y ∈ ns.take k)
  | 0, _ => by simp [adds, inB]
  | k + 1, hk => by
    have ih := h.in_take y k (by omega)
    obtain ⟨a1, a2, a3, a4, a5⟩ := addB_ok (h k (by omega))
    have hr := h.rng k (by omega)
    rw [take_snoc (by omega), adds_snoc, a5, (withL_ok (rngE_canon hr) (x := ⟨ns.getD k 0, ns.getD k 0⟩) (Int.le_refl _)).2, Bool.or_eq_true, ih, List.mem_append, List.mem_singleton]
    refine or_congr Iff.rfl ?_
    unfold rin
    simp
    omega
theorem Fits.mem {ns : List Int} (h : Fits ns) (y : Int) : inB (adds ns) y = true ↔ y ∈ ns := by
  have := h.in_take y ns.length (Nat.le_refl _)
  rw [List.take_length] at this
  exact this
theorem Fits.cnt_take {ns : List Int} (h : Fits ns) : ∀ k, k ≤ ns.length → cntL (adds (ns.take k)) = (k : Int)
  | 0, _ => rfl
  | k + 1, hk => by
    have ih := h.cnt_take k (by omega)
    obtain ⟨a1, a2, a3, a4, a5⟩ := addB_ok (h k (by omega))
    have hr := h.rng k (by omega)
    have hm := mayB_iff.1 a2
    unfold MayBe at hm
    have hbd : ∀ {M : List Rng}, rngE M = 0 → ∀ r ∈ M, 0 ≤ r.lo ∧ r.hi < ((1073741824 : Nat) : Int) := fun {M} hM r hr2 => by
      obtain ⟨⟨p1, p2⟩, p3, p4⟩ := rngE_ok hM r hr2
      omega
    have hc := cnt_more (N := 1073741824) (rngE_canon hr) (rngE_canon a4) (hbd hr) (hbd a4) hm.1 (by omega) (fun y => by rw [a5]; exact (withL_ok (rngE_canon hr) (x := ⟨ns.getD k 0, ns.getD k 0⟩) (Int.le_refl _)).2 y)
    rw [take_snoc (by omega), adds_snoc, hc, ih, a3, if_neg (by decide)]
    omega
theorem gall (g : Nat) (s : LgS) (w : World) (S : List Nat) (h : (logT g s).is w S) :
    Calls Tryz.prog 56 #[.pointer (some ⟨g, 0, none⟩)] w fun e w' => ∃ A' cap', e = .returned (.slice A' s.all.length cap') ∧ Lst w' 96 2 (.slice A' s.all.length cap') (s.all.map rngRow) ∧ Below w.heap.size w w' ∧ ∀ k, k ∈ blocks (.slice A' 0 0) → w.heap.size ≤ k := by
  obtain ⟨v, hz, rfl⟩ := h
  have c0 : w.cell? ⟨g, 0, none⟩ = some v := hz.bl.cell 0
  have lg := hz.bl.lt
  obtain ⟨A0, cap0, hve, _, _, _⟩ := hz.ls.shape
  rw [List.length_map] at hve
  have HC := Lib.hid (rclone A0 s.all.length cap0 s.all w rfl (by have := rngE_len hz.ok; omega) (Rd.of_lst (by rw [← hve]; exact hz.ls)))
  rw [hve] at c0
  clear hz hve
  go_enter Tryz.func56, Tryz.ntmps56
  go_wp2_with fail
  refine HC.out.mono ?_
  rintro e w1 ⟨A1, c1, rfl, hl1, hb1, hk1⟩
  have HL := Lib.hid hl1
  have HB := Lib.hid hb1
  have HK := Lib.hid hk1
  clear hl1 hb1 hk1 HC
  go_wp2_with fail
  go_ret
  exact ⟨A1, c1, rfl, HL.out, HB.out, HK.out⟩
end Go.Proofs.YtaindcicloapfaaGreatDoor

/-! What the rows' lists give a walk where strconv's tables and its two errors stand ahead of the tables of kinds and counts, and a world that meets them. -/
namespace Go.Proofs.YtaindcicloapfaaGreatDoor
open Go.ChangeShapes Go.WideShapes Go.ChangeAt Go.RowKit
set_option linter.unusedVariables false

theorem laid_s {W : World} (h : laidMetH Tryz.prog [("math/bits.deBruijn32tab", Rows.laid_math_bits_deBruijn32tab), ("math/bits.deBruijn64tab", Rows.laid_math_bits_deBruijn64tab), ("internal/strconv.uint64pow10", Rows.laid_internal_strconv_uint64pow10), ("strconv.ErrRange", Rows.laid_strconv_ErrRange), ("strconv.ErrSyntax", Rows.laid_strconv_ErrSyntax), ("wanderwire/varint.kinds", Rows.laid_wanderwire_varint_kinds), ("wanderwire/frame.counts", Rows.laid_wanderwire_frame_counts)] W) : PTab W ∧ KTab W ∧ CTab W := by
  have h' : laidMet Tryz.prog [("math/bits.deBruijn32tab", Rows.laid_math_bits_deBruijn32tab), ("math/bits.deBruijn64tab", Rows.laid_math_bits_deBruijn64tab), ("internal/strconv.uint64pow10", Rows.laid_internal_strconv_uint64pow10), ("strconv.ErrRange", Rows.laid_strconv_ErrRange), ("strconv.ErrSyntax", Rows.laid_strconv_ErrSyntax), ("wanderwire/varint.kinds", Rows.laid_wanderwire_varint_kinds), ("wanderwire/frame.counts", Rows.laid_wanderwire_frame_counts)] W := h
  obtain ⟨ps, hv, _⟩ := h'.tail.tail.tail.tail.tail
  obtain ⟨hk, q, hq⟩ := ktab_of_vars hv
  exact ⟨ptab_of_head h'.tail.tail, hk, ctab_of_vars hq⟩
def errText : DataW Unit → ByteArray
  | .iface _ (.ptr (.agg [.lit (.string l)])) => ⟨l.toArray⟩
  | _ => ⟨#[]⟩
/-- A world that meets the list: the settled one, the listed variables' cells laid, each error in a block of its own. -/
noncomputable def laidWorld5 (os : Os) : World :=
  let w0 := World.holding Tryz.prog os ⟨#[], #[], []⟩
  { w0 with heap := ((w0.heap
    |>.modify 7 (fun
      | .cells _ t frozen => .cells (tabCells Rows.laid_math_bits_deBruijn32tab) t frozen
      | o => o)
    |>.modify 8 (fun
      | .cells _ t frozen => .cells (tabCells Rows.laid_math_bits_deBruijn64tab) t frozen
      | o => o)
    |>.modify 4 (fun
      | .cells _ t frozen => .cells (tabCells Rows.laid_internal_strconv_uint64pow10) t frozen
      | o => o)
    |>.modify 6 (fun
      | .cells _ t frozen => .cells #[.iface 317 (.pointer (some ⟨w0.heap.size, 0, none⟩))] t frozen
      | o => o)
    |>.modify 5 (fun
      | .cells _ t frozen => .cells #[.iface 317 (.pointer (some ⟨w0.heap.size + 1, 0, none⟩))] t frozen
      | o => o)
    |>.modify 3 (fun
      | .cells _ t frozen => .cells #[.int .i64 1, .int .i64 64, .int .i64 2, .int .i64 16384, .int .i64 4, .int .i64 1073741824] t frozen
      | o => o)
    |>.modify 1 (fun
      | .cells _ t frozen => .cells #[.int .i64 0, .int .i64 0, .int .i64 0, .int .i64 1, .int .i64 1, .int .i64 1, .int .i64 1, .int .i64 2, .int .i64 1] t frozen
      | o => o)).push (.cells #[.string (errText Rows.laid_strconv_ErrRange)] 319 (0, 0))).push (.cells #[.string (errText Rows.laid_strconv_ErrSyntax)] 319 (0, 0))
  }
set_option maxRecDepth 100000 in
theorem laidMet_s (os : Os) (args : Array Value) : laidMetH Tryz.prog [("math/bits.deBruijn32tab", Rows.laid_math_bits_deBruijn32tab), ("math/bits.deBruijn64tab", Rows.laid_math_bits_deBruijn64tab), ("internal/strconv.uint64pow10", Rows.laid_internal_strconv_uint64pow10), ("strconv.ErrRange", Rows.laid_strconv_ErrRange), ("strconv.ErrSyntax", Rows.laid_strconv_ErrSyntax), ("wanderwire/varint.kinds", Rows.laid_wanderwire_varint_kinds), ("wanderwire/frame.counts", Rows.laid_wanderwire_frame_counts)] ((laidWorld5 os).forCall (fun _ _ => 0) ⟨#[], args, []⟩).memory :=
  laidMet_of_run' 8 (by kernel_rfl) (by kernel_rfl)
end Go.Proofs.YtaindcicloapfaaGreatDoor

/-! wiresame.Ranges and wiresame.Ints on two slices that hold one list, each readable. Condition: the slices can be read. -/
namespace Go.Proofs.YtaindcicloapfaaGreatDoor
open Go.ChangeShapes Go.WideShapes Go.ChangeAt Go.RowKit
set_option linter.unusedVariables false

theorem rd_cap {w : World} {k n cap : Nat} {A : Option Addr} {es : List (List Value)} (h : Rd w k (.slice A n cap) es) : es.length = n ∧ n ≤ 9223372036854775807 := by
  obtain ⟨A', cap', hv, h1, h2, _⟩ := h.shape
  simp only [Value.slice.injEq] at hv
  obtain ⟨_, rfl, _⟩ := hv
  unfold maxLen at h2
  exact ⟨rfl, by omega⟩
theorem rd_of_block {w : World} {g k n cap : Nat} {t : TypeId} {es : List (List Value)} (h : BlockIs w g t (flat es).toArray) (hr : ∀ e ∈ es, e.length = k ∧ ∀ u ∈ e, u.oneCell' = true) (hn : es.length = n) (hc : n ≤ cap) (hm : cap ≤ 1000000) : Rd w k (.slice (some ⟨g, 0, none⟩) n cap) es := by
  subst hn
  refine ⟨⟨_, cap, rfl, hc, by unfold maxLen; omega, fun _ => ⟨g, 0, rfl, h.lt, fun j u hu => ?_⟩⟩, hr⟩
  rw [Nat.zero_add, h.cell]
  simpa using hu
set_option maxHeartbeats 1600000 in
theorem rngeqR (A B : Option Addr) (ca cb n : Nat) (L : List Rng) (w : World) (hn : L.length = n) (h : Rd w 2 (.slice A n ca) (L.map rngRow)) (h' : Rd w 2 (.slice B n cb) (L.map rngRow)) :
    Calls Tryz.prog 22 #[.slice A n ca, .slice B n cb] w fun e w' => e = .returned (.bool true) ∧ Below w.heap.size w w' := by
  have hcm := (rd_cap h).2
  have H := Lib.hid h
  have H' := Lib.hid h'
  have HN := Lib.hid hn
  have hq : ((n : Int) != (n : Int)) = false := by simp
  clear h h' hn
  go_enter Tryz.func22, Tryz.ntmps22
  go_wp2_with fail
  go_loopw [5] (fun s5 wr => ∃ i : Nat, s5 = .int .i64 i ∧ i ≤ n ∧ Since w wr) (fun s5 _ => n - (intOf s5).toNat)
  case atStart => exact ⟨0, rfl, Nat.zero_le _, Since.refl _⟩
  case round =>
    obtain ⟨i, rfl, hi, hs⟩ := hrel
    by_cases hlt : i < n
    case neg =>
      obtain rfl : i = n := by omega
      have hf : decide ((i : Int) < (i : Int)) = false := by simp
      go_wp2_with fail
      go_ret
      exact ⟨rfl, (by refine Since.out ?_; repeat (first | with_reducible assumption | with_reducible exact Since.refl _ | with_reducible refine Since.later ?_ (by with_reducible assumption) | with_reducible refine Since.only ?_ (by with_reducible assumption) (by first | assumption | omega | (simp; done) | (simp; omega)) | with_reducible refine Since.alloc ?_ _ | with_reducible refine Since.drewN ?_ _ | with_reducible refine Since.drew ?_ | with_reducible refine Since.set ?_ (by first | assumption | omega | (simp; done) | (simp; omega)) _))⟩
    have hlt' : (i : Int) < (n : Int) := by omega
    obtain ⟨ba, oa, rfl, hla, hca⟩ := H.out.rng (i := i) (by rw [HN.out]; exact hlt)
    obtain ⟨bb, ob, rfl, hlb, hcb⟩ := H'.out.rng (i := i) (by rw [HN.out]; exact hlt)
    obtain ⟨a0, a1⟩ := hca wr hs i (by rw [HN.out]; exact hlt)
    obtain ⟨b0, b1⟩ := hcb wr hs i (by rw [HN.out]; exact hlt)
    have la : ba < wr.heap.size := Nat.lt_of_lt_of_le hla hs.le
    have lb : bb < wr.heap.size := Nat.lt_of_lt_of_le hlb hs.le
    clear hca hcb
    generalize (rat L i).lo = ds at *
    generalize (rat L i).hi = dn at *
    go_wp2_with fail
    go_quiet (fail)
    go_wp2_with fail
    go_roundw
    case rel => exact ⟨i + 1, by go_num, by omega, (by refine Since.out ?_; repeat (first | with_reducible assumption | with_reducible exact Since.refl _ | with_reducible refine Since.later ?_ (by with_reducible assumption) | with_reducible refine Since.only ?_ (by with_reducible assumption) (by first | assumption | omega | (simp; done) | (simp; omega)) | with_reducible refine Since.alloc ?_ _ | with_reducible refine Since.drewN ?_ _ | with_reducible refine Since.drew ?_ | with_reducible refine Since.set ?_ (by first | assumption | omega | (simp; done) | (simp; omega)) _))⟩
    case measure => simp [intOf]; omega
end Go.Proofs.YtaindcicloapfaaGreatDoor

/-! Contract of packet.Print. Condition: the frames can be read; the tables hold what the program's text lays. -/
namespace Go.Proofs.YtaindcicloapfaaGreatDoor
open Go.ChangeShapes Go.WideShapes Go.ChangeAt Go.RowKit
set_option linter.unusedVariables false

theorem pkt_need {x known : Int} {L : List Frm} (h : ¬ NeedOk x known) : pktE x known L = 1 ∧ pktV x known L = [] := by
  have e : pktE x known L = 1 := by unfold pktE; rw [if_neg h]
  exact ⟨e, by unfold pktV; rw [if_neg (by rw [e]; decide)]⟩
theorem pkt_no {x known : Int} {L : List Frm} {k : Int} (e : pktE x known L = k) (hk : k ≠ 0) : pktV x known L = [] := by unfold pktV; rw [if_neg (by rw [e]; exact hk)]
theorem pkt_nil {x known : Int} (h : NeedOk x known) : pktE x known [] = 5 := by unfold pktE; rw [if_pos h, if_pos rfl]
theorem pkt_many {x known : Int} {L : List Frm} (h : NeedOk x known) (h2 : 12 < L.length) : pktE x known L = 4 := by
  unfold pktE; rw [if_pos h, if_neg (by intro h3; rw [h3] at h2; simp at h2), if_pos h2]
theorem pkt_frm {x known : Int} {L : List Frm} (h : NeedOk x known) (h0 : L ≠ []) (h2 : ¬ 12 < L.length) (h3 : frmsE L ≠ 0) : pktE x known L = frmsE L := by
  unfold pktE; rw [if_pos h, if_neg h0, if_neg h2, if_neg h3]
theorem pkt_big {x known : Int} {L : List Frm} (h : NeedOk x known) (h0 : L ≠ []) (h2 : ¬ 12 < L.length) (h3 : frmsE L = 0) (h4 : 200 < (pktB x known L).length) : pktE x known L = 4 := by
  unfold pktE; rw [if_pos h, if_neg h0, if_neg h2, if_pos h3, if_pos h4]
theorem pkt_ok {x known : Int} {L : List Frm} (h : NeedOk x known) (h0 : L ≠ []) (h2 : ¬ 12 < L.length) (h3 : frmsE L = 0) (h4 : ¬ 200 < (pktB x known L).length) : pktE x known L = 0 ∧ pktV x known L = pktB x known L := by
  have e : pktE x known L = 0 := by unfold pktE; rw [if_pos h, if_neg h0, if_neg h2, if_pos h3, if_neg h4]
  exact ⟨e, by unfold pktV; rw [if_pos e]⟩
theorem frmsE_upto {L : List FrmV} {i : Nat} (h : i < L.length) (hE : frmsE ((L.take i).map (·.f)) = 0) : (frmE L[i].f = 0 → frmsE ((L.take (i + 1)).map (·.f)) = 0) ∧ (frmE L[i].f ≠ 0 → frmsE (L.map (·.f)) = frmE L[i].f) := by
  constructor
  · intro h0
    rw [List.take_succ_eq_append_getElem h, List.map_append, frmsE_app_ok hE]
    simp [frmsE, h0]
  · intro h0
    have hsp : L = L.take i ++ (L[i] :: L.drop (i + 1)) := by
      rw [← List.drop_eq_getElem_cons h, List.take_append_drop]
    have e : frmsE (L.map (·.f)) = frmsE ((L.take i ++ (L[i] :: L.drop (i + 1))).map (·.f)) := congrArg (fun M => frmsE (M.map (·.f))) hsp
    rw [e, List.map_append, List.map_cons, frmsE_bad hE h0]

set_option maxHeartbeats 3200000 in
set_option maxRecDepth 100000 in
theorem pkprint (x known : Int) (A : Option Addr) (n cap : Nat) (L : List FrmV) (w : World) (hn : L.length = n) (h : FrmsIn w (.slice A n cap) L) (hK : KTab w) (hC : CTab w) :
    Calls Tryz.prog 50 #[.int .i64 x, .int .i64 known, .slice A n cap] w fun e w' => e = .returned (.tuple #[.string ⟨(pktV x known (L.map (·.f))).toArray⟩, errV (pktE x known (L.map (·.f)))]) ∧ Below w.heap.size w w' := by
  have HN := Lib.hid hn
  have H := Lib.hid h
  have HK := Lib.hid hK
  have HC := Lib.hid hC
  have hcm := (rd_cap h.rd).2
  have HML : Hid ((L.map (·.f)).length = n) := Lib.hid (by rw [List.length_map, hn])
  clear hn h hK hC
  by_cases hN : NeedOk x known
  case neg =>
    obtain ⟨p1, p2⟩ := pkt_need (L := L.map (·.f)) hN
    have P1 := Lib.hid p1
    have P2 := Lib.hid p2
    have NE : Hid (needV x known = 0 ∧ needE x known = 1) := Lib.hid ⟨by unfold needV; rw [if_neg hN], by unfold needE; rw [if_neg hN]⟩
    clear p1 p2 hN
    go_enter Tryz.func50, Tryz.ntmps50
    go_wp2_with fail
    refine (need_any x known _).mono ?_
    rintro e w1 ⟨rfl, rfl⟩
    rw [NE.out.1, NE.out.2, errV_pos (by decide)]
    trace "A"; go_wp2_with fail
    go_ret2
    exact ⟨by rw [P1.out, P2.out]; rfl, Below.refl _ _⟩
  have HNO := Lib.hid hN
  have NE : Hid (needE x known = 0) := Lib.hid (by unfold needE; rw [if_pos hN])
  clear hN
  by_cases h0 : n = 0
  · subst h0
    have hl0 : L.map (·.f) = [] := List.length_eq_zero_iff.1 HML.out
    have p1 := pkt_nil HNO.out
    rw [← hl0] at p1
    have P1 := Lib.hid p1
    have P2 := Lib.hid (pkt_no p1 (by decide))
    clear hl0 p1
    go_enter Tryz.func50, Tryz.ntmps50
    go_wp2_with fail
    refine (need_any x known _).mono ?_
    rintro e w1 ⟨rfl, rfl⟩
    rw [NE.out, errV_zero]
    trace "B"; go_wp2_with fail
    go_ret2
    exact ⟨by rw [P1.out, P2.out]; rfl, Below.refl _ _⟩
  have h0' : ((n : Int) == 0) = false := by rw [beq_eq_false_iff_ne]; omega
  have HNE : Hid (L.map (·.f) ≠ []) := Lib.hid (fun hh => by have := HML.out; rw [hh] at this; simp at this; omega)
  clear h0
  by_cases h12 : 12 < n
  · have h12' : (12 : Int) < (n : Int) := by omega
    have p1 := pkt_many (L := L.map (·.f)) HNO.out (by rw [HML.out]; exact h12)
    have P1 := Lib.hid p1
    have P2 := Lib.hid (pkt_no p1 (by decide))
    clear p1
    go_enter Tryz.func50, Tryz.ntmps50
    go_wp2_with fail
    refine (need_any x known _).mono ?_
    rintro e w1 ⟨rfl, rfl⟩
    rw [NE.out, errV_zero]
    trace "C"; go_wp2_with fail
    go_ret2
    exact ⟨by rw [P1.out, P2.out]; rfl, Below.refl _ _⟩
  have h12' : decide ((12 : Int) < (n : Int)) = false := by simp; omega
  have HF : Hid (frmsE (L.map (·.f)) ≠ 0 → pktE x known (L.map (·.f)) = frmsE (L.map (·.f))) := Lib.hid (fun hh => pkt_frm HNO.out HNE.out (by rw [HML.out]; exact h12) hh)
  have HBG : Hid (frmsE (L.map (·.f)) = 0 → 200 < (pktB x known (L.map (·.f))).length → pktE x known (L.map (·.f)) = 4) := Lib.hid (fun h3 h4 => pkt_big HNO.out HNE.out (by rw [HML.out]; exact h12) h3 h4)
  have HOK : Hid (frmsE (L.map (·.f)) = 0 → ¬ 200 < (pktB x known (L.map (·.f))).length → pktE x known (L.map (·.f)) = 0 ∧ pktV x known (L.map (·.f)) = pktB x known (L.map (·.f))) := Lib.hid (fun h3 h4 => pkt_ok HNO.out HNE.out (by rw [HML.out]; exact h12) h3 h4)
  have PB := Lib.hid (fun W h1 h2 h3 => pkbytes x known A n cap L W HN.out (by omega) h1 h2 HNO.out h3)
  clear h12
  go_enter Tryz.func50, Tryz.ntmps50
  go_wp2_with fail
  refine (need_any x known _).mono ?_
  rintro e w1 ⟨rfl, rfl⟩
  rw [NE.out, errV_zero]
  trace "D"; go_wp2_with fail
  go_loopw [36] (fun s36 wr => ∃ i : Nat, s36 = .int .i64 i ∧ i ≤ n ∧ Hid (frmsE ((L.take i).map (·.f)) = 0) ∧ Since w wr) (fun s36 _ => n - (intOf s36).toNat)
  case atStart => exact ⟨0, rfl, Nat.zero_le _, Lib.hid rfl, Since.refl _⟩
  case round =>
    obtain ⟨i, rfl, hi, HU, hs⟩ := hrel
    by_cases hlt : i < n
    case neg =>
      obtain rfl : i = n := by omega
      have hf : decide ((i : Int) < (i : Int)) = false := by simp
      have HE0 : Hid (frmsE (L.map (·.f)) = 0) := Lib.hid (by have := HU.out; rw [List.take_of_length_le (by rw [HN.out]; exact Nat.le_refl _)] at this; exact this)
      trace "E"; go_wp2_with fail
      refine (PB.out _ (H.out.later hs) HE0.out (HK.out.later hs)).mono ?_
      rintro e w5 ⟨rfl, hb5⟩
      have hs5 := hs.later hb5
      clear hb5
      by_cases h2 : 200 < (pktB x known (L.map (·.f))).length
      · have p1 := HBG.out HE0.out h2
        have P1 := Lib.hid p1
        have P2 := Lib.hid (pkt_no p1 (by decide))
        have h2' : (200 : Int) < ((pktB x known (L.map (·.f))).length : Int) := by omega
        clear p1 HF HBG HOK
        generalize pktB x known (L.map (·.f)) = Y at *
        trace "F"; go_wp2_with fail
        go_ret2
        exact ⟨by rw [P1.out, P2.out]; rfl, hs5⟩
      · obtain ⟨p1, p2⟩ := HOK.out HE0.out h2
        have P1 := Lib.hid p1
        have P2 := Lib.hid p2
        have h2' : decide ((200 : Int) < ((pktB x known (L.map (·.f))).length : Int)) = false := by simp; omega
        clear p1 p2 HF HBG HOK
        generalize pktB x known (L.map (·.f)) = Y at *
        trace "G"; go_wp2_with fail
        go_ret2
        exact ⟨by rw [P1.out, P2.out]; rfl, hs5⟩
    have hlt' : (i : Int) < (n : Int) := by omega
    have hil : i < L.length := by rw [HN.out]; exact hlt
    obtain ⟨b, off, rfl, hbl, hc⟩ := H.out.rd.frm hil
    obtain ⟨c0, c1, c2⟩ := hc wr hs i hil
    have lb : b < wr.heap.size := Nat.lt_of_lt_of_le hbl hs.le
    have HPI := Lib.hid (H.out.each L[i] (List.getElem_mem hil))
    obtain ⟨y1, y2⟩ := frmsE_upto hil HU.out
    have Y1 := Lib.hid y1
    have Y2 := Lib.hid y2
    clear hc y1 y2
    generalize L[i] = p at *
    have FC := Lib.hid (fun W h1 h2 => fcheck p W h1 h2)
    unfold FrmV.agg at FC
    clear hil
    trace "H"; go_wp2_with fail
    refine (FC.out _ (HPI.out.later (by refine Since.out ?_; repeat (first | with_reducible assumption | with_reducible exact Since.refl _ | with_reducible refine Since.later ?_ (by with_reducible assumption) | with_reducible refine Since.only ?_ (by with_reducible assumption) (by first | assumption | omega | (simp; done) | (simp; omega)) | with_reducible refine Since.alloc ?_ _ | with_reducible refine Since.drewN ?_ _ | with_reducible refine Since.drew ?_ | with_reducible refine Since.set ?_ (by first | assumption | omega | (simp; done) | (simp; omega)) _))) (HC.out.later (by refine Since.out ?_; repeat (first | with_reducible assumption | with_reducible exact Since.refl _ | with_reducible refine Since.later ?_ (by with_reducible assumption) | with_reducible refine Since.only ?_ (by with_reducible assumption) (by first | assumption | omega | (simp; done) | (simp; omega)) | with_reducible refine Since.alloc ?_ _ | with_reducible refine Since.drewN ?_ _ | with_reducible refine Since.drew ?_ | with_reducible refine Since.set ?_ (by first | assumption | omega | (simp; done) | (simp; omega)) _)))).mono ?_
    rintro e w2 ⟨rfl, hb2⟩
    have hs2 : Since w w2 := (by refine Since.out ?_; repeat (first | with_reducible assumption | with_reducible exact Since.refl _ | with_reducible refine Since.later ?_ (by with_reducible assumption) | with_reducible refine Since.only ?_ (by with_reducible assumption) (by first | assumption | omega | (simp; done) | (simp; omega)) | with_reducible refine Since.alloc ?_ _ | with_reducible refine Since.drewN ?_ _ | with_reducible refine Since.drew ?_ | with_reducible refine Since.set ?_ (by first | assumption | omega | (simp; done) | (simp; omega)) _))
    clear hb2
    by_cases hE : frmE p.f = 0
    · have Y3 := Lib.hid (Y1.out hE)
      rw [hE, errV_zero]
      clear hE
      trace "I"; go_wp2_with fail
      go_roundw
      case rel => exact ⟨i + 1, by go_num, by omega, Y3, hs2⟩
      case measure => simp [intOf]; omega
    · have y3 := Y2.out hE
      have p1 := HF.out (by rw [y3]; exact hE)
      rw [y3] at p1
      have P1 := Lib.hid p1
      have P2 := Lib.hid (pkt_no p1 hE)
      have HEE := Lib.hid hE
      rw [errV_pos hE]
      clear hE y3 p1
      trace "J"; go_wp2_with fail
      go_ret2
      exact ⟨by rw [P1.out, P2.out, errV_pos HEE.out]; rfl, hs2⟩
end Go.Proofs.YtaindcicloapfaaGreatDoor
