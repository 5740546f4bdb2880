/- Contracts and plain laws that the claim leans on, part 5 of 8: each part has its own word. No condition beside theirs. -/
import Derived.Test.YtmfbaijbigodkaaGreatDoorBase
import Derived.Test.YtmfbaijbigodkaaGreatDoorOnly
import Derived.Test.YtmfbaijbigodkaaGreatDoorMay
import Derived.Test.YtmfbaijbigodkaaGreatDoorCredit
import Derived.Test.YtmfbaijbigodkaaGreatDoorQD
import Derived.Deep.RegionLaw
import Derived.Laws.IdiomCopy
import Derived.Lib.SliceRun
import Derived.Deep.QuietTactic
import Derived.BigQuiet
import Derived.BigRegion
/-! Plain words on two ends that talk: what each knows of the other, and what a packet of the one does to the other. No program here. -/
namespace Go.Proofs.YtmfbaijbigodkaaGreatDoor
open Go.ChangeShapes Go.WideShapes Go.ChangeAt Go.RowKit
set_option linter.unusedVariables false

theorem came_top {L : List Rng} (h : rngE L = 0) {n : Int} (hn : inB L n = true) : n ≤ (rat L 0).hi := by
  obtain ⟨r, hr, h1, h2⟩ := inB_iff.1 hn
  obtain ⟨i, hi, rfl⟩ := List.getElem_of_mem hr
  have hc := rngE_canon h
  rw [← rat_get hi] at h2
  rcases Nat.eq_zero_or_pos i with h0 | h0
  · subst h0; exact h2
  · have a := canon_rat hc h0 hi
    have b := hc.ok (rat L 0) (by rw [rat_get (by omega)]; exact List.getElem_mem _)
    omega
theorem came_top_in {L : List Rng} (h : rngE L = 0) (h0 : L ≠ []) : inB L (rat L 0).hi = true := by
  have hp : 0 < L.length := List.length_pos_iff.2 h0
  refine inB_iff.2 ⟨rat L 0, by rw [rat_get hp]; exact List.getElem_mem _, ?_, Int.le_refl _⟩
  exact (rngE_canon h).ok _ (by rw [rat_get hp]; exact List.getElem_mem _)
theorem rng_nil {L : List Rng} (h : rngE L = 0) {n : Int} (hn : inB L n = true) : L ≠ [] := by
  rintro rfl; cases hn
theorem addE_or {L : List Rng} (h : rngE L = 0) {n : Int} (hn : MayBe n) : addE L n = 0 ∨ addE L n = 4 := by
  unfold addE
  rw [if_pos h, if_pos (mayB_iff.2 hn)]
  split
  · exact Or.inr rfl
  · exact Or.inl rfl
theorem addL_in {L : List Rng} (h : rngE L = 0) {n : Int} (hn : addE L n = 0) (y : Int) : inB (addL L n) y = (inB L y || decide (y = n)) := by
  rw [(addL_ok h hn).2.1, (withL_ok (rngE_canon h) (Int.le_refl n)).2]
  congr 1
  unfold rin
  by_cases hy : y = n
  · subst hy; simp
  · rw [decide_eq_false hy]
    rcases Int.lt_or_gt_of_ne hy with h1 | h1
    · rw [decide_eq_false (by omega : ¬ n ≤ y), Bool.false_and]
    · rw [decide_eq_false (by omega : ¬ y ≤ n), Bool.and_false]

/-- frames of a packet as an end makes it -/
def FS (A : List Rng) (Lc : Int) (ps : List Pc) : List Frm := ackFs A ++ ⟨4, [Lc], ByteArray.empty⟩ :: ps.map pcFrm
def EnS.acked (s : EnS) (A : List Rng) : EnS := if A = [] then s else { s with told := tellRs s.made s.told A, known := max s.known (rat A 0).hi }
theorem takes_ack {s : EnS} {A : List Rng} {r : List Frm} (h : A ≠ [] → (rat A 0).hi < s.made.length) : s.takes (ackFs A ++ r) = (s.acked A).takes r := by
  unfold ackFs EnS.acked
  by_cases h0 : A = []
  · rw [if_pos h0, if_pos h0]; rfl
  · rw [if_neg h0, if_neg h0]
    have hl := h h0
    show (if s.take1E ⟨2, unpairs A, ByteArray.empty⟩ = 0 then _ else _) = _
    have e : s.take1E ⟨2, unpairs A, ByteArray.empty⟩ = 0 := by
      unfold EnS.take1E
      rw [if_pos rfl]
      show (if (s.made.length : Int) ≤ (rat (pairs (unpairs A)) 0).hi then (6 : Int) else 0) = 0
      rw [pairs_unpairs, if_neg (by omega)]
    rw [if_pos e]
    congr 1
    unfold EnS.take1
    rw [if_pos rfl]
    show (if (s.made.length : Int) ≤ (rat (pairs (unpairs A)) 0).hi then s else { s with told := tellRs s.made s.told (pairs (unpairs A)), known := max s.known (rat (pairs (unpairs A)) 0).hi }) = _
    rw [pairs_unpairs, if_neg (by omega)]
theorem takes_cr (s : EnS) (Lc : Int) (r : List Frm) : s.takes (⟨4, [Lc], ByteArray.empty⟩ :: r) = ({ s with may := max s.may Lc }).takes r := rfl
theorem takes_pcs {D : ByteArray} (hD : D.size ≤ 60) (ps : List Pc) : ∀ s : EnS, s.M.length = 60 → Of s.M D.data.toList → s.L ≤ 1073741823 →
    (∀ p ∈ ps, p.at_ + p.d.size ≤ D.size ∧ p.d = D.extract p.at_ (p.at_ + p.d.size) ∧ ((p.at_ + p.d.size : Nat) : Int) ≤ s.L) →
    ∃ C' M', s.takes (ps.map pcFrm) = (0, { s with C := C', M := M' }) ∧ Of M' D.data.toList ∧ ∀ j, (M'.at j).isSome = (ps.any (fun p => p.has j) || (s.M.at j).isSome) := by
  induction ps with
  | nil => intro s _ ho _ _; exact ⟨s.C, s.M, rfl, ho, fun j => by simp⟩
  | cons p ps ih =>
    intro s hM ho hL hp
    obtain ⟨p1, p2, p3⟩ := hp p (List.mem_cons_self ..)
    obtain ⟨q1, q2, q3⟩ := of_put hM ho hD (a := p.at_) (b := p.at_ + p.d.size) (by omega) p1
    rw [← p2] at q1 q2 q3
    have eE : pcEnd (pcFrm p) = ((p.at_ + p.d.size : Nat) : Int) := by
      show (p.at_ : Int) + (p.d.size : Int) = _
      omega
    have hT : takeE s.L (pcEnd (pcFrm p)) = 0 := by
      rw [eE]
      unfold takeE
      rw [if_pos ⟨by omega, by omega⟩, if_neg (by omega)]
    have hk2 : ¬ (3 : Int) = 2 := by decide
    have hk4 : ¬ (3 : Int) = 4 := by decide
    have e1 : s.take1E (pcFrm p) = 0 := by
      unfold EnS.take1E
      rw [if_neg (show ¬ (pcFrm p).kind = 2 from hk2), if_neg (show ¬ (pcFrm p).kind = 4 from hk4), if_pos (show (pcFrm p).kind = 3 from rfl), if_pos hT]
      exact q1
    have e2 : s.take1 (pcFrm p) = { s with C := maxN s.C (pcEnd (pcFrm p)), M := putM s.M p.at_ p.d.data.toList } := by
      unfold EnS.take1
      rw [if_neg (show ¬ (pcFrm p).kind = 2 from hk2), if_neg (show ¬ (pcFrm p).kind = 4 from hk4), if_pos (show (pcFrm p).kind = 3 from rfl), if_pos hT]
      rfl
    obtain ⟨C', M', r1, r2, r3⟩ := ih (s.take1 (pcFrm p)) (by rw [e2]; show (putM s.M _ _).length = 60; rw [putM_len]; exact hM) (by rw [e2]; exact q2) (by rw [e2]; exact hL) (fun q hq => by rw [e2]; exact hp q (List.mem_cons_of_mem _ hq))
    refine ⟨C', M', ?_, r2, fun j => ?_⟩
    · show (if s.take1E (pcFrm p) = 0 then (s.take1 (pcFrm p)).takes (ps.map pcFrm) else _) = _
      rw [if_pos e1, r1, e2]
    · rw [r3, e2]
      show (ps.any _ || ((putM s.M p.at_ p.d.data.toList).at j).isSome) = _
      rw [q3, List.any_cons]
      have hh : p.has j = decide (p.at_ ≤ j ∧ j < p.at_ + p.d.size) := rfl
      by_cases hj : p.at_ ≤ j ∧ j < p.at_ + p.d.size
      · rw [if_pos hj, hh, decide_eq_true hj]; simp
      · rw [if_neg hj, hh, decide_eq_false hj]; simp

/-- what one who sends (x) and one who hears (y) have of each other -/
structure Hf (x y : EnS) : Prop where
  of_ : Of y.M x.data.data.toList
  tl : ∀ j, tat x.told j = true → (y.M.at j).isSome = true
  my : x.may ≤ y.L
  cm : ∀ n, inB y.came n = true → ∃ m ps, n = ((m : Nat) : Int) ∧ x.made[m]? = some ps ∧ ∀ p ∈ ps, ∀ j, p.has j = true → (y.M.at j).isSome = true
  kn : x.known = -1 ∨ inB y.came x.known = true
  pc : ∀ ps ∈ x.made, ∀ p ∈ ps, p.at_ + p.d.size ≤ x.data.size ∧ p.d = x.data.extract p.at_ (p.at_ + p.d.size) ∧ ((p.at_ + p.d.size : Nat) : Int) ≤ y.L
  cv : ∀ j, (y.M.at j).isSome = true → ∃ m ps p, inB y.came ((m : Nat) : Int) = true ∧ x.made[m]? = some ps ∧ p ∈ ps ∧ p.has j = true
  tk : ∀ j, j < y.t → (y.M.at j).isSome = true
theorem Hf.new {n : Int} (h : 1 ≤ n) : Hf (EnS.new n) (EnS.new n) := by
  have e : ∀ j, (Plc.at (EnS.new n).M j) = none := fun j => Plc.new_at j
  have hc : ∀ k, inB (EnS.new n).came k = true → False := fun k hk => by cases hk
  have hps : ∀ ps, ps ∈ (EnS.new n).made → False := fun ps hp => by cases hp
  refine ⟨Of.new _, fun j hj => ?_, Int.le_refl _, fun k hk => (hc k hk).elim, Or.inl rfl, fun ps hp => (hps ps hp).elim, fun j hj => ?_, fun j hj => ?_⟩
  · unfold tat EnS.new at hj
    simp only [List.getD, List.getElem?_replicate] at hj
    split at hj <;> simp at hj
  · rw [e] at hj; cases hj
  · simp [EnS.new] at hj
/-- a packet of x that is on its way -/
structure Fly (x : EnS) (b : List UInt8) (n : Nat) (k : Int) (A : List Rng) (Lc : Int) (ps : List Pc) : Prop where
  by_ : b = pktB n k (FS A Lc ps)
  at_ : x.made[n]? = some ps
  ok : pktE n k (FS A Lc ps) = 0
  kn : k ≤ x.known
  ac : rngE A = 0 ∧ ∀ i, inB A i = true → inB x.came i = true
  lc : 0 ≤ Lc ∧ Lc ≤ x.L
theorem Fly.made {x : EnS} (h : EnOk x) (hm : x.made.length ≤ 1000000) : Fly x.make x.packet x.made.length x.known x.came x.L x.pieces := by
  obtain ⟨p1, p2, p3⟩ := h.packetOk hm
  obtain ⟨w1, w2, r1, k1, k2, l1, l2, lo, hi⟩ := h.cr
  exact ⟨rfl, by show (x.made ++ [x.pieces])[x.made.length]? = _; simp, p1, Int.le_refl _, ⟨h.cm, fun i hi => hi⟩, by omega, Int.le_refl _⟩
/-- more of x's own is known and written -/
structure Grows (x x' : EnS) : Prop where
  md : ∃ l, x'.made = x.made ++ l
  kn : x.known ≤ x'.known
  cm : ∀ i, inB x.came i = true → inB x'.came i = true
  lc : x.L ≤ x'.L
theorem Grows.refl (x : EnS) : Grows x x := ⟨⟨[], by simp⟩, Int.le_refl _, fun i h => h, Int.le_refl _⟩
theorem Grows.trans {x y z : EnS} (h : Grows x y) (g : Grows y z) : Grows x z := by
  obtain ⟨⟨l, hl⟩, h2, h3, h4⟩ := h
  obtain ⟨⟨m, hm⟩, g2, g3, g4⟩ := g
  exact ⟨⟨l ++ m, by rw [hm, hl, List.append_assoc]⟩, by omega, fun i hi => g3 i (h3 i hi), by omega⟩
theorem Fly.grows {x x' : EnS} {b : List UInt8} {n : Nat} {k : Int} {A : List Rng} {Lc : Int} {ps : List Pc} (h : Fly x b n k A Lc ps) (g : Grows x x') : Fly x' b n k A Lc ps := by
  obtain ⟨l, hl⟩ := g.md
  refine ⟨h.by_, ?_, h.ok, Int.le_trans h.kn g.kn, ⟨h.ac.1, fun i hi => g.cm i (h.ac.2 i hi)⟩, h.lc.1, Int.le_trans h.lc.2 g.lc⟩
  have hn : n < x.made.length := (List.getElem?_eq_some_iff.1 h.at_).1
  rw [hl, List.getElem?_append_left hn]
  exact h.at_
theorem Grows.make (x : EnS) : Grows x x.make := ⟨⟨[x.pieces], rfl⟩, Int.le_refl _, fun i h => h, Int.le_refl _⟩
theorem Grows.write (x : EnS) (d : ByteArray) : Grows x (x.write d) := by
  unfold EnS.write
  split
  · exact Grows.refl x
  · exact ⟨⟨[], by simp⟩, Int.le_refl _, fun i h => h, Int.le_refl _⟩
theorem Grows.read {x : EnS} (h : EnOk x) (n : Int) : Grows x (x.read n) := by
  unfold EnS.read
  split
  · exact Grows.refl x
  · obtain ⟨h1, h2⟩ := h.readOk n
    obtain ⟨r1, r2, r3⟩ := readE_ok h1
    exact ⟨⟨[], by simp⟩, Int.le_refl _, fun i h => h, (limitN_ok x.W x.L x.C x.R _ h.cr r1 r2 r3).2⟩
/-- what y is when a packet of x was new to it -/
def EnS.got (y : EnS) (n : Nat) (A : List Rng) (Lc : Int) (C' : Int) (M' : Plc) : EnS := { y.acked A with may := max y.may Lc, C := C', M := M', came := addL y.came n }
theorem acked_made (y : EnS) (A : List Rng) : (y.acked A).made = y.made := by unfold EnS.acked; split <;> rfl
theorem acked_rest (y : EnS) (A : List Rng) : (y.acked A).data = y.data ∧ (y.acked A).L = y.L ∧ (y.acked A).M = y.M ∧ (y.acked A).may = y.may ∧ (y.acked A).came = y.came ∧ (y.acked A).t = y.t := by
  unfold EnS.acked; split <;> simp
theorem acked_known (y : EnS) (A : List Rng) : (y.acked A).known = if A = [] then y.known else max y.known (rat A 0).hi := by unfold EnS.acked; split <;> rfl
theorem acked_told {y : EnS} (hy : EnOk y) {A : List Rng} (j : Nat) : tat (y.acked A).told j = (A.any (fun r => (pcsOf y.made r).any (fun p => p.has j)) || tat y.told j) := by
  unfold EnS.acked
  split
  · rename_i h; rw [h]; rfl
  · exact tellRs_at A hy.tl (fun ps hps p hp => (hy.md ps hps).2 p hp)
theorem takes_fly {x y : EnS} {b : List UInt8} {n : Nat} {k : Int} {A : List Rng} {Lc : Int} {ps : List Pc} (hx : EnOk x) (hy : EnOk y) (h : Hf x y) (g : Hf y x) (f : Fly x b n k A Lc ps) :
    ∃ C' M', y.takes (FS A Lc ps) = (0, { y.acked A with may := max y.may Lc, C := C', M := M' }) ∧ Of M' x.data.data.toList ∧ ∀ j, (M'.at j).isSome = (ps.any (fun p => p.has j) || (y.M.at j).isSome) := by
  have hA : A ≠ [] → (rat A 0).hi < y.made.length := fun h0 => by
    obtain ⟨m, qs, e, hm, _⟩ := g.cm _ (f.ac.2 _ (came_top_in f.ac.1 h0))
    have := (List.getElem?_eq_some_iff.1 hm).1
    omega
  have hL : y.L ≤ 1073741823 := hy.cr.l2
  obtain ⟨a1, a2, a3, a4, a5, a6⟩ := acked_rest y A
  obtain ⟨C', M', r1, r2, r3⟩ := takes_pcs hx.dz ps { y.acked A with may := max (y.acked A).may Lc } (by show (y.acked A).M.length = 60; rw [a3]; exact hy.ml) (by show Of (y.acked A).M _; rw [a3]; exact h.of_) (by show (y.acked A).L ≤ _; rw [a2]; exact hL) (fun p hp => by
    show _ ∧ _ ∧ _ ≤ (y.acked A).L
    rw [a2]
    exact h.pc ps (List.mem_of_getElem? f.at_) p hp)
  refine ⟨C', M', ?_, r2, fun j => by rw [r3]; show (_ || ((y.acked A).M.at j).isSome) = _; rw [a3]⟩
  unfold FS
  rw [takes_ack hA, takes_cr, r1]
  show ((0 : Int), ({ y.acked A with may := max (y.acked A).may Lc, C := C', M := M' } : EnS)) = _
  rw [a4]
theorem next_about {x y : EnS} (hy : EnOk y) (h : Hf x y) {n : Nat} {k : Int} (hk : k ≤ x.known) (hn : x.made.length ≤ n + 100) (hm : n ≤ 1000000) : MayBe (nextN y.came) ∧ k < nextN y.came ∧ nextN y.came ≤ n + 100 := by
  unfold nextN MayBe
  by_cases h0 : y.came = []
  · rw [if_pos h0]
    have : x.known = -1 := by
      rcases h.kn with h1 | h1
      · exact h1
      · rw [h0] at h1; cases h1
    omega
  · rw [if_neg h0]
    obtain ⟨m, qs, e, hq, _⟩ := h.cm _ (came_top_in hy.cm h0)
    have := (List.getElem?_eq_some_iff.1 hq).1
    have hkt : x.known ≤ (rat y.came 0).hi := by
      rcases h.kn with h1 | h1
      · omega
      · exact came_top hy.cm h1
    omega
/-- a packet of x comes to y: it was there already, or there would be more than may be, or it is taken -/
theorem take_fly {x y : EnS} {b : List UInt8} {n : Nat} {k : Int} {A : List Rng} {Lc : Int} {ps : List Pc} (hx : EnOk x) (hy : EnOk y) (h : Hf x y) (g : Hf y x) (f : Fly x b n k A Lc ps) (hn : x.made.length ≤ n + 100) (hm : n ≤ 1000000) :
    (inB y.came n = true ∧ y.takeE b = 0 ∧ y.take b = y) ∨ (inB y.came n = false ∧ addE y.came n = 4 ∧ y.takeE b = 4 ∧ y.take b = y) ∨
    (inB y.came n = false ∧ addE y.came n = 0 ∧ y.takeE b = 0 ∧ ∃ C' M', y.take b = y.got n A Lc C' M' ∧ Of M' x.data.data.toList ∧ ∀ j, (M'.at j).isSome = (ps.any (fun p => p.has j) || (y.M.at j).isSome)) := by
  obtain ⟨n1, n2, n3⟩ := next_about hy h f.kn hn hm
  obtain ⟨o1, o2, o3, _⟩ := open_about f.ok n1 n2 n3
  rw [← f.by_] at o1 o2 o3
  have e1 : y.takeE b = y.pktE n (FS A Lc ps) := by unfold EnS.takeE; rw [if_pos o1, o2, o3]
  have e2 : y.take b = y.pkt n (FS A Lc ps) := by unfold EnS.take; rw [if_pos o1, o2, o3]
  rw [e1, e2]
  unfold EnS.pktE EnS.pkt
  obtain ⟨C', M', r1, r2, r3⟩ := takes_fly hx hy h g f
  cases hi : inB y.came n with
  | true => exact Or.inl ⟨rfl, if_pos rfl, if_pos rfl⟩
  | false =>
    right
    rw [r1]
    have hmn : MayBe (n : Int) := ⟨by omega, by omega⟩
    rcases addE_or hy.cm hmn with h4 | h4
    · right
      refine ⟨rfl, h4, by rw [if_neg (by decide), if_pos rfl, h4], C', M', ?_, r2, r3⟩
      rw [if_neg (by decide), if_pos rfl, if_pos h4]
      rfl
    · left
      refine ⟨rfl, h4, by rw [if_neg (by decide), if_pos rfl, h4], ?_⟩
      rw [if_neg (by decide), if_pos rfl, if_neg (by omega)]
theorem pcsOf_mem {made : List (List Pc)} {r : Rng} {p : Pc} (h0 : 0 ≤ r.lo) (h : r.lo ≤ r.hi) : p ∈ pcsOf made r ↔ ∃ m ps, r.lo ≤ ((m : Nat) : Int) ∧ ((m : Nat) : Int) ≤ r.hi ∧ made[m]? = some ps ∧ p ∈ ps := by
  unfold pcsOf
  constructor
  · intro hp
    obtain ⟨ps, h1, h2⟩ := List.mem_flatten.1 hp
    obtain ⟨i, hi⟩ := List.mem_iff_getElem?.1 h1
    rw [List.getElem?_drop, List.getElem?_take] at hi
    split at hi
    · exact ⟨r.lo.toNat + i, ps, by omega, by omega, hi, h2⟩
    · cases hi
  · rintro ⟨m, ps, h1, h2, h3, h4⟩
    refine List.mem_flatten.2 ⟨ps, List.mem_iff_getElem?.2 ⟨m - r.lo.toNat, ?_⟩, h4⟩
    rw [List.getElem?_drop, List.getElem?_take, show r.lo.toNat + (m - r.lo.toNat) = m by omega, if_pos (by omega)]
    exact h3
theorem got_fields (y : EnS) (n : Nat) (A : List Rng) (Lc C' : Int) (M' : Plc) : (y.got n A Lc C' M').data = y.data ∧ (y.got n A Lc C' M').made = y.made ∧ (y.got n A Lc C' M').L = y.L ∧ (y.got n A Lc C' M').t = y.t ∧ (y.got n A Lc C' M').M = M' ∧ (y.got n A Lc C' M').came = addL y.came n ∧ (y.got n A Lc C' M').may = max y.may Lc ∧ (y.got n A Lc C' M').known = (y.acked A).known ∧ (y.got n A Lc C' M').told = (y.acked A).told := by
  obtain ⟨a1, a2, a3, a4, a5, a6⟩ := acked_rest y A
  exact ⟨a1, acked_made y A, a2, a6, rfl, rfl, rfl, rfl, rfl⟩
/-- which of its bytes y knows to be there behind that -/
theorem got_told {x y : EnS} (hy : EnOk y) (g : Hf y x) {A : List Rng} (hA : rngE A = 0) (hs : ∀ i, inB A i = true → inB x.came i = true) (j : Nat) :
    tat (y.acked A).told j = true ↔ (tat y.told j = true ∨ ∃ m ps p, inB A ((m : Nat) : Int) = true ∧ y.made[m]? = some ps ∧ p ∈ ps ∧ p.has j = true) := by
  rw [acked_told hy, Bool.or_eq_true, List.any_eq_true]
  constructor
  · rintro (⟨r, hr, hj⟩ | hj)
    · right
      rw [List.any_eq_true] at hj
      obtain ⟨p, hp, hpj⟩ := hj
      obtain ⟨a, b⟩ := rngE_ok hA r hr
      obtain ⟨m, ps, h1, h2, h3, h4⟩ := (pcsOf_mem a.1 ((rngE_canon hA).ok r hr)).1 hp
      exact ⟨m, ps, p, inB_iff.2 ⟨r, hr, h1, h2⟩, h3, h4, hpj⟩
    · exact Or.inl hj
  · rintro (hj | ⟨m, ps, p, h1, h2, h3, h4⟩)
    · exact Or.inr hj
    · left
      obtain ⟨r, hr, a, b⟩ := inB_iff.1 h1
      refine ⟨r, hr, List.any_eq_true.2 ⟨p, ?_, h4⟩⟩
      obtain ⟨c, d⟩ := rngE_ok hA r hr
      exact (pcsOf_mem c.1 ((rngE_canon hA).ok r hr)).2 ⟨m, ps, a, b, h2, h3⟩
/-- both know still of each other what they knew -/
theorem Hf.heard {x y : EnS} {b : List UInt8} {n : Nat} {k : Int} {A : List Rng} {Lc C' : Int} {M' : Plc} {ps : List Pc} (hy : EnOk y) (h : Hf x y) (f : Fly x b n k A Lc ps) (ha : addE y.came n = 0) (r2 : Of M' x.data.data.toList) (r3 : ∀ j, (M'.at j).isSome = (ps.any (fun p => p.has j) || (y.M.at j).isSome)) :
    Hf x (y.got n A Lc C' M') := by
  obtain ⟨e1, e2, e3, e4, e5, e6, e7, e8, e9⟩ := got_fields y n A Lc C' M'
  have up : ∀ j, (y.M.at j).isSome = true → (M'.at j).isSome = true := fun j hj => by rw [r3, hj, Bool.or_true]
  refine ⟨by rw [e5]; exact r2, fun j hj => by rw [e5]; exact up j (h.tl j hj), by rw [e3]; exact h.my, fun i hi => ?_, ?_, fun qs hq p hp => by rw [e3]; exact h.pc qs hq p hp, fun j hj => ?_, fun j hj => by rw [e5]; rw [e4] at hj; exact up j (h.tk j hj)⟩
  · rw [e6, addL_in hy.cm ha, Bool.or_eq_true, decide_eq_true_iff] at hi
    rcases hi with hi | hi
    · obtain ⟨m, qs, a, c, d⟩ := h.cm i hi
      exact ⟨m, qs, a, c, fun p hp j hj => by rw [e5]; exact up j (d p hp j hj)⟩
    · exact ⟨n, ps, hi, f.at_, fun p hp j hj => by rw [e5, r3, List.any_eq_true.2 ⟨p, hp, hj⟩]; rfl⟩
  · rcases h.kn with h1 | h1
    · exact Or.inl h1
    · right; rw [e6, addL_in hy.cm ha, h1]; rfl
  · rw [e5, r3, Bool.or_eq_true] at hj
    rcases hj with hj | hj
    · obtain ⟨p, hp, hpj⟩ := List.any_eq_true.1 hj
      exact ⟨n, ps, p, by rw [e6, addL_in hy.cm ha, decide_eq_true rfl, Bool.or_true], f.at_, hp, hpj⟩
    · obtain ⟨m, qs, p, a, c, d, e⟩ := h.cv j hj
      exact ⟨m, qs, p, by rw [e6, addL_in hy.cm ha, a]; rfl, c, d, e⟩
theorem Hf.hears {x y : EnS} {b : List UInt8} {n : Nat} {k : Int} {A : List Rng} {Lc C' : Int} {M' : Plc} {ps : List Pc} (hy : EnOk y) (g : Hf y x) (f : Fly x b n k A Lc ps) :
    Hf (y.got n A Lc C' M') x := by
  obtain ⟨e1, e2, e3, e4, e5, e6, e7, e8, e9⟩ := got_fields y n A Lc C' M'
  refine ⟨by rw [e1]; exact g.of_, fun j hj => ?_, by rw [e7]; have := g.my; have := f.lc; omega, fun i hi => by rw [e2]; exact g.cm i hi, ?_, by rw [e1, e2]; exact g.pc, fun j hj => by rw [e2]; exact g.cv j hj, g.tk⟩
  · rw [e9] at hj
    rcases (got_told hy g f.ac.1 f.ac.2 j).1 hj with hj | ⟨m, qs, p, a, c, d, e⟩
    · exact g.tl j hj
    · obtain ⟨m', qs', a', c', d'⟩ := g.cm _ (f.ac.2 _ a)
      have : m' = m := by omega
      subst this
      rw [c] at c'
      cases c'
      exact d' p d j e
  · rw [e8, acked_known]
    split
    · exact g.kn
    · rename_i h0
      rcases Int.le_total y.known (rat A 0).hi with hl | hl
      · right; rw [Int.max_eq_right hl]; exact f.ac.2 _ (came_top_in f.ac.1 h0)
      · rw [Int.max_eq_left hl]; exact g.kn
theorem Grows.got {y : EnS} (hy : EnOk y) {n : Nat} {A : List Rng} {Lc C' : Int} {M' : Plc} (ha : addE y.came n = 0) : Grows y (y.got n A Lc C' M') := by
  obtain ⟨e1, e2, e3, e4, e5, e6, e7, e8, e9⟩ := got_fields y n A Lc C' M'
  refine ⟨⟨[], by rw [e2]; simp⟩, ?_, fun i hi => by rw [e6, addL_in hy.cm ha, hi]; rfl, by rw [e3]; exact Int.le_refl _⟩
  rw [e8, acked_known]
  split <;> omega

/-- two ends that talk -/
structure Pair (x y : EnS) : Prop where
  ox : EnOk x
  oy : EnOk y
  xy : Hf x y
  yx : Hf y x
theorem Pair.symm {x y : EnS} (h : Pair x y) : Pair y x := ⟨h.oy, h.ox, h.yx, h.xy⟩
theorem Pair.new {n : Int} (h1 : 1 ≤ n) (h2 : n ≤ 1000) : Pair (EnS.new n) (EnS.new n) := ⟨EnOk.new h1 h2, EnOk.new h1 h2, Hf.new h1, Hf.new h1⟩
theorem Pair.make {x y : EnS} (h : Pair x y) : Pair x.make y := by
  refine ⟨h.ox.make, h.oy, ⟨h.xy.of_, h.xy.tl, h.xy.my, fun n hn => ?_, h.xy.kn, fun ps hps p hp => ?_, fun j hj => ?_, h.xy.tk⟩, ⟨h.yx.of_, h.yx.tl, h.yx.my, h.yx.cm, h.yx.kn, h.yx.pc, h.yx.cv, h.yx.tk⟩⟩
  · obtain ⟨m, ps, a, b, c⟩ := h.xy.cm n hn
    exact ⟨m, ps, a, by show (x.made ++ [x.pieces])[m]? = _; rw [List.getElem?_append_left (List.getElem?_eq_some_iff.1 b).1]; exact b, c⟩
  · rcases List.mem_append.1 hps with hps | hps
    · exact h.xy.pc ps hps p hp
    · rw [List.mem_singleton.1 hps] at hp
      obtain ⟨a, b, c⟩ := h.ox.piece hp
      have := h.ox.last
      have := h.xy.my
      exact ⟨by show p.at_ + p.d.size ≤ x.data.size; omega, b, by omega⟩
  · obtain ⟨m, ps, p, a, b, c, d⟩ := h.xy.cv j hj
    exact ⟨m, ps, p, a, by show (x.made ++ [x.pieces])[m]? = _; rw [List.getElem?_append_left (List.getElem?_eq_some_iff.1 b).1]; exact b, c, d⟩
theorem extract_app {a b : ByteArray} {i j : Nat} (h : j ≤ a.size) : (a ++ b).extract i j = a.extract i j := by
  apply ByteArray.ext
  apply Array.ext'
  rw [extract_list, extract_list, ByteArray.data_append, Array.toList_append]
  have hl : a.data.toList.length = a.size := Array.length_toList
  rw [List.take_append_of_le_length (by omega)]
theorem Pair.write {x y : EnS} (h : Pair x y) (d : ByteArray) : Pair (x.write d) y := by
  have hw := h.ox.write d
  unfold EnS.write at hw ⊢
  by_cases hd : 60 < x.data.size + d.size
  · rw [if_pos hd]; exact h
  · rw [if_neg hd] at hw ⊢
    have hl : x.data.data.toList.length = x.data.size := Array.length_toList
    have hap : (x.data ++ d).data.toList = x.data.data.toList ++ d.data.toList := by rw [ByteArray.data_append, Array.toList_append]
    refine ⟨hw, h.oy, ⟨fun i c hc => ?_, h.xy.tl, h.xy.my, h.xy.cm, h.xy.kn, fun ps hps p hp => ?_, h.xy.cv, h.xy.tk⟩, ⟨h.yx.of_, h.yx.tl, h.yx.my, h.yx.cm, h.yx.kn, h.yx.pc, h.yx.cv, h.yx.tk⟩⟩
    · obtain ⟨a, b⟩ := h.xy.of_ i c hc
      show i < (x.data ++ d).data.toList.length ∧ bth (x.data ++ d).data.toList i = c
      rw [hap]
      refine ⟨by rw [List.length_append]; omega, ?_⟩
      rw [← b]
      unfold bth
      simp only [List.getD]
      rw [List.getElem?_append_left a]
    · obtain ⟨a, b, c⟩ := h.xy.pc ps hps p hp
      exact ⟨by show p.at_ + p.d.size ≤ (x.data ++ d).size; rw [ByteArray.size_append]; omega, by show p.d = (x.data ++ d).extract _ _; rw [extract_app a]; exact b, c⟩
theorem Pair.read {x y : EnS} (h : Pair x y) (n : Int) : Pair (x.read n) y := by
  have ho := h.ox.read n
  have hg := (Grows.read h.ox n).lc
  unfold EnS.read at ho hg ⊢
  by_cases hn : n < 0
  · rw [if_pos hn]; exact h
  · rw [if_neg hn] at ho hg ⊢
    refine ⟨ho, h.oy, ⟨h.xy.of_, h.xy.tl, h.xy.my, h.xy.cm, h.xy.kn, h.xy.pc, h.xy.cv, h.xy.tk⟩, ⟨h.yx.of_, h.yx.tl, Int.le_trans h.yx.my hg, h.yx.cm, h.yx.kn, fun ps hps p hp => ?_, h.yx.cv, fun j hj => ?_⟩⟩
    · obtain ⟨a, b, c⟩ := h.yx.pc ps hps p hp
      exact ⟨a, b, Int.le_trans c hg⟩
    · by_cases h1 : j < x.t
      · exact h.yx.tk j h1
      · have hj : j < x.t + takeK x.M x.t n := hj
        have hr : takeK x.M x.t n ≤ readyN x.M x.t := by unfold takeK; omega
        have := readyN_some (M := x.M) (t := x.t) (j := j - x.t) (by omega)
        rw [show x.t + (j - x.t) = j by omega] at this
        exact this
theorem Pair.take {x y : EnS} {b : List UInt8} {n : Nat} {k : Int} {A : List Rng} {Lc : Int} {ps : List Pc} (h : Pair x y) (f : Fly x b n k A Lc ps) (hn : x.made.length ≤ n + 100) (hm : n ≤ 1000000) :
    Pair x (y.take b) ∧ Grows y (y.take b) ∧ (y.takeE b = 0 ∨ y.takeE b = 4) := by
  rcases take_fly h.ox h.oy h.xy h.yx f hn hm with ⟨_, a, c⟩ | ⟨_, _, a, c⟩ | ⟨_, ha, a, C', M', c, r2, r3⟩
  · rw [c]; exact ⟨h, Grows.refl _, Or.inl a⟩
  · rw [c]; exact ⟨h, Grows.refl _, Or.inr a⟩
  · have ho := h.oy.take b
    rw [c] at ho ⊢
    exact ⟨⟨h.ox, ho, h.xy.heard h.oy f ha r2 r3, h.yx.hears h.oy f⟩, Grows.got h.oy ha, Or.inl a⟩
end Go.Proofs.YtmfbaijbigodkaaGreatDoor

/-! Contract of an end's acked: which of its own are there. Condition: the block holds an end's cells, its packets' pieces and the ranges can be read, there were no more than 1000 packets. -/
namespace Go.Proofs.YtmfbaijbigodkaaGreatDoor
open Go.ChangeShapes Go.WideShapes Go.ChangeAt Go.RowKit
set_option linter.unusedVariables false

/-- its packets' pieces lie there -/
structure MadeIs (w : World) (mv : Value) (vs : List Value) (L : List (List Pc)) : Prop where
  len : vs.length = L.length
  lm : Lst w 95 1 mv (vs.map fun v => [v])
  lp : ∀ (i : Nat) v ps, vs[i]? = some v → L[i]? = some ps → Lst w 98 2 v (ps.map pcRow)
theorem EnIn.made {w : World} {S : List Nat} {g : Nat} {s : EnS} {p : EnP} (h : EnIn w S g s p) : MadeIs w p.mv p.vs s.made := ⟨h.len, h.lm, fun i v ps h1 h2 => h.lp h1 h2⟩
theorem MadeIs.later {w w' : World} {mv : Value} {vs : List Value} {L : List (List Pc)} (h : MadeIs w mv vs L) (hb : Below w.heap.size w w') : MadeIs w' mv vs L := ⟨h.len, h.lm.later hb, fun i v ps h1 h2 => (h.lp i v ps h1 h2).later hb⟩
/-- an end's block was written -/
theorem Lst.other {w w' : World} {E size g : Nat} {v : Value} {es : List (List Value)} {t : TypeId} {cs : Array Value} (h : Lst w E size v es) (hb : BlockIs w g t cs) (ht : t ≠ E) (ho : Out w w' [g]) : Lst w' E size v es :=
  h.kept ho (fun k hk hm => h.apart hb ht ((List.mem_singleton.1 hm) ▸ hk))
theorem MadeIs.other {w w' : World} {g : Nat} {mv : Value} {vs : List Value} {L : List (List Pc)} {t : TypeId} {cs : Array Value} (h : MadeIs w mv vs L) (hb : BlockIs w g t cs) (h1 : t ≠ 95) (h2 : t ≠ 98) (ho : Out w w' [g]) : MadeIs w' mv vs L :=
  ⟨h.len, h.lm.other hb h1 ho, fun i v ps e1 e2 => (h.lp i v ps e1 e2).other hb h2 ho⟩
theorem single_get {vs : List Value} {i : Nat} {v : Value} (h : vs[i]? = some v) : (vs.map fun v => [v])[i]? = some [v] := by rw [List.getElem?_map, h]; rfl
/-- a part of them, as slices.Concat wants it -/
theorem MadeIs.part {w : World} {gm n cap : Nat} {vs : List Value} {L : List (List Pc)} (h : MadeIs w (.slice (some ⟨gm, 0, none⟩) n cap) vs L) (hf : ∀ ps ∈ L, ps.length ≤ 3) (lo hi : Nat) : PcsR w gm lo ((vs.take hi).drop lo) ((L.take hi).drop lo) := by
  have hg : ∀ (i : Nat) v, vs[i]? = some v → w.cell? ⟨gm, i, none⟩ = some v := fun i v hv => by
    have := h.lm.cell rfl (single_get hv) (j := 0) rfl
    simpa using this
  refine ⟨by simp [h.len], ?_, fun i v hv => ?_, fun i v ps h1 h2 => ?_, fun ps hps => hf ps (List.mem_of_mem_take (List.mem_of_mem_drop hps))⟩
  · exact h.lm.lt gm (by rw [blocks_at]; simp)
  · rw [List.getElem?_drop, List.getElem?_take] at hv
    split at hv
    · exact hg _ _ hv
    · cases hv
  · rw [List.getElem?_drop, List.getElem?_take] at h1 h2
    split at h1
    · rename_i hlt
      rw [if_pos hlt] at h2
      exact Rd.of_lst (h.lp _ _ _ h1 h2)
    · cases h1
theorem Lst.pc {w : World} {A : Option Addr} {n cap : Nat} {P : List Pc} (h : Lst w 98 2 (.slice A n cap) (P.map pcRow)) {j : Nat} (hj : j < P.length) : ∃ b, A = some ⟨b, 0, none⟩ ∧ b < w.heap.size ∧ w.cell? ⟨b, j * 2, none⟩ = some (.int .i64 P[j].at_) ∧ w.cell? ⟨b, j * 2 + 1, none⟩ = some (.string P[j].d) := by
  obtain ⟨A', cap', e, _, _, h3⟩ := h.shape
  simp only [Value.slice.injEq] at e
  obtain ⟨rfl, _, _⟩ := e
  rcases h3 with ⟨_, h0, _⟩ | ⟨b, rfl⟩
  · have := congrArg List.length h0
    simp at this
    subst this
    simp at hj
  · have he : (P.map pcRow)[j]? = some (pcRow P[j]) := by rw [List.getElem?_map, List.getElem?_eq_getElem hj]; rfl
    exact ⟨b, rfl, h.lt b (by rw [blocks_at]; simp), h.cell rfl he (j := 0) rfl, h.cell rfl he (j := 1) rfl⟩
theorem pcs_succ {P : List Pc} {j : Nat} (h : j < P.length) (T : List Bool) : tellPcs T (P.take (j + 1)) = tellN (tellPcs T (P.take j)) P[j].at_ P[j].d.size := by
  unfold tellPcs
  rw [List.take_succ_eq_append_getElem h, List.foldl_append]; rfl
theorem rs_succ {M : List (List Pc)} {R : List Rng} {i : Nat} (h : i < R.length) (T : List Bool) : tellRs M T (R.take (i + 1)) = tellPcs (tellRs M T (R.take i)) (pcsOf M (rat R i)) := by
  unfold tellRs
  rw [List.take_succ_eq_append_getElem h, List.foldl_append, rat_get h]; rfl
/-- a place is told -/
theorem told_put {w : World} {g : Nat} {s : EnS} {T : List Bool} {mv cv : Value} {gi gl a q : Nat} (h : BlockIs w g 83 (enCells { s with told := tellN T a q } mv cv gi gl).toArray) (hT : T.length = 60) (ha : a + q < 60) :
    BlockIs (w.setCell ⟨g, 1 + (a + q), none⟩ (.bool true)) g 83 (enCells { s with told := tellN T a (q + 1) } mv cv gi gl).toArray := by
  have h1 := h.put (1 + (a + q)) (.bool true)
  rw [enCells_setTold (s := { s with told := tellN T a q }) mv cv gi gl (by show (tellN T a q).length = 60; rw [tellN_len]; exact hT) ha] at h1
  exact h1
def EnS.ackE (s : EnS) (R : List Rng) : Int := if (s.made.length : Int) ≤ (rat R 0).hi then 6 else 0
def EnS.ack (s : EnS) (R : List Rng) : EnS := if (s.made.length : Int) ≤ (rat R 0).hi then s else { s with told := tellRs s.made s.told R, known := max s.known (rat R 0).hi }
set_option maxHeartbeats 3200000 in
set_option maxRecDepth 100000 in
theorem eackd (gx gi gl : Nat) (mv cv : Value) (vs : List Value) (s : EnS) (A : Option Addr) (n cap : Nat) (R : List Rng) (w : World) (hb : BlockIs w gx 83 (enCells s mv cv gi gl).toArray) (ok : EnOk s) (hm : MadeIs w mv vs s.made) (h1000 : s.made.length ≤ 1000)
    (hR : Lst w 101 2 (.slice A n cap) (R.map rngRow)) (hn : R.length = n) (h0 : 0 < n) (hE : rngE R = 0) :
    Calls Tryz.prog 100 #[.pointer (some ⟨gx, 0, none⟩), .slice A n cap] w fun e w' => e = .returned (errV (s.ackE R)) ∧ BlockIs w' gx 83 (enCells (s.ack R) mv cv gi gl).toArray ∧ Out w w' [gx] := by
  have HB := Lib.hid hb
  have HOK := Lib.hid ok
  have HM := Lib.hid hm
  have HR := Lib.hid hR
  have HN := Lib.hid hn
  have HE := Lib.hid hE
  obtain ⟨gm0, cm, hmv, -, -, -⟩ := hm.lm.shape
  rw [List.length_map, hm.len] at hmv
  have HMV := Lib.hid hmv
  obtain ⟨b, off, hA, hlt, hcc⟩ := (Rd.of_lst hR).rng (i := 0) (by omega)
  subst hA
  have e1 := (hcc w (Since.refl w) 0 (by omega)).2
  rw [Nat.zero_mul, Nat.add_zero] at e1
  have c62 : w.cell? ⟨gx, 62, none⟩ = some mv := (hb.cell 62).trans (enCells_tail mv cv gi gl ok.tl 1)
  rw [hmv] at c62
  have lg := hb.lt
  have hng0 : (0 : Int) < (n : Int) := by omega
  have hn12 : n ≤ 12 := by rw [← hn]; exact rngE_len hE
  by_cases hbig : (s.made.length : Int) ≤ (rat R 0).hi
  · have HS : Hid (s.ackE R = 6 ∧ s.ack R = s) := Lib.hid ⟨by unfold EnS.ackE; rw [if_pos hbig], by unfold EnS.ack; rw [if_pos hbig]⟩
    rw [HS.out.1, HS.out.2]
    generalize rat R 0 = r at *
    clear hb ok hm hR hn hE hmv hcc
    go_enter Tryz.func100, Tryz.ntmps100
    go_wp2_with fail
    go_quiet (fail)
    go_wp2_with fail
    go_ret
    exact ⟨rfl, HB.out.drewN _, (Out.refl _ _).drewN _⟩
  have hlt0 : (rat R 0).hi < s.made.length := by omega
  have HS : Hid (s.ackE R = 0 ∧ s.ack R = { s with told := tellRs s.made s.told R, known := max s.known (rat R 0).hi }) := Lib.hid ⟨by unfold EnS.ackE; rw [if_neg hbig], by unfold EnS.ack; rw [if_neg hbig]⟩
  rw [HS.out.1, HS.out.2, errV_zero]
  have HLE : Hid (∀ i, i < n → 0 ≤ (rat R i).lo ∧ (rat R i).lo ≤ (rat R i).hi ∧ (rat R i).hi < s.made.length) := Lib.hid (fun i hi => by
    have hr : rat R i ∈ R := by rw [rat_get (by omega)]; exact List.getElem_mem _
    obtain ⟨p1, p2⟩ := rngE_ok hE _ hr
    have p3 := (rngE_canon hE).ok _ hr
    have p4 := came_top hE (inB_iff.2 ⟨_, hr, p3, Int.le_refl _⟩)
    omega)
  have hbig' : decide ((s.made.length : Int) ≤ (rat R 0).hi) = false := by simpa using hbig
  have HRC : Hid (∀ X, Out w X [gx] → ∀ i, i < n → X.cell? ⟨b, i * 2, none⟩ = some (.int .i64 (rat R i).lo) ∧ X.cell? ⟨b, i * 2 + 1, none⟩ = some (.int .i64 (rat R i).hi) ∧ b < X.heap.size) := Lib.hid (fun X hX i hi => by
    have h1 := HR.out.other HB.out (by decide) hX
    obtain ⟨b', off', e', hl', hc'⟩ := (Rd.of_lst h1).rng (i := i) (by omega)
    have h2 := h1.lt
    obtain ⟨A9, c9, e9, _, _, h9⟩ := h1.shape
    simp only [Value.slice.injEq] at e9
    rcases h9 with ⟨h9, _⟩ | ⟨g9, h9⟩
    · rw [h9] at e9; exact absurd e9.1 (by simp)
    · rw [h9] at e9
      simp only [Option.some.injEq, Addr.mk.injEq] at e9
      obtain ⟨⟨rfl, rfl, _⟩, _⟩ := e9
      simp only [Option.some.injEq, Addr.mk.injEq] at e'
      obtain ⟨rfl, rfl, _⟩ := e'
      have := hc' X (Since.refl X) i (by omega)
      rw [Nat.zero_add] at this
      exact ⟨this.1, this.2, hl'⟩)
  have hoff : off = 0 := by
    obtain ⟨A9, c9, e9, _, _, h9⟩ := hR.shape
    simp only [Value.slice.injEq] at e9
    rcases h9 with ⟨h9, _⟩ | ⟨g9, h9⟩
    · rw [h9] at e9; exact absurd e9.1 (by simp)
    · rw [h9] at e9
      simp only [Option.some.injEq, Addr.mk.injEq] at e9
      exact e9.1.2.1
  subst hoff
  have HT : Hid (∀ X T, T.length = 60 → BlockIs X gx 83 (enCells { s with told := T } mv cv gi gl).toArray → X.cell? ⟨gx, 62, none⟩ = some mv ∧ X.cell? ⟨gx, 63, none⟩ = some (.int .i64 s.known) ∧ (∀ i, X.frozen? ⟨gx, i, none⟩ = false) ∧ gx < X.heap.size ∧ ∀ i, i < 60 → X.cell? ⟨gx, 1 + i, none⟩ = some (.bool (tat T i))) := Lib.hid (fun X T hT h =>
    ⟨(h.cell 62).trans (enCells_tail (s := { s with told := T }) mv cv gi gl hT 1), (h.cell 63).trans (enCells_tail (s := { s with told := T }) mv cv gi gl hT 2), h.free, h.lt, fun i hi => (h.cell _).trans (enCells_told (s := { s with told := T }) mv cv gi gl hT hi)⟩)
  have HB0 : Hid (BlockIs w gx 83 (enCells { s with told := tellRs s.made s.told (R.take 0) } mv cv gi gl).toArray) := Lib.hid (by rw [List.take_zero]; exact hb)
  have HTL : Hid (∀ i, (tellRs s.made s.told (R.take i)).length = 60) := Lib.hid (fun i => by rw [tellRs_len]; exact ok.tl)
  have hcl : s.made.length ≤ cm := by
    obtain ⟨A9, c9, e9, h1, _, _⟩ := hm.lm.shape
    rw [hmv] at e9
    simp only [Value.slice.injEq] at e9
    rw [List.length_map, hm.len] at h1
    omega
  clear hb ok hm hR hn hE hmv hcc hbig HS
  go_enter Tryz.func100, Tryz.ntmps100
  trace "A"; go_wp2_with fail
  trace "B"; go_quiet (fail)
  trace "C"; go_wp2_with fail
  trace "D"; go_loopw [23] (fun s23 wr => ∃ i : Nat, s23 = .int .i64 i ∧ i ≤ n ∧ BlockIs wr gx 83 (enCells { s with told := tellRs s.made s.told (R.take i) } mv cv gi gl).toArray ∧ Out w wr [gx]) (fun s23 _ => n - (intOf s23).toNat)
  case atStart => exact ⟨0, rfl, Nat.zero_le _, HB0.out.drewN _, (Out.refl _ _).drewN _⟩
  case round =>
    obtain ⟨i, rfl, hi, hbi, hoi⟩ := hrel
    have HBI := Lib.hid hbi
    have HOI := Lib.hid hoi
    obtain ⟨d62, d63, fz, lx, -⟩ := HT.out wr _ (HTL.out i) hbi
    rw [HMV.out] at d62
    clear hbi hoi
    by_cases hlt1 : i < n
    case neg =>
      obtain rfl : i = n := by omega
      have hlt' : decide ((i : Int) < (i : Int)) = false := by simp
      obtain ⟨-, r1, lb⟩ := HRC.out wr HOI.out 0 h0
      have HFIN : Hid (∀ z, z = max s.known (rat R 0).hi → BlockIs (wr.setCell ⟨gx, 63, none⟩ (.int .i64 z)).drew gx 83 (enCells { s with told := tellRs s.made s.told R, known := max s.known (rat R 0).hi } mv cv gi gl).toArray ∧ Out w (wr.setCell ⟨gx, 63, none⟩ (.int .i64 z)).drew [gx]) := Lib.hid (fun z hz => by
        subst hz
        have h1 := (HBI.out.put 63 (.int .i64 (max s.known (rat R 0).hi))).drew
        rw [enCells_63 (s := { s with told := tellRs s.made s.told (R.take i) }) mv cv gi gl (HTL.out i)] at h1
        rw [show R.take i = R by rw [← HN.out, List.take_length]] at h1
        exact ⟨h1, (HOI.out.put (p := ⟨gx, 63, none⟩) (Or.inl (by simp)) _).drew⟩)
      rw [Nat.zero_mul, Nat.zero_add] at r1
      obtain ⟨x0, hx0⟩ : ∃ x, (rat R 0).hi = x := ⟨_, rfl⟩
      rw [hx0] at r1
      have HX0 := Lib.hid hx0
      clear hx0
      trace "E"; go_wp2_with fail
      trace "F"; go_region
      all_goals
        go_wp2_with fail
        go_ret
        exact ⟨rfl, (HFIN.out _ (by rw [HX0.out])).1, (HFIN.out _ (by rw [HX0.out])).2⟩
    obtain ⟨r0, r1, lb⟩ := HRC.out wr HOI.out i hlt1
    obtain ⟨q1, q2, q3⟩ := HLE.out i hlt1
    have hlt' : (i : Int) < (n : Int) := by omega
    obtain ⟨lo, hlo⟩ : ∃ lo : Nat, (rat R i).lo = lo := Int.eq_ofNat_of_zero_le q1
    obtain ⟨hi', hhi⟩ : ∃ h : Nat, (rat R i).hi = h := Int.eq_ofNat_of_zero_le (Int.le_trans q1 q2)
    rw [hlo] at r0 q1 q2
    rw [hhi] at r1 q2 q3
    have HPC : Hid (pcsOf s.made (rat R i) = ((s.made.take (hi' + 1)).drop lo).flatten) := Lib.hid (by unfold pcsOf; rw [hlo, hhi]; rfl)
    have HRS := Lib.hid (rs_succ (M := s.made) (T := s.told) (show i < R.length by rw [HN.out]; exact hlt1))
    rw [HPC.out] at HRS
    obtain ⟨P, hP⟩ : ∃ P, ((s.made.take (hi' + 1)).drop lo).flatten = P := ⟨_, rfl⟩
    rw [hP] at HRS
    have HMW := HM.out.other HB.out (by decide) (by decide) HOI.out
    rw [HMV.out] at HMW
    obtain ⟨gm, rfl⟩ : ∃ gm, gm0 = some ⟨gm, 0, none⟩ := by
      obtain ⟨A9, c9, e9, h1, _, h9⟩ := HMW.lm.shape
      simp only [Value.slice.injEq] at e9
      obtain ⟨rfl, h2, rfl⟩ := e9
      rcases h9 with ⟨_, h3, _⟩ | ⟨g9, h9⟩
      · have := congrArg List.length h3
        rw [List.length_map, HMW.len] at this
        simp at this
        omega
      · exact ⟨g9, h9⟩
    have HPR := Lib.hid (HMW.part (fun ps hps => (HOK.out.md ps hps).1) lo (hi' + 1))
    have hlenp : ((s.made.take (hi' + 1)).drop lo).length = hi' + 1 - lo := by rw [List.length_drop, List.length_take]; omega
    have HPM : Hid (∀ p ∈ P, p.at_ + p.d.size ≤ 60) := Lib.hid (fun p hp => by
      rw [← hP] at hp
      obtain ⟨ps, h1, h2⟩ := List.mem_flatten.1 hp
      exact (HOK.out.md ps (List.mem_of_mem_take (List.mem_of_mem_drop h1))).2 p h2)
    have HCC := Lib.hid (fun (X : World) (hX : Below wr.heap.size wr X) (c : Nat) => pconcat gm lo (hi' + 1 - lo) c _ _ X hlenp (by omega) (HPR.out.later hX))
    rw [hP] at HCC
    have lo_le : (lo : Int) ≤ (hi' : Int) + 1 := by omega
    have hi_le : (hi' : Int) + 1 ≤ (cm : Int) := by omega
    have hto1 : ((hi' : Int) + 1).toNat = hi' + 1 := by omega
    have hnc : ¬ cm = lo := by omega
    have hw1 : IntKind.i64.wrap ((hi' : Int) + 1) = (hi' : Int) + 1 := IntWalk.i64_in _ (by omega)
    obtain ⟨m, hm⟩ : ∃ m, P.length = m := ⟨_, rfl⟩
    rw [hm] at HCC
    have HMM := Lib.hid hm
    have hm3 : m ≤ 3 * (hi' + 1 - lo) := by
      rw [← hm, ← hP, ← hlenp]
      exact flat_few HPR.out.few
    clear hP hlo hhi hlenp HMW hm
    trace "G"; go_upto_region 6 with fail
    go_cut [37, 38, 39] (fun s37 s38 s39 wx => ∃ A2 c2, s37 = .slice A2 m c2 ∧ s38 = .int .i64 m ∧ s39 = .int .i64 0 ∧ Lst wx 98 2 (.slice A2 m c2) (P.map pcRow) ∧ Since wr wx)
    case first =>
      trace "H"; go_region_law (go_simp; go_at_call 133; refine (HCC.out _ (show Since wr _ from (by refine Since.out ?_; repeat (first | with_reducible assumption | with_reducible exact Since.refl _ | with_reducible refine Since.later ?_ (by with_reducible assumption) | with_reducible refine Since.only ?_ (by with_reducible assumption) (by first | assumption | omega | (simp; done) | (simp; omega)) | with_reducible refine Since.alloc ?_ _ | with_reducible refine Since.drewN ?_ _ | with_reducible refine Since.drew ?_ | with_reducible refine Since.set ?_ (by first | assumption | omega | (simp; done) | (simp; omega)) _))) _).mono ?_; rintro e w2 ⟨A2, c2, rfl, hl2, hb2, hk2⟩; have HL2 := Lib.hid hl2; have HB2 := Lib.hid (show Since wr w2 from (by refine Since.out ?_; repeat (first | with_reducible assumption | with_reducible exact Since.refl _ | with_reducible refine Since.later ?_ (by with_reducible assumption) | with_reducible refine Since.only ?_ (by with_reducible assumption) (by first | assumption | omega | (simp; done) | (simp; omega)) | with_reducible refine Since.alloc ?_ _ | with_reducible refine Since.drewN ?_ _ | with_reducible refine Since.drew ?_ | with_reducible refine Since.set ?_ (by first | assumption | omega | (simp; done) | (simp; omega)) _))); clear hl2 hb2 hk2)
      all_goals
        go_wp2_with fail
        go_meet
        case rel => exact ⟨A2, c2, rfl, rfl, rfl, HL2.out, HB2.out⟩
    case rest =>
      obtain ⟨A2, c2, rfl, rfl, rfl, hl2, hs2⟩ := hcut
      have HL2 := Lib.hid hl2
      have HB2 := Lib.hid hs2
      obtain ⟨Ti, hTi⟩ : ∃ T, tellRs s.made s.told (R.take i) = T := ⟨_, rfl⟩
      have hT60 : Hid (Ti.length = 60) := Lib.hid (by rw [← hTi]; exact HTL.out i)
      rw [hTi] at HRS HBI
      have HBI2 := Lib.hid (HBI.out.later HB2.out)
      have HOI2 := Lib.hid (HOI.out.later HB2.out)
      clear hTi hl2 hs2
      obtain ⟨wo, hwo⟩ : ∃ wo : World, wo = wc := ⟨_, rfl⟩
      subst hwo
      trace "I"; go_wp2_with fail
      trace "J"; go_loopw [39] (fun s39 w7 => ∃ j : Nat, s39 = .int .i64 j ∧ j ≤ m ∧ BlockIs w7 gx 83 (enCells { s with told := tellPcs Ti (P.take j) } mv cv gi gl).toArray ∧ Out wo w7 [gx]) (fun s39 _ => m - (intOf s39).toNat)
      case atStart => exact ⟨0, rfl, Nat.zero_le _, by rw [List.take_zero]; exact HBI2.out, Out.refl _ _⟩
      case round =>
        obtain ⟨j, rfl, hj, hbj, hoj⟩ := hrel
        have HOJ := Lib.hid hoj
        have HTJ : Hid ((tellPcs Ti (P.take j)).length = 60) := Lib.hid (by rw [tellPcs_len]; exact hT60.out)
        have HLJ := Lib.hid (HL2.out.other HBI2.out (by decide) hoj)
        have lx7 := hbj.lt
        have HBJ := Lib.hid hbj
        clear hbj hoj
        by_cases hlt2 : j < m
        case neg =>
          obtain rfl : j = m := by omega
          have hlt2' : decide ((j : Int) < (j : Int)) = false := by simp
          trace "K"; go_wp2_with fail
          go_roundw
          case rel => exact ⟨i + 1, by go_num, by omega, by rw [HRS.out]; have h1 := HBJ.out; rw [show P.take j = P by rw [← HMM.out, List.take_length]] at h1; exact h1, HOI2.out.trans HOJ.out⟩
          case measure => simp [intOf]; omega
        have hjP : j < P.length := by rw [HMM.out]; exact hlt2
        obtain ⟨b2, hA2, lb2, p0, p1⟩ := HLJ.out.pc hjP
        subst hA2
        have hp60 := HPM.out _ (List.getElem_mem hjP)
        have HPS := Lib.hid (pcs_succ hjP Ti)
        obtain ⟨Tj, hTj⟩ : ∃ T, tellPcs Ti (P.take j) = T := ⟨_, rfl⟩
        obtain ⟨⟨a, d⟩, hpp⟩ : ∃ p, P[j] = p := ⟨_, rfl⟩
        rw [hTj] at HPS HTJ HBJ
        rw [hpp] at p0 p1 hp60 HPS
        dsimp only at p0 p1 hp60 HPS
        have hlt2' : (j : Int) < (m : Int) := by omega
        clear hpp hTj hjP
        obtain ⟨wp, hwp⟩ : ∃ wp : World, wp = wr := ⟨_, rfl⟩
        subst hwp
        trace "L"; go_wp2_with fail
        trace "M"; go_loopw [46] (fun s46 w9 => ∃ q : Nat, s46 = .int .i64 q ∧ q ≤ d.size ∧ BlockIs w9 gx 83 (enCells { s with told := tellN Tj a q } mv cv gi gl).toArray ∧ BlockIs w9 wp.heap.size 98 #[.int .i64 a, .string d] ∧ Out wp w9 [gx]) (fun s46 _ => d.size - (intOf s46).toNat)
        case atStart => exact ⟨0, rfl, Nat.zero_le _, HBJ.out.alloc _, BlockIs.fresh _ _ _, (Out.refl _ _).alloc _⟩
        case round =>
          obtain ⟨q, rfl, hq, hbq, hpq, hoq⟩ := hrel
          have HBQ := Lib.hid hbq
          have HPQ := Lib.hid hpq
          have HOQ := Lib.hid hoq
          have g0 : wr.cell? ⟨wp.heap.size, 0, none⟩ = some (.int .i64 a) := hpq.cell 0
          have g1 : wr.cell? ⟨wp.heap.size, 1, none⟩ = some (.string d) := hpq.cell 1
          have lp := hpq.lt
          have ltn : (tellN Tj a q).length = 60 := by rw [tellN_len]; exact HTJ.out
          obtain ⟨-, -, fz9, lx9, ct9⟩ := HT.out wr _ ltn hbq
          clear hbq hpq hoq
          by_cases hlt3 : q < d.size
          case neg =>
            obtain rfl : q = d.size := by omega
            have hlt3' : decide ((d.size : Int) < (d.size : Int)) = false := by simp
            clear ct9
            trace "N"; go_wp2_with fail
            go_roundw
            case rel => exact ⟨j + 1, by go_num, by omega, by rw [HPS.out]; exact HBQ.out, HOJ.out.trans HOQ.out⟩
            case measure => simp [intOf]; omega
          have c9 := ct9 (a + q) (by omega)
          have hlt3' : (q : Int) < (d.size : Int) := by omega
          have hwq : IntKind.i64.wrap ((a : Int) + (q : Int)) = (a : Int) + (q : Int) := IntWalk.i64_in _ (by omega)
          have haq0 : (0 : Int) ≤ (a : Int) + (q : Int) := by omega
          have haq1 : (a : Int) + (q : Int) < 60 := by omega
          have haqn : ((a : Int) + (q : Int)).toNat = a + q := by omega
          have HPUT := Lib.hid (told_put HBQ.out HTJ.out (by omega))
          clear ct9
          trace "O"; go_wp2_with fail
          trace "P"; go_region
          all_goals
            trace "Q"; go_wp2_with fail
            go_roundw
            case rel => exact ⟨q + 1, by go_num, by omega, HPUT.out.drew, (HPQ.out.far (by simp; omega) _).drew, (HOQ.out.put (p := ⟨gx, 1 + (a + q), none⟩) (Or.inl (by simp)) _).drew⟩
            case measure => simp [intOf]; omega
end Go.Proofs.YtmfbaijbigodkaaGreatDoor

/-! Contract of an end's take: a frame. Condition: the blocks hold an end as New and the calls leave it, there were no more than 1000 packets, the frame is right. -/
namespace Go.Proofs.YtmfbaijbigodkaaGreatDoor
open Go.ChangeShapes Go.WideShapes Go.ChangeAt Go.RowKit
set_option linter.unusedVariables false

/-- the three blocks that a frame may change -/
structure EnW (w : World) (gx gi gl : Nat) (mv cv : Value) (s : EnS) : Prop where
  bx : BlockIs w gx 83 (enCells s mv cv gi gl).toArray
  bi : BlockIs w gi 146 (strCells s.M s.t)
  bl : BlockIs w gl 143 (credCells s.W s.L s.C s.R)
theorem block_ne {w : World} {g h : Nat} {t u : TypeId} {cs ds : Array Value} (h1 : BlockIs w g t cs) (h2 : BlockIs w h u ds) (ne : t ≠ u) : g ≠ h := by
  rintro rfl
  unfold BlockIs at h1 h2
  rw [h1] at h2
  simp only [Option.some.injEq, Obj.cells.injEq] at h2
  exact ne h2.2.1
theorem EnW.later {w w' : World} {gx gi gl : Nat} {mv cv : Value} {s : EnS} (h : EnW w gx gi gl mv cv s) (hb : Below w.heap.size w w') : EnW w' gx gi gl mv cv s := ⟨h.bx.later hb, h.bi.later hb, h.bl.later hb⟩
theorem EnW.ne {w : World} {gx gi gl : Nat} {mv cv : Value} {s : EnS} (h : EnW w gx gi gl mv cv s) : gx ≠ gi ∧ gx ≠ gl ∧ gi ≠ gl := ⟨block_ne h.bx h.bi (by decide), block_ne h.bx h.bl (by decide), block_ne h.bi h.bl (by decide)⟩
theorem take1_two {s : EnS} {f : Frm} (h : f.kind = 2) : s.take1E f = s.ackE (pairs f.nums) ∧ s.take1 f = s.ack (pairs f.nums) := by
  unfold EnS.take1E EnS.take1 EnS.ackE EnS.ack
  rw [if_pos h, if_pos h]
  exact ⟨rfl, rfl⟩
theorem ack_rest (s : EnS) (R : List Rng) : (s.ack R).M = s.M ∧ (s.ack R).t = s.t ∧ (s.ack R).W = s.W ∧ (s.ack R).L = s.L ∧ (s.ack R).C = s.C ∧ (s.ack R).R = s.R := by
  unfold EnS.ack; split <;> simp
set_option maxHeartbeats 3200000 in
set_option maxRecDepth 100000 in
theorem etake1 (gx gi gl : Nat) (mv cv : Value) (vs : List Value) (s : EnS) (p : FrmV) (w : World) (hw : EnW w gx gi gl mv cv s) (ok : EnOk s) (hm : MadeIs w mv vs s.made) (h1000 : s.made.length ≤ 1000) (hp : FrmIn w p) (hE : frmE p.f = 0) :
    Calls Tryz.prog 57 #[.pointer (some ⟨gx, 0, none⟩), p.agg] w fun e w' => e = .returned (errV (s.take1E p.f)) ∧ EnW w' gx gi gl mv cv (s.take1 p.f) ∧ Out w w' [gx, gi, gl] := by
  have HW := Lib.hid hw
  have HOK := Lib.hid ok
  have HM := Lib.hid hm
  have HP := Lib.hid hp
  have HE := Lib.hid hE
  obtain ⟨⟨kind, nums, data⟩, A, cap⟩ := p
  have hB0 : Hid (∀ z : World, Since w (w.alloc (.cells #[.int .i64 kind, .slice A nums.length cap, .string data] 93))) := Lib.hid (fun _ => (by refine Since.out ?_; repeat (first | with_reducible assumption | with_reducible exact Since.refl _ | with_reducible refine Since.later ?_ (by with_reducible assumption) | with_reducible refine Since.only ?_ (by with_reducible assumption) (by first | assumption | omega | (simp; done) | (simp; omega)) | with_reducible refine Since.alloc ?_ _ | with_reducible refine Since.drewN ?_ _ | with_reducible refine Since.drew ?_ | with_reducible refine Since.set ?_ (by first | assumption | omega | (simp; done) | (simp; omega)) _)))
  by_cases h2 : kind = 2
  · subst h2
    have HT := Lib.hid (take1_two (s := s) (f := ⟨2, nums, data⟩) rfl)
    have h4 := frm_two hE rfl
    dsimp only at h4 HT
    rw [HT.out.1, HT.out.2]
    have HF := Lib.hid (fun (X : World) (hX : Since w X) => franges A cap nums (pairs nums).length X (hp.nums.keep hX) h4.2.2.1 h4.2.1 h4.2.2.2)
    have HA := Lib.hid (fun (X : World) (hX : Since w X) A1 c1 hl => eackd gx gi gl mv cv vs s A1 (pairs nums).length c1 (pairs nums) X (hw.bx.later hX) ok (hm.later hX) h1000 hl rfl h4.2.1 h4.1)
    clear hw ok hm hp hE h4
    go_enter Tryz.func57, Tryz.ntmps57
    trace "A"; go_wp2_with (first
      | (go_at_call 101; refine (HF.out _ (by refine Since.out ?_; repeat (first | with_reducible assumption | with_reducible exact Since.refl _ | with_reducible refine Since.later ?_ (by with_reducible assumption) | with_reducible refine Since.only ?_ (by with_reducible assumption) (by first | assumption | omega | (simp; done) | (simp; omega)) | with_reducible refine Since.alloc ?_ _ | with_reducible refine Since.drewN ?_ _ | with_reducible refine Since.drew ?_ | with_reducible refine Since.set ?_ (by first | assumption | omega | (simp; done) | (simp; omega)) _))).mono ?_; rintro e w1 ⟨A1, c1, rfl, hl1, hb1, hk1⟩; have hs1 : Since w w1 := (show Since w w1 from (by refine Since.out ?_; repeat (first | with_reducible assumption | with_reducible exact Since.refl _ | with_reducible refine Since.later ?_ (by with_reducible assumption) | with_reducible refine Since.only ?_ (by with_reducible assumption) (by first | assumption | omega | (simp; done) | (simp; omega)) | with_reducible refine Since.alloc ?_ _ | with_reducible refine Since.drewN ?_ _ | with_reducible refine Since.drew ?_ | with_reducible refine Since.set ?_ (by first | assumption | omega | (simp; done) | (simp; omega)) _))))
      | (go_at_call 100; refine (HA.out _ hs1 A1 c1 hl1).mono ?_; rintro e w2 ⟨rfl, hx2, ho2⟩))
    go_ret
    obtain ⟨e1, e2, e3, e4, e5, e6⟩ := ack_rest s (pairs nums)
    obtain ⟨n1, n2, n3⟩ := HW.out.ne
    refine ⟨rfl, ⟨hx2, ?_, ?_⟩, ((Out.of_below hs1 [gx]).trans ho2).mono (fun k hk => Or.inl (by rw [List.mem_singleton.1 hk]; simp))⟩
    · rw [e1, e2]; exact ho2.block' (HW.out.bi.later hs1) (by simp; omega)
    · rw [e3, e4, e5, e6]; exact ho2.block' (HW.out.bl.later hs1) (by simp; omega)
  have k2 : (kind == 2) = false := by simpa using h2
  by_cases h4 : kind = 4
  · subst h4
    obtain ⟨hn, hmb⟩ := frm_four hE rfl
    dsimp only at hn hmb
    obtain ⟨z, hz⟩ : ∃ z, ith nums 0 = z := ⟨_, rfl⟩
    rw [hz] at hn hmb
    have hnum := hp.nums
    subst hn
    obtain ⟨-, A1, c1, hv, -, -, hcc⟩ := hnum
    simp only [FrmV.v, Value.slice.injEq] at hv
    obtain ⟨b, off, hA, hlt, hc⟩ := hcc (by simp)
    have hA' : A = some ⟨b, off, none⟩ := hv.1.trans hA
    subst hA'
    have hc0 : w.cell? ⟨b, off, none⟩ = some (.int .i64 z) := hc 0 (by simp)
    have HT : Hid (s.take1E ⟨4, [z], data⟩ = 0 ∧ s.take1 ⟨4, [z], data⟩ = { s with may := max s.may z }) := Lib.hid ⟨rfl, rfl⟩
    rw [HT.out.1, HT.out.2, errV_zero]
    have c61 : w.cell? ⟨gx, 61, none⟩ = some (.int .i64 s.may) := (hw.bx.cell 61).trans (enCells_tail _ _ _ _ ok.tl 0)
    have fx := hw.bx.free
    have lx := hw.bx.lt
    have HFIN : Hid (∀ (X : World) (y : Int), Since w X → y = max s.may z → EnW (X.setCell ⟨gx, 61, none⟩ (.int .i64 y)) gx gi gl mv cv { s with may := max s.may z } ∧ Out w (X.setCell ⟨gx, 61, none⟩ (.int .i64 y)) [gx, gi, gl]) := Lib.hid (fun X y hX hy => by
      subst hy
      obtain ⟨n1, n2, n3⟩ := hw.ne
      have h1 := (hw.bx.later hX).put 61 (.int .i64 (max s.may z))
      rw [enCells_61 _ _ _ _ ok.tl] at h1
      exact ⟨⟨h1, (hw.bi.later hX).far (fun h => n1 h.symm) _, (hw.bl.later hX).far (fun h => n2 h.symm) _⟩, (Out.of_below hX _).put (p := ⟨gx, 61, none⟩) (Or.inl (by simp)) _⟩)
    clear hw ok hm hp hE hc hcc hv hA
    go_enter Tryz.func57, Tryz.ntmps57
    trace "B"; go_wp2_with fail
    trace "C"; go_region
    all_goals
      go_wp2_with fail
      go_ret
      have h9 := HFIN.out w _ (Since.refl w) rfl
      exact ⟨rfl, h9.1.later (by refine Since.out ?_; repeat (first | with_reducible assumption | with_reducible exact Since.refl _ | with_reducible refine Since.later ?_ (by with_reducible assumption) | with_reducible refine Since.only ?_ (by with_reducible assumption) (by first | assumption | omega | (simp; done) | (simp; omega)) | with_reducible refine Since.alloc ?_ _ | with_reducible refine Since.drewN ?_ _ | with_reducible refine Since.drew ?_ | with_reducible refine Since.set ?_ (by first | assumption | omega | (simp; done) | (simp; omega)) _)), h9.2.later (by refine Since.out ?_; repeat (first | with_reducible assumption | with_reducible exact Since.refl _ | with_reducible refine Since.later ?_ (by with_reducible assumption) | with_reducible refine Since.only ?_ (by with_reducible assumption) (by first | assumption | omega | (simp; done) | (simp; omega)) | with_reducible refine Since.alloc ?_ _ | with_reducible refine Since.drewN ?_ _ | with_reducible refine Since.drew ?_ | with_reducible refine Since.set ?_ (by first | assumption | omega | (simp; done) | (simp; omega)) _))⟩
  have k4 : (kind == 4) = false := by simpa using h4
  by_cases h3 : kind = 3
  · subst h3
    obtain ⟨hn, hmb, hd20⟩ := frm_three hE rfl
    dsimp only at hn hmb hd20
    obtain ⟨z, hz⟩ : ∃ z, ith nums 0 = z := ⟨_, rfl⟩
    rw [hz] at hn hmb
    have hnum := hp.nums
    subst hn
    obtain ⟨-, A1, c1, hv, -, -, hcc⟩ := hnum
    simp only [FrmV.v, Value.slice.injEq] at hv
    obtain ⟨b, off, hA, hlt, hc⟩ := hcc (by simp)
    have hA' : A = some ⟨b, off, none⟩ := hv.1.trans hA
    subst hA'
    have hc0 : w.cell? ⟨b, off, none⟩ = some (.int .i64 z) := hc 0 (by simp)
    have hmb' := hmb
    unfold MayBe at hmb'
    have hwr : IntKind.i64.wrap (z + (data.size : Int)) = z + (data.size : Int) := IntWalk.i64_in _ (by omega)
    have HX : Hid (∀ X, Since w X → X.cell? ⟨gx, 65, none⟩ = some (.pointer (some ⟨gi, 0, none⟩)) ∧ X.cell? ⟨gx, 66, none⟩ = some (.pointer (some ⟨gl, 0, none⟩)) ∧ gx < X.heap.size) := Lib.hid (fun X hX => ⟨((hw.bx.later hX).cell 65).trans (enCells_tail _ _ _ _ ok.tl 4), ((hw.bx.later hX).cell 66).trans (enCells_tail _ _ _ _ ok.tl 5), (hw.bx.later hX).lt⟩)
    obtain ⟨c65, c66, lx⟩ := HX.out w (Since.refl w)
    have HCT := Lib.hid (fun (X : World) (hX : Since w X) => ctake_any gl s.W s.L s.C s.R (z + data.size) X (hw.bl.later hX))
    have HEE : Hid (s.take1E ⟨3, [z], data⟩ = if takeE s.L (z + data.size) = 0 then putE s.M z data.data.toList else takeE s.L (z + data.size)) := Lib.hid rfl
    have HTT : Hid (s.take1 ⟨3, [z], data⟩ = if takeE s.L (z + data.size) = 0 then { s with C := maxN s.C (z + data.size), M := putM s.M z data.data.toList } else s) := Lib.hid rfl
    clear hc hcc hv hA hp hm
    obtain ⟨RE, hRE⟩ : ∃ E, s.take1E ⟨3, [z], data⟩ = E := ⟨_, rfl⟩
    obtain ⟨RS, hRS⟩ : ∃ E, s.take1 ⟨3, [z], data⟩ = E := ⟨_, rfl⟩
    rw [hRE, hRS]
    have HE0 : Hid (takeE s.L (z + data.size) = 0 → RE = putE s.M z data.data.toList ∧ RS = { s with C := maxN s.C (z + data.size), M := putM s.M z data.data.toList }) := Lib.hid (fun h0 => ⟨by rw [← hRE, HEE.out, if_pos h0], by rw [← hRS, HTT.out, if_pos h0]⟩)
    have HE1 : Hid (¬ takeE s.L (z + data.size) = 0 → RE = takeE s.L (z + data.size) ∧ RS = s) := Lib.hid (fun h0 => ⟨by rw [← hRE, HEE.out, if_neg h0], by rw [← hRS, HTT.out, if_neg h0]⟩)
    clear hRE hRS HEE HTT
    have hne := Lib.hid hw.ne
    have HPT := Lib.hid (fun (X : World) (h : Sz X gi s.M s.t) => sput gi s.M s.t z data X h (by omega))
    have HTL := Lib.hid ok.tl
    have HSZ : Hid (∀ X, BlockIs X gi 146 (strCells s.M s.t) → Sz X gi s.M s.t) := Lib.hid (fun X h => ⟨h, ok.ml, ok.tt⟩)
    clear hw ok hE
    go_enter Tryz.func57, Tryz.ntmps57
    trace "E"; go_wp2_with fail
    trace "F"; go_region
    all_goals
      trace "G"; go_upto_region 9 with fail
      go_cut [6] (fun s6 wx => s6 = errV (takeE s.L (z + data.size)) ∧ EnW wx gx gi gl mv cv { s with C := tC s.L s.C (z + data.size) } ∧ BlockIs wx (w.heap.size + 1) 98 #[.int .i64 z, .string data] ∧ Out w wx [gx, gi, gl])
      case first =>
        trace "H"; go_region_law (go_simp; go_at_call 102; refine (HCT.out _ (show Since w _ from (by refine Since.out ?_; repeat (first | with_reducible assumption | with_reducible exact Since.refl _ | with_reducible refine Since.later ?_ (by with_reducible assumption) | with_reducible refine Since.only ?_ (by with_reducible assumption) (by first | assumption | omega | (simp; done) | (simp; omega)) | with_reducible refine Since.alloc ?_ _ | with_reducible refine Since.drewN ?_ _ | with_reducible refine Since.drew ?_ | with_reducible refine Since.set ?_ (by first | assumption | omega | (simp; done) | (simp; omega)) _)))).mono ?_; rintro e w2 ⟨rfl, hb2, ho2⟩; have HB2 := Lib.hid hb2; have HO2 := Lib.hid ho2; clear hb2 ho2)
        all_goals
          go_wp2_with fail
          go_meet
          case rel =>
            obtain ⟨n1, n2, n3⟩ := hne.out
            have hsx : Since w ((w.alloc (.cells #[.int .i64 3, .slice (some ⟨b, off, none⟩) 1 cap, .string data] 93)).alloc (.cells #[.int .i64 z, .string data] 98)).drew.drew := (by refine Since.out ?_; repeat (first | with_reducible assumption | with_reducible exact Since.refl _ | with_reducible refine Since.later ?_ (by with_reducible assumption) | with_reducible refine Since.only ?_ (by with_reducible assumption) (by first | assumption | omega | (simp; done) | (simp; omega)) | with_reducible refine Since.alloc ?_ _ | with_reducible refine Since.drewN ?_ _ | with_reducible refine Since.drew ?_ | with_reducible refine Since.set ?_ (by first | assumption | omega | (simp; done) | (simp; omega)) _))
            have ho := Out.of_only HO2.out
            refine ⟨rfl, ⟨ho.block' (HW.out.bx.later hsx) (by simp; omega), ho.block' (HW.out.bi.later hsx) (by simp; omega), HB2.out⟩, ho.block' ((BlockIs.fresh_at (by simp)).drew.drew) ?_, ((Out.of_below hsx [gl]).trans ho).mono (fun k hk => Or.inl (by rw [List.mem_singleton.1 hk]; simp))⟩
            have := HW.out.bl.lt
            simp; omega
      case rest =>
        obtain ⟨rfl, hew, hpc, how⟩ := hcut
        have HEW := Lib.hid hew
        have HOW := Lib.hid how
        have d65 : wc.cell? ⟨gx, 65, none⟩ = some (.pointer (some ⟨gi, 0, none⟩)) := (hew.bx.cell 65).trans (enCells_tail (s := { s with C := tC s.L s.C (z + data.size) }) _ _ _ _ HTL.out 4)
        have lx9 := hew.bx.lt
        have p0 : wc.cell? ⟨w.heap.size + 1, 0, none⟩ = some (.int .i64 z) := hpc.cell 0
        have p1 : wc.cell? ⟨w.heap.size + 1, 1, none⟩ = some (.string data) := hpc.cell 1
        have lp := hpc.lt
        clear hew how hpc
        by_cases hT : takeE s.L (z + data.size) = 0
        · have HH := Lib.hid (HE0.out hT)
          rw [hT, errV_zero]
          have htC : tC s.L s.C (z + data.size) = maxN s.C (z + data.size) := by unfold tC; rw [if_pos hT]
          rw [htC] at HEW
          clear hT htC
          trace "I"; go_wp2_with fail
          trace "J"; go_region_law (go_simp; go_at_call 103; refine (HPT.out _ (HSZ.out _ (HEW.out.bi.later (show Since wc _ from (by refine Since.out ?_; repeat (first | with_reducible assumption | with_reducible exact Since.refl _ | with_reducible refine Since.later ?_ (by with_reducible assumption) | with_reducible refine Since.only ?_ (by with_reducible assumption) (by first | assumption | omega | (simp; done) | (simp; omega)) | with_reducible refine Since.alloc ?_ _ | with_reducible refine Since.drewN ?_ _ | with_reducible refine Since.drew ?_ | with_reducible refine Since.set ?_ (by first | assumption | omega | (simp; done) | (simp; omega)) _)))))).mono ?_; rintro e w3 ⟨rfl, hz3, ho3⟩; have HZ3 := Lib.hid hz3; have HO3 := Lib.hid ho3; clear hz3 ho3)
          all_goals
            go_wp2_with fail
            go_ret
            obtain ⟨n1, n2, n3⟩ := hne.out
            rw [HH.out.1, HH.out.2]
            refine ⟨rfl, ⟨HO3.out.block' HEW.out.bx.drew (by simp; omega), HZ3.out.bl, HO3.out.block' HEW.out.bl.drew (by simp; omega)⟩, HOW.out.drew.trans (HO3.out.mono (fun k hk => Or.inl (by rw [List.mem_singleton.1 hk]; simp)))⟩
        · have HH := Lib.hid (HE1.out hT)
          have htC : tC s.L s.C (z + data.size) = s.C := by unfold tC; rw [if_neg hT]
          rw [htC] at HEW
          rw [errV_pos hT]
          have HEP := Lib.hid (errV_pos hT)
          obtain ⟨ee, hee⟩ : ∃ e, takeE s.L (z + data.size) = e := ⟨_, rfl⟩
          rw [hee] at HH HEP
          rw [hee]
          clear hT htC hee
          trace "K"; go_wp2_with fail
          go_ret
          rw [HH.out.1, HH.out.2, HEP.out]
          exact ⟨rfl, HEW.out, HOW.out⟩
  · have k3 : (kind == 3) = false := by simpa using h3
    have HT : Hid (s.take1E ⟨kind, nums, data⟩ = 3 ∧ s.take1 ⟨kind, nums, data⟩ = s) := Lib.hid ⟨by unfold EnS.take1E; rw [if_neg h2, if_neg h4, if_neg h3], by unfold EnS.take1; rw [if_neg h2, if_neg h4, if_neg h3]⟩
    rw [HT.out.1, HT.out.2]
    clear hw ok hm hp hE
    go_enter Tryz.func57, Tryz.ntmps57
    trace "D"; go_wp2_with fail
    go_ret
    exact ⟨rfl, HW.out.later (by refine Since.out ?_; repeat (first | with_reducible assumption | with_reducible exact Since.refl _ | with_reducible refine Since.later ?_ (by with_reducible assumption) | with_reducible refine Since.only ?_ (by with_reducible assumption) (by first | assumption | omega | (simp; done) | (simp; omega)) | with_reducible refine Since.alloc ?_ _ | with_reducible refine Since.drewN ?_ _ | with_reducible refine Since.drew ?_ | with_reducible refine Since.set ?_ (by first | assumption | omega | (simp; done) | (simp; omega)) _)), Out.of_below (by refine Since.out ?_; repeat (first | with_reducible assumption | with_reducible exact Since.refl _ | with_reducible refine Since.later ?_ (by with_reducible assumption) | with_reducible refine Since.only ?_ (by with_reducible assumption) (by first | assumption | omega | (simp; done) | (simp; omega)) | with_reducible refine Since.alloc ?_ _ | with_reducible refine Since.drewN ?_ _ | with_reducible refine Since.drew ?_ | with_reducible refine Since.set ?_ (by first | assumption | omega | (simp; done) | (simp; omega)) _)) _⟩
end Go.Proofs.YtmfbaijbigodkaaGreatDoor

/-! Contract of an end's pieces: those that are not there. Condition: the blocks hold an end as New and the calls leave it. -/
namespace Go.Proofs.YtmfbaijbigodkaaGreatDoor
open Go.ChangeShapes Go.WideShapes Go.ChangeAt Go.RowKit
set_option linter.unusedVariables false

/-- the walk stands ahead of block n -/
theorem stop_blk (n : Nat) {P : Program} {c d : Code} {Q : Exit → Act → World → Prop} {a : Act} {w : World} (h : Code.wp P ((Code.block n c).seq d) Q a w) : Code.wp P ((Code.block n c).seq d) Q a w := h
/-- what a round of pieces keeps -/
structure PsIn (w wr : World) (s : EnS) (a : Nat) (A : Option Addr) (k : Nat) (out : List Pc) : Prop where
  le : a ≤ s.last ∨ a = 0
  few : out.length ≤ 3
  ls : Lst wr 98 2 (.slice A out.length k) (out.map pcRow)
  nw : ∀ q, q ∈ blocks (.slice A 0 0) → w.heap.size ≤ q
  since : Since w wr
  rest : s.pieces = out ++ pcsR s.told s.last s.data a (3 - out.length)
theorem PsIn.skip {w wr : World} {s : EnS} {a k : Nat} {A : Option Addr} {out : List Pc} (h : PsIn w wr s a A k out) (hl : a < s.last) (h0 : strN s.told s.last 20 a = 0) : PsIn w wr s (a + 1) A k out :=
  ⟨Or.inl (by omega), h.few, h.ls, h.nw, h.since, by rw [← pcsR_skip h0]; exact h.rest⟩
theorem PsIn.done {w wr : World} {s : EnS} {a k : Nat} {A : Option Addr} {out : List Pc} (h : PsIn w wr s a A k out) (hl : ¬ (a < s.last ∧ out.length < 3)) : s.pieces = out := by
  have := h.rest
  have h3 := h.few
  rw [pcsR_none (by omega), List.append_nil] at this
  exact this
theorem PsIn.take {w wr w' : World} {s : EnS} {a k n q c : Nat} {A : Option Addr} {out : List Pc} (h : PsIn w wr s a A k out) (hl : a < s.last) (h3 : out.length < 3) (hn : strN s.told s.last 20 a = n) (h0 : n ≠ 0)
    (hls : Lst w' 98 2 (.slice (some ⟨q, 0, none⟩) (out.length + 1) c) (out.map pcRow ++ [pcRow ⟨a, s.data.extract a (a + n)⟩])) (hq : q ∈ blocks (.slice A 0 0) ∨ wr.heap.size ≤ q) (hs : Since w w') : PsIn w w' s (a + n) (some ⟨q, 0, none⟩) c (out ++ [⟨a, s.data.extract a (a + n)⟩]) := by
  have hle := strN_le s.told s.last 20 a
  refine ⟨Or.inl (by omega), by simp; omega, by rw [List.length_append, List.map_append]; exact hls, fun x hx => ?_, hs, ?_⟩
  · have : q = x := by simpa [Value.ownBlock] using hx
    subst this
    rcases hq with hq | hq
    · exact h.nw _ hq
    · exact Nat.le_trans h.since.size hq
  · rw [h.rest, pcsR_take hl (by omega) (by omega), hn, List.append_assoc, List.length_append]
    rfl
set_option maxHeartbeats 3200000 in
set_option maxRecDepth 100000 in
theorem epieces (g : Nat) (s : EnS) (p : EnP) (w : World) (S : List Nat) (h : EnIn w S g s p) :
    Calls Tryz.prog 50 #[.pointer (some ⟨g, 0, none⟩)] w fun e w' => ∃ A' cap', e = .returned (.slice A' s.pieces.length cap') ∧ Lst w' 98 2 (.slice A' s.pieces.length cap') (s.pieces.map pcRow) ∧ Below w.heap.size w w' ∧ ∀ k, k ∈ blocks (.slice A' 0 0) → w.heap.size ≤ k := by
  have H := Lib.hid h
  have c0 := h.c0
  have c61 := h.c61
  have lg := h.bg.lt
  have hla := h.ok.last
  have hdz := h.ok.dz
  have hmy := h.ok.my
  have hLI : Hid (min (s.data.size : Int) s.may = (s.last : Int)) := Lib.hid (by unfold EnS.last; omega)
  have HCT : Hid (∀ X, Since w X → ∀ i, i < 60 → X.cell? ⟨g, 1 + i, none⟩ = some (.bool (tat s.told i))) := Lib.hid (fun X hX i hi => hX.cell h.bg.lt (h.ct hi))
  have HC0 : Hid (∀ X, Since w X → X.cell? ⟨g, 0, none⟩ = some (.string s.data) ∧ g < X.heap.size) := Lib.hid (fun X hX => ⟨hX.cell h.bg.lt h.c0, Nat.lt_of_lt_of_le h.bg.lt hX.size⟩)
  have hP0 : PsIn w w.drew s 0 none 0 [] := ⟨Or.inr rfl, by simp, Lst.nil _ _ _, by simp [Value.ownBlock], (by refine Since.out ?_; repeat (first | with_reducible assumption | with_reducible exact Since.refl _ | with_reducible refine Since.later ?_ (by with_reducible assumption) | with_reducible refine Since.only ?_ (by with_reducible assumption) (by first | assumption | omega | (simp; done) | (simp; omega)) | with_reducible refine Since.alloc ?_ _ | with_reducible refine Since.drewN ?_ _ | with_reducible refine Since.drew ?_ | with_reducible refine Since.set ?_ (by first | assumption | omega | (simp; done) | (simp; omega)) _)), by rfl⟩
  have HP0 := Lib.hid hP0
  clear h hP0
  go_enter Tryz.func50, Tryz.ntmps50
  have hli := hLI.out
  trace "A"; go_wp2_with fail
  trace "B"; go_region
  trace "C"; go_wp2_with fail
  trace "D"; go_loopw [3, 5] (fun s3 s5 wr => ∃ (a k : Nat) (A : Option Addr) (out : List Pc), s5 = .int .i64 a ∧ s3 = .slice A out.length k ∧ PsIn w wr s a A k out) (fun s3 s5 _ => s.last - (intOf s5).toNat)
  case atStart => exact ⟨0, 0, none, [], rfl, rfl, HP0.out⟩
  case round =>
    obtain ⟨a, k, A, out, rfl, rfl, hp⟩ := hrel
    have HP := Lib.hid hp
    have hfew := hp.few
    have hale := hp.le
    obtain ⟨d0, lx⟩ := HC0.out wr hp.since
    have HCTR := Lib.hid (HCT.out wr hp.since)
    clear hp
    obtain ⟨m, hm⟩ : ∃ m, out.length = m := ⟨_, rfl⟩
    rw [hm] at hfew
    have HM := Lib.hid hm
    rw [hm]
    clear hm
    by_cases hl : a < s.last
    case neg =>
      have hl' : decide ((a : Int) < (s.last : Int)) = false := by simp; omega
      have HD := Lib.hid (HP.out.done (by omega))
      trace "E"; go_wp2_with fail
      go_ret
      refine ⟨A, k, by rw [HD.out, HM.out]; rfl, ?_, HP.out.since, HP.out.nw⟩
      rw [HD.out]; exact HP.out.ls
    by_cases h3 : m < 3
    case neg =>
      have hl' : (a : Int) < (s.last : Int) := by omega
      have h3' : decide ((m : Int) < 3) = false := by simp; omega
      have HD := Lib.hid (HP.out.done (by rw [HM.out]; omega))
      trace "F"; go_wp2_with fail
      go_ret
      refine ⟨A, k, by rw [HD.out, HM.out]; rfl, ?_, HP.out.since, HP.out.nw⟩
      rw [HD.out]; exact HP.out.ls
    have hl' : (a : Int) < (s.last : Int) := by omega
    have h3' : (m : Int) < 3 := by omega
    trace "G"; repeat ((fail_if_success (with_reducible refine stop_blk 2 ?_)); first | fail | go_values | go_skip | go_guarded | go_step | go_upon | go_back | go_simp)
    go_step
    go_cut [6] (fun s6 wx => s6 = .int .i64 ((a + strN s.told s.last 20 a : Nat) : Int) ∧ wx = wr)
    case first =>
      obtain ⟨wo, hwo⟩ : ∃ wo : World, wo = wr := ⟨_, rfl⟩
      subst hwo
      go_wp2_with fail
      trace "H"; go_loopw [6] (fun s6 wi => ∃ n : Nat, s6 = .int .i64 ((a + n : Nat) : Int) ∧ n ≤ 20 ∧ (∀ j, j < n → a + j < s.last ∧ tat s.told (a + j) = false) ∧ wi = wo) (fun s6 _ => s.last - (intOf s6).toNat)
      case atStart => exact ⟨0, rfl, by omega, fun j hj => by omega, rfl⟩
      case round =>
        obtain ⟨n, rfl, hn20, hall, rfl⟩ := hrel
        have HA := Lib.hid hall
        obtain ⟨z, hz⟩ : ∃ z, a + n = z := ⟨_, rfl⟩
        have HZ := Lib.hid hz
        have hzz : (z : Int) - (a : Int) = (n : Int) := by omega
        have hwz : IntKind.i64.wrap ((z : Int) - (a : Int)) = (n : Int) := by rw [hzz]; exact IntWalk.i64_in _ (by omega)
        rw [hz]
        clear hall hz hzz
        by_cases hc1 : z < s.last
        case neg =>
          have hc1' : decide ((z : Int) < (s.last : Int)) = false := by simp; omega
          have HE : Hid (strN s.told s.last 20 a = n) := Lib.hid (strN_eq hn20 HA.out (Or.inr (by rw [HZ.out]; omega)))
          go_wp2_with fail
          go_meet
          case rel => exact ⟨by rw [HE.out, HZ.out], rfl⟩
        have hc1' : (z : Int) < (s.last : Int) := by omega
        by_cases hc2 : n < 20
        case neg =>
          have hc2' : decide ((n : Int) < 20) = false := by simp; omega
          have HE : Hid (strN s.told s.last 20 a = n) := Lib.hid (strN_eq hn20 HA.out (Or.inl (by omega)))
          go_wp2_with fail
          go_meet
          case rel => exact ⟨by rw [HE.out, HZ.out], rfl⟩
        have hc2' : (n : Int) < 20 := by omega
        have cz := HCTR.out z (by omega)
        have hz60 : (z : Int) < 60 := by omega
        cases hb : tat s.told z with
        | true =>
          rw [hb] at cz
          have HE : Hid (strN s.told s.last 20 a = n) := Lib.hid (strN_eq hn20 HA.out (Or.inr (by rw [HZ.out, hb]; simp)))
          clear hb
          trace "I"; go_wp2_with fail
          go_meet
          case rel => exact ⟨by rw [HE.out, HZ.out], rfl⟩
        | false =>
          rw [hb] at cz
          have HBB := Lib.hid hb
          clear hb
          trace "J"; go_wp2_with fail
          go_roundw
          case rel => exact ⟨n + 1, by have := HZ.out; go_num, by omega, fun j hj => by
            rcases Nat.lt_succ_iff_lt_or_eq.1 hj with h1 | h1
            · exact HA.out j h1
            · subst h1; rw [HZ.out]; exact ⟨by omega, HBB.out⟩, trivial⟩
          case measure => simp [intOf]; omega
    case rest =>
      obtain ⟨rfl, rfl⟩ := hcut
      obtain ⟨N, hN⟩ : ∃ N, strN s.told s.last 20 a = N := ⟨_, rfl⟩
      have hNle := strN_le s.told s.last 20 a
      rw [hN] at hNle
      rw [hN]
      have HNN := Lib.hid hN
      clear hN
      by_cases hN0 : N = 0
      · subst hN0
        have heq : (((a + 0 : Nat) : Int) == (a : Int)) = true := by simp
        trace "K"; go_wp2_with fail
        go_roundw
        case rel => exact ⟨a + 1, k, A, out, by go_num, by rw [HM.out], HP.out.skip hl HNN.out⟩
        case measure => simp [intOf]; omega
      · obtain ⟨z, hz⟩ : ∃ z, a + N = z := ⟨_, rfl⟩
        have HZ := Lib.hid hz
        have hne : ((z : Int) == (a : Int)) = false := by simp; omega
        have hza : (a : Int) ≤ (z : Int) := by omega
        have hzd : (z : Int) ≤ (s.data.size : Int) := by omega
        have hz60 : z ≤ 60 := by omega
        rw [hz]
        obtain ⟨es, hes⟩ : ∃ es, out.map pcRow = es := ⟨_, rfl⟩
        have HES : Hid (es.length = m) := Lib.hid (by rw [← hes, List.length_map]; exact HM.out)
        have HEQ := Lib.hid hes
        have HLS : Hid (Lst wc 98 2 (.slice A m k) es) := Lib.hid (by have := HP.out.ls; rw [hes, HM.out] at this; exact this)
        have HNW : Hid (∀ q, q ∈ blocks (.slice A m k) → w.heap.size ≤ q) := Lib.hid (fun q hq => HP.out.nw q (blocks_any A _ _ _ _ ▸ hq))
        have HS := Lib.hid HP.out.since
        clear hz hes hNle
        trace "L"; go_wp2_with (at_builtin; refine wpList_push rfl _ _ 95 rfl 98 2 24 Tryz.elPc (.slice A m k) es rfl (HLS.out.alloc _) wc.heap.size 1 [.int .i64 a, .string (s.data.extract a z)] rfl rfl (pcRow_one ⟨a, s.data.extract a z⟩).2 (BlockIs.fresh _ _ _) (by rw [HES.out]; omega) ?_; intro q cq w5 hl5 ho5 hq5 hlt5; rw [HES.out] at hl5; rw [HES.out])
        have HL5 := Lib.hid hl5
        have HS5 : Hid (Since w w5) := Lib.hid ((Since.alloc HS.out _).out' ho5 (fun q hq => HNW.out q hq))
        have HQ5 : Hid (q ∈ blocks (.slice A 0 0) ∨ wc.heap.size ≤ q) := Lib.hid (by
          rcases hq5 with h1 | h1
          · exact Or.inl (blocks_any A _ _ _ _ ▸ h1)
          · right; rw [h1]; simp)
        clear hl5 ho5 hq5
        trace "M"; go_wp2_with fail
        go_roundw
        case rel =>
          have h1 := HP.out.take (w' := w5) (q := q) (c := cq) hl (by rw [HM.out]; omega) HNN.out hN0 (by rw [HEQ.out, HM.out, HZ.out]; exact HL5.out) HQ5.out HS5.out
          rw [HZ.out] at h1
          exact ⟨z, cq, some ⟨q, 0, none⟩, _, rfl, by simp [HM.out], h1⟩
        case measure => have := HZ.out; simp [intOf]; omega
end Go.Proofs.YtmfbaijbigodkaaGreatDoor

/-! Contract of an end's Make. Condition: the blocks hold an end as New and the calls leave it, there were no more than 1000 packets, the table of kinds lies there. -/
namespace Go.Proofs.YtmfbaijbigodkaaGreatDoor
open Go.ChangeShapes Go.WideShapes Go.ChangeAt Go.RowKit
set_option linter.unusedVariables false

/-- frames of the call's own -/
structure FlSt (w wr : World) (A : Option Addr) (k : Nat) (Ms : List FrmV) : Prop where
  ls : Lst wr 93 3 (.slice A Ms.length k) (Ms.map frmRow)
  nw : ∀ q, q ∈ blocks (.slice A 0 0) → w.heap.size ≤ q
  each : ∀ g ∈ Ms, FrmIn wr g ∧ farA g (blocks (.slice A 0 0))
  since : Since w wr
theorem FlSt.start {w wr : World} (h : Since w wr) : FlSt w wr none 0 [] := ⟨Lst.nil _ _ _, by simp [Value.ownBlock], by simp, h⟩
theorem FlSt.later {w wr w' : World} {A : Option Addr} {k : Nat} {Ms : List FrmV} (h : FlSt w wr A k Ms) (hb : Below wr.heap.size wr w') : FlSt w w' A k Ms :=
  ⟨h.ls.later hb, h.nw, fun g hg => ⟨(h.each g hg).1.later hb, (h.each g hg).2⟩, h.since.later hb⟩
theorem FlSt.step {w wr X w9 : World} {A : Option Addr} {k q9 c9 : Nat} {Ms : List FrmV} {g : FrmV} (h : FlSt w wr A k Ms) (hX : Below wr.heap.size wr X) (hg : FrmIn X g) (hn : newA g.A wr.heap.size)
    (hl : Lst w9 93 3 (.slice (some ⟨q9, 0, none⟩) (Ms.length + 1) c9) (Ms.map frmRow ++ [frmRow g])) (ho : Out X w9 (blocks (.slice A Ms.length k))) (hq : q9 ∈ blocks (.slice A Ms.length k) ∨ q9 = X.heap.size) :
    FlSt w w9 (some ⟨q9, 0, none⟩) c9 (Ms ++ [g]) := by
  have hbl : blocks (.slice A Ms.length k) = blocks (.slice A 0 0) := blocks_any A _ _ _ _
  rw [hbl] at ho hq
  have hold : ∀ q, q ∈ blocks (.slice A 0 0) → q < wr.heap.size := fun q hq => h.ls.lt q (by rw [hbl]; exact hq)
  have hgf : farA g (blocks (.slice A 0 0)) := fun _ b' off' hA hm => by have := hn b' off' hA; have := hold b' hm; omega
  refine ⟨by rw [List.map_append, List.length_append]; exact hl, fun q hqm => ?_, fun g' hg' => ?_, (h.since.later hX).out' ho h.nw⟩
  · have hm' : q9 = q := by simpa [Value.ownBlock] using hqm
    rw [← hm']
    rcases hq with hq | hq
    · exact h.nw q9 hq
    · rw [hq]; have := h.since.le; have := hX.size; omega
  · have key : ∀ x : FrmV, FrmIn X x → farA x (blocks (.slice A 0 0)) → FrmIn w9 x ∧ farA x (blocks (.slice (some ⟨q9, 0, none⟩) 0 0)) := fun x hx hxf => by
      refine ⟨hx.out ho hxf, fun hne b' off' hA hm => ?_⟩
      have hm' : q9 = b' := by simpa [Value.ownBlock] using hm
      subst hm'
      rcases hq with hq | hq
      · exact hxf hne q9 off' hA hq
      · exact farA_lt hx (Nat.le_of_eq hq.symm) hne q9 off' hA (by simp)
    rcases List.mem_append.1 hg' with hm | hm
    · obtain ⟨e1, e2⟩ := h.each g' hm
      exact key g' (e1.later hX) e2
    · rw [List.mem_singleton.1 hm]; exact key g hg hgf
theorem FlSt.frms {w wr : World} {A : Option Addr} {k : Nat} {Ms : List FrmV} (h : FlSt w wr A k Ms) : FrmsIn wr (.slice A Ms.length k) Ms := ⟨fun g hg => (h.each g hg).1, Rd.of_lst h.ls⟩
/-- a block of one number -/
theorem ints_one {X : World} {B : Nat} {z : Int} (h : BlockIs X B 3 #[.int .i64 z]) (h1 : -9223372036854775808 ≤ z ∧ z ≤ 9223372036854775807) : IntsIn X (.slice (some ⟨B, 0, none⟩) 1 1) [z] := by
  refine ⟨fun n hn => by rw [List.mem_singleton.1 hn]; exact h1, some ⟨B, 0, none⟩, 1, rfl, by simp, by unfold maxLen; decide, fun _ => ⟨B, 0, rfl, h.lt, fun i hi => ?_⟩⟩
  have : i = 0 := by simp at hi; omega
  subst this
  exact h.cell 0
theorem newA_at {B n : Nat} (h : n ≤ B) : newA (some ⟨B, 0, none⟩) n := fun b off e => by
  simp only [Option.some.injEq, Addr.mk.injEq] at e
  omega
theorem newA_lst {W : World} {E size n c N : Nat} {A : Option Addr} {es : List (List Value)} (h : Lst W E size (.slice A n c) es) (hk : ∀ q, q ∈ blocks (.slice A 0 0) → N ≤ q) : newA A N := fun b off e => by
  subst e
  obtain ⟨A9, c9, e9, _, _, h9⟩ := h.shape
  simp only [Value.slice.injEq] at e9
  rcases h9 with ⟨h9, _⟩ | ⟨g9, h9⟩
  · rw [h9] at e9; exact absurd e9.1 (by simp)
  · rw [h9] at e9
    simp only [Option.some.injEq, Addr.mk.injEq] at e9
    obtain ⟨⟨rfl, rfl, _⟩, _⟩ := e9
    exact hk b (by rw [blocks_at]; simp)
theorem Lst.apart2 {w : World} {E1 E2 k1 k2 : Nat} {v1 v2 : Value} {es1 es2 : List (List Value)} (h1 : Lst w E1 k1 v1 es1) (h2 : Lst w E2 k2 v2 es2) (ne : E1 ≠ E2) : ∀ k, k ∈ blocks v1 → k ∉ blocks v2 := by
  intro k hk hk2
  rcases h1.own.2 with ⟨rfl, _⟩ | ⟨g, cap, cur, rfl, _, hg, _⟩
  · simp [blocks, Value.ownBlock] at hk
  · rw [blocks_at, List.mem_singleton] at hk
    subst hk
    exact h2.apart (cs := cur) hg ne hk2
theorem Own.rebase {w w' : World} {S : List Nat} {L : List Thing} (h : Own w S w L) (hb : Below w.heap.size w w') : Own w' S w' L := by
  obtain ⟨own, ho⟩ := h.has
  refine ⟨Out.refl _ _, own, fun i t hi => ?_⟩
  obtain ⟨Si, h1, h2⟩ := ho i t hi
  refine ⟨Si, t.later h1 hb, fun k hk => ⟨(h2 k hk).1, Or.inl ?_⟩⟩
  have := t.lt h1 k hk
  rcases (h2 k hk).2 with h3 | h3
  · exact h3
  · omega
theorem EnIn.later {w w' : World} {S : List Nat} {g : Nat} {s : EnS} {p : EnP} (h : EnIn w S g s p) (hb : Below w.heap.size w w') : EnIn w' S g s p := ⟨h.ok, h.len, h.own.rebase hb⟩
set_option maxHeartbeats 3200000 in
set_option maxRecDepth 100000 in
theorem emake (g : Nat) (s : EnS) (w : World) (S : List Nat) (h : (endT g s).is w S) (hK : KTab w) (h1000 : s.made.length ≤ 1000) :
    Calls Tryz.prog 15 #[.pointer (some ⟨g, 0, none⟩)] w fun e w' => e = .returned (.string ⟨s.packet.toArray⟩) ∧ Leaves w w' S (endT g s.make) := by
  obtain ⟨p, hp⟩ := endT_open h
  have H := Lib.hid hp
  have HK := Lib.hid hK
  have c64 := hp.c64
  have lg := hp.bg.lt
  obtain ⟨Ac, cc, hcv, -, -, -⟩ := hp.lc.shape
  rw [List.length_map] at hcv
  rw [hcv] at c64
  have HRC : Hid (Rd w 2 (.slice Ac s.came.length cc) (s.came.map rngRow)) := Lib.hid (by rw [← hcv]; exact Rd.of_lst hp.lc)
  have HC12 := Lib.hid (rngE_len hp.ok.cm)
  have HX : Hid (∀ X, Since w X → X.cell? ⟨g, 62, none⟩ = some p.mv ∧ X.cell? ⟨g, 63, none⟩ = some (.int .i64 s.known) ∧ X.cell? ⟨g, 66, none⟩ = some (.pointer (some ⟨p.gl, 0, none⟩)) ∧ g < X.heap.size) := Lib.hid (fun X hX => ⟨hX.cell hp.bg.lt hp.c62, hX.cell hp.bg.lt hp.c63, hX.cell hp.bg.lt hp.c66, Nat.lt_of_lt_of_le hp.bg.lt hX.size⟩)
  have HF0 := Lib.hid (FlSt.start (Since.refl w))
  obtain ⟨Am, cm, hmv, -, -, -⟩ := hp.lm.shape
  rw [List.length_map, hp.len] at hmv
  have HMV := Lib.hid hmv
  clear h hp hK hcv hmv
  go_enter Tryz.func15, Tryz.ntmps15
  trace "A"; repeat ((fail_if_success (with_reducible refine stop_at 2 ?_)); first | fail | go_values | go_skip | go_guarded | go_step | go_upon | go_back | go_simp)
  go_cut [3] (fun s3 wx => ∃ A k Ms, s3 = .slice A Ms.length k ∧ FlSt w wx A k Ms ∧ Ms.map (·.f) = ackFs s.came)
  case first =>
    by_cases h0 : s.came = []
    · have hE : Hid (ackFs s.came = []) := Lib.hid (by unfold ackFs; rw [if_pos h0])
      rw [h0] at c64
      clear h0
      go_wp2_with fail
      go_meet
      case rel => exact ⟨none, 0, [], rfl, HF0.out, hE.out.symm⟩
    · have hE : Hid (ackFs s.came = [⟨2, unpairs s.came, ByteArray.empty⟩]) := Lib.hid (by unfold ackFs; rw [if_neg h0])
      have hl0 : (0 : Int) < (s.came.length : Int) := by have := List.length_pos_iff.2 h0; omega
      have hu := unpairs_len s.came
      have hb30 := rngE_ok H.out.ok.cm
      have HG : Hid (∀ (X : World) A1 c1, Lst X 3 1 (.slice A1 (2 * s.came.length) c1) ((unpairs s.came).map intRow) → FrmIn X ⟨⟨2, unpairs s.came, ByteArray.empty⟩, A1, c1⟩) := Lib.hid (fun X A1 c1 hl => by
        rw [← hu] at hl
        exact ⟨show -9223372036854775808 ≤ (2 : Int) ∧ (2 : Int) ≤ 9223372036854775807 by decide, by show ByteArray.empty.size ≤ maxLen; simp [maxLen], ints_of_lst hl (fun z hz => by
          obtain ⟨r, hr, hz⟩ := List.mem_flatMap.1 hz
          obtain ⟨⟨a1, a2⟩, b1, b2⟩ := hb30 r hr
          simp at hz
          rcases hz with rfl | rfl <;> omega)⟩)
      have HU := Lib.hid hu
      clear hu hb30
      trace "B"; go_wp2_with (first
        | (go_at_call 48; refine (facked Ac s.came.length cc s.came _ rfl (by have := HC12.out; omega) HRC.out).mono ?_; rintro e w1 ⟨A1, c1, rfl, hl1, hb1, hk1⟩; have HL1 := Lib.hid hl1; have HB1 := Lib.hid hb1; have HK1 := Lib.hid hk1; clear hl1 hb1 hk1)
        | (at_builtin; refine wpList_push rfl _ _ 91 rfl 93 3 48 Tryz.elFrm (.slice none 0 0) [] rfl (Lst.nil _ _ _) w1.heap.size 1 [.int .i64 2, .slice A1 (2 * s.came.length) c1, .string ⟨#[]⟩] rfl rfl (by intro u hu; simp at hu; rcases hu with rfl | rfl | rfl <;> rfl) (BlockIs.fresh _ _ _) (by simp) ?_; intro q cq w5 hl5 ho5 hq5 hlt5))
      go_meet
      case rel =>
        refine ⟨some ⟨q, 0, none⟩, cq, [⟨⟨2, unpairs s.came, ByteArray.empty⟩, A1, c1⟩], rfl, ?_, hE.out.symm⟩
        have hb1 : Since w w1 := HB1.out
        have hX : Below w.heap.size w (w1.alloc (.cells #[.int .i64 2, .slice A1 (2 * s.came.length) c1, .string ⟨#[]⟩] 93)) := (show Since w _ from (by refine Since.out ?_; repeat (first | with_reducible assumption | with_reducible exact Since.refl _ | with_reducible refine Since.later ?_ (by with_reducible assumption) | with_reducible refine Since.only ?_ (by with_reducible assumption) (by first | assumption | omega | (simp; done) | (simp; omega)) | with_reducible refine Since.alloc ?_ _ | with_reducible refine Since.drewN ?_ _ | with_reducible refine Since.drew ?_ | with_reducible refine Since.set ?_ (by first | assumption | omega | (simp; done) | (simp; omega)) _)))
        refine HF0.out.step (g := ⟨⟨2, unpairs s.came, ByteArray.empty⟩, A1, c1⟩) hX (HG.out _ A1 c1 (HL1.out.alloc _)) (fun b off e => ?_) ?_ ho5 hq5
        · exact newA_lst HL1.out HK1.out b off e
        · have e : frmRow ⟨⟨2, unpairs s.came, ByteArray.empty⟩, A1, c1⟩ = [.int .i64 2, .slice A1 (2 * s.came.length) c1, .string ⟨#[]⟩] := by unfold frmRow; rw [HU.out]; rfl
          rw [e]; exact hl5
  case rest =>
    obtain ⟨A, k, Ms, rfl, hf, hms⟩ := hcut
    have HF := Lib.hid hf
    have HMS := Lib.hid hms
    have hs : Since w wc := hf.since
    obtain ⟨d62, d63, d66, lx⟩ := HX.out wc hf.since
    obtain ⟨m, hm⟩ : ∃ m, Ms.length = m := ⟨_, rfl⟩
    have HM := Lib.hid hm
    have hm1 : m ≤ 1 := by
      have e := congrArg List.length hms
      rw [List.length_map, hm] at e
      rw [e]; unfold ackFs; split <;> simp
    obtain ⟨es, hes⟩ : ∃ es, Ms.map frmRow = es := ⟨_, rfl⟩
    have HES : Hid (es.length = m) := Lib.hid (by rw [← hes, List.length_map]; exact hm)
    have HEQ := Lib.hid hes
    have HLS : Hid (Lst wc 93 3 (.slice A m k) es) := Lib.hid (by have := hf.ls; rw [hes, hm] at this; exact this)
    have HLL : Hid (MayBe s.L) := Lib.hid (by have := H.out.ok.cr; have := this.l1; have := H.out.ok.cr.w1; have := H.out.ok.cr.l2; unfold MayBe; omega)
    rw [hm]
    clear hf hms hm hes
    trace "C"; go_upto_region 5 with (first
      | (go_at_call 49; refine (climit p.gl s.W s.L s.C s.R _ (H.out.bl.later hs)).mono ?_; rintro e w1 ⟨rfl, rfl⟩)
      | (at_builtin; refine wpList_push rfl _ _ 91 rfl 93 3 48 Tryz.elFrm (.slice A m k) es rfl ((HLS.out.alloc _).alloc _) (wc.heap.size + 1) 1 [.int .i64 4, .slice (some ⟨wc.heap.size, 0, none⟩) 1 1, .string ⟨#[]⟩] rfl rfl (by intro u hu; simp at hu; rcases hu with rfl | rfl | rfl <;> rfl) (BlockIs.fresh_at (by simp)) (by rw [HES.out]; omega) ?_; intro q cq w5 hl5 ho5 hq5 hlt5; rw [HES.out] at hl5; rw [HES.out]))
    have HF5 : Hid (FlSt w w5 (some ⟨q, 0, none⟩) cq (Ms ++ [⟨⟨4, [s.L], ByteArray.empty⟩, some ⟨wc.heap.size, 0, none⟩, 1⟩])) := Lib.hid (by
      have hX : Below wc.heap.size wc ((wc.alloc (.cells #[.int .i64 s.L] 3)).alloc (.cells #[.int .i64 4, .slice (some ⟨wc.heap.size, 0, none⟩) 1 1, .string ⟨#[]⟩] 93)) := (show Since wc _ from (by refine Since.out ?_; repeat (first | with_reducible assumption | with_reducible exact Since.refl _ | with_reducible refine Since.later ?_ (by with_reducible assumption) | with_reducible refine Since.only ?_ (by with_reducible assumption) (by first | assumption | omega | (simp; done) | (simp; omega)) | with_reducible refine Since.alloc ?_ _ | with_reducible refine Since.drewN ?_ _ | with_reducible refine Since.drew ?_ | with_reducible refine Since.set ?_ (by first | assumption | omega | (simp; done) | (simp; omega)) _)))
      have hmb := HLL.out
      unfold MayBe at hmb
      refine HF.out.step (g := ⟨⟨4, [s.L], ByteArray.empty⟩, some ⟨wc.heap.size, 0, none⟩, 1⟩) hX ⟨show -9223372036854775808 ≤ (4 : Int) ∧ (4 : Int) ≤ 9223372036854775807 by decide, by show ByteArray.empty.size ≤ maxLen; simp [maxLen], ints_one ((BlockIs.fresh _ _ _).alloc _) (by omega)⟩ (newA_at (Nat.le_refl _)) ?_ ?_ ?_
      · rw [HM.out, HEQ.out]; exact hl5
      · rw [HM.out]; exact ho5
      · rw [HM.out]; exact hq5)
    have HM5 : Hid ((Ms ++ [(⟨⟨4, [s.L], ByteArray.empty⟩, some ⟨wc.heap.size, 0, none⟩, 1⟩ : FrmV)]).map (·.f) = ackFs s.came ++ [⟨4, [s.L], ByteArray.empty⟩]) := Lib.hid (by rw [List.map_append, HMS.out]; rfl)
    have HL5 : Hid ((Ms ++ [(⟨⟨4, [s.L], ByteArray.empty⟩, some ⟨wc.heap.size, 0, none⟩, 1⟩ : FrmV)]).length = m + 1) := Lib.hid (by rw [List.length_append, HM.out]; rfl)
    obtain ⟨M5, hM5⟩ : ∃ M, Ms ++ [(⟨⟨4, [s.L], ByteArray.empty⟩, some ⟨wc.heap.size, 0, none⟩, 1⟩ : FrmV)] = M := ⟨_, rfl⟩
    rw [hM5] at HF5 HM5 HL5
    have hs5 : Since w w5 := HF5.out.since
    clear hl5 ho5 hq5 hM5 HF HMS HM HES HEQ HLS d62 d63 d66 lx
    trace "D"; go_wp2_with (go_at_call 50; refine (epieces g s p _ S (H.out.later hs5)).mono ?_; rintro e w6 ⟨Ap, cp, rfl, hl6, hb6, hk6⟩)
    have hs6 : Since w w6 := hs5.later hb6
    have HF6 := Lib.hid (HF5.out.later hb6)
    have HKW : Hid (∀ k, k ∈ blocks (.slice Ap 0 0) → w.heap.size ≤ k) := Lib.hid (fun k hk => Nat.le_trans hs5.size (hk6 k hk))
    have HP6 := Lib.hid hl6
    have HK6 := Lib.hid hk6
    obtain ⟨np, hnp⟩ : ∃ n, s.pieces.length = n := ⟨_, rfl⟩
    have HNP := Lib.hid hnp
    have hnp3 : np ≤ 3 := by rw [← hnp]; exact pieces_len s
    rw [hnp] at HP6
    rw [hnp]
    clear hl6 hk6 hnp HF5
    trace "E"; go_wp2_with fail
    trace "F"; go_loopw [3, 36] (fun s3 s36 wr => ∃ (j k : Nat) (A : Option Addr) (Ms : List FrmV), s36 = .int .i64 j ∧ j ≤ np ∧ s3 = .slice A (m + 1 + j) k ∧ Ms.length = m + 1 + j ∧ FlSt w wr A k Ms ∧ Ms.map (·.f) = ackFs s.came ++ ⟨4, [s.L], ByteArray.empty⟩ :: (s.pieces.take j).map pcFrm ∧ Lst wr 98 2 (.slice Ap np cp) (s.pieces.map pcRow)) (fun s3 s36 _ => np - (intOf s36).toNat)
    case atStart => exact ⟨0, cq, some ⟨q, 0, none⟩, M5, rfl, Nat.zero_le _, rfl, HL5.out, HF6.out, by rw [HM5.out, List.take_zero]; rfl, HP6.out⟩
    case round =>
      obtain ⟨j, k2, A3, Mj, rfl, hj, rfl, hmj, hfj, hmm, hsj⟩ := hrel
      have HFJ := Lib.hid hfj
      have HMJ := Lib.hid hmm
      have HLJ := Lib.hid hmj
      clear hfj hmm hmj
      by_cases hlt : j < np
      case neg =>
        obtain rfl : j = np := by omega
        have hlt' : decide ((j : Int) < (j : Int)) = false := by simp
        trace "G"; go_wp2_with fail
        have hsr : Since w wr := HFJ.out.since
        obtain ⟨d62, d63, -, lx⟩ := HX.out wr hsr
        rw [HMV.out] at d62
        have hpk : pktB (s.made.length : Int) s.known (Mj.map (·.f)) = s.packet := by
          rw [HMJ.out, show s.pieces.take j = s.pieces by rw [← HNP.out, List.take_length]]; rfl
        have HPK : Hid (∀ X, Since wr X → Calls Tryz.prog 51 #[.int .i64 s.made.length, .int .i64 s.known, .slice A3 (m + 1 + j) k2] X fun e w' => e = .returned (.string ⟨s.packet.toArray⟩) ∧ Below X.heap.size X w') := Lib.hid (fun X hX => by
          have hfr := H.out.ok.framesOk.1
          have h1 := pkbytes (s.made.length : Int) s.known A3 (m + 1 + j) k2 Mj X HLJ.out (by omega) (by have := (HFJ.out.later hX).frms; rw [HLJ.out] at this; exact this) (by
            rw [HMJ.out, show s.pieces.take j = s.pieces by rw [← HNP.out, List.take_length]]
            exact frmsE_of hfr) (H.out.ok.packetOk (by omega)).2.1 (HK.out.later (hsr.later hX))
          rw [hpk] at h1
          exact h1)
        clear hpk
        trace "H"; go_region_law (go_simp; go_at_call 51; refine (HPK.out _ (show Since wr _ from (by refine Since.out ?_; repeat (first | with_reducible assumption | with_reducible exact Since.refl _ | with_reducible refine Since.later ?_ (by with_reducible assumption) | with_reducible refine Since.only ?_ (by with_reducible assumption) (by first | assumption | omega | (simp; done) | (simp; omega)) | with_reducible refine Since.alloc ?_ _ | with_reducible refine Since.drewN ?_ _ | with_reducible refine Since.drew ?_ | with_reducible refine Since.set ?_ (by first | assumption | omega | (simp; done) | (simp; omega)) _)))).mono ?_; rintro e w7 ⟨rfl, hb7⟩; have HS7 := Lib.hid (show Since wr w7 from (by refine Since.out ?_; repeat (first | with_reducible assumption | with_reducible exact Since.refl _ | with_reducible refine Since.later ?_ (by with_reducible assumption) | with_reducible refine Since.only ?_ (by with_reducible assumption) (by first | assumption | omega | (simp; done) | (simp; omega)) | with_reducible refine Since.alloc ?_ _ | with_reducible refine Since.drewN ?_ _ | with_reducible refine Since.drew ?_ | with_reducible refine Since.set ?_ (by first | assumption | omega | (simp; done) | (simp; omega)) _))); clear hb7)
        all_goals
          have hs7 : Since w w7 := hsr.later HS7.out
          obtain ⟨e62, -, -, lx7⟩ := HX.out w7 hs7
          rw [HMV.out] at e62
          have HO7 : Hid (Own w S w7 (enParts g s p ++ [Thing.lst 98 2 (.slice Ap j cp) (s.pieces.map pcRow)])) := Lib.hid (H.out.own.add hs7 (S := blocks (.slice Ap j cp)) ⟨hsj.later HS7.out, rfl⟩ (fun k hk => HKW.out k (blocks_any Ap _ _ _ _ ▸ hk)))
          have fz7 : ∀ i, w7.frozen? ⟨g, i, none⟩ = false := (HO7.out.blk 0 rfl).free
          obtain ⟨es, hes⟩ : ∃ es, (p.vs.map fun v => [v]) = es := ⟨_, rfl⟩
          have HES : Hid (es.length = s.made.length) := Lib.hid (by rw [← hes, List.length_map]; exact H.out.len)
          have HL7 : Hid (Lst w7 95 1 (.slice Am s.made.length cm) es) := Lib.hid (by have := HO7.out.ls 3 rfl; rw [hes, HMV.out] at this; exact this)
          have HEQ := Lib.hid hes
          clear hes d62 d63
          trace "I"; go_wp2_with (at_builtin; refine wpList_push rfl _ _ 43 rfl 95 1 24 Tryz.elPcs (.slice Am s.made.length cm) es rfl (HL7.out.alloc _) w7.heap.size 1 [.slice Ap j cp] rfl rfl (by intro u hu; simp at hu; rw [hu]; rfl) (BlockIs.fresh _ _ _) (by rw [HES.out]; omega) ?_; intro q8 c8 w8 hl8 ho8 hq8 hlt8; rw [HES.out] at hl8; rw [HES.out]; have hb8 := ho8.block' ((HO7.out.blk 0 rfl).alloc _) (HL7.out.apart (HO7.out.blk 0 rfl) (by decide)); have x62 : w8.cell? ⟨g, 62, none⟩ = some p.mv := (hb8.cell 62).trans (enCells_tail _ _ _ _ H.out.ok.tl 1); have fz8 := hb8.free; have lx8 := hb8.lt)
          have HO8 : Hid (Own w S w8 ((enParts g s p ++ [Thing.lst 98 2 (.slice Ap j cp) (s.pieces.map pcRow)]).set 3 (Thing.lst 95 1 (.slice (some ⟨q8, 0, none⟩) (s.made.length + 1) c8) (es ++ [[.slice Ap j cp]])))) := Lib.hid (by
            obtain ⟨S3, ⟨h3, h3'⟩, up⟩ := (HO7.out.later ((Since.refl w7).alloc (.cells #[.slice Ap j cp] 95))).at_ 3 rfl
            have hS3 : S3 = blocks (.slice Am s.made.length cm) := by rw [h3', HMV.out]
            refine up w8 _ ⟨blocks (.slice (some ⟨q8, 0, none⟩) (s.made.length + 1) c8), ⟨hl8, rfl⟩, by rw [hS3]; exact ho8, fun k hk => ?_⟩
            have e8 : k = q8 := by rw [blocks_at] at hk; simpa using hk
            subst e8
            rcases hq8 with h9 | h9
            · left; rw [hS3]; exact h9
            · right; rw [h9]; exact Nat.le_refl _)
          have HO9 := Lib.hid (HO8.out.put 0 rfl 62 (.slice (some ⟨q8, 0, none⟩) (s.made.length + 1) c8))
          clear hb8 hl8 ho8 hq8
          trace "J"; go_wp2_with fail
          go_ret
          refine ⟨rfl, endT_close (p := ⟨p.gi, p.gl, .slice (some ⟨q8, 0, none⟩) (s.made.length + 1) c8, p.cv, p.vs ++ [.slice Ap j cp]⟩) H.out.ok.make (by show (p.vs ++ [_]).length = (s.made ++ [_]).length; simp [H.out.len]) ?_⟩
          have h9 := HO9.out
          rw [enCells_62 _ _ _ _ H.out.ok.tl] at h9
          have e9 : enParts g s.make ⟨p.gi, p.gl, .slice (some ⟨q8, 0, none⟩) (s.made.length + 1) c8, p.cv, p.vs ++ [.slice Ap j cp]⟩ = ((enParts g s p ++ [Thing.lst 98 2 (.slice Ap j cp) (s.pieces.map pcRow)]).set 3 (Thing.lst 95 1 (.slice (some ⟨q8, 0, none⟩) (s.made.length + 1) c8) (es ++ [[.slice Ap j cp]]))).set 0 (Thing.block g 83 (enCells s (.slice (some ⟨q8, 0, none⟩) (s.made.length + 1) c8) p.cv p.gi p.gl).toArray) := by
            have e1 : inner (p.vs ++ [.slice Ap j cp]) (s.made ++ [s.pieces]) = inner p.vs s.made ++ [Thing.lst 98 2 (.slice Ap j cp) (s.pieces.map pcRow)] := inner_snoc _ _ H.out.len
            have e2 : (p.vs ++ [Value.slice Ap j cp]).map (fun v => [v]) = es ++ [[.slice Ap j cp]] := by rw [List.map_append, HEQ.out]; rfl
            show Thing.block _ _ _ :: Thing.block _ _ _ :: Thing.block _ _ _ :: Thing.lst _ _ _ ((p.vs ++ [Value.slice Ap j cp]).map (fun v => [v])) :: Thing.lst _ _ _ _ :: inner (p.vs ++ [.slice Ap j cp]) (s.made ++ [s.pieces]) = _
            rw [e1, e2]
            rfl
          rw [e9]
          exact h9
      have hjp : j < s.pieces.length := by rw [HNP.out]; exact hlt
      have hl6 := hsj
      have HSJ := Lib.hid hsj
      obtain ⟨b2, hA2, lb2, p0, p1⟩ := hl6.pc hjp
      have hpc := H.out.ok.piece (List.getElem_mem hjp)
      have hla := H.out.ok.last
      have HTK := Lib.hid (List.take_succ_eq_append_getElem hjp)
      obtain ⟨⟨a, d⟩, hpp⟩ : ∃ x, s.pieces[j] = x := ⟨_, rfl⟩
      rw [hpp] at p0 p1 HTK hpc
      dsimp only at p0 p1 hpc
      have hd20 : d.size ≤ 20 := hpc.1.2.2
      have ha60 : a ≤ 60 := by have := hpc.1.1; omega
      have hlt' : (j : Int) < (np : Int) := by omega
      have hmj5 : m + 1 + j ≤ 5 := by omega
      obtain ⟨es, hes⟩ : ∃ es, Mj.map frmRow = es := ⟨_, rfl⟩
      have HES : Hid (es.length = m + 1 + j) := Lib.hid (by rw [← hes, List.length_map]; exact HLJ.out)
      have HEQ := Lib.hid hes
      have HLS : Hid (Lst wr 93 3 (.slice A3 (m + 1 + j) k2) es) := Lib.hid (by have := HFJ.out.ls; rw [hes, HLJ.out] at this; exact this)
      subst hA2
      clear hl6 hpc hla hpp hes hjp
      obtain ⟨mm, hmm⟩ : ∃ x, m + 1 + j = x := ⟨_, rfl⟩
      have HMM := Lib.hid hmm
      rw [hmm] at HES HLS hmj5 HLJ
      rw [hmm]
      clear hmm
      trace "K"; go_wp2_with (at_builtin; refine wpList_push rfl _ _ 91 rfl 93 3 48 Tryz.elFrm (.slice A3 mm k2) es rfl (((HLS.out.alloc _).alloc _).alloc _) (wr.heap.size + 1 + 1) 1 [.int .i64 3, .slice (some ⟨wr.heap.size + 1, 0, none⟩) 1 1, .string d] rfl rfl (by intro u hu; simp at hu; rcases hu with rfl | rfl | rfl <;> rfl) (BlockIs.fresh_at (by simp)) (by rw [HES.out]; omega) ?_; intro q9 c9 w9 hl9 ho9 hq9 hlt9; rw [HES.out] at hl9; rw [HES.out])
      have HF9 : Hid (FlSt w w9 (some ⟨q9, 0, none⟩) c9 (Mj ++ [⟨⟨3, [(a : Int)], d⟩, some ⟨wr.heap.size + 1, 0, none⟩, 1⟩])) := Lib.hid (by
        have hX : Below wr.heap.size wr (((wr.alloc (.cells #[.int .i64 a, .string d] 98)).alloc (.cells #[.int .i64 a] 3)).alloc (.cells #[.int .i64 3, .slice (some ⟨wr.heap.size + 1, 0, none⟩) 1 1, .string d] 93)) := (show Since wr _ from (by refine Since.out ?_; repeat (first | with_reducible assumption | with_reducible exact Since.refl _ | with_reducible refine Since.later ?_ (by with_reducible assumption) | with_reducible refine Since.only ?_ (by with_reducible assumption) (by first | assumption | omega | (simp; done) | (simp; omega)) | with_reducible refine Since.alloc ?_ _ | with_reducible refine Since.drewN ?_ _ | with_reducible refine Since.drew ?_ | with_reducible refine Since.set ?_ (by first | assumption | omega | (simp; done) | (simp; omega)) _)))
        refine HFJ.out.step (g := ⟨⟨3, [(a : Int)], d⟩, some ⟨wr.heap.size + 1, 0, none⟩, 1⟩) hX ⟨show -9223372036854775808 ≤ (3 : Int) ∧ (3 : Int) ≤ 9223372036854775807 by decide, by show d.size ≤ maxLen; simp [maxLen]; omega, ints_one ((BlockIs.fresh_at (by simp)).alloc _) (by omega)⟩ (newA_at (by omega)) ?_ ?_ ?_
        · rw [HLJ.out, HEQ.out]; exact hl9
        · rw [HLJ.out]; exact ho9
        · rw [HLJ.out]; exact hq9)
      have hs9 : Lst w9 98 2 (.slice (some ⟨b2, 0, none⟩) np cp) (s.pieces.map pcRow) := (((HSJ.out.alloc _).alloc _).alloc _).kept ho9 (HSJ.out.apart2 HLS.out (by decide))
      clear hl9 ho9 hq9
      trace "L"; go_wp2_with fail
      go_roundw
      case rel => exact ⟨j + 1, c9, some ⟨q9, 0, none⟩, _, by go_num, by omega, by have := HMM.out; rw [← this]; rfl, by rw [List.length_append, HLJ.out]; have := HMM.out; simp; omega, HF9.out, by rw [List.map_append, HMJ.out, HTK.out, List.map_append]; simp [pcFrm], hs9⟩
      case measure => simp [intOf]; omega
end Go.Proofs.YtmfbaijbigodkaaGreatDoor

/-! Contract of an end's Take. Condition: the blocks hold an end as New and the calls leave it, there were no more than 1000 packets, the tables lie there. -/
namespace Go.Proofs.YtmfbaijbigodkaaGreatDoor
open Go.ChangeShapes Go.WideShapes Go.ChangeAt Go.RowKit
set_option linter.unusedVariables false

/-- three new blocks more -/
theorem Own.add3 {w0 w w' : World} {S0 : List Nat} {L : List Thing} (h : Own w0 S0 w L) (hb : Below w.heap.size w w') {g1 g2 g3 : Nat} {t1 t2 t3 : TypeId} {c1 c2 c3 : Array Value} (h1 : BlockIs w' g1 t1 c1) (h2 : BlockIs w' g2 t2 c2) (h3 : BlockIs w' g3 t3 c3)
    (e1 : w.heap.size ≤ g1) (e2 : w.heap.size ≤ g2) (e3 : w.heap.size ≤ g3) (n1 : g1 ≠ g2) (n2 : g1 ≠ g3) (n3 : g2 ≠ g3) : Own w0 S0 w' (L ++ [Thing.block g1 t1 c1, Thing.block g2 t2 c2, Thing.block g3 t3 c3]) := by
  obtain ⟨own, ho⟩ := h.has
  have hs := h.out.size
  refine ⟨h.out.later hb, fun k => if k < w.heap.size then own k else if k = g1 then L.length else if k = g2 then L.length + 1 else L.length + 2, fun i t hi => ?_⟩
  rcases Nat.lt_or_ge i L.length with hl | hl
  · rw [List.getElem?_append_left hl] at hi
    obtain ⟨S, a, b⟩ := ho i t hi
    exact ⟨S, t.later a hb, fun k hk => ⟨(if_pos (t.lt a k hk)).trans (b k hk).1, (b k hk).2⟩⟩
  · rw [List.getElem?_append_right hl] at hi
    obtain ⟨d, rfl⟩ : ∃ d, i = L.length + d := ⟨i - L.length, by omega⟩
    rw [Nat.add_sub_cancel_left] at hi
    match d, hi with
    | 0, hi =>
      simp only [List.getElem?_cons_zero, Option.some.injEq] at hi
      subst hi
      exact ⟨[g1], ⟨h1, rfl⟩, fun k hk => by
        rw [List.mem_singleton.1 hk]
        exact ⟨by dsimp only; rw [if_neg (by omega), if_pos rfl]; rfl, Or.inr (by omega)⟩⟩
    | 1, hi =>
      simp only [List.getElem?_cons_succ, List.getElem?_cons_zero, Option.some.injEq] at hi
      subst hi
      exact ⟨[g2], ⟨h2, rfl⟩, fun k hk => by
        rw [List.mem_singleton.1 hk]
        exact ⟨by dsimp only; rw [if_neg (by omega), if_neg (by omega), if_pos rfl], Or.inr (by omega)⟩⟩
    | 2, hi =>
      simp only [List.getElem?_cons_succ, List.getElem?_cons_zero, Option.some.injEq] at hi
      subst hi
      exact ⟨[g3], ⟨h3, rfl⟩, fun k hk => by
        rw [List.mem_singleton.1 hk]
        exact ⟨by dsimp only; rw [if_neg (by omega), if_neg (by omega), if_neg (by omega)], Or.inr (by omega)⟩⟩
    | d + 3, hi => simp at hi
/-- some of them, in another order -/
theorem Own.pickf {w0 w : World} {S0 : List Nat} {L L' : List Thing} (h : Own w0 S0 w L) (f g : Nat → Nat) (hg : ∀ i, i < L'.length → g (f i) = i) (hL : ∀ (i : Nat) t, L'[i]? = some t → L[f i]? = some t) : Own w0 S0 w L' := by
  obtain ⟨own, ho⟩ := h.has
  refine ⟨h.out, fun k => g (own k), fun i t hi => ?_⟩
  obtain ⟨S, a, b⟩ := ho (f i) t (hL i t hi)
  exact ⟨S, a, fun k hk => ⟨by show g (own k) = i; rw [(b k hk).1]; exact hg i (List.getElem?_eq_some_iff.1 hi).1, (b k hk).2⟩⟩
theorem takes_app (A B : List Frm) : ∀ s : EnS, s.takes (A ++ B) = if (s.takes A).1 = 0 then (s.takes A).2.takes B else s.takes A := by
  induction A with
  | nil => intro s; simp [EnS.takes]
  | cons f A ih =>
    intro s
    rw [List.cons_append, EnS.takes, EnS.takes]
    by_cases h : s.take1E f = 0
    · rw [if_pos h, if_pos h, ih]
    · rw [if_neg h, if_neg h, if_neg h]
theorem takes_one (s : EnS) (f : Frm) : s.takes [f] = (s.take1E f, s.take1 f) := by
  rw [EnS.takes]
  by_cases h : s.take1E f = 0
  · rw [if_pos h, h]; rfl
  · rw [if_neg h]
theorem takes_succ {s : EnS} {L : List Frm} {i : Nat} (h : i < L.length) (h0 : (s.takes (L.take i)).1 = 0) : s.takes (L.take (i + 1)) = ((s.takes (L.take i)).2.take1E L[i], (s.takes (L.take i)).2.take1 L[i]) := by
  rw [List.take_succ_eq_append_getElem h, takes_app, if_pos h0, takes_one]
theorem takes_stop {s : EnS} {L : List Frm} {i : Nat} (h0 : (s.takes (L.take i)).1 ≠ 0) : (s.takes L).1 = (s.takes (L.take i)).1 := by
  have e : s.takes L = s.takes (L.take i ++ L.drop i) := by rw [List.take_append_drop]
  rw [e, takes_app, if_neg h0]
theorem take1_made (s : EnS) (f : Frm) : (s.take1 f).made = s.made := by
  unfold EnS.take1
  repeat' split
  all_goals rfl
theorem takes_made (L : List Frm) : ∀ s : EnS, (s.takes L).2.made = s.made := by
  induction L with
  | nil => intro s; rfl
  | cons f r ih =>
    intro s
    rw [EnS.takes]
    split
    · rw [ih, take1_made]
    · exact take1_made s f
theorem FrmsIn.agg_at {w : World} {A : Option Addr} {n c : Nat} {Ms : List FrmV} (h : FrmsIn w (.slice A n c) Ms) (hn : Ms.length = n) {i : Nat} (hi : i < n) : ∃ b off, A = some ⟨b, off, none⟩ ∧ b < w.heap.size ∧ ∀ w', Since w w' → w'.cell? ⟨b, off + i * 3, none⟩ = some (.int .i64 (Ms[i]'(by omega)).f.kind) ∧ w'.cell? ⟨b, off + i * 3 + 1, none⟩ = some (.slice (Ms[i]'(by omega)).A (Ms[i]'(by omega)).f.nums.length (Ms[i]'(by omega)).cap) ∧ w'.cell? ⟨b, off + i * 3 + 2, none⟩ = some (.string (Ms[i]'(by omega)).f.data) := by
  have hi' : i < Ms.length := by omega
  obtain ⟨b, off, hA, hlt, hc⟩ := h.rd.frm hi'
  refine ⟨b, off, hA, hlt, fun w' hw => ?_⟩
  have := hc w' hw i hi'
  exact this
theorem openL_few (b : List UInt8) (next : Int) : (openL b next).length ≤ 12 := by
  unfold openL
  split
  · unfold openF
    cases hr : rdFs b ((bat b 0).toNat + 1) b.length with
    | none => simp
    | some p =>
      obtain ⟨L, k⟩ := p
      simp only
      split
      · simp
      · rename_i hx
        simp only [Option.getD_some]
        omega
  · simp
set_option maxHeartbeats 3200000 in
set_option maxRecDepth 100000 in
theorem etake (g : Nat) (s : EnS) (b : ByteArray) (w : World) (S : List Nat) (h : (endT g s).is w S) (hK : KTab w) (hC : CTab w) (h1000 : s.made.length ≤ 1000) (hz : b.size ≤ 9223372036854775000) :
    Calls Tryz.prog 17 #[.pointer (some ⟨g, 0, none⟩), .string b] w fun e w' => e = .returned (errV (s.takeE b.data.toList)) ∧ Leaves w w' S (endT g (s.take b.data.toList)) := by
  have H0 := Lib.hid h
  obtain ⟨p, hp⟩ := endT_open h
  have H := Lib.hid hp
  have HK := Lib.hid hK
  have HC := Lib.hid hC
  have HN := Lib.hid (fun (X : World) (hX : Since w X) => enext g s X S ((endT g s).later h hX))
  have HPS := Lib.hid (fun (X : World) (hX : Since w X) (z : Int) => pkparse b z X (by omega) (hK.later hX) (hC.later hX))
  obtain ⟨l, hl⟩ : ∃ l, b.data.toList = l := ⟨_, rfl⟩
  rw [hl] at HPS
  obtain ⟨RE, hRE⟩ : ∃ E, s.takeE b.data.toList = E := ⟨_, rfl⟩
  obtain ⟨RS, hRS⟩ : ∃ E, s.take b.data.toList = E := ⟨_, rfl⟩
  rw [hRE, hRS]
  rw [hl] at hRE hRS
  obtain ⟨nx, hnx⟩ : ∃ n, nextN s.came = n := ⟨_, rfl⟩
  have hE1 : Hid (openE l nx ≠ 0 → RE = openE l nx ∧ RS = s) := Lib.hid (fun h0 => ⟨by rw [← hRE]; unfold EnS.takeE; rw [hnx, if_neg h0], by rw [← hRS]; unfold EnS.take; rw [hnx, if_neg h0]⟩)
  have hE0 : Hid (openE l nx = 0 → RE = s.pktE (openN l nx) (openL l nx) ∧ RS = s.pkt (openN l nx) (openL l nx)) := Lib.hid (fun h0 => ⟨by rw [← hRE]; unfold EnS.takeE; rw [hnx, if_pos h0], by rw [← hRS]; unfold EnS.take; rw [hnx, if_pos h0]⟩)
  have HFO := Lib.hid (openL_ok l nx)
  have HFW := Lib.hid (openL_few l nx)
  rw [hnx] at HN
  have lg := hp.bg.lt
  clear h hp hK hC hl hRE hRS hnx
  go_enter Tryz.func17, Tryz.ntmps17
  trace "A"; go_wp2_with (go_at_call 54; refine (HN.out _ (by refine Since.out ?_; repeat (first | with_reducible assumption | with_reducible exact Since.refl _ | with_reducible refine Since.later ?_ (by with_reducible assumption) | with_reducible refine Since.only ?_ (by with_reducible assumption) (by first | assumption | omega | (simp; done) | (simp; omega)) | with_reducible refine Since.alloc ?_ _ | with_reducible refine Since.drewN ?_ _ | with_reducible refine Since.drew ?_ | with_reducible refine Since.set ?_ (by first | assumption | omega | (simp; done) | (simp; omega)) _))).mono ?_; rintro e w1 ⟨rfl, rfl⟩)
  refine (HPS.out _ (by refine Since.out ?_; repeat (first | with_reducible assumption | with_reducible exact Since.refl _ | with_reducible refine Since.later ?_ (by with_reducible assumption) | with_reducible refine Since.only ?_ (by with_reducible assumption) (by first | assumption | omega | (simp; done) | (simp; omega)) | with_reducible refine Since.alloc ?_ _ | with_reducible refine Since.drewN ?_ _ | with_reducible refine Since.drew ?_ | with_reducible refine Since.set ?_ (by first | assumption | omega | (simp; done) | (simp; omega)) _)) nx).mono ?_
  rintro e w1 ⟨A1, n1, c1, Ms, rfl, hb1, hf1, hn1, hm1⟩
  have hs1 : Since w w1 := hb1
  have HF1 := Lib.hid hf1
  have HM1 := Lib.hid hm1
  clear hf1 hm1 hb1 HPS HN
  by_cases hE : openE l nx = 0
  case neg =>
    have HH := Lib.hid (hE1.out hE)
    rw [errV_pos hE]
    have HEP := Lib.hid (errV_pos hE)
    obtain ⟨ee, hee⟩ : ∃ e, openE l nx = e := ⟨_, rfl⟩
    rw [hee] at HH HEP
    rw [hee]
    clear hE hee
    trace "B"; go_wp2_with fail
    go_ret
    rw [HH.out.1, HH.out.2, HEP.out]
    exact ⟨rfl, Leaves.same H0.out hs1⟩
  have HH := Lib.hid (hE0.out hE)
  rw [hE, errV_zero]
  clear hE
  obtain ⟨n, hn⟩ : ∃ n, openN l nx = n := ⟨_, rfl⟩
  obtain ⟨L, hL⟩ : ∃ L, openL l nx = L := ⟨_, rfl⟩
  rw [hn, hL] at HH
  rw [hL] at HM1 HFO HFW
  rw [hn]
  have hn12 : n1 ≤ 12 := by
    have h1 := congrArg List.length HM1.out
    rw [List.length_map, hn1] at h1
    have := HFW.out
    omega
  clear hn hL
  obtain ⟨c64, lx1⟩ : w1.cell? ⟨g, 64, none⟩ = some p.cv ∧ g < w1.heap.size := ⟨hs1.cell H.out.bg.lt H.out.c64, Nat.lt_of_lt_of_le H.out.bg.lt hs1.size⟩
  obtain ⟨Ac, cc, hcv, -, -, -⟩ := H.out.lc.shape
  rw [List.length_map] at hcv
  rw [hcv] at c64
  have HRC : Hid (Rd w 2 (.slice Ac s.came.length cc) (s.came.map rngRow)) := Lib.hid (by rw [← hcv]; exact Rd.of_lst H.out.lc)
  have HCV := Lib.hid hcv
  have HCM := Lib.hid H.out.ok.cm
  clear hcv
  trace "C"; go_wp2_with fail
  refine (rin_any Ac s.came.length cc s.came n _ rfl (HRC.out.later hs1)).mono ?_
  rintro e w2 ⟨rfl, hb2⟩
  have hs2 : Since w w2 := hs1.later hb2
  have HF2 := Lib.hid (HF1.out.later hb2)
  clear hb2 c64 lx1
  cases hin : inB s.came n with
  | true =>
    have HR : Hid (RE = 0 ∧ RS = s) := Lib.hid ⟨by rw [HH.out.1]; unfold EnS.pktE; rw [if_pos hin], by rw [HH.out.2]; unfold EnS.pkt; rw [if_pos hin]⟩
    clear hin
    trace "D"; go_wp2_with fail
    go_ret
    rw [HR.out.1, HR.out.2, errV_zero]
    exact ⟨rfl, Leaves.same H0.out hs2⟩
  | false =>
    have HR : Hid (RE = (if (s.takes L).1 = 0 then addE s.came n else (s.takes L).1) ∧ RS = if (s.takes L).1 = 0 then (if addE s.came n = 0 then { (s.takes L).2 with came := addL s.came n } else s) else s) := Lib.hid ⟨by rw [HH.out.1]; unfold EnS.pktE; rw [if_neg (by rw [hin]; simp)], by rw [HH.out.2]; unfold EnS.pkt; rw [if_neg (by rw [hin]; simp)]⟩
    clear hin
    have HOW := Lib.hid (eown g s p w2 S (H.out.later hs2))
    trace "E"; go_wp2_with fail
    refine HOW.out.mono ?_
    rintro e w3 ⟨gi', gl', rfl, hbx, hbi, hbl, hgi, hgl, hb3⟩
    have hs3 : Since w w3 := hs2.later hb3
    have hb23 : Since w2 w3 := hb3
    have HE3 : Hid (EnW w3 w2.heap.size gi' gl' p.mv p.cv s) := Lib.hid ⟨hbx, hbi, hbl⟩
    have hg2 := hs2.size
    have HO3 := Lib.hid (H.out.own.add3 hs3 hbx hbi hbl hg2 (by omega) (by omega) (HE3.out.ne.1) (HE3.out.ne.2.1) (HE3.out.ne.2.2))
    clear hbx hbi hbl hb3 HOW
    obtain ⟨gx, hgx⟩ : ∃ gx, w2.heap.size = gx := ⟨_, rfl⟩
    rw [hgx] at HE3 HO3 hgi hgl hg2
    rw [hgx]
    have HX2 := Lib.hid hgx
    have hgi2 := hgi
    have hgl2 := hgl
    clear hgx
    trace "F"; go_wp2_with fail
    trace "G"; go_loopw [35] (fun s35 wr => ∃ i : Nat, s35 = .int .i64 i ∧ i ≤ n1 ∧ (s.takes (L.take i)).1 = 0 ∧ EnW wr gx gi' gl' p.mv p.cv (s.takes (L.take i)).2 ∧ Out w3 wr [gx, gi', gl']) (fun s35 _ => n1 - (intOf s35).toNat)
    case atStart => exact ⟨0, rfl, Nat.zero_le _, by rw [List.take_zero]; rfl, by rw [List.take_zero]; exact HE3.out, Out.refl _ _⟩
    case round =>
      obtain ⟨i, rfl, hi, hz0, hew, hou⟩ := hrel
      have hs2r : Since w2 wr := hb23.out' hou (fun k hk => by simp at hk; have := HX2.out; omega)
      have hsr : Since w wr := hs2.later hs2r
      have HFR := Lib.hid (HF2.out.later hs2r)
      have HEW := Lib.hid hew
      have HOU := Lib.hid hou
      have HZ0 := Lib.hid hz0
      have hLl : L.length = n1 := by rw [← HM1.out, List.length_map]; exact hn1
      clear hew hou hz0
      by_cases hlt : i < n1
      case neg =>
        obtain rfl : i = n1 := by omega
        have hlt' : decide ((i : Int) < (i : Int)) = false := by simp
        have d64 : wr.cell? ⟨g, 64, none⟩ = some (.slice Ac s.came.length cc) := by rw [← HCV.out]; exact hsr.cell H.out.bg.lt H.out.c64
        have lxr : g < wr.heap.size := Nat.lt_of_lt_of_le H.out.bg.lt hsr.size
        have hLT : L.take i = L := by rw [← hLl, List.take_length]
        rw [hLT] at HZ0 HEW
        have HR2 : Hid (RE = addE s.came n ∧ RS = if addE s.came n = 0 then { (s.takes L).2 with came := addL s.came n } else s) := Lib.hid ⟨by rw [HR.out.1, if_pos HZ0.out], by rw [HR.out.2, if_pos HZ0.out]⟩
        have hb30 := rngE_ok HCM.out
        have HAD := Lib.hid (radd_any Ac s.came.length cc s.came n wr rfl (fun r hr => by obtain ⟨⟨a1, a2⟩, b1, b2⟩ := hb30 r hr; unfold okI; omega) (HRC.out.later hsr))
        clear hLT hb30
        trace "H"; go_wp2_with fail
        refine HAD.out.mono ?_
        rintro e w5 ⟨A5, c5, rfl, hb5, hl5, hk5⟩
        have hs5 : Since w w5 := hsr.later hb5
        have HL5 := Lib.hid hl5
        have HK5 := Lib.hid hk5
        have HB5 : Hid (Since wr w5) := Lib.hid hb5
        clear hl5 hk5 hb5 HAD d64
        by_cases hA0 : addE s.came n = 0
        case neg =>
          have HH2 : Hid (RE = addE s.came n ∧ RS = s) := Lib.hid ⟨HR2.out.1, by rw [HR2.out.2, if_neg hA0]⟩
          rw [errV_pos hA0]
          have HEP := Lib.hid (errV_pos hA0)
          obtain ⟨ee, hee⟩ : ∃ e, addE s.came n = e := ⟨_, rfl⟩
          rw [hee] at HH2 HEP
          rw [hee]
          clear hA0 hee
          trace "J"; go_wp2_with fail
          go_ret
          rw [HH2.out.1, HH2.out.2, HEP.out]
          exact ⟨rfl, Leaves.same H0.out hs5⟩
        have HH2 : Hid (RE = 0 ∧ RS = { (s.takes L).2 with came := addL s.came n }) := Lib.hid ⟨by rw [HR2.out.1, hA0], by rw [HR2.out.2, if_pos hA0]⟩
        have hok2 : EnOk (s.takes L).2 := H.out.ok.takes HFO.out
        have hmd2 : (s.takes L).2.made = s.made := takes_made _ _
        obtain ⟨s2, hs2e⟩ : ∃ x, (s.takes L).2 = x := ⟨_, rfl⟩
        rw [hs2e] at hok2 hmd2 HEW HH2
        obtain ⟨cn, hcn⟩ : ∃ x, addL s.came n = x := ⟨_, rfl⟩
        have hcok : rngE cn = 0 := by rw [← hcn]; exact (addL_ok HCM.out hA0).1
        rw [hcn] at HL5 HH2
        rw [hcn]
        have HOK2 := Lib.hid hok2
        have HMD2 := Lib.hid hmd2
        have HOKF : Hid (EnOk { s2 with came := cn }) := Lib.hid ⟨hok2.dz, hok2.tl, hok2.my, hok2.md, hok2.kn, hcok, hok2.ml, hok2.tt, hok2.cr, hok2.rt, hok2.mc⟩
        obtain ⟨cvn, hcvn⟩ : ∃ v, Value.slice A5 cn.length c5 = v := ⟨_, rfl⟩
        rw [hcvn] at HL5
        have hone : cvn.oneCell' = true := by rw [← hcvn]; rfl
        have HKV : Hid (∀ k, k ∈ blocks cvn → wr.heap.size ≤ k) := Lib.hid (fun k hk => HK5.out k (by rw [← hcvn] at hk; exact blocks_any A5 _ _ _ _ ▸ hk))
        obtain ⟨Amv, cmv, hmv, -, -, -⟩ := H.out.lm.shape
        -- what lies where
        obtain ⟨parts, hparts⟩ : ∃ x, enParts g s p = x := ⟨_, rfl⟩
        rw [hparts] at HO3
        have HOr : Hid (Own w S wr (parts ++ [Thing.block gx 83 (enCells s2 p.mv p.cv gi' gl').toArray, Thing.block gi' 146 (strCells s2.M s2.t), Thing.block gl' 143 (credCells s2.W s2.L s2.C s2.R)])) := Lib.hid (by
          refine HO3.out.chg HOU.out (fun i => parts.length ≤ i) (fun k hk => ?_) (fun i t hi => ?_)
          · simp at hk
            rcases hk with rfl | rfl | rfl
            · exact ⟨parts.length, _, _, by rw [List.getElem?_append_right (Nat.le_refl _), Nat.sub_self]; rfl, Nat.le_refl _⟩
            · exact ⟨parts.length + 1, _, _, by rw [List.getElem?_append_right (by omega), Nat.add_sub_cancel_left]; rfl, by omega⟩
            · exact ⟨parts.length + 2, _, _, by rw [List.getElem?_append_right (by omega), Nat.add_sub_cancel_left]; rfl, by omega⟩
          · rcases Nat.lt_or_ge i parts.length with h1 | h1
            · left
              rw [List.getElem?_append_left h1] at hi ⊢
              exact ⟨by omega, hi⟩
            · right
              obtain ⟨d, rfl⟩ : ∃ d, i = parts.length + d := ⟨i - parts.length, by omega⟩
              rw [List.getElem?_append_right (by omega), Nat.add_sub_cancel_left] at hi
              rw [List.getElem?_append_right (by omega), Nat.add_sub_cancel_left]
              match d, hi with
              | 0, hi => simp at hi; subst hi; exact ⟨_, _, _, _, rfl, rfl, HEW.out.bx⟩
              | 1, hi => simp at hi; subst hi; exact ⟨_, _, _, _, rfl, rfl, HEW.out.bi⟩
              | 2, hi => simp at hi; subst hi; exact ⟨_, _, _, _, rfl, rfl, HEW.out.bl⟩
              | d + 3, hi => simp at hi)
        have HO5 := Lib.hid (HOr.out.add HB5.out (S := blocks cvn) (t := Thing.lst 101 2 cvn (cn.map rngRow)) ⟨HL5.out, rfl⟩ HKV.out)
        have hbx5 := HEW.out.bx.later HB5.out
        have x64 : w5.cell? ⟨gx, 64, none⟩ = some p.cv := (hbx5.cell 64).trans (enCells_tail _ _ _ _ hok2.tl 3)
        have fx := hbx5.free
        have lx := hbx5.lt
        have hbg5 := H.out.bg.later hs5
        have lg5 := hbg5.lt
        have hgx : g ≠ gx := by have := H.out.bg.lt; omega
        have HBX6 : Hid (BlockIs (w5.setCell ⟨gx, 64, none⟩ cvn) gx 83 (enCells s2 p.mv cvn gi' gl').toArray) := Lib.hid (by
          have h1 := hbx5.put 64 cvn
          rw [enCells_64 _ _ _ _ hok2.tl] at h1
          exact h1)
        have HBG6 : Hid (BlockIs (w5.setCell ⟨gx, 64, none⟩ cvn) g 83 (enCells s p.mv p.cv p.gi p.gl).toArray) := Lib.hid (hbg5.far hgx _)
        obtain ⟨cs, hcs⟩ : ∃ cs, enCells s2 p.mv cvn gi' gl' = cs := ⟨_, rfl⟩
        have hlen : cs.length = 67 := by rw [← hcs]; exact enCells_len _ _ _ _ hok2.tl
        have hlen0 : (enCells s p.mv p.cv p.gi p.gl).length = 67 := enCells_len _ _ _ _ H.out.ok.tl
        have HO9 : Hid (∀ v ∈ cs, v.oneCell' = true) := Lib.hid (by rw [← hcs]; exact enCells_one s2 (by rw [hmv]; rfl) hone gi' gl')
        have HR6 : Hid ((w5.setCell ⟨gx, 64, none⟩ cvn).rangeAt gx 0 cs) := Lib.hid (by rw [← hcs]; have := HBX6.out.range; simpa using this)
        have HI6 : Hid ((Tryz.prog.info? 83).map (·.size) = some cs.length) := Lib.hid (by rw [hlen]; kernel_rfl)
        have HT6 : Hid ((w5.setCell ⟨gx, 64, none⟩ cvn).there g 0 cs.toArray.size) := Lib.hid (by
          have h1 := HBG6.out.there
          rw [List.size_toArray, hlen0] at h1
          rw [List.size_toArray, hlen]; exact h1)
        have HL9 : Hid (cs.length = (enCells s p.mv p.cv p.gi p.gl).toArray.size) := Lib.hid (by rw [List.size_toArray, hlen, hlen0])
        have HCS := Lib.hid hcs
        have HPT := Lib.hid hparts
        rw [hA0, errV_zero]
        subst hcvn
        clear hA0 hok2 hmd2 hs2e hcn hcok hone hmv hparts hbx5 hbg5 hlen hlen0 hcs
        trace "K"; go_wp2_with (first | (refine wpList_load_mid rfl 83 (.tmp 65) rfl gx 0 (by go_simp) cs _ HR6.out Tryz.underlying83 rfl HI6.out ?_) | (refine wpList_store_mid rfl 83 (.tmp 67) (.tmp 66) rfl g 0 cs.toArray (by go_simp) (by go_simp) HT6.out (by rw [HI6.out, List.size_toArray]) (all_oneCell_toArray HO9.out) ?_))
        go_ret
        rw [HH2.out.1, HH2.out.2, errV_zero]
        refine ⟨rfl, endT_close (p := ⟨gi', gl', p.mv, .slice A5 cn.length c5, p.vs⟩) HOKF.out (by show p.vs.length = s2.made.length; rw [HMD2.out]; exact H.out.len) ?_⟩
        have hN : parts.length = 5 + (inner p.vs s.made).length := by rw [← HPT.out]; unfold enParts; simp; omega
        have hi0 : (parts ++ [Thing.block gx 83 (enCells s2 p.mv p.cv gi' gl').toArray, Thing.block gi' 146 (strCells s2.M s2.t), Thing.block gl' 143 (credCells s2.W s2.L s2.C s2.R)] ++ [Thing.lst 101 2 (.slice A5 cn.length c5) (cn.map rngRow)])[parts.length]? = some (Thing.block gx 83 (enCells s2 p.mv p.cv gi' gl').toArray) := by
          rw [List.append_assoc, List.getElem?_append_right (Nat.le_refl _), Nat.sub_self]; rfl
        have o6 := HO5.out.put parts.length hi0 64 (.slice A5 cn.length c5)
        obtain ⟨L6, hL6⟩ : ∃ L6, (parts ++ [Thing.block gx 83 (enCells s2 p.mv p.cv gi' gl').toArray, Thing.block gi' 146 (strCells s2.M s2.t), Thing.block gl' 143 (credCells s2.W s2.L s2.C s2.R)] ++ [Thing.lst 101 2 (.slice A5 cn.length c5) (cn.map rngRow)]).set parts.length (Thing.block gx 83 ((enCells s2 p.mv p.cv gi' gl').toArray.setIfInBounds 64 (.slice A5 cn.length c5))) = L6 := ⟨_, rfl⟩
        rw [hL6] at o6
        have hg6 : L6[0]? = some (Thing.block g 83 (enCells s p.mv p.cv p.gi p.gl).toArray) := by
          rw [← hL6, List.getElem?_set_ne (by omega), ← HPT.out]; rfl
        have o7 := o6.chg1 (cs' := cs.toArray) 0 hg6 (HBG6.out.puts HL9.out) ((Out.refl _ _).setCells (Or.inl (by simp)) cs 0)
        refine Own.pickf o7 (fun i => if i = 1 then parts.length + 1 else if i = 2 then parts.length + 2 else if i = 4 then parts.length + 3 else i) (fun i => if i = parts.length + 1 then 1 else if i = parts.length + 2 then 2 else if i = parts.length + 3 then 4 else i) (fun i hi => ?_) (fun i t hi => ?_)
        · have hlen9 : (enParts g { s2 with came := cn } ⟨gi', gl', p.mv, .slice A5 cn.length c5, p.vs⟩).length = parts.length := by
            rw [hN]; unfold enParts; simp only [List.length_cons, HMD2.out]; omega
          rw [hlen9] at hi
          by_cases a1 : i = 1
          · subst a1; simp
          · by_cases a2 : i = 2
            · subst a2; simp
            · by_cases a4 : i = 4
              · subst a4; simp
              · rw [if_neg a1, if_neg a2, if_neg a4, if_neg (by omega), if_neg (by omega), if_neg (by omega)]
        · have hbk : ∀ d, L6[parts.length + 1 + d]? = ([Thing.block gi' 146 (strCells s2.M s2.t), Thing.block gl' 143 (credCells s2.W s2.L s2.C s2.R), Thing.lst 101 2 (.slice A5 cn.length c5) (cn.map rngRow)])[d]? := fun d => by
            rw [← hL6, List.getElem?_set_ne (by omega), List.append_assoc, List.getElem?_append_right (by omega), show parts.length + 1 + d - parts.length = d + 1 by omega]
            rfl
          have hfr : ∀ d, d < parts.length → L6[d]? = parts[d]? := fun d hd => by
            rw [← hL6, List.getElem?_set_ne (by omega), List.append_assoc, List.getElem?_append_left hd]
          match i, hi with
          | 0, hi =>
            have h0 : 0 < L6.length := (List.getElem?_eq_some_iff.1 hg6).1
            show (L6.set 0 _)[0]? = some t
            rw [List.getElem?_set_self h0, ← HCS.out]
            exact hi
          | 1, hi =>
            show (L6.set 0 _)[parts.length + 1]? = some t
            rw [List.getElem?_set_ne (by omega)]
            exact (hbk 0).trans hi
          | 2, hi =>
            show (L6.set 0 _)[parts.length + 2]? = some t
            rw [List.getElem?_set_ne (by omega)]
            exact (hbk 1).trans hi
          | 3, hi =>
            show (L6.set 0 _)[3]? = some t
            rw [List.getElem?_set_ne (by omega), hfr 3 (by omega), ← HPT.out]
            exact hi
          | 4, hi =>
            show (L6.set 0 _)[parts.length + 3]? = some t
            rw [List.getElem?_set_ne (by omega)]
            exact (hbk 2).trans hi
          | d + 5, hi =>
            have hfe : (if d + 5 = 1 then parts.length + 1 else if d + 5 = 2 then parts.length + 2 else if d + 5 = 4 then parts.length + 3 else d + 5) = d + 5 := by rw [if_neg (by omega), if_neg (by omega), if_neg (by omega)]
            have hi' : (inner p.vs s.made)[d]? = some t := by rw [← HMD2.out]; exact hi
            have hd := (List.getElem?_eq_some_iff.1 hi').1
            show (L6.set 0 _)[if d + 5 = 1 then parts.length + 1 else if d + 5 = 2 then parts.length + 2 else if d + 5 = 4 then parts.length + 3 else d + 5]? = some t
            rw [hfe, List.getElem?_set_ne (by omega), hfr (d + 5) (by omega), ← HPT.out]
            exact hi'
      obtain ⟨bf, off, hA, hltb, hcf⟩ := HFR.out.agg_at hn1 hlt
      subst hA
      obtain ⟨f0, f1, f2⟩ := hcf wr (Since.refl wr)
      have hfin := HFR.out.each _ (List.getElem_mem (show i < Ms.length by omega))
      have hiL : i < L.length := by omega
      have hLi : L[i] = Ms[i].f := by
        have h1 : (Ms.map (·.f))[i]? = some Ms[i].f := by rw [List.getElem?_map, List.getElem?_eq_getElem]; rfl
        rw [HM1.out, List.getElem?_eq_getElem hiL] at h1
        exact Option.some.inj h1
      have hfr : frmE Ms[i].f = 0 := by rw [← hLi]; exact HFO.out _ (List.getElem_mem hiL)
      have HTS := Lib.hid (takes_succ hiL HZ0.out)
      rw [hLi] at HTS
      obtain ⟨q, hq⟩ : ∃ q, Ms[i] = q := ⟨_, rfl⟩
      rw [hq] at f0 f1 f2 hfin hfr HTS
      obtain ⟨si, hsi⟩ : ∃ x, (s.takes (L.take i)).2 = x := ⟨_, rfl⟩
      have hok : EnOk si := by rw [← hsi]; exact H.out.ok.takes (fun f hf => HFO.out f (List.mem_of_mem_take hf))
      have hmd : si.made = s.made := by rw [← hsi]; exact takes_made _ _
      rw [hsi] at HEW HTS
      have HT1 := Lib.hid (fun (X : World) (hX : Since wr X) => etake1 gx gi' gl' p.mv p.cv p.vs si q X (HEW.out.later hX) hok (by rw [hmd]; exact H.out.made.later (hsr.later hX)) (by rw [hmd]; exact h1000) (hfin.later hX) hfr)
      have hlt' : (i : Int) < (n1 : Int) := by omega
      clear hfin hfr hq hok hmd hLi hiL hcf hsi
      obtain ⟨⟨fk, fn, fd⟩, fA, fc⟩ := q
      dsimp only at f0 f1 f2 HT1 HTS
      trace "I"; go_wp2_with fail
      refine (HT1.out _ (by refine Since.out ?_; repeat (first | with_reducible assumption | with_reducible exact Since.refl _ | with_reducible refine Since.later ?_ (by with_reducible assumption) | with_reducible refine Since.only ?_ (by with_reducible assumption) (by first | assumption | omega | (simp; done) | (simp; omega)) | with_reducible refine Since.alloc ?_ _ | with_reducible refine Since.drewN ?_ _ | with_reducible refine Since.drew ?_ | with_reducible refine Since.set ?_ (by first | assumption | omega | (simp; done) | (simp; omega)) _))).mono ?_
      rintro e w5 ⟨rfl, hew5, hou5⟩
      have HEW5 := Lib.hid hew5
      have HOU5 := Lib.hid ((HOU.out.alloc _).trans hou5)
      have hs25 : Since w2 w5 := hb23.out' HOU5.out (fun k hk => by simp at hk; have := HX2.out; omega)
      have hs5 : Since w w5 := hs2.later hs25
      clear hew5 hou5
      by_cases hE5 : si.take1E ⟨fk, fn, fd⟩ = 0
      case neg =>
        have HH2 : Hid (RE = si.take1E ⟨fk, fn, fd⟩ ∧ RS = s) := Lib.hid (by
          have h1 : (s.takes L).1 = si.take1E ⟨fk, fn, fd⟩ := by rw [takes_stop (i := i + 1) (by rw [HTS.out]; exact hE5), HTS.out]
          rw [HR.out.1, HR.out.2, h1, if_neg hE5, if_neg hE5]
          exact ⟨rfl, rfl⟩)
        rw [errV_pos hE5]
        have HEP := Lib.hid (errV_pos hE5)
        obtain ⟨ee, hee⟩ : ∃ e, si.take1E ⟨fk, fn, fd⟩ = e := ⟨_, rfl⟩
        rw [hee] at HH2 HEP
        rw [hee]
        clear hE5 hee
        trace "L"; go_wp2_with fail
        go_ret
        rw [HH2.out.1, HH2.out.2, HEP.out]
        exact ⟨rfl, Leaves.same H0.out hs5⟩
      have HTS2 : Hid ((s.takes (L.take (i + 1))).1 = 0 ∧ (s.takes (L.take (i + 1))).2 = si.take1 ⟨fk, fn, fd⟩) := Lib.hid (by rw [HTS.out]; exact ⟨hE5, rfl⟩)
      rw [hE5, errV_zero]
      clear hE5
      trace "M"; go_wp2_with fail
      go_roundw
      case rel => exact ⟨i + 1, by go_num, by omega, HTS2.out.1, by rw [HTS2.out.2]; exact HEW5.out, HOU5.out⟩
      case measure => simp [intOf]; omega
end Go.Proofs.YtmfbaijbigodkaaGreatDoor

/-! slices.Delete of one element, over a slice of the call's own: laws on the cells. Condition: the slice is the call's own. -/
namespace Go.Proofs.YtmfbaijbigodkaaGreatDoor
open Go.ChangeShapes Go.WideShapes Go.ChangeAt Go.RowKit
set_option linter.unusedVariables false

/-- cells laid one behind the other -/
def putz (cs : Array Value) : Nat → List Value → Array Value
  | _, [] => cs
  | o, v :: r => putz (cs.setIfInBounds o v) (o + 1) r
theorem putz_size : ∀ (vs : List Value) (cs : Array Value) (o : Nat), (putz cs o vs).size = cs.size
  | [], cs, o => rfl
  | v :: r, cs, o => by unfold putz; rw [putz_size r]; simp
theorem putz_list : ∀ (vs : List Value) (cs : Array Value) (o : Nat), o + vs.length ≤ cs.size → (putz cs o vs).toList = cs.toList.take o ++ vs ++ cs.toList.drop (o + vs.length)
  | [], cs, o, h => by simp [putz]
  | v :: r, cs, o, h => by
    rw [List.length_cons] at h
    unfold putz
    rw [putz_list r (cs.setIfInBounds o v) (o + 1) (by simp; omega)]
    rw [Array.toList_setIfInBounds]
    have ho : o < cs.toList.length := by simp; omega
    rw [List.take_set, List.drop_set_of_lt (by omega)]
    have e1 : (cs.toList.take (o + 1)).set o v = cs.toList.take o ++ [v] := by
      rw [List.take_succ_eq_append_getElem ho, List.set_append_right _ _ (by rw [List.length_take]; omega), List.length_take, show o - min o cs.toList.length = 0 from by omega]
      rfl
    rw [e1, List.length_cons, show o + 1 + r.length = o + (r.length + 1) from by omega]
    simp
theorem BlockIs.putAll : ∀ (vs : List Value) {w : World} {g : Nat} {t : TypeId} {cs : Array Value} (h : BlockIs w g t cs) (o : Nat), BlockIs (w.setCells g o vs) g t (putz cs o vs)
  | [], _, _, _, _, h, _ => h
  | v :: r, w, g, t, cs, h, o => by
    unfold World.setCells putz
    exact BlockIs.putAll r (h.put o v) (o + 1)
theorem Out.putAll : ∀ (vs : List Value) (w : World) (g o : Nat), Out w (w.setCells g o vs) [g]
  | [], w, _, _ => Out.refl w _
  | v :: r, w, g, o => by
    unfold World.setCells
    exact ((Out.refl w [g]).put (p := ⟨g, o, none⟩) (Or.inl (by simp)) v).trans (Out.putAll r _ g (o + 1))
theorem run_clear1 {P : Program} (w : World) (t e ty : TypeId) (z : Value) (zs : List Value) (ht : P.underlying t = some (.slice e)) (hv : (zeroValue e).run P w = .ok z w) (hz : z.cells = zs.toArray) (h1 : ∀ u ∈ zs, u.oneCell' = true) (b o c n : Nat) (hn : n = 1)
    (hc : ∀ j, j < zs.length → (w.cell? ⟨b, o + j, none⟩).isSome = true) (hf : ∀ j, j < zs.length → w.frozen? ⟨b, o + j, none⟩ = false) :
    (Builtin.clear_ #[t] ty #[.slice (some ⟨b, o, none⟩) n c]).run P w = .ok (.tuple #[]) (w.setCells b o zs) := by
  subst hn
  have hzc : (Builtin.zeroCells z.cells 1).toList = zs := by
    rw [hz]
    simp [Builtin.zeroCells]
    apply List.ext_getElem
    · simp
    · intro i h1 h2
      simp at h1
      simp [Nat.mod_eq_of_lt h1, h1]
  have hst := run_storeCells_cells (P := P) b o zs 0 w (by simpa using hc) (by simpa using hf) h1
  simp only [Nat.add_zero] at hst
  simp [Builtin.clear_, run_underlying ht, hv, hzc, hst]

/-- what is left behind a deletion -/
theorem del_cells {E size : Nat} {w : World} {g cap : Nat} {es : List (List Value)} (h : Lst w E size (.slice (some ⟨g, 0, none⟩) es.length cap) es) {i : Nat} (hi : i < es.length) (hs : 0 < size) (zs : List Value) (hz : zs.length = size) :
    ∃ cur, BlockIs w g E cur ∧ cur.size = cap * size ∧ es.length ≤ cap ∧ cap ≤ maxLen ∧
      ((putz (putz cur (i * size) (flat (es.drop (i + 1)))) ((es.length - 1) * size) zs).toList.take ((es.length - 1) * size) = flat (es.take i ++ es.drop (i + 1))) := by
  rcases h.own.2 with ⟨h0, _⟩ | ⟨g', cap', cur, hv, _, hg, h1, h2, h3, h4⟩
  · cases h0
  simp only [Value.slice.injEq, Option.some.injEq, Addr.mk.injEq, and_true, true_and] at hv
  obtain ⟨rfl, rfl⟩ := hv
  refine ⟨cur, hg, h3, h1, h2, ?_⟩
  have hr : ∀ e ∈ es, e.length = size := fun e he => (h.rows e he).1
  have hdl : (flat (es.drop (i + 1))).length = (es.length - (i + 1)) * size := by
    rw [flat_length (fun e he => hr e (List.mem_of_mem_drop he)), List.length_drop]
  have hA : i * size + (es.length - (i + 1)) * size = (es.length - 1) * size := by rw [← Nat.add_mul]; congr 1; omega
  have hB : (es.length - 1) * size + size = es.length * size := by
    obtain ⟨m, hm⟩ : ∃ m, es.length = m + 1 := ⟨es.length - 1, by omega⟩
    rw [hm, Nat.add_sub_cancel, Nat.succ_mul]
  have hC : es.length * size ≤ cap * size := Nat.mul_le_mul_right _ h1
  have hle1 : i * size + (flat (es.drop (i + 1))).length ≤ cur.size := by rw [hdl, h3]; omega
  rw [putz_list zs _ _ (by rw [putz_size, hz, h3]; omega), putz_list _ cur _ hle1]
  have ht : cur.toList.take (i * size) = flat (es.take i) := by
    rw [← flat_take hr i, ← h4, List.take_take, Nat.min_eq_left (Nat.mul_le_mul_right _ (by omega))]
  rw [ht]
  have hl1 : (flat (es.take i) ++ flat (es.drop (i + 1))).length = (es.length - 1) * size := by
    rw [List.length_append, hdl, flat_length (fun e he => hr e (List.mem_of_mem_take he)), List.length_take, Nat.min_eq_left (by omega), hA]
  have hfl : flat (es.take i ++ es.drop (i + 1)) = flat (es.take i) ++ flat (es.drop (i + 1)) := by simp [flat]
  rw [hfl]
  generalize flat (es.take i) ++ flat (es.drop (i + 1)) = X at *
  rw [List.append_assoc, List.take_append_of_le_length (by rw [List.length_take, List.length_append, hl1]; omega), List.take_take, Nat.min_self, List.take_append_of_le_length (by omega), List.take_of_length_le (by omega)]
end Go.Proofs.YtmfbaijbigodkaaGreatDoor

/-! Package link: in plain words, and contracts of New, Count, Full, Who, is, Send, Twice. Condition: the block holds a link as New and the calls leave it. -/
namespace Go.Proofs.YtmfbaijbigodkaaGreatDoor
open Go.ChangeShapes Go.WideShapes Go.ChangeAt Go.RowKit
set_option linter.unusedVariables false

/-- a letter: to whom, and its bytes -/
structure Let where
  too : Int
  b : ByteArray
def letRow (d : Let) : List Value := [.int .i64 d.too, .string d.b]
def noLet : Let := ⟨0, ⟨#[]⟩⟩
theorem letRow_one (d : Let) : (letRow d).length = 2 ∧ ∀ u ∈ letRow d, u.oneCell' = true := ⟨rfl, by intro u hu; simp [letRow] at hu; rcases hu with rfl | rfl <;> rfl⟩
theorem Tryz.elLet : Elem Tryz.prog 166 170 2 24 := ⟨Tryz.underlying166, ⟨.agg #[.int .i64 0, .string ⟨#[]⟩], rfl, by kernel_rfl⟩, by decide, by decide⟩
theorem elem_of_let {L : List Let} {i : Nat} (h : i < L.length) : (L.map letRow)[i]? = some (letRow L[i]) := by simp [h]
/-- is there such a letter -/
def isB (L : List Let) (x : Int) : Bool := decide (0 ≤ x) && decide (x < (L.length : Int))
def whoB (x : Int) : Bool := decide (x = 0) || decide (x = 1)
theorem isB_iff {L : List Let} {x : Int} : isB L x = true ↔ 0 ≤ x ∧ x < L.length := by unfold isB; simp
def sendE (L : List Let) (too : Int) (b : ByteArray) : Int := if whoB too = true then (if L.length = 40 ∨ 200 < b.size then 4 else 0) else 1
def sendL (L : List Let) (too : Int) (b : ByteArray) : List Let := if sendE L too b = 0 then L ++ [⟨too, b⟩] else L
def giveE (L : List Let) (x : Int) : Int := if isB L x = true then 0 else 1
def giveD (L : List Let) (x : Int) : Let := if isB L x = true then L.getD x.toNat noLet else noLet
def giveL (L : List Let) (x : Int) : List Let := if isB L x = true then L.take x.toNat ++ L.drop (x.toNat + 1) else L
def twiceE (L : List Let) (x : Int) : Int := if isB L x = true then (if L.length = 40 then 4 else 0) else 1
def twiceL (L : List Let) (x : Int) : List Let := if twiceE L x = 0 then L ++ [L.getD x.toNat noLet] else L

/-- a link at g: its letters lie in the slice v -/
structure Kz (w : World) (g : Nat) (v : Value) (L : List Let) : Prop where
  bl : BlockIs w g 168 #[v]
  ls : Lst w 170 2 v (L.map letRow)
  few : L.length ≤ 40
theorem Kz.later {w w1 : World} {g : Nat} {v : Value} {L : List Let} (h : Kz w g v L) (hb : Below w.heap.size w w1) : Kz w1 g v L := ⟨h.bl.later hb, h.ls.later hb, h.few⟩
theorem Kz.kept {w w1 : World} {g : Nat} {v : Value} {L : List Let} {S : List Nat} (h : Kz w g v L) (hg : Out w w1 S) (h1 : ∀ k, k ∈ g :: blocks v → k ∉ S) : Kz w1 g v L :=
  ⟨hg.block' h.bl (h1 _ (by simp)), h.ls.kept hg (fun k hk => h1 k (by simp [hk])), h.few⟩
theorem Kz.lt {w : World} {g : Nat} {v : Value} {L : List Let} (h : Kz w g v L) : ∀ k, k ∈ g :: blocks v → k < w.heap.size := by
  intro k hk
  rcases List.mem_cons.1 hk with rfl | hk
  · exact h.bl.lt
  · exact h.ls.lt k hk
/-- what a call leaves: its blocks and what is new alone have changed -/
def KLeft (w w' : World) (g : Nat) (v : Value) (L : List Let) : Prop := ∃ v', Kz w' g v' L ∧ Out w w' (g :: blocks v) ∧ ∀ k, k ∈ blocks v' → k ∈ blocks v ∨ w.heap.size ≤ k
theorem KLeft.same {w w' : World} {g : Nat} {v : Value} {L : List Let} (h : Kz w g v L) (hb : Below w.heap.size w w') : KLeft w w' g v L := ⟨v, h.later hb, Out.of_below hb _, fun k hk => Or.inl hk⟩

theorem who_any (x : Int) (w : World) : Calls Tryz.prog 68 #[.int .i64 x] w fun e w' => e = .returned (.bool (whoB x)) ∧ w = w' := by
  unfold whoB
  by_cases h0 : x = 0
  · subst h0
    go_enter Tryz.func68, Tryz.ntmps68
    go_wp2
    go_ret
    exact ⟨rfl, rfl⟩
  · have a0 : (x == 0) = false := by simpa using h0
    have b0 : decide (x = 0) = false := by simpa using h0
    rw [b0, Bool.false_or]
    by_cases h1 : x = 1
    · subst h1
      clear h0 a0 b0
      go_enter Tryz.func68, Tryz.ntmps68
      go_wp2
      go_ret
      exact ⟨rfl, rfl⟩
    · have a1 : (x == 1) = false := by simpa using h1
      have b1 : decide (x = 1) = false := by simpa using h1
      rw [b1]
      clear h0 h1 b0 b1
      go_enter Tryz.func68, Tryz.ntmps68
      go_wp2
      go_ret
      exact ⟨rfl, rfl⟩
theorem knew (w : World) : Calls Tryz.prog 67 #[] w fun e w' => e = .returned (.pointer (some ⟨w.heap.size, 0, none⟩)) ∧ Kz w' w.heap.size (.slice none 0 0) [] ∧ Below w.heap.size w w' := by
  go_enter Tryz.func67, Tryz.ntmps67
  go_wp2
  go_ret
  exact ⟨rfl, ⟨BlockIs.fresh _ _ _, Lst.nil _ _ _, by simp⟩, (Below.refl _ _).alloc (Nat.le_refl _) _⟩
theorem kcount (g : Nat) (v : Value) (L : List Let) (w : World) (h : Kz w g v L) : Calls Tryz.prog 74 #[.pointer (some ⟨g, 0, none⟩)] w fun e w' => e = .returned (.int .i64 L.length) ∧ w = w' := by
  have c0 : w.cell? ⟨g, 0, none⟩ = some v := h.bl.cell 0
  obtain ⟨A, cap, hve, _, _, _⟩ := h.ls.shape
  rw [List.length_map] at hve
  subst hve
  clear h
  go_enter Tryz.func74, Tryz.ntmps74
  go_wp2
  go_ret
  exact ⟨rfl, rfl⟩
def fullB (L : List Let) : Bool := decide (L.length = 40)
theorem kfull (g : Nat) (v : Value) (L : List Let) (w : World) (h : Kz w g v L) : Calls Tryz.prog 69 #[.pointer (some ⟨g, 0, none⟩)] w fun e w' => e = .returned (.bool (fullB L)) ∧ w = w' := by
  have c0 : w.cell? ⟨g, 0, none⟩ = some v := h.bl.cell 0
  obtain ⟨A, cap, hve, _, _, _⟩ := h.ls.shape
  rw [List.length_map] at hve
  subst hve
  clear h
  have E : Hid (((L.length : Int) == 40) = fullB L) := Lib.hid (by
    unfold fullB
    by_cases h : L.length = 40
    · simp [h]
    · have h2 : ¬ (L.length : Int) = 40 := by omega
      simp [h, h2])
  go_enter Tryz.func69, Tryz.ntmps69
  go_wp2
  go_ret
  exact ⟨by rw [← E.out]; rfl, rfl⟩
theorem kis (g : Nat) (v : Value) (L : List Let) (x : Int) (w : World) (h : Kz w g v L) : Calls Tryz.prog 109 #[.pointer (some ⟨g, 0, none⟩), .int .i64 x] w fun e w' => e = .returned (.bool (isB L x)) ∧ w = w' := by
  have c0 : w.cell? ⟨g, 0, none⟩ = some v := h.bl.cell 0
  obtain ⟨A, cap, hve, _, _, _⟩ := h.ls.shape
  rw [List.length_map] at hve
  subst hve
  clear h
  unfold isB
  by_cases h0 : 0 ≤ x
  · have b0 : decide (0 ≤ x) = true := by simpa using h0
    rw [b0, Bool.true_and]
    clear b0
    go_enter Tryz.func109, Tryz.ntmps109
    go_wp2
    go_ret
    exact ⟨rfl, rfl⟩
  · have b0 : decide (0 ≤ x) = false := by simpa using h0
    rw [b0, Bool.false_and]
    go_enter Tryz.func109, Tryz.ntmps109
    go_wp2
    go_ret
    exact ⟨rfl, rfl⟩

/-- one letter more: the slice was grown, and stored -/
theorem kpush {w w5 : World} {g q cq : Nat} {v : Value} {L : List Let} (d : Let) (hb5 : BlockIs w5 g 168 #[v]) (hl5 : Lst w5 170 2 (.slice (some ⟨q, 0, none⟩) (L.length + 1) cq) (L.map letRow ++ [letRow d]))
    (hO5 : Out w w5 (g :: blocks v)) (hq : q ∈ blocks v ∨ w.heap.size ≤ q) (hlt : L.length < 40) : KLeft w (w5.setCell ⟨g, 0, none⟩ (.slice (some ⟨q, 0, none⟩) (L.length + 1) cq)) g v (L ++ [d]) := by
  have hqg : q ≠ g := fun e => by have := hl5.apart hb5 (by decide); rw [e] at this; simp [Value.ownBlock] at this
  refine ⟨.slice (some ⟨q, 0, none⟩) (L.length + 1) cq, ⟨hb5.put 0 _, ?_, by simp; omega⟩, hO5.put (p := ⟨g, 0, none⟩) (Or.inl (by simp)) _, fun k hk => ?_⟩
  · rw [List.map_append]
    exact hl5.kept (S := [g]) ((Out.refl w5 [g]).put (p := ⟨g, 0, none⟩) (Or.inl (by simp)) _) (fun k hk hm => by
      have hkq : q = k := by simpa [Value.ownBlock] using hk
      rw [List.mem_singleton.1 hm] at hkq
      exact hqg hkq)
  · have hkq : q = k := by simpa [Value.ownBlock] using hk
    rw [← hkq]
    exact hq

set_option maxHeartbeats 1600000 in
theorem ksend (g : Nat) (v : Value) (L : List Let) (x : Int) (b : ByteArray) (w : World) (h : Kz w g v L) (hb : b.size ≤ 9223372036854775807) :
    Calls Tryz.prog 70 #[.pointer (some ⟨g, 0, none⟩), .int .i64 x, .string b] w fun e w' => e = .returned (errV (sendE L x b)) ∧ KLeft w w' g v (sendL L x b) := by
  have H := Lib.hid h
  have c0 : w.cell? ⟨g, 0, none⟩ = some v := h.bl.cell 0
  have f0 := h.bl.free
  have lg := h.bl.lt
  obtain ⟨A, cap, hve, _, _, _⟩ := h.ls.shape
  rw [List.length_map] at hve
  subst hve
  have hfew := h.few
  clear h
  by_cases hw : whoB x = true
  case neg =>
    have hw' : whoB x = false := by simpa using hw
    have E : Hid (sendE L x b = 1) := Lib.hid (by unfold sendE; rw [if_neg hw])
    have EL : Hid (sendL L x b = L) := Lib.hid (by unfold sendL; rw [E.out, if_neg (by decide)])
    have HW := Lib.hid hw'
    clear hw hw'
    go_enter Tryz.func70, Tryz.ntmps70
    go_wp2_with (go_at_call 68; refine (who_any x _).mono ?_; rintro e w' ⟨rfl, rfl⟩; rw [HW.out])
    go_ret
    exact ⟨by rw [E.out]; rfl, by rw [EL.out]; exact KLeft.same H.out (Below.refl _ _)⟩
  have HW := Lib.hid hw
  clear hw
  by_cases hf : L.length = 40
  · have E : Hid (sendE L x b = 4) := Lib.hid (by unfold sendE; rw [if_pos HW.out, if_pos (Or.inl hf)])
    have EL : Hid (sendL L x b = L) := Lib.hid (by unfold sendL; rw [E.out, if_neg (by decide)])
    have HF : Hid (fullB L = true) := Lib.hid (by unfold fullB; simpa using hf)
    clear hf
    go_enter Tryz.func70, Tryz.ntmps70
    go_wp2_with (first | (go_at_call 68; refine (who_any x _).mono ?_; rintro e w' ⟨rfl, rfl⟩; rw [HW.out]) | (go_at_call 69; refine (kfull g _ L _ H.out).mono ?_; rintro e w' ⟨rfl, rfl⟩; rw [HF.out]))
    go_ret
    exact ⟨by rw [E.out]; rfl, by rw [EL.out]; exact KLeft.same H.out (Below.refl _ _)⟩
  have HF : Hid (fullB L = false) := Lib.hid (by unfold fullB; simpa using hf)
  by_cases h2 : 200 < b.size
  · have E : Hid (sendE L x b = 4) := Lib.hid (by unfold sendE; rw [if_pos HW.out, if_pos (Or.inr h2)])
    have EL : Hid (sendL L x b = L) := Lib.hid (by unfold sendL; rw [E.out, if_neg (by decide)])
    have h2' : (200 : Int) < (b.size : Int) := by omega
    clear hf
    go_enter Tryz.func70, Tryz.ntmps70
    go_wp2_with (first | (go_at_call 68; refine (who_any x _).mono ?_; rintro e w' ⟨rfl, rfl⟩; rw [HW.out]) | (go_at_call 69; refine (kfull g _ L _ H.out).mono ?_; rintro e w' ⟨rfl, rfl⟩; rw [HF.out]))
    go_ret
    exact ⟨by rw [E.out]; rfl, by rw [EL.out]; exact KLeft.same H.out (Below.refl _ _)⟩
  have E : Hid (sendE L x b = 0) := Lib.hid (by unfold sendE; rw [if_pos HW.out, if_neg (by omega)])
  have EL : Hid (sendL L x b = L ++ [⟨x, b⟩]) := Lib.hid (by unfold sendL; rw [E.out, if_pos rfl])
  have h2' : decide ((200 : Int) < (b.size : Int)) = false := by simp; omega
  have hml : (L.map letRow).length = L.length := List.length_map ..
  have hga := H.out.ls.apart H.out.bl (by decide)
  have HML := Lib.hid hml
  have HGA := Lib.hid hga
  have hlt : L.length < 40 := by omega
  clear hf hml hga
  go_enter Tryz.func70, Tryz.ntmps70
  go_wp2_with (first | (go_at_call 68; refine (who_any x _).mono ?_; rintro e w' ⟨rfl, rfl⟩; rw [HW.out]) | (go_at_call 69; refine (kfull g _ L _ H.out).mono ?_; rintro e w' ⟨rfl, rfl⟩; rw [HF.out]) | (at_builtin; refine wpList_push rfl _ _ 166 rfl 170 2 24 Tryz.elLet (.slice A L.length cap) (L.map letRow) rfl (H.out.ls.alloc _) w.heap.size 1 [.int .i64 x, .string b] rfl rfl (letRow_one ⟨x, b⟩).2 (BlockIs.fresh _ _ _) (by rw [HML.out]; omega) ?_; intro q cq w5 hl5 ho5 hq5 hlt5; have hb5 := ho5.block' (H.out.bl.alloc _) HGA.out; have f5 := hb5.free; have d5 : w5.cell? ⟨g, 0, none⟩ = some _ := hb5.cell 0; have l5 := hb5.lt))
  go_ret
  rw [HML.out] at hl5
  have hO5 : Out w w5 (g :: blocks (.slice A L.length cap)) := ((Out.refl w _).alloc _).then' ho5 (fun k hk => Or.inl (by simp [hk]))
  refine ⟨by rw [E.out]; rfl, ?_⟩
  rw [EL.out]
  exact kpush ⟨x, b⟩ hb5 hl5 hO5 (hq5.imp id (fun h => by simp at h; omega)) hlt

set_option maxHeartbeats 1600000 in
theorem ktwice (g : Nat) (v : Value) (L : List Let) (x : Int) (w : World) (h : Kz w g v L) :
    Calls Tryz.prog 73 #[.pointer (some ⟨g, 0, none⟩), .int .i64 x] w fun e w' => e = .returned (errV (twiceE L x)) ∧ KLeft w w' g v (twiceL L x) := by
  have H := Lib.hid h
  have c0 : w.cell? ⟨g, 0, none⟩ = some v := h.bl.cell 0
  have f0 := h.bl.free
  have lg := h.bl.lt
  obtain ⟨A, cap, hve, _, _, hA⟩ := h.ls.shape
  rw [List.length_map] at hve
  subst hve
  have hfew := h.few
  have HA := Lib.hid hA
  clear h hA
  by_cases hw : isB L x = true
  case neg =>
    have hw' : isB L x = false := by simpa using hw
    have E : Hid (twiceE L x = 1) := Lib.hid (by unfold twiceE; rw [if_neg hw])
    have EL : Hid (twiceL L x = L) := Lib.hid (by unfold twiceL; rw [E.out, if_neg (by decide)])
    have HW := Lib.hid hw'
    clear hw hw'
    go_enter Tryz.func73, Tryz.ntmps73
    go_wp2_with (go_at_call 109; refine (kis g _ L x _ H.out).mono ?_; rintro e w' ⟨rfl, rfl⟩; rw [HW.out])
    go_ret
    exact ⟨by rw [E.out]; rfl, by rw [EL.out]; exact KLeft.same H.out (Below.refl _ _)⟩
  have HW := Lib.hid hw
  obtain ⟨x0, x1⟩ := isB_iff.1 hw
  obtain ⟨m, rfl⟩ := Int.eq_ofNat_of_zero_le x0
  clear hw
  by_cases hf : L.length = 40
  · have E : Hid (twiceE L m = 4) := Lib.hid (by unfold twiceE; rw [if_pos HW.out, if_pos hf])
    have EL : Hid (twiceL L m = L) := Lib.hid (by unfold twiceL; rw [E.out, if_neg (by decide)])
    have HF : Hid (fullB L = true) := Lib.hid (by unfold fullB; simpa using hf)
    clear hf
    go_enter Tryz.func73, Tryz.ntmps73
    go_wp2_with (first | (go_at_call 109; refine (kis g _ L m _ H.out).mono ?_; rintro e w' ⟨rfl, rfl⟩; rw [HW.out]) | (go_at_call 69; refine (kfull g _ L _ H.out).mono ?_; rintro e w' ⟨rfl, rfl⟩; rw [HF.out]))
    go_ret
    exact ⟨by rw [E.out]; rfl, by rw [EL.out]; exact KLeft.same H.out (Below.refl _ _)⟩
  have HF : Hid (fullB L = false) := Lib.hid (by unfold fullB; simpa using hf)
  have E : Hid (twiceE L m = 0) := Lib.hid (by unfold twiceE; rw [if_pos HW.out, if_neg hf])
  have hml : m < L.length := by omega
  have EL : Hid (twiceL L m = L ++ [L[m]]) := Lib.hid (by unfold twiceL; rw [E.out, if_pos rfl]; simp [List.getD, List.getElem?_eq_getElem hml])
  rcases HA.out with ⟨_, h0, _⟩ | ⟨q, rfl⟩
  · have : L = [] := by simpa using h0
    subst this
    simp at hml
  have q0 : w.cell? ⟨q, m * 2, none⟩ = some (.int .i64 L[m].too) := H.out.ls.cell rfl (elem_of_let hml) (j := 0) rfl
  have q1 : w.cell? ⟨q, m * 2 + 1, none⟩ = some (.string L[m].b) := H.out.ls.cell rfl (elem_of_let hml) (j := 1) rfl
  have lq := H.out.ls.lt q (by simp [Value.ownBlock])
  have HD : Hid (L[m] = ⟨L[m].too, L[m].b⟩) := Lib.hid rfl
  generalize L[m] = d at *
  obtain ⟨dt, db⟩ := d
  have hmm : (L.map letRow).length = L.length := List.length_map ..
  have hga := H.out.ls.apart H.out.bl (by decide)
  have HML := Lib.hid hmm
  have HGA := Lib.hid hga
  have hlt : L.length < 40 := by omega
  have hmi : (m : Int) < (L.length : Int) := by omega
  clear hf hmm hga HD
  go_enter Tryz.func73, Tryz.ntmps73
  go_wp2_with (first | (go_at_call 109; refine (kis g _ L m _ H.out).mono ?_; rintro e w' ⟨rfl, rfl⟩; rw [HW.out]) | (go_at_call 69; refine (kfull g _ L _ H.out).mono ?_; rintro e w' ⟨rfl, rfl⟩; rw [HF.out]))
  go_region_law ((refine step_push rfl _ _ 166 rfl 170 2 24 Tryz.elLet (.slice (some ⟨q, 0, none⟩) L.length cap) (L.map letRow) rfl ?_ w.heap.size 1 [.int .i64 dt, .string db] rfl rfl (letRow_one ⟨dt, db⟩).2 ?_ ?_ ?_; (first | exact (H.out.ls.alloc _).drew | exact H.out.ls.alloc _); (exact BlockIs.fresh w _ _); (rw [HML.out]; omega); intro q5 cq w5 hl5 ho5 hq5 hlt5; have hb5 := ho5.block' (H.out.bl.alloc _) HGA.out; have f5 := hb5.free; have d5 : w5.cell? ⟨g, 0, none⟩ = some (.slice (some ⟨q, 0, none⟩) L.length cap) := hb5.cell 0; have l5 := hb5.lt))
  all_goals
    rw [HML.out] at hl5
    have hO5 : Out w w5 (g :: blocks (.slice (some ⟨q, 0, none⟩) L.length cap)) := by
      first
        | exact ((Out.refl w _).alloc _).then' ho5 (fun k hk => Or.inl (by simp at hk ⊢; simp [hk]))
        | exact (((Out.refl w _).alloc _).drew).then' ho5 (fun k hk => Or.inl (by simp at hk ⊢; simp [hk]))
    have hKP := kpush ⟨dt, db⟩ hb5 hl5 hO5 (hq5.imp id (fun h => by simp at h; omega)) hlt
    have HKP := Lib.hid hKP
    clear hKP hl5 ho5 hq5 hO5 d5
    go_wp2_with fail
    go_ret
    refine ⟨by rw [E.out]; rfl, ?_⟩
    rw [EL.out]
    first
      | exact HKP.out
      | (obtain ⟨v', hz, ho, hk⟩ := HKP.out; exact ⟨v', ⟨hz.bl, hz.ls.drewN 1, hz.few⟩, ho.drewN 1, hk⟩)
end Go.Proofs.YtmfbaijbigodkaaGreatDoor

/-! Package link: Give, Lose; slices.Delete of one letter. Condition: the block holds a link as New and the calls leave it. -/
namespace Go.Proofs.YtmfbaijbigodkaaGreatDoor
open Go.ChangeShapes Go.WideShapes Go.ChangeAt Go.RowKit
set_option linter.unusedVariables false

theorem Tryz.delLetsZero (w : World) : (zeroValue 170).run Tryz.prog w = .ok (.agg #[.int .i64 0, .string ⟨#[]⟩]) w := by kernel_rfl
set_option maxHeartbeats 3200000 in
theorem delLets (q cap : Nat) (L : List Let) (i : Nat) (hi : i < L.length) (hm : L.length ≤ 1000000) (w : World) (h : Lst w 170 2 (.slice (some ⟨q, 0, none⟩) L.length cap) (L.map letRow)) :
    Calls Tryz.prog 110 #[.slice (some ⟨q, 0, none⟩) L.length cap, .int .i64 i, .int .i64 (i + 1)] w fun e w' => e = .returned (.slice (some ⟨q, 0, none⟩) (L.length - 1) cap) ∧ Lst w' 170 2 (.slice (some ⟨q, 0, none⟩) (L.length - 1) cap) ((L.take i ++ L.drop (i + 1)).map letRow) ∧ Out w w' [q] := by
  have hml : (L.map letRow).length = L.length := List.length_map ..
  obtain ⟨cur, hB, hcs, hcap, hmx, hfin⟩ := del_cells (size := 2) (es := L.map letRow) (by rw [hml]; exact h) (by rw [hml]; exact hi) (by decide) [.int .i64 0, .string ⟨#[]⟩] rfl
  rw [hml] at hcap hfin
  unfold maxLen at hmx
  obtain ⟨z, hz, hinfo⟩ := (Tryz.elLet).info
  obtain ⟨i0, hi0, hz0, hz1, hz2⟩ := info_parts hinfo
  have t1 := (Tryz.elLet).ht
  obtain ⟨news, hnews⟩ : ∃ news, news = flat ((L.map letRow).drop (i + 1)) := ⟨_, rfl⟩
  have hlen : news.length = (L.length - (i + 1)) * 2 := by
    rw [hnews, flat_length (fun e he => (h.rows e (List.mem_of_mem_drop he)).1), List.length_drop, hml]
  obtain ⟨A, hA, hsrc⟩ : ∃ A : Addr, (if cap = i + 1 then some (⟨q, 0, none⟩ : Addr) else some ⟨q, (i + 1) * 2, none⟩) = some A ∧ Hid (∀ t u, news[t]? = some u → w.drew.cell? (A.add t) = some u) := by
    by_cases hc : cap = i + 1
    · refine ⟨⟨q, 0, none⟩, by simp [hc], Lib.hid (fun t u hu => ?_)⟩
      have h0 : news.length = 0 := by rw [hlen]; have : L.length - (i + 1) = 0 := by omega
                                      rw [this]
      rw [List.length_eq_zero_iff.1 h0] at hu
      simp at hu
    · refine ⟨⟨q, (i + 1) * 2, none⟩, by simp [hc], Lib.hid (fun t u hu => ?_)⟩
      rw [hnews] at hu
      exact h.news rfl (i + 1) t u hu
  have s1 : Hid (news.length = (L.length - (i + 1)) * 2) := Lib.hid hlen
  have s2 : Hid (∀ u ∈ news, u.oneCell' = true) := Lib.hid (by
    intro u hu
    rw [hnews] at hu
    obtain ⟨e, he, hu⟩ := List.mem_flatten.1 hu
    exact (h.rows e (List.mem_of_mem_drop he)).2 u hu)
  have s3 : Hid (∀ t, t < news.length → (w.drew.cell? ⟨q, 0 + i * 2 + t, none⟩).isSome = true ∧ w.drew.frozen? ⟨q, 0 + i * 2 + t, none⟩ = false) := Lib.hid (by
    intro t ht
    rw [hlen] at ht
    refine ⟨?_, hB.free _⟩
    show (w.cell? _).isSome = true
    rw [hB.cell]
    rw [Array.getElem?_eq_getElem (by rw [hcs]; omega)]
    rfl)
  obtain ⟨W1, hW1⟩ : ∃ W1, W1 = w.drew.setCells q (0 + i * 2) news := ⟨_, rfl⟩
  have hB1 : BlockIs W1 q 170 (putz cur (0 + i * 2) news) := by rw [hW1]; exact BlockIs.putAll news (show BlockIs w.drew q _ cur from hB) _
  have hO1 : Out w W1 [q] := by rw [hW1]; exact (Out.refl w [q]).drew.trans (Out.putAll news w.drew q _)
  have hcl : ∀ ty, (Builtin.clear_ #[166] ty #[.slice (some ⟨q, (i + (L.length - (i + 1))) * 2, none⟩) (L.length - (i + (L.length - (i + 1)))) (cap - (i + (L.length - (i + 1))))]).run Tryz.prog W1 = .ok (.tuple #[]) (W1.setCells q ((i + (L.length - (i + 1))) * 2) [.int .i64 0, .string ⟨#[]⟩]) := fun ty =>
    run_clear1 W1 _ _ ty (.agg #[.int .i64 0, .string ⟨#[]⟩]) [.int .i64 0, .string ⟨#[]⟩] t1 (Tryz.delLetsZero W1) rfl (by intro u hu; simp at hu; rcases hu with rfl | rfl <;> rfl) q _ _ _ (by omega)
      (fun j hj => by rw [hB1.cell, Array.getElem?_eq_getElem (by rw [putz_size, hcs]; simp at hj; omega)]; rfl) (fun j hj => hB1.free _)
  have hW : Hid (W1 = w.drew.setCells q (0 + i * 2) news) := Lib.hid hW1
  have HFIN := Lib.hid hfin
  have HB1 := Lib.hid hB1
  have HN := Lib.hid hnews
  have HR := Lib.hid h.rows
  have HCS := Lib.hid hcs
  have hic : (i : Int) ≤ (cap : Int) := by omega
  have hjc : (i : Int) + 1 ≤ (cap : Int) := by omega
  have hil : (i : Int) + 1 ≤ (L.length : Int) := by omega
  have hlc : (L.length : Int) ≤ (cap : Int) := by omega
  have hne : ((i : Int) == (i : Int) + 1) = false := by simp; omega
  have hi1 : (0 : Int) ≤ (i : Int) + 1 := by omega
  have HML := Lib.hid hml
  clear hW1 hB1 hlen hnews hfin h hB hml hcs hinfo
  go_enter Tryz.func110, Tryz.ntmps110
  go_wp2_with fail
  go_region_law (refine step_append_room rfl (.tmp 22) (.tmp 25) 166 rfl 170 i0 2 t1 hi0 hz1 q 0 i cap (by simp [Act.eval, Act.put]) A (L.length - (i + 1)) (cap - (i + 1)) news (by simp [Act.eval, Act.put]) s1.out hsrc.out s2.out (by omega) s3.out ?_; rw [← hW.out])
  go_wp2
  go_ret
  have hl : ((L.take i ++ L.drop (i + 1)).map letRow).length = L.length - 1 := by simp; omega
  have hB2 := BlockIs.putAll [.int .i64 0, .string ⟨#[]⟩] HB1.out ((i + (L.length - (i + 1))) * 2)
  have hx : i + (L.length - (i + 1)) = L.length - 1 := by omega
  have hrows : ∀ e ∈ (L.take i ++ L.drop (i + 1)).map letRow, e.length = 2 ∧ ∀ u ∈ e, u.oneCell' = true := by
    intro e he
    rw [List.map_append, List.mem_append] at he
    rcases he with he | he
    · exact HR.out e (by rw [List.map_take] at he; exact List.mem_of_mem_take he)
    · exact HR.out e (by rw [List.map_drop] at he; exact List.mem_of_mem_drop he)
  refine ⟨by rw [show L.length - 1 = i + (L.length - (i + 1)) from by omega]; rfl, ?_, hO1.trans (Out.putAll _ _ q _)⟩
  refine Lst.as (n := ((L.take i ++ L.drop (i + 1)).map letRow).length) ⟨⟨flat_length (fun e he => (hrows e he).1), Or.inr ⟨q, cap, _, rfl, Nat.zero_le _, hB2, by rw [hl]; omega, by unfold maxLen; omega, by rw [putz_size, putz_size, HCS.out], ?_⟩⟩, hrows⟩ hl.symm rfl
  have hf := HFIN.out
  rw [HN.out, hl, hx, Nat.zero_add, hf, List.map_append, List.map_take, List.map_drop]

set_option maxHeartbeats 1600000 in
theorem kgive (g : Nat) (v : Value) (L : List Let) (x : Int) (w : World) (h : Kz w g v L) :
    Calls Tryz.prog 71 #[.pointer (some ⟨g, 0, none⟩), .int .i64 x] w fun e w' => e = .returned (.tuple #[.int .i64 (giveD L x).too, .string (giveD L x).b, errV (giveE L x)]) ∧ KLeft w w' g v (giveL L x) := by
  have H := Lib.hid h
  have c0 : w.cell? ⟨g, 0, none⟩ = some v := h.bl.cell 0
  have f0 := h.bl.free
  have lg := h.bl.lt
  obtain ⟨A, cap, hve, _, _, hA⟩ := h.ls.shape
  rw [List.length_map] at hve
  subst hve
  have hfew := h.few
  have HA := Lib.hid hA
  clear h hA
  by_cases hw : isB L x = true
  case neg =>
    have hw' : isB L x = false := by simpa using hw
    have E : Hid (giveE L x = 1) := Lib.hid (by unfold giveE; rw [if_neg hw])
    have ED : Hid (giveD L x = noLet) := Lib.hid (by unfold giveD; rw [if_neg hw])
    have EL : Hid (giveL L x = L) := Lib.hid (by unfold giveL; rw [if_neg hw])
    have HW := Lib.hid hw'
    clear hw hw'
    go_enter Tryz.func71, Tryz.ntmps71
    go_wp2_with (go_at_call 109; refine (kis g _ L x _ H.out).mono ?_; rintro e w' ⟨rfl, rfl⟩; rw [HW.out])
    go_ret3
    exact ⟨by rw [E.out, ED.out]; rfl, by rw [EL.out]; exact KLeft.same H.out (Below.refl _ _)⟩
  have HW := Lib.hid hw
  obtain ⟨x0, x1⟩ := isB_iff.1 hw
  obtain ⟨m, rfl⟩ := Int.eq_ofNat_of_zero_le x0
  clear hw
  have hml : m < L.length := by omega
  have E : Hid (giveE L m = 0) := Lib.hid (by unfold giveE; rw [if_pos HW.out])
  have ED : Hid (giveD L m = L[m]) := Lib.hid (by unfold giveD; rw [if_pos HW.out]; simp [List.getD, List.getElem?_eq_getElem hml])
  have EL : Hid (giveL L m = L.take m ++ L.drop (m + 1)) := Lib.hid (by unfold giveL; rw [if_pos HW.out]; rfl)
  rcases HA.out with ⟨_, h0, _⟩ | ⟨q, rfl⟩
  · have : L = [] := by simpa using h0
    subst this
    simp at hml
  have q0 : w.cell? ⟨q, m * 2, none⟩ = some (.int .i64 L[m].too) := H.out.ls.cell rfl (elem_of_let hml) (j := 0) rfl
  have q1 : w.cell? ⟨q, m * 2 + 1, none⟩ = some (.string L[m].b) := H.out.ls.cell rfl (elem_of_let hml) (j := 1) rfl
  have lq := H.out.ls.lt q (by simp [Value.ownBlock])
  generalize L[m] = d at *
  obtain ⟨dt, db⟩ := d
  have hgq : g ∉ [q] := fun hm2 => by have := H.out.ls.apart H.out.bl (by decide); rw [List.mem_singleton.1 hm2] at this; simp [Value.ownBlock] at this
  have HGQ := Lib.hid hgq
  have hmi : (m : Int) < (L.length : Int) := by omega
  have hm6 : L.length ≤ 1000000 := by omega
  clear hgq
  go_enter Tryz.func71, Tryz.ntmps71
  go_wp2_with (first | (go_at_call 109; refine (kis g _ L m _ H.out).mono ?_; rintro e w' ⟨rfl, rfl⟩; rw [HW.out]) | fail)
  refine (delLets q cap L m hml hm6 _ (H.out.ls.alloc _)).mono ?_
  rintro e w2 ⟨rfl, hl2, ho2⟩
  have hb2 : BlockIs w2 g 168 #[.slice (some ⟨q, 0, none⟩) L.length cap] := ho2.block' (H.out.bl.alloc _) HGQ.out
  have h42 : BlockIs w2 w.heap.size 170 #[.int .i64 dt, .string db] := ho2.block' (BlockIs.fresh _ _ _) (by simp; omega)
  have e2 : w2.cell? ⟨g, 0, none⟩ = some (.slice (some ⟨q, 0, none⟩) L.length cap) := hb2.cell 0
  have f2 := hb2.free
  have lg2 := hb2.lt
  have hg4 : w.heap.size ≠ g := by omega
  have h43 : ∀ u, BlockIs (w2.setCell ⟨g, 0, none⟩ u) w.heap.size 170 #[.int .i64 dt, .string db] := fun u => h42.far (p := ⟨g, 0, none⟩) hg4 u
  have k0 : ∀ u, (w2.setCell ⟨g, 0, none⟩ u).cell? ⟨w.heap.size, 0, none⟩ = some (.int .i64 dt) := fun u => (h43 u).cell 0
  have k1 : ∀ u, (w2.setCell ⟨g, 0, none⟩ u).cell? ⟨w.heap.size, 1, none⟩ = some (.string db) := fun u => (h43 u).cell 1
  have l42 := h42.lt
  have hO2 : Out w w2 (g :: blocks (.slice (some ⟨q, 0, none⟩) L.length cap)) := ((Out.refl w _).alloc _).then' ho2 (fun k hk => Or.inl (by simp [Value.ownBlock] at hk ⊢; simp [hk]))
  have hlen : (L.take m ++ L.drop (m + 1)).length = L.length - 1 := by simp; omega
  have hqg : q ≠ g := fun e => HGQ.out (by simp [e])
  have hKP : KLeft w (w2.setCell ⟨g, 0, none⟩ (.slice (some ⟨q, 0, none⟩) (L.length - 1) cap)) g (.slice (some ⟨q, 0, none⟩) L.length cap) (L.take m ++ L.drop (m + 1)) := by
    refine ⟨.slice (some ⟨q, 0, none⟩) (L.length - 1) cap, ⟨hb2.put 0 _, ?_, by omega⟩, hO2.put (p := ⟨g, 0, none⟩) (Or.inl (by simp)) _, fun k hk => Or.inl (by simpa [Value.ownBlock] using hk)⟩
    exact hl2.kept (S := [g]) ((Out.refl w2 [g]).put (p := ⟨g, 0, none⟩) (Or.inl (by simp)) _) (fun k hk hm2 => by
      have hkq : q = k := by simpa [Value.ownBlock] using hk
      rw [List.mem_singleton.1 hm2] at hkq
      exact hqg hkq)
  have HKP := Lib.hid hKP
  clear hKP hl2 ho2 hO2 hb2 h42 h43 hlen hmi hm6 q0 q1
  go_wp2_with fail
  go_quiet (fail)
  go_wp2_with fail
  go_ret3
  refine ⟨by rw [E.out, ED.out]; rfl, ?_⟩
  rw [EL.out]
  obtain ⟨v', hz, ho, hk⟩ := HKP.out
  exact ⟨v', ⟨hz.bl, hz.ls.drewN _, hz.few⟩, ho.drewN _, hk⟩

theorem klose (g : Nat) (v : Value) (L : List Let) (x : Int) (w : World) (h : Kz w g v L) :
    Calls Tryz.prog 72 #[.pointer (some ⟨g, 0, none⟩), .int .i64 x] w fun e w' => e = .returned (errV (giveE L x)) ∧ KLeft w w' g v (giveL L x) := by
  have H := Lib.hid h
  clear h
  go_enter Tryz.func72, Tryz.ntmps72
  go_wp2_with fail
  refine (kgive g v L x _ H.out).mono ?_
  rintro e w2 ⟨rfl, hk⟩
  go_wp2_with fail
  go_ret
  exact ⟨rfl, hk⟩
end Go.Proofs.YtmfbaijbigodkaaGreatDoor
