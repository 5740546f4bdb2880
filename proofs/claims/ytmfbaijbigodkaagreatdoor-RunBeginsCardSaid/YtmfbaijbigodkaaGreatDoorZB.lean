/- Contracts and plain laws that the claim leans on, part 2 of 8: each part has its own word. No condition beside theirs. -/
import Derived.Test.YtmfbaijbigodkaaGreatDoorBase
import Derived.Test.YtmfbaijbigodkaaGreatDoorOnly
import Derived.Test.YtmfbaijbigodkaaGreatDoorMay
import Derived.Test.YtmfbaijbigodkaaGreatDoorCredit
import Derived.Test.YtmfbaijbigodkaaGreatDoorZA
import Derived.Lib.SmallJoins
import Derived.Laws.BytesString
import Derived.RangeFuncFrom
import Derived.RangeFuncNested
import Derived.RangeFuncBound
import Derived.RangeFuncCalls
import Derived.RangeFuncLeaves
import Derived.Shelf.Abstract
import Derived.Shelf.RegionOpen
import Derived.WalkKit
import Derived.OwnWalkIn
import Derived.TacticsInMore
import Derived.LoopNIn
import Derived.LoopIn
import Derived.BigQuiet
import Derived.Deep.DeepCutAuto
import Derived.Deep.QuietTactic
import Derived.Shelf.Strings.BuilderK
import Derived.Deep.RegionLaw
/-! Plain words on numbers' bytes one behind the other, and a builder that stays. No condition of its own. -/
namespace Go.Proofs.YtmfbaijbigodkaaGreatDoor
open Go.ChangeShapes Go.WideShapes Go.ChangeAt Go.RowKit
set_option linter.unusedVariables false

/-- a builder of the call's own stays as it is while only new blocks are made -/
theorem builderAt_later {T e : TypeId} {B b : Nat} {p : Value} {bs : List Value} {w w1 : World} (h : Lib.BuilderAt T e B b p bs w) (hb : Below w.heap.size w w1) : Lib.BuilderAt T e B b p bs w1 := by
  have hlt := h.lt
  obtain ⟨h1, v, h2, h3, h4⟩ := h
  refine ⟨h1, v, (hb.block b hlt).trans h2, ?_, h4⟩
  exact h3.kept (row := none) ⟨hb.os, hb.tape, hb.output, hb.size, fun i hi _ => hb.block i hi⟩ (by cases hv : v.ownBlock <;> simp)
theorem builder_later {T e : TypeId} {B b : Nat} {bs : List Value} {w w1 : World} (h : Lib.IsBuilder T e B b bs w) (hb : Below w.heap.size w w1) : Lib.IsBuilder T e B b bs w1 :=
  h.imp (fun h => builderAt_later h hb) (fun h => builderAt_later h hb)

/-- the numbers' bytes, one behind the other -/
def allL (zs : List Int) : List UInt8 := zs.flatMap vbytes
theorem allL_snoc (zs : List Int) (z : Int) : allL (zs ++ [z]) = allL zs ++ vbytes z := by simp [allL]
theorem vbytes_four (n : Int) : (vbytes n).length ≤ 4 := by
  have := vbytes_length n
  unfold longN at this
  split at this
  · omega
  · split at this <;> omega
theorem allL_short (zs : List Int) : (allL zs).length ≤ 4 * zs.length := by
  induction zs with
  | nil => simp [allL]
  | cons z r ih =>
    have e : allL (z :: r) = vbytes z ++ allL r := by simp [allL]
    have := vbytes_four z
    rw [e, List.length_append, List.length_cons]
    omega
theorem ith_mem {zs : List Int} {k : Nat} (h : k < zs.length) : ith zs k ∈ zs := by
  unfold ith
  simp [List.getD, h]
theorem take_ith {zs : List Int} {k : Nat} (h : k < zs.length) : zs.take (k + 1) = zs.take k ++ [ith zs k] := by
  rw [List.take_succ_eq_append_getElem h]
  unfold ith
  simp [List.getD, h]

end Go.Proofs.YtmfbaijbigodkaaGreatDoor

/-! Plain words on frames: what is wrong with one, its bytes, the frame that bytes begin with, and that it comes back. No program here. -/
namespace Go.Proofs.YtmfbaijbigodkaaGreatDoor
open Go.ChangeShapes Go.WideShapes Go.ChangeAt Go.RowKit
set_option linter.unusedVariables false

structure Frm where
  kind : Int
  nums : List Int
  data : ByteArray
/-- an ack's numbers as ranges -/
def pairs : List Int → List Rng
  | a :: b :: r => ⟨b, a⟩ :: pairs r
  | _ => []
def unpairs (L : List Rng) : List Int := L.flatMap fun r => [r.hi, r.lo]
theorem unpairs_snoc (L : List Rng) (r : Rng) : unpairs (L ++ [r]) = unpairs L ++ [r.hi, r.lo] := by simp [unpairs]
theorem unpairs_len (L : List Rng) : (unpairs L).length = 2 * L.length := by
  induction L with
  | nil => rfl
  | cons r L ih =>
    have : unpairs (r :: L) = r.hi :: r.lo :: unpairs L := rfl
    rw [this]; simp [ih]; omega
theorem pairs_unpairs (L : List Rng) : pairs (unpairs L) = L := by
  induction L with
  | nil => rfl
  | cons r L ih =>
    have : unpairs (r :: L) = r.hi :: r.lo :: unpairs L := rfl
    rw [this, pairs, ih]
theorem unpairs_pairs : ∀ (l : List Int), l.length % 2 = 0 → unpairs (pairs l) = l
  | [], _ => rfl
  | [a], h => by simp at h
  | a :: b :: r, h => by
    have ih := unpairs_pairs r (by simp at h; omega)
    have : unpairs (pairs (a :: b :: r)) = a :: b :: unpairs (pairs r) := rfl
    rw [this, ih]
theorem pairs_len : ∀ (l : List Int), l.length % 2 = 0 → 2 * (pairs l).length = l.length
  | [], _ => rfl
  | [a], h => by simp at h
  | a :: b :: r, h => by
    have ih := pairs_len r (by simp at h; omega)
    rw [pairs]; simp at ih ⊢; omega
theorem pairs_at : ∀ (l : List Int) (i : Nat), l.length % 2 = 0 → 2 * i < l.length → rat (pairs l) i = ⟨ith l (2 * i + 1), ith l (2 * i)⟩
  | [], i, _, h => by simp at h
  | [a], i, h, _ => by simp at h
  | a :: b :: r, 0, _, _ => rfl
  | a :: b :: r, i + 1, h, h2 => by
    have ih := pairs_at r i (by simp at h; omega) (by simp at h2; omega)
    have e1 : rat (pairs (a :: b :: r)) (i + 1) = rat (pairs r) i := by simp [pairs, rat]
    have e2 : ∀ j, ith (a :: b :: r) (j + 1 + 1) = ith r j := fun j => by simp [ith]
    rw [e1, ih, show 2 * (i + 1) + 1 = (2 * i + 1) + 1 + 1 by omega, show 2 * (i + 1) = 2 * i + 1 + 1 by omega, e2, e2]
/-- how many numbers a kind has; an ack -1 -/
def manyK (k : Int) : Int := if k = 1 then 0 else if k = 2 then -1 else if k = 7 then 2 else 1
/-- as many numbers, and bytes, as its kind -/
def shapeB (f : Frm) : Bool := (f.kind == 3 || f.data.size == 0) && (if f.kind = 2 then decide (0 < f.nums.length ∧ f.nums.length % 2 = 0 ∧ f.nums.length ≤ 24) else decide ((f.nums.length : Int) = manyK f.kind))
/-- may all numbers be -/
def maysB (l : List Int) : Bool := l.all mayB
/-- what is wrong with a frame -/
def frmE (f : Frm) : Int := if f.kind < 1 ∨ 8 < f.kind then 1 else if shapeB f = false then 3 else if maysB f.nums = false then 1 else if 20 < f.data.size then 4 else if f.kind = 2 ∧ rngE (pairs f.nums) ≠ 0 then 3 else 0
theorem frmE_kind {f : Frm} (h : f.kind < 1 ∨ 8 < f.kind) : frmE f = 1 := by unfold frmE; rw [if_pos h]
theorem frmE_shape {f : Frm} (h : ¬ (f.kind < 1 ∨ 8 < f.kind)) (h2 : shapeB f = false) : frmE f = 3 := by unfold frmE; rw [if_neg h, if_pos h2]
theorem frmE_may {f : Frm} (h : ¬ (f.kind < 1 ∨ 8 < f.kind)) (h2 : shapeB f = true) (h3 : maysB f.nums = false) : frmE f = 1 := by unfold frmE; rw [if_neg h, if_neg (by simp [h2]), if_pos h3]
theorem frmE_full {f : Frm} (h : ¬ (f.kind < 1 ∨ 8 < f.kind)) (h2 : shapeB f = true) (h3 : maysB f.nums = true) (h4 : 20 < f.data.size) : frmE f = 4 := by unfold frmE; rw [if_neg h, if_neg (by simp [h2]), if_neg (by simp [h3]), if_pos h4]
theorem frmE_ack {f : Frm} (h : f.kind = 2) (h2 : shapeB f = true) (h3 : maysB f.nums = true) (h4 : ¬ 20 < f.data.size) (h5 : rngE (pairs f.nums) ≠ 0) : frmE f = 3 := by unfold frmE; rw [if_neg (by omega), if_neg (by simp [h2]), if_neg (by simp [h3]), if_neg h4, if_pos ⟨h, h5⟩]
theorem frmE_ok {f : Frm} (h : ¬ (f.kind < 1 ∨ 8 < f.kind)) (h2 : shapeB f = true) (h3 : maysB f.nums = true) (h4 : ¬ 20 < f.data.size) (h5 : f.kind = 2 → rngE (pairs f.nums) = 0) : frmE f = 0 := by unfold frmE; rw [if_neg h, if_neg (by simp [h2]), if_neg (by simp [h3]), if_neg h4, if_neg (fun hh => hh.2 (h5 hh.1))]
theorem frmE_out {f : Frm} (h : frmE f = 0) : (1 ≤ f.kind ∧ f.kind ≤ 8) ∧ shapeB f = true ∧ (∀ z ∈ f.nums, MayBe z) ∧ f.data.size ≤ 20 ∧ (f.kind = 2 → rngE (pairs f.nums) = 0) := by
  by_cases h1 : f.kind < 1 ∨ 8 < f.kind
  · rw [frmE_kind h1] at h; cases h
  cases h2 : shapeB f with
  | false => rw [frmE_shape h1 h2] at h; cases h
  | true =>
    cases h3 : maysB f.nums with
    | false => rw [frmE_may h1 h2 h3] at h; cases h
    | true =>
      by_cases h4 : 20 < f.data.size
      · rw [frmE_full h1 h2 h3 h4] at h; cases h
      by_cases h5 : f.kind = 2 → rngE (pairs f.nums) = 0
      · exact ⟨by omega, rfl, fun z hz => mayB_iff.1 (List.all_eq_true.1 h3 z hz), by omega, h5⟩
      · have h6 : f.kind = 2 ∧ rngE (pairs f.nums) ≠ 0 := by
          refine ⟨Decidable.byContradiction fun hh => h5 (fun hk => absurd hk hh), fun he => h5 (fun _ => he)⟩
        rw [frmE_ack h6.1 h2 h3 h4 h6.2] at h; cases h
/-- a frame's bytes -/
def frmB (f : Frm) : List UInt8 := byteOf f.kind :: (if f.kind = 2 then ackB (pairs f.nums) else allL f.nums ++ (if f.kind = 3 then vbytes f.data.size ++ f.data.data.toList else []))

/-- so many numbers that bytes begin with behind the first k, and up to where -/
def numUp (b : List UInt8) (k : Nat) : Nat → Option (List Int × Nat)
  | 0 => some ([], k)
  | i + 1 => match numUp b k i with
    | none => none
    | some (L, k2) => if getOk (b.drop k2) then some (L ++ [getN (b.drop k2)], k2 + getC (b.drop k2)) else none
theorem numUp_none {b : List UInt8} {k i : Nat} (h : numUp b k i = none) : ∀ j, i ≤ j → numUp b k j = none := by
  intro j hj
  induction j with
  | zero => obtain rfl : i = 0 := by omega
            exact h
  | succ j ih =>
    by_cases he : i = j + 1
    · rw [← he]; exact h
    · rw [numUp, ih (by omega)]
theorem numUp_yes {b : List UInt8} {k i k2 : Nat} {L : List Int} (h : numUp b k i = some (L, k2)) (h2 : getOk (b.drop k2)) : numUp b k (i + 1) = some (L ++ [getN (b.drop k2)], k2 + getC (b.drop k2)) := by rw [numUp, h]; simp only; rw [if_pos h2]
theorem numUp_no {b : List UInt8} {k i k2 : Nat} {L : List Int} (h : numUp b k i = some (L, k2)) (h2 : ¬ getOk (b.drop k2)) : numUp b k (i + 1) = none := by rw [numUp, h]; simp only; rw [if_neg h2]
theorem numUp_inv {b : List UInt8} {k : Nat} (hk : k ≤ b.length) : ∀ (i : Nat) (L : List Int) (k2 : Nat), numUp b k i = some (L, k2) → L.length = i ∧ k2 ≤ b.length ∧ b.take k2 = b.take k ++ allL L ∧ ∀ z ∈ L, MayBe z
  | 0, L, k2, h => by
    simp only [numUp, Option.some.injEq, Prod.mk.injEq] at h
    obtain ⟨rfl, rfl⟩ := h
    exact ⟨rfl, hk, by simp [allL], by simp⟩
  | i + 1, L, k2, h => by
    cases hc : numUp b k i with
    | none => rw [numUp, hc] at h; cases h
    | some p =>
      obtain ⟨M, k1⟩ := p
      obtain ⟨a1, a2, a3, a4⟩ := numUp_inv hk i M k1 hc
      by_cases hg : getOk (b.drop k1)
      · rw [numUp_yes hc hg] at h
        simp only [Option.some.injEq, Prod.mk.injEq] at h
        obtain ⟨rfl, rfl⟩ := h
        obtain ⟨s1, s2⟩ := get_split a2 hg
        refine ⟨by simp [a1], s2, by rw [s1, a3, allL_snoc]; simp, fun z hz => ?_⟩
        rcases List.mem_append.1 hz with hz | hz
        · exact a4 z hz
        · rw [List.mem_singleton.1 hz]; exact getN_bounds hg.2.1
      · rw [numUp_no hc hg] at h; cases h
theorem numUp_drop (b : List UInt8) (m k : Nat) : ∀ i, numUp b (m + k) i = (numUp (b.drop m) k i).map fun p => (p.1, m + p.2)
  | 0 => rfl
  | i + 1 => by
    rw [numUp, numUp, numUp_drop b m k i]
    cases hc : numUp (b.drop m) k i with
    | none => rfl
    | some p =>
      obtain ⟨L, k2⟩ := p
      simp only [Option.map_some, List.drop_drop]
      by_cases hg : getOk (b.drop (m + k2))
      · rw [if_pos hg, if_pos hg]; simp [Nat.add_assoc]
      · rw [if_neg hg, if_neg hg]; rfl
theorem allL_append (a b : List Int) : allL (a ++ b) = allL a ++ allL b := by simp [allL]
theorem numUp_back {L : List Int} {hd r b : List UInt8} (hm : ∀ z ∈ L, MayBe z) (hb : b = hd ++ allL L ++ r) : ∀ i, i ≤ L.length → numUp b hd.length i = some (L.take i, hd.length + (allL (L.take i)).length)
  | 0, _ => by simp [numUp, allL]
  | i + 1, hi => by
    have hiL : i < L.length := by omega
    have hz := hm _ (ith_mem hiL)
    have hsp : L = L.take i ++ (ith L i :: L.drop (i + 1)) := by
      have := List.take_append_drop (i + 1) L
      rw [take_ith hiL] at this
      rw [List.append_assoc] at this
      exact this.symm
    have hdr : b.drop (hd.length + (allL (L.take i)).length) = vbytes (ith L i) ++ (allL (L.drop (i + 1)) ++ r) := by
      refine drop_of (p := hd ++ allL (L.take i)) ?_ (by simp)
      rw [hb]
      conv => lhs; rw [hsp, allL_append]
      simp [allL]
    obtain ⟨g1, g2, g3⟩ := get_here hdr hz.1 hz.2
    rw [numUp_yes (numUp_back hm hb i (by omega)) g1, g2, g3, take_ith hiL, allL_snoc, List.length_append, Nat.add_assoc]
/-- how many numbers are read -/
def readK (k : Int) : Nat := if k = 1 then 0 else if k = 7 then 2 else if k = 3 then 2 else 1
/-- a frame of a kind that bytes begin with, and how many these are -/
def restF (kind : Int) (b : List UInt8) : Option (Frm × Nat) :=
  if kind = 2 then (match readA b with | none => none | some (L, n) => some (⟨2, unpairs L, ByteArray.empty⟩, n))
  else match numUp b 0 (readK kind) with
    | none => none
    | some (L, k) => if kind = 3 then (if ith L 1 ≤ 20 ∧ (k : Int) + ith L 1 ≤ b.length then some (⟨3, [ith L 0], ⟨((b.drop k).take (ith L 1).toNat).toArray⟩⟩, k + (ith L 1).toNat) else none) else some (⟨kind, L, ByteArray.empty⟩, k)
/-- the frame that bytes begin with, and how many these are -/
def readF (b : List UInt8) : Option (Frm × Nat) :=
  if b = [] ∨ bat b 0 < 1 ∨ 8 < bat b 0 then none else match restF (bat b 0) (b.drop 1) with | none => none | some (f, n) => some (f, n + 1)
theorem ba_ext {a b : ByteArray} (h : a.data.toList = b.data.toList) : a = b := by
  cases a; cases b; congr; exact Array.toList_inj.1 h
theorem restF_inv {kind : Int} {b : List UInt8} {f : Frm} {n : Nat} (h0 : 1 ≤ kind) (h1 : kind ≤ 8) (h : restF kind b = some (f, n)) : frmE f = 0 ∧ f.kind = kind ∧ n ≤ b.length ∧ byteOf kind :: b.take n = frmB f := by
  unfold restF at h
  by_cases hk : kind = 2
  · subst hk
    rw [if_pos rfl] at h
    cases hc : readA b with
    | none => rw [hc] at h; cases h
    | some p =>
      obtain ⟨L, m⟩ := p
      rw [hc] at h
      simp only [Option.some.injEq, Prod.mk.injEq] at h
      obtain ⟨rfl, rfl⟩ := h
      obtain ⟨a1, a2, a3, a4, a5⟩ := readA_inv hc
      have hl := rngE_len a2
      have hE : frmE ⟨2, unpairs L, ByteArray.empty⟩ = 0 := by
        refine frmE_ok (by simp) ?_ ?_ (by simp) (fun _ => by rw [pairs_unpairs]; exact a2)
        · unfold shapeB
          simp only [unpairs_len]
          simp
          omega
        · unfold maysB
          rw [List.all_eq_true]
          intro z hz
          simp only [unpairs, List.mem_flatMap] at hz
          obtain ⟨r, hr, hz⟩ := hz
          have := rngE_ok a2 r hr
          simp at hz
          rcases hz with rfl | rfl
          · exact mayB_iff.2 this.2
          · exact mayB_iff.2 this.1
      refine ⟨hE, rfl, a3, ?_⟩
      rw [a4]
      unfold frmB
      simp [pairs_unpairs]
  · rw [if_neg hk] at h
    cases hc : numUp b 0 (readK kind) with
    | none => rw [hc] at h; cases h
    | some p =>
      obtain ⟨L, k⟩ := p
      rw [hc] at h
      simp only at h
      obtain ⟨a1, a2, a3, a4⟩ := numUp_inv (Nat.zero_le _) _ _ _ hc
      simp only [List.take_zero, List.nil_append] at a3
      by_cases h3 : kind = 3
      · subst h3
        rw [if_pos rfl] at h
        by_cases hx : ith L 1 ≤ 20 ∧ (k : Int) + ith L 1 ≤ b.length
        · rw [if_pos hx] at h
          simp only [Option.some.injEq, Prod.mk.injEq] at h
          obtain ⟨rfl, rfl⟩ := h
          have hL2 : L.length = 2 := a1
          match L, hL2 with
          | [x, y], _ =>
            have hy := a4 y (by simp)
            have hxx := a4 x (by simp)
            unfold MayBe at hy hxx
            have e0 : ith [x, y] 0 = x := rfl
            have e1 : ith [x, y] 1 = y := rfl
            have hx1 : y ≤ 20 := hx.1
            have hx2 : (k : Int) + y ≤ b.length := hx.2
            rw [e0, e1]
            have hsz : ((⟨((b.drop k).take y.toNat).toArray⟩ : ByteArray)).size = y.toNat := by
              show ((b.drop k).take y.toNat).toArray.size = _
              simp; omega
            have hE : frmE ⟨3, [x], ⟨((b.drop k).take y.toNat).toArray⟩⟩ = 0 := by
              refine frmE_ok (by simp) ?_ ?_ ?_ (fun h => by simp at h)
              · unfold shapeB; simp [manyK]
              · unfold maysB; simp; exact mayB_iff.2 hxx
              · show ¬ 20 < ((⟨((b.drop k).take y.toNat).toArray⟩ : ByteArray)).size
                rw [hsz]; omega
            refine ⟨hE, rfl, by omega, ?_⟩
            rw [List.take_add, a3]
            unfold frmB
            simp only [hsz, if_neg (show ¬ (3 : Int) = 2 by decide)]
            rw [show ((y.toNat : Nat) : Int) = y by omega]
            simp [allL]
        · rw [if_neg hx] at h; cases h
      · rw [if_neg h3] at h
        simp only [Option.some.injEq, Prod.mk.injEq] at h
        obtain ⟨rfl, rfl⟩ := h
        have hE : frmE ⟨kind, L, ByteArray.empty⟩ = 0 := by
          refine frmE_ok (by simp; omega) ?_ ?_ (by simp) (fun h => absurd h hk)
          · unfold shapeB
            simp only [if_neg hk, a1]
            unfold readK manyK
            simp [hk, h3]
            split
            · rfl
            · split <;> rfl
          · unfold maysB
            rw [List.all_eq_true]
            exact fun z hz => mayB_iff.2 (a4 z hz)
        refine ⟨hE, rfl, a2, ?_⟩
        rw [a3]
        unfold frmB
        simp [hk, h3]
/-- what is read is right, and is just the bytes it was read of -/
theorem readF_inv {b : List UInt8} {f : Frm} {n : Nat} (h : readF b = some (f, n)) : frmE f = 0 ∧ 1 ≤ n ∧ n ≤ b.length ∧ b.take n = frmB f := by
  unfold readF at h
  by_cases hc : b = [] ∨ bat b 0 < 1 ∨ 8 < bat b 0
  · rw [if_pos hc] at h; cases h
  · rw [if_neg hc] at h
    cases hr : restF (bat b 0) (b.drop 1) with
    | none => rw [hr] at h; cases h
    | some p =>
      obtain ⟨g, m⟩ := p
      rw [hr] at h
      simp only [Option.some.injEq, Prod.mk.injEq] at h
      obtain ⟨rfl, rfl⟩ := h
      obtain ⟨a1, a2, a3, a4⟩ := restF_inv (by omega) (by omega) hr
      cases b with
      | nil => simp at hc
      | cons c b =>
        simp only [List.drop_succ_cons, List.drop_zero] at a3 a4
        refine ⟨a1, by omega, by simp; omega, ?_⟩
        rw [← a4, List.take_succ_cons]
        congr 1
        have := bat_byte (l := c :: b) (i := 0) (by simp)
        simpa using this.symm
set_option maxRecDepth 100000 in
theorem readF_back {f : Frm} (h : frmE f = 0) (r : List UInt8) : readF (frmB f ++ r) = some (f, (frmB f).length) := by
  obtain ⟨⟨k1, k2⟩, hs, hm, hd, ha⟩ := frmE_out h
  have hb0 : bat (frmB f ++ r) 0 = f.kind := by unfold frmB; exact byteOf_toNat (by omega) (by omega)
  have hne : frmB f ++ r ≠ [] := by unfold frmB; simp
  unfold readF
  rw [if_neg (by rw [hb0]; intro hh; rcases hh with hh | hh | hh; exact hne hh; omega; omega), hb0]
  have hd1 : (frmB f ++ r).drop 1 = (if f.kind = 2 then ackB (pairs f.nums) else allL f.nums ++ (if f.kind = 3 then vbytes f.data.size ++ f.data.data.toList else [])) ++ r := by unfold frmB; rfl
  rw [hd1]
  obtain ⟨kind, nums, data⟩ := f
  simp only at *
  unfold shapeB at hs
  simp only [Bool.and_eq_true, Bool.or_eq_true, beq_iff_eq] at hs
  obtain ⟨hs1, hs2⟩ := hs
  unfold restF
  by_cases hk : kind = 2
  · subst hk
    simp only [if_pos] at hs2 ⊢
    rw [decide_eq_true_iff] at hs2
    have hE := ha rfl
    have hl := pairs_len nums hs2.2.1
    rw [readA_back hE (by omega) r]
    have hde : data = ByteArray.empty := ba_ext (by
      have : data.size = 0 := by simpa using hs1
      have h2 : data.data.toList.length = 0 := this
      rw [List.length_eq_zero_iff.1 h2]; rfl)
    simp only [unpairs_pairs nums hs2.2.1, hde]
    unfold frmB
    simp
  · simp only [if_neg hk] at hs2 ⊢
    rw [decide_eq_true_iff] at hs2
    by_cases h3 : kind = 3
    · subst h3
      simp only [if_pos]
      have hn1 : nums.length = 1 := by unfold manyK at hs2; simp at hs2; omega
      match nums, hn1 with
      | [x], _ =>
        have hbb : allL [x] ++ (vbytes data.size ++ data.data.toList) ++ r = [] ++ allL [x, (data.size : Int)] ++ (data.data.toList ++ r) := by simp [allL]
        have hx := hm x (by simp)
        have hup := numUp_back (L := [x, (data.size : Int)]) (hd := []) (r := data.data.toList ++ r) (fun z hz => by
          simp at hz
          rcases hz with rfl | rfl
          · exact hx
          · exact ⟨by omega, by omega⟩) hbb 2 (by simp)
        simp only [List.length_nil, Nat.zero_add, List.take_of_length_le (show [x, (data.size : Int)].length ≤ 2 by simp)] at hup
        have hrk : readK 3 = 2 := rfl
        rw [hrk, hup]
        have e1 : ith [x, (data.size : Int)] 1 = data.size := rfl
        have e0 : ith [x, (data.size : Int)] 0 = x := rfl
        have hdl : data.data.toList.length = data.size := rfl
        simp only [e1, e0, Int.toNat_natCast]
        have hdrop : (allL [x] ++ (vbytes data.size ++ data.data.toList) ++ r).drop (allL [x, (data.size : Int)]).length = data.data.toList ++ r := drop_of hbb (by simp)
        have hlen : (allL [x] ++ (vbytes data.size ++ data.data.toList) ++ r).length = (allL [x, (data.size : Int)]).length + data.size + r.length := by
          rw [hbb]; simp [hdl]; omega
        rw [if_pos ⟨by omega, by rw [hlen]; omega⟩, hdrop, List.take_left' hdl]
        unfold frmB
        have : (⟨data.data.toList.toArray⟩ : ByteArray) = data := by cases data; simp
        simp [allL, this, hdl]
        omega
    · simp only [if_neg h3]
      have hrk : readK kind = nums.length := by
        unfold manyK at hs2
        unfold readK
        simp only [if_neg hk, if_neg h3] at hs2 ⊢
        by_cases h1 : kind = 1
        · rw [if_pos h1] at hs2 ⊢; omega
        · rw [if_neg h1] at hs2 ⊢
          by_cases h7 : kind = 7
          · rw [if_pos h7] at hs2 ⊢; omega
          · rw [if_neg h7] at hs2 ⊢; omega
      have hup := numUp_back (L := nums) (hd := []) (r := r) hm (b := allL nums ++ [] ++ r) (by simp) nums.length (Nat.le_refl _)
      simp only [List.length_nil, Nat.zero_add, List.take_length] at hup
      rw [hrk, hup]
      have hde : data = ByteArray.empty := ba_ext (by
        have : data.size = 0 := by rcases hs1 with hs1 | hs1; exact absurd hs1 h3; exact hs1
        have h2 : data.data.toList.length = 0 := this
        rw [List.length_eq_zero_iff.1 h2]; rfl)
      simp only [hde]
      unfold frmB
      simp [hk, h3]
end Go.Proofs.YtmfbaijbigodkaaGreatDoor

/-! Frames in memory: rows of three cells, each with its numbers; what came in. No condition of its own. -/
namespace Go.Proofs.YtmfbaijbigodkaaGreatDoor
open Go.ChangeShapes Go.WideShapes Go.ChangeAt Go.RowKit
set_option linter.unusedVariables false

instance : Inhabited Frm := ⟨⟨0, [], ByteArray.empty⟩⟩
/-- a frame, and where its numbers lie -/
structure FrmV where
  f : Frm
  A : Option Addr
  cap : Nat
instance : Inhabited FrmV := ⟨⟨default, none, 0⟩⟩
abbrev FrmV.v (p : FrmV) : Value := .slice p.A p.f.nums.length p.cap
def frmRow (p : FrmV) : List Value := [.int .i64 p.f.kind, .slice p.A p.f.nums.length p.cap, .string p.f.data]
theorem frmRow_one (p : FrmV) : (frmRow p).length = 3 ∧ ∀ u ∈ frmRow p, u.oneCell' = true := ⟨rfl, by intro u hu; simp [frmRow] at hu; rcases hu with rfl | rfl | rfl <;> rfl⟩
abbrev FrmV.agg (p : FrmV) : Value := .agg #[.int .i64 p.f.kind, .slice p.A p.f.nums.length p.cap, .string p.f.data]
/-- a frame's parts are right in a world -/
structure FrmIn (w : World) (p : FrmV) : Prop where
  kind : okI p.f.kind
  data : p.f.data.size ≤ maxLen
  nums : IntsIn w p.v p.f.nums
theorem FrmIn.later {w w' : World} {p : FrmV} (h : FrmIn w p) (hb : Below w.heap.size w w') : FrmIn w' p := ⟨h.kind, h.data, h.nums.keep hb⟩
/-- frames that can be read -/
structure FrmsIn (w : World) (v : Value) (L : List FrmV) : Prop where
  each : ∀ p ∈ L, FrmIn w p
  rd : Rd w 3 v (L.map frmRow)
theorem FrmsIn.later {w w' : World} {v : Value} {L : List FrmV} (h : FrmsIn w v L) (hb : Below w.heap.size w w') : FrmsIn w' v L :=
  ⟨fun p hp => (h.each p hp).later hb, h.rd.later hb⟩
theorem ints_field {H : Type} {enc : TypeId × Value → H} {P : Program} {w : World} {t e fuel : Nat} {v : Value} {y : DataW H × List MemPlace}
    (ht : P.underlying t = some (.slice e)) (he : P.underlying e = some (.int .i64)) (hc : P.cellsOf e = 1)
    (h : DataW.trod enc P w 0 (fun _ => true) true fuel t [v] = some y) : ∃ zs, IntsIn w v zs := by
  rcases open_ints ht he hc h with ⟨hcs, _⟩ | ⟨x, l, c, zs, hcs, _, hl, hm, hz, _, hcell, hwz⟩
  · simp only [List.cons.injEq, and_true] at hcs
    subst hcs
    exact ⟨[], intsIn_nil w⟩
  · simp only [List.cons.injEq, and_true] at hcs
    subst hcs
    exact ⟨_, intsIn_mk hl hm (by simpa using hz) hwz hcell⟩
theorem str_field {H : Type} {enc : TypeId × Value → H} {P : Program} {w : World} {t fuel : Nat} {v : Value} {y : DataW H × List MemPlace}
    (ht : P.underlying t = some .string) (h : DataW.trod enc P w 0 (fun _ => true) true fuel t [v] = some y) : ∃ s : ByteArray, v = .string s ∧ s.size ≤ maxLen := by
  cases fuel with
  | zero => simp [DataW.trod] at h
  | succ n =>
    unfold DataW.trod at h
    rw [ht] at h
    cases v <;> simp at h
    rename_i s
    exact ⟨s, rfl, by have := h.1; omega⟩
theorem frmsIn_open {H : Type} {enc : TypeId × Value → H} {P : Program} {w : World} {t e ei fuel : Nat} {A : Option Addr} {len cap : Nat} {d : DataW H} {ps : List MemPlace} {f0 f1 f2 : Field}
    (ht : P.underlying t = some (.slice e)) (he : P.underlying e = some (.struct #[f0, f1, f2])) (ce : P.cellsOf e = 3) (o0 : f0.offset = 0) (o1 : f1.offset = 1) (o2 : f2.offset = 2) (c0 : P.cellsOf f0.type = 1) (c1 : P.cellsOf f1.type = 1) (c2 : P.cellsOf f2.type = 1)
    (u0 : P.underlying f0.type = some (.int .i64)) (u1 : P.underlying f1.type = some (.slice ei)) (u2 : P.underlying f2.type = some .string) (ui : P.underlying ei = some (.int .i64)) (ci : P.cellsOf ei = 1)
    (h : DataW.trod enc P w 0 (fun _ => true) true fuel t (Value.slice A len cap).cells.toList = some (d, ps)) : ∃ L, FrmsIn w (.slice A len cap) L := by
  obtain ⟨L, h1, _, h2⟩ := rows_open frmRow (fun p : FrmV => FrmIn w p) frmRow_one (by decide) ht ce (fun n cs x hx => by
    obtain ⟨xs, k, _, _, hlen, hxl, hf⟩ := DataW.trod_struct he hx
    rw [ce] at hlen
    match xs, hxl, cs, hlen with
    | [y0, y1, y2], _, [v0, v1, v2], _ =>
      have g0 := hf 0 f0 rfl
      have g1 := hf 1 f1 rfl
      have g2 := hf 2 f2 rfl
      simp [o0, o1, o2, c0, c1, c2] at g0 g1 g2
      obtain ⟨n0, e0, _, b0⟩ := DataW.trod_int u0 g0
      obtain ⟨zs, hz⟩ := ints_field u1 ui ci g1
      obtain ⟨s, e2, hs⟩ := str_field u2 g2
      simp at e0
      subst e0 e2
      obtain ⟨A, cap, hv⟩ : ∃ A cap, v1 = .slice A zs.length cap := by
        obtain ⟨_, A, cap, hv, _⟩ := hz
        exact ⟨A, cap, hv⟩
      subst hv
      exact ⟨⟨⟨n0, zs, s⟩, A, cap⟩, ⟨wf_bounds b0, hs, hz⟩, rfl⟩) h
  exact ⟨L, h1, h2⟩
/-- a frame that came in by value -/
theorem frm_fields {H : Type} {enc : TypeId × Value → H} {P : Program} {w : World} {t1 t2 ei n : Nat} {a : Int} {v1 v2 : Value} {y1 y2 : DataW H × List MemPlace} (hk : (Lit.int .i64 a).wf = true)
    (u1 : P.underlying t1 = some (.slice ei)) (u2 : P.underlying t2 = some .string) (ui : P.underlying ei = some (.int .i64)) (ci : P.cellsOf ei = 1)
    (h1 : DataW.trod enc P w 0 (fun _ => true) true n t1 [v1] = some y1) (h2 : DataW.trod enc P w 0 (fun _ => true) true n t2 [v2] = some y2) : ∃ p : FrmV, FrmIn w p ∧ p.f.kind = a ∧ v1 = p.v ∧ v2 = .string p.f.data := by
  obtain ⟨zs, hz⟩ := ints_field u1 ui ci h1
  obtain ⟨s, e2, hs⟩ := str_field u2 h2
  obtain ⟨A, cap, hv⟩ : ∃ A cap, v1 = .slice A zs.length cap := by
    obtain ⟨_, A, cap, hv, _⟩ := hz
    exact ⟨A, cap, hv⟩
  subst hv
  exact ⟨⟨⟨a, zs, s⟩, A, cap⟩, ⟨wf_bounds hk, hs, hz⟩, rfl, rfl, e2⟩
end Go.Proofs.YtmfbaijbigodkaaGreatDoor

/-! A string made of one, two or four bytes in memory. No condition but that the cells hold bytes. -/
namespace Go.Proofs.YtmfbaijbigodkaaGreatDoor
open Go.ChangeShapes Go.WideShapes Go.ChangeAt Go.RowKit
set_option linter.unusedVariables false

/-- does a cell hold a byte, and which? -/
def isU8 : Option Value → Bool
  | some (.int .u8 _) => true
  | _ => false
def cb : Option Value → UInt8
  | some (.int .u8 x) => byteOf x
  | _ => 0
theorem isU8_some (x : Int) : isU8 (some (.int .u8 x)) = true := rfl
theorem cb_some (x : Int) : cb (some (.int .u8 x)) = byteOf x := rfl
theorem isU8_out {o : Option Value} (h : isU8 o = true) : ∃ x, o = some (.int .u8 x) ∧ cb o = byteOf x := by
  match o, h with
  | some (.int .u8 x), _ => exact ⟨x, rfl, rfl⟩
theorem addr_at (g i : Nat) : (⟨g, 0, none⟩ : Addr).add i = ⟨g, i, none⟩ := by
  unfold Addr.add
  split
  · rename_i h; rw [h]
  · simp
theorem conv_of {W : World} {g c : Nat} {ns : List Int} (h : ∀ (j : Nat) v, (ns.map (Value.int .u8))[j]? = some v → W.cell? ⟨g, j, none⟩ = some v) :
    (convert 131 9 (.slice (some ⟨g, 0, none⟩) ns.length c)).run Tryz.prog W = .ok (.string ⟨(ns.map byteOf).toArray⟩) W := by
  rw [run_convert_bytes_string W 131 9 5 (some ⟨g, 0, none⟩) ns.length c Tryz.underlying131 Tryz.underlying5 Tryz.underlying9]
  have hl := run_loadCells_list (P := Tryz.prog) W ⟨g, 0, none⟩ (ns.map (Value.int .u8)) (fun j v hj => by rw [addr_at]; exact h j v hj)
  simp only [List.length_map] at hl
  rw [run_bytesToString W ⟨g, 0, none⟩ ns.length c ns hl]
  have e : ∀ (l : List Int) (r : ByteArray), l.foldl (fun r n => r.push (UInt8.ofNat n.toNat)) r = ⟨r.data ++ (l.map byteOf).toArray⟩ := by
    intro l
    induction l with
    | nil => intro r; simp
    | cons x l ih => intro r; rw [List.foldl_cons, ih]; simp [ByteArray.push, byteOf]
  rw [e ns]
  have he0 : ByteArray.empty.data = #[] := rfl
  rw [he0]
  simp
theorem conv1 (W : World) (g c : Nat) (h0 : isU8 (W.cell? ⟨g, 0, none⟩) = true) :
    (convert 131 9 (.slice (some ⟨g, 0, none⟩) 1 c)).run Tryz.prog W = .ok (.string ⟨#[cb (W.cell? ⟨g, 0, none⟩)]⟩) W := by
  obtain ⟨x, e0, c0⟩ := isU8_out h0
  rw [c0]
  exact conv_of (ns := [x]) (fun j v hj => by
    match j, hj with
    | 0, hj => simp at hj; rw [← hj]; exact e0
    | _ + 1, hj => simp at hj)
theorem conv2 (W : World) (g c : Nat) (h0 : isU8 (W.cell? ⟨g, 0, none⟩) = true) (h1 : isU8 (W.cell? ⟨g, 1, none⟩) = true) :
    (convert 131 9 (.slice (some ⟨g, 0, none⟩) 2 c)).run Tryz.prog W = .ok (.string ⟨#[cb (W.cell? ⟨g, 0, none⟩), cb (W.cell? ⟨g, 1, none⟩)]⟩) W := by
  obtain ⟨x, e0, c0⟩ := isU8_out h0
  obtain ⟨y, e1, c1⟩ := isU8_out h1
  rw [c0, c1]
  exact conv_of (ns := [x, y]) (fun j v hj => by
    match j, hj with
    | 0, hj => simp at hj; rw [← hj]; exact e0
    | 1, hj => simp at hj; rw [← hj]; exact e1
    | _ + 2, hj => simp at hj)
theorem conv4 (W : World) (g c : Nat) (h0 : isU8 (W.cell? ⟨g, 0, none⟩) = true) (h1 : isU8 (W.cell? ⟨g, 1, none⟩) = true) (h2 : isU8 (W.cell? ⟨g, 2, none⟩) = true) (h3 : isU8 (W.cell? ⟨g, 3, none⟩) = true) :
    (convert 131 9 (.slice (some ⟨g, 0, none⟩) 4 c)).run Tryz.prog W = .ok (.string ⟨#[cb (W.cell? ⟨g, 0, none⟩), cb (W.cell? ⟨g, 1, none⟩), cb (W.cell? ⟨g, 2, none⟩), cb (W.cell? ⟨g, 3, none⟩)]⟩) W := by
  obtain ⟨x, e0, c0⟩ := isU8_out h0
  obtain ⟨y, e1, c1⟩ := isU8_out h1
  obtain ⟨z, e2, c2⟩ := isU8_out h2
  obtain ⟨t, e3, c3⟩ := isU8_out h3
  rw [c0, c1, c2, c3]
  exact conv_of (ns := [x, y, z, t]) (fun j v hj => by
    match j, hj with
    | 0, hj => simp at hj; rw [← hj]; exact e0
    | 1, hj => simp at hj; rw [← hj]; exact e1
    | 2, hj => simp at hj; rw [← hj]; exact e2
    | 3, hj => simp at hj; rw [← hj]; exact e3
    | _ + 4, hj => simp at hj)
end Go.Proofs.YtmfbaijbigodkaaGreatDoor

/-! Contracts of varint.kind, slices.Backward over bytes, varint.Bytes, varint.Long, varint.Put: what each returns. Condition: the table of kinds holds what the program's text lays. -/
namespace Go.Proofs.YtmfbaijbigodkaaGreatDoor
open Go.ChangeShapes Go.WideShapes Go.ChangeAt Go.RowKit Go.Shelf
set_option linter.unusedVariables false
attribute [local go_sem] Oper.semAt_some isU8_some cb_some

/-- the table as one value -/
abbrev kindsV : Value := .agg #[.int .i64 1, .int .i64 64, .int .i64 2, .int .i64 16384, .int .i64 4, .int .i64 1073741824]
theorem kinds_at0 (w : World) : (Instr.index 230 kindsV (.int .i64 0)).run Tryz.prog w = .ok (.agg #[.int .i64 1, .int .i64 64]) w := by kernel_rfl
theorem kinds_at1 (w : World) : (Instr.index 230 kindsV (.int .i64 1)).run Tryz.prog w = .ok (.agg #[.int .i64 2, .int .i64 16384]) w := by kernel_rfl
theorem kinds_at2 (w : World) : (Instr.index 230 kindsV (.int .i64 2)).run Tryz.prog w = .ok (.agg #[.int .i64 4, .int .i64 1073741824]) w := by kernel_rfl

set_option maxRecDepth 100000 in
set_option maxHeartbeats 1600000 in
theorem kind_any (n : Int) (w : World) (hk : KTab w) :
    Calls Tryz.prog 149 #[.int .i64 n] w fun e w' => e = .returned (.int .i64 (kindN n)) ∧ Below w.heap.size w w' := by
  obtain ⟨k0, k1, k2, k3, k4, k5⟩ := hk
  have i0 := kinds_at0
  have i1 := kinds_at1
  have i2 := kinds_at2
  by_cases a : n < 64
  · have E : Hid (kindN n = 0) := Lib.hid (by unfold kindN; rw [if_pos a])
    go_enter Tryz.func149, Tryz.ntmps149
    go_wp2
    refine wp_loop_rounds 1 ?_
    rw [rounds_succ]
    go_wp2
    go_ret
    exact ⟨end_int E.out.symm, (by refine Since.out ?_; repeat (first | with_reducible assumption | with_reducible exact Since.refl _ | with_reducible refine Since.later ?_ (by with_reducible assumption) | with_reducible refine Since.only ?_ (by with_reducible assumption) (by first | assumption | omega | (simp; done) | (simp; omega)) | with_reducible refine Since.alloc ?_ _ | with_reducible refine Since.drewN ?_ _ | with_reducible refine Since.drew ?_ | with_reducible refine Since.set ?_ (by first | assumption | omega | (simp; done) | (simp; omega)) _))⟩
  by_cases b : n < 16384
  · have E : Hid (kindN n = 1) := Lib.hid (by unfold kindN; rw [if_neg a, if_pos b])
    go_enter Tryz.func149, Tryz.ntmps149
    go_wp2
    refine wp_loop_rounds 2 ?_
    rw [rounds_succ]
    go_wp2
    rw [rounds_succ]
    go_wp2
    go_ret
    exact ⟨end_int E.out.symm, (by refine Since.out ?_; repeat (first | with_reducible assumption | with_reducible exact Since.refl _ | with_reducible refine Since.later ?_ (by with_reducible assumption) | with_reducible refine Since.only ?_ (by with_reducible assumption) (by first | assumption | omega | (simp; done) | (simp; omega)) | with_reducible refine Since.alloc ?_ _ | with_reducible refine Since.drewN ?_ _ | with_reducible refine Since.drew ?_ | with_reducible refine Since.set ?_ (by first | assumption | omega | (simp; done) | (simp; omega)) _))⟩
  have E : Hid (kindN n = 2) := Lib.hid (by unfold kindN; rw [if_neg a, if_neg b])
  by_cases c : n < 1073741824
  · go_enter Tryz.func149, Tryz.ntmps149
    go_wp2
    refine wp_loop_rounds 3 ?_
    rw [rounds_succ]
    go_wp2
    rw [rounds_succ]
    go_wp2
    rw [rounds_succ]
    go_wp2
    go_ret
    exact ⟨end_int E.out.symm, (by refine Since.out ?_; repeat (first | with_reducible assumption | with_reducible exact Since.refl _ | with_reducible refine Since.later ?_ (by with_reducible assumption) | with_reducible refine Since.only ?_ (by with_reducible assumption) (by first | assumption | omega | (simp; done) | (simp; omega)) | with_reducible refine Since.alloc ?_ _ | with_reducible refine Since.drewN ?_ _ | with_reducible refine Since.drew ?_ | with_reducible refine Since.set ?_ (by first | assumption | omega | (simp; done) | (simp; omega)) _))⟩
  · go_enter Tryz.func149, Tryz.ntmps149
    go_wp2
    refine wp_loop_rounds 4 ?_
    rw [rounds_succ]
    go_wp2
    rw [rounds_succ]
    go_wp2
    rw [rounds_succ]
    go_wp2
    rw [rounds_succ]
    go_wp2
    go_ret
    exact ⟨end_int E.out.symm, (by refine Since.out ?_; repeat (first | with_reducible assumption | with_reducible exact Since.refl _ | with_reducible refine Since.later ?_ (by with_reducible assumption) | with_reducible refine Since.only ?_ (by with_reducible assumption) (by first | assumption | omega | (simp; done) | (simp; omega)) | with_reducible refine Since.alloc ?_ _ | with_reducible refine Since.drewN ?_ _ | with_reducible refine Since.drew ?_ | with_reducible refine Since.set ?_ (by first | assumption | omega | (simp; done) | (simp; omega)) _))⟩

/-! slices.Backward over bytes of the call's own, each round free to write them -/
/-- an index below K, and a byte -/
abbrev BX (K : Nat) := { x : Int × Int // 0 ≤ x.1 ∧ x.1 < K }
/-- block b holds K bytes -/
def RowU8 (K b : Nat) (W : World) : Prop := ∀ j, j < K → ∃ v, W.cell? ⟨b, j, none⟩ = some (.int .u8 v)
/-- what a round keeps -/
def KpB (K b s : Nat) (W W' : World) : Prop := (RowU8 K b W → RowU8 K b W') ∧ ∀ v, W.cell? ⟨s, 0, none⟩ = some v → W'.cell? ⟨s, 0, none⟩ = some v
theorem KpB.t {K b s : Nat} {A B C : World} (h : KpB K b s A B) (k : KpB K b s B C) : KpB K b s A C := ⟨fun x => k.1 (h.1 x), fun v x => k.2 v (h.2 v x)⟩
theorem KpB.b {K b s B : Nat} (W : World) (l : Nat) (o o' : Obj) (_ : B ≤ l) (h : W.heap[l]? = some o) (hc : o.isCells = false) (_ : o.isWalk = false) : KpB K b s W (W.putObj l o') :=
  ⟨fun x j hj => by
    obtain ⟨v, hv⟩ := x j hj
    exact ⟨v, cell_kept hv (grownBy_putObj' W l o') (fun r e => by cases e; exact ⟨o, h, hc⟩)⟩,
   fun v x => cell_kept x (grownBy_putObj' W l o') (fun r e => by cases e; exact ⟨o, h, hc⟩)⟩
/-- the first k indexes from above -/
def downs (K k : Nat) : List Int := (List.range k).map fun (j : Nat) => (K : Int) - 1 - j
theorem downs_succ (K k : Nat) : downs K (k + 1) = downs K k ++ [(K : Int) - 1 - k] := by simp [downs, List.range_succ]
theorem downs_length (K k : Nat) : (downs K k).length = k := by simp [downs]

set_option maxRecDepth 100000 in
set_option maxHeartbeats 2000000 in
theorem back1_in (F : Fence) (n : Nat) (hf : F.fn 166) (hro : F.round = none) (hn : 1 ≤ n) (l s b K : Nat) (hK : K ≤ 8) (J Jx : List (BX K) → World → Prop)
    (hY : ∀ pre x W, J pre W → pre.length < K → YieldAt F (n - 1) Tryz.prog l #[.int .i64 x.1.1, .int .u8 x.1.2] W fun e W' =>
      (e = .returned (.bool true) ∧ J (pre ++ [x]) W' ∧ KpB K b s W W') ∨ (e = .returned (.bool false) ∧ Jx (pre ++ [x]) W'))
    (W : World) (hs : W.cell? ⟨s, 0, none⟩ = some (.slice (some ⟨b, 0, none⟩) K K)) (hc : RowU8 K b W) (h0 : J [] W) :
    CallsIn F n Tryz.prog 166 #[.func (.yield l) #[] #[], .pointer (some ⟨s, 0, none⟩)] W fun e W' => (∃ v, e = .returned v) ∧
      ((∃ ys : List (BX K), ys.map (·.1.1) = downs K K ∧ J ys W') ∨ (∃ pre : List (BX K), True ∧ Jx pre W')) := by
  have HY := Lib.hid hY
  clear hY
  refine callsIn_of_wp Tryz.func166 rfl hf ?_ hro
  simp only [Tryz.ntmps166, List.size_toArray, List.length_cons, List.length_nil, Nat.reduceAdd, Nat.reduceSub, Array.replicate_succ, Array.replicate_zero, List.push_toArray, List.append_toArray, List.nil_append, List.cons_append]
  gi_wp2
  gi_loopw [3] (fun i wr => ∃ (r : Nat) (pre : List (BX K)), r ≤ K ∧ i = .int .i64 ((r : Int) - 1) ∧ pre.map (·.1.1) = downs K (K - r) ∧ J pre wr ∧ RowU8 K b wr ∧ wr.cell? ⟨s, 0, none⟩ = some (.slice (some ⟨b, 0, none⟩) K K))
    (fun i _ => (intOf i + 1).toNat)
  case atStart => exact ⟨K, [], Nat.le_refl _, rfl, by rw [Nat.sub_self]; rfl, h0, hc, hs⟩
  case round =>
    obtain ⟨r, pre, hr, rfl, hp, hJ, hcr, hsr⟩ := hrel
    have HP := Lib.hid hp
    clear hp
    rcases r with _ | r
    · have HJ := Lib.hid hJ
      clear hJ hcr
      gi_wp2
      go_end0
      exact ⟨⟨_, rfl⟩, .inl ⟨pre, HP.out, HJ.out⟩⟩
    · obtain ⟨v, hv⟩ := hcr r (by omega)
      have hlen : pre.length = K - (r + 1) := by have := congrArg List.length HP.out; simpa [downs_length] using this
      have HR := HY.out pre ⟨((r : Int), v), by simp; omega⟩ wr hJ (by omega)
      rw [show (((r + 1 : Nat) : Int) - 1) = (r : Int) from by omega]
      have HCR := Lib.hid hcr
      have hr2 : (r : Int) < (K : Int) := by omega
      clear hJ hcr hlen
      obtain ⟨fn, tmps, assign, body, hy, hR⟩ := HR
      dsimp only at hy
      gi_wp2
      refine hR.mono ?_
      rintro e W3 (⟨rfl, hJ3, hk3⟩ | ⟨rfl, hJx3⟩)
      · have hs3 := hk3.2 _ hsr
        have HC3 := Lib.hid (hk3.1 HCR.out)
        have HJ3 := Lib.hid hJ3
        clear hJ3 hk3
        gi_wp2
        go_roundw
        case rel => exact ⟨r, pre ++ [⟨((r : Int), v), by simp; omega⟩], by omega, rfl, by rw [List.map_append, HP.out, show K - r = K - (r + 1) + 1 from by omega, downs_succ]; simp; omega, HJ3.out, HC3.out, hs3⟩
        case measure => simp [intOf]
      · gi_wp2
        refine bodyPost_ret (results_none rfl _ _ _) rfl ?_
        exact ⟨⟨_, rfl⟩, .inr ⟨_, trivial, hJx3⟩⟩

theorem back_stops (F : Fence) (n : Nat) (hf : F.fn 166) (hro : F.round = none) (hn : 1 ≤ n) (s b K : Nat) (hK : K ≤ 8) (w : World)
    (hs : w.cell? ⟨s, 0, none⟩ = some (.slice (some ⟨b, 0, none⟩) K K)) (hc : RowU8 K b w) (hsl : s < w.heap.size) (hbl : b < w.heap.size) :
    SeqStopsK F n Tryz.prog 166 #[.pointer (some ⟨s, 0, none⟩)] (fun x : BX K => #[Value.int .i64 x.1.1, Value.int .u8 x.1.2]) (KpB K b s) (fun ys => ys.map (·.1.1) = downs K K) (fun _ => True) K w := fun l J Jx W hW _ _ hY h0 =>
  back1_in F n hf hro hn l s b K hK J Jx hY W ((hW.cell (p := ⟨s, 0, none⟩) hsl).trans hs) (fun j hj => by obtain ⟨v, hv⟩ := hc j hj; exact ⟨v, (hW.cell (p := ⟨b, j, none⟩) hbl).trans hv⟩) h0

set_option maxHeartbeats 1000000 in
theorem backward_in (F : Fence) (n : Nat) (hf : F.fn 150) (hro : F.round = none) (a : Option Addr) (len cap : Nat) (w : World) :
    CallsIn F n Tryz.prog 150 #[.slice a len cap] w fun e w' => e = .returned (.func (.func 166) #[] #[.pointer (some ⟨w.heap.size, 0, none⟩)]) ∧ w' = w.alloc (.cells #[.slice a len cap] 131) := by
  refine callsIn_of_wp Tryz.func150 rfl hf ?_ hro
  simp only [Tryz.ntmps150, List.size_toArray, List.length_cons, List.length_nil, Nat.reduceAdd, Nat.reduceSub, Array.replicate_succ, Array.replicate_zero, List.push_toArray, List.append_toArray, List.nil_append, List.cons_append]
  gi_wp2
  go_ret
  exact ⟨rfl, rfl⟩
/-! varint.Bytes -/
/-- behind rounds at these indexes: the row, and what is left of the number -/
def bstep (s : (Nat → Int) × Int) (i : Int) : (Nat → Int) × Int := (fun (j : Nat) => if (j : Int) = i then s.2 % 256 else s.1 j, s.2 / 256)
def bst (m : Int) (is : List Int) : (Nat → Int) × Int := is.foldl bstep (fun _ => 0, m)
theorem bst_snoc (m : Int) (is : List Int) (i : Int) : bst m (is ++ [i]) = bstep (bst m is) i := by simp [bst]
theorem bst_bounds {m : Int} (h0 : 0 ≤ m) (h1 : m ≤ 4294967296) (is : List Int) : 0 ≤ (bst m is).2 ∧ (bst m is).2 ≤ 4294967296 := by
  have h : ∀ (is : List Int) (s : (Nat → Int) × Int), 0 ≤ s.2 → s.2 ≤ 4294967296 → 0 ≤ (is.foldl bstep s).2 ∧ (is.foldl bstep s).2 ≤ 4294967296 := by
    intro is
    induction is with
    | nil => intro s a b; exact ⟨a, b⟩
    | cons i r ih =>
      intro s a b
      rw [List.foldl_cons]
      exact ih _ (by show 0 ≤ s.2 / 256; omega) (by show s.2 / 256 ≤ 4294967296; omega)
  exact h is _ h0 h1
/-- what the loop's memory holds -/
structure BI (w : World) (gn go gs : Nat) (K : Nat) (m : Int) (pre : List (BX K)) (W : World) : Prop where
  n : W.cell? ⟨gn, 0, none⟩ = some (.int .i64 (bst m (pre.map (·.1.1))).2)
  fn : W.frozen? ⟨gn, 0, none⟩ = false
  r : ∀ j, j < K → W.cell? ⟨go, j, none⟩ = some (.int .u8 ((bst m (pre.map (·.1.1))).1 j))
  fr : ∀ j, j < K → W.frozen? ⟨go, j, none⟩ = false
  s : W.cell? ⟨gs, 0, none⟩ = some (.slice (some ⟨go, 0, none⟩) K K)
theorem BI.own (w : World) (gn go gs K : Nat) (m : Int) : Own (fun (pre : List (BX K)) W => BI w gn go gs K m pre W) := fun _ A B row hs hg hr =>
  ⟨cell_kept hs.n hg hr, (frozen_kept hs.n hg hr).trans hs.fn, fun j hj => cell_kept (hs.r j hj) hg hr, fun j hj => (frozen_kept (hs.r j hj) hg hr).trans (hs.fr j hj), cell_kept hs.s hg hr⟩

theorem BI.step {w W : World} {gn go gs K p : Nat} {m : Int} {pre : List (BX K)} {x : BX K} (h : BI w gn go gs K m pre W) (hx : x.1.1 = (p : Int)) (hp : p < K) (n1 : go ≠ gn) (n2 : gs ≠ gn) (n3 : gs ≠ go) :
    BI w gn go gs K m (pre ++ [x]) ((W.setCell ⟨go, p, none⟩ (.int .u8 ((bst m (pre.map (·.1.1))).2 % 256))).setCell ⟨gn, 0, none⟩ (.int .i64 ((bst m (pre.map (·.1.1))).2 / 256))) := by
  have e : (pre ++ [x]).map (·.1.1) = pre.map (·.1.1) ++ [(p : Int)] := by rw [List.map_append]; simp [hx]
  obtain ⟨hn, hfn, hr, hfr, hs⟩ := h
  have far : ∀ {g o g' o' : Nat}, g ≠ g' → (⟨g', o', none⟩ : Addr) ≠ ⟨g, o, none⟩ := fun hne he => hne (congrArg Addr.block he).symm
  refine ⟨?_, ?_, ?_, ?_, ?_⟩
  · rw [e, bst_snoc]
    exact World.cell?_setCell_same' _ _ _ (by rw [World.cell?_setCell_other _ _ _ _ (far n1.symm), hn]; rfl)
  · rw [World.frozen?_setCell, World.frozen?_setCell]; exact hfn
  · intro j hj
    rw [e, bst_snoc, World.cell?_setCell_other _ _ _ _ (far n1)]
    by_cases hjp : j = p
    · subst hjp
      rw [World.cell?_setCell_same' _ _ _ (by rw [hr j hj]; rfl)]
      simp [bstep]
    · rw [World.cell?_setCell_other _ _ _ _ (fun he => hjp (congrArg Addr.off he).symm), hr j hj]
      simp only [bstep]
      rw [if_neg (by omega)]
  · intro j hj
    rw [World.frozen?_setCell, World.frozen?_setCell]; exact hfr j hj
  · rw [World.cell?_setCell_other _ _ _ _ (far n2), World.cell?_setCell_other _ _ _ _ (far n3)]; exact hs
theorem KpB.step {W : World} {K b s g p : Nat} {v : Int} {q : Value} (n1 : b ≠ g) (n2 : s ≠ g) (n3 : s ≠ b) : KpB K b s W ((W.setCell ⟨b, p, none⟩ (.int .u8 v)).setCell ⟨g, 0, none⟩ q) := by
  have far : ∀ {g o g' o' : Nat}, g ≠ g' → (⟨g', o', none⟩ : Addr) ≠ ⟨g, o, none⟩ := fun hne he => hne (congrArg Addr.block he).symm
  constructor
  · intro h j hj
    obtain ⟨u, hu⟩ := h j hj
    rw [World.cell?_setCell_other _ _ _ _ (far n1)]
    by_cases hjp : j = p
    · subst hjp
      exact ⟨v, World.cell?_setCell_same' _ _ _ (by rw [hu]; rfl)⟩
    · exact ⟨u, by rw [World.cell?_setCell_other _ _ _ _ (fun he => hjp (congrArg Addr.off he).symm)]; exact hu⟩
  · intro u hu
    rw [World.cell?_setCell_other _ _ _ _ (far n2), World.cell?_setCell_other _ _ _ _ (far n3)]
    exact hu

set_option maxRecDepth 100000 in
set_option maxHeartbeats 2000000 in
theorem bytes_k0 (n : Int) (h0 : 0 ≤ n) (h1 : n < 64) (w : World) (hk : KTab w) :
    CallsIn Fence.wide 6 Tryz.prog 126 #[.int .i64 n] w fun e w' => e = .returned (.string ⟨(vbytes n).toArray⟩) ∧ Below w.heap.size w w' := by
  have E : Hid (kindN n = 0) := Lib.hid (by unfold kindN; rw [if_pos (by omega)])
  have V : Hid (∀ ys : List (BX 1), ys.map (·.1.1) = downs 1 1 → vbytes n = [byteOf ((bst (n) (ys.map (·.1.1))).1 0)]) := Lib.hid (fun ys hys => by
    rw [hys]
    unfold vbytes
    rw [if_pos (by omega)]
    have e0 : (bst (n) (downs 1 1)).1 0 = (n) % 256 := rfl
    have g0 : (n) % 256 = n := by omega
    rw [e0, g0])
  have HK := Lib.hid hk
  have hkl := hk.lt
  clear hk
  have hmk : ∀ w : World, (Instr.makeSlice 131 (.int .i64 1) (.int .i64 1)).run Tryz.prog w = .ok (.slice (some ⟨w.heap.size, 0, none⟩) 1 1) (w.alloc (.cells #[.int .u8 0] 5)) := fun _ => by kernel_rfl
  have cv := conv1
  refine callsIn_of_wp_marks Tryz.func126 rfl trivial ?_ rfl
  simp only [Tryz.ntmps126, List.size_toArray, List.length_cons, List.length_nil, Nat.reduceAdd, Nat.reduceSub, Array.replicate_succ, Array.replicate_zero, List.push_toArray, List.append_toArray, List.nil_append, List.cons_append]
  gi_wp2_with (first | (refine ⟨trivial, ?_⟩; gi_at_call 149; refine (callsIn_wide.2 (kind_any n _ (HK.out.alloc _))).mono ?_; rintro e w1 ⟨rfl, hb1⟩; rw [E.out]; (first | (refine keepk (w.heap.size) hb1 ?_ ?_; (first | assumption | (focus (simp; omega)) | (focus (simp; done))); intro lk ck fk)); obtain ⟨k0, k1, k2, k3, k4, k5⟩ := (HK.out.alloc _).later hb1) | (refine ⟨trivial, ?_⟩; gi_at_call 150; refine (backward_in Fence.wide _ trivial rfl _ _ _ _).mono ?_; rintro e w' ⟨rfl, rfl⟩))
  have u1 : w.heap.size < w1.heap.size + 1 := by omega
  have u2 : w.heap.size < w1.heap.size + 1 + 1 := by omega
  have u3 : w.heap.size < w1.heap.size + 1 + 1 + 1 := by omega
  trace "T1"; refine wpIn_rangeFunc_ownF rfl (by omega) (gf := 166) (lb := #[.pointer (some ⟨w1.heap.size + 1 + 1 + 1, 0, none⟩)]) rfl trivial (enters_of Tryz.func166 (by kernel_rfl) rfl)
    (back_stops Fence.wide _ trivial rfl (by omega) (w1.heap.size + 1 + 1 + 1) (w1.heap.size + 1) 1 (by omega) _ (by go_simp) (fun j hj => by
      match j, hj with
      | 0, _ => exact ⟨0, by go_simp⟩) (by first | (simp; done) | (simp; omega)) (by first | (simp; done) | (simp; omega))) KpB.t KpB.b (Below.refl _ _) (fun _ => rfl)
    (fun pre W => BI w w.heap.size (w1.heap.size + 1) (w1.heap.size + 1 + 1) 1 (n) pre W ∧ Below w.heap.size w W)
    (fun _ _ _ => False)
    (OwnFrom.and (Own.from (BI.own _ _ _ _ _ _) _) (ownFrom_below (Nat.le_refl _) (by simp; omega)))
    (fun _ _ _ _ _ hs _ _ => hs)
    ⟨⟨by show _ = some (Value.int .i64 (n)); go_simp, by go_simp, fun j hj => (by
      match j, hj with
      | 0, _ => show _ = some (Value.int .u8 0); go_simp), fun j hj => (by go_simp), by go_simp⟩, (by refine Since.out ?_; repeat (first | with_reducible assumption | with_reducible exact Since.refl _ | with_reducible refine Since.later ?_ (by with_reducible assumption) | with_reducible refine Since.only ?_ (by with_reducible assumption) (by first | assumption | omega | (simp; done) | (simp; omega)) | with_reducible refine Since.alloc ?_ _ | with_reducible refine Since.drewN ?_ _ | with_reducible refine Since.drew ?_ | with_reducible refine Since.set ?_ (by first | assumption | omega | (simp; done) | (simp; omega)) _))⟩
    (fun x => { tmps := #[.int .i64 n, .pointer (some ⟨w.heap.size, 0, none⟩), .string ⟨#[]⟩, .int .i64 0, .pointer (some ⟨w1.heap.size, 0, none⟩), .pointer (some ⟨w1.heap.size + 1 + 1, 0, none⟩), .int .i64 x.1.1, .int .i64 n, .int .i64 0, .int .i64 0, .pointer (some ⟨2, 0, none⟩), .agg #[.int .i64 1, .int .i64 64], .int .i64 n, .int .i64 0, .pointer (some ⟨w1.heap.size, 1, none⟩), .int .i64 64, .int .i64 0, .int .i64 (n), .pointer (some ⟨w1.heap.size, 0, none⟩), .int .i64 1, .slice (some ⟨w1.heap.size + 1, 0, none⟩) 1 1, .slice (some ⟨w1.heap.size + 1, 0, none⟩) 1 1, .func (.func 166) #[] #[.pointer (some ⟨w1.heap.size + 1 + 1 + 1, 0, none⟩)], .int .i64 x.1.1, .int .u8 x.1.2, undef, undef, undef, undef, undef, undef, undef, undef, undef], defers := [] }) ?assign ?body ?done ?stop
  case assign =>
    trace "T2"; intro l x W K hK
    gi_wp2
    exact hK
  case body =>
    trace "T3"; rintro l pre x W ⟨hB, hb⟩ _
    have HB := Lib.hid hB
    obtain ⟨hn, hfn, hr, hfr, hs⟩ := hB
    obtain ⟨p, hp⟩ := Int.eq_ofNat_of_zero_le x.2.1
    have HP := Lib.hid hp
    have hpK : p < 1 := by have := x.2.2; omega
    have cp := hr p hpK
    have fp := hfr p hpK
    obtain ⟨q0, q1⟩ := bst_bounds (m := n) (by omega) (by omega) (pre.map (·.1.1))
    have n1 : w1.heap.size + 1 ≠ w.heap.size := by omega
    have n2 : w1.heap.size + 1 + 1 ≠ w.heap.size := by omega
    rw [hp]
    clear hr hfr hp
    obtain ⟨q, hq⟩ : ∃ q, (bst (n) (pre.map (·.1.1))).2 = q := ⟨_, rfl⟩
    have HQ := Lib.hid hq
    rw [hq] at hn q0 q1
    clear hq
    trace "T4"; gi_wp2
    trace "T5"; refine ⟨(KeepsOthers.setCell _ _ _).trans (KeepsOthers.setCell _ _ _), KpB.step n1 (by omega) (by omega), ?_, (hb.setCell (by simp; omega) _).setCell (by simp) _⟩
    have hst := HB.out.step HP.out hpK n1 n2 (by omega)
    rw [HQ.out] at hst
    exact hst
  case done =>
    trace "T6"; rintro D ys W hD hys ⟨hB, hb⟩ hK
    have HY := Lib.hid (V.out ys hys)
    obtain ⟨hn, hfn, hr, hfr, hs⟩ := hB
    have c0 := hr 0 (by omega)
    clear hr hfr hys
    gi_wp2
    trace "T7"; refine ⟨by simp, .inl ⟨_, _, rfl, run_takeDeferred hK, ?_⟩⟩
    exact ⟨_, results_tmp rfl _ _ _, by rw [HY.out]; rfl, hb.trans (belowK_b (w := w) (Nat.le_refl _) W D _ _ (by simp at hD; omega) hK rfl rfl)⟩
  case stop =>
    rintro D c pre W _ _ h _
    exact h.elim

set_option maxRecDepth 100000 in
set_option maxHeartbeats 2000000 in
theorem bytes_k1 (n : Int) (h0 : 64 ≤ n) (h1 : n < 16384) (w : World) (hk : KTab w) :
    CallsIn Fence.wide 6 Tryz.prog 126 #[.int .i64 n] w fun e w' => e = .returned (.string ⟨(vbytes n).toArray⟩) ∧ Below w.heap.size w w' := by
  have E : Hid (kindN n = 1) := Lib.hid (by unfold kindN; rw [if_neg (by omega), if_pos (by omega)])
  have V : Hid (∀ ys : List (BX 2), ys.map (·.1.1) = downs 2 2 → vbytes n = [byteOf ((bst (n + 16384) (ys.map (·.1.1))).1 0), byteOf ((bst (n + 16384) (ys.map (·.1.1))).1 1)]) := Lib.hid (fun ys hys => by
    rw [hys]
    unfold vbytes
    rw [if_neg (by omega), if_pos (by omega)]
    have e0 : (bst (n + 16384) (downs 2 2)).1 0 = (n + 16384) / 256 % 256 := rfl
    have e1 : (bst (n + 16384) (downs 2 2)).1 1 = (n + 16384) % 256 := rfl
    have g0 : (n + 16384) / 256 % 256 = 64 + n / 256 := by omega
    have g1 : (n + 16384) % 256 = n % 256 := by omega
    rw [e0, g0, e1, g1])
  have HK := Lib.hid hk
  have hkl := hk.lt
  clear hk
  have hmk : ∀ w : World, (Instr.makeSlice 131 (.int .i64 2) (.int .i64 2)).run Tryz.prog w = .ok (.slice (some ⟨w.heap.size, 0, none⟩) 2 2) (w.alloc (.cells #[.int .u8 0, .int .u8 0] 5)) := fun _ => by kernel_rfl
  have cv := conv2
  refine callsIn_of_wp_marks Tryz.func126 rfl trivial ?_ rfl
  simp only [Tryz.ntmps126, List.size_toArray, List.length_cons, List.length_nil, Nat.reduceAdd, Nat.reduceSub, Array.replicate_succ, Array.replicate_zero, List.push_toArray, List.append_toArray, List.nil_append, List.cons_append]
  gi_wp2_with (first | (refine ⟨trivial, ?_⟩; gi_at_call 149; refine (callsIn_wide.2 (kind_any n _ (HK.out.alloc _))).mono ?_; rintro e w1 ⟨rfl, hb1⟩; rw [E.out]; (first | (refine keepk (w.heap.size) hb1 ?_ ?_; (first | assumption | (focus (simp; omega)) | (focus (simp; done))); intro lk ck fk)); obtain ⟨k0, k1, k2, k3, k4, k5⟩ := (HK.out.alloc _).later hb1) | (refine ⟨trivial, ?_⟩; gi_at_call 150; refine (backward_in Fence.wide _ trivial rfl _ _ _ _).mono ?_; rintro e w' ⟨rfl, rfl⟩))
  have u1 : w.heap.size < w1.heap.size + 1 := by omega
  have u2 : w.heap.size < w1.heap.size + 1 + 1 := by omega
  have u3 : w.heap.size < w1.heap.size + 1 + 1 + 1 := by omega
  trace "T1"; refine wpIn_rangeFunc_ownF rfl (by omega) (gf := 166) (lb := #[.pointer (some ⟨w1.heap.size + 1 + 1 + 1, 0, none⟩)]) rfl trivial (enters_of Tryz.func166 (by kernel_rfl) rfl)
    (back_stops Fence.wide _ trivial rfl (by omega) (w1.heap.size + 1 + 1 + 1) (w1.heap.size + 1) 2 (by omega) _ (by go_simp) (fun j hj => by
      match j, hj with
      | 0, _ => exact ⟨0, by go_simp⟩
      | 1, _ => exact ⟨0, by go_simp⟩) (by first | (simp; done) | (simp; omega)) (by first | (simp; done) | (simp; omega))) KpB.t KpB.b (Below.refl _ _) (fun _ => rfl)
    (fun pre W => BI w w.heap.size (w1.heap.size + 1) (w1.heap.size + 1 + 1) 2 (n + 16384) pre W ∧ Below w.heap.size w W)
    (fun _ _ _ => False)
    (OwnFrom.and (Own.from (BI.own _ _ _ _ _ _) _) (ownFrom_below (Nat.le_refl _) (by simp; omega)))
    (fun _ _ _ _ _ hs _ _ => hs)
    ⟨⟨by show _ = some (Value.int .i64 (n + 16384)); go_simp, by go_simp, fun j hj => (by
      match j, hj with
      | 0, _ => show _ = some (Value.int .u8 0); go_simp
      | 1, _ => show _ = some (Value.int .u8 0); go_simp), fun j hj => (by go_simp), by go_simp⟩, (by refine Since.out ?_; repeat (first | with_reducible assumption | with_reducible exact Since.refl _ | with_reducible refine Since.later ?_ (by with_reducible assumption) | with_reducible refine Since.only ?_ (by with_reducible assumption) (by first | assumption | omega | (simp; done) | (simp; omega)) | with_reducible refine Since.alloc ?_ _ | with_reducible refine Since.drewN ?_ _ | with_reducible refine Since.drew ?_ | with_reducible refine Since.set ?_ (by first | assumption | omega | (simp; done) | (simp; omega)) _))⟩
    (fun x => { tmps := #[.int .i64 n, .pointer (some ⟨w.heap.size, 0, none⟩), .string ⟨#[]⟩, .int .i64 1, .pointer (some ⟨w1.heap.size, 0, none⟩), .pointer (some ⟨w1.heap.size + 1 + 1, 0, none⟩), .int .i64 x.1.1, .int .i64 n, .int .i64 1, .int .i64 1, .pointer (some ⟨2, 2, none⟩), .agg #[.int .i64 2, .int .i64 16384], .int .i64 n, .int .i64 1, .pointer (some ⟨w1.heap.size, 1, none⟩), .int .i64 16384, .int .i64 16384, .int .i64 (n + 16384), .pointer (some ⟨w1.heap.size, 0, none⟩), .int .i64 2, .slice (some ⟨w1.heap.size + 1, 0, none⟩) 2 2, .slice (some ⟨w1.heap.size + 1, 0, none⟩) 2 2, .func (.func 166) #[] #[.pointer (some ⟨w1.heap.size + 1 + 1 + 1, 0, none⟩)], .int .i64 x.1.1, .int .u8 x.1.2, undef, undef, undef, undef, undef, undef, undef, undef, undef], defers := [] }) ?assign ?body ?done ?stop
  case assign =>
    trace "T2"; intro l x W K hK
    gi_wp2
    exact hK
  case body =>
    trace "T3"; rintro l pre x W ⟨hB, hb⟩ _
    have HB := Lib.hid hB
    obtain ⟨hn, hfn, hr, hfr, hs⟩ := hB
    obtain ⟨p, hp⟩ := Int.eq_ofNat_of_zero_le x.2.1
    have HP := Lib.hid hp
    have hpK : p < 2 := by have := x.2.2; omega
    have cp := hr p hpK
    have fp := hfr p hpK
    obtain ⟨q0, q1⟩ := bst_bounds (m := n + 16384) (by omega) (by omega) (pre.map (·.1.1))
    have n1 : w1.heap.size + 1 ≠ w.heap.size := by omega
    have n2 : w1.heap.size + 1 + 1 ≠ w.heap.size := by omega
    rw [hp]
    clear hr hfr hp
    obtain ⟨q, hq⟩ : ∃ q, (bst (n + 16384) (pre.map (·.1.1))).2 = q := ⟨_, rfl⟩
    have HQ := Lib.hid hq
    rw [hq] at hn q0 q1
    clear hq
    trace "T4"; gi_wp2
    trace "T5"; refine ⟨(KeepsOthers.setCell _ _ _).trans (KeepsOthers.setCell _ _ _), KpB.step n1 (by omega) (by omega), ?_, (hb.setCell (by simp; omega) _).setCell (by simp) _⟩
    have hst := HB.out.step HP.out hpK n1 n2 (by omega)
    rw [HQ.out] at hst
    exact hst
  case done =>
    trace "T6"; rintro D ys W hD hys ⟨hB, hb⟩ hK
    have HY := Lib.hid (V.out ys hys)
    obtain ⟨hn, hfn, hr, hfr, hs⟩ := hB
    have c0 := hr 0 (by omega); have c1 := hr 1 (by omega)
    clear hr hfr hys
    gi_wp2
    trace "T7"; refine ⟨by simp, .inl ⟨_, _, rfl, run_takeDeferred hK, ?_⟩⟩
    exact ⟨_, results_tmp rfl _ _ _, by rw [HY.out]; rfl, hb.trans (belowK_b (w := w) (Nat.le_refl _) W D _ _ (by simp at hD; omega) hK rfl rfl)⟩
  case stop =>
    rintro D c pre W _ _ h _
    exact h.elim

set_option maxRecDepth 100000 in
set_option maxHeartbeats 2000000 in
theorem bytes_k2 (n : Int) (h0 : 16384 ≤ n) (h1 : n < 1073741824) (w : World) (hk : KTab w) :
    CallsIn Fence.wide 6 Tryz.prog 126 #[.int .i64 n] w fun e w' => e = .returned (.string ⟨(vbytes n).toArray⟩) ∧ Below w.heap.size w w' := by
  have E : Hid (kindN n = 2) := Lib.hid (by unfold kindN; rw [if_neg (by omega), if_neg (by omega)])
  have V : Hid (∀ ys : List (BX 4), ys.map (·.1.1) = downs 4 4 → vbytes n = [byteOf ((bst (n + 2147483648) (ys.map (·.1.1))).1 0), byteOf ((bst (n + 2147483648) (ys.map (·.1.1))).1 1), byteOf ((bst (n + 2147483648) (ys.map (·.1.1))).1 2), byteOf ((bst (n + 2147483648) (ys.map (·.1.1))).1 3)]) := Lib.hid (fun ys hys => by
    rw [hys]
    unfold vbytes
    rw [if_neg (by omega), if_neg (by omega)]
    have e0 : (bst (n + 2147483648) (downs 4 4)).1 0 = (n + 2147483648) / 256 / 256 / 256 % 256 := rfl
    have e1 : (bst (n + 2147483648) (downs 4 4)).1 1 = (n + 2147483648) / 256 / 256 % 256 := rfl
    have e2 : (bst (n + 2147483648) (downs 4 4)).1 2 = (n + 2147483648) / 256 % 256 := rfl
    have e3 : (bst (n + 2147483648) (downs 4 4)).1 3 = (n + 2147483648) % 256 := rfl
    have g0 : (n + 2147483648) / 256 / 256 / 256 % 256 = 128 + n / 16777216 := by omega
    have g1 : (n + 2147483648) / 256 / 256 % 256 = n / 65536 % 256 := by omega
    have g2 : (n + 2147483648) / 256 % 256 = n / 256 % 256 := by omega
    have g3 : (n + 2147483648) % 256 = n % 256 := by omega
    rw [e0, g0, e1, g1, e2, g2, e3, g3])
  have HK := Lib.hid hk
  have hkl := hk.lt
  clear hk
  have hmk : ∀ w : World, (Instr.makeSlice 131 (.int .i64 4) (.int .i64 4)).run Tryz.prog w = .ok (.slice (some ⟨w.heap.size, 0, none⟩) 4 4) (w.alloc (.cells #[.int .u8 0, .int .u8 0, .int .u8 0, .int .u8 0] 5)) := fun _ => by kernel_rfl
  have cv := conv4
  refine callsIn_of_wp_marks Tryz.func126 rfl trivial ?_ rfl
  simp only [Tryz.ntmps126, List.size_toArray, List.length_cons, List.length_nil, Nat.reduceAdd, Nat.reduceSub, Array.replicate_succ, Array.replicate_zero, List.push_toArray, List.append_toArray, List.nil_append, List.cons_append]
  gi_wp2_with (first | (refine ⟨trivial, ?_⟩; gi_at_call 149; refine (callsIn_wide.2 (kind_any n _ (HK.out.alloc _))).mono ?_; rintro e w1 ⟨rfl, hb1⟩; rw [E.out]; (first | (refine keepk (w.heap.size) hb1 ?_ ?_; (first | assumption | (focus (simp; omega)) | (focus (simp; done))); intro lk ck fk)); obtain ⟨k0, k1, k2, k3, k4, k5⟩ := (HK.out.alloc _).later hb1) | (refine ⟨trivial, ?_⟩; gi_at_call 150; refine (backward_in Fence.wide _ trivial rfl _ _ _ _).mono ?_; rintro e w' ⟨rfl, rfl⟩))
  have u1 : w.heap.size < w1.heap.size + 1 := by omega
  have u2 : w.heap.size < w1.heap.size + 1 + 1 := by omega
  have u3 : w.heap.size < w1.heap.size + 1 + 1 + 1 := by omega
  trace "T1"; refine wpIn_rangeFunc_ownF rfl (by omega) (gf := 166) (lb := #[.pointer (some ⟨w1.heap.size + 1 + 1 + 1, 0, none⟩)]) rfl trivial (enters_of Tryz.func166 (by kernel_rfl) rfl)
    (back_stops Fence.wide _ trivial rfl (by omega) (w1.heap.size + 1 + 1 + 1) (w1.heap.size + 1) 4 (by omega) _ (by go_simp) (fun j hj => by
      match j, hj with
      | 0, _ => exact ⟨0, by go_simp⟩
      | 1, _ => exact ⟨0, by go_simp⟩
      | 2, _ => exact ⟨0, by go_simp⟩
      | 3, _ => exact ⟨0, by go_simp⟩) (by first | (simp; done) | (simp; omega)) (by first | (simp; done) | (simp; omega))) KpB.t KpB.b (Below.refl _ _) (fun _ => rfl)
    (fun pre W => BI w w.heap.size (w1.heap.size + 1) (w1.heap.size + 1 + 1) 4 (n + 2147483648) pre W ∧ Below w.heap.size w W)
    (fun _ _ _ => False)
    (OwnFrom.and (Own.from (BI.own _ _ _ _ _ _) _) (ownFrom_below (Nat.le_refl _) (by simp; omega)))
    (fun _ _ _ _ _ hs _ _ => hs)
    ⟨⟨by show _ = some (Value.int .i64 (n + 2147483648)); go_simp, by go_simp, fun j hj => (by
      match j, hj with
      | 0, _ => show _ = some (Value.int .u8 0); go_simp
      | 1, _ => show _ = some (Value.int .u8 0); go_simp
      | 2, _ => show _ = some (Value.int .u8 0); go_simp
      | 3, _ => show _ = some (Value.int .u8 0); go_simp), fun j hj => (by go_simp), by go_simp⟩, (by refine Since.out ?_; repeat (first | with_reducible assumption | with_reducible exact Since.refl _ | with_reducible refine Since.later ?_ (by with_reducible assumption) | with_reducible refine Since.only ?_ (by with_reducible assumption) (by first | assumption | omega | (simp; done) | (simp; omega)) | with_reducible refine Since.alloc ?_ _ | with_reducible refine Since.drewN ?_ _ | with_reducible refine Since.drew ?_ | with_reducible refine Since.set ?_ (by first | assumption | omega | (simp; done) | (simp; omega)) _))⟩
    (fun x => { tmps := #[.int .i64 n, .pointer (some ⟨w.heap.size, 0, none⟩), .string ⟨#[]⟩, .int .i64 2, .pointer (some ⟨w1.heap.size, 0, none⟩), .pointer (some ⟨w1.heap.size + 1 + 1, 0, none⟩), .int .i64 x.1.1, .int .i64 n, .int .i64 2, .int .i64 2, .pointer (some ⟨2, 4, none⟩), .agg #[.int .i64 4, .int .i64 1073741824], .int .i64 n, .int .i64 2, .pointer (some ⟨w1.heap.size, 1, none⟩), .int .i64 1073741824, .int .i64 2147483648, .int .i64 (n + 2147483648), .pointer (some ⟨w1.heap.size, 0, none⟩), .int .i64 4, .slice (some ⟨w1.heap.size + 1, 0, none⟩) 4 4, .slice (some ⟨w1.heap.size + 1, 0, none⟩) 4 4, .func (.func 166) #[] #[.pointer (some ⟨w1.heap.size + 1 + 1 + 1, 0, none⟩)], .int .i64 x.1.1, .int .u8 x.1.2, undef, undef, undef, undef, undef, undef, undef, undef, undef], defers := [] }) ?assign ?body ?done ?stop
  case assign =>
    trace "T2"; intro l x W K hK
    gi_wp2
    exact hK
  case body =>
    trace "T3"; rintro l pre x W ⟨hB, hb⟩ _
    have HB := Lib.hid hB
    obtain ⟨hn, hfn, hr, hfr, hs⟩ := hB
    obtain ⟨p, hp⟩ := Int.eq_ofNat_of_zero_le x.2.1
    have HP := Lib.hid hp
    have hpK : p < 4 := by have := x.2.2; omega
    have cp := hr p hpK
    have fp := hfr p hpK
    obtain ⟨q0, q1⟩ := bst_bounds (m := n + 2147483648) (by omega) (by omega) (pre.map (·.1.1))
    have n1 : w1.heap.size + 1 ≠ w.heap.size := by omega
    have n2 : w1.heap.size + 1 + 1 ≠ w.heap.size := by omega
    rw [hp]
    clear hr hfr hp
    obtain ⟨q, hq⟩ : ∃ q, (bst (n + 2147483648) (pre.map (·.1.1))).2 = q := ⟨_, rfl⟩
    have HQ := Lib.hid hq
    rw [hq] at hn q0 q1
    clear hq
    trace "T4"; gi_wp2
    trace "T5"; refine ⟨(KeepsOthers.setCell _ _ _).trans (KeepsOthers.setCell _ _ _), KpB.step n1 (by omega) (by omega), ?_, (hb.setCell (by simp; omega) _).setCell (by simp) _⟩
    have hst := HB.out.step HP.out hpK n1 n2 (by omega)
    rw [HQ.out] at hst
    exact hst
  case done =>
    trace "T6"; rintro D ys W hD hys ⟨hB, hb⟩ hK
    have HY := Lib.hid (V.out ys hys)
    obtain ⟨hn, hfn, hr, hfr, hs⟩ := hB
    have c0 := hr 0 (by omega); have c1 := hr 1 (by omega); have c2 := hr 2 (by omega); have c3 := hr 3 (by omega)
    clear hr hfr hys
    gi_wp2
    trace "T7"; refine ⟨by simp, .inl ⟨_, _, rfl, run_takeDeferred hK, ?_⟩⟩
    exact ⟨_, results_tmp rfl _ _ _, by rw [HY.out]; rfl, hb.trans (belowK_b (w := w) (Nat.le_refl _) W D _ _ (by simp at hD; omega) hK rfl rfl)⟩
  case stop =>
    rintro D c pre W _ _ h _
    exact h.elim

theorem bytes_any (n : Int) (n0 : 0 ≤ n) (n1 : n ≤ 1073741823) (w : World) (hk : KTab w) :
    Calls Tryz.prog 126 #[.int .i64 n] w fun e w' => e = .returned (.string ⟨(vbytes n).toArray⟩) ∧ Below w.heap.size w w' := by
  refine (callsIn_wide (n := 6)).1 ?_
  by_cases a : n < 64
  · exact bytes_k0 n n0 a w hk
  · by_cases b : n < 16384
    · exact bytes_k1 n (by omega) b w hk
    · exact bytes_k2 n (by omega) (by omega) w hk
end Go.Proofs.YtmfbaijbigodkaaGreatDoor

/-! slices.Chunk over ints by two. Condition: the slice holds an even count of numbers. -/
namespace Go.Proofs.YtmfbaijbigodkaaGreatDoor
open Go.ChangeShapes Go.WideShapes Go.ChangeAt Go.RowKit Go.Shelf
set_option linter.unusedVariables false
attribute [local go_sem] Oper.semAt_some

abbrev CX (K : Nat) := { r : Nat // r < K }
abbrev cxV (b off : Nat) (r : Nat) : Value := .slice (some ⟨b, off + 2 * r, none⟩) 2 2
/-- what a round keeps -/
def KpC (gs gn : Nat) (W W' : World) : Prop := (∀ v, W.cell? ⟨gs, 0, none⟩ = some v → W'.cell? ⟨gs, 0, none⟩ = some v) ∧ ∀ v, W.cell? ⟨gn, 0, none⟩ = some v → W'.cell? ⟨gn, 0, none⟩ = some v
theorem KpC.t {gs gn : Nat} {A B C : World} (h : KpC gs gn A B) (k : KpC gs gn B C) : KpC gs gn A C := ⟨fun v x => k.1 v (h.1 v x), fun v x => k.2 v (h.2 v x)⟩
theorem KpC.b {gs gn B : Nat} (W : World) (l : Nat) (o o' : Obj) (_ : B ≤ l) (h : W.heap[l]? = some o) (hc : o.isCells = false) (_ : o.isWalk = false) : KpC gs gn W (W.putObj l o') :=
  ⟨fun v x => cell_kept x (grownBy_putObj' W l o') (fun r e => by cases e; exact ⟨o, h, hc⟩), fun v x => cell_kept x (grownBy_putObj' W l o') (fun r e => by cases e; exact ⟨o, h, hc⟩)⟩

set_option maxRecDepth 100000 in
set_option maxHeartbeats 2000000 in
theorem chunk1_in (F : Fence) (n : Nat) (hf : F.fn 155) (hro : F.round = none) (hn : 1 ≤ n) (l gs gn b off K cap : Nat) (hc : 2 * K ≤ cap) (hK : K ≤ 1000) (hm : cap ≤ 9223372036854775807) (J Jx : List (CX K) → World → Prop) (hJd : ∀ pre W, J pre W → J pre W.drew)
    (hY : ∀ pre x W, J pre W → pre.length < K → YieldAt F (n - 1) Tryz.prog l #[cxV b off x.1] W fun e W' =>
      (e = .returned (.bool true) ∧ J (pre ++ [x]) W' ∧ KpC gs gn W W') ∨ (e = .returned (.bool false) ∧ Jx (pre ++ [x]) W'))
    (W : World) (hs : W.cell? ⟨gs, 0, none⟩ = some (.slice (some ⟨b, off, none⟩) (2 * K) cap)) (hg : W.cell? ⟨gn, 0, none⟩ = some (.int .i64 2)) (h0 : J [] W) :
    CallsIn F n Tryz.prog 155 #[.func (.yield l) #[] #[], .pointer (some ⟨gs, 0, none⟩), .pointer (some ⟨gn, 0, none⟩)] W fun e W' => (∃ v, e = .returned v) ∧
      ((∃ ys : List (CX K), ys.map (·.1) = List.range K ∧ J ys W') ∨ (∃ pre : List (CX K), True ∧ Jx pre W')) := by
  have HY := Lib.hid hY
  clear hY
  refine callsIn_of_wp Tryz.func155 rfl hf ?_ hro
  simp only [Tryz.ntmps155, List.size_toArray, List.length_cons, List.length_nil, Nat.reduceAdd, Nat.reduceSub, Array.replicate_succ, Array.replicate_zero, List.push_toArray, List.append_toArray, List.nil_append, List.cons_append]
  gi_wp2
  gi_loopw [4] (fun i wr => ∃ (r : Nat) (pre : List (CX K)), r ≤ K ∧ i = .int .i64 ((2 * r : Nat) : Int) ∧ pre.map (·.1) = List.range r ∧ J pre wr ∧ wr.cell? ⟨gs, 0, none⟩ = some (.slice (some ⟨b, off, none⟩) (2 * K) cap) ∧ wr.cell? ⟨gn, 0, none⟩ = some (.int .i64 2))
    (fun i _ => 2 * K - (intOf i).toNat)
  case atStart => exact ⟨0, [], Nat.zero_le _, rfl, rfl, h0, hs, hg⟩
  case round =>
    obtain ⟨r, pre, hr, rfl, hp, hJ, hsr, hgr⟩ := hrel
    have HP := Lib.hid hp
    clear hp
    by_cases hlt : r < K
    case neg =>
      obtain rfl : r = K := by omega
      have HJ := Lib.hid hJ
      have hf : decide (((2 * r : Nat) : Int) < ((2 * r : Nat) : Int)) = false := by simp
      clear hJ
      gi_wp2
      go_end0
      exact ⟨⟨_, rfl⟩, .inl ⟨pre, HP.out, HJ.out⟩⟩
    have hlen : pre.length = r := by have := congrArg List.length HP.out; simpa using this
    have HR := HY.out pre ⟨r, hlt⟩ wr.drew (hJd _ _ hJ) (by omega)
    have HRR := Lib.hid HR
    clear hJ hlen HR hs hg h0
    obtain ⟨i, hi⟩ : ∃ i, 2 * r = i := ⟨_, rfl⟩
    obtain ⟨N, hN⟩ : ∃ N, 2 * K = N := ⟨_, rfl⟩
    have HI := Lib.hid hi
    have HN := Lib.hid hN
    have h2 : i + 2 ≤ N := by omega
    rw [hN] at hc hsr
    have hlt2 : (i : Int) < (N : Int) := by omega
    have hnc : ¬ cap = i := by omega
    have hle : (i : Int) + 2 ≤ (cap : Int) := by omega
    have hmin : min (2 : Int) ((N - i : Nat) : Int) = 2 := by omega
    have hto : ((i : Int) + 2).toNat = i + 2 := by omega
    have hto2 : i + 2 - i = 2 := by omega
    have hci : i ≤ 1000000000000 := by omega
    rw [hi, hN]
    have HRR' : Hid (YieldAt F (n - 1) Tryz.prog l #[.slice (some ⟨b, off + i, none⟩) 2 2] wr.drew fun e W' =>
      (e = .returned (.bool true) ∧ J (pre ++ [⟨r, hlt⟩]) W' ∧ KpC gs gn wr.drew W') ∨ (e = .returned (.bool false) ∧ Jx (pre ++ [⟨r, hlt⟩]) W')) := Lib.hid (by rw [← hi]; exact HRR.out)
    have HM : Hid (2 * (r + 1) = i + 2) := Lib.hid (by omega)
    clear HRR hi hN hr
    trace "A"; gi_wp2
    trace "B"; gi_region
    all_goals
      obtain ⟨fn, tmps, assign, body, hy, hR⟩ := HRR'.out
      (try dsimp only at hy)
      have HR := Lib.hid hR
      clear hR
      trace "C"; gi_wp2
      trace "D"; refine HR.out.mono ?_
      rintro e W3 (⟨rfl, hJ3, hk3⟩ | ⟨rfl, hJx3⟩)
      · have hs3 := hk3.1 _ hsr
        have hg3 := hk3.2 _ hgr
        have HJ3 := Lib.hid hJ3
        clear hJ3 hk3
        trace "E"; gi_wp2
        go_roundw
        case rel => exact ⟨r + 1, pre ++ [⟨r, hlt⟩], by omega, by rw [HM.out]; go_num, by rw [List.map_append, HP.out, List.range_succ]; rfl, HJ3.out, hs3, hg3⟩
        case measure => have := HN.out; simp [intOf]; omega
      · trace "F"; gi_wp2
        refine bodyPost_ret (results_none rfl _ _ _) rfl ?_
        exact ⟨⟨_, rfl⟩, .inr ⟨_, trivial, hJx3⟩⟩

theorem drew_grown (w : World) : w.grownBy w.drew none := ⟨rfl, rfl, rfl, Nat.le_refl _, fun _ _ _ => rfl⟩
theorem chunk_stops (F : Fence) (n : Nat) (hf : F.fn 155) (hro : F.round = none) (hn : 1 ≤ n) (gs gn b off K cap : Nat) (hc : 2 * K ≤ cap) (hK : K ≤ 1000) (hm : cap ≤ 9223372036854775807) (w : World)
    (hs : w.cell? ⟨gs, 0, none⟩ = some (.slice (some ⟨b, off, none⟩) (2 * K) cap)) (hg : w.cell? ⟨gn, 0, none⟩ = some (.int .i64 2)) (hsl : gs < w.heap.size) (hgl : gn < w.heap.size) :
    SeqStopsK F n Tryz.prog 155 #[.pointer (some ⟨gs, 0, none⟩), .pointer (some ⟨gn, 0, none⟩)] (fun x : CX K => #[cxV b off x.1]) (KpC gs gn) (fun ys => ys.map (·.1) = List.range K) (fun _ => True) K w := fun l J Jx W hW hJ _ hY h0 =>
  chunk1_in F n hf hro hn l gs gn b off K cap hc hK hm J Jx (fun pre W' h => hJ _ _ _ none h (drew_grown W') (fun r e => by cases e)) hY W ((hW.cell (p := ⟨gs, 0, none⟩) hsl).trans hs) ((hW.cell (p := ⟨gn, 0, none⟩) hgl).trans hg) h0
set_option maxHeartbeats 1000000 in
theorem chunk_in (F : Fence) (n : Nat) (hf : F.fn 134) (hro : F.round = none) (a : Option Addr) (len cap : Nat) (w : World) :
    CallsIn F n Tryz.prog 134 #[.slice a len cap, .int .i64 2] w fun e w' => e = .returned (.func (.func 155) #[] #[.pointer (some ⟨w.heap.size, 0, none⟩), .pointer (some ⟨w.heap.size + 1, 0, none⟩)]) ∧ w' = (w.alloc (.cells #[.slice a len cap] 22)).alloc (.cells #[.int .i64 2] 3) := by
  refine callsIn_of_wp Tryz.func134 rfl hf ?_ hro
  simp only [Tryz.ntmps134, List.size_toArray, List.length_cons, List.length_nil, Nat.reduceAdd, Nat.reduceSub, Array.replicate_succ, Array.replicate_zero, List.push_toArray, List.append_toArray, List.nil_append, List.cons_append]
  gi_wp2
  go_ret
  exact ⟨rfl, rfl⟩
end Go.Proofs.YtmfbaijbigodkaaGreatDoor

/-! Contract of frame.Ranges. Condition: the numbers can be read, an even count of them, not none, no more than 24. -/
namespace Go.Proofs.YtmfbaijbigodkaaGreatDoor
open Go.ChangeShapes Go.WideShapes Go.ChangeAt Go.RowKit Go.Shelf
set_option linter.unusedVariables false
attribute [local go_sem] Oper.semAt_some

/-- the ranges of these pairs -/
def rgList (L : List Int) {K : Nat} (pre : List (CX K)) : List Rng := pre.map fun x => ⟨ith L (2 * x.1 + 1), ith L (2 * x.1)⟩
theorem rgList_snoc (L : List Int) {K : Nat} (pre : List (CX K)) (x : CX K) : rgList L (pre ++ [x]) = rgList L pre ++ [⟨ith L (2 * x.1 + 1), ith L (2 * x.1)⟩] := by simp [rgList]
/-- frame.Ranges' state: the box of what it makes, and that -/
structure RgSt (w : World) (L : List Int) (K : Nat) (v : Value) (pre : List (CX K)) (W : World) : Prop where
  bs : BlockIs W (w.heap.size + 1) 22 #[v]
  bn : BlockIs W (w.heap.size + 1 + 1) 3 #[.int .i64 2]
  bx : ∃ (A : Option Addr) (cap : Nat), BlockIs W w.heap.size 44 #[.slice A pre.length cap] ∧ Lst W 101 2 (.slice A pre.length cap) ((rgList L pre).map rngRow) ∧ (∀ q, q ∈ blocks (.slice A 0 0) → w.heap.size ≤ q ∧ w.heap.size ≠ q)
theorem block_grown {W W' : World} {g : Nat} {t : TypeId} {cs : Array Value} {row : Option Nat} (h : BlockIs W g t cs) (hg : W.grownBy W' row) (hr : ∀ r, row = some r → ∃ o : Obj, W.heap[r]? = some o ∧ o.isCells = false) : BlockIs W' g t cs :=
  (hg.block g h.lt (fun e => by
    obtain ⟨o, ho, hc⟩ := hr g e.symm
    rw [show W.heap[g]? = _ from h] at ho
    cases ho
    cases hc)).trans h
theorem lst_grown {W W' : World} {E size : Nat} {v : Value} {es : List (List Value)} {row : Option Nat} (h : Lst W E size v es) (hg : W.grownBy W' row) (hr : ∀ r, row = some r → ∃ o : Obj, W.heap[r]? = some o ∧ o.isCells = false) : Lst W' E size v es := by
  refine h.kept (Out.of_grown (S := row.toList) hg (fun k hk => Or.inl (by rw [hk]; simp))) (fun k hk hk2 => ?_)
  have hrow : row = some k := by simpa [Option.mem_toList] using hk2
  obtain ⟨o, ho, hc⟩ := hr k hrow
  rcases h.own.2 with ⟨rfl, _⟩ | ⟨g, cap, cur, rfl, _, hgg, _⟩
  · simp [Value.ownBlock] at hk
  · have : g = k := by simpa [Value.ownBlock] using hk
    subst this
    rw [hgg] at ho
    cases ho
    cases hc
theorem RgSt.own (w : World) (L : List Int) (K : Nat) (v : Value) : Own (fun (pre : List (CX K)) W => RgSt w L K v pre W) := fun _ W W' row hs hg hr => by
  obtain ⟨A, cap, h1, h2, h3⟩ := hs.bx
  exact ⟨block_grown hs.bs hg hr, block_grown hs.bn hg hr, A, cap, block_grown h1 hg hr, lst_grown h2 hg hr, h3⟩
theorem keeps_out {w w' : World} {E size : Nat} {v : Value} {es : List (List Value)} (h : Lst w E size v es) (ho : Out w w' (blocks v)) : KeepsOthers w w' := ⟨ho.size, fun k o hk hc => by
  have hlt : k < w.heap.size := (Array.getElem?_eq_some_iff.1 hk).1
  rw [ho.block k hlt (fun hm => by
    rcases h.own.2 with ⟨rfl, _⟩ | ⟨g, cap, cur, rfl, _, hgg, _⟩
    · simp [Value.ownBlock] at hm
    · have : g = k := by simpa [Value.ownBlock] using hm
      subst this
      rw [hgg] at hk
      cases hk
      cases hc)]
  exact hk⟩

theorem pairs_map {L : List Int} {K : Nat} (h : L.length = 2 * K) {pre : List (CX K)} (hp : pre.map (·.1) = List.range K) : (rgList L pre) = pairs L := by
  have h1 : rgList L pre = (pre.map (·.1)).map fun r => (⟨ith L (2 * r + 1), ith L (2 * r)⟩ : Rng) := by rw [List.map_map]; rfl
  have hl : (pairs L).length = K := by have := pairs_len L (by omega); omega
  rw [h1, hp]
  refine List.ext_getElem (by simp [hl]) (fun i h2 h3 => ?_)
  have := pairs_at L i (by omega) (by omega)
  rw [rat_get h3] at this
  simp [this]

set_option maxRecDepth 100000 in
set_option maxHeartbeats 2000000 in
theorem franges_in (A : Option Addr) (cap : Nat) (L : List Int) (K : Nat) (w : World) (h : IntsIn w (.slice A L.length cap) L) (hl : L.length = 2 * K) (h0 : 0 < K) (h12 : K ≤ 12) :
    CallsIn Fence.wide 6 Tryz.prog 101 #[.slice A L.length cap] w fun e w' => ∃ A' cap', e = .returned (.slice A' K cap') ∧ Lst w' 101 2 (.slice A' K cap') ((pairs L).map rngRow) ∧ Below w.heap.size w w' ∧ (∀ q, q ∈ blocks (.slice A' 0 0) → w.heap.size ≤ q) := by
  obtain ⟨_, A2, cap2, hv, q1, q2, hA⟩ := h
  simp only [Value.slice.injEq, true_and] at hv
  obtain ⟨rfl, rfl⟩ := hv
  obtain ⟨b, off, rfl, hbl, hc⟩ := hA (by intro h0; rw [h0] at hl; simp at hl; omega)
  rw [hl] at q1 hc ⊢
  have HC := Lib.hid hc
  have HL := Lib.hid hl
  have hcm : cap ≤ 9223372036854775807 := by unfold maxLen at q2; omega
  clear hA hc hl q2
  refine callsIn_of_wp_marks Tryz.func101 rfl trivial ?_ rfl
  simp only [Tryz.ntmps101, List.size_toArray, List.length_cons, List.length_nil, Nat.reduceAdd, Nat.reduceSub, Array.replicate_succ, Array.replicate_zero, List.push_toArray, List.append_toArray, List.nil_append, List.cons_append]
  trace "A"; gi_wp2_with (refine ⟨trivial, ?_⟩; gi_at_call 134; refine (chunk_in Fence.wide _ trivial rfl _ _ _ _).mono ?_; rintro e w' ⟨rfl, rfl⟩)
  refine wpIn_rangeFunc_ownF rfl (by omega) (gf := 155) (lb := #[.pointer (some ⟨w.heap.size + 1, 0, none⟩), .pointer (some ⟨w.heap.size + 1 + 1, 0, none⟩)]) rfl trivial (enters_of Tryz.func155 (by kernel_rfl) rfl)
    (chunk_stops Fence.wide _ trivial rfl (by omega) (w.heap.size + 1) (w.heap.size + 1 + 1) b off K cap q1 (by omega) hcm _ (by go_simp) (by go_simp) (by first | (simp; done) | (simp; omega)) (by first | (simp; done) | (simp; omega))) KpC.t KpC.b (Below.refl _ _) (fun _ => rfl)
    (fun pre W => RgSt w L K (.slice (some ⟨b, off, none⟩) (2 * K) cap) pre W ∧ Below w.heap.size w W)
    (fun _ _ _ => False)
    (OwnFrom.and (Own.from (RgSt.own w L K _) _) (ownFrom_below (Nat.le_refl _) (by simp; omega)))
    (fun _ _ _ _ _ hs _ _ => hs)
    ⟨⟨(BlockIs.fresh_at (by simp)).alloc _, BlockIs.fresh_at (by simp), none, 0, ((BlockIs.fresh w _ _).alloc _).alloc _, Lst.nil _ _ _, by simp [Value.ownBlock]⟩, (by refine Since.out ?_; repeat (first | with_reducible assumption | with_reducible exact Since.refl _ | with_reducible refine Since.later ?_ (by with_reducible assumption) | with_reducible refine Since.only ?_ (by with_reducible assumption) (by first | assumption | omega | (simp; done) | (simp; omega)) | with_reducible refine Since.alloc ?_ _ | with_reducible refine Since.drewN ?_ _ | with_reducible refine Since.drew ?_ | with_reducible refine Since.set ?_ (by first | assumption | omega | (simp; done) | (simp; omega)) _))⟩
    (fun x => { tmps := #[.slice (some ⟨b, off, none⟩) (2 * K) cap, undef, .slice none 0 0, .pointer (some ⟨w.heap.size, 0, none⟩), cxV b off x.1, .slice (some ⟨b, off, none⟩) (2 * K) cap, .func (.func 155) #[] #[.pointer (some ⟨w.heap.size + 1, 0, none⟩), .pointer (some ⟨w.heap.size + 1 + 1, 0, none⟩)], cxV b off x.1, undef, undef, undef, undef, undef, undef, undef, undef, undef, undef, undef], defers := [] }) ?assign ?body ?done ?stop
  case assign =>
    trace "B"; intro l x W K hK
    gi_wp2
    exact hK
  case body =>
    trace "C"; rintro l pre x W ⟨hB, hb⟩ hpl
    obtain ⟨A, c, h1, h2, h3⟩ := hB.bx
    have HS := Lib.hid h1
    have HLS := Lib.hid h2
    have HNW := Lib.hid h3
    have HBS := Lib.hid hB.bs
    have HBN := Lib.hid hB.bn
    have HB := Lib.hid hb
    have hcell : ∀ X, Below w.heap.size w X → X.cell? ⟨b, off + 2 * x.1, none⟩ = some (.int .i64 (ith L (2 * x.1))) ∧ X.cell? ⟨b, off + 2 * x.1 + 1, none⟩ = some (.int .i64 (ith L (2 * x.1 + 1))) := fun X hX =>
      ⟨(hX.cell (p := ⟨b, off + 2 * x.1, none⟩) hbl).trans (HC.out _ (by have := x.2; omega)), (hX.cell (p := ⟨b, off + (2 * x.1 + 1), none⟩) hbl).trans (HC.out _ (by have := x.2; omega))⟩
    have HCE := Lib.hid hcell
    have hlw : w.heap.size < W.heap.size := h1.lt
    have HML : Hid (((rgList L pre).map rngRow).length = pre.length) := Lib.hid (by simp [rgList])
    have e0 : W.cell? ⟨b, off + 2 * x.1, none⟩ = some (.int .i64 (ith L (2 * x.1))) := (hb.cell (p := ⟨b, off + 2 * x.1, none⟩) hbl).trans (HC.out _ (by have := x.2; omega))
    have e1 : W.cell? ⟨b, off + 2 * x.1 + 1, none⟩ = some (.int .i64 (ith L (2 * x.1 + 1))) := (hb.cell (p := ⟨b, off + (2 * x.1 + 1), none⟩) hbl).trans (HC.out _ (by have := x.2; omega))
    have eb : W.cell? ⟨w.heap.size, 0, none⟩ = some (.slice A pre.length c) := h1.cell 0
    clear hB h1 h2 h3 hcell
    refine wpIn_block ?_
    have hS0 : W.drew.cell? ⟨b, off + 2 * x.1, none⟩ = some (.int .i64 (ith L (2 * x.1))) ∧ W.drew.cell? ⟨b, off + 2 * x.1 + 1, none⟩ = some (.int .i64 (ith L (2 * x.1 + 1))) := ⟨e0, e1⟩
    refine region_in_held (S := fun w' => w'.cell? ⟨b, off + 2 * x.1, none⟩ = some (.int .i64 (ith L (2 * x.1))) ∧ w'.cell? ⟨b, off + 2 * x.1 + 1, none⟩ = some (.int .i64 (ith L (2 * x.1 + 1)))) (by kernel_rfl) (by kernel_rfl) (fun ⟨_, _, h⟩ => h) ?_
    refine wpAnyH_take (i := 1) (oi := ⟨some 9, .move (.tmp 4), 22, "frame.go:32", #[], none⟩) (v := (cxV b off x.1)) rfl (by kernel_rfl) (by kernel_rfl) (by kernel_rfl) (fun _ _ _ h => h) (Or.inl ⟨by rfl, fun w9 ⟨hS1, hS2⟩ => by go_simp⟩) hS0 ?_
    simp only [Act.put, List.setIfInBounds_toArray, List.set_cons_zero, List.set_cons_succ]
    refine wpAnyH_take (i := 4) (oi := ⟨some 12, .move (.tmp 4), 22, "frame.go:32", #[], none⟩) (v := (cxV b off x.1)) rfl (by kernel_rfl) (by kernel_rfl) (by kernel_rfl) (fun _ _ _ h => h) (Or.inl ⟨by rfl, fun w9 ⟨hS1, hS2⟩ => by go_simp⟩) hS0 ?_
    simp only [Act.put, List.setIfInBounds_toArray, List.set_cons_zero, List.set_cons_succ]
    refine wpAnyH_take (i := 2) (oi := ⟨some 10, .indexAddr 22 (.tmp 9) (.const (.int .i64 1)), 0, "frame.go:32", #[⟨1, .data⟩], none⟩) (v := (.pointer (some ⟨b, off + 2 * x.1 + 1, none⟩))) rfl (by kernel_rfl) (by kernel_rfl) (by kernel_rfl) (fun _ _ _ h => h) (Or.inl ⟨by rfl, fun w9 ⟨hS1, hS2⟩ => by go_simp⟩) hS0 ?_
    simp only [Act.put, List.setIfInBounds_toArray, List.set_cons_zero, List.set_cons_succ]
    refine wpAnyH_take (i := 5) (oi := ⟨some 13, .indexAddr 22 (.tmp 12) (.const (.int .i64 0)), 0, "frame.go:32", #[⟨4, .data⟩], none⟩) (v := (.pointer (some ⟨b, off + 2 * x.1, none⟩))) rfl (by kernel_rfl) (by kernel_rfl) (by kernel_rfl) (fun _ _ _ h => h) (Or.inl ⟨by rfl, fun w9 ⟨hS1, hS2⟩ => by go_simp⟩) hS0 ?_
    simp only [Act.put, List.setIfInBounds_toArray, List.set_cons_zero, List.set_cons_succ]
    refine wpAnyH_take (i := 3) (oi := ⟨some 11, .load 3 (.tmp 10), 3, "frame.go:32", #[⟨2, .data⟩], none⟩) (v := (.int .i64 (ith L (2 * x.1 + 1)))) rfl (by kernel_rfl) (by kernel_rfl) (by kernel_rfl) (fun _ _ _ h => h) (Or.inl ⟨by rfl, fun w9 ⟨hS1, hS2⟩ => by go_simp⟩) hS0 ?_
    simp only [Act.put, List.setIfInBounds_toArray, List.set_cons_zero, List.set_cons_succ]
    refine wpAnyH_take (i := 6) (oi := ⟨some 14, .load 3 (.tmp 13), 3, "frame.go:32", #[⟨5, .data⟩], none⟩) (v := (.int .i64 (ith L (2 * x.1)))) rfl (by kernel_rfl) (by kernel_rfl) (by kernel_rfl) (fun _ _ _ h => h) (Or.inl ⟨by rfl, fun w9 ⟨hS1, hS2⟩ => by go_simp⟩) hS0 ?_
    simp only [Act.put, List.setIfInBounds_toArray, List.set_cons_zero, List.set_cons_succ]
    refine wpAnyH_take (i := 7) (oi := ⟨some 15, .build 101 #[(0, .tmp 11), (1, .tmp 14)], 101, "frame.go:32", #[⟨3, .data⟩, ⟨6, .data⟩], none⟩) (v := (.agg #[.int .i64 (ith L (2 * x.1 + 1)), .int .i64 (ith L (2 * x.1))])) rfl (by kernel_rfl) (by kernel_rfl) (by kernel_rfl) (fun _ _ _ h => h) (Or.inl ⟨by rfl, fun w9 ⟨hS1, hS2⟩ => by go_simp⟩) hS0 ?_
    simp only [Act.put, List.setIfInBounds_toArray, List.set_cons_zero, List.set_cons_succ]
    have hb1 : Below w.heap.size w ((W.alloc (.cells #[.int .i64 (ith L (2 * x.1 + 1)), .int .i64 (ith L (2 * x.1))] 101)).drew) := (show Since w ((W.alloc (.cells #[.int .i64 (ith L (2 * x.1 + 1)), .int .i64 (ith L (2 * x.1))] 101)).drew) from (by refine Since.out ?_; repeat (first | with_reducible assumption | with_reducible exact Since.refl _ | with_reducible refine Since.later ?_ (by with_reducible assumption) | with_reducible refine Since.only ?_ (by with_reducible assumption) (by first | assumption | omega | (simp; done) | (simp; omega)) | with_reducible refine Since.alloc ?_ _ | with_reducible refine Since.drewN ?_ _ | with_reducible refine Since.drew ?_ | with_reducible refine Since.set ?_ (by first | assumption | omega | (simp; done) | (simp; omega)) _)))
    have hb0 : Below w.heap.size w W.drew := (show Since w W.drew from (by refine Since.out ?_; repeat (first | with_reducible assumption | with_reducible exact Since.refl _ | with_reducible refine Since.later ?_ (by with_reducible assumption) | with_reducible refine Since.only ?_ (by with_reducible assumption) (by first | assumption | omega | (simp; done) | (simp; omega)) | with_reducible refine Since.alloc ?_ _ | with_reducible refine Since.drewN ?_ _ | with_reducible refine Since.drew ?_ | with_reducible refine Since.set ?_ (by first | assumption | omega | (simp; done) | (simp; omega)) _)))
    have HL1 : Hid (Lst ((W.alloc (.cells #[.int .i64 (ith L (2 * x.1 + 1)), .int .i64 (ith L (2 * x.1))] 101)).drew) 101 2 (.slice A pre.length c) ((rgList L pre).map rngRow)) := Lib.hid (HLS.out.alloc _).drew
    refine wpAnyH_ready (rs := [0, 8]) (by kernel_rfl) (by simp) (AllReadyH.cons (o := ⟨some 8, .load 44 (.tmp 3), 44, "frame.go:32", #[], none⟩) rfl (fun K hK => ?_) (AllReadyH.cons (o := ⟨some 16, .buildSlice 44 1 #[(0, .tmp 15)], 44, "frame.go:32", #[⟨7, .data⟩], none⟩) rfl (fun K hK => ?_) AllReadyH.nil))
    · skip
      go_simp
      refine hK.out _ _ (HCE.out _ hb0) (fun hHeld => ?_)
      clear hK K
      (try simp only [Act.put, List.setIfInBounds_toArray, List.set_cons_zero, List.set_cons_succ])
      refine wpAnyH_ready (rs := [8]) (by kernel_rfl) (by simp) (AllReadyH.cons (o := ⟨some 16, .buildSlice 44 1 #[(0, .tmp 15)], 44, "frame.go:32", #[⟨7, .data⟩], none⟩) rfl (fun K hK => ?_) AllReadyH.nil)
      go_simp
      refine hK.out _ _ (HCE.out _ hb1) (fun hHeld => ?_)
      clear hK K
      (try simp only [Act.put, List.setIfInBounds_toArray, List.set_cons_zero, List.set_cons_succ])
      refine wpAnyH_ready (rs := [9]) (by kernel_rfl) (by simp) (AllReadyH.cons (o := ⟨some 17, .call { callee := .builtin .append, args := #[.tmp 8, .tmp 16], argTypes := #[44, 44] }, 44, "frame.go:32", #[⟨0, .data⟩, ⟨8, .data⟩], none⟩) rfl (fun K hK => ?_) AllReadyH.nil)
      refine step_push rfl _ _ 44 rfl 101 2 16 Tryz.elRange (.slice A pre.length c) ((rgList L pre).map rngRow) rfl HL1.out W.heap.size 1 [.int .i64 (ith L (2 * x.1 + 1)), .int .i64 (ith L (2 * x.1))] rfl rfl (rngRow_one ⟨ith L (2 * x.1 + 1), ith L (2 * x.1)⟩).2 (BlockIs.fresh _ _ _) (by rw [HML.out]; omega) ?_
      intro q cq w3 hl3 ho3 hq3 hlt3
      rw [HML.out] at hl3
      have hb3 : Below w.heap.size w w3 := ho3.below hb1 (by simp; omega) (fun k hk => (HNW.out k (by rw [blocks_any A 0 0 pre.length c]; exact hk)).1)
      have HB3 := Lib.hid hb3
      have hbx : BlockIs w3 w.heap.size 44 #[.slice A pre.length c] := ho3.block' ((HS.out.alloc _).drew) (fun hk => (HNW.out _ (by rw [blocks_any A 0 0 pre.length c]; exact hk)).2 rfl)
      have hbs3 := ho3.block' ((HBS.out.alloc _).drew) (HL1.out.apart ((HBS.out.alloc _).drew) (by decide))
      have hbn3 := ho3.block' ((HBN.out.alloc _).drew) (HL1.out.apart ((HBN.out.alloc _).drew) (by decide))
      have hk3 := keeps_out HL1.out ho3
      have hqn : w.heap.size ≤ q ∧ w.heap.size ≠ q := by
        rcases hq3 with h | h
        · exact HNW.out q (by rw [blocks_any A 0 0 pre.length c]; exact h)
        · rw [h]; simp; omega
      refine hK.out _ _ (HCE.out _ hb3) (fun hHeld => ?_)
      clear hK K
      (try simp only [Act.put, List.setIfInBounds_toArray, List.set_cons_zero, List.set_cons_succ])
      refine wpAnyH_ready (rs := [10]) (by kernel_rfl) (by simp) (AllReadyH.cons (o := ⟨none, .store 44 (.tmp 3) (.tmp 17), 0, "frame.go:32", #[⟨9, .data⟩, ⟨9, .chain⟩, ⟨0, .phase⟩, ⟨1, .phase⟩, ⟨2, .phase⟩, ⟨3, .phase⟩, ⟨4, .phase⟩, ⟨5, .phase⟩, ⟨6, .phase⟩, ⟨7, .phase⟩, ⟨8, .phase⟩, ⟨9, .phase⟩], none⟩) rfl (fun K hK => ?_) AllReadyH.nil)
      have d3 : w3.cell? ⟨w.heap.size, 0, none⟩ = some (.slice A pre.length c) := hbx.cell 0
      have f3 := hbx.free
      have l3 := hbx.lt
      go_simp
      refine hK.out _ _ (HCE.out _ (hb3.setCell (by simp) _)) (fun hHeld => ?_)
      clear hK K
      refine wpAnyH_done (by kernel_rfl) ?_ _
      have hlr : Lst w3 101 2 (.slice (some ⟨q, 0, none⟩) (pre ++ [x]).length cq) ((rgList L (pre ++ [x])).map rngRow) := by
        rw [rgList_snoc, List.map_append, List.length_append]
        exact hl3
      refine ⟨(KeepsOthers.alloc W _).trans ((KeepsOthers.drew _).trans (hk3.trans (KeepsOthers.setCell _ _ _))), ⟨fun v hv => ?_, fun v hv => ?_⟩, ⟨hbs3.far (by simp) _, hbn3.far (by simp; omega) _, some ⟨q, 0, none⟩, cq, ?_, ?_, ?_⟩, hb3.setCell (by simp) _⟩
      · rw [HBS.out.cell] at hv; exact ((hbs3.far (by simp) _).cell 0).trans hv
      · rw [HBN.out.cell] at hv; exact ((hbn3.far (by simp; omega) _).cell 0).trans hv
      · have hp := hbx.put 0 (.slice (some ⟨q, 0, none⟩) ((rgList L pre).length + 1) cq)
        rw [List.length_append, show pre.length + [x].length = (rgList L pre).length + 1 by simp [rgList]]
        exact hp
      · exact hlr.kept ((Out.refl w3 [w.heap.size]).put (Or.inl (by simp)) _) (fun k hk hk2 => by
          have h1 : q = k := by simpa [Value.ownBlock] using hk
          have h2 : k = w.heap.size := by simpa using hk2
          omega)
      · intro k hk
        have h1 : q = k := by simpa [Value.ownBlock] using hk
        omega
    · skip
      go_simp
      refine hK.out _ _ (HCE.out _ hb1) (fun hHeld => ?_)
      clear hK K
      (try simp only [Act.put, List.setIfInBounds_toArray, List.set_cons_zero, List.set_cons_succ])
      refine wpAnyH_ready (rs := [0]) (by kernel_rfl) (by simp) (AllReadyH.cons (o := ⟨some 8, .load 44 (.tmp 3), 44, "frame.go:32", #[], none⟩) rfl (fun K hK => ?_) AllReadyH.nil)
      go_simp
      refine hK.out _ _ (HCE.out _ hb1) (fun hHeld => ?_)
      clear hK K
      (try simp only [Act.put, List.setIfInBounds_toArray, List.set_cons_zero, List.set_cons_succ])
      refine wpAnyH_ready (rs := [9]) (by kernel_rfl) (by simp) (AllReadyH.cons (o := ⟨some 17, .call { callee := .builtin .append, args := #[.tmp 8, .tmp 16], argTypes := #[44, 44] }, 44, "frame.go:32", #[⟨0, .data⟩, ⟨8, .data⟩], none⟩) rfl (fun K hK => ?_) AllReadyH.nil)
      refine step_push rfl _ _ 44 rfl 101 2 16 Tryz.elRange (.slice A pre.length c) ((rgList L pre).map rngRow) rfl HL1.out W.heap.size 1 [.int .i64 (ith L (2 * x.1 + 1)), .int .i64 (ith L (2 * x.1))] rfl rfl (rngRow_one ⟨ith L (2 * x.1 + 1), ith L (2 * x.1)⟩).2 (BlockIs.fresh _ _ _) (by rw [HML.out]; omega) ?_
      intro q cq w3 hl3 ho3 hq3 hlt3
      rw [HML.out] at hl3
      have hb3 : Below w.heap.size w w3 := ho3.below hb1 (by simp; omega) (fun k hk => (HNW.out k (by rw [blocks_any A 0 0 pre.length c]; exact hk)).1)
      have HB3 := Lib.hid hb3
      have hbx : BlockIs w3 w.heap.size 44 #[.slice A pre.length c] := ho3.block' ((HS.out.alloc _).drew) (fun hk => (HNW.out _ (by rw [blocks_any A 0 0 pre.length c]; exact hk)).2 rfl)
      have hbs3 := ho3.block' ((HBS.out.alloc _).drew) (HL1.out.apart ((HBS.out.alloc _).drew) (by decide))
      have hbn3 := ho3.block' ((HBN.out.alloc _).drew) (HL1.out.apart ((HBN.out.alloc _).drew) (by decide))
      have hk3 := keeps_out HL1.out ho3
      have hqn : w.heap.size ≤ q ∧ w.heap.size ≠ q := by
        rcases hq3 with h | h
        · exact HNW.out q (by rw [blocks_any A 0 0 pre.length c]; exact h)
        · rw [h]; simp; omega
      refine hK.out _ _ (HCE.out _ hb3) (fun hHeld => ?_)
      clear hK K
      (try simp only [Act.put, List.setIfInBounds_toArray, List.set_cons_zero, List.set_cons_succ])
      refine wpAnyH_ready (rs := [10]) (by kernel_rfl) (by simp) (AllReadyH.cons (o := ⟨none, .store 44 (.tmp 3) (.tmp 17), 0, "frame.go:32", #[⟨9, .data⟩, ⟨9, .chain⟩, ⟨0, .phase⟩, ⟨1, .phase⟩, ⟨2, .phase⟩, ⟨3, .phase⟩, ⟨4, .phase⟩, ⟨5, .phase⟩, ⟨6, .phase⟩, ⟨7, .phase⟩, ⟨8, .phase⟩, ⟨9, .phase⟩], none⟩) rfl (fun K hK => ?_) AllReadyH.nil)
      have d3 : w3.cell? ⟨w.heap.size, 0, none⟩ = some (.slice A pre.length c) := hbx.cell 0
      have f3 := hbx.free
      have l3 := hbx.lt
      go_simp
      refine hK.out _ _ (HCE.out _ (hb3.setCell (by simp) _)) (fun hHeld => ?_)
      clear hK K
      refine wpAnyH_done (by kernel_rfl) ?_ _
      have hlr : Lst w3 101 2 (.slice (some ⟨q, 0, none⟩) (pre ++ [x]).length cq) ((rgList L (pre ++ [x])).map rngRow) := by
        rw [rgList_snoc, List.map_append, List.length_append]
        exact hl3
      refine ⟨(KeepsOthers.alloc W _).trans ((KeepsOthers.drew _).trans (hk3.trans (KeepsOthers.setCell _ _ _))), ⟨fun v hv => ?_, fun v hv => ?_⟩, ⟨hbs3.far (by simp) _, hbn3.far (by simp; omega) _, some ⟨q, 0, none⟩, cq, ?_, ?_, ?_⟩, hb3.setCell (by simp) _⟩
      · rw [HBS.out.cell] at hv; exact ((hbs3.far (by simp) _).cell 0).trans hv
      · rw [HBN.out.cell] at hv; exact ((hbn3.far (by simp; omega) _).cell 0).trans hv
      · have hp := hbx.put 0 (.slice (some ⟨q, 0, none⟩) ((rgList L pre).length + 1) cq)
        rw [List.length_append, show pre.length + [x].length = (rgList L pre).length + 1 by simp [rgList]]
        exact hp
      · exact hlr.kept ((Out.refl w3 [w.heap.size]).put (Or.inl (by simp)) _) (fun k hk hk2 => by
          have h1 : q = k := by simpa [Value.ownBlock] using hk
          have h2 : k = w.heap.size := by simpa using hk2
          omega)
      · intro k hk
        have h1 : q = k := by simpa [Value.ownBlock] using hk
        omega
  case done =>
    trace "D"; rintro D ys W hD hys ⟨hB, hb⟩ hK
    obtain ⟨A, c, h1, h2, h3⟩ := hB.bx
    have hpm := pairs_map HL.out hys
    have hyl : ys.length = K := by have := congrArg List.length hys; simpa using this
    rw [show rgList L ys = pairs L from hpm, hyl] at h2
    rw [hyl] at h1
    have e0 : W.cell? ⟨w.heap.size, 0, none⟩ = some (.slice A K c) := h1.cell 0
    have l0 := h1.lt
    have HL2 := Lib.hid h2
    have HN := Lib.hid h3
    have HB := Lib.hid hb
    clear h1 h2 h3 hB hpm
    gi_wp2
    refine ⟨by simp, .inl ⟨_, _, rfl, run_takeDeferred hK, ?_⟩⟩
    exact ⟨_, results_tmp rfl _ _ _, A, c, rfl, lst_grown HL2.out (grownBy_putObj' W D _) (fun r e => by cases e; exact ⟨_, hK, rfl⟩), hb.trans (belowK_b (w := w) (Nat.le_refl _) W D _ _ (by simp at hD; omega) hK rfl rfl), fun q hq => (HN.out q hq).1⟩
  case stop =>
    rintro D c pre W _ _ h _
    exact h.elim
theorem franges (A : Option Addr) (cap : Nat) (L : List Int) (K : Nat) (w : World) (h : IntsIn w (.slice A L.length cap) L) (hl : L.length = 2 * K) (h0 : 0 < K) (h12 : K ≤ 12) :
    Calls Tryz.prog 101 #[.slice A L.length cap] w fun e w' => ∃ A' cap', e = .returned (.slice A' K cap') ∧ Lst w' 101 2 (.slice A' K cap') ((pairs L).map rngRow) ∧ Below w.heap.size w w' ∧ (∀ q, q ∈ blocks (.slice A' 0 0) → w.heap.size ≤ q) :=
  callsIn_wide.1 (franges_in A cap L K w h hl h0 h12)
end Go.Proofs.YtmfbaijbigodkaaGreatDoor

/-! Contracts of wireref1.Long and wireref1.Bytes: what each returns. No condition but that the number may be. -/
namespace Go.Proofs.YtmfbaijbigodkaaGreatDoor
open Go.ChangeShapes Go.WideShapes Go.ChangeAt Go.RowKit
set_option linter.unusedVariables false
attribute [local go_sem] isU8_some cb_some

theorem rlong_any (n : Int) (w : World) : Calls Tryz.prog 117 #[.int .i64 n] w fun e w' => e = .returned (.int .i64 (longN n)) ∧ w = w' := by
  by_cases a : n < 64
  · have E : Hid (longN n = 1) := Lib.hid (by unfold longN; rw [if_pos a])
    go_enter Tryz.func117, Tryz.ntmps117
    go_wp2
    go_ret
    exact ⟨end_int E.out.symm, rfl⟩
  by_cases b : n < 16384
  · have E : Hid (longN n = 2) := Lib.hid (by unfold longN; rw [if_neg a, if_pos b])
    go_enter Tryz.func117, Tryz.ntmps117
    go_wp2
    go_ret
    exact ⟨end_int E.out.symm, rfl⟩
  · have E : Hid (longN n = 4) := Lib.hid (by unfold longN; rw [if_neg a, if_neg b])
    go_enter Tryz.func117, Tryz.ntmps117
    go_wp2
    go_ret
    exact ⟨end_int E.out.symm, rfl⟩

theorem byteOf_mod {n : Int} (h : 0 ≤ n) : byteOf (n % 256) = byteOf n := by
  unfold byteOf
  apply UInt8.toNat_inj.1
  rw [UInt8.toNat_ofNat', UInt8.toNat_ofNat']
  omega

set_option maxRecDepth 100000 in
set_option maxHeartbeats 1600000 in
theorem rbytes_any (n : Int) (n0 : 0 ≤ n) (n1 : n ≤ 1073741823) (w : World) :
    Calls Tryz.prog 83 #[.int .i64 n] w fun e w' => e = .returned (.string ⟨(vbytes n).toArray⟩) ∧ Below w.heap.size w w' := by
  have c1 := conv1
  have c2 := conv2
  have c4 := conv4
  by_cases a : n < 64
  · have E : Hid (longN n = 1) := Lib.hid (by unfold longN; rw [if_pos a])
    have V : Hid (vbytes n = [byteOf n]) := Lib.hid (by unfold vbytes; rw [if_pos a])
    go_enter Tryz.func83, Tryz.ntmps83
    go_wp2_with (go_at_call 117; refine (rlong_any n _).mono ?_; rintro e w' ⟨rfl, rfl⟩; rw [E.out])
    go_ret
    exact ⟨by rw [V.out]; rfl, (by refine Since.out ?_; repeat (first | with_reducible assumption | with_reducible exact Since.refl _ | with_reducible refine Since.later ?_ (by with_reducible assumption) | with_reducible refine Since.only ?_ (by with_reducible assumption) (by first | assumption | omega | (simp; done) | (simp; omega)) | with_reducible refine Since.alloc ?_ _ | with_reducible refine Since.drewN ?_ _ | with_reducible refine Since.drew ?_ | with_reducible refine Since.set ?_ (by first | assumption | omega | (simp; done) | (simp; omega)) _))⟩
  by_cases b : n < 16384
  · have E : Hid (longN n = 2) := Lib.hid (by unfold longN; rw [if_neg a, if_pos b])
    have V : Hid (vbytes n = [byteOf (64 + n / 256), byteOf (n % 256)]) := Lib.hid (by unfold vbytes; rw [if_neg a, if_pos b])
    go_enter Tryz.func83, Tryz.ntmps83
    go_wp2_with (go_at_call 117; refine (rlong_any n _).mono ?_; rintro e w' ⟨rfl, rfl⟩; rw [E.out])
    go_ret
    exact ⟨by rw [V.out]; rfl, (by refine Since.out ?_; repeat (first | with_reducible assumption | with_reducible exact Since.refl _ | with_reducible refine Since.later ?_ (by with_reducible assumption) | with_reducible refine Since.only ?_ (by with_reducible assumption) (by first | assumption | omega | (simp; done) | (simp; omega)) | with_reducible refine Since.alloc ?_ _ | with_reducible refine Since.drewN ?_ _ | with_reducible refine Since.drew ?_ | with_reducible refine Since.set ?_ (by first | assumption | omega | (simp; done) | (simp; omega)) _))⟩
  · have E : Hid (longN n = 4) := Lib.hid (by unfold longN; rw [if_neg a, if_neg b])
    have V : Hid (vbytes n = [byteOf (128 + n / 16777216), byteOf (n / 65536 % 256), byteOf (n / 256 % 256), byteOf (n % 256)]) := Lib.hid (by unfold vbytes; rw [if_neg a, if_neg b])
    go_enter Tryz.func83, Tryz.ntmps83
    go_wp2_with (go_at_call 117; refine (rlong_any n _).mono ?_; rintro e w' ⟨rfl, rfl⟩; rw [E.out])
    go_ret
    exact ⟨by rw [V.out]; rfl, (by refine Since.out ?_; repeat (first | with_reducible assumption | with_reducible exact Since.refl _ | with_reducible refine Since.later ?_ (by with_reducible assumption) | with_reducible refine Since.only ?_ (by with_reducible assumption) (by first | assumption | omega | (simp; done) | (simp; omega)) | with_reducible refine Since.alloc ?_ _ | with_reducible refine Since.drewN ?_ _ | with_reducible refine Since.drew ?_ | with_reducible refine Since.set ?_ (by first | assumption | omega | (simp; done) | (simp; omega)) _))⟩
end Go.Proofs.YtmfbaijbigodkaaGreatDoor

/-! Contracts of package number: bytes, round, Least, Need, Short, Cut, Whole. No condition but that the arguments are ints. -/
namespace Go.Proofs.YtmfbaijbigodkaaGreatDoor
open Go.ChangeShapes Go.WideShapes Go.ChangeAt Go.RowKit
set_option linter.unusedVariables false

/-- the round of so many bytes -/
def rnd (b : Int) : Int := if b = 1 then 256 else if b = 2 then 65536 else if b = 3 then 16777216 else 4294967296
theorem rnd_bounds (b : Int) : 256 ≤ rnd b ∧ rnd b ≤ 4294967296 := by
  unfold rnd
  omega
theorem four {b : Int} (h1 : 1 ≤ b) (h2 : b ≤ 4) : b = 1 ∨ b = 2 ∨ b = 3 ∨ b = 4 := by omega

theorem nbytes_yes (n : Int) (h1 : 1 ≤ n) (h2 : n ≤ 4) (w : World) :
    Calls Tryz.prog 151 #[.int .i64 n] w fun e w' => e = .returned (.bool true) ∧ w = w' := by
  go_enter Tryz.func151, Tryz.ntmps151
  go_wp2
  go_ret
  exact ⟨rfl, rfl⟩
theorem nbytes_no (n : Int) (h : ¬ (1 ≤ n ∧ n ≤ 4)) (w : World) :
    Calls Tryz.prog 151 #[.int .i64 n] w fun e w' => e = .returned (.bool false) ∧ w = w' := by
  by_cases h1 : 1 ≤ n
  · have h2 : decide (n ≤ 4) = false := by simp; omega
    clear h
    go_enter Tryz.func151, Tryz.ntmps151
    go_wp2
    go_ret
    exact ⟨rfl, rfl⟩
  · clear h
    go_enter Tryz.func151, Tryz.ntmps151
    go_wp2
    go_ret
    exact ⟨rfl, rfl⟩

theorem round_any (n : Int) (h1 : 1 ≤ n) (h2 : n ≤ 4) (w : World) :
    Calls Tryz.prog 123 #[.int .i64 n] w fun e w' => e = .returned (.int .i64 (rnd n)) ∧ w = w' := by
  rcases four h1 h2 with rfl | rfl | rfl | rfl
  all_goals
    go_enter Tryz.func123, Tryz.ntmps123
    go_wp2
    go_ret
    exact ⟨rfl, rfl⟩

theorem short_any (x b : Int) (h0 : 0 ≤ x) (h1 : 1 ≤ b) (h2 : b ≤ 4) (w : World) :
    Calls Tryz.prog 122 #[.int .i64 x, .int .i64 b] w fun e w' => e = .returned (.int .i64 (x % rnd b)) ∧ w = w' := by
  obtain ⟨r1, r2⟩ := rnd_bounds b
  go_enter Tryz.func122, Tryz.ntmps122
  go_wp2_with (go_at_call 123; refine (round_any b h1 h2 _).mono ?_; rintro e w' ⟨rfl, rfl⟩)
  go_ret
  exact ⟨rfl, rfl⟩

/-! Whole -/
def wholeUp (cut r next : Int) : Int := if cut < next + r / 2 then cut + (next + r / 2 - cut) / r * r else cut
def wholeN (cut b next : Int) : Int := if 1073741823 < wholeUp cut (rnd b) next then wholeUp cut (rnd b) next - rnd b else wholeUp cut (rnd b) next
/-- what Whole takes -/
def WholeOk (cut b next : Int) : Prop := MayBe next ∧ (1 ≤ b ∧ b ≤ 4) ∧ 0 ≤ cut ∧ cut < rnd b ∧ cut ≤ 1073741823

set_option maxHeartbeats 1000000 in
theorem whole_yes (cut b next : Int) (h : WholeOk cut b next) (w : World) :
    Calls Tryz.prog 130 #[.int .i64 cut, .int .i64 b, .int .i64 next] w fun e w' => e = .returned (.tuple #[.int .i64 (wholeN cut b next), .nilIface]) ∧ w = w' := by
  obtain ⟨⟨n1, n2⟩, ⟨b1, b2⟩, c1, c2, c3⟩ := h
  rcases four b1 b2 with rfl | rfl | rfl | rfl
  all_goals
    simp only [rnd] at c2
    simp at c2
    go_enter Tryz.func130, Tryz.ntmps130
    go_wp2_with (first | (go_at_call 93; refine (may_yes next n1 n2 _).mono ?_; rintro e w' ⟨rfl, rfl⟩) | (go_at_call 151; refine (nbytes_yes _ b1 b2 _).mono ?_; rintro e w' ⟨rfl, rfl⟩) | (go_at_call 123; refine (round_any _ b1 b2 _).mono ?_; rintro e w' ⟨rfl, rfl⟩; simp only [rnd]))
    all_goals
      go_ret2
      exact ⟨end_int2 (by unfold wholeN wholeUp rnd; simp; omega), rfl⟩

theorem whole_no (cut b next : Int) (h : ¬ WholeOk cut b next) (w : World) :
    Calls Tryz.prog 130 #[.int .i64 cut, .int .i64 b, .int .i64 next] w fun e w' => e = .returned (.tuple #[.int .i64 0, .iface 84 (.int .i64 1)]) ∧ w = w' := by
  by_cases hm : MayBe next
  case neg =>
    clear h
    go_enter Tryz.func130, Tryz.ntmps130
    go_wp2_with (go_at_call 93; refine (may_no next hm _).mono ?_; rintro e w' ⟨rfl, rfl⟩)
    go_ret2
    exact ⟨rfl, rfl⟩
  have n1 := hm.1
  have n2 := hm.2
  by_cases hb : 1 ≤ b ∧ b ≤ 4
  case neg =>
    clear h hm
    go_enter Tryz.func130, Tryz.ntmps130
    go_wp2_with (first | (go_at_call 93; refine (may_yes next n1 n2 _).mono ?_; rintro e w' ⟨rfl, rfl⟩) | (go_at_call 151; refine (nbytes_no _ hb _).mono ?_; rintro e w' ⟨rfl, rfl⟩))
    go_ret2
    exact ⟨rfl, rfl⟩
  by_cases h0 : 0 ≤ cut
  case neg =>
    obtain ⟨b1, b2⟩ := hb
    clear h hm
    go_enter Tryz.func130, Tryz.ntmps130
    go_wp2_with (first | (go_at_call 93; refine (may_yes next n1 n2 _).mono ?_; rintro e w' ⟨rfl, rfl⟩) | (go_at_call 151; refine (nbytes_yes _ b1 b2 _).mono ?_; rintro e w' ⟨rfl, rfl⟩))
    go_ret2
    exact ⟨rfl, rfl⟩
  by_cases hr : rnd b ≤ cut
  · obtain ⟨b1, b2⟩ := hb
    clear h hm
    go_enter Tryz.func130, Tryz.ntmps130
    go_wp2_with (first | (go_at_call 93; refine (may_yes next n1 n2 _).mono ?_; rintro e w' ⟨rfl, rfl⟩) | (go_at_call 151; refine (nbytes_yes _ b1 b2 _).mono ?_; rintro e w' ⟨rfl, rfl⟩) | (go_at_call 123; refine (round_any _ b1 b2 _).mono ?_; rintro e w' ⟨rfl, rfl⟩))
    go_ret2
    exact ⟨rfl, rfl⟩
  · have hc : 1073741823 < cut := by
      rcases Int.lt_or_le 1073741823 cut with h1 | h1
      · exact h1
      · exact absurd ⟨hm, hb, h0, by omega, h1⟩ h
    obtain ⟨b1, b2⟩ := hb
    clear h hm
    go_enter Tryz.func130, Tryz.ntmps130
    go_wp2_with (first | (go_at_call 93; refine (may_yes next n1 n2 _).mono ?_; rintro e w' ⟨rfl, rfl⟩) | (go_at_call 151; refine (nbytes_yes _ b1 b2 _).mono ?_; rintro e w' ⟨rfl, rfl⟩) | (go_at_call 123; refine (round_any _ b1 b2 _).mono ?_; rintro e w' ⟨rfl, rfl⟩))
    go_ret2
    exact ⟨rfl, rfl⟩

/-! Need -/
def leastN (d : Int) : Int := if 2 * d ≤ 256 then 1 else if 2 * d ≤ 65536 then 2 else if 2 * d ≤ 16777216 then 3 else 4
theorem leastN_bounds (d : Int) : 1 ≤ leastN d ∧ leastN d ≤ 4 := by unfold leastN; omega
theorem leastN_up (d k : Int) (h1 : 1 ≤ k) (h2 : k ≤ leastN d) (h : rnd k < 2 * d) (hd : d ≤ 1073741824) : k + 1 ≤ leastN d := by
  obtain ⟨_, b⟩ := leastN_bounds d
  rcases four h1 (by omega) with rfl | rfl | rfl | rfl <;> simp [rnd] at h <;> unfold leastN at * <;> omega
theorem leastN_at (d k : Int) (h1 : 1 ≤ k) (h2 : k ≤ leastN d) (h : 2 * d ≤ rnd k) : k = leastN d := by
  obtain ⟨_, b⟩ := leastN_bounds d
  rcases four h1 (by omega) with rfl | rfl | rfl | rfl <;> simp [rnd] at h <;> unfold leastN at * <;> omega

set_option maxHeartbeats 1000000 in
theorem least_any (n known : Int) (h1 : known < n) (h2 : -1 ≤ known) (h3 : n ≤ 1073741823) (w : World) :
    Calls Tryz.prog 88 #[.int .i64 n, .int .i64 known] w fun e w' => e = .returned (.int .i64 (leastN (n - known))) ∧ w = w' := by
  go_enter Tryz.func88, Tryz.ntmps88
  go_wp2
  go_loop [5] (fun b => ∃ k : Int, 1 ≤ k ∧ k ≤ leastN (n - known) ∧ b = .int .i64 k) (fun b => (4 - intOf b).toNat)
  case atStart => exact ⟨1, by omega, (leastN_bounds _).1, rfl⟩
  case round =>
    obtain ⟨k, k1, k2, rfl⟩ := hrel
    obtain ⟨l1, l2⟩ := leastN_bounds (n - known)
    have k4 : k ≤ 4 := by omega
    obtain ⟨r1, r2⟩ := rnd_bounds k
    by_cases hlt : rnd k < 2 * (n - known)
    · have hu := leastN_up (n - known) k k1 k2 hlt (by omega)
      go_wp2_with (go_at_call 123; refine (round_any k k1 k4 _).mono ?_; rintro e w' ⟨rfl, rfl⟩)
      go_round
      case rel => exact ⟨k + 1, by omega, hu, rfl⟩
      case measure => simp [intOf]; omega
    · have hu := leastN_at (n - known) k k1 k2 (by omega)
      have HU := Lib.hid hu
      clear hu
      go_wp2_with (go_at_call 123; refine (round_any k k1 k4 _).mono ?_; rintro e w' ⟨rfl, rfl⟩)
      go_ret
      exact ⟨end_int HU.out, rfl⟩

/-- what Need takes -/
def NeedOk (n known : Int) : Prop := MayBe n ∧ -1 ≤ known ∧ known < n
theorem need_yes (n known : Int) (h : NeedOk n known) (w : World) :
    Calls Tryz.prog 164 #[.int .i64 n, .int .i64 known] w fun e w' => e = .returned (.tuple #[.int .i64 (leastN (n - known)), .nilIface]) ∧ w = w' := by
  obtain ⟨⟨n1, n2⟩, k1, k2⟩ := h
  go_enter Tryz.func164, Tryz.ntmps164
  go_wp2_with (first | (go_at_call 93; refine (may_yes n n1 n2 _).mono ?_; rintro e w' ⟨rfl, rfl⟩) | (go_at_call 88; refine (least_any n known k2 k1 n2 _).mono ?_; rintro e w' ⟨rfl, rfl⟩))
  go_ret2
  exact ⟨rfl, rfl⟩
theorem need_no (n known : Int) (h : ¬ NeedOk n known) (w : World) :
    Calls Tryz.prog 164 #[.int .i64 n, .int .i64 known] w fun e w' => e = .returned (.tuple #[.int .i64 0, .iface 84 (.int .i64 1)]) ∧ w = w' := by
  by_cases hm : MayBe n
  case neg =>
    clear h
    go_enter Tryz.func164, Tryz.ntmps164
    go_wp2_with (go_at_call 93; refine (may_no n hm _).mono ?_; rintro e w' ⟨rfl, rfl⟩)
    go_ret2
    exact ⟨rfl, rfl⟩
  have n1 := hm.1
  have n2 := hm.2
  by_cases hk : known < -1
  · clear h hm
    go_enter Tryz.func164, Tryz.ntmps164
    go_wp2_with (go_at_call 93; refine (may_yes n n1 n2 _).mono ?_; rintro e w' ⟨rfl, rfl⟩)
    go_ret2
    exact ⟨rfl, rfl⟩
  · have hn : n ≤ known := by
      rcases Int.lt_or_le known n with h1 | h1
      · exact absurd ⟨hm, by omega, h1⟩ h
      · exact h1
    clear h hm
    go_enter Tryz.func164, Tryz.ntmps164
    go_wp2_with (go_at_call 93; refine (may_yes n n1 n2 _).mono ?_; rintro e w' ⟨rfl, rfl⟩)
    go_ret2
    exact ⟨rfl, rfl⟩

/-! plain laws -/
theorem wholeN_cut (cut b next : Int) (h : WholeOk cut b next) : wholeN cut b next % rnd b = cut ∧ 0 ≤ wholeN cut b next ∧ wholeN cut b next ≤ 1073741823 := by
  obtain ⟨⟨n1, n2⟩, ⟨b1, b2⟩, c1, c2, c3⟩ := h
  rcases four b1 b2 with rfl | rfl | rfl | rfl <;> simp [rnd] at c2 <;> simp [wholeN, wholeUp, rnd] <;> omega
theorem wholeN_back (n known more : Int) (h : NeedOk n known) (m1 : known ≤ more) (m2 : more < n) :
    WholeOk (n % rnd (leastN (n - known))) (leastN (n - known)) (more + 1) ∧ wholeN (n % rnd (leastN (n - known))) (leastN (n - known)) (more + 1) = n := by
  obtain ⟨⟨n1, n2⟩, k1, k2⟩ := h
  obtain ⟨b1, b2⟩ := leastN_bounds (n - known)
  have hd : 2 * (n - known) ≤ rnd (leastN (n - known)) := by unfold leastN rnd; omega
  generalize leastN (n - known) = b at *
  rcases four b1 b2 with rfl | rfl | rfl | rfl <;> simp [rnd] at hd <;> simp [WholeOk, MayBe, wholeN, wholeUp, rnd] <;> omega
/-- the same by who expects any number behind the one that is known, up to a hundred beyond its own -/
theorem wholeN_about (n known next : Int) (h : NeedOk n known) (hm : MayBe next) (m1 : known < next) (m2 : next ≤ n + 100) :
    WholeOk (n % rnd (leastN (n - known))) (leastN (n - known)) next ∧ wholeN (n % rnd (leastN (n - known))) (leastN (n - known)) next = n := by
  obtain ⟨⟨n1, n2⟩, k1, k2⟩ := h
  obtain ⟨h1, h2⟩ := hm
  obtain ⟨b1, b2⟩ := leastN_bounds (n - known)
  have hd : 2 * (n - known) ≤ rnd (leastN (n - known)) := by unfold leastN rnd; omega
  generalize leastN (n - known) = b at *
  rcases four b1 b2 with rfl | rfl | rfl | rfl <;> simp [rnd] at hd <;> simp [WholeOk, MayBe, wholeN, wholeUp, rnd] <;> omega
end Go.Proofs.YtmfbaijbigodkaaGreatDoor

/-! Contracts of wireref1.Round and wireref1.Far. -/
namespace Go.Proofs.YtmfbaijbigodkaaGreatDoor
open Go.ChangeShapes Go.WideShapes Go.ChangeAt Go.RowKit
set_option linter.unusedVariables false

set_option maxHeartbeats 1000000 in
theorem rround_any (n : Int) (h1 : 1 ≤ n) (h2 : n ≤ 4) (w : World) :
    Calls Tryz.prog 90 #[.int .i64 n] w fun e w' => e = .returned (.int .i64 (rnd n)) ∧ w = w' := by
  rcases four h1 h2 with rfl | rfl | rfl | rfl
  all_goals
    go_enter Tryz.func90, Tryz.ntmps90
    go_wp2
    refine wp_loop_rounds 5 ?_
    repeat (rw [rounds_succ]; go_wp2)
    go_ret
    exact ⟨rfl, rfl⟩

set_option maxHeartbeats 1000000 in
theorem rneed_any (n known : Int) (h1 : known < n) (h2 : -1 ≤ known) (h3 : n ≤ 1073741823) (w : World) :
    Calls Tryz.prog 84 #[.int .i64 n, .int .i64 known] w fun e w' => e = .returned (.int .i64 (leastN (n - known))) ∧ w = w' := by
  go_enter Tryz.func84, Tryz.ntmps84
  go_wp2
  go_loop [5] (fun b => ∃ k : Int, 1 ≤ k ∧ k ≤ leastN (n - known) ∧ b = .int .i64 k) (fun b => (4 - intOf b).toNat)
  case atStart => exact ⟨1, by omega, (leastN_bounds _).1, rfl⟩
  case round =>
    obtain ⟨k, k1, k2, rfl⟩ := hrel
    obtain ⟨l1, l2⟩ := leastN_bounds (n - known)
    have k4 : k ≤ 4 := by omega
    obtain ⟨r1, r2⟩ := rnd_bounds k
    by_cases hlt : rnd k < 2 * (n - known)
    · have hu := leastN_up (n - known) k k1 k2 hlt (by omega)
      go_wp2_with (go_at_call 90; refine (rround_any k k1 k4 _).mono ?_; rintro e w' ⟨rfl, rfl⟩)
      go_round
      case rel => exact ⟨k + 1, by omega, hu, rfl⟩
      case measure => simp [intOf]; omega
    · have hu := leastN_at (n - known) k k1 k2 (by omega)
      have HU := Lib.hid hu
      clear hu
      go_wp2_with (go_at_call 90; refine (rround_any k k1 k4 _).mono ?_; rintro e w' ⟨rfl, rfl⟩)
      go_ret
      exact ⟨end_int HU.out, rfl⟩
set_option maxHeartbeats 4000000 in
theorem rwhole_yes (cut b next : Int) (h : WholeOk cut b next) (w : World) :
    Calls Tryz.prog 107 #[.int .i64 cut, .int .i64 b, .int .i64 next] w fun e w' => e = .returned (.tuple #[.int .i64 (wholeN cut b next), .bool true]) ∧ w = w' := by
  obtain ⟨⟨n1, n2⟩, ⟨b1, b2⟩, c1, c2, c3⟩ := h
  rcases four b1 b2 with rfl | rfl | rfl | rfl
  all_goals
    simp only [rnd] at c2
    simp at c2
    go_enter Tryz.func107, Tryz.ntmps107
    go_wp2_with (first | (go_at_call 86; refine (rmay_yes next n1 n2 _).mono ?_; rintro e w' ⟨rfl, rfl⟩) | (go_at_call 90; refine (rround_any _ b1 b2 _).mono ?_; rintro e w' ⟨rfl, rfl⟩; simp only [rnd]))
    all_goals
      go_ret2
      exact ⟨end_int2 (by unfold wholeN wholeUp rnd; simp; omega), rfl⟩
theorem rwhole_no (cut b next : Int) (h : ¬ WholeOk cut b next) (w : World) :
    Calls Tryz.prog 107 #[.int .i64 cut, .int .i64 b, .int .i64 next] w fun e w' => e = .returned (.tuple #[.int .i64 0, .bool false]) ∧ w = w' := by
  by_cases hm : MayBe next
  case neg =>
    clear h
    go_enter Tryz.func107, Tryz.ntmps107
    go_wp2_with (go_at_call 86; refine (rmay_no next hm _).mono ?_; rintro e w' ⟨rfl, rfl⟩)
    go_ret2
    exact ⟨rfl, rfl⟩
  have n1 := hm.1
  have n2 := hm.2
  by_cases hb1 : b < 1
  · clear h hm
    go_enter Tryz.func107, Tryz.ntmps107
    go_wp2_with (go_at_call 86; refine (rmay_yes next n1 n2 _).mono ?_; rintro e w' ⟨rfl, rfl⟩)
    go_ret2
    exact ⟨rfl, rfl⟩
  by_cases hb2 : 4 < b
  · clear h hm
    go_enter Tryz.func107, Tryz.ntmps107
    go_wp2_with (go_at_call 86; refine (rmay_yes next n1 n2 _).mono ?_; rintro e w' ⟨rfl, rfl⟩)
    go_ret2
    exact ⟨rfl, rfl⟩
  by_cases h0 : cut < 0
  · clear h hm
    go_enter Tryz.func107, Tryz.ntmps107
    go_wp2_with (go_at_call 86; refine (rmay_yes next n1 n2 _).mono ?_; rintro e w' ⟨rfl, rfl⟩)
    go_ret2
    exact ⟨rfl, rfl⟩
  have b1 : 1 ≤ b := by omega
  have b2 : b ≤ 4 := by omega
  obtain ⟨r1, r2⟩ := rnd_bounds b
  by_cases hr : rnd b ≤ cut
  · clear h hm
    go_enter Tryz.func107, Tryz.ntmps107
    go_wp2_with (first | (go_at_call 86; refine (rmay_yes next n1 n2 _).mono ?_; rintro e w' ⟨rfl, rfl⟩) | (go_at_call 90; refine (rround_any _ b1 b2 _).mono ?_; rintro e w' ⟨rfl, rfl⟩))
    go_ret2
    exact ⟨rfl, rfl⟩
  · have hc : 1073741823 < cut := by
      rcases Int.lt_or_le 1073741823 cut with h1 | h1
      · exact h1
      · exact absurd ⟨hm, ⟨b1, b2⟩, by omega, by omega, h1⟩ h
    clear h hm
    go_enter Tryz.func107, Tryz.ntmps107
    go_wp2_with (first | (go_at_call 86; refine (rmay_yes next n1 n2 _).mono ?_; rintro e w' ⟨rfl, rfl⟩) | (go_at_call 90; refine (rround_any _ b1 b2 _).mono ?_; rintro e w' ⟨rfl, rfl⟩))
    go_ret2
    exact ⟨rfl, rfl⟩
end Go.Proofs.YtmfbaijbigodkaaGreatDoor

/-! Contracts of package number and its reference in one piece each: what each returns, for every argument. No condition. -/
namespace Go.Proofs.YtmfbaijbigodkaaGreatDoor
open Go.ChangeShapes Go.WideShapes Go.ChangeAt Go.RowKit
set_option linter.unusedVariables false

instance (n known : Int) : Decidable (NeedOk n known) := by unfold NeedOk; infer_instance
def needE (n known : Int) : Int := if NeedOk n known then 0 else 1
def needV (n known : Int) : Int := if NeedOk n known then leastN (n - known) else 0
theorem need_any (n known : Int) (w : World) :
    Calls Tryz.prog 164 #[.int .i64 n, .int .i64 known] w fun e w' => e = .returned (.tuple #[.int .i64 (needV n known), errV (needE n known)]) ∧ w = w' := by
  unfold needV needE
  by_cases h : NeedOk n known
  · rw [if_pos h, if_pos h]; exact need_yes n known h w
  · rw [if_neg h, if_neg h]; exact need_no n known h w
instance (cut b next : Int) : Decidable (WholeOk cut b next) := by unfold WholeOk; infer_instance
def wholeE (cut b next : Int) : Int := if WholeOk cut b next then 0 else 1
def wholeV (cut b next : Int) : Int := if WholeOk cut b next then wholeN cut b next else 0
theorem whole_any (cut b next : Int) (w : World) :
    Calls Tryz.prog 130 #[.int .i64 cut, .int .i64 b, .int .i64 next] w fun e w' => e = .returned (.tuple #[.int .i64 (wholeV cut b next), errV (wholeE cut b next)]) ∧ w = w' := by
  unfold wholeV wholeE
  by_cases h : WholeOk cut b next
  · rw [if_pos h, if_pos h]; exact whole_yes cut b next h w
  · rw [if_neg h, if_neg h]; exact whole_no cut b next h w
end Go.Proofs.YtmfbaijbigodkaaGreatDoor

/-! Contracts of varint.Long, varint.Put and varint.Get, and of wireref1.Get: what each returns, for every argument. Condition: the table of kinds holds what the program's text lays. -/
namespace Go.Proofs.YtmfbaijbigodkaaGreatDoor
open Go.ChangeShapes Go.WideShapes Go.ChangeAt Go.RowKit
set_option linter.unusedVariables false

def vlongV (n : Int) : Int := if MayBe n then longN n else 0
def vputE (n : Int) : Int := if MayBe n then 0 else 1
def vputL (n : Int) : List UInt8 := if MayBe n then vbytes n else []
theorem vput_any (n : Int) (w : World) (hk : KTab w) :
    Calls Tryz.prog 162 #[.int .i64 n] w fun e w' => e = .returned (.tuple #[.string ⟨(vputL n).toArray⟩, errV (vputE n)]) ∧ Below w.heap.size w w' := by
  have HK := Lib.hid hk
  clear hk
  unfold vputL vputE
  by_cases h : MayBe n
  · rw [if_pos h, if_pos h]
    have n0 := h.1
    have n1 := h.2
    clear h
    go_enter Tryz.func162, Tryz.ntmps162
    go_wp2_with (first | (go_at_call 93; refine (may_yes n n0 n1 _).mono ?_; rintro e w' ⟨rfl, rfl⟩) | (go_at_call 126; refine (bytes_any n n0 n1 _ HK.out).mono ?_; rintro e w1 ⟨rfl, hb⟩))
    go_ret2
    exact ⟨rfl, (by refine Since.out ?_; repeat (first | with_reducible assumption | with_reducible exact Since.refl _ | with_reducible refine Since.later ?_ (by with_reducible assumption) | with_reducible refine Since.only ?_ (by with_reducible assumption) (by first | assumption | omega | (simp; done) | (simp; omega)) | with_reducible refine Since.alloc ?_ _ | with_reducible refine Since.drewN ?_ _ | with_reducible refine Since.drew ?_ | with_reducible refine Since.set ?_ (by first | assumption | omega | (simp; done) | (simp; omega)) _))⟩
  · rw [if_neg h, if_neg h]
    go_enter Tryz.func162, Tryz.ntmps162
    go_wp2_with (go_at_call 93; refine (may_no n h _).mono ?_; rintro e w' ⟨rfl, rfl⟩)
    go_ret2
    exact ⟨rfl, Below.refl _ _⟩
/-! varint.Get -/
theorem str_ne {s : ByteArray} (h : 0 < s.size) : s.toList.isEmpty = false := by
  rw [ByteArray.toList_eq]
  have : s.data.toList.length = s.size := Array.length_toList
  cases hl : s.data.toList with
  | nil => rw [hl] at this; simp at this; omega
  | cons x l => rfl
theorem str_at (s : ByteArray) (i : Nat) (h : i < s.size) : (s[i].toNat : Int) = bat s.data.toList i := by
  have h2 : i < s.data.toList.length := by rw [show s.data.toList.length = s.size from Array.length_toList]; exact h
  have h3 : s[i] = s.data.toList[i] := rfl
  unfold bat
  rw [h3, List.getD, List.getElem?_eq_getElem h2]
  rfl
theorem i64_or8 (x y : Int) (h0 : 0 ≤ x) (h1 : x % 256 = 0) (h2 : x < 4611686018427387904) (h3 : 0 ≤ y) (h4 : y < 256) : bits .or .i64 x y = x + y :=
  bits_join .i64 62 (by decide) (fun n a b => IntWalk.i64_in n (by omega)) 8 x y h0 (by omega) (by omega) h3 (by omega) (by omega)
theorem kind_long (n : Int) : (kindN n = 0 ↔ longN n = 1) ∧ (kindN n = 1 ↔ longN n = 2) ∧ (kindN n = 2 ↔ longN n = 4) := by
  unfold kindN longN
  split
  · simp
  · split <;> simp
/-- what Get answers -/
abbrev getR (s : ByteArray) : Value := .tuple #[.int .i64 (getV s.data.toList), .int .i64 (getK s.data.toList), errV (getE s.data.toList)]
theorem get_no {s : ByteArray} (h : ¬ getOk s.data.toList) : Hid (getV s.data.toList = 0 ∧ getK s.data.toList = 0 ∧ getE s.data.toList = 2) := Lib.hid (by
  unfold getV getK getE
  rw [if_neg h, if_neg h, if_neg h]
  exact ⟨rfl, rfl, rfl⟩)
theorem get_yes {s : ByteArray} (h : getOk s.data.toList) : getV s.data.toList = getN s.data.toList ∧ getK s.data.toList = getC s.data.toList ∧ getE s.data.toList = 0 := by
  unfold getV getK getE
  rw [if_pos h, if_pos h, if_pos h]
  exact ⟨rfl, rfl, rfl⟩
theorem vget_empty (s : ByteArray) (h0 : s.size = 0) (w : World) :
    Calls Tryz.prog 168 #[.string s] w fun e w' => e = .returned (getR s) ∧ Below w.heap.size w w' := by
  have hl : s.data.toList = [] := by
    have : s.data.toList.length = s.size := Array.length_toList
    cases hl : s.data.toList with
    | nil => rfl
    | cons x l => rw [hl, h0] at this; cases this
  have N := get_no (s := s) (by rw [hl]; exact fun h => h.1 rfl)
  have ne : s.toList = [] := by rw [ByteArray.toList_eq]; exact hl
  have ne2 : s.toList.isEmpty = true := by rw [ne]; rfl
  clear hl
  go_enter Tryz.func168, Tryz.ntmps168
  go_wp2_with fail
  go_ret3
  exact ⟨by rw [getR, N.out.1, N.out.2.1, N.out.2.2]; rfl, Below.refl _ _⟩
set_option maxRecDepth 100000 in
theorem vget_high (s : ByteArray) (h0 : 0 < s.size) (x0 : Int) (e0 : (s[0].toNat : Int) = x0) (b0 : bat s.data.toList 0 = x0) (a1 : x0 < 256) (a : 192 ≤ x0) (w : World) :
    Calls Tryz.prog 168 #[.string s] w fun e w' => e = .returned (getR s) ∧ Below w.heap.size w w' := by
  have N := get_no (s := s) (fun h => by have := h.2.1; omega)
  have ne := str_ne h0
  have ne2 : ¬ s.toList = [] := by intro he; rw [he] at ne; cases ne
  have l1 : x0 / 64 = 3 := by omega
  have B0 := Lib.hid b0
  clear b0
  go_enter Tryz.func168, Tryz.ntmps168
  go_wp2_with fail
  go_ret3
  exact ⟨by rw [getR, N.out.1, N.out.2.1, N.out.2.2]; rfl, Below.refl _ _⟩
set_option maxRecDepth 100000 in
set_option maxHeartbeats 800000 in
theorem vget_k0 (s : ByteArray) (hz : s.size ≤ 9223372036854775807) (h0 : 0 < s.size) (hsz : 0 < s.size) (x0 : Int) (e0 : (s[0].toNat : Int) = x0) (b0 : bat s.data.toList 0 = x0) (a0 : 0 ≤ x0) (a1 : x0 < 64) (w : World) (hk : KTab w) :
    Calls Tryz.prog 168 #[.string s] w fun e w' => e = .returned (getR s) ∧ Below w.heap.size w w' := by
  have hc : getC s.data.toList = 1 := by unfold getC; rw [b0, if_pos (by omega)]
  have hn : getN s.data.toList = x0 := by unfold getN; rw [b0, if_pos (by omega)]
  obtain ⟨n, hnn⟩ : ∃ n : Int, x0 = n := ⟨_, rfl⟩
  have hn2 : getN s.data.toList = n := by rw [hn]; omega
  have hlen : s.data.toList.length = s.size := Array.length_toList
  have hne : s.data.toList ≠ [] := by intro he; rw [he] at hlen; simp at hlen; omega
  have HK := Lib.hid hk
  obtain ⟨k0, k1, k2, k3, k4, k5⟩ := hk
  have ne := str_ne (s := s) (by omega)
  have ne2 : ¬ s.toList = [] := by intro he; rw [he] at ne; cases ne
  have l1 : x0 / 64 = 0 := by omega
  have h3 : decide ((s.size : Int) < 1) = false := by simp; omega
  have o0 : bits BinOp.or IntKind.i64 0 x0 = x0 := by rw [i64_or8 0 x0 (by omega) (by omega) (by omega) (by omega) (by omega)]; omega
  have HNN := Lib.hid hnn
  by_cases hq : kindN n = 0
  · obtain ⟨v1, v2, v3⟩ := get_yes (s := s) ⟨hne, by omega, by omega, by rw [hn2, hc]; exact (kind_long n).1.1 hq⟩
    have V : Hid (getV s.data.toList = n ∧ getK s.data.toList = 1 ∧ getE s.data.toList = 0) := Lib.hid ⟨v1.trans hn2, by rw [v2, hc]; rfl, v3⟩
    have HQ := Lib.hid hq
    clear hq v1 v2 v3 hn hn2 hc hnn hne hlen b0
    go_enter Tryz.func168, Tryz.ntmps168
    go_wp2_with fail
    refine wp_loop_rounds 2 ?_
    rw [rounds_succ]
    go_wp2_with fail
    rw [rounds_succ]
    go_wp2_with (go_at_call 149; rw [HNN.out]; refine (kind_any n _ (HK.out.alloc _)).mono ?_; rintro e w1 ⟨rfl, hb⟩; rw [HQ.out]; (first | (refine keepk (w.heap.size) hb ?_ ?_; (first | assumption | (focus (simp; omega)) | (focus (simp; done))); intro lk ck fk)))
    go_quiet (fail)
    go_wp2_with fail
    go_ret3
    exact ⟨by rw [getR, V.out.1, V.out.2.1, V.out.2.2]; rfl, (by refine Since.out ?_; repeat (first | with_reducible assumption | with_reducible exact Since.refl _ | with_reducible refine Since.later ?_ (by with_reducible assumption) | with_reducible refine Since.only ?_ (by with_reducible assumption) (by first | assumption | omega | (simp; done) | (simp; omega)) | with_reducible refine Since.alloc ?_ _ | with_reducible refine Since.drewN ?_ _ | with_reducible refine Since.drew ?_ | with_reducible refine Since.set ?_ (by first | assumption | omega | (simp; done) | (simp; omega)) _))⟩
  · have N := get_no (s := s) (fun h => hq ((kind_long n).1.2 (by have := h.2.2.2; rw [hn2, hc] at this; exact this)))
    have HQ : (kindN n == 0) = false := beq_eq_false_iff_ne.2 hq
    clear hq hn hn2 hc hnn hne hlen b0
    go_enter Tryz.func168, Tryz.ntmps168
    go_wp2_with fail
    refine wp_loop_rounds 2 ?_
    rw [rounds_succ]
    go_wp2_with fail
    rw [rounds_succ]
    go_wp2_with (go_at_call 149; rw [HNN.out]; refine (kind_any n _ (HK.out.alloc _)).mono ?_; rintro e w1 ⟨rfl, hb⟩)
    go_ret3
    exact ⟨by rw [getR, N.out.1, N.out.2.1, N.out.2.2]; rfl, (by refine Since.out ?_; repeat (first | with_reducible assumption | with_reducible exact Since.refl _ | with_reducible refine Since.later ?_ (by with_reducible assumption) | with_reducible refine Since.only ?_ (by with_reducible assumption) (by first | assumption | omega | (simp; done) | (simp; omega)) | with_reducible refine Since.alloc ?_ _ | with_reducible refine Since.drewN ?_ _ | with_reducible refine Since.drew ?_ | with_reducible refine Since.set ?_ (by first | assumption | omega | (simp; done) | (simp; omega)) _))⟩
set_option maxRecDepth 100000 in
theorem vget_short1 (s : ByteArray) (h0 : 0 < s.size) (hs : s.size < 2) (x0 : Int) (e0 : (s[0].toNat : Int) = x0) (b0 : bat s.data.toList 0 = x0) (a0 : 64 ≤ x0) (a1 : x0 < 128) (w : World) (hk : KTab w) :
    Calls Tryz.prog 168 #[.string s] w fun e w' => e = .returned (getR s) ∧ Below w.heap.size w w' := by
  have N := get_no (s := s) (fun h => by
    have h3 := h.2.2.1
    rw [show s.data.toList.length = s.size from Array.length_toList] at h3
    have hc : getC s.data.toList = 2 := by unfold getC; rw [b0, if_neg (by omega), if_pos (by omega)]
    omega)
  obtain ⟨k0, k1, k2, k3, k4, k5⟩ := hk
  have ne := str_ne h0
  have ne2 : ¬ s.toList = [] := by intro he; rw [he] at ne; cases ne
  have l1 : x0 / 64 = 1 := by omega
  have h3 : (s.size : Int) < 2 := by omega
  have B0 := Lib.hid b0
  clear b0
  go_enter Tryz.func168, Tryz.ntmps168
  go_wp2_with fail
  go_ret3
  exact ⟨by rw [getR, N.out.1, N.out.2.1, N.out.2.2]; rfl, (by refine Since.out ?_; repeat (first | with_reducible assumption | with_reducible exact Since.refl _ | with_reducible refine Since.later ?_ (by with_reducible assumption) | with_reducible refine Since.only ?_ (by with_reducible assumption) (by first | assumption | omega | (simp; done) | (simp; omega)) | with_reducible refine Since.alloc ?_ _ | with_reducible refine Since.drewN ?_ _ | with_reducible refine Since.drew ?_ | with_reducible refine Since.set ?_ (by first | assumption | omega | (simp; done) | (simp; omega)) _))⟩
set_option maxRecDepth 100000 in
set_option maxHeartbeats 800000 in
theorem vget_k1 (s : ByteArray) (hz : s.size ≤ 9223372036854775807) (h0 : 0 < s.size) (h1 : 1 < s.size) (hsz : 1 < s.size) (x0 x1 : Int) (e0 : (s[0].toNat : Int) = x0) (b0 : bat s.data.toList 0 = x0) (e1 : (s[1].toNat : Int) = x1) (b1 : bat s.data.toList 1 = x1) (a0 : 64 ≤ x0) (a1 : x0 < 128) (p1 : 0 ≤ x1) (q1 : x1 < 256) (w : World) (hk : KTab w) :
    Calls Tryz.prog 168 #[.string s] w fun e w' => e = .returned (getR s) ∧ Below w.heap.size w w' := by
  have hc : getC s.data.toList = 2 := by unfold getC; rw [b0, if_neg (by omega), if_pos (by omega)]
  have hn : getN s.data.toList = (x0 - 64) * 256 + x1 := by unfold getN; rw [b0, if_neg (by omega), if_pos (by omega), b1]
  obtain ⟨n, hnn⟩ : ∃ n : Int, x0 * 256 + x1 - 16384 = n := ⟨_, rfl⟩
  have hn2 : getN s.data.toList = n := by rw [hn]; omega
  have hlen : s.data.toList.length = s.size := Array.length_toList
  have hne : s.data.toList ≠ [] := by intro he; rw [he] at hlen; simp at hlen; omega
  have HK := Lib.hid hk
  obtain ⟨k0, k1, k2, k3, k4, k5⟩ := hk
  have ne := str_ne (s := s) (by omega)
  have ne2 : ¬ s.toList = [] := by intro he; rw [he] at ne; cases ne
  have l1 : x0 / 64 = 1 := by omega
  have h3 : decide ((s.size : Int) < 2) = false := by simp; omega
  have o0 : bits BinOp.or IntKind.i64 0 x0 = x0 := by rw [i64_or8 0 x0 (by omega) (by omega) (by omega) (by omega) (by omega)]; omega
  have o1 : bits BinOp.or IntKind.i64 (x0 * 256) x1 = x0 * 256 + x1 := i64_or8 _ _ (by omega) (by omega) (by omega) (by omega) (by omega)
  have HNN := Lib.hid hnn
  by_cases hq : kindN n = 1
  · obtain ⟨v1, v2, v3⟩ := get_yes (s := s) ⟨hne, by omega, by omega, by rw [hn2, hc]; exact (kind_long n).2.1.1 hq⟩
    have V : Hid (getV s.data.toList = n ∧ getK s.data.toList = 2 ∧ getE s.data.toList = 0) := Lib.hid ⟨v1.trans hn2, by rw [v2, hc]; rfl, v3⟩
    have HQ := Lib.hid hq
    clear hq v1 v2 v3 hn hn2 hc hnn hne hlen b0 b1
    go_enter Tryz.func168, Tryz.ntmps168
    go_wp2_with fail
    refine wp_loop_rounds 3 ?_
    rw [rounds_succ]
    go_wp2_with fail
    rw [rounds_succ]
    go_wp2_with fail
    rw [rounds_succ]
    go_wp2_with (go_at_call 149; rw [HNN.out]; refine (kind_any n _ (HK.out.alloc _)).mono ?_; rintro e w1 ⟨rfl, hb⟩; rw [HQ.out]; (first | (refine keepk (w.heap.size) hb ?_ ?_; (first | assumption | (focus (simp; omega)) | (focus (simp; done))); intro lk ck fk)))
    go_quiet (fail)
    go_wp2_with fail
    go_ret3
    exact ⟨by rw [getR, V.out.1, V.out.2.1, V.out.2.2]; rfl, (by refine Since.out ?_; repeat (first | with_reducible assumption | with_reducible exact Since.refl _ | with_reducible refine Since.later ?_ (by with_reducible assumption) | with_reducible refine Since.only ?_ (by with_reducible assumption) (by first | assumption | omega | (simp; done) | (simp; omega)) | with_reducible refine Since.alloc ?_ _ | with_reducible refine Since.drewN ?_ _ | with_reducible refine Since.drew ?_ | with_reducible refine Since.set ?_ (by first | assumption | omega | (simp; done) | (simp; omega)) _))⟩
  · have N := get_no (s := s) (fun h => hq ((kind_long n).2.1.2 (by have := h.2.2.2; rw [hn2, hc] at this; exact this)))
    have HQ : (kindN n == 1) = false := beq_eq_false_iff_ne.2 hq
    clear hq hn hn2 hc hnn hne hlen b0 b1
    go_enter Tryz.func168, Tryz.ntmps168
    go_wp2_with fail
    refine wp_loop_rounds 3 ?_
    rw [rounds_succ]
    go_wp2_with fail
    rw [rounds_succ]
    go_wp2_with fail
    rw [rounds_succ]
    go_wp2_with (go_at_call 149; rw [HNN.out]; refine (kind_any n _ (HK.out.alloc _)).mono ?_; rintro e w1 ⟨rfl, hb⟩)
    go_ret3
    exact ⟨by rw [getR, N.out.1, N.out.2.1, N.out.2.2]; rfl, (by refine Since.out ?_; repeat (first | with_reducible assumption | with_reducible exact Since.refl _ | with_reducible refine Since.later ?_ (by with_reducible assumption) | with_reducible refine Since.only ?_ (by with_reducible assumption) (by first | assumption | omega | (simp; done) | (simp; omega)) | with_reducible refine Since.alloc ?_ _ | with_reducible refine Since.drewN ?_ _ | with_reducible refine Since.drew ?_ | with_reducible refine Since.set ?_ (by first | assumption | omega | (simp; done) | (simp; omega)) _))⟩
set_option maxRecDepth 100000 in
theorem vget_short2 (s : ByteArray) (h0 : 0 < s.size) (hs : s.size < 4) (x0 : Int) (e0 : (s[0].toNat : Int) = x0) (b0 : bat s.data.toList 0 = x0) (a0 : 128 ≤ x0) (a1 : x0 < 192) (w : World) (hk : KTab w) :
    Calls Tryz.prog 168 #[.string s] w fun e w' => e = .returned (getR s) ∧ Below w.heap.size w w' := by
  have N := get_no (s := s) (fun h => by
    have h3 := h.2.2.1
    rw [show s.data.toList.length = s.size from Array.length_toList] at h3
    have hc : getC s.data.toList = 4 := by unfold getC; rw [b0, if_neg (by omega), if_neg (by omega)]
    omega)
  obtain ⟨k0, k1, k2, k3, k4, k5⟩ := hk
  have ne := str_ne h0
  have ne2 : ¬ s.toList = [] := by intro he; rw [he] at ne; cases ne
  have l1 : x0 / 64 = 2 := by omega
  have h3 : (s.size : Int) < 4 := by omega
  have B0 := Lib.hid b0
  clear b0
  go_enter Tryz.func168, Tryz.ntmps168
  go_wp2_with fail
  go_ret3
  exact ⟨by rw [getR, N.out.1, N.out.2.1, N.out.2.2]; rfl, (by refine Since.out ?_; repeat (first | with_reducible assumption | with_reducible exact Since.refl _ | with_reducible refine Since.later ?_ (by with_reducible assumption) | with_reducible refine Since.only ?_ (by with_reducible assumption) (by first | assumption | omega | (simp; done) | (simp; omega)) | with_reducible refine Since.alloc ?_ _ | with_reducible refine Since.drewN ?_ _ | with_reducible refine Since.drew ?_ | with_reducible refine Since.set ?_ (by first | assumption | omega | (simp; done) | (simp; omega)) _))⟩
set_option maxRecDepth 100000 in
set_option maxHeartbeats 800000 in
theorem vget_k2 (s : ByteArray) (hz : s.size ≤ 9223372036854775807) (h0 : 0 < s.size) (h1 : 1 < s.size) (h2 : 2 < s.size) (h3 : 3 < s.size) (hsz : 3 < s.size) (x0 x1 x2 x3 : Int) (e0 : (s[0].toNat : Int) = x0) (b0 : bat s.data.toList 0 = x0) (e1 : (s[1].toNat : Int) = x1) (b1 : bat s.data.toList 1 = x1) (e2 : (s[2].toNat : Int) = x2) (b2 : bat s.data.toList 2 = x2) (e3 : (s[3].toNat : Int) = x3) (b3 : bat s.data.toList 3 = x3) (a0 : 128 ≤ x0) (a1 : x0 < 192) (p1 : 0 ≤ x1) (q1 : x1 < 256) (p2 : 0 ≤ x2) (q2 : x2 < 256) (p3 : 0 ≤ x3) (q3 : x3 < 256) (w : World) (hk : KTab w) :
    Calls Tryz.prog 168 #[.string s] w fun e w' => e = .returned (getR s) ∧ Below w.heap.size w w' := by
  have hc : getC s.data.toList = 4 := by unfold getC; rw [b0, if_neg (by omega), if_neg (by omega)]
  have hn : getN s.data.toList = (((x0 - 128) * 256 + x1) * 256 + x2) * 256 + x3 := by unfold getN; rw [b0, if_neg (by omega), if_neg (by omega), b1, b2, b3]
  obtain ⟨n, hnn⟩ : ∃ n : Int, ((x0 * 256 + x1) * 256 + x2) * 256 + x3 - 2147483648 = n := ⟨_, rfl⟩
  have hn2 : getN s.data.toList = n := by rw [hn]; omega
  have hlen : s.data.toList.length = s.size := Array.length_toList
  have hne : s.data.toList ≠ [] := by intro he; rw [he] at hlen; simp at hlen; omega
  have HK := Lib.hid hk
  obtain ⟨k0, k1, k2, k3, k4, k5⟩ := hk
  have ne := str_ne (s := s) (by omega)
  have ne2 : ¬ s.toList = [] := by intro he; rw [he] at ne; cases ne
  have l1 : x0 / 64 = 2 := by omega
  have h3 : decide ((s.size : Int) < 4) = false := by simp; omega
  have o0 : bits BinOp.or IntKind.i64 0 x0 = x0 := by rw [i64_or8 0 x0 (by omega) (by omega) (by omega) (by omega) (by omega)]; omega
  have o1 : bits BinOp.or IntKind.i64 (x0 * 256) x1 = x0 * 256 + x1 := i64_or8 _ _ (by omega) (by omega) (by omega) (by omega) (by omega)
  have o2 : bits BinOp.or IntKind.i64 ((x0 * 256 + x1) * 256) x2 = (x0 * 256 + x1) * 256 + x2 := i64_or8 _ _ (by omega) (by omega) (by omega) (by omega) (by omega)
  have o3 : bits BinOp.or IntKind.i64 (((x0 * 256 + x1) * 256 + x2) * 256) x3 = ((x0 * 256 + x1) * 256 + x2) * 256 + x3 := i64_or8 _ _ (by omega) (by omega) (by omega) (by omega) (by omega)
  have HNN := Lib.hid hnn
  by_cases hq : kindN n = 2
  · obtain ⟨v1, v2, v3⟩ := get_yes (s := s) ⟨hne, by omega, by omega, by rw [hn2, hc]; exact (kind_long n).2.2.1 hq⟩
    have V : Hid (getV s.data.toList = n ∧ getK s.data.toList = 4 ∧ getE s.data.toList = 0) := Lib.hid ⟨v1.trans hn2, by rw [v2, hc]; rfl, v3⟩
    have HQ := Lib.hid hq
    clear hq v1 v2 v3 hn hn2 hc hnn hne hlen b0 b1 b2 b3
    go_enter Tryz.func168, Tryz.ntmps168
    go_wp2_with fail
    refine wp_loop_rounds 5 ?_
    rw [rounds_succ]
    go_wp2_with fail
    rw [rounds_succ]
    go_wp2_with fail
    rw [rounds_succ]
    go_wp2_with fail
    rw [rounds_succ]
    go_wp2_with fail
    rw [rounds_succ]
    go_wp2_with (go_at_call 149; rw [HNN.out]; refine (kind_any n _ (HK.out.alloc _)).mono ?_; rintro e w1 ⟨rfl, hb⟩; rw [HQ.out]; (first | (refine keepk (w.heap.size) hb ?_ ?_; (first | assumption | (focus (simp; omega)) | (focus (simp; done))); intro lk ck fk)))
    go_quiet (fail)
    go_wp2_with fail
    go_ret3
    exact ⟨by rw [getR, V.out.1, V.out.2.1, V.out.2.2]; rfl, (by refine Since.out ?_; repeat (first | with_reducible assumption | with_reducible exact Since.refl _ | with_reducible refine Since.later ?_ (by with_reducible assumption) | with_reducible refine Since.only ?_ (by with_reducible assumption) (by first | assumption | omega | (simp; done) | (simp; omega)) | with_reducible refine Since.alloc ?_ _ | with_reducible refine Since.drewN ?_ _ | with_reducible refine Since.drew ?_ | with_reducible refine Since.set ?_ (by first | assumption | omega | (simp; done) | (simp; omega)) _))⟩
  · have N := get_no (s := s) (fun h => hq ((kind_long n).2.2.2 (by have := h.2.2.2; rw [hn2, hc] at this; exact this)))
    have HQ : (kindN n == 2) = false := beq_eq_false_iff_ne.2 hq
    clear hq hn hn2 hc hnn hne hlen b0 b1 b2 b3
    go_enter Tryz.func168, Tryz.ntmps168
    go_wp2_with fail
    refine wp_loop_rounds 5 ?_
    rw [rounds_succ]
    go_wp2_with fail
    rw [rounds_succ]
    go_wp2_with fail
    rw [rounds_succ]
    go_wp2_with fail
    rw [rounds_succ]
    go_wp2_with fail
    rw [rounds_succ]
    go_wp2_with (go_at_call 149; rw [HNN.out]; refine (kind_any n _ (HK.out.alloc _)).mono ?_; rintro e w1 ⟨rfl, hb⟩)
    go_ret3
    exact ⟨by rw [getR, N.out.1, N.out.2.1, N.out.2.2]; rfl, (by refine Since.out ?_; repeat (first | with_reducible assumption | with_reducible exact Since.refl _ | with_reducible refine Since.later ?_ (by with_reducible assumption) | with_reducible refine Since.only ?_ (by with_reducible assumption) (by first | assumption | omega | (simp; done) | (simp; omega)) | with_reducible refine Since.alloc ?_ _ | with_reducible refine Since.drewN ?_ _ | with_reducible refine Since.drew ?_ | with_reducible refine Since.set ?_ (by first | assumption | omega | (simp; done) | (simp; omega)) _))⟩
theorem vget_any (s : ByteArray) (hz : s.size ≤ 9223372036854775807) (w : World) (hk : KTab w) :
    Calls Tryz.prog 168 #[.string s] w fun e w' => e = .returned (getR s) ∧ Below w.heap.size w w' := by
  rcases Nat.eq_zero_or_pos s.size with h | h
  · exact vget_empty s h w
  have e0 := str_at s 0 h
  obtain ⟨p0, q0⟩ := bat_bounds s.data.toList 0
  by_cases c0 : 192 ≤ bat s.data.toList 0
  · exact vget_high s h _ e0 rfl q0 c0 w
  by_cases c1 : bat s.data.toList 0 < 64
  · exact vget_k0 s hz h h _ e0 rfl p0 c1 w hk
  by_cases c2 : bat s.data.toList 0 < 128
  · by_cases h1 : 1 < s.size
    · obtain ⟨p1, q1⟩ := bat_bounds s.data.toList 1
      exact vget_k1 s hz h h1 h1 _ _ e0 rfl (str_at s 1 h1) rfl (by omega) c2 p1 q1 w hk
    · exact vget_short1 s h (by omega) _ e0 rfl (by omega) c2 w hk
  · by_cases h3 : 3 < s.size
    · obtain ⟨p1, q1⟩ := bat_bounds s.data.toList 1
      obtain ⟨p2, q2⟩ := bat_bounds s.data.toList 2
      obtain ⟨p3, q3⟩ := bat_bounds s.data.toList 3
      exact vget_k2 s hz h (by omega) (by omega) h3 h3 _ _ _ _ e0 rfl (str_at s 1 (by omega)) rfl (str_at s 2 (by omega)) rfl (str_at s 3 h3) rfl (by omega) (by omega) p1 q1 p2 q2 p3 q3 w hk
    · exact vget_short2 s h (by omega) _ e0 rfl (by omega) (by omega) w hk
end Go.Proofs.YtmfbaijbigodkaaGreatDoor

/-! The contracts of strings.Builder (WriteByte, WriteString, String) that tell what else stands, from the shelf, laid at this seat's numbers in plain words. Condition: the builder was made by the call itself. -/
namespace Go.Proofs.YtmfbaijbigodkaaGreatDoor
open Go.Shelf Go.RowKit
set_option linter.unusedVariables false
def lays167_ren : Go.Shelf.Ren := ⟨fun | 167 => 124 | 240 => 113 | 276 => 140 | n => n, fun | 0 => 0 | 3 => 3 | 4 => 4 | 5 => 5 | 9 => 9 | 20 => 20 | 37 => 131 | 70 => 130 | 72 => 133 | 75 => 27 | 164 => 178 | 80 => 40 | 127 => 177 | n => n, fun | n => n⟩
theorem lays167 : Go.Proofs.Lays.n167 Tryz.prog lays167_ren := {
  mixed := by kernel_rfl
  f167 := Tryz.func124.trans (congrArg some (by kernel_rfl))
  f240 := Tryz.func113.trans (congrArg some (by kernel_rfl))
  f276 := Tryz.func140.trans (congrArg some (by kernel_rfl))
  t0 := Tryz.underlying0
  a0 := Tryz.isAgg0
  z0 := Tryz.sizeOf0
  v0 := Tryz.zeroValue0
  t4 := Tryz.underlying4
  a4 := Tryz.isAgg4
  z4 := Tryz.sizeOf4
  v4 := Tryz.zeroValue4
  t5 := Tryz.underlying5
  a5 := Tryz.isAgg5
  z5 := Tryz.sizeOf5
  v5 := Tryz.zeroValue5
  t9 := Tryz.underlying9
  a9 := Tryz.isAgg9
  z9 := Tryz.sizeOf9
  v9 := Tryz.zeroValue9
  t20 := Tryz.underlying20
  a20 := Tryz.isAgg20
  z20 := Tryz.sizeOf20
  v20 := Tryz.zeroValue20
  t37 := Tryz.underlying131
  a37 := Tryz.isAgg131
  z37 := Tryz.sizeOf131
  v37 := Tryz.zeroValue131
  t70 := Tryz.underlying130
  a70 := Tryz.isAgg130
  z70 := Tryz.sizeOf130
  v70 := Tryz.zeroValue130
  t72 := Tryz.underlying133
  a72 := Tryz.isAgg133
  z72 := Tryz.sizeOf133
  v72 := Tryz.zeroValue133
  t75 := Tryz.underlying27
  a75 := Tryz.isAgg27
  z75 := Tryz.sizeOf27
  v75 := Tryz.zeroValue27
  t164 := Tryz.underlying178
  a164 := Tryz.isAgg178
  z164 := Tryz.sizeOf178
  v164 := Tryz.zeroValue178
}
theorem extra167 : Go.Proofs.Builder.Extra Tryz.prog lays167_ren := {
  sizeBuilder := by kernel_rfl
  liesBuilder := by kernel_rfl
  t5 := Tryz.underlying5
  a5 := Tryz.isAgg5
  z5 := Tryz.sizeOf5
  v5 := Tryz.zeroValue5
  infoByte := by kernel_rfl
  cellsByte := by kernel_rfl
  sizeByte := by kernel_rfl
  neB5 := by decide
}
theorem bbyteK (B b : Nat) (bs : List Value) (c : Int) (w : World) (h : Lib.IsBuilderF 133 5 B b bs w) (hlen : bs.length + 1 ≤ 140737488355328) (hBw : B ≤ w.heap.size) :
    Calls Tryz.prog 124 #[.pointer (some ⟨b, 0, none⟩), .int .u8 c] w fun e w' => e = .returned .nilIface ∧ (Lib.BuilderAtF 133 5 B b (.pointer (some ⟨b, 0, none⟩)) (bs ++ [.int .u8 c]) w' ∧ Below B w w' ∧ Lib.OthersKept 5 (some b) w w') := Go.Proofs.Any.Builder_WriteByte_k lays167 extra167 B b bs c w h hlen hBw
theorem bwriteK (B b : Nat) (bs : List Value) (s : ByteArray) (w : World) (h : Lib.IsBuilderF 133 5 B b bs w) (hlen : bs.length + s.size ≤ 140737488355328) (hBw : B ≤ w.heap.size) :
    Calls Tryz.prog 76 #[.pointer (some ⟨b, 0, none⟩), .string s] w fun e w' => e = .returned (.tuple #[.int .i64 s.size, .nilIface]) ∧ (Lib.BuilderAtF 133 5 B b (.pointer (some ⟨b, 0, none⟩)) (bs ++ Lib.strCells s) w' ∧ Below B w w' ∧ Lib.OthersKept 5 (some b) w w') := Go.Proofs.Any.Builder_WriteString_k lays166 extra166 B b bs s w h hlen hBw
theorem bstringK (B b : Nat) (l : List UInt8) (w : World) (h : Lib.IsBuilderF 133 5 B b (Lib.byteCells l) w) (hBw : B ≤ w.heap.size) :
    Calls Tryz.prog 79 #[.pointer (some ⟨b, 0, none⟩)] w fun e w' => e = .returned (.string ⟨l.toArray⟩) ∧ (Lib.IsBuilderF 133 5 B b (Lib.byteCells l) w' ∧ Below B w w' ∧ Lib.OthersKept 5 (some b) w w') := Go.Proofs.Any.Builder_String_any_k lays169 extra169 B b l w h hBw
theorem bfresh (w : World) : Lib.IsBuilderF 133 5 w.heap.size w.heap.size (Lib.byteCells []) (w.alloc (.cells #[.pointer none, .slice none 0 0] 133)) := Lib.IsBuilderF.of (Lib.fresh_isBuilder _ _ w)
theorem builderAtF_later {T e : TypeId} {B b : Nat} {p : Value} {bs : List Value} {w w1 : World} (h : Lib.BuilderAtF T e B b p bs w) (hb : Below w.heap.size w w1) : Lib.BuilderAtF T e B b p bs w1 := by
  have hlt := h.lt
  obtain ⟨h1, v, h2, h3, h4⟩ := h
  refine ⟨h1, v, (hb.block b hlt).trans h2, ?_, h4⟩
  exact h3.kept (row := none) ⟨hb.os, hb.tape, hb.output, hb.size, fun i hi _ => hb.block i hi⟩ (by cases hv : v.ownBlock <;> simp)
theorem builderF_later {T e : TypeId} {B b : Nat} {bs : List Value} {w w1 : World} (h : Lib.IsBuilderF T e B b bs w) (hb : Below w.heap.size w w1) : Lib.IsBuilderF T e B b bs w1 :=
  h.imp (fun h => builderAtF_later h hb) (fun h => builderAtF_later h hb)
theorem BlockIs.others {e : TypeId} {b : Nat} {w w' : World} {g : Nat} {t : TypeId} {cs : Array Value} (h : BlockIs w g t cs) (k : Lib.OthersKept e (some b) w w') (hb : g ≠ b) (ht : t ≠ e) : BlockIs w' g t cs :=
  k g _ h (fun he => hb (Option.some.inj he)) (fun c fz he => ht (by injection he))
end Go.Proofs.YtmfbaijbigodkaaGreatDoor

/-! Contracts of ack.Bytes and ack.Print. Condition: the slice can be read; the table of kinds holds what the program's text lays. -/
namespace Go.Proofs.YtmfbaijbigodkaaGreatDoor
open Go.ChangeShapes Go.WideShapes Go.ChangeAt Go.RowKit
set_option linter.unusedVariables false

theorem strCells_bytes (l : List UInt8) : Lib.strCells ⟨l.toArray⟩ = Lib.byteCells l := rfl
theorem bsize (l : List UInt8) : (⟨l.toArray⟩ : ByteArray).size = l.length := by show l.toArray.size = _; simp
theorem bapp (a b : List UInt8) : (⟨a.toArray⟩ : ByteArray) ++ ⟨b.toArray⟩ = ⟨(a ++ b).toArray⟩ := by
  apply ByteArray.ext; simp

set_option maxHeartbeats 3200000 in
set_option maxRecDepth 100000 in
theorem ackbytes (A : Option Addr) (n cap : Nat) (L : List Rng) (w : World) (hn : L.length = n) (h : Rd w 2 (.slice A n cap) (L.map rngRow)) (hE : rngE L = 0) (hk : KTab w) :
    Calls Tryz.prog 125 #[.slice A n cap] w fun e w' => e = .returned (.string ⟨(ackB L).toArray⟩) ∧ Below w.heap.size w w' := by
  have H := Lib.hid h
  have HN := Lib.hid hn
  have HK := Lib.hid hk
  have hl12 : n ≤ 12 := by rw [← hn]; exact rngE_len hE
  have HO : Hid (∀ i, i < n → okN (rat L i) ∧ (rat L i).lo ≤ (rat L i).hi ∧ (0 < i → (rat L i).hi + 1 < (rat L (i-1)).lo)) := Lib.hid (fun i hi => rngOne_ok (rngE_each hE (by omega)))
  have HLN : Hid (∀ i, (ackUp L i).length ≤ 8 * i + 1) := Lib.hid (fun i => ackUp_len L (by omega) i)
  have HAB : Hid (ackB L = ackUp L n) := Lib.hid (by unfold ackB; rw [hn])
  clear h hn hE hk
  go_enter Tryz.func125, Tryz.ntmps125
  go_wp2_with fail
  go_loopw [8] (fun s8 wr => ∃ i : Nat, s8 = .int .i64 i ∧ i ≤ n ∧ Hid (Lib.IsBuilderF 133 5 w.heap.size w.heap.size (Lib.byteCells (ackUp L i)) wr) ∧ Since w wr) (fun s8 _ => n - (intOf s8).toNat)
  case atStart => exact ⟨0, rfl, Nat.zero_le _, Lib.hid (bfresh w), (Since.refl w).alloc _⟩
  case round =>
    obtain ⟨i, rfl, hi, HB, hs⟩ := hrel
    have hwr : w.heap.size < wr.heap.size := by
      rcases HB.out with h | h <;> exact h.lt
    by_cases hlt : i < n
    case neg =>
      obtain rfl : i = n := by omega
      have hf : decide ((i : Int) < (i : Int)) = false := by simp
      go_wp2_with fail
      refine (bstringK w.heap.size w.heap.size _ _ HB.out (by omega)).mono ?_
      rintro e w1 ⟨rfl, _, hb1, _⟩
      go_wp2_with fail
      go_ret
      exact ⟨by rw [HAB.out]; rfl, Below.trans hs hb1⟩
    have hlt' : (i : Int) < (n : Int) := by omega
    obtain ⟨b, off, rfl, hbl, hc⟩ := H.out.rng (i := i) (by rw [HN.out]; exact hlt)
    obtain ⟨c0, c1⟩ := hc wr hs i (by rw [HN.out]; exact hlt)
    have hpc : 0 < i → ∀ w', Since w w' → w'.cell? ⟨b, off + (i - 1) * 2, none⟩ = some (.int .i64 (rat L (i - 1)).lo) := fun h w' hw' => (hc w' hw' (i - 1) (by rw [HN.out]; omega)).1
    have hpk : 0 < i → okN (rat L (i - 1)) := fun h => (HO.out (i - 1) (by omega)).1
    obtain ⟨⟨⟨a1, a2⟩, a3, a4⟩, a5, a6⟩ := HO.out i hlt
    have HL := Lib.hid (HLN.out i)
    have HU1 : Hid (i = 0 → ackUp L (i + 1) = vbytes (rat L i).hi ++ vbytes ((n : Int) - 1) ++ vbytes ((rat L i).hi - (rat L i).lo)) := Lib.hid (fun h => by subst h; rw [ackUp_one, HN.out])
    have HU2 : Hid (0 < i → ackUp L (i + 1) = ackUp L i ++ vbytes ((rat L (i - 1)).lo - (rat L i).hi - 2) ++ vbytes ((rat L i).hi - (rat L i).lo)) := Lib.hid (fun h => ackUp_succ L h)
    have HU0 : Hid (i = 0 → ackUp L i = []) := Lib.hid (fun h => by subst h; rfl)
    generalize ackUp L i = U at *
    generalize (rat L i).lo = lo at *
    generalize (rat L i).hi = hi2 at *
    have lb : b < wr.heap.size := Nat.lt_of_lt_of_le hbl hs.le
    have HB1 := Lib.hid (builderF_later HB.out (((Since.refl wr).alloc (.cells #[.int .i64 lo, .int .i64 hi2] 101)) : Below wr.heap.size wr _))
    have hq : BlockIs (wr.alloc (.cells #[.int .i64 lo, .int .i64 hi2] 101)) wr.heap.size 101 #[.int .i64 lo, .int .i64 hi2] := BlockIs.fresh _ _ _
    have HQ := Lib.hid hq
    have hsa : Since w (wr.alloc (.cells #[.int .i64 lo, .int .i64 hi2] 101)) := hs.alloc _
    have HUL : Hid (U.length ≤ 100) := Lib.hid (by have := HL.out; omega)
    clear hc HB hq
    by_cases hi0 : i = 0
    · subst hi0
      obtain rfl : U = [] := HU0.out rfl
      have HU := Lib.hid (HU1.out rfl)
      have c0' : wr.cell? ⟨b, off, none⟩ = some (.int .i64 lo) := by simpa using c0
      have c1' : wr.cell? ⟨b, off + 1, none⟩ = some (.int .i64 hi2) := by simpa using c1
      clear hpc hpk c0 c1
      go_wp2_with fail
      refine (bytes_any hi2 a3 a4 _ (HK.out.later hsa)).mono ?_
      rintro e w1 ⟨rfl, hb1⟩
      go_wp2_with fail
      refine (bytes_any ((n : Int) - 1) (by omega) (by omega) _ (HK.out.later (hsa.later hb1))).mono ?_
      rintro e w2 ⟨rfl, hb2⟩
      have hb12 := below_steps hb1 hb2 hb1.size
      have HQ2 := Lib.hid (HQ.out.later hb12)
      have HB2 := Lib.hid (builderF_later HB1.out hb12)
      have hs2 := hsa.later hb12
      have h4 := vbytes_len4 hi2
      have h5 := vbytes_len4 ((n : Int) - 1)
      have hov : (vbytes hi2).length + (vbytes ((n : Int) - 1)).length ≤ 9223372036854775807 := by omega
      clear hb1 hb2 hb12 hsa
      go_wp2_with fail
      rw [bapp]
      refine (bwriteK w.heap.size w.heap.size _ _ _ HB2.out (by rw [Lib.byteCells_length, bsize]; simp; omega) hs2.le).mono ?_
      rintro e w3 ⟨rfl, hB3, hb3, ho3⟩
      have hq3 := HQ2.out.others ho3 (by omega) (by decide)
      have hs3 : Since w w3 := Below.trans hs2 hb3
      have d0 : w3.cell? ⟨wr.heap.size, 0, none⟩ = some (.int .i64 lo) := hq3.cell 0
      have d1 : w3.cell? ⟨wr.heap.size, 1, none⟩ = some (.int .i64 hi2) := hq3.cell 1
      have l3 := hq3.lt
      have HB3 := Lib.hid hB3
      clear hB3 hb3 ho3 hq3 hs2
      go_wp2_with fail
      refine (bytes_any (hi2 - lo) (by omega) (by omega) _ (HK.out.later hs3)).mono ?_
      rintro e w4 ⟨rfl, hb4⟩
      have HB4 := Lib.hid (builderF_later (Or.inr HB3.out) hb4)
      have hs4 := hs3.later hb4
      have h6 := vbytes_len4 (hi2 - lo)
      have HSZ : Hid ((Lib.byteCells [] ++ Lib.strCells ⟨(vbytes hi2 ++ vbytes ((n : Int) - 1)).toArray⟩).length + (⟨(vbytes (hi2 - lo)).toArray⟩ : ByteArray).size ≤ 140737488355328) := Lib.hid (by rw [strCells_bytes, List.length_append, Lib.byteCells_length, Lib.byteCells_length, bsize]; simp; omega)
      have HE : Hid (Lib.byteCells [] ++ Lib.strCells ⟨(vbytes hi2 ++ vbytes ((n : Int) - 1)).toArray⟩ ++ Lib.strCells ⟨(vbytes (hi2 - lo)).toArray⟩ = Lib.byteCells (ackUp L (0 + 1))) := Lib.hid (by rw [strCells_bytes, strCells_bytes, ← Lib.byteCells_append, ← Lib.byteCells_append, HU.out]; rfl)
      clear hb4 h6 d0 d1 hs3
      go_wp2_with fail
      refine (bwriteK w.heap.size w.heap.size _ _ _ HB4.out HSZ.out hs4.le).mono ?_
      rintro e w5 ⟨rfl, hB5, hb5, _⟩
      rw [HE.out] at hB5
      have HB5 := Lib.hid hB5
      have hs5 : Since w w5 := Below.trans hs4 hb5
      clear hB5 hb5
      go_wp2_with fail
      go_roundw
      case rel => exact ⟨0 + 1, by go_num, by omega, Lib.hid (Or.inr HB5.out), hs5⟩
      case measure => simp [intOf]; omega
    · have hip : 0 < i := by omega
      have hi0' : ((i : Int) == 0) = false := by simp; omega
      have hi1 : (i : Int) - 1 = ((i - 1 : Nat) : Int) := by omega
      have hi2' : ((i - 1 : Nat) : Int) < (n : Int) := by omega
      obtain ⟨⟨p1, p2⟩, p3, p4⟩ := hpk hip
      have HU := Lib.hid (HU2.out hip)
      have hpc' := hpc hip
      have hgp := a6 hip
      generalize (rat L (i - 1)).lo = plo at *
      generalize (rat L (i - 1)).hi = phi at *
      have cp := hpc' wr hs
      obtain ⟨X, hX⟩ : ∃ X, vbytes (plo - hi2 - 2) = X := ⟨_, rfl⟩
      have HXL : Hid (X.length ≤ 4) := Lib.hid (by rw [← hX]; exact (vbytes_len4 _).2)
      have HX := Lib.hid hX
      rw [hX] at HU
      clear hpc hpk a6 hpc' hX hi0
      trace "B"; go_wp2_with fail
      have hw0 : IntKind.i64.wrap ((i - 1 : Nat) : Int) = ((i - 1 : Nat) : Int) := by simp [IntKind.wrap, IntKind.bits, IntKind.signed]; omega
      have hw1 : IntKind.i64.wrap (plo - hi2) = plo - hi2 := by simp [IntKind.wrap, IntKind.bits, IntKind.signed]; omega
      have hw2 : IntKind.i64.wrap (plo - hi2 - 2) = plo - hi2 - 2 := by simp [IntKind.wrap, IntKind.bits, IntKind.signed]; omega
      have hg0 : 0 ≤ plo - hi2 - 2 := by omega
      have hg1 : plo - hi2 - 2 ≤ 1073741823 := by omega
      trace "C"; go_region_law (first | (go_simp; go_at_call 126; refine (bytes_any (plo - hi2 - 2) hg0 hg1 _ (HK.out.later (by first | exact hsa | exact hsa.drew))).mono ?_; rintro e w1 ⟨rfl, hb1⟩; rw [HX.out]; have HS1 := Lib.hid (show Since (wr.alloc (.cells #[.int .i64 lo, .int .i64 hi2] 101)) w1 from (by refine Since.out ?_; repeat (first | with_reducible assumption | with_reducible exact Since.refl _ | with_reducible refine Since.later ?_ (by with_reducible assumption) | with_reducible refine Since.only ?_ (by with_reducible assumption) (by first | assumption | omega | (simp; done) | (simp; omega)) | with_reducible refine Since.alloc ?_ _ | with_reducible refine Since.drewN ?_ _ | with_reducible refine Since.drew ?_ | with_reducible refine Since.set ?_ (by first | assumption | omega | (simp; done) | (simp; omega)) _))); clear hb1) | (go_simp; go_at_call 76; refine (bwriteK w.heap.size w.heap.size _ _ _ (builderF_later HB1.out HS1.out) (by rw [Lib.byteCells_length, bsize]; have := HXL.out; have := HUL.out; omega) (hsa.later HS1.out).le).mono ?_; rintro e w3 ⟨rfl, hB3, hb3, ho3⟩; have HB3 := Lib.hid hB3; have HS3 := Lib.hid (show Since w w3 from Below.trans (hsa.later HS1.out) hb3); have HQ3 := Lib.hid ((HQ.out.later HS1.out).others ho3 (by omega) (by decide)); clear hB3 hb3 ho3))
      all_goals
        have hs3 := HS3.out
        have d0 : w3.cell? ⟨wr.heap.size, 0, none⟩ = some (.int .i64 lo) := HQ3.out.cell 0
        have d1 : w3.cell? ⟨wr.heap.size, 1, none⟩ = some (.int .i64 hi2) := HQ3.out.cell 1
        have l3 := HQ3.out.lt
        clear hw0 hw1 hw2
        go_wp2_with fail
        refine (bytes_any (hi2 - lo) (by omega) (by omega) _ (HK.out.later hs3)).mono ?_
        rintro e w4 ⟨rfl, hb4⟩
        have HB4 := Lib.hid (builderF_later (Or.inr HB3.out) hb4)
        have hs4 := hs3.later hb4
        have h6 := vbytes_len4 (hi2 - lo)
        have HSZ : Hid ((Lib.byteCells U ++ Lib.strCells ⟨X.toArray⟩).length + (⟨(vbytes (hi2 - lo)).toArray⟩ : ByteArray).size ≤ 140737488355328) := Lib.hid (by rw [strCells_bytes, List.length_append, Lib.byteCells_length, Lib.byteCells_length, bsize]; have := HXL.out; have := HUL.out; omega)
        have HE : Hid (Lib.byteCells U ++ Lib.strCells ⟨X.toArray⟩ ++ Lib.strCells ⟨(vbytes (hi2 - lo)).toArray⟩ = Lib.byteCells (ackUp L (i + 1))) := Lib.hid (by rw [strCells_bytes, strCells_bytes, ← Lib.byteCells_append, ← Lib.byteCells_append, HU.out])
        clear hb4 h6 d0 d1 hs3
        go_wp2_with fail
        refine (bwriteK w.heap.size w.heap.size _ _ _ HB4.out HSZ.out hs4.le).mono ?_
        rintro e w5 ⟨rfl, hB5, hb5, _⟩
        rw [HE.out] at hB5
        have HB5 := Lib.hid hB5
        have hs5 : Since w w5 := Below.trans hs4 hb5
        clear hB5 hb5
        go_wp2_with fail
        go_roundw
        case rel => exact ⟨i + 1, by go_num, by omega, Lib.hid (Or.inr HB5.out), hs5⟩
        case measure => simp [intOf]; omega

/-- what is wrong with ranges that are to be told -/
def ackE (L : List Rng) : Int := if rngE L = 0 then (if L.length = 0 then 5 else 0) else rngE L
def ackV (L : List Rng) : List UInt8 := if ackE L = 0 then ackB L else []
theorem ackE_bad {L : List Rng} (h : rngE L ≠ 0) : ackE L = rngE L ∧ ackV L = [] := by
  have e : ackE L = rngE L := by unfold ackE; rw [if_neg h]
  exact ⟨e, by unfold ackV; rw [e, if_neg h]⟩
theorem ackE_none {L : List Rng} (h : rngE L = 0) (h0 : L.length = 0) : ackE L = 5 ∧ ackV L = [] := by
  have e : ackE L = 5 := by unfold ackE; rw [if_pos h, if_pos h0]
  exact ⟨e, by unfold ackV; rw [e]; rfl⟩
theorem ackE_ok {L : List Rng} (h : rngE L = 0) (h0 : L.length ≠ 0) : ackE L = 0 ∧ ackV L = ackB L := by
  have e : ackE L = 0 := by unfold ackE; rw [if_pos h, if_neg h0]
  exact ⟨e, by unfold ackV; rw [if_pos e]⟩
end Go.Proofs.YtmfbaijbigodkaaGreatDoor

/-! Contracts of frame.shape, frame.Check's closure, slices.ContainsFunc over ints. Condition: the numbers can be read; the table of counts holds what the program's text lays. -/
namespace Go.Proofs.YtmfbaijbigodkaaGreatDoor
open Go.ChangeShapes Go.WideShapes Go.ChangeAt Go.RowKit
set_option linter.unusedVariables false

/-! frame.shape -/
theorem shapeB_data {f : Frm} (h : f.kind ≠ 3) (h2 : f.data.size ≠ 0) : shapeB f = false := by
  unfold shapeB
  have : (f.kind == 3) = false := by simpa using h
  have h3 : (f.data.size == 0) = false := by simpa using h2
  rw [this, h3]; rfl
theorem shapeB_ack {f : Frm} (h : f.kind = 2) (h2 : f.data.size = 0) : shapeB f = decide (0 < f.nums.length ∧ f.nums.length % 2 = 0 ∧ f.nums.length ≤ 24) := by
  unfold shapeB
  rw [if_pos h, h2]; simp
theorem shapeB_other {f : Frm} (h : f.kind ≠ 2) (h2 : f.kind = 3 ∨ f.data.size = 0) : shapeB f = decide ((f.nums.length : Int) = manyK f.kind) := by
  unfold shapeB
  rw [if_neg h]
  have : (f.kind == 3 || f.data.size == 0) = true := by rcases h2 with h2 | h2 <;> simp [h2]
  rw [this, Bool.true_and]
theorem str_empty {s : ByteArray} (h : s.size = 0) : s.toList.isEmpty = true ∧ s.toList = [] := by
  have hl : s.data.toList.length = 0 := h
  have : s.toList = [] := by rw [ByteArray.toList_eq]; exact List.length_eq_zero_iff.1 hl
  rw [this]; exact ⟨rfl, rfl⟩
theorem str_full {s : ByteArray} (h : s.size ≠ 0) : s.toList.isEmpty = false ∧ ¬ s.toList = [] := by
  have hl : s.data.toList.length ≠ 0 := h
  have : ¬ s.toList = [] := by rw [ByteArray.toList_eq]; exact fun h2 => hl (by rw [h2]; rfl)
  exact ⟨by cases hh : s.toList with | nil => exact absurd hh this | cons a l => rfl, this⟩
theorem cntK_many {k : Nat} (h1 : 1 ≤ k) (h8 : k ≤ 8) (h2 : k ≠ 2) : cntK k = manyK k := by
  match k, h1, h8, h2 with
  | 1, _, _, _ => rfl
  | 3, _, _, _ => rfl
  | 4, _, _, _ => rfl
  | 5, _, _, _ => rfl
  | 6, _, _, _ => rfl
  | 7, _, _, _ => rfl
  | 8, _, _, _ => rfl

/-! may all numbers be -/
def mplace (L : List Int) : Int := if maysB L = true then -1 else ((L.findIdx fun z => !mayB z : Nat) : Int)
theorem mplace_sign (L : List Int) : decide (0 ≤ mplace L) = !maysB L := by
  unfold mplace
  cases maysB L <;> simp
theorem maysB_iff {L : List Int} : maysB L = true ↔ ∀ i, i < L.length → mayB (ith L i) = true := by
  unfold maysB
  rw [List.all_eq_true]
  constructor
  · exact fun h i hi => h _ (ith_mem hi)
  · intro h z hz
    obtain ⟨i, hi, rfl⟩ := List.getElem_of_mem hz
    have := h i hi
    unfold ith at this
    simpa [List.getD, hi] using this
theorem mplace_at {L : List Int} {i : Nat} (h : i < L.length) (h0 : ∀ j, j < i → mayB (ith L j) = true) (h1 : mayB (ith L i) = false) : mplace L = i := by
  have hm : ¬ maysB L = true := fun hh => by rw [maysB_iff.1 hh i h] at h1; cases h1
  unfold mplace
  rw [if_neg hm]
  congr 1
  have hg : ∀ j, (hj : j < L.length) → ith L j = L[j] := fun j hj => by unfold ith; simp [List.getD, hj]
  refine (List.findIdx_eq h).2 ⟨?_, fun j hj => ?_⟩
  · rw [← hg i h, h1]; rfl
  · rw [← hg j (by omega), h0 j hj]; rfl
theorem mplace_none {L : List Int} (h : ∀ j, j < L.length → mayB (ith L j) = true) : mplace L = -1 := by
  unfold mplace
  rw [if_pos (maysB_iff.2 h)]
end Go.Proofs.YtmfbaijbigodkaaGreatDoor

/-! Contract of frame.Check. Condition: the frame's parts are right; the table of counts holds what the program's text lays. -/
namespace Go.Proofs.YtmfbaijbigodkaaGreatDoor
open Go.ChangeShapes Go.WideShapes Go.ChangeAt Go.RowKit
set_option linter.unusedVariables false

theorem nums_le {w : World} {v : Value} {zs : List Int} (h : IntsIn w v zs) : zs.length ≤ 9223372036854775807 := by
  obtain ⟨_, A, cap, _, h1, h2, _⟩ := h
  unfold maxLen at h2
  omega
theorem shapeB_two {f : Frm} (h : shapeB f = true) (hk : f.kind = 2) : f.data.size = 0 ∧ 0 < f.nums.length ∧ f.nums.length % 2 = 0 ∧ f.nums.length ≤ 24 := by
  unfold shapeB at h
  rw [if_pos hk] at h
  simp only [Bool.and_eq_true, Bool.or_eq_true, beq_iff_eq, decide_eq_true_eq] at h
  exact ⟨by rcases h.1 with h1 | h1; omega; exact h1, h.2⟩
theorem pairs_ok {L : List Int} (h : maysB L = true) : ∀ r ∈ pairs L, okI r.lo ∧ okI r.hi := by
  have hm : ∀ z ∈ L, MayBe z := fun z hz => mayB_iff.1 (List.all_eq_true.1 h z hz)
  have hall : ∀ (M : List Int), (∀ z ∈ M, MayBe z) → ∀ r ∈ pairs M, okI r.lo ∧ okI r.hi := by
    intro M
    induction M using pairs.induct with
    | case1 a b r ih =>
      intro hM x hx
      rw [pairs] at hx
      rcases List.mem_cons.1 hx with rfl | hx
      · have h1 := hM a (by simp)
        have h2 := hM b (by simp)
        unfold MayBe at h1 h2
        unfold okI
        simp only
        omega
      · exact ih (fun z hz => hM z (by simp [hz])) x hx
    | case2 t ht =>
      intro _ x hx
      rw [pairs] at hx
      · cases hx
      · exact ht
  exact hall L hm

end Go.Proofs.YtmfbaijbigodkaaGreatDoor
