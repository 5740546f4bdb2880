/- Plain words on frames: what is wrong with one, its bytes, the frame that bytes begin with, and that it comes back. No program here. -/
import Derived.Test.YthnolkbolmbkdaaDoorAckLaw
import Derived.Test.YthnolkbolmbkdaaDoorVList
namespace Go.Proofs.YthnolkbolmbkdaaDoor
open Go.ChangeShapes Go.WideShapes Go.ChangeAt Go.RowKit
set_option linter.unusedVariables false

structure Frm where
  kind : Int
  nums : List Int
  data : ByteArray
/-- an ack's numbers as ranges -/
def pairs : List Int → List Rng
  | a :: b :: r => ⟨b, a⟩ :: pairs r
  | _ => []
def unpairs (L : List Rng) : List Int := L.flatMap fun r => [r.hi, r.lo]
theorem unpairs_snoc (L : List Rng) (r : Rng) : unpairs (L ++ [r]) = unpairs L ++ [r.hi, r.lo] := by simp [unpairs]
theorem unpairs_len (L : List Rng) : (unpairs L).length = 2 * L.length := by
  induction L with
  | nil => rfl
  | cons r L ih =>
    have : unpairs (r :: L) = r.hi :: r.lo :: unpairs L := rfl
    rw [this]; simp [ih]; omega
theorem pairs_unpairs (L : List Rng) : pairs (unpairs L) = L := by
  induction L with
  | nil => rfl
  | cons r L ih =>
    have : unpairs (r :: L) = r.hi :: r.lo :: unpairs L := rfl
    rw [this, pairs, ih]
theorem unpairs_pairs : ∀ (l : List Int), l.length % 2 = 0 → unpairs (pairs l) = l
  | [], _ => rfl
  | [a], h => by simp at h
  | a :: b :: r, h => by
    have ih := unpairs_pairs r (by simp at h; omega)
    have : unpairs (pairs (a :: b :: r)) = a :: b :: unpairs (pairs r) := rfl
    rw [this, ih]
theorem pairs_len : ∀ (l : List Int), l.length % 2 = 0 → 2 * (pairs l).length = l.length
  | [], _ => rfl
  | [a], h => by simp at h
  | a :: b :: r, h => by
    have ih := pairs_len r (by simp at h; omega)
    rw [pairs]; simp at ih ⊢; omega
theorem pairs_at : ∀ (l : List Int) (i : Nat), l.length % 2 = 0 → 2 * i < l.length → rat (pairs l) i = ⟨ith l (2 * i + 1), ith l (2 * i)⟩
  | [], i, _, h => by simp at h
  | [a], i, h, _ => by simp at h
  | a :: b :: r, 0, _, _ => rfl
  | a :: b :: r, i + 1, h, h2 => by
    have ih := pairs_at r i (by simp at h; omega) (by simp at h2; omega)
    have e1 : rat (pairs (a :: b :: r)) (i + 1) = rat (pairs r) i := by simp [pairs, rat]
    have e2 : ∀ j, ith (a :: b :: r) (j + 1 + 1) = ith r j := fun j => by simp [ith]
    rw [e1, ih, show 2 * (i + 1) + 1 = (2 * i + 1) + 1 + 1 by omega, show 2 * (i + 1) = 2 * i + 1 + 1 by omega, e2, e2]
/-- how many numbers a kind has; an ack -1 -/
def manyK (k : Int) : Int := if k = 1 then 0 else if k = 2 then -1 else if k = 7 then 2 else 1
/-- as many numbers, and bytes, as its kind -/
def shapeB (f : Frm) : Bool := (f.kind == 3 || f.data.size == 0) && (if f.kind = 2 then decide (0 < f.nums.length ∧ f.nums.length % 2 = 0 ∧ f.nums.length ≤ 24) else decide ((f.nums.length : Int) = manyK f.kind))
/-- may all numbers be -/
def maysB (l : List Int) : Bool := l.all mayB
/-- what is wrong with a frame -/
def frmE (f : Frm) : Int := if f.kind < 1 ∨ 8 < f.kind then 1 else if shapeB f = false then 3 else if maysB f.nums = false then 1 else if 20 < f.data.size then 4 else if f.kind = 2 ∧ rngE (pairs f.nums) ≠ 0 then 3 else 0
theorem frmE_kind {f : Frm} (h : f.kind < 1 ∨ 8 < f.kind) : frmE f = 1 := by unfold frmE; rw [if_pos h]
theorem frmE_shape {f : Frm} (h : ¬ (f.kind < 1 ∨ 8 < f.kind)) (h2 : shapeB f = false) : frmE f = 3 := by unfold frmE; rw [if_neg h, if_pos h2]
theorem frmE_may {f : Frm} (h : ¬ (f.kind < 1 ∨ 8 < f.kind)) (h2 : shapeB f = true) (h3 : maysB f.nums = false) : frmE f = 1 := by unfold frmE; rw [if_neg h, if_neg (by simp [h2]), if_pos h3]
theorem frmE_full {f : Frm} (h : ¬ (f.kind < 1 ∨ 8 < f.kind)) (h2 : shapeB f = true) (h3 : maysB f.nums = true) (h4 : 20 < f.data.size) : frmE f = 4 := by unfold frmE; rw [if_neg h, if_neg (by simp [h2]), if_neg (by simp [h3]), if_pos h4]
theorem frmE_ack {f : Frm} (h : f.kind = 2) (h2 : shapeB f = true) (h3 : maysB f.nums = true) (h4 : ¬ 20 < f.data.size) (h5 : rngE (pairs f.nums) ≠ 0) : frmE f = 3 := by unfold frmE; rw [if_neg (by omega), if_neg (by simp [h2]), if_neg (by simp [h3]), if_neg h4, if_pos ⟨h, h5⟩]
theorem frmE_ok {f : Frm} (h : ¬ (f.kind < 1 ∨ 8 < f.kind)) (h2 : shapeB f = true) (h3 : maysB f.nums = true) (h4 : ¬ 20 < f.data.size) (h5 : f.kind = 2 → rngE (pairs f.nums) = 0) : frmE f = 0 := by unfold frmE; rw [if_neg h, if_neg (by simp [h2]), if_neg (by simp [h3]), if_neg h4, if_neg (fun hh => hh.2 (h5 hh.1))]
theorem frmE_out {f : Frm} (h : frmE f = 0) : (1 ≤ f.kind ∧ f.kind ≤ 8) ∧ shapeB f = true ∧ (∀ z ∈ f.nums, MayBe z) ∧ f.data.size ≤ 20 ∧ (f.kind = 2 → rngE (pairs f.nums) = 0) := by
  by_cases h1 : f.kind < 1 ∨ 8 < f.kind
  · rw [frmE_kind h1] at h; cases h
  cases h2 : shapeB f with
  | false => rw [frmE_shape h1 h2] at h; cases h
  | true =>
    cases h3 : maysB f.nums with
    | false => rw [frmE_may h1 h2 h3] at h; cases h
    | true =>
      by_cases h4 : 20 < f.data.size
      · rw [frmE_full h1 h2 h3 h4] at h; cases h
      by_cases h5 : f.kind = 2 → rngE (pairs f.nums) = 0
      · exact ⟨by omega, rfl, fun z hz => mayB_iff.1 (List.all_eq_true.1 h3 z hz), by omega, h5⟩
      · have h6 : f.kind = 2 ∧ rngE (pairs f.nums) ≠ 0 := by
          refine ⟨Decidable.byContradiction fun hh => h5 (fun hk => absurd hk hh), fun he => h5 (fun _ => he)⟩
        rw [frmE_ack h6.1 h2 h3 h4 h6.2] at h; cases h
/-- a frame's bytes -/
def frmB (f : Frm) : List UInt8 := byteOf f.kind :: (if f.kind = 2 then ackB (pairs f.nums) else allL f.nums ++ (if f.kind = 3 then vbytes f.data.size ++ f.data.data.toList else []))

/-- so many numbers that bytes begin with behind the first k, and up to where -/
def numUp (b : List UInt8) (k : Nat) : Nat → Option (List Int × Nat)
  | 0 => some ([], k)
  | i + 1 => match numUp b k i with
    | none => none
    | some (L, k2) => if getOk (b.drop k2) then some (L ++ [getN (b.drop k2)], k2 + getC (b.drop k2)) else none
theorem numUp_none {b : List UInt8} {k i : Nat} (h : numUp b k i = none) : ∀ j, i ≤ j → numUp b k j = none := by
  intro j hj
  induction j with
  | zero => obtain rfl : i = 0 := by omega
            exact h
  | succ j ih =>
    by_cases he : i = j + 1
    · rw [← he]; exact h
    · rw [numUp, ih (by omega)]
theorem numUp_yes {b : List UInt8} {k i k2 : Nat} {L : List Int} (h : numUp b k i = some (L, k2)) (h2 : getOk (b.drop k2)) : numUp b k (i + 1) = some (L ++ [getN (b.drop k2)], k2 + getC (b.drop k2)) := by rw [numUp, h]; simp only; rw [if_pos h2]
theorem numUp_no {b : List UInt8} {k i k2 : Nat} {L : List Int} (h : numUp b k i = some (L, k2)) (h2 : ¬ getOk (b.drop k2)) : numUp b k (i + 1) = none := by rw [numUp, h]; simp only; rw [if_neg h2]
theorem numUp_inv {b : List UInt8} {k : Nat} (hk : k ≤ b.length) : ∀ (i : Nat) (L : List Int) (k2 : Nat), numUp b k i = some (L, k2) → L.length = i ∧ k2 ≤ b.length ∧ b.take k2 = b.take k ++ allL L ∧ ∀ z ∈ L, MayBe z
  | 0, L, k2, h => by
    simp only [numUp, Option.some.injEq, Prod.mk.injEq] at h
    obtain ⟨rfl, rfl⟩ := h
    exact ⟨rfl, hk, by simp [allL], by simp⟩
  | i + 1, L, k2, h => by
    cases hc : numUp b k i with
    | none => rw [numUp, hc] at h; cases h
    | some p =>
      obtain ⟨M, k1⟩ := p
      obtain ⟨a1, a2, a3, a4⟩ := numUp_inv hk i M k1 hc
      by_cases hg : getOk (b.drop k1)
      · rw [numUp_yes hc hg] at h
        simp only [Option.some.injEq, Prod.mk.injEq] at h
        obtain ⟨rfl, rfl⟩ := h
        obtain ⟨s1, s2⟩ := get_split a2 hg
        refine ⟨by simp [a1], s2, by rw [s1, a3, allL_snoc]; simp, fun z hz => ?_⟩
        rcases List.mem_append.1 hz with hz | hz
        · exact a4 z hz
        · rw [List.mem_singleton.1 hz]; exact getN_bounds hg.2.1
      · rw [numUp_no hc hg] at h; cases h
theorem numUp_drop (b : List UInt8) (m k : Nat) : ∀ i, numUp b (m + k) i = (numUp (b.drop m) k i).map fun p => (p.1, m + p.2)
  | 0 => rfl
  | i + 1 => by
    rw [numUp, numUp, numUp_drop b m k i]
    cases hc : numUp (b.drop m) k i with
    | none => rfl
    | some p =>
      obtain ⟨L, k2⟩ := p
      simp only [Option.map_some, List.drop_drop]
      by_cases hg : getOk (b.drop (m + k2))
      · rw [if_pos hg, if_pos hg]; simp [Nat.add_assoc]
      · rw [if_neg hg, if_neg hg]; rfl
theorem allL_append (a b : List Int) : allL (a ++ b) = allL a ++ allL b := by simp [allL]
theorem numUp_back {L : List Int} {hd r b : List UInt8} (hm : ∀ z ∈ L, MayBe z) (hb : b = hd ++ allL L ++ r) : ∀ i, i ≤ L.length → numUp b hd.length i = some (L.take i, hd.length + (allL (L.take i)).length)
  | 0, _ => by simp [numUp, allL]
  | i + 1, hi => by
    have hiL : i < L.length := by omega
    have hz := hm _ (ith_mem hiL)
    have hsp : L = L.take i ++ (ith L i :: L.drop (i + 1)) := by
      have := List.take_append_drop (i + 1) L
      rw [take_ith hiL] at this
      rw [List.append_assoc] at this
      exact this.symm
    have hdr : b.drop (hd.length + (allL (L.take i)).length) = vbytes (ith L i) ++ (allL (L.drop (i + 1)) ++ r) := by
      refine drop_of (p := hd ++ allL (L.take i)) ?_ (by simp)
      rw [hb]
      conv => lhs; rw [hsp, allL_append]
      simp [allL]
    obtain ⟨g1, g2, g3⟩ := get_here hdr hz.1 hz.2
    rw [numUp_yes (numUp_back hm hb i (by omega)) g1, g2, g3, take_ith hiL, allL_snoc, List.length_append, Nat.add_assoc]
/-- how many numbers are read -/
def readK (k : Int) : Nat := if k = 1 then 0 else if k = 7 then 2 else if k = 3 then 2 else 1
/-- a frame of a kind that bytes begin with, and how many these are -/
def restF (kind : Int) (b : List UInt8) : Option (Frm × Nat) :=
  if kind = 2 then (match readA b with | none => none | some (L, n) => some (⟨2, unpairs L, ByteArray.empty⟩, n))
  else match numUp b 0 (readK kind) with
    | none => none
    | some (L, k) => if kind = 3 then (if ith L 1 ≤ 20 ∧ (k : Int) + ith L 1 ≤ b.length then some (⟨3, [ith L 0], ⟨((b.drop k).take (ith L 1).toNat).toArray⟩⟩, k + (ith L 1).toNat) else none) else some (⟨kind, L, ByteArray.empty⟩, k)
/-- the frame that bytes begin with, and how many these are -/
def readF (b : List UInt8) : Option (Frm × Nat) :=
  if b = [] ∨ bat b 0 < 1 ∨ 8 < bat b 0 then none else match restF (bat b 0) (b.drop 1) with | none => none | some (f, n) => some (f, n + 1)
theorem ba_ext {a b : ByteArray} (h : a.data.toList = b.data.toList) : a = b := by
  cases a; cases b; congr; exact Array.toList_inj.1 h
theorem restF_inv {kind : Int} {b : List UInt8} {f : Frm} {n : Nat} (h0 : 1 ≤ kind) (h1 : kind ≤ 8) (h : restF kind b = some (f, n)) : frmE f = 0 ∧ f.kind = kind ∧ n ≤ b.length ∧ byteOf kind :: b.take n = frmB f := by
  unfold restF at h
  by_cases hk : kind = 2
  · subst hk
    rw [if_pos rfl] at h
    cases hc : readA b with
    | none => rw [hc] at h; cases h
    | some p =>
      obtain ⟨L, m⟩ := p
      rw [hc] at h
      simp only [Option.some.injEq, Prod.mk.injEq] at h
      obtain ⟨rfl, rfl⟩ := h
      obtain ⟨a1, a2, a3, a4, a5⟩ := readA_inv hc
      have hl := rngE_len a2
      have hE : frmE ⟨2, unpairs L, ByteArray.empty⟩ = 0 := by
        refine frmE_ok (by simp) ?_ ?_ (by simp) (fun _ => by rw [pairs_unpairs]; exact a2)
        · unfold shapeB
          simp only [unpairs_len]
          simp
          omega
        · unfold maysB
          rw [List.all_eq_true]
          intro z hz
          simp only [unpairs, List.mem_flatMap] at hz
          obtain ⟨r, hr, hz⟩ := hz
          have := rngE_ok a2 r hr
          simp at hz
          rcases hz with rfl | rfl
          · exact mayB_iff.2 this.2
          · exact mayB_iff.2 this.1
      refine ⟨hE, rfl, a3, ?_⟩
      rw [a4]
      unfold frmB
      simp [pairs_unpairs]
  · rw [if_neg hk] at h
    cases hc : numUp b 0 (readK kind) with
    | none => rw [hc] at h; cases h
    | some p =>
      obtain ⟨L, k⟩ := p
      rw [hc] at h
      simp only at h
      obtain ⟨a1, a2, a3, a4⟩ := numUp_inv (Nat.zero_le _) _ _ _ hc
      simp only [List.take_zero, List.nil_append] at a3
      by_cases h3 : kind = 3
      · subst h3
        rw [if_pos rfl] at h
        by_cases hx : ith L 1 ≤ 20 ∧ (k : Int) + ith L 1 ≤ b.length
        · rw [if_pos hx] at h
          simp only [Option.some.injEq, Prod.mk.injEq] at h
          obtain ⟨rfl, rfl⟩ := h
          have hL2 : L.length = 2 := a1
          match L, hL2 with
          | [x, y], _ =>
            have hy := a4 y (by simp)
            have hxx := a4 x (by simp)
            unfold MayBe at hy hxx
            have e0 : ith [x, y] 0 = x := rfl
            have e1 : ith [x, y] 1 = y := rfl
            have hx1 : y ≤ 20 := hx.1
            have hx2 : (k : Int) + y ≤ b.length := hx.2
            rw [e0, e1]
            have hsz : ((⟨((b.drop k).take y.toNat).toArray⟩ : ByteArray)).size = y.toNat := by
              show ((b.drop k).take y.toNat).toArray.size = _
              simp; omega
            have hE : frmE ⟨3, [x], ⟨((b.drop k).take y.toNat).toArray⟩⟩ = 0 := by
              refine frmE_ok (by simp) ?_ ?_ ?_ (fun h => by simp at h)
              · unfold shapeB; simp [manyK]
              · unfold maysB; simp; exact mayB_iff.2 hxx
              · show ¬ 20 < ((⟨((b.drop k).take y.toNat).toArray⟩ : ByteArray)).size
                rw [hsz]; omega
            refine ⟨hE, rfl, by omega, ?_⟩
            rw [List.take_add, a3]
            unfold frmB
            simp only [hsz, if_neg (show ¬ (3 : Int) = 2 by decide)]
            rw [show ((y.toNat : Nat) : Int) = y by omega]
            simp [allL]
        · rw [if_neg hx] at h; cases h
      · rw [if_neg h3] at h
        simp only [Option.some.injEq, Prod.mk.injEq] at h
        obtain ⟨rfl, rfl⟩ := h
        have hE : frmE ⟨kind, L, ByteArray.empty⟩ = 0 := by
          refine frmE_ok (by simp; omega) ?_ ?_ (by simp) (fun h => absurd h hk)
          · unfold shapeB
            simp only [if_neg hk, a1]
            unfold readK manyK
            simp [hk, h3]
            split
            · rfl
            · split <;> rfl
          · unfold maysB
            rw [List.all_eq_true]
            exact fun z hz => mayB_iff.2 (a4 z hz)
        refine ⟨hE, rfl, a2, ?_⟩
        rw [a3]
        unfold frmB
        simp [hk, h3]
/-- what is read is right, and is just the bytes it was read of -/
theorem readF_inv {b : List UInt8} {f : Frm} {n : Nat} (h : readF b = some (f, n)) : frmE f = 0 ∧ 1 ≤ n ∧ n ≤ b.length ∧ b.take n = frmB f := by
  unfold readF at h
  by_cases hc : b = [] ∨ bat b 0 < 1 ∨ 8 < bat b 0
  · rw [if_pos hc] at h; cases h
  · rw [if_neg hc] at h
    cases hr : restF (bat b 0) (b.drop 1) with
    | none => rw [hr] at h; cases h
    | some p =>
      obtain ⟨g, m⟩ := p
      rw [hr] at h
      simp only [Option.some.injEq, Prod.mk.injEq] at h
      obtain ⟨rfl, rfl⟩ := h
      obtain ⟨a1, a2, a3, a4⟩ := restF_inv (by omega) (by omega) hr
      cases b with
      | nil => simp at hc
      | cons c b =>
        simp only [List.drop_succ_cons, List.drop_zero] at a3 a4
        refine ⟨a1, by omega, by simp; omega, ?_⟩
        rw [← a4, List.take_succ_cons]
        congr 1
        have := bat_byte (l := c :: b) (i := 0) (by simp)
        simpa using this.symm
set_option maxRecDepth 100000 in
theorem readF_back {f : Frm} (h : frmE f = 0) (r : List UInt8) : readF (frmB f ++ r) = some (f, (frmB f).length) := by
  obtain ⟨⟨k1, k2⟩, hs, hm, hd, ha⟩ := frmE_out h
  have hb0 : bat (frmB f ++ r) 0 = f.kind := by unfold frmB; exact byteOf_toNat (by omega) (by omega)
  have hne : frmB f ++ r ≠ [] := by unfold frmB; simp
  unfold readF
  rw [if_neg (by rw [hb0]; intro hh; rcases hh with hh | hh | hh; exact hne hh; omega; omega), hb0]
  have hd1 : (frmB f ++ r).drop 1 = (if f.kind = 2 then ackB (pairs f.nums) else allL f.nums ++ (if f.kind = 3 then vbytes f.data.size ++ f.data.data.toList else [])) ++ r := by unfold frmB; rfl
  rw [hd1]
  obtain ⟨kind, nums, data⟩ := f
  simp only at *
  unfold shapeB at hs
  simp only [Bool.and_eq_true, Bool.or_eq_true, beq_iff_eq] at hs
  obtain ⟨hs1, hs2⟩ := hs
  unfold restF
  by_cases hk : kind = 2
  · subst hk
    simp only [if_pos] at hs2 ⊢
    rw [decide_eq_true_iff] at hs2
    have hE := ha rfl
    have hl := pairs_len nums hs2.2.1
    rw [readA_back hE (by omega) r]
    have hde : data = ByteArray.empty := ba_ext (by
      have : data.size = 0 := by simpa using hs1
      have h2 : data.data.toList.length = 0 := this
      rw [List.length_eq_zero_iff.1 h2]; rfl)
    simp only [unpairs_pairs nums hs2.2.1, hde]
    unfold frmB
    simp
  · simp only [if_neg hk] at hs2 ⊢
    rw [decide_eq_true_iff] at hs2
    by_cases h3 : kind = 3
    · subst h3
      simp only [if_pos]
      have hn1 : nums.length = 1 := by unfold manyK at hs2; simp at hs2; omega
      match nums, hn1 with
      | [x], _ =>
        have hbb : allL [x] ++ (vbytes data.size ++ data.data.toList) ++ r = [] ++ allL [x, (data.size : Int)] ++ (data.data.toList ++ r) := by simp [allL]
        have hx := hm x (by simp)
        have hup := numUp_back (L := [x, (data.size : Int)]) (hd := []) (r := data.data.toList ++ r) (fun z hz => by
          simp at hz
          rcases hz with rfl | rfl
          · exact hx
          · exact ⟨by omega, by omega⟩) hbb 2 (by simp)
        simp only [List.length_nil, Nat.zero_add, List.take_of_length_le (show [x, (data.size : Int)].length ≤ 2 by simp)] at hup
        have hrk : readK 3 = 2 := rfl
        rw [hrk, hup]
        have e1 : ith [x, (data.size : Int)] 1 = data.size := rfl
        have e0 : ith [x, (data.size : Int)] 0 = x := rfl
        have hdl : data.data.toList.length = data.size := rfl
        simp only [e1, e0, Int.toNat_natCast]
        have hdrop : (allL [x] ++ (vbytes data.size ++ data.data.toList) ++ r).drop (allL [x, (data.size : Int)]).length = data.data.toList ++ r := drop_of hbb (by simp)
        have hlen : (allL [x] ++ (vbytes data.size ++ data.data.toList) ++ r).length = (allL [x, (data.size : Int)]).length + data.size + r.length := by
          rw [hbb]; simp [hdl]; omega
        rw [if_pos ⟨by omega, by rw [hlen]; omega⟩, hdrop, List.take_left' hdl]
        unfold frmB
        have : (⟨data.data.toList.toArray⟩ : ByteArray) = data := by cases data; simp
        simp [allL, this, hdl]
        omega
    · simp only [if_neg h3]
      have hrk : readK kind = nums.length := by
        unfold manyK at hs2
        unfold readK
        simp only [if_neg hk, if_neg h3] at hs2 ⊢
        by_cases h1 : kind = 1
        · rw [if_pos h1] at hs2 ⊢; omega
        · rw [if_neg h1] at hs2 ⊢
          by_cases h7 : kind = 7
          · rw [if_pos h7] at hs2 ⊢; omega
          · rw [if_neg h7] at hs2 ⊢; omega
      have hup := numUp_back (L := nums) (hd := []) (r := r) hm (b := allL nums ++ [] ++ r) (by simp) nums.length (Nat.le_refl _)
      simp only [List.length_nil, Nat.zero_add, List.take_length] at hup
      rw [hrk, hup]
      have hde : data = ByteArray.empty := ba_ext (by
        have : data.size = 0 := by rcases hs1 with hs1 | hs1; exact absurd hs1 h3; exact hs1
        have h2 : data.data.toList.length = 0 := this
        rw [List.length_eq_zero_iff.1 h2]; rfl)
      simp only [hde]
      unfold frmB
      simp [hk, h3]
end Go.Proofs.YthnolkbolmbkdaaDoor
