/- Plain words on packets: what is wrong with one, its bytes, what any bytes are, and that a packet comes back. No program here. -/
import Derived.Test.YthnolkbolmbkdaaDoorFrmLaw
import Derived.Test.YthnolkbolmbkdaaDoorNumAny
namespace Go.Proofs.YthnolkbolmbkdaaDoor
open Go.ChangeShapes Go.WideShapes Go.ChangeAt Go.RowKit
set_option linter.unusedVariables false

/-- a packet's first bytes: how many, and these of a number -/
def headB (n b : Int) : List UInt8 :=
  byteOf b :: (if b = 1 then [byteOf (n % 256)] else if b = 2 then [byteOf (n / 256 % 256), byteOf (n % 256)]
    else if b = 3 then [byteOf (n / 65536 % 256), byteOf (n / 256 % 256), byteOf (n % 256)]
    else [byteOf (n / 16777216 % 256), byteOf (n / 65536 % 256), byteOf (n / 256 % 256), byteOf (n % 256)])
theorem headB_len {n b : Int} (h1 : 1 ≤ b) (h2 : b ≤ 4) : ((headB n b).length : Int) = b + 1 := by
  rcases four h1 h2 with rfl | rfl | rfl | rfl <;> rfl
/-- frames' bytes one behind the other -/
def frmsB (L : List Frm) : List UInt8 := L.flatMap frmB
theorem frmsB_snoc (L : List Frm) (f : Frm) : frmsB (L ++ [f]) = frmsB L ++ frmB f := by simp [frmsB]
theorem frmsB_append (L M : List Frm) : frmsB (L ++ M) = frmsB L ++ frmsB M := by simp [frmsB]
def pktB (n known : Int) (L : List Frm) : List UInt8 := headB n (leastN (n - known)) ++ frmsB L
/-- the first fault of frames -/
def frmsE : List Frm → Int
  | [] => 0
  | f :: L => if frmE f = 0 then frmsE L else frmE f
theorem frmsE_app_ok {L M : List Frm} (h : frmsE L = 0) : frmsE (L ++ M) = frmsE M := by
  induction L with
  | nil => rfl
  | cons f L ih =>
    rw [frmsE] at h
    by_cases h0 : frmE f = 0
    · rw [if_pos h0] at h
      rw [List.cons_append, frmsE, if_pos h0, ih h]
    · rw [if_neg h0] at h; exact absurd h h0
theorem frmsE_bad {L M : List Frm} {f : Frm} (h : frmsE L = 0) (hf : frmE f ≠ 0) : frmsE (L ++ f :: M) = frmE f := by
  rw [frmsE_app_ok h, frmsE, if_neg hf]
theorem frmsE_all {L : List Frm} (h : frmsE L = 0) : ∀ f ∈ L, frmE f = 0 := by
  induction L with
  | nil => simp
  | cons f L ih =>
    rw [frmsE] at h
    by_cases h0 : frmE f = 0
    · rw [if_pos h0] at h
      intro g hg
      rcases List.mem_cons.1 hg with rfl | hg
      · exact h0
      · exact ih h g hg
    · rw [if_neg h0] at h; exact absurd h h0
/-- what is wrong with a packet -/
def pktE (n known : Int) (L : List Frm) : Int :=
  if NeedOk n known then (if L = [] then 5 else if 12 < L.length then 4 else if frmsE L = 0 then (if 200 < (pktB n known L).length then 4 else 0) else frmsE L) else 1
def pktV (n known : Int) (L : List Frm) : List UInt8 := if pktE n known L = 0 then pktB n known L else []

/-- the cut number in the first bytes -/
def cutOf (b : List UInt8) (m : Int) : Int :=
  if m = 1 then bat b 1 else if m = 2 then 256 * bat b 1 + bat b 2 else if m = 3 then 256 * (256 * bat b 1 + bat b 2) + bat b 3 else 256 * (256 * (256 * bat b 1 + bat b 2) + bat b 3) + bat b 4
/-- is there a packet's head -/
def HeadOk (b : List UInt8) (next : Int) : Prop := b ≠ [] ∧ 1 ≤ bat b 0 ∧ bat b 0 ≤ 4 ∧ bat b 0 < b.length ∧ WholeOk (cutOf b (bat b 0)) (bat b 0) next
noncomputable instance (b : List UInt8) (next : Int) : Decidable (HeadOk b next) := Classical.propDecidable _
/-- the frames of i rounds behind the first k bytes, and up to where -/
def rdFs (b : List UInt8) (k : Nat) : Nat → Option (List Frm × Nat)
  | 0 => some ([], k)
  | i + 1 => match rdFs b k i with
    | none => none
    | some (L, p) => if p < b.length then (match readF (b.drop p) with | none => none | some (f, n) => some (L ++ [f], p + n)) else some (L, p)
theorem rdFs_none {b : List UInt8} {k i : Nat} (h : rdFs b k i = none) : ∀ j, i ≤ j → rdFs b k j = none := by
  intro j hj
  induction j with
  | zero => obtain rfl : i = 0 := by omega
            exact h
  | succ j ih =>
    by_cases he : i = j + 1
    · rw [← he]; exact h
    · rw [rdFs, ih (by omega)]
theorem rdFs_end {b : List UInt8} {k i p : Nat} {L : List Frm} (h : rdFs b k i = some (L, p)) (hp : b.length ≤ p) : ∀ j, i ≤ j → rdFs b k j = some (L, p) := by
  intro j hj
  induction j with
  | zero => obtain rfl : i = 0 := by omega
            exact h
  | succ j ih =>
    by_cases he : i = j + 1
    · rw [← he]; exact h
    · rw [rdFs, ih (by omega)]; simp only; rw [if_neg (by omega)]
theorem rdFs_yes {b : List UInt8} {k i p n : Nat} {L : List Frm} {f : Frm} (h : rdFs b k i = some (L, p)) (hp : p < b.length) (hf : readF (b.drop p) = some (f, n)) : rdFs b k (i + 1) = some (L ++ [f], p + n) := by
  rw [rdFs, h]; simp only; rw [if_pos hp, hf]
theorem rdFs_no {b : List UInt8} {k i p : Nat} {L : List Frm} (h : rdFs b k i = some (L, p)) (hp : p < b.length) (hf : readF (b.drop p) = none) : rdFs b k (i + 1) = none := by
  rw [rdFs, h]; simp only; rw [if_pos hp, hf]
theorem rdFs_inv {b : List UInt8} {k : Nat} (hk : k ≤ b.length) : ∀ (i : Nat) (L : List Frm) (p : Nat), rdFs b k i = some (L, p) → p ≤ b.length ∧ L.length ≤ i ∧ (∀ f ∈ L, frmE f = 0) ∧ b.take p = b.take k ++ frmsB L ∧ (p < b.length → L.length = i ∧ k + i ≤ p)
  | 0, L, p, h => by
    simp only [rdFs, Option.some.injEq, Prod.mk.injEq] at h
    obtain ⟨rfl, rfl⟩ := h
    exact ⟨hk, by simp, by simp, by simp [frmsB], fun _ => ⟨rfl, by omega⟩⟩
  | i + 1, L, p, h => by
    cases hc : rdFs b k i with
    | none => rw [rdFs, hc] at h; cases h
    | some q =>
      obtain ⟨M, m⟩ := q
      obtain ⟨a1, a2, a3, a4, a5⟩ := rdFs_inv hk i M m hc
      by_cases hm : m < b.length
      · cases hf : readF (b.drop m) with
        | none => rw [rdFs_no hc hm hf] at h; cases h
        | some q2 =>
          obtain ⟨f, n⟩ := q2
          rw [rdFs_yes hc hm hf] at h
          simp only [Option.some.injEq, Prod.mk.injEq] at h
          obtain ⟨rfl, rfl⟩ := h
          obtain ⟨r1, r2, r3, r4⟩ := readF_inv hf
          rw [List.length_drop] at r3
          obtain ⟨c1, c2⟩ := a5 hm
          refine ⟨by omega, by simp; omega, fun g hg => ?_, by rw [List.take_add, a4, r4, frmsB_snoc, List.append_assoc], fun _ => ⟨by simp [c1], by omega⟩⟩
          rcases List.mem_append.1 hg with hg | hg
          · exact a3 g hg
          · rw [List.mem_singleton.1 hg]; exact r1
      · rw [rdFs_end hc (by omega) (i + 1) (by omega)] at h
        simp only [Option.some.injEq, Prod.mk.injEq] at h
        obtain ⟨rfl, rfl⟩ := h
        exact ⟨a1, by omega, a3, a4, fun h => absurd h hm⟩
/-- behind as many rounds as there are bytes all is read -/
theorem rdFs_done {b : List UInt8} {k : Nat} (hk : k ≤ b.length) {L : List Frm} {p : Nat} (h : rdFs b k b.length = some (L, p)) : p = b.length := by
  obtain ⟨a1, a2, a3, a4, a5⟩ := rdFs_inv hk _ L p h
  rcases Nat.lt_or_ge p b.length with h1 | h1
  · have := (a5 h1).2; omega
  · omega
/-- any bytes as a packet: its number, frames, and the fault -/
noncomputable def openF (b : List UInt8) : Option (List Frm) := match rdFs b ((bat b 0).toNat + 1) b.length with | none => none | some (L, _) => if L = [] ∨ 12 < L.length then none else some L
noncomputable def openE (b : List UInt8) (next : Int) : Int :=
  if MayBe next then (if 200 < b.length then 4 else if HeadOk b next then (match openF b with | none => 2 | some _ => 0) else 2) else 1
noncomputable def openN (b : List UInt8) (next : Int) : Int := if openE b next = 0 then wholeN (cutOf b (bat b 0)) (bat b 0) next else 0
noncomputable def openL (b : List UInt8) (next : Int) : List Frm := if openE b next = 0 then (openF b).getD [] else []
theorem frmB_pos (f : Frm) : 1 ≤ (frmB f).length := by unfold frmB; simp
theorem rdFs_back {L : List Frm} {hd b : List UInt8} (hE : frmsE L = 0) (hb : b = hd ++ frmsB L) : ∀ i, i ≤ L.length → rdFs b hd.length i = some (L.take i, hd.length + (frmsB (L.take i)).length)
  | 0, _ => by simp [rdFs, frmsB]
  | i + 1, hi => by
    have hiL : i < L.length := by omega
    have hsp : L = L.take i ++ (L[i] :: L.drop (i + 1)) := by
      rw [← List.drop_eq_getElem_cons hiL, List.take_append_drop]
    have hb2 : b = hd ++ frmsB (L.take i) ++ (frmB L[i] ++ frmsB (L.drop (i + 1))) := by
      have e : frmsB L = frmsB (L.take i ++ (L[i] :: L.drop (i + 1))) := congrArg frmsB hsp
      rw [hb, e, frmsB_append, show frmsB (L[i] :: L.drop (i + 1)) = frmB L[i] ++ frmsB (L.drop (i + 1)) from rfl, List.append_assoc]
    have hdr : b.drop (hd.length + (frmsB (L.take i)).length) = frmB L[i] ++ frmsB (L.drop (i + 1)) := drop_of hb2 (by simp)
    have hlt : hd.length + (frmsB (L.take i)).length < b.length := by
      have := congrArg List.length hb2
      have := frmB_pos L[i]
      simp at *; omega
    rw [rdFs_yes (rdFs_back hE hb i (by omega)) hlt (by rw [hdr]; exact readF_back (frmsE_all hE _ (List.getElem_mem hiL)) _), List.take_succ_eq_append_getElem hiL, frmsB_snoc, List.length_append, Nat.add_assoc]
theorem headB_back {n b : Int} (h0 : 0 ≤ n) (h1 : 1 ≤ b) (h2 : b ≤ 4) (r : List UInt8) : bat (headB n b ++ r) 0 = b ∧ cutOf (headB n b ++ r) b = n % rnd b := by
  have hby : ∀ m : Int, 0 ≤ m → m < 256 → ((byteOf m).toNat : Int) = m := fun m a c => byteOf_toNat a c
  refine ⟨by unfold headB; exact hby b (by omega) (by omega), ?_⟩
  have e0 := hby (n % 256) (by omega) (by omega)
  have e1 := hby (n / 256 % 256) (by omega) (by omega)
  have e2 := hby (n / 65536 % 256) (by omega) (by omega)
  have e3 := hby (n / 16777216 % 256) (by omega) (by omega)
  rcases four h1 h2 with rfl | rfl | rfl | rfl
  · show ((byteOf (n % 256)).toNat : Int) = n % 256
    omega
  · show 256 * ((byteOf (n / 256 % 256)).toNat : Int) + ((byteOf (n % 256)).toNat : Int) = n % 65536
    omega
  · show 256 * (256 * ((byteOf (n / 65536 % 256)).toNat : Int) + ((byteOf (n / 256 % 256)).toNat : Int)) + ((byteOf (n % 256)).toNat : Int) = n % 16777216
    omega
  · show 256 * (256 * (256 * ((byteOf (n / 16777216 % 256)).toNat : Int) + ((byteOf (n / 65536 % 256)).toNat : Int)) + ((byteOf (n / 256 % 256)).toNat : Int)) + ((byteOf (n % 256)).toNat : Int) = n % 4294967296
    omega
/-- a packet is read as it was -/
theorem open_back {n known more : Int} {L : List Frm} (h : pktE n known L = 0) (m1 : known ≤ more) (m2 : more < n) : openE (pktB n known L) (more + 1) = 0 ∧ openN (pktB n known L) (more + 1) = n ∧ openL (pktB n known L) (more + 1) = L ∧ (pktB n known L).length ≤ 200 := by
  unfold pktE at h
  by_cases hn : NeedOk n known
  case neg => rw [if_neg hn] at h; cases h
  rw [if_pos hn] at h
  by_cases h5 : L = []
  · rw [if_pos h5] at h; cases h
  rw [if_neg h5] at h
  by_cases h4 : 12 < L.length
  · rw [if_pos h4] at h; cases h
  rw [if_neg h4] at h
  by_cases hE : frmsE L = 0
  case neg => rw [if_neg hE] at h; exact absurd h hE
  rw [if_pos hE] at h
  by_cases h2 : 200 < (pktB n known L).length
  · rw [if_pos h2] at h; cases h
  obtain ⟨w1, w2⟩ := wholeN_back n known more hn m1 m2
  obtain ⟨b1, b2⟩ := leastN_bounds (n - known)
  obtain ⟨⟨n1, n2⟩, k1, k2⟩ := hn
  obtain ⟨e1, e2⟩ := headB_back (n := n) n1 b1 b2 (frmsB L)
  have hlen := headB_len (n := n) b1 b2
  have hpk : headB n (leastN (n - known)) ++ frmsB L = pktB n known L := rfl
  rw [hpk] at e1 e2
  have hpl : (pktB n known L).length = (headB n (leastN (n - known))).length + (frmsB L).length := by rw [← hpk, List.length_append]
  have hfl : 1 ≤ (frmsB L).length := by
    cases L with
    | nil => exact absurd rfl h5
    | cons f L => have := frmB_pos f; simp [frmsB]; omega
  have hlL : ∀ M : List Frm, M.length ≤ (frmsB M).length := by
    intro M
    induction M with
    | nil => simp
    | cons f M ih => have := frmB_pos f; simp [frmsB] at ih ⊢; omega
  have hh : HeadOk (pktB n known L) (more + 1) := by
    refine ⟨fun h0 => ?_, by omega, by omega, by omega, ?_⟩
    · rw [h0] at hpl; simp at hpl; omega
    · rw [e1, e2]; exact w1
  have hback := rdFs_back (hd := headB n (leastN (n - known))) hE hpk.symm L.length (Nat.le_refl _)
  rw [List.take_length, ← hpl] at hback
  have hend := rdFs_end hback (Nat.le_refl _) (pktB n known L).length (by have := hlL L; omega)
  have hF : openF (pktB n known L) = some L := by
    unfold openF
    rw [e1, show (leastN (n - known)).toNat + 1 = (headB n (leastN (n - known))).length by omega, hend]
    simp only
    rw [if_neg (fun hx => by rcases hx with hx | hx; exact h5 hx; exact h4 hx)]
  have hO : openE (pktB n known L) (more + 1) = 0 := by
    unfold openE
    rw [if_pos ⟨by omega, by omega⟩, if_neg h2, if_pos hh, hF]
  refine ⟨hO, ?_, ?_, by omega⟩
  · unfold openN; rw [if_pos hO, e1, e2]; exact w2
  · unfold openL; rw [if_pos hO, hF]; rfl
end Go.Proofs.YthnolkbolmbkdaaDoor
