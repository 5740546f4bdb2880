/- Plain words on packets: what is wrong with one, its bytes, what any bytes are, and that a packet comes back. No program here. And more, merged: each part has its own word. -/
import Derived.Test.YthnolkbolmbkdaaDoorFrmLaw
import Derived.Test.YthnolkbolmbkdaaDoorNumAny
import Derived.Test.YthnolkbolmbkdaaDoorFrmBy
import Derived.Test.YthnolkbolmbkdaaDoorVStr
import Derived.Test.YthnolkbolmbkdaaDoorSameR
import Derived.Test.YthnolkbolmbkdaaDoorAckR
import Derived.Test.YthnolkbolmbkdaaDoorFrmChk
import Derived.Lib.ConvBytes
import Derived.Test.YthnolkbolmbkdaaDoorFrmPs
import Derived.Test.YthnolkbolmbkdaaDoorFrm
import Derived.Test.YthnolkbolmbkdaaDoorRFrm1
import Derived.Test.YthnolkbolmbkdaaDoorNumRef
import Derived.Test.YthnolkbolmbkdaaDoorRAckR
import Derived.Deep.RegionLaw
/-! Plain words on packets: what is wrong with one, its bytes, what any bytes are, and that a packet comes back. No program here. -/
namespace Go.Proofs.YthnolkbolmbkdaaDoor
open Go.ChangeShapes Go.WideShapes Go.ChangeAt Go.RowKit
set_option linter.unusedVariables false

/-- a packet's first bytes: how many, and these of a number -/
def headB (n b : Int) : List UInt8 :=
  byteOf b :: (if b = 1 then [byteOf (n % 256)] else if b = 2 then [byteOf (n / 256 % 256), byteOf (n % 256)]
    else if b = 3 then [byteOf (n / 65536 % 256), byteOf (n / 256 % 256), byteOf (n % 256)]
    else [byteOf (n / 16777216 % 256), byteOf (n / 65536 % 256), byteOf (n / 256 % 256), byteOf (n % 256)])
theorem headB_len {n b : Int} (h1 : 1 ≤ b) (h2 : b ≤ 4) : ((headB n b).length : Int) = b + 1 := by
  rcases four h1 h2 with rfl | rfl | rfl | rfl <;> rfl
/-- frames' bytes one behind the other -/
def frmsB (L : List Frm) : List UInt8 := L.flatMap frmB
theorem frmsB_snoc (L : List Frm) (f : Frm) : frmsB (L ++ [f]) = frmsB L ++ frmB f := by simp [frmsB]
theorem frmsB_append (L M : List Frm) : frmsB (L ++ M) = frmsB L ++ frmsB M := by simp [frmsB]
def pktB (n known : Int) (L : List Frm) : List UInt8 := headB n (leastN (n - known)) ++ frmsB L
/-- the first fault of frames -/
def frmsE : List Frm → Int
  | [] => 0
  | f :: L => if frmE f = 0 then frmsE L else frmE f
theorem frmsE_app_ok {L M : List Frm} (h : frmsE L = 0) : frmsE (L ++ M) = frmsE M := by
  induction L with
  | nil => rfl
  | cons f L ih =>
    rw [frmsE] at h
    by_cases h0 : frmE f = 0
    · rw [if_pos h0] at h
      rw [List.cons_append, frmsE, if_pos h0, ih h]
    · rw [if_neg h0] at h; exact absurd h h0
theorem frmsE_bad {L M : List Frm} {f : Frm} (h : frmsE L = 0) (hf : frmE f ≠ 0) : frmsE (L ++ f :: M) = frmE f := by
  rw [frmsE_app_ok h, frmsE, if_neg hf]
theorem frmsE_all {L : List Frm} (h : frmsE L = 0) : ∀ f ∈ L, frmE f = 0 := by
  induction L with
  | nil => simp
  | cons f L ih =>
    rw [frmsE] at h
    by_cases h0 : frmE f = 0
    · rw [if_pos h0] at h
      intro g hg
      rcases List.mem_cons.1 hg with rfl | hg
      · exact h0
      · exact ih h g hg
    · rw [if_neg h0] at h; exact absurd h h0
/-- what is wrong with a packet -/
def pktE (n known : Int) (L : List Frm) : Int :=
  if NeedOk n known then (if L = [] then 5 else if 12 < L.length then 4 else if frmsE L = 0 then (if 200 < (pktB n known L).length then 4 else 0) else frmsE L) else 1
def pktV (n known : Int) (L : List Frm) : List UInt8 := if pktE n known L = 0 then pktB n known L else []

/-- the cut number in the first bytes -/
def cutOf (b : List UInt8) (m : Int) : Int :=
  if m = 1 then bat b 1 else if m = 2 then 256 * bat b 1 + bat b 2 else if m = 3 then 256 * (256 * bat b 1 + bat b 2) + bat b 3 else 256 * (256 * (256 * bat b 1 + bat b 2) + bat b 3) + bat b 4
/-- is there a packet's head -/
def HeadOk (b : List UInt8) (next : Int) : Prop := b ≠ [] ∧ 1 ≤ bat b 0 ∧ bat b 0 ≤ 4 ∧ bat b 0 < b.length ∧ WholeOk (cutOf b (bat b 0)) (bat b 0) next
noncomputable instance (b : List UInt8) (next : Int) : Decidable (HeadOk b next) := Classical.propDecidable _
/-- the frames of i rounds behind the first k bytes, and up to where -/
def rdFs (b : List UInt8) (k : Nat) : Nat → Option (List Frm × Nat)
  | 0 => some ([], k)
  | i + 1 => match rdFs b k i with
    | none => none
    | some (L, p) => if p < b.length then (match readF (b.drop p) with | none => none | some (f, n) => some (L ++ [f], p + n)) else some (L, p)
theorem rdFs_none {b : List UInt8} {k i : Nat} (h : rdFs b k i = none) : ∀ j, i ≤ j → rdFs b k j = none := by
  intro j hj
  induction j with
  | zero => obtain rfl : i = 0 := by omega
            exact h
  | succ j ih =>
    by_cases he : i = j + 1
    · rw [← he]; exact h
    · rw [rdFs, ih (by omega)]
theorem rdFs_end {b : List UInt8} {k i p : Nat} {L : List Frm} (h : rdFs b k i = some (L, p)) (hp : b.length ≤ p) : ∀ j, i ≤ j → rdFs b k j = some (L, p) := by
  intro j hj
  induction j with
  | zero => obtain rfl : i = 0 := by omega
            exact h
  | succ j ih =>
    by_cases he : i = j + 1
    · rw [← he]; exact h
    · rw [rdFs, ih (by omega)]; simp only; rw [if_neg (by omega)]
theorem rdFs_yes {b : List UInt8} {k i p n : Nat} {L : List Frm} {f : Frm} (h : rdFs b k i = some (L, p)) (hp : p < b.length) (hf : readF (b.drop p) = some (f, n)) : rdFs b k (i + 1) = some (L ++ [f], p + n) := by
  rw [rdFs, h]; simp only; rw [if_pos hp, hf]
theorem rdFs_no {b : List UInt8} {k i p : Nat} {L : List Frm} (h : rdFs b k i = some (L, p)) (hp : p < b.length) (hf : readF (b.drop p) = none) : rdFs b k (i + 1) = none := by
  rw [rdFs, h]; simp only; rw [if_pos hp, hf]
theorem rdFs_inv {b : List UInt8} {k : Nat} (hk : k ≤ b.length) : ∀ (i : Nat) (L : List Frm) (p : Nat), rdFs b k i = some (L, p) → p ≤ b.length ∧ L.length ≤ i ∧ (∀ f ∈ L, frmE f = 0) ∧ b.take p = b.take k ++ frmsB L ∧ (p < b.length → L.length = i ∧ k + i ≤ p)
  | 0, L, p, h => by
    simp only [rdFs, Option.some.injEq, Prod.mk.injEq] at h
    obtain ⟨rfl, rfl⟩ := h
    exact ⟨hk, by simp, by simp, by simp [frmsB], fun _ => ⟨rfl, by omega⟩⟩
  | i + 1, L, p, h => by
    cases hc : rdFs b k i with
    | none => rw [rdFs, hc] at h; cases h
    | some q =>
      obtain ⟨M, m⟩ := q
      obtain ⟨a1, a2, a3, a4, a5⟩ := rdFs_inv hk i M m hc
      by_cases hm : m < b.length
      · cases hf : readF (b.drop m) with
        | none => rw [rdFs_no hc hm hf] at h; cases h
        | some q2 =>
          obtain ⟨f, n⟩ := q2
          rw [rdFs_yes hc hm hf] at h
          simp only [Option.some.injEq, Prod.mk.injEq] at h
          obtain ⟨rfl, rfl⟩ := h
          obtain ⟨r1, r2, r3, r4⟩ := readF_inv hf
          rw [List.length_drop] at r3
          obtain ⟨c1, c2⟩ := a5 hm
          refine ⟨by omega, by simp; omega, fun g hg => ?_, by rw [List.take_add, a4, r4, frmsB_snoc, List.append_assoc], fun _ => ⟨by simp [c1], by omega⟩⟩
          rcases List.mem_append.1 hg with hg | hg
          · exact a3 g hg
          · rw [List.mem_singleton.1 hg]; exact r1
      · rw [rdFs_end hc (by omega) (i + 1) (by omega)] at h
        simp only [Option.some.injEq, Prod.mk.injEq] at h
        obtain ⟨rfl, rfl⟩ := h
        exact ⟨a1, by omega, a3, a4, fun h => absurd h hm⟩
/-- behind as many rounds as there are bytes all is read -/
theorem rdFs_done {b : List UInt8} {k : Nat} (hk : k ≤ b.length) {L : List Frm} {p : Nat} (h : rdFs b k b.length = some (L, p)) : p = b.length := by
  obtain ⟨a1, a2, a3, a4, a5⟩ := rdFs_inv hk _ L p h
  rcases Nat.lt_or_ge p b.length with h1 | h1
  · have := (a5 h1).2; omega
  · omega
/-- any bytes as a packet: its number, frames, and the fault -/
noncomputable def openF (b : List UInt8) : Option (List Frm) := match rdFs b ((bat b 0).toNat + 1) b.length with | none => none | some (L, _) => if L = [] ∨ 12 < L.length then none else some L
noncomputable def openE (b : List UInt8) (next : Int) : Int :=
  if MayBe next then (if 200 < b.length then 4 else if HeadOk b next then (match openF b with | none => 2 | some _ => 0) else 2) else 1
noncomputable def openN (b : List UInt8) (next : Int) : Int := if openE b next = 0 then wholeN (cutOf b (bat b 0)) (bat b 0) next else 0
noncomputable def openL (b : List UInt8) (next : Int) : List Frm := if openE b next = 0 then (openF b).getD [] else []
theorem frmB_pos (f : Frm) : 1 ≤ (frmB f).length := by unfold frmB; simp
theorem rdFs_back {L : List Frm} {hd b : List UInt8} (hE : frmsE L = 0) (hb : b = hd ++ frmsB L) : ∀ i, i ≤ L.length → rdFs b hd.length i = some (L.take i, hd.length + (frmsB (L.take i)).length)
  | 0, _ => by simp [rdFs, frmsB]
  | i + 1, hi => by
    have hiL : i < L.length := by omega
    have hsp : L = L.take i ++ (L[i] :: L.drop (i + 1)) := by
      rw [← List.drop_eq_getElem_cons hiL, List.take_append_drop]
    have hb2 : b = hd ++ frmsB (L.take i) ++ (frmB L[i] ++ frmsB (L.drop (i + 1))) := by
      have e : frmsB L = frmsB (L.take i ++ (L[i] :: L.drop (i + 1))) := congrArg frmsB hsp
      rw [hb, e, frmsB_append, show frmsB (L[i] :: L.drop (i + 1)) = frmB L[i] ++ frmsB (L.drop (i + 1)) from rfl, List.append_assoc]
    have hdr : b.drop (hd.length + (frmsB (L.take i)).length) = frmB L[i] ++ frmsB (L.drop (i + 1)) := drop_of hb2 (by simp)
    have hlt : hd.length + (frmsB (L.take i)).length < b.length := by
      have := congrArg List.length hb2
      have := frmB_pos L[i]
      simp at *; omega
    rw [rdFs_yes (rdFs_back hE hb i (by omega)) hlt (by rw [hdr]; exact readF_back (frmsE_all hE _ (List.getElem_mem hiL)) _), List.take_succ_eq_append_getElem hiL, frmsB_snoc, List.length_append, Nat.add_assoc]
theorem headB_back {n b : Int} (h0 : 0 ≤ n) (h1 : 1 ≤ b) (h2 : b ≤ 4) (r : List UInt8) : bat (headB n b ++ r) 0 = b ∧ cutOf (headB n b ++ r) b = n % rnd b := by
  have hby : ∀ m : Int, 0 ≤ m → m < 256 → ((byteOf m).toNat : Int) = m := fun m a c => byteOf_toNat a c
  refine ⟨by unfold headB; exact hby b (by omega) (by omega), ?_⟩
  have e0 := hby (n % 256) (by omega) (by omega)
  have e1 := hby (n / 256 % 256) (by omega) (by omega)
  have e2 := hby (n / 65536 % 256) (by omega) (by omega)
  have e3 := hby (n / 16777216 % 256) (by omega) (by omega)
  rcases four h1 h2 with rfl | rfl | rfl | rfl
  · show ((byteOf (n % 256)).toNat : Int) = n % 256
    omega
  · show 256 * ((byteOf (n / 256 % 256)).toNat : Int) + ((byteOf (n % 256)).toNat : Int) = n % 65536
    omega
  · show 256 * (256 * ((byteOf (n / 65536 % 256)).toNat : Int) + ((byteOf (n / 256 % 256)).toNat : Int)) + ((byteOf (n % 256)).toNat : Int) = n % 16777216
    omega
  · show 256 * (256 * (256 * ((byteOf (n / 16777216 % 256)).toNat : Int) + ((byteOf (n / 65536 % 256)).toNat : Int)) + ((byteOf (n / 256 % 256)).toNat : Int)) + ((byteOf (n % 256)).toNat : Int) = n % 4294967296
    omega
/-- a packet is read as it was -/
theorem open_back {n known more : Int} {L : List Frm} (h : pktE n known L = 0) (m1 : known ≤ more) (m2 : more < n) : openE (pktB n known L) (more + 1) = 0 ∧ openN (pktB n known L) (more + 1) = n ∧ openL (pktB n known L) (more + 1) = L ∧ (pktB n known L).length ≤ 200 := by
  unfold pktE at h
  by_cases hn : NeedOk n known
  case neg => rw [if_neg hn] at h; cases h
  rw [if_pos hn] at h
  by_cases h5 : L = []
  · rw [if_pos h5] at h; cases h
  rw [if_neg h5] at h
  by_cases h4 : 12 < L.length
  · rw [if_pos h4] at h; cases h
  rw [if_neg h4] at h
  by_cases hE : frmsE L = 0
  case neg => rw [if_neg hE] at h; exact absurd h hE
  rw [if_pos hE] at h
  by_cases h2 : 200 < (pktB n known L).length
  · rw [if_pos h2] at h; cases h
  obtain ⟨w1, w2⟩ := wholeN_back n known more hn m1 m2
  obtain ⟨b1, b2⟩ := leastN_bounds (n - known)
  obtain ⟨⟨n1, n2⟩, k1, k2⟩ := hn
  obtain ⟨e1, e2⟩ := headB_back (n := n) n1 b1 b2 (frmsB L)
  have hlen := headB_len (n := n) b1 b2
  have hpk : headB n (leastN (n - known)) ++ frmsB L = pktB n known L := rfl
  rw [hpk] at e1 e2
  have hpl : (pktB n known L).length = (headB n (leastN (n - known))).length + (frmsB L).length := by rw [← hpk, List.length_append]
  have hfl : 1 ≤ (frmsB L).length := by
    cases L with
    | nil => exact absurd rfl h5
    | cons f L => have := frmB_pos f; simp [frmsB]; omega
  have hlL : ∀ M : List Frm, M.length ≤ (frmsB M).length := by
    intro M
    induction M with
    | nil => simp
    | cons f M ih => have := frmB_pos f; simp [frmsB] at ih ⊢; omega
  have hh : HeadOk (pktB n known L) (more + 1) := by
    refine ⟨fun h0 => ?_, by omega, by omega, by omega, ?_⟩
    · rw [h0] at hpl; simp at hpl; omega
    · rw [e1, e2]; exact w1
  have hback := rdFs_back (hd := headB n (leastN (n - known))) hE hpk.symm L.length (Nat.le_refl _)
  rw [List.take_length, ← hpl] at hback
  have hend := rdFs_end hback (Nat.le_refl _) (pktB n known L).length (by have := hlL L; omega)
  have hF : openF (pktB n known L) = some L := by
    unfold openF
    rw [e1, show (leastN (n - known)).toNat + 1 = (headB n (leastN (n - known))).length by omega, hend]
    simp only
    rw [if_neg (fun hx => by rcases hx with hx | hx; exact h5 hx; exact h4 hx)]
  have hO : openE (pktB n known L) (more + 1) = 0 := by
    unfold openE
    rw [if_pos ⟨by omega, by omega⟩, if_neg h2, if_pos hh, hF]
  refine ⟨hO, ?_, ?_, by omega⟩
  · unfold openN; rw [if_pos hO, e1, e2]; exact w2
  · unfold openL; rw [if_pos hO, hF]; rfl
end Go.Proofs.YthnolkbolmbkdaaDoor

/-! Contracts of packet.head and packet.Bytes. Condition: the number may be; the frames are right. -/
namespace Go.Proofs.YthnolkbolmbkdaaDoor
open Go.ChangeShapes Go.WideShapes Go.ChangeAt Go.RowKit
set_option linter.unusedVariables false

def u8Row (n : Int) : List Value := [.int .u8 n]
theorem u8Row_one (n : Int) : (u8Row n).length = 1 ∧ ∀ u ∈ u8Row n, u.oneCell' = true := ⟨rfl, by intro u hu; simp [u8Row] at hu; rw [hu]; rfl⟩
theorem Tryd.elU8 : Elem Tryd.prog 134 5 1 1 := ⟨Tryd.underlying134, ⟨.int .u8 0, rfl, by kernel_rfl⟩, by decide, by decide⟩
/-- a packet's first bytes as numbers -/
def hdZ (n b : Int) : List Int := b :: (if b = 1 then [n % 256] else if b = 2 then [n / 256 % 256, n % 256]
    else if b = 3 then [n / 65536 % 256, n / 256 % 256, n % 256] else [n / 16777216 % 256, n / 65536 % 256, n / 256 % 256, n % 256])
theorem hdZ_bytes {n b : Int} (h1 : 1 ≤ b) (h2 : b ≤ 4) : (hdZ n b).map byteOf = headB n b := by
  rcases four h1 h2 with rfl | rfl | rfl | rfl <;> rfl
theorem hdZ_len {n b : Int} (h1 : 1 ≤ b) (h2 : b ≤ 4) : ((hdZ n b).length : Int) = b + 1 := by
  rcases four h1 h2 with rfl | rfl | rfl | rfl <;> rfl
def shB (c : Int) : Nat → Int
  | 0 => c % 256
  | 1 => c / 256 % 256
  | 2 => c / 65536 % 256
  | _ => c / 16777216 % 256
theorem hdZ_next {n c : Int} {m j i : Nat} (hc : n % rnd (m : Int) = c) (h1 : 1 ≤ m) (h4 : m ≤ 4) (hji : m - 1 - j = i) (hj : j < m) : (hdZ n m).take (j + 2) = (hdZ n m).take (j + 1) ++ [shB c i] := by
  subst hc hji
  have hm : m = 1 ∨ m = 2 ∨ m = 3 ∨ m = 4 := by omega
  have hjj : j = 0 ∨ j = 1 ∨ j = 2 ∨ j = 3 := by omega
  rcases hm with rfl | rfl | rfl | rfl <;> rcases hjj with rfl | rfl | rfl | rfl <;> first | omega | (simp [hdZ, rnd, shB]; done) | (simp [hdZ, rnd, shB]; omega)
/-- what packet.head keeps -/
structure HdSt (w wr : World) (ns : List Int) (j : Nat) (q c : Nat) : Prop where
  ls : Lst wr 5 1 (.slice (some ⟨q, 0, none⟩) j c) ((ns.take j).map u8Row)
  new : w.heap.size ≤ q
  since : Since w wr

theorem HdSt.step {w wr w5 : World} {ns : List Int} {j q c q9 cq : Nat} {x y : Int} {o : Obj} (h : HdSt w wr ns (j + 1) q c) (ht : ns.take (j + 2) = ns.take (j + 1) ++ [y]) (hx : y = x) (hml : ((ns.take (j + 1)).map u8Row).length = j + 1)
    (hl : Lst w5 5 1 (.slice (some ⟨q9, 0, none⟩) (j + 1 + 1) cq) ((ns.take (j + 1)).map u8Row ++ [[.int .u8 x]])) (ho : Out (wr.alloc o) w5 (blocks (.slice (some ⟨q, 0, none⟩) (j + 1) c))) (hq : q9 ∈ blocks (.slice (some ⟨q, 0, none⟩) (j + 1) c) ∨ q9 = (wr.alloc o).heap.size) : HdSt w w5 ns (j + 1 + 1) q9 cq := by
  subst hx
  have hkk : ∀ k, k ∈ blocks (.slice (some ⟨q, 0, none⟩) (j + 1) c) → w.heap.size ≤ k := fun k hk => by
    have : q = k := by simpa [Value.ownBlock] using hk
    rw [← this]; exact h.new
  refine ⟨by rw [ht, List.map_append]; exact hl, ?_, (h.since.alloc o).out' ho hkk⟩
  rcases hq with hq | hq
  · exact hkk q9 hq
  · rw [hq]; have := h.since.le; simp; omega
set_option maxHeartbeats 1600000 in
set_option maxRecDepth 100000 in
theorem phead (n b : Int) (w : World) (h0 : 0 ≤ n) (hn : n ≤ 1073741823) (h1 : 1 ≤ b) (h2 : b ≤ 4) :
    Calls Tryd.prog 110 #[.int .i64 n, .int .i64 b] w fun e w' => e = .returned (.string ⟨(headB n b).toArray⟩) ∧ Below w.heap.size w w' := by
  have hwrap : IntKind.u8.wrap b = b := by simp [IntKind.wrap, IntKind.bits, IntKind.signed]; omega
  obtain ⟨m, rfl⟩ : ∃ m : Nat, b = m := ⟨b.toNat, by omega⟩
  have hrn := rnd_bounds (m : Int)
  have hc0 : 0 ≤ n % rnd (m : Int) := Int.emod_nonneg _ (by omega)
  have hc1 : n % rnd (m : Int) < rnd (m : Int) := Int.emod_lt_of_pos _ (by omega)
  obtain ⟨c, hc⟩ : ∃ c, n % rnd (m : Int) = c := ⟨_, rfl⟩
  have HCD := Lib.hid hc
  rw [hc] at hc0 hc1
  go_enter Tryd.func110, Tryd.ntmps110
  trace "A"; go_wp2_with fail
  refine (short_any n m h0 h1 h2 _).mono ?_
  rintro e w1 ⟨rfl, rfl⟩
  rw [hc]
  clear hc
  trace "B"; go_wp2_with fail
  go_loopw [5, 7] (fun s5 s7 wr => ∃ (j q cp : Nat), s5 = .slice (some ⟨q, 0, none⟩) (j + 1) cp ∧ s7 = .int .i64 ((m : Int) - 1 - j) ∧ j ≤ m ∧ HdSt w wr (hdZ n m) (j + 1) q cp) (fun _ s7 _ => (intOf s7 + 1).toNat)
  case atStart => exact ⟨0, w.heap.size, 1, rfl, by simp, Nat.zero_le _, ⟨⟨World.ownsRow_lit (base := 0) w #[.int .u8 m] 1 (Nat.zero_le _) (by decide) rfl, by intro e he; obtain ⟨z, _, rfl⟩ := List.mem_map.1 he; exact u8Row_one z⟩, Nat.le_refl _, (by refine Since.out ?_; repeat (first | with_reducible assumption | with_reducible exact Since.refl _ | with_reducible refine Since.later ?_ (by with_reducible assumption) | with_reducible refine Since.only ?_ (by with_reducible assumption) (by first | assumption | omega | (simp; done) | (simp; omega)) | with_reducible refine Since.alloc ?_ _ | with_reducible refine Since.drewN ?_ _ | with_reducible refine Since.drew ?_ | with_reducible refine Since.set ?_ (by first | assumption | omega | (simp; done) | (simp; omega)) _))⟩⟩
  case round =>
    obtain ⟨j, q, cp, rfl, rfl, hj, hS⟩ := hrel
    by_cases hlt : j < m
    case neg =>
      obtain rfl : j = m := by omega
      have hm1 : (j : Int) - 1 - (j : Int) = -1 := by omega
      have hln : (hdZ n j).length = j + 1 := by have := hdZ_len (n := n) h1 h2; omega
      have hcv := conv_of (W := wr) (g := q) (c := cp) (ns := hdZ n j) (fun k v hk => by
        rw [List.getElem?_map] at hk
        cases hz : (hdZ n j)[k]? with
        | none => rw [hz] at hk; cases hk
        | some z =>
          rw [hz] at hk
          simp only [Option.map_some, Option.some.injEq] at hk
          subst hk
          have hl := hS.ls
          rw [List.take_of_length_le (by omega)] at hl
          have := hl.cell rfl (i := k) (j := 0) (e := u8Row z) (u := .int .u8 z) (by rw [List.getElem?_map, hz]; rfl) rfl
          simpa using this)
      rw [hln, hdZ_bytes h1 h2] at hcv
      rw [hm1]
      have hs := Lib.hid hS.since
      clear hS hln hm1
      trace "N"; go_wp2_with fail
      go_ret
      exact ⟨by rfl, hs.out⟩
    have hi : (m : Int) - 1 - (j : Int) = ((m - 1 - j : Nat) : Int) := by omega
    rw [hi]
    obtain ⟨i, hi2⟩ : ∃ i, m - 1 - j = i := ⟨_, rfl⟩
    have HI2 := Lib.hid hi2
    rw [hi2]
    have hi4 : i = 0 ∨ i = 1 ∨ i = 2 ∨ i = 3 := by omega
    clear hi hi2
    have HS := Lib.hid hS
    have HML : Hid ((((hdZ n m).take (j + 1)).map u8Row).length = j + 1) := Lib.hid (by have := hdZ_len (n := n) h1 h2; simp; omega)
    have HT := Lib.hid (hdZ_next (j := j) HCD.out (by omega) (by omega) HI2.out hlt)
    clear hS
    rcases hi4 with rfl | rfl | rfl | rfl
    · have HX := Lib.hid (show shB c 0 = c % 256 from rfl)
      trace "C0"; go_wp2_with (at_builtin; refine wpList_push rfl _ _ 134 rfl 5 1 1 Tryd.elU8 (.slice (some ⟨q, 0, none⟩) (j + 1) cp) (((hdZ n m).take (j + 1)).map u8Row) rfl (HS.out.ls.alloc _) wr.heap.size 1 [.int .u8 (c % 256)] rfl rfl (u8Row_one _).2 (BlockIs.fresh _ _ _) (by rw [HML.out]; omega) ?_; intro q9 cq w5 hl5 ho5 hq5 hlt5; rw [HML.out] at hl5; (try rw [HML.out]); have HN5 := Lib.hid (HS.out.step (HT.out) HX.out HML.out hl5 ho5 hq5); clear hl5 ho5 hq5 hlt5)
      go_roundw
      case rel => exact ⟨j + 1, q9, cq, rfl, by have := HI2.out; first | (simp; omega) | (congr 1; omega), by omega, HN5.out⟩
      case measure => (simp [intOf]; try omega)
    · have HX := Lib.hid (show shB c 1 = c / 256 % 256 from rfl)
      trace "C1"; go_wp2_with (at_builtin; refine wpList_push rfl _ _ 134 rfl 5 1 1 Tryd.elU8 (.slice (some ⟨q, 0, none⟩) (j + 1) cp) (((hdZ n m).take (j + 1)).map u8Row) rfl (HS.out.ls.alloc _) wr.heap.size 1 [.int .u8 (c / 256 % 256)] rfl rfl (u8Row_one _).2 (BlockIs.fresh _ _ _) (by rw [HML.out]; omega) ?_; intro q9 cq w5 hl5 ho5 hq5 hlt5; rw [HML.out] at hl5; (try rw [HML.out]); have HN5 := Lib.hid (HS.out.step (HT.out) HX.out HML.out hl5 ho5 hq5); clear hl5 ho5 hq5 hlt5)
      go_roundw
      case rel => exact ⟨j + 1, q9, cq, rfl, by have := HI2.out; first | (simp; omega) | (congr 1; omega), by omega, HN5.out⟩
      case measure => (simp [intOf]; try omega)
    · have HX := Lib.hid (show shB c 2 = c / 65536 % 256 from rfl)
      trace "C2"; go_wp2_with (at_builtin; refine wpList_push rfl _ _ 134 rfl 5 1 1 Tryd.elU8 (.slice (some ⟨q, 0, none⟩) (j + 1) cp) (((hdZ n m).take (j + 1)).map u8Row) rfl (HS.out.ls.alloc _) wr.heap.size 1 [.int .u8 (c / 65536 % 256)] rfl rfl (u8Row_one _).2 (BlockIs.fresh _ _ _) (by rw [HML.out]; omega) ?_; intro q9 cq w5 hl5 ho5 hq5 hlt5; rw [HML.out] at hl5; (try rw [HML.out]); have HN5 := Lib.hid (HS.out.step (HT.out) HX.out HML.out hl5 ho5 hq5); clear hl5 ho5 hq5 hlt5)
      go_roundw
      case rel => exact ⟨j + 1, q9, cq, rfl, by have := HI2.out; first | (simp; omega) | (congr 1; omega), by omega, HN5.out⟩
      case measure => (simp [intOf]; try omega)
    · have HX := Lib.hid (show shB c 3 = c / 16777216 by show c / 16777216 % 256 = _; omega)
      trace "C3"; go_wp2_with (at_builtin; refine wpList_push rfl _ _ 134 rfl 5 1 1 Tryd.elU8 (.slice (some ⟨q, 0, none⟩) (j + 1) cp) (((hdZ n m).take (j + 1)).map u8Row) rfl (HS.out.ls.alloc _) wr.heap.size 1 [.int .u8 (c / 16777216)] rfl rfl (u8Row_one _).2 (BlockIs.fresh _ _ _) (by rw [HML.out]; omega) ?_; intro q9 cq w5 hl5 ho5 hq5 hlt5; rw [HML.out] at hl5; (try rw [HML.out]); have HN5 := Lib.hid (HS.out.step (HT.out) HX.out HML.out hl5 ho5 hq5); clear hl5 ho5 hq5 hlt5)
      go_roundw
      case rel => exact ⟨j + 1, q9, cq, rfl, by have := HI2.out; first | (simp; omega) | (congr 1; omega), by omega, HN5.out⟩
      case measure => (simp [intOf]; try omega)
end Go.Proofs.YthnolkbolmbkdaaDoor

/-! Contract of packet.Bytes. Condition: the frames can be read and are right, the number is new. -/
namespace Go.Proofs.YthnolkbolmbkdaaDoor
open Go.ChangeShapes Go.WideShapes Go.ChangeAt Go.RowKit
set_option linter.unusedVariables false

theorem elem_of_frm {L : List FrmV} {i : Nat} (h : i < L.length) : (L.map frmRow)[i]? = some (frmRow L[i]) := by rw [List.getElem?_map, List.getElem?_eq_getElem h]; rfl
theorem Rd.frm {w : World} {A : Option Addr} {n cap : Nat} {L : List FrmV} (h : Rd w 3 (.slice A n cap) (L.map frmRow)) {i : Nat} (hi : i < L.length) : ∃ b off, A = some ⟨b, off, none⟩ ∧ b < w.heap.size ∧ ∀ w', Since w w' → ∀ j (hj : j < L.length), w'.cell? ⟨b, off + j * 3, none⟩ = some (.int .i64 L[j].f.kind) ∧ w'.cell? ⟨b, off + j * 3 + 1, none⟩ = some (.slice L[j].A L[j].f.nums.length L[j].cap) ∧ w'.cell? ⟨b, off + j * 3 + 2, none⟩ = some (.string L[j].f.data) := by
  obtain ⟨A', cap', hv, _, _, hc⟩ := h.shape
  obtain ⟨b, off, hA, hlt, _⟩ := hc (by intro he; have := congrArg List.length he; simp at this; subst this; simp at hi)
  simp only [Value.slice.injEq] at hv
  obtain ⟨rfl, _, _⟩ := hv
  subst hA
  refine ⟨b, off, rfl, hlt, fun w' hs j hj => ?_⟩
  have hh := h.later hs
  exact ⟨hh.at_ (elem_of_frm hj) (j := 0) rfl, by rw [Nat.add_assoc]; exact hh.at_ (elem_of_frm hj) (j := 1) rfl, by rw [Nat.add_assoc]; exact hh.at_ (elem_of_frm hj) (j := 2) rfl⟩
theorem frmsB_take {L : List FrmV} {i : Nat} (h : i < L.length) : frmsB ((L.take (i + 1)).map (·.f)) = frmsB ((L.take i).map (·.f)) ++ frmB L[i].f := by
  rw [List.take_succ_eq_append_getElem h, List.map_append, frmsB_append]
  simp [frmsB]
theorem frmsB_short {M : List Frm} (h : ∀ f ∈ M, frmE f = 0) : (frmsB M).length ≤ 120 * M.length := by
  induction M with
  | nil => simp [frmsB]
  | cons f M ih =>
    have h1 := frmB_len f (h f (by simp))
    have h2 := ih (fun g hg => h g (by simp [hg]))
    have e : frmsB (f :: M) = frmB f ++ frmsB M := rfl
    rw [e, List.length_append, List.length_cons]; omega

set_option maxHeartbeats 3200000 in
set_option maxRecDepth 100000 in
theorem pkbytes (x known : Int) (A : Option Addr) (n cap : Nat) (L : List FrmV) (w : World) (hn : L.length = n) (h12 : n ≤ 12) (h : FrmsIn w (.slice A n cap) L) (hE : frmsE (L.map (·.f)) = 0) (hN : NeedOk x known) (hK : KTab w) :
    Calls Tryd.prog 86 #[.int .i64 x, .int .i64 known, .slice A n cap] w fun e w' => e = .returned (.string ⟨(pktB x known (L.map (·.f))).toArray⟩) ∧ Below w.heap.size w w' := by
  have HN := Lib.hid hn
  have H := Lib.hid h
  have HK := Lib.hid hK
  have HEA : Hid (∀ i (hi : i < L.length), frmE L[i].f = 0) := Lib.hid (fun i hi => frmsE_all hE _ (List.mem_map.2 ⟨L[i], List.getElem_mem _, rfl⟩))
  have HSH : Hid (∀ i, i ≤ n → (frmsB ((L.take i).map (·.f))).length ≤ 1440) := Lib.hid (fun i hi => by
    have := frmsB_short (M := (L.take i).map (·.f)) (fun f hf => by
      obtain ⟨p, hp, rfl⟩ := List.mem_map.1 hf
      exact frmsE_all hE _ (List.mem_map.2 ⟨p, List.mem_of_mem_take hp, rfl⟩))
    rw [List.length_map, List.length_take] at this
    omega)
  obtain ⟨⟨n1, n2⟩, k1, k2⟩ := hN
  obtain ⟨b1, b2⟩ := leastN_bounds (x - known)
  have hhl := headB_len (n := x) b1 b2
  have PH := Lib.hid (fun W => phead x (leastN (x - known)) W n1 n2 b1 b2)
  have HPK : Hid (pktB x known (L.map (·.f)) = headB x (leastN (x - known)) ++ frmsB (L.map (·.f))) := Lib.hid rfl
  have HLS := Lib.hid (fun W => least_any x known (by omega) (by omega) (by omega) W)
  generalize headB x (leastN (x - known)) = hd at *
  generalize leastN (x - known) = lst at *
  clear hn h hE hK
  go_enter Tryd.func86, Tryd.ntmps86
  go_wp2_with fail
  refine (HLS.out _).mono ?_
  rintro e w1 ⟨rfl, rfl⟩
  go_wp2_with fail
  refine (PH.out _).mono ?_
  rintro e w1 ⟨rfl, hb1⟩
  have hs1 : Since w w1 := hb1
  clear hb1
  trace "A"; go_wp2_with fail
  go_loopw [7, 17] (fun s7 s17 wr => ∃ i : Nat, s17 = .int .i64 i ∧ i ≤ n ∧ s7 = .string ⟨(hd ++ frmsB ((L.take i).map (·.f))).toArray⟩ ∧ Since w wr) (fun _ s17 _ => n - (intOf s17).toNat)
  case atStart => exact ⟨0, rfl, Nat.zero_le _, by simp [frmsB], hs1⟩
  case round =>
    obtain ⟨i, rfl, hi, rfl, hs⟩ := hrel
    by_cases hlt : i < n
    case neg =>
      obtain rfl : i = n := by omega
      have hf : decide ((i : Int) < (i : Int)) = false := by simp
      have hz : Hid (L.take i = L) := Lib.hid (List.take_of_length_le (by rw [HN.out]; exact Nat.le_refl _))
      trace "B"; go_wp2_with fail
      go_ret
      exact ⟨by rw [HPK.out, hz.out]; rfl, hs⟩
    have hlt' : (i : Int) < (n : Int) := by omega
    have hil : i < L.length := by rw [HN.out]; exact hlt
    obtain ⟨b, off, rfl, hbl, hc⟩ := H.out.rd.frm hil
    obtain ⟨c0, c1, c2⟩ := hc wr hs i hil
    have lb : b < wr.heap.size := Nat.lt_of_lt_of_le hbl hs.le
    have HT := Lib.hid (frmsB_take hil)
    have HPI := Lib.hid (H.out.each L[i] (List.getElem_mem hil))
    have HEI := Lib.hid (HEA.out i hil)
    have hsh := HSH.out (i + 1) (by omega)
    rw [HT.out, List.length_append] at hsh
    clear hc
    generalize L[i] = p at *
    obtain ⟨U, hU⟩ : ∃ U, hd ++ frmsB ((L.take i).map (·.f)) = U := ⟨_, rfl⟩
    have hUl : U.length + (frmB p.f).length ≤ 1445 := by rw [← hU, List.length_append]; omega
    have HU := Lib.hid hU
    rw [hU]
    have hov : U.length + (frmB p.f).length ≤ 9223372036854775807 := by omega
    have FB := Lib.hid (fun W h1 h2 => fbytes p W h1 HEI.out h2)
    unfold FrmV.agg at FB
    clear hU hsh hil
    trace "C"; go_wp2_with fail
    refine (FB.out _ (HPI.out.later (by refine Since.out ?_; repeat (first | with_reducible assumption | with_reducible exact Since.refl _ | with_reducible refine Since.later ?_ (by with_reducible assumption) | with_reducible refine Since.only ?_ (by with_reducible assumption) (by first | assumption | omega | (simp; done) | (simp; omega)) | with_reducible refine Since.alloc ?_ _ | with_reducible refine Since.drewN ?_ _ | with_reducible refine Since.drew ?_ | with_reducible refine Since.set ?_ (by first | assumption | omega | (simp; done) | (simp; omega)) _))) (HK.out.later (by refine Since.out ?_; repeat (first | with_reducible assumption | with_reducible exact Since.refl _ | with_reducible refine Since.later ?_ (by with_reducible assumption) | with_reducible refine Since.only ?_ (by with_reducible assumption) (by first | assumption | omega | (simp; done) | (simp; omega)) | with_reducible refine Since.alloc ?_ _ | with_reducible refine Since.drewN ?_ _ | with_reducible refine Since.drew ?_ | with_reducible refine Since.set ?_ (by first | assumption | omega | (simp; done) | (simp; omega)) _)))).mono ?_
    rintro e w2 ⟨rfl, hb2⟩
    have hs2 : Since w w2 := (by refine Since.out ?_; repeat (first | with_reducible assumption | with_reducible exact Since.refl _ | with_reducible refine Since.later ?_ (by with_reducible assumption) | with_reducible refine Since.only ?_ (by with_reducible assumption) (by first | assumption | omega | (simp; done) | (simp; omega)) | with_reducible refine Since.alloc ?_ _ | with_reducible refine Since.drewN ?_ _ | with_reducible refine Since.drew ?_ | with_reducible refine Since.set ?_ (by first | assumption | omega | (simp; done) | (simp; omega)) _))
    clear hb2
    generalize hFB : frmB p.f = Y at *
    trace "D"; go_wp2_with fail
    go_roundw
    case rel => exact ⟨i + 1, by go_num, by omega, by rw [HT.out, ← List.append_assoc, HU.out, bapp], hs2⟩
    case measure => simp [intOf]; omega
end Go.Proofs.YthnolkbolmbkdaaDoor

/-! Contract of packet.Print. Condition: the frames can be read; the tables hold what the program's text lays. -/
namespace Go.Proofs.YthnolkbolmbkdaaDoor
open Go.ChangeShapes Go.WideShapes Go.ChangeAt Go.RowKit
set_option linter.unusedVariables false

theorem pkt_need {x known : Int} {L : List Frm} (h : ¬ NeedOk x known) : pktE x known L = 1 ∧ pktV x known L = [] := by
  have e : pktE x known L = 1 := by unfold pktE; rw [if_neg h]
  exact ⟨e, by unfold pktV; rw [if_neg (by rw [e]; decide)]⟩
theorem pkt_no {x known : Int} {L : List Frm} {k : Int} (e : pktE x known L = k) (hk : k ≠ 0) : pktV x known L = [] := by unfold pktV; rw [if_neg (by rw [e]; exact hk)]
theorem pkt_nil {x known : Int} (h : NeedOk x known) : pktE x known [] = 5 := by unfold pktE; rw [if_pos h, if_pos rfl]
theorem pkt_many {x known : Int} {L : List Frm} (h : NeedOk x known) (h2 : 12 < L.length) : pktE x known L = 4 := by
  unfold pktE; rw [if_pos h, if_neg (by intro h3; rw [h3] at h2; simp at h2), if_pos h2]
theorem pkt_frm {x known : Int} {L : List Frm} (h : NeedOk x known) (h0 : L ≠ []) (h2 : ¬ 12 < L.length) (h3 : frmsE L ≠ 0) : pktE x known L = frmsE L := by
  unfold pktE; rw [if_pos h, if_neg h0, if_neg h2, if_neg h3]
theorem pkt_big {x known : Int} {L : List Frm} (h : NeedOk x known) (h0 : L ≠ []) (h2 : ¬ 12 < L.length) (h3 : frmsE L = 0) (h4 : 200 < (pktB x known L).length) : pktE x known L = 4 := by
  unfold pktE; rw [if_pos h, if_neg h0, if_neg h2, if_pos h3, if_pos h4]
theorem pkt_ok {x known : Int} {L : List Frm} (h : NeedOk x known) (h0 : L ≠ []) (h2 : ¬ 12 < L.length) (h3 : frmsE L = 0) (h4 : ¬ 200 < (pktB x known L).length) : pktE x known L = 0 ∧ pktV x known L = pktB x known L := by
  have e : pktE x known L = 0 := by unfold pktE; rw [if_pos h, if_neg h0, if_neg h2, if_pos h3, if_neg h4]
  exact ⟨e, by unfold pktV; rw [if_pos e]⟩
theorem frmsE_upto {L : List FrmV} {i : Nat} (h : i < L.length) (hE : frmsE ((L.take i).map (·.f)) = 0) : (frmE L[i].f = 0 → frmsE ((L.take (i + 1)).map (·.f)) = 0) ∧ (frmE L[i].f ≠ 0 → frmsE (L.map (·.f)) = frmE L[i].f) := by
  constructor
  · intro h0
    rw [List.take_succ_eq_append_getElem h, List.map_append, frmsE_app_ok hE]
    simp [frmsE, h0]
  · intro h0
    have hsp : L = L.take i ++ (L[i] :: L.drop (i + 1)) := by
      rw [← List.drop_eq_getElem_cons h, List.take_append_drop]
    have e : frmsE (L.map (·.f)) = frmsE ((L.take i ++ (L[i] :: L.drop (i + 1))).map (·.f)) := congrArg (fun M => frmsE (M.map (·.f))) hsp
    rw [e, List.map_append, List.map_cons, frmsE_bad hE h0]

set_option maxHeartbeats 3200000 in
set_option maxRecDepth 100000 in
theorem pkprint (x known : Int) (A : Option Addr) (n cap : Nat) (L : List FrmV) (w : World) (hn : L.length = n) (h : FrmsIn w (.slice A n cap) L) (hK : KTab w) (hC : CTab w) :
    Calls Tryd.prog 45 #[.int .i64 x, .int .i64 known, .slice A n cap] w fun e w' => e = .returned (.tuple #[.string ⟨(pktV x known (L.map (·.f))).toArray⟩, errV (pktE x known (L.map (·.f)))]) ∧ Below w.heap.size w w' := by
  have HN := Lib.hid hn
  have H := Lib.hid h
  have HK := Lib.hid hK
  have HC := Lib.hid hC
  have hcm := (rd_cap h.rd).2
  have HML : Hid ((L.map (·.f)).length = n) := Lib.hid (by rw [List.length_map, hn])
  clear hn h hK hC
  by_cases hN : NeedOk x known
  case neg =>
    obtain ⟨p1, p2⟩ := pkt_need (L := L.map (·.f)) hN
    have P1 := Lib.hid p1
    have P2 := Lib.hid p2
    have NE : Hid (needV x known = 0 ∧ needE x known = 1) := Lib.hid ⟨by unfold needV; rw [if_neg hN], by unfold needE; rw [if_neg hN]⟩
    clear p1 p2 hN
    go_enter Tryd.func45, Tryd.ntmps45
    go_wp2_with fail
    refine (need_any x known _).mono ?_
    rintro e w1 ⟨rfl, rfl⟩
    rw [NE.out.1, NE.out.2, errV_pos (by decide)]
    trace "A"; go_wp2_with fail
    go_ret2
    exact ⟨by rw [P1.out, P2.out]; rfl, Below.refl _ _⟩
  have HNO := Lib.hid hN
  have NE : Hid (needE x known = 0) := Lib.hid (by unfold needE; rw [if_pos hN])
  clear hN
  by_cases h0 : n = 0
  · subst h0
    have hl0 : L.map (·.f) = [] := List.length_eq_zero_iff.1 HML.out
    have p1 := pkt_nil HNO.out
    rw [← hl0] at p1
    have P1 := Lib.hid p1
    have P2 := Lib.hid (pkt_no p1 (by decide))
    clear hl0 p1
    go_enter Tryd.func45, Tryd.ntmps45
    go_wp2_with fail
    refine (need_any x known _).mono ?_
    rintro e w1 ⟨rfl, rfl⟩
    rw [NE.out, errV_zero]
    trace "B"; go_wp2_with fail
    go_ret2
    exact ⟨by rw [P1.out, P2.out]; rfl, Below.refl _ _⟩
  have h0' : ((n : Int) == 0) = false := by rw [beq_eq_false_iff_ne]; omega
  have HNE : Hid (L.map (·.f) ≠ []) := Lib.hid (fun hh => by have := HML.out; rw [hh] at this; simp at this; omega)
  clear h0
  by_cases h12 : 12 < n
  · have h12' : (12 : Int) < (n : Int) := by omega
    have p1 := pkt_many (L := L.map (·.f)) HNO.out (by rw [HML.out]; exact h12)
    have P1 := Lib.hid p1
    have P2 := Lib.hid (pkt_no p1 (by decide))
    clear p1
    go_enter Tryd.func45, Tryd.ntmps45
    go_wp2_with fail
    refine (need_any x known _).mono ?_
    rintro e w1 ⟨rfl, rfl⟩
    rw [NE.out, errV_zero]
    trace "C"; go_wp2_with fail
    go_ret2
    exact ⟨by rw [P1.out, P2.out]; rfl, Below.refl _ _⟩
  have h12' : decide ((12 : Int) < (n : Int)) = false := by simp; omega
  have HF : Hid (frmsE (L.map (·.f)) ≠ 0 → pktE x known (L.map (·.f)) = frmsE (L.map (·.f))) := Lib.hid (fun hh => pkt_frm HNO.out HNE.out (by rw [HML.out]; exact h12) hh)
  have HBG : Hid (frmsE (L.map (·.f)) = 0 → 200 < (pktB x known (L.map (·.f))).length → pktE x known (L.map (·.f)) = 4) := Lib.hid (fun h3 h4 => pkt_big HNO.out HNE.out (by rw [HML.out]; exact h12) h3 h4)
  have HOK : Hid (frmsE (L.map (·.f)) = 0 → ¬ 200 < (pktB x known (L.map (·.f))).length → pktE x known (L.map (·.f)) = 0 ∧ pktV x known (L.map (·.f)) = pktB x known (L.map (·.f))) := Lib.hid (fun h3 h4 => pkt_ok HNO.out HNE.out (by rw [HML.out]; exact h12) h3 h4)
  have PB := Lib.hid (fun W h1 h2 h3 => pkbytes x known A n cap L W HN.out (by omega) h1 h2 HNO.out h3)
  clear h12
  go_enter Tryd.func45, Tryd.ntmps45
  go_wp2_with fail
  refine (need_any x known _).mono ?_
  rintro e w1 ⟨rfl, rfl⟩
  rw [NE.out, errV_zero]
  trace "D"; go_wp2_with fail
  go_loopw [36] (fun s36 wr => ∃ i : Nat, s36 = .int .i64 i ∧ i ≤ n ∧ Hid (frmsE ((L.take i).map (·.f)) = 0) ∧ Since w wr) (fun s36 _ => n - (intOf s36).toNat)
  case atStart => exact ⟨0, rfl, Nat.zero_le _, Lib.hid rfl, Since.refl _⟩
  case round =>
    obtain ⟨i, rfl, hi, HU, hs⟩ := hrel
    by_cases hlt : i < n
    case neg =>
      obtain rfl : i = n := by omega
      have hf : decide ((i : Int) < (i : Int)) = false := by simp
      have HE0 : Hid (frmsE (L.map (·.f)) = 0) := Lib.hid (by have := HU.out; rw [List.take_of_length_le (by rw [HN.out]; exact Nat.le_refl _)] at this; exact this)
      trace "E"; go_wp2_with fail
      refine (PB.out _ (H.out.later hs) HE0.out (HK.out.later hs)).mono ?_
      rintro e w5 ⟨rfl, hb5⟩
      have hs5 := hs.later hb5
      clear hb5
      by_cases h2 : 200 < (pktB x known (L.map (·.f))).length
      · have p1 := HBG.out HE0.out h2
        have P1 := Lib.hid p1
        have P2 := Lib.hid (pkt_no p1 (by decide))
        have h2' : (200 : Int) < ((pktB x known (L.map (·.f))).length : Int) := by omega
        clear p1 HF HBG HOK
        generalize pktB x known (L.map (·.f)) = Y at *
        trace "F"; go_wp2_with fail
        go_ret2
        exact ⟨by rw [P1.out, P2.out]; rfl, hs5⟩
      · obtain ⟨p1, p2⟩ := HOK.out HE0.out h2
        have P1 := Lib.hid p1
        have P2 := Lib.hid p2
        have h2' : decide ((200 : Int) < ((pktB x known (L.map (·.f))).length : Int)) = false := by simp; omega
        clear p1 p2 HF HBG HOK
        generalize pktB x known (L.map (·.f)) = Y at *
        trace "G"; go_wp2_with fail
        go_ret2
        exact ⟨by rw [P1.out, P2.out]; rfl, hs5⟩
    have hlt' : (i : Int) < (n : Int) := by omega
    have hil : i < L.length := by rw [HN.out]; exact hlt
    obtain ⟨b, off, rfl, hbl, hc⟩ := H.out.rd.frm hil
    obtain ⟨c0, c1, c2⟩ := hc wr hs i hil
    have lb : b < wr.heap.size := Nat.lt_of_lt_of_le hbl hs.le
    have HPI := Lib.hid (H.out.each L[i] (List.getElem_mem hil))
    obtain ⟨y1, y2⟩ := frmsE_upto hil HU.out
    have Y1 := Lib.hid y1
    have Y2 := Lib.hid y2
    clear hc y1 y2
    generalize L[i] = p at *
    have FC := Lib.hid (fun W h1 h2 => fcheck p W h1 h2)
    unfold FrmV.agg at FC
    clear hil
    trace "H"; go_wp2_with fail
    refine (FC.out _ (HPI.out.later (by refine Since.out ?_; repeat (first | with_reducible assumption | with_reducible exact Since.refl _ | with_reducible refine Since.later ?_ (by with_reducible assumption) | with_reducible refine Since.only ?_ (by with_reducible assumption) (by first | assumption | omega | (simp; done) | (simp; omega)) | with_reducible refine Since.alloc ?_ _ | with_reducible refine Since.drewN ?_ _ | with_reducible refine Since.drew ?_ | with_reducible refine Since.set ?_ (by first | assumption | omega | (simp; done) | (simp; omega)) _))) (HC.out.later (by refine Since.out ?_; repeat (first | with_reducible assumption | with_reducible exact Since.refl _ | with_reducible refine Since.later ?_ (by with_reducible assumption) | with_reducible refine Since.only ?_ (by with_reducible assumption) (by first | assumption | omega | (simp; done) | (simp; omega)) | with_reducible refine Since.alloc ?_ _ | with_reducible refine Since.drewN ?_ _ | with_reducible refine Since.drew ?_ | with_reducible refine Since.set ?_ (by first | assumption | omega | (simp; done) | (simp; omega)) _)))).mono ?_
    rintro e w2 ⟨rfl, hb2⟩
    have hs2 : Since w w2 := (by refine Since.out ?_; repeat (first | with_reducible assumption | with_reducible exact Since.refl _ | with_reducible refine Since.later ?_ (by with_reducible assumption) | with_reducible refine Since.only ?_ (by with_reducible assumption) (by first | assumption | omega | (simp; done) | (simp; omega)) | with_reducible refine Since.alloc ?_ _ | with_reducible refine Since.drewN ?_ _ | with_reducible refine Since.drew ?_ | with_reducible refine Since.set ?_ (by first | assumption | omega | (simp; done) | (simp; omega)) _))
    clear hb2
    by_cases hE : frmE p.f = 0
    · have Y3 := Lib.hid (Y1.out hE)
      rw [hE, errV_zero]
      clear hE
      trace "I"; go_wp2_with fail
      go_roundw
      case rel => exact ⟨i + 1, by go_num, by omega, Y3, hs2⟩
      case measure => simp [intOf]; omega
    · have y3 := Y2.out hE
      have p1 := HF.out (by rw [y3]; exact hE)
      rw [y3] at p1
      have P1 := Lib.hid p1
      have P2 := Lib.hid (pkt_no p1 hE)
      have HEE := Lib.hid hE
      rw [errV_pos hE]
      clear hE y3 p1
      trace "J"; go_wp2_with fail
      go_ret2
      exact ⟨by rw [P1.out, P2.out, errV_pos HEE.out]; rfl, hs2⟩
end Go.Proofs.YthnolkbolmbkdaaDoor

/-! Contract of packet.first. Condition: the string is short. -/
namespace Go.Proofs.YthnolkbolmbkdaaDoor
open Go.ChangeShapes Go.WideShapes Go.ChangeAt Go.RowKit
set_option linter.unusedVariables false

noncomputable def firE (b : List UInt8) (next : Int) : Int := if HeadOk b next then 0 else 2
noncomputable def firN (b : List UInt8) (next : Int) : Int := if HeadOk b next then wholeN (cutOf b (bat b 0)) (bat b 0) next else 0
noncomputable def firK (b : List UInt8) (next : Int) : Int := if HeadOk b next then bat b 0 + 1 else 0
theorem fir_no {b : List UInt8} {next : Int} (h : ¬ HeadOk b next) : firE b next = 2 ∧ firN b next = 0 ∧ firK b next = 0 := by
  unfold firE firN firK; rw [if_neg h, if_neg h, if_neg h]; exact ⟨rfl, rfl, rfl⟩
theorem fir_yes {b : List UInt8} {next : Int} (h : HeadOk b next) : firE b next = 0 ∧ firN b next = wholeN (cutOf b (bat b 0)) (bat b 0) next ∧ firK b next = bat b 0 + 1 := by
  unfold firE firN firK; rw [if_pos h, if_pos h, if_pos h]; exact ⟨rfl, rfl, rfl⟩
/-- the cut number of the first j bytes behind the head -/
def cutU (b : List UInt8) : Nat → Int
  | 0 => 0
  | j + 1 => 256 * cutU b j + bat b (j + 1)
theorem cutU_bounds (b : List UInt8) : ∀ j, 0 ≤ cutU b j ∧ cutU b j < 256 ^ j
  | 0 => by simp [cutU]
  | j + 1 => by
    obtain ⟨h1, h2⟩ := cutU_bounds b j
    obtain ⟨g1, g2⟩ := bat_bounds b (j + 1)
    rw [cutU, Int.pow_succ]
    omega
theorem cutU_of (b : List UInt8) {m : Nat} (h1 : 1 ≤ m) (h4 : m ≤ 4) : cutU b m = cutOf b m := by
  have : m = 1 ∨ m = 2 ∨ m = 3 ∨ m = 4 := by omega
  rcases this with rfl | rfl | rfl | rfl <;> simp [cutU, cutOf]
theorem Since.bytes {w wr : World} (h : Since w wr) (e : TypeId) (s : ByteArray) : Since w (Lib.bytesWorld wr e s) :=
  h.later ⟨rfl, rfl, rfl, by rw [Lib.bytesWorld_size]; omega, fun i hi => Lib.bytesWorld_at_old wr e s i hi⟩

set_option maxHeartbeats 1600000 in
set_option maxRecDepth 100000 in
theorem pfirst (s : ByteArray) (next : Int) (w : World) (hz : s.size ≤ 1000) :
    Calls Tryd.prog 87 #[.string s, .int .i64 next] w fun e w' => e = .returned (.tuple #[.int .i64 (firN s.data.toList next), .int .i64 (firK s.data.toList next), errV (firE s.data.toList next)]) ∧ Below w.heap.size w w' := by
  have hsz : s.data.toList.length = s.size := rfl
  have hat := fun h => str_at s 0 h
  obtain ⟨b, hb⟩ : ∃ b, s.data.toList = b := ⟨_, rfl⟩
  have HBD := Lib.hid hb
  have HNO := Lib.hid (fun h => fir_no (b := b) (next := next) h)
  have HYES := Lib.hid (fun h => fir_yes (b := b) (next := next) h)
  rw [hb] at hsz hat ⊢
  by_cases h0 : s.size = 0
  · obtain ⟨e1, e2⟩ := str_empty h0
    obtain ⟨p1, p2, p3⟩ := HNO.out (fun h => h.1 (List.length_eq_zero_iff.1 (by omega)))
    have P1 := Lib.hid p1
    have P2 := Lib.hid p2
    have P3 := Lib.hid p3
    clear p1 p2 p3 h0 hat hsz hb
    go_enter Tryd.func87, Tryd.ntmps87
    trace "A"; go_wp2_with fail
    go_ret3
    exact ⟨by rw [P1.out, P2.out, P3.out]; rfl, Below.refl _ _⟩
  obtain ⟨e1, e2⟩ := str_full h0
  have hpos : 0 < s.size := by omega
  have e0 := hat hpos
  obtain ⟨x, hx⟩ : ∃ x, bat b 0 = x := ⟨_, rfl⟩
  rw [hx] at e0
  obtain ⟨b0, b1⟩ := bat_bounds b 0
  rw [hx] at b0 b1
  have hwrap : IntKind.i64.wrap x = x := by simp [IntKind.wrap, IntKind.bits, IntKind.signed]; omega
  by_cases hlen : (s.size : Int) ≤ x
  · obtain ⟨p1, p2, p3⟩ := HNO.out (fun h => by have := h.2.2.2.1; omega)
    have P1 := Lib.hid p1
    have P2 := Lib.hid p2
    have P3 := Lib.hid p3
    clear p1 p2 p3 h0 hat hsz hb hx
    go_enter Tryd.func87, Tryd.ntmps87
    trace "B"; go_wp2_with fail
    go_ret3
    exact ⟨by rw [P1.out, P2.out, P3.out]; rfl, Below.refl _ _⟩
  have hlen' : decide ((s.size : Int) ≤ x) = false := by simpa using hlen
  by_cases h4 : 4 < x
  · obtain ⟨p1, p2, p3⟩ := HNO.out (fun h => by have := h.2.2.1; omega)
    have P1 := Lib.hid p1
    have P2 := Lib.hid p2
    have P3 := Lib.hid p3
    clear p1 p2 p3 h0 hat hsz hb hx hlen
    go_enter Tryd.func87, Tryd.ntmps87
    trace "C"; go_wp2_with fail
    go_ret3
    exact ⟨by rw [P1.out, P2.out, P3.out]; rfl, Below.refl _ _⟩
  have h4' : decide (4 < x) = false := by simpa using h4
  obtain ⟨m, rfl⟩ : ∃ m : Nat, x = m := ⟨x.toNat, by omega⟩
  have hw1 : IntKind.i64.wrap (1 + (m : Int)) = ((1 + m : Nat) : Int) := by simp [IntKind.wrap, IntKind.bits, IntKind.signed]; omega
  have hm1 : (1 : Int) + (m : Int) = ((1 + m : Nat) : Int) := by omega
  have hm2 : (1 : Int) ≤ ((1 + m : Nat) : Int) := by omega
  have hm3 : ((1 + m : Nat) : Int) ≤ (s.size : Int) := by omega
  have hcv := Lib.run_convert_string_bytes (P := Tryd.prog) w 9 134 5 (s.extract 1 (1 + m)) (u := .string) Tryd.underlying9 Tryd.underlying134 Tryd.underlying5
  have hex : (s.extract 1 (1 + m)).size = m := by rw [ByteArray.size_extract]; omega
  rw [hex] at hcv
  have hlen4 : m ≤ 4 := by omega
  obtain ⟨m1, hmm1⟩ : ∃ m1, 1 + m = m1 := ⟨_, rfl⟩
  rw [hmm1] at hw1 hm1 hm2 hm3 hcv
  clear h0 hat hb hlen h4 hmm1
  go_enter Tryd.func87, Tryd.ntmps87
  have hS1 : Since w (Lib.bytesWorld w 5 (s.extract 1 m1)) := (Since.refl w).bytes _ _
  have hB : ∀ j, j < m → (Lib.bytesWorld w 5 (s.extract 1 m1)).cell? ⟨w.heap.size, j, none⟩ = some (.int .u8 (bat b (j + 1))) := fun j hj => by
    rw [Lib.bytesWorld_cell w _ _ j (by rw [ByteArray.size_extract]; omega)]
    congr 2
    rw [ByteArray.data_extract, Array.toList_extract, List.extract_eq_take_drop, HBD.out]
    unfold bat
    simp only [List.getD, List.getElem?_take, List.getElem?_drop]
    rw [if_pos (by omega), Nat.add_comm 1 j]
  have HW1 : Hid (∀ k : Nat, WholeOk (cutU b k) k next → 1 ≤ (k : Int)) := Lib.hid (fun k hk => hk.2.1.1)
  have HHY : Hid (1 ≤ m → m ≤ 4 → WholeOk (cutOf b m) m next → HeadOk b next) := Lib.hid (fun a1 a2 a3 => ⟨fun hh => by rw [hh] at hsz; simp at hsz; omega, by rw [hx]; omega, by rw [hx]; omega, by rw [hx]; omega, by rw [hx]; exact a3⟩)
  have hlt : w.heap.size < (Lib.bytesWorld w 5 (s.extract 1 m1)).heap.size := by rw [Lib.bytesWorld_size]; omega
  obtain ⟨W1, hW1⟩ : ∃ W1, W1 = Lib.bytesWorld w 5 (s.extract 1 m1) := ⟨_, rfl⟩
  rw [← hW1] at hcv hS1 hB hlt
  have HB := Lib.hid hB
  clear hW1 hB
  trace "D"; go_wp2_with fail
  obtain ⟨wo, rfl⟩ : ∃ wo : World, wo = W1 := ⟨_, rfl⟩
  go_loopw [8, 36] (fun s8 s36 wr => ∃ j : Nat, s36 = .int .i64 j ∧ j ≤ m ∧ s8 = .int .i64 (cutU b j) ∧ wr = wo) (fun _ s36 _ => m - (intOf s36).toNat)
  case atStart => exact ⟨0, rfl, Nat.zero_le _, rfl, rfl⟩
  case round =>
    obtain ⟨j, rfl, hj, rfl, rfl⟩ := hrel
    by_cases hjm : j < m
    case neg =>
      obtain rfl : j = m := by omega
      have hf : decide ((j : Int) < (j : Int)) = false := by simp
      trace "N"; go_wp2_with fail
      refine (whole_any (cutU b j) j next _).mono ?_
      rintro e w1 ⟨rfl, rfl⟩
      by_cases hw : WholeOk (cutU b j) j next
      · have hj1 : 1 ≤ j := by have := HW1.out j hw; omega
        have hcu := cutU_of b hj1 hlen4
        obtain ⟨p1, p2, p3⟩ := HYES.out (HHY.out hj1 hlen4 (by rw [← hcu]; exact hw))
        rw [hx, ← hcu] at p2
        rw [hx] at p3
        have P1 := Lib.hid p1
        have P2 := Lib.hid p2
        have P3 := Lib.hid p3
        rw [show wholeE (cutU b j) j next = 0 by unfold wholeE; rw [if_pos hw], errV_zero, show wholeV (cutU b j) j next = wholeN (cutU b j) j next by unfold wholeV; rw [if_pos hw]]
        clear p1 p2 p3 hw hcu hj1
        generalize wholeN (cutU b j) j next = W at *
        trace "N1"; go_wp2_with fail
        go_ret3
        exact ⟨by rw [P1.out, P2.out, P3.out, errV_zero, show (j : Int) + 1 = 1 + (j : Int) by omega]; first | rfl | (rw [hm1]; rfl), hS1⟩
      · obtain ⟨p1, p2, p3⟩ := HNO.out (fun hh => hw (by
          have h5 := hh.2.1
          have h6 := hh.2.2.2.2
          rw [hx] at h5 h6
          rw [cutU_of b (by omega) hlen4]; exact h6))
        have P1 := Lib.hid p1
        have P2 := Lib.hid p2
        have P3 := Lib.hid p3
        rw [show wholeE (cutU b j) j next = 1 by unfold wholeE; rw [if_neg hw], errV_pos (by decide)]
        clear p1 p2 p3 hw
        generalize wholeV (cutU b j) j next = W at *
        trace "N2"; go_wp2_with fail
        go_ret3
        exact ⟨by rw [P1.out, P2.out, P3.out]; rfl, hS1⟩
    have hjm' : (j : Int) < (m : Int) := by omega
    have cj := HB.out j hjm
    obtain ⟨y0, y1⟩ := bat_bounds b (j + 1)
    obtain ⟨z0, z1⟩ := cutU_bounds b j
    have HCU : Hid (cutU b (j + 1) = 256 * cutU b j + bat b (j + 1)) := Lib.hid rfl
    have z2 : cutU b j < 16777216 := by
      have : j = 0 ∨ j = 1 ∨ j = 2 ∨ j = 3 := by omega
      rcases this with rfl | rfl | rfl | rfl <;> simp at z1 <;> omega
    clear z1
    generalize bat b (j + 1) = y at *
    generalize cutU b j = c at *
    trace "P"; go_wp2_with fail
    go_roundw
    case rel => exact ⟨j + 1, by go_num, by omega, by rw [HCU.out, i64_or8 (c * 256) y (by omega) (by omega) (by omega) (by omega) (by omega)]; congr 1; omega, by first | rfl | trivial⟩
    case measure => simp [intOf]; omega
end Go.Proofs.YthnolkbolmbkdaaDoor

/-! Contract of packet.Parse. Condition: the string's length is an int; the tables hold what the program's text lays. -/
namespace Go.Proofs.YthnolkbolmbkdaaDoor
open Go.ChangeShapes Go.WideShapes Go.ChangeAt Go.RowKit
set_option linter.unusedVariables false

theorem Tryd.elFrm : Elem Tryd.prog 94 82 3 48 := ⟨Tryd.underlying94, ⟨.agg #[.int .i64 0, .slice none 0 0, .string ByteArray.empty], rfl, by kernel_rfl⟩, by decide, by decide⟩
/-- a frame's numbers lie in none of these blocks -/
def farA (g : FrmV) (S : List Nat) : Prop := g.f.nums ≠ [] → ∀ b off, g.A = some ⟨b, off, none⟩ → b ∉ S
theorem FrmIn.out {X w9 : World} {S : List Nat} {g : FrmV} (h : FrmIn X g) (ho : Out X w9 S) (hf : farA g S) : FrmIn w9 g := by
  obtain ⟨h1, A, cap, h2, h3, h4, h5⟩ := h.nums
  refine ⟨h.kind, h.data, h1, A, cap, h2, h3, h4, fun hne => ?_⟩
  obtain ⟨b, off, e, hlt, hc⟩ := h5 hne
  have hA : g.A = A := by simp only [FrmV.v, Value.slice.injEq] at h2; exact h2.1
  have hbn := hf hne b off (hA.trans e)
  refine ⟨b, off, e, Nat.lt_of_lt_of_le hlt ho.size, fun i hi => ?_⟩
  rw [← hc i hi]
  unfold World.cell?
  simp only
  rw [ho.block b hlt hbn]
/-- what packet.Parse keeps -/
structure PsSt (w wr : World) (b : List UInt8) (k0 i p : Nat) (A : Option Addr) (c : Nat) (Ms : List FrmV) : Prop where
  ls : Lst wr 82 3 (.slice A i c) (Ms.map frmRow)
  each : ∀ g ∈ Ms, FrmIn wr g ∧ farA g (blocks (.slice A i c))
  new : ∀ q, q ∈ blocks (.slice A i c) → w.heap.size ≤ q
  since : Since w wr
  len : Ms.length = i
  up : rdFs b k0 i = some (Ms.map (·.f), p)
  le : p ≤ b.length
  ip : k0 + i ≤ p
theorem farA_lt {w : World} {g : FrmV} {q : Nat} (h : FrmIn w g) (hq : w.heap.size ≤ q) : farA g [q] := by
  intro hne b off hA
  obtain ⟨_, A, cap, h2, _, _, h5⟩ := h.nums
  obtain ⟨b', off', e, hlt, _⟩ := h5 hne
  have hA2 : g.A = A := by simp only [FrmV.v, Value.slice.injEq] at h2; exact h2.1
  rw [hA2, e] at hA
  have : b' = b := by injection hA with h1; injection h1
  simp; omega
/-- a round: the frame g, read in W (from wr on), is put behind -/
theorem PsSt.step {w wr W w9 : World} {b : List UInt8} {k0 i p n q9 c c9 : Nat} {A : Option Addr} {Ms : List FrmV} {g : FrmV} {o1 o2 : Obj} (h : PsSt w wr b k0 i p A c Ms) (hb : Below wr.heap.size wr W) (hg : FrmIn W g) (hn : newA g.A wr.heap.size)
    (hr : readF (b.drop p) = some (g.f, n)) (hp : p < b.length)
    (hl : Lst w9 82 3 (.slice (some ⟨q9, 0, none⟩) (i + 1) c9) (Ms.map frmRow ++ [frmRow g])) (ho : Out ((W.alloc o1).alloc o2) w9 (blocks (.slice A i c))) (hq : q9 ∈ blocks (.slice A i c) ∨ q9 = ((W.alloc o1).alloc o2).heap.size) :
    PsSt w w9 b k0 (i + 1) (p + n) (some ⟨q9, 0, none⟩) c9 (Ms ++ [g]) := by
  have hWX : Below W.heap.size W ((W.alloc o1).alloc o2) := ((Since.refl W).alloc o1).alloc o2
  have hwX : Below wr.heap.size wr ((W.alloc o1).alloc o2) := (Since.later (w := wr) hb hWX)
  have hsz : W.heap.size ≤ ((W.alloc o1).alloc o2).heap.size := hWX.size
  have hgX : FrmIn ((W.alloc o1).alloc o2) g := hg.later hWX
  have hold : ∀ q, q ∈ blocks (.slice A i c) → q < wr.heap.size := h.ls.lt
  have hgf : farA g (blocks (.slice A i c)) := fun _ b' off' hA hm => by have := hn b' off' hA; have := hold b' hm; omega
  refine ⟨by rw [List.map_append]; exact hl, fun g' hg' => ?_, fun q hqm => ?_, (h.since.later hwX).out' ho h.new, by rw [List.length_append, h.len]; rfl, ?_, ?_, by have := (readF_inv hr).2.1; have := h.ip; omega⟩
  · have key : ∀ x : FrmV, FrmIn ((W.alloc o1).alloc o2) x → farA x (blocks (.slice A i c)) → FrmIn w9 x ∧ farA x (blocks (.slice (some ⟨q9, 0, none⟩) (i + 1) c9)) := fun x hx hxf => by
      refine ⟨hx.out ho hxf, fun hne b' off' hA hm => ?_⟩
      have hm' : q9 = b' := by simpa [Value.ownBlock] using hm
      subst hm'
      rcases hq with hq | hq
      · exact hxf hne q9 off' hA hq
      · exact farA_lt hx (Nat.le_of_eq hq.symm) hne q9 off' hA (by simp)
    rcases List.mem_append.1 hg' with hm | hm
    · obtain ⟨e1, e2⟩ := h.each g' hm
      exact key g' (e1.later hwX) e2
    · rw [List.mem_singleton.1 hm]; exact key g hgX hgf
  · have hm' : q9 = q := by simpa [Value.ownBlock] using hqm
    rw [← hm']
    rcases hq with hq | hq
    · exact h.new q9 hq
    · rw [hq]; have := h.since.le; have := hwX.size; omega
  · rw [List.map_append]; exact rdFs_yes h.up hp hr
  · have := (readF_inv hr).2.2.1; rw [List.length_drop] at this; omega
theorem op_bad {b : List UInt8} {next k : Int} (h : openE b next = k) (hk : k ≠ 0) : openN b next = 0 ∧ openL b next = [] := by
  unfold openN openL; rw [if_neg (by rw [h]; exact hk), if_neg (by rw [h]; exact hk)]; exact ⟨rfl, rfl⟩
theorem op_may {b : List UInt8} {next : Int} (h : ¬ MayBe next) : openE b next = 1 := by unfold openE; rw [if_neg h]
theorem op_big {b : List UInt8} {next : Int} (h : MayBe next) (h2 : 200 < b.length) : openE b next = 4 := by unfold openE; rw [if_pos h, if_pos h2]
theorem op_head {b : List UInt8} {next : Int} (h : MayBe next) (h2 : ¬ 200 < b.length) (h3 : ¬ HeadOk b next) : openE b next = 2 := by unfold openE; rw [if_pos h, if_neg h2, if_neg h3]
theorem op_none {b : List UInt8} {next : Int} (h : MayBe next) (h2 : ¬ 200 < b.length) (h3 : HeadOk b next) (h4 : openF b = none) : openE b next = 2 := by unfold openE; rw [if_pos h, if_neg h2, if_pos h3, h4]
theorem op_some {b : List UInt8} {next : Int} {L : List Frm} (h : MayBe next) (h2 : ¬ 200 < b.length) (h3 : HeadOk b next) (h4 : openF b = some L) : openE b next = 0 ∧ openN b next = wholeN (cutOf b (bat b 0)) (bat b 0) next ∧ openL b next = L := by
  have e : openE b next = 0 := by unfold openE; rw [if_pos h, if_neg h2, if_pos h3, h4]
  unfold openN openL
  rw [if_pos e, if_pos e, h4]; exact ⟨e, rfl, rfl⟩
theorem opF_none {b : List UInt8} (h : rdFs b ((bat b 0).toNat + 1) b.length = none) : openF b = none := by unfold openF; rw [h]
theorem opF_few {b : List UInt8} {L : List Frm} {p : Nat} (h : rdFs b ((bat b 0).toNat + 1) b.length = some (L, p)) (hx : L = [] ∨ 12 < L.length) : openF b = none := by unfold openF; rw [h]; simp only; rw [if_pos hx]
theorem opF_some {b : List UInt8} {L : List Frm} {p : Nat} (h : rdFs b ((bat b 0).toNat + 1) b.length = some (L, p)) (hx : ¬ (L = [] ∨ 12 < L.length)) : openF b = some L := by unfold openF; rw [h]; simp only; rw [if_neg hx]
abbrev PkPost (b : List UInt8) (next : Int) (w : World) (e : Ending) (w' : World) : Prop := ∃ (A : Option Addr) (n c : Nat) (Ms : List FrmV), e = .returned (.tuple #[.int .i64 (openN b next), .slice A n c, errV (openE b next)]) ∧ Below w.heap.size w w' ∧ FrmsIn w' (.slice A n c) Ms ∧ Ms.length = n ∧ Ms.map (·.f) = openL b next
theorem frms0 (w : World) : FrmsIn w (.slice none 0 0) [] := ⟨by simp, Rd.nil _ _⟩

set_option maxHeartbeats 3200000 in
set_option maxRecDepth 100000 in
theorem pkparse (s : ByteArray) (next : Int) (w : World) (hz : s.size ≤ 9223372036854775707) (hK : KTab w) (hC : CTab w) :
    Calls Tryd.prog 46 #[.string s, .int .i64 next] w fun e w' => PkPost s.data.toList next w e w' := by
  have HK := Lib.hid hK
  have HC := Lib.hid hC
  have hsz : s.data.toList.length = s.size := rfl
  have PF := Lib.hid (fun h W => pfirst s next W h)
  have FP := Lib.hid (fun k W h1 h2 => fparseN (s.extract k s.size) W (Nat.le_trans (str_drop_size s k) hz) h1 h2)
  have HDR := Lib.hid (fun k => str_drop s k)
  obtain ⟨b, hb⟩ : ∃ b, s.data.toList = b := ⟨_, rfl⟩
  rw [hb] at hsz PF ⊢
  have HDB : Hid (∀ k, (s.extract k s.size).data.toList = b.drop k) := Lib.hid (fun k => by rw [HDR.out, hb])
  have HSZ := Lib.hid hsz
  clear hK hC hb HDR
  by_cases hm : MayBe next
  case neg =>
    have p1 := op_may (b := b) hm
    obtain ⟨p2, p3⟩ := op_bad p1 (by decide)
    have P1 := Lib.hid p1
    have P2 := Lib.hid p2
    have P3 := Lib.hid p3
    have hmb := Lib.hid (mayB_not hm)
    clear p1 p2 p3 hm hsz
    go_enter Tryd.func46, Tryd.ntmps46
    go_wp2_with fail
    refine (may_any next _).mono ?_
    rintro e w1 ⟨rfl, rfl⟩
    rw [hmb.out]
    trace "A"; go_wp2_with fail
    go_ret3
    exact ⟨none, 0, 0, [], by rw [P1.out, P2.out]; rfl, Below.refl _ _, frms0 _, rfl, by rw [P3.out]; rfl⟩
  have HM := Lib.hid hm
  have hmb := Lib.hid (mayB_iff.2 hm)
  clear hm
  by_cases h200 : 200 < s.size
  · have p1 := op_big (b := b) HM.out (by omega)
    obtain ⟨p2, p3⟩ := op_bad p1 (by decide)
    have P1 := Lib.hid p1
    have P2 := Lib.hid p2
    have P3 := Lib.hid p3
    have h200' : (200 : Int) < (s.size : Int) := by omega
    clear p1 p2 p3 hsz
    go_enter Tryd.func46, Tryd.ntmps46
    go_wp2_with fail
    refine (may_any next _).mono ?_
    rintro e w1 ⟨rfl, rfl⟩
    rw [hmb.out]
    trace "B"; go_wp2_with fail
    go_ret3
    exact ⟨none, 0, 0, [], by rw [P1.out, P2.out]; rfl, Below.refl _ _, frms0 _, rfl, by rw [P3.out]; rfl⟩
  have h200' : decide ((200 : Int) < (s.size : Int)) = false := by simp; omega
  have HB2 : Hid (¬ 200 < b.length) := Lib.hid (by omega)
  have hs200 : s.size ≤ 200 := by omega
  have PF2 := Lib.hid (PF.out (by omega))
  clear h200
  by_cases hh : HeadOk b next
  case neg =>
    have p1 := op_head (b := b) HM.out HB2.out hh
    obtain ⟨p2, p3⟩ := op_bad p1 (by decide)
    obtain ⟨f1, f2, f3⟩ := fir_no hh
    have P1 := Lib.hid p1
    have P2 := Lib.hid p2
    have P3 := Lib.hid p3
    rw [f1, f2, f3] at PF2
    clear p1 p2 p3 hsz f1 f2 f3 hh
    go_enter Tryd.func46, Tryd.ntmps46
    go_wp2_with fail
    refine (may_any next _).mono ?_
    rintro e w1 ⟨rfl, rfl⟩
    rw [hmb.out]
    trace "C"; go_wp2_with fail
    refine (PF2.out _).mono ?_
    rintro e w1 ⟨rfl, hb1⟩
    rw [errV_pos (by decide)]
    trace "C1"; go_wp2_with fail
    go_ret3
    exact ⟨none, 0, 0, [], by rw [P1.out, P2.out]; rfl, hb1, frms0 _, rfl, by rw [P3.out]; rfl⟩
  obtain ⟨f1, f2, f3⟩ := fir_yes hh
  obtain ⟨k0, hk0⟩ : ∃ k0, (bat b 0).toNat + 1 = k0 := ⟨_, rfl⟩
  have hk1 : bat b 0 + 1 = (k0 : Int) := by have := hh.2.1; omega
  have hkb : k0 ≤ b.length := by have := hh.2.2.2.1; omega
  rw [f1, f2, f3, hk1, errV_zero] at PF2
  have HON := Lib.hid (fun h => (op_none HM.out HB2.out hh (opF_none h)))
  have HOF := Lib.hid (fun L p h hx => (op_none HM.out HB2.out hh (opF_few (L := L) (p := p) h hx)))
  have HOS := Lib.hid (fun L p h hx => (op_some HM.out HB2.out hh (opF_some (L := L) (p := p) h hx)))
  rw [hk0] at HON HOF HOS
  have HST : Hid (∀ W, Since w W → PsSt w W b k0 0 k0 none 0 []) := Lib.hid (fun W hW => ⟨Lst.nil _ _ _, by simp, by simp [Value.ownBlock], hW, rfl, rfl, hkb, by omega⟩)
  generalize wholeN (cutOf b (bat b 0)) (bat b 0) next = N at *
  clear f1 f2 f3 hk0 hk1 hh hkb
  go_enter Tryd.func46, Tryd.ntmps46
  go_wp2_with fail
  refine (may_any next _).mono ?_
  rintro e w1 ⟨rfl, rfl⟩
  rw [hmb.out]
  trace "D"; go_wp2_with fail
  refine (PF2.out _).mono ?_
  rintro e w1 ⟨rfl, hb1⟩
  have HS1 := Lib.hid (HST.out w1 hb1)
  trace "E"; go_wp2_with fail
  go_loopw [8, 10] (fun s8 s10 wr => ∃ (i p : Nat) (A : Option Addr) (c : Nat) (Ms : List FrmV), s8 = .int .i64 p ∧ s10 = .slice A i c ∧ p ≤ s.size ∧ Hid (PsSt w wr b k0 i p A c Ms)) (fun s8 _ _ => s.size - (intOf s8).toNat)
  case atStart => exact ⟨0, k0, none, 0, [], rfl, rfl, by have := HS1.out.le; omega, HS1⟩
  case round =>
    obtain ⟨i, p, A, c, Ms, rfl, rfl, hp, HS⟩ := hrel
    have hs := Lib.hid HS.out.since
    have HML := Lib.hid HS.out.len
    by_cases hlt : p < s.size
    case neg =>
      have hf : decide ((p : Int) < (s.size : Int)) = false := by simp; omega
      have hup : rdFs b k0 b.length = some (Ms.map (·.f), p) := rdFs_end HS.out.up (by have := HSZ.out; omega) _ (by have := HS.out.ip; have := HS.out.le; omega)
      have hmm : (Ms.map (·.f)).length = i := by rw [List.length_map, HML.out]
      by_cases h0 : i = 0
      · subst h0
        have p1 := HOF.out _ _ hup (Or.inl (List.length_eq_zero_iff.1 hmm))
        obtain ⟨p2, p3⟩ := op_bad p1 (by decide)
        have P1 := Lib.hid p1
        have P2 := Lib.hid p2
        have P3 := Lib.hid p3
        clear p1 p2 p3 hup hmm
        trace "G"; go_wp2_with fail
        go_ret3
        exact ⟨none, 0, 0, [], by rw [P1.out, P2.out]; rfl, hs.out, frms0 _, rfl, by rw [P3.out]; rfl⟩
      have h0' : ((i : Int) == 0) = false := by rw [beq_eq_false_iff_ne]; omega
      by_cases h12 : 12 < i
      · have p1 := HOF.out _ _ hup (Or.inr (by rw [hmm]; exact h12))
        obtain ⟨p2, p3⟩ := op_bad p1 (by decide)
        have P1 := Lib.hid p1
        have P2 := Lib.hid p2
        have P3 := Lib.hid p3
        have h12' : (12 : Int) < (i : Int) := by omega
        clear p1 p2 p3 hup hmm h0
        trace "H"; go_wp2_with fail
        go_ret3
        exact ⟨none, 0, 0, [], by rw [P1.out, P2.out]; rfl, hs.out, frms0 _, rfl, by rw [P3.out]; rfl⟩
      obtain ⟨p1, p2, p3⟩ := HOS.out _ _ hup (fun hx => by
        rcases hx with hx | hx
        · have := congrArg List.length hx; rw [hmm] at this; exact h0 this
        · rw [hmm] at hx; exact h12 hx)
      have P1 := Lib.hid p1
      have P2 := Lib.hid p2
      have P3 := Lib.hid p3
      have h12' : decide ((12 : Int) < (i : Int)) = false := by simp; omega
      clear p1 p2 p3 hup hmm h0 h12
      trace "I"; go_wp2_with fail
      go_ret3
      exact ⟨A, i, c, Ms, by rw [P1.out, P2.out]; rfl, hs.out, ⟨fun g hg => (HS.out.each g hg).1, Rd.of_lst HS.out.ls⟩, HML.out, P3.out.symm⟩
    have hlt' : (p : Int) < (s.size : Int) := by omega
    have hp0 : (p : Int) ≤ (s.size : Int) := by omega
    have FPp := Lib.hid (FP.out p)
    rw [HDB.out] at FPp
    have hov := HSZ.out
    clear hlt
    trace "J"; go_wp2_with fail
    refine (FPp.out _ (HK.out.later hs.out) (HC.out.later hs.out)).mono ?_
    rintro e w2 ⟨g, rfl, hb2, hg2, hgf2, hgn2⟩
    cases hrd : readF (b.drop p) with
    | none =>
      obtain ⟨q1, q2, q3⟩ := pf_none hrd
      have p1 := HON.out (rdFs_none (rdFs_no HS.out.up (by omega) hrd) _ (by have := HS.out.ip; omega))
      obtain ⟨p2, p3⟩ := op_bad p1 (by decide)
      have P1 := Lib.hid p1
      have P2 := Lib.hid p2
      have P3 := Lib.hid p3
      rw [q1, q3, errV_pos (by decide)]
      have hs2 := hs.out.later hb2
      clear p1 p2 p3 q1 q2 q3 hrd hg2 hgf2 hgn2 hb2
      trace "K"; go_wp2_with fail
      go_ret3
      exact ⟨none, 0, 0, [], by rw [P1.out, P2.out]; rfl, (by refine Since.out ?_; repeat (first | with_reducible assumption | with_reducible exact Since.refl _ | with_reducible refine Since.later ?_ (by with_reducible assumption) | with_reducible refine Since.only ?_ (by with_reducible assumption) (by first | assumption | omega | (simp; done) | (simp; omega)) | with_reducible refine Since.alloc ?_ _ | with_reducible refine Since.drewN ?_ _ | with_reducible refine Since.drew ?_ | with_reducible refine Since.set ?_ (by first | assumption | omega | (simp; done) | (simp; omega)) _)), frms0 _, rfl, by rw [P3.out]; rfl⟩
    | some q =>
      obtain ⟨f, n⟩ := q
      obtain ⟨q1, q2, q3⟩ := pf_some hrd
      obtain ⟨_, r2, r3, _⟩ := readF_inv hrd
      rw [q1, q3, errV_zero]
      rw [q2] at hgf2
      rw [List.length_drop] at r3
      have HRD : Hid (readF (b.drop p) = some (g.f, n)) := Lib.hid (by rw [hrd, hgf2])
      have HLS := Lib.hid (((HS.out.ls.later hb2).alloc (.cells #[.int .i64 g.f.kind, .slice g.A g.f.nums.length g.cap, .string g.f.data] 82)).alloc (.cells #[.int .i64 g.f.kind, .slice g.A g.f.nums.length g.cap, .string g.f.data] 82))
      have HMR : Hid ((Ms.map frmRow).length = i) := Lib.hid (by rw [List.length_map, HML.out])
      have HSTEP := Lib.hid (fun q9 c9 w9 o1 o2 hl ho hq => HS.out.step (q9 := q9) (c9 := c9) (w9 := w9) (o1 := o1) (o2 := o2) hb2 hg2 hgn2 HRD.out (by omega) hl ho hq)
      have HBK := Lib.hid (BlockIs.fresh (w2.alloc (.cells #[.int .i64 g.f.kind, .slice g.A g.f.nums.length g.cap, .string g.f.data] 82)) 82 #[.int .i64 g.f.kind, .slice g.A g.f.nums.length g.cap, .string g.f.data])
      rw [World.size_alloc] at HBK
      obtain ⟨pn, hpn0⟩ : ∃ pn, p + n = pn := ⟨_, rfl⟩
      have hpn : (p : Int) + (n : Int) = (pn : Int) := by omega
      have hpn3 : p < pn := by omega
      have hpn4 : pn ≤ s.size := by omega
      rw [hpn0] at HSTEP
      clear hpn0
      have hi6 : i ≤ 200 := by have := HS.out.ip; omega
      clear q1 q2 q3 hrd hgf2 hg2 hgn2 hb2
      trace "L"; go_wp2_with (at_builtin; refine wpList_push rfl _ _ 94 rfl 82 3 48 Tryd.elFrm (.slice A i c) (Ms.map frmRow) rfl HLS.out (w2.heap.size + 1) 1 (frmRow g) rfl rfl (frmRow_one g).2 HBK.out (by rw [HMR.out]; omega) ?_; intro q9 cq w5 hl5 ho5 hq5 hlt5; rw [HMR.out] at hl5; (try rw [HMR.out]); have HN5 := Lib.hid (HSTEP.out q9 cq w5 _ _ hl5 ho5 hq5); clear hl5 ho5 hq5 hlt5)
      trace "M"; go_wp2_with fail
      go_roundw
      case rel => exact ⟨i + 1, pn, some ⟨q9, 0, none⟩, cq, Ms ++ [g], by first | rfl | (rw [hpn]), rfl, hpn4, HN5⟩
      case measure => simp [intOf]; omega
end Go.Proofs.YthnolkbolmbkdaaDoor

/-! Contract of wireref2.Packet. Condition: the frames can be read. -/
namespace Go.Proofs.YthnolkbolmbkdaaDoor
open Go.ChangeShapes Go.WideShapes Go.ChangeAt Go.RowKit
set_option linter.unusedVariables false

theorem rround_0 (w : World) : Calls Tryd.prog 89 #[.int .i64 0] w fun e w' => e = .returned (.int .i64 1) ∧ w = w' := by
  go_enter Tryd.func89, Tryd.ntmps89
  go_wp2
  refine wp_loop_rounds 5 ?_
  repeat (rw [rounds_succ]; go_wp2)
  go_ret
  exact ⟨rfl, rfl⟩
theorem hdZ_nextR {n : Int} {m j i : Nat} (h1 : 1 ≤ m) (h4 : m ≤ 4) (hji : m - 1 - j = i) (hj : j < m) : (hdZ n m).take (j + 2) = (hdZ n m).take (j + 1) ++ [shB n i] := by
  subst hji
  have hm : m = 1 ∨ m = 2 ∨ m = 3 ∨ m = 4 := by omega
  have hjj : j = 0 ∨ j = 1 ∨ j = 2 ∨ j = 3 := by omega
  rcases hm with rfl | rfl | rfl | rfl <;> rcases hjj with rfl | rfl | rfl | rfl <;> first | omega | (simp [hdZ, shB]; done)

set_option maxHeartbeats 6400000 in
set_option maxRecDepth 100000 in
theorem rpacket (x known : Int) (A : Option Addr) (n cap : Nat) (L : List FrmV) (w : World) (hx : -9223372036854775808 ≤ x ∧ x ≤ 9223372036854775807) (hkn : -9223372036854775808 ≤ known ∧ known ≤ 9223372036854775807) (hn : L.length = n) (h : FrmsIn w (.slice A n cap) L) :
    Calls Tryd.prog 48 #[.int .i64 x, .int .i64 known, .slice A n cap] w fun e w' => e = .returned (.tuple #[.string ⟨(pktV x known (L.map (·.f))).toArray⟩, .int .i64 (pktE x known (L.map (·.f)))]) ∧ Below w.heap.size w w' := by
  have HN := Lib.hid hn
  have H := Lib.hid h
  have hcm := (rd_cap h.rd).2
  have HML : Hid ((L.map (·.f)).length = n) := Lib.hid (by rw [List.length_map, hn])
  clear hn h
  by_cases hN : NeedOk x known
  case neg =>
    obtain ⟨p1, p2⟩ := pkt_need (L := L.map (·.f)) hN
    have P1 := Lib.hid p1
    have P2 := Lib.hid p2
    by_cases hm : MayBe x
    case neg =>
      have hmb := Lib.hid (mayB_not hm)
      clear p1 p2 hN hm
      go_enter Tryd.func48, Tryd.ntmps48
      go_wp2_with fail
      refine (rmay_any x _).mono ?_
      rintro e w1 ⟨rfl, rfl⟩
      rw [hmb.out]
      trace "A"; go_wp2_with fail
      go_ret2
      exact ⟨by rw [P1.out, P2.out]; rfl, Below.refl _ _⟩
    have hmb := Lib.hid (mayB_iff.2 hm)
    by_cases hk1 : known < -1
    · clear p1 p2 hN hm
      go_enter Tryd.func48, Tryd.ntmps48
      go_wp2_with fail
      refine (rmay_any x _).mono ?_
      rintro e w1 ⟨rfl, rfl⟩
      rw [hmb.out]
      trace "B"; go_wp2_with fail
      go_ret2
      exact ⟨by rw [P1.out, P2.out]; rfl, Below.refl _ _⟩
    have hk1' : decide (known < -1) = false := by simpa using hk1
    have hk2 : x ≤ known := by
      rcases Int.lt_or_le known x with h | h
      · exact absurd ⟨hm, by omega, h⟩ hN
      · exact h
    clear p1 p2 hN hm hk1
    go_enter Tryd.func48, Tryd.ntmps48
    go_wp2_with fail
    refine (rmay_any x _).mono ?_
    rintro e w1 ⟨rfl, rfl⟩
    rw [hmb.out]
    trace "C"; go_wp2_with fail
    go_ret2
    exact ⟨by rw [P1.out, P2.out]; rfl, Below.refl _ _⟩
  have HNO := Lib.hid hN
  obtain ⟨hmx, k1, k2⟩ := hN
  have hmb := Lib.hid (mayB_iff.2 hmx)
  obtain ⟨n1, n2⟩ := hmx
  have k1' : decide (known < -1) = false := by simp; omega
  have k2' : decide (x ≤ known) = false := by simp; omega
  have hg : ¬ ((known < -1) ∨ (x ≤ known)) := by omega
  by_cases h0 : n = 0
  · subst h0
    have hL : L = [] := List.length_eq_zero_iff.1 HN.out
    have p1 := pkt_nil HNO.out
    have p2 := pkt_no p1 (by decide)
    rw [hL]
    have P1 := Lib.hid p1
    have P2 := Lib.hid p2
    clear p1 p2 hL
    go_enter Tryd.func48, Tryd.ntmps48
    go_wp2_with fail
    refine (rmay_any x _).mono ?_
    rintro e w1 ⟨rfl, rfl⟩
    rw [hmb.out]
    trace "D"; go_wp2_with fail
    go_ret2
    exact ⟨by rw [List.map_nil, P1.out, P2.out]; rfl, Below.refl _ _⟩
  have h0' : ((n : Int) == 0) = false := by rw [beq_eq_false_iff_ne]; omega
  by_cases h12 : 12 < n
  · have p1 := pkt_many (L := L.map (·.f)) HNO.out (by rw [HML.out]; exact h12)
    have p2 := pkt_no p1 (by decide)
    have P1 := Lib.hid p1
    have P2 := Lib.hid p2
    have h12' : (12 : Int) < (n : Int) := by omega
    clear p1 p2 h0
    go_enter Tryd.func48, Tryd.ntmps48
    go_wp2_with fail
    refine (rmay_any x _).mono ?_
    rintro e w1 ⟨rfl, rfl⟩
    rw [hmb.out]
    trace "E"; go_wp2_with fail
    go_ret2
    exact ⟨by rw [P1.out, P2.out]; rfl, Below.refl _ _⟩
  have h12' : decide ((12 : Int) < (n : Int)) = false := by simp; omega
  have HFRM := Lib.hid (fun h3 => pkt_frm (L := L.map (·.f)) HNO.out (by intro hh; have := HML.out; rw [hh] at this; simp at this; omega) (by rw [HML.out]; exact h12) h3)
  have HBIG := Lib.hid (fun h3 h4 => pkt_big (L := L.map (·.f)) HNO.out (by intro hh; have := HML.out; rw [hh] at this; simp at this; omega) (by rw [HML.out]; exact h12) h3 h4)
  have HOK := Lib.hid (fun h3 h4 => pkt_ok (L := L.map (·.f)) HNO.out (by intro hh; have := HML.out; rw [hh] at this; simp at this; omega) (by rw [HML.out]; exact h12) h3 h4)
  obtain ⟨b1, b2⟩ := leastN_bounds (x - known)
  have hhl := headB_len (n := x) b1 b2
  have HPK : Hid (pktB x known (L.map (·.f)) = headB x (leastN (x - known)) ++ frmsB (L.map (·.f))) := Lib.hid rfl
  have RN := Lib.hid (fun W => rneed_any x known k2 k1 n2 W)
  generalize leastN (x - known) = b at *
  obtain ⟨m, rfl⟩ : ∃ m : Nat, b = m := ⟨b.toNat, by omega⟩
  have hwrap : IntKind.u8.wrap (m : Int) = m := by simp [IntKind.wrap, IntKind.bits, IntKind.signed]; omega
  have hn12 : n ≤ 12 := by omega
  clear h0 h12
  go_enter Tryd.func48, Tryd.ntmps48
  go_wp2_with fail
  refine (rmay_any x _).mono ?_
  rintro e w1 ⟨rfl, rfl⟩
  rw [hmb.out]
  trace "F"; go_wp2_with fail
  refine (RN.out _).mono ?_
  rintro e w1 ⟨rfl, rfl⟩
  trace "G"; go_wp2_with fail
  go_loopw [10, 11] (fun s10 s11 wr => ∃ (j q cp : Nat), s10 = .slice (some ⟨q, 0, none⟩) (j + 1) cp ∧ s11 = .int .i64 ((m : Int) - 1 - j) ∧ j ≤ m ∧ HdSt w wr (hdZ x m) (j + 1) q cp) (fun _ s11 _ => (intOf s11 + 1).toNat)
  case atStart => exact ⟨0, w.heap.size, 1, rfl, by simp, Nat.zero_le _, ⟨⟨World.ownsRow_lit (base := 0) w #[.int .u8 m] 1 (Nat.zero_le _) (by decide) rfl, by intro e he; obtain ⟨z, _, rfl⟩ := List.mem_map.1 he; exact u8Row_one z⟩, Nat.le_refl _, (by refine Since.out ?_; repeat (first | with_reducible assumption | with_reducible exact Since.refl _ | with_reducible refine Since.later ?_ (by with_reducible assumption) | with_reducible refine Since.only ?_ (by with_reducible assumption) (by first | assumption | omega | (simp; done) | (simp; omega)) | with_reducible refine Since.alloc ?_ _ | with_reducible refine Since.drewN ?_ _ | with_reducible refine Since.drew ?_ | with_reducible refine Since.set ?_ (by first | assumption | omega | (simp; done) | (simp; omega)) _))⟩⟩
  case round =>
    obtain ⟨j, q, cp, rfl, rfl, hj, hS⟩ := hrel
    by_cases hlt : j < m
    case neg =>
      obtain rfl : j = m := by omega
      have hm1 : (j : Int) - 1 - (j : Int) = -1 := by omega
      have hln : (hdZ x j).length = j + 1 := by have := hdZ_len (n := x) b1 b2; omega
      have hcv := conv_of (W := wr) (g := q) (c := cp) (ns := hdZ x j) (fun k v hk => by
        rw [List.getElem?_map] at hk
        cases hz : (hdZ x j)[k]? with
        | none => rw [hz] at hk; cases hk
        | some z =>
          rw [hz] at hk
          simp only [Option.map_some, Option.some.injEq] at hk
          subst hk
          have hl := hS.ls
          rw [List.take_of_length_le (by omega)] at hl
          have := hl.cell rfl (i := k) (j := 0) (e := u8Row z) (u := .int .u8 z) (by rw [List.getElem?_map, hz]; rfl) rfl
          simpa using this)
      rw [hln, hdZ_bytes b1 b2] at hcv
      rw [hm1]
      have hs1 : Since w wr := hS.since
      have HSH : Hid (∀ i, i ≤ n → frmsE ((L.take i).map (·.f)) = 0 → (frmsB ((L.take i).map (·.f))).length ≤ 1440) := Lib.hid (fun i hi hE => by
        have := frmsB_short (M := (L.take i).map (·.f)) (frmsE_all hE)
        rw [List.length_map, List.length_take] at this
        omega)
      generalize headB x (j : Int) = hd at *
      clear hS hln hm1
      trace "N"; go_wp2_with fail
      go_loopw [12, 13] (fun s12 s13 wr => ∃ i : Nat, s13 = .int .i64 i ∧ i ≤ n ∧ s12 = .string ⟨(hd ++ frmsB ((L.take i).map (·.f))).toArray⟩ ∧ Since w wr ∧ Hid (frmsE ((L.take i).map (·.f)) = 0)) (fun _ s13 _ => n - (intOf s13).toNat)
      case atStart => exact ⟨0, rfl, Nat.zero_le _, by simp [frmsB], hs1, Lib.hid rfl⟩
      case round =>
        obtain ⟨i, rfl, hi, rfl, hs, HE⟩ := hrel
        have hsh := HSH.out i hi HE.out
        by_cases hlt : i < n
        case neg =>
          obtain rfl : i = n := by omega
          have hf : decide ((i : Int) < (i : Int)) = false := by simp
          have hz : L.take i = L := List.take_of_length_le (by rw [HN.out]; exact Nat.le_refl _)
          rw [hz] at HE hsh ⊢
          rw [← HPK.out]
          have hlp : (pktB x known (L.map (·.f))).length ≤ 1445 := by rw [HPK.out, List.length_append]; omega
          clear hz hsh
          by_cases h200 : 200 < (pktB x known (L.map (·.f))).length
          · have p1 := HBIG.out HE.out h200
            have P2 := Lib.hid (pkt_no p1 (by decide))
            have P1 := Lib.hid p1
            have h200' : (200 : Int) < ((pktB x known (L.map (·.f))).length : Int) := by omega
            clear p1
            generalize pktB x known (L.map (·.f)) = Y at *
            trace "O"; go_wp2_with fail
            go_ret2
            exact ⟨by rw [P1.out, P2.out]; rfl, hs⟩
          · obtain ⟨p1, p2⟩ := HOK.out HE.out h200
            have h200' : decide ((200 : Int) < ((pktB x known (L.map (·.f))).length : Int)) = false := by simp; omega
            have P1 := Lib.hid p1
            have P2 := Lib.hid p2
            clear p1 p2
            generalize pktB x known (L.map (·.f)) = Y at *
            trace "P"; go_wp2_with fail
            go_ret2
            exact ⟨by rw [P1.out, P2.out]; rfl, hs⟩
        have hlt' : (i : Int) < (n : Int) := by omega
        have hil : i < L.length := by rw [HN.out]; exact hlt
        obtain ⟨b, off, rfl, hbl, hc⟩ := H.out.rd.frm hil
        obtain ⟨c0, c1, c2⟩ := hc wr hs i hil
        have lb : b < wr.heap.size := Nat.lt_of_lt_of_le hbl hs.le
        have HT := Lib.hid (frmsB_take hil)
        have HPI := Lib.hid (H.out.each L[i] (List.getElem_mem hil))
        obtain ⟨u1, u2⟩ := frmsE_upto hil HE.out
        have U1 := Lib.hid u1
        have U2 := Lib.hid u2
        have HC := Lib.hid hc
        have HS1 := Lib.hid (HSH.out (i + 1) (by omega))
        rw [HT.out, List.length_append] at HS1
        clear hc u1 u2 c0 c1 c2
        have HCC := Lib.hid (fun W hW => HC.out W hW i hil)
        generalize L[i] = p at *
        obtain ⟨c0, c1, c2⟩ := HCC.out wr hs
        clear hil
        obtain ⟨U, hU⟩ : ∃ U, hd ++ frmsB ((L.take i).map (·.f)) = U := ⟨_, rfl⟩
        have hUl : U.length ≤ 1445 := by rw [← hU, List.length_append]; omega
        have HU := Lib.hid hU
        rw [hU]
        clear hU hsh
        have RF := Lib.hid (fun W h1 => rframe p W h1)
        have RB := Lib.hid (fun W h1 h2 => rfbytes p W h1 h2)
        unfold FrmV.agg at RF RB
        trace "Q"; go_wp2_with fail
        refine (RF.out _ (HPI.out.later hs)).mono ?_
        rintro e w2 ⟨rfl, hb2⟩
        have hs2 : Since w w2 := hs.later hb2
        clear hb2
        by_cases hE : frmE p.f = 0
        case neg =>
          have p1 := HFRM.out (by rw [U2.out hE]; exact hE)
          have P2 := Lib.hid (pkt_no p1 (by rw [U2.out hE]; exact hE))
          have P1 := Lib.hid (p1.trans (U2.out hE))
          have hE' : (frmE p.f != 0) = true := by simpa using hE
          clear p1 hE
          trace "R"; go_wp2_with fail
          go_ret2
          exact ⟨by rw [P1.out, P2.out]; rfl, hs2⟩
        have HE2 := Lib.hid (U1.out hE)
        have HEI := Lib.hid hE
        rw [hE]
        obtain ⟨c0, c1, c2⟩ := HCC.out w2 hs2
        have lb2 : b < w2.heap.size := Nat.lt_of_lt_of_le hbl hs2.le
        have hov : U.length + (frmB p.f).length ≤ 9223372036854775807 := by have := HS1.out HE2.out; omega
        clear hE
        trace "S"; go_wp2_with fail
        refine (RB.out _ (HPI.out.later hs2) HEI.out).mono ?_
        rintro e w3 ⟨rfl, hb3⟩
        have hs3 : Since w w3 := hs2.later hb3
        clear hb3
        generalize hFB : frmB p.f = Y at *
        trace "T"; go_wp2_with fail
        go_roundw
        case rel => exact ⟨i + 1, by go_num, by omega, by rw [HT.out, ← List.append_assoc, HU.out, bapp], hs3, HE2⟩
        case measure => simp [intOf]; omega
    have hi : (m : Int) - 1 - (j : Int) = ((m - 1 - j : Nat) : Int) := by omega
    rw [hi]
    obtain ⟨i, hi2⟩ : ∃ i, m - 1 - j = i := ⟨_, rfl⟩
    have HI2 := Lib.hid hi2
    rw [hi2]
    have hi4 : i = 0 ∨ i = 1 ∨ i = 2 ∨ i = 3 := by omega
    clear hi hi2
    have HS := Lib.hid hS
    have HML2 : Hid ((((hdZ x m).take (j + 1)).map u8Row).length = j + 1) := Lib.hid (by have := hdZ_len (n := x) b1 b2; simp; omega)
    have HT := Lib.hid (hdZ_nextR (n := x) (j := j) (by omega) (by omega) HI2.out hlt)
    clear hS
    rcases hi4 with rfl | rfl | rfl | rfl
    · have HX := Lib.hid (show shB x 0 = x % 256 from rfl)
      trace "C0"; go_wp2_with fail
      refine (rround_0 _).mono ?_
      rintro e w1 ⟨rfl, rfl⟩
      trace "D0"; go_wp2_with (at_builtin; refine wpList_push rfl _ _ 134 rfl 5 1 1 Tryd.elU8 (.slice (some ⟨q, 0, none⟩) (j + 1) cp) (((hdZ x m).take (j + 1)).map u8Row) rfl (HS.out.ls.alloc _) wr.heap.size 1 [.int .u8 (x % 256)] rfl rfl (u8Row_one _).2 (BlockIs.fresh _ _ _) (by rw [HML2.out]; omega) ?_; intro q9 cq w5 hl5 ho5 hq5 hlt5; rw [HML2.out] at hl5; (try rw [HML2.out]); have HN5 := Lib.hid (HS.out.step (HT.out) HX.out HML2.out hl5 ho5 hq5); clear hl5 ho5 hq5 hlt5)
      go_roundw
      case rel => exact ⟨j + 1, q9, cq, rfl, by have := HI2.out; first | (simp; omega) | (congr 1; omega), by omega, HN5.out⟩
      case measure => (simp [intOf]; try omega)
    · have HX := Lib.hid (show shB x 1 = x / 256 % 256 from rfl)
      trace "C1"; go_wp2_with fail
      refine (rround_any 1 (by decide) (by decide) _).mono ?_
      rintro e w1 ⟨rfl, rfl⟩
      simp only [rnd]
      trace "D1"; go_wp2_with (at_builtin; refine wpList_push rfl _ _ 134 rfl 5 1 1 Tryd.elU8 (.slice (some ⟨q, 0, none⟩) (j + 1) cp) (((hdZ x m).take (j + 1)).map u8Row) rfl (HS.out.ls.alloc _) wr.heap.size 1 [.int .u8 (x / 256 % 256)] rfl rfl (u8Row_one _).2 (BlockIs.fresh _ _ _) (by rw [HML2.out]; omega) ?_; intro q9 cq w5 hl5 ho5 hq5 hlt5; rw [HML2.out] at hl5; (try rw [HML2.out]); have HN5 := Lib.hid (HS.out.step (HT.out) HX.out HML2.out hl5 ho5 hq5); clear hl5 ho5 hq5 hlt5)
      go_roundw
      case rel => exact ⟨j + 1, q9, cq, rfl, by have := HI2.out; first | (simp; omega) | (congr 1; omega), by omega, HN5.out⟩
      case measure => (simp [intOf]; try omega)
    · have HX := Lib.hid (show shB x 2 = x / 65536 % 256 from rfl)
      trace "C2"; go_wp2_with fail
      refine (rround_any 2 (by decide) (by decide) _).mono ?_
      rintro e w1 ⟨rfl, rfl⟩
      simp only [rnd]
      trace "D2"; go_wp2_with (at_builtin; refine wpList_push rfl _ _ 134 rfl 5 1 1 Tryd.elU8 (.slice (some ⟨q, 0, none⟩) (j + 1) cp) (((hdZ x m).take (j + 1)).map u8Row) rfl (HS.out.ls.alloc _) wr.heap.size 1 [.int .u8 (x / 65536 % 256)] rfl rfl (u8Row_one _).2 (BlockIs.fresh _ _ _) (by rw [HML2.out]; omega) ?_; intro q9 cq w5 hl5 ho5 hq5 hlt5; rw [HML2.out] at hl5; (try rw [HML2.out]); have HN5 := Lib.hid (HS.out.step (HT.out) HX.out HML2.out hl5 ho5 hq5); clear hl5 ho5 hq5 hlt5)
      go_roundw
      case rel => exact ⟨j + 1, q9, cq, rfl, by have := HI2.out; first | (simp; omega) | (congr 1; omega), by omega, HN5.out⟩
      case measure => (simp [intOf]; try omega)
    · have HX := Lib.hid (show shB x 3 = x / 16777216 % 256 from rfl)
      trace "C3"; go_wp2_with fail
      refine (rround_any 3 (by decide) (by decide) _).mono ?_
      rintro e w1 ⟨rfl, rfl⟩
      simp only [rnd]
      trace "D3"; go_wp2_with (at_builtin; refine wpList_push rfl _ _ 134 rfl 5 1 1 Tryd.elU8 (.slice (some ⟨q, 0, none⟩) (j + 1) cp) (((hdZ x m).take (j + 1)).map u8Row) rfl (HS.out.ls.alloc _) wr.heap.size 1 [.int .u8 (x / 16777216 % 256)] rfl rfl (u8Row_one _).2 (BlockIs.fresh _ _ _) (by rw [HML2.out]; omega) ?_; intro q9 cq w5 hl5 ho5 hq5 hlt5; rw [HML2.out] at hl5; (try rw [HML2.out]); have HN5 := Lib.hid (HS.out.step (HT.out) HX.out HML2.out hl5 ho5 hq5); clear hl5 ho5 hq5 hlt5)
      go_roundw
      case rel => exact ⟨j + 1, q9, cq, rfl, by have := HI2.out; first | (simp; omega) | (congr 1; omega), by omega, HN5.out⟩
      case measure => (simp [intOf]; try omega)
end Go.Proofs.YthnolkbolmbkdaaDoor

/-! Contract of wireref2.Read. Condition: the string's length is an int. Printed by gen_rread.py. -/
namespace Go.Proofs.YthnolkbolmbkdaaDoor
open Go.ChangeShapes Go.WideShapes Go.ChangeAt Go.RowKit
set_option linter.unusedVariables false

/-- what the reference's Read keeps -/
structure RfSt (w wr : World) (kind : Int) (M : List Int) (i : Nat) (A : Option Addr) (c : Nat) : Prop where
  bl : BlockIs wr (w.heap.size + 1) 82 #[.int .i64 kind, .slice A i c, .string ⟨#[]⟩]
  br : BlockIs wr w.heap.size 82 #[.int .i64 0, .slice none 0 0, .string ⟨#[]⟩]
  ls : Lst wr 3 1 (.slice A i c) (M.map intRow)
  len : M.length = i
  new : ∀ q, q ∈ blocks (.slice A 0 0) → w.heap.size ≤ q
  since : Since w wr
theorem RfSt.later {w wr w' : World} {kind : Int} {M : List Int} {i : Nat} {A : Option Addr} {c : Nat} (h : RfSt w wr kind M i A c) (hb : Below wr.heap.size wr w') : RfSt w w' kind M i A c :=
  ⟨h.bl.later hb, h.br.later hb, h.ls.later hb, h.len, h.new, h.since.later hb⟩
theorem RfSt.alloc {w wr : World} {kind : Int} {M : List Int} {i : Nat} {A : Option Addr} {c : Nat} (h : RfSt w wr kind M i A c) (o : Obj) : RfSt w (wr.alloc o) kind M i A c :=
  ⟨h.bl.alloc o, h.br.alloc o, h.ls.alloc o, h.len, h.new, h.since.alloc o⟩
theorem RfSt.drew {w wr : World} {kind : Int} {M : List Int} {i : Nat} {A : Option Addr} {c : Nat} (h : RfSt w wr kind M i A c) : RfSt w wr.drew kind M i A c :=
  ⟨h.bl.drew, h.br.drew, h.ls.drew, h.len, h.new, h.since.drew⟩
theorem RfSt.after {w X w9 : World} {kind : Int} {M : List Int} {i : Nat} {A : Option Addr} {c : Nat} (h : RfSt w X kind M i A c) (ho : Out X w9 (blocks (.slice A i c))) :
    Since w w9 ∧ BlockIs w9 (w.heap.size + 1) 82 #[.int .i64 kind, .slice A i c, .string ⟨#[]⟩] ∧ BlockIs w9 w.heap.size 82 #[.int .i64 0, .slice none 0 0, .string ⟨#[]⟩] :=
  ⟨h.since.out' ho (fun k hk => h.new k (by rw [blocks_any A 0 0 i c]; exact hk)), ho.block' h.bl (h.ls.apart h.bl (by decide)), ho.block' h.br (h.ls.apart h.br (by decide))⟩
theorem RfSt.step {w X w9 : World} {kind : Int} {M N : List Int} {i m : Nat} {A A9 : Option Addr} {c c9 : Nat} (h : RfSt w X kind M i A c) (ho : Out X w9 (blocks (.slice A i c)))
    (hl : Lst w9 3 1 (.slice A9 (i + m) c9) (M.map intRow ++ N.map intRow)) (hN : N.length = m) (hb : ∀ k, k ∈ blocks (.slice A9 (i + m) c9) → k ∈ blocks (.slice A i c) ∨ k = X.heap.size) :
    RfSt w (w9.setCell ⟨w.heap.size + 1, 1, none⟩ (.slice A9 (i + m) c9)) kind (M ++ N) (i + m) A9 c9 := by
  obtain ⟨hs, h1, h2⟩ := h.after ho
  refine ⟨h1.put 1 _, h2.far (by simp) _, ?_, by rw [List.length_append, h.len, hN], fun k hk => ?_, hs.set (by simp) _⟩
  · rw [List.map_append]
    exact hl.kept ((Out.refl w9 [w.heap.size + 1]).put (p := ⟨w.heap.size + 1, 1, none⟩) (Or.inl (by simp)) _) (fun k hk hk2 => hl.apart h1 (by decide) (by rw [List.mem_singleton.1 hk2] at hk; exact hk))
  · rcases hb k (by rw [blocks_any A9 0 0 (i + m) c9] at hk; exact hk) with h' | h'
    · exact h.new k (by rw [blocks_any A 0 0 i c]; exact h')
    · rw [h']; exact h.since.le
theorem Lst.apart2 {w : World} {E E' size size' : Nat} {v v' : Value} {es es' : List (List Value)} (h : Lst w E size v es) (h' : Lst w E' size' v' es') (ht : E ≠ E') : ∀ k, k ∈ blocks v → k ∉ blocks v' := by
  intro k hk hk'
  rcases h.own.2 with ⟨rfl, _⟩ | ⟨g, cap, cur, rfl, _, hgg, _⟩
  · simp [blocks, Value.ownBlock] at hk
  · rcases h'.own.2 with ⟨rfl, _⟩ | ⟨g', cap', cur', rfl, _, hgg', _⟩
    · simp [blocks, Value.ownBlock] at hk'
    · simp [blocks, Value.ownBlock] at hk hk'
      subst hk hk'
      rw [hgg] at hgg'
      simp only [Option.some.injEq, Obj.cells.injEq] at hgg'
      exact ht hgg'.2.1
theorem numUp_shift (b : List UInt8) : ∀ i, numUp b 1 i = match numUp (b.drop 1) 0 i with | none => none | some (L, k) => some (L, k + 1)
  | 0 => rfl
  | i + 1 => by
    have ih := numUp_shift b i
    cases h : numUp (b.drop 1) 0 i with
    | none => rw [h] at ih; rw [numUp, ih, numUp, h]
    | some q =>
      obtain ⟨L, k⟩ := q
      rw [h] at ih
      simp only at ih
      have hd : (b.drop 1).drop k = b.drop (k + 1) := by rw [List.drop_drop, Nat.add_comm]
      by_cases hg : getOk (b.drop (k + 1))
      · rw [numUp_yes ih hg, numUp_yes h (by rw [hd]; exact hg), hd]
        simp only [Option.some.injEq, Prod.mk.injEq, true_and]
        omega
      · rw [numUp_no ih hg, numUp_no h (by rw [hd]; exact hg)]
theorem numUp_back1 {b : List UInt8} {i k : Nat} {L : List Int} (h : numUp b 1 i = some (L, k)) : 1 ≤ k ∧ numUp (b.drop 1) 0 i = some (L, k - 1) := by
  rw [numUp_shift] at h
  cases hc : numUp (b.drop 1) 0 i with
  | none => rw [hc] at h; cases h
  | some q =>
    obtain ⟨L', k'⟩ := q
    rw [hc] at h
    simp only [Option.some.injEq, Prod.mk.injEq] at h
    obtain ⟨rfl, rfl⟩ := h
    exact ⟨by omega, rfl⟩
theorem numUp_none1 {b : List UInt8} {i : Nat} (h : numUp b 1 i = none) : numUp (b.drop 1) 0 i = none := by
  rw [numUp_shift] at h
  cases hc : numUp (b.drop 1) 0 i with
  | none => rfl
  | some q => rw [hc] at h; cases h
/-- readF by kinds -/
theorem rd_ack {b : List UInt8} (h : ¬ (b = [] ∨ bat b 0 < 1 ∨ 8 < bat b 0)) (hk : bat b 0 = 2) : readF b = match readA (b.drop 1) with | none => none | some (L, n) => some (⟨2, unpairs L, ByteArray.empty⟩, n + 1) := by
  rw [readF_rest h, hk, restF_ack]; cases readA (b.drop 1) <;> rfl
theorem readK_many {k : Int} (h : k ≠ 2) (h3 : k ≠ 3) : manyK k = (readK k : Nat) := by
  unfold manyK readK
  rw [if_neg h, if_neg h3]
  by_cases h1 : k = 1
  · rw [if_pos h1, if_pos h1]; rfl
  · rw [if_neg h1, if_neg h1]
    by_cases h7 : k = 7
    · rw [if_pos h7, if_pos h7]; rfl
    · rw [if_neg h7, if_neg h7]; rfl
theorem rd_plain {b : List UInt8} {L : List Int} {k : Nat} (h : ¬ (b = [] ∨ bat b 0 < 1 ∨ 8 < bat b 0)) (h2 : bat b 0 ≠ 2) (h3 : bat b 0 ≠ 3) (hn : numUp b 1 (readK (bat b 0)) = some (L, k)) : readF b = some (⟨bat b 0, L, ByteArray.empty⟩, k) := by
  obtain ⟨k1, hn1⟩ := numUp_back1 hn
  rw [readF_rest h, restF_plain h2 h3 hn1]
  simp only [Option.some.injEq, Prod.mk.injEq, true_and]; omega
theorem rd_num {b : List UInt8} (h : ¬ (b = [] ∨ bat b 0 < 1 ∨ 8 < bat b 0)) (h2 : bat b 0 ≠ 2) (hn : numUp b 1 (readK (bat b 0)) = none) : readF b = none := by
  rw [readF_rest h, restF_num h2 (numUp_none1 hn)]
theorem rd_no {b : List UInt8} {L : List Int} {k : Nat} (h : ¬ (b = [] ∨ bat b 0 < 1 ∨ 8 < bat b 0)) (h3 : bat b 0 = 3) (hn : numUp b 1 2 = some (L, k)) (hx : ¬ (ith L 1 ≤ 20 ∧ (k : Int) + ith L 1 ≤ b.length)) : readF b = none := by
  obtain ⟨k1, hn1⟩ := numUp_back1 hn
  have hl : 1 ≤ b.length := by
    cases b with
    | nil => exact absurd (Or.inl rfl) h
    | cons c b => simp
  rw [readF_rest h, h3, restF_no hn1 (by rw [List.length_drop]; omega)]
theorem rd_yes {b : List UInt8} {L : List Int} {k : Nat} (h : ¬ (b = [] ∨ bat b 0 < 1 ∨ 8 < bat b 0)) (h3 : bat b 0 = 3) (hn : numUp b 1 2 = some (L, k)) (hx : ith L 1 ≤ 20 ∧ (k : Int) + ith L 1 ≤ b.length) : readF b = some (⟨3, [ith L 0], ⟨((b.drop k).take (ith L 1).toNat).toArray⟩⟩, k + (ith L 1).toNat) := by
  obtain ⟨k1, hn1⟩ := numUp_back1 hn
  rw [readF_rest h, h3, restF_yes hn1 (by rw [List.length_drop]; omega)]
  simp only [Option.some.injEq, Prod.mk.injEq, Frm.mk.injEq, true_and]
  rw [List.drop_drop, show 1 + (k - 1) = k by omega]
  exact ⟨rfl, by omega⟩
theorem newA_nil (g : Nat) : newA none g := fun b off h => by cases h
abbrev RfPost (b : List UInt8) (w : World) (e : Ending) (w' : World) : Prop := ∃ (p : FrmV) (n : Nat) (ok : Bool), e = .returned (.tuple #[p.agg, .int .i64 n, .bool ok]) ∧ Below w.heap.size w w' ∧ FrmIn w' p ∧ readF b = (if ok = true then some (p.f, n) else none) ∧ (ok = false → p.f = frm0 ∧ n = 0) ∧ newA p.A w.heap.size

set_option maxHeartbeats 6400000 in
set_option maxRecDepth 100000 in
theorem rfread_ack (s : ByteArray) (w : World) (hz : s.size ≤ 9223372036854775707) (hb : ¬ (s.data.toList = [] ∨ bat s.data.toList 0 < 1 ∨ 8 < bat s.data.toList 0)) (h2 : bat s.data.toList 0 = 2) :
    Calls Tryd.prog 44 #[.string s] w fun e w' => RfPost s.data.toList w e w' := by
  have hsz : s.data.toList.length = s.size := rfl
  have hpos : 0 < s.size := by
    rcases Nat.eq_zero_or_pos s.size with h | h
    · exact absurd (Or.inl (List.length_eq_zero_iff.1 (by omega))) hb
    · exact h
  obtain ⟨e1, e2⟩ := str_full (s := s) (by omega)
  have e0 := str_at s 0 hpos
  rw [h2] at e0
  have HRD := Lib.hid (rd_ack hb h2)
  have RA := Lib.hid (fun W => raread (s.extract 1 s.size) W (Nat.le_trans (str_drop_size s 1) (by omega)))
  rw [str_drop] at RA
  obtain ⟨b, hbb⟩ : ∃ b, s.data.toList = b := ⟨_, rfl⟩
  rw [hbb] at HRD RA hsz ⊢
  have hsl : (1 : Int) ≤ (s.size : Int) := by omega
  have hwrap : IntKind.i64.wrap 2 = 2 := by decide
  have HB0 := Lib.hid (BlockIs.fresh w 82 #[.int .i64 0, .slice none 0 0, .string ⟨#[]⟩])
  have HST : Hid (RfSt w ((w.alloc (.cells #[.int .i64 0, .slice none 0 0, .string ⟨#[]⟩] 82)).alloc (.cells #[.int .i64 2, .slice none 0 0, .string ⟨#[]⟩] 82)) 2 [] 0 none 0) := Lib.hid
    ⟨BlockIs.fresh_at (by simp), (BlockIs.fresh _ _ _).alloc _, Lst.nil _ _ _, rfl, by simp [Value.ownBlock], (by refine Since.out ?_; repeat (first | with_reducible assumption | with_reducible exact Since.refl _ | with_reducible refine Since.later ?_ (by with_reducible assumption) | with_reducible refine Since.only ?_ (by with_reducible assumption) (by first | assumption | omega | (simp; done) | (simp; omega)) | with_reducible refine Since.alloc ?_ _ | with_reducible refine Since.drewN ?_ _ | with_reducible refine Since.drew ?_ | with_reducible refine Since.set ?_ (by first | assumption | omega | (simp; done) | (simp; omega)) _))⟩
  have hbl : b.length ≤ 9223372036854775707 := by omega
  clear hb h2 hbb hz
  go_enter Tryd.func44, Tryd.ntmps44
  trace "A"; go_wp2_with fail
  refine (RA.out _).mono ?_
  rintro e w1 ⟨A1, c1, k, ok, R, rfl, hl1, hR, hb1, _, hr1⟩
  have HL1 := Lib.hid hl1
  have HST1 := Lib.hid (HST.out.later hb1)
  have HR1 := Lib.hid hr1
  clear hl1 hb1 hr1 HST
  have b0 : w1.cell? ⟨w.heap.size, 0, none⟩ = some (.int .i64 0) := HST1.out.br.cell 0
  have b1 : w1.cell? ⟨w.heap.size, 1, none⟩ = some (.slice none 0 0) := HST1.out.br.cell 1
  have b2 : w1.cell? ⟨w.heap.size, 2, none⟩ = some (.string ⟨#[]⟩) := HST1.out.br.cell 2
  have lb := HST1.out.br.lt
  have fb := HST1.out.br.free
  cases ok with
  | false =>
    have P := Lib.hid (show readF b = none by rw [HRD.out, HR1.out]; rfl)
    trace "B"; go_wp2_with fail
    have HB3 := Lib.hid (st3 HST1.out.br (.int .i64 0) (.slice none 0 0) (.string ⟨#[]⟩))
    have hs3 := (HST1.out.since).out' (out3 w1 w.heap.size (.int .i64 0) (.slice none 0 0) (.string ⟨#[]⟩)) (fun k hk => by (have : k = w.heap.size := by simpa using hk); omega)
    generalize (((w1.setCell ⟨w.heap.size, 0, none⟩ (.int .i64 0)).setCell ⟨w.heap.size, 1, none⟩ (.slice none 0 0)).setCell ⟨w.heap.size, 2, none⟩ (.string ⟨#[]⟩)) = w3 at *
    have kc0 : w3.cell? ⟨w.heap.size, 0, none⟩ = some (.int .i64 0) := HB3.out.cell 0
    have kc1 : w3.cell? ⟨w.heap.size, 1, none⟩ = some (.slice none 0 0) := HB3.out.cell 1
    have kc2 : w3.cell? ⟨w.heap.size, 2, none⟩ = some (.string ⟨#[]⟩) := HB3.out.cell 2
    refine bodyPost_ret (v := .tuple #[.agg #[.int .i64 0, .slice none 0 0, .string ⟨#[]⟩], .int .i64 0, .bool false]) (by simp [results, Tryd.results44, go_sem, kc0, kc1, kc2]) rfl ⟨⟨frm0, none, 0⟩, 0, false, by rfl, hs3, frm0_in _, by rw [P.out]; rfl, fun _ => ⟨rfl, rfl⟩, newA_nil _⟩
  | true =>
    have P := Lib.hid (show readF b = some (⟨2, unpairs R, ByteArray.empty⟩, k + 1) by rw [HRD.out, HR1.out]; rfl)
    have hkb : k ≤ b.length := by have := (readF_inv P.out).2.2.1; omega
    have hk1 : (1 : Int) + (k : Int) = ((k + 1 : Nat) : Int) := by omega
    obtain ⟨nR, hnR⟩ : ∃ nR, R.length = nR := ⟨_, rfl⟩
    have HNR := Lib.hid hnR
    rw [hnR] at HL1 hR ⊢
    clear hnR b0 b1 b2 lb fb
    trace "C"; go_wp2_with fail
    go_loopw [9] (fun s9 wr => ∃ (i i2 : Nat) (A' : Option Addr) (c' : Nat), s9 = .int .i64 i ∧ i ≤ nR ∧ Hid (i2 = 2 * i) ∧ Hid (RfSt w wr 2 (unpairs (R.take i)) i2 A' c') ∧ Hid (Lst wr 69 2 (.slice A1 nR c1) (R.map rngRow))) (fun s9 _ => nR - (intOf s9).toNat)
    case atStart => exact ⟨0, 0, none, 0, rfl, Nat.zero_le _, Lib.hid rfl, HST1, HL1⟩
    case round =>
      obtain ⟨i, i2, A', c', rfl, hi, hi2, HS, HLR⟩ := hrel
      have d0 : wr.cell? ⟨w.heap.size + 1, 0, none⟩ = some (.int .i64 2) := HS.out.bl.cell 0
      have d1 : wr.cell? ⟨w.heap.size + 1, 1, none⟩ = some (.slice A' i2 c') := HS.out.bl.cell 1
      have d2 : wr.cell? ⟨w.heap.size + 1, 2, none⟩ = some (.string ⟨#[]⟩) := HS.out.bl.cell 2
      have ld := HS.out.bl.lt
      have fd := HS.out.bl.free
      by_cases hlt : i < nR
      case neg =>
        obtain rfl : i = nR := by omega
        have hf : decide ((i : Int) < (i : Int)) = false := by simp
        have b0 : wr.cell? ⟨w.heap.size, 0, none⟩ = some (.int .i64 0) := HS.out.br.cell 0
        have b1 : wr.cell? ⟨w.heap.size, 1, none⟩ = some (.slice none 0 0) := HS.out.br.cell 1
        have b2 : wr.cell? ⟨w.heap.size, 2, none⟩ = some (.string ⟨#[]⟩) := HS.out.br.cell 2
        have lb := HS.out.br.lt
        have fb := HS.out.br.free
        have hz : Hid (R.take i = R) := Lib.hid (List.take_of_length_le (by rw [HNR.out]; exact Nat.le_refl _))
        rw [hz.out] at HS
        have HLEN := Lib.hid HS.out.len
        trace "D"; go_wp2_with fail
        have HB3 := Lib.hid (st3 HS.out.br (.int .i64 2) (.slice A' i2 c') (.string ⟨#[]⟩))
        have HO3 := Lib.hid (out3 wr w.heap.size (.int .i64 2) (.slice A' i2 c') (.string ⟨#[]⟩))
        have hs3 := (HS.out.since).out' HO3.out (fun k hk => by (have : k = w.heap.size := by simpa using hk); omega)
        generalize (((wr.setCell ⟨w.heap.size, 0, none⟩ (.int .i64 2)).setCell ⟨w.heap.size, 1, none⟩ (.slice A' i2 c')).setCell ⟨w.heap.size, 2, none⟩ (.string ⟨#[]⟩)) = w3 at *
        have kc0 : w3.cell? ⟨w.heap.size, 0, none⟩ = some (.int .i64 2) := HB3.out.cell 0
        have kc1 : w3.cell? ⟨w.heap.size, 1, none⟩ = some (.slice A' i2 c') := HB3.out.cell 1
        have kc2 : w3.cell? ⟨w.heap.size, 2, none⟩ = some (.string ⟨#[]⟩) := HB3.out.cell 2
        have hE := (readF_inv P.out).1
        refine bodyPost_ret (v := .tuple #[.agg #[.int .i64 2, .slice A' i2 c', .string ⟨#[]⟩], .int .i64 (((k + 1) : Nat) : Int), .bool true]) (by simp [results, Tryd.results44, go_sem, kc0, kc1, kc2]) rfl ⟨⟨⟨2, (unpairs R), ⟨#[]⟩⟩, A', c'⟩, (k + 1), true, ?_, hs3, frmIn_of (n := i2) hE ((HS.out.ls).far HS.out.br (by decide) HO3.out) ?_, by rw [P.out]; rfl, fun h => (by cases h), newA_of (HS.out.ls) HS.out.new⟩
        · unfold FrmV.agg
          simp only [HLEN.out]
        · exact (frmE_out hE).2.2.2.1
      have hlt' : (i : Int) < (nR : Int) := by omega
      have hil : i < R.length := by rw [HNR.out]; exact hlt
      obtain ⟨_, _, hv1, _, _, hA1⟩ := HLR.out.shape
      simp only [Value.slice.injEq] at hv1
      obtain ⟨rfl, hv2, rfl⟩ := hv1
      clear hv2
      rcases hA1 with ⟨_, hA1, _⟩ | ⟨q1, rfl⟩
      · exact absurd (congrArg List.length hA1) (by rw [List.length_map, HNR.out]; simp; omega)
      have c0 : wr.cell? ⟨q1, i * 2, none⟩ = some (.int .i64 (rat R i).lo) := by
        have := HLR.out.cell rfl (elem_of_rng (L := R) (i := i) hil) (j := 0) rfl
        rw [rat_get hil]; simpa using this
      have c1' : wr.cell? ⟨q1, i * 2 + 1, none⟩ = some (.int .i64 (rat R i).hi) := by
        have := HLR.out.cell rfl (elem_of_rng (L := R) (i := i) hil) (j := 1) rfl
        rw [rat_get hil]; simpa using this
      have lq : q1 < wr.heap.size := HLR.out.lt q1 (by simp [Value.ownBlock])
      have HT := Lib.hid (take_unpairs hil)
      have HUL : Hid (((unpairs (R.take i)).map intRow).length = i2) := Lib.hid (by rw [List.length_map, HS.out.len])
      clear hil
      generalize (rat R i).lo = lo at *
      generalize (rat R i).hi = hi3 at *
      have HNEW : Hid (∀ j u, (flat [intRow hi3, intRow lo])[j]? = some u → (wr.alloc (.cells #[.int .i64 hi3, .int .i64 lo] 3)).cell? ((⟨wr.heap.size, 0, none⟩ : Addr).add j) = some u) := Lib.hid (fun j u hj => by
        rw [addr_at, (BlockIs.fresh wr 3 #[.int .i64 hi3, .int .i64 lo]).cell]
        match j, hj with
        | 0, hj => exact hj
        | 1, hj => exact hj
        | _ + 2, hj => simp [intRow] at hj)
      trace "E"; go_wp2_with fail
      go_region_law ((refine step_cat rfl _ _ 50 rfl 3 1 8 Tryd.elInt (.slice A' i2 c') ((unpairs (R.take i)).map intRow) rfl ?_ ⟨wr.heap.size, 0, none⟩ 2 2 [intRow hi3, intRow lo] rfl rfl ?_ ?_ ?_ ?_; (first | exact (HS.out.ls.alloc _).drew | exact HS.out.ls.alloc _); (intro e he; simp at he; rcases he with rfl | rfl <;> exact intRow_one _); (exact HNEW.out); (rw [HUL.out]; have := hi2.out; simp; omega); intro A9 c9 w9 hl9 ho9 hb9; rw [HUL.out] at hl9 hb9; (try rw [HUL.out]); have HX := Lib.hid (HS.out.alloc (.cells #[.int .i64 hi3, .int .i64 lo] 3)).drew; have HX2 := Lib.hid (HLR.out.alloc (.cells #[.int .i64 hi3, .int .i64 lo] 3)).drew; have HY9 := Lib.hid (HX2.out.kept ho9 (HX2.out.apart2 HX.out.ls (by decide))); have HN9 := Lib.hid (HX.out.step (N := [hi3, lo]) (m := 2) ho9 hl9 rfl hb9); obtain ⟨hs9, hB9, hR9⟩ := HX.out.after ho9; have f9 := hB9.free; have l9 := hB9.lt; have e91 : w9.cell? ⟨w.heap.size + 1, 1, none⟩ = some (.slice A' i2 c') := hB9.cell 1; have HZ9 := Lib.hid (HY9.out.kept ((Out.refl w9 [w.heap.size + 1]).put (p := ⟨w.heap.size + 1, 1, none⟩) (Or.inl (by simp)) (.slice A9 (i2 + 2) c9)) (fun k hk hk2 => HY9.out.apart hB9 (by decide) (by rw [List.mem_singleton.1 hk2] at hk; exact hk))); clear hl9 ho9 hb9 hB9 hR9))
      all_goals
        have HN10 : Hid (RfSt w (w9.setCell ⟨w.heap.size + 1, 1, none⟩ (.slice A9 (i2 + 2) c9)) 2 (unpairs (R.take (i + 1))) (i2 + 2) A9 c9) := Lib.hid (by rw [HT.out]; exact HN9.out)
        trace "F"; go_wp2_with fail
        go_roundw
        case rel => exact ⟨i + 1, i2 + 2, A9, c9, by go_num, by omega, Lib.hid (by have := hi2.out; omega), (by first | exact HN10 | exact Lib.hid HN10.out.drew), (by first | exact HZ9 | exact Lib.hid HZ9.out.drew)⟩
        case measure => simp [intOf]; omega
end Go.Proofs.YthnolkbolmbkdaaDoor

/-! Contract of wireref2.Read, the kinds with numbers, and whole. Condition: the string's length is an int. Printed by gen_rread.py. -/
namespace Go.Proofs.YthnolkbolmbkdaaDoor
open Go.ChangeShapes Go.WideShapes Go.ChangeAt Go.RowKit
set_option linter.unusedVariables false

theorem kN_of {l : List UInt8} (h : getOk l) : kN l = getC l := by unfold kN; rw [if_pos h]

set_option maxHeartbeats 6400000 in
set_option maxRecDepth 100000 in
theorem rfread_num (s : ByteArray) (w : World) (hz : s.size ≤ 9223372036854775707) (hb : ¬ (s.data.toList = [] ∨ bat s.data.toList 0 < 1 ∨ 8 < bat s.data.toList 0)) (h2 : bat s.data.toList 0 ≠ 2) :
    Calls Tryd.prog 44 #[.string s] w fun e w' => RfPost s.data.toList w e w' := by
  have hsz : s.data.toList.length = s.size := rfl
  have hpos : 0 < s.size := by
    rcases Nat.eq_zero_or_pos s.size with h | h
    · exact absurd (Or.inl (List.length_eq_zero_iff.1 (by omega))) hb
    · exact h
  obtain ⟨e1, e2⟩ := str_full (s := s) (by omega)
  have e0 := str_at s 0 hpos
  have GD := Lib.hid (fun k W => rgetD s k (by omega) W)
  have HPL := Lib.hid (fun L k h3 hn => rd_plain (L := L) (k := k) hb h2 h3 hn)
  have HPN := Lib.hid (fun hn => rd_num hb h2 hn)
  have HNO := Lib.hid (fun L k h3 hn hx => rd_no (L := L) (k := k) hb h3 hn hx)
  have HYES := Lib.hid (fun L k h3 hn hx => rd_yes (L := L) (k := k) hb h3 hn hx)
  have HDT : Hid (∀ p l, ((⟨((s.data.toList.drop p).take l).toArray⟩ : ByteArray) = s.extract p (p + l))) := Lib.hid (fun p l => ba_ext (by
    rw [ByteArray.data_extract, Array.toList_extract, List.extract_eq_take_drop]
    simp only
    rw [show p + l - p = l by omega]))
  have HX8 : Hid (1 ≤ bat s.data.toList 0 ∧ bat s.data.toList 0 ≤ 8) := Lib.hid ⟨by
    rcases Int.lt_or_le (bat s.data.toList 0) 1 with h | h
    · exact absurd (Or.inr (Or.inl h)) hb
    · exact h, by
    rcases Int.lt_or_le 8 (bat s.data.toList 0) with h | h
    · exact absurd (Or.inr (Or.inr h)) hb
    · exact h⟩
  obtain ⟨m, hm, hm2⟩ : ∃ m : Nat, manyK (bat s.data.toList 0) = m ∧ m ≤ 2 := by
    obtain ⟨q0, q1⟩ := manyK_two h2
    exact ⟨(manyK (bat s.data.toList 0)).toNat, by omega, by omega⟩
  have HM3 : Hid (bat s.data.toList 0 ≠ 3 → readK (bat s.data.toList 0) = m) := Lib.hid (fun h3 => by have := readK_many h2 h3; omega)
  have HM1 : Hid (bat s.data.toList 0 = 3 → m = 1 ∧ readK (bat s.data.toList 0) = 2) := Lib.hid (fun h3 => ⟨by rw [h3] at hm; have : manyK 3 = 1 := rfl; omega, by rw [h3]; rfl⟩)
  have HMK := Lib.hid hm
  have HH2 := Lib.hid h2
  obtain ⟨b, hbb⟩ : ∃ b, s.data.toList = b := ⟨_, rfl⟩
  rw [hbb] at GD HPL HPN HNO HYES HDT HX8 HM3 HM1 HMK HH2 hsz e0 ⊢
  have hbl : b.length ≤ 9223372036854775707 := by omega
  have HUP0 : Hid (numUp b 1 0 = some ([], 1)) := Lib.hid rfl
  have HUPN : Hid (∀ i, numUp b 1 (i + 1) = none → i + 1 ≤ readK (bat b 0) → readF b = none) := Lib.hid (fun i hi hj => HPN.out (numUp_none hi _ hj))
  clear hb h2 hbb hz hm
  obtain ⟨x, hx⟩ : ∃ x, bat b 0 = x := ⟨_, rfl⟩
  rw [hx] at HPL HPN HNO HYES HX8 HM3 HM1 HMK HH2 HUPN e0
  obtain ⟨x1, x8⟩ := HX8.out
  have x1' : decide (x < 1) = false := by simp; omega
  have x8' : decide (8 < x) = false := by simp; omega
  have hx2 : (x == 2) = false := by rw [beq_eq_false_iff_ne]; exact HH2.out
  have hwrap : IntKind.i64.wrap x = x := by simp [IntKind.wrap, IntKind.bits, IntKind.signed]; omega
  have HSZ := Lib.hid hsz
  have hsl : (1 : Int) ≤ (s.size : Int) := by omega
  have HST : Hid (RfSt w ((w.alloc (.cells #[.int .i64 0, .slice none 0 0, .string ⟨#[]⟩] 82)).alloc (.cells #[.int .i64 x, .slice none 0 0, .string ⟨#[]⟩] 82)) x [] 0 none 0) := Lib.hid
    ⟨BlockIs.fresh_at (by simp), (BlockIs.fresh _ _ _).alloc _, Lst.nil _ _ _, rfl, by simp [Value.ownBlock], (by refine Since.out ?_; repeat (first | with_reducible assumption | with_reducible exact Since.refl _ | with_reducible refine Since.later ?_ (by with_reducible assumption) | with_reducible refine Since.only ?_ (by with_reducible assumption) (by first | assumption | omega | (simp; done) | (simp; omega)) | with_reducible refine Since.alloc ?_ _ | with_reducible refine Since.drewN ?_ _ | with_reducible refine Since.drew ?_ | with_reducible refine Since.set ?_ (by first | assumption | omega | (simp; done) | (simp; omega)) _))⟩
  clear hx hsz
  go_enter Tryd.func44, Tryd.ntmps44
  trace "A"; go_wp2_with fail
  refine (rcounts x _).mono ?_
  rintro e w1 ⟨rfl, rfl⟩
  rw [HMK.out]
  trace "B"; go_wp2_with fail
  go_loopw [10, 12] (fun s10 s12 wr => ∃ (i k : Nat) (A' : Option Addr) (c' : Nat) (M : List Int), s10 = .int .i64 k ∧ s12 = .int .i64 i ∧ i ≤ m ∧ k ≤ b.length ∧ Hid (numUp b 1 i = some (M, k)) ∧ Hid (RfSt w wr x M i A' c')) (fun _ s12 _ => m - (intOf s12).toNat)
  case atStart => exact ⟨0, 1, none, 0, [], rfl, rfl, Nat.zero_le _, by have := HSZ.out; omega, HUP0, HST⟩
  case round =>
    obtain ⟨i, k, A', c', M, rfl, rfl, hi, hkb, HUP, HS⟩ := hrel
    have b0 : wr.cell? ⟨w.heap.size, 0, none⟩ = some (.int .i64 0) := HS.out.br.cell 0
    have b1 : wr.cell? ⟨w.heap.size, 1, none⟩ = some (.slice none 0 0) := HS.out.br.cell 1
    have b2 : wr.cell? ⟨w.heap.size, 2, none⟩ = some (.string ⟨#[]⟩) := HS.out.br.cell 2
    have lb := HS.out.br.lt
    have fb := HS.out.br.free
    have d0 : wr.cell? ⟨w.heap.size + 1, 0, none⟩ = some (.int .i64 x) := HS.out.bl.cell 0
    have d1 : wr.cell? ⟨w.heap.size + 1, 1, none⟩ = some (.slice A' i c') := HS.out.bl.cell 1
    have d2 : wr.cell? ⟨w.heap.size + 1, 2, none⟩ = some (.string ⟨#[]⟩) := HS.out.bl.cell 2
    have ld := HS.out.bl.lt
    have fd := HS.out.bl.free
    have HLEN := Lib.hid HS.out.len
    have hks : (k : Int) ≤ (s.size : Int) := by have := HSZ.out; omega
    have hkn := kN_le b hkb
    have hkk : (k : Int) + (kN (b.drop k) : Int) = ((k + kN (b.drop k) : Nat) : Int) := by omega
    have GDk := Lib.hid (GD.out k)
    obtain ⟨v0, v1⟩ := bits_getN (b.drop k)
    have HG : Hid (gok (b.drop k) = true → numUp b 1 (i + 1) = some (M ++ [getV (b.drop k)], k + kN (b.drop k))) := Lib.hid (fun h => by
      have hg := of_decide_eq_true h
      rw [numUp_yes HUP.out hg]
      obtain ⟨_, g1, g2, _⟩ := gok_yes hg
      rw [g1, kN_of hg])
    have HGN : Hid (gok (b.drop k) = false → numUp b 1 (i + 1) = none) := Lib.hid (fun h => numUp_no HUP.out (of_decide_eq_false h))
    obtain ⟨V, hV⟩ : ∃ V, getV (b.drop k) = V := ⟨_, rfl⟩
    obtain ⟨k2, hk2⟩ : ∃ k2, k + kN (b.drop k) = k2 := ⟨_, rfl⟩
    obtain ⟨kd, hkd⟩ : ∃ kd, kN (b.drop k) = kd := ⟨_, rfl⟩
    rw [hV] at GDk HG v0 v1
    rw [hk2] at hkn hkk HG
    rw [hkd] at GDk hkk
    clear hV hk2 hkd
    by_cases hlt : i < m
    case neg =>
      obtain rfl : i = m := by omega
      have hf : decide ((i : Int) < (i : Int)) = false := by simp
      by_cases h3 : x = 3
      case neg =>
        have h3' : (x == 3) = false := by simpa using h3
        have P := Lib.hid (HPL.out M k h3 (by rw [HM3.out h3]; exact HUP.out))
        clear h3
        trace "C"; go_wp2_with fail
        have HB3 := Lib.hid (st3 HS.out.br (.int .i64 x) (.slice A' i c') (.string ⟨#[]⟩))
        have HO3 := Lib.hid (out3 wr w.heap.size (.int .i64 x) (.slice A' i c') (.string ⟨#[]⟩))
        have hs3 := (HS.out.since).out' HO3.out (fun k hk => by (have : k = w.heap.size := by simpa using hk); omega)
        generalize (((wr.setCell ⟨w.heap.size, 0, none⟩ (.int .i64 x)).setCell ⟨w.heap.size, 1, none⟩ (.slice A' i c')).setCell ⟨w.heap.size, 2, none⟩ (.string ⟨#[]⟩)) = w3 at *
        have kc0 : w3.cell? ⟨w.heap.size, 0, none⟩ = some (.int .i64 x) := HB3.out.cell 0
        have kc1 : w3.cell? ⟨w.heap.size, 1, none⟩ = some (.slice A' i c') := HB3.out.cell 1
        have kc2 : w3.cell? ⟨w.heap.size, 2, none⟩ = some (.string ⟨#[]⟩) := HB3.out.cell 2
        have hE := (readF_inv P.out).1
        refine bodyPost_ret (v := .tuple #[.agg #[.int .i64 x, .slice A' i c', .string ⟨#[]⟩], .int .i64 ((k : Nat) : Int), .bool true]) (by simp [results, Tryd.results44, go_sem, kc0, kc1, kc2]) rfl ⟨⟨⟨x, M, ⟨#[]⟩⟩, A', c'⟩, k, true, ?_, hs3, frmIn_of (n := i) hE ((HS.out.ls).far HS.out.br (by decide) HO3.out) ?_, by rw [P.out]; rfl, fun h => (by cases h), newA_of (HS.out.ls) HS.out.new⟩
        · unfold FrmV.agg
          simp only [HLEN.out]
        · exact (frmE_out hE).2.2.2.1
      obtain ⟨m1, m2⟩ := HM1.out h3
      have h3' : (x == 3) = true := by simpa using h3
      obtain ⟨z, hMz⟩ : ∃ z, M = [z] := by
        have := HLEN.out
        match M, this with
        | [z], _ => exact ⟨z, rfl⟩
        | [], h => exact absurd h (by simp; omega)
        | _ :: _ :: _, h => exact absurd h (by simp; omega)
      cases hg : gok (b.drop k) with
      | false =>
        have P := Lib.hid (HUPN.out i (HGN.out hg) (by omega))
        have HGG := Lib.hid hg
        clear hg h3 m1 m2 hMz
        trace "D"; go_wp2_with fail
        refine (GDk.out _).mono ?_
        rintro e w1 ⟨rfl, rfl⟩
        rw [HGG.out]
        trace "D1"; go_wp2_with fail
        have HB3 := Lib.hid (st3 HS.out.br (.int .i64 0) (.slice none 0 0) (.string ⟨#[]⟩))
        have hs3 := (HS.out.since).out' (out3 wr w.heap.size (.int .i64 0) (.slice none 0 0) (.string ⟨#[]⟩)) (fun k hk => by (have : k = w.heap.size := by simpa using hk); omega)
        generalize (((wr.setCell ⟨w.heap.size, 0, none⟩ (.int .i64 0)).setCell ⟨w.heap.size, 1, none⟩ (.slice none 0 0)).setCell ⟨w.heap.size, 2, none⟩ (.string ⟨#[]⟩)) = w3 at *
        have kc0 : w3.cell? ⟨w.heap.size, 0, none⟩ = some (.int .i64 0) := HB3.out.cell 0
        have kc1 : w3.cell? ⟨w.heap.size, 1, none⟩ = some (.slice none 0 0) := HB3.out.cell 1
        have kc2 : w3.cell? ⟨w.heap.size, 2, none⟩ = some (.string ⟨#[]⟩) := HB3.out.cell 2
        refine bodyPost_ret (v := .tuple #[.agg #[.int .i64 0, .slice none 0 0, .string ⟨#[]⟩], .int .i64 0, .bool false]) (by simp [results, Tryd.results44, go_sem, kc0, kc1, kc2]) rfl ⟨⟨frm0, none, 0⟩, 0, false, by rfl, hs3, frm0_in _, by rw [P.out]; rfl, fun _ => ⟨rfl, rfl⟩, newA_nil _⟩
      | true =>
        have HU2 := Lib.hid (HG.out hg)
        have HGG := Lib.hid hg
        obtain ⟨l, rfl⟩ : ∃ l : Nat, V = l := ⟨V.toNat, by omega⟩
        have HNO2 := Lib.hid (fun hx => HNO.out (M ++ [(l : Int)]) k2 h3 (by have := HU2.out; rw [m1] at this; exact this) hx)
        have HYES2 := Lib.hid (fun hx => HYES.out (M ++ [(l : Int)]) k2 h3 (by have := HU2.out; rw [m1] at this; exact this) hx)
        rw [hMz] at HNO2 HYES2
        simp only [show ith ([z] ++ [(l : Int)]) 1 = (l : Int) from rfl, show ith ([z] ++ [(l : Int)]) 0 = z from rfl, Int.toNat_natCast] at HNO2 HYES2
        rw [← hMz] at HYES2
        have HX3 := Lib.hid h3
        have hkl : (k2 : Int) + (l : Int) = ((k2 + l : Nat) : Int) := by omega
        have hkn2 : (k2 : Int) ≤ (s.size : Int) := by have := HSZ.out; omega
        clear hg h3 m1 m2 hMz
        by_cases h20 : 20 < l
        · have h20' : (20 : Int) < (l : Int) := by omega
          have P := Lib.hid (HNO2.out (by omega))
          trace "E"; go_wp2_with fail
          refine (GDk.out _).mono ?_
          rintro e w1 ⟨rfl, rfl⟩
          rw [HGG.out]
          trace "E1"; go_wp2_with fail
          have HB3 := Lib.hid (st3 HS.out.br (.int .i64 0) (.slice none 0 0) (.string ⟨#[]⟩))
          have hs3 := (HS.out.since).out' (out3 wr w.heap.size (.int .i64 0) (.slice none 0 0) (.string ⟨#[]⟩)) (fun k hk => by (have : k = w.heap.size := by simpa using hk); omega)
          generalize (((wr.setCell ⟨w.heap.size, 0, none⟩ (.int .i64 0)).setCell ⟨w.heap.size, 1, none⟩ (.slice none 0 0)).setCell ⟨w.heap.size, 2, none⟩ (.string ⟨#[]⟩)) = w3 at *
          have kc0 : w3.cell? ⟨w.heap.size, 0, none⟩ = some (.int .i64 0) := HB3.out.cell 0
          have kc1 : w3.cell? ⟨w.heap.size, 1, none⟩ = some (.slice none 0 0) := HB3.out.cell 1
          have kc2 : w3.cell? ⟨w.heap.size, 2, none⟩ = some (.string ⟨#[]⟩) := HB3.out.cell 2
          refine bodyPost_ret (v := .tuple #[.agg #[.int .i64 0, .slice none 0 0, .string ⟨#[]⟩], .int .i64 0, .bool false]) (by simp [results, Tryd.results44, go_sem, kc0, kc1, kc2]) rfl ⟨⟨frm0, none, 0⟩, 0, false, by rfl, hs3, frm0_in _, by rw [P.out]; rfl, fun _ => ⟨rfl, rfl⟩, newA_nil _⟩
        have h20' : decide ((20 : Int) < (l : Int)) = false := by simp; omega
        obtain ⟨k5, hk5⟩ : ∃ k5, k2 + l = k5 := ⟨_, rfl⟩
        have HDT2 := Lib.hid (HDT.out k2 l)
        rw [hk5] at hkl HYES2 HDT2
        have HK5 := Lib.hid hk5
        have hl20 : l ≤ 20 := by omega
        have hk6 : k2 ≤ k5 := by omega
        clear hk5 h20
        by_cases hfar : s.size < k5
        · have hfar' : (s.size : Int) < (k5 : Int) := by omega
          have P := Lib.hid (HNO2.out (fun h => by have := HSZ.out; omega))
          trace "G"; go_wp2_with fail
          refine (GDk.out _).mono ?_
          rintro e w1 ⟨rfl, rfl⟩
          rw [HGG.out]
          trace "G1"; go_wp2_with fail
          have HB3 := Lib.hid (st3 HS.out.br (.int .i64 0) (.slice none 0 0) (.string ⟨#[]⟩))
          have hs3 := (HS.out.since).out' (out3 wr w.heap.size (.int .i64 0) (.slice none 0 0) (.string ⟨#[]⟩)) (fun k hk => by (have : k = w.heap.size := by simpa using hk); omega)
          generalize (((wr.setCell ⟨w.heap.size, 0, none⟩ (.int .i64 0)).setCell ⟨w.heap.size, 1, none⟩ (.slice none 0 0)).setCell ⟨w.heap.size, 2, none⟩ (.string ⟨#[]⟩)) = w3 at *
          have kc0 : w3.cell? ⟨w.heap.size, 0, none⟩ = some (.int .i64 0) := HB3.out.cell 0
          have kc1 : w3.cell? ⟨w.heap.size, 1, none⟩ = some (.slice none 0 0) := HB3.out.cell 1
          have kc2 : w3.cell? ⟨w.heap.size, 2, none⟩ = some (.string ⟨#[]⟩) := HB3.out.cell 2
          refine bodyPost_ret (v := .tuple #[.agg #[.int .i64 0, .slice none 0 0, .string ⟨#[]⟩], .int .i64 0, .bool false]) (by simp [results, Tryd.results44, go_sem, kc0, kc1, kc2]) rfl ⟨⟨frm0, none, 0⟩, 0, false, by rfl, hs3, frm0_in _, by rw [P.out]; rfl, fun _ => ⟨rfl, rfl⟩, newA_nil _⟩
        have hfar' : decide ((s.size : Int) < (k5 : Int)) = false := by simp; omega
        have hfr2 : (k5 : Int) ≤ (s.size : Int) := by omega
        have hk68 : (k2 : Int) ≤ (k5 : Int) := by omega
        have P0 := HYES2.out (by have := HSZ.out; omega)
        rw [HDT2.out, ← HX3.out] at P0
        have P := Lib.hid P0
        clear hfar P0
        trace "H"; go_wp2_with fail
        refine (GDk.out _).mono ?_
        rintro e w1 ⟨rfl, rfl⟩
        rw [HGG.out]
        trace "H1"; go_wp2_with fail
        have HQB := Lib.hid (HS.out.br.far (p := ⟨w.heap.size + 1, 2, none⟩) (by simp) (.string (s.extract k2 k5)))
        have HQS := Lib.hid (HS.out.since.set (p := ⟨w.heap.size + 1, 2, none⟩) (by simp) (.string (s.extract k2 k5)))
        have HQL := Lib.hid (HS.out.ls.kept ((Out.refl wr [w.heap.size + 1]).put (p := ⟨w.heap.size + 1, 2, none⟩) (Or.inl (by simp)) (.string (s.extract k2 k5))) (fun k hk hk2 => HS.out.ls.apart HS.out.bl (by decide) (by rw [List.mem_singleton.1 hk2] at hk; exact hk)))
        generalize wr.setCell ⟨w.heap.size + 1, 2, none⟩ (.string (s.extract k2 k5)) = wq at *
        have HB3 := Lib.hid (st3 HQB.out (.int .i64 x) (.slice A' i c') (.string (s.extract k2 k5)))
        have HO3 := Lib.hid (out3 wq w.heap.size (.int .i64 x) (.slice A' i c') (.string (s.extract k2 k5)))
        have hs3 := (HQS.out).out' HO3.out (fun k hk => by (have : k = w.heap.size := by simpa using hk); omega)
        generalize (((wq.setCell ⟨w.heap.size, 0, none⟩ (.int .i64 x)).setCell ⟨w.heap.size, 1, none⟩ (.slice A' i c')).setCell ⟨w.heap.size, 2, none⟩ (.string (s.extract k2 k5))) = w3 at *
        have kc0 : w3.cell? ⟨w.heap.size, 0, none⟩ = some (.int .i64 x) := HB3.out.cell 0
        have kc1 : w3.cell? ⟨w.heap.size, 1, none⟩ = some (.slice A' i c') := HB3.out.cell 1
        have kc2 : w3.cell? ⟨w.heap.size, 2, none⟩ = some (.string (s.extract k2 k5)) := HB3.out.cell 2
        have hE := (readF_inv P.out).1
        refine bodyPost_ret (v := .tuple #[.agg #[.int .i64 x, .slice A' i c', .string (s.extract k2 k5)], .int .i64 ((k5 : Nat) : Int), .bool true]) (by simp [results, Tryd.results44, go_sem, kc0, kc1, kc2]) rfl ⟨⟨⟨x, M, (s.extract k2 k5)⟩, A', c'⟩, k5, true, ?_, hs3, frmIn_of (n := i) hE ((HQL.out).far HQB.out (by decide) HO3.out) ?_, by rw [P.out]; rfl, fun h => (by cases h), newA_of (HQL.out) HS.out.new⟩
        · unfold FrmV.agg
          simp only [HLEN.out]
        · exact (frmE_out hE).2.2.2.1
    have hlt' : (i : Int) < (m : Int) := by omega
    cases hg : gok (b.drop k) with
    | false =>
      have P := Lib.hid (HUPN.out i (HGN.out hg) (by
        by_cases h3 : x = 3
        · have := HM1.out h3; omega
        · have := HM3.out h3; omega))
      have HGG := Lib.hid hg
      clear hg
      trace "I"; go_wp2_with fail
      refine (GDk.out _).mono ?_
      rintro e w1 ⟨rfl, rfl⟩
      rw [HGG.out]
      trace "I1"; go_wp2_with fail
      have HB3 := Lib.hid (st3 HS.out.br (.int .i64 0) (.slice none 0 0) (.string ⟨#[]⟩))
      have hs3 := (HS.out.since).out' (out3 wr w.heap.size (.int .i64 0) (.slice none 0 0) (.string ⟨#[]⟩)) (fun k hk => by (have : k = w.heap.size := by simpa using hk); omega)
      generalize (((wr.setCell ⟨w.heap.size, 0, none⟩ (.int .i64 0)).setCell ⟨w.heap.size, 1, none⟩ (.slice none 0 0)).setCell ⟨w.heap.size, 2, none⟩ (.string ⟨#[]⟩)) = w3 at *
      have kc0 : w3.cell? ⟨w.heap.size, 0, none⟩ = some (.int .i64 0) := HB3.out.cell 0
      have kc1 : w3.cell? ⟨w.heap.size, 1, none⟩ = some (.slice none 0 0) := HB3.out.cell 1
      have kc2 : w3.cell? ⟨w.heap.size, 2, none⟩ = some (.string ⟨#[]⟩) := HB3.out.cell 2
      refine bodyPost_ret (v := .tuple #[.agg #[.int .i64 0, .slice none 0 0, .string ⟨#[]⟩], .int .i64 0, .bool false]) (by simp [results, Tryd.results44, go_sem, kc0, kc1, kc2]) rfl ⟨⟨frm0, none, 0⟩, 0, false, by rfl, hs3, frm0_in _, by rw [P.out]; rfl, fun _ => ⟨rfl, rfl⟩, newA_nil _⟩
    | true =>
      have HU2 := Lib.hid (HG.out hg)
      have HGG := Lib.hid hg
      have HML : Hid ((M.map intRow).length = i) := Lib.hid (by rw [List.length_map, HLEN.out])
      have HNEW : Hid (∀ j u, (flat [intRow V])[j]? = some u → (wr.alloc (.cells #[.int .i64 V] 3)).cell? ((⟨wr.heap.size, 0, none⟩ : Addr).add j) = some u) := Lib.hid (fun j u hj => by
        rw [addr_at, (BlockIs.fresh wr 3 #[.int .i64 V]).cell]
        match j, hj with
        | 0, hj => exact hj
        | _ + 1, hj => simp [intRow] at hj)
      have HX := Lib.hid (HS.out.alloc (.cells #[.int .i64 V] 3))
      clear hg
      trace "J"; go_wp2_with fail
      refine (GDk.out _).mono ?_
      rintro e w1 ⟨rfl, rfl⟩
      rw [HGG.out]
      trace "K"; go_wp2_with (at_builtin; (refine wpList_cat rfl _ _ 50 rfl 3 1 8 Tryd.elInt (.slice A' i c') (M.map intRow) rfl (HS.out.ls.alloc _) ⟨wr.heap.size, 0, none⟩ 1 1 [intRow V] rfl rfl (by intro e he; rw [List.mem_singleton.1 he]; exact intRow_one _) HNEW.out (by rw [HML.out]; simp; omega) ?_); intro A9 c9 w9 hl9 ho9 hb9; rw [HML.out] at hl9 hb9; (try rw [HML.out]); have HN9 := Lib.hid (HX.out.step (N := [V]) (m := 1) ho9 hl9 rfl hb9); obtain ⟨hs9, hB9, hR9⟩ := HX.out.after ho9; have f9 := hB9.free; have l9 := hB9.lt; have e91 : w9.cell? ⟨w.heap.size + 1, 1, none⟩ = some (.slice A' i c') := hB9.cell 1; clear hl9 ho9 hb9 hB9 hR9)
      trace "L"; go_roundw
      case rel => exact ⟨i + 1, k2, A9, c9, M ++ [V], by first | rfl | (simp only [hkk]), by go_num, by omega, hkn, HU2, HN9⟩
      case measure => simp [intOf]; omega

set_option maxHeartbeats 3200000 in
set_option maxRecDepth 100000 in
theorem rfread (s : ByteArray) (w : World) (hz : s.size ≤ 9223372036854775707) :
    Calls Tryd.prog 44 #[.string s] w fun e w' => RfPost s.data.toList w e w' := by
  by_cases hb : s.data.toList = [] ∨ bat s.data.toList 0 < 1 ∨ 8 < bat s.data.toList 0
  case neg =>
    by_cases h2 : bat s.data.toList 0 = 2
    · exact rfread_ack s w hz hb h2
    · exact rfread_num s w hz hb h2
  have P1 := Lib.hid (readF_out hb)
  by_cases h0 : s.size = 0
  · obtain ⟨e1, e2⟩ := str_empty h0
    clear h0 hb
    go_enter Tryd.func44, Tryd.ntmps44
    trace "A"; go_wp2_with fail
    refine bodyPost_ret (v := .tuple #[.agg #[.int .i64 0, .slice none 0 0, .string ⟨#[]⟩], .int .i64 0, .bool false]) (by simp [results, Tryd.results44, go_sem]) rfl ⟨⟨frm0, none, 0⟩, 0, false, by rfl, (by refine Since.out ?_; repeat (first | with_reducible assumption | with_reducible exact Since.refl _ | with_reducible refine Since.later ?_ (by with_reducible assumption) | with_reducible refine Since.only ?_ (by with_reducible assumption) (by first | assumption | omega | (simp; done) | (simp; omega)) | with_reducible refine Since.alloc ?_ _ | with_reducible refine Since.drewN ?_ _ | with_reducible refine Since.drew ?_ | with_reducible refine Since.set ?_ (by first | assumption | omega | (simp; done) | (simp; omega)) _)), frm0_in _, by rw [P1.out]; rfl, fun _ => ⟨rfl, rfl⟩, newA_nil _⟩
  have hpos : 0 < s.size := by omega
  obtain ⟨e1, e2⟩ := str_full h0
  have e0 := str_at s 0 hpos
  have hb' : bat s.data.toList 0 < 1 ∨ 8 < bat s.data.toList 0 := by
    rcases hb with h | h
    · exact absurd (show s.data.toList.length = 0 by rw [h]; rfl) (by show ¬ s.data.toList.length = 0; exact h0)
    · exact h
  obtain ⟨x, hx⟩ : ∃ x, bat s.data.toList 0 = x := ⟨_, rfl⟩
  rw [hx] at hb' e0
  clear hb hx
  by_cases hx1 : x < 1
  · clear hb'
    go_enter Tryd.func44, Tryd.ntmps44
    trace "B"; go_wp2_with fail
    refine bodyPost_ret (v := .tuple #[.agg #[.int .i64 0, .slice none 0 0, .string ⟨#[]⟩], .int .i64 0, .bool false]) (by simp [results, Tryd.results44, go_sem]) rfl ⟨⟨frm0, none, 0⟩, 0, false, by rfl, (by refine Since.out ?_; repeat (first | with_reducible assumption | with_reducible exact Since.refl _ | with_reducible refine Since.later ?_ (by with_reducible assumption) | with_reducible refine Since.only ?_ (by with_reducible assumption) (by first | assumption | omega | (simp; done) | (simp; omega)) | with_reducible refine Since.alloc ?_ _ | with_reducible refine Since.drewN ?_ _ | with_reducible refine Since.drew ?_ | with_reducible refine Since.set ?_ (by first | assumption | omega | (simp; done) | (simp; omega)) _)), frm0_in _, by rw [P1.out]; rfl, fun _ => ⟨rfl, rfl⟩, newA_nil _⟩
  have hx1' : decide (x < 1) = false := by simpa using hx1
  have hx8 : 8 < x := by omega
  clear hb' hx1
  go_enter Tryd.func44, Tryd.ntmps44
  trace "C"; go_wp2_with fail
  refine bodyPost_ret (v := .tuple #[.agg #[.int .i64 0, .slice none 0 0, .string ⟨#[]⟩], .int .i64 0, .bool false]) (by simp [results, Tryd.results44, go_sem]) rfl ⟨⟨frm0, none, 0⟩, 0, false, by rfl, (by refine Since.out ?_; repeat (first | with_reducible assumption | with_reducible exact Since.refl _ | with_reducible refine Since.later ?_ (by with_reducible assumption) | with_reducible refine Since.only ?_ (by with_reducible assumption) (by first | assumption | omega | (simp; done) | (simp; omega)) | with_reducible refine Since.alloc ?_ _ | with_reducible refine Since.drewN ?_ _ | with_reducible refine Since.drew ?_ | with_reducible refine Since.set ?_ (by first | assumption | omega | (simp; done) | (simp; omega)) _)), frm0_in _, by rw [P1.out]; rfl, fun _ => ⟨rfl, rfl⟩, newA_nil _⟩
end Go.Proofs.YthnolkbolmbkdaaDoor

/-! Contract of wireref2.Open. Condition: the string's length is an int. -/
namespace Go.Proofs.YthnolkbolmbkdaaDoor
open Go.ChangeShapes Go.WideShapes Go.ChangeAt Go.RowKit
set_option linter.unusedVariables false

/-- wireref1.Whole by one contract -/
theorem rwhole_any (cut b next : Int) (w : World) :
    Calls Tryd.prog 90 #[.int .i64 cut, .int .i64 b, .int .i64 next] w fun e w' => e = .returned (.tuple #[.int .i64 (wholeV cut b next), .bool (decide (wholeE cut b next = 0))]) ∧ w = w' := by
  by_cases h : WholeOk cut b next
  · rw [show wholeV cut b next = wholeN cut b next by unfold wholeV; rw [if_pos h], show wholeE cut b next = 0 by unfold wholeE; rw [if_pos h]]
    exact rwhole_yes cut b next h w
  · rw [show wholeV cut b next = 0 by unfold wholeV; rw [if_neg h], show wholeE cut b next = 1 by unfold wholeE; rw [if_neg h]]
    exact rwhole_no cut b next h w
abbrev RoPost (b : List UInt8) (next : Int) (w : World) (e : Ending) (w' : World) : Prop := ∃ (A : Option Addr) (n c : Nat) (Ms : List FrmV), e = .returned (.tuple #[.int .i64 (openN b next), .slice A n c, .int .i64 (openE b next)]) ∧ Below w.heap.size w w' ∧ FrmsIn w' (.slice A n c) Ms ∧ Ms.length = n ∧ Ms.map (·.f) = openL b next
theorem roPost_bad {b : List UInt8} {next k : Int} {w w' : World} {e : Ending} (p1 : openE b next = k) (hk : k ≠ 0) (he : e = .returned (.tuple #[.int .i64 0, .slice none 0 0, .int .i64 k])) (hw : Below w.heap.size w w') : RoPost b next w e w' := by
  obtain ⟨p2, p3⟩ := op_bad p1 hk
  exact ⟨none, 0, 0, [], by rw [he, p1, p2], hw, frms0 _, rfl, by rw [p3]; rfl⟩
theorem openHead {b : List UInt8} {next : Int} (h : MayBe next) (h2 : ¬ 200 < b.length) (h3 : ¬ (1 ≤ bat b 0 ∧ bat b 0 ≤ 4 ∧ bat b 0 < b.length)) : openE b next = 2 :=
  op_head h h2 (fun hh => h3 ⟨hh.2.1, hh.2.2.1, hh.2.2.2.1⟩)

set_option maxHeartbeats 6400000 in
set_option maxRecDepth 100000 in
theorem ropen (s : ByteArray) (next : Int) (w : World) (hz : s.size ≤ 9223372036854775707) :
    Calls Tryd.prog 49 #[.string s, .int .i64 next] w fun e w' => RoPost s.data.toList next w e w' := by
  have hsz : s.data.toList.length = s.size := rfl
  have FP := Lib.hid (fun k W => rfread (s.extract k s.size) W (Nat.le_trans (str_drop_size s k) hz))
  have HDR := Lib.hid (fun k => str_drop s k)
  have HAT := Lib.hid (fun k h => str_at s k h)
  obtain ⟨b, hb⟩ : ∃ b, s.data.toList = b := ⟨_, rfl⟩
  rw [hb] at hsz HAT ⊢
  have HDB : Hid (∀ k, (s.extract k s.size).data.toList = b.drop k) := Lib.hid (fun k => by rw [HDR.out, hb])
  have HSZ := Lib.hid hsz
  clear hb HDR
  by_cases hm : MayBe next
  case neg =>
    have P1 := Lib.hid (op_may (b := b) hm)
    have hmb := Lib.hid (mayB_not hm)
    clear hm hsz
    go_enter Tryd.func49, Tryd.ntmps49
    go_wp2_with fail
    refine (rmay_any next _).mono ?_
    rintro e w1 ⟨rfl, rfl⟩
    rw [hmb.out]
    trace "A"; go_wp2_with fail
    go_ret3
    exact roPost_bad P1.out (by decide) rfl (Below.refl _ _)
  have HM := Lib.hid hm
  have hmb := Lib.hid (mayB_iff.2 hm)
  clear hm
  by_cases h200 : 200 < s.size
  · have P1 := Lib.hid (op_big (b := b) HM.out (by omega))
    have h200' : (200 : Int) < (s.size : Int) := by omega
    clear hsz
    go_enter Tryd.func49, Tryd.ntmps49
    go_wp2_with fail
    refine (rmay_any next _).mono ?_
    rintro e w1 ⟨rfl, rfl⟩
    rw [hmb.out]
    trace "B"; go_wp2_with fail
    go_ret3
    exact roPost_bad P1.out (by decide) rfl (Below.refl _ _)
  have h200' : decide ((200 : Int) < (s.size : Int)) = false := by simp; omega
  have HB2 : Hid (¬ 200 < b.length) := Lib.hid (by omega)
  have hs200 : s.size ≤ 200 := by omega
  clear h200
  by_cases h0 : s.size = 0
  · obtain ⟨e1, e2⟩ := str_empty h0
    have P1 := Lib.hid (openHead (b := b) HM.out HB2.out (fun hh => by omega))
    clear h0 hsz
    go_enter Tryd.func49, Tryd.ntmps49
    go_wp2_with fail
    refine (rmay_any next _).mono ?_
    rintro e w1 ⟨rfl, rfl⟩
    rw [hmb.out]
    trace "C"; go_wp2_with fail
    go_ret3
    exact roPost_bad P1.out (by decide) rfl (Below.refl _ _)
  obtain ⟨e1, e2⟩ := str_full h0
  have hpos : 0 < s.size := by omega
  have e0 := HAT.out 0 hpos
  obtain ⟨y0, y1⟩ := bat_bounds b 0
  have HOH := Lib.hid (fun h3 => openHead (b := b) HM.out HB2.out h3)
  have HOP := Lib.hid (fun (h4 : ¬ WholeOk (cutOf b (bat b 0)) (bat b 0) next) => op_head (b := b) HM.out HB2.out (fun hh => h4 hh.2.2.2.2))
  have HHY : Hid (1 ≤ bat b 0 → bat b 0 ≤ 4 → bat b 0 < b.length → WholeOk (cutOf b (bat b 0)) (bat b 0) next → HeadOk b next) := Lib.hid (fun a1 a2 a3 a4 => ⟨fun hh => by rw [hh] at hsz; simp at hsz; omega, a1, a2, a3, a4⟩)
  have HOSS := Lib.hid (fun hh => fun L p h hx => op_some (b := b) HM.out HB2.out hh (opF_some (L := L) (p := p) h hx))
  have HONN := Lib.hid (fun hh => fun h => op_none (b := b) HM.out HB2.out hh (opF_none h))
  have HOFF := Lib.hid (fun hh => fun L p h hx => op_none (b := b) HM.out HB2.out hh (opF_few (L := L) (p := p) h hx))
  have HCO := Lib.hid (fun (m : Nat) (a1 : 1 ≤ m) (a2 : m ≤ 4) => cutU_of b a1 a2)
  have HCB := Lib.hid (cutU_bounds b)
  have HBB := Lib.hid (bat_bounds b)
  obtain ⟨x, hx⟩ : ∃ x, bat b 0 = x := ⟨_, rfl⟩
  rw [hx] at e0 y0 y1 HOH HOP HHY HOSS HONN HOFF
  have hwrap : IntKind.i64.wrap x = x := by simp [IntKind.wrap, IntKind.bits, IntKind.signed]; omega
  by_cases hx1 : x < 1
  · have P1 := Lib.hid (HOH.out (by omega))
    clear hx h0 hsz
    go_enter Tryd.func49, Tryd.ntmps49
    go_wp2_with fail
    refine (rmay_any next _).mono ?_
    rintro e w1 ⟨rfl, rfl⟩
    rw [hmb.out]
    trace "D"; go_wp2_with fail
    go_ret3
    exact roPost_bad P1.out (by decide) rfl (Below.refl _ _)
  have hx1' : decide (x < 1) = false := by simpa using hx1
  by_cases hx4 : 4 < x
  · have P1 := Lib.hid (HOH.out (by omega))
    clear hx h0 hsz hx1
    go_enter Tryd.func49, Tryd.ntmps49
    go_wp2_with fail
    refine (rmay_any next _).mono ?_
    rintro e w1 ⟨rfl, rfl⟩
    rw [hmb.out]
    trace "E"; go_wp2_with fail
    go_ret3
    exact roPost_bad P1.out (by decide) rfl (Below.refl _ _)
  have hx4' : decide (4 < x) = false := by simpa using hx4
  have hg1 : ¬ (x < 1 ∨ 4 < x) := by omega
  by_cases hlen : (s.size : Int) ≤ x
  · have P1 := Lib.hid (HOH.out (by have := HSZ.out; omega))
    clear hx h0 hsz hx1 hx4
    go_enter Tryd.func49, Tryd.ntmps49
    go_wp2_with fail
    refine (rmay_any next _).mono ?_
    rintro e w1 ⟨rfl, rfl⟩
    rw [hmb.out]
    trace "F"; go_wp2_with fail
    go_ret3
    exact roPost_bad P1.out (by decide) rfl (Below.refl _ _)
  have hlen' : decide ((s.size : Int) ≤ x) = false := by simpa using hlen
  have hg2 : ¬ ((x < 1 ∨ 4 < x) ∨ (s.size : Int) ≤ x) := by omega
  obtain ⟨m, rfl⟩ : ∃ m : Nat, x = m := ⟨x.toNat, by omega⟩
  have hm1 : 1 ≤ m := by omega
  have hm4 : m ≤ 4 := by omega
  have hml : m < s.size := by omega
  have HHY2 := Lib.hid (HHY.out (by omega) (by omega) (by omega))
  clear hx h0 hsz hx1 hx4 hlen HHY HOH
  go_enter Tryd.func49, Tryd.ntmps49
  go_wp2_with fail
  refine (rmay_any next _).mono ?_
  rintro e w1 ⟨rfl, rfl⟩
  rw [hmb.out]
  trace "G"; go_wp2_with fail
  obtain ⟨wo, rfl⟩ : ∃ wo : World, wo = w := ⟨_, rfl⟩
  go_loopw [9, 10] (fun s9 s10 wr => ∃ j : Nat, s10 = .int .i64 ((j + 1 : Nat) : Int) ∧ j ≤ m ∧ s9 = .int .i64 (cutU b j) ∧ wr = wo) (fun _ s10 _ => m + 1 - (intOf s10).toNat)
  case atStart => exact ⟨0, rfl, Nat.zero_le _, rfl, rfl⟩
  case round =>
    obtain ⟨j, rfl, hj, rfl, rfl⟩ := hrel
    by_cases hjm : j < m
    case neg =>
      obtain rfl : j = m := by omega
      have hf : decide (((j + 1 : Nat) : Int) ≤ (j : Int)) = false := by simp; omega
      trace "H"; go_wp2_with fail
      refine (rwhole_any (cutU b j) j next _).mono ?_
      rintro e w1 ⟨rfl, rfl⟩
      rw [HCO.out j hm1 hm4]
      by_cases hw : WholeOk (cutOf b j) j next
      case neg =>
        have P1 := Lib.hid (HOP.out hw)
        rw [show wholeE (cutOf b j) j next = 1 by unfold wholeE; rw [if_neg hw], show decide ((1 : Int) = 0) = false by decide]
        clear hw
        generalize wholeV (cutOf b j) j next = W at *
        trace "I"; go_wp2_with fail
        go_ret3
        exact roPost_bad P1.out (by decide) rfl (Below.refl _ _)
      have HH := Lib.hid (HHY2.out hw)
      rw [show wholeE (cutOf b j) j next = 0 by unfold wholeE; rw [if_pos hw], show decide ((0 : Int) = 0) = true by decide, show wholeV (cutOf b j) j next = wholeN (cutOf b j) j next by unfold wholeV; rw [if_pos hw]]
      obtain ⟨k0, hk0⟩ : ∃ k0, (j : Int).toNat + 1 = k0 := ⟨_, rfl⟩
      have hk1 : 1 + (j : Int) = (k0 : Int) := by omega
      have hkb : k0 ≤ b.length := by have := HSZ.out; omega
      have HON := Lib.hid (HONN.out HH.out)
      have HOF := Lib.hid (HOFF.out HH.out)
      have HOS := Lib.hid (HOSS.out HH.out)
      rw [hk0] at HON HOF HOS
      have HST : Hid (∀ W, Since wr W → PsSt wr W b k0 0 k0 none 0 []) := Lib.hid (fun W hW => ⟨Lst.nil _ _ _, by simp, by simp [Value.ownBlock], hW, rfl, rfl, hkb, by omega⟩)
      generalize wholeN (cutOf b j) j next = N at *
      generalize cutOf b j = C at *
      have hov := HSZ.out
      clear hw hkb hk0 HONN HOFF HOSS HHY2 HOP
      trace "J"; go_wp2_with fail
      obtain ⟨w, rfl⟩ : ∃ w : World, w = wr := ⟨_, rfl⟩
      go_loopw [13, 14] (fun s13 s14 wr => ∃ (i p : Nat) (A : Option Addr) (c : Nat) (Ms : List FrmV), s13 = .int .i64 p ∧ s14 = .slice A i c ∧ p ≤ s.size ∧ Hid (PsSt w wr b k0 i p A c Ms)) (fun s13 _ _ => s.size - (intOf s13).toNat)
      case atStart => exact ⟨0, k0, none, 0, [], by first | rfl | rw [hk1], rfl, by have := (HST.out w (Since.refl w)).le; omega, Lib.hid (HST.out w (Since.refl w))⟩
      case round =>
        obtain ⟨i, p, A, c, Ms, rfl, rfl, hp, HS⟩ := hrel
        have hs := Lib.hid HS.out.since
        have HML := Lib.hid HS.out.len
        by_cases hlt : p < s.size
        case neg =>
          have hf : decide ((p : Int) < (s.size : Int)) = false := by simp; omega
          have hup : rdFs b k0 b.length = some (Ms.map (·.f), p) := rdFs_end HS.out.up (by have := HSZ.out; omega) _ (by have := HS.out.ip; have := HS.out.le; omega)
          have hmm : (Ms.map (·.f)).length = i := by rw [List.length_map, HML.out]
          by_cases h0 : i = 0
          · subst h0
            have P1 := Lib.hid (HOF.out _ _ hup (Or.inl (List.length_eq_zero_iff.1 hmm)))
            clear hup hmm
            trace "K"; go_wp2_with fail
            go_ret3
            exact roPost_bad P1.out (by decide) rfl hs.out
          have h0' : ((i : Int) == 0) = false := by rw [beq_eq_false_iff_ne]; omega
          by_cases h12 : 12 < i
          · have P1 := Lib.hid (HOF.out _ _ hup (Or.inr (by rw [hmm]; exact h12)))
            have h12' : (12 : Int) < (i : Int) := by omega
            clear hup hmm h0
            trace "L"; go_wp2_with fail
            go_ret3
            exact roPost_bad P1.out (by decide) rfl hs.out
          obtain ⟨p1, p2, p3⟩ := HOS.out _ _ hup (fun hx => by
            rcases hx with hx | hx
            · have := congrArg List.length hx; rw [hmm] at this; exact h0 this
            · rw [hmm] at hx; exact h12 hx)
          have P1 := Lib.hid p1
          have P2 := Lib.hid p2
          have P3 := Lib.hid p3
          have h12' : decide ((12 : Int) < (i : Int)) = false := by simp; omega
          clear p1 p2 p3 hup hmm h0 h12
          trace "M"; go_wp2_with fail
          go_ret3
          exact ⟨A, i, c, Ms, by rw [P1.out, P2.out]; rfl, hs.out, ⟨fun g hg => (HS.out.each g hg).1, Rd.of_lst HS.out.ls⟩, HML.out, P3.out.symm⟩
        have hlt' : (p : Int) < (s.size : Int) := by omega
        have hp0 : (p : Int) ≤ (s.size : Int) := by omega
        have FPp := Lib.hid (FP.out p)
        rw [HDB.out] at FPp
        clear hlt
        trace "Q"; go_wp2_with fail
        refine (FPp.out _).mono ?_
        rintro e w2 ⟨g, n, ok, rfl, hb2, hg2, hrd, hno, hgn2⟩
        cases ok with
        | false =>
          simp only [Bool.false_eq_true, if_false] at hrd
          have P1 := Lib.hid (HON.out (rdFs_none (rdFs_no HS.out.up (by omega) hrd) _ (by have := HS.out.ip; omega)))
          have hs2 := hs.out.later hb2
          clear hrd hg2 hno hgn2 hb2
          trace "R"; go_wp2_with fail
          go_ret3
          exact roPost_bad P1.out (by decide) rfl (by refine Since.out ?_; repeat (first | with_reducible assumption | with_reducible exact Since.refl _ | with_reducible refine Since.later ?_ (by with_reducible assumption) | with_reducible refine Since.only ?_ (by with_reducible assumption) (by first | assumption | omega | (simp; done) | (simp; omega)) | with_reducible refine Since.alloc ?_ _ | with_reducible refine Since.drewN ?_ _ | with_reducible refine Since.drew ?_ | with_reducible refine Since.set ?_ (by first | assumption | omega | (simp; done) | (simp; omega)) _))
        | true =>
          simp only [if_true] at hrd
          have HRD := Lib.hid hrd
          obtain ⟨_, r2, r3, _⟩ := readF_inv hrd
          rw [List.length_drop] at r3
          have HLS := Lib.hid (((HS.out.ls.later hb2).alloc (.cells #[.int .i64 g.f.kind, .slice g.A g.f.nums.length g.cap, .string g.f.data] 82)).alloc (.cells #[.int .i64 g.f.kind, .slice g.A g.f.nums.length g.cap, .string g.f.data] 82))
          have HMR : Hid ((Ms.map frmRow).length = i) := Lib.hid (by rw [List.length_map, HML.out])
          have HSTEP := Lib.hid (fun q9 c9 w9 o1 o2 hl ho hq => HS.out.step (q9 := q9) (c9 := c9) (w9 := w9) (o1 := o1) (o2 := o2) hb2 hg2 hgn2 HRD.out (by omega) hl ho hq)
          have HBK := Lib.hid (BlockIs.fresh (w2.alloc (.cells #[.int .i64 g.f.kind, .slice g.A g.f.nums.length g.cap, .string g.f.data] 82)) 82 #[.int .i64 g.f.kind, .slice g.A g.f.nums.length g.cap, .string g.f.data])
          rw [World.size_alloc] at HBK
          obtain ⟨pn, hpn0⟩ : ∃ pn, p + n = pn := ⟨_, rfl⟩
          have hpn : (p : Int) + (n : Int) = (pn : Int) := by omega
          have hpn3 : p < pn := by omega
          have hpn4 : pn ≤ s.size := by omega
          rw [hpn0] at HSTEP
          clear hpn0
          have hi6 : i ≤ 200 := by have := HS.out.ip; omega
          clear hrd hg2 hno hgn2 hb2
          trace "S"; go_wp2_with (at_builtin; refine wpList_push rfl _ _ 94 rfl 82 3 48 Tryd.elFrm (.slice A i c) (Ms.map frmRow) rfl HLS.out (w2.heap.size + 1) 1 (frmRow g) rfl rfl (frmRow_one g).2 HBK.out (by rw [HMR.out]; omega) ?_; intro q9 cq w5 hl5 ho5 hq5 hlt5; rw [HMR.out] at hl5; (try rw [HMR.out]); have HN5 := Lib.hid (HSTEP.out q9 cq w5 _ _ hl5 ho5 hq5); clear hl5 ho5 hq5 hlt5)
          trace "T"; go_wp2_with fail
          go_roundw
          case rel => exact ⟨i + 1, pn, some ⟨q9, 0, none⟩, cq, Ms ++ [g], by first | rfl | (rw [hpn]), rfl, hpn4, HN5⟩
          case measure => simp [intOf]; omega
    have hjm' : (((j + 1 : Nat) : Int) ≤ (m : Int)) := by omega
    have cj := HAT.out (j + 1) (by omega)
    obtain ⟨y0, y1⟩ := HBB.out (j + 1)
    obtain ⟨z0, z1⟩ := HCB.out j
    have HCU : Hid (cutU b (j + 1) = 256 * cutU b j + bat b (j + 1)) := Lib.hid rfl
    have z2 : cutU b j < 16777216 := by
      have : j = 0 ∨ j = 1 ∨ j = 2 ∨ j = 3 := by omega
      rcases this with rfl | rfl | rfl | rfl <;> simp at z1 <;> omega
    clear z1
    have hjs : ((j + 1 : Nat) : Int) < (s.size : Int) := by omega
    generalize bat b (j + 1) = y at *
    generalize cutU b j = c at *
    have hwy : IntKind.i64.wrap y = y := by simp [IntKind.wrap, IntKind.bits, IntKind.signed]; omega
    trace "P"; go_wp2_with fail
    go_roundw
    case rel => exact ⟨j + 1, by go_num, by omega, by rw [HCU.out], by first | rfl | trivial⟩
    case measure => simp [intOf]; omega
end Go.Proofs.YthnolkbolmbkdaaDoor
